/- Calls: sound. -/
import Derived.Test.YtmiahmpobpokmaaVk
namespace Go.Vai
open Go.RowKit

variable {P : Program} {C : Fx} {w : World} {ρ : Nat → Option Nat} {Im : Nat → Prop} {M : Str} {E : Env} {σ : Store} {a : Act}

mutual
/-- Nothing in it lies elsewhere. -/
def AV.flat : AV → Bool
  | .any => true
  | .v _ => true
  | .agg cs => AV.flatL cs
  | .sl _ es => es.isEmpty
  | .new _ _ es => AV.flatL es
  | .nptr _ _ es => AV.flatL es
  | .tup cs => AV.flatL cs
  | .clo _ cs => AV.flatL cs
  | _ => false
def AV.flatL : List AV → Bool
  | [] => true
  | c :: cs => AV.flat c && AV.flatL cs
end

theorem AV.flatL_iff (cs : List AV) : AV.flatL cs = true ↔ ∀ c ∈ cs, AV.flat c = true := by
  induction cs with
  | nil => simp [AV.flatL]
  | cons c cs ih => simp [AV.flatL, ih]

theorem IRep.flat {x : AV} {y : Value} (h : IRep w Im x y) (hf : x.flat = true) (w' : World) (Im' : Nat → Prop) : IRep w' Im' x y := by
  induction h with
  | any y => exact .any y
  | v x => exact .v x
  | agg cs ys hl h1 _ ih => exact .agg cs ys hl h1 fun j c y hc hy => ih j c y hc hy ((AV.flatL_iff cs).1 hf c (List.mem_of_getElem? hc))
  | slnil sz a cap => exact .slnil sz a cap
  | sl sz es b o cap f hIm hcap hsz hcc _ _ =>
    have : es = [] := by simpa [AV.flat] using hf
    subst this; exact .slnil ..
  | pt => simp [AV.flat] at hf
  | tup vs ys hl _ ih => exact .tup vs ys hl fun j c y hc hy => ih j c y hc hy ((AV.flatL_iff vs).1 hf c (List.mem_of_getElem? hc))
  | clo g caps ys hl _ ih => exact .clo g caps ys hl fun j c y hc hy => ih j c y hc hy ((AV.flatL_iff caps).1 hf c (List.mem_of_getElem? hc))
  | yld l => exact .yld l
  | mpnil => exact .mpnil
  | mp => simp [AV.flat] at hf

theorem IRep.nameless {x : AV} {y : Value} (h : IRep w Im x y) (id : Nat) : ¬ Names x id := by
  induction h with
  | agg cs ys hl _ _ ih => intro hn; cases hn with | agg _ c _ hc hn =>
      obtain ⟨j, hj⟩ := List.mem_iff_getElem?.1 hc
      have hlt := (List.getElem?_eq_some_iff.1 hj).1
      exact ih j c _ hj (List.getElem?_eq_getElem (hl ▸ hlt)) hn
  | tup cs ys hl _ ih => intro hn; cases hn with | tup _ c _ hc hn =>
      obtain ⟨j, hj⟩ := List.mem_iff_getElem?.1 hc
      have hlt := (List.getElem?_eq_some_iff.1 hj).1
      exact ih j c _ hj (List.getElem?_eq_getElem (hl ▸ hlt)) hn
  | clo g cs ys hl _ ih => intro hn; cases hn with | clo _ _ c _ hc hn =>
      obtain ⟨j, hj⟩ := List.mem_iff_getElem?.1 hc
      have hlt := (List.getElem?_eq_some_iff.1 hj).1
      exact ih j c _ hj (List.getElem?_eq_getElem (hl ▸ hlt)) hn
  | _ => intro hn; cases hn

theorem names_cells {v : AV} {id : Nat} (h : Names v id) : ∃ c ∈ v.cells, Names c id := by
  cases v with
  | agg cs => cases h with | agg _ c _ hc h => exact ⟨c, hc, h⟩
  | _ => exact ⟨_, by simp [AV.cells], h⟩

theorem Content.nameless {e sz b : Nat} {es : List AV} (h : Content w Im e sz es b) (id : Nat) : ∀ x ∈ es, ¬ Names x id := by
  obtain ⟨cur, _, _, _, hc⟩ := h
  intro x hx hn
  obtain ⟨c, hcx, hn⟩ := names_cells hn
  obtain ⟨i, hi⟩ := List.mem_iff_getElem?.1 hx
  obtain ⟨j, hj⟩ := List.mem_iff_getElem?.1 hcx
  obtain ⟨v, _, _, hr⟩ := hc i x j c hi hj
  exact hr.nameless id hn

theorem flat_cells' {x c : AV} (h : x.flat = true) (hc : c ∈ x.cells) : c.flat = true := by
  cases x with
  | agg cs => exact (AV.flatL_iff cs).1 h c hc
  | _ => simp only [AV.cells, List.mem_singleton] at hc; subst hc; exact h

theorem Content.flat {Im' : Nat → Prop} {e sz b : Nat} {es : List AV} (h : Content w Im e sz es b) (hf : AV.flatL es = true) : Content w Im' e sz es b := by
  obtain ⟨cur, h1, h2, h3, hc⟩ := h
  exact ⟨cur, h1, h2, h3, fun i x j c hx hcx => by
    obtain ⟨v, hv, ho, hr⟩ := hc i x j c hx hcx
    exact ⟨v, hv, ho, hr.flat (flat_cells' ((AV.flatL_iff es).1 hf x (List.mem_of_getElem? hx)) (List.mem_of_getElem? hcx)) _ _⟩⟩

theorem R1.flat {Im' : Nat → Prop} {r : AV} {y : Value} {ob : Option Nat} (h : R1 w Im r y ob) (hf : r.flat = true) : R1 w Im' r y ob := by
  unfold R1 at h ⊢
  split
  · rcases h with h | ⟨b, cap, h0, h1, h2, h3, h4, h5, h6⟩
    · exact .inl h
    · exact .inr ⟨b, cap, h0, h1, h2, h3, h4, h5, h6.flat (by simpa [AV.flat] using hf)⟩
  · obtain ⟨b, h0, h1, h2, h3⟩ := h
    exact ⟨b, h0, h1, h2, h3.flat (by simpa [AV.flat] using hf)⟩
  · split at h
    · simp_all
    · simp_all
    · exact ⟨h.1, h.2.flat hf _ _⟩

theorem RL.flat {Im' : Nat → Prop} : ∀ {rs : List AV} {ys : List Value} {obs : List (Option Nat)}, RL w Im rs ys obs → AV.flatL rs = true → RL w Im' rs ys obs
  | [], [], [], _, _ => trivial
  | r :: rs, y :: ys, ob :: obs, h, hf => by
    simp only [AV.flatL, Bool.and_eq_true] at hf
    exact ⟨h.1.flat hf.1, RL.flat h.2 hf.2⟩

theorem Fresh.im {lo : Nat} {Im' : Nat → Prop} {obs : List (Option Nat)} (h : Fresh lo Im obs) (hI : ∀ b, lo ≤ b → Im' b → Im b) : Fresh lo Im' obs :=
  ⟨fun b hb => ⟨(h.1 b hb).1, fun hi => (h.1 b hb).2 (hI b (h.1 b hb).1 hi)⟩, h.2⟩

theorem RRep.flat {w' : World} {Im' : Nat → Prop} {r : AV} {y : Value} (h : RRep w w' Im r y) (hf : r.flat = true) (hlow : ∀ b, Im' b → b < w.heap.size) : RRep w w' Im' r y := by
  obtain ⟨I1, _, h2, h3⟩ := h
  refine ⟨fun b => Im' b ∨ (w.heap.size ≤ b ∧ I1 b ∧ b < w'.heap.size), fun b hb => .inl hb, fun b hb => ?_, ?_⟩
  · rcases hb with hb | ⟨h1, _, h2⟩
    · exact .inl hb
    · exact .inr ⟨h1, h2⟩
  have hI : ∀ b, w.heap.size ≤ b → (Im' b ∨ (w.heap.size ≤ b ∧ I1 b ∧ b < w'.heap.size)) → I1 b := fun b hle hb => by
    rcases hb with hb | ⟨_, hb, _⟩
    · have := hlow b hb; omega
    · exact hb
  revert h3
  split <;> intro h3
  · obtain ⟨ys, obs, h1, h4, h5⟩ := h3
    exact ⟨ys, obs, h1, h4.flat (by simpa [AV.flat] using hf), h5.im hI⟩
  · obtain ⟨ys, obs, h1, h4, h5⟩ := h3
    exact ⟨ys, obs, h1, h4.flat (by simpa [AV.flat] using hf), h5.im hI⟩
  · obtain ⟨ob, h1, h5⟩ := h3
    exact ⟨ob, h1.flat hf, h5.im hI⟩

theorem addS_append (σ : Store) (l l' : List (Nat × Blk)) : addS σ (l ++ l') = addS (addS σ l) l' := by
  induction l generalizing σ with
  | nil => rfl
  | cons x l ih => simp [addS, ih]

theorem filled_content {e sz b : Nat} {es : List AV} (h : Content w Im e sz es b) : ∃ cur, w.heap[b]? = some (.cells cur e (0, 0)) ∧ ∀ ρ, Filled w ρ Im ⟨e, sz, es⟩ cur := by
  obtain ⟨cur, h1, h2, h3, hc⟩ := h
  exact ⟨cur, h1, fun ρ => ⟨h2, h3, fun i x j c hx hcx => by obtain ⟨v, hv, ho, hr⟩ := hc i x j c hx hcx; exact ⟨v, hv, ho, .im _ _ hr⟩⟩⟩

/-- One result is taken over. -/
theorem imp1_sound {tm : Array Value} (hinv : Inv w ρ Im σ) (henv : EnvRep w ρ Im E tm) {id : Nat} (hcl : Clean id E σ) {r : AV} {y : Value} {ob : Option Nat} (h : R1 w Im r y ob)
    (hob : ∀ b, ob = some b → (∀ i, ρ i ≠ some b) ∧ ¬ Im b) :
    ∃ ρ', Inv w ρ' Im (addS σ (imp1 id r).2) ∧ EnvRep w ρ' Im E tm ∧ Rep w ρ' Im (imp1 id r).1 y ∧ (∀ i b, ρ' i = some b → ρ i = some b ∨ ob = some b) ∧ (∀ v z, Rep w ρ Im v z → ¬ Names v id → Rep w ρ' Im v z) ∧
      (∀ d, d ≠ id → Clean d E σ → Clean d E (addS σ (imp1 id r).2)) ∧ (∀ d, Names (imp1 id r).1 d → d = id) ∧ ∀ i, i ≠ id → ρ' i = ρ i := by
  have carry : ∀ ob v z, Rep w ρ Im v z → ¬ Names v id → Rep w (updR ρ id ob) Im v z := fun ob v z hr hn => hr.carry (fun _ _ => rfl) hn
  have env : ∀ ob, EnvRep w (updR ρ id ob) Im E tm := fun ob t y hy => carry ob _ _ (henv t y hy) (hcl.2.1 t)
  have keep : ∀ ob i, i ≠ id → updR ρ id ob i = ρ i := fun ob i e => updR_ne _ _ _ _ e
  have rng : ∀ ob i b, updR ρ id ob i = some b → ρ i = some b ∨ ob = some b := fun ob i b hi => by
    by_cases e : i = id
    · subst e; rw [updR_same] at hi; exact .inr hi
    · rw [updR_ne _ _ _ _ e] at hi; exact .inl hi
  cases r with
  | new e sz es =>
    rcases h with ⟨rfl, rfl, rfl⟩ | ⟨b, cap, hz, rfl, rfl, hle, hcap, ⟨cur, hb, hsz⟩, hcont⟩
    · exact ⟨updR ρ id none, hinv.fresh (Nat.le_refl _) (fun _ _ => rfl) hcl.1 hcl.2.2 (fun _ h => h) (fun _ h => .inl h) rfl, env none, .ownNil id sz (by simp), rng none, carry none, fun d hd hc => hc.add hd.symm (by simp), fun d hd => by cases hd; rfl, keep _⟩
    · obtain ⟨cur', hb', hf⟩ := filled_content hcont
      obtain ⟨h1, h2⟩ := hob b rfl
      exact ⟨updR ρ id (some b), hinv.adopt (Nat.le_refl _) (fun _ _ => rfl) hcl h1 h2 hz hb' (hf _), env _, .own id sz es.length b cap cur e (by simp) hle hcap hb hsz hz, rng _, carry _,
        fun d hd hc => hc.add hd.symm (fun x hx => hcont.nameless d x hx), fun d hd => by cases hd; rfl, keep _⟩
  | nptr e sz es =>
    obtain ⟨b, hz, rfl, rfl, hcont⟩ := h
    obtain ⟨cur', hb', hf⟩ := filled_content hcont
    obtain ⟨h1, h2⟩ := hob b rfl
    have hp : Rep w (updR ρ id (some b)) Im (.ptr id sz 0 0) (.pointer (some ⟨b, 0, none⟩)) := by
      have := Rep.ptr (w := w) (ρ := updR ρ id (some b)) (Im := Im) id sz 0 0 b (by simp) hz
      simpa using this
    exact ⟨updR ρ id (some b), hinv.adopt (Nat.le_refl _) (fun _ _ => rfl) hcl h1 h2 hz hb' (hf _), env _, hp, rng _, carry _,
        fun d hd hc => hc.add hd.symm (fun x hx => hcont.nameless d x hx), fun d hd => by cases hd; rfl, keep _⟩
  | _ =>
    obtain ⟨rfl, hr⟩ := h
    exact ⟨ρ, hinv, henv, .im _ _ hr, fun i b hi => .inl hi, fun _ _ hr _ => hr, fun d _ hc => hc, fun d hd => absurd hd (hr.nameless d), fun _ _ => rfl⟩

theorem impL_sound {tm : Array Value} : ∀ (rs : List AV) (ys : List Value) (obs : List (Option Nat)) (id : Nat) (ρ : Nat → Option Nat) (σ : Store), Inv w ρ Im σ → EnvRep w ρ Im E tm →
    (∀ k, k < rs.length → Clean (id + k) E σ) → RL w Im rs ys obs → (∀ b, some b ∈ obs → (∀ i, ρ i ≠ some b) ∧ ¬ Im b) → obs.Pairwise (fun x y => x = none ∨ x ≠ y) →
    ∃ ρ', Inv w ρ' Im (addS σ (impL id rs).2) ∧ EnvRep w ρ' Im E tm ∧ Reps w ρ' Im (impL id rs).1 ys ∧ (∀ i b, ρ' i = some b → ρ i = some b ∨ some b ∈ obs) ∧
      (∀ v z, Rep w ρ Im v z → (∀ k, k < rs.length → ¬ Names v (id + k)) → Rep w ρ' Im v z) ∧ ∀ i, (∀ k, k < rs.length → i ≠ id + k) → ρ' i = ρ i
  | [], [], [], id, ρ, σ, hinv, henv, _, _, _, _ => ⟨ρ, hinv, henv, ⟨rfl, fun j c y hc => by simp [impL] at hc⟩, fun i b hi => .inl hi, fun _ _ hr _ => hr, fun _ _ => rfl⟩
  | r :: rs, y :: ys, ob :: obs, id, ρ, σ, hinv, henv, hcl, h, hob, hp => by
    rw [List.pairwise_cons] at hp
    obtain ⟨ρ1, i1, e1, r1, g1, c1, k1, n1, p1⟩ := imp1_sound hinv henv (id := id) (hcl 0 (by simp)) h.1 (fun b hb => hob b (by simp [hb]))
    obtain ⟨ρ2, i2, e2, r2, g2, c2, p2⟩ := impL_sound rs ys obs (id + 1) ρ1 _ i1 e1 (fun k hk => by
        have := hcl (k + 1) (by simp; omega)
        rw [show id + 1 + k = id + (k + 1) from by omega]
        exact k1 _ (by omega) this) h.2 (fun b hb => ⟨fun i hi => by
          rcases g1 i b hi with h' | h'
          · exact (hob b (by simp [hb])).1 i h'
          · subst h'
            rcases hp.1 (some b) hb with h' | h'
            · cases h'
            · exact h' rfl, (hob b (by simp [hb])).2⟩) hp.2
    refine ⟨ρ2, ?_, e2, ⟨?_, fun j c z hc hz => ?_⟩, fun i b hi => ?_, fun v z hr hn => ?_, fun i hi => (p2 i fun k hk => by have := hi (k + 1) (by simp; omega); omega).trans (p1 i (by have := hi 0 (by simp); omega))⟩
    · simp only [impL, addS_append]; exact i2
    · simp only [impL, List.length_cons, r2.1]
    · simp only [impL] at hc
      cases j with
      | zero =>
        simp at hc hz; subst hc; subst hz
        exact c2 _ _ r1 fun k hk hn => by have := n1 _ hn; omega
      | succ j => exact r2.2 j c z (by simpa using hc) (by simpa using hz)
    · rcases g2 i b hi with h' | h'
      · rcases g1 i b h' with h'' | h''
        · exact .inl h''
        · exact .inr (by simp [h''])
      · exact .inr (by simp [h'])
    · exact c2 v z (c1 v z hr (hn 0 (by simp))) fun k hk hnn => hn (k + 1) (by simp; omega) (by rw [show id + (k + 1) = id + 1 + k from by omega]; exact hnn)

def rlen : AV → Nat
  | .tup rs => rs.length
  | .clo _ rs => rs.length
  | _ => 1

/-- **A call has come back.** -/
theorem Wit.back (hG : GStable C.G) (h : Wit C E σ a w ρ Im M) {w' : World} {r : AV} {y : Value} {id : Nat} (hpn : ∀ k, k < rlen r → C.pin (id + k) = none) (hcl : ∀ k, k < rlen r → Clean (id + k) E σ) (hx : Ext w (fun _ => False) w') (hr : RRep w w' Im r y)
    {dst : Option Nat} (hd : ∀ d, dst = some d → d < C.N) :
    ∃ ρ' Im', Wit C (updO E dst (imp id r).1) (addS σ (imp id r).2) (a.put dst y) w' ρ' Im' M := by
  obtain ⟨Im', hI1, hI2, hr⟩ := hr
  have hrho : ∀ i b, ρ i = some b → ¬ Im' b := fun i b hi hb => by
    rcases hI2 b hb with h' | ⟨h', _⟩
    · exact h.inv.apart i b hi h'
    · have := h.inv.lt hi; omega
  have rep : ∀ {v : AV} {z : Value}, Rep w ρ Im v z → Rep w' ρ Im' v z := fun {v z} hv =>
    Rep.mono (w := w) (w' := w') hI1 (fun b hb => hx.block b (h.inv.low b hb) _root_.id) hv fun i _ => ⟨rfl, fun b hi cur e hc => ⟨cur, by rw [hx.block b (h.inv.lt hi) _root_.id]; exact hc, rfl⟩⟩
  have hinv : Inv w' ρ Im' σ := ⟨h.inv.nil, fun i k b hk hi hz => by
      obtain ⟨ents, clk, hb, hl, hc⟩ := h.inv.map i k b hk hi hz
      exact ⟨ents, clk, by rw [hx.block b (h.inv.lt hi) _root_.id]; exact hb, hl, fun i m hm => by obtain ⟨v, hv, hr⟩ := hc i m hm; exact ⟨v, hv, rep hr⟩⟩, fun i k b hk hi hz => by
      obtain ⟨cur, hb, hl, hs, hc⟩ := h.inv.blk i k b hk hi hz
      exact ⟨cur, by rw [hx.block b (h.inv.lt hi) _root_.id]; exact hb, hl, hs, fun i e j c he hcc => by obtain ⟨v, hv, h1, hr⟩ := hc i e j c he hcc; exact ⟨v, hv, h1, rep hr⟩⟩,
    h.inv.inj, h.inv.live, hrho, fun b hb => by
      rcases hI2 b hb with h' | ⟨_, h'⟩
      · exact Nat.lt_of_lt_of_le (h.inv.low b h') hx.size
      · exact h'⟩
  have henv : EnvRep w' ρ Im' E a.tmps := fun t z hz => rep (h.env t z hz)
  have fin : ∀ (v : AV) (l : List (Nat × Blk)) (ρ' : Nat → Option Nat) (obs : List (Option Nat)), Fresh w.heap.size Im' obs → Inv w' ρ' Im' (addS σ l) → EnvRep w' ρ' Im' E a.tmps → Rep w' ρ' Im' v y →
      (∀ i b, ρ' i = some b → ρ i = some b ∨ some b ∈ obs) → (∀ i, C.pin i ≠ none → ρ' i = ρ i) → Wit C (updO E dst v) (addS σ l) (a.put dst y) w' ρ' Im' M := fun v l ρ' obs hf i2 e2 r2 g2 p2 =>
    h.step hG (hx.mono fun _ _ h => h.elim) i2 (e2.put r2) (put_size ..) (put_defers ..) (updO_ne hd) (fun i b hi => by
      rcases g2 i b hi with h' | h'
      · exact .inl ⟨i, h'⟩
      · exact .inr (hf.1 b h').1) (fun b hb => (hI2 b hb).imp_right fun h => h.1) (fun i b hb => (p2 i (by rw [hb]; simp)).trans (h.pin i b hb)) hI1
  have fresh : ∀ obs, Fresh w.heap.size Im' obs → ∀ b, some b ∈ obs → (∀ i, ρ i ≠ some b) ∧ ¬ Im' b := fun obs hf b hb => ⟨fun i hi => by have := h.inv.lt hi; have := (hf.1 b hb).1; omega, (hf.1 b hb).2⟩
  have one : ∀ ob, R1 w' Im' r y ob → Fresh w.heap.size Im' [ob] → Clean id E σ → C.pin id = none → imp id r = imp1 id r → ∃ ρ' Im', Wit C (updO E dst (imp id r).1) (addS σ (imp id r).2) (a.put dst y) w' ρ' Im' M := fun ob hr1 hf hc hpn he => by
    obtain ⟨ρ', i2, e2, r2, g2, _, _, _, p2⟩ := imp1_sound hinv henv (id := id) hc hr1 (fun b hb => fresh [ob] hf b (by simp [hb]))
    rw [he]
    exact ⟨ρ', Im', fin _ _ ρ' [ob] hf i2 e2 r2 (fun i b hi => by rcases g2 i b hi with h' | h'; exact .inl h'; exact .inr (by simp [h'])) (fun i hi => p2 i fun e => hi (by rw [e]; exact hpn))⟩
  cases r with
  | tup rs =>
    obtain ⟨ys, obs, rfl, hrl, hf⟩ := hr
    obtain ⟨ρ', i2, e2, r2, g2, _, p2⟩ := impL_sound rs ys obs id ρ σ hinv henv hcl hrl (fresh obs hf) hf.2
    exact ⟨ρ', Im', fin _ _ ρ' obs hf i2 e2 (.tup _ ys r2.1 r2.2) g2 (fun i hi => p2 i fun k hk e => hi (by rw [e]; exact hpn k hk))⟩
  | clo g rs =>
    obtain ⟨ys, obs, rfl, hrl, hf⟩ := hr
    obtain ⟨ρ', i2, e2, r2, g2, _, p2⟩ := impL_sound rs ys obs id ρ σ hinv henv hcl hrl (fresh obs hf) hf.2
    exact ⟨ρ', Im', fin _ _ ρ' obs hf i2 e2 (.clo g _ ys r2.1 r2.2) g2 (fun i hi => p2 i fun k hk e => hi (by rw [e]; exact hpn k hk))⟩
  | _ =>
    obtain ⟨ob, hr1, hf⟩ := hr
    exact one ob hr1 hf (by simpa using hcl 0 (by simp [rlen])) (by simpa using hpn 0 (by simp [rlen])) rfl

end Go.Vai

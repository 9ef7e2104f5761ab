/- A range over such a function: the statement. -/
import Derived.Test.YtmiahmpobpokmaaVv3
namespace Go.Vai
open Go.RowKit

variable {P : Program} {C : Fx} {w w' : World} {ρ : Nat → Option Nat} {Im : Nat → Prop} {M : Str} {E : Env} {σ : Store} {a : Act}

theorem range_sound {S : Sp} {f : Operand} {ps : Array Tmp} {as body : Code} {Q : Exit → Env → Store → Prop} (hrd : S.rd = false) (hlow : Operand.low S.N f = true) (hoA : codeOK S.P S.N as = true) (hoB : codeOK S.P S.N body = true)
    (hps : ∀ p ∈ ps.toList, p < S.N) {g : FuncId} {caps : List AV} (hf : ev E f = .clo g caps) (q nm0 : Nat → Bool) (b2 : Nat) (hqc : AV.namesL (fun i => !q i) caps = false)
    (hqs : ∀ id k, σ id = some k → q id = true → AV.namesL (fun i => !q i) k.es = false) (hqn : ∀ id, q id = true → nm0 id = false) (hnm : ∀ id, S.pin id = true → nm0 id = true)
    (hb2 : ∀ id, nm0 id = true → id / 16 < b2 ∨ b2 + 100000 ≤ id / 16) (xs : List (List AV)) (hlen : ∀ x ∈ xs, x.length = ps.size) (hs : SOK S.P g caps (only q σ) xs) (I : List (List AV) → Store → Prop) (h0 : I xs (killS q σ))
    (hround : ∀ x rest σ, I (x :: rest) σ → awp (spR S b2 nm0) as (thenQ (awp (spR S b2 nm0) body (rQ nm0 Q (fadeE nm0 E) (I rest))) failQ) (setPs (fadeE nm0 E) ps.toList x) σ)
    (hend : ∀ σ, I [] σ → Q .normal (fadeE nm0 E) σ) : semC S (.rangeFunc f ps as body) Q E σ := by
  intro C H n R hR a w hst
  obtain ⟨ρ, Im, M, hw⟩ := hst
  have hCr : C.rd = none := H.rdn hrd
  have hrdl : C.rdl = none := by unfold Fx.rdl; rw [hCr]; rfl
  have hbook : ∀ (a : Act) b, C.book a b ↔ stamp b ∈ a.defers := book_none hCr
  have hfr := ev_rep hw.env (x := f) (by rw [hw.size, ← H.N]; exact hlow)
  rw [hf] at hfr
  obtain ⟨cys, hfy, hcl, hcr⟩ := hfr.clo_inv
  -- the two blocks that are laid
  refine wpIn_rangeFunc fun fn _ => ?_
  let D := w.heap.size
  let r0 : Loop := { state := .ready, pending := none, fn := fn, tmps := a.tmps, params := ps, assign := as, body := body, defers := D }
  let w1 : World := (w.alloc (.deferred (some []))).alloc (.loop r0)
  let a1 : Act := { a with defers := [stamp D] ++ a.defers }
  have hround' : (FW C.rdl).round = none := by rw [hrdl]; rfl
  have hsz1 : w1.heap.size = D + 2 := by simp [w1, D]
  have hw1 : ∀ k, k < D → w1.heap[k]? = w.heap[k]? := fun k hk => by
    show ((w.alloc (.deferred (some []))).alloc (.loop r0)).heap[k]? = _
    rw [Below.heap_alloc _ _ _ (by simp; omega), Below.heap_alloc _ _ _ hk]
  have hDw : w1.heap[D]? = some (.deferred (some [])) := by
    show ((w.alloc (.deferred (some []))).alloc (.loop r0)).heap[D]? = _
    rw [Below.heap_alloc _ _ _ (by simp [D])]; exact World.alloc_heap_new w _
  have hLw : w1.heap[D + 1]? = some (.loop r0) := by
    have h1 := World.alloc_heap_new (w.alloc (.deferred (some []))) (.loop r0)
    have h2 : (w.alloc (.deferred (some []))).heap.size = D + 1 := by simp [D]
    rw [h2] at h1; exact h1
  have lowI : ∀ b, Im b → b < D := hw.inv.low
  have lowρ : ∀ id b, ρ id = some b → b < D := fun id b h => hw.inv.lt h
  have lowM : ∀ b, M.m b → b < D := fun b h => (hw.ms b h).1
  have lowB : ∀ b, C.book a b → b < D := fun b h => hw.bklt h
  have hext1 : Ext w (fun _ => False) w1 := ⟨rfl, rfl, rfl, by simp [w1]; omega, fun k hk _ => hw1 k hk⟩
  have hq0 : ∀ id, nm0 id = true → q id = false := fun id h => by
    cases hq : q id with
    | false => rfl
    | true => rw [hqn id hq] at h; cases h
  have hEN : fadeE nm0 E C.N = E C.N := fade_nameless hw.gh
  have hbk1 : ∀ b, C.book a1 b ↔ b = D ∨ C.book a b := fun b => by
    rw [hbook, hbook]; simp only [a1, List.cons_append, List.nil_append, List.mem_cons]
    exact ⟨fun h => h.imp_left stamp_inj, fun h => h.imp_left fun e => by rw [e]⟩
  have nD : stamp D ∉ a.defers := fun h => Nat.lt_irrefl D (lowB D ((hbook a D).2 h))
  -- the state in the loop
  have C1 : Core C (fadeE nm0 E) (killS q σ) a1 w1 (killR q ρ) Im M := by
    refine ⟨(hw.inv.kill q).carry (fun k hk => hw1 k (by
        rcases hk with ⟨id, hid⟩ | hk
        · exact lowρ id k (killR_some hid).2
        · exact lowI k hk)) (by omega), fun t y hy => ?_, hw.size, fun id b hi => hw.rng id b (killR_some hi).2, hw.im, fun p => by rw [hEN]; exact hw.gh p, ?_, hw.js, fun b hb => ?_, fun l r hr => (by rw [hCr] at hr; cases hr), ?_, fun d hd => ?_, fun b hb => ?_, fun id ob hp => ?_, hw.j0⟩
    · exact Rep.stay (w := w) (w' := w1) (fun _ h => h) (fun b hb => hw1 b (lowI b hb)) (hw.env t y hy).fade (fade_own nm0 (E t)) fun id hid => killR_of ρ (hq0 id (fade_names hid).1)
    · rw [hEN]
      exact H.G _ _ _ _ hw.g (fun k hk => hw1 k (by rcases hk with hk | hk; exact lowM k hk; exact lowI k (hw.js k hk))) (by omega) rfl rfl rfl
    · obtain ⟨h1, h2, h3, h4⟩ := hw.ms b hb
      exact ⟨by omega, fun id hid => h2 id (killR_some hid).2, h3, h4⟩
    · show (stamp D :: a.defers).Nodup
      exact List.nodup_cons.2 ⟨nD, hw.nodup⟩
    · rcases List.mem_cons.1 (show d ∈ stamp D :: a.defers from hd) with rfl | hd
      · exact ⟨D, rfl, hDw, hw.ext.size⟩
      · obtain ⟨D', e, hD', hle⟩ := hw.df d hd
        exact ⟨D', e, by rw [hw1 D' (lowB D' (.inr (e ▸ hd)))]; exact hD', hle⟩
    · rcases (hbk1 b).1 hb with rfl | hb
      · exact ⟨fun id hid => Nat.lt_irrefl _ (lowρ id _ (killR_some hid).2), fun h => Nat.lt_irrefl _ (lowI _ h), fun h => Nat.lt_irrefl _ (lowM _ h)⟩
      · obtain ⟨h1, h2, h3⟩ := hw.bk b hb
        exact ⟨fun id hid => h1 id (killR_some hid).2, h2, h3⟩
    · rw [killR_of ρ (hq0 id (hnm id (H.pin id ob hp)))]; exact hw.pin id ob hp
  have hE0 : ∀ t, (fadeE nm0 E t).ownB = false ∧ ∀ id, Names (fadeE nm0 E t) id → nm0 id = true := fun t => ⟨fade_own nm0 (E t), fun id h => (fade_names h).1⟩
  have hans := round_sound (C := C) (a := a1) (Im := Im) (Q := Q) H hCr hoA hoB hps hnm hb2 (I := I) hE0 hround (l := D + 1) (r0 := r0) ⟨rfl, rfl, rfl, rfl⟩ (Nat.le_trans hw.ext.size (Nat.le_succ D)) (wc := w1) (by have := hw.ext.size; omega) hw.im (by omega)
    (fun b hb => by rcases (hbk1 b).1 hb with rfl | hb; omega; have := lowB b hb; omega)
  have hstab : SStable fun xs s M' w => ∃ σ ρ Im M r, InLoop C Q I (fadeE nm0 E) a1 (D + 1) ps.size w1.heap.size r0 xs s M' w σ ρ Im M r := by
    rintro xs s g M' v v' ⟨σ', ρ', I', M2, r, h⟩ hb hsz ho ht hout
    have hI : ∀ b, I' b → M'.m b ∨ M'.j b := h.covI
    exact ⟨σ', ρ', I', M2, r, h.len, Nat.le_trans h.late hsz, h.core.carry H.G (fun k hk => hb k (by
      rcases hk with hk | hk | hk | hk
      · exact .inl (h.cov k (.inl hk))
      · exact hI k hk
      · exact .inl (h.cov k (.inr (.inl hk)))
      · exact .inl (h.cov k (.inr (.inr (.inr hk)))))) hsz ho ht hout, by rw [hb _ (.inl (h.cov _ (.inr (.inr (.inl rfl)))))]; exact h.lrec, h.same, h.lρ, h.lI, h.lM, h.lb, h.cov, h.covI, h.st⟩
  have hinq : Inv w1 (killR (fun i => !q i) ρ) Im (only q σ) := (hw.inv.only hqs).carry (fun k hk => hw1 k (by
    rcases hk with ⟨id, hid⟩ | hk
    · exact lowρ id k (killR_some hid).2
    · exact lowI k hk)) (by omega)
  have hrq0 : Reps w (killR (fun i => !q i) ρ) Im caps cys := Reps.only ⟨hcl, hcr⟩ hqc
  have hrq : Reps w1 (killR (fun i => !q i) ρ) Im caps cys := ⟨hrq0.1, fun j c y hc hy => Rep.mono (w := w) (w' := w1) (fun _ h => h) (fun b hb => hw1 b (lowI b hb)) (hrq0.2 j c y hc hy) fun i _ => ⟨rfl, fun b hi cur e hcc => ⟨cur, by rw [hw1 b (lowρ i b (killR_some hi).2)]; exact hcc, rfl⟩⟩⟩
  let M0 : Str := ⟨fun b => (∃ id, killR q ρ id = some b) ∨ M.m b ∨ b = D + 1 ∨ C.book a1 b, Im⟩
  have hM0 : ∀ b, M0.m b → b < w1.heap.size ∧ (∀ id, killR (fun i => !q i) ρ id ≠ some b) ∧ ¬ Im b := fun b hb => by
    rcases hb with ⟨id, hid⟩ | hb | hb | hb
    · obtain ⟨hp, hid⟩ := killR_some hid
      refine ⟨by have := lowρ id b hid; omega, fun id' hid' => ?_, fun hI => hw.inv.apart id b hid hI⟩
      obtain ⟨hp', hid'⟩ := killR_some hid'
      have := hw.inv.inj id id' b hid hid'
      subst this; simp [hp] at hp'
    · obtain ⟨h1, h2, h3, _⟩ := hw.ms b hb
      exact ⟨by have := lowM b hb; omega, fun id hid => h2 id (killR_some hid).2, h3⟩
    · subst hb
      exact ⟨by omega, fun id hid => by have := lowρ id _ (killR_some hid).2; omega, fun hI => by have := lowI _ hI; omega⟩
    · rcases (hbk1 b).1 hb with rfl | hb
      · exact ⟨by omega, fun id hid => Nat.lt_irrefl _ (lowρ id _ (killR_some hid).2), fun h => Nat.lt_irrefl _ (lowI _ h)⟩
      · obtain ⟨h1, h2, _⟩ := hw.bk b hb
        exact ⟨by have := lowB b hb; omega, fun id hid => h1 id (killR_some hid).2, h2⟩
  have hinit : InLoop C Q I (fadeE nm0 E) a1 (D + 1) ps.size w1.heap.size r0 xs false M0 w1 (killS q σ) (killR q ρ) Im M r0 := by
    refine ⟨hlen, Nat.le_refl _, C1, hLw, rfl, fun id hid => by have := lowρ id _ (killR_some hid).2; omega, fun hI => by have := lowI _ hI; omega, fun hm => by have := lowM _ hm; omega, fun hb => ?_, fun b hb => hb, fun b hb => .inr hb, .inl ⟨rfl, rfl, rfl, h0⟩⟩
    rcases (hbk1 _).1 hb with h | h
    · omega
    · have := lowB _ h; omega
  have hcall := hs.2 w1 Im (killR (fun i => !q i) ρ) cys (D + 1) _ M0 hstab hinq hrq hM0 (fun b hb => hb) hans ⟨_, _, _, _, _, hinit⟩
  refine ⟨D + 1, [stamp D], w1, { target := .fn (.func g) cys.toArray, args := #[.func (.yield (D + 1)) #[] #[]] }, w1, g, (.func (.yield (D + 1)) #[] #[] :: cys).toArray, w1, ?_, ?_, fun _ _ => trivial, ?_, fun h => by simp [FW] at h, ?_⟩
  · rw [hround']; exact run_enterLoop_outer fn a.tmps ps as body
  · have hc : a.eval (.const (.func (.yield (D + 1)) #[] #[])) = .func (.yield (D + 1)) #[] #[] := rfl
    simp [resolve, hfy, hc, Deferred.ofValue, Sem.run_bind]
  · have e1 : (#[.func (.yield (D + 1)) #[] #[]] ++ cys.toArray : Array Value) = (.func (.yield (D + 1)) #[] #[] :: cys).toArray := by apply Array.toList_inj.1; simp
    show (callFunc g (#[.func (.yield (D + 1)) #[] #[]] ++ cys.toArray)).run S.P w1 = _
    rw [e1]; exact hs.1 _ w1
  · refine calls_FW (hcall.mono ?_)
    rintro e w3 ⟨y, rest, s, M', rfl, hor, ⟨σ', ρ', I', M2, r, h⟩, hx⟩
    have hst : r.state ≠ .busy := by
      rcases h.st with ⟨_, h1, _⟩ | ⟨_, h1, _⟩ <;> rw [h1] <;> decide
    refine ⟨_, _, run_endLoop h.lrec hst, ?_⟩
    have hoth : ∀ k, k ≠ D + 1 → (w3.putObj (D + 1) (.loop { r with state := .exhausted })).heap[k]? = w3.heap[k]? := fun k hk => World.putObj_heap_other hk
    have C4 : Core C (fadeE nm0 E) σ' a1 (w3.putObj (D + 1) (.loop { r with state := .exhausted })) ρ' I' M2 := h.core.carry H.G (fun k hk => hoth k fun e => by
      rcases hk with ⟨id, hid⟩ | hk | hk | hk
      · exact h.lρ id (e ▸ hid)
      · exact h.lI (e ▸ hk)
      · exact h.lM (e ▸ hk)
      · exact h.lb (e ▸ hk)) (by simp) rfl rfl rfl
    have hfin : Ext C.w0 C.X0 (w3.putObj (D + 1) (.loop { r with state := .exhausted })) := by
      refine (hw.ext.trans hext1 fun b hb => hb.elim).trans (X := C.X0) (Y := fun b => C.X0 b ∨ C.w0.heap.size ≤ b) ?_ fun b hb => hb
      refine (hx.mono fun b hlt hb => ?_).trans (Y := fun b => b = D + 1) ⟨rfl, rfl, rfl, by simp, fun b _ hb => hoth b hb⟩ fun b hb => .inl (.inr (by subst hb; have := hw.ext.size; omega))
      rcases hb with ⟨id, hid⟩ | ⟨id, hid⟩ | hb | hb | hb
      · exact hw.rng id b (killR_some hid).2
      · exact hw.rng id b (killR_some hid).2
      · exact (hw.ms b hb).2.2.2
      · subst hb; have := hw.ext.size; exact .inr (by omega)
      · rcases (hbk1 b).1 hb with rfl | hb
        · exact .inr hw.ext.size
        · obtain ⟨D', e, _, hle⟩ := hw.df _ ((hbook a b).1 hb)
          rw [stamp_inj e]; exact .inr hle
    have st : St C (fadeE nm0 E) σ' a1 (w3.putObj (D + 1) (.loop { r with state := .exhausted })) := ⟨ρ', I', M2, C4.wit hfin⟩
    split
    · rename_i hpn
      rcases h.st with ⟨hs0, _, hp, hI⟩ | ⟨_, _, ⟨hp, hQ⟩ | ⟨i, hp, hQ⟩⟩
      · have hr : rest = [] := hor.resolve_right (by rw [hs0]; simp)
        subst hr
        exact hR .normal _ _ _ _ (hend σ' hI) st
      · rw [hpn] at hp; cases hp
      · rw [hpn] at hp; cases hp
    · rename_i c hpn
      rcases h.st with ⟨hs0, _, hp, hI⟩ | ⟨_, _, ⟨hp, hQ⟩ | ⟨i, hp, hQ⟩⟩
      · rw [hpn] at hp; cases hp
      · rw [hpn] at hp; cases hp; rw [hrdl]; exact wpIn_ret (hR .ret _ _ _ _ hQ st)
      · rw [hpn] at hp; cases hp; rw [hrdl]; exact wpIn_exit (hR (.exit i) _ _ _ _ hQ st)

end Go.Vai

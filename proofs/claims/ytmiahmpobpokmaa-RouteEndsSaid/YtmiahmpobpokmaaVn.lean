/- The text is sound: operations, regions in their order, control. -/
import Derived.Test.YtmiahmpobpokmaaVm
namespace Go.Vai
open Go.RowKit

section
variable {S : Sp} {C : Fx} {E : Env} {σ : Store} {a : Act} {w : World} {ρ : Nat → Option Nat} {Im : Nat → Prop} {M : Str}

theorem own_of (d k : Nat) (h : k < 16) : own d (16 * d + k) = true := by
  simp only [own, beq_iff_eq]; omega

theorem killed_clean (d : Nat) (E : Env) (σ : Store) : ∀ k, k < 16 → Clean (16 * d + k) (killE (own d) E) (killS (own d) σ) := fun k hk => clean_kill (own_of d k hk) E σ

/-- The names of an operation's own blocks are free: they have been struck, or nothing bears them. -/
theorem kd_clean (H : Holds S C) (h : Wit C E σ a w ρ Im M) (kd : Bool) (d : Nat) (hp : ∀ id b, C.pin id = some b → own d id = false) (hcl : kd = false → ∀ k, k < 16 → Clean (16 * d + k) E σ) :
    ∃ ρ', Wit C (kE kd d E) (kS kd d σ) a w ρ' Im M ∧ ∀ k, k < 16 → Clean (16 * d + k) (kE kd d E) (kS kd d σ) := by
  cases kd with
  | true => exact ⟨_, h.kill H.G (own d) hp, killed_clean d E σ⟩
  | false => exact ⟨ρ, h, hcl rfl⟩

theorem pin_none (H : Holds S C) {id : Nat} (h : S.pin id = false) : C.pin id = none := by
  cases hc : C.pin id with
  | none => rfl
  | some b => have := H.pin id b hc; rw [h] at this; cases this

theorem srcEls_mono {x : AV} {K K' : Nat → List AV → Prop} (hK : ∀ a b, K a b → K' a b) (h : srcEls σ x K) : srcEls σ x K' := by
  unfold srcEls at *
  split at h
  · exact hK _ _ h
  · obtain ⟨k, a, b, c, d⟩ := h; exact ⟨k, a, b, c, hK _ _ d⟩
  · exact h

theorem appV_mono {P : Program} {op : Op} {K K' : Nat → Nat → Nat → Blk → Prop} (hK : ∀ a b c d, K a b c d → K' a b c d) (h : appV P op E σ K) : appV P op E σ K' := by
  unfold appV at *
  split at h
  · split at h
    · obtain ⟨h1, e, h2, h3, h4, h5⟩ := h
      refine ⟨h1, e, h2, h3, h4, ?_⟩
      split at h5
      · obtain ⟨h6, k, h7, h8, h9, h10, h11⟩ := h5
        exact ⟨h6, k, h7, h8, h9, h10, srcEls_mono (fun _ _ hh => ⟨hh.1, hh.2.1, hh.2.2.1, hh.2.2.2.1, hK _ _ _ _ hh.2.2.2.2⟩) h11⟩
      · exact h5
    · exact h
  · exact h

theorem aop_sound (H : Holds S C) (h : Wit C E σ a w ρ Im M) {o : Oper} (hf : Oper.fits S.P S.N o = true) (kd bi : Bool)
    (hcl : kd = false → (cls S.P o.op o.type = 1 ∨ cls S.P o.op o.type = 2) → ∀ k, k < 16 → Clean (16 * (S.b + o.dst.getD 99999) + k) E σ) {K Kb : Env → Store → Prop} (hv : aop S kd bi o K Kb E σ)
    {n : Nat} {Kc : Act → World → Prop} {Q : Exit → Act → World → Prop} (hK : ∀ E' σ' a' w', K E' σ' → St C E' σ' a' w' → Kc a' w') (hKb : ∀ E' σ' a' w', Kb E' σ' → St C E' σ' a' w' → Kc a' w') : o.wpIn (FW C.rdl) n S.P a w Kc Q := by
  obtain ⟨hdst, hlow, hc9⟩ := fits_of hf
  have hdf := cls_defer hc9
  have hdst' : ∀ d, o.dst = some d → d < C.N := by rw [← H.N]; exact hdst
  have hdm : o.dst.getD 99999 < 100000 := by
    cases hd : o.dst with
    | none => simp
    | some d => exact Nat.lt_of_lt_of_le (hdst d hd) (Nat.le_trans H.big (by decide))
  unfold aop at hv
  split at hv
  · obtain ⟨v, hp, hk⟩ := hv
    obtain ⟨y, hr, hrep⟩ := pureV_sound h.inv h.env (by rw [h.size, ← H.N]; exact hlow) hp
    exact wpIn_value hdf hr (hK _ _ _ _ hk ⟨ρ, Im, M, h.put H.G hdst' hrep⟩)
  · rename_i hc
    obtain ⟨d, hd, v, bl, hn, hk⟩ := hv
    obtain ⟨ρ1, h1, hc1⟩ := kd_clean H h kd (S.b + d) (H.own (Nat.lt_of_lt_of_le (hdst d hd) (Nat.le_trans H.big (by decide)))) (fun e => by have := hcl e (.inl hc); rw [hd] at this; exact this)
    obtain ⟨y, w', ρ', hr, hw⟩ := newV_sound H.G h1 (H.free (Nat.lt_of_lt_of_le (hdst d hd) (Nat.le_trans H.big (by decide)))) (by simpa using hc1 0 (by omega)) (hc1 1 (by omega)) (hdst' d hd) hd (by rw [← H.N]; exact hlow) hn
    exact wpIn_value hdf hr (hK _ _ _ _ hk ⟨ρ', Im, M, hw⟩)
  · rename_i hc
    rcases hv with ⟨v, bl, hcall, hk⟩ | ⟨_, hy⟩ | ⟨_, hs⟩
    · obtain ⟨ρ1, h1, hc1⟩ := kd_clean H h kd (S.b + o.dst.getD 99999) (H.own hdm) (fun e => hcl e (.inr hc))
      exact callV_sound H h1 hf (H.free hdm) hc1 hcall fun y w' ρ' Im' hw => hK _ _ _ _ hk ⟨ρ', Im', M, hw⟩
    · exact yieldV_sound H h hf hy fun v g y w' M' hA hw => hKb _ _ _ _ hA ⟨ρ, Im, M', hw⟩
    · exact hs C H n a w Kc Q ⟨ρ, Im, M, h⟩ hKb
  · obtain ⟨d, hd, happ⟩ := hv
    obtain ⟨id, sz, m, k, y, w', ρ', hk, hr, hw⟩ := app_sound H.G h (hdst' d hd) hd (by rw [← H.N]; exact hlow) (appV_mono (fun _ _ _ _ hh => ⟨pin_none H hh.1, hh.2⟩) happ)
    exact wpIn_value hdf hr (hKb _ _ _ _ hk ⟨ρ', Im, M, hw⟩)
  · obtain ⟨id, k, w', hk, hr, hw⟩ := store_sound H.G h (by rw [← H.N]; exact hlow) hv
    exact wpIn_skip' hdf hr (hKb _ _ _ _ hk ⟨ρ, Im, M, hw.put H.G hdst' (.im _ _ (.v _))⟩)
  · exact hv C H n a w Kc Q ⟨ρ, Im, M, h⟩ hKb
  · exact hv.elim

/-- What a guard sees. -/
theorem yielded_of (h : Wit C E σ a w ρ Im M) {ops : Array Oper} {j t : Nat} (ht : (ops[j]?).bind (·.dst) = some t) (hlt : t < C.N) {x : Value} (hx : E t = .v x) :
    yielded ops a.tmps j = match x with | .bool b => some b | _ => none := by
  have hs : t < a.tmps.size := by rw [h.size]; exact hlt
  have hv := h.env t a.tmps[t] (Array.getElem?_eq_getElem hs)
  rw [hx] at hv
  have hv := hv.v_inv
  unfold yielded
  rw [ht]
  simp only [Option.bind_some, Array.getElem?_eq_getElem hs, hv]
  cases x <;> rfl

/-- One operation of a region, in its turn. -/
def wpTurn (n : Nat) (P : Program) (r : Option Nat) (ops : Array Oper) (o : Oper) (K : Act → World → Prop) (Q : Exit → Act → World → Prop) (a : Act) (w : World) : Prop :=
  if Region.wanted o (yielded ops a.tmps) then o.wpIn (FW r) n P a w K Q else K (a.put o.dst undef) w

theorem wpTurn_in {n : Nat} {P : Program} {r : Option Nat} {ops : Array Oper} {i : Nat} {o : Oper} (ho : ops[i]? = some o) {K : Act → World → Prop} {Q : Exit → Act → World → Prop} {a : Act} {w : World}
    (h : wpTurn n P r ops o K Q a w) : wpOpIn (FW r) n P ops Q i K a w := by
  unfold wpOpIn wpTurn at *
  simp only [ho]
  split
  · rename_i hw; rw [if_pos hw] at h; exact h
  · rename_i hw; rw [if_neg hw] at h; exact ⟨fun _ _ => trivial, h⟩

theorem gop_sound (H : Holds S C) (h : Wit C E σ a w ρ Im M) {ops : Array Oper} (hall : ∀ (i : Nat) (o : Oper), ops[i]? = some o → Oper.fits S.P S.N o = true) {o : Oper} (hf : Oper.fits S.P S.N o = true) (kd bi : Bool)
    (hcl : kd = false → (cls S.P o.op o.type = 1 ∨ cls S.P o.op o.type = 2) → ∀ k, k < 16 → Clean (16 * (S.b + o.dst.getD 99999) + k) E σ) {K Kb : Env → Store → Prop} (hv : gop S kd bi ops o K Kb E σ)
    {n : Nat} {Kc : Act → World → Prop} {Q : Exit → Act → World → Prop} (hK : ∀ E' σ' a' w', K E' σ' → St C E' σ' a' w' → Kc a' w') (hKb : ∀ E' σ' a' w', Kb E' σ' → St C E' σ' a' w' → Kc a' w') : wpTurn n S.P C.rdl ops o Kc Q a w := by
  obtain ⟨hdst, _, _⟩ := fits_of hf
  have hdst' : ∀ d, o.dst = some d → d < C.N := by rw [← H.N]; exact hdst
  unfold gop at hv
  unfold wpTurn
  split at hv
  · rename_i hg
    rw [if_pos (by simp [Region.wanted, hg])]
    exact aop_sound H h hf kd bi hcl hv hK hKb
  · rename_i j want hg
    split at hv
    · exact hv.elim
    · rename_i t ht
      have htN : t < C.N := by
        cases hj : ops[j]? with
        | none => simp [hj] at ht
        | some oj => simp [hj] at ht; rw [← H.N]; exact (fits_of (hall j oj hj)).1 t ht
      split at hv
      · rename_i b hb
        have hy := yielded_of h ht htN hb
        simp only at hy
        by_cases hbw : b = want
        · subst hbw
          rw [if_pos (by simp [Region.wanted, hg, hy])]
          have hv1 := hv.1 rfl
          rw [upd_self E t _ hb] at hv1
          exact aop_sound H h hf kd bi hcl hv1 hK hKb
        · rw [if_neg (by simp [Region.wanted, hg, hy, hbw])]
          have hv2 := hv.2 (by cases b <;> cases want <;> simp_all)
          have hb' : E t = .v (.bool !want) := by rw [hb]; cases b <;> cases want <;> simp_all
          rw [upd_self E t _ hb'] at hv2
          exact hK _ _ _ _ hv2 ⟨ρ, Im, M, h.put H.G hdst' (.im _ _ (.v _))⟩
      · rename_i vs hb
        have hy := yielded_of h ht htN hb
        simp only at hy
        rw [if_neg (by simp [Region.wanted, hg, hy])]
        exact hK _ _ _ _ hv ⟨ρ, Im, M, h.put H.G hdst' (.im _ _ (.v _))⟩
      · exact hv.elim

/-- A region in the order of its text. -/
theorem awpOps_sound (H : Holds S C) {ops : Array Oper} (hall : ∀ (i : Nat) (o : Oper), ops[i]? = some o → Oper.fits S.P S.N o = true) {n : Nat} {K : Env → Store → Prop} {Q : Exit → Act → World → Prop}
    (hK : ∀ E σ a w, K E σ → St C E σ a w → Q .normal a w) : ∀ (l : List Oper) (i : Nat) (E : Env) (σ : Store) (a : Act) (w : World), (∀ j, l[j]? = ops[i + j]?) → awpOps S false ops i l K E σ → St C E σ a w →
    wpOpsIn (FW C.rdl) n S.P ops Q (List.range' i l.length) a w
  | [], i, E, σ, a, w, _, hv, hs => hK E σ a w hv hs
  | o :: l, i, E, σ, a, w, hl, hv, hs => by
    have ho : ops[i]? = some o := by simpa using (hl 0).symm
    obtain ⟨ρ, Im, M, h⟩ := hs
    rw [List.length_cons, List.range'_succ, wpOpsIn_cons]
    have go : ∀ E' σ' a' w', awpOps S false ops (i + 1) l K E' σ' → St C E' σ' a' w' → wpOpsIn (FW C.rdl) n S.P ops Q (List.range' (i + 1) l.length) a' w' := fun E' σ' a' w' hk hs' =>
      awpOps_sound H hall hK l (i + 1) E' σ' a' w' (fun j => by have := hl (j + 1); simpa [Nat.add_assoc, Nat.add_comm 1 j] using this) hk hs'
    exact wpTurn_in ho (gop_sound H h hall (hall i o ho) true _ (fun e => by cases e) hv go fun E' σ' a' w' hk hs' => go E' σ' a' w' (by simpa [struck] using hk) hs')

theorem St.kill (hG : GStable C.G) (h : St C E σ a w) (p : Nat → Bool) (hp : ∀ id b, C.pin id = some b → p id = false) : St C (killE p E) (killS p σ) a w := by
  obtain ⟨ρ, Im, M, h⟩ := h
  exact ⟨_, Im, M, h.kill hG p hp⟩

theorem St.drew (hG : GStable C.G) (h : St C E σ a w) (n : Nat) : St C E σ a { w with drawn := n } := by
  obtain ⟨ρ, Im, M, h⟩ := h
  exact ⟨_, Im, M, h.drew hG n⟩

/-- What stands behind regions that draw their order: proved in its own text. -/
def DrawSound (S : Sp) (C : Fx) : Prop :=
  ∀ (ops : Array Oper), ops.toList.all (Oper.fits S.P S.N) = true → drawOK S.P ops = true → ∀ (n : Nat) (K : Env → Store → Prop) (Q : Exit → Act → World → Prop) (E : Env) (σ : Store) (a : Act) (w : World),
    (∀ E σ a w, K E σ → St C E σ a w → Q .normal a w) → struck S true ops.toList (awpOps S true ops 0 ops.toList K) E σ → St C E σ a w →
    ∀ id, (Code.region id ops true).wpIn (FW C.rdl) n S.P Q a w

/-- **A text of which all is right that is asked of it does what its account says.** -/
theorem stepR_scope {P : Program} {b : Frame} {a : Act} {k : List Item} {cs : List Frame} {w : World} {c : Code} : step P (lone (b.atR a (.code (.scope c) :: k)) cs w) = .next (lone (b.atR a (.code c :: .inScope c :: k)) cs w) :=
  step_lone_go (by simp [stepG, stepG.exec, Frame.atR])
theorem stepR_inScope {P : Program} {b : Frame} {a : Act} {k : List Item} {cs : List Frame} {w : World} {c : Code} : step P (lone (b.atR a (.inScope c :: k)) cs w) = .next (lone (b.atR a k) cs w) :=
  step_lone_go (by simp [stepG, stepG.exec, Frame.atR])
/-- A scope through which the run goes without a goto. -/
theorem wpIn_scope_straight {F : Fence} {n : Nat} {P : Program} {Q : Exit → Act → World → Prop} {a : Act} {w : World} {c : Code} (h : c.wpIn F n P (Exit.noGoto Q) a w) : (Code.scope c).wpIn F n P Q a w := by
  intro b k cs hro hb hr
  have h0 : (lone (b.atR a (.code (.scope c) :: k)) cs w).fenced P F := fenced_calm hb hr rfl
  obtain ⟨e, a₁, w₁, hq, harr⟩ := h b (.inScope c :: k) cs hro hb hr
  cases e with
  | normal => exact ⟨.normal, a₁, w₁, hq, .head h0 stepR_scope (StepsIn.trans harr (.one (fenced_calm hb hr rfl) stepR_inScope))⟩
  | exit id =>
    have hx : exitTo id (.inScope c :: k) = exitTo id k := by simp [exitTo]
    exact ⟨.exit id, a₁, w₁, hq, fun k' hk => .head h0 stepR_scope (harr.1 k' (by rw [hx]; exact hk)),
      fun hr' hk => let ⟨k₁, h1, h2⟩ := harr.2 hr' (by rw [hx]; exact hk); ⟨k₁, h1, .head h0 stepR_scope h2⟩⟩
  | goto l => exact hq.elim
  | ret => exact ⟨_, a₁, w₁, hq, .of_steps (.one h0 stepR_scope) harr⟩
  | panic ch => exact ⟨_, a₁, w₁, hq, .of_steps (.one h0 stepR_scope) harr⟩
  | outgrown => exact ⟨_, a₁, w₁, hq, .of_steps (.one h0 stepR_scope) harr⟩

theorem awp_sound (H : Holds S C) (HD : DrawSound S C) {n : Nat} : ∀ (c : Code) (Q : Exit → Env → Store → Prop) (E : Env) (σ : Store), codeOK S.P S.N c = true → awp S c Q E σ →
    ∀ (R : Exit → Act → World → Prop), (∀ e E σ a w, Q e E σ → St C E σ a w → R e a w) → ∀ a w, St C E σ a w → c.wpIn (FW C.rdl) n S.P R a w := by
  intro c
  induction c with
  | skip => intro Q E σ _ hv R hR a w hs; exact wpIn_skip (hR _ _ _ _ _ hv hs)
  | label l => intro Q E σ _ hv R hR a w hs; exact wpIn_label (hR _ _ _ _ _ hv hs)
  | seq x y ihx ihy =>
    intro Q E σ hok hv R hR a w hs
    simp only [codeOK, Bool.and_eq_true] at hok
    refine wpIn_seq (ihx _ E σ hok.1 hv _ (fun e E' σ' a' w' hq hs' => ?_) a w hs)
    cases e with
    | normal => exact ihy Q E' σ' hok.2 hq R hR a' w' hs'
    | exit id => exact hR _ _ _ _ _ hq hs'
    | goto l => exact hR _ _ _ _ _ hq hs'
    | ret => exact hR _ _ _ _ _ hq hs'
    | panic ch => exact hR _ _ _ _ _ hq hs'
    | outgrown => exact hR _ _ _ _ _ hq hs'
  | region id ops draw =>
    intro Q E σ hok hv R hR a w hs
    simp only [codeOK, Bool.and_eq_true, Bool.or_eq_true, Bool.not_eq_true'] at hok
    have hall : ∀ (i : Nat) (o : Oper), ops[i]? = some o → Oper.fits S.P S.N o = true := fun i o ho => List.all_eq_true.1 hok.1 o (Array.mem_toList_iff.2 (Array.mem_of_getElem? ho))
    simp only [awp] at hv
    cases draw with
    | false =>
      simp only [struck, Bool.false_eq_true, if_false] at hv
      refine wpIn_region ?_
      have := awpOps_sound H hall (n := n) (Q := R) (fun E σ a w hk hs => hR .normal E σ a w hk hs) ops.toList 0 E σ a w (by simp) hv hs
      rw [Array.length_toList, ← List.range_eq_range'] at this
      exact this
    | true =>
      exact HD ops hok.1 (by simpa using hok.2) n (Q .normal) R E σ a w (fun E σ a w hk hs => hR .normal E σ a w hk hs) hv hs id
  | cond c x y ihx ihy =>
    intro Q E σ hok hv R hR a w hs
    simp only [codeOK, Bool.and_eq_true] at hok
    simp only [awp] at hv
    split at hv
    · rename_i b hb
      have hc : a.eval c = .bool b := by
        obtain ⟨ρ, Im, M, h⟩ := hs
        have hr := ev_rep h.env (x := c) (by rw [h.size, ← H.N]; exact hok.1.1)
        rw [hb] at hr; exact hr.v_inv
      exact wpIn_cond_split hc (fun e => ihx Q E σ hok.1.2 (hv.1 e) R hR a w hs) (fun e => ihy Q E σ hok.2 (hv.2 e) R hR a w hs)
    · exact hv.elim
  | block id c ih =>
    intro Q E σ hok hv R hR a w hs
    refine wpIn_block (ih _ E σ hok hv _ (fun e E' σ' a' w' hq hs' => ?_) a w hs)
    cases e with
    | exit id' =>
      simp only [blockQ] at hq
      simp only [Exit.inBlock]
      split
      · rename_i he; rw [if_pos he] at hq; exact hR _ _ _ _ _ hq hs'
      · rename_i he; rw [if_neg he] at hq; exact hR _ _ _ _ _ hq hs'
    | normal => exact hR _ _ _ _ _ hq hs'
    | goto l => exact hR _ _ _ _ _ hq hs'
    | ret => exact hR _ _ _ _ _ hq hs'
    | panic ch => exact hR _ _ _ _ _ hq hs'
    | outgrown => exact hR _ _ _ _ _ hq hs'
  | loop c ih =>
    intro Q E σ hok hv R hR a w hs
    obtain ⟨I, μ, h0, hround⟩ := hv
    -- the loop's relation on real states: some abstract state that it stands for; the measure bounds the rounds to come
    intro b k cs hro hb hr
    have key : ∀ m E σ a w, μ E σ = m → I E σ → St C E σ a w →
        ∃ e a' w', R e a' w' ∧ ArrivesIn (Machine.fenced S.P (FW C.rdl)) S.P (lone (b.atR a (.code c :: .inLoop c :: k)) cs w) b k cs e a' w' := by
      intro m
      induction m using Nat.strongRecOn with
      | _ m ihm =>
        intro E σ a w hm hI hs
        have hw := ih (thenQ (fun E' σ' => I E' σ' ∧ μ E' σ' < μ E σ) Q) E σ hok (hround E σ hI)
          (fun e a' w' => match e with | .normal => ∃ E' σ', (I E' σ' ∧ μ E' σ' < μ E σ) ∧ St C E' σ' a' w' | e => R e a' w')
          (fun e E' σ' a' w' hq hs' => by
            cases e with
            | normal => exact ⟨E', σ', hq, hs'⟩
            | exit id => exact hR _ _ _ _ _ hq hs'
            | goto l => exact hR _ _ _ _ _ hq hs'
            | ret => exact hR _ _ _ _ _ hq hs'
            | panic ch => exact hR _ _ _ _ _ hq hs'
            | outgrown => exact hR _ _ _ _ _ hq hs') a w hs
        obtain ⟨e, a₁, w₁, hq, harr⟩ := hw b (.inLoop c :: k) cs hro hb hr
        cases e with
        | normal =>
          obtain ⟨E', σ', ⟨hI', hlt⟩, hs'⟩ := hq
          obtain ⟨e₂, a₂, w₂, hq₂, harr₂⟩ := ihm (μ E' σ') (hm ▸ hlt) E' σ' a₁ w₁ rfl hI' hs'
          exact ⟨e₂, a₂, w₂, hq₂, .of_steps (StepsIn.trans harr (.one (fenced_calm hb hr rfl) stepR_inLoop)) harr₂⟩
        | exit id => exact ⟨_, a₁, w₁, hq, .pass (x := .inLoop c) rfl (fun _ _ => .inl (by simp)) harr⟩
        | goto l => exact ⟨_, a₁, w₁, hq, .pass (x := .inLoop c) rfl (fun _ _ => .inl (by simp)) harr⟩
        | ret => exact ⟨_, a₁, w₁, hq, .pass (x := .inLoop c) rfl (fun _ _ => .inl (by simp)) harr⟩
        | panic ch => exact ⟨_, a₁, w₁, hq, .pass (x := .inLoop c) rfl (fun _ _ => .inl (by simp)) harr⟩
        | outgrown => exact ⟨_, a₁, w₁, hq, .pass (x := .inLoop c) rfl (fun _ _ => .inl (by simp)) harr⟩
    obtain ⟨e, a', w', hq, harr⟩ := key _ E σ a w rfl h0 hs
    exact ⟨e, a', w', hq, .of_steps (.one (fenced_calm hb hr rfl) stepR_loop) harr⟩
  | rangeFunc f ps as body iha ihb => intro Q E σ _ hv R hR a w hs; exact hv C H n R hR a w hs
  | exit id => intro Q E σ _ hv R hR a w hs; exact wpIn_exit (hR _ _ _ _ _ hv hs)
  | scope c ih =>
    intro Q E σ hok hv R hR a w hs
    refine wpIn_scope_straight (ih (scopeQ Q) E σ hok hv _ (fun e E' σ' a' w' hq hs' => ?_) a w hs)
    cases e with
    | goto l => exact hq
    | normal => exact hR _ _ _ _ _ hq hs'
    | exit id => exact hR _ _ _ _ _ hq hs'
    | ret => exact hR _ _ _ _ _ hq hs'
    | panic ch => exact hR _ _ _ _ _ hq hs'
    | outgrown => exact hR _ _ _ _ _ hq hs'
  | goto l => intro Q E σ hok; simp [codeOK] at hok
  | ret => intro Q E σ _ hv R hR a w hs; exact wpIn_ret (hR _ _ _ _ _ hv hs)
  | refuse why => intro Q E σ hok; simp [codeOK] at hok

end
end Go.Vai

/- Regions that draw their order: sound. -/
import Derived.Test.YtmiahmpobpokmaaVq2
namespace Go.Vai
open Go.RowKit

section
variable {P : Program} {S : Sp} {C : Fx} {E E' : Env} {σ σ' : Store} {a : Act} {w : World} {ρ : Nat → Option Nat} {Im : Nat → Prop} {M : Str}

/-- Nothing bears a name of 'nm'. -/
def DC (N nm : Nat) (E : Env) (σ : Store) : Prop :=
  ∀ d, d / 16 = nm → Clean d E σ ∧ (∀ t, t < N → ¬ DN (E t) d) ∧ ∀ id k, σ id = some k → ∀ e ∈ k.es, ¬ DN e d

theorem addS_out {L : Nat → Prop} : ∀ (bl : List (Nat × Blk)) (σ : Store), (∀ p ∈ bl, L p.1) → ∀ id, ¬ L id → addS σ bl id = σ id
  | [], σ, _, id, _ => rfl
  | (i, k) :: bl, σ, h, id, hn => by
    simp only [addS]
    rw [addS_out bl _ (fun p hp => h p (by simp [hp])) id hn, updS_ne _ _ _ _ (fun e => hn (by rw [e]; exact h (i, k) (by simp)))]

theorem addS_mem : ∀ (bl : List (Nat × Blk)) (σ : Store) (id : Nat) (k : Blk), addS σ bl id = some k → σ id = some k ∨ (id, k) ∈ bl
  | [], σ, id, k, h => .inl h
  | (i, k') :: bl, σ, id, k, h => by
    simp only [addS] at h
    rcases addS_mem bl _ id k h with h' | h'
    · by_cases e : id = i
      · subst e; simp at h'; subst h'; exact .inr (by simp)
      · rw [updS_ne _ _ _ _ e] at h'; exact .inl h'
    · exact .inr (by simp [h'])

theorem looks_tmp {ops : Array Oper} {o : Oper} {t : Nat} (h : Operand.tmp t ∈ o.op.operands) : t ∈ o.looksAt ops :=
  List.mem_append_left _ (List.mem_filterMap.2 ⟨.tmp t, by simpa using h, rfl⟩)

theorem looks_guard {ops : Array Oper} {o : Oper} {g t : Nat} {want : Bool} (hg : o.guard = some (g, want)) (ht : (ops[g]?).bind (·.dst) = some t) : t ∈ o.looksAt ops := by
  refine List.mem_append_right _ ?_
  rw [hg]; simp [ht]

theorem ev_upd {ops : Array Oper} {o : Oper} {d0 : Option Nat} {u : AV} (hd : ∀ d, d0 = some d → d ∉ o.looksAt ops) {x : Operand} (hx : x ∈ o.op.operands) : ev (updO E d0 u) x = ev E x := by
  cases d0 with
  | none => rfl
  | some d =>
    cases x with
    | tmp t => simp only [ev, updO, upd]; rw [if_neg (fun e => hd d rfl (by subst e; exact looks_tmp hx))]
    | _ => rfl

/-- An operand's names. -/
theorem ev_dn {N d : Nat} {x : Operand} (hx : Operand.low N x = true) (h : ∀ t, t < N → ¬ DN (E t) d) : ¬ DN (ev E x) d := fun hn => by
  cases x with
  | tmp t => exact h t (by simpa [Operand.low] using hx) hn
  | const v => exact ofC_dn hn
  | global g => cases hn
  | func f => cases hn with | clo _ _ c _ hc hn => simp at hc

/-- What an operation yields, yields it too behind one that it does not look at. -/
theorem gval_frame {ops : Array Oper} {o : Oper} (hf : Oper.fits S.P S.N o = true) {d0 : Option Nat} {u : AV} (hd : ∀ d, d0 = some d → d ∉ o.looksAt ops) {nm : Nat} {bl0 : List (Nat × Blk)}
    (hdc : bl0 = [] ∨ (DC S.N nm E σ ∧ ∀ p ∈ bl0, p.1 / 16 = nm)) {v : AV} {bl : List (Nat × Blk)} : gval S ops o (updO E d0 u) (addS σ bl0) v bl ↔ gval S ops o E σ v bl := by
  obtain ⟨_, hlow, _⟩ := fits_of hf
  have hev : ∀ x ∈ o.op.operands, ev (updO E d0 u) x = ev E x := fun x hx => ev_upd hd hx
  have key : val S o (updO E d0 u) (addS σ bl0) v bl ↔ val S o E σ v bl := by
    rcases hdc with rfl | ⟨hdc, hb⟩
    · simp only [addS]
      unfold val
      split
      · exact and_congr_left fun _ => ⟨pureV_congr hev fun _ _ _ _ => rfl, pureV_congr (fun x hx => (hev x hx).symm) fun _ _ _ _ => rfl⟩
      · exact and_congr_right fun _ => ⟨newV_congr hev, newV_congr fun x hx => (hev x hx).symm⟩
      · exact ⟨callV_congr (L := fun _ => False) hev (fun _ _ _ h => h.elim) (fun _ _ => rfl) (fun _ _ _ _ _ _ h => h.elim), callV_congr (L := fun _ => False) (fun x hx => (hev x hx).symm) (fun _ _ _ h => h.elim) (fun _ _ => rfl) (fun _ _ _ _ _ _ h => h.elim)⟩
      · rfl
    · have hag : ∀ id, ¬ id / 16 = nm → addS σ bl0 id = σ id := addS_out bl0 σ hb
      have hnd : ∀ x ∈ o.op.operands, ∀ d, d / 16 = nm → ¬ DN (ev E x) d := fun x hx d hd => ev_dn (low_of hlow hx) (hdc d hd).2.1
      have hst : ∀ id k, σ id = some k → ∀ e ∈ k.es, ∀ d, d / 16 = nm → ¬ DN e d := fun id k hk e he d hd => (hdc d hd).2.2 id k hk e he
      have hag' : ∀ x ∈ o.op.operands, ∀ id, Names (ev E x) id → addS σ bl0 id = σ id := fun x hx id hn => hag id fun h => hnd x hx id h (DN.of hn)
      -- the way back: what is not of 'nm' is the same in both
      unfold val
      split
      · refine and_congr_left fun _ => ⟨fun h => ?_, fun h => pureV_congr (fun x hx => (hev x hx).symm) hag' h⟩
        exact pureV_congr (E' := E) hev (fun x hx id hn => by rw [hev x hx] at hn; exact (hag' x hx id hn).symm) h
      · exact and_congr_right fun _ => ⟨newV_congr hev, newV_congr fun x hx => (hev x hx).symm⟩
      · refine ⟨fun h => ?_, fun h => callV_congr (L := fun d => d / 16 = nm) (fun x hx => (hev x hx).symm) hnd hag hst h⟩
        have h1 : callV S false (nmO S o) o.op E (addS σ bl0) v bl := callV_congr (L := fun _ => False) hev (fun _ _ _ h => h.elim) (fun _ _ => rfl) (fun _ _ _ _ _ _ h => h.elim) h
        -- without the new blocks
        unfold callV at h1 ⊢
        split at h1
        · rename_i f args ats ho
          split at h1
          · rename_i g caps hfv
            obtain ⟨r, h2, h3⟩ := h1
            refine ⟨r, ?_, h3⟩
            have : (args.toList.map (ev E) ++ caps).map (res (addS σ bl0)) = (args.toList.map (ev E) ++ caps).map (res σ) := List.map_congr_left fun x hx => by
              refine resF_congr hag hst 8 x fun d hd hn => ?_
              rcases List.mem_append.1 hx with hx | hx
              · obtain ⟨y, hy, rfl⟩ := List.mem_map.1 hx
                exact hnd y (by rw [ho]; simp [Op.operands, Call.operands]; exact .inr (by simpa using hy)) d hd hn
              · exact hnd f (by rw [ho]; simp [Op.operands, Call.operands]) d hd (by rw [hfv]; exact .clo g caps x d hx hn)
            rw [← this]; exact h2
          · exact h1.elim
        · exact h1.elim
      · rfl
  unfold gval
  split
  · exact key
  · rename_i j want hg
    split
    · rfl
    · rename_i t ht
      have he : updO E d0 u t = E t := by
        cases d0 with
        | none => rfl
        | some d => simp only [updO, upd]; rw [if_neg (fun e => hd d rfl (by subst e; exact looks_guard hg ht))]
      rw [he]
      split
      · rw [key]
      · rfl
      · rfl

theorem val_names {o : Oper} (hf : Oper.fits S.P S.N o = true) {d : Nat} (hE : ∀ t, t < S.N → ¬ DN (E t) d) (hst : ∀ id k, σ id = some k → ∀ e ∈ k.es, ¬ DN e d) {v : AV} {bl : List (Nat × Blk)}
    (hv : val S o E σ v bl) (hd : isNm S.P o = true → d / 16 ≠ nmO S o) : ¬ DN v d ∧ ∀ p ∈ bl, p.1 / 16 ≠ d / 16 ∧ ∀ e ∈ p.2.es, ¬ DN e d := by
  obtain ⟨_, hlow, _⟩ := fits_of hf
  have hev : ∀ x ∈ o.op.operands, ¬ DN (ev E x) d := fun x hx => ev_dn (low_of hlow hx) hE
  unfold val at hv
  split at hv
  · obtain ⟨h1, rfl⟩ := hv; exact ⟨pureV_names hev hst h1, fun p hp => by simp at hp⟩
  · rename_i hc
    have hd := hd (by simp [isNm, hc])
    obtain ⟨h1, h2⟩ := newV_names hev hd hv.2
    exact ⟨h1, fun p hp => ⟨by rw [(h2 p hp).1]; exact hd.symm, (h2 p hp).2⟩⟩
  · rename_i hc
    have hd := hd (by simp [isNm, hc])
    obtain ⟨h1, h2⟩ := callV_names hd hv
    exact ⟨h1, fun p hp => ⟨by rw [(h2 p hp).1]; exact hd.symm, (h2 p hp).2⟩⟩
  · exact hv.elim

theorem gval_cases {ops : Array Oper} {o : Oper} {v : AV} {bl : List (Nat × Blk)} (h : gval S ops o E σ v bl) : val S o E σ v bl ∨ (v = .v undef ∧ bl = []) := by
  unfold gval at h
  split at h
  · exact .inl h
  · split at h
    · exact h.elim
    · split at h
      · rcases h with ⟨_, h⟩ | ⟨_, h⟩
        · exact .inl h
        · exact .inr h
      · exact .inr h
      · exact h.elim

theorem val_own {o : Oper} {v : AV} {bl : List (Nat × Blk)} (hv : val S o E σ v bl) : ∀ p ∈ bl, p.1 / 16 = nmO S o ∧ isNm S.P o = true := by
  unfold val at hv
  split at hv
  · obtain ⟨_, rfl⟩ := hv; intro p hp; simp at hp
  · rename_i hc
    intro p hp
    -- by any name apart
    refine ⟨?_, by simp [isNm, hc]⟩
    have := hv.2
    unfold newV at this
    split at this
    · obtain ⟨e, _, _, rfl⟩ := this; simp at hp; subst hp; simp
    · obtain ⟨e, _, _, rfl⟩ := this; simp at hp; subst hp; simp
    · split at this
      · obtain ⟨_, _, _, rfl⟩ := this; simp at hp; rcases hp with rfl | rfl <;> simp <;> omega
      · obtain ⟨z, _, _, _, _, _, rfl⟩ := this; simp at hp; subst hp; simp
    · obtain ⟨_, _, _, _, rfl⟩ := this; simp at hp; subst hp; simp
    · obtain ⟨e, _, _, _, _, _, _, _, rfl⟩ := this; simp at hp; subst hp; simp
    · split at this
      · obtain ⟨e, _, _, z, _, _, _, _, _, _, _, _, rfl⟩ := this; simp at hp; subst hp; simp
      · exact this.elim
    · exact this.elim
  · rename_i hc
    intro p hp
    exact ⟨((callV_names (d := 16 * (nmO S o) + 16) (by omega) hv).2 p hp).1, by simp [isNm, hc]⟩
  · exact hv.elim

theorem DC.step {nm : Nat} {ops : Array Oper} {o : Oper} (hf : Oper.fits S.P S.N o = true) (hdc : DC S.N nm E σ) {v : AV} {bl : List (Nat × Blk)} (hv : gval S ops o E σ v bl) (hne : isNm S.P o = true → nm ≠ nmO S o) :
    DC S.N nm (updO E o.dst v) (addS σ bl) := by
  intro d hd
  obtain ⟨h1, h2, h3⟩ := hdc d hd
  have hn : ¬ DN v d ∧ ∀ p ∈ bl, p.1 / 16 ≠ d / 16 ∧ ∀ e ∈ p.2.es, ¬ DN e d := by
    rcases gval_cases hv with hv | ⟨rfl, rfl⟩
    · exact val_names hf h2 h3 hv fun hi => by rw [hd]; exact hne hi
    · exact ⟨fun h => (by cases h), fun p hp => by simp at hp⟩
  have hst : ∀ id k, addS σ bl id = some k → ∀ e ∈ k.es, ¬ DN e d := fun id k hk e he => by
    rcases addS_mem bl σ id k hk with h' | h'
    · exact h3 id k h' e he
    · exact (hn.2 _ h').2 e he
  have hE : ∀ t, (∀ x, E t = x → ¬ DN x d) → ¬ DN (updO E o.dst v t) d := fun t ht => by
    cases hdst : o.dst with
    | none => exact ht _ rfl
    | some x => simp only [updO, upd]; split; exact hn.1; exact ht _ rfl
  refine ⟨⟨?_, fun t hnn => ?_, fun id k hk e he hnn => hst id k hk e he (DN.of hnn)⟩, fun t ht => hE t fun x hx => by rw [← hx]; exact h2 t ht, hst⟩
  · rw [addS_out (L := fun i => i / 16 ≠ d / 16) bl σ (fun p hp => (hn.2 p hp).1) d (by simp)]; exact h1.1
  · cases hdst : o.dst with
    | none => rw [hdst] at hnn; exact h1.2.1 t hnn
    | some x =>
      rw [hdst] at hnn
      simp only [updO, upd] at hnn
      split at hnn
      · exact hn.1 (DN.of hnn)
      · exact h1.2.1 t hnn

theorem updO_comm {d d' : Option Nat} {v v' : AV} (h : ∀ x, d = some x → d' ≠ some x) : updO (updO E d v) d' v' = updO (updO E d' v') d v := by
  cases d with
  | none => cases d' <;> rfl
  | some x => cases d' with
    | none => rfl
    | some y => simp only [updO]; exact upd_comm E x y v v' fun e => h x rfl (by rw [e])

theorem addS_comm {L L' : Nat → Prop} : ∀ (bl bl' : List (Nat × Blk)) (σ : Store), (∀ p ∈ bl, L p.1) → (∀ p ∈ bl', ¬ L p.1) → addS (addS σ bl) bl' = addS (addS σ bl') bl
  | [], _, _, _, _ => rfl
  | (i, k) :: bl, bl', σ, h, h' => by
    simp only [addS]
    rw [addS_comm (L := L) (L' := L') bl bl' _ (fun p hp => h p (by simp [hp])) h']
    congr 1
    have : ∀ (l : List (Nat × Blk)) (σ : Store), (∀ p ∈ l, p.1 ≠ i) → addS (updS σ i k) l = updS (addS σ l) i k := by
      intro l
      induction l with
      | nil => intro σ _; rfl
      | cons x l ih =>
        obtain ⟨j, k'⟩ := x
        intro σ hl
        simp only [addS]
        rw [← ih _ fun p hp => hl p (by simp [hp])]
        congr 1
        funext t
        have := hl (j, k') (by simp)
        simp only [updS]
        split <;> split <;> simp_all
    exact this bl' σ fun p hp e => h' p hp (by rw [e]; exact h (i, k) (by simp))

end
end Go.Vai

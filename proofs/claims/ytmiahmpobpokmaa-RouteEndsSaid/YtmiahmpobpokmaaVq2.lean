/- Regions that draw their order: operations that come in either order. -/
import Derived.Test.YtmiahmpobpokmaaVq
namespace Go.Vai
open Go.RowKit

section
variable {P : Program} {S : Sp} {C : Fx} {E E' : Env} {σ σ' : Store} {a : Act} {w : World} {ρ : Nat → Option Nat} {Im : Nat → Prop} {M : Str}

theorem newV_congr {nm : Nat} {op : Op} {ty : TypeId} {r : AV} {bl : List (Nat × Blk)} (h : ∀ x ∈ op.operands, ev E x = ev E' x) (hv : newV P nm op ty E r bl) : newV P nm op ty E' r bl := by
  unfold newV at hv
  split at hv
  · exact hv
  · exact hv
  · exact hv
  · rename_i t x; simp only [newV]; rw [← h x (by simp [Op.operands])]; exact hv
  · rename_i t len parts
    have hm : ∀ p ∈ parts.toList, ev E p.2 = ev E' p.2 := fun p hp => h p.2 (by simp [Op.operands]; exact ⟨p.1, by simpa using hp⟩)
    have e1 : (parts.toList.map fun p => ev E p.2) = parts.toList.map fun p => ev E' p.2 := List.map_congr_left hm
    obtain ⟨e, h1, h2, h3, h4, h5, h6, h7, h8⟩ := hv
    exact ⟨e, h1, h2, h3, h4, h5, fun p hp => by rw [← hm p hp]; exact h6 p hp, h7, by rw [h8, e1]⟩
  · rename_i t l c; simp only [newV]; rw [← h l (by simp [Op.operands]), ← h c (by simp [Op.operands])]; exact hv
  · exact hv.elim

theorem newV_names {nm d : Nat} {op : Op} {ty : TypeId} {r : AV} {bl : List (Nat × Blk)} (hev : ∀ x ∈ op.operands, ¬ DN (ev E x) d) (hd : d / 16 ≠ nm) (hv : newV P nm op ty E r bl) :
    ¬ DN r d ∧ ∀ p ∈ bl, p.1 / 16 = nm ∧ ∀ e ∈ p.2.es, ¬ DN e d := by
  have own : ∀ id sz i n, id / 16 = nm → ¬ DN (.own id sz i n) d := fun id sz i n h hn => by cases hn; exact hd h
  have ptr : ∀ id sz i n, id / 16 = nm → ¬ DN (.ptr id sz i n) d := fun id sz i n h hn => by cases hn; exact hd h
  unfold newV at hv
  split at hv
  · obtain ⟨e, _, rfl, rfl⟩ := hv
    exact ⟨own _ _ _ _ (by omega), fun p hp => by simp at hp; subst hp; exact ⟨by omega, by simp⟩⟩
  · obtain ⟨e, _, rfl, rfl⟩ := hv
    exact ⟨own _ _ _ _ (by omega), fun p hp => by simp at hp; subst hp; exact ⟨by omega, by simp⟩⟩
  · split at hv
    · obtain ⟨_, _, rfl, rfl⟩ := hv
      refine ⟨ptr _ _ _ _ (by omega), fun p hp => ?_⟩
      simp at hp
      rcases hp with rfl | rfl
      · exact ⟨by simp; omega, by simp⟩
      · exact ⟨by simp, fun e he => by simp at he; subst he; exact own _ _ _ _ (by omega)⟩
    · obtain ⟨z, _, _, _, _, rfl, rfl⟩ := hv
      refine ⟨ptr _ _ _ _ (by omega), fun p hp => ?_⟩
      simp at hp; subst hp
      exact ⟨by simp, fun e he hn => by simp at he; subst he; exact ofC_dn hn⟩
  · rename_i t x
    obtain ⟨_, _, _, rfl, rfl⟩ := hv
    refine ⟨ptr _ _ _ _ (by omega), fun p hp => ?_⟩
    simp at hp; subst hp
    exact ⟨by simp, fun e he hn => by simp at he; subst he; exact hev x (by simp [Op.operands]) hn⟩
  · rename_i t len parts
    obtain ⟨e, _, _, _, _, _, _, rfl, rfl⟩ := hv
    refine ⟨own _ _ _ _ (by omega), fun p hp => ?_⟩
    simp only [List.mem_singleton] at hp; subst hp
    refine ⟨by simp, fun e he hn => ?_⟩
    obtain ⟨q, hq, rfl⟩ := List.mem_map.1 he
    exact hev q.2 (by simp [Op.operands]; exact ⟨q.1, by simpa using hq⟩) hn
  · split at hv
    · obtain ⟨e, _, _, z, _, _, _, _, _, _, _, rfl, rfl⟩ := hv
      refine ⟨own _ _ _ _ (by omega), fun p hp => ?_⟩
      simp only [List.mem_singleton] at hp; subst hp
      exact ⟨by simp, fun e he hn => by simp only [List.mem_replicate] at he; rw [he.2] at hn; exact ofC_dn hn⟩
    · exact hv.elim
  · exact hv.elim

theorem resL_congr {f g : AV → AV} {es : List AV} (h : ∀ e ∈ es, f e = g e) : resL f es = resL g es := by
  unfold resL; split
  · exact List.map_congr_left h
  · rfl

theorem resF_congr {L : Nat → Prop} (hag : ∀ id, ¬ L id → σ' id = σ id) (hst : ∀ id k, σ id = some k → ∀ e ∈ k.es, ∀ d, L d → ¬ DN e d) :
    ∀ (n : Nat) (x : AV), (∀ d, L d → ¬ DN x d) → resF n σ' x = resF n σ x := by
  intro n
  induction n with
  | zero => intro x _; rfl
  | succ n ih =>
    intro x hx
    have blk : ∀ id, ¬ L id → σ' id = σ id ∧ ∀ k, σ id = some k → ∀ e ∈ k.es, resF n σ' e = resF n σ e := fun id hid =>
      ⟨hag id hid, fun k hk e he => ih e (hst id k hk e he)⟩
    cases x with
    | own id sz i m =>
      obtain ⟨h1, h2⟩ := blk id fun hl => hx id hl (.own ..)
      simp only [resF, h1]
      cases hk : σ id with
      | none => rfl
      | some k => simp only [resOwn]; rw [resL_congr (h2 k hk)]
    | ptr id sz i j =>
      obtain ⟨h1, h2⟩ := blk id fun hl => hx id hl (.ptr ..)
      simp only [resF, h1]
      cases hk : σ id with
      | none => rfl
      | some k =>
        simp only [resPtr]
        split
        · cases he : k.es[i]? with
          | none => rfl
          | some e => simp only [resE]; rw [h2 k hk e (List.mem_of_getElem? he)]
        · rfl
    | mref id =>
      obtain ⟨h1, h2⟩ := blk id fun hl => hx id hl (.mref ..)
      simp only [resF, h1]
      cases hk : σ id with
      | none => rfl
      | some k => simp only [resMap]; rw [resL_congr (h2 k hk)]
    | agg cs => simp only [resF]; rw [resL_congr fun e he => ih e fun d hd hn => hx d hd (.agg cs e d he hn)]
    | tup cs => simp only [resF]; rw [resL_congr fun e he => ih e fun d hd hn => hx d hd (.tup cs e d he hn)]
    | clo g cs => simp only [resF]; rw [resL_congr fun e he => ih e fun d hd hn => hx d hd (.clo g cs e d he hn)]
    | _ => rfl

theorem callV_congr {kd : Bool} {nm : Nat} {op : Op} {v : AV} {bl : List (Nat × Blk)} {L : Nat → Prop} (h : ∀ x ∈ op.operands, ev E x = ev E' x) (hL : ∀ x ∈ op.operands, ∀ d, L d → ¬ DN (ev E x) d)
    (hag : ∀ id, ¬ L id → σ' id = σ id) (hst : ∀ id k, σ id = some k → ∀ e ∈ k.es, ∀ d, L d → ¬ DN e d) (hv : callV S kd nm op E σ v bl) : callV S kd nm op E' σ' v bl := by
  unfold callV at hv
  split at hv
  · rename_i f args ats
    split at hv
    · rename_i g caps hf
      obtain ⟨r, h1, h2, h3, h4, h5, h6⟩ := hv
      have hfm : f ∈ (Op.call { callee := .value f, args := args, argTypes := ats }).operands := by simp [Op.operands, Call.operands]
      have ham : ∀ x ∈ args.toList, x ∈ (Op.call { callee := .value f, args := args, argTypes := ats }).operands := fun x hx => by simp [Op.operands, Call.operands]; exact .inr (by simpa using hx)
      have e1 : args.toList.map (ev E) = args.toList.map (ev E') := List.map_congr_left fun x hx => h x (ham x hx)
      have e2 : (args.toList.map (ev E) ++ caps).map (res σ') = (args.toList.map (ev E) ++ caps).map (res σ) := List.map_congr_left fun x hx => by
        refine resF_congr hag hst 8 x fun d hd hn => ?_
        rcases List.mem_append.1 hx with hx | hx
        · obtain ⟨y, hy, rfl⟩ := List.mem_map.1 hx; exact hL y (ham y hy) d hd hn
        · exact hL f hfm d hd (by rw [hf]; exact .clo g caps x d hx hn)
      simp only [callV]
      rw [← h f hfm, hf]
      exact ⟨r, by rw [← e1, e2]; exact h1, by rw [← e1]; exact h2, h3, h4, h5, h6⟩
    · exact hv.elim
  · exact hv.elim

theorem imp1_dn {id d : Nat} {r : AV} (hr : r.dn = false) (hd : d ≠ id) : ¬ DN (imp1 id r).1 d ∧ ∀ p ∈ (imp1 id r).2, p.1 = id ∧ ∀ e ∈ p.2.es, ¬ DN e d := by
  cases r with
  | new e sz es =>
    simp only [AV.dn] at hr
    refine ⟨fun hn => by cases hn; exact hd rfl, fun p hp => ?_⟩
    simp [imp1] at hp; subst hp
    exact ⟨rfl, fun e he hn => by have := (dnL_iff es).2 ⟨e, he, hn.dn⟩; rw [hr] at this; cases this⟩
  | nptr e sz es =>
    simp only [AV.dn] at hr
    refine ⟨fun hn => by cases hn; exact hd rfl, fun p hp => ?_⟩
    simp [imp1] at hp; subst hp
    exact ⟨rfl, fun e he hn => by have := (dnL_iff es).2 ⟨e, he, hn.dn⟩; rw [hr] at this; cases this⟩
  | _ => exact ⟨fun hn => Bool.noConfusion ((DN.dn hn).symm.trans hr), fun p hp => by simp [imp1] at hp⟩

theorem impL_dn {d : Nat} : ∀ (rs : List AV) (id : Nat), AV.dnL rs = false → (d < id ∨ id + rs.length ≤ d) →
    (∀ r ∈ (impL id rs).1, ¬ DN r d) ∧ ∀ p ∈ (impL id rs).2, id ≤ p.1 ∧ p.1 < id + rs.length ∧ ∀ e ∈ p.2.es, ¬ DN e d
  | [], id, _, _ => ⟨fun r hr => by simp [impL] at hr, fun p hp => by simp [impL] at hp⟩
  | r :: rs, id, hr, hd => by
    simp only [AV.dnL, Bool.or_eq_false_iff] at hr
    simp only [List.length_cons] at hd ⊢
    obtain ⟨h1, h2⟩ := imp1_dn (id := id) hr.1 (show d ≠ id by omega)
    obtain ⟨h3, h4⟩ := impL_dn (d := d) rs (id + 1) hr.2 (by omega)
    refine ⟨fun x hx => ?_, fun p hp => ?_⟩
    · simp only [impL, List.mem_cons] at hx
      rcases hx with rfl | hx
      · exact h1
      · exact h3 x hx
    · simp only [impL, List.mem_append] at hp
      rcases hp with hp | hp
      · obtain ⟨h5, h6⟩ := h2 p hp; exact ⟨by omega, by omega, h6⟩
      · obtain ⟨h5, h6, h7⟩ := h4 p hp; exact ⟨by omega, by omega, h7⟩

theorem callV_names {nm d : Nat} {op : Op} {v : AV} {bl : List (Nat × Blk)} (hd : d / 16 ≠ nm) (hv : callV S false nm op E σ v bl) : ¬ DN v d ∧ ∀ p ∈ bl, p.1 / 16 = nm ∧ ∀ e ∈ p.2.es, ¬ DN e d := by
  unfold callV at hv
  split at hv
  · split at hv
    · obtain ⟨r, _, _, hl, hr, rfl, rfl⟩ := hv
      have hr : r.dn = false := by simpa using hr
      cases r with
      | tup rs =>
        simp only [rlen] at hl
        obtain ⟨h1, h2⟩ := impL_dn (d := d) rs (16 * nm) hr (by omega)
        exact ⟨fun hn => (by cases hn with | tup _ c _ hc hn => exact h1 c hc hn), fun p hp => by obtain ⟨h3, h4, h5⟩ := h2 p hp; exact ⟨by omega, h5⟩⟩
      | clo g rs =>
        simp only [rlen] at hl
        obtain ⟨h1, h2⟩ := impL_dn (d := d) rs (16 * nm) hr (by omega)
        exact ⟨fun hn => (by cases hn with | clo _ _ c _ hc hn => exact h1 c hc hn), fun p hp => by obtain ⟨h3, h4, h5⟩ := h2 p hp; exact ⟨by omega, h5⟩⟩
      | _ => obtain ⟨h1, h2⟩ := imp1_dn (d := d) (id := 16 * nm) hr (by omega); exact ⟨h1, fun p hp => by obtain ⟨h3, h4⟩ := h2 p hp; exact ⟨by omega, h4⟩⟩
    · exact hv.elim
  · exact hv.elim

/-! ### What an operation with its guard yields -/

def nmO (S : Sp) (o : Oper) : Nat := S.b + o.dst.getD 99999

def val (S : Sp) (o : Oper) (E : Env) (σ : Store) (v : AV) (bl : List (Nat × Blk)) : Prop :=
  match cls S.P o.op o.type with
  | 0 => pureV S.P o.op E σ v ∧ bl = []
  | 1 => o.dst.isSome = true ∧ newV S.P (nmO S o) o.op o.type E v bl
  | 2 => callV S false (nmO S o) o.op E σ v bl
  | _ => False

def gval (S : Sp) (ops : Array Oper) (o : Oper) (E : Env) (σ : Store) (v : AV) (bl : List (Nat × Blk)) : Prop :=
  match o.guard with
  | none => val S o E σ v bl
  | some (j, want) => match (ops[j]?).bind (·.dst) with
    | none => False
    | some t => match E t with
      | .v (.bool b) => (b = want ∧ val S o E σ v bl) ∨ (b = !want ∧ v = .v undef ∧ bl = [])
      | .v (.tuple _) => v = .v undef ∧ bl = []
      | _ => False

theorem aop_val {o : Oper} {K Kb : Env → Store → Prop} (hc : cls S.P o.op o.type ≤ 2) : aop S false false o K Kb E σ ↔ ∃ v bl, val S o E σ v bl ∧ K (updO E o.dst v) (addS σ bl) := by
  unfold aop val nmO
  have : cls S.P o.op o.type = 0 ∨ cls S.P o.op o.type = 1 ∨ cls S.P o.op o.type = 2 := by omega
  rcases this with h | h | h <;> rw [h]
  · simp only
    constructor
    · rintro ⟨v, h1, h2⟩; exact ⟨v, [], ⟨h1, rfl⟩, h2⟩
    · rintro ⟨v, bl, ⟨h1, rfl⟩, h2⟩; exact ⟨v, h1, h2⟩
  · simp only [kE, kS, Bool.false_eq_true, if_false]
    constructor
    · rintro ⟨d, hd, v, bl, h1, h2⟩; exact ⟨v, bl, ⟨by simp [hd], by simpa [hd] using h1⟩, by simpa [hd] using h2⟩
    · rintro ⟨v, bl, ⟨hs, h1⟩, h2⟩
      obtain ⟨d, hd⟩ := Option.isSome_iff_exists.1 hs
      exact ⟨d, hd, v, bl, by simpa [hd] using h1, by simpa [hd] using h2⟩
  · simp only [kE, kS, Bool.false_eq_true, if_false, false_and, or_false]

theorem aop_up {bi : Bool} {o : Oper} {K Kb Kb' : Env → Store → Prop} (hc : cls S.P o.op o.type ≤ 2) (h : aop S false false o K Kb E σ) : aop S false bi o K Kb' E σ := by
  unfold aop at *
  have : cls S.P o.op o.type = 0 ∨ cls S.P o.op o.type = 1 ∨ cls S.P o.op o.type = 2 := by omega
  rcases this with h' | h' | h' <;> rw [h'] at h ⊢
  · exact h
  · exact h
  · simp only [Bool.false_eq_true, false_and, or_false] at h
    exact .inl h

theorem gop_val {ops : Array Oper} {o : Oper} {K Kb : Env → Store → Prop} (hc : cls S.P o.op o.type ≤ 2) : gop S false false ops o K Kb E σ ↔ ∃ v bl, gval S ops o E σ v bl ∧ K (updO E o.dst v) (addS σ bl) := by
  unfold gop gval
  cases hg : o.guard with
  | none => exact aop_val hc
  | some p =>
    obtain ⟨j, want⟩ := p
    simp only
    cases ht : (ops[j]?).bind (·.dst) with
    | none => simp
    | some t =>
      simp only
      have other : (∀ b, E t ≠ .v (.bool b)) → (∀ vs, E t ≠ .v (.tuple vs)) → ((match E t with
          | .v (.bool b) => (b = want → aop S false false o K Kb (upd E t (.v (.bool want))) σ) ∧ (b = !want → K (updO (upd E t (.v (.bool !want))) o.dst (.v undef)) σ)
          | .v (.tuple _) => K (updO E o.dst (.v undef)) σ
          | _ => False) ↔ ∃ v bl, (match E t with
            | .v (.bool b) => (b = want ∧ val S o E σ v bl) ∨ (b = !want ∧ v = .v undef ∧ bl = [])
            | .v (.tuple _) => v = .v undef ∧ bl = []
            | _ => False) ∧ K (updO E o.dst v) (addS σ bl)) := fun h1 h2 => by
        split
        · rename_i h; exact absurd h (h1 _)
        · rename_i h; exact absurd h (h2 _)
        · simp
      by_cases hb : ∃ b, E t = .v (.bool b)
      · obtain ⟨b, hb⟩ := hb
        simp only [hb]
        have h1 : b = want → upd E t (.v (.bool want)) = E := fun e => upd_self E t _ (by rw [hb, e])
        have h2 : b = (!want) → upd E t (.v (.bool !want)) = E := fun e => upd_self E t _ (by rw [hb, e])
        by_cases e : b = want
        · have e2 : ¬ b = !want := by subst e; cases b <;> simp
          constructor
          · rintro ⟨h3, _⟩
            have h3 := h3 e; rw [h1 e, aop_val hc] at h3
            obtain ⟨v, bl, h3, h4⟩ := h3
            exact ⟨v, bl, .inl ⟨e, h3⟩, h4⟩
          · rintro ⟨v, bl, h3, h4⟩
            refine ⟨fun _ => ?_, fun h => absurd h e2⟩
            rw [h1 e, aop_val hc]
            rcases h3 with ⟨_, h3⟩ | ⟨h3, _⟩
            · exact ⟨v, bl, h3, h4⟩
            · exact absurd h3 e2
        · have e2 : b = !want := by cases b <;> cases want <;> simp_all
          constructor
          · rintro ⟨_, h4⟩
            have h4 := h4 e2; rw [h2 e2] at h4
            exact ⟨_, [], .inr ⟨e2, rfl, rfl⟩, h4⟩
          · rintro ⟨v, bl, h3, h4⟩
            refine ⟨fun h => absurd h e, fun _ => ?_⟩
            rw [h2 e2]
            rcases h3 with ⟨h3, _⟩ | ⟨_, rfl, rfl⟩
            · exact absurd h3 e
            · exact h4
      · by_cases hb2 : ∃ vs, E t = .v (.tuple vs)
        · obtain ⟨vs, hb2⟩ := hb2
          simp only [hb2]
          constructor
          · intro h; exact ⟨_, [], ⟨rfl, rfl⟩, h⟩
          · rintro ⟨v, bl, ⟨rfl, rfl⟩, h⟩; exact h
        · exact other (fun b h => hb ⟨b, h⟩) (fun vs h => hb2 ⟨vs, h⟩)

end
end Go.Vai

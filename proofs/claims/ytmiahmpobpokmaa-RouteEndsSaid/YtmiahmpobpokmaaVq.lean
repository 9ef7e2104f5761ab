/- Regions that draw their order: what an operation yields hangs on what it looks at. -/
import Derived.Test.YtmiahmpobpokmaaVn
namespace Go.Vai
open Go.RowKit

section
variable {P : Program} {S : Sp} {C : Fx} {E E' : Env} {σ σ' : Store} {a : Act} {w : World} {ρ : Nat → Option Nat} {Im : Nat → Prop} {M : Str}

theorem cellsAt_congr {x : AV} {K : List AV → Nat → Prop} (hc : ∀ id, Names x id → σ' id = σ id) (h : cellsAt σ x K) : cellsAt σ' x K := by
  unfold cellsAt at *
  split at h
  · exact h
  · rename_i id sz i j
    obtain ⟨k, hk, r⟩ := h
    exact ⟨k, by rw [hc id (.ptr ..)]; exact hk, r⟩
  · exact h

theorem bound_congr {x : Option Operand} {d : Nat} {K : Nat → Prop} (h : ∀ y, x = some y → ev E y = ev E' y) (hb : bound E x d K) : bound E' x d K := by
  unfold bound at *
  split at hb
  · exact hb
  · rename_i y; rw [← h y rfl]; exact hb

theorem bound_mono {x : Option Operand} {d : Nat} {K K' : Nat → Prop} (hK : ∀ n, K n → K' n) (hb : bound E x d K) : bound E x d K' := by
  cases x with
  | none => exact hK _ hb
  | some y =>
    unfold bound at *
    simp only at *
    split at hb
    · rename_i h; first | (rw [h]; exact ⟨hb.1, hK _ hb.2⟩) | exact ⟨hb.1, hK _ hb.2⟩
    · exact hb.elim

theorem pureV_congr {op : Op} {r : AV} (h : ∀ x ∈ op.operands, ev E x = ev E' x) (hc : ∀ x ∈ op.operands, ∀ id, Names (ev E x) id → σ' id = σ id) (hv : pureV P op E σ r) : pureV P op E' σ' r := by
  have pairs : ∀ parts : Array (Nat × Operand), (∀ p ∈ parts.toList, ev E p.2 = ev E' p.2) → (parts.toList.map fun p => (p.1, ev E p.2)) = parts.toList.map fun p => (p.1, ev E' p.2) := fun parts hp =>
    List.map_congr_left fun p hm => by rw [hp p hm]
  unfold pureV at hv
  split at hv
  · rename_i x; simp only [pureV]; rw [← h x (by simp [Op.operands])]; exact hv
  · rename_i x; simp only [pureV]; rw [← h x (by simp [Op.operands])]; exact hv
  · rename_i c x y; simp only [pureV]; rw [← h x (by simp [Op.operands]), ← h y (by simp [Op.operands]), ← h c (by simp [Op.operands])]; exact hv
  · rename_i t x; simp only [pureV]; rw [← h x (by simp [Op.operands])]; exact cellsAt_congr (hc x (by simp [Op.operands])) hv
  · rename_i x; simp only [pureV]; rw [← h x (by simp [Op.operands])]; exact hv
  · rename_i o t x y _; simp only [pureV]; rw [← h x (by simp [Op.operands]), ← h y (by simp [Op.operands])]; exact hv
  · rename_i t parts; simp only [pureV]; rw [← pairs parts fun p hp => h p.2 (by simp [Op.operands]; exact ⟨p.1, by simpa using hp⟩)]; exact hv
  · rename_i o _ x; simp only [pureV]; rw [← h x (by simp [Op.operands])]; exact hv
  · rename_i s t x; simp only [pureV]; rw [← h x (by simp [Op.operands])]; exact hv
  · rename_i f first cs; simp only [pureV]
    obtain ⟨h1, h2⟩ := hv
    exact ⟨h1, by rw [h2]; congr 1; exact List.map_congr_left fun x hx => h x (by simp [Op.operands]; exact .inr (by simpa using hx))⟩
  · rename_i s x f; simp only [pureV]; rw [← h x (by simp [Op.operands])]; exact hv
  · rename_i s x f; simp only [pureV]; rw [← h x (by simp [Op.operands])]; exact hv
  · rename_i t x i; simp only [pureV]; rw [← h x (by simp [Op.operands]), ← h i (by simp [Op.operands])]; exact hv
  · rename_i t x i; simp only [pureV]; rw [← h x (by simp [Op.operands]), ← h i (by simp [Op.operands])]; exact hv
  · rename_i x i; simp only [pureV]; rw [← h x (by simp [Op.operands])]; exact hv
  · rename_i t x lo hi
    have hb : ∀ {d K}, bound E hi d K → bound E' hi d K := fun hb => bound_congr (fun y hy => h y (by subst hy; simp [Op.operands])) hb
    have hb' : ∀ {d K}, bound E lo d K → bound E' lo d K := fun hb => bound_congr (fun y hy => h y (by subst hy; simp [Op.operands])) hb
    have mono : ∀ {x : Option Operand} {d : Nat} {K K' : Nat → Prop}, (∀ n, K n → K' n) → bound E x d K → bound E x d K' := fun hK hb => bound_mono hK hb
    simp only [pureV]; rw [← h x (by simp [Op.operands])]
    rcases hv with ⟨e, h1, n, h2, h3⟩ | ⟨h1, n, h2, h3⟩
    · exact .inl ⟨e, h1, n, h2, hb (mono (fun _ => hb') h3)⟩
    · exact .inr ⟨h1, n, h2, hb (mono (fun _ => hb') h3)⟩
  · rename_i args ats
    simp only [pureV]
    split at hv
    · rename_i x t ha ht
      have hm : x ∈ args := Array.mem_toList_iff.1 (by rw [ha]; simp)
      have hx := h x (by simp [Op.operands, Call.operands, hm])
      simp only [ha, ht, ← hx]; exact hv
    · exact hv.elim
  · rename_i args ats
    simp only [pureV]
    rw [← List.map_congr_left (f := ev E) (g := ev E') fun x hx => h x (by simp [Op.operands, Call.operands]; simpa using hx)]; exact hv
  · rename_i args ats
    simp only [pureV]
    rw [← List.map_congr_left (f := ev E) (g := ev E') fun x hx => h x (by simp [Op.operands, Call.operands]; simpa using hx)]; exact hv
  · exact hv.elim

/-- Which blocks it names, seen to its bottom. -/
inductive DN : AV → Nat → Prop
  | own (id sz i n : Nat) : DN (.own id sz i n) id
  | ptr (id sz i j : Nat) : DN (.ptr id sz i j) id
  | mref (id : Nat) : DN (.mref id) id
  | agg (cs : List AV) (c : AV) (id : Nat) (hc : c ∈ cs) (h : DN c id) : DN (.agg cs) id
  | tup (cs : List AV) (c : AV) (id : Nat) (hc : c ∈ cs) (h : DN c id) : DN (.tup cs) id
  | clo (g : Nat) (cs : List AV) (c : AV) (id : Nat) (hc : c ∈ cs) (h : DN c id) : DN (.clo g cs) id
  | sl (g : Nat) (cs : List AV) (c : AV) (id : Nat) (hc : c ∈ cs) (h : DN c id) : DN (.sl g cs) id
  | mp (cs : List AV) (c : AV) (id : Nat) (hc : c ∈ cs) (h : DN c id) : DN (.mp cs) id
  | pt (e : AV) (j id : Nat) (h : DN e id) : DN (.pt e j) id
  | new (g s : Nat) (cs : List AV) (c : AV) (id : Nat) (hc : c ∈ cs) (h : DN c id) : DN (.new g s cs) id
  | nptr (g s : Nat) (cs : List AV) (c : AV) (id : Nat) (hc : c ∈ cs) (h : DN c id) : DN (.nptr g s cs) id

theorem DN.of {a : AV} {d : Nat} (h : Names a d) : DN a d := by
  induction h with
  | own => exact .own ..
  | ptr => exact .ptr ..
  | mref => exact .mref ..
  | agg cs c id hc _ ih => exact .agg cs c id hc ih
  | tup cs c id hc _ ih => exact .tup cs c id hc ih
  | clo g cs c id hc _ ih => exact .clo g cs c id hc ih

theorem dnL_iff (cs : List AV) : AV.dnL cs = true ↔ ∃ c ∈ cs, c.dn = true := by
  induction cs with
  | nil => simp [AV.dnL]
  | cons c cs ih => simp [AV.dnL, ih]

theorem DN.dn {a : AV} {d : Nat} (h : DN a d) : a.dn = true := by
  induction h with
  | own => rfl
  | ptr => rfl
  | mref => rfl
  | pt e j id _ ih => exact ih
  | _ => simp only [AV.dn]; exact (dnL_iff _).2 ⟨_, by assumption, by assumption⟩

theorem DN.cells {v c : AV} {id : Nat} (hc : c ∈ v.cells) (h : DN c id) : DN v id := by
  cases v with
  | agg cs => exact .agg cs c id hc h
  | _ => simp only [AV.cells, List.mem_singleton] at hc; subst hc; exact h

theorem DN.cell {v : AV} {id : Nat} (h : DN v id) : ∃ c ∈ v.cells, DN c id := by
  cases v with
  | agg cs => cases h with | agg _ c _ hc h => exact ⟨c, hc, h⟩
  | _ => exact ⟨_, by simp [AV.cells], h⟩

theorem IRep.dnless {x : AV} {y : Value} (h : IRep w Im x y) (id : Nat) : ¬ DN x id := by
  induction h with
  | agg cs ys hl _ _ ih => intro hn; cases hn with | agg _ c _ hc hn =>
      obtain ⟨j, hj⟩ := List.mem_iff_getElem?.1 hc
      have hlt := (List.getElem?_eq_some_iff.1 hj).1
      exact ih j c _ hj (List.getElem?_eq_getElem (hl ▸ hlt)) hn
  | tup cs ys hl _ ih => intro hn; cases hn with | tup _ c _ hc hn =>
      obtain ⟨j, hj⟩ := List.mem_iff_getElem?.1 hc
      have hlt := (List.getElem?_eq_some_iff.1 hj).1
      exact ih j c _ hj (List.getElem?_eq_getElem (hl ▸ hlt)) hn
  | clo g cs ys hl _ ih => intro hn; cases hn with | clo _ _ c _ hc hn =>
      obtain ⟨j, hj⟩ := List.mem_iff_getElem?.1 hc
      have hlt := (List.getElem?_eq_some_iff.1 hj).1
      exact ih j c _ hj (List.getElem?_eq_getElem (hl ▸ hlt)) hn
  | sl sz es b o cap f hIm hcap hsz hcc _ ih => intro hn; cases hn with | sl _ _ e _ he hn =>
      obtain ⟨c, hc, hn⟩ := hn.cell
      obtain ⟨i, hi⟩ := List.mem_iff_getElem?.1 he
      obtain ⟨j, hj⟩ := List.mem_iff_getElem?.1 hc
      exact ih i e j c hi hj hn
  | slnil sz a cap => intro hn; cases hn with | sl _ _ e _ he hn => simp at he
  | mpnil => intro hn; cases hn with | mp _ e _ he hn => simp at he
  | mp es b ents clk f hIm hb hl hes _ ih => intro hn; cases hn with | mp _ e _ he hn =>
      obtain ⟨i, hi⟩ := List.mem_iff_getElem?.1 he
      have hlt : i < ents.size := by rw [← hl]; exact (List.getElem?_eq_some_iff.1 hi).1
      have h1 := hes i _ (Array.getElem?_eq_getElem hlt)
      rw [hi] at h1; cases h1
      cases hn with | tup _ c _ hc hn =>
        simp at hc
        rcases hc with rfl | rfl
        · cases hn
        · exact ih i _ (Array.getElem?_eq_getElem hlt) hn
  | pt e j b o f hIm hcc _ ih => intro hn; cases hn with | pt _ _ _ hn =>
      obtain ⟨c, hc, hn⟩ := hn.cell
      obtain ⟨j, hj⟩ := List.mem_iff_getElem?.1 hc
      exact ih j c hj hn
  | _ => intro hn; cases hn

theorem Rep.dn {x : AV} {y : Value} {d : Nat} (h : Rep w ρ Im x y) (hn : DN x d) : Names x d := by
  induction h with
  | im a y h => exact absurd hn (h.dnless d)
  | agg cs ys hl _ _ ih => cases hn with | agg _ c _ hc hn =>
      obtain ⟨j, hj⟩ := List.mem_iff_getElem?.1 hc
      have hlt := (List.getElem?_eq_some_iff.1 hj).1
      exact .agg cs c d hc (ih j c _ hj (List.getElem?_eq_getElem (hl ▸ hlt)) hn)
  | tup cs ys hl _ ih => cases hn with | tup _ c _ hc hn =>
      obtain ⟨j, hj⟩ := List.mem_iff_getElem?.1 hc
      have hlt := (List.getElem?_eq_some_iff.1 hj).1
      exact .tup cs c d hc (ih j c _ hj (List.getElem?_eq_getElem (hl ▸ hlt)) hn)
  | clo g cs ys hl _ ih => cases hn with | clo _ _ c _ hc hn =>
      obtain ⟨j, hj⟩ := List.mem_iff_getElem?.1 hc
      have hlt := (List.getElem?_eq_some_iff.1 hj).1
      exact .clo g cs c d hc (ih j c _ hj (List.getElem?_eq_getElem (hl ▸ hlt)) hn)
  | ownNil => cases hn; exact .own ..
  | own => cases hn; exact .own ..
  | ownAt => cases hn; exact .own ..
  | ptr => cases hn; exact .ptr ..
  | mref => cases hn; exact .mref ..

theorem partOf_names {t : TypeId} {cs : List AV} {off d : Nat} {r : AV} (h : partOf P t cs off r) (hn : DN r d) : ∃ c ∈ cs, DN c d := by
  unfold partOf at h
  split at h
  · obtain ⟨_, _, rfl⟩ := h
    cases hn with | agg _ c _ hc hn => exact ⟨c, List.mem_of_mem_drop (List.mem_of_mem_take hc), hn⟩
  · exact ⟨r, List.mem_of_getElem? h, hn⟩
  · exact h.elim

theorem slIdx_names {e : TypeId} {x r : AV} {n : Int} {d : Nat} (h : slIdx P e x n r) (hn : DN r d) : DN x d := by
  unfold slIdx at h
  split at h
  · obtain ⟨_, _, _, c, hc, rfl⟩ := h; cases hn with | pt _ _ _ hn => exact .sl _ _ c d (List.mem_of_getElem? hc) hn
  · obtain ⟨_, _, _, _, rfl⟩ := h; cases hn; exact .own ..
  · exact h.elim

theorem slCut_names {e : TypeId} {x r : AV} {l m : Nat} {d : Nat} (h : slCut P e x l m r) (hn : DN r d) : DN x d := by
  unfold slCut at h
  split at h
  · obtain ⟨_, _, _, _, rfl⟩ := h; cases hn with | sl _ _ c _ hc hn => exact .sl _ _ c d (List.mem_of_mem_drop (List.mem_of_mem_take hc)) hn
  · obtain ⟨_, _, _, _, rfl⟩ := h; cases hn; exact .own ..
  · exact h.elim

theorem bound_some {x : Option Operand} {d : Nat} {K : Nat → Prop} (h : bound E x d K) : ∃ n, K n := by
  unfold bound at h
  split at h
  · exact ⟨_, h⟩
  · split at h
    · exact ⟨_, h.2⟩
    · exact h.elim

theorem ofC_dn {x : Value} {id : Nat} (h : DN (ofC x) id) : False := by
  unfold ofC at h
  split at h
  · split at h
    · cases h with | agg _ c _ hc h => obtain ⟨y, _, rfl⟩ := List.mem_map.1 hc; cases h
    · cases h
  · cases h with | tup _ c _ hc h => obtain ⟨y, _, rfl⟩ := List.mem_map.1 hc; cases h
  · cases h

theorem fillA_names {place : Nat → Option (Nat × Nat)} {d : Nat} : ∀ (l : List (Nat × AV)) (cs cs' : List AV), fillA place cs l = some cs' → ∀ c ∈ cs', DN c d → (∃ c ∈ cs, DN c d) ∨ ∃ p ∈ l, DN p.2 d
  | [], cs, cs', h, c, hc, hn => by simp [fillA] at h; subst h; exact .inl ⟨c, hc, hn⟩
  | (i, v) :: l, cs, cs', h, c, hc, hn => by
    simp only [fillA] at h
    split at h
    · cases h
    · split at h
      · rcases fillA_names l _ cs' h c hc hn with ⟨c', hc', hn'⟩ | ⟨p, hp, hn'⟩
        · simp only [List.mem_append] at hc'
          rcases hc' with (hc' | hc') | hc'
          · exact .inl ⟨c', List.mem_of_mem_take hc', hn'⟩
          · exact .inr ⟨(i, v), by simp, DN.cells hc' hn'⟩
          · exact .inl ⟨c', List.mem_of_mem_drop hc', hn'⟩
        · exact .inr ⟨p, by simp [hp], hn'⟩
      · cases h

/-- What turns nothing yields no new name. -/
theorem pureV_names {op : Op} {r : AV} {d : Nat} (hev : ∀ x ∈ op.operands, ¬ DN (ev E x) d) (hst : ∀ id k, σ id = some k → ∀ e ∈ k.es, ¬ DN e d) (hv : pureV P op E σ r) : ¬ DN r d := fun hn => by
  have bi : ∀ {op k m k' n r}, binI op k m k' n r → ¬ DN r d := fun {op k m k' n r} h hn => by
    unfold binI at h; split at h <;> (first | (obtain ⟨_, rfl⟩ := h) | (obtain ⟨_, _, rfl⟩ := h)) <;> cases hn
  have bs : ∀ {op m n r}, binS op m n r → ¬ DN r d := fun {op m n r} h hn => by
    unfold binS at h; split at h <;> first | exact h.elim | (subst h; cases hn) | (obtain ⟨_, rfl⟩ := h; cases hn)
  unfold pureV at hv
  split at hv
  · subst hv; exact hev _ (by simp [Op.operands]) hn
  · subst hv; exact hev _ (by simp [Op.operands]) hn
  · split at hv
    · subst hv; split at hn <;> exact hev _ (by simp [Op.operands]) hn
    · exact hv.elim
  · rename_i t x
    unfold cellsAt at hv
    split at hv
    · rename_i e j hx
      obtain ⟨c, hc, hcn⟩ := partOf_names hv hn
      exact hev x (by simp [Op.operands]) (by rw [hx]; exact .pt e j d (hcn.cells hc))
    · obtain ⟨k, hk, _, e, he, hp⟩ := hv
      obtain ⟨c, hc, hcn⟩ := partOf_names hp hn
      exact hst _ k hk e (List.mem_of_getElem? he) (DN.cells hc hcn)
    · exact hv.elim
  · rename_i x
    split at hv
    · rename_i hx; subst hv; exact hev x (by simp [Op.operands]) (hx ▸ hn)
    · rename_i hx; subst hv; exact hev x (by simp [Op.operands]) (hx ▸ hn)
    · rename_i hx; subst hv; exact hev x (by simp [Op.operands]) (hx ▸ hn)
    · exact hv.elim
  · split at hv
    · exact bi hv hn
    · exact bs hv hn
    · obtain ⟨_, ⟨_, rfl⟩ | ⟨_, rfl⟩⟩ := hv <;> cases hn
    · obtain ⟨_, _, _, _, ⟨_, rfl⟩ | ⟨_, rfl⟩⟩ := hv <;> cases hn
    · obtain ⟨_, _, ⟨_, rfl⟩ | ⟨_, rfl⟩⟩ := hv <;> cases hn
    · exact hv.elim
  · rename_i t parts
    obtain ⟨z, hz, _, ⟨fs, _, _, cs, hf, rfl⟩ | ⟨m, e, _, _, cs, hf, rfl⟩⟩ := hv
    all_goals
      cases hn with | agg _ c _ hc hn =>
        rcases fillA_names _ _ _ hf c hc hn with ⟨c', hc', hn'⟩ | ⟨p, hp, hn'⟩
        · exact ofC_dn (DN.cells hc' hn')
        · obtain ⟨q, hq, rfl⟩ := List.mem_map.1 hp; exact hev _ (by simp [Op.operands]; exact ⟨q.1, by simpa using hq⟩) hn'
  · split at hv
    · subst hv; cases hn
    · subst hv; cases hn
    · exact hv.elim
  · split at hv
    · obtain ⟨_, rfl⟩ := hv; cases hn
    · exact hv.elim
  · obtain ⟨_, rfl⟩ := hv
    cases hn with | clo _ _ c _ hc hn => obtain ⟨x, hx, rfl⟩ := List.mem_map.1 hc; exact hev _ (by simp [Op.operands]; exact .inr (by simpa using hx)) hn
  · rename_i s x f
    obtain ⟨_, _, off, t, _, _, hv⟩ := hv
    split at hv
    · rename_i hx; subst hv; cases hn with | pt _ _ _ hn => exact hev x (by simp [Op.operands]) (hx ▸ .pt _ _ _ hn)
    · rename_i hx; subst hv; cases hn; exact hev x (by simp [Op.operands]) (hx ▸ .ptr ..)
    · exact hv.elim
  · rename_i s x f
    obtain ⟨_, _, off, t, _, hv⟩ := hv
    split at hv
    · rename_i hx
      obtain ⟨c, hc, hcn⟩ := partOf_names hv hn
      exact hev x (by simp [Op.operands]) (hx ▸ .agg _ c _ hc hcn)
    · exact hv.elim
  · rename_i t x i
    split at hv
    · rcases hv with ⟨e, _, hv⟩ | ⟨m, e, _, _, _, _, hv⟩
      · exact hev x (by simp [Op.operands]) (slIdx_names hv hn)
      · split at hv
        · rename_i hx; subst hv; cases hn with | pt _ _ _ hn => exact hev x (by simp [Op.operands]) (hx ▸ .pt _ _ _ hn)
        · rename_i hx; subst hv; cases hn; exact hev x (by simp [Op.operands]) (hx ▸ .ptr ..)
        · exact hv.elim
    · exact hv.elim
  · rename_i t x i
    split at hv
    · obtain ⟨_, _, c, _, rfl⟩ := hv; cases hn
    · rename_i hx
      obtain ⟨m, e, _, _, _, _, hv⟩ := hv
      obtain ⟨c, hc, hcn⟩ := partOf_names hv hn
      exact hev x (by simp [Op.operands]) (hx ▸ .agg _ c _ hc hcn)
    · exact hv.elim
  · rename_i x i
    split at hv
    · rename_i vs hx; exact hev x (by simp [Op.operands]) (hx ▸ .tup _ r _ (List.mem_of_getElem? hv) hn)
    · exact hv.elim
  · rename_i t x lo hi
    rcases hv with ⟨e, h1, n, h2, h3⟩ | ⟨h1, n, h2, h3⟩
    · obtain ⟨_, h3⟩ := bound_some h3
      obtain ⟨_, h3⟩ := bound_some h3
      exact hev x (by simp [Op.operands]) (slCut_names h3 hn)
    · obtain ⟨_, h3⟩ := bound_some h3
      obtain ⟨_, h3⟩ := bound_some h3
      unfold strCut at h3
      split at h3
      · obtain ⟨_, _, rfl⟩ := h3; cases hn
      · exact h3.elim
  · split at hv
    · rcases hv with ⟨_, hv⟩ | ⟨_, hv⟩ | ⟨_, _, _, rfl⟩
      · split at hv <;> first | exact hv.elim | (subst hv; cases hn)
      · split at hv <;> first | exact hv.elim | (subst hv; cases hn)
      · cases hn
    · exact hv.elim
  · split at hv <;> first | exact hv.elim | (subst hv; cases hn)
  · split at hv <;> first | exact hv.elim | (subst hv; cases hn)
  · exact hv.elim

end
end Go.Vai

/- Regions that draw their order: the whole. -/
import Derived.Test.YtmiahmpobpokmaaVq3
namespace Go.Vai
open Go.RowKit

section
variable {S : Sp} {C : Fx} {E E' : Env} {σ σ' : Store} {a : Act} {w : World} {ρ : Nat → Option Nat} {Im : Nat → Prop} {M : Str} {ops : Array Oper}

def opsAt (ops : Array Oper) (l : List Nat) : List Oper := l.filterMap fun i => ops[i]?

/-- Operations by their places. -/
def awpIx (S : Sp) (ops : Array Oper) : List Nat → (Env → Store → Prop) → Env → Store → Prop
  | [], K => K
  | i :: l, K => match ops[i]? with
    | some o => gop S false (bar ops i) ops o (awpIx S ops l K) (struck S true (opsAt ops l) (awpIx S ops l K))
    | none => awpIx S ops l K

theorem opsAt_range : ∀ (l : List Oper) (i : Nat), (∀ j, j < l.length → l[j]? = ops[i + j]?) → opsAt ops (List.range' i l.length) = l
  | [], i, _ => rfl
  | o :: l, i, h => by
    have h0 : ops[i]? = some o := by simpa using (h 0 (by simp)).symm
    rw [List.length_cons, List.range'_succ]
    simp only [opsAt, List.filterMap_cons, h0]
    congr 1
    exact opsAt_range l (i + 1) fun j hj => by have := h (j + 1) (by simpa using hj); simpa [Nat.add_assoc, Nat.add_comm 1 j] using this

theorem awpOps_ix : ∀ (l : List Oper) (i : Nat) (K : Env → Store → Prop), (∀ j, j < l.length → l[j]? = ops[i + j]?) → awpOps S true ops i l K = awpIx S ops (List.range' i l.length) K
  | [], i, K, _ => rfl
  | o :: l, i, K, h => by
    have h0 : ops[i]? = some o := by simpa using (h 0 (by simp)).symm
    have h' : ∀ j, j < l.length → l[j]? = ops[i + 1 + j]? := fun j hj => by have := h (j + 1) (by simpa using hj); simpa [Nat.add_assoc, Nat.add_comm 1 j] using this
    rw [List.length_cons, List.range'_succ]
    simp only [awpOps, awpIx, h0, Bool.not_true, Bool.false_or]
    rw [awpOps_ix l (i + 1) K h', opsAt_range l (i + 1) h']

/-! ### What the check says -/

theorem drawOK_at {P : Program} (hd : drawOK P ops = true) {i : Nat} {oi : Oper} (hi : ops[i]? = some oi) :
    (∀ e ∈ oi.after, Region.binds .any e = true → e.on < i) ∧ (∀ j oj, i < j → ops[j]? = some oj → (waits ops ops.size j i = true ∨ (oi.apart ops oj = true ∧ cls P oi.op oi.type ≤ 2 ∧ cls P oj.op oj.type ≤ 2)) ∧
      (isNm P oi = true → isNm P oj = true → oi.dst.getD 99999 ≠ oj.dst.getD 99999)) := by
  have hlt : i < ops.size := (Array.getElem?_eq_some_iff.1 hi).1
  have h := List.all_eq_true.1 hd i (List.mem_range.2 hlt)
  simp only [hi, Bool.and_eq_true, Array.all_eq_true_iff_forall_mem] at h
  obtain ⟨⟨h1, _⟩, h2⟩ := h
  refine ⟨fun e he hb => ?_, fun j oj hij hj => ?_⟩
  · have := h1 e he; simpa [hb] using this
  · have hjlt : j < ops.size := (Array.getElem?_eq_some_iff.1 hj).1
    have := List.all_eq_true.1 h2 j (List.mem_range.2 hjlt)
    simp only [hj, Bool.or_eq_true, decide_eq_true_eq, Bool.and_eq_true, Bool.not_eq_true', bne_iff_ne, ne_eq] at this
    rcases this with this | ⟨h3, h4⟩
    · omega
    · refine ⟨h3.imp_right fun h => ⟨h.1.1, h.1.2, h.2⟩, fun ha hb => ?_⟩
      rcases h4 with (h4 | h4) | h4
      · rw [ha] at h4; cases h4
      · rw [hb] at h4; cases h4
      · exact h4

theorem any_mem {α : Type} {xs : Array α} {p : α → Bool} (h : xs.any p = true) : ∃ e ∈ xs, p e = true := by
  rw [← Array.any_toList] at h
  obtain ⟨e, he, hp⟩ := List.any_eq_true.1 h
  exact ⟨e, Array.mem_toList_iff.1 he, hp⟩

theorem waits_lt {P : Program} (hd : drawOK P ops = true) : ∀ (n j i : Nat), waits ops n j i = true → i < j
  | 0, _, _, h => by simp [waits] at h
  | n + 1, j, i, h => by
    simp only [waits] at h
    split at h
    · rename_i o ho
      obtain ⟨e, he, hb⟩ := any_mem h
      simp only [Bool.and_eq_true, Bool.or_eq_true, beq_iff_eq] at hb
      have h1 := (drawOK_at hd ho).1 e he hb.1
      rcases hb.2 with hb | hb
      · omega
      · have := waits_lt hd n e.on i hb; omega
    · cases h

/-- What one waits for has come, where all that has come has what it waits for behind it. -/
theorem waits_listed {listed : Array Bool} (hcl : ∀ i o, ops[i]? = some o → listed.getD i false = true → ∀ e ∈ o.after, Region.binds .any e = true → listed.getD e.on false = true) :
    ∀ (n i j : Nat) (o : Oper), ops[i]? = some o → (∀ e ∈ o.after, Region.binds .any e = true → listed.getD e.on false = true) → waits ops n i j = true → listed.getD j false = true
  | 0, _, _, _, _, _, h => by simp [waits] at h
  | n + 1, i, j, o, ho, hall, h => by
    simp only [waits, ho] at h
    obtain ⟨e, he, hb⟩ := any_mem h
    simp only [Bool.and_eq_true, Bool.or_eq_true, beq_iff_eq] at hb
    have h1 := hall e he hb.1
    rcases hb.2 with hb2 | hb2
    · rw [← hb2]; exact h1
    · cases n with
      | zero => simp [waits] at hb2
      | succ n =>
        cases hoe : ops[e.on]? with
        | none => simp [waits, hoe] at hb2
        | some oe => exact waits_listed hcl (n + 1) e.on j oe hoe (hcl e.on oe hoe h1) hb2

theorem bar_false {P : Program} (hd : drawOK P ops = true) {i j : Nat} (hj : j < i) (hi : i < ops.size) (h : waits ops ops.size i j = false) : bar ops i = false ∧ bar ops j = false := by
  have hno : waits ops ops.size j i = false := by
    cases hw : waits ops ops.size j i with
    | false => rfl
    | true => have := waits_lt hd _ _ _ hw; omega
  constructor
  · cases hb : bar ops i with
    | false => rfl
    | true =>
      have := List.all_eq_true.1 hb j (List.mem_range.2 (by omega))
      simp [h, hno] at this; omega
  · cases hb : bar ops j with
    | false => rfl
    | true =>
      have := List.all_eq_true.1 hb i (List.mem_range.2 hi)
      simp [h, hno] at this; omega

/-- All names of these operations are free. -/
def AllDC (S : Sp) (ops : Array Oper) (l : List Nat) (E : Env) (σ : Store) : Prop := ∀ k ∈ l, ∀ o, ops[k]? = some o → isNm S.P o = true → DC S.N (nmO S o) E σ

theorem nm_ne (hd : drawOK S.P ops = true) {i j : Nat} {oi oj : Oper} (hi : ops[i]? = some oi) (hj : ops[j]? = some oj) (hne : i ≠ j) (h1 : isNm S.P oi = true) (h2 : isNm S.P oj = true) : nmO S oi ≠ nmO S oj := by
  unfold nmO
  rcases Nat.lt_or_ge i j with h | h
  · exact fun e => ((drawOK_at hd hi).2 j oj h hj).2 h1 h2 (Nat.add_left_cancel e)
  · exact fun e => ((drawOK_at hd hj).2 i oi (by omega) hi).2 h2 h1 (Nat.add_left_cancel e.symm)

theorem AllDC.step (hall : ∀ (i : Nat) (o : Oper), ops[i]? = some o → Oper.fits S.P S.N o = true) (hd : drawOK S.P ops = true) {i : Nat} {oi : Oper} (hi : ops[i]? = some oi) {l : List Nat} (hn : i ∉ l) (h : AllDC S ops l E σ) {v : AV} {bl : List (Nat × Blk)}
    (hv : gval S ops oi E σ v bl) : AllDC S ops l (updO E oi.dst v) (addS σ bl) := fun k hk o ho hnm =>
  (h k hk o ho hnm).step (hall i oi hi) hv fun h1 => nm_ne hd ho hi (fun e => hn (e ▸ hk)) hnm h1

/-- One that may come comes first. -/
theorem bubble (hall : ∀ (i : Nat) (o : Oper), ops[i]? = some o → Oper.fits S.P S.N o = true) (hd : drawOK S.P ops = true) {i : Nat} {oi : Oper} (hi : ops[i]? = some oi) {post : List Nat} {K : Env → Store → Prop} :
    ∀ (pre : List Nat), (∀ j ∈ pre, j < i ∧ waits ops ops.size i j = false) → (pre ++ i :: post).Nodup → ∀ (E : Env) (σ : Store), AllDC S ops (pre ++ i :: post) E σ → awpIx S ops (pre ++ i :: post) K E σ → awpIx S ops (i :: (pre ++ post)) K E σ
  | [], _, _, E, σ, _, h => h
  | j :: pre, hp, hnd, E, σ, hdc, h => by
    obtain ⟨hji, hw⟩ := hp j (by simp)
    have hilt : i < ops.size := (Array.getElem?_eq_some_iff.1 hi).1
    obtain ⟨oj, hj⟩ : ∃ oj, ops[j]? = some oj := ⟨_, Array.getElem?_eq_getElem (by omega)⟩
    obtain ⟨hbi, hbj⟩ := bar_false hd hji hilt hw
    have hcom := (((drawOK_at hd hj).2 i oi hji hi).1).resolve_left (by rw [hw]; simp)
    obtain ⟨hap, hcj, hci⟩ := hcom
    obtain ⟨a1, a2, a3⟩ := Oper.apart_spec hap
    rw [List.cons_append, List.nodup_cons] at hnd
    simp only [List.cons_append, awpIx, hj, hbj] at h
    obtain ⟨vj, blj, hvj, h⟩ := (gop_val hcj).1 h
    have hdc1 : AllDC S ops (pre ++ i :: post) (updO E oj.dst vj) (addS σ blj) := AllDC.step hall hd hj hnd.1 (fun k hk => hdc k (by simp only [List.cons_append, List.mem_cons]; exact .inr hk)) hvj
    have h := bubble hall hd hi pre (fun k hk => hp k (by simp [hk])) hnd.2 _ _ hdc1 h
    simp only [awpIx, hi, hbi] at h
    obtain ⟨vi, bli, hvi, h⟩ := (gop_val hci).1 h
    have ownj : ∀ p ∈ blj, p.1 / 16 = nmO S oj ∧ isNm S.P oj = true := by
      rcases gval_cases hvj with hv | ⟨_, rfl⟩
      · exact val_own hv
      · intro p hp; simp at hp
    have dcj : blj = [] ∨ (DC S.N (nmO S oj) E σ ∧ ∀ p ∈ blj, p.1 / 16 = nmO S oj) := by
      cases hb : blj with
      | nil => exact .inl rfl
      | cons p l => exact .inr ⟨hdc j (by simp) oj hj (ownj p (by rw [hb]; simp)).2, fun q hq => (ownj q (by rw [hb]; exact hq)).1⟩
    have hvi0 : gval S ops oi E σ vi bli := (gval_frame (hall i oi hi) a1 dcj).1 hvi
    have owni : ∀ p ∈ bli, p.1 / 16 = nmO S oi ∧ isNm S.P oi = true := by
      rcases gval_cases hvi0 with hv | ⟨_, rfl⟩
      · exact val_own hv
      · intro p hp; simp at hp
    have dci : bli = [] ∨ (DC S.N (nmO S oi) E σ ∧ ∀ p ∈ bli, p.1 / 16 = nmO S oi) := by
      cases hb : bli with
      | nil => exact .inl rfl
      | cons p l => exact .inr ⟨hdc i (by simp) oi hi (owni p (by rw [hb]; simp)).2, fun q hq => (owni q (by rw [hb]; exact hq)).1⟩
    have hvj0 : gval S ops oj (updO E oi.dst vi) (addS σ bli) vj blj := (gval_frame (hall j oj hj) a3 dci).2 hvj
    have e1 : updO (updO E oj.dst vj) oi.dst vi = updO (updO E oi.dst vi) oj.dst vj := updO_comm a2
    have e2 : addS (addS σ blj) bli = addS (addS σ bli) blj := by
      by_cases hb : isNm S.P oi = true ∧ isNm S.P oj = true
      · have hne := nm_ne (S := S) hd hi hj (by omega) hb.1 hb.2
        exact addS_comm (L := fun id => id / 16 = nmO S oj) (L' := fun _ => True) blj bli σ (fun p hp => (ownj p hp).1) fun p hp h => hne ((owni p hp).1.symm.trans h)
      · have : blj = [] ∨ bli = [] := by
          cases hb1 : blj with
          | nil => exact .inl rfl
          | cons p l => cases hb2 : bli with
            | nil => exact .inr rfl
            | cons q m => exact absurd ⟨(owni q (by rw [hb2]; simp)).2, (ownj p (by rw [hb1]; simp)).2⟩ hb
        rcases this with h' | h' <;> rw [h'] <;> rfl
    rw [e1, e2] at h
    simp only [awpIx, hi, hbi]
    refine (gop_val hci).2 ⟨vi, bli, hvi0, ?_⟩
    simp only [List.cons_append, awpIx, hj, hbj]
    exact (gop_val hcj).2 ⟨vj, blj, hvj0, h⟩

/-- What has not come. -/
def rem (ops : Array Oper) (listed : Array Bool) : List Nat := (List.range ops.size).filter fun i => !listed.getD i true

theorem mem_rem {listed : Array Bool} {i : Nat} : i ∈ rem ops listed ↔ i < ops.size ∧ listed.getD i true = false := by simp [rem]

theorem rem_nodup (listed : Array Bool) : (rem ops listed).Nodup := List.Pairwise.filter _ List.nodup_range

theorem rem_sorted (listed : Array Bool) : (rem ops listed).Pairwise (· < ·) := List.Pairwise.filter _ List.pairwise_lt_range

theorem rem_set {listed : Array Bool} (hs : listed.size = ops.size) {i : Nat} {pre post : List Nat} (h : rem ops listed = pre ++ i :: post) : rem ops (listed.setIfInBounds i true) = pre ++ post := by
  have hnd := rem_nodup (ops := ops) listed
  have e : rem ops (listed.setIfInBounds i true) = (rem ops listed).filter fun k => k != i := by
    unfold rem
    rw [List.filter_filter]
    apply List.filter_congr
    intro k hk
    have hk : k < listed.size := by rw [hs]; exact List.mem_range.1 hk
    by_cases hki : k = i
    · subst hki; simp [hk]
    · have : ∀ d, (listed.setIfInBounds i true).getD k d = listed.getD k d := fun d => by
        simp only [Array.getD_eq_getD_getElem?]; rw [Array.getElem?_setIfInBounds_ne (Ne.symm hki)]
      rw [this]; simp [hki]
  rw [e, h]
  rw [h] at hnd
  simp only [List.filter_append, List.filter_cons, bne_self_eq_false, Bool.false_eq_true, if_false]
  rw [List.nodup_append] at hnd
  obtain ⟨h1, h2, h3⟩ := hnd
  rw [List.nodup_cons] at h2
  congr 1
  · rw [List.filter_eq_self]; intro k hk; have := h3 k hk i (by simp); simpa using this
  · rw [List.filter_eq_self]; intro k hk; simp; rintro rfl; exact h2.1 hk

theorem clean_DC (H : Holds S C) (hs : St C E σ a w) {nm : Nat} (h : ∀ d, d / 16 = nm → Clean d E σ) : DC S.N nm E σ := by
  obtain ⟨ρ, Im, M, hw⟩ := hs
  intro d hd
  have hc := h d hd
  refine ⟨hc, fun t ht hn => ?_, fun id k hk e he hn => ?_⟩
  · have hlt : t < a.tmps.size := by rw [hw.size, ← H.N]; exact ht
    exact hc.2.1 t ((hw.env t _ (Array.getElem?_eq_getElem hlt)).dn hn)
  · refine hc.2.2 id k hk e he ?_
    cases hρ : ρ id with
    | none => rw [hw.inv.nil id k hk hρ] at he; simp at he
    | some b =>
      by_cases hz : k.sz = 0
      · obtain ⟨ents, clk, _, hl, hall⟩ := hw.inv.map id k b hk hρ hz
        obtain ⟨i, hi⟩ := List.mem_iff_getElem?.1 he
        have hlt : i < ents.size := by rw [← hl]; exact (List.getElem?_eq_some_iff.1 hi).1
        obtain ⟨v, hv, hr⟩ := hall i _ (Array.getElem?_eq_getElem hlt)
        rw [hi] at hv; cases hv
        cases hn with | tup _ c _ hc hn =>
          simp at hc
          rcases hc with rfl | rfl
          · cases hn
          · exact .tup _ _ d (by simp) (hr.dn hn)
      · obtain ⟨cur, _, _, _, hall⟩ := hw.inv.blk id k b hk hρ hz
        obtain ⟨c, hc, hn⟩ := hn.cell
        obtain ⟨i, hi⟩ := List.mem_iff_getElem?.1 he
        obtain ⟨j, hj⟩ := List.mem_iff_getElem?.1 hc
        obtain ⟨x, _, _, hr⟩ := hall i e j c hi hj
        exact cells_names hc (hr.dn hn)

theorem regP_iff {l : List Oper} {i : Nat} : regP S l i = true ↔ ∃ o ∈ l, isNm S.P o = true ∧ i / 16 = nmO S o := by
  simp only [regP, List.contains_iff_mem, List.mem_filterMap, isNm, nmO]
  constructor
  · rintro ⟨o, ho, h⟩
    split at h
    · rename_i hc; exact ⟨o, ho, hc, (Option.some.inj h).symm⟩
    · cases h
  · rintro ⟨o, ho, hc, e⟩
    exact ⟨o, ho, by rw [if_pos hc, e]⟩

/-- Struck names are free. -/
theorem struck_ok {l : List Nat} (H : Holds S C) (hall : ∀ o ∈ opsAt ops l, Oper.fits S.P S.N o = true) {K : Env → Store → Prop} (h : struck S true (opsAt ops l) K E σ) (hs : St C E σ a w) :
    ∃ E' σ', K E' σ' ∧ AllDC S ops l E' σ' ∧ St C E' σ' a w := by
  simp only [struck, if_true] at h
  have hs' : St C (killE (regP S (opsAt ops l)) E) (killS (regP S (opsAt ops l)) σ) a w := hs.kill H.G _ fun id b hb => by
    cases hr : regP S (opsAt ops l) id with
    | false => rfl
    | true =>
      obtain ⟨o, ho, hnm, e⟩ := regP_iff.1 hr
      have hdm : o.dst.getD 99999 < 100000 := by
        cases hd : o.dst with
        | none => simp
        | some d => exact Nat.lt_of_lt_of_le ((fits_of (hall o ho)).1 d hd) (Nat.le_trans H.big (by decide))
      have := H.own hdm id b hb
      simp [own] at this
      exact absurd e this
  refine ⟨_, _, h, fun k hk o ho hnm => clean_DC H hs' fun d hd => ?_, hs'⟩
  exact clean_kill (regP_iff.2 ⟨o, List.mem_filterMap.2 ⟨k, hk, ho⟩, hnm, hd⟩) E σ

theorem aop_strong {bi : Bool} {o : Oper} {K Kb X : Env → Store → Prop} (hstep : ∀ v bl, val S o E σ v bl → X (updO E o.dst v) (addS σ bl)) (h : aop S false bi o K Kb E σ) :
    aop S false bi o (fun E' σ' => K E' σ' ∧ X E' σ') Kb E σ := by
  unfold aop at *
  unfold val nmO at hstep
  split at h
  · rename_i hc; simp only [hc] at hstep
    obtain ⟨v, h1, h2⟩ := h; exact ⟨v, h1, h2, hstep v [] ⟨h1, rfl⟩⟩
  · rename_i hc; simp only [hc] at hstep
    obtain ⟨d, hd, v, bl, h1, h2⟩ := h
    simp only [kE, kS, Bool.false_eq_true, if_false] at h1 h2 ⊢
    exact ⟨d, hd, v, bl, h1, h2, by have := hstep v bl ⟨by simp [hd], by simpa [hd] using h1⟩; simpa [hd] using this⟩
  · rename_i hc; simp only [hc] at hstep
    simp only [kE, kS, Bool.false_eq_true, if_false] at h ⊢
    rcases h with ⟨v, bl, h1, h2⟩ | h
    · exact .inl ⟨v, bl, h1, h2, hstep v bl h1⟩
    · exact .inr h
  · exact h
  · exact h
  · exact h
  · exact h

theorem gop_strong {bi : Bool} {o : Oper} {K Kb X : Env → Store → Prop} (hstep : ∀ v bl, gval S ops o E σ v bl → X (updO E o.dst v) (addS σ bl)) (h : gop S false bi ops o K Kb E σ) :
    gop S false bi ops o (fun E' σ' => K E' σ' ∧ X E' σ') Kb E σ := by
  unfold gop at *
  unfold gval at hstep
  cases hg : o.guard with
  | none => simp only [hg] at h hstep ⊢; exact aop_strong hstep h
  | some p =>
    obtain ⟨j, want⟩ := p
    simp only [hg] at h hstep ⊢
    cases ht : (ops[j]?).bind (·.dst) with
    | none => simp [ht] at h
    | some t =>
      simp only [ht] at h hstep ⊢
      split at h
      · rename_i b hb
        simp only [hb] at hstep
        have h1 : b = want → upd E t (.v (.bool want)) = E := fun e => upd_self E t _ (by rw [hb, e])
        have h2 : b = (!want) → upd E t (.v (.bool !want)) = E := fun e => upd_self E t _ (by rw [hb, e])
        refine ⟨fun e => ?_, fun e => ?_⟩
        · have h := h.1 e
          rw [h1 e] at h ⊢
          exact aop_strong (fun v bl hv => hstep v bl (.inl ⟨e, hv⟩)) h
        · refine ⟨h.2 e, ?_⟩
          rw [h2 e]; exact hstep _ [] (.inr ⟨e, rfl, rfl⟩)
      · rename_i hb
        simp only [hb] at hstep
        exact ⟨h, hstep _ [] ⟨rfl, rfl⟩⟩
      · exact h.elim

/-- **Regions that draw their order.** -/
theorem draw_sound (H : Holds S C) : DrawSound S C := by
  intro ops hfits hd n K Q E σ a w hK hv hs id
  have hall : ∀ (i : Nat) (o : Oper), ops[i]? = some o → Oper.fits S.P S.N o = true := fun i o ho => List.all_eq_true.1 hfits o (Array.mem_toList_iff.2 (Array.mem_of_getElem? ho))
  have hat : ∀ l, ∀ o ∈ opsAt ops l, Oper.fits S.P S.N o = true := fun l o ho => by
    obtain ⟨i, _, hi⟩ := List.mem_filterMap.1 ho; exact hall i o hi
  have hfull : opsAt ops (List.range' 0 ops.toList.length) = ops.toList := opsAt_range ops.toList 0 fun j _ => by simp
  refine wpIn_region_any H.mo ?_
  obtain ⟨E1, σ1, hv1, hdc1, hs1⟩ := struck_ok (l := List.range' 0 ops.toList.length) H (hat _) (by rw [hfull]; exact hv) (hs.drew H.G (w.drawn + 1))
  rw [awpOps_ix ops.toList 0 K fun j _ => by simp] at hv1
  have key : ∀ (fuel : Nat) (listed : Array Bool) (E : Env) (σ : Store) (a : Act) (w : World), listed.size = ops.size → (rem ops listed).length ≤ fuel →
      (∀ i o, ops[i]? = some o → listed.getD i false = true → ∀ e ∈ o.after, Region.binds .any e = true → listed.getD e.on false = true) →
      awpIx S ops (rem ops listed) K E σ → AllDC S ops (rem ops listed) E σ → St C E σ a w → wpAnyIn (FW C.rdl) n S.P .any ops Q fuel listed a w := by
    intro fuel
    induction fuel with
    | zero =>
      intro listed E σ a w hsz hle hcl hv hdc hs
      have h0 : rem ops listed = [] := List.eq_nil_of_length_eq_zero (by omega)
      rw [h0] at hv
      refine ⟨?_, hK _ _ _ _ hv hs⟩
      cases hr : Region.ready .any ops listed with
      | nil => rfl
      | cons i l =>
        have hi : i ∈ Region.ready .any ops listed := by rw [hr]; simp
        obtain ⟨h1, o, ho, _⟩ := mem_ready.1 hi
        have : i ∈ rem ops listed := mem_rem.2 ⟨(Array.getElem?_eq_some_iff.1 ho).1, h1⟩
        rw [h0] at this; simp at this
    | succ fuel ih =>
      intro listed E σ a w hsz hle hcl hv hdc hs
      have getD_same : ∀ i, i < ops.size → listed.getD i true = listed.getD i false := fun i hi => by
        simp only [Array.getD_eq_getD_getElem?]; rw [Array.getElem?_eq_getElem (by omega)]; rfl
      refine ⟨fun h0 => ?_, fun i hi => ?_⟩
      · -- nothing is ready: nothing is left
        have hr : rem ops listed = [] := by
          cases hr : rem ops listed with
          | nil => rfl
          | cons i l =>
            exfalso
            have hm : i ∈ rem ops listed := by rw [hr]; simp
            obtain ⟨hlt, hun⟩ := mem_rem.1 hm
            have : i ∈ Region.ready .any ops listed := mem_ready.2 ⟨hun, _, Array.getElem?_eq_getElem hlt, fun e he hb => by
              have hei := (drawOK_at hd (Array.getElem?_eq_getElem hlt)).1 e he hb
              cases hl : listed.getD e.on false with
              | true => rfl
              | false =>
                have hme : e.on ∈ rem ops listed := mem_rem.2 ⟨by omega, by rw [getD_same _ (by omega)]; exact hl⟩
                have hsort := rem_sorted (ops := ops) listed
                rw [hr] at hme hsort
                rcases List.mem_cons.1 hme with h | h
                · omega
                · have := (List.pairwise_cons.1 hsort).1 _ h; omega⟩
            rw [h0] at this; simp at this
        rw [hr] at hv
        exact hK _ _ _ _ hv hs
      · obtain ⟨hun, o, ho, hedges⟩ := mem_ready.1 hi
        have hlt : i < ops.size := (Array.getElem?_eq_some_iff.1 ho).1
        have hm : i ∈ rem ops listed := mem_rem.2 ⟨hlt, hun⟩
        obtain ⟨pre, post, hsplit⟩ := List.append_of_mem hm
        have hsort := rem_sorted (ops := ops) listed
        have hnd := rem_nodup (ops := ops) listed
        have hset := rem_set hsz hsplit
        rw [hsplit] at hv hdc hsort hnd
        have hpre : ∀ j ∈ pre, j < i ∧ waits ops ops.size i j = false := fun j hj => by
          refine ⟨(List.pairwise_append.1 hsort).2.2 j hj i (by simp), ?_⟩
          cases hw : waits ops ops.size i j with
          | false => rfl
          | true =>
            have h1 := waits_listed hcl ops.size i j o ho hedges hw
            have h2 := mem_rem.1 (show j ∈ rem ops listed by rw [hsplit]; simp [hj])
            rw [getD_same j h2.1, h1] at h2; simp at h2
        have hv := bubble hall hd ho pre hpre hnd E σ hdc hv
        have hnd' : i ∉ pre ++ post := by
          rw [List.nodup_append] at hnd
          obtain ⟨h1, h2, h3⟩ := hnd
          rw [List.nodup_cons] at h2
          intro h; rcases List.mem_append.1 h with h | h
          · exact h3 i h i (by simp) rfl
          · exact h2.1 h
        have hdc' : AllDC S ops (pre ++ post) E σ := fun k hk => hdc k (by rcases List.mem_append.1 hk with h | h <;> simp [h])
        simp only [awpIx, ho] at hv
        have next : ∀ E' σ' a' w', awpIx S ops (pre ++ post) K E' σ' → AllDC S ops (pre ++ post) E' σ' → St C E' σ' a' w' → wpAnyIn (FW C.rdl) n S.P .any ops Q fuel (listed.setIfInBounds i true) a' w' := fun E' σ' a' w' h1 h2 h3 => by
          refine ih (listed.setIfInBounds i true) E' σ' a' w' (by simpa using hsz) ?_ ?_ (by rw [hset]; exact h1) (by rw [hset]; exact h2) h3
          · rw [hset]; rw [hsplit] at hle; simp at hle ⊢; omega
          · intro k ok hk hl e he hb
            have mono : ∀ q, listed.getD q false = true → (listed.setIfInBounds i true).getD q false = true := fun q hq => by
              simp only [Array.getD_eq_getD_getElem?] at hq ⊢
              by_cases hqi : q = i
              · subst hqi; simp [hsz, hlt]
              · rw [Array.getElem?_setIfInBounds_ne (Ne.symm hqi)]; exact hq
            refine mono _ ?_
            by_cases hki : k = i
            · subst hki; rw [ho] at hk; cases hk; exact hedges e he hb
            · refine hcl k ok hk ?_ e he hb
              simp only [Array.getD_eq_getD_getElem?] at hl ⊢
              rw [Array.getElem?_setIfInBounds_ne (Ne.symm hki)] at hl; exact hl
        obtain ⟨ρ, Im, M, hw⟩ := hs
        have clean : cls S.P o.op o.type = 1 ∨ cls S.P o.op o.type = 2 → ∀ k, k < 16 → Clean (16 * (S.b + o.dst.getD 99999) + k) E σ := fun hc k hk =>
          (hdc i (by simp) o ho (by rcases hc with h | h <;> simp [isNm, h]) (16 * (S.b + o.dst.getD 99999) + k) (by unfold nmO; omega)).1
        refine wpTurn_in ho (gop_sound (Kc := wpAnyIn (FW C.rdl) n S.P .any ops Q fuel (listed.setIfInBounds i true)) H hw hall (hall i o ho) false (bar ops i) (fun _ => clean)
          (gop_strong (X := AllDC S ops (pre ++ post)) (fun v bl hv => AllDC.step hall hd ho hnd' hdc' hv) hv) (fun E' σ' a' w' h1 h2 => next E' σ' a' w' h1.1 h1.2 h2) fun E' σ' a' w' h1 h2 => ?_)
        obtain ⟨E'', σ'', h3, h4, h5⟩ := struck_ok (l := pre ++ post) H (hat _) h1 h2
        exact next E'' σ'' a' w' h3 h4 h5
  have hrem0 : rem ops (Array.replicate ops.size false) = List.range' 0 ops.toList.length := by
    unfold rem
    rw [← List.range_eq_range', Array.length_toList, List.filter_eq_self]
    intro i hi; simp [List.mem_range.1 hi]
  exact key ops.size _ E1 σ1 a _ (by simp) (by unfold rem; exact Nat.le_trans (List.length_filter_le _ _) (by simp)) (fun i o ho h => by
      simp only [Array.getD_eq_getD_getElem?, Array.getElem?_replicate] at h; split at h <;> simp at h) (by rw [hrem0]; exact hv1) (by rw [hrem0]; exact hdc1) hs1

end
end Go.Vai

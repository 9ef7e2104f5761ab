/- Chapter 39, NettingMatchesReference: all functions agree with the reference implementation, for every input. -/
import Derived.Test.YtjbgckjcbmmobaaKG
set_option linter.unusedVariables false
set_option linter.unusedSimpArgs false
/- Results that are written no more: they are taken over as trees. -/
set_option linter.unusedSimpArgs false
namespace Go.Vai
open Go.RowKit

/-- A result as a tree. -/
def slR1 : AV → AV
  | .new _ sz es => .sl sz es
  | .nptr _ _ [x] => .pt x 0
  | r => r
def slR : AV → AV
  | .tup rs => .tup (rs.map slR1)
  | .clo g rs => .clo g (rs.map slR1)
  | r => slR1 r

theorem content_cell {w : World} {Im : Nat → Prop} {e sz b : Nat} {es : List AV} (h : Content w Im e sz es b) : ∃ f : Nat → Nat → Value,
    (∀ i j, i < es.length → j < sz → w.cell? ⟨b, 0 + i * sz + j, none⟩ = some (f i j) ∧ (f i j).oneCell' = true) ∧ ∀ (i : Nat) (x : AV) (j : Nat) (c : AV), es[i]? = some x → x.cells[j]? = some c → IRep w Im c (f i j) := by
  obtain ⟨cur, hb, hl, hs, hc⟩ := h
  refine ⟨fun i j => (cur[i * sz + j]?).getD undef, fun i j hi hj => ?_, fun i x j c hx hcx => ?_⟩
  · cases hx : es[i]? with
    | none => rw [List.getElem?_eq_none_iff] at hx; omega
    | some x =>
      have hxl := hl x (List.mem_of_getElem? hx)
      cases hcj : x.cells[j]? with
      | none => rw [List.getElem?_eq_none_iff] at hcj; omega
      | some c =>
        obtain ⟨v, hv, h1, _⟩ := hc i x j c hx hcj
        simp only []
        rw [Nat.zero_add, hv]
        refine ⟨?_, h1⟩
        simp only [World.cell?, hb, Option.getD_some]
        exact hv
  · obtain ⟨v, hv, h1, hr⟩ := hc i x j c hx hcx
    simp only []
    rw [hv]; exact hr

theorem R1.tree {w : World} {Im Im2 : Nat → Prop} {r : AV} {y : Value} {ob : Option Nat} (h : R1 w Im r y ob) (hI : ∀ b, Im b → Im2 b) (hb : ∀ b, ob = some b → Im2 b) (hnp : ∀ e sz es, r = .nptr e sz es → ∃ x, es = [x]) : R1 w Im2 (slR1 r) y none := by
  cases r with
  | new e sz es =>
    rcases h with ⟨_, rfl, rfl⟩ | ⟨b, cap, hz, rfl, rfl, hcap, _, _, hct⟩
    · exact ⟨rfl, .slnil ..⟩
    · refine ⟨rfl, ?_⟩
      obtain ⟨f, h1, h2⟩ := content_cell (hct.mono hI)
      cases es with
      | nil => exact .slnil ..
      | cons e0 es0 => exact .sl sz (e0 :: es0) b 0 cap f (hb b rfl) hcap hct.choose_spec.2.1 h1 h2
  | nptr e sz es =>
    obtain ⟨x, rfl⟩ := hnp e sz es rfl
    obtain ⟨b, hz, rfl, rfl, hct⟩ := h
    refine ⟨rfl, ?_⟩
    have hx : x.cells.length = sz := hct.choose_spec.2.1 x (by simp)
    obtain ⟨f, h1, h2⟩ := content_cell (hct.mono hI)
    refine .pt x 0 b 0 (f 0) (hb b rfl) (fun i hi => ?_) fun i c hc => h2 0 x i c rfl hc
    have := h1 0 i (by simp) (by omega)
    simpa using this
  | _ => exact ⟨rfl, h.2.mono hI (fun _ _ => rfl)⟩

theorem RL.tree {w : World} {Im Im2 : Nat → Prop} (hI : ∀ b, Im b → Im2 b) : ∀ {rs : List AV} {ys : List Value} {obs : List (Option Nat)}, RL w Im rs ys obs → (∀ b, some b ∈ obs → Im2 b) → (∀ e sz es, AV.nptr e sz es ∈ rs → ∃ x, es = [x]) →
    RL w Im2 (rs.map slR1) ys (obs.map fun _ => none)
  | [], [], [], _, _, _ => trivial
  | r :: rs, _ :: _, ob :: obs, h, hb, hn => ⟨h.1.tree hI (fun b hbb => hb b (by simp [hbb])) fun e sz es hr => hn e sz es (by simp [hr]), RL.tree hI h.2 (fun b hbb => hb b (by simp [hbb])) fun e sz es hr => hn e sz es (by simp [hr])⟩

theorem fresh_none {lo : Nat} {Im : Nat → Prop} (obs : List (Option Nat)) : Fresh lo Im (obs.map fun _ => none) := by
  refine ⟨fun b hb => (by simp at hb), ?_⟩
  induction obs with
  | nil => exact .nil
  | cons o obs ih => exact .cons (fun a _ => .inl rfl) ih

/-- The pointers among a result point to one element. -/
def onePt1 : AV → Bool
  | .nptr _ _ es => es.length == 1
  | _ => true
def onePt : AV → Bool
  | .tup rs => rs.all onePt1
  | .clo _ rs => rs.all onePt1
  | r => onePt1 r
theorem onePt1_of {e sz : Nat} {es : List AV} (h : onePt1 (.nptr e sz es) = true) : ∃ x, es = [x] := by
  simp only [onePt1, beq_iff_eq] at h
  match es, h with
  | [x], _ => exact ⟨x, rfl⟩

theorem R1_low {w : World} {Im : Nat → Prop} {r : AV} {y : Value} {b : Nat} (h : R1 w Im r y (some b)) : b < w.heap.size := by
  cases r with
  | new e sz es =>
    rcases h with h | ⟨b, cap, _, hb, _, _, _, ⟨cur, hc, _⟩, _⟩
    · cases h.1
    · cases hb; exact (Array.getElem?_eq_some_iff.1 hc).1
  | nptr e sz es =>
    obtain ⟨b, _, hb, _, hct⟩ := h
    cases hb
    obtain ⟨cur, hc, _⟩ := hct
    exact (Array.getElem?_eq_some_iff.1 hc).1
  | _ => cases h.1
theorem RL_low {w : World} {Im : Nat → Prop} : ∀ {rs : List AV} {ys : List Value} {obs : List (Option Nat)}, RL w Im rs ys obs → ∀ b, some b ∈ obs → b < w.heap.size
  | [], [], [], _, b, hb => by simp at hb
  | r :: rs, _ :: _, ob :: obs, h, b, hb => by
    rcases List.mem_cons.1 hb with rfl | hb
    · exact R1_low h.1
    · exact RL_low h.2 b hb

theorem RRep.tree {w w' : World} {Im : Nat → Prop} {r : AV} {y : Value} (h : RRep w w' Im r y) (hn : onePt r = true) : RRep w w' Im (slR r) y := by
  obtain ⟨Im1, h1, h2, hr⟩ := h
  have key : ∀ obs : List (Option Nat), Fresh w.heap.size Im1 obs → (∀ b, some b ∈ obs → b < w'.heap.size) → ∀ b, (Im1 b ∨ some b ∈ obs) → Im b ∨ (w.heap.size ≤ b ∧ b < w'.heap.size) := fun obs hf hl b hb => by
    rcases hb with hb | hb
    · exact h2 b hb
    · exact .inr ⟨(hf.1 b hb).1, hl b hb⟩
  have single : ∀ {r : AV}, (∃ ob, R1 w' Im1 r y ob ∧ Fresh w.heap.size Im1 [ob]) → onePt1 r = true → ∃ Im' : Nat → Prop, (∀ b, Im b → Im' b) ∧ (∀ b, Im' b → Im b ∨ (w.heap.size ≤ b ∧ b < w'.heap.size)) ∧ ∃ ob, R1 w' Im' (slR1 r) y ob ∧ Fresh w.heap.size Im' [ob] := by
    rintro r ⟨ob, hr, hf⟩ hn
    refine ⟨fun b => Im1 b ∨ some b ∈ [ob], fun b hb => .inl (h1 b hb), key [ob] hf fun b hb => ?_, none, hr.tree (fun b hb => .inl hb) (fun b hb => .inr (by simp [hb])) (fun e sz es he => by subst he; exact onePt1_of hn), fresh_none [ob]⟩
    simp at hb; subst hb; exact R1_low hr
  cases r with
  | tup rs =>
    obtain ⟨ys, obs, rfl, hl, hf⟩ := hr
    have hn' := List.all_eq_true.1 hn
    exact ⟨fun b => Im1 b ∨ some b ∈ obs, fun b hb => .inl (h1 b hb), key obs hf (RL_low hl), ys, _, rfl, hl.tree (fun b hb => .inl hb) (fun b hb => .inr hb) (fun e sz es he => onePt1_of (hn' _ he)), fresh_none obs⟩
  | clo g rs =>
    obtain ⟨ys, obs, rfl, hl, hf⟩ := hr
    have hn' := List.all_eq_true.1 hn
    exact ⟨fun b => Im1 b ∨ some b ∈ obs, fun b hb => .inl (h1 b hb), key obs hf (RL_low hl), ys, _, rfl, hl.tree (fun b hb => .inl hb) (fun b hb => .inr hb) (fun e sz es he => onePt1_of (hn' _ he)), fresh_none obs⟩
  | new e sz es => exact single hr hn
  | nptr e sz es =>
    obtain ⟨x, rfl⟩ := onePt1_of (e := e) (sz := sz) hn
    exact single hr hn
  | _ => exact single hr hn

/-- **A result that nobody writes any more.** -/
theorem ev_sl {P : Program} {f : FuncId} {args : List AV} {r : AV} (h : Ev P f args r) (r' : AV) (hn : onePt r = true := by first | rfl | simp [onePt, onePt1]) (he : slR r = r' := by first | rfl | simp [slR, slR1]) : Ev P f args r' := by
  subst he
  rintro xs r0 ⟨rfl, rfl⟩
  obtain ⟨h1, h2⟩ := h xs r ⟨rfl, rfl⟩
  exact ⟨h1, fun w Im vs hlow hv => (h2 w Im vs hlow hv).mono fun e w' ⟨y, he, hx, hr⟩ => ⟨y, he, hx, hr.tree hn⟩⟩
end Go.Vai

/- The law of chapter 39 that all functions agree with the reference. -/
set_option maxRecDepth 100000
set_option linter.unusedSimpArgs false
namespace Go.Proofs.Ytjbgckjcbmmobaa
open Go.Vai Go Go.Proofs

theorem dnL_debs (l : List Deb) : AV.dnL (l.map DP) = false := by
  cases h : AV.dnL (l.map DP) with
  | false => rfl
  | true => obtain ⟨c, hc, h2⟩ := (dnL_iff _).1 h; obtain ⟨x, _, rfl⟩ := List.mem_map.1 hc; cases h2
theorem dnL_ints (l : List Int) : AV.dnL (l.map I) = false := by
  cases h : AV.dnL (l.map I) with
  | false => rfl
  | true => obtain ⟨c, hc, h2⟩ := (dnL_iff _).1 h; obtain ⟨x, _, rfl⟩ := List.mem_map.1 hc; cases h2
theorem allOK_dls (l : List (List Deb)) : allOK 1 (l.map DL) = true := allOK_map 1 l DL fun _ => ⟨rfl, rfl⟩
theorem bent_len (l : List Deb) (how n pos : Int) (hl : l.length ≤ 60) : (bentF l how n pos).length ≤ 100 := by
  unfold bentF
  have := pickF_in (c := n) (n := 2) (by omega)
  split
  · simp
  · split
    · rw [List.length_set]; omega
    · split
      · rw [List.length_set]; omega
      · split
        · rw [List.length_set]; omega
        · rw [List.length_append, List.length_replicate]; omega


/-- What both sides return for debts, as trees. -/
theorem cyc_form (m : List Deb) : ∃ (q : List Int) (is : Bool), slR (cycB (cyF m)) = .tup [SL q, B is] ∧ slR (cycV (cyF m)) = .tup [SL q, B is] ∧ q.length ≤ 8 ∧ onePt (cycB (cyF m)) = true ∧ onePt (cycV (cyF m)) = true := by
  unfold cyF
  split
  · cases h : cycF (bkF (bookF m)) with
    | none => exact ⟨[], false, rfl, rfl, by simp, rfl, rfl⟩
    | some q => exact ⟨q, true, rfl, rfl, (cycF_some h).2.2, rfl, rfl⟩
  · exact ⟨[], false, rfl, rfl, by simp, rfl, rfl⟩
theorem bal_form (m : List Deb) : ∃ (a : List Int) (e : Int), balR m = .tup [.new 3 1 (a.map I), Er e] ∧ a.length ≤ 8 := by
  unfold balR
  split
  · exact ⟨_, _, rfl, by rw [show (balF m).length = 8 from balN_length m _]; omega⟩
  · exact ⟨[], _, rfl, by simp⟩
theorem pairs_form (m : List Deb) : ∃ (a : List Deb) (e : Int), pairsT m = .tup [.new 47 3 (a.map DP), Er e] ∧ a.length ≤ 64 := by
  unfold pairsT
  split
  · exact ⟨_, _, rfl, pairsF_length m⟩
  · exact ⟨[], _, rfl, by simp⟩
theorem round_form (m : List Deb) : ∃ (a : List Deb) (e : Int), slR (roundT m) = .tup [DL a, Er e] ∧ slR (roundTR m) = .tup [DL a, Er e] ∧ a.length ≤ 64 ∧ onePt (roundT m) = true ∧ onePt (roundTR m) = true := by
  unfold roundT roundTR
  split
  · exact ⟨lstF (rndF (bookF m)), 0, rfl, rfl, lstF_length _, rfl, rfl⟩
  · exact ⟨[], 390, rfl, rfl, by simp, rfl, rfl⟩
theorem few_form (b : List Int) : ∃ (s : List Deb) (f : Int), fewT b = .tup [I s.length, Er f] ∧ settR b = .tup [.new 47 3 (s.map DP), Er f] ∧ s.length ≤ 8 ∧
    ∀ d ∈ s, 0 ≤ d.1 ∧ d.1 < b.length ∧ 0 ≤ d.2.1 ∧ d.2.1 < b.length ∧ gd b d.1.toNat < 0 ∧ 0 < gd b d.2.1.toNat := by
  unfold fewT settR
  by_cases hb : goodF b = true
  · rw [if_pos hb, if_pos hb]
    have hlen := settF_length hb
    have h8 := (good_rng hb).1
    refine ⟨settF b (usedF b), 0, by rw [hlen], rfl, by rw [hlen]; unfold fewN nzF; have := nzK_le b 8; omega, fun d hd => ?_⟩
    obtain ⟨h1, h2, h3⟩ := (settF_spec hb).2.1 d hd
    unfold badF at h1
    exact ⟨by omega, by omega, by omega, by omega, h2, h3⟩
  · rw [if_neg hb, if_neg hb]
    exact ⟨[], 390, rfl, rfl, by simp, fun d hd => by simp at hd⟩
theorem allOK_dl (l : List Deb) (r : List AV) : allOK 1 (DL l :: r) = allOK 1 r := rfl
@[go_sem] theorem namesL_dls (p : Nat → Bool) (l : List (List Deb)) : AV.namesL p (l.map DL) = false := namesL_map p l DL fun _ => rfl
theorem allOK_sl1 (l : List Int) (r : List AV) : allOK 1 (SL l :: r) = allOK 1 r := rfl
theorem bne_self'(a : Int) : (a != a) = false := by simp

section
attribute [local irreducible] lstF rndF bookF
set_option maxHeartbeats 4000000 in
theorem matches_ev (x : List Deb) (t : Deb) (w : List Deb) (y z : List Int) (hl : x.length ≤ 9223372036854775807) (hx : ∀ a ∈ x, R64 a.1 ∧ R64 a.2.1 ∧ R64 a.2.2) (ht : R64 t.1 ∧ R64 t.2.1 ∧ R64 t.2.2) (hlw : w.length ≤ 9223372036854775807) (hw : ∀ a ∈ w, R64 a.1 ∧ R64 a.2.1 ∧ R64 a.2.2)
    (hly : y.length ≤ 9223372036854775807) (hy : ∀ a ∈ y, R64 a) (hlz : z.length ≤ 9223372036854775807) (hz : ∀ a ∈ z, R64 a) : Ev Try.prog 3 [DL x, DP t, DL w, SL y, SL z] (B true) := by
  refine ev_of Try.func3 rfl (by kernel_rfl) mo (Nat.le_of_ble_eq_true rfl) ?_
  simp -implicitDefEqProofs (disch := omega) only [go_sem, ↓reduceIte, Nat.reduceEqDiff, Nat.reduceMul, Nat.reduceAdd, Nat.reduceDiv, Nat.reduceBEq, Nat.reduceLeDiff, Int.reduceToNat, Int.reduceNe, Int.reduceEq, Int.reduceLT, Int.reduceLE, Int.reduceBEq, Int.reduceBNe, ne_eq, not_true_eq_false, not_false_eq_true, decide_true, decide_false, List.length_map, Try.ntmps3]
  refine callC_at sane_ev ?_
  simp -implicitDefEqProofs (disch := omega) only [go_sem, ↓reduceIte, Nat.reduceEqDiff, Nat.reduceMul, Nat.reduceAdd, Nat.reduceDiv, Nat.reduceBEq, Nat.reduceLeDiff, Int.reduceToNat, Int.reduceNe, Int.reduceEq, Int.reduceLT, Int.reduceLE, Int.reduceBEq, Int.reduceBNe, ne_eq, not_true_eq_false, not_false_eq_true, decide_true, decide_false, List.length_map]
  refine callC_at (ev_sl (made_ev x hl hx) (DL (madeF x))) ?_
  have hd := madeF_debts x
  have h20 : (madeF x).length ≤ 20 := by simp [madeF]; omega
  generalize madeF x = l at *
  simp -implicitDefEqProofs (disch := omega) only [go_sem, ↓reduceIte, Nat.reduceEqDiff, Nat.reduceMul, Nat.reduceAdd, Nat.reduceDiv, Nat.reduceBEq, Nat.reduceLeDiff, Int.reduceToNat, Int.reduceNe, Int.reduceEq, Int.reduceLT, Int.reduceLE, Int.reduceBEq, Int.reduceBNe, ne_eq, not_true_eq_false, not_false_eq_true, decide_true, decide_false, List.length_map]
  refine callC_at (ev_sl (bent_ev l t.1 t.2.1 t.2.2 (by omega) ht.1 ht.2.1 ht.2.2) (DL (bentF l t.1 t.2.1 t.2.2))) ?_ (h4 := .inr (dnL_debs _))
  have h100 := bent_len l t.1 t.2.1 t.2.2 (by omega)
  generalize bentF l t.1 t.2.1 t.2.2 = lb at *
  have r1 : (min (w.length : Int) 61).toNat = min w.length 61 := by omega
  have w61 : (w.take (min w.length 61)).length ≤ 61 := by simp; omega
  simp -implicitDefEqProofs (disch := omega) only [go_sem, ↓reduceIte, Nat.reduceEqDiff, Nat.reduceMul, Nat.reduceAdd, Nat.reduceDiv, Nat.reduceBEq, Nat.reduceLeDiff, Int.reduceToNat, Int.reduceNe, Int.reduceEq, Int.reduceLT, Int.reduceLE, Int.reduceBEq, Int.reduceBNe, ne_eq, not_true_eq_false, not_false_eq_true, decide_true, decide_false, List.length_map, allOK_dl, r1]
  generalize w.take (min w.length 61) = wt at *
  obtain ⟨L3, hL3, hL3l, hL3e⟩ : ∃ L3 : List (List Deb), [l, lb, wt] = L3 ∧ L3.length = 3 ∧ ∀ a ∈ L3, a.length ≤ 1000 := ⟨_, rfl, rfl, fun a ha => by
    simp only [List.mem_cons, List.not_mem_nil, or_false] at ha
    rcases ha with rfl | rfl | rfl <;> omega⟩
  refine loopC_mk (fun n E σ => ∃ v : Nat, v + n = 3 ∧ E 2 = DL w ∧ E 3 = SL y ∧ E 4 = SL z ∧ E 6 = .ptr 8388704 3 0 0 ∧ E 11 = DL l ∧ σ 8388704 = some ⟨23, 3, [DP t]⟩ ∧ E 60 = .own 8389568 1 0 3 ∧ E 61 = I 3 ∧ E 62 = I v ∧ σ 8389568 = some ⟨24, 1, L3.map DL⟩) 3 ⟨0, by omega, ?_⟩ ?_
  · simp -implicitDefEqProofs (disch := omega) only [go_sem, ↓reduceIte, Nat.reduceEqDiff, Nat.reduceMul, Nat.reduceAdd, Nat.reduceDiv, Nat.reduceBEq, Nat.reduceLeDiff, Int.reduceToNat, Int.reduceNe, Int.reduceEq, Int.reduceLT, Int.reduceLE, Int.reduceBEq, Int.reduceBNe, ne_eq, not_true_eq_false, not_false_eq_true, decide_true, decide_false, List.length_map, Nat.sub_zero]
    rw [← hL3]; exact ⟨rfl, rfl, rfl⟩
  · clear hL3
    rintro n E σ ⟨v, hv, b2, b3, b4, b6, b11, bs, l60, l61, l62, ls⟩
    simp -implicitDefEqProofs (disch := omega) only [go_sem, ↓reduceIte, Nat.reduceEqDiff, Nat.reduceMul, Nat.reduceAdd, Nat.reduceDiv, Nat.reduceBEq, Nat.reduceLeDiff, Int.reduceToNat, Int.reduceNe, Int.reduceEq, Int.reduceLT, Int.reduceLE, Int.reduceBEq, Int.reduceBNe, ne_eq, not_true_eq_false, not_false_eq_true, decide_true, decide_false, List.length_map, b2, b3, b4, b6, b11, bs, l60, l61, l62, ls]
    refine branch_mk (fun hb => ?_) (fun hb => ?_)
    · have hm := hL3e _ (gd_mem L3 v (by omega))
      simp -implicitDefEqProofs (disch := omega) only [go_sem, ↓reduceIte, Nat.reduceEqDiff, Nat.reduceMul, Nat.reduceAdd, Nat.reduceDiv, Nat.reduceBEq, Nat.reduceLeDiff, Int.reduceToNat, Int.reduceNe, Int.reduceEq, Int.reduceLT, Int.reduceLE, Int.reduceBEq, Int.reduceBNe, ne_eq, not_true_eq_false, not_false_eq_true, decide_true, decide_false, List.length_map, b2, b3, b4, b6, b11, bs, l60, l61, l62, ls, hL3l]
      generalize gd L3 v = m at *
      obtain ⟨a, e, ha, hal⟩ := bal_form m
      have k1 := bal_ev m (by omega)
      have k2 := balRef_ev m (by omega)
      rw [ha] at k1 k2
      refine callC_at (ev_sl k1 (.tup [SL a, Er e])) ?_
      simp -implicitDefEqProofs (disch := omega) only [go_sem, ↓reduceIte, Nat.reduceEqDiff, Nat.reduceMul, Nat.reduceAdd, Nat.reduceDiv, Nat.reduceBEq, Nat.reduceLeDiff, Int.reduceToNat, Int.reduceNe, Int.reduceEq, Int.reduceLT, Int.reduceLE, Int.reduceBEq, Int.reduceBNe, ne_eq, not_true_eq_false, not_false_eq_true, decide_true, decide_false, List.length_map, b2, b3, b4, b6, b11, bs, l60, l61, l62, ls]
      refine callC_at (ev_sl k2 (.tup [SL a, Er e])) ?_
      simp -implicitDefEqProofs (disch := omega) only [go_sem, ↓reduceIte, Nat.reduceEqDiff, Nat.reduceMul, Nat.reduceAdd, Nat.reduceDiv, Nat.reduceBEq, Nat.reduceLeDiff, Int.reduceToNat, Int.reduceNe, Int.reduceEq, Int.reduceLT, Int.reduceLE, Int.reduceBEq, Int.reduceBNe, ne_eq, not_true_eq_false, not_false_eq_true, decide_true, decide_false, List.length_map, b2, b3, b4, b6, b11, bs, l60, l61, l62, ls]
      obtain ⟨c, g, hc, hcl⟩ := pairs_form m
      have k3 := Pairs_ev m (by omega)
      have k4 := PairsR_ev m (by omega)
      rw [hc] at k3 k4
      refine callC_at (ev_sl k3 (.tup [DL c, Er g])) ?_
      simp -implicitDefEqProofs (disch := omega) only [go_sem, ↓reduceIte, Nat.reduceEqDiff, Nat.reduceMul, Nat.reduceAdd, Nat.reduceDiv, Nat.reduceBEq, Nat.reduceLeDiff, Int.reduceToNat, Int.reduceNe, Int.reduceEq, Int.reduceLT, Int.reduceLE, Int.reduceBEq, Int.reduceBNe, ne_eq, not_true_eq_false, not_false_eq_true, decide_true, decide_false, List.length_map, b2, b3, b4, b6, b11, bs, l60, l61, l62, ls]
      refine callC_at (ev_sl k4 (.tup [DL c, Er g])) ?_
      simp -implicitDefEqProofs (disch := omega) only [go_sem, ↓reduceIte, Nat.reduceEqDiff, Nat.reduceMul, Nat.reduceAdd, Nat.reduceDiv, Nat.reduceBEq, Nat.reduceLeDiff, Int.reduceToNat, Int.reduceNe, Int.reduceEq, Int.reduceLT, Int.reduceLE, Int.reduceBEq, Int.reduceBNe, ne_eq, not_true_eq_false, not_false_eq_true, decide_true, decide_false, List.length_map, b2, b3, b4, b6, b11, bs, l60, l61, l62, ls]
      obtain ⟨q, is, hq1, hq2, hql, o1, o2⟩ := cyc_form m
      refine callC_at (ev_sl (Cycle_ev m (by omega)) (.tup [SL q, B is]) o1 hq1) ?_
      simp -implicitDefEqProofs (disch := omega) only [go_sem, ↓reduceIte, Nat.reduceEqDiff, Nat.reduceMul, Nat.reduceAdd, Nat.reduceDiv, Nat.reduceBEq, Nat.reduceLeDiff, Int.reduceToNat, Int.reduceNe, Int.reduceEq, Int.reduceLT, Int.reduceLE, Int.reduceBEq, Int.reduceBNe, ne_eq, not_true_eq_false, not_false_eq_true, decide_true, decide_false, List.length_map, b2, b3, b4, b6, b11, bs, l60, l61, l62, ls]
      refine callC_at (ev_sl (CycleR_ev m (by omega)) (.tup [SL q, B is]) o2 hq2) ?_
      simp -implicitDefEqProofs (disch := omega) only [go_sem, ↓reduceIte, Nat.reduceEqDiff, Nat.reduceMul, Nat.reduceAdd, Nat.reduceDiv, Nat.reduceBEq, Nat.reduceLeDiff, Int.reduceToNat, Int.reduceNe, Int.reduceEq, Int.reduceLT, Int.reduceLE, Int.reduceBEq, Int.reduceBNe, ne_eq, not_true_eq_false, not_false_eq_true, decide_true, decide_false, List.length_map, b2, b3, b4, b6, b11, bs, l60, l61, l62, ls]
      obtain ⟨r, o, hr1, hr2, hrl, o3, o4⟩ := round_form m
      refine callC_at (ev_sl (Round_ev m (by omega)) (.tup [DL r, Er o]) o3 hr1) ?_
      simp -implicitDefEqProofs (disch := omega) only [go_sem, ↓reduceIte, Nat.reduceEqDiff, Nat.reduceMul, Nat.reduceAdd, Nat.reduceDiv, Nat.reduceBEq, Nat.reduceLeDiff, Int.reduceToNat, Int.reduceNe, Int.reduceEq, Int.reduceLT, Int.reduceLE, Int.reduceBEq, Int.reduceBNe, ne_eq, not_true_eq_false, not_false_eq_true, decide_true, decide_false, List.length_map, b2, b3, b4, b6, b11, bs, l60, l61, l62, ls]
      refine callC_at (ev_sl (RoundR_ev m (by omega)) (.tup [DL r, Er o]) o4 hr2) ?_
      simp -implicitDefEqProofs (disch := omega) only [go_sem, ↓reduceIte, Nat.reduceEqDiff, Nat.reduceMul, Nat.reduceAdd, Nat.reduceDiv, Nat.reduceBEq, Nat.reduceLeDiff, Int.reduceToNat, Int.reduceNe, Int.reduceEq, Int.reduceLT, Int.reduceLE, Int.reduceBEq, Int.reduceBNe, ne_eq, not_true_eq_false, not_false_eq_true, decide_true, decide_false, List.length_map, b2, b3, b4, b6, b11, bs, l60, l61, l62, ls]
      refine callC_at (valid_ev m (by omega)) ?_
      simp -implicitDefEqProofs (disch := omega) only [go_sem, ↓reduceIte, Nat.reduceEqDiff, Nat.reduceMul, Nat.reduceAdd, Nat.reduceDiv, Nat.reduceBEq, Nat.reduceLeDiff, Int.reduceToNat, Int.reduceNe, Int.reduceEq, Int.reduceLT, Int.reduceLE, Int.reduceBEq, Int.reduceBNe, ne_eq, not_true_eq_false, not_false_eq_true, decide_true, decide_false, List.length_map, b2, b3, b4, b6, b11, bs, l60, l61, l62, ls]
      refine callC_at (validR_ev m (by omega)) ?_
      simp -implicitDefEqProofs (disch := omega) only [go_sem, ↓reduceIte, Nat.reduceEqDiff, Nat.reduceMul, Nat.reduceAdd, Nat.reduceDiv, Nat.reduceBEq, Nat.reduceLeDiff, Int.reduceToNat, Int.reduceNe, Int.reduceEq, Int.reduceLT, Int.reduceLE, Int.reduceBEq, Int.reduceBNe, ne_eq, not_true_eq_false, not_false_eq_true, decide_true, decide_false, List.length_map, b2, b3, b4, b6, b11, bs, l60, l61, l62, ls, bne_self_eq_false, bne_self']
      refine callC_at (ints_ev a a (by omega) (by omega)) ?_
      simp -implicitDefEqProofs (disch := omega) only [go_sem, ↓reduceIte, Nat.reduceEqDiff, Nat.reduceMul, Nat.reduceAdd, Nat.reduceDiv, Nat.reduceBEq, Nat.reduceLeDiff, Int.reduceToNat, Int.reduceNe, Int.reduceEq, Int.reduceLT, Int.reduceLE, Int.reduceBEq, Int.reduceBNe, ne_eq, not_true_eq_false, not_false_eq_true, decide_true, decide_false, List.length_map, b2, b3, b4, b6, b11, bs, l60, l61, l62, ls, bne_self_eq_false, bne_self', decide_true]
      refine callC_at (same_ev c c (by omega) (by omega)) ?_
      simp -implicitDefEqProofs (disch := omega) only [go_sem, ↓reduceIte, Nat.reduceEqDiff, Nat.reduceMul, Nat.reduceAdd, Nat.reduceDiv, Nat.reduceBEq, Nat.reduceLeDiff, Int.reduceToNat, Int.reduceNe, Int.reduceEq, Int.reduceLT, Int.reduceLE, Int.reduceBEq, Int.reduceBNe, ne_eq, not_true_eq_false, not_false_eq_true, decide_true, decide_false, List.length_map, b2, b3, b4, b6, b11, bs, l60, l61, l62, ls, bne_self_eq_false, bne_self', decide_true]
      refine callC_at (ints_ev q q (by omega) (by omega)) ?_
      simp -implicitDefEqProofs (disch := omega) only [go_sem, ↓reduceIte, Nat.reduceEqDiff, Nat.reduceMul, Nat.reduceAdd, Nat.reduceDiv, Nat.reduceBEq, Nat.reduceLeDiff, Int.reduceToNat, Int.reduceNe, Int.reduceEq, Int.reduceLT, Int.reduceLE, Int.reduceBEq, Int.reduceBNe, ne_eq, not_true_eq_false, not_false_eq_true, decide_true, decide_false, List.length_map, b2, b3, b4, b6, b11, bs, l60, l61, l62, ls, bne_self_eq_false, bne_self', decide_true]
      refine callC_at (same_ev r r (by omega) (by omega)) ?_
      simp -implicitDefEqProofs (disch := omega) only [go_sem, ↓reduceIte, Nat.reduceEqDiff, Nat.reduceMul, Nat.reduceAdd, Nat.reduceDiv, Nat.reduceBEq, Nat.reduceLeDiff, Int.reduceToNat, Int.reduceNe, Int.reduceEq, Int.reduceLT, Int.reduceLE, Int.reduceBEq, Int.reduceBNe, ne_eq, not_true_eq_false, not_false_eq_true, decide_true, decide_false, List.length_map, b2, b3, b4, b6, b11, bs, l60, l61, l62, ls, bne_self_eq_false, bne_self', decide_true]
      refine againQ_mk (n - 1) (by omega) ⟨v + 1, by omega, ?_⟩
      simp -implicitDefEqProofs (disch := omega) only [go_sem, ↓reduceIte, Nat.reduceEqDiff, Nat.reduceMul, Nat.reduceAdd, Nat.reduceDiv, Nat.reduceBEq, Nat.reduceLeDiff, Int.reduceToNat, Int.reduceNe, Int.reduceEq, Int.reduceLT, Int.reduceLE, Int.reduceBEq, Int.reduceBNe, ne_eq, not_true_eq_false, not_false_eq_true, decide_true, decide_false, List.length_map, b2, b3, b4, b6, b11, bs, l60, l61, l62, ls]
      simp
    · clear hL3l hL3e
      simp -implicitDefEqProofs (disch := omega) only [go_sem, ↓reduceIte, Nat.reduceEqDiff, Nat.reduceMul, Nat.reduceAdd, Nat.reduceDiv, Nat.reduceBEq, Nat.reduceLeDiff, Int.reduceToNat, Int.reduceNe, Int.reduceEq, Int.reduceLT, Int.reduceLE, Int.reduceBEq, Int.reduceBNe, ne_eq, not_true_eq_false, not_false_eq_true, decide_true, decide_false, List.length_map, b2, b3, b4, b6, b11, bs, l60, l61, l62, ls]
      refine callC_at (ev_sl (even_ev y hly hy) (SL (evenF y))) ?_
      have hg := evenF_good y
      have h8 := (good_rng hg).1
      generalize evenF y = ev at *
      simp -implicitDefEqProofs (disch := omega) only [go_sem, ↓reduceIte, Nat.reduceEqDiff, Nat.reduceMul, Nat.reduceAdd, Nat.reduceDiv, Nat.reduceBEq, Nat.reduceLeDiff, Int.reduceToNat, Int.reduceNe, Int.reduceEq, Int.reduceLT, Int.reduceLE, Int.reduceBEq, Int.reduceBNe, ne_eq, not_true_eq_false, not_false_eq_true, decide_true, decide_false, List.length_map, b2, b3, b4, b6, b11, bs, l60, l61, l62, ls]
      refine callC_at (ev_sl (bentList_ev ev t.1 t.2.1 t.2.2 (by omega) ht.1 ht.2.2) (SL (bentLF ev t.1 t.2.1 t.2.2))) ?_ (h4 := .inr (dnL_ints _))
      have h9 := bentLF_length ev t.1 t.2.1 t.2.2
      generalize bentLF ev t.1 t.2.1 t.2.2 = eb at *
      have r2 : (min (z.length : Int) 9).toNat = min z.length 9 := by omega
      have z9 : (z.take (min z.length 9)).length ≤ 9 := by simp; omega
      simp -implicitDefEqProofs (disch := omega) only [go_sem, ↓reduceIte, Nat.reduceEqDiff, Nat.reduceMul, Nat.reduceAdd, Nat.reduceDiv, Nat.reduceBEq, Nat.reduceLeDiff, Int.reduceToNat, Int.reduceNe, Int.reduceEq, Int.reduceLT, Int.reduceLE, Int.reduceBEq, Int.reduceBNe, ne_eq, not_true_eq_false, not_false_eq_true, decide_true, decide_false, List.length_map, b2, b3, b4, b6, b11, bs, l60, l61, l62, ls, r2, allOK_sl1]
      generalize z.take (min z.length 9) = zt at *
      obtain ⟨B3, hB3, hB3l, hB3e⟩ : ∃ B3 : List (List Int), [ev, eb, zt] = B3 ∧ B3.length = 3 ∧ ∀ a ∈ B3, a.length ≤ 1000 := ⟨_, rfl, rfl, fun a ha => by
        simp only [List.mem_cons, List.not_mem_nil, or_false] at ha
        rcases ha with rfl | rfl | rfl <;> omega⟩
      refine loopC_mk (fun n E σ => ∃ v : Nat, v + n = 3 ∧ E 2 = DL w ∧ E 3 = SL y ∧ E 4 = SL z ∧ E 6 = .ptr 8388704 3 0 0 ∧ E 11 = DL l ∧ σ 8388704 = some ⟨23, 3, [DP t]⟩ ∧ E 172 = .own 8391360 1 0 3 ∧ E 173 = I 3 ∧ E 174 = I v ∧ σ 8391360 = some ⟨25, 1, B3.map SL⟩) 3 ⟨0, by omega, ?_⟩ ?_
      · simp -implicitDefEqProofs (disch := omega) only [go_sem, ↓reduceIte, Nat.reduceEqDiff, Nat.reduceMul, Nat.reduceAdd, Nat.reduceDiv, Nat.reduceBEq, Nat.reduceLeDiff, Int.reduceToNat, Int.reduceNe, Int.reduceEq, Int.reduceLT, Int.reduceLE, Int.reduceBEq, Int.reduceBNe, ne_eq, not_true_eq_false, not_false_eq_true, decide_true, decide_false, List.length_map, b2, b3, b4, b6, b11, bs, l60, l61, l62, ls, Nat.sub_zero]
        rw [← hB3]; exact ⟨rfl, rfl, rfl⟩
      · clear hB3
        clear b2 b3 b4 b6 b11 bs l60 l61 l62 ls hv hb
        rintro n E σ ⟨v, hv, b2, b3, b4, b6, b11, bs, l172, l173, l174, ms⟩
        simp -implicitDefEqProofs (disch := omega) only [go_sem, ↓reduceIte, Nat.reduceEqDiff, Nat.reduceMul, Nat.reduceAdd, Nat.reduceDiv, Nat.reduceBEq, Nat.reduceLeDiff, Int.reduceToNat, Int.reduceNe, Int.reduceEq, Int.reduceLT, Int.reduceLE, Int.reduceBEq, Int.reduceBNe, ne_eq, not_true_eq_false, not_false_eq_true, decide_true, decide_false, List.length_map, b2, b3, b4, b6, b11, bs, l172, l173, l174, ms]
        refine branch_mk (fun hb => ?_) (fun hb => ?_)
        · have hm := hB3e _ (gd_mem B3 v (by omega))
          have hbE := rfl (a := gd B3 v)
          simp -implicitDefEqProofs (disch := omega) only [go_sem, ↓reduceIte, Nat.reduceEqDiff, Nat.reduceMul, Nat.reduceAdd, Nat.reduceDiv, Nat.reduceBEq, Nat.reduceLeDiff, Int.reduceToNat, Int.reduceNe, Int.reduceEq, Int.reduceLT, Int.reduceLE, Int.reduceBEq, Int.reduceBNe, ne_eq, not_true_eq_false, not_false_eq_true, decide_true, decide_false, List.length_map, b2, b3, b4, b6, b11, bs, l172, l173, l174, ms, hB3l]
          generalize gd B3 v = b at *
          obtain ⟨s, f, hf1, hf2, hsl, hsp⟩ := few_form b
          have k1 := Fewest_ev b (by omega)
          have k2 := FewestR_ev b (by omega)
          have k3 := Settle_ev b (by omega)
          rw [hf1] at k1 k2
          rw [hf2] at k3
          refine callC_at k1 ?_
          simp -implicitDefEqProofs (disch := omega) only [go_sem, ↓reduceIte, Nat.reduceEqDiff, Nat.reduceMul, Nat.reduceAdd, Nat.reduceDiv, Nat.reduceBEq, Nat.reduceLeDiff, Int.reduceToNat, Int.reduceNe, Int.reduceEq, Int.reduceLT, Int.reduceLE, Int.reduceBEq, Int.reduceBNe, ne_eq, not_true_eq_false, not_false_eq_true, decide_true, decide_false, List.length_map, b2, b3, b4, b6, b11, bs, l172, l173, l174, ms]
          refine callC_at k2 ?_
          simp -implicitDefEqProofs (disch := omega) only [go_sem, ↓reduceIte, Nat.reduceEqDiff, Nat.reduceMul, Nat.reduceAdd, Nat.reduceDiv, Nat.reduceBEq, Nat.reduceLeDiff, Int.reduceToNat, Int.reduceNe, Int.reduceEq, Int.reduceLT, Int.reduceLE, Int.reduceBEq, Int.reduceBNe, ne_eq, not_true_eq_false, not_false_eq_true, decide_true, decide_false, List.length_map, b2, b3, b4, b6, b11, bs, l172, l173, l174, ms]
          refine callC_at (ev_sl k3 (.tup [DL s, Er f])) ?_
          simp -implicitDefEqProofs (disch := omega) only [go_sem, ↓reduceIte, Nat.reduceEqDiff, Nat.reduceMul, Nat.reduceAdd, Nat.reduceDiv, Nat.reduceBEq, Nat.reduceLeDiff, Int.reduceToNat, Int.reduceNe, Int.reduceEq, Int.reduceLT, Int.reduceLE, Int.reduceBEq, Int.reduceBNe, ne_eq, not_true_eq_false, not_false_eq_true, decide_true, decide_false, List.length_map, b2, b3, b4, b6, b11, bs, l172, l173, l174, ms, bne_self_eq_false, bne_self']
          refine loopC_mk (fun n E σ => ∃ i : Nat, i + n = s.length ∧ E 2 = DL w ∧ E 3 = SL y ∧ E 4 = SL z ∧ E 6 = .ptr 8388704 3 0 0 ∧ E 11 = DL l ∧ σ 8388704 = some ⟨23, 3, [DP t]⟩ ∧ E 172 = .own 8391360 1 0 3 ∧ E 173 = I 3 ∧ E 174 = I v ∧ σ 8391360 = some ⟨25, 1, B3.map SL⟩ ∧ E 32 = SL b ∧ E 37 = DL s ∧ E 39 = I i) s.length ⟨0, by omega, ?_⟩ ?_
          · simp -implicitDefEqProofs (disch := omega) only [go_sem, ↓reduceIte, Nat.reduceEqDiff, Nat.reduceMul, Nat.reduceAdd, Nat.reduceDiv, Nat.reduceBEq, Nat.reduceLeDiff, Int.reduceToNat, Int.reduceNe, Int.reduceEq, Int.reduceLT, Int.reduceLE, Int.reduceBEq, Int.reduceBNe, ne_eq, not_true_eq_false, not_false_eq_true, decide_true, decide_false, List.length_map, b2, b3, b4, b6, b11, bs, l172, l173, l174, ms]
            simp
          · clear b2 b3 b4 b6 b11 bs l172 l173 l174 ms
            rintro n' E σ ⟨i, hi, b2, b3, b4, b6, b11, bs, l172, l173, l174, ms, c32, c37, c39⟩
            simp -implicitDefEqProofs (disch := omega) only [go_sem, ↓reduceIte, Nat.reduceEqDiff, Nat.reduceMul, Nat.reduceAdd, Nat.reduceDiv, Nat.reduceBEq, Nat.reduceLeDiff, Int.reduceToNat, Int.reduceNe, Int.reduceEq, Int.reduceLT, Int.reduceLE, Int.reduceBEq, Int.reduceBNe, ne_eq, not_true_eq_false, not_false_eq_true, decide_true, decide_false, List.length_map, b2, b3, b4, b6, b11, bs, l172, l173, l174, ms, c32, c37, c39]
            refine branch_mk (fun hbi => ?_) (fun hbi => ?_)
            · obtain ⟨p1, p2, p3, p4, p5, p6⟩ := hsp _ (gd_mem s i (by omega))
              have q1 : ¬ (gd s i).1 < 0 := by omega
              have q2 : ¬ (b.length : Int) ≤ (gd s i).1 := by omega
              have q3 : ¬ (gd s i).2.1 < 0 := by omega
              have q4 : ¬ (b.length : Int) ≤ (gd s i).2.1 := by omega
              have q5 : ¬ 0 ≤ gd b (gd s i).1.toNat := by omega
              have q6 : ¬ gd b (gd s i).2.1.toNat ≤ 0 := by omega
              simp -implicitDefEqProofs (disch := omega) only [go_sem, ↓reduceIte, Nat.reduceEqDiff, Nat.reduceMul, Nat.reduceAdd, Nat.reduceDiv, Nat.reduceBEq, Nat.reduceLeDiff, Int.reduceToNat, Int.reduceNe, Int.reduceEq, Int.reduceLT, Int.reduceLE, Int.reduceBEq, Int.reduceBNe, ne_eq, not_true_eq_false, not_false_eq_true, decide_true, decide_false, List.length_map, b2, b3, b4, b6, b11, bs, l172, l173, l174, ms, c32, c37, c39, q1, q2, q3, q4, q5, q6]
              refine againQ_mk (n' - 1) (by omega) ⟨i + 1, by omega, ?_⟩
              simp -implicitDefEqProofs (disch := omega) only [go_sem, ↓reduceIte, Nat.reduceEqDiff, Nat.reduceMul, Nat.reduceAdd, Nat.reduceDiv, Nat.reduceBEq, Nat.reduceLeDiff, Int.reduceToNat, Int.reduceNe, Int.reduceEq, Int.reduceLT, Int.reduceLE, Int.reduceBEq, Int.reduceBNe, ne_eq, not_true_eq_false, not_false_eq_true, decide_true, decide_false, List.length_map, b2, b3, b4, b6, b11, bs, l172, l173, l174, ms, c32, c37, c39]
              simp
            · simp -implicitDefEqProofs (disch := omega) only [go_sem, ↓reduceIte, Nat.reduceEqDiff, Nat.reduceMul, Nat.reduceAdd, Nat.reduceDiv, Nat.reduceBEq, Nat.reduceLeDiff, Int.reduceToNat, Int.reduceNe, Int.reduceEq, Int.reduceLT, Int.reduceLE, Int.reduceBEq, Int.reduceBNe, ne_eq, not_true_eq_false, not_false_eq_true, decide_true, decide_false, List.length_map, b2, b3, b4, b6, b11, bs, l172, l173, l174, ms, c32, c37, c39]
              refine callC_at (ev_sl (bent_ev s t.1 t.2.1 t.2.2 (by omega) ht.1 ht.2.1 ht.2.2) (DL (bentF s t.1 t.2.1 t.2.2))) ?_ (h4 := .inr (dnL_debs _))
              have hs100 := bent_len s t.1 t.2.1 t.2.2 (by omega)
              generalize bentF s t.1 t.2.1 t.2.2 = sb at *
              obtain ⟨wt, hwt, hwl⟩ : ∃ wt, w.take (min w.length 61) = wt ∧ wt.length ≤ 61 := ⟨_, rfl, by simp; omega⟩
              simp -implicitDefEqProofs (disch := omega) only [go_sem, ↓reduceIte, Nat.reduceEqDiff, Nat.reduceMul, Nat.reduceAdd, Nat.reduceDiv, Nat.reduceBEq, Nat.reduceLeDiff, Int.reduceToNat, Int.reduceNe, Int.reduceEq, Int.reduceLT, Int.reduceLE, Int.reduceBEq, Int.reduceBNe, ne_eq, not_true_eq_false, not_false_eq_true, decide_true, decide_false, List.length_map, b2, b3, b4, b6, b11, bs, l172, l173, l174, ms, c32, c37, c39, allOK_dl, r1, Nat.sub_zero, hwt]

              obtain ⟨P4, hP4, hP4l, hP4e⟩ : ∃ P4 : List (List Deb), [s, l, sb, wt] = P4 ∧ P4.length = 4 ∧ ∀ a ∈ P4, a.length ≤ 1000 := ⟨_, rfl, rfl, fun a ha => by
                simp only [List.mem_cons, List.not_mem_nil, or_false] at ha
                rcases ha with rfl | rfl | rfl | rfl <;> omega⟩
              refine loopC_mk (fun n E σ => ∃ u : Nat, u + n = 4 ∧ E 2 = DL w ∧ E 3 = SL y ∧ E 4 = SL z ∧ E 6 = .ptr 8388704 3 0 0 ∧ E 11 = DL l ∧ σ 8388704 = some ⟨23, 3, [DP t]⟩ ∧ E 172 = .own 8391360 1 0 3 ∧ E 173 = I 3 ∧ E 174 = I v ∧ σ 8391360 = some ⟨25, 1, B3.map SL⟩ ∧ E 32 = SL b ∧ E 37 = DL s ∧ E 289 = .own 8393232 1 0 4 ∧ E 290 = I 4 ∧ E 291 = I u ∧ σ 8393232 = some ⟨24, 1, P4.map DL⟩) 4 ⟨0, by omega, ?_⟩ ?_
              · simp -implicitDefEqProofs (disch := omega) only [go_sem, ↓reduceIte, Nat.reduceEqDiff, Nat.reduceMul, Nat.reduceAdd, Nat.reduceDiv, Nat.reduceBEq, Nat.reduceLeDiff, Int.reduceToNat, Int.reduceNe, Int.reduceEq, Int.reduceLT, Int.reduceLE, Int.reduceBEq, Int.reduceBNe, ne_eq, not_true_eq_false, not_false_eq_true, decide_true, decide_false, List.length_map, b2, b3, b4, b6, b11, bs, l172, l173, l174, ms, c32, c37, c39, Nat.sub_zero]
                rw [← hP4]; exact ⟨rfl, rfl, rfl⟩
              · clear hP4
                clear b2 b3 b4 b6 b11 bs l172 l173 l174 ms c32 c37 c39 hi hbi
                rintro nu E σ ⟨u, hu, b2, b3, b4, b6, b11, bs, l172, l173, l174, ms, c32, c37, d289, d290, d291, ds⟩
                simp -implicitDefEqProofs (disch := omega) only [go_sem, ↓reduceIte, Nat.reduceEqDiff, Nat.reduceMul, Nat.reduceAdd, Nat.reduceDiv, Nat.reduceBEq, Nat.reduceLeDiff, Int.reduceToNat, Int.reduceNe, Int.reduceEq, Int.reduceLT, Int.reduceLE, Int.reduceBEq, Int.reduceBNe, ne_eq, not_true_eq_false, not_false_eq_true, decide_true, decide_false, List.length_map, b2, b3, b4, b6, b11, bs, l172, l173, l174, ms, c32, c37, d289, d290, d291, ds]
                refine branch_mk (fun hbu => ?_) (fun hbu => ?_)
                · have hmu := hP4e _ (gd_mem P4 u (by omega))
                  simp -implicitDefEqProofs (disch := omega) only [go_sem, ↓reduceIte, Nat.reduceEqDiff, Nat.reduceMul, Nat.reduceAdd, Nat.reduceDiv, Nat.reduceBEq, Nat.reduceLeDiff, Int.reduceToNat, Int.reduceNe, Int.reduceEq, Int.reduceLT, Int.reduceLE, Int.reduceBEq, Int.reduceBNe, ne_eq, not_true_eq_false, not_false_eq_true, decide_true, decide_false, List.length_map, b2, b3, b4, b6, b11, bs, l172, l173, l174, ms, c32, c37, d289, d290, d291, ds, hP4l]
                  refine callC_at (check_ev b (gd P4 u) (by omega) (by omega)) ?_
                  simp -implicitDefEqProofs (disch := omega) only [go_sem, ↓reduceIte, Nat.reduceEqDiff, Nat.reduceMul, Nat.reduceAdd, Nat.reduceDiv, Nat.reduceBEq, Nat.reduceLeDiff, Int.reduceToNat, Int.reduceNe, Int.reduceEq, Int.reduceLT, Int.reduceLE, Int.reduceBEq, Int.reduceBNe, ne_eq, not_true_eq_false, not_false_eq_true, decide_true, decide_false, List.length_map, b2, b3, b4, b6, b11, bs, l172, l173, l174, ms, c32, c37, d289, d290, d291, ds]
                  refine callC_at (checkR_ev b (gd P4 u) (by omega) (by omega)) ?_
                  simp -implicitDefEqProofs (disch := omega) only [go_sem, ↓reduceIte, Nat.reduceEqDiff, Nat.reduceMul, Nat.reduceAdd, Nat.reduceDiv, Nat.reduceBEq, Nat.reduceLeDiff, Int.reduceToNat, Int.reduceNe, Int.reduceEq, Int.reduceLT, Int.reduceLE, Int.reduceBEq, Int.reduceBNe, ne_eq, not_true_eq_false, not_false_eq_true, decide_true, decide_false, List.length_map, b2, b3, b4, b6, b11, bs, l172, l173, l174, ms, c32, c37, d289, d290, d291, ds, bne_self_eq_false, bne_self']
                  refine againQ_mk (nu - 1) (by omega) ⟨u + 1, by omega, ?_⟩
                  simp -implicitDefEqProofs (disch := omega) only [go_sem, ↓reduceIte, Nat.reduceEqDiff, Nat.reduceMul, Nat.reduceAdd, Nat.reduceDiv, Nat.reduceBEq, Nat.reduceLeDiff, Int.reduceToNat, Int.reduceNe, Int.reduceEq, Int.reduceLT, Int.reduceLE, Int.reduceBEq, Int.reduceBNe, ne_eq, not_true_eq_false, not_false_eq_true, decide_true, decide_false, List.length_map, b2, b3, b4, b6, b11, bs, l172, l173, l174, ms, c32, c37, d289, d290, d291, ds]
                  simp
                · simp -implicitDefEqProofs (disch := omega) only [go_sem, ↓reduceIte, Nat.reduceEqDiff, Nat.reduceMul, Nat.reduceAdd, Nat.reduceDiv, Nat.reduceBEq, Nat.reduceLeDiff, Int.reduceToNat, Int.reduceNe, Int.reduceEq, Int.reduceLT, Int.reduceLE, Int.reduceBEq, Int.reduceBNe, ne_eq, not_true_eq_false, not_false_eq_true, decide_true, decide_false, List.length_map, b2, b3, b4, b6, b11, bs, l172, l173, l174, ms, c32, c37, d289, d290, d291, ds]
                  refine againQ_mk (n - 1) (by omega) ⟨v + 1, by omega, ?_⟩
                  simp -implicitDefEqProofs (disch := omega) only [go_sem, ↓reduceIte, Nat.reduceEqDiff, Nat.reduceMul, Nat.reduceAdd, Nat.reduceDiv, Nat.reduceBEq, Nat.reduceLeDiff, Int.reduceToNat, Int.reduceNe, Int.reduceEq, Int.reduceLT, Int.reduceLE, Int.reduceBEq, Int.reduceBNe, ne_eq, not_true_eq_false, not_false_eq_true, decide_true, decide_false, List.length_map, b2, b3, b4, b6, b11, bs, l172, l173, l174, ms, c32, c37, d289, d290, d291, ds]
                  simp
        · simp -implicitDefEqProofs (disch := omega) only [go_sem, ↓reduceIte, Nat.reduceEqDiff, Nat.reduceMul, Nat.reduceAdd, Nat.reduceDiv, Nat.reduceBEq, Nat.reduceLeDiff, Int.reduceToNat, Int.reduceNe, Int.reduceEq, Int.reduceLT, Int.reduceLE, Int.reduceBEq, Int.reduceBNe, ne_eq, not_true_eq_false, not_false_eq_true, decide_true, decide_false, List.length_map, Try.results3, b2, b3, b4, b6, b11, bs, l172, l173, l174, ms]
end
end Go.Proofs.Ytjbgckjcbmmobaa

/- Chapter 39, NettingMatchesReference: all functions agree with the reference implementation, for every input. -/
set_option maxRecDepth 100000
namespace Go.Proofs.Ytjbgckjcbmmobaa
open Go.Vai Go Go.Proofs

theorem nettingMatchesReference_lifted (os : Os) (started : os.Started) (H : Type) (enc : TypeId × Value → H) :
    ReturnsInHanded {} Try.checked os 3 .any (Rows.nettingMatchesReferenceSpec.pre6 enc Try.prog Try.f3 [] false) (Rows.nettingMatchesReferenceSpec.post enc Try.prog Try.f3 false true false false) :=
  lifted (C := Try.checked) (tb := 4) (ps := [OX, OT, OX, OS, OS]) own started (by kernel_rfl) Try.func3
    (ChangeSpec.witness6 (enc := enc) (C := Try.checked) false ⟨#[], #[.slice none 0 0, .agg #[.int .i64 0, .int .i64 0, .int .i64 0], .slice none 0 0, .slice none 0 0, .slice none 0 0], []⟩ 8 (by kernel_rfl) (by kernel_rfl) (by kernel_rfl) (by kernel_rfl))
    laidOut (by kernel_rfl) (by kernel_rfl) (by kernel_rfl) rfl (len_5 fun _ _ _ _ _ => rfl)
    (fun w => ⟨o_threes, o_three, o_debs, o_ints, o_ints, trivial⟩)
    (allP_5 fun a0 a1 a2 a3 a4 h0 h1 h2 h3 h4 => by
      obtain ⟨x0, hx0, hr0, rfl⟩ := h0
      obtain ⟨x1, hx1, rfl⟩ := h1
      obtain ⟨x2, hx2, hr2, rfl⟩ := h2
      obtain ⟨x3, hx3, hr3, rfl⟩ := h3
      obtain ⟨x4, hx4, hr4, rfl⟩ := h4
      exact matches_ev x0 x1 x2 x3 x4 hx0 hr0 hx1 hx2 hr2 hx3 hr3 hx4 hr4)
theorem nettingMatchesReference_holds : Rows.NettingMatchesReferenceSaid :=
  OpenClaim.holds_of_wide 3 Try.f3 rfl rfl rfl rfl rfl rfl rfl ⟨rfl, rfl, rfl, rfl, rfl⟩ rfl rfl rfl rfl rfl (by kernel_rfl) Try.func3 (by kernel_rfl)
    (of_decide_eq_true (by kernel_rfl)) (by unfold Func.isWrapper; first | (rw [if_pos (by decide +kernel)]; kernel_rfl) | (rw [if_neg (by decide +kernel)]; exact ⟨rfl, rfl⟩))
    (fun os started H enc _ => nettingMatchesReference_lifted os started H enc)
#print axioms nettingMatchesReference_holds
end Go.Proofs.Ytjbgckjcbmmobaa

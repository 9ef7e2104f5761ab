/- Chapter 24: paths that are shown, lists of hops -/
import Derived.Test.YtmiahmpobpokmaaKF
/- Chapter 24: who is to blame. -/
set_option maxRecDepth 100000
set_option linter.unusedSimpArgs false
namespace Go.Proofs.Ytmiahmpobpokmaa
open Go.Vai Go Go.Proofs

@[go_sem] theorem set_hps (l : List (Int × Int)) (i : Nat) (a b : Int) : (l.map HP).set i (.agg [.v (.int .i64 a), .v (.int .i64 b)]) = (l.set i (a, b)).map HP := by rw [List.map_set]
@[go_sem] theorem take_setL {T : Type} (l : List T) (i n : Nat) (x : T) : (l.set i x).take n = (l.take n).set i x := List.take_set ..
theorem gd_set_same {T : Type} [Inhabited T] (l : List T) (i : Nat) (x : T) (h : i < l.length) : gd (l.set i x) i = x := by rw [gd_set _ _ _ _ h, if_pos rfl]

theorem shows_ev (x y : List Int) (lag c which n : Int) (hx : x.length ≤ 9223372036854775807) (hy : y.length ≤ 9223372036854775807) (hxr : ∀ a ∈ x, R64 a) (hyr : ∀ a ∈ y, R64 a) (hl : R64 lag) (hc : R64 c) (hw : R64 which) (hn : R64 n) : Ev Try.prog 8 [SL x, SL y, I lag, I c, I which, I n] (B true) := by
  refine ev_of Try.func8 rfl (by kernel_rfl) mo (Nat.le_of_ble_eq_true rfl) ?_
  simp -implicitDefEqProofs (disch := omega) only [go_sem, ↓reduceIte, Nat.reduceEqDiff, Nat.reduceMul, Nat.reduceAdd, Nat.reduceDiv, Nat.reduceBEq, Nat.reduceLeDiff, Int.reduceToNat, Int.reduceNe, Int.reduceEq, Int.reduceLT, Int.reduceLE, Int.reduceBEq, Int.reduceBNe, ne_eq, not_true_eq_false, not_false_eq_true, decide_true, decide_false, Int.cast_ofNat_Int, beq_self_eq_true, eq_self, Bool.true_and, Bool.and_true, Bool.false_and, Bool.and_false, Bool.not_true, Bool.not_false, List.length_map, Try.ntmps8]
  refine callC_at sane_ev ?_
  simp -implicitDefEqProofs (disch := omega) only [go_sem, ↓reduceIte, Nat.reduceEqDiff, Nat.reduceMul, Nat.reduceAdd, Nat.reduceDiv, Nat.reduceBEq, Nat.reduceLeDiff, Int.reduceToNat, Int.reduceNe, Int.reduceEq, Int.reduceLT, Int.reduceLE, Int.reduceBEq, Int.reduceBNe, ne_eq, not_true_eq_false, not_false_eq_true, decide_true, decide_false, Int.cast_ofNat_Int, beq_self_eq_true, eq_self, Bool.true_and, Bool.and_true, Bool.false_and, Bool.and_false, Bool.not_true, Bool.not_false, List.length_map]
  refine callC_at (made_ev x y lag hx hy hxr hyr hl) ?_
  have hv := made_valid x y lag
  generalize knownF (madeH x) (madeL lag) y = k at *
  generalize madeH x = h at *
  generalize madeL lag = l at *
  simp -implicitDefEqProofs (disch := omega) only [go_sem, ↓reduceIte, Nat.reduceEqDiff, Nat.reduceMul, Nat.reduceAdd, Nat.reduceDiv, Nat.reduceBEq, Nat.reduceLeDiff, Int.reduceToNat, Int.reduceNe, Int.reduceEq, Int.reduceLT, Int.reduceLE, Int.reduceBEq, Int.reduceBNe, ne_eq, not_true_eq_false, not_false_eq_true, decide_true, decide_false, Int.cast_ofNat_Int, beq_self_eq_true, eq_self, Bool.true_and, Bool.and_true, Bool.false_and, Bool.and_false, Bool.not_true, Bool.not_false, List.length_map]
  refine callC_at (pick_ev' c 8 hc (by omega)) ?_
  have hd := pickF_in (c := c) (n := 8) (by omega)
  generalize pickF c 8 = d at *
  simp -implicitDefEqProofs (disch := omega) only [go_sem, ↓reduceIte, Nat.reduceEqDiff, Nat.reduceMul, Nat.reduceAdd, Nat.reduceDiv, Nat.reduceBEq, Nat.reduceLeDiff, Int.reduceToNat, Int.reduceNe, Int.reduceEq, Int.reduceLT, Int.reduceLE, Int.reduceBEq, Int.reduceBNe, ne_eq, not_true_eq_false, not_false_eq_true, decide_true, decide_false, Int.cast_ofNat_Int, beq_self_eq_true, eq_self, Bool.true_and, Bool.and_true, Bool.false_and, Bool.and_false, Bool.not_true, Bool.not_false, List.length_map]
  obtain ⟨g1, g2, g3, g4, g5, g6⟩ := valid_holders hv
  have hp := path_ev h k l d (by omega) (by omega) ⟨by omega, by omega⟩
  by_cases hcan : canF h k l d = true
  · rw [pathR, if_pos hcan] at hp
    have hP := path24 hcan
    have hright := path_right hcan
    have hbent := path_bent hcan
    clear hcan
    generalize (pathF h k d).2 = e at hp hP
    generalize (pathF h k d).1 = p at hp hP hright hbent
    have hpos := hP.ok.pos
    have hshort := hP.short
    refine callC_at hp ?_ (h1 := .inr (by simp only [go_sem, AV.flat, AV.flatL, Bool.and_self]))
    simp -implicitDefEqProofs (disch := omega) only [go_sem, ↓reduceIte, Nat.reduceEqDiff, Nat.reduceMul, Nat.reduceAdd, Nat.reduceDiv, Nat.reduceBEq, Nat.reduceLeDiff, Int.reduceToNat, Int.reduceNe, Int.reduceEq, Int.reduceLT, Int.reduceLE, Int.reduceBEq, Int.reduceBNe, ne_eq, not_true_eq_false, not_false_eq_true, decide_true, decide_false, Int.cast_ofNat_Int, beq_self_eq_true, eq_self, Bool.true_and, Bool.and_true, Bool.false_and, Bool.and_false, Bool.not_true, Bool.not_false, List.length_map]
    refine callC_at (ev_to (right_ev h p (by omega) (by omega)) (r' := B true) (by rw [hright]; rfl)) ?_
    simp -implicitDefEqProofs (disch := omega) only [go_sem, ↓reduceIte, Nat.reduceEqDiff, Nat.reduceMul, Nat.reduceAdd, Nat.reduceDiv, Nat.reduceBEq, Nat.reduceLeDiff, Int.reduceToNat, Int.reduceNe, Int.reduceEq, Int.reduceLT, Int.reduceLE, Int.reduceBEq, Int.reduceBNe, ne_eq, not_true_eq_false, not_false_eq_true, decide_true, decide_false, Int.cast_ofNat_Int, beq_self_eq_true, eq_self, Bool.true_and, Bool.and_true, Bool.false_and, Bool.and_false, Bool.not_true, Bool.not_false, List.length_map]
    refine callC_at (ev_to (blame_ev h p (by omega) (by omega)) (r' := I (-1)) (by rw [hright])) ?_
    simp -implicitDefEqProofs (disch := omega) only [go_sem, ↓reduceIte, Nat.reduceEqDiff, Nat.reduceMul, Nat.reduceAdd, Nat.reduceDiv, Nat.reduceBEq, Nat.reduceLeDiff, Int.reduceToNat, Int.reduceNe, Int.reduceEq, Int.reduceLT, Int.reduceLE, Int.reduceBEq, Int.reduceBNe, ne_eq, not_true_eq_false, not_false_eq_true, decide_true, decide_false, Int.cast_ofNat_Int, beq_self_eq_true, eq_self, Bool.true_and, Bool.and_true, Bool.false_and, Bool.and_false, Bool.not_true, Bool.not_false, List.length_map]
    refine branch_mk (fun h2 => ?_) (fun h2 => ?_)
    · simp -implicitDefEqProofs (disch := omega) only [go_sem, ↓reduceIte, Nat.reduceEqDiff, Nat.reduceMul, Nat.reduceAdd, Nat.reduceDiv, Nat.reduceBEq, Nat.reduceLeDiff, Int.reduceToNat, Int.reduceNe, Int.reduceEq, Int.reduceLT, Int.reduceLE, Int.reduceBEq, Int.reduceBNe, ne_eq, not_true_eq_false, not_false_eq_true, decide_true, decide_false, Int.cast_ofNat_Int, beq_self_eq_true, eq_self, Bool.true_and, Bool.and_true, Bool.false_and, Bool.and_false, Bool.not_true, Bool.not_false, List.length_map, Try.results8]
    · simp -implicitDefEqProofs (disch := omega) only [go_sem, ↓reduceIte, Nat.reduceEqDiff, Nat.reduceMul, Nat.reduceAdd, Nat.reduceDiv, Nat.reduceBEq, Nat.reduceLeDiff, Int.reduceToNat, Int.reduceNe, Int.reduceEq, Int.reduceLT, Int.reduceLE, Int.reduceBEq, Int.reduceBNe, ne_eq, not_true_eq_false, not_false_eq_true, decide_true, decide_false, Int.cast_ofNat_Int, beq_self_eq_true, eq_self, Bool.true_and, Bool.and_true, Bool.false_and, Bool.and_false, Bool.not_true, Bool.not_false, List.length_map]
      refine callC_at (pick_ev' which _ hw (by omega)) ?_
      have hi := pickF_in (c := which) (n := (p.length : Int) - 1) (by omega)
      obtain ⟨j, hj⟩ : ∃ j : Nat, pickF which ((p.length : Int) - 1) = j := ⟨(pickF which ((p.length : Int) - 1)).toNat, by omega⟩
      rw [hj] at hi ⊢
      have e0 : (1 + (j : Int)).toNat = j + 1 := by omega
      have e1 : (1 + (j : Int) - 1).toNat = j := by omega
      have hin := hP.here _ (gd_mem p j (by omega))
      have hb1 := fun x hx => hbent (j + 1) (by omega) (by omega) x hx
      rw [show j + 1 - 1 = j from by omega] at hb1
      have hjl : j + 1 < p.length := by omega
      have sm : ∀ (l : List (Int × Int)) (z : Int × Int), j + 1 < l.length → gd (l.set (j + 1) z) (j + 1) = z := fun l z h => gd_set_same l (j + 1) z h
      have hch : ∀ v, n ≠ (gd p (j + 1)).1 → blameF h (p.set (j + 1) (n, v)) = ((j + 1 : Nat) : Int) := fun v hne => hb1 (n, v) (.inl hne)
      have hlo : ∀ v, v < (gd p j).2 → blameF h (p.set (j + 1) ((gd p (j + 1)).1, v)) = ((j + 1 : Nat) : Int) := fun v hv => hb1 (_, v) (.inr hv)
      have hpk := pickF_in (c := n) (n := 3) (by omega)
      have q2 := hlo ((gd p j).2 - 1 - pickF n 3) (by omega)
      have c3 := ev_to (right_ev h (p.set (j + 1) ((gd p (j + 1)).1, (gd p j).2 - 1 - pickF n 3)) (by omega) (by simp; omega)) (r' := B false) (by rw [q2]; simp; omega)
      have c4 := ev_to (blame_ev h (p.set (j + 1) ((gd p (j + 1)).1, (gd p j).2 - 1 - pickF n 3)) (by omega) (by simp; omega)) (r' := I ((j + 1 : Nat) : Int)) (by rw [q2])
      simp -implicitDefEqProofs (disch := omega) only [go_sem, ↓reduceIte, Nat.reduceEqDiff, Nat.reduceMul, Nat.reduceAdd, Nat.reduceDiv, Nat.reduceBEq, Nat.reduceLeDiff, Int.reduceToNat, Int.reduceNe, Int.reduceEq, Int.reduceLT, Int.reduceLE, Int.reduceBEq, Int.reduceBNe, ne_eq, not_true_eq_false, not_false_eq_true, decide_true, decide_false, Int.cast_ofNat_Int, beq_self_eq_true, eq_self, Bool.true_and, Bool.and_true, Bool.false_and, Bool.and_false, Bool.not_true, Bool.not_false, List.length_map, e0, List.nil_append]
      refine branch_mk (fun hne => ?_) (fun hne => ?_)
      · have q1 := hch (gd p (j + 1)).2 hne
        have c1 := ev_to (right_ev h (p.set (j + 1) (n, (gd p (j + 1)).2)) (by omega) (by simp; omega)) (r' := B false) (by rw [q1]; simp; omega)
        have c2 := ev_to (blame_ev h (p.set (j + 1) (n, (gd p (j + 1)).2)) (by omega) (by simp; omega)) (r' := I ((j + 1 : Nat) : Int)) (by rw [q1])
        simp -implicitDefEqProofs (disch := omega) only [go_sem, ↓reduceIte, Nat.reduceEqDiff, Nat.reduceMul, Nat.reduceAdd, Nat.reduceDiv, Nat.reduceBEq, Nat.reduceLeDiff, Int.reduceToNat, Int.reduceNe, Int.reduceEq, Int.reduceLT, Int.reduceLE, Int.reduceBEq, Int.reduceBNe, ne_eq, not_true_eq_false, not_false_eq_true, decide_true, decide_false, Int.cast_ofNat_Int, beq_self_eq_true, eq_self, Bool.true_and, Bool.and_true, Bool.false_and, Bool.and_false, Bool.not_true, Bool.not_false, List.length_map, e0, e1]
        refine callC_at c1 ?_
        simp -implicitDefEqProofs (disch := omega) only [go_sem, ↓reduceIte, Nat.reduceEqDiff, Nat.reduceMul, Nat.reduceAdd, Nat.reduceDiv, Nat.reduceBEq, Nat.reduceLeDiff, Int.reduceToNat, Int.reduceNe, Int.reduceEq, Int.reduceLT, Int.reduceLE, Int.reduceBEq, Int.reduceBNe, ne_eq, not_true_eq_false, not_false_eq_true, decide_true, decide_false, Int.cast_ofNat_Int, beq_self_eq_true, eq_self, Bool.true_and, Bool.and_true, Bool.false_and, Bool.and_false, Bool.not_true, Bool.not_false, List.length_map, e0, e1]
        refine callC_at c2 ?_
        have e2 : ¬ ¬ ((j + 1 : Nat) : Int) = 1 + j := by omega
        simp -implicitDefEqProofs (disch := omega) only [go_sem, ↓reduceIte, Nat.reduceEqDiff, Nat.reduceMul, Nat.reduceAdd, Nat.reduceDiv, Nat.reduceBEq, Nat.reduceLeDiff, Int.reduceToNat, Int.reduceNe, Int.reduceEq, Int.reduceLT, Int.reduceLE, Int.reduceBEq, Int.reduceBNe, ne_eq, not_true_eq_false, not_false_eq_true, decide_true, decide_false, Int.cast_ofNat_Int, beq_self_eq_true, eq_self, Bool.true_and, Bool.and_true, Bool.false_and, Bool.and_false, Bool.not_true, Bool.not_false, List.length_map, e0, e1, e2, sm, List.set_set, and_self]
        refine callC_at (pick_ev' n 3 hn (by omega)) ?_
        simp -implicitDefEqProofs (disch := omega) only [go_sem, ↓reduceIte, Nat.reduceEqDiff, Nat.reduceMul, Nat.reduceAdd, Nat.reduceDiv, Nat.reduceBEq, Nat.reduceLeDiff, Int.reduceToNat, Int.reduceNe, Int.reduceEq, Int.reduceLT, Int.reduceLE, Int.reduceBEq, Int.reduceBNe, ne_eq, not_true_eq_false, not_false_eq_true, decide_true, decide_false, Int.cast_ofNat_Int, beq_self_eq_true, eq_self, Bool.true_and, Bool.and_true, Bool.false_and, Bool.and_false, Bool.not_true, Bool.not_false, List.length_map, e0, e1, sm, List.set_set, and_self]
        refine callC_at c3 ?_
        simp -implicitDefEqProofs (disch := omega) only [go_sem, ↓reduceIte, Nat.reduceEqDiff, Nat.reduceMul, Nat.reduceAdd, Nat.reduceDiv, Nat.reduceBEq, Nat.reduceLeDiff, Int.reduceToNat, Int.reduceNe, Int.reduceEq, Int.reduceLT, Int.reduceLE, Int.reduceBEq, Int.reduceBNe, ne_eq, not_true_eq_false, not_false_eq_true, decide_true, decide_false, Int.cast_ofNat_Int, beq_self_eq_true, eq_self, Bool.true_and, Bool.and_true, Bool.false_and, Bool.and_false, Bool.not_true, Bool.not_false, List.length_map]
        refine callC_at c4 ?_
        simp -implicitDefEqProofs (disch := omega) only [go_sem, ↓reduceIte, Nat.reduceEqDiff, Nat.reduceMul, Nat.reduceAdd, Nat.reduceDiv, Nat.reduceBEq, Nat.reduceLeDiff, Int.reduceToNat, Int.reduceNe, Int.reduceEq, Int.reduceLT, Int.reduceLE, Int.reduceBEq, Int.reduceBNe, ne_eq, not_true_eq_false, not_false_eq_true, decide_true, decide_false, Int.cast_ofNat_Int, beq_self_eq_true, eq_self, Bool.true_and, Bool.and_true, Bool.false_and, Bool.and_false, Bool.not_true, Bool.not_false, List.length_map, Try.results8]
        simp; omega
      · simp -implicitDefEqProofs (disch := omega) only [go_sem, ↓reduceIte, Nat.reduceEqDiff, Nat.reduceMul, Nat.reduceAdd, Nat.reduceDiv, Nat.reduceBEq, Nat.reduceLeDiff, Int.reduceToNat, Int.reduceNe, Int.reduceEq, Int.reduceLT, Int.reduceLE, Int.reduceBEq, Int.reduceBNe, ne_eq, not_true_eq_false, not_false_eq_true, decide_true, decide_false, Int.cast_ofNat_Int, beq_self_eq_true, eq_self, Bool.true_and, Bool.and_true, Bool.false_and, Bool.and_false, Bool.not_true, Bool.not_false, List.length_map, e0, e1, sm, List.set_set, and_self]
        refine callC_at (pick_ev' n 3 hn (by omega)) ?_
        simp -implicitDefEqProofs (disch := omega) only [go_sem, ↓reduceIte, Nat.reduceEqDiff, Nat.reduceMul, Nat.reduceAdd, Nat.reduceDiv, Nat.reduceBEq, Nat.reduceLeDiff, Int.reduceToNat, Int.reduceNe, Int.reduceEq, Int.reduceLT, Int.reduceLE, Int.reduceBEq, Int.reduceBNe, ne_eq, not_true_eq_false, not_false_eq_true, decide_true, decide_false, Int.cast_ofNat_Int, beq_self_eq_true, eq_self, Bool.true_and, Bool.and_true, Bool.false_and, Bool.and_false, Bool.not_true, Bool.not_false, List.length_map, e0, e1, sm, List.set_set, and_self]
        refine callC_at c3 ?_
        simp -implicitDefEqProofs (disch := omega) only [go_sem, ↓reduceIte, Nat.reduceEqDiff, Nat.reduceMul, Nat.reduceAdd, Nat.reduceDiv, Nat.reduceBEq, Nat.reduceLeDiff, Int.reduceToNat, Int.reduceNe, Int.reduceEq, Int.reduceLT, Int.reduceLE, Int.reduceBEq, Int.reduceBNe, ne_eq, not_true_eq_false, not_false_eq_true, decide_true, decide_false, Int.cast_ofNat_Int, beq_self_eq_true, eq_self, Bool.true_and, Bool.and_true, Bool.false_and, Bool.and_false, Bool.not_true, Bool.not_false, List.length_map]
        refine callC_at c4 ?_
        simp -implicitDefEqProofs (disch := omega) only [go_sem, ↓reduceIte, Nat.reduceEqDiff, Nat.reduceMul, Nat.reduceAdd, Nat.reduceDiv, Nat.reduceBEq, Nat.reduceLeDiff, Int.reduceToNat, Int.reduceNe, Int.reduceEq, Int.reduceLT, Int.reduceLE, Int.reduceBEq, Int.reduceBNe, ne_eq, not_true_eq_false, not_false_eq_true, decide_true, decide_false, Int.cast_ofNat_Int, beq_self_eq_true, eq_self, Bool.true_and, Bool.and_true, Bool.false_and, Bool.and_false, Bool.not_true, Bool.not_false, List.length_map, Try.results8]
        simp; omega
  · rw [pathR, if_neg hcan] at hp
    refine callC_at hp ?_
    simp -implicitDefEqProofs (disch := omega) only [go_sem, ↓reduceIte, Nat.reduceEqDiff, Nat.reduceMul, Nat.reduceAdd, Nat.reduceDiv, Nat.reduceBEq, Nat.reduceLeDiff, Int.reduceToNat, Int.reduceNe, Int.reduceEq, Int.reduceLT, Int.reduceLE, Int.reduceBEq, Int.reduceBNe, ne_eq, not_true_eq_false, not_false_eq_true, decide_true, decide_false, Int.cast_ofNat_Int, beq_self_eq_true, eq_self, Bool.true_and, Bool.and_true, Bool.false_and, Bool.and_false, Bool.not_true, Bool.not_false, List.length_map, Try.results8]
end Go.Proofs.Ytmiahmpobpokmaa

/- Chapter 24: lists of hops as they are read. -/
set_option maxRecDepth 100000
namespace Go.Proofs.Ytmiahmpobpokmaa
open Go.Vai Go Go.Proofs
section
variable {H : Type} {enc : TypeId × Value → H} {w : World}
def OH (a : AV) : Prop := ∃ l : List (Int × Int), l.length ≤ 9223372036854775807 ∧ (∀ x ∈ l, R64 x.1 ∧ R64 x.2) ∧ a = HL l
theorem o_hop : Opens Try.prog enc w 40 fun a => ∃ x : Int × Int, (R64 x.1 ∧ R64 x.2) ∧ a = HP x :=
  (opens_struct (ps := [OI, OI]) (Try.underlying40) ⟨o_int (by kernel_rfl), o_int (by kernel_rfl), trivial⟩ (by kernel_rfl) (by kernel_rfl)).mono
    (fun a h => by
      obtain ⟨as', ha, rfl⟩ := h
      revert ha
      exact allP_2 (Q := fun l => ∃ x : Int × Int, (R64 x.1 ∧ R64 x.2) ∧ AV.agg (l.flatMap AV.cells) = HP x) (fun a b ⟨n, h1, e1⟩ ⟨m, h2, e2⟩ => ⟨(n, m), ⟨h1, h2⟩, by subst e1; subst e2; rfl⟩) as')
    fun a ⟨x, h, e⟩ => ⟨[I x.1, I x.2], ⟨⟨x.1, h.1, rfl⟩, ⟨x.2, h.2, rfl⟩, trivial⟩, e⟩
theorem o_hops : Opens Try.prog enc w 23 OH :=
  (opens_slice (T := Int × Int) (q := fun x => R64 x.1 ∧ R64 x.2) (f := HP) (e := 40) (sz := 2) (by kernel_rfl) (by kernel_rfl) (by decide) o_hop).mono
    (fun a ⟨l, h, h1, e⟩ => ⟨l, h, h1, e⟩) fun a ⟨l, h, h1, e⟩ => ⟨l, h, h1, e⟩
end
end Go.Proofs.Ytmiahmpobpokmaa

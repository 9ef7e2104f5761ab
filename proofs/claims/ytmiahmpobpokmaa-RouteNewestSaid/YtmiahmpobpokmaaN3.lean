/- Chapter 24, RouteNewest: for every input the law returns true, and each argument reads afterwards as it read before. -/
import Derived.Test.YtmiahmpobpokmaaKF
/- Chapter 24: the newest version. -/
set_option maxRecDepth 100000
set_option linter.unusedSimpArgs false
namespace Go.Proofs.Ytmiahmpobpokmaa
open Go.Vai Go Go.Proofs

theorem newest_ev (x : List Int) (down c : Int) (hx : x.length ≤ 9223372036854775807) (hxr : ∀ a ∈ x, R64 a) (hdn : R64 down) (hc : R64 c) : Ev Try.prog 6 [SL x, I down, I c] (B true) := by
  refine ev_of Try.func6 rfl (by kernel_rfl) mo (Nat.le_of_ble_eq_true rfl) ?_
  simp -implicitDefEqProofs (disch := omega) only [go_sem, ↓reduceIte, Nat.reduceEqDiff, Nat.reduceMul, Nat.reduceAdd, Nat.reduceDiv, Nat.reduceBEq, Nat.reduceLeDiff, Int.reduceToNat, Int.reduceNe, Int.reduceEq, Int.reduceLT, Int.reduceLE, Int.reduceBEq, Int.reduceBNe, ne_eq, not_true_eq_false, not_false_eq_true, decide_true, decide_false, Int.cast_ofNat_Int, beq_self_eq_true, eq_self, Bool.true_and, Bool.and_true, Bool.false_and, Bool.and_false, Bool.not_true, Bool.not_false, List.length_map, Try.ntmps6]
  refine callC_at sane_ev ?_
  simp -implicitDefEqProofs (disch := omega) only [go_sem, ↓reduceIte, Nat.reduceEqDiff, Nat.reduceMul, Nat.reduceAdd, Nat.reduceDiv, Nat.reduceBEq, Nat.reduceLeDiff, Int.reduceToNat, Int.reduceNe, Int.reduceEq, Int.reduceLT, Int.reduceLE, Int.reduceBEq, Int.reduceBNe, ne_eq, not_true_eq_false, not_false_eq_true, decide_true, decide_false, Int.cast_ofNat_Int, beq_self_eq_true, eq_self, Bool.true_and, Bool.and_true, Bool.false_and, Bool.and_false, Bool.not_true, Bool.not_false, List.length_map]
  refine callC_at (Ev.asIf (made_ev x [] 0 hx (by decide) hxr (fun a ha => by cases ha) ⟨by decide, by decide⟩) ⟨asIf_refl _, asIf_nil _, asIf_refl _, trivial⟩) ?_
  have hh := madeH_holders x
  generalize knownF (madeH x) (madeL 0) [] = k0 at *
  generalize madeH x = h at *
  have hlen := holdersF_pos hh
  generalize madeL 0 = l0 at *
  simp -implicitDefEqProofs (disch := omega) only [go_sem, ↓reduceIte, Nat.reduceEqDiff, Nat.reduceMul, Nat.reduceAdd, Nat.reduceDiv, Nat.reduceBEq, Nat.reduceLeDiff, Int.reduceToNat, Int.reduceNe, Int.reduceEq, Int.reduceLT, Int.reduceLE, Int.reduceBEq, Int.reduceBNe, ne_eq, not_true_eq_false, not_false_eq_true, decide_true, decide_false, Int.cast_ofNat_Int, beq_self_eq_true, eq_self, Bool.true_and, Bool.and_true, Bool.false_and, Bool.and_false, Bool.not_true, Bool.not_false, List.length_map]
  refine loopC_mk (fun n E σ => ∃ (i : Nat) (l : List Int), i + n = 8 ∧ E 1 = I down ∧ E 2 = I c ∧ E 8 = .own 14680464 1 0 h.length ∧ E 11 = I ((h.length : Int) - 1) ∧ E 12 = .own 14680256 1 0 i ∧ E 13 = I i ∧ σ 14680464 = some ⟨3, 1, h.map I⟩ ∧ σ 14680256 = some ⟨3, 1, l.map I⟩ ∧ l.length = i ∧
    ∀ j, j < i → gd l j = -1 ∨ gd l j = (h.length : Int) - 1) 8 ⟨0, [], by omega, ?_⟩ ?_
  · simp -implicitDefEqProofs (disch := omega) only [go_sem, ↓reduceIte, Nat.reduceEqDiff, Nat.reduceMul, Nat.reduceAdd, Nat.reduceDiv, Nat.reduceBEq, Nat.reduceLeDiff, Int.reduceToNat, Int.reduceNe, Int.reduceEq, Int.reduceLT, Int.reduceLE, Int.reduceBEq, Int.reduceBNe, ne_eq, not_true_eq_false, not_false_eq_true, decide_true, decide_false, Int.cast_ofNat_Int, beq_self_eq_true, eq_self, Bool.true_and, Bool.and_true, Bool.false_and, Bool.and_false, Bool.not_true, Bool.not_false, List.length_map]
    simp
  · rintro n E σ ⟨i, l, hi, h1, h2, h8, h11, h12, h13, hs1, hs2, hll, hall⟩
    simp -implicitDefEqProofs (disch := omega) only [go_sem, ↓reduceIte, Nat.reduceEqDiff, Nat.reduceMul, Nat.reduceAdd, Nat.reduceDiv, Nat.reduceBEq, Nat.reduceLeDiff, Int.reduceToNat, Int.reduceNe, Int.reduceEq, Int.reduceLT, Int.reduceLE, Int.reduceBEq, Int.reduceBNe, ne_eq, not_true_eq_false, not_false_eq_true, decide_true, decide_false, Int.cast_ofNat_Int, beq_self_eq_true, eq_self, Bool.true_and, Bool.and_true, Bool.false_and, Bool.and_false, Bool.not_true, Bool.not_false, List.length_map, h1, h2, h8, h11, h12, h13, hs1, hs2]
    refine branch_mk (fun hd => ?_) (fun hd => ?_)
    · have hgo : ∀ z : Int, (z = -1 ∨ z = (h.length : Int) - 1) → ∀ j, j < i + 1 → gd (l ++ [z]) j = -1 ∨ gd (l ++ [z]) j = (h.length : Int) - 1 := fun z hz j hj => by
        by_cases e : j = i
        · subst e; rw [gd_append_right _ _ _ (by omega), hll, Nat.sub_self, gd_cons_zero]; exact hz
        · rw [gd_append_left _ _ _ (by omega)]; exact hall j (by omega)
      simp -implicitDefEqProofs (disch := omega) only [go_sem, ↓reduceIte, Nat.reduceEqDiff, Nat.reduceMul, Nat.reduceAdd, Nat.reduceDiv, Nat.reduceBEq, Nat.reduceLeDiff, Int.reduceToNat, Int.reduceNe, Int.reduceEq, Int.reduceLT, Int.reduceLE, Int.reduceBEq, Int.reduceBNe, ne_eq, not_true_eq_false, not_false_eq_true, decide_true, decide_false, Int.cast_ofNat_Int, beq_self_eq_true, eq_self, Bool.true_and, Bool.and_true, Bool.false_and, Bool.and_false, Bool.not_true, Bool.not_false, List.length_map, h1, h2, h8, h11, h12, h13, hs1, hs2]
      refine callC_at (pick_ev' down 256 hdn (by omega)) ?_
      simp -implicitDefEqProofs (disch := omega) only [go_sem, ↓reduceIte, Nat.reduceEqDiff, Nat.reduceMul, Nat.reduceAdd, Nat.reduceDiv, Nat.reduceBEq, Nat.reduceLeDiff, Int.reduceToNat, Int.reduceNe, Int.reduceEq, Int.reduceLT, Int.reduceLE, Int.reduceBEq, Int.reduceBNe, ne_eq, not_true_eq_false, not_false_eq_true, decide_true, decide_false, Int.cast_ofNat_Int, beq_self_eq_true, eq_self, Bool.true_and, Bool.and_true, Bool.false_and, Bool.and_false, Bool.not_true, Bool.not_false, List.length_map, h1, h2, h8, h11, h12, h13, hs1, hs2]
      repeat' (first | ((with_reducible refine branch_mk (fun hb => ?_) (fun hb => ?_)) <;> simp -implicitDefEqProofs (disch := omega) only [go_sem, ↓reduceIte, Nat.reduceEqDiff, Nat.reduceMul, Nat.reduceAdd, Nat.reduceDiv, Nat.reduceBEq, Nat.reduceLeDiff, Int.reduceToNat, Int.reduceNe, Int.reduceEq, Int.reduceLT, Int.reduceLE, Int.reduceBEq, Int.reduceBNe, ne_eq, not_true_eq_false, not_false_eq_true, decide_true, decide_false, Int.cast_ofNat_Int, beq_self_eq_true, eq_self, Bool.true_and, Bool.and_true, Bool.false_and, Bool.and_false, Bool.not_true, Bool.not_false, List.length_map, h1, h2, h8, h11, h12, h13, hs1, hs2, hll, hb]))
      · refine againQ_mk (n - 1) (by omega) ⟨i + 1, l ++ [-1], by omega, ?_⟩
        simp -implicitDefEqProofs (disch := omega) only [go_sem, ↓reduceIte, Nat.reduceEqDiff, Nat.reduceMul, Nat.reduceAdd, Nat.reduceDiv, Nat.reduceBEq, Nat.reduceLeDiff, Int.reduceToNat, Int.reduceNe, Int.reduceEq, Int.reduceLT, Int.reduceLE, Int.reduceBEq, Int.reduceBNe, ne_eq, not_true_eq_false, not_false_eq_true, decide_true, decide_false, Int.cast_ofNat_Int, beq_self_eq_true, eq_self, Bool.true_and, Bool.and_true, Bool.false_and, Bool.and_false, Bool.not_true, Bool.not_false, List.length_map, h1, h2, h8, h11, h12, h13, hs1, hs2, hll]
        exact ⟨by simp, hgo _ (.inl rfl)⟩
      · refine againQ_mk (n - 1) (by omega) ⟨i + 1, l ++ [(h.length : Int) - 1], by omega, ?_⟩
        simp -implicitDefEqProofs (disch := omega) only [go_sem, ↓reduceIte, Nat.reduceEqDiff, Nat.reduceMul, Nat.reduceAdd, Nat.reduceDiv, Nat.reduceBEq, Nat.reduceLeDiff, Int.reduceToNat, Int.reduceNe, Int.reduceEq, Int.reduceLT, Int.reduceLE, Int.reduceBEq, Int.reduceBNe, ne_eq, not_true_eq_false, not_false_eq_true, decide_true, decide_false, Int.cast_ofNat_Int, beq_self_eq_true, eq_self, Bool.true_and, Bool.and_true, Bool.false_and, Bool.and_false, Bool.not_true, Bool.not_false, List.length_map, h1, h2, h8, h11, h12, h13, hs1, hs2, hll]
        exact ⟨by simp, hgo _ (.inr rfl)⟩
    · simp -implicitDefEqProofs (disch := omega) only [go_sem, ↓reduceIte, Nat.reduceEqDiff, Nat.reduceMul, Nat.reduceAdd, Nat.reduceDiv, Nat.reduceBEq, Nat.reduceLeDiff, Int.reduceToNat, Int.reduceNe, Int.reduceEq, Int.reduceLT, Int.reduceLE, Int.reduceBEq, Int.reduceBNe, ne_eq, not_true_eq_false, not_false_eq_true, decide_true, decide_false, Int.cast_ofNat_Int, beq_self_eq_true, eq_self, Bool.true_and, Bool.and_true, Bool.false_and, Bool.and_false, Bool.not_true, Bool.not_false, List.length_map, h1, h2, h8, h11, h12, h13, hs1, hs2]
      refine callC_at (pick_ev' c 8 hc (by omega)) ?_
      have hdd := pickF_in (c := c) (n := 8) (by omega)
      generalize pickF c 8 = d at *
      have hi8 : i = 8 := by omega
      subst hi8
      simp -implicitDefEqProofs (disch := omega) only [go_sem, ↓reduceIte, Nat.reduceEqDiff, Nat.reduceMul, Nat.reduceAdd, Nat.reduceDiv, Nat.reduceBEq, Nat.reduceLeDiff, Int.reduceToNat, Int.reduceNe, Int.reduceEq, Int.reduceLT, Int.reduceLE, Int.reduceBEq, Int.reduceBNe, ne_eq, not_true_eq_false, not_false_eq_true, decide_true, decide_false, Int.cast_ofNat_Int, beq_self_eq_true, eq_self, Bool.true_and, Bool.and_true, Bool.false_and, Bool.and_false, Bool.not_true, Bool.not_false, List.length_map, h1, h2, h8, h11, h12, h13, hs1, hs2, hll]
      have hp := path_ev h l 0 d (by omega) (by omega) ⟨by omega, by omega⟩
      have hv := newest_valid hh hll rfl hall
      have hval := valid_ev h l 0 (by omega) (by omega) ⟨by omega, by omega⟩
      rw [hv] at hval
      rcases hall d.toNat (by omega) with hk | hk
      · have hcan : ¬ canF h l 0 d = true := by rw [can_iff hv hdd, decide_eq_true_eq]; omega
        rw [pathR, if_neg hcan] at hp
        refine callC_at hp ?_
        simp -implicitDefEqProofs (disch := omega) only [go_sem, ↓reduceIte, Nat.reduceEqDiff, Nat.reduceMul, Nat.reduceAdd, Nat.reduceDiv, Nat.reduceBEq, Nat.reduceLeDiff, Int.reduceToNat, Int.reduceNe, Int.reduceEq, Int.reduceLT, Int.reduceLE, Int.reduceBEq, Int.reduceBNe, ne_eq, not_true_eq_false, not_false_eq_true, decide_true, decide_false, Int.cast_ofNat_Int, beq_self_eq_true, eq_self, Bool.true_and, Bool.and_true, Bool.false_and, Bool.and_false, Bool.not_true, Bool.not_false, List.length_map, h1, h2, h8, h11, h12, h13, hs1, hs2, hll, hk, Try.results6]
      · have hcan : canF h l 0 d = true := by rw [can_iff hv hdd, decide_eq_true_eq]; omega
        have nd : ¬ d = -1 := by omega
        have n1 : ¬ (h.length : Int) - 1 = -1 := by omega
        have n0 : ¬ (h.length : Int) - 1 < 0 := by omega
        have hpp := newest_path hh hll rfl hall ⟨hdd.1, by omega⟩ hk
        have hat := holders_at hh ((h.length : Int) - 1).toNat (by omega)
        rw [pathR, if_pos hcan, hpp] at hp
        by_cases b1 : gd h ((h.length : Int) - 1).toNat = -1
        · rw [if_pos b1] at hp
          simp only [List.map_cons, List.map_nil] at hp
          refine callC_at hp ?_
          simp -implicitDefEqProofs (disch := omega) only [go_sem, ↓reduceIte, Nat.reduceEqDiff, Nat.reduceMul, Nat.reduceAdd, Nat.reduceDiv, Nat.reduceBEq, Nat.reduceLeDiff, Int.reduceToNat, Int.reduceNe, Int.reduceEq, Int.reduceLT, Int.reduceLE, Int.reduceBEq, Int.reduceBNe, ne_eq, not_true_eq_false, not_false_eq_true, decide_true, decide_false, Int.cast_ofNat_Int, beq_self_eq_true, eq_self, Bool.true_and, Bool.and_true, Bool.false_and, Bool.and_false, Bool.not_true, Bool.not_false, List.length_map, h1, h2, h8, h11, h12, h13, hs1, hs2, hll, hk, n0]
          refine callC_at hval ?_
          simp -implicitDefEqProofs (disch := omega) only [go_sem, ↓reduceIte, Nat.reduceEqDiff, Nat.reduceMul, Nat.reduceAdd, Nat.reduceDiv, Nat.reduceBEq, Nat.reduceLeDiff, Int.reduceToNat, Int.reduceNe, Int.reduceEq, Int.reduceLT, Int.reduceLE, Int.reduceBEq, Int.reduceBNe, ne_eq, not_true_eq_false, not_false_eq_true, decide_true, decide_false, Int.cast_ofNat_Int, beq_self_eq_true, eq_self, Bool.true_and, Bool.and_true, Bool.false_and, Bool.and_false, Bool.not_true, Bool.not_false, List.length_map, h1, h2, h8, h11, h12, h13, hs1, hs2, hll, hk, n0, b1, Try.results6]
          trace_state
        · rw [if_neg b1] at hp
          by_cases b2 : gd l (gd h ((h.length : Int) - 1).toNat).toNat = -1
          · rw [if_pos b2] at hp
            simp only [List.map_cons, List.map_nil] at hp
            refine callC_at hp ?_
            simp -implicitDefEqProofs (disch := omega) only [go_sem, ↓reduceIte, Nat.reduceEqDiff, Nat.reduceMul, Nat.reduceAdd, Nat.reduceDiv, Nat.reduceBEq, Nat.reduceLeDiff, Int.reduceToNat, Int.reduceNe, Int.reduceEq, Int.reduceLT, Int.reduceLE, Int.reduceBEq, Int.reduceBNe, ne_eq, not_true_eq_false, not_false_eq_true, decide_true, decide_false, Int.cast_ofNat_Int, beq_self_eq_true, eq_self, Bool.true_and, Bool.and_true, Bool.false_and, Bool.and_false, Bool.not_true, Bool.not_false, List.length_map, h1, h2, h8, h11, h12, h13, hs1, hs2, hll, hk, n0]
            refine callC_at hval ?_
            simp -implicitDefEqProofs (disch := omega) only [go_sem, ↓reduceIte, Nat.reduceEqDiff, Nat.reduceMul, Nat.reduceAdd, Nat.reduceDiv, Nat.reduceBEq, Nat.reduceLeDiff, Int.reduceToNat, Int.reduceNe, Int.reduceEq, Int.reduceLT, Int.reduceLE, Int.reduceBEq, Int.reduceBNe, ne_eq, not_true_eq_false, not_false_eq_true, decide_true, decide_false, Int.cast_ofNat_Int, beq_self_eq_true, eq_self, Bool.true_and, Bool.and_true, Bool.false_and, Bool.and_false, Bool.not_true, Bool.not_false, List.length_map, h1, h2, h8, h11, h12, h13, hs1, hs2, hll, hk, n0, b1, b2, Try.results6]
            trace_state
          · rw [if_neg b2] at hp
            by_cases b3 : gd h ((h.length : Int) - 1).toNat = d
            · rw [if_pos b3] at hp
              simp only [List.map_cons, List.map_nil] at hp
              refine callC_at hp ?_
              simp -implicitDefEqProofs (disch := omega) only [go_sem, ↓reduceIte, Nat.reduceEqDiff, Nat.reduceMul, Nat.reduceAdd, Nat.reduceDiv, Nat.reduceBEq, Nat.reduceLeDiff, Int.reduceToNat, Int.reduceNe, Int.reduceEq, Int.reduceLT, Int.reduceLE, Int.reduceBEq, Int.reduceBNe, ne_eq, not_true_eq_false, not_false_eq_true, decide_true, decide_false, Int.cast_ofNat_Int, beq_self_eq_true, eq_self, Bool.true_and, Bool.and_true, Bool.false_and, Bool.and_false, Bool.not_true, Bool.not_false, List.length_map, h1, h2, h8, h11, h12, h13, hs1, hs2, hll, hk, n0]
              refine callC_at hval ?_
              simp -implicitDefEqProofs (disch := omega) only [go_sem, ↓reduceIte, Nat.reduceEqDiff, Nat.reduceMul, Nat.reduceAdd, Nat.reduceDiv, Nat.reduceBEq, Nat.reduceLeDiff, Int.reduceToNat, Int.reduceNe, Int.reduceEq, Int.reduceLT, Int.reduceLE, Int.reduceBEq, Int.reduceBNe, ne_eq, not_true_eq_false, not_false_eq_true, decide_true, decide_false, Int.cast_ofNat_Int, beq_self_eq_true, eq_self, Bool.true_and, Bool.and_true, Bool.false_and, Bool.and_false, Bool.not_true, Bool.not_false, List.length_map, h1, h2, h8, h11, h12, h13, hs1, hs2, hll, hk, n0, b1, b2, b3, nd, n1, Try.results6]
            · rw [if_neg b3] at hp
              simp only [List.map_cons, List.map_nil] at hp
              refine callC_at hp ?_
              simp -implicitDefEqProofs (disch := omega) only [go_sem, ↓reduceIte, Nat.reduceEqDiff, Nat.reduceMul, Nat.reduceAdd, Nat.reduceDiv, Nat.reduceBEq, Nat.reduceLeDiff, Int.reduceToNat, Int.reduceNe, Int.reduceEq, Int.reduceLT, Int.reduceLE, Int.reduceBEq, Int.reduceBNe, ne_eq, not_true_eq_false, not_false_eq_true, decide_true, decide_false, Int.cast_ofNat_Int, beq_self_eq_true, eq_self, Bool.true_and, Bool.and_true, Bool.false_and, Bool.and_false, Bool.not_true, Bool.not_false, List.length_map, h1, h2, h8, h11, h12, h13, hs1, hs2, hll, hk, n0]
              refine callC_at hval ?_
              simp -implicitDefEqProofs (disch := omega) only [go_sem, ↓reduceIte, Nat.reduceEqDiff, Nat.reduceMul, Nat.reduceAdd, Nat.reduceDiv, Nat.reduceBEq, Nat.reduceLeDiff, Int.reduceToNat, Int.reduceNe, Int.reduceEq, Int.reduceLT, Int.reduceLE, Int.reduceBEq, Int.reduceBNe, ne_eq, not_true_eq_false, not_false_eq_true, decide_true, decide_false, Int.cast_ofNat_Int, beq_self_eq_true, eq_self, Bool.true_and, Bool.and_true, Bool.false_and, Bool.and_false, Bool.not_true, Bool.not_false, List.length_map, h1, h2, h8, h11, h12, h13, hs1, hs2, hll, hk, n0, b1, b2, b3, Try.results6]
end Go.Proofs.Ytmiahmpobpokmaa

/- Chapter 24, RouteNewest: for every input the law returns true, and each argument reads afterwards as it read before. -/
set_option maxRecDepth 100000
namespace Go.Proofs.Ytmiahmpobpokmaa
open Go.Vai Go Go.Proofs

theorem routeNewest_lifted (os : Os) (started : os.Started) (H : Type) (enc : TypeId × Value → H) :
    ReturnsInHanded {} Try.checked os 6 .any (Rows.routeNewestSpec.pre6 enc Try.prog Try.f6 [] false) (Rows.routeNewestSpec.post enc Try.prog Try.f6 false true false false) :=
  lifted (C := Try.checked) (tb := 4) (ps := [OS, OI, OI]) own started (by kernel_rfl) Try.func6
    (ChangeSpec.witness6 (enc := enc) (C := Try.checked) false ⟨#[], #[.slice none 0 0, .int .i64 0, .int .i64 0], []⟩ 8 (by kernel_rfl) (by kernel_rfl) (by kernel_rfl) (by kernel_rfl))
    laidOut (by kernel_rfl) (by kernel_rfl) (by kernel_rfl) rfl (len_3 fun _ _ _ => rfl)
    (fun w => ⟨o_ints, o_int (by kernel_rfl), o_int (by kernel_rfl), trivial⟩)
    (allP_3 fun a0 a1 a2 h0 h1 h2 => by
      obtain ⟨x0, hx0, hr0, rfl⟩ := h0
      obtain ⟨x1, hx1, rfl⟩ := h1
      obtain ⟨x2, hx2, rfl⟩ := h2
      exact newest_ev x0 x1 x2 hx0 hr0 hx1 hx2)
theorem routeNewest_holds : Rows.RouteNewestSaid :=
  OpenClaim.holds_of_wide 6 Try.f6 rfl rfl rfl rfl rfl rfl rfl ⟨rfl, rfl, rfl, rfl, rfl⟩ rfl rfl rfl rfl rfl (by kernel_rfl) Try.func6 (by kernel_rfl)
    (of_decide_eq_true (by kernel_rfl)) (by unfold Func.isWrapper; first | (rw [if_pos (by decide +kernel)]; kernel_rfl) | (rw [if_neg (by decide +kernel)]; exact ⟨rfl, rfl⟩))
    (fun os started H enc _ => routeNewest_lifted os started H enc)
#print axioms routeNewest_holds
end Go.Proofs.Ytmiahmpobpokmaa

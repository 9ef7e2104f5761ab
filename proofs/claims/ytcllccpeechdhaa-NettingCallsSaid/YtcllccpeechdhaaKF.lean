/- Package tariff -/
import Derived.Test.YtcllccpeechdhaaKE
import Derived.Shelf.Sort.Plain
import Derived.Ground.Names2Prog
import Derived.Shelf.Slices.CompactI
import Derived.Lib.RowBridge
set_option linter.unusedVariables false
set_option linter.unusedSimpArgs false
set_option maxRecDepth 100000
namespace Go.Proofs.Ytcllccpeechdhaa
open Go.Vai Go Go.Proofs
theorem mo : Try.prog.follows .mixedOrders = true := by kernel_rfl
structure Rt where
  d : Int
  f : Int
  t : Int
  p : Int
  deriving DecidableEq
instance : Inhabited Rt := ⟨⟨0, 0, 0, 0⟩⟩
abbrev TP (r : Rt) : AV := .agg [I r.d, I r.f, I r.t, I r.p]
abbrev TS (l : List Rt) : AV := .sl 4 (l.map TP)
structure Tf where
  l : List Rt
  b : Int
abbrev TF (x : Tf) : AV := .agg [TS x.l, I x.b]
section
variable (p : Nat → Bool) (l : List Rt)
@[go_sem] theorem namesL_TP : AV.namesL p (l.map TP) = false := namesL_map p l TP fun _ => rfl
@[go_sem] theorem flatL_TP : AV.flatL (l.map TP) = true := flatL_map l TP fun _ => rfl
@[go_sem] theorem allOK_TP : allOK 4 (l.map TP) = true := allOK_map 4 l TP fun _ => ⟨rfl, rfl⟩
@[go_sem] theorem append_TP (a b c d : Int) : l.map TP ++ [.agg [.v (.int .i64 a), .v (.int .i64 b), .v (.int .i64 c), .v (.int .i64 d)]] = (l ++ [(⟨a, b, c, d⟩ : Rt)]).map TP := by simp
end
theorem isInT_ev (n a b : Int) : Ev Try.prog 47 [I n, I a, I b] (B (decide (a ≤ n ∧ n ≤ b))) := by
  refine ev_of Try.func47 rfl (by kernel_rfl) mo (Nat.le_of_ble_eq_true rfl) ?_
  simp -implicitDefEqProofs (disch := omega) only [go_sem, ↓reduceIte, Nat.reduceEqDiff, Nat.reduceMul, Nat.reduceAdd, Nat.reduceDiv, Nat.reduceBEq, Nat.reduceLeDiff, Int.reduceToNat, Int.reduceNe, Int.reduceEq, Int.reduceLT, Int.reduceLE, Int.reduceBEq, Int.reduceBNe, ne_eq, not_true_eq_false, not_false_eq_true, decide_true, decide_false, List.length_map, Try.ntmps47]
  refine branch_mk (fun h1 => ?_) (fun h1 => ?_)
  · simp -implicitDefEqProofs (disch := omega) only [go_sem, ↓reduceIte, Nat.reduceEqDiff, Nat.reduceMul, Nat.reduceAdd, Nat.reduceDiv, Nat.reduceBEq, Nat.reduceLeDiff, Int.reduceToNat, Int.reduceNe, Int.reduceEq, Int.reduceLT, Int.reduceLE, Int.reduceBEq, Int.reduceBNe, ne_eq, not_true_eq_false, not_false_eq_true, decide_true, decide_false, List.length_map, h1, Try.results47]
    try simp [h1]
  · simp -implicitDefEqProofs (disch := omega) only [go_sem, ↓reduceIte, Nat.reduceEqDiff, Nat.reduceMul, Nat.reduceAdd, Nat.reduceDiv, Nat.reduceBEq, Nat.reduceLeDiff, Int.reduceToNat, Int.reduceNe, Int.reduceEq, Int.reduceLT, Int.reduceLE, Int.reduceBEq, Int.reduceBNe, ne_eq, not_true_eq_false, not_false_eq_true, decide_true, decide_false, List.length_map, h1, Try.results47]
    try simp [h1]
def zoneF (z : Int) : Bool := decide (-50400 ≤ z ∧ z ≤ 50400)
theorem isZone_ev (z : Int) : Ev Try.prog 36 [I z] (B (zoneF z)) := by
  refine ev_of Try.func36 rfl (by kernel_rfl) mo (Nat.le_of_ble_eq_true rfl) ?_
  simp -implicitDefEqProofs (disch := omega) only [go_sem, ↓reduceIte, Nat.reduceEqDiff, Nat.reduceMul, Nat.reduceAdd, Nat.reduceDiv, Nat.reduceBEq, Nat.reduceLeDiff, Int.reduceToNat, Int.reduceNe, Int.reduceEq, Int.reduceLT, Int.reduceLE, Int.reduceBEq, Int.reduceBNe, ne_eq, not_true_eq_false, not_false_eq_true, decide_true, decide_false, List.length_map, Try.ntmps36]
  refine callC_at (isInT_ev z (-50400) 50400) ?_
  simp -implicitDefEqProofs (disch := omega) only [go_sem, ↓reduceIte, Nat.reduceEqDiff, Nat.reduceMul, Nat.reduceAdd, Nat.reduceDiv, Nat.reduceBEq, Nat.reduceLeDiff, Int.reduceToNat, Int.reduceNe, Int.reduceEq, Int.reduceLT, Int.reduceLE, Int.reduceBEq, Int.reduceBNe, ne_eq, not_true_eq_false, not_false_eq_true, decide_true, decide_false, List.length_map, Try.results36]
  try rfl
def spellF (f t : Int) : Bool := decide (0 ≤ f ∧ f ≤ t ∧ t ≤ 10000000)
theorem isSpell_ev (f t : Int) : Ev Try.prog 37 [.agg [I f, I t]] (B (spellF f t)) := by
  refine ev_of Try.func37 rfl (by kernel_rfl) mo (Nat.le_of_ble_eq_true rfl) ?_
  simp -implicitDefEqProofs (disch := omega) only [go_sem, ↓reduceIte, Nat.reduceEqDiff, Nat.reduceMul, Nat.reduceAdd, Nat.reduceDiv, Nat.reduceBEq, Nat.reduceLeDiff, Int.reduceToNat, Int.reduceNe, Int.reduceEq, Int.reduceLT, Int.reduceLE, Int.reduceBEq, Int.reduceBNe, ne_eq, not_true_eq_false, not_false_eq_true, decide_true, decide_false, List.length_map, Try.ntmps37]
  refine branch_mk (fun h1 => ?_) (fun h1 => ?_)
  · simp -implicitDefEqProofs (disch := omega) only [go_sem, ↓reduceIte, Nat.reduceEqDiff, Nat.reduceMul, Nat.reduceAdd, Nat.reduceDiv, Nat.reduceBEq, Nat.reduceLeDiff, Int.reduceToNat, Int.reduceNe, Int.reduceEq, Int.reduceLT, Int.reduceLE, Int.reduceBEq, Int.reduceBNe, ne_eq, not_true_eq_false, not_false_eq_true, decide_true, decide_false, List.length_map, h1]
    refine callC_at (isInT_ev t f 10000000) ?_
    simp -implicitDefEqProofs (disch := omega) only [go_sem, ↓reduceIte, Nat.reduceEqDiff, Nat.reduceMul, Nat.reduceAdd, Nat.reduceDiv, Nat.reduceBEq, Nat.reduceLeDiff, Int.reduceToNat, Int.reduceNe, Int.reduceEq, Int.reduceLT, Int.reduceLE, Int.reduceBEq, Int.reduceBNe, ne_eq, not_true_eq_false, not_false_eq_true, decide_true, decide_false, List.length_map, h1, Try.results37]
    try simp [spellF, h1]
  · simp -implicitDefEqProofs (disch := omega) only [go_sem, ↓reduceIte, Nat.reduceEqDiff, Nat.reduceMul, Nat.reduceAdd, Nat.reduceDiv, Nat.reduceBEq, Nat.reduceLeDiff, Int.reduceToNat, Int.reduceNe, Int.reduceEq, Int.reduceLT, Int.reduceLE, Int.reduceBEq, Int.reduceBNe, ne_eq, not_true_eq_false, not_false_eq_true, decide_true, decide_false, List.length_map, h1, Try.results37]
    try simp [spellF, h1]
def goodR (r : Rt) : Bool := decide (1 ≤ r.d ∧ r.d ≤ 127 ∧ 0 ≤ r.f ∧ r.f < r.t ∧ r.t ≤ 86400 ∧ 0 ≤ r.p ∧ r.p ≤ 1000000)
theorem goodR_iff {r : Rt} : goodR r = true ↔ 1 ≤ r.d ∧ r.d ≤ 127 ∧ 0 ≤ r.f ∧ r.f < r.t ∧ r.t ≤ 86400 ∧ 0 ≤ r.p ∧ r.p ≤ 1000000 := decide_eq_true_iff
theorem isBad_ev (r : Rt) (h : goodR r = true) : Ev Try.prog 46 [TP r] (B false) := by
  obtain ⟨h1, h2, h3, h4, h5, h6, h7⟩ := goodR_iff.1 h
  refine ev_of Try.func46 rfl (by kernel_rfl) mo (Nat.le_of_ble_eq_true rfl) ?_
  simp -implicitDefEqProofs (disch := omega) only [go_sem, ↓reduceIte, Nat.reduceEqDiff, Nat.reduceMul, Nat.reduceAdd, Nat.reduceDiv, Nat.reduceBEq, Nat.reduceLeDiff, Int.reduceToNat, Int.reduceNe, Int.reduceEq, Int.reduceLT, Int.reduceLE, Int.reduceBEq, Int.reduceBNe, ne_eq, not_true_eq_false, not_false_eq_true, decide_true, decide_false, List.length_map, Try.ntmps46]
  refine callC_at (isInT_ev r.d 1 127) ?_
  rw [decide_eq_true ⟨h1, h2⟩]
  simp -implicitDefEqProofs (disch := omega) only [go_sem, ↓reduceIte, Nat.reduceEqDiff, Nat.reduceMul, Nat.reduceAdd, Nat.reduceDiv, Nat.reduceBEq, Nat.reduceLeDiff, Int.reduceToNat, Int.reduceNe, Int.reduceEq, Int.reduceLT, Int.reduceLE, Int.reduceBEq, Int.reduceBNe, ne_eq, not_true_eq_false, not_false_eq_true, decide_true, decide_false, List.length_map]
  refine branch_r (by omega) ?_
  simp -implicitDefEqProofs (disch := omega) only [go_sem, ↓reduceIte, Nat.reduceEqDiff, Nat.reduceMul, Nat.reduceAdd, Nat.reduceDiv, Nat.reduceBEq, Nat.reduceLeDiff, Int.reduceToNat, Int.reduceNe, Int.reduceEq, Int.reduceLT, Int.reduceLE, Int.reduceBEq, Int.reduceBNe, ne_eq, not_true_eq_false, not_false_eq_true, decide_true, decide_false, List.length_map]
  refine callC_at (isInT_ev r.t (r.f + 1) 86400) ?_
  rw [decide_eq_true ⟨by omega, h5⟩]
  simp -implicitDefEqProofs (disch := omega) only [go_sem, ↓reduceIte, Nat.reduceEqDiff, Nat.reduceMul, Nat.reduceAdd, Nat.reduceDiv, Nat.reduceBEq, Nat.reduceLeDiff, Int.reduceToNat, Int.reduceNe, Int.reduceEq, Int.reduceLT, Int.reduceLE, Int.reduceBEq, Int.reduceBNe, ne_eq, not_true_eq_false, not_false_eq_true, decide_true, decide_false, List.length_map]
  refine branch_r (by omega) ?_
  simp -implicitDefEqProofs (disch := omega) only [go_sem, ↓reduceIte, Nat.reduceEqDiff, Nat.reduceMul, Nat.reduceAdd, Nat.reduceDiv, Nat.reduceBEq, Nat.reduceLeDiff, Int.reduceToNat, Int.reduceNe, Int.reduceEq, Int.reduceLT, Int.reduceLE, Int.reduceBEq, Int.reduceBNe, ne_eq, not_true_eq_false, not_false_eq_true, decide_true, decide_false, List.length_map]
  refine callC_at (isInT_ev r.p 0 1000000) ?_
  rw [decide_eq_true ⟨h6, h7⟩]
  simp -implicitDefEqProofs (disch := omega) only [go_sem, ↓reduceIte, Nat.reduceEqDiff, Nat.reduceMul, Nat.reduceAdd, Nat.reduceDiv, Nat.reduceBEq, Nat.reduceLeDiff, Int.reduceToNat, Int.reduceNe, Int.reduceEq, Int.reduceLT, Int.reduceLE, Int.reduceBEq, Int.reduceBNe, ne_eq, not_true_eq_false, not_false_eq_true, decide_true, decide_false, List.length_map, Try.results46]
def idxT (Q : Rt → Bool) : List Rt → Nat → Int
  | [], _ => -1
  | r :: l, v => if Q r = true then v else idxT Q l (v + 1)
theorem dropT_gd {T : Type} [Inhabited T] (l : List T) (i : Nat) (h : i < l.length) : l.drop i = gd l i :: l.drop (i + 1) := by
  rw [show gd l i = l[i] by unfold gd; simp [h], List.drop_eq_getElem_cons h]
theorem idxT_ev (g : FuncId) (caps : List AV) (Q : Rt → Bool) (l : List Rt) (hh : ∀ r ∈ l, Ev Try.prog g ([TP r] ++ caps) (B (Q r))) (hcn : ∀ p, AV.namesL p caps = false) (hcr : ∀ σ, caps.map (res σ) = caps) (hl : l.length ≤ 1000000) : Ev Try.prog 57 [TS l, .clo g caps] (I (idxT Q l 0)) := by
  refine ev_of Try.func57 rfl (by kernel_rfl) mo (Nat.le_of_ble_eq_true rfl) ?_
  simp -implicitDefEqProofs (disch := omega) only [go_sem, ↓reduceIte, Nat.reduceEqDiff, Nat.reduceMul, Nat.reduceAdd, Nat.reduceDiv, Nat.reduceBEq, Nat.reduceLeDiff, Int.reduceToNat, Int.reduceNe, Int.reduceEq, Int.reduceLT, Int.reduceLE, Int.reduceBEq, Int.reduceBNe, ne_eq, not_true_eq_false, not_false_eq_true, decide_true, decide_false, List.length_map, Try.ntmps57]
  refine loopC_mk (fun k E σ => ∃ i : Nat, i + k = l.length ∧ idxT Q l 0 = idxT Q (l.drop i) i ∧ E 0 = TS l ∧ E 1 = .clo g caps ∧ E 7 = I l.length ∧ E 8 = I i) l.length ⟨0, by omega, rfl, ?_⟩ ?_
  · simp -implicitDefEqProofs (disch := omega) only [go_sem, ↓reduceIte, Nat.reduceEqDiff, Nat.reduceMul, Nat.reduceAdd, Nat.reduceDiv, Nat.reduceBEq, Nat.reduceLeDiff, Int.reduceToNat, Int.reduceNe, Int.reduceEq, Int.reduceLT, Int.reduceLE, Int.reduceBEq, Int.reduceBNe, ne_eq, not_true_eq_false, not_false_eq_true, decide_true, decide_false, List.length_map, hcn]
    rfl
  rintro k E σ ⟨i, hk, hx, e0, e1, e7, e8⟩
  simp -implicitDefEqProofs (disch := omega) only [go_sem, ↓reduceIte, Nat.reduceEqDiff, Nat.reduceMul, Nat.reduceAdd, Nat.reduceDiv, Nat.reduceBEq, Nat.reduceLeDiff, Int.reduceToNat, Int.reduceNe, Int.reduceEq, Int.reduceLT, Int.reduceLE, Int.reduceBEq, Int.reduceBNe, ne_eq, not_true_eq_false, not_false_eq_true, decide_true, decide_false, List.length_map, e0, e1, e7, e8]
  refine branch_mk (fun hc => ?_) (fun hc => ?_)
  · have hi : i < l.length := by omega
    rw [dropT_gd l i hi, idxT] at hx
    have hq := hh (gd l i) (gd_mem l i hi)
    simp -implicitDefEqProofs (disch := omega) only [go_sem, ↓reduceIte, Nat.reduceEqDiff, Nat.reduceMul, Nat.reduceAdd, Nat.reduceDiv, Nat.reduceBEq, Nat.reduceLeDiff, Int.reduceToNat, Int.reduceNe, Int.reduceEq, Int.reduceLT, Int.reduceLE, Int.reduceBEq, Int.reduceBNe, ne_eq, not_true_eq_false, not_false_eq_true, decide_true, decide_false, List.length_map, e0, e1, e7, e8, hcn, hcr, List.map_append]
    refine callC_at hq ?_
    simp -implicitDefEqProofs (disch := omega) only [go_sem, ↓reduceIte, Nat.reduceEqDiff, Nat.reduceMul, Nat.reduceAdd, Nat.reduceDiv, Nat.reduceBEq, Nat.reduceLeDiff, Int.reduceToNat, Int.reduceNe, Int.reduceEq, Int.reduceLT, Int.reduceLE, Int.reduceBEq, Int.reduceBNe, ne_eq, not_true_eq_false, not_false_eq_true, decide_true, decide_false, List.length_map, e0, e1, e7, e8]
    refine branch_mk (fun hb => ?_) (fun hb => ?_)
    · have hb : Q (gd l i) = true := by simpa using hb
      rw [if_pos hb] at hx
      simp -implicitDefEqProofs (disch := omega) only [go_sem, ↓reduceIte, Nat.reduceEqDiff, Nat.reduceMul, Nat.reduceAdd, Nat.reduceDiv, Nat.reduceBEq, Nat.reduceLeDiff, Int.reduceToNat, Int.reduceNe, Int.reduceEq, Int.reduceLT, Int.reduceLE, Int.reduceBEq, Int.reduceBNe, ne_eq, not_true_eq_false, not_false_eq_true, decide_true, decide_false, List.length_map, e0, e1, e7, e8, hx, Try.results57]
    · have hb : ¬ Q (gd l i) = true := by simpa using hb
      rw [if_neg hb] at hx
      simp -implicitDefEqProofs (disch := omega) only [go_sem, ↓reduceIte, Nat.reduceEqDiff, Nat.reduceMul, Nat.reduceAdd, Nat.reduceDiv, Nat.reduceBEq, Nat.reduceLeDiff, Int.reduceToNat, Int.reduceNe, Int.reduceEq, Int.reduceLT, Int.reduceLE, Int.reduceBEq, Int.reduceBNe, ne_eq, not_true_eq_false, not_false_eq_true, decide_true, decide_false, List.length_map, e0, e1, e7, e8]
      refine againQ_mk (l.length - (i + 1)) (by omega) ⟨i + 1, by omega, hx, ?_⟩
      simp -implicitDefEqProofs (disch := omega) only [go_sem, ↓reduceIte, Nat.reduceEqDiff, Nat.reduceMul, Nat.reduceAdd, Nat.reduceDiv, Nat.reduceBEq, Nat.reduceLeDiff, Int.reduceToNat, Int.reduceNe, Int.reduceEq, Int.reduceLT, Int.reduceLE, Int.reduceBEq, Int.reduceBNe, ne_eq, not_true_eq_false, not_false_eq_true, decide_true, decide_false, List.length_map, e0, e1, e7, e8, hcn]
      rfl
  · obtain rfl : i = l.length := by omega
    rw [List.drop_length, idxT] at hx
    simp -implicitDefEqProofs (disch := omega) only [go_sem, ↓reduceIte, Nat.reduceEqDiff, Nat.reduceMul, Nat.reduceAdd, Nat.reduceDiv, Nat.reduceBEq, Nat.reduceLeDiff, Int.reduceToNat, Int.reduceNe, Int.reduceEq, Int.reduceLT, Int.reduceLE, Int.reduceBEq, Int.reduceBNe, ne_eq, not_true_eq_false, not_false_eq_true, decide_true, decide_false, List.length_map, e0, e1, e7, e8, hx, Try.results57]
end Go.Proofs.Ytcllccpeechdhaa
namespace Go.Proofs
open Go.Shelf
def Try.lays189_ren : Go.Shelf.Ren := ⟨fun | 189 => 58 | 125 => 65 | 257 => 64 | 128 => 75 | 129 => 76 | 294 => 67 | 295 => 68 | 296 => 69 | 297 => 70 | 298 => 71 | 299 => 72 | 216 => 60 | 300 => 73 | 301 => 74 | 328 => 77 | 329 => 78 | 330 => 79 | 331 => 80 | 332 => 81 | 215 => 66 | 343 => 82 | n => n, fun | 28 => 41 | 3 => 3 | 46 => 103 | 0 => 0 | 51 => 115 | 53 => 117 | 4 => 4 | 183 => 109 | 182 => 108 | 131 => 93 | 5 => 5 | 9 => 9 | 218 => 118 | 222 => 122 | 228 => 124 | 229 => 125 | n => n, fun | n => n⟩
theorem Try.lays189 : Go.Proofs.Lays.n189 Try.prog Try.lays189_ren := {
  mixed := by kernel_rfl
  f125 := Try.func65.trans (congrArg some (by kernel_rfl))
  f128 := Try.func75.trans (congrArg some (by kernel_rfl))
  f129 := Try.func76.trans (congrArg some (by kernel_rfl))
  f189 := Try.func58.trans (congrArg some (by kernel_rfl))
  f215 := Try.func66.trans (congrArg some (by kernel_rfl))
  f216 := Try.func60.trans (congrArg some (by kernel_rfl))
  f257 := Try.func64.trans (congrArg some (by kernel_rfl))
  f294 := Try.func67.trans (congrArg some (by kernel_rfl))
  f295 := Try.func68.trans (congrArg some (by kernel_rfl))
  f296 := Try.func69.trans (congrArg some (by kernel_rfl))
  f297 := Try.func70.trans (congrArg some (by kernel_rfl))
  f298 := Try.func71.trans (congrArg some (by kernel_rfl))
  f299 := Try.func72.trans (congrArg some (by kernel_rfl))
  f300 := Try.func73.trans (congrArg some (by kernel_rfl))
  f301 := Try.func74.trans (congrArg some (by kernel_rfl))
  f328 := Try.func77.trans (congrArg some (by kernel_rfl))
  f329 := Try.func78.trans (congrArg some (by kernel_rfl))
  f330 := Try.func79.trans (congrArg some (by kernel_rfl))
  f331 := Try.func80.trans (congrArg some (by kernel_rfl))
  f332 := Try.func81.trans (congrArg some (by kernel_rfl))
  f343 := Try.func82.trans (congrArg some (by kernel_rfl))
  t0 := Try.underlying0
  a0 := Try.isAgg0
  z0 := Try.sizeOf0
  v0 := Try.zeroValue0
  t3 := Try.underlying3
  a3 := Try.isAgg3
  z3 := Try.sizeOf3
  v3 := Try.zeroValue3
  t4 := Try.underlying4
  a4 := Try.isAgg4
  z4 := Try.sizeOf4
  v4 := Try.zeroValue4
  t5 := Try.underlying5
  a5 := Try.isAgg5
  z5 := Try.sizeOf5
  v5 := Try.zeroValue5
  t9 := Try.underlying9
  a9 := Try.isAgg9
  z9 := Try.sizeOf9
  v9 := Try.zeroValue9
  t28 := Try.underlying41
  a28 := Try.isAgg41
  z28 := Try.sizeOf41
  v28 := Try.zeroValue41
  t46 := Try.underlying103
  a46 := Try.isAgg103
  z46 := Try.sizeOf103
  v46 := Try.zeroValue103
  t51 := Try.underlying115
  a51 := Try.isAgg115
  z51 := Try.sizeOf115
  v51 := Try.zeroValue115
  t53 := Try.underlying117
  a53 := Try.isAgg117
  z53 := Try.sizeOf117
  v53 := Try.zeroValue117
  t131 := Try.underlying93
  a131 := Try.isAgg93
  z131 := Try.sizeOf93
  v131 := Try.zeroValue93
  t182 := Try.underlying108
  a182 := Try.isAgg108
  z182 := Try.sizeOf108
  v182 := Try.zeroValue108
  t183 := Try.underlying109
  a183 := Try.isAgg109
  z183 := Try.sizeOf109
  v183 := Try.zeroValue109
  t218 := Try.underlying118
  a218 := Try.isAgg118
  z218 := Try.sizeOf118
  v218 := Try.zeroValue118
  t222 := Try.underlying122
  a222 := Try.isAgg122
  z222 := Try.sizeOf122
  v222 := Try.zeroValue122
  t228 := Try.underlying124
  a228 := Try.isAgg124
  z228 := Try.sizeOf124
  v228 := Try.zeroValue124
  t229 := Try.underlying125
  a229 := Try.isAgg125
  z229 := Try.sizeOf125
  v229 := Try.zeroValue125 }
open Go.Sort Go.RowKit in
theorem Try.slices_Sort_int (blk off cap : Nat) (zs : List Int) (w : World) (hH : Holds (Value.int .i64) w blk off zs.toArray) (hblk : blk < w.heap.size) (hsz : zs.length < 4611686018427387904) :
    Calls Try.prog 58 #[.slice (some ⟨blk, off, none⟩) zs.length cap] w fun e w' =>
      e = .returned (.tuple #[]) ∧ ∃ n os, w' = grow (putRow (Value.int .i64) (Sort.ahead w n) blk off (zs.mergeSort fun x y => decide (x ≤ y)).toArray) os := Any.slices_Sort_int Try.lays189 blk off cap zs w hH hblk hsz
def Try.laysNm220_ren : Go.Shelf.Ren := ⟨fun | 20 => 59 | n => n, fun | 22 => 41 | 3 => 3 | 4 => 4 | 0 => 0 | n => n, fun | n => n⟩
theorem Try.laysNm220 : Go.Proofs.Lays2.n20 Try.prog Try.laysNm220_ren := {
  mixed := by kernel_rfl
  f20 := Try.func59.trans (congrArg some (by kernel_rfl))
  t0 := Try.underlying0
  a0 := Try.isAgg0
  z0 := Try.sizeOf0
  v0 := Try.zeroValue0
  t3 := Try.underlying3
  a3 := Try.isAgg3
  z3 := Try.sizeOf3
  v3 := Try.zeroValue3
  t4 := Try.underlying4
  a4 := Try.isAgg4
  z4 := Try.sizeOf4
  v4 := Try.zeroValue4
  t22 := Try.underlying41
  a22 := Try.isAgg41
  z22 := Try.sizeOf41
  v22 := Try.zeroValue41
  i3 := by kernel_rfl }
open Go.RowKit Go.Lib Go.Sort in
theorem Try.slices_Compact_int (blk off cap : Nat) (zs : List Int) (w : World) (hH : Holds (Value.int .i64) w blk off zs.toArray) (hsz : zs.length ≤ 9223372036854775807) (hcap : zs.length ≤ cap) :
    Calls Try.prog 59 #[.slice (some ⟨blk, off, none⟩) zs.length cap] w fun e w' => e = .returned (.slice (some ⟨blk, off, none⟩) (Lib.compact zs).length cap) ∧ ∃ q, w' = putRow (Value.int .i64) (Sort.ahead w q) blk off (Lib.compact zs ++ List.replicate (zs.length - (Lib.compact zs).length) 0).toArray := Any.slices_Compact_int Try.laysNm220 blk off cap zs w hH hsz hcap
end Go.Proofs
namespace Go.Proofs.Ytcllccpeechdhaa
open Go.Vai Go Go.Proofs
theorem sortC : SortC Try.prog 58 := fun blk off cap zs w hH hblk hsz => Try.slices_Sort_int blk off cap zs w hH hblk hsz
theorem compC : CompC Try.prog 59 Lib.compact := fun blk off cap zs w hH hsz hcap => Try.slices_Compact_int blk off cap zs w hH hsz hcap
end Go.Proofs.Ytcllccpeechdhaa
namespace Go.Proofs.Ytcllccpeechdhaa
open Go.Vai Go Go.Proofs
theorem compact_pw {l : List Int} (h : l.Pairwise (· ≤ ·)) : (Lib.compact l).Pairwise (· ≤ ·) := by
  unfold Lib.compact Lib.compactUpTo
  refine List.pairwise_map.2 ?_
  refine List.Pairwise.filter _ ?_
  refine List.Pairwise.imp_of_mem (R := (· < ·)) (fun {a b} ha hb hab => ?_) List.pairwise_lt_range
  have hb : b < l.length := by simpa using hb
  have := List.pairwise_iff_getElem.1 h a b (by omega) hb hab
  simp [show a < l.length by omega, hb]
  exact this
theorem compact_mem (l : List Int) (x : Int) : x ∈ Lib.compact l ↔ x ∈ l := by
  unfold Lib.compact Lib.compactUpTo
  simp only [List.mem_map, List.mem_filter, List.mem_range]
  constructor
  · rintro ⟨i, ⟨hi, _⟩, rfl⟩
    simp [hi]
  · intro hx
    obtain ⟨i, hi, rfl⟩ := List.getElem_of_mem hx
    clear hx
    induction i with
    | zero => exact ⟨0, ⟨hi, by simp [Lib.keeps]⟩, by simp [hi]⟩
    | succ i ih =>
      by_cases h : l[i + 1] = l[i]
      · rw [h]; exact ih (by omega)
      · refine ⟨i + 1, ⟨hi, ?_⟩, by simp [hi]⟩
        simp [Lib.keeps, hi, show i < l.length by omega, h]
def loF : List Int → Int → Nat
  | [], _ => 0
  | y :: l, v => if y < v then loF l v + 1 else 0
theorem loF_le : ∀ (l : List Int) (v : Int), loF l v ≤ l.length
  | [], _ => Nat.le_refl _
  | y :: l, v => by
    rw [loF]; split
    · have := loF_le l v; simp; omega
    · simp
theorem loF_lt : ∀ (l : List Int) (v : Int) (i : Nat), i < loF l v → gd l i < v
  | [], _, _, h => by simp [loF] at h
  | y :: l, v, i, h => by
    rw [loF] at h
    split at h
    · cases i with
      | zero => rw [gd_cons_zero]; assumption
      | succ i => rw [gd_cons_succ]; exact loF_lt l v i (by omega)
    · omega
theorem loF_ge : ∀ (l : List Int) (v : Int) (i : Nat), l.Pairwise (· ≤ ·) → loF l v ≤ i → i < l.length → v ≤ gd l i
  | [], _, _, _, _, h => by simp at h
  | y :: l, v, i, hp, h, hi => by
    rw [loF] at h
    have hp := List.pairwise_cons.1 hp
    split at h
    · cases i with
      | zero => omega
      | succ i => rw [gd_cons_succ]; exact loF_ge l v i hp.2 (by omega) (by simpa using hi)
    · cases i with
      | zero => rw [gd_cons_zero]; omega
      | succ i =>
        rw [gd_cons_succ]
        have := hp.1 (gd l i) (gd_mem l i (by simpa using hi))
        omega
def nextF (l : List Int) (v : Int) : Int := if loF l v < l.length then gd l (loF l v) else 86400
theorem nextF_ge (l : List Int) (v : Int) (hp : l.Pairwise (· ≤ ·)) (hv : v ≤ 86400) : v ≤ nextF l v := by
  unfold nextF; split
  · exact loF_ge l v _ hp (Nat.le_refl _) (by assumption)
  · exact hv
theorem nextF_le (l : List Int) (v : Int) (hl : ∀ y ∈ l, y ≤ 86400) : nextF l v ≤ 86400 := by
  unfold nextF; split
  · exact hl _ (gd_mem l _ (by assumption))
  · exact Int.le_refl _
theorem nextF_no (l : List Int) (v : Int) (hp : l.Pairwise (· ≤ ·)) (y : Int) (hy : y ∈ l) (h : v ≤ y) : nextF l v ≤ y := by
  obtain ⟨i, hi, rfl⟩ := List.getElem_of_mem hy
  have hg : gd l i = l[i] := by unfold gd; simp [hi]
  have hlo : loF l v ≤ i := by
    refine Decidable.byContradiction fun hc => ?_
    have := loF_lt l v i (by omega)
    rw [hg] at this; omega
  unfold nextF
  rw [if_pos (by omega)]
  rcases Nat.lt_or_eq_of_le hlo with h1 | h1
  · have := List.pairwise_iff_getElem.1 hp (loF l v) i (by omega) hi h1
    have hg2 : gd l (loF l v) = l[loF l v] := by unfold gd; simp [show loF l v < l.length by omega]
    rw [hg2]; exact this
  · rw [h1, hg]; exact Int.le_refl _
def hitR (s : Int) (r : Rt) : Bool := decide (r.d / 2 ^ (s / 86400).toNat % 2 = 1 ∧ r.f ≤ s % 86400 ∧ s % 86400 < r.t)
def rateF (x : Tf) (s : Int) : Int := match x.l.find? (hitR s) with | some r => r.p | none => x.b
def goodT (x : Tf) : Bool := decide (0 ≤ x.b ∧ x.b ≤ 1000000 ∧ x.l.length ≤ 10) && x.l.all goodR
theorem goodT_iff {x : Tf} : goodT x = true ↔ (0 ≤ x.b ∧ x.b ≤ 1000000 ∧ x.l.length ≤ 10) ∧ ∀ r ∈ x.l, goodR r = true := by
  unfold goodT
  rw [Bool.and_eq_true, decide_eq_true_iff, List.all_eq_true]
theorem rateF_in {x : Tf} (h : goodT x = true) (s : Int) : 0 ≤ rateF x s ∧ rateF x s ≤ 1000000 := by
  obtain ⟨h1, h2⟩ := goodT_iff.1 h
  unfold rateF
  split
  · rename_i r hr
    have := goodR_iff.1 (h2 r (List.mem_of_find?_eq_some hr))
    exact this.2.2.2.2.2
  · exact ⟨h1.1, h1.2.1⟩
def rawF (x : Tf) : List Int := 0 :: x.l.flatMap fun r => [r.f, r.t % 86400]
def chgF (x : Tf) : List Int := Lib.compact (sortM (rawF x))
theorem chgF_pw (x : Tf) : (chgF x).Pairwise (· ≤ ·) := by
  refine compact_pw ?_
  have := List.pairwise_mergeSort (le := fun (x y : Int) => decide (x ≤ y)) (fun a b c h1 h2 => by simp at *; omega) (fun a b => by simp; omega) (rawF x)
  exact this.imp fun h => by simpa using h
theorem chgF_mem (x : Tf) (y : Int) : y ∈ chgF x ↔ y ∈ rawF x := by
  unfold chgF; rw [compact_mem, sortM_mem]
theorem chgF_in {x : Tf} (h : goodT x = true) (y : Int) (hy : y ∈ chgF x) : 0 ≤ y ∧ y < 86400 := by
  rw [chgF_mem] at hy
  unfold rawF at hy
  rcases List.mem_cons.1 hy with rfl | hy
  · omega
  · obtain ⟨r, hr, hy⟩ := List.mem_flatMap.1 hy
    have := goodR_iff.1 ((goodT_iff.1 h).2 r hr)
    simp only [List.mem_cons, List.mem_nil_iff, or_false] at hy
    omega
def endF (x : Tf) (u : Int) : Int := nextF (chgF x) (u + 1)
theorem endF_in {x : Tf} (h : goodT x = true) {u : Int} (h0 : 0 ≤ u) (h1 : u < 86400) : u < endF x u ∧ endF x u ≤ 86400 := by
  refine ⟨?_, nextF_le _ _ fun y hy => by have := chgF_in h y hy; omega⟩
  have := nextF_ge (chgF x) (u + 1) (chgF_pw x) (by omega)
  unfold endF; omega
theorem rate_const {x : Tf} (h : goodT x = true) {s : Int} (h0 : 0 ≤ s) {i : Int} (hi : 0 ≤ i) (hlt : s % 86400 + i < endF x (s % 86400)) : rateF x (s + i) = rateF x s := by
  have he := endF_in h (u := s % 86400) (by omega) (by omega)
  have hd : (s + i) / 86400 = s / 86400 := by omega
  have hm : (s + i) % 86400 = s % 86400 + i := by omega
  have hno : ∀ y ∈ rawF x, ¬ (s % 86400 < y ∧ y < endF x (s % 86400)) := fun y hy hh => by
    have := nextF_no (chgF x) (s % 86400 + 1) (chgF_pw x) y ((chgF_mem x y).2 hy) (by omega)
    unfold endF at hh; omega
  have hq : ∀ r ∈ x.l, hitR (s + i) r = hitR s r := fun r hr => by
    have hg := goodR_iff.1 ((goodT_iff.1 h).2 r hr)
    have n1 := hno r.f (by unfold rawF; exact List.mem_cons_of_mem _ (List.mem_flatMap.2 ⟨r, hr, by simp⟩))
    have n2 := hno (r.t % 86400) (by unfold rawF; exact List.mem_cons_of_mem _ (List.mem_flatMap.2 ⟨r, hr, by simp⟩))
    unfold hitR
    rw [hd, hm]
    apply decide_eq_decide.2
    refine and_congr Iff.rfl ?_
    omega
  have hf : x.l.find? (hitR (s + i)) = x.l.find? (hitR s) := by
    generalize x.l = l at hq
    induction l with
    | nil => rfl
    | cons r l ih =>
      rw [List.find?_cons, List.find?_cons, hq r (by simp), ih fun r' h' => hq r' (by simp [h'])]
  unfold rateF
  rw [hf]
def psum (g : Int → Int) (a : Int) : Nat → Int
  | 0 => 0
  | n + 1 => psum g a n + g (a + n)
theorem psum_add (g : Int → Int) (a : Int) (m : Nat) : ∀ n : Nat, psum g a (m + n) = psum g a m + psum g (a + m) n
  | 0 => by simp [psum]
  | n + 1 => by
    rw [← Nat.add_assoc, psum, psum, psum_add g a m n, show a + ((m + n : Nat) : Int) = a + m + n by omega]
    omega
theorem psum_const {g : Int → Int} {a c : Int} : ∀ {n : Nat}, (∀ i : Nat, i < n → g (a + i) = c) → psum g a n = c * n
  | 0, _ => by simp [psum]
  | n + 1, h => by
    rw [psum, psum_const fun i hi => h i (by omega), h n (by omega), show ((n + 1 : Nat) : Int) = n + 1 from rfl, Int.mul_add, Int.mul_one]
theorem psum_shift {g : Int → Int} {a b : Int} : ∀ {n : Nat}, (∀ i : Nat, i < n → g (a + i) = g (b + i)) → psum g a n = psum g b n
  | 0, _ => rfl
  | n + 1, h => by rw [psum, psum, psum_shift fun i hi => h i (by omega), h n (by omega)]
theorem psum_in {g : Int → Int} {a : Int} {c : Int} (h : ∀ t, 0 ≤ g t ∧ g t ≤ c) : ∀ n : Nat, 0 ≤ psum g a n ∧ psum g a n ≤ c * n
  | 0 => by simp [psum]
  | n + 1 => by
    have := psum_in (a := a) h n
    have h2 := h (a + n)
    rw [psum, show ((n + 1 : Nat) : Int) = n + 1 from rfl, Int.mul_add, Int.mul_one]
    omega
theorem shift_weeks {g : Int → Int} {k : Nat} (hg : ∀ t, 0 ≤ t → g (t + k) = g t) {a : Int} (ha : 0 ≤ a) : ∀ n : Nat, g (a + ((n * k : Nat) : Int)) = g a
  | 0 => by simp
  | n + 1 => by
    rw [← shift_weeks hg ha n, ← hg (a + ((n * k : Nat) : Int)) (by omega)]
    congr 1
    rw [Nat.succ_mul]; omega
theorem psum_weeks {g : Int → Int} {k : Nat} (hg : ∀ t, 0 ≤ t → g (t + k) = g t) {a : Int} (ha : 0 ≤ a) : ∀ n : Nat, psum g a (n * k) = n * psum g a k
  | 0 => by simp [psum]
  | n + 1 => by
    rw [Nat.succ_mul, psum_add, psum_weeks hg ha n]
    have : psum g (a + ((n * k : Nat) : Int)) k = psum g a k := by
      refine psum_shift fun i _ => ?_
      have := shift_weeks hg (a := a + i) (by omega) n
      rw [← this]
      congr 1
      omega
    rw [this, show ((n + 1 : Nat) : Int) = n + 1 from rfl, Int.add_mul, Int.one_mul]
def locF (z t : Int) : Int := (t + z + 604800) % 604800
def priceF (x : Tf) (z t : Int) : Int := rateF x (locF z t)
def sumF (x : Tf) (z a b : Int) : Int := psum (priceF x z) a (b - a).toNat
theorem zoneF_iff {z : Int} : zoneF z = true ↔ -50400 ≤ z ∧ z ≤ 50400 := decide_eq_true_iff
theorem price_in {x : Tf} (h : goodT x = true) (z t : Int) : 0 ≤ priceF x z t ∧ priceF x z t ≤ 1000000 := rateF_in h _
theorem price_week (x : Tf) (z t : Int) : priceF x z (t + (604800 : Nat)) = priceF x z t := by
  unfold priceF locF
  congr 1
  omega
theorem piece_sum {x : Tf} (h : goodT x = true) {z a b : Int} (hz : zoneF z = true) (ha : 0 ≤ a) (hab : a ≤ b) (hb : b ≤ a + endF x (locF z a % 86400) - locF z a % 86400) : sumF x z a b = rateF x (locF z a) * (b - a) := by
  have hl : 0 ≤ locF z a := by unfold locF; omega
  have hl2 : locF z a < 604800 := by unfold locF; omega
  have he := endF_in h (u := locF z a % 86400) (by omega) (by omega)
  unfold sumF
  rw [psum_const (c := rateF x (locF z a)) fun i hi => ?_, Int.toNat_of_nonneg (by omega)]
  have hloc : locF z (a + i) = locF z a + i := by
    unfold locF at *; omega
  unfold priceF
  rw [hloc]
  exact rate_const h hl (by omega) (by omega)
theorem sumF_add (x : Tf) (z : Int) {a b c : Int} (h1 : a ≤ b) (h2 : b ≤ c) : sumF x z a c = sumF x z a b + sumF x z b c := by
  unfold sumF
  rw [show (c - a).toNat = (b - a).toNat + (c - b).toNat by omega, psum_add, Int.toNat_of_nonneg (by omega), show a + (b - a) = b by omega]
theorem sumF_in {x : Tf} (h : goodT x = true) (z a b : Int) (hab : a ≤ b) : 0 ≤ sumF x z a b ∧ sumF x z a b ≤ 1000000 * (b - a) := by
  have := psum_in (a := a) (price_in h z) (b - a).toNat
  rw [Int.toNat_of_nonneg (by omega)] at this
  exact this
theorem sumF_weeks (x : Tf) (z : Int) {a b : Int} (ha : 0 ≤ a) (hab : a ≤ b) : sumF x z a b = sumF x z (a + (b - a) / 604800 * 604800) b + (b - a) / 604800 * sumF x z a (a + 604800) := by
  rw [sumF_add x z (a := a) (b := a + (b - a) / 604800 * 604800) (by omega) (by omega), Int.add_comm]
  congr 1
  obtain ⟨n, hn⟩ : ∃ n : Nat, (b - a) / 604800 = n := ⟨((b - a) / 604800).toNat, by omega⟩
  rw [hn]
  unfold sumF
  rw [show (a + (n : Int) * 604800 - a).toNat = n * 604800 by omega, show (a + 604800 - a).toNat = 604800 by omega]
  exact psum_weeks (fun t _ => price_week x z t) ha n
def pcsF (x : Tf) (z b : Int) : Nat → Int → List (Int × Int × Int)
  | 0, _ => []
  | k + 1, a => if a < b then (a, min (a + endF x (locF z a % 86400) - locF z a % 86400) b, rateF x (locF z a)) :: pcsF x z b k (min (a + endF x (locF z a % 86400) - locF z a % 86400) b) else []
end Go.Proofs.Ytcllccpeechdhaa
set_option maxRecDepth 100000
namespace Go.Proofs.Ytcllccpeechdhaa
open Go.Vai Go Go.Proofs
theorem local_ev (z t : Int) (h : zoneF z = true) (ht : 0 ≤ t ∧ t ≤ 100000000) : Ev Try.prog 51 [I z, I t] (I (locF z t)) := by
  have hz := zoneF_iff.1 h
  have h1 : (t + z + 604800).tmod 604800 = locF z t := by rw [Int.tmod_eq_emod_of_nonneg (by omega)]; rfl
  refine ev_of Try.func51 rfl (by kernel_rfl) mo (Nat.le_of_ble_eq_true rfl) ?_
  simp -implicitDefEqProofs (disch := omega) only [go_sem, ↓reduceIte, Nat.reduceEqDiff, Nat.reduceMul, Nat.reduceAdd, Nat.reduceDiv, Nat.reduceBEq, Nat.reduceLeDiff, Int.reduceToNat, Int.reduceNe, Int.reduceEq, Int.reduceLT, Int.reduceLE, Int.reduceBEq, Int.reduceBNe, ne_eq, not_true_eq_false, not_false_eq_true, decide_true, decide_false, List.length_map, Try.ntmps51, Try.results51, h1]
theorem bit_one (v : Int) (h0 : 0 ≤ v) (h1 : v ≤ 127) : bitsI .and .i64 v 1 = v % 2 := by
  obtain ⟨n, rfl⟩ : ∃ n : Nat, v = n := ⟨v.toNat, by omega⟩
  have : ∀ m : Fin 128, bitsI .and .i64 ((m : Nat) : Int) 1 = ((m : Nat) : Int) % 2 := by decide +kernel
  exact this ⟨n, by omega⟩
theorem rated1_ev (r : Rt) (s : Int) (hr : goodR r = true) (h0 : 0 ≤ s) (h1 : s < 604800) : Ev Try.prog 62 [TP r, .pt (I s) 0] (B (hitR s r)) := by
  have hg := goodR_iff.1 hr
  have hd : s.tdiv 86400 = s / 86400 := Int.tdiv_eq_ediv_of_nonneg h0
  have hm : s.tmod 86400 = s % 86400 := Int.tmod_eq_emod_of_nonneg h0
  have hb : bitsI .and .i64 (r.d.fdiv (2 ^ min (s / 86400).toNat 64)) 1 = r.d / 2 ^ (s / 86400).toNat % 2 := by
    rw [Nat.min_eq_left (by omega), Int.fdiv_eq_ediv_of_nonneg _ (Int.le_of_lt (Int.pow_pos (by omega)))]
    refine bit_one _ (Int.ediv_nonneg (by omega) (Int.le_of_lt (Int.pow_pos (by omega)))) ?_
    exact Int.le_trans (Int.ediv_le_self _ (by omega)) hg.2.1
  refine ev_of Try.func62 rfl (by kernel_rfl) mo (Nat.le_of_ble_eq_true rfl) ?_
  simp -implicitDefEqProofs (disch := omega) only [go_sem, ↓reduceIte, Nat.reduceEqDiff, Nat.reduceMul, Nat.reduceAdd, Nat.reduceDiv, Nat.reduceBEq, Nat.reduceLeDiff, Int.reduceToNat, Int.reduceNe, Int.reduceEq, Int.reduceLT, Int.reduceLE, Int.reduceBEq, Int.reduceBNe, ne_eq, not_true_eq_false, not_false_eq_true, decide_true, decide_false, List.length_map, Try.ntmps62, hd, hm, hb]
  unfold hitR
  generalize r.d / 2 ^ (s / 86400).toNat % 2 = q
  refine branch_mk (fun hc => ?_) (fun hc => ?_)
  · simp -implicitDefEqProofs (disch := omega) only [go_sem, ↓reduceIte, Nat.reduceEqDiff, Nat.reduceMul, Nat.reduceAdd, Nat.reduceDiv, Nat.reduceBEq, Nat.reduceLeDiff, Int.reduceToNat, Int.reduceNe, Int.reduceEq, Int.reduceLT, Int.reduceLE, Int.reduceBEq, Int.reduceBNe, ne_eq, not_true_eq_false, not_false_eq_true, decide_true, decide_false, List.length_map, hd, hm, hc]
    refine callC_at (isInT_ev (s % 86400) r.f (r.t - 1)) ?_
    simp -implicitDefEqProofs (disch := omega) only [go_sem, ↓reduceIte, Nat.reduceEqDiff, Nat.reduceMul, Nat.reduceAdd, Nat.reduceDiv, Nat.reduceBEq, Nat.reduceLeDiff, Int.reduceToNat, Int.reduceNe, Int.reduceEq, Int.reduceLT, Int.reduceLE, Int.reduceBEq, Int.reduceBNe, ne_eq, not_true_eq_false, not_false_eq_true, decide_true, decide_false, List.length_map, hc, Try.results62, true_and]
    congr 2
    apply decide_eq_decide.2
    omega
  · simp -implicitDefEqProofs (disch := omega) only [go_sem, ↓reduceIte, Nat.reduceEqDiff, Nat.reduceMul, Nat.reduceAdd, Nat.reduceDiv, Nat.reduceBEq, Nat.reduceLeDiff, Int.reduceToNat, Int.reduceNe, Int.reduceEq, Int.reduceLT, Int.reduceLE, Int.reduceBEq, Int.reduceBNe, ne_eq, not_true_eq_false, not_false_eq_true, decide_true, decide_false, List.length_map, hd, hm, hc, Try.results62, false_and]
theorem find_idx (Q : Rt → Bool) : ∀ (l : List Rt) (v : Nat), (idxT Q l v = -1 ∧ l.find? Q = none) ∨ ∃ i : Nat, i < l.length ∧ idxT Q l v = ((v + i : Nat) : Int) ∧ l.find? Q = some (gd l i)
  | [], _ => .inl ⟨rfl, rfl⟩
  | r :: l, v => by
    rw [idxT, List.find?_cons]
    by_cases h : Q r = true
    · rw [if_pos h, h]; exact .inr ⟨0, by simp, rfl, by rw [gd_cons_zero]⟩
    · rw [if_neg h, show Q r = false by simpa using h]
      rcases find_idx Q l (v + 1) with ⟨h1, h2⟩ | ⟨i, h1, h2, h3⟩
      · exact .inl ⟨h1, h2⟩
      · exact .inr ⟨i + 1, by simpa using h1, by rw [h2]; congr 1; omega, by rw [gd_cons_succ]; exact h3⟩
theorem rated_ev (x : Tf) (s : Int) (h : goodT x = true) (h0 : 0 ≤ s) (h1 : s < 604800) : Ev Try.prog 53 [TF x, I s] (I (rateF x s)) := by
  obtain ⟨hb, hl⟩ := goodT_iff.1 h
  refine ev_of Try.func53 rfl (by kernel_rfl) mo (Nat.le_of_ble_eq_true rfl) ?_
  simp -implicitDefEqProofs (disch := omega) only [go_sem, ↓reduceIte, Nat.reduceEqDiff, Nat.reduceMul, Nat.reduceAdd, Nat.reduceDiv, Nat.reduceBEq, Nat.reduceLeDiff, Int.reduceToNat, Int.reduceNe, Int.reduceEq, Int.reduceLT, Int.reduceLE, Int.reduceBEq, Int.reduceBNe, ne_eq, not_true_eq_false, not_false_eq_true, decide_true, decide_false, List.length_map, Try.ntmps53]
  refine callC_sem rfl ?_
  refine freeze_op [113246256] ?_
  simp -implicitDefEqProofs (disch := omega) only [go_sem, ↓reduceIte, Nat.reduceEqDiff, Nat.reduceMul, Nat.reduceAdd, Nat.reduceDiv, Nat.reduceBEq, Nat.reduceLeDiff, Int.reduceToNat, Int.reduceNe, Int.reduceEq, Int.reduceLT, Int.reduceLE, Int.reduceBEq, Int.reduceBNe, ne_eq, not_true_eq_false, not_false_eq_true, decide_true, decide_false, List.length_map]
  refine callC_at (idxT_ev 62 [.pt (I s) 0] (hitR s) x.l (fun r hr => rated1_ev r s (hl r hr) h0 h1) (fun _ => rfl) (fun _ => rfl) (by omega)) ?_
  have hf : rateF x s = match x.l.find? (hitR s) with | some r => r.p | none => x.b := rfl
  rcases find_idx (hitR s) x.l 0 with ⟨h2, h3⟩ | ⟨i, h2, h3, h4⟩
  · rw [h3] at hf
    simp -implicitDefEqProofs (disch := omega) only [go_sem, ↓reduceIte, Nat.reduceEqDiff, Nat.reduceMul, Nat.reduceAdd, Nat.reduceDiv, Nat.reduceBEq, Nat.reduceLeDiff, Int.reduceToNat, Int.reduceNe, Int.reduceEq, Int.reduceLT, Int.reduceLE, Int.reduceBEq, Int.reduceBNe, ne_eq, not_true_eq_false, not_false_eq_true, decide_true, decide_false, List.length_map, h2, hf, Try.results53]
  · rw [h4] at hf
    rw [Nat.zero_add] at h3
    simp -implicitDefEqProofs (disch := omega) only [go_sem, ↓reduceIte, Nat.reduceEqDiff, Nat.reduceMul, Nat.reduceAdd, Nat.reduceDiv, Nat.reduceBEq, Nat.reduceLeDiff, Int.reduceToNat, Int.reduceNe, Int.reduceEq, Int.reduceLT, Int.reduceLE, Int.reduceBEq, Int.reduceBNe, ne_eq, not_true_eq_false, not_false_eq_true, decide_true, decide_false, List.length_map, h3, hf]
    refine branch_r (by omega) ?_
    simp -implicitDefEqProofs (disch := omega) only [go_sem, ↓reduceIte, Nat.reduceEqDiff, Nat.reduceMul, Nat.reduceAdd, Nat.reduceDiv, Nat.reduceBEq, Nat.reduceLeDiff, Int.reduceToNat, Int.reduceNe, Int.reduceEq, Int.reduceLT, Int.reduceLE, Int.reduceBEq, Int.reduceBNe, ne_eq, not_true_eq_false, not_false_eq_true, decide_true, decide_false, List.length_map, h3, hf, Try.results53]
theorem idx_none (Q : Rt → Bool) : ∀ (l : List Rt) (v : Nat), (∀ r ∈ l, Q r = false) → idxT Q l v = -1
  | [], _, _ => rfl
  | r :: l, v, h => by
    rw [idxT, if_neg (by rw [h r (by simp)]; simp)]
    exact idx_none Q l (v + 1) fun r h' => h r (by simp [h'])
theorem contains_ev (l : List Rt) (h : ∀ r ∈ l, goodR r = true) (hl : l.length ≤ 1000000) : Ev Try.prog 48 [TS l, .clo 46 []] (B false) := by
  have hx := idxT_ev 46 [] (fun _ => false) l (fun r hr => isBad_ev r (h r hr)) (fun _ => rfl) (fun _ => rfl) hl
  rw [idx_none _ l 0 fun _ _ => rfl] at hx
  refine ev_of Try.func48 rfl (by kernel_rfl) mo (Nat.le_of_ble_eq_true rfl) ?_
  simp -implicitDefEqProofs (disch := omega) only [go_sem, ↓reduceIte, Nat.reduceEqDiff, Nat.reduceMul, Nat.reduceAdd, Nat.reduceDiv, Nat.reduceBEq, Nat.reduceLeDiff, Int.reduceToNat, Int.reduceNe, Int.reduceEq, Int.reduceLT, Int.reduceLE, Int.reduceBEq, Int.reduceBNe, ne_eq, not_true_eq_false, not_false_eq_true, decide_true, decide_false, List.length_map, Try.ntmps48]
  refine callC_at hx ?_
  simp -implicitDefEqProofs (disch := omega) only [go_sem, ↓reduceIte, Nat.reduceEqDiff, Nat.reduceMul, Nat.reduceAdd, Nat.reduceDiv, Nat.reduceBEq, Nat.reduceLeDiff, Int.reduceToNat, Int.reduceNe, Int.reduceEq, Int.reduceLT, Int.reduceLE, Int.reduceBEq, Int.reduceBNe, ne_eq, not_true_eq_false, not_false_eq_true, decide_true, decide_false, List.length_map, Try.results48]
theorem valid_ev (x : Tf) (h : goodT x = true) : Ev Try.prog 35 [TF x] (B true) := by
  obtain ⟨⟨h1, h2, h3⟩, h4⟩ := goodT_iff.1 h
  refine ev_of Try.func35 rfl (by kernel_rfl) mo (Nat.le_of_ble_eq_true rfl) ?_
  simp -implicitDefEqProofs (disch := omega) only [go_sem, ↓reduceIte, Nat.reduceEqDiff, Nat.reduceMul, Nat.reduceAdd, Nat.reduceDiv, Nat.reduceBEq, Nat.reduceLeDiff, Int.reduceToNat, Int.reduceNe, Int.reduceEq, Int.reduceLT, Int.reduceLE, Int.reduceBEq, Int.reduceBNe, ne_eq, not_true_eq_false, not_false_eq_true, decide_true, decide_false, List.length_map, Try.ntmps35]
  refine callC_at (isInT_ev x.b 0 1000000) ?_
  rw [decide_eq_true ⟨h1, h2⟩]
  simp -implicitDefEqProofs (disch := omega) only [go_sem, ↓reduceIte, Nat.reduceEqDiff, Nat.reduceMul, Nat.reduceAdd, Nat.reduceDiv, Nat.reduceBEq, Nat.reduceLeDiff, Int.reduceToNat, Int.reduceNe, Int.reduceEq, Int.reduceLT, Int.reduceLE, Int.reduceBEq, Int.reduceBNe, ne_eq, not_true_eq_false, not_false_eq_true, decide_true, decide_false, List.length_map]
  have h5 : decide ((x.l.length : Int) ≤ 10) = true := decide_eq_true (by omega)
  refine branch_l (by omega) ?_
  simp -implicitDefEqProofs (disch := omega) only [go_sem, ↓reduceIte, Nat.reduceEqDiff, Nat.reduceMul, Nat.reduceAdd, Nat.reduceDiv, Nat.reduceBEq, Nat.reduceLeDiff, Int.reduceToNat, Int.reduceNe, Int.reduceEq, Int.reduceLT, Int.reduceLE, Int.reduceBEq, Int.reduceBNe, ne_eq, not_true_eq_false, not_false_eq_true, decide_true, decide_false, List.length_map, h5]
  refine callC_at (contains_ev x.l h4 (by omega)) ?_
  simp -implicitDefEqProofs (disch := omega) only [go_sem, ↓reduceIte, Nat.reduceEqDiff, Nat.reduceMul, Nat.reduceAdd, Nat.reduceDiv, Nat.reduceBEq, Nat.reduceLeDiff, Int.reduceToNat, Int.reduceNe, Int.reduceEq, Int.reduceLT, Int.reduceLE, Int.reduceBEq, Int.reduceBNe, ne_eq, not_true_eq_false, not_false_eq_true, decide_true, decide_false, List.length_map, Try.results35]
theorem isGood_ev (x : Tf) (z f t : Int) (h : goodT x = true) : Ev Try.prog 21 [TF x, I z, .agg [I f, I t]] (B (zoneF z && spellF f t)) := by
  refine ev_of Try.func21 rfl (by kernel_rfl) mo (Nat.le_of_ble_eq_true rfl) ?_
  simp -implicitDefEqProofs (disch := omega) only [go_sem, ↓reduceIte, Nat.reduceEqDiff, Nat.reduceMul, Nat.reduceAdd, Nat.reduceDiv, Nat.reduceBEq, Nat.reduceLeDiff, Int.reduceToNat, Int.reduceNe, Int.reduceEq, Int.reduceLT, Int.reduceLE, Int.reduceBEq, Int.reduceBNe, ne_eq, not_true_eq_false, not_false_eq_true, decide_true, decide_false, List.length_map, Try.ntmps21]
  refine callC_at (valid_ev x h) ?_
  simp -implicitDefEqProofs (disch := omega) only [go_sem, ↓reduceIte, Nat.reduceEqDiff, Nat.reduceMul, Nat.reduceAdd, Nat.reduceDiv, Nat.reduceBEq, Nat.reduceLeDiff, Int.reduceToNat, Int.reduceNe, Int.reduceEq, Int.reduceLT, Int.reduceLE, Int.reduceBEq, Int.reduceBNe, ne_eq, not_true_eq_false, not_false_eq_true, decide_true, decide_false, List.length_map]
  refine callC_at (isZone_ev z) ?_
  cases zoneF z with
  | false => simp -implicitDefEqProofs (disch := omega) only [go_sem, ↓reduceIte, Nat.reduceEqDiff, Nat.reduceMul, Nat.reduceAdd, Nat.reduceDiv, Nat.reduceBEq, Nat.reduceLeDiff, Int.reduceToNat, Int.reduceNe, Int.reduceEq, Int.reduceLT, Int.reduceLE, Int.reduceBEq, Int.reduceBNe, ne_eq, not_true_eq_false, not_false_eq_true, decide_true, decide_false, List.length_map, Try.results21, Bool.false_and]
  | true =>
    simp -implicitDefEqProofs (disch := omega) only [go_sem, ↓reduceIte, Nat.reduceEqDiff, Nat.reduceMul, Nat.reduceAdd, Nat.reduceDiv, Nat.reduceBEq, Nat.reduceLeDiff, Int.reduceToNat, Int.reduceNe, Int.reduceEq, Int.reduceLT, Int.reduceLE, Int.reduceBEq, Int.reduceBNe, ne_eq, not_true_eq_false, not_false_eq_true, decide_true, decide_false, List.length_map]
    refine callC_at (isSpell_ev f t) ?_
    cases spellF f t with
    | false => simp -implicitDefEqProofs (disch := omega) only [go_sem, ↓reduceIte, Nat.reduceEqDiff, Nat.reduceMul, Nat.reduceAdd, Nat.reduceDiv, Nat.reduceBEq, Nat.reduceLeDiff, Int.reduceToNat, Int.reduceNe, Int.reduceEq, Int.reduceLT, Int.reduceLE, Int.reduceBEq, Int.reduceBNe, ne_eq, not_true_eq_false, not_false_eq_true, decide_true, decide_false, List.length_map, Try.results21, Bool.true_and]
    | true => simp -implicitDefEqProofs (disch := omega) only [go_sem, ↓reduceIte, Nat.reduceEqDiff, Nat.reduceMul, Nat.reduceAdd, Nat.reduceDiv, Nat.reduceBEq, Nat.reduceLeDiff, Int.reduceToNat, Int.reduceNe, Int.reduceEq, Int.reduceLT, Int.reduceLE, Int.reduceBEq, Int.reduceBNe, ne_eq, not_true_eq_false, not_false_eq_true, decide_true, decide_false, List.length_map, Try.results21, Bool.true_and]
end Go.Proofs.Ytcllccpeechdhaa
set_option maxRecDepth 100000
namespace Go.Proofs.Ytcllccpeechdhaa
open Go.Vai Go Go.Proofs
theorem raw_len (l : List Rt) : (l.flatMap fun r => [r.f, r.t % 86400]).length = 2 * l.length := by
  induction l with
  | nil => rfl
  | cons r l ih => rw [List.flatMap_cons, List.length_append, ih]; simp; omega
theorem raw_snoc (l : List Rt) (i : Nat) (h : i < l.length) : ((l.take (i + 1)).flatMap fun r => [r.f, r.t % 86400]) = ((l.take i).flatMap fun r => [r.f, r.t % 86400]) ++ [(gd l i).f, (gd l i).t % 86400] := by
  rw [List.take_succ_eq_append_getElem h, List.flatMap_append, List.flatMap_cons, List.flatMap_nil, List.append_nil]
  unfold gd; simp [h]
@[go_sem] theorem append_I2 (l : List Int) (a b : Int) : l.map I ++ [.v (.int .i64 a), .v (.int .i64 b)] = (l ++ [a, b]).map I := by simp
theorem changes_ev (x : Tf) (h : goodT x = true) : Ev Try.prog 50 [TF x] (SL (chgF x)) := by
  obtain ⟨⟨h1, h2, h3⟩, h4⟩ := goodT_iff.1 h
  refine ev_of Try.func50 rfl (by kernel_rfl) mo (Nat.le_of_ble_eq_true rfl) ?_
  simp -implicitDefEqProofs (disch := omega) only [go_sem, ↓reduceIte, Nat.reduceEqDiff, Nat.reduceMul, Nat.reduceAdd, Nat.reduceDiv, Nat.reduceBEq, Nat.reduceLeDiff, Int.reduceToNat, Int.reduceNe, Int.reduceEq, Int.reduceLT, Int.reduceLE, Int.reduceBEq, Int.reduceBNe, ne_eq, not_true_eq_false, not_false_eq_true, decide_true, decide_false, List.length_map, Try.ntmps50]
  refine loopC_mk (fun k E σ => ∃ (i : Nat) (o : List Int), i + k = x.l.length ∧ o = 0 :: ((x.l.take i).flatMap fun r => [r.f, r.t % 86400]) ∧ E 3 = .own 106954848 1 0 o.length ∧ σ 106954848 = some ⟨3, 1, o.map I⟩ ∧ E 8 = TS x.l ∧ E 9 = I x.l.length ∧ E 10 = I i) x.l.length ⟨0, [0], by omega, rfl, ?_⟩ ?_
  · simp -implicitDefEqProofs (disch := omega) only [go_sem, ↓reduceIte, Nat.reduceEqDiff, Nat.reduceMul, Nat.reduceAdd, Nat.reduceDiv, Nat.reduceBEq, Nat.reduceLeDiff, Int.reduceToNat, Int.reduceNe, Int.reduceEq, Int.reduceLT, Int.reduceLE, Int.reduceBEq, Int.reduceBNe, ne_eq, not_true_eq_false, not_false_eq_true, decide_true, decide_false, List.length_map]
    rfl
  rintro k E σ ⟨i, o, hk, ho, e3, m3, e8, e9, e10⟩
  have hol : o.length = 1 + 2 * i := by rw [ho, List.length_cons, raw_len, List.length_take]; omega
  simp -implicitDefEqProofs (disch := omega) only [go_sem, ↓reduceIte, Nat.reduceEqDiff, Nat.reduceMul, Nat.reduceAdd, Nat.reduceDiv, Nat.reduceBEq, Nat.reduceLeDiff, Int.reduceToNat, Int.reduceNe, Int.reduceEq, Int.reduceLT, Int.reduceLE, Int.reduceBEq, Int.reduceBNe, ne_eq, not_true_eq_false, not_false_eq_true, decide_true, decide_false, List.length_map, e3, e8, e9, e10, m3]
  refine branch_mk (fun hc => ?_) (fun hc => ?_)
  · have hi : i < x.l.length := by omega
    have hg := goodR_iff.1 (h4 _ (gd_mem x.l i hi))
    have hm : (gd x.l i).t.tmod 86400 = (gd x.l i).t % 86400 := Int.tmod_eq_emod_of_nonneg (by omega)
    simp -implicitDefEqProofs (disch := omega) only [go_sem, ↓reduceIte, Nat.reduceEqDiff, Nat.reduceMul, Nat.reduceAdd, Nat.reduceDiv, Nat.reduceBEq, Nat.reduceLeDiff, Int.reduceToNat, Int.reduceNe, Int.reduceEq, Int.reduceLT, Int.reduceLE, Int.reduceBEq, Int.reduceBNe, ne_eq, not_true_eq_false, not_false_eq_true, decide_true, decide_false, List.length_map, e3, e8, e9, e10, m3, hm, List.take_length]
    refine againQ_mk (x.l.length - (i + 1)) (by omega) ⟨i + 1, o ++ [(gd x.l i).f, (gd x.l i).t % 86400], by omega, by rw [raw_snoc _ _ hi, ho]; rfl, ?_⟩
    simp -implicitDefEqProofs (disch := omega) only [go_sem, ↓reduceIte, Nat.reduceEqDiff, Nat.reduceMul, Nat.reduceAdd, Nat.reduceDiv, Nat.reduceBEq, Nat.reduceLeDiff, Int.reduceToNat, Int.reduceNe, Int.reduceEq, Int.reduceLT, Int.reduceLE, Int.reduceBEq, Int.reduceBNe, ne_eq, not_true_eq_false, not_false_eq_true, decide_true, decide_false, List.length_map, e3, e8, e9, e10, m3]
    rfl
  · have hi : i = x.l.length := by omega
    rw [hi, List.take_length] at ho
    have ho : o = rawF x := ho
    subst ho
    simp -implicitDefEqProofs (disch := omega) only [go_sem, ↓reduceIte, Nat.reduceEqDiff, Nat.reduceMul, Nat.reduceAdd, Nat.reduceDiv, Nat.reduceBEq, Nat.reduceLeDiff, Int.reduceToNat, Int.reduceNe, Int.reduceEq, Int.reduceLT, Int.reduceLE, Int.reduceBEq, Int.reduceBNe, ne_eq, not_true_eq_false, not_false_eq_true, decide_true, decide_false, List.length_map, e3, m3]
    refine callC_sem rfl ?_
    have hL := sort_lokS (P := Try.prog) (f := 58) (enters_of Try.func58 (by kernel_rfl) rfl) sortC 106954848 3 (rawF x) (by omega) (by omega)
    refine lentS_mk 106954848 3 hL ?_ ?_ ?_ ?_ (by omega) ?_
    · simp -implicitDefEqProofs (disch := omega) only [go_sem, ↓reduceIte, Nat.reduceEqDiff, Nat.reduceMul, Nat.reduceAdd, Nat.reduceDiv, Nat.reduceBEq, Nat.reduceLeDiff, Int.reduceToNat, Int.reduceNe, Int.reduceEq, Int.reduceLT, Int.reduceLE, Int.reduceBEq, Int.reduceBNe, ne_eq, not_true_eq_false, not_false_eq_true, decide_true, decide_false, List.length_map, e3, m3]
    · simp -implicitDefEqProofs (disch := omega) only [go_sem, ↓reduceIte, Nat.reduceEqDiff, Nat.reduceMul, Nat.reduceAdd, Nat.reduceDiv, Nat.reduceBEq, Nat.reduceLeDiff, Int.reduceToNat, Int.reduceNe, Int.reduceEq, Int.reduceLT, Int.reduceLE, Int.reduceBEq, Int.reduceBNe, ne_eq, not_true_eq_false, not_false_eq_true, decide_true, decide_false, List.length_map, e3, m3]
    · simp -implicitDefEqProofs (disch := omega) only [go_sem, ↓reduceIte, Nat.reduceEqDiff, Nat.reduceMul, Nat.reduceAdd, Nat.reduceDiv, Nat.reduceBEq, Nat.reduceLeDiff, Int.reduceToNat, Int.reduceNe, Int.reduceEq, Int.reduceLT, Int.reduceLE, Int.reduceBEq, Int.reduceBNe, ne_eq, not_true_eq_false, not_false_eq_true, decide_true, decide_false, List.length_map, e3, m3]
    · simp -implicitDefEqProofs (disch := omega) only [go_sem, ↓reduceIte, Nat.reduceEqDiff, Nat.reduceMul, Nat.reduceAdd, Nat.reduceDiv, Nat.reduceBEq, Nat.reduceLeDiff, Int.reduceToNat, Int.reduceNe, Int.reduceEq, Int.reduceLT, Int.reduceLE, Int.reduceBEq, Int.reduceBNe, ne_eq, not_true_eq_false, not_false_eq_true, decide_true, decide_false, List.length_map, e3, m3]
    have hsl := sortM_length (rawF x)
    simp -implicitDefEqProofs (disch := omega) only [go_sem, ↓reduceIte, Nat.reduceEqDiff, Nat.reduceMul, Nat.reduceAdd, Nat.reduceDiv, Nat.reduceBEq, Nat.reduceLeDiff, Int.reduceToNat, Int.reduceNe, Int.reduceEq, Int.reduceLT, Int.reduceLE, Int.reduceBEq, Int.reduceBNe, ne_eq, not_true_eq_false, not_false_eq_true, decide_true, decide_false, List.length_map, e3, m3]
    refine callC_sem rfl ?_
    have hle := Lib.compact_length_le (sortM (rawF x))
    have hL := comp_lokY (P := Try.prog) (f := 59) (enters_of Try.func59 (by kernel_rfl) rfl) compC 106954848 3 (sortM (rawF x)) (by omega) (by omega) hle
    refine lentY_mk 106954848 hL ?_ ?_ ?_ hle (by simp; omega) ?_
    · simp -implicitDefEqProofs (disch := omega) only [go_sem, ↓reduceIte, Nat.reduceEqDiff, Nat.reduceMul, Nat.reduceAdd, Nat.reduceDiv, Nat.reduceBEq, Nat.reduceLeDiff, Int.reduceToNat, Int.reduceNe, Int.reduceEq, Int.reduceLT, Int.reduceLE, Int.reduceBEq, Int.reduceBNe, ne_eq, not_true_eq_false, not_false_eq_true, decide_true, decide_false, List.length_map, e3, m3]
    · simp -implicitDefEqProofs (disch := omega) only [go_sem, ↓reduceIte, Nat.reduceEqDiff, Nat.reduceMul, Nat.reduceAdd, Nat.reduceDiv, Nat.reduceBEq, Nat.reduceLeDiff, Int.reduceToNat, Int.reduceNe, Int.reduceEq, Int.reduceLT, Int.reduceLE, Int.reduceBEq, Int.reduceBNe, ne_eq, not_true_eq_false, not_false_eq_true, decide_true, decide_false, List.length_map, e3, m3, hsl]
    · simp -implicitDefEqProofs (disch := omega) only [go_sem, ↓reduceIte, Nat.reduceEqDiff, Nat.reduceMul, Nat.reduceAdd, Nat.reduceDiv, Nat.reduceBEq, Nat.reduceLeDiff, Int.reduceToNat, Int.reduceNe, Int.reduceEq, Int.reduceLT, Int.reduceLE, Int.reduceBEq, Int.reduceBNe, ne_eq, not_true_eq_false, not_false_eq_true, decide_true, decide_false, List.length_map, e3, m3]
    rw [List.take_left' rfl]
    simp -implicitDefEqProofs (disch := omega) only [go_sem, ↓reduceIte, Nat.reduceEqDiff, Nat.reduceMul, Nat.reduceAdd, Nat.reduceDiv, Nat.reduceBEq, Nat.reduceLeDiff, Int.reduceToNat, Int.reduceNe, Int.reduceEq, Int.reduceLT, Int.reduceLE, Int.reduceBEq, Int.reduceBNe, ne_eq, not_true_eq_false, not_false_eq_true, decide_true, decide_false, List.length_map, e3, m3, Try.results50]
    rfl
end Go.Proofs.Ytcllccpeechdhaa
set_option maxRecDepth 100000
namespace Go.Proofs.Ytcllccpeechdhaa
open Go.Vai Go Go.Proofs
theorem nan_ev (x : Int) : Ev Try.prog 66 [I x] (B false) := by
  refine ev_of Try.func66 rfl (by kernel_rfl) mo (Nat.le_of_ble_eq_true rfl) ?_
  simp -implicitDefEqProofs (disch := omega) only [go_sem, ↓reduceIte, Nat.reduceEqDiff, Nat.reduceMul, Nat.reduceAdd, Nat.reduceDiv, Nat.reduceBEq, Nat.reduceLeDiff, Int.reduceToNat, Int.reduceNe, Int.reduceEq, Int.reduceLT, Int.reduceLE, Int.reduceBEq, Int.reduceBNe, ne_eq, not_true_eq_false, not_false_eq_true, decide_true, decide_false, List.length_map, Try.ntmps66, Try.results66]
  simp
theorem nans_ev (x : Int) : Ev Try.prog 61 [I x] (B false) := by
  refine ev_of Try.func61 rfl (by kernel_rfl) mo (Nat.le_of_ble_eq_true rfl) ?_
  simp -implicitDefEqProofs (disch := omega) only [go_sem, ↓reduceIte, Nat.reduceEqDiff, Nat.reduceMul, Nat.reduceAdd, Nat.reduceDiv, Nat.reduceBEq, Nat.reduceLeDiff, Int.reduceToNat, Int.reduceNe, Int.reduceEq, Int.reduceLT, Int.reduceLE, Int.reduceBEq, Int.reduceBNe, ne_eq, not_true_eq_false, not_false_eq_true, decide_true, decide_false, List.length_map, Try.ntmps61, Try.results61]
  simp
theorem less_ev (x y : Int) : Ev Try.prog 60 [I x, I y] (B (decide (x < y))) := by
  refine ev_of Try.func60 rfl (by kernel_rfl) mo (Nat.le_of_ble_eq_true rfl) ?_
  simp -implicitDefEqProofs (disch := omega) only [go_sem, ↓reduceIte, Nat.reduceEqDiff, Nat.reduceMul, Nat.reduceAdd, Nat.reduceDiv, Nat.reduceBEq, Nat.reduceLeDiff, Int.reduceToNat, Int.reduceNe, Int.reduceEq, Int.reduceLT, Int.reduceLE, Int.reduceBEq, Int.reduceBNe, ne_eq, not_true_eq_false, not_false_eq_true, decide_true, decide_false, List.length_map, Try.ntmps60]
  refine callC_at (nan_ev x) ?_
  simp -implicitDefEqProofs (disch := omega) only [go_sem, ↓reduceIte, Nat.reduceEqDiff, Nat.reduceMul, Nat.reduceAdd, Nat.reduceDiv, Nat.reduceBEq, Nat.reduceLeDiff, Int.reduceToNat, Int.reduceNe, Int.reduceEq, Int.reduceLT, Int.reduceLE, Int.reduceBEq, Int.reduceBNe, ne_eq, not_true_eq_false, not_false_eq_true, decide_true, decide_false, List.length_map, Try.results60]
theorem half_eq (i j : Nat) (h : i + j ≤ 100000) : IntKind.i64.wrap ((IntKind.u64.wrap ((i : Int) + (j : Int))).fdiv (2 ^ min 1 64)) = (((i + j) / 2 : Nat) : Int) := by
  have h1 : IntKind.u64.wrap ((i : Int) + (j : Int)) = (i : Int) + (j : Int) := by
    unfold IntKind.wrap
    simp only [IntKind.bits, IntKind.signed]
    first | omega | (simp; omega)
  rw [h1, wrap64_of]
  · rw [show (2 : Int) ^ min 1 64 = 2 from rfl, Int.fdiv_eq_ediv_of_nonneg _ (by omega)]; omega
  · rw [show (2 : Int) ^ min 1 64 = 2 from rfl, Int.fdiv_eq_ediv_of_nonneg _ (by omega)]; omega
theorem bsearch_ev (l : List Int) (v : Int) (hp : l.Pairwise (· ≤ ·)) (hl : l.length ≤ 40000) : Ev Try.prog 52 [SL l, I v] (.tup [I (loF l v : Nat), B (decide (loF l v < l.length ∧ gd l (loF l v) = v))]) := by
  have hle := loF_le l v
  refine ev_of Try.func52 rfl (by kernel_rfl) mo (Nat.le_of_ble_eq_true rfl) ?_
  simp -implicitDefEqProofs (disch := omega) only [go_sem, ↓reduceIte, Nat.reduceEqDiff, Nat.reduceMul, Nat.reduceAdd, Nat.reduceDiv, Nat.reduceBEq, Nat.reduceLeDiff, Int.reduceToNat, Int.reduceNe, Int.reduceEq, Int.reduceLT, Int.reduceLE, Int.reduceBEq, Int.reduceBNe, ne_eq, not_true_eq_false, not_false_eq_true, decide_true, decide_false, List.length_map, Try.ntmps52]
  refine loopC_mk (fun n E σ => ∃ (i j : Nat), i + n = j ∧ i ≤ loF l v ∧ loF l v ≤ j ∧ j ≤ l.length ∧ E 0 = SL l ∧ E 1 = I v ∧ E 6 = I l.length ∧ E 7 = I i ∧ E 8 = I j) l.length ⟨0, l.length, by omega, by omega, hle, by omega, ?_⟩ ?_
  · simp -implicitDefEqProofs (disch := omega) only [go_sem, ↓reduceIte, Nat.reduceEqDiff, Nat.reduceMul, Nat.reduceAdd, Nat.reduceDiv, Nat.reduceBEq, Nat.reduceLeDiff, Int.reduceToNat, Int.reduceNe, Int.reduceEq, Int.reduceLT, Int.reduceLE, Int.reduceBEq, Int.reduceBNe, ne_eq, not_true_eq_false, not_false_eq_true, decide_true, decide_false, List.length_map]
    rfl
  rintro n E σ ⟨i, j, hn, h1, h2, h3, e0, e1, e6, e7, e8⟩
  simp -implicitDefEqProofs (disch := omega) only [go_sem, ↓reduceIte, Nat.reduceEqDiff, Nat.reduceMul, Nat.reduceAdd, Nat.reduceDiv, Nat.reduceBEq, Nat.reduceLeDiff, Int.reduceToNat, Int.reduceNe, Int.reduceEq, Int.reduceLT, Int.reduceLE, Int.reduceBEq, Int.reduceBNe, ne_eq, not_true_eq_false, not_false_eq_true, decide_true, decide_false, List.length_map, e0, e1, e6, e7, e8]
  refine branch_mk (fun hc => ?_) (fun hc => ?_)
  · have hh := half_eq i j (by omega)
    obtain ⟨h, hq⟩ : ∃ h, (i + j) / 2 = h := ⟨_, rfl⟩
    rw [hq] at hh
    simp -implicitDefEqProofs (disch := omega) only [go_sem, ↓reduceIte, Nat.reduceEqDiff, Nat.reduceMul, Nat.reduceAdd, Nat.reduceDiv, Nat.reduceBEq, Nat.reduceLeDiff, Int.reduceToNat, Int.reduceNe, Int.reduceEq, Int.reduceLT, Int.reduceLE, Int.reduceBEq, Int.reduceBNe, ne_eq, not_true_eq_false, not_false_eq_true, decide_true, decide_false, List.length_map, e0, e1, e6, e7, e8, hh]
    refine callC_at (less_ev (gd l h) v) ?_
    simp -implicitDefEqProofs (disch := omega) only [go_sem, ↓reduceIte, Nat.reduceEqDiff, Nat.reduceMul, Nat.reduceAdd, Nat.reduceDiv, Nat.reduceBEq, Nat.reduceLeDiff, Int.reduceToNat, Int.reduceNe, Int.reduceEq, Int.reduceLT, Int.reduceLE, Int.reduceBEq, Int.reduceBNe, ne_eq, not_true_eq_false, not_false_eq_true, decide_true, decide_false, List.length_map, e0, e1, e6, e7, e8, hh]
    refine branch_mk (fun hb => ?_) (fun hb => ?_)
    · have hb : gd l h < v := by simpa using hb
      have : h < loF l v := by
        refine Decidable.byContradiction fun hc => ?_
        have := loF_ge l v h hp (by omega) (by omega)
        omega
      simp -implicitDefEqProofs (disch := omega) only [go_sem, ↓reduceIte, Nat.reduceEqDiff, Nat.reduceMul, Nat.reduceAdd, Nat.reduceDiv, Nat.reduceBEq, Nat.reduceLeDiff, Int.reduceToNat, Int.reduceNe, Int.reduceEq, Int.reduceLT, Int.reduceLE, Int.reduceBEq, Int.reduceBNe, ne_eq, not_true_eq_false, not_false_eq_true, decide_true, decide_false, List.length_map, e0, e1, e6, e7, e8, hh]
      refine againQ_mk (j - (h + 1)) (by omega) ⟨h + 1, j, by omega, by omega, by omega, by omega, ?_⟩
      simp -implicitDefEqProofs (disch := omega) only [go_sem, ↓reduceIte, Nat.reduceEqDiff, Nat.reduceMul, Nat.reduceAdd, Nat.reduceDiv, Nat.reduceBEq, Nat.reduceLeDiff, Int.reduceToNat, Int.reduceNe, Int.reduceEq, Int.reduceLT, Int.reduceLE, Int.reduceBEq, Int.reduceBNe, ne_eq, not_true_eq_false, not_false_eq_true, decide_true, decide_false, List.length_map, e0, e1, e6, e7, e8, hh]
      rfl
    · have hb : ¬ gd l h < v := by simpa using hb
      have : loF l v ≤ h := by
        refine Decidable.byContradiction fun hc => ?_
        have := loF_lt l v h (by omega)
        omega
      simp -implicitDefEqProofs (disch := omega) only [go_sem, ↓reduceIte, Nat.reduceEqDiff, Nat.reduceMul, Nat.reduceAdd, Nat.reduceDiv, Nat.reduceBEq, Nat.reduceLeDiff, Int.reduceToNat, Int.reduceNe, Int.reduceEq, Int.reduceLT, Int.reduceLE, Int.reduceBEq, Int.reduceBNe, ne_eq, not_true_eq_false, not_false_eq_true, decide_true, decide_false, List.length_map, e0, e1, e6, e7, e8, hh]
      refine againQ_mk (h - i) (by omega) ⟨i, h, by omega, by omega, by omega, by omega, ?_⟩
      simp -implicitDefEqProofs (disch := omega) only [go_sem, ↓reduceIte, Nat.reduceEqDiff, Nat.reduceMul, Nat.reduceAdd, Nat.reduceDiv, Nat.reduceBEq, Nat.reduceLeDiff, Int.reduceToNat, Int.reduceNe, Int.reduceEq, Int.reduceLT, Int.reduceLE, Int.reduceBEq, Int.reduceBNe, ne_eq, not_true_eq_false, not_false_eq_true, decide_true, decide_false, List.length_map, e0, e1, e6, e7, e8, hh]
  · have hi : i = loF l v := by omega
    rw [← hi]
    simp -implicitDefEqProofs (disch := omega) only [go_sem, ↓reduceIte, Nat.reduceEqDiff, Nat.reduceMul, Nat.reduceAdd, Nat.reduceDiv, Nat.reduceBEq, Nat.reduceLeDiff, Int.reduceToNat, Int.reduceNe, Int.reduceEq, Int.reduceLT, Int.reduceLE, Int.reduceBEq, Int.reduceBNe, ne_eq, not_true_eq_false, not_false_eq_true, decide_true, decide_false, List.length_map, e0, e1, e6, e7, e8]
    refine branch_mk (fun hb => ?_) (fun hb => ?_)
    · have hil : i < l.length := by omega
      simp -implicitDefEqProofs (disch := omega) only [go_sem, ↓reduceIte, Nat.reduceEqDiff, Nat.reduceMul, Nat.reduceAdd, Nat.reduceDiv, Nat.reduceBEq, Nat.reduceLeDiff, Int.reduceToNat, Int.reduceNe, Int.reduceEq, Int.reduceLT, Int.reduceLE, Int.reduceBEq, Int.reduceBNe, ne_eq, not_true_eq_false, not_false_eq_true, decide_true, decide_false, List.length_map, e0, e1, e6, e7, e8]
      refine branch_mk (fun hg => ?_) (fun hg => ?_)
      · simp -implicitDefEqProofs (disch := omega) only [go_sem, ↓reduceIte, Nat.reduceEqDiff, Nat.reduceMul, Nat.reduceAdd, Nat.reduceDiv, Nat.reduceBEq, Nat.reduceLeDiff, Int.reduceToNat, Int.reduceNe, Int.reduceEq, Int.reduceLT, Int.reduceLE, Int.reduceBEq, Int.reduceBNe, ne_eq, not_true_eq_false, not_false_eq_true, decide_true, decide_false, List.length_map, e0, e1, e6, e7, e8, hg, Try.results52]
        rw [decide_eq_true hil]
      · simp -implicitDefEqProofs (disch := omega) only [go_sem, ↓reduceIte, Nat.reduceEqDiff, Nat.reduceMul, Nat.reduceAdd, Nat.reduceDiv, Nat.reduceBEq, Nat.reduceLeDiff, Int.reduceToNat, Int.reduceNe, Int.reduceEq, Int.reduceLT, Int.reduceLE, Int.reduceBEq, Int.reduceBNe, ne_eq, not_true_eq_false, not_false_eq_true, decide_true, decide_false, List.length_map, e0, e1, e6, e7, e8]
        refine callC_at (nans_ev (gd l i)) ?_
        simp -implicitDefEqProofs (disch := omega) only [go_sem, ↓reduceIte, Nat.reduceEqDiff, Nat.reduceMul, Nat.reduceAdd, Nat.reduceDiv, Nat.reduceBEq, Nat.reduceLeDiff, Int.reduceToNat, Int.reduceNe, Int.reduceEq, Int.reduceLT, Int.reduceLE, Int.reduceBEq, Int.reduceBNe, ne_eq, not_true_eq_false, not_false_eq_true, decide_true, decide_false, List.length_map, e0, e1, e6, e7, e8, hg, hil, Try.results52]
    · have hil : ¬ i < l.length := by omega
      simp -implicitDefEqProofs (disch := omega) only [go_sem, ↓reduceIte, Nat.reduceEqDiff, Nat.reduceMul, Nat.reduceAdd, Nat.reduceDiv, Nat.reduceBEq, Nat.reduceLeDiff, Int.reduceToNat, Int.reduceNe, Int.reduceEq, Int.reduceLT, Int.reduceLE, Int.reduceBEq, Int.reduceBNe, ne_eq, not_true_eq_false, not_false_eq_true, decide_true, decide_false, List.length_map, e0, e1, e6, e7, e8, hb, hil, Try.results52]
      rw [decide_eq_false (fun h => h.1)]
end Go.Proofs.Ytcllccpeechdhaa
set_option maxRecDepth 100000
namespace Go.Proofs.Ytcllccpeechdhaa
open Go.Vai Go Go.Proofs
abbrev SP2 (a b : Int) : AV := .agg [I a, I b]
abbrev PW (q : Int × Int × Int) : List AV := [.agg [I q.1, I q.2.1, I q.2.2]]
abbrev PX (l : List (Int × Int × Int)) : List (List AV) := l.map PW
theorem namesL_PX (p : Nat → Bool) (l : List (Int × Int × Int)) : AV.namesL p ((PX l).map .tup) = false := by
  induction l with
  | nil => rfl
  | cons q l ih =>
    show AV.namesL p (.tup (PW q) :: (PX l).map .tup) = false
    simp only [go_sem, ih]
    first | done | simp
attribute [go_sem] namesL_PX
theorem spells_ev (x : Tf) (z a b : Int) : Ev Try.prog 39 [TF x, I z, SP2 a b] (.clo 49 [.pt (TF x) 0, .pt (SP2 a b) 0, .pt (I z) 0]) := by
  refine ev_sl (r := .clo 49 [.nptr 26 2 [TF x], .nptr 33 2 [SP2 a b], .nptr 3 1 [I z]]) ?_ _
  refine ev_of Try.func39 rfl (by kernel_rfl) mo (Nat.le_of_ble_eq_true rfl) ?_
  simp -implicitDefEqProofs (disch := omega) only [go_sem, ↓reduceIte, Nat.reduceEqDiff, Nat.reduceMul, Nat.reduceAdd, Nat.reduceDiv, Nat.reduceBEq, Nat.reduceLeDiff, Int.reduceToNat, Int.reduceNe, Int.reduceEq, Int.reduceLT, Int.reduceLE, Int.reduceBEq, Int.reduceBNe, ne_eq, not_true_eq_false, not_false_eq_true, decide_true, decide_false, List.length_map, Try.ntmps39, Try.results39]
theorem chgF_len (x : Tf) (h : goodT x = true) : (chgF x).length ≤ 21 := by
  have h1 := Lib.compact_length_le (sortM (rawF x))
  rw [sortM_length] at h1
  unfold chgF rawF at *
  rw [List.length_cons, raw_len] at h1
  have := (goodT_iff.1 h).1.2.2
  omega
theorem spells_sok (x : Tf) (z a b : Int) (h : goodT x = true) (hz : zoneF z = true) (ha : 0 ≤ a) (hb : b ≤ 20000000) : SOK Try.prog 49 [.pt (TF x) 0, .pt (SP2 a b) 0, .pt (I z) 0] (stO []) (PX (pcsF x z b (b - a).toNat a)) := by
  have hlen := chgF_len x h
  have hz' := zoneF_iff.1 hz
  refine sok_of Try.func49 rfl (by kernel_rfl) mo (Nat.le_of_ble_eq_true rfl) ?_ rfl fun l => ?_
  · exact namesL_PX allB _
  simp -implicitDefEqProofs (disch := omega) only [go_sem, ↓reduceIte, Nat.reduceEqDiff, Nat.reduceMul, Nat.reduceAdd, Nat.reduceDiv, Nat.reduceBEq, Nat.reduceLeDiff, Int.reduceToNat, Int.reduceNe, Int.reduceEq, Int.reduceLT, Int.reduceLE, Int.reduceBEq, Int.reduceBNe, ne_eq, not_true_eq_false, not_false_eq_true, decide_true, decide_false, List.length_map, Try.ntmps49]
  refine callC_at (changes_ev x h) ?_
  simp -implicitDefEqProofs (disch := omega) only [go_sem, ↓reduceIte, Nat.reduceEqDiff, Nat.reduceMul, Nat.reduceAdd, Nat.reduceDiv, Nat.reduceBEq, Nat.reduceLeDiff, Int.reduceToNat, Int.reduceNe, Int.reduceEq, Int.reduceLT, Int.reduceLE, Int.reduceBEq, Int.reduceBNe, ne_eq, not_true_eq_false, not_false_eq_true, decide_true, decide_false, List.length_map]
  refine loopC_mk (fun n E σ => ∃ (t : Int), (b - t).toNat ≤ n ∧ 0 ≤ t ∧ E 0 = .yld l ∧ E 1 = .pt (TF x) 0 ∧ E 2 = .pt (SP2 a b) 0 ∧ E 3 = .pt (I z) 0 ∧ E 5 = SL (chgF x) ∧ E 6 = I t ∧ E 59 = .tup ((PX (pcsF x z b n t)).map .tup)) (b - a).toNat ⟨a, Nat.le_refl _, ha, ?_⟩ ?_
  · simp -implicitDefEqProofs (disch := omega) only [go_sem, ↓reduceIte, Nat.reduceEqDiff, Nat.reduceMul, Nat.reduceAdd, Nat.reduceDiv, Nat.reduceBEq, Nat.reduceLeDiff, Int.reduceToNat, Int.reduceNe, Int.reduceEq, Int.reduceLT, Int.reduceLE, Int.reduceBEq, Int.reduceBNe, ne_eq, not_true_eq_false, not_false_eq_true, decide_true, decide_false, List.length_map]
  rintro n E σ ⟨t, hn, ht, e0, e1, e2, e3, e5, e6, e59⟩
  simp -implicitDefEqProofs (disch := omega) only [go_sem, ↓reduceIte, Nat.reduceEqDiff, Nat.reduceMul, Nat.reduceAdd, Nat.reduceDiv, Nat.reduceBEq, Nat.reduceLeDiff, Int.reduceToNat, Int.reduceNe, Int.reduceEq, Int.reduceLT, Int.reduceLE, Int.reduceBEq, Int.reduceBNe, ne_eq, not_true_eq_false, not_false_eq_true, decide_true, decide_false, List.length_map, e0, e1, e2, e3, e5, e6, e59]
  refine branch_mk (fun hc => ?_) (fun hc => ?_)
  · obtain ⟨m, rfl⟩ : ∃ m, n = m + 1 := ⟨n - 1, by omega⟩
    rw [pcsF, if_pos hc] at e59
    simp -implicitDefEqProofs (disch := omega) only [go_sem, ↓reduceIte, Nat.reduceEqDiff, Nat.reduceMul, Nat.reduceAdd, Nat.reduceDiv, Nat.reduceBEq, Nat.reduceLeDiff, Int.reduceToNat, Int.reduceNe, Int.reduceEq, Int.reduceLT, Int.reduceLE, Int.reduceBEq, Int.reduceBNe, ne_eq, not_true_eq_false, not_false_eq_true, decide_true, decide_false, List.length_map, e0, e1, e2, e3, e5, e6, e59]
    refine callC_at (local_ev z t hz (by omega)) ?_
    have hl0 : 0 ≤ locF z t := by unfold locF; omega
    have hl1 : locF z t < 604800 := by unfold locF; omega
    have hm : (locF z t).tmod 86400 = locF z t % 86400 := Int.tmod_eq_emod_of_nonneg hl0
    have hed : endF x (locF z t % 86400) = nextF (chgF x) (locF z t % 86400 + 1) := rfl
    have hei := endF_in h (u := locF z t % 86400) (by omega) (by omega)
    have hra := rated_ev x (locF z t) h hl0 hl1
    obtain ⟨u, hu⟩ : ∃ u, locF z t = u := ⟨_, rfl⟩
    rw [hu] at hl0 hl1 hm hed hei hra e59
    simp -implicitDefEqProofs (disch := omega) only [go_sem, ↓reduceIte, Nat.reduceEqDiff, Nat.reduceMul, Nat.reduceAdd, Nat.reduceDiv, Nat.reduceBEq, Nat.reduceLeDiff, Int.reduceToNat, Int.reduceNe, Int.reduceEq, Int.reduceLT, Int.reduceLE, Int.reduceBEq, Int.reduceBNe, ne_eq, not_true_eq_false, not_false_eq_true, decide_true, decide_false, List.length_map, e0, e1, e2, e3, e5, e6, e59, hu, hm]
    refine callC_at (bsearch_ev (chgF x) (u % 86400 + 1) (chgF_pw x) (by omega)) ?_
    simp -implicitDefEqProofs (disch := omega) only [go_sem, ↓reduceIte, Nat.reduceEqDiff, Nat.reduceMul, Nat.reduceAdd, Nat.reduceDiv, Nat.reduceBEq, Nat.reduceLeDiff, Int.reduceToNat, Int.reduceNe, Int.reduceEq, Int.reduceLT, Int.reduceLE, Int.reduceBEq, Int.reduceBNe, ne_eq, not_true_eq_false, not_false_eq_true, decide_true, decide_false, List.length_map, e0, e1, e2, e3, e5, e6, e59, hu, hm]
    refine branch_mk (fun hi => ?_) (fun hi => ?_)
    · have hg : gd (chgF x) (loF (chgF x) (u % 86400 + 1)) = endF x (u % 86400) := by
        rw [hed]; unfold nextF; rw [if_pos (by omega)]
      simp -implicitDefEqProofs (disch := omega) only [go_sem, ↓reduceIte, Nat.reduceEqDiff, Nat.reduceMul, Nat.reduceAdd, Nat.reduceDiv, Nat.reduceBEq, Nat.reduceLeDiff, Int.reduceToNat, Int.reduceNe, Int.reduceEq, Int.reduceLT, Int.reduceLE, Int.reduceBEq, Int.reduceBNe, ne_eq, not_true_eq_false, not_false_eq_true, decide_true, decide_false, List.length_map, e0, e1, e2, e3, e5, e6, e59, hu, hm, hg]
      refine callC_at hra ?_
      simp -implicitDefEqProofs (disch := omega) only [go_sem, ↓reduceIte, Nat.reduceEqDiff, Nat.reduceMul, Nat.reduceAdd, Nat.reduceDiv, Nat.reduceBEq, Nat.reduceLeDiff, Int.reduceToNat, Int.reduceNe, Int.reduceEq, Int.reduceLT, Int.reduceLE, Int.reduceBEq, Int.reduceBNe, ne_eq, not_true_eq_false, not_false_eq_true, decide_true, decide_false, List.length_map, e0, e1, e2, e3, e5, e6, e59, hu, hm, hg]
      refine ⟨?_, .inr trivial⟩
      refine againQ_mk m (by omega) ⟨min (t + endF x (u % 86400) - u % 86400) b, by omega, by omega, ?_⟩
      simp -implicitDefEqProofs (disch := omega) only [go_sem, ↓reduceIte, Nat.reduceEqDiff, Nat.reduceMul, Nat.reduceAdd, Nat.reduceDiv, Nat.reduceBEq, Nat.reduceLeDiff, Int.reduceToNat, Int.reduceNe, Int.reduceEq, Int.reduceLT, Int.reduceLE, Int.reduceBEq, Int.reduceBNe, ne_eq, not_true_eq_false, not_false_eq_true, decide_true, decide_false, List.length_map, e0, e1, e2, e3, e5, e6, e59, hu, hm]
      try rfl
    · have hg : endF x (u % 86400) = 86400 := by
        rw [hed]; unfold nextF; rw [if_neg (by omega)]
      rw [hg] at e59
      simp -implicitDefEqProofs (disch := omega) only [go_sem, ↓reduceIte, Nat.reduceEqDiff, Nat.reduceMul, Nat.reduceAdd, Nat.reduceDiv, Nat.reduceBEq, Nat.reduceLeDiff, Int.reduceToNat, Int.reduceNe, Int.reduceEq, Int.reduceLT, Int.reduceLE, Int.reduceBEq, Int.reduceBNe, ne_eq, not_true_eq_false, not_false_eq_true, decide_true, decide_false, List.length_map, e0, e1, e2, e3, e5, e6, e59, hu, hm, hg]
      refine callC_at hra ?_
      simp -implicitDefEqProofs (disch := omega) only [go_sem, ↓reduceIte, Nat.reduceEqDiff, Nat.reduceMul, Nat.reduceAdd, Nat.reduceDiv, Nat.reduceBEq, Nat.reduceLeDiff, Int.reduceToNat, Int.reduceNe, Int.reduceEq, Int.reduceLT, Int.reduceLE, Int.reduceBEq, Int.reduceBNe, ne_eq, not_true_eq_false, not_false_eq_true, decide_true, decide_false, List.length_map, e0, e1, e2, e3, e5, e6, e59, hu, hm, hg]
      refine ⟨?_, .inr trivial⟩
      refine againQ_mk m (by omega) ⟨min (t + 86400 - u % 86400) b, by omega, by omega, ?_⟩
      simp -implicitDefEqProofs (disch := omega) only [go_sem, ↓reduceIte, Nat.reduceEqDiff, Nat.reduceMul, Nat.reduceAdd, Nat.reduceDiv, Nat.reduceBEq, Nat.reduceLeDiff, Int.reduceToNat, Int.reduceNe, Int.reduceEq, Int.reduceLT, Int.reduceLE, Int.reduceBEq, Int.reduceBNe, ne_eq, not_true_eq_false, not_false_eq_true, decide_true, decide_false, List.length_map, e0, e1, e2, e3, e5, e6, e59, hu, hm]
      try rfl
  · cases n with
    | zero =>
      have e59 : E 59 = .tup [] := e59
      simp -implicitDefEqProofs (disch := omega) only [go_sem, ↓reduceIte, Nat.reduceEqDiff, Nat.reduceMul, Nat.reduceAdd, Nat.reduceDiv, Nat.reduceBEq, Nat.reduceLeDiff, Int.reduceToNat, Int.reduceNe, Int.reduceEq, Int.reduceLT, Int.reduceLE, Int.reduceBEq, Int.reduceBNe, ne_eq, not_true_eq_false, not_false_eq_true, decide_true, decide_false, List.length_map, e59]
      exact .inl trivial
    | succ n =>
      rw [pcsF, if_neg hc] at e59
      have e59 : E 59 = .tup [] := e59
      simp -implicitDefEqProofs (disch := omega) only [go_sem, ↓reduceIte, Nat.reduceEqDiff, Nat.reduceMul, Nat.reduceAdd, Nat.reduceDiv, Nat.reduceBEq, Nat.reduceLeDiff, Int.reduceToNat, Int.reduceNe, Int.reduceEq, Int.reduceLT, Int.reduceLE, Int.reduceBEq, Int.reduceBNe, ne_eq, not_true_eq_false, not_false_eq_true, decide_true, decide_false, List.length_map, e59]
      exact .inl trivial
end Go.Proofs.Ytcllccpeechdhaa
set_option maxRecDepth 100000
namespace Go.Proofs.Ytcllccpeechdhaa
open Go.Vai Go Go.Proofs
theorem only_none (σ : Store) : only (inI []) σ = stO [] := by
  funext id
  simp [only, inI, stO]
theorem PX_len (l : List (Int × Int × Int)) : ∀ y ∈ PX l, y.length = 1 := fun y hy => by
  obtain ⟨q, _, rfl⟩ := List.mem_map.1 hy; rfl
theorem add_ev (x : Tf) (z a b : Int) (h : goodT x = true) (hz : zoneF z = true) (ha : 0 ≤ a) (hab : a ≤ b) (hb : b ≤ 20000000) : Ev Try.prog 38 [SP2 a b, .pt (TF x) 0, .pt (I z) 0] (I (sumF x z a b)) := by
  have hz' := zoneF_iff.1 hz
  have h0 : sumF x z a a = 0 := by unfold sumF; rw [Int.sub_self]; rfl
  refine ev_of Try.func38 rfl (by kernel_rfl) mo (Nat.le_of_ble_eq_true rfl) ?_
  simp -implicitDefEqProofs (disch := omega) only [go_sem, ↓reduceIte, Nat.reduceEqDiff, Nat.reduceMul, Nat.reduceAdd, Nat.reduceDiv, Nat.reduceBEq, Nat.reduceLeDiff, Int.reduceToNat, Int.reduceNe, Int.reduceEq, Int.reduceLT, Int.reduceLE, Int.reduceBEq, Int.reduceBNe, ne_eq, not_true_eq_false, not_false_eq_true, decide_true, decide_false, List.length_map, Try.ntmps38]
  refine callC_at (spells_ev x z a b) ?_
  simp -implicitDefEqProofs (disch := omega) only [go_sem, ↓reduceIte, Nat.reduceEqDiff, Nat.reduceMul, Nat.reduceAdd, Nat.reduceDiv, Nat.reduceBEq, Nat.reduceLeDiff, Int.reduceToNat, Int.reduceNe, Int.reduceEq, Int.reduceLT, Int.reduceLE, Int.reduceBEq, Int.reduceBNe, ne_eq, not_true_eq_false, not_false_eq_true, decide_true, decide_false, List.length_map]
  refine awpC_range ?_
  refine range_mk [] [81789008] 5111908 (PX (pcsF x z b (b - a).toNat a))
    (fun xs σ => ∃ (k : Nat) (t : Int), xs = PX (pcsF x z b k t) ∧ (b - t).toNat ≤ k ∧ a ≤ t ∧ t ≤ b ∧ σ 81789008 = some ⟨3, 1, [I (sumF x z a t)]⟩)
    (g := 49) (caps := [.pt (TF x) 0, .pt (SP2 a b) 0, .pt (I z) 0]) ?_ ?_ ?_ ?_ ?_ ?_ ?_ ?_
  · simp -implicitDefEqProofs (disch := omega) only [go_sem, ↓reduceIte, Nat.reduceEqDiff, Nat.reduceMul, Nat.reduceAdd, Nat.reduceDiv, Nat.reduceBEq, Nat.reduceLeDiff, Int.reduceToNat, Int.reduceNe, Int.reduceEq, Int.reduceLT, Int.reduceLE, Int.reduceBEq, Int.reduceBNe, ne_eq, not_true_eq_false, not_false_eq_true, decide_true, decide_false, List.length_map]
  · rw [only_none]; exact spells_sok x z a b h hz ha hb
  · exact PX_len _
  · simp -implicitDefEqProofs (disch := omega) only [go_sem, ↓reduceIte, Nat.reduceEqDiff, Nat.reduceMul, Nat.reduceAdd, Nat.reduceDiv, Nat.reduceBEq, Nat.reduceLeDiff, Int.reduceToNat, Int.reduceNe, Int.reduceEq, Int.reduceLT, Int.reduceLE, Int.reduceBEq, Int.reduceBNe, ne_eq, not_true_eq_false, not_false_eq_true, decide_true, decide_false, List.length_map]
  · simp -implicitDefEqProofs (disch := omega) only [go_sem, ↓reduceIte, Nat.reduceEqDiff, Nat.reduceMul, Nat.reduceAdd, Nat.reduceDiv, Nat.reduceBEq, Nat.reduceLeDiff, Int.reduceToNat, Int.reduceNe, Int.reduceEq, Int.reduceLT, Int.reduceLE, Int.reduceBEq, Int.reduceBNe, ne_eq, not_true_eq_false, not_false_eq_true, decide_true, decide_false, List.length_map]
  · refine ⟨_, a, rfl, Nat.le_refl _, Int.le_refl _, hab, ?_⟩
    simp -implicitDefEqProofs (disch := omega) only [go_sem, ↓reduceIte, Nat.reduceEqDiff, Nat.reduceMul, Nat.reduceAdd, Nat.reduceDiv, Nat.reduceBEq, Nat.reduceLeDiff, Int.reduceToNat, Int.reduceNe, Int.reduceEq, Int.reduceLT, Int.reduceLE, Int.reduceBEq, Int.reduceBNe, ne_eq, not_true_eq_false, not_false_eq_true, decide_true, decide_false, List.length_map, h0]
  · rintro E0 hE0 y rest σ' ⟨k, t, hx, hk, hat, htb, m5⟩
    have e5 : E0 5 = .ptr 81789008 1 0 0 := by rw [hE0]; simp -implicitDefEqProofs (disch := omega) only [go_sem, ↓reduceIte, Nat.reduceEqDiff, Nat.reduceMul, Nat.reduceAdd, Nat.reduceDiv, Nat.reduceBEq, Nat.reduceLeDiff, Int.reduceToNat, Int.reduceNe, Int.reduceEq, Int.reduceLT, Int.reduceLE, Int.reduceBEq, Int.reduceBNe, ne_eq, not_true_eq_false, not_false_eq_true, decide_true, decide_false, List.length_map]
    clear hE0
    cases k with
    | zero => cases hx
    | succ k =>
      rw [pcsF] at hx
      split at hx
      · rename_i hc
        rw [PX, List.map_cons, List.cons.injEq] at hx
        obtain ⟨rfl, rfl⟩ := hx
        have hl0 : 0 ≤ locF z t := by unfold locF; omega
        have hei := endF_in h (u := locF z t % 86400) (by omega) (by omega)
        obtain ⟨q, hq⟩ : ∃ q, min (t + endF x (locF z t % 86400) - locF z t % 86400) b = q := ⟨_, rfl⟩
        have hpq := piece_sum h hz (a := t) (b := q) (by omega) (by omega) (by omega)
        have hin := sumF_in h z t q (by omega)
        have hin2 := sumF_in h z a t hat
        have hadd := sumF_add x z (a := a) (b := t) (c := q) hat (by omega)
        have hri := rateF_in h (locF z t)
        rw [hq]
        have hd : 0 ≤ q - t ∧ q - t ≤ 86400 := by omega
        simp -implicitDefEqProofs (disch := omega) only [go_sem, ↓reduceIte, Nat.reduceEqDiff, Nat.reduceMul, Nat.reduceAdd, Nat.reduceDiv, Nat.reduceBEq, Nat.reduceLeDiff, Int.reduceToNat, Int.reduceNe, Int.reduceEq, Int.reduceLT, Int.reduceLE, Int.reduceBEq, Int.reduceBNe, ne_eq, not_true_eq_false, not_false_eq_true, decide_true, decide_false, List.length_map, e5, m5, ← hpq, ← hadd]
        refine ⟨inL [], fun _ _ => rfl, k, q, rfl, by omega, by omega, by omega, ?_⟩
        simp -implicitDefEqProofs (disch := omega) only [go_sem, ↓reduceIte, Nat.reduceEqDiff, Nat.reduceMul, Nat.reduceAdd, Nat.reduceDiv, Nat.reduceBEq, Nat.reduceLeDiff, Int.reduceToNat, Int.reduceNe, Int.reduceEq, Int.reduceLT, Int.reduceLE, Int.reduceBEq, Int.reduceBNe, ne_eq, not_true_eq_false, not_false_eq_true, decide_true, decide_false, List.length_map]
      · cases hx
  · rintro E0 hE0 σ' ⟨k, t, hx, hk, hat, htb, m5⟩
    have e5 : E0 5 = .ptr 81789008 1 0 0 := by rw [hE0]; simp -implicitDefEqProofs (disch := omega) only [go_sem, ↓reduceIte, Nat.reduceEqDiff, Nat.reduceMul, Nat.reduceAdd, Nat.reduceDiv, Nat.reduceBEq, Nat.reduceLeDiff, Int.reduceToNat, Int.reduceNe, Int.reduceEq, Int.reduceLT, Int.reduceLE, Int.reduceBEq, Int.reduceBNe, ne_eq, not_true_eq_false, not_false_eq_true, decide_true, decide_false, List.length_map]
    clear hE0
    have htb' : t = b := by
      cases k with
      | zero => omega
      | succ k =>
        rw [pcsF] at hx
        split at hx
        · cases hx
        · omega
    subst htb'
    simp -implicitDefEqProofs (disch := omega) only [go_sem, ↓reduceIte, Nat.reduceEqDiff, Nat.reduceMul, Nat.reduceAdd, Nat.reduceDiv, Nat.reduceBEq, Nat.reduceLeDiff, Int.reduceToNat, Int.reduceNe, Int.reduceEq, Int.reduceLT, Int.reduceLE, Int.reduceBEq, Int.reduceBNe, ne_eq, not_true_eq_false, not_false_eq_true, decide_true, decide_false, List.length_map, e5, m5, Try.results38]
theorem sum_ev (x : Tf) (z a b : Int) (h : goodT x = true) (hz : zoneF z = true) (ha : 0 ≤ a) (hab : a ≤ b) (hb : b ≤ 10000000) : Ev Try.prog 22 [TF x, I z, SP2 a b] (I (sumF x z a b)) := by
  have hw := sumF_weeks x z ha hab
  have hq : (b - a).tdiv 604800 = (b - a) / 604800 := Int.tdiv_eq_ediv_of_nonneg (by omega)
  have hi1 := sumF_in h z (a + (b - a) / 604800 * 604800) b (by omega)
  have hi2 := sumF_in h z a (a + 604800) (by omega)
  have hi3 := sumF_in h z a b hab
  have ev1 := add_ev x z (a + (b - a) / 604800 * 604800) b h hz (by omega) (by omega) (by omega)
  have ev2 := add_ev x z a (a + 604800) h hz ha (by omega) (by omega)
  have hw0 : 0 ≤ (b - a) / 604800 := by omega
  have hw1 : (b - a) / 604800 * 604800 ≤ b - a := by omega
  have hwp : (b - a) / 604800 = 0 ∨ 0 < (b - a) / 604800 := by omega
  generalize (b - a) / 604800 = w at *
  have hmp := Int.mul_nonneg hw0 hi2.1
  refine ev_of Try.func22 rfl (by kernel_rfl) mo (Nat.le_of_ble_eq_true rfl) ?_
  simp -implicitDefEqProofs (disch := omega) only [go_sem, ↓reduceIte, Nat.reduceEqDiff, Nat.reduceMul, Nat.reduceAdd, Nat.reduceDiv, Nat.reduceBEq, Nat.reduceLeDiff, Int.reduceToNat, Int.reduceNe, Int.reduceEq, Int.reduceLT, Int.reduceLE, Int.reduceBEq, Int.reduceBNe, ne_eq, not_true_eq_false, not_false_eq_true, decide_true, decide_false, List.length_map, Try.ntmps22, hq]
  refine callC_sem rfl ?_
  refine freeze_op [48234544, 48234560] ?_
  simp -implicitDefEqProofs (disch := omega) only [go_sem, ↓reduceIte, Nat.reduceEqDiff, Nat.reduceMul, Nat.reduceAdd, Nat.reduceDiv, Nat.reduceBEq, Nat.reduceLeDiff, Int.reduceToNat, Int.reduceNe, Int.reduceEq, Int.reduceLT, Int.reduceLE, Int.reduceBEq, Int.reduceBNe, ne_eq, not_true_eq_false, not_false_eq_true, decide_true, decide_false, List.length_map]
  refine callC_at ev1 ?_
  simp -implicitDefEqProofs (disch := omega) only [go_sem, ↓reduceIte, Nat.reduceEqDiff, Nat.reduceMul, Nat.reduceAdd, Nat.reduceDiv, Nat.reduceBEq, Nat.reduceLeDiff, Int.reduceToNat, Int.reduceNe, Int.reduceEq, Int.reduceLT, Int.reduceLE, Int.reduceBEq, Int.reduceBNe, ne_eq, not_true_eq_false, not_false_eq_true, decide_true, decide_false, List.length_map]
  rcases hwp with rfl | hwp
  · simp -implicitDefEqProofs (disch := omega) only [go_sem, ↓reduceIte, Nat.reduceEqDiff, Nat.reduceMul, Nat.reduceAdd, Nat.reduceDiv, Nat.reduceBEq, Nat.reduceLeDiff, Int.reduceToNat, Int.reduceNe, Int.reduceEq, Int.reduceLT, Int.reduceLE, Int.reduceBEq, Int.reduceBNe, ne_eq, not_true_eq_false, not_false_eq_true, decide_true, decide_false, List.length_map, Try.results22]
    rw [hw]
    simp
  · refine branch_l (by omega) ?_
    simp -implicitDefEqProofs (disch := omega) only [go_sem, ↓reduceIte, Nat.reduceEqDiff, Nat.reduceMul, Nat.reduceAdd, Nat.reduceDiv, Nat.reduceBEq, Nat.reduceLeDiff, Int.reduceToNat, Int.reduceNe, Int.reduceEq, Int.reduceLT, Int.reduceLE, Int.reduceBEq, Int.reduceBNe, ne_eq, not_true_eq_false, not_false_eq_true, decide_true, decide_false, List.length_map]
    refine callC_at ev2 ?_
    simp -implicitDefEqProofs (disch := omega) only [go_sem, ↓reduceIte, Nat.reduceEqDiff, Nat.reduceMul, Nat.reduceAdd, Nat.reduceDiv, Nat.reduceBEq, Nat.reduceLeDiff, Int.reduceToNat, Int.reduceNe, Int.reduceEq, Int.reduceLT, Int.reduceLE, Int.reduceBEq, Int.reduceBNe, ne_eq, not_true_eq_false, not_false_eq_true, decide_true, decide_false, List.length_map, ← hw, Try.results22]
theorem spellF_iff {f t : Int} : spellF f t = true ↔ 0 ≤ f ∧ f ≤ t ∧ t ≤ 10000000 := decide_eq_true_iff
def amtF (x : Tf) (z a b : Int) : Int := sumF x z 0 b / 60 - sumF x z 0 a / 60
theorem amount_ev (x : Tf) (z a b : Int) (h : goodT x = true) (hz : zoneF z = true) (hs : spellF a b = true) : Ev Try.prog 9 [TF x, I z, SP2 a b] (.tup [I (amtF x z a b), I 0]) := by
  obtain ⟨ha, hab, hb⟩ := spellF_iff.1 hs
  have hg := isGood_ev x z a b h
  rw [hz, hs] at hg
  have e1 := sum_ev x z 0 a h hz (by omega) ha (by omega)
  have e2 := sum_ev x z 0 b h hz (by omega) (by omega) (by omega)
  have i1 := sumF_in h z 0 a (by omega)
  have i2 := sumF_in h z 0 b (by omega)
  have q1 : (sumF x z 0 a).tdiv 60 = sumF x z 0 a / 60 := Int.tdiv_eq_ediv_of_nonneg i1.1
  have q2 : (sumF x z 0 b).tdiv 60 = sumF x z 0 b / 60 := Int.tdiv_eq_ediv_of_nonneg i2.1
  refine ev_of Try.func9 rfl (by kernel_rfl) mo (Nat.le_of_ble_eq_true rfl) ?_
  simp -implicitDefEqProofs (disch := omega) only [go_sem, ↓reduceIte, Nat.reduceEqDiff, Nat.reduceMul, Nat.reduceAdd, Nat.reduceDiv, Nat.reduceBEq, Nat.reduceLeDiff, Int.reduceToNat, Int.reduceNe, Int.reduceEq, Int.reduceLT, Int.reduceLE, Int.reduceBEq, Int.reduceBNe, ne_eq, not_true_eq_false, not_false_eq_true, decide_true, decide_false, List.length_map, Try.ntmps9]
  refine callC_at hg ?_
  simp -implicitDefEqProofs (disch := omega) only [go_sem, ↓reduceIte, Nat.reduceEqDiff, Nat.reduceMul, Nat.reduceAdd, Nat.reduceDiv, Nat.reduceBEq, Nat.reduceLeDiff, Int.reduceToNat, Int.reduceNe, Int.reduceEq, Int.reduceLT, Int.reduceLE, Int.reduceBEq, Int.reduceBNe, ne_eq, not_true_eq_false, not_false_eq_true, decide_true, decide_false, List.length_map]
  refine loopC_mk (fun n E σ => ∃ i : Nat, i + n = 2 ∧ E 1 = I z ∧ E 3 = .ptr 20971568 2 0 0 ∧ E 8 = .ptr 20971648 2 0 0 ∧ E 21 = .agg [I a, I b] ∧ E 22 = I i ∧ σ 20971568 = some ⟨26, 2, [TF x]⟩ ∧ σ 20971648 = some ⟨58, 2, [.agg [I (if i = 0 then a else sumF x z 0 a / 60), I (if i = 2 then sumF x z 0 b / 60 else b)]]⟩) 2 ⟨0, rfl, ?_⟩ ?_
  · simp -implicitDefEqProofs (disch := omega) only [go_sem, ↓reduceIte, Nat.reduceEqDiff, Nat.reduceMul, Nat.reduceAdd, Nat.reduceDiv, Nat.reduceBEq, Nat.reduceLeDiff, Int.reduceToNat, Int.reduceNe, Int.reduceEq, Int.reduceLT, Int.reduceLE, Int.reduceBEq, Int.reduceBNe, ne_eq, not_true_eq_false, not_false_eq_true, decide_true, decide_false, List.length_map]
    try rfl
  rintro n E σ ⟨i, hi, e1', e3, e8, e21, e22, m3, m8⟩
  obtain rfl | rfl | rfl : i = 0 ∨ i = 1 ∨ i = 2 := by omega
  · have e22 : E 22 = I 0 := e22
    have m8 : σ 20971648 = some ⟨58, 2, [.agg [I a, I b]]⟩ := m8
    simp -implicitDefEqProofs (disch := omega) only [go_sem, ↓reduceIte, Nat.reduceEqDiff, Nat.reduceMul, Nat.reduceAdd, Nat.reduceDiv, Nat.reduceBEq, Nat.reduceLeDiff, Int.reduceToNat, Int.reduceNe, Int.reduceEq, Int.reduceLT, Int.reduceLE, Int.reduceBEq, Int.reduceBNe, ne_eq, not_true_eq_false, not_false_eq_true, decide_true, decide_false, List.length_map, e1', e3, e8, e21, e22, m3, m8]
    refine callC_at e1 ?_
    simp -implicitDefEqProofs (disch := omega) only [go_sem, ↓reduceIte, Nat.reduceEqDiff, Nat.reduceMul, Nat.reduceAdd, Nat.reduceDiv, Nat.reduceBEq, Nat.reduceLeDiff, Int.reduceToNat, Int.reduceNe, Int.reduceEq, Int.reduceLT, Int.reduceLE, Int.reduceBEq, Int.reduceBNe, ne_eq, not_true_eq_false, not_false_eq_true, decide_true, decide_false, List.length_map, e1', e3, e8, e21, e22, m3, m8, q1]
    refine againQ_mk 1 (by omega) ⟨1, rfl, ?_⟩
    simp -implicitDefEqProofs (disch := omega) only [go_sem, ↓reduceIte, Nat.reduceEqDiff, Nat.reduceMul, Nat.reduceAdd, Nat.reduceDiv, Nat.reduceBEq, Nat.reduceLeDiff, Int.reduceToNat, Int.reduceNe, Int.reduceEq, Int.reduceLT, Int.reduceLE, Int.reduceBEq, Int.reduceBNe, ne_eq, not_true_eq_false, not_false_eq_true, decide_true, decide_false, List.length_map, e1', e3, e8, e21, e22, m3, m8, q1]
    rfl
  · have e22 : E 22 = I 1 := e22
    have m8 : σ 20971648 = some ⟨58, 2, [.agg [I (sumF x z 0 a / 60), I b]]⟩ := m8
    simp -implicitDefEqProofs (disch := omega) only [go_sem, ↓reduceIte, Nat.reduceEqDiff, Nat.reduceMul, Nat.reduceAdd, Nat.reduceDiv, Nat.reduceBEq, Nat.reduceLeDiff, Int.reduceToNat, Int.reduceNe, Int.reduceEq, Int.reduceLT, Int.reduceLE, Int.reduceBEq, Int.reduceBNe, ne_eq, not_true_eq_false, not_false_eq_true, decide_true, decide_false, List.length_map, e1', e3, e8, e21, e22, m3, m8]
    refine callC_at e2 ?_
    simp -implicitDefEqProofs (disch := omega) only [go_sem, ↓reduceIte, Nat.reduceEqDiff, Nat.reduceMul, Nat.reduceAdd, Nat.reduceDiv, Nat.reduceBEq, Nat.reduceLeDiff, Int.reduceToNat, Int.reduceNe, Int.reduceEq, Int.reduceLT, Int.reduceLE, Int.reduceBEq, Int.reduceBNe, ne_eq, not_true_eq_false, not_false_eq_true, decide_true, decide_false, List.length_map, e1', e3, e8, e21, e22, m3, m8, q2]
    refine againQ_mk 0 (by omega) ⟨2, rfl, ?_⟩
    simp -implicitDefEqProofs (disch := omega) only [go_sem, ↓reduceIte, Nat.reduceEqDiff, Nat.reduceMul, Nat.reduceAdd, Nat.reduceDiv, Nat.reduceBEq, Nat.reduceLeDiff, Int.reduceToNat, Int.reduceNe, Int.reduceEq, Int.reduceLT, Int.reduceLE, Int.reduceBEq, Int.reduceBNe, ne_eq, not_true_eq_false, not_false_eq_true, decide_true, decide_false, List.length_map, e1', e3, e8, e21, e22, m3, m8, q2]
    exact ⟨rfl, by rw [if_neg (fun h => h.1)]⟩
  · have e22 : E 22 = I 2 := e22
    have m8 : σ 20971648 = some ⟨58, 2, [.agg [I (sumF x z 0 a / 60), I (sumF x z 0 b / 60)]]⟩ := m8
    simp -implicitDefEqProofs (disch := omega) only [go_sem, ↓reduceIte, Nat.reduceEqDiff, Nat.reduceMul, Nat.reduceAdd, Nat.reduceDiv, Nat.reduceBEq, Nat.reduceLeDiff, Int.reduceToNat, Int.reduceNe, Int.reduceEq, Int.reduceLT, Int.reduceLE, Int.reduceBEq, Int.reduceBNe, ne_eq, not_true_eq_false, not_false_eq_true, decide_true, decide_false, List.length_map, e1', e3, e8, e21, e22, m3, m8, Try.results9]
    rfl
end Go.Proofs.Ytcllccpeechdhaa

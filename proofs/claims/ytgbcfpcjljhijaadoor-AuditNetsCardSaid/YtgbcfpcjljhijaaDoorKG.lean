/- Totals, rows, accounts -/
import Derived.Test.YtgbcfpcjljhijaaDoorKF
set_option linter.unusedVariables false
set_option linter.unusedSimpArgs false
set_option maxRecDepth 100000
namespace Go.Proofs.YtgbcfpcjljhijaaDoor
open Go.Vai Go Go.Proofs
open Nat (reduceEqDiff reduceMul reduceAdd reduceDiv reduceLeDiff)
open Int (reduceToNat reduceNe reduceEq reduceLT reduceLE)
def chB (c : Ch) : List Int := numBL [c.p, c.q, c.a] ++ bI (viS c.t.size ++ c.t)
def chsB (l : List Ch) : List Int := numBL [(l.length : Int)] ++ l.flatMap chB
theorem chB_length (c : Ch) (h : c.ok) : (chB c).length ≤ 140 := by
  have h1 := numBL_length [c.p, c.q, c.a]
  have h2 := viS_size (c.t.size : Int)
  obtain ⟨_, _, _, _, _, _, _, _, ht⟩ := h
  unfold chB; rw [List.length_append, bI_length, ByteArray.size_append]
  simp at h1; omega
theorem flat_length : ∀ (l : List Ch), (∀ c ∈ l, c.ok) → (l.flatMap chB).length ≤ 140 * l.length
  | [], _ => by simp
  | c :: l, h => by
    have h1 := chB_length c (h c (by simp))
    have h2 := flat_length l fun c hc => h c (by simp [hc])
    rw [List.flatMap_cons, List.length_append, List.length_cons]; omega
theorem grp_pos : ∀ k z, 1 ≤ (grp k z).length
  | 0, z => by simp [grp]
  | k + 1, z => by unfold grp; split <;> simp
set_option maxHeartbeats 2000000 in
theorem tleaf_ev (salt : ByteArray) (l : List Ch) (hs : salt.size = 32) (hl : ∀ c ∈ l, c.ok) (hn : l.length ≤ 1000) (ct : ByteArray) (hct : bI ct = chsB l) :
    Ev Tryd.prog 58 [Str salt, CL l] (TT (sumsF l) (leafF (codeF (sumsF l) (nodeF salt (leafF ct))))) := by
  refine ev_of Tryd.func58 rfl (by kernel_rfl) mo (Nat.le_of_ble_eq_true rfl) ?_
  simp -implicitDefEqProofs (disch := omega) only [go_sem, Tryd.ntmps58]
  refine callC_sem rfl ?_
  refine freeze_semD [123732176] ?_
  refine nilOwn_sem 123732048 123732049 0 1 5 1 (k := ⟨130, 2, [.agg [.v (.pointer none), .v (.slice none 0 0)]]⟩) (el := .agg [.v (.pointer none), .v (.slice none 0 0)]) (by simp -implicitDefEqProofs (disch := omega) only [go_sem]) (by decide) rfl rfl (by decide) (by simp -implicitDefEqProofs (disch := omega) only [go_sem]) rfl ?_
  have hL : LOK Tryd.prog 89 (inI [123732048]) ([.ptr 123732048 2 0 0, SL [(l.length : Int)]] ++ []) (stO (bLL false [])) (.tup []) (stO (bLL true (numBL [(l.length : Int)]))) := numbersL_ev false [] [(l.length : Int)] (by simp) (by simp) (by simp; omega) (by simp)
  refine lent_mk [123732048] hL ?_ ?_ ?_ ?_ ?_ ?_ ?_
  · simp -implicitDefEqProofs (disch := omega) only [go_sem]
  · simp -implicitDefEqProofs (disch := omega) only [go_sem]
    rfl
  · simp -implicitDefEqProofs (disch := omega) only [go_sem]
    simp
  · simp -implicitDefEqProofs (disch := omega) only [go_sem]
  · simp -implicitDefEqProofs (disch := omega) only [go_sem]
  · simp -implicitDefEqProofs (disch := omega) only [go_sem]
  · simp -implicitDefEqProofs (disch := omega) only [go_sem]
    refine loopC_mk (fun n E σ => ∃ v : Nat, v + n = l.length ∧ E 0 = Str salt ∧ E 1 = CL l ∧ E 4 = .ptr 123732032 9 0 0 ∧ E 5 = .ptr 123732048 2 0 0 ∧ E 15 = CL l ∧ E 16 = I l.length ∧ E 17 = I v ∧ σ 123732032 = some ⟨81, 9, [.agg [I 0, I 0, I 0, I 0, I 0, I 0, I 0, I 0, Str ⟨#[]⟩]]⟩ ∧ σ 123732048 = some ⟨130, 2, [.agg [.ptr 123732048 2 0 0, .own 123732049 1 0 (numBL [(l.length : Int)] ++ (l.take v).flatMap chB).length]]⟩ ∧ σ 123732049 = some ⟨5, 1, (numBL [(l.length : Int)] ++ (l.take v).flatMap chB).map Y⟩) l.length ⟨0, by omega, ?_⟩ ?_
    · simp -implicitDefEqProofs (disch := omega) only [go_sem, List.take_zero, List.flatMap_nil, List.append_nil]
      exact ⟨rfl, rfl⟩
    · rintro n E σ ⟨v, hv, h0, h1, h4, h5, h15, h16, h17, s4, sP, sQ⟩
      simp -implicitDefEqProofs (disch := omega) only [go_sem, h0, h1, h4, h5, h15, h16, h17, s4, sP, sQ]
      refine branch_mk (fun hc => ?_) (fun hc => ?_)
      · have hok := hl _ (gd_mem l v (by omega))
        have hpre : (numBL [(l.length : Int)] ++ (l.take v).flatMap chB).length ≤ 500000 := by
          have a1 := numBL_length [(l.length : Int)]
          have a2 := flat_length (l.take v) fun c hc => hl c (List.mem_of_mem_take hc)
          rw [List.length_take] at a2; rw [List.length_append]; simp only [List.length_cons, List.length_nil] at a1; omega
        have htk : l.take (v + 1) = l.take v ++ [gd l v] := by rw [List.take_add_one, gd_some l v (by omega)]; rfl
        have hnx : numBL [(l.length : Int)] ++ (l.take (v + 1)).flatMap chB = (numBL [(l.length : Int)] ++ (l.take v).flatMap chB) ++ chB (gd l v) := by rw [htk, List.flatMap_append, List.append_assoc]; simp
        generalize numBL [(l.length : Int)] ++ (l.take v).flatMap chB = q at *
        obtain ⟨p1, p2, q1, q2, a1, a2, _, _, ht⟩ := hok
        have hnl3 := numBL_length [(gd l v).p, (gd l v).q, (gd l v).a]
        simp only [List.length_cons, List.length_nil] at hnl3
        have hvs := viS_size ((gd l v).t.size : Int)
        simp -implicitDefEqProofs (disch := omega) only [go_sem, h0, h1, h4, h5, h15, h16, h17, s4, sP, sQ]
        refine callC_sem rfl ?_
        refine freeze_semD [123732400] ?_
        have hL : LOK Tryd.prog 89 (inI [123732048]) ([.ptr 123732048 2 0 0, SL [(gd l v).p, (gd l v).q, (gd l v).a]] ++ []) (stO (bLL true q)) (.tup []) (stO (bLL true (q ++ numBL [(gd l v).p, (gd l v).q, (gd l v).a]))) := numbersL_ev true q _ (by simp) (by omega) (by intro n hn; simp at hn; rcases hn with rfl | rfl | rfl <;> omega) (by simp)
        have hcb : chB (gd l v) = numBL [(gd l v).p, (gd l v).q, (gd l v).a] ++ bI (viS ((gd l v).t.size : Int) ++ (gd l v).t) := rfl
        generalize numBL [(gd l v).p, (gd l v).q, (gd l v).a] = q3 at *
        refine lent_mk [123732048] hL ?_ ?_ ?_ ?_ ?_ ?_ ?_
        · simp -implicitDefEqProofs (disch := omega) only [go_sem, h0, h1, h4, h5, h15, h16, h17, s4, sP, sQ]
        · simp -implicitDefEqProofs (disch := omega) only [go_sem, h0, h1, h4, h5, h15, h16, h17, s4, sP, sQ]
          rfl
        · simp -implicitDefEqProofs (disch := omega) only [go_sem, h0, h1, h4, h5, h15, h16, h17, s4, sP, sQ]
        · simp -implicitDefEqProofs (disch := omega) only [go_sem]
        · simp -implicitDefEqProofs (disch := omega) only [go_sem]
        · simp -implicitDefEqProofs (disch := omega) only [go_sem]
        · simp -implicitDefEqProofs (disch := omega) only [go_sem, h0, h1, h4, h5, h15, h16, h17, s4, sP, sQ]
          refine callC_at (putStr_ev (gd l v).t (by omega)) ?_
          have hws : (viS ((gd l v).t.size : Int) ++ (gd l v).t).size ≤ 200 := by rw [ByteArray.size_append]; omega
          rw [hcb] at hnx
          generalize viS ((gd l v).t.size : Int) ++ (gd l v).t = w at *
          simp -implicitDefEqProofs (disch := omega) only [go_sem, h0, h1, h4, h5, h15, h16, h17, s4, sP, sQ]
          refine callC_sem rfl ?_
          have hL2 : LOK Tryd.prog 91 (inI [123732048]) ([.ptr 123732048 2 0 0, Str w] ++ []) (stO (bLL true (q ++ q3))) (.tup [I w.size, .v .nilIface]) (stO (bLL true (q ++ q3 ++ bI w))) := writeL_ev true (q ++ q3) w (by rw [List.length_append]; omega)
          refine lent_mk [123732048] hL2 ?_ ?_ ?_ ?_ ?_ ?_ ?_
          · simp -implicitDefEqProofs (disch := omega) only [go_sem, h0, h1, h4, h5, h15, h16, h17, s4, sP, sQ]
          · simp -implicitDefEqProofs (disch := omega) only [go_sem, h0, h1, h4, h5, h15, h16, h17, s4, sP, sQ]
          · simp -implicitDefEqProofs (disch := omega) only [go_sem, h0, h1, h4, h5, h15, h16, h17, s4, sP, sQ]
          · simp -implicitDefEqProofs (disch := omega) only [go_sem]
          · simp -implicitDefEqProofs (disch := omega) only [go_sem]
          · simp -implicitDefEqProofs (disch := omega) only [go_sem]
          · simp -implicitDefEqProofs (disch := omega) only [go_sem, h0, h1, h4, h5, h15, h16, h17, s4, sP, sQ]
            refine againQ_mk (n - 1) (by omega) ⟨v + 1, by omega, ?_⟩
            rw [hnx, ← List.append_assoc]
            simp -implicitDefEqProofs (disch := omega) only [go_sem, h0, h1, h4, h5, h15, h16, h17, s4, sP, sQ]
            have hnl := congrArg List.length hnx
            simp only [List.length_append] at hnl
            refine ⟨by simp, ?_⟩
            rw [hnl, Nat.add_assoc]
      · have e : v = l.length := by omega
        subst e
        rw [List.take_length] at sP sQ
        have hcb := flat_length l hl
        have hn1 := numBL_length [(l.length : Int)]
        simp only [List.length_cons, List.length_nil] at hn1
        have hcs : ct.size = (chsB l).length := by rw [← hct, bI_length]
        have hcs2 : (chsB l).length ≤ 200000 := by unfold chsB; rw [List.length_append]; omega
        have hcs1 : ct.size ≠ 0 := by
          have hz : 1 ≤ (chsB l).length := by
            have hp : 1 ≤ (bI (viS (l.length : Int))).length := by
              rw [bI_length, viS, strOfNums_size]; unfold viB; rw [List.length_map]; exact grp_pos _ _
            have hq : (numBL [(l.length : Int)]).length = (bI (viS (l.length : Int))).length := by simp [numBL]
            unfold chsB; rw [List.length_append]; omega
          omega
        rw [show numBL [(l.length : Int)] ++ l.flatMap chB = bI ct from hct.symm] at sP sQ
        simp -implicitDefEqProofs (disch := omega) only [go_sem, h0, h1, h4, h5, h15, h16, h17, s4, sP, sQ]
        refine callC_at (sums_ev l hl hn) ?_
        simp -implicitDefEqProofs (disch := omega) only [go_sem, h0, h1, h4, h5, h15, h16, h17, s4, sP, sQ]
        refine callC_sem rfl ?_
        have hL3 : LOK Tryd.prog 92 (inI [123732048]) ([.ptr 123732048 2 0 0] ++ []) (stO (bLL true (bI ct))) (Str ct) (stO [(123732048, ⟨130, 2, [.agg [bPL true, .any]]⟩), (123732049, ⟨5, 1, []⟩)]) := stringL_ev true ct hcs1 (by omega)
        refine lent_mk [123732048] hL3 ?_ ?_ ?_ ?_ ?_ ?_ ?_
        · simp -implicitDefEqProofs (disch := omega) only [go_sem, h0, h1, h4, h5, h15, h16, h17, s4, sP, sQ]
        · simp -implicitDefEqProofs (disch := omega) only [go_sem, h0, h1, h4, h5, h15, h16, h17, s4, sP, sQ]
        · simp -implicitDefEqProofs (disch := omega) only [go_sem, h0, h1, h4, h5, h15, h16, h17, s4, sP, sQ]
        · simp -implicitDefEqProofs (disch := omega) only [go_sem]
        · simp -implicitDefEqProofs (disch := omega) only [go_sem]
        · simp -implicitDefEqProofs (disch := omega) only [go_sem]
        · have hsl : (sumsF l).length = 8 := by have := (sumsF_take l hl l.length (Nat.le_refl _)).1; rwa [List.take_length] at this
          simp -implicitDefEqProofs (disch := omega) only [go_sem, h0, h1, h4, h5, h15, h16, h17, s4, sP, sQ]
          refine callC_at (leaf_at ct (by omega)) ?_
          simp -implicitDefEqProofs (disch := omega) only [go_sem, h0, h1, h4, h5, h15, h16, h17, s4, sP, sQ]
          refine callC_at (node_at salt (leafF ct) (by rw [leafF_size]; omega)) ?_
          have hTT : ∀ M N : ByteArray, List.take 8 ((sumsF l).map I ++ [Str M]) ++ [Str N] ++ List.drop 9 ((sumsF l).map I ++ [Str M]) = (sumsF l).map I ++ [Str N] := fun M N => by
            rw [List.take_append_of_le_length (by simp [hsl]), List.take_of_length_le (by simp [hsl]), List.drop_of_length_le (by simp [hsl])]; simp
          have ht9 : ∀ N : ByteArray, ((sumsF l).map I ++ [Str N]).take 9 = (sumsF l).map I ++ [Str N] := fun N => List.take_of_length_le (by simp [hsl])
          have hsr := (sumsF_take l hl l.length (Nat.le_refl _)).2
          rw [List.take_length] at hsr
          simp -implicitDefEqProofs (disch := omega) only [go_sem, h0, h1, h4, h5, h15, h16, h17, s4, sP, sQ, hsl, hTT, ht9]
          have hNs := nodeF_size salt (leafF ct)
          refine callC_at (code_ev (sumsF l) (nodeF salt (leafF ct)) hsl ?_ hNs) ?_
          · intro n hn'
            obtain ⟨i, hi, rfl⟩ := List.mem_iff_getElem.1 hn'
            have := hsr i
            have hg : gd (sumsF l) i = (sumsF l)[i] := by unfold gd; simp [hi]
            rw [hg] at this; omega
          have hcz : (codeF (sumsF l) (nodeF salt (leafF ct))).size ≤ 1000 := by have := numS_size (sumsF l); unfold codeF; rw [ByteArray.size_append]; omega
          simp -implicitDefEqProofs (disch := omega) only [go_sem, h0, h1, h4, h5, h15, h16, h17, s4, sP, sQ, hsl, hTT, ht9]
          refine callC_at (leaf_at (codeF (sumsF l) (nodeF salt (leafF ct))) (by omega)) ?_
          simp -implicitDefEqProofs (disch := omega) only [go_sem, h0, h1, h4, h5, h15, h16, h17, s4, sP, sQ, hsl, hTT, ht9, and_self, if_false, Tryd.results58]
end Go.Proofs.YtgbcfpcjljhijaaDoor
set_option maxRecDepth 100000
namespace Go.Proofs.YtgbcfpcjljhijaaDoor
open Go.Vai Go Go.Proofs
open Nat (reduceEqDiff reduceMul reduceAdd reduceDiv reduceLeDiff)
open Int (reduceToNat reduceNe reduceEq reduceLT reduceLE)
def chS (c : Ch) : ByteArray := numS [c.p, c.q, c.a] ++ (viS c.t.size ++ c.t)
def chsS : List Ch → ByteArray
  | [] => ⟨#[]⟩
  | c :: l => chS c ++ chsS l
def contF (l : List Ch) : ByteArray := numS [(l.length : Int)] ++ chsS l
theorem numBL_eq (l : List Int) : numBL l = numBC l := rfl
theorem chS_bI (c : Ch) : bI (chS c) = chB c := by unfold chS chB; rw [bI_append, numS_bI, numBL_eq]
theorem chsS_bI : ∀ l, bI (chsS l) = l.flatMap chB
  | [] => rfl
  | c :: l => by rw [chsS, bI_append, chS_bI, chsS_bI l, List.flatMap_cons]
theorem contF_bI (l : List Ch) : bI (contF l) = chsB l := by unfold contF chsB; rw [bI_append, numS_bI, chsS_bI, numBL_eq]
def tleafD (salt : ByteArray) (l : List Ch) : ByteArray := leafF (codeF (sumsF l) (nodeF salt (leafF (contF l))))
theorem tleaf_at (salt : ByteArray) (l : List Ch) (hs : salt.size = 32) (hl : ∀ c ∈ l, c.ok) (hn : l.length ≤ 1000) : Ev Tryd.prog 58 [Str salt, CL l] (TT (sumsF l) (tleafD salt l)) :=
  tleaf_ev salt l hs hl hn (contF l) (contF_bI l)
end Go.Proofs.YtgbcfpcjljhijaaDoor
set_option maxRecDepth 100000
namespace Go.Proofs.YtgbcfpcjljhijaaDoor
open Go.Vai Go Go.Proofs
open Nat (reduceEqDiff reduceMul reduceAdd reduceDiv reduceLeDiff)
open Int (reduceToNat reduceNe reduceEq reduceLT reduceLE)
def inF (n lo hi : Int) : Bool := decide (lo ≤ n ∧ n ≤ hi)
theorem within_ev (n lo hi : Int) : Ev Tryd.prog 49 [I n, I lo, I hi] (B (inF n lo hi)) := by
  refine ev_of Tryd.func49 rfl (by kernel_rfl) mo (Nat.le_of_ble_eq_true rfl) ?_
  simp -implicitDefEqProofs (disch := omega) only [go_sem, Tryd.ntmps49]
  refine branch_mk (fun h => ?_) (fun h => ?_) <;> simp -implicitDefEqProofs (disch := omega) only [go_sem, Tryd.results49]
  · simp [inF, h]
  · simp [inF, h]
def chOK (c : Ch) : Bool := inF c.p 0 7 && inF c.q 0 7 && decide (c.p ≠ c.q) && inF c.h 0 63 && inF c.a 0 1000000000 && decide (c.t.size ≤ 100)
theorem chOK_ok (c : Ch) (h : chOK c = true) : c.ok := by
  simp only [chOK, inF, Bool.and_eq_true, decide_eq_true_eq] at h
  unfold Ch.ok; omega
theorem isCharge_ev (c : Ch) : Ev Tryd.prog 80 [CH c] (B (chOK c)) := by
  refine ev_of Tryd.func80 rfl (by kernel_rfl) mo (Nat.le_of_ble_eq_true rfl) ?_
  simp -implicitDefEqProofs (disch := omega) only [go_sem, Tryd.ntmps80]
  unfold chOK
  refine callC_at (within_ev c.p 0 7) ?_
  generalize inF c.p 0 7 = b1
  simp -implicitDefEqProofs (disch := omega) only [go_sem]
  cases b1
  · simp -implicitDefEqProofs (disch := omega) only [go_sem, Tryd.results80]
  simp -implicitDefEqProofs (disch := omega) only [go_sem]
  refine callC_at (within_ev c.q 0 7) ?_
  generalize inF c.q 0 7 = b2
  simp -implicitDefEqProofs (disch := omega) only [go_sem]
  cases b2
  · simp -implicitDefEqProofs (disch := omega) only [go_sem, Tryd.results80]
  simp -implicitDefEqProofs (disch := omega) only [go_sem]
  by_cases hpq : c.p = c.q
  · simp -implicitDefEqProofs (disch := omega) only [go_sem, hpq, Tryd.results80]
  simp -implicitDefEqProofs (disch := omega) only [go_sem, hpq]
  refine callC_at (within_ev c.h 0 63) ?_
  generalize inF c.h 0 63 = b3
  simp -implicitDefEqProofs (disch := omega) only [go_sem, hpq]
  cases b3
  · simp -implicitDefEqProofs (disch := omega) only [go_sem, hpq, Tryd.results80]
  simp -implicitDefEqProofs (disch := omega) only [go_sem, hpq]
  refine callC_at (within_ev c.a 0 1000000000) ?_
  generalize inF c.a 0 1000000000 = b4
  simp -implicitDefEqProofs (disch := omega) only [go_sem, hpq]
  cases b4
  · simp -implicitDefEqProofs (disch := omega) only [go_sem, hpq, Tryd.results80]
  simp -implicitDefEqProofs (disch := omega) only [go_sem, hpq, Tryd.results80]
  rw [show decide ((c.t.size : Int) ≤ 100) = decide (c.t.size ≤ 100) from decide_eq_decide.2 (by omega)]
theorem charge1_ev (c : Ch) : Ev Tryd.prog 79 [CH c] (B (!chOK c)) := by
  refine ev_of Tryd.func79 rfl (by kernel_rfl) mo (Nat.le_of_ble_eq_true rfl) ?_
  simp -implicitDefEqProofs (disch := omega) only [go_sem, Tryd.ntmps79]
  refine callC_at (isCharge_ev c) ?_
  simp -implicitDefEqProofs (disch := omega) only [go_sem, Tryd.results79]
end Go.Proofs.YtgbcfpcjljhijaaDoor
set_option maxRecDepth 100000
namespace Go.Proofs.YtgbcfpcjljhijaaDoor
open Go.Vai Go Go.Proofs
open Nat (reduceEqDiff reduceMul reduceAdd reduceDiv reduceLeDiff)
open Int (reduceToNat reduceNe reduceEq reduceLT reduceLE)
def findC (l : List Ch) (v : Nat) : Nat → Int
  | 0 => -1
  | n + 1 => if chOK (gd l v) then findC l (v + 1) n else v
theorem findC_neg (l : List Ch) : ∀ n v, v + n = l.length → (findC l v n < 0 ↔ ∀ i, v ≤ i → i < l.length → chOK (gd l i) = true)
  | 0, v, h => by simp only [findC]; constructor <;> intro _ <;> (try omega)
  | n + 1, v, h => by
    unfold findC
    split
    · rename_i hc
      rw [findC_neg l n (v + 1) (by omega)]
      constructor
      · intro hh i h1 h2
        rcases Nat.lt_or_ge v i with h3 | h3
        · exact hh i h3 h2
        · obtain rfl : i = v := by omega
          exact hc
      · intro hh i h1 h2; exact hh i (by omega) h2
    · rename_i hc
      constructor
      · intro hh; omega
      · intro hh; exact absurd (hh v (Nat.le_refl _) (by omega)) hc
theorem indexC_ev (l : List Ch) (hl : l.length ≤ 1000000) : Ev Tryd.prog 88 [CL l, .clo 79 []] (I (findC l 0 l.length)) := by
  refine ev_of Tryd.func88 rfl (by kernel_rfl) mo (Nat.le_of_ble_eq_true rfl) ?_
  simp -implicitDefEqProofs (disch := omega) only [go_sem, Tryd.ntmps88]
  refine loopC_mk (fun n E σ => ∃ v : Nat, v + n = l.length ∧ E 0 = CL l ∧ E 1 = .clo 79 [] ∧ E 7 = I l.length ∧ E 8 = I v ∧ findC l 0 l.length = findC l v n) l.length ⟨0, by omega, ?_⟩ ?_
  · simp -implicitDefEqProofs (disch := omega) only [go_sem]
    simp
  · rintro n E σ ⟨v, hv, h0, h1, h7, h8, hall⟩
    simp -implicitDefEqProofs (disch := omega) only [go_sem, h0, h1, h7, h8]
    refine branch_mk (fun hc => ?_) (fun hc => ?_)
    · simp -implicitDefEqProofs (disch := omega) only [go_sem, h0, h1, h7, h8]
      refine callC_at (charge1_ev _) ?_
      simp -implicitDefEqProofs (disch := omega) only [go_sem, h0, h1, h7, h8]
      obtain ⟨m, rfl⟩ : ∃ m, n = m + 1 := ⟨n - 1, by omega⟩
      refine branch_mk (fun hb => ?_) (fun hb => ?_)
      · simp -implicitDefEqProofs (disch := omega) only [go_sem, Tryd.results88]
        rw [hall]; simp [findC, hb]
      · simp -implicitDefEqProofs (disch := omega) only [go_sem, h0, h1, h7, h8]
        refine againQ_mk m (by omega) ⟨v + 1, by omega, ?_⟩
        simp -implicitDefEqProofs (disch := omega) only [go_sem, h0, h1, h7, h8]
        refine ⟨by simp, ?_⟩
        rw [hall]; simp at hb; simp [findC, hb]
    · simp -implicitDefEqProofs (disch := omega) only [go_sem, Tryd.results88]
      have : n = 0 := by omega
      subst this; rw [hall]; rfl
theorem containsC_ev (l : List Ch) (hl : l.length ≤ 1000000) : Ev Tryd.prog 57 [CL l, .clo 79 []] (B (decide (0 ≤ findC l 0 l.length))) := by
  refine ev_of Tryd.func57 rfl (by kernel_rfl) mo (Nat.le_of_ble_eq_true rfl) ?_
  simp -implicitDefEqProofs (disch := omega) only [go_sem, Tryd.ntmps57]
  refine callC_at (indexC_ev l hl) ?_
  simp -implicitDefEqProofs (disch := omega) only [go_sem, Tryd.results57]
def chsOK (l : List Ch) : Bool := decide (l.length ≤ 60) && decide (∀ i, i < l.length → chOK (gd l i) = true)
theorem areCharges_ev (l : List Ch) (hl : l.length ≤ 9223372036854775807) : Ev Tryd.prog 45 [CL l] (B (chsOK l)) := by
  refine ev_of Tryd.func45 rfl (by kernel_rfl) mo (Nat.le_of_ble_eq_true rfl) ?_
  simp -implicitDefEqProofs (disch := omega) only [go_sem, Tryd.ntmps45]
  refine branch_mk (fun hb => ?_) (fun hb => ?_)
  · simp -implicitDefEqProofs (disch := omega) only [go_sem]
    refine callC_at (containsC_ev l (by omega)) ?_
    simp -implicitDefEqProofs (disch := omega) only [go_sem, Tryd.results45]
    have h1 := findC_neg l l.length 0 (by omega)
    have h2 : l.length ≤ 60 := by omega
    have h3 : (decide (0 ≤ findC l 0 l.length)) = !decide (∀ i, i < l.length → chOK (gd l i) = true) := by
      rw [← decide_not]; apply decide_eq_decide.2
      rw [show (∀ i, i < l.length → chOK (gd l i) = true) ↔ findC l 0 l.length < 0 from ⟨fun h => h1.2 fun i _ hi => h i hi, fun h i hi => h1.1 h i (Nat.zero_le _) hi⟩]
      omega
    simp only [chsOK, h2, h3, decide_true, Bool.true_and, Bool.not_not]
  · simp -implicitDefEqProofs (disch := omega) only [go_sem, Tryd.results45]
    have : ¬ l.length ≤ 60 := by omega
    simp [chsOK, this]
end Go.Proofs.YtgbcfpcjljhijaaDoor
set_option maxRecDepth 100000
namespace Go.Proofs.YtgbcfpcjljhijaaDoor
open Go.Vai Go Go.Proofs
open Nat (reduceEqDiff reduceMul reduceAdd reduceDiv reduceLeDiff)
open Int (reduceToNat reduceNe reduceEq reduceLT reduceLE)
theorem chsOK_iff (l : List Ch) (h : chsOK l = true) : l.length ≤ 60 ∧ ∀ c ∈ l, c.ok := by
  simp only [chsOK, Bool.and_eq_true, decide_eq_true_eq] at h
  refine ⟨h.1, fun c hc => ?_⟩
  obtain ⟨i, hi, rfl⟩ := List.mem_iff_getElem.1 hc
  have := h.2 i hi
  rw [show gd l i = l[i] from by unfold gd; simp [hi]] at this
  exact chOK_ok _ this
theorem sumsOK_ev (l : List Ch) (hl : l.length ≤ 9223372036854775807) (h : chsOK l = true) : Ev Tryd.prog 17 [CL l] (.tup [SL (sumsF l), I 0]) := by
  obtain ⟨h1, h2⟩ := chsOK_iff l h
  have hsl : (sumsF l).length = 8 := by have := (sumsF_take l h2 l.length (Nat.le_refl _)).1; rwa [List.take_length] at this
  refine ev_of Tryd.func17 rfl (by kernel_rfl) mo (Nat.le_of_ble_eq_true rfl) ?_
  simp -implicitDefEqProofs (disch := omega) only [go_sem, Tryd.ntmps17]
  have hv := areCharges_ev l hl
  rw [h] at hv
  refine callC_at hv ?_
  simp -implicitDefEqProofs (disch := omega) only [go_sem]
  refine callC_at (sums_ev l h2 (by omega)) ?_
  simp -implicitDefEqProofs (disch := omega) only [go_sem, hsl]
  refine freeze_semD [37748800] ?_
  refine sliceArr_mk (c := .agg ((sumsF l).map I)) (j := 0) (m := 8) 0 8 (by simp -implicitDefEqProofs (disch := omega) only [go_sem]) tarr_79 tsz_3 (by simp [hsl]) ⟨rfl, rfl, by omega, by omega⟩ ?_
  have htk : (sumsF l).take 8 = sumsF l := List.take_of_length_le (by omega)
  simp -implicitDefEqProofs (disch := omega) only [go_sem, htk, Tryd.results17]
end Go.Proofs.YtgbcfpcjljhijaaDoor
set_option maxRecDepth 100000
namespace Go.Proofs.YtgbcfpcjljhijaaDoor
open Go.Vai Go Go.Proofs
open Nat (reduceEqDiff reduceMul reduceAdd reduceDiv reduceLeDiff)
open Int (reduceToNat reduceNe reduceEq reduceLT reduceLE)
theorem clone_ev (s : List Int) (h0 : s.length ≠ 0) (h1 : s.length ≤ 1000000) : Ev Tryd.prog 68 [SL s] (SL s) := by
  refine ev_sl (r := .new 3 1 (s.map I)) ?_ _
  refine ev_of Tryd.func68 rfl (by kernel_rfl) mo (Nat.le_of_ble_eq_true rfl) ?_
  have hne : s ≠ [] := by intro h; rw [h] at h0; exact h0 rfl
  simp -implicitDefEqProofs (disch := omega) only [go_sem, Tryd.ntmps68, hne]
  try simp -implicitDefEqProofs (disch := omega) only [go_sem, Tryd.results68, List.take_length]
end Go.Proofs.YtgbcfpcjljhijaaDoor
set_option maxRecDepth 100000
namespace Go.Proofs.YtgbcfpcjljhijaaDoor
open Go.Vai Go Go.Proofs
open Nat (reduceEqDiff reduceMul reduceAdd reduceDiv reduceLeDiff)
open Int (reduceToNat reduceNe reduceEq reduceLT reduceLE)
theorem valid_ev (key : ByteArray) (l : List Ch) (hl : l.length ≤ 9223372036854775807) : Ev Tryd.prog 21 [.agg [Str key, CL l]] (B (decide (key.size = 32) && chsOK l)) := by
  refine ev_of Tryd.func21 rfl (by kernel_rfl) mo (Nat.le_of_ble_eq_true rfl) ?_
  simp -implicitDefEqProofs (disch := omega) only [go_sem, Tryd.ntmps21]
  refine branch_mk (fun hc => ?_) (fun hc => ?_)
  · simp -implicitDefEqProofs (disch := omega) only [go_sem]
    refine callC_at (areCharges_ev l hl) ?_
    simp -implicitDefEqProofs (disch := omega) only [go_sem, Tryd.results21]
    have hk : key.size = 32 := by omega
    simp [hk]
  · simp -implicitDefEqProofs (disch := omega) only [go_sem, Tryd.results21]
    have hk : ¬ key.size = 32 := by omega
    simp [hk]
end Go.Proofs.YtgbcfpcjljhijaaDoor
set_option maxRecDepth 100000
namespace Go.Proofs.YtgbcfpcjljhijaaDoor
open Go.Vai Go Go.Proofs
open Nat (reduceEqDiff reduceMul reduceAdd reduceDiv reduceLeDiff)
open Int (reduceToNat reduceNe reduceEq reduceLT reduceLE)
abbrev Deb := Int × Int × Int
abbrev DP (d : Deb) : AV := .agg [I d.1, I d.2.1, I d.2.2]
section
variable (p : Nat → Bool) (l : List Deb)
@[go_sem] theorem namesL_DP : AV.namesL p (l.map DP) = false := namesL_map p l DP fun _ => rfl
@[go_sem] theorem flatL_DP : AV.flatL (l.map DP) = true := flatL_map l DP fun _ => rfl
@[go_sem] theorem allOK_DP : allOK 3 (l.map DP) = true := allOK_map 3 l DP fun _ => ⟨rfl, rfl⟩
@[go_sem] theorem append_DP (a b c : Int) : l.map DP ++ [.agg [.v (.int .i64 a), .v (.int .i64 b), .v (.int .i64 c)]] = (l ++ [(a, b, c)]).map DP := by simp
end
def debF (l : List Ch) : List Deb := (l.filter fun c => decide (0 < c.a)).map fun c => (c.p, c.q, c.a)
theorem debF_length (l : List Ch) : (debF l).length ≤ l.length := by unfold debF; rw [List.length_map]; exact List.length_filter_le ..
theorem debtsOK_ev (l : List Ch) (h : chsOK l = true) : Ev Tryd.prog 19 [CL l] (.tup [.sl 3 ((debF l).map DP), I 0]) := by
  obtain ⟨h1, _⟩ := chsOK_iff l h
  refine ev_sl (r := .tup [.new 77 3 ((debF l).map DP), I 0]) ?_ _
  refine ev_of Tryd.func19 rfl (by kernel_rfl) mo (Nat.le_of_ble_eq_true rfl) ?_
  simp -implicitDefEqProofs (disch := omega) only [go_sem, Tryd.ntmps19]
  have hv := areCharges_ev l (by omega)
  rw [h] at hv
  refine callC_at hv ?_
  simp -implicitDefEqProofs (disch := omega) only [go_sem]
  refine loopC_mk (fun n E σ => ∃ v : Nat, v + n = l.length ∧ E 4 = .own 41943104 3 0 (debF (l.take v)).length ∧ E 10 = CL l ∧ E 11 = I l.length ∧ E 12 = I v ∧ σ 41943104 = some ⟨77, 3, (debF (l.take v)).map DP⟩) l.length ⟨0, by omega, ?_⟩ ?_
  · simp -implicitDefEqProofs (disch := omega) only [go_sem]
    simp [debF]
  · rintro n E σ ⟨v, hv, h4, h10, h11, h12, sB⟩
    have hol := debF_length (l.take v)
    rw [List.length_take] at hol
    simp -implicitDefEqProofs (disch := omega) only [go_sem, h4, h10, h11, h12, sB]
    refine branch_mk (fun hc => ?_) (fun hc => ?_)
    · have htk : l.take (v + 1) = l.take v ++ [gd l v] := by rw [List.take_add_one, gd_some l v (by omega)]; rfl
      simp -implicitDefEqProofs (disch := omega) only [go_sem, h4, h10, h11, h12, sB]
      refine branch_mk (fun hd => ?_) (fun hd => ?_)
      · have hof : debF (l.take (v + 1)) = debF (l.take v) ++ [((gd l v).p, (gd l v).q, (gd l v).a)] := by rw [htk]; simp [debF, hd]
        simp -implicitDefEqProofs (disch := omega) only [go_sem, h4, h10, h11, h12, sB, List.take_length]
        refine againQ_mk (n - 1) (by omega) ⟨v + 1, by omega, ?_⟩
        rw [hof]
        simp -implicitDefEqProofs (disch := omega) only [go_sem, h4, h10, h11, h12, sB, List.take_length]
        simp
      · have hof : debF (l.take (v + 1)) = debF (l.take v) := by rw [htk]; simp [debF]; omega
        simp -implicitDefEqProofs (disch := omega) only [go_sem, h4, h10, h11, h12, sB]
        refine againQ_mk (n - 1) (by omega) ⟨v + 1, by omega, ?_⟩
        rw [hof]
        simp -implicitDefEqProofs (disch := omega) only [go_sem, h4, h10, h11, h12, sB]
        simp
    · have e : v = l.length := by omega
      subst e
      rw [List.take_length] at h4 sB hol
      simp -implicitDefEqProofs (disch := omega) only [go_sem, h4, h10, h11, h12, sB, List.take_length, Tryd.results19]
end Go.Proofs.YtgbcfpcjljhijaaDoor
set_option maxRecDepth 100000
namespace Go.Proofs.YtgbcfpcjljhijaaDoor
open Go.Vai Go Go.Proofs
open Nat (reduceEqDiff reduceMul reduceAdd reduceDiv reduceLeDiff)
open Int (reduceToNat reduceNe reduceEq reduceLT reduceLE)
end Go.Proofs.YtgbcfpcjljhijaaDoor
set_option maxRecDepth 100000
namespace Go.Proofs.YtgbcfpcjljhijaaDoor
open Go.Vai Go Go.Proofs
open Nat (reduceEqDiff reduceMul reduceAdd reduceDiv reduceLeDiff)
open Int (reduceToNat reduceNe reduceEq reduceLT reduceLE)
theorem kill_of {p : Nat → Bool} {a v : AV} (h : a = v) (hv : AV.kill p v = v) : AV.kill p a = v := by rw [h, hv]
abbrev Tot := List Int × ByteArray
instance : Inhabited ByteArray := ⟨⟨#[]⟩⟩
abbrev TP (t : Tot) : AV := TT t.1 t.2
abbrev RP (t : Tot) : AV := .agg [SL t.1, Str t.2]
abbrev TPL (l : List Tot) : AV := .sl 9 (l.map TP)
abbrev RPL (l : List Tot) : AV := .sl 2 (l.map RP)
section
variable (p : Nat → Bool) (l : List Tot)
@[go_sem] theorem namesL_TP : AV.namesL p (l.map TP) = false := namesL_map p l TP fun t => namesL_TT p t.1 t.2
@[go_sem] theorem append_TP (a : List Int) (b : ByteArray) : l.map TP ++ [.agg (a.map I ++ [.v (.string b)])] = (l ++ [(a, b)]).map TP := by simp
@[go_sem] theorem flatL_TP : AV.flatL (l.map TP) = true := flatL_map l TP fun t => flatL_TT t.1 t.2
@[go_sem] theorem namesL_RP : AV.namesL p (l.map RP) = false := namesL_map p l RP fun _ => rfl
@[go_sem] theorem allOK_RP : allOK 2 (l.map RP) = true := allOK_map 2 l RP fun _ => ⟨rfl, rfl⟩
@[go_sem] theorem append_RP (a : List Int) (b : ByteArray) : l.map RP ++ [.agg [.sl 1 (a.map I), .v (.string b)]] = (l ++ [(a, b)]).map RP := by simp
end
theorem gd_get {T : Type} [Inhabited T] (l : List T) (i : Nat) (h : i < l.length) : gd l i = l[i] := by simp [gd, h]
theorem dnL_map {T : Type} (l : List T) (f : T → AV) (h : ∀ x, (f x).dn = false) : AV.dnL (l.map f) = false := by
  cases e : AV.dnL (l.map f) with
  | false => rfl
  | true => obtain ⟨c, hc, h2⟩ := (dnL_iff _).1 e; obtain ⟨x, _, rfl⟩ := List.mem_map.1 hc; rw [h x] at h2; cases h2
theorem dn_CL (l : List Ch) : (CL l).dn = false := dnL_map l CH fun _ => rfl
theorem dn_SL (l : List Int) : (SL l).dn = false := dnL_map l I fun _ => rfl
theorem dn_TP (t : Tot) : (TP t).dn = false := by
  show AV.dnL (t.1.map I ++ [Str t.2]) = false
  cases e : AV.dnL (t.1.map I ++ [Str t.2]) with
  | false => rfl
  | true =>
    obtain ⟨c, hc, h2⟩ := (dnL_iff _).1 e
    rcases List.mem_append.1 hc with h | h
    · obtain ⟨x, _, rfl⟩ := List.mem_map.1 h; cases h2
    · simp at h; subst h; cases h2
theorem dn_RP (t : Tot) : (RP t).dn = false := by
  show (AV.dn (SL t.1) || (false || false)) = false
  rw [dn_SL]; rfl
def TotB (B : Int) (t : Tot) : Prop := t.1.length = 8 ∧ (∀ n ∈ t.1, -B ≤ n ∧ n ≤ B) ∧ t.2.size = 32
theorem TotB.mono {B C : Int} {t : Tot} (h : TotB B t) (hBC : B ≤ C) : TotB C t := ⟨h.1, fun n hn => by have := h.2.1 n hn; omega, h.2.2⟩
def joinT (a b : Tot) : Tot := (joinS a.1 b.1, nodeF (codeF a.1 a.2) (codeF b.1 b.2))
theorem gd_mem_le {B : Int} {s : List Int} (h : ∀ n ∈ s, -B ≤ n ∧ n ≤ B) (hB : 0 ≤ B) (j : Nat) : -B ≤ gd s j ∧ gd s j ≤ B := by
  by_cases hj : j < s.length
  · exact h _ (gd_mem s j hj)
  · rw [gd_none s j (by omega)]; exact ⟨by show -B ≤ 0; omega, by show 0 ≤ B; omega⟩
theorem joinS_mem {B C : Int} {s t : List Int} (h : ∀ n ∈ s, -B ≤ n ∧ n ≤ B) (k : ∀ n ∈ t, -C ≤ n ∧ n ≤ C) (hB : 0 ≤ B) (hC : 0 ≤ C) : ∀ n ∈ joinS s t, -(B + C) ≤ n ∧ n ≤ B + C := by
  intro n hn
  obtain ⟨j, _, rfl⟩ := List.mem_map.1 hn
  have h1 := gd_mem_le h hB j
  have h2 := gd_mem_le k hC j
  omega
theorem joinT_ok {B C : Int} {a b : Tot} (ha : TotB B a) (hb : TotB C b) (hB : 0 ≤ B) (hC : 0 ≤ C) : TotB (B + C) (joinT a b) :=
  ⟨joinS_length _ _, joinS_mem ha.2.1 hb.2.1 hB hC, nodeF_size _ _⟩
theorem join_at {a b : Tot} (ha : TotB 1000000000000000 a) (hb : TotB 1000000000000000 b) : Ev Tryd.prog 60 [TP a, TP b] (TP (joinT a b)) :=
  join_tt a.1 b.1 a.2 b.2 ha.1 hb.1 (fun n hn => by have := ha.2.1 n hn; omega) (fun n hn => by have := hb.2.1 n hn; omega) ha.2.2 hb.2.2
def leafT (salt : ByteArray) (l : List Ch) : Tot := (sumsF l, tleafD salt l)
theorem leafT_at (salt : ByteArray) (l : List Ch) (hs : salt.size = 32) (hl : ∀ c ∈ l, c.ok) (hn : l.length ≤ 1000) : Ev Tryd.prog 58 [Str salt, CL l] (TP (leafT salt l)) := tleaf_at salt l hs hl hn
theorem sumsF_len (l : List Ch) : (sumsF l).length = 8 := by
  have key : ∀ (l : List Ch) (s : List Int), (l.foldl stepS s).length = s.length := by
    intro l
    induction l with
    | nil => intro s; rfl
    | cons c l ih => intro s; rw [List.foldl_cons, ih, stepS_length]
  unfold sumsF; rw [key]; rfl
theorem leafT_ok (salt : ByteArray) (l : List Ch) (hl : ∀ c ∈ l, c.ok) (hn : l.length ≤ 60) : TotB 120000000000 (leafT salt l) := by
  refine ⟨sumsF_len l, fun n hn' => ?_, leafF_size _⟩
  have hsr := (sumsF_take l hl l.length (Nat.le_refl _)).2
  rw [List.take_length] at hsr
  obtain ⟨i, hi, rfl⟩ := List.mem_iff_getElem.1 hn'
  have := hsr i
  rw [gd_get _ _ (show i < (sumsF l).length from hi)] at this
  show _ ≤ (sumsF l)[i] ∧ (sumsF l)[i] ≤ _
  omega
theorem ofF_ok {l : List Ch} (hl : ∀ c ∈ l, c.ok) (h : Int) : ∀ c ∈ ofF l h, c.ok := fun c hc => hl c (List.mem_filter.1 hc).1
theorem ofF_len (l : List Ch) (h : Int) : (ofF l h).length ≤ l.length := List.length_filter_le ..
def pairsT : List Tot → List Tot
  | a :: b :: l => joinT a b :: pairsT l
  | _ => []
def leafK (key : ByteArray) (l : List Ch) (h : Int) : Tot := leafT (saltF key h) (ofF l h)
def rowT (key : ByteArray) (l : List Ch) : Nat → List Tot
  | 0 => (List.range 64).map fun h : Nat => leafK key l (h : Int)
  | k + 1 => pairsT (rowT key l k)
theorem pairsT_gd : ∀ (l : List Tot) (i : Nat), 2 * i + 1 < l.length → gd (pairsT l) i = joinT (gd l (2 * i)) (gd l (2 * i + 1))
  | [], i, h => by simp at h
  | [_], i, h => by simp at h
  | a :: b :: l, 0, _ => rfl
  | a :: b :: l, i + 1, h => by
    rw [pairsT, gd_cons_succ, pairsT_gd l i (by simp at h; omega)]
    rw [show 2 * (i + 1) = 2 * i + 1 + 1 from by omega, show 2 * i + 1 + 1 + 1 = (2 * i + 1) + 1 + 1 from rfl]
    rw [gd_cons_succ, gd_cons_succ, gd_cons_succ, gd_cons_succ]
theorem pairsT_length : ∀ (l : List Tot), (pairsT l).length = l.length / 2
  | [] => rfl
  | [_] => by simp [pairsT]
  | a :: b :: l => by rw [pairsT, List.length_cons, pairsT_length l]; simp only [List.length_cons]; omega
theorem rowT_length (key : ByteArray) (l : List Ch) : ∀ k, k ≤ 6 → (rowT key l k).length = 2 ^ (6 - k)
  | 0, _ => by simp [rowT]
  | k + 1, h => by
    rw [rowT, pairsT_length, rowT_length key l k (by omega)]
    have : k = 0 ∨ k = 1 ∨ k = 2 ∨ k = 3 ∨ k = 4 ∨ k = 5 := by omega
    rcases this with rfl | rfl | rfl | rfl | rfl | rfl <;> rfl
theorem rowT_ok (key : ByteArray) {l : List Ch} (hl : ∀ c ∈ l, c.ok) (hn : l.length ≤ 60) : ∀ k, k ≤ 6 → ∀ i, i < 2 ^ (6 - k) → TotB (120000000000 * 2 ^ k) (gd (rowT key l k) i)
  | 0, _, i, hi => by
    have : gd (rowT key l 0) i = leafK key l (i : Int) := by unfold rowT gd; simp at hi; simp [hi]
    rw [this, Int.pow_zero, Int.mul_one]
    exact leafT_ok _ _ (ofF_ok hl _) (Nat.le_trans (ofF_len l _) hn)
  | k + 1, h, i, hi => by
    have h2 : 2 ^ (6 - k) = 2 * 2 ^ (6 - (k + 1)) := by rw [show 6 - k = (6 - (k + 1)) + 1 from by omega, Nat.pow_succ]; omega
    have hlen := rowT_length key l k (by omega)
    rw [rowT, pairsT_gd _ i (by omega)]
    have a := rowT_ok key hl hn k (by omega) (2 * i) (by omega)
    have b := rowT_ok key hl hn k (by omega) (2 * i + 1) (by omega)
    have hp : (0 : Int) ≤ 120000000000 * 2 ^ k := Int.mul_nonneg (by decide) (Int.pow_nonneg (by decide))
    have := joinT_ok a b hp hp
    rw [show (120000000000 : Int) * 2 ^ (k + 1) = 120000000000 * 2 ^ k + 120000000000 * 2 ^ k from by rw [Int.pow_succ]; omega]
    exact this
theorem rowT_okM (key : ByteArray) {l : List Ch} (hl : ∀ c ∈ l, c.ok) (hn : l.length ≤ 60) (k : Nat) (hk : k ≤ 6) (i : Nat) (hi : i < 2 ^ (6 - k)) : TotB 8000000000000 (gd (rowT key l k) i) := by
  refine (rowT_ok key hl hn k hk i hi).mono ?_
  have : k = 0 ∨ k = 1 ∨ k = 2 ∨ k = 3 ∨ k = 4 ∨ k = 5 ∨ k = 6 := by omega
  rcases this with rfl | rfl | rfl | rfl | rfl | rfl | rfl <;> decide
theorem rowT_mem (key : ByteArray) {l : List Ch} (hl : ∀ c ∈ l, c.ok) (hn : l.length ≤ 60) (k : Nat) (hk : k ≤ 6) : ∀ t ∈ rowT key l k, TotB 8000000000000 t := by
  intro t ht
  obtain ⟨i, hi, rfl⟩ := List.mem_iff_getElem.1 ht
  have := rowT_okM key hl hn k hk i (by rw [← rowT_length key l k hk]; exact hi)
  rwa [gd_get _ _ hi] at this
def sealT (key : ByteArray) (l : List Ch) : Tot := gd (rowT key l 6) 0
def sibN (i : Nat) : Nat := if i % 2 = 0 then i + 1 else i - 1
def pathT (key : ByteArray) (l : List Ch) (h : Nat) : List Tot := (List.range 6).map fun k => gd (rowT key l k) (sibN (h / 2 ^ k))
end Go.Proofs.YtgbcfpcjljhijaaDoor
set_option maxRecDepth 100000
namespace Go.Proofs.YtgbcfpcjljhijaaDoor
open Go.Vai Go Go.Proofs
open Nat (reduceEqDiff reduceMul reduceAdd reduceDiv reduceLeDiff)
open Int (reduceToNat reduceNe reduceEq reduceLT reduceLE)
end Go.Proofs.YtgbcfpcjljhijaaDoor
set_option maxRecDepth 100000
namespace Go.Proofs.YtgbcfpcjljhijaaDoor
open Go.Vai Go Go.Proofs
open Nat (reduceEqDiff reduceMul reduceAdd reduceDiv reduceLeDiff)
open Int (reduceToNat reduceNe reduceEq reduceLT reduceLE)
structure Acc where
  h : Int
  l : List Ch
  s : ByteArray
  p : List Tot
abbrev AP (a : Acc) : AV := .agg [I a.h, CL a.l, Str a.s, RPL a.p]
def totOK (t : Tot) : Bool := decide (t.1.length = 8) && decide (t.2.size = 32) && decide (∀ n ∈ t.1, -1000000000000 ≤ n ∧ n ≤ 1000000000000)
def accOK (a : Acc) : Bool := inF a.h 0 63 && chsOK a.l && decide (∀ c ∈ a.l, c.h = a.h) && decide (a.s.size = 32) && decide (a.p.length = 6) && decide (∀ t ∈ a.p, totOK t = true)
def liftT (h : Nat) (u t : Tot) : Tot := if h % 2 = 1 then joinT u t else joinT t u
def walkT : Nat → List Tot → Tot → Tot
  | _, [], t => t
  | h, u :: p, t => walkT (h / 2) p (liftT h u t)
def checkF (sl : Tot) (a : Acc) : Bool := accOK a && decide (walkT a.h.toNat a.p (leafT a.s a.l) = sl)
def z0 : ByteArray := ⟨#[0]⟩
def z1 : ByteArray := ⟨#[1]⟩
def Coll (a b : List ByteArray) : Prop := ∃ x ∈ a, ∃ y ∈ b, x ≠ y ∧ shaF x = shaF y
theorem Coll.mono {a b c d : List ByteArray} (h : Coll a b) (h1 : ∀ x ∈ a, x ∈ c) (h2 : ∀ x ∈ b, x ∈ d) : Coll c d := by
  obtain ⟨x, hx, y, hy, h⟩ := h; exact ⟨x, h1 x hx, y, h2 y hy, h⟩
theorem accOK_of {a : Acc} (h1 : 0 ≤ a.h ∧ a.h ≤ 63) (h2 : chsOK a.l = true) (h3 : ∀ c ∈ a.l, c.h = a.h) (h4 : a.s.size = 32) (h5 : a.p.length = 6) (h6 : ∀ t ∈ a.p, totOK t = true) : accOK a = true := by
  simp only [accOK, inF, Bool.and_eq_true, decide_eq_true_eq]
  exact ⟨⟨⟨⟨⟨h1, h2⟩, h3⟩, h4⟩, h5⟩, h6⟩
theorem step_ok {B : Int} {h : Nat} {u t : Tot} (hu : TotB 1000000000000 u) (ht : TotB B t) (hB : 0 ≤ B) : TotB (B + 1000000000000) (liftT h u t) := by
  unfold liftT; split
  · exact (joinT_ok hu ht (by omega) hB).mono (by omega)
  · exact joinT_ok ht hu hB (by omega)
end Go.Proofs.YtgbcfpcjljhijaaDoor
set_option maxRecDepth 100000
namespace Go.Proofs.YtgbcfpcjljhijaaDoor
open Go.Vai Go Go.Proofs
open Nat (reduceEqDiff reduceMul reduceAdd reduceDiv reduceLeDiff)
open Int (reduceToNat reduceNe reduceEq reduceLT reduceLE)
def ctr (j : Nat) (c : Ch) : Int := (if c.q.toNat = j then c.a else 0) - (if c.p.toNat = j then c.a else 0)
def sumJ (j : Nat) (l : List Ch) : Int := (l.map (ctr j)).sum
theorem sumJ_cons (j : Nat) (c : Ch) (l : List Ch) : sumJ j (c :: l) = ctr j c + sumJ j l := by simp [sumJ]
theorem stepS_gd {s : List Int} {c : Ch} (h8 : s.length = 8) (hc : c.ok) (hpq : c.p ≠ c.q) {j : Nat} (hj : j < 8) : gd (stepS s c) j = gd s j + ctr j c := by
  obtain ⟨p1, p2, q1, q2, _⟩ := hc
  have hne : c.p.toNat ≠ c.q.toNat := by omega
  unfold stepS
  rw [gd_set _ _ _ _ (by rw [payS_length]; omega)]
  unfold payS
  rw [gd_set _ _ _ _ (by omega), gd_set _ _ _ _ (by omega)]
  unfold ctr
  by_cases e1 : j = c.q.toNat
  · subst e1
    simp [hne, Ne.symm hne]
  · by_cases e2 : j = c.p.toNat
    · subst e2
      simp [hne, Ne.symm hne]; omega
    · simp [e1, e2, Ne.symm e1, Ne.symm e2]
def Ch.good (c : Ch) : Prop := c.ok ∧ c.p ≠ c.q
theorem chOK_good {c : Ch} (h : chOK c = true) : c.good := by
  refine ⟨chOK_ok c h, ?_⟩
  simp only [chOK, Bool.and_eq_true, decide_eq_true_eq] at h
  exact h.1.1.1.2
theorem good_chOK {c : Ch} (h : c.good) : chOK c = true := by
  obtain ⟨⟨h1, h2, h3, h4, h5, h6, h7, h8, h9⟩, h10⟩ := h
  simp only [chOK, inF, Bool.and_eq_true, decide_eq_true_eq]
  exact ⟨⟨⟨⟨⟨⟨h1, h2⟩, h3, h4⟩, h10⟩, h7, h8⟩, h5, h6⟩, h9⟩
theorem chsOK_good {l : List Ch} (h : chsOK l = true) : l.length ≤ 60 ∧ ∀ c ∈ l, c.good := by
  refine ⟨(chsOK_iff l h).1, fun c hc => ?_⟩
  simp only [chsOK, Bool.and_eq_true, decide_eq_true_eq] at h
  obtain ⟨i, hi, rfl⟩ := List.mem_iff_getElem.1 hc
  have := h.2 i hi
  rw [show gd l i = l[i] from by unfold gd; simp [hi]] at this
  exact chOK_good this
theorem good_chsOK {l : List Ch} (hl : l.length ≤ 60) (h : ∀ c ∈ l, c.good) : chsOK l = true := by
  simp only [chsOK, Bool.and_eq_true, decide_eq_true_eq]
  exact ⟨hl, fun i hi => good_chOK (h _ (gd_mem l i hi))⟩
theorem sumsF_gd {l : List Ch} (hl : ∀ c ∈ l, c.good) {j : Nat} (hj : j < 8) : gd (sumsF l) j = sumJ j l := by
  have key : ∀ (l : List Ch) (s : List Int), s.length = 8 → (∀ c ∈ l, c.good) → gd (l.foldl stepS s) j = gd s j + sumJ j l := by
    intro l
    induction l with
    | nil => intro s _ _; simp [sumJ]
    | cons c l ih =>
      intro s hs hc
      have h1 := hc c (by simp)
      rw [List.foldl_cons, ih _ (by rw [stepS_length]; exact hs) (fun c h => hc c (by simp [h])), stepS_gd hs h1.1 h1.2 hj, sumJ_cons]; omega
  unfold sumsF
  rw [key l _ (by simp) hl]
  have : gd (List.replicate 8 (0 : Int)) j = 0 := by
    rcases j with _ | _ | _ | _ | _ | _ | _ | _ | j <;> first | rfl | omega
  rw [this]; omega
theorem ctr_le {c : Ch} (h : c.good) (j : Nat) : -1000000000 ≤ ctr j c ∧ ctr j c ≤ 1000000000 := by
  obtain ⟨⟨_, _, _, _, h5, h6, _⟩, _⟩ := h
  unfold ctr; split <;> split <;> omega
theorem sumJ_le {l : List Ch} (hl : ∀ c ∈ l, c.good) (j : Nat) : -(1000000000 * (l.length : Int)) ≤ sumJ j l ∧ sumJ j l ≤ 1000000000 * (l.length : Int) := by
  induction l with
  | nil => simp [sumJ]
  | cons c l ih =>
    have h1 := ctr_le (hl c (by simp)) j
    have h2 := ih fun c hc => hl c (by simp [hc])
    rw [sumJ_cons, List.length_cons]; push_cast; omega
def belowF (l : List Ch) (k i : Nat) : List Ch := l.filter fun c => c.h.toNat / 2 ^ k = i
theorem below_split (l : List Ch) (k i j : Nat) : sumJ j (belowF l (k + 1) i) = sumJ j (belowF l k (2 * i)) + sumJ j (belowF l k (2 * i + 1)) := by
  induction l with
  | nil => rfl
  | cons c l ih =>
    have hd : c.h.toNat / 2 ^ (k + 1) = c.h.toNat / 2 ^ k / 2 := by rw [Nat.pow_succ, Nat.div_div_eq_div_mul]
    simp only [belowF, List.filter_cons, decide_eq_true_eq] at *
    rw [hd]
    generalize c.h.toNat / 2 ^ k = x at *
    by_cases h1 : x = 2 * i
    · rw [if_pos (by omega), if_pos h1, if_neg (by omega), sumJ_cons, sumJ_cons, ih]; omega
    · by_cases h2 : x = 2 * i + 1
      · rw [if_pos (by omega), if_neg h1, if_pos h2, sumJ_cons, sumJ_cons, ih]; omega
      · rw [if_neg (by omega), if_neg h1, if_neg h2, ih]
theorem filter_good {l : List Ch} (hl : ∀ c ∈ l, c.good) (f : Ch → Bool) : ∀ c ∈ l.filter f, c.good := fun c hc => hl c ((List.mem_filter.1 hc).1)
theorem joinS_gd (s t : List Int) {j : Nat} (hj : j < 8) : gd (joinS s t) j = gd s j + gd t j := by unfold joinS gd; simp [hj]
theorem row_sum (key : ByteArray) {l : List Ch} (hl : ∀ c ∈ l, c.good) {j : Nat} (hj : j < 8) : ∀ k, k ≤ 6 → ∀ i, i < 2 ^ (6 - k) → gd (gd (rowT key l k) i).1 j = sumJ j (belowF l k i)
  | 0, _, i, hi => by
    have : gd (rowT key l 0) i = leafK key l (i : Int) := by unfold rowT gd; simp at hi; simp [hi]
    rw [this]
    show gd (sumsF (ofF l i)) j = _
    unfold ofF belowF
    rw [sumsF_gd (filter_good hl _) hj]
    congr 1
    refine List.filter_congr fun c hc => ?_
    obtain ⟨⟨_, _, _, _, _, _, h7, _⟩, _⟩ := hl c hc
    simp only [Nat.pow_zero, Nat.div_one, decide_eq_decide]
    omega
  | k + 1, h, i, hi => by
    have h2 : 2 ^ (6 - k) = 2 * 2 ^ (6 - (k + 1)) := by rw [show 6 - k = (6 - (k + 1)) + 1 from by omega, Nat.pow_succ]; omega
    have hlen := rowT_length key l k (by omega)
    rw [rowT, pairsT_gd _ i (by omega)]
    show gd (joinS _ _) j = _
    rw [joinS_gd _ _ hj, row_sum key hl hj k (by omega) (2 * i) (by omega), row_sum key hl hj k (by omega) (2 * i + 1) (by omega), below_split]
theorem row_len8 (key : ByteArray) {l : List Ch} (hl : ∀ c ∈ l, c.good) (hn : l.length ≤ 60) {k : Nat} (hk : k ≤ 6) {i : Nat} (hi : i < 2 ^ (6 - k)) : (gd (rowT key l k) i).1.length = 8 ∧ (gd (rowT key l k) i).2.size = 32 := by
  have := rowT_okM key (fun c hc => (hl c hc).1) hn k hk i hi
  exact ⟨this.1, this.2.2⟩
theorem row_tot (key : ByteArray) {l : List Ch} (hl : ∀ c ∈ l, c.good) (hn : l.length ≤ 60) {k : Nat} (hk : k ≤ 6) {i : Nat} (hi : i < 2 ^ (6 - k)) : totOK (gd (rowT key l k) i) = true := by
  obtain ⟨h1, h2⟩ := row_len8 key hl hn hk hi
  simp only [totOK, Bool.and_eq_true, decide_eq_true_eq]
  refine ⟨⟨h1, h2⟩, fun n hn' => ?_⟩
  obtain ⟨j, hj, rfl⟩ := List.mem_iff_getElem.1 hn'
  have e := row_sum key hl (j := j) (by omega) k hk i hi
  rw [show gd (gd (rowT key l k) i).1 j = (gd (rowT key l k) i).1[j] from by rw [gd, List.getD_eq_getElem?_getD, List.getElem?_eq_getElem hj]; rfl] at e
  rw [e]
  have h3 := sumJ_le (filter_good hl fun c => decide (c.h.toNat / 2 ^ k = i)) j
  have h4 : (belowF l k i).length ≤ 60 := Nat.le_trans (List.length_filter_le ..) hn
  show _ ≤ sumJ j (belowF l k i) ∧ sumJ j (belowF l k i) ≤ _
  have h3 : -(1000000000 * ((belowF l k i).length : Int)) ≤ sumJ j (belowF l k i) ∧ sumJ j (belowF l k i) ≤ 1000000000 * ((belowF l k i).length : Int) := h3
  omega
theorem seal_sums (key : ByteArray) {l : List Ch} (hl : ∀ c ∈ l, c.good) (hn : l.length ≤ 60) : (sealT key l).1 = sumsF l := by
  refine gd_ext (by rw [sumsF_len]; exact (row_len8 key hl hn (k := 6) (i := 0) (by omega) (by decide)).1) fun j hj => ?_
  have hj : j < 8 := by rw [show (sealT key l).1.length = 8 from (row_len8 key hl hn (k := 6) (i := 0) (by omega) (by decide)).1] at hj; exact hj
  unfold sealT
  rw [row_sum key hl hj 6 (by omega) 0 (by decide), sumsF_gd hl hj]
  congr 1
  unfold belowF
  rw [List.filter_eq_self]
  intro c hc
  obtain ⟨⟨_, _, _, _, _, _, h7, h8, _⟩, _⟩ := hl c hc
  simp only [decide_eq_true_eq]
  omega
def ownA (key : ByteArray) (l : List Ch) (h : Nat) : Acc := ⟨h, ofF l h, saltF key h, pathT key l h⟩
theorem walk_tree (key : ByteArray) (l : List Ch) (h : Nat) (h63 : h < 64) : ∀ n k, k + n = 6 →
    walkT (h / 2 ^ k) ((List.range' k n).map fun k => gd (rowT key l k) (sibN (h / 2 ^ k))) (gd (rowT key l k) (h / 2 ^ k)) = gd (rowT key l 6) 0
  | 0, k, hk => by
    obtain rfl : k = 6 := by omega
    show gd (rowT key l 6) (h / 2 ^ 6) = _
    rw [show h / 2 ^ 6 = 0 from by omega]
  | n + 1, k, hk => by
    rw [List.range'_succ, List.map_cons, walkT]
    have hd : h / 2 ^ k / 2 = h / 2 ^ (k + 1) := by rw [Nat.pow_succ, Nat.div_div_eq_div_mul]
    have hlt : h / 2 ^ k < 2 ^ (6 - k) := by
      rw [Nat.div_lt_iff_lt_mul (Nat.two_pow_pos k), ← Nat.pow_add, show 6 - k + k = 6 from by omega]; omega
    have hst : liftT (h / 2 ^ k) (gd (rowT key l k) (sibN (h / 2 ^ k))) (gd (rowT key l k) (h / 2 ^ k)) = gd (rowT key l (k + 1)) (h / 2 ^ (k + 1)) := by
      have h2 : 2 ^ (6 - k) = 2 * 2 ^ (6 - (k + 1)) := by rw [show 6 - k = (6 - (k + 1)) + 1 from by omega, Nat.pow_succ]; omega
      have hlen := rowT_length key l k (by omega)
      rw [rowT, pairsT_gd _ _ (by rw [← hd]; omega), ← hd]
      generalize h / 2 ^ k = x at *
      unfold liftT sibN
      by_cases hx : x % 2 = 1
      · rw [if_pos hx, if_neg (by omega), show 2 * (x / 2) = x - 1 from by omega, show x - 1 + 1 = x from by omega]
      · rw [if_neg hx, if_pos (by omega), show 2 * (x / 2) = x from by omega]
    rw [hst, hd]
    exact walk_tree key l h h63 n (k + 1) (by omega)
theorem own_walk (key : ByteArray) (l : List Ch) (h : Nat) (h63 : h < 64) : walkT h (pathT key l h) (leafK key l h) = sealT key l := by
  have := walk_tree key l h h63 6 0 rfl
  rw [Nat.pow_zero, Nat.div_one, ← List.range_eq_range'] at this
  rw [← show gd (rowT key l 0) h = leafK key l (h : Int) from by unfold rowT gd; simp [h63]]
  exact this
theorem own_ok (key : ByteArray) {l : List Ch} (hl : ∀ c ∈ l, c.good) (hn : l.length ≤ 60) (h : Nat) (h63 : h < 64) : accOK (ownA key l h) = true := by
  refine accOK_of (by show 0 ≤ (h : Int) ∧ (h : Int) ≤ 63; omega) (good_chsOK (Nat.le_trans (ofF_len l _) hn) (filter_good hl _)) (fun c hc => ?_) (nodeF_size _ _) (by simp [ownA, pathT]) (fun t ht => ?_)
  · show c.h = (h : Int)
    simpa using (List.mem_filter.1 hc).2
  · obtain ⟨k, hk, rfl⟩ := List.mem_map.1 ht
    have hk := List.mem_range.1 hk
    refine row_tot key hl hn (by omega) ?_
    have hlt : h / 2 ^ k < 2 ^ (6 - k) := by
      rw [Nat.div_lt_iff_lt_mul (Nat.two_pow_pos k), ← Nat.pow_add, show 6 - k + k = 6 from by omega]; omega
    have h2 : 2 ^ (6 - k) = 2 * 2 ^ (6 - (k + 1)) := by rw [show 6 - k = (6 - (k + 1)) + 1 from by omega, Nat.pow_succ]; omega
    generalize 2 ^ (6 - (k + 1)) = M at *
    generalize 2 ^ (6 - k) = N at *
    generalize h / 2 ^ k = x at *
    unfold sibN; split <;> omega
theorem own_check (key : ByteArray) {l : List Ch} (hl : ∀ c ∈ l, c.good) (hn : l.length ≤ 60) (h : Nat) (h63 : h < 64) : checkF (sealT key l) (ownA key l h) = true := by
  simp only [checkF, Bool.and_eq_true, decide_eq_true_eq]
  exact ⟨own_ok key hl hn h h63, own_walk key l h h63⟩
theorem sealF_gd8 (l : List Ch) (hl : ∀ c ∈ l, c.good) : gd (sumsF l) 0 + gd (sumsF l) 1 + gd (sumsF l) 2 + gd (sumsF l) 3 + gd (sumsF l) 4 + gd (sumsF l) 5 + gd (sumsF l) 6 + gd (sumsF l) 7 = 0 := by
  rw [sumsF_gd hl (by omega), sumsF_gd hl (by omega), sumsF_gd hl (by omega), sumsF_gd hl (by omega), sumsF_gd hl (by omega), sumsF_gd hl (by omega), sumsF_gd hl (by omega), sumsF_gd hl (by omega)]
  induction l with
  | nil => rfl
  | cons c l ih =>
    have := ih fun c hc => hl c (by simp [hc])
    simp only [sumJ_cons]
    obtain ⟨⟨h1, h2, h3, h4, _⟩, _⟩ := hl c (by simp)
    have key : ctr 0 c + ctr 1 c + ctr 2 c + ctr 3 c + ctr 4 c + ctr 5 c + ctr 6 c + ctr 7 c = 0 := by
      have hp : c.p = 0 ∨ c.p = 1 ∨ c.p = 2 ∨ c.p = 3 ∨ c.p = 4 ∨ c.p = 5 ∨ c.p = 6 ∨ c.p = 7 := by omega
      have hq : c.q = 0 ∨ c.q = 1 ∨ c.q = 2 ∨ c.q = 3 ∨ c.q = 4 ∨ c.q = 5 ∨ c.q = 6 ∨ c.q = 7 := by omega
      have ep : (if c.p.toNat = 0 then c.a else 0) + (if c.p.toNat = 1 then c.a else 0) + (if c.p.toNat = 2 then c.a else 0) + (if c.p.toNat = 3 then c.a else 0) + (if c.p.toNat = 4 then c.a else 0) + (if c.p.toNat = 5 then c.a else 0) + (if c.p.toNat = 6 then c.a else 0) + (if c.p.toNat = 7 then c.a else 0) = c.a := by
        rcases hp with e | e | e | e | e | e | e | e <;> rw [e] <;> simp
      have eq : (if c.q.toNat = 0 then c.a else 0) + (if c.q.toNat = 1 then c.a else 0) + (if c.q.toNat = 2 then c.a else 0) + (if c.q.toNat = 3 then c.a else 0) + (if c.q.toNat = 4 then c.a else 0) + (if c.q.toNat = 5 then c.a else 0) + (if c.q.toNat = 6 then c.a else 0) + (if c.q.toNat = 7 then c.a else 0) = c.a := by
        rcases hq with e | e | e | e | e | e | e | e <;> rw [e] <;> simp
      unfold ctr
      omega
    omega
end Go.Proofs.YtgbcfpcjljhijaaDoor
set_option maxRecDepth 100000
namespace Go.Proofs.YtgbcfpcjljhijaaDoor
open Go.Vai Go Go.Proofs
open Nat (reduceEqDiff reduceMul reduceAdd reduceDiv reduceLeDiff)
open Int (reduceToNat reduceNe reduceEq reduceLT reduceLE)
theorem shown_ev (t : Tot) (h8 : t.1.length = 8) : Ev Tryd.prog 43 [TP t] (RP t) := by
  obtain ⟨s, d⟩ := t
  have h8 : s.length = 8 := h8
  have ht : (s.map I ++ [Str d]).take 9 = s.map I ++ [Str d] := List.take_of_length_le (by simp [h8])
  refine ev_ofB [1] Tryd.func43 rfl (by kernel_rfl) mo (Nat.le_of_ble_eq_true rfl) ?_
  simp -implicitDefEqProofs (disch := omega) only [go_sem, Tryd.ntmps43, h8, ht]
  refine freeze_sem [92274704] ?_
  have h9 : (s.map I ++ [Str d])[8]? = some (Str d) := by rw [List.getElem?_append_right (by simp [h8])]; simp [h8]
  have h88 : (s.map I ++ [Str d]).take 8 = s.map I := by
    rw [List.take_append_of_le_length (by simp [h8]), List.take_of_length_le (by simp [h8])]
  refine region_J (Plain.mono) (fun D E σ => E 1 = .pt (TT s d) 0 ∧ E 2 = .ptr 92274720 2 0 0 ∧ (D 6 = false → σ 92274720 = some ⟨35, 2, [.agg [.v (.slice none 0 0), .v (.string ByteArray.empty)]]⟩) ∧ (D 6 = true → σ 92274720 = some ⟨35, 2, [RP (s, d)]⟩) ∧ (D 0 = true → E 3 = .pt (TT s d) 0) ∧ (D 1 = true → E 4 = SL s) ∧ (D 2 = true → E 5 = SL s) ∧ (D 3 = true → E 6 = .pt (TT s d) 8) ∧ (D 4 = true → E 7 = Str d) ∧ (D 5 = true → E 8 = RP (s, d))) ?_ ?_ ?_
  · simp -implicitDefEqProofs (disch := omega) only [go_sem, h8, ht, h9]
    simp
  · simp only [stepsJ, and_true]
    refine ⟨?_, ?_, ?_, ?_, ?_, ?_, ?_⟩
    · rintro D hD hd E σ ⟨h1, h2, s6a, s6b, j0, j1, j2, j3, j4, j5⟩
      cases h6 : D 6
      · have g6 := s6a h6
        simp -implicitDefEqProofs (disch := omega) only [go_sem, h1, h2, g6, h8, ht, h9]
        repeat' apply And.intro
        all_goals first | assumption | (intro h; rw [h6] at h; cases h; done) | (intro h; refine kill_of ?_ (by first | rfl | simp -implicitDefEqProofs (disch := omega) only [go_sem]); first | exact j0 h | exact j1 h | exact j2 h | exact j3 h | exact j4 h | exact j5 h) | (intro h; simp -implicitDefEqProofs (disch := omega) only [go_sem]; done) | (intros; trivial)
      · have g6 := s6b h6
        simp -implicitDefEqProofs (disch := omega) only [go_sem, h1, h2, g6, h8, ht, h9]
        repeat' apply And.intro
        all_goals first | assumption | (intro h; rw [h6] at h; cases h; done) | (intro h; refine kill_of ?_ (by first | rfl | simp -implicitDefEqProofs (disch := omega) only [go_sem]); first | exact j0 h | exact j1 h | exact j2 h | exact j3 h | exact j4 h | exact j5 h) | (intro h; simp -implicitDefEqProofs (disch := omega) only [go_sem]; done) | (intros; trivial)
    · rintro D hD hd E σ ⟨h1, h2, s6a, s6b, j0, j1, j2, j3, j4, j5⟩
      have d0 : D 0 = true := hd ⟨0, .data⟩ (by simp) rfl
      have q0 := j0 d0
      cases h6 : D 6
      · have g6 := s6a h6
        simp -implicitDefEqProofs (disch := omega) only [go_sem, h1, h2, q0, g6, h8, ht, h9]
        refine sliceArr_mk (c := TT s d) (j := 0) (m := 8) 0 8 (by simp -implicitDefEqProofs (disch := omega) only [go_sem, q0]) tarr_79 tsz_3 (by simp [h8]) ⟨rfl, rfl, by omega, by omega⟩ ?_ (cells_TT s d)
        rw [show ((TT s d).cells.drop (0 + 0)).take (8 - 0) = s.map I from h88]
        simp -implicitDefEqProofs (disch := omega) only [go_sem, h1, h2, q0, g6, h8, ht, h9]
        repeat' apply And.intro
        all_goals first | assumption | (intro h; rw [h6] at h; cases h; done) | (intro h; refine kill_of ?_ (by first | rfl | simp -implicitDefEqProofs (disch := omega) only [go_sem]); first | exact j0 h | exact j1 h | exact j2 h | exact j3 h | exact j4 h | exact j5 h) | (intro h; simp -implicitDefEqProofs (disch := omega) only [go_sem]; done) | (intros; trivial)
      · have g6 := s6b h6
        simp -implicitDefEqProofs (disch := omega) only [go_sem, h1, h2, q0, g6, h8, ht, h9]
        refine sliceArr_mk (c := TT s d) (j := 0) (m := 8) 0 8 (by simp -implicitDefEqProofs (disch := omega) only [go_sem, q0]) tarr_79 tsz_3 (by simp [h8]) ⟨rfl, rfl, by omega, by omega⟩ ?_ (cells_TT s d)
        rw [show ((TT s d).cells.drop (0 + 0)).take (8 - 0) = s.map I from h88]
        simp -implicitDefEqProofs (disch := omega) only [go_sem, h1, h2, q0, g6, h8, ht, h9]
        repeat' apply And.intro
        all_goals first | assumption | (intro h; rw [h6] at h; cases h; done) | (intro h; refine kill_of ?_ (by first | rfl | simp -implicitDefEqProofs (disch := omega) only [go_sem]); first | exact j0 h | exact j1 h | exact j2 h | exact j3 h | exact j4 h | exact j5 h) | (intro h; simp -implicitDefEqProofs (disch := omega) only [go_sem]; done) | (intros; trivial)
    · rintro D hD hd E σ ⟨h1, h2, s6a, s6b, j0, j1, j2, j3, j4, j5⟩
      have d1 : D 1 = true := hd ⟨1, .data⟩ (by simp) rfl
      have q1 := j1 d1
      cases h6 : D 6
      · have g6 := s6a h6
        simp -implicitDefEqProofs (disch := omega) only [go_sem, h1, h2, q1, g6, h8, ht, h9]
        refine callC_at (clone_ev s (by omega) (by omega)) ?_
        simp -implicitDefEqProofs (disch := omega) only [go_sem, h1, h2, q1, g6, h8, ht, h9]
        repeat' apply And.intro
        all_goals first | assumption | (intro h; rw [h6] at h; cases h; done) | (intro h; refine kill_of ?_ (by first | rfl | simp -implicitDefEqProofs (disch := omega) only [go_sem]); first | exact j0 h | exact j1 h | exact j2 h | exact j3 h | exact j4 h | exact j5 h) | (intro h; simp -implicitDefEqProofs (disch := omega) only [go_sem]; done) | (intros; trivial)
      · have g6 := s6b h6
        simp -implicitDefEqProofs (disch := omega) only [go_sem, h1, h2, q1, g6, h8, ht, h9]
        refine callC_at (clone_ev s (by omega) (by omega)) ?_
        simp -implicitDefEqProofs (disch := omega) only [go_sem, h1, h2, q1, g6, h8, ht, h9]
        repeat' apply And.intro
        all_goals first | assumption | (intro h; rw [h6] at h; cases h; done) | (intro h; refine kill_of ?_ (by first | rfl | simp -implicitDefEqProofs (disch := omega) only [go_sem]); first | exact j0 h | exact j1 h | exact j2 h | exact j3 h | exact j4 h | exact j5 h) | (intro h; simp -implicitDefEqProofs (disch := omega) only [go_sem]; done) | (intros; trivial)
    · rintro D hD hd E σ ⟨h1, h2, s6a, s6b, j0, j1, j2, j3, j4, j5⟩
      cases h6 : D 6
      · have g6 := s6a h6
        simp -implicitDefEqProofs (disch := omega) only [go_sem, h1, h2, g6, h8, ht, h9]
        repeat' apply And.intro
        all_goals first | assumption | (intro h; rw [h6] at h; cases h; done) | (intro h; refine kill_of ?_ (by first | rfl | simp -implicitDefEqProofs (disch := omega) only [go_sem]); first | exact j0 h | exact j1 h | exact j2 h | exact j3 h | exact j4 h | exact j5 h) | (intro h; simp -implicitDefEqProofs (disch := omega) only [go_sem]; done) | (intros; trivial)
      · have g6 := s6b h6
        simp -implicitDefEqProofs (disch := omega) only [go_sem, h1, h2, g6, h8, ht, h9]
        repeat' apply And.intro
        all_goals first | assumption | (intro h; rw [h6] at h; cases h; done) | (intro h; refine kill_of ?_ (by first | rfl | simp -implicitDefEqProofs (disch := omega) only [go_sem]); first | exact j0 h | exact j1 h | exact j2 h | exact j3 h | exact j4 h | exact j5 h) | (intro h; simp -implicitDefEqProofs (disch := omega) only [go_sem]; done) | (intros; trivial)
    · rintro D hD hd E σ ⟨h1, h2, s6a, s6b, j0, j1, j2, j3, j4, j5⟩
      have d3 : D 3 = true := hd ⟨3, .data⟩ (by simp) rfl
      have q3 := j3 d3
      cases h6 : D 6
      · have g6 := s6a h6
        simp -implicitDefEqProofs (disch := omega) only [go_sem, h1, h2, q3, g6, h8, ht, h9]
        repeat' apply And.intro
        all_goals first | assumption | (intro h; rw [h6] at h; cases h; done) | (intro h; refine kill_of ?_ (by first | rfl | simp -implicitDefEqProofs (disch := omega) only [go_sem]); first | exact j0 h | exact j1 h | exact j2 h | exact j3 h | exact j4 h | exact j5 h) | (intro h; simp -implicitDefEqProofs (disch := omega) only [go_sem]; done) | (intros; trivial)
      · have g6 := s6b h6
        simp -implicitDefEqProofs (disch := omega) only [go_sem, h1, h2, q3, g6, h8, ht, h9]
        repeat' apply And.intro
        all_goals first | assumption | (intro h; rw [h6] at h; cases h; done) | (intro h; refine kill_of ?_ (by first | rfl | simp -implicitDefEqProofs (disch := omega) only [go_sem]); first | exact j0 h | exact j1 h | exact j2 h | exact j3 h | exact j4 h | exact j5 h) | (intro h; simp -implicitDefEqProofs (disch := omega) only [go_sem]; done) | (intros; trivial)
    · rintro D hD hd E σ ⟨h1, h2, s6a, s6b, j0, j1, j2, j3, j4, j5⟩
      have d2 : D 2 = true := hd ⟨2, .data⟩ (by simp) rfl
      have q2 := j2 d2
      have d4 : D 4 = true := hd ⟨4, .data⟩ (by simp) rfl
      have q4 := j4 d4
      cases h6 : D 6
      · have g6 := s6a h6
        simp -implicitDefEqProofs (disch := omega) only [go_sem, h1, h2, q2, q4, g6, h8, ht, h9]
        repeat' apply And.intro
        all_goals first | assumption | (intro h; rw [h6] at h; cases h; done) | (intro h; refine kill_of ?_ (by first | rfl | simp -implicitDefEqProofs (disch := omega) only [go_sem]); first | exact j0 h | exact j1 h | exact j2 h | exact j3 h | exact j4 h | exact j5 h) | (intro h; simp -implicitDefEqProofs (disch := omega) only [go_sem]; done) | (intros; trivial)
      · have g6 := s6b h6
        simp -implicitDefEqProofs (disch := omega) only [go_sem, h1, h2, q2, q4, g6, h8, ht, h9]
        repeat' apply And.intro
        all_goals first | assumption | (intro h; rw [h6] at h; cases h; done) | (intro h; refine kill_of ?_ (by first | rfl | simp -implicitDefEqProofs (disch := omega) only [go_sem]); first | exact j0 h | exact j1 h | exact j2 h | exact j3 h | exact j4 h | exact j5 h) | (intro h; simp -implicitDefEqProofs (disch := omega) only [go_sem]; done) | (intros; trivial)
    · rintro D hD hd E σ ⟨h1, h2, s6a, s6b, j0, j1, j2, j3, j4, j5⟩
      have d5 : D 5 = true := hd ⟨5, .data⟩ (by simp) rfl
      have q5 := j5 d5
      cases h6 : D 6
      · have g6 := s6a h6
        simp -implicitDefEqProofs (disch := omega) only [go_sem, h1, h2, q5, g6, h8, ht, h9]
        repeat' apply And.intro
        all_goals first | assumption | (intro h; rw [h6] at h; cases h; done) | (intro h; refine kill_of ?_ (by first | rfl | simp -implicitDefEqProofs (disch := omega) only [go_sem]); first | exact j0 h | exact j1 h | exact j2 h | exact j3 h | exact j4 h | exact j5 h) | (intro h; simp -implicitDefEqProofs (disch := omega) only [go_sem]; done) | (intros; trivial)
      · rw [show D 6 = D (0 + 1 + 1 + 1 + 1 + 1 + 1) from rfl] at h6; rw [hD] at h6; cases h6
  · rintro D E σ hD ⟨h1, h2, s6a, s6b, j0, j1, j2, j3, j4, j5⟩
    have g6 := s6b (hD 6 (by decide))
    have q0 := j0 (hD 0 (by decide))
    have q1 := j1 (hD 1 (by decide))
    have q2 := j2 (hD 2 (by decide))
    have q3 := j3 (hD 3 (by decide))
    have q4 := j4 (hD 4 (by decide))
    have q5 := j5 (hD 5 (by decide))
    simp -implicitDefEqProofs (disch := omega) only [go_sem, h1, h2, g6, Tryd.results43]
end Go.Proofs.YtgbcfpcjljhijaaDoor
set_option maxRecDepth 100000
namespace Go.Proofs.YtgbcfpcjljhijaaDoor
open Go.Vai Go Go.Proofs
open Nat (reduceEqDiff reduceMul reduceAdd reduceDiv reduceLeDiff)
open Int (reduceToNat reduceNe reduceEq reduceLT reduceLE)
abbrev YP (p : List Tot) : List AV := [TPL p]
def pairL (l : List Tot) (i : Nat) : List Tot := (l.drop (2 * i)).take 2
def restP (l : List Tot) : Nat → Nat → List (List Tot)
  | _, 0 => []
  | i, n + 1 => pairL l i :: restP l (i + 1) n
@[go_sem] theorem namesL_pairs (p : Nat → Bool) (l : List (List Tot)) : AV.namesL p ((l.map YP).map .tup) = false := by
  rw [List.map_map]; exact namesL_map p l _ fun _ => rfl
theorem restP_tail {b : List Tot} {i n : Nat} {x : List AV} {rest : List (List AV)} (h : (restP b i n).map YP = x :: rest) : ∃ m, n = m + 1 ∧ x = YP (pairL b i) ∧ rest = (restP b (i + 1) m).map YP := by
  cases n with
  | zero => cases h
  | succ m => simp only [restP, List.map_cons, List.cons.injEq] at h; exact ⟨m, rfl, h.1.symm, h.2.symm⟩
theorem restP_nil {b : List Tot} {i n : Nat} (h : (restP b i n).map YP = []) : n = 0 := by
  cases n with
  | zero => rfl
  | succ m => simp [restP] at h
theorem chunkT_ev (b : List Tot) (k : Int) (hk : 1 ≤ k) : Ev Tryd.prog 76 [TPL b, I k] (.clo 103 [.pt (TPL b) 0, .pt (I k) 0]) := by
  refine ev_sl (r := .clo 103 [.nptr 85 1 [TPL b], .nptr 3 1 [I k]]) ?_ _
  refine ev_ofB [2] Tryd.func76 rfl (by kernel_rfl) mo (Nat.le_of_ble_eq_true rfl) ?_
  simp -implicitDefEqProofs (disch := omega) only [go_sem, Tryd.ntmps76]
  refine branch_mk (fun h => absurd h (by omega)) (fun h => ?_)
  simp -implicitDefEqProofs (disch := omega) only [go_sem, Tryd.results76]
theorem chunkT_sok (b : List Tot) (m : Nat) (hm : b.length = 2 * m) (hb : b.length ≤ 1000000000) (σ : Store) : SOK Tryd.prog 103 [.pt (TPL b) 0, .pt (I 2) 0] σ ((restP b 0 m).map YP) := by
  refine sok_of Tryd.func103 rfl (by kernel_rfl) mo (Nat.le_of_ble_eq_true rfl) ?_ rfl fun l => ?_
  · exact namesL_pairs allB _
  · simp -implicitDefEqProofs (disch := omega) only [go_sem, Tryd.ntmps103]
    refine loopC_mk (fun n E σ => ∃ i : Nat, i + n = m ∧ E 0 = .yld l ∧ E 1 = .pt (TPL b) 0 ∧ E 2 = .pt (I 2) 0 ∧ E 4 = I ((2 * i : Nat) : Int) ∧ E 31 = .tup (((restP b i n).map YP).map .tup)) m ⟨0, by omega, ?_⟩ ?_
    · simp -implicitDefEqProofs (disch := omega) only [go_sem]
      simp
    · rintro n E σ ⟨i, hi, h0, h1, h2, h4, h31⟩
      simp -implicitDefEqProofs (disch := omega) only [go_sem, h0, h1, h2, h4, h31]
      cases n with
      | zero =>
        refine branch_r (by omega) ?_
        simp -implicitDefEqProofs (disch := omega) only [go_sem, h0, h1, h2, h4, h31]
        exact .inl rfl
      | succ n =>
        have hmin : min (2 : Int) ((min (b.length - 2 * i) (b.length - 2 * i) : Nat) : Int) = 2 := by omega
        have hc : ((2 * i : Nat) : Int) + 2 = ((2 * i + 2 : Nat) : Int) := by omega
        rw [restP] at h31
        refine branch_l (by omega) ?_
        simp -implicitDefEqProofs (disch := omega) only [go_sem, h0, h1, h2, h4, h31, List.length_take, List.length_drop, hmin, hc]
        refine slice3_mk (sz := 9) (es := b.map TP) (2 * i) (2 * i + 2) (km := .i64) (by simp -implicitDefEqProofs (disch := omega) only [go_sem, h1]) tel_85 tsz_81 (by decide) (by simp -implicitDefEqProofs (disch := omega) only [go_sem]) (by simp)
          (boundA_of (k := .i64) (n := ((2 * i + 2 : Nat) : Int)) (by simp -implicitDefEqProofs (disch := omega) only [go_sem]) (by omega) (boundA_of (k := .i64) (n := ((2 * i : Nat) : Int)) (by simp -implicitDefEqProofs (disch := omega) only [go_sem]) (by omega) ⟨by omega, by omega, by omega, by rw [List.length_map]; omega⟩)) ?_
        have hp : (b.drop (2 * i)).take (2 * i + 2 - 2 * i) = pairL b i := by rw [show 2 * i + 2 - 2 * i = 2 from by omega]; rfl
        simp -implicitDefEqProofs (disch := omega) only [go_sem, h0, h1, h2, h4, h31, hmin, hc, hp]
        have h64 : 2 * (i + 1) = 2 * i + 2 := by omega
        refine ⟨againQ_mk n (by omega) ⟨i + 1, by omega, ?_⟩, ?_⟩
        · simp -implicitDefEqProofs (disch := omega) only [go_sem, h0, h1, h2, h4, h31, hmin, hc, hp, h64]
        · exact .inr trivial
theorem pairL_at (l : List Tot) (i : Nat) (h : 2 * i + 1 < l.length) : pairL l i = [gd l (2 * i), gd l (2 * i + 1)] := by
  refine List.ext_getElem? fun k => ?_
  unfold pairL
  rw [List.getElem?_take]
  by_cases hk : k < 2
  · rw [if_pos hk, List.getElem?_drop]
    rcases (show k = 0 ∨ k = 1 by omega) with rfl | rfl
    · rw [Nat.add_zero, gd_some l _ (by omega)]; rfl
    · rw [gd_some l _ (by omega)]; rfl
  · rw [if_neg hk, List.getElem?_eq_none (by simp; omega)]
theorem pairsT_take (l : List Tot) (i : Nat) (h : 2 * i + 1 < l.length) : pairsT (l.take (2 * (i + 1))) = pairsT (l.take (2 * i)) ++ [joinT (gd l (2 * i)) (gd l (2 * i + 1))] := by
  refine gd_ext ?_ fun j hj => ?_
  · rw [List.length_append, pairsT_length, pairsT_length, List.length_take, List.length_take, List.length_singleton]; omega
  · rw [pairsT_length, List.length_take] at hj
    rw [pairsT_gd _ _ (by rw [List.length_take]; omega), gd_take _ _ _ (by omega), gd_take _ _ _ (by omega)]
    by_cases e : j < i
    · rw [gd_append_left _ _ _ (by rw [pairsT_length, List.length_take]; omega), pairsT_gd _ _ (by rw [List.length_take]; omega), gd_take _ _ _ (by omega), gd_take _ _ _ (by omega)]
    · obtain rfl : j = i := by omega
      rw [gd_append_right _ _ _ (by rw [pairsT_length, List.length_take]; omega), pairsT_length, List.length_take, show j - min (2 * j) l.length / 2 = 0 from by omega]; rfl
end Go.Proofs.YtgbcfpcjljhijaaDoor
set_option maxRecDepth 100000
namespace Go.Proofs.YtgbcfpcjljhijaaDoor
open Go.Vai Go Go.Proofs
open Nat (reduceEqDiff reduceMul reduceAdd reduceDiv reduceLeDiff)
open Int (reduceToNat reduceNe reduceEq reduceLT reduceLE)
abbrev LP (key : ByteArray) (l : List Ch) : AV := .agg [Str key, CL l]
theorem rows_ev (key : ByteArray) (l : List Ch) : Ev Tryd.prog 42 [LP key l] (.clo 75 [.pt (LP key l) 0]) := by
  refine ev_sl (r := .clo 75 [.nptr 26 2 [LP key l]]) ?_ _
  refine ev_of Tryd.func42 rfl (by kernel_rfl) mo (Nat.le_of_ble_eq_true rfl) ?_
  simp -implicitDefEqProofs (disch := omega) only [go_sem, Tryd.ntmps42]
  simp -implicitDefEqProofs (disch := omega) only [go_sem, Tryd.results42]
def restR (key : ByteArray) (l : List Ch) : Nat → Nat → List (List Tot)
  | _, 0 => []
  | k, n + 1 => rowT key l k :: restR key l (k + 1) n
theorem row0_take (key : ByteArray) (l : List Ch) (v : Nat) (hv : v < 64) : (rowT key l 0).take (v + 1) = (rowT key l 0).take v ++ [leafK key l v] := by
  rw [List.take_add_one, gd_some _ v (by rw [rowT_length key l 0 (by omega)]; omega)]
  have : gd (rowT key l 0) v = leafK key l (v : Int) := by unfold rowT gd; simp [hv]
  rw [this]; rfl
theorem only_nil (σ : Store) : only (inI []) σ = stO [] := by
  funext id; rfl
set_option maxHeartbeats 4000000 in
theorem rows_sok (key : ByteArray) (l : List Ch) (hk : key.size ≤ 1000) (hl : ∀ c ∈ l, c.ok) (hn : l.length ≤ 60) : SOK Tryd.prog 75 [.pt (LP key l) 0] (stO []) ((restR key l 0 7).map YP) := by
  refine sok_ofB [6] Tryd.func75 rfl (by kernel_rfl) mo (Nat.le_of_ble_eq_true rfl) rfl ?_ rfl fun y => ?_
  · exact namesL_pairs allB _
  · simp -implicitDefEqProofs (disch := omega) only [go_sem, Tryd.ntmps75]
    refine loopC_mk (fun n E σ => ∃ v : Nat, v + n = 64 ∧ E 0 = .yld y ∧ E 1 = .pt (LP key l) 0 ∧ E 7 = I v ∧ E 45 = .tup (((restR key l 0 7).map YP).map .tup) ∧ E 3 = .own 159383600 9 0 v ∧ σ 159383600 = some ⟨81, 9, ((rowT key l 0).take v).map TP⟩) 64 ⟨0, by omega, ?_⟩ ?_
    · simp -implicitDefEqProofs (disch := omega) only [go_sem]
      simp
    · rintro n E σ ⟨v, hv, h0, h1, h7, h45, h3, sB⟩
      simp -implicitDefEqProofs (disch := omega) only [go_sem, h0, h1, h7, h45]
      refine branch_mk (fun hc => ?_) (fun hc => ?_)
      · have hlt : v < 64 := by omega
        have htk := row0_take key l v hlt
        have hsz := nodeF_size key (leafF (viS v))
        have hrl := rowT_length key l 0 (by omega)
        simp -implicitDefEqProofs (disch := omega) only [go_sem, h0, h1, h7, h45]
        refine callC_at (salt_ev key v (by omega) (by omega) (by omega)) ?_
        simp -implicitDefEqProofs (disch := omega) only [go_sem, h0, h1, h7, h45]
        refine callC_at (of_ev l v (by omega)) ?_ (h4 := .inr (dn_CL _))
        simp -implicitDefEqProofs (disch := omega) only [go_sem, h0, h1, h7, h45]
        refine callC_at (leafT_at (saltF key v) (ofF l v) hsz (ofF_ok hl v) (Nat.le_trans (ofF_len l v) (by omega))) ?_ (h4 := .inr (dn_TP _))
        have hlk : leafT (saltF key v) (ofF l v) = leafK key l v := rfl
        rw [hlk]
        have hl8 : (leafK key l v).1.length = 8 := sumsF_len _
        generalize leafK key l v = t at *
        obtain ⟨s, d⟩ := t
        have hvl : ((rowT key l 0).take v).length = v := by rw [List.length_take, hrl]; omega
        have happ : ((rowT key l 0).take v).map TP ++ [TP (s, d)] = ((rowT key l 0).take (v + 1)).map TP := by rw [htk]; simp
        have h8 : s.length = 8 := hl8
        simp -implicitDefEqProofs (disch := omega) only [go_sem, h0, h1, h7, h45, h3, sB, hvl, h8]
        refine againQ_mk (n - 1) (by omega) ⟨v + 1, by omega, ?_⟩
        rw [← happ]
        simp -implicitDefEqProofs (disch := omega) only [go_sem, h0, h1, h7, h45, h3, sB, hvl, h8, List.take_length]
        simp
      · have e : v = 64 := by omega
        subst e
        have htk : (rowT key l 0).take 64 = rowT key l 0 := List.take_of_length_le (by rw [rowT_length key l 0 (by omega)]; omega)
        rw [htk] at sB
        simp -implicitDefEqProofs (disch := omega) only [go_sem, h0, h1, h7, h45, h3, sB]
        refine loopC_mk (fun n E σ => ∃ k x : Nat, k + n = 6 ∧ (x = 159383600 ∨ x = 159383633) ∧ E 0 = .yld y ∧ E 1 = .pt (LP key l) 0 ∧ E 45 = .tup (((restR key l k (n + 1)).map YP).map .tup) ∧ E 3 = .own x 9 0 (2 ^ n) ∧ σ x = some ⟨81, 9, (rowT key l k).map TP⟩) 6 ⟨0, 159383600, by omega, .inl rfl, ?_⟩ ?_
        · simp -implicitDefEqProofs (disch := omega) only [go_sem, h0, h1, h7, h45, h3, sB]
        · clear h0 h1 h7 h45 h3 sB hc htk E σ
          rintro n E σ ⟨k, x, hkn, hx, h0, h1, h45, h3, sB⟩
          have hrl := rowT_length key l k (by omega)
          rw [show 6 - k = n from by omega] at hrl
          have hrk := rowT_mem key hl hn k (by omega)
          have hp64 : 2 ^ n ≤ 64 := by
            have : 2 ^ n ≤ 2 ^ 6 := Nat.pow_le_pow_right (by omega) (by omega)
            simpa using this
          rw [restR] at h45
          have htk : (rowT key l k).take (2 ^ n) = rowT key l k := List.take_of_length_le (by omega)
          have hfr : ∀ (L : Nat → Bool) (σ : Store), frz L (inL []) σ (.tup (.tup (YP (rowT key l k)) :: ((restR key l (k + 1) n).map YP).map .tup)) = .tup (.tup (YP (rowT key l k)) :: ((restR key l (k + 1) n).map YP).map .tup) := fun L σ => frz_free (c := .tup (((rowT key l k :: restR key l (k + 1) n).map YP).map .tup)) (namesL_pairs allB (rowT key l k :: restR key l (k + 1) n)) L (inL []) σ
          rcases hx with rfl | rfl
          all_goals
            simp -implicitDefEqProofs (disch := omega) only [go_sem, h0, h1, h45, h3, sB]
            refine freeze_reg (spZ_mono _ _ _ _ _) [159383600, 159383633] ?_
            simp -implicitDefEqProofs (disch := omega) only [go_sem, h0, h1, h45, h3, sB, htk, hrl, hfr]
            refine ⟨?_, .inr trivial⟩
            refine branch_mk (fun hb => ?_) (fun hb => ?_)
            · obtain ⟨m, rfl⟩ : ∃ m, n = m + 1 := ⟨n - 1, by
                have : n ≠ 0 := fun e => by subst e; simp at hb
                omega⟩
              have hm2 : 2 ^ (m + 1) = 2 * 2 ^ m := by rw [Nat.pow_succ]; omega
              simp -implicitDefEqProofs (disch := omega) only [go_sem, h0, h1, h45, h3, sB, htk, hrl, hfr]
              refine callC_at (chunkT_ev (rowT key l k) 2 (by omega)) ?_
              simp -implicitDefEqProofs (disch := omega) only [go_sem, h0, h1, h45, h3, sB, htk, hrl, hfr]
              refine awpC_range ?_
              refine range_mk [] [159383632] 9961572 ((restP (rowT key l k) 0 (2 ^ m)).map YP) (fun xs σ => ∃ i n : Nat, i + n = 2 ^ m ∧ xs = (restP (rowT key l k) i n).map YP ∧ σ 159383632 = some ⟨85, 1, [.own 159383633 9 0 i]⟩ ∧ σ 159383633 = some ⟨81, 9, (pairsT ((rowT key l k).take (2 * i))).map TP⟩)
                (g := 103) (caps := [.pt (TPL (rowT key l k)) 0, .pt (I 2) 0]) ?_ ?_ ?_ ?_ ?_ ?_ ?_ ?_
              · simp -implicitDefEqProofs (disch := omega) only [go_sem]
              · exact chunkT_sok _ (2 ^ m) (by omega) (by omega) _
              · intro x hx
                obtain ⟨y, _, rfl⟩ := List.mem_map.1 hx
                rfl
              · simp -implicitDefEqProofs (disch := omega) only [go_sem]
              · simp -implicitDefEqProofs (disch := omega) only [go_sem]
              · refine ⟨0, 2 ^ m, by omega, rfl, ?_⟩
                simp -implicitDefEqProofs (disch := omega) only [go_sem]
                rfl
              · rintro E0 hE0 y' rest σ' ⟨i, n, hin, hxs, sC, sX⟩
                have e5 : E0 5 = .ptr 159383632 1 0 0 := by rw [hE0]; simp -implicitDefEqProofs (disch := omega) only [go_sem]
                clear hE0 h0 h1 h45 h3 sB
                obtain ⟨k', rfl, rfl, rfl⟩ := restP_tail hxs.symm
                rw [pairL_at _ _ (by omega)]
                have t1 := hrk _ (gd_mem (rowT key l k) (2 * i) (by omega))
                have t2 := hrk _ (gd_mem (rowT key l k) (2 * i + 1) (by omega))
                have hpt := pairsT_take (rowT key l k) i (by omega)
                have hpl : (pairsT ((rowT key l k).take (2 * i))).length = i := by rw [pairsT_length, List.length_take]; omega
                have hjl : (joinT (gd (rowT key l k) (2 * i)) (gd (rowT key l k) (2 * i + 1))).1.length = 8 := joinS_length _ _
                have hj := join_at (t1.mono (C := 1000000000000000) (by omega)) (t2.mono (C := 1000000000000000) (by omega))
                generalize pairsT ((rowT key l k).take (2 * i)) = q at *
                generalize gd (rowT key l k) (2 * i) = a at *
                generalize gd (rowT key l k) (2 * i + 1) = b at *
                generalize joinT a b = c at *
                obtain ⟨cs, cd⟩ := c
                have hjl : cs.length = 8 := hjl
                have hqt : q.take i = q := List.take_of_length_le (by omega)
                have ha8 := t1.1
                have hb8 := t2.1
                have ha9 : (a.1.map I ++ [Str a.2]).take 9 = a.1.map I ++ [Str a.2] := List.take_of_length_le (by simp [ha8])
                have hb9 : (b.1.map I ++ [Str b.2]).take 9 = b.1.map I ++ [Str b.2] := List.take_of_length_le (by simp [hb8])
                simp -implicitDefEqProofs (disch := omega) only [go_sem, e5, sC, sX, ha8, hb8, ha9, hb9]
                refine callC_at hj ?_ (h4 := .inr (dn_TP _))
                simp -implicitDefEqProofs (disch := omega) only [go_sem, e5, sC, sX, hpl, hjl, hqt]
                refine ⟨inL [], fun _ _ => rfl, i + 1, k', by omega, rfl, ?_⟩
                rw [hpt]
                simp -implicitDefEqProofs (disch := omega) only [go_sem, inL_nil]
              · rintro E0 hE0 σ' ⟨i, n, hin, hxs, sC, sX⟩
                have e0 : E0 0 = .yld y := by rw [hE0]; simp -implicitDefEqProofs (disch := omega) only [go_sem, h0]
                have e5 : E0 5 = .ptr 159383632 1 0 0 := by rw [hE0]; simp -implicitDefEqProofs (disch := omega) only [go_sem]
                have e1 : E0 1 = .pt (LP key l) 0 := by rw [hE0]; simp -implicitDefEqProofs (disch := omega) only [go_sem, h1]
                have e45 : E0 45 = .tup (((restR key l (k + 1) (m + 1)).map YP).map .tup) := by
                  rw [hE0]; simp -implicitDefEqProofs (disch := omega) only [go_sem]
                  exact fade_free (inI [159383632]) (a := .tup (((restR key l (k + 1) (m + 1)).map YP).map .tup)) (namesL_pairs allB _)
                have hn := restP_nil hxs.symm
                subst hn
                obtain rfl : i = 2 ^ m := by omega
                have hall : pairsT ((rowT key l k).take (2 * 2 ^ m)) = rowT key l (k + 1) := by rw [List.take_of_length_le (by omega)]; rfl
                rw [hall] at sX
                simp -implicitDefEqProofs (disch := omega) only [go_sem, e0, e1, e5, e45, sC, sX]
                refine againQ_mk m (by omega) ⟨k + 1, 159383633, by omega, .inr rfl, ?_⟩
                simp -implicitDefEqProofs (disch := omega) only [go_sem, e0, e1, e5, e45, sC, sX]
            · obtain rfl : n = 0 := by
                rcases n with _ | n
                · rfl
                · exact absurd (show (1 : Int) < ((2 ^ (n + 1) : Nat) : Int) by rw [Nat.pow_succ]; have := Nat.two_pow_pos n; omega) hb
              simp -implicitDefEqProofs (disch := omega) only [go_sem, h0, h1, h45, h3, sB, htk, hrl, hfr]
              exact .inl rfl
end Go.Proofs.YtgbcfpcjljhijaaDoor
set_option maxRecDepth 100000
namespace Go.Proofs.YtgbcfpcjljhijaaDoor
open Go.Vai Go Go.Proofs
open Nat (reduceEqDiff reduceMul reduceAdd reduceDiv reduceLeDiff)
open Int (reduceToNat reduceNe reduceEq reduceLT reduceLE)
theorem restR_tail {key : ByteArray} {l : List Ch} {k n : Nat} {x : List AV} {rest : List (List AV)} (h : (restR key l k n).map YP = x :: rest) : ∃ m, n = m + 1 ∧ x = YP (rowT key l k) ∧ rest = (restR key l (k + 1) m).map YP := by
  cases n with
  | zero => cases h
  | succ m => simp only [restR, List.map_cons, List.cons.injEq] at h; exact ⟨m, rfl, h.1.symm, h.2.symm⟩
theorem restR_nil {key : ByteArray} {l : List Ch} {k n : Nat} (h : (restR key l k n).map YP = []) : n = 0 := by
  cases n with
  | zero => rfl
  | succ m => simp [restR] at h
def ledOK (key : ByteArray) (l : List Ch) : Bool := decide (key.size = 32) && chsOK l
theorem sealOK_ev (key : ByteArray) (l : List Ch) (hl : l.length ≤ 9223372036854775807) (h : ledOK key l = true) : Ev Tryd.prog 15 [LP key l] (.tup [RP (sealT key l), I 0]) := by
  have h' := h
  simp only [ledOK, Bool.and_eq_true, decide_eq_true_eq] at h'
  obtain ⟨hk, hc⟩ := h'
  obtain ⟨hn, hok⟩ := chsOK_iff l hc
  refine ev_of Tryd.func15 rfl (by kernel_rfl) mo (Nat.le_of_ble_eq_true rfl) ?_
  simp -implicitDefEqProofs (disch := omega) only [go_sem, Tryd.ntmps15]
  have hv := valid_ev key l hl
  rw [show (decide (key.size = 32) && chsOK l) = true from h] at hv
  refine callC_at hv ?_
  simp -implicitDefEqProofs (disch := omega) only [go_sem]
  refine callC_at (rows_ev key l) ?_
  simp -implicitDefEqProofs (disch := omega) only [go_sem]
  refine awpC_range ?_
  refine range_mk [] [33554464, 33554496] 2097252 ((restR key l 0 7).map YP) (fun xs σ => ∃ k n : Nat, k + n = 7 ∧ xs = (restR key l k n).map YP ∧ σ 33554464 = some ⟨35, 2, [.agg [.v (.slice none 0 0), .v (.string ByteArray.empty)]]⟩ ∧ ∃ t : Tot, t.1.length = 8 ∧ σ 33554496 = some ⟨81, 9, [TP t]⟩ ∧ (0 < k → t = gd (rowT key l (k - 1)) 0))
    (g := 75) (caps := [.pt (LP key l) 0]) ?_ ?_ ?_ ?_ ?_ ?_ ?_ ?_
  · simp -implicitDefEqProofs (disch := omega) only [go_sem]
  · rw [only_nil]; exact rows_sok key l (by omega) hok hn
  · intro x hx
    obtain ⟨y, _, rfl⟩ := List.mem_map.1 hx
    rfl
  · simp -implicitDefEqProofs (disch := omega) only [go_sem]
  · simp -implicitDefEqProofs (disch := omega) only [go_sem]
  · refine ⟨0, 7, by omega, rfl, ?_, (List.replicate 8 0, ⟨#[]⟩), by simp, ?_, by omega⟩
    · simp -implicitDefEqProofs (disch := omega) only [go_sem]
    · simp -implicitDefEqProofs (disch := omega) only [go_sem]
      rfl
  · rintro E0 hE0 y' rest σ' ⟨k, n, hin, hxs, s2, t, ht8, s4, hlast⟩
    have e4 : E0 4 = .ptr 33554496 9 0 0 := by rw [hE0]; simp -implicitDefEqProofs (disch := omega) only [go_sem]
    clear hE0
    obtain ⟨k', rfl, rfl, rfl⟩ := restR_tail hxs.symm
    have hrl := rowT_length key l k (by omega)
    have hp := Nat.two_pow_pos (6 - k)
    have t1 := rowT_mem key hok hn k (by omega) _ (gd_mem (rowT key l k) 0 (by omega))
    have ha8 := t1.1
    generalize hga : gd (rowT key l k) 0 = a at *
    have ha9 : (a.1.map I ++ [Str a.2]).take 9 = a.1.map I ++ [Str a.2] := List.take_of_length_le (by simp [ha8])
    simp -implicitDefEqProofs (disch := omega) only [go_sem, e4, s4, s2, ha8, ha9, hrl, hga]
    refine ⟨inL [], fun _ _ => rfl, k + 1, k', by omega, rfl, ?_, a, ha8, ?_, fun _ => by rw [Nat.add_sub_cancel]; exact hga.symm⟩
    · simp -implicitDefEqProofs (disch := omega) only [go_sem, inL_nil, s2]
    · simp -implicitDefEqProofs (disch := omega) only [go_sem, inL_nil, ht8]
  · rintro E0 hE0 σ' ⟨k, n, hin, hxs, s2, t, ht8, s4, hlast⟩
    have e4 : E0 4 = .ptr 33554496 9 0 0 := by rw [hE0]; simp -implicitDefEqProofs (disch := omega) only [go_sem]
    have e2 : E0 2 = .ptr 33554464 2 0 0 := by rw [hE0]; simp -implicitDefEqProofs (disch := omega) only [go_sem]
    clear hE0
    have hn0 := restR_nil hxs.symm
    subst hn0
    obtain rfl : k = 7 := by omega
    have hs : t = sealT key l := hlast (by omega)
    subst hs
    have ha9 : ((sealT key l).1.map I ++ [Str (sealT key l).2]).take 9 = (sealT key l).1.map I ++ [Str (sealT key l).2] := List.take_of_length_le (by simp [ht8])
    simp -implicitDefEqProofs (disch := omega) only [go_sem, e4, s4, s2, e2, ht8, ha9]
    refine callC_at (shown_ev (sealT key l) ht8) ?_
    simp -implicitDefEqProofs (disch := omega) only [go_sem, e4, s4, s2, e2, ht8, ha9, Tryd.results15]
end Go.Proofs.YtgbcfpcjljhijaaDoor
set_option maxRecDepth 100000
namespace Go.Proofs.YtgbcfpcjljhijaaDoor
open Go.Vai Go Go.Proofs
open Nat (reduceEqDiff reduceMul reduceAdd reduceDiv reduceLeDiff)
open Int (reduceToNat reduceNe reduceEq reduceLT reduceLE)
theorem xor_sib (i : Nat) (h : i < 64) : bitsI .xor .i64 (i : Int) 1 = (sibN i : Nat) := by
  have key : ∀ i : Fin 64, bitsI .xor .i64 ((i.1 : Nat) : Int) 1 = ((sibN i.1 : Nat) : Int) := by decide +kernel
  exact key ⟨i, h⟩
def pathN (key : ByteArray) (l : List Ch) (h k : Nat) : List Tot := (List.range (min k 6)).map fun k => gd (rowT key l k) (sibN (h / 2 ^ k))
theorem pathN_succ (key : ByteArray) (l : List Ch) (h k : Nat) (hk : k < 6) : pathN key l h (k + 1) = pathN key l h k ++ [gd (rowT key l k) (sibN (h / 2 ^ k))] := by
  unfold pathN
  rw [show min (k + 1) 6 = min k 6 + 1 from by omega, List.range_succ, List.map_append, show min k 6 = k from by omega]; rfl
theorem sib_lt {h k : Nat} (h63 : h < 64) (hk : k < 6) : sibN (h / 2 ^ k) < 2 ^ (6 - k) ∧ h / 2 ^ k < 64 := by
  have hlt : h / 2 ^ k < 2 ^ (6 - k) := by
    rw [Nat.div_lt_iff_lt_mul (Nat.two_pow_pos k), ← Nat.pow_add, show 6 - k + k = 6 from by omega]; omega
  have h2 : 2 ^ (6 - k) = 2 * 2 ^ (6 - (k + 1)) := by rw [show 6 - k = (6 - (k + 1)) + 1 from by omega, Nat.pow_succ]; omega
  have h3 : h / 2 ^ k ≤ h := Nat.div_le_self _ _
  generalize 2 ^ (6 - (k + 1)) = M at *
  generalize 2 ^ (6 - k) = N at *
  generalize h / 2 ^ k = x at *
  refine ⟨?_, by omega⟩
  unfold sibN; split <;> omega
theorem accOK_ev (key : ByteArray) (l : List Ch) (h : Nat) (hl : l.length ≤ 9223372036854775807) (hled : ledOK key l = true) (h63 : h < 64) : Ev Tryd.prog 26 [LP key l, I h] (.tup [AP (ownA key l h), I 0]) := by
  have h' := hled
  simp only [ledOK, Bool.and_eq_true, decide_eq_true_eq] at h'
  obtain ⟨hk, hc⟩ := h'
  obtain ⟨hn, hok⟩ := chsOK_iff l hc
  refine ev_ofB [10] Tryd.func26 rfl (by kernel_rfl) mo (Nat.le_of_ble_eq_true rfl) ?_
  simp -implicitDefEqProofs (disch := omega) only [go_sem, Tryd.ntmps26]
  have hv := valid_ev key l hl
  rw [show (decide (key.size = 32) && chsOK l) = true from hled] at hv
  refine callC_at hv ?_
  simp -implicitDefEqProofs (disch := omega) only [go_sem]
  have hw := within_ev h 0 63
  rw [show inF h 0 63 = true from by simp [inF]; omega] at hw
  refine callC_at hw ?_
  simp -implicitDefEqProofs (disch := omega) only [go_sem]
  refine callC_at (of_ev l h (by omega)) ?_ (h4 := .inr (dn_CL _))
  simp -implicitDefEqProofs (disch := omega) only [go_sem]
  refine callC_at (salt_ev key h (by omega) (by omega) (by omega)) ?_
  simp -implicitDefEqProofs (disch := omega) only [go_sem]
  generalize hof : ofF l h = own at *
  generalize hsa : saltF key h = salt at *
  refine callC_sem rfl ?_
  refine nilOwn_sem 56623200 56623201 0 3 35 2 (k := ⟨51, 4, [.agg [I h, CL own, Str salt, .v (.slice none 0 0)]]⟩) (el := .agg [I h, CL own, Str salt, .v (.slice none 0 0)]) (by simp -implicitDefEqProofs (disch := omega) only [go_sem]) (by decide) rfl rfl (by simp) (by simp -implicitDefEqProofs (disch := omega) only [go_sem]) rfl ?_
  refine op_mk ?_
  simp -implicitDefEqProofs (disch := omega) only [go_sem]
  refine callC_at (rows_ev key l) ?_
  simp -implicitDefEqProofs (disch := omega) only [go_sem]
  refine awpC_range ?_
  refine range_mk [] [56623168, 56623200, 56623216] 3539044 ((restR key l 0 7).map YP) (fun xs σ => ∃ k n : Nat, k + n = 7 ∧ xs = (restR key l k n).map YP ∧ σ 56623168 = some ⟨51, 4, [.agg [I 0, .v (.slice none 0 0), Str ByteArray.empty, .v (.slice none 0 0)]]⟩ ∧ σ 56623216 = some ⟨3, 1, [I ((h / 2 ^ k : Nat) : Int)]⟩ ∧ σ 56623200 = some ⟨51, 4, [.agg [I h, CL own, Str salt, .own 56623201 2 0 (pathN key l h k).length]]⟩ ∧ σ 56623201 = some ⟨35, 2, (pathN key l h k).map RP⟩)
    (g := 75) (caps := [.pt (LP key l) 0]) ?_ ?_ ?_ ?_ ?_ ?_ ?_ ?_
  · simp -implicitDefEqProofs (disch := omega) only [go_sem]
  · rw [only_nil]; exact rows_sok key l (by omega) hok hn
  · intro x hx
    obtain ⟨y, _, rfl⟩ := List.mem_map.1 hx
    rfl
  · simp -implicitDefEqProofs (disch := omega) only [go_sem]
  · simp -implicitDefEqProofs (disch := omega) only [go_sem]
  · refine ⟨0, 7, by omega, rfl, ?_⟩
    simp -implicitDefEqProofs (disch := omega) only [go_sem]
    simp [pathN]
    rfl
  · rintro E0 hE0 y' rest σ' ⟨k, n, hin, hxs, s4, s7, s6, sP⟩
    have e6 : E0 6 = .ptr 56623200 4 0 0 := by rw [hE0]; simp -implicitDefEqProofs (disch := omega) only [go_sem]
    have e7 : E0 7 = .ptr 56623216 1 0 0 := by rw [hE0]; simp -implicitDefEqProofs (disch := omega) only [go_sem]
    clear hE0
    obtain ⟨k', rfl, rfl, rfl⟩ := restR_tail hxs.symm
    have hrl := rowT_length key l k (by omega)
    have hpl : (pathN key l h k).length ≤ 6 := by simp [pathN]; omega
    have hdiv : (((h / 2 ^ k : Nat) : Int)).tdiv 2 = ((h / 2 ^ (k + 1) : Nat) : Int) := by
      rw [Nat.pow_succ, ← Nat.div_div_eq_div_mul, Int.tdiv_eq_ediv_of_nonneg (Int.natCast_nonneg _)]
      generalize h / 2 ^ k = x
      omega
    have hdl : h / 2 ^ k ≤ h := Nat.div_le_self _ _
    have hdl2 : h / 2 ^ (k + 1) ≤ h := Nat.div_le_self _ _
    have hxs : k < 6 → bitsI .xor .i64 ((h / 2 ^ k : Nat) : Int) 1 = (sibN (h / 2 ^ k) : Nat) := fun hk => xor_sib _ (sib_lt h63 hk).2
    have hsl : k < 6 → sibN (h / 2 ^ k) < 2 ^ (6 - k) := fun hk => (sib_lt h63 hk).1
    have hpn : k < 6 → pathN key l h (k + 1) = pathN key l h k ++ [gd (rowT key l k) (sibN (h / 2 ^ k))] := pathN_succ key l h k
    generalize hx : h / 2 ^ k = x at *
    generalize hx1 : h / 2 ^ (k + 1) = x1 at *
    simp -implicitDefEqProofs (disch := omega) only [go_sem, e6, e7, s6, s7, sP, hrl]
    refine branch_mk (fun hb => ?_) (fun hb => ?_)
    · have hk6 : k < 6 := by
        rcases Nat.lt_or_ge k 6 with h6 | h6
        · exact h6
        · obtain rfl : k = 6 := by omega
          simp at hb
      have hs1 := hsl hk6
      have hxs := hxs hk6
      have hpn := hpn hk6
      have hp64 : 2 ^ (6 - k) ≤ 64 := by
        have : 2 ^ (6 - k) ≤ 2 ^ 6 := Nat.pow_le_pow_right (by omega) (by omega)
        simpa using this
      have t1 := rowT_mem key hok hn k (by omega) _ (gd_mem (rowT key l k) (sibN x) (by omega))
      have ha8 := t1.1
      generalize hga : gd (rowT key l k) (sibN x) = a at *
      have ha9 : (a.1.map I ++ [Str a.2]).take 9 = a.1.map I ++ [Str a.2] := List.take_of_length_le (by simp [ha8])
      simp -implicitDefEqProofs (disch := omega) only [go_sem, e6, e7, s6, s7, sP, hrl, hxs, hga, ha8, ha9, hdiv]
      refine callC_at (shown_ev a ha8) ?_ (h4 := .inr (dn_RP _))
      simp -implicitDefEqProofs (disch := omega) only [go_sem, e6, e7, s6, s7, sP, hrl, hxs, hga, ha8, ha9, hdiv, List.take_length]
      refine ⟨inL [], fun _ _ => rfl, k + 1, k', by omega, rfl, ?_⟩
      rw [hpn, hx1]
      simp -implicitDefEqProofs (disch := omega) only [go_sem, inL_nil, s4, and_self, AV.namesB, AV.namesL]
    · obtain rfl : k = 6 := by
        rcases Nat.lt_or_ge k 6 with h6 | h6
        · have : 2 ^ 1 ≤ 2 ^ (6 - k) := Nat.pow_le_pow_right (by omega) (by omega)
          omega
        · omega
      simp -implicitDefEqProofs (disch := omega) only [go_sem, e6, e7, s6, s7, sP, hrl, hdiv]
      refine ⟨inL [], fun _ _ => rfl, 7, k', by omega, rfl, ?_⟩
      rw [show pathN key l h 7 = pathN key l h 6 from rfl, hx1]
      simp -implicitDefEqProofs (disch := omega) only [go_sem, inL_nil, s4, s6, sP]
  · rintro E0 hE0 σ' ⟨k, n, hin, hxs, s4, s7, s6, sP⟩
    have e4 : E0 4 = .ptr 56623168 4 0 0 := by rw [hE0]; simp -implicitDefEqProofs (disch := omega) only [go_sem]
    have e6 : E0 6 = .ptr 56623200 4 0 0 := by rw [hE0]; simp -implicitDefEqProofs (disch := omega) only [go_sem]
    clear hE0
    have hn0 := restR_nil hxs.symm
    subst hn0
    obtain rfl : k = 7 := by omega
    have hpp : pathN key l h 7 = pathT key l h := rfl
    rw [hpp] at s6 sP
    refine freeze_reg Plain.mono [56623200, 56623201] ?_
    simp -implicitDefEqProofs (disch := omega) only [go_sem, e4, e6, s4, s6, sP, List.take_length]
    simp -implicitDefEqProofs (disch := omega) only [go_sem, e4, e6, s4, s6, sP, List.take_length, Tryd.results26]
    rw [← hof, ← hsa]; rfl
end Go.Proofs.YtgbcfpcjljhijaaDoor
set_option maxRecDepth 100000
namespace Go.Proofs.YtgbcfpcjljhijaaDoor
open Go.Vai Go Go.Proofs
open Nat (reduceEqDiff reduceMul reduceAdd reduceDiv reduceLeDiff)
open Int (reduceToNat reduceNe reduceEq reduceLT reduceLE)
theorem large_ev (n : Int) : Ev Tryd.prog 94 [I n] (B (!inF n (-1000000000000) 1000000000000)) := by
  refine ev_of Tryd.func94 rfl (by kernel_rfl) mo (Nat.le_of_ble_eq_true rfl) ?_
  simp -implicitDefEqProofs (disch := omega) only [go_sem, Tryd.ntmps94]
  refine callC_at (within_ev n (-1000000000000) 1000000000000) ?_
  simp -implicitDefEqProofs (disch := omega) only [go_sem, Tryd.results94]
def findI (l : List Int) (v : Nat) : Nat → Int
  | 0 => -1
  | n + 1 => if inF (gd l v) (-1000000000000) 1000000000000 then findI l (v + 1) n else v
theorem findI_neg (l : List Int) : ∀ n v, v + n = l.length → (findI l v n < 0 ↔ ∀ i, v ≤ i → i < l.length → inF (gd l i) (-1000000000000) 1000000000000 = true)
  | 0, v, h => by simp only [findI]; constructor <;> intro _ <;> (try omega)
  | n + 1, v, h => by
    unfold findI
    split
    · rename_i hc
      rw [findI_neg l n (v + 1) (by omega)]
      constructor
      · intro hh i h1 h2
        rcases Nat.lt_or_ge v i with h3 | h3
        · exact hh i h3 h2
        · obtain rfl : i = v := by omega
          exact hc
      · intro hh i h1 h2; exact hh i (by omega) h2
    · rename_i hc
      constructor
      · intro hh; omega
      · intro hh; exact absurd (hh v (Nat.le_refl _) (by omega)) hc
theorem indexI_ev (l : List Int) (hl : l.length ≤ 1000000) : Ev Tryd.prog 70 [SL l, .clo 94 []] (I (findI l 0 l.length)) := by
  refine ev_of Tryd.func70 rfl (by kernel_rfl) mo (Nat.le_of_ble_eq_true rfl) ?_
  simp -implicitDefEqProofs (disch := omega) only [go_sem, Tryd.ntmps70]
  refine loopC_mk (fun n E σ => ∃ v : Nat, v + n = l.length ∧ E 0 = SL l ∧ E 1 = .clo 94 [] ∧ E 7 = I l.length ∧ E 8 = I v ∧ findI l 0 l.length = findI l v n) l.length ⟨0, by omega, ?_⟩ ?_
  · simp -implicitDefEqProofs (disch := omega) only [go_sem]
    simp
  · rintro n E σ ⟨v, hv, h0, h1, h7, h8, hall⟩
    simp -implicitDefEqProofs (disch := omega) only [go_sem, h0, h1, h7, h8]
    refine branch_mk (fun hc => ?_) (fun hc => ?_)
    · simp -implicitDefEqProofs (disch := omega) only [go_sem, h0, h1, h7, h8]
      refine callC_at (large_ev _) ?_
      simp -implicitDefEqProofs (disch := omega) only [go_sem, h0, h1, h7, h8]
      obtain ⟨m, rfl⟩ : ∃ m, n = m + 1 := ⟨n - 1, by omega⟩
      refine branch_mk (fun hb => ?_) (fun hb => ?_)
      · simp -implicitDefEqProofs (disch := omega) only [go_sem, Tryd.results70]
        rw [hall]; simp [findI, hb]
      · simp -implicitDefEqProofs (disch := omega) only [go_sem, h0, h1, h7, h8]
        refine againQ_mk m (by omega) ⟨v + 1, by omega, ?_⟩
        simp -implicitDefEqProofs (disch := omega) only [go_sem, h0, h1, h7, h8]
        refine ⟨by simp, ?_⟩
        rw [hall]; simp at hb; simp [findI, hb]
    · simp -implicitDefEqProofs (disch := omega) only [go_sem, Tryd.results70]
      have : n = 0 := by omega
      subst this; rw [hall]; rfl
def largeB (l : List Int) : Bool := decide (0 ≤ findI l 0 l.length)
theorem containsI_ev (l : List Int) (hl : l.length ≤ 1000000) : Ev Tryd.prog 95 [SL l, .clo 94 []] (B (largeB l)) := by
  refine ev_of Tryd.func95 rfl (by kernel_rfl) mo (Nat.le_of_ble_eq_true rfl) ?_
  simp -implicitDefEqProofs (disch := omega) only [go_sem, Tryd.ntmps95]
  refine callC_at (indexI_ev l hl) ?_
  simp -implicitDefEqProofs (disch := omega) only [go_sem, Tryd.results95]
  rfl
theorem largeB_iff (l : List Int) : largeB l = !decide (∀ n ∈ l, -1000000000000 ≤ n ∧ n ≤ 1000000000000) := by
  have h1 := findI_neg l l.length 0 (by omega)
  unfold largeB
  rw [← decide_not]; apply decide_eq_decide.2
  have h2 : (∀ n ∈ l, -1000000000000 ≤ n ∧ n ≤ 1000000000000) ↔ findI l 0 l.length < 0 := by
    rw [h1]
    constructor
    · intro h i _ hi
      have := h _ (gd_mem l i hi)
      simp [inF, this]
    · intro h n hn
      obtain ⟨i, hi, rfl⟩ := List.mem_iff_getElem.1 hn
      have := h i (Nat.zero_le _) hi
      rw [gd_get l i hi] at this
      simpa [inF] using this
  rw [h2]; omega
theorem totOK_B (t : Tot) : totOK t = (decide (t.1.length = 8) && (decide (t.2.size = 32) && !largeB t.1)) := by
  unfold totOK; rw [largeB_iff, Bool.not_not, Bool.and_assoc]
theorem readBad_ev (t : Tot) (h : totOK t = false) : Ev Tryd.prog 59 [RP t] (.tup [TP (List.replicate 8 0, ⟨#[]⟩), B false]) := by
  refine ev_ofB [4] Tryd.func59 rfl (by kernel_rfl) mo (Nat.le_of_ble_eq_true rfl) ?_
  rw [totOK_B] at h
  simp -implicitDefEqProofs (disch := omega) only [go_sem, Tryd.ntmps59]
  refine branch_mk (fun h8 => ?_) (fun h8 => ?_)
  · simp -implicitDefEqProofs (disch := omega) only [go_sem, Tryd.results59]
    rfl
  · simp -implicitDefEqProofs (disch := omega) only [go_sem]
    refine branch_mk (fun h32 => ?_) (fun h32 => ?_)
    · simp -implicitDefEqProofs (disch := omega) only [go_sem, Tryd.results59]
      rfl
    · have h8' : t.1.length = 8 := by omega
      have h32' : t.2.size = 32 := by omega
      have hb : largeB t.1 = true := by simpa [h8', h32'] using h
      have hc := containsI_ev t.1 (by omega)
      rw [hb] at hc
      simp -implicitDefEqProofs (disch := omega) only [go_sem]
      refine callC_at hc ?_
      simp -implicitDefEqProofs (disch := omega) only [go_sem, Tryd.results59]
      rfl
theorem readOK_ev (t : Tot) (h : totOK t = true) : Ev Tryd.prog 59 [RP t] (.tup [TP t, B true]) := by
  refine ev_ofB [4] Tryd.func59 rfl (by kernel_rfl) mo (Nat.le_of_ble_eq_true rfl) ?_
  rw [totOK_B] at h
  simp only [Bool.and_eq_true, decide_eq_true_eq, Bool.not_eq_true'] at h
  obtain ⟨h8, h32, hlb⟩ := h
  have hc := containsI_ev t.1 (by omega)
  rw [hlb] at hc
  obtain ⟨s, d⟩ := t
  have h8 : s.length = 8 := h8
  have h32 : d.size = 32 := h32
  simp -implicitDefEqProofs (disch := omega) only [go_sem, Tryd.ntmps59]
  refine branch_r (by omega) ?_
  simp -implicitDefEqProofs (disch := omega) only [go_sem]
  refine branch_r (by omega) ?_
  simp -implicitDefEqProofs (disch := omega) only [go_sem]
  refine callC_at hc ?_
  simp -implicitDefEqProofs (disch := omega) only [go_sem]
  have hne : s.map I ≠ [] := by intro e; rw [List.map_eq_nil_iff] at e; subst e; simp at h8
  have hTT : ∀ M N : ByteArray, List.take 8 (s.map I ++ [Str M]) ++ [Str N] ++ List.drop 9 (s.map I ++ [Str M]) = s.map I ++ [Str N] := fun M N => by
    rw [List.take_append_of_le_length (by simp [h8]), List.take_of_length_le (by simp [h8]), List.drop_of_length_le (by simp [h8])]; simp
  have ht9 : ∀ N : ByteArray, (s.map I ++ [Str N]).take 9 = s.map I ++ [Str N] := fun N => List.take_of_length_le (by simp [h8])
  have h88 : ((s.map I).take 8) = s.map I := List.take_of_length_le (by simp [h8])
  refine region_J (Plain.mono) (fun D E σ => E 1 = .ptr 125829136 2 0 0 ∧ E 2 = .ptr 125829152 9 0 0 ∧ σ 125829136 = some ⟨35, 2, [RP (s, d)]⟩ ∧ (D 7 = false → σ 125829152 = some ⟨81, 9, [TP (List.replicate 8 0, ByteArray.empty)]⟩) ∧ (D 7 = true → σ 125829152 = some ⟨81, 9, [TP (s, d)]⟩) ∧ (D 0 = true → E 22 = .ptr 125829136 2 0 0) ∧ (D 1 = true → E 23 = SL s) ∧ (D 2 = true → E 24 = .pt (.agg (s.map I)) 0) ∧ (D 3 = true → E 25 = .agg (s.map I)) ∧ (D 4 = true → E 26 = .ptr 125829136 2 0 1) ∧ (D 5 = true → E 27 = Str d) ∧ (D 6 = true → E 28 = TP (s, d)) ∧ (D 8 = true → E 3 = B true)) ?_ ?_ ?_
  · simp -implicitDefEqProofs (disch := omega) only [go_sem, h8, h88, hTT, ht9]
    simp
  · simp only [stepsJ, and_true]
    refine ⟨?_, ?_, ?_, ?_, ?_, ?_, ?_, ?_, ?_⟩
    · rintro D hD hd E σ ⟨h1, h2, m1, s7a, s7b, j0, j1, j2, j3, j4, j5, j6, j8⟩
      cases h7 : D 7
      · have g7 := s7a h7
        simp -implicitDefEqProofs (disch := omega) only [go_sem, h1, h2, m1, g7, h8, h88, hTT, ht9]
        repeat' apply And.intro
        all_goals first | assumption | (intro h; rw [h7] at h; cases h; done) | (intro h; refine kill_of ?_ (by first | rfl | simp -implicitDefEqProofs (disch := omega) only [go_sem]); first | exact j0 h | exact j1 h | exact j2 h | exact j3 h | exact j4 h | exact j5 h | exact j6 h | exact j8 h) | (intro h; simp -implicitDefEqProofs (disch := omega) only [go_sem]; done) | (intros; trivial)
      · have g7 := s7b h7
        simp -implicitDefEqProofs (disch := omega) only [go_sem, h1, h2, m1, g7, h8, h88, hTT, ht9]
        repeat' apply And.intro
        all_goals first | assumption | (intro h; rw [h7] at h; cases h; done) | (intro h; refine kill_of ?_ (by first | rfl | simp -implicitDefEqProofs (disch := omega) only [go_sem]); first | exact j0 h | exact j1 h | exact j2 h | exact j3 h | exact j4 h | exact j5 h | exact j6 h | exact j8 h) | (intro h; simp -implicitDefEqProofs (disch := omega) only [go_sem]; done) | (intros; trivial)
    · rintro D hD hd E σ ⟨h1, h2, m1, s7a, s7b, j0, j1, j2, j3, j4, j5, j6, j8⟩
      have d0 : D 0 = true := hd ⟨0, .data⟩ (by simp) rfl
      have q0 := j0 d0
      cases h7 : D 7
      · have g7 := s7a h7
        simp -implicitDefEqProofs (disch := omega) only [go_sem, h1, h2, m1, q0, g7, h8, h88, hTT, ht9]
        repeat' apply And.intro
        all_goals first | assumption | (intro h; rw [h7] at h; cases h; done) | (intro h; refine kill_of ?_ (by first | rfl | simp -implicitDefEqProofs (disch := omega) only [go_sem]); first | exact j0 h | exact j1 h | exact j2 h | exact j3 h | exact j4 h | exact j5 h | exact j6 h | exact j8 h) | (intro h; simp -implicitDefEqProofs (disch := omega) only [go_sem]; done) | (intros; trivial)
      · have g7 := s7b h7
        simp -implicitDefEqProofs (disch := omega) only [go_sem, h1, h2, m1, q0, g7, h8, h88, hTT, ht9]
        repeat' apply And.intro
        all_goals first | assumption | (intro h; rw [h7] at h; cases h; done) | (intro h; refine kill_of ?_ (by first | rfl | simp -implicitDefEqProofs (disch := omega) only [go_sem]); first | exact j0 h | exact j1 h | exact j2 h | exact j3 h | exact j4 h | exact j5 h | exact j6 h | exact j8 h) | (intro h; simp -implicitDefEqProofs (disch := omega) only [go_sem]; done) | (intros; trivial)
    · rintro D hD hd E σ ⟨h1, h2, m1, s7a, s7b, j0, j1, j2, j3, j4, j5, j6, j8⟩
      have d1 : D 1 = true := hd ⟨1, .data⟩ (by simp) rfl
      have q1 := j1 d1
      cases h7 : D 7
      · have g7 := s7a h7
        simp -implicitDefEqProofs (disch := omega) only [go_sem, h1, h2, m1, q1, g7, h8, h88, hTT, ht9]
        refine toArr_mk (es := s.map I) (m := 8) (by simp -implicitDefEqProofs (disch := omega) only [go_sem, q1]) tarr_79 (by simp [h8]) hne (fun a ha => by obtain ⟨x, _, rfl⟩ := List.mem_map.1 ha; rfl) ?_
        simp -implicitDefEqProofs (disch := omega) only [go_sem, h1, h2, m1, q1, g7, h8, h88, hTT, ht9]
        repeat' apply And.intro
        all_goals first | assumption | (intro h; rw [h7] at h; cases h; done) | (intro h; refine kill_of ?_ (by first | rfl | simp -implicitDefEqProofs (disch := omega) only [go_sem]); first | exact j0 h | exact j1 h | exact j2 h | exact j3 h | exact j4 h | exact j5 h | exact j6 h | exact j8 h) | (intro h; simp -implicitDefEqProofs (disch := omega) only [go_sem]; done) | (intros; trivial)
      · have g7 := s7b h7
        simp -implicitDefEqProofs (disch := omega) only [go_sem, h1, h2, m1, q1, g7, h8, h88, hTT, ht9]
        refine toArr_mk (es := s.map I) (m := 8) (by simp -implicitDefEqProofs (disch := omega) only [go_sem, q1]) tarr_79 (by simp [h8]) hne (fun a ha => by obtain ⟨x, _, rfl⟩ := List.mem_map.1 ha; rfl) ?_
        simp -implicitDefEqProofs (disch := omega) only [go_sem, h1, h2, m1, q1, g7, h8, h88, hTT, ht9]
        repeat' apply And.intro
        all_goals first | assumption | (intro h; rw [h7] at h; cases h; done) | (intro h; refine kill_of ?_ (by first | rfl | simp -implicitDefEqProofs (disch := omega) only [go_sem]); first | exact j0 h | exact j1 h | exact j2 h | exact j3 h | exact j4 h | exact j5 h | exact j6 h | exact j8 h) | (intro h; simp -implicitDefEqProofs (disch := omega) only [go_sem]; done) | (intros; trivial)
    · rintro D hD hd E σ ⟨h1, h2, m1, s7a, s7b, j0, j1, j2, j3, j4, j5, j6, j8⟩
      have d2 : D 2 = true := hd ⟨2, .data⟩ (by simp) rfl
      have q2 := j2 d2
      cases h7 : D 7
      · have g7 := s7a h7
        simp -implicitDefEqProofs (disch := omega) only [go_sem, h1, h2, m1, q2, g7, h8, h88, hTT, ht9]
        repeat' apply And.intro
        all_goals first | assumption | (intro h; rw [h7] at h; cases h; done) | (intro h; refine kill_of ?_ (by first | rfl | simp -implicitDefEqProofs (disch := omega) only [go_sem]); first | exact j0 h | exact j1 h | exact j2 h | exact j3 h | exact j4 h | exact j5 h | exact j6 h | exact j8 h) | (intro h; simp -implicitDefEqProofs (disch := omega) only [go_sem]; done) | (intros; trivial)
      · have g7 := s7b h7
        simp -implicitDefEqProofs (disch := omega) only [go_sem, h1, h2, m1, q2, g7, h8, h88, hTT, ht9]
        repeat' apply And.intro
        all_goals first | assumption | (intro h; rw [h7] at h; cases h; done) | (intro h; refine kill_of ?_ (by first | rfl | simp -implicitDefEqProofs (disch := omega) only [go_sem]); first | exact j0 h | exact j1 h | exact j2 h | exact j3 h | exact j4 h | exact j5 h | exact j6 h | exact j8 h) | (intro h; simp -implicitDefEqProofs (disch := omega) only [go_sem]; done) | (intros; trivial)
    · rintro D hD hd E σ ⟨h1, h2, m1, s7a, s7b, j0, j1, j2, j3, j4, j5, j6, j8⟩
      cases h7 : D 7
      · have g7 := s7a h7
        simp -implicitDefEqProofs (disch := omega) only [go_sem, h1, h2, m1, g7, h8, h88, hTT, ht9]
        repeat' apply And.intro
        all_goals first | assumption | (intro h; rw [h7] at h; cases h; done) | (intro h; refine kill_of ?_ (by first | rfl | simp -implicitDefEqProofs (disch := omega) only [go_sem]); first | exact j0 h | exact j1 h | exact j2 h | exact j3 h | exact j4 h | exact j5 h | exact j6 h | exact j8 h) | (intro h; simp -implicitDefEqProofs (disch := omega) only [go_sem]; done) | (intros; trivial)
      · have g7 := s7b h7
        simp -implicitDefEqProofs (disch := omega) only [go_sem, h1, h2, m1, g7, h8, h88, hTT, ht9]
        repeat' apply And.intro
        all_goals first | assumption | (intro h; rw [h7] at h; cases h; done) | (intro h; refine kill_of ?_ (by first | rfl | simp -implicitDefEqProofs (disch := omega) only [go_sem]); first | exact j0 h | exact j1 h | exact j2 h | exact j3 h | exact j4 h | exact j5 h | exact j6 h | exact j8 h) | (intro h; simp -implicitDefEqProofs (disch := omega) only [go_sem]; done) | (intros; trivial)
    · rintro D hD hd E σ ⟨h1, h2, m1, s7a, s7b, j0, j1, j2, j3, j4, j5, j6, j8⟩
      have d4 : D 4 = true := hd ⟨4, .data⟩ (by simp) rfl
      have q4 := j4 d4
      cases h7 : D 7
      · have g7 := s7a h7
        simp -implicitDefEqProofs (disch := omega) only [go_sem, h1, h2, m1, q4, g7, h8, h88, hTT, ht9]
        repeat' apply And.intro
        all_goals first | assumption | (intro h; rw [h7] at h; cases h; done) | (intro h; refine kill_of ?_ (by first | rfl | simp -implicitDefEqProofs (disch := omega) only [go_sem]); first | exact j0 h | exact j1 h | exact j2 h | exact j3 h | exact j4 h | exact j5 h | exact j6 h | exact j8 h) | (intro h; simp -implicitDefEqProofs (disch := omega) only [go_sem]; done) | (intros; trivial)
      · have g7 := s7b h7
        simp -implicitDefEqProofs (disch := omega) only [go_sem, h1, h2, m1, q4, g7, h8, h88, hTT, ht9]
        repeat' apply And.intro
        all_goals first | assumption | (intro h; rw [h7] at h; cases h; done) | (intro h; refine kill_of ?_ (by first | rfl | simp -implicitDefEqProofs (disch := omega) only [go_sem]); first | exact j0 h | exact j1 h | exact j2 h | exact j3 h | exact j4 h | exact j5 h | exact j6 h | exact j8 h) | (intro h; simp -implicitDefEqProofs (disch := omega) only [go_sem]; done) | (intros; trivial)
    · rintro D hD hd E σ ⟨h1, h2, m1, s7a, s7b, j0, j1, j2, j3, j4, j5, j6, j8⟩
      have d3 : D 3 = true := hd ⟨3, .data⟩ (by simp) rfl
      have q3 := j3 d3
      have d5 : D 5 = true := hd ⟨5, .data⟩ (by simp) rfl
      have q5 := j5 d5
      cases h7 : D 7
      · have g7 := s7a h7
        simp -implicitDefEqProofs (disch := omega) only [go_sem, h1, h2, m1, q3, q5, g7, h8, h88, hTT, ht9]
        repeat' apply And.intro
        all_goals first | assumption | (intro h; rw [h7] at h; cases h; done) | (intro h; refine kill_of ?_ (by first | rfl | simp -implicitDefEqProofs (disch := omega) only [go_sem]); first | exact j0 h | exact j1 h | exact j2 h | exact j3 h | exact j4 h | exact j5 h | exact j6 h | exact j8 h) | (intro h; simp -implicitDefEqProofs (disch := omega) only [go_sem]; done) | (intros; trivial)
      · have g7 := s7b h7
        simp -implicitDefEqProofs (disch := omega) only [go_sem, h1, h2, m1, q3, q5, g7, h8, h88, hTT, ht9]
        repeat' apply And.intro
        all_goals first | assumption | (intro h; rw [h7] at h; cases h; done) | (intro h; refine kill_of ?_ (by first | rfl | simp -implicitDefEqProofs (disch := omega) only [go_sem]); first | exact j0 h | exact j1 h | exact j2 h | exact j3 h | exact j4 h | exact j5 h | exact j6 h | exact j8 h) | (intro h; simp -implicitDefEqProofs (disch := omega) only [go_sem]; done) | (intros; trivial)
    · rintro D hD hd E σ ⟨h1, h2, m1, s7a, s7b, j0, j1, j2, j3, j4, j5, j6, j8⟩
      have d6 : D 6 = true := hd ⟨6, .data⟩ (by simp) rfl
      have q6 := j6 d6
      cases h7 : D 7
      · have g7 := s7a h7
        simp -implicitDefEqProofs (disch := omega) only [go_sem, h1, h2, m1, q6, g7, h8, h88, hTT, ht9]
        repeat' apply And.intro
        all_goals first | assumption | (intro h; rw [h7] at h; cases h; done) | (intro h; refine kill_of ?_ (by first | rfl | simp -implicitDefEqProofs (disch := omega) only [go_sem]); first | exact j0 h | exact j1 h | exact j2 h | exact j3 h | exact j4 h | exact j5 h | exact j6 h | exact j8 h) | (intro h; simp -implicitDefEqProofs (disch := omega) only [go_sem]; done) | (intros; trivial)
      · rw [show D 7 = D (0 + 1 + 1 + 1 + 1 + 1 + 1 + 1) from rfl] at h7; rw [hD] at h7; cases h7
    · rintro D hD hd E σ ⟨h1, h2, m1, s7a, s7b, j0, j1, j2, j3, j4, j5, j6, j8⟩
      cases h7 : D 7
      · have g7 := s7a h7
        simp -implicitDefEqProofs (disch := omega) only [go_sem, h1, h2, m1, g7, h8, h88, hTT, ht9]
        repeat' apply And.intro
        all_goals first | assumption | (intro h; rw [h7] at h; cases h; done) | (intro h; refine kill_of ?_ (by first | rfl | simp -implicitDefEqProofs (disch := omega) only [go_sem]); first | exact j0 h | exact j1 h | exact j2 h | exact j3 h | exact j4 h | exact j5 h | exact j6 h | exact j8 h) | (intro h; simp -implicitDefEqProofs (disch := omega) only [go_sem]; done) | (intros; trivial)
      · have g7 := s7b h7
        simp -implicitDefEqProofs (disch := omega) only [go_sem, h1, h2, m1, g7, h8, h88, hTT, ht9]
        repeat' apply And.intro
        all_goals first | assumption | (intro h; rw [h7] at h; cases h; done) | (intro h; refine kill_of ?_ (by first | rfl | simp -implicitDefEqProofs (disch := omega) only [go_sem]); first | exact j0 h | exact j1 h | exact j2 h | exact j3 h | exact j4 h | exact j5 h | exact j6 h | exact j8 h) | (intro h; simp -implicitDefEqProofs (disch := omega) only [go_sem]; done) | (intros; trivial)
  · rintro D E σ hD ⟨h1, h2, m1, s7a, s7b, j0, j1, j2, j3, j4, j5, j6, j8⟩
    have g7 := s7b (hD 7 (by decide))
    have q0 := j0 (hD 0 (by decide))
    have q1 := j1 (hD 1 (by decide))
    have q2 := j2 (hD 2 (by decide))
    have q3 := j3 (hD 3 (by decide))
    have q4 := j4 (hD 4 (by decide))
    have q5 := j5 (hD 5 (by decide))
    have q6 := j6 (hD 6 (by decide))
    have q8 := j8 (hD 8 (by decide))
    simp -implicitDefEqProofs (disch := omega) only [go_sem, h1, h2, g7, q8, h8, ht9, Tryd.results59]
end Go.Proofs.YtgbcfpcjljhijaaDoor
set_option maxRecDepth 100000
namespace Go.Proofs.YtgbcfpcjljhijaaDoor
open Go.Vai Go Go.Proofs
open Nat (reduceEqDiff reduceMul reduceAdd reduceDiv reduceLeDiff)
open Int (reduceToNat reduceNe reduceEq reduceLT reduceLE)
theorem lits81 (s : List Int) (d : ByteArray) (h8 : s.length = 8) (hr : ∀ n ∈ s, R64 n) (hd : d.size ≤ 1000000) : Tryd.prog.keyLits 3 81 (s.map (Value.int .i64) ++ [.string d]) = some (s.map (Lit.int .i64) ++ [.string d.data.toList]) := by
  match s, h8, hr with
  | [x0, x1, x2, x3, x4, x5, x6, x7], _, hr =>
    have hw : ∀ n ∈ [x0, x1, x2, x3, x4, x5, x6, x7], (Lit.int .i64 n).wf = true := fun n hn => by
      have := hr n hn
      have h1 : IntKind.i64.min = -9223372036854775808 := by decide
      have h2 : IntKind.i64.max = 9223372036854775807 := by decide
      simp [Lit.wf, h1, h2]; exact this
    simp only [List.mem_cons, List.not_mem_nil, or_false, forall_eq_or_imp, forall_eq] at hw
    obtain ⟨w0, w1, w2, w3, w4, w5, w6, w7⟩ := hw
    have hm : d.size ≤ maxLen := by have : (1000000 : Nat) ≤ maxLen := by decide +kernel
                                    omega
    have c81 : Tryd.prog.cellsOf 81 = 9 := by kernel_rfl
    have c79 : Tryd.prog.cellsOf 79 = 8 := by kernel_rfl
    have c3 : Tryd.prog.cellsOf 3 = 1 := by kernel_rfl
    have c9 : Tryd.prog.cellsOf 9 = 1 := by kernel_rfl
    have u3 : Tryd.prog.underlying 3 = some (.int .i64) := by kernel_rfl
    have u9 : Tryd.prog.underlying 9 = some .string := by kernel_rfl
    simp [Program.keyLits, Tryd.underlying81, Tryd.underlying79, u3, u9, c81, c79, c3, c9, w0, w1, w2, w3, w4, w5, w6, w7, hm, List.range_succ]
theorem form81 (s : List Int) (d : ByteArray) (h8 : s.length = 8) : (Value.agg (s.map (Value.int .i64) ++ [Value.string d]).toArray).formed Tryd.prog 81 = true := by
  have c81 : Tryd.prog.cellsOf 81 = 9 := by kernel_rfl
  simp [Value.formed, Tryd.underlying81, c81, h8]
theorem bytes_eq {a b : ByteArray} (h : a.data.toList = b.data.toList) : a = b := by
  cases a; cases b; simp only [ByteArray.mk.injEq]; exact Array.toList_inj.1 h
theorem lits81_iff (s : List Int) (d : ByteArray) (t : List Int) (e : ByteArray) : ((s, d) : Tot) = (t, e) ↔ s.map (Lit.int .i64) ++ [Lit.string d.data.toList] = t.map (Lit.int .i64) ++ [Lit.string e.data.toList] := by
  constructor
  · intro h; cases h; rfl
  · intro h
    obtain ⟨h1, h2⟩ := List.append_inj' h rfl
    have key : ∀ s t : List Int, s.map (Lit.int .i64) = t.map (Lit.int .i64) → s = t := by
      intro s
      induction s with
      | nil => intro t h; cases t with | nil => rfl | cons _ _ => cases h
      | cons x s ih => intro t h; cases t with | nil => cases h | cons y t => simp only [List.map_cons, List.cons.injEq, Lit.int.injEq, true_and] at h; rw [h.1, ih t h.2]
    have e1 : s = t := key s t h1
    simp only [List.cons.injEq, Lit.string.injEq, and_true] at h2
    rw [e1, bytes_eq h2]
theorem other_ev (a : Acc) (c : Ch) : Ev Tryd.prog 56 [CH c, .pt (AP a) 0] (B (decide (c.h ≠ a.h))) := by
  refine ev_of Tryd.func56 rfl (by kernel_rfl) mo (Nat.le_of_ble_eq_true rfl) ?_
  simp -implicitDefEqProofs (disch := omega) only [go_sem, Tryd.ntmps56]
  simp -implicitDefEqProofs (disch := omega) only [go_sem, Tryd.results56]
  congr 2
  rw [Bool.eq_iff_iff]; simp
def findO (h : Int) (l : List Ch) (v : Nat) : Nat → Int
  | 0 => -1
  | n + 1 => if (gd l v).h = h then findO h l (v + 1) n else v
theorem findO_neg (h : Int) (l : List Ch) : ∀ n v, v + n = l.length → (findO h l v n < 0 ↔ ∀ i, v ≤ i → i < l.length → (gd l i).h = h)
  | 0, v, _ => by simp only [findO]; constructor <;> intro _ <;> (try omega)
  | n + 1, v, hv => by
    unfold findO
    split
    · rename_i hc
      rw [findO_neg h l n (v + 1) (by omega)]
      constructor
      · intro hh i h1 h2
        rcases Nat.lt_or_ge v i with h3 | h3
        · exact hh i h3 h2
        · obtain rfl : i = v := by omega
          exact hc
      · intro hh i h1 h2; exact hh i (by omega) h2
    · rename_i hc
      constructor
      · intro hh; omega
      · intro hh; exact absurd (hh v (Nat.le_refl _) (by omega)) hc
theorem indexO_ev (a : Acc) (l : List Ch) (hl : l.length ≤ 1000000) : Ev Tryd.prog 88 [CL l, .clo 56 [.pt (AP a) 0]] (I (findO a.h l 0 l.length)) := by
  refine ev_of Tryd.func88 rfl (by kernel_rfl) mo (Nat.le_of_ble_eq_true rfl) ?_
  simp -implicitDefEqProofs (disch := omega) only [go_sem, Tryd.ntmps88]
  refine loopC_mk (fun n E σ => ∃ v : Nat, v + n = l.length ∧ E 0 = CL l ∧ E 1 = .clo 56 [.pt (AP a) 0] ∧ E 7 = I l.length ∧ E 8 = I v ∧ findO a.h l 0 l.length = findO a.h l v n) l.length ⟨0, by omega, ?_⟩ ?_
  · simp -implicitDefEqProofs (disch := omega) only [go_sem]
    simp
  · rintro n E σ ⟨v, hv, h0, h1, h7, h8, hall⟩
    simp -implicitDefEqProofs (disch := omega) only [go_sem, h0, h1, h7, h8]
    refine branch_mk (fun hc => ?_) (fun hc => ?_)
    · simp -implicitDefEqProofs (disch := omega) only [go_sem, h0, h1, h7, h8]
      refine callC_at (other_ev a _) ?_
      simp -implicitDefEqProofs (disch := omega) only [go_sem, h0, h1, h7, h8]
      obtain ⟨m, rfl⟩ : ∃ m, n = m + 1 := ⟨n - 1, by omega⟩
      refine branch_mk (fun hb => ?_) (fun hb => ?_)
      · simp -implicitDefEqProofs (disch := omega) only [go_sem, Tryd.results88]
        rw [hall]; simp [findO, hb]
      · simp -implicitDefEqProofs (disch := omega) only [go_sem, h0, h1, h7, h8]
        refine againQ_mk m (by omega) ⟨v + 1, by omega, ?_⟩
        simp -implicitDefEqProofs (disch := omega) only [go_sem, h0, h1, h7, h8]
        refine ⟨by simp, ?_⟩
        rw [hall]; simp at hb; simp [findO, hb]
    · simp -implicitDefEqProofs (disch := omega) only [go_sem, Tryd.results88]
      have : n = 0 := by omega
      subst this; rw [hall]; rfl
theorem containsO_ev (a : Acc) (l : List Ch) (hl : l.length ≤ 1000000) : Ev Tryd.prog 57 [CL l, .clo 56 [.pt (AP a) 0]] (B (!decide (∀ c ∈ l, c.h = a.h))) := by
  refine ev_of Tryd.func57 rfl (by kernel_rfl) mo (Nat.le_of_ble_eq_true rfl) ?_
  simp -implicitDefEqProofs (disch := omega) only [go_sem, Tryd.ntmps57]
  refine callC_at (indexO_ev a l hl) ?_
  simp -implicitDefEqProofs (disch := omega) only [go_sem, Tryd.results57]
  have h1 := findO_neg a.h l l.length 0 (by omega)
  have h2 : (∀ c ∈ l, c.h = a.h) ↔ findO a.h l 0 l.length < 0 := by
    rw [h1]
    constructor
    · intro h i _ hi; exact h _ (gd_mem l i hi)
    · intro h c hc
      obtain ⟨i, hi, rfl⟩ := List.mem_iff_getElem.1 hc
      have := h i (Nat.zero_le _) hi
      rwa [gd_get l i hi] at this
  rw [← decide_not, decide_eq_decide.2 (show 0 ≤ findO a.h l 0 l.length ↔ ¬ ∀ c ∈ l, c.h = a.h by rw [h2]; omega)]
def preOK (a : Acc) : Bool := inF a.h 0 63 && (chsOK a.l && (decide (∀ c ∈ a.l, c.h = a.h) && (decide (a.s.size = 32) && decide (a.p.length = 6))))
theorem accOK_pre (a : Acc) : accOK a = (preOK a && decide (∀ t ∈ a.p, totOK t = true)) := by
  unfold accOK preOK
  simp only [Bool.and_assoc]
theorem check_ev (t : Tot) (a : Acc) (hl : a.l.length ≤ 9223372036854775807) (hp : a.p.length ≤ 9223372036854775807) (ht : t.1.length ≤ 9223372036854775807) (htr : ∀ n ∈ t.1, R64 n) (htd : t.2.size ≤ 1000000) : Ev Tryd.prog 30 [RP t, AP a] (B (checkF t a)) := by
  refine ev_ofB [17] Tryd.func30 rfl (by kernel_rfl) mo (Nat.le_of_ble_eq_true rfl) ?_
  unfold checkF
  rw [accOK_pre]
  have hpre : preOK a = (inF a.h 0 63 && (chsOK a.l && (decide (∀ c ∈ a.l, c.h = a.h) && (decide (a.s.size = 32) && decide (a.p.length = 6))))) := rfl
  simp -implicitDefEqProofs (disch := omega) only [go_sem, Tryd.ntmps30]
  refine callC_sem rfl ?_
  refine freeze_op [65011744, 65011760] ?_
  simp -implicitDefEqProofs (disch := omega) only [go_sem]
  refine callC_at (within_ev a.h 0 63) ?_
  cases hin : inF a.h 0 63
  · rw [hpre, hin]
    simp -implicitDefEqProofs (disch := omega) only [go_sem, Tryd.results30]
  simp -implicitDefEqProofs (disch := omega) only [go_sem]
  refine callC_at (areCharges_ev a.l hl) ?_
  cases hcs : chsOK a.l
  · rw [hpre, hin, hcs]
    simp -implicitDefEqProofs (disch := omega) only [go_sem, Tryd.results30]
  obtain ⟨hn, hok⟩ := chsOK_iff _ hcs
  simp -implicitDefEqProofs (disch := omega) only [go_sem]
  refine callC_at (containsO_ev a a.l (by omega)) ?_
  cases hot : decide (∀ c ∈ a.l, c.h = a.h)
  · rw [hpre, hin, hcs, hot]
    simp -implicitDefEqProofs (disch := omega) only [go_sem, Tryd.results30]
  simp -implicitDefEqProofs (disch := omega) only [go_sem]
  refine branch_mk (fun h32 => ?_) (fun h32 => ?_)
  · have : ¬ a.s.size = 32 := by omega
    rw [hpre, hin, hcs, hot, decide_eq_false this]
    simp -implicitDefEqProofs (disch := omega) only [go_sem, Tryd.results30]
  have h32 : a.s.size = 32 := by omega
  simp -implicitDefEqProofs (disch := omega) only [go_sem]
  refine branch_mk (fun h6 => ?_) (fun h6 => ?_)
  · have : ¬ a.p.length = 6 := by omega
    rw [hpre, hin, hcs, hot, decide_eq_true h32, decide_eq_false this]
    simp -implicitDefEqProofs (disch := omega) only [go_sem, Tryd.results30]
  have h6 : a.p.length = 6 := by omega
  rw [hpre, hin, hcs, hot, decide_eq_true h32, decide_eq_true h6]
  simp only [Bool.true_and]
  simp -implicitDefEqProofs (disch := omega) only [go_sem]
  refine callC_at (leafT_at a.s a.l h32 hok (by omega)) ?_
  have hlf := leafT_ok a.s a.l hok hn
  generalize leafT a.s a.l = lf at *
  have hlf8 := hlf.1
  obtain ⟨k, hk⟩ : ∃ k : Nat, a.h = k := ⟨a.h.toNat, by simp [inF] at hin; omega⟩
  have hk63 : k < 64 := by simp [inF] at hin; omega
  have hkt : a.h.toNat = k := by omega
  rw [hkt]
  have hl9 : (lf.1.map I ++ [Str lf.2]).take 9 = lf.1.map I ++ [Str lf.2] := List.take_of_length_le (by simp [hlf8])
  simp -implicitDefEqProofs (disch := omega) only [go_sem, hlf8, hl9, hk, h6]
  refine loopC_mk (fun n E σ => ∃ (v : Nat) (u : Tot), v + n = 6 ∧ TotB (120000000000 + 1000000000000 * v) u ∧ walkT k a.p lf = walkT (k / 2 ^ v) (a.p.drop v) u ∧ (∀ i, i < v → totOK (gd a.p i) = true) ∧ E 2 = .pt (RP t) 0 ∧ E 3 = .pt (AP a) 0 ∧ E 6 = .ptr 65011808 9 0 0 ∧ E 46 = RPL a.p ∧ E 47 = I 6 ∧ E 48 = I v ∧ σ 65011808 = some ⟨81, 9, [TP u]⟩) 6 ⟨0, lf, by omega, hlf.mono (by omega), by simp, by simp, ?_⟩ ?_
  · simp -implicitDefEqProofs (disch := omega) only [go_sem, hlf8, hl9, hk, h6]
    simp [hk]
  · rintro n E σ ⟨v, u, hv, hu, hwk, hall, h2, h3, h6', h46, h47, h48, s6⟩
    have hu8 := hu.1
    simp -implicitDefEqProofs (disch := omega) only [go_sem, h2, h3, h6', h46, h47, h48, s6]
    refine branch_mk (fun hc => ?_) (fun hc => ?_)
    · have hv6 : v < 6 := by omega
      simp -implicitDefEqProofs (disch := omega) only [go_sem, h2, h3, h6', h46, h47, h48, s6, h6]
      cases htv : totOK (gd a.p v)
      · refine callC_at (readBad_ev (gd a.p v) htv) ?_
        simp -implicitDefEqProofs (disch := omega) only [go_sem, h2, h3, h6', h46, h47, h48, s6, h6]
        have hrep : (List.replicate 8 (0 : Int)).length = 8 := rfl
        have hr9 : ((List.replicate 8 (0 : Int)).map I ++ [Str ⟨#[]⟩]).take 9 = (List.replicate 8 0).map I ++ [Str ⟨#[]⟩] := rfl
        simp -implicitDefEqProofs (disch := omega) only [go_sem, h2, h3, h6', h46, h47, h48, s6, h6, hrep, hr9, Tryd.results30]
        have : decide (∀ t ∈ a.p, totOK t = true) = false := by
          rw [decide_eq_false_iff_not]; intro hh
          have := hh _ (gd_mem a.p v (by omega))
          rw [htv] at this; cases this
        rw [this]; rfl
      · refine callC_at (readOK_ev (gd a.p v) htv) ?_
        have hg : TotB 1000000000000 (gd a.p v) := by
          simp only [totOK, Bool.and_eq_true, decide_eq_true_eq] at htv
          exact ⟨htv.1.1, htv.2, htv.1.2⟩
        have hgv := List.drop_eq_getElem_cons (show v < a.p.length by omega)
        rw [← gd_get a.p v (by omega)] at hgv
        rw [hgv, walkT] at hwk
        have hdd : k / 2 ^ v / 2 = k / 2 ^ (v + 1) := by rw [Nat.pow_succ, Nat.div_div_eq_div_mul]
        rw [hdd] at hwk
        have hst := step_ok (h := k / 2 ^ v) hg hu (by omega)
        have hnx : ∀ i, i < v + 1 → totOK (gd a.p i) = true := fun i hi => by
          by_cases e : i = v
          · subst e; exact htv
          · exact hall i (by omega)
        generalize hgq : gd a.p v = g at *
        have hg8 := hg.1
        have hg9 : (g.1.map I ++ [Str g.2]).take 9 = g.1.map I ++ [Str g.2] := List.take_of_length_le (by simp [hg8])
        have hu9 : (u.1.map I ++ [Str u.2]).take 9 = u.1.map I ++ [Str u.2] := List.take_of_length_le (by simp [hu8])
        have hj1 := join_at (hg.mono (C := 1000000000000000) (by omega)) (hu.mono (C := 1000000000000000) (by omega))
        have hj2 := join_at (hu.mono (C := 1000000000000000) (by omega)) (hg.mono (C := 1000000000000000) (by omega))
        have hl1 : (joinT g u).1.length = 8 := joinS_length _ _
        have hl2 : (joinT u g).1.length = 8 := joinS_length _ _
        have hsh : ((k : Int).fdiv (2 ^ min v 64)).tmod 2 = ((k / 2 ^ v % 2 : Nat) : Int) := by
          rw [show min v 64 = v from by omega, Int.fdiv_eq_ediv_of_nonneg _ (Int.pow_nonneg (by decide)), Int.tmod_eq_emod_of_nonneg (Int.ediv_nonneg (by omega) (Int.pow_nonneg (by decide)))]
          push_cast; rfl
        simp -implicitDefEqProofs (disch := omega) only [go_sem, h2, h3, h6', h46, h47, h48, s6, h6, hg8, hg9, hk, hsh]
        generalize k / 2 ^ v = x at *
        refine branch_mk (fun hb => ?_) (fun hb => ?_)
        · have hx : x % 2 = 1 := by omega
          rw [show liftT x g u = joinT g u from if_pos hx] at hwk hst
          simp -implicitDefEqProofs (disch := omega) only [go_sem, h2, h3, h6', h46, h47, h48, s6, h6, hg8, hg9, hu8, hu9, hk]
          refine callC_at hj1 ?_
          simp -implicitDefEqProofs (disch := omega) only [go_sem, h2, h3, h6', h46, h47, h48, s6, h6, hl1, hu8, hk]
          refine againQ_mk (n - 1) (by omega) ⟨v + 1, joinT g u, by omega, hst.mono (by push_cast; omega), hwk, hnx, ?_⟩
          simp -implicitDefEqProofs (disch := omega) only [go_sem, h2, h3, h6', h46, h47, h48, s6, h6, hl1, hu8, hk]
          simp
        · have hx : ¬ x % 2 = 1 := by omega
          rw [show liftT x g u = joinT u g from if_neg hx] at hwk hst
          simp -implicitDefEqProofs (disch := omega) only [go_sem, h2, h3, h6', h46, h47, h48, s6, h6, hg8, hg9, hu8, hu9, hk]
          refine callC_at hj2 ?_
          simp -implicitDefEqProofs (disch := omega) only [go_sem, h2, h3, h6', h46, h47, h48, s6, h6, hl2, hu8, hk]
          refine againQ_mk (n - 1) (by omega) ⟨v + 1, joinT u g, by omega, hst.mono (by push_cast; omega), hwk, hnx, ?_⟩
          simp -implicitDefEqProofs (disch := omega) only [go_sem, h2, h3, h6', h46, h47, h48, s6, h6, hl2, hu8, hk]
          simp
    · obtain rfl : v = 6 := by omega
      have hall' : decide (∀ t ∈ a.p, totOK t = true) = true := by
        rw [decide_eq_true_iff]; intro t ht
        obtain ⟨i, hi, rfl⟩ := List.mem_iff_getElem.1 ht
        rw [← gd_get a.p i hi]; exact hall i (by omega)
      rw [hall', Bool.true_and, hwk, List.drop_of_length_le (by omega)]
      show awpC _ _ _ _ _
      simp -implicitDefEqProofs (disch := omega) only [go_sem, h2, h3, h6', h46, h47, h48, s6, h6]
      refine branch_mk (fun h8 => ?_) (fun h8 => ?_)
      · simp -implicitDefEqProofs (disch := omega) only [go_sem, h2, h3, h6', h46, h47, h48, s6, h6, Tryd.results30]
        have : ¬ walkT (k / 2 ^ 6) [] u = t := by
          rw [walkT]; intro e; rw [e] at hu8; omega
        rw [decide_eq_false this]
      · rw [walkT]
        simp -implicitDefEqProofs (disch := omega) only [go_sem, h2, h3, h6', h46, h47, h48, s6, h6]
        clear hc hall hall' hwk h3 h46 h47 h48 hlf8 hl9 hlf hpre hin hcs hn hok hot h32 hk hk63 hkt
        have h8 : t.1.length = 8 := by omega
        obtain ⟨s, d⟩ := t
        have h8 : s.length = 8 := h8
        have hur : ∀ n ∈ u.1, R64 n := fun n hn => by have := hu.2.1 n hn; unfold R64; omega
        have hud : u.2.size ≤ 1000000 := by have := hu.2.2; omega
        have hsr : ∀ n ∈ s, R64 n := htr
        have hsd : d.size ≤ 1000000 := htd
        have hne : s.map I ≠ [] := by intro e; rw [List.map_eq_nil_iff] at e; subst e; simp at h8
        have h88 : ((s.map I).take 8) = s.map I := List.take_of_length_le (by simp [h8])
        have hTT : ∀ M N : ByteArray, List.take 8 (s.map I ++ [Str M]) ++ [Str N] ++ List.drop 9 (s.map I ++ [Str M]) = s.map I ++ [Str N] := fun M N => by
          rw [List.take_append_of_le_length (by simp [h8]), List.take_of_length_le (by simp [h8]), List.drop_of_length_le (by simp [h8])]; simp
        have hu9 : (u.1.map I ++ [Str u.2]).take 9 = u.1.map I ++ [Str u.2] := List.take_of_length_le (by simp [hu8])
        refine region_J1 (Plain.mono) (fun D E σ => E 2 = .pt (RP (s, d)) 0 ∧ E 6 = .ptr 65011808 9 0 0 ∧ σ 65011808 = some ⟨81, 9, [TP u]⟩ ∧ (D 0 = true → E 79 = TP u) ∧ (D 1 = true → E 80 = .pt (RP (s, d)) 0) ∧ (D 2 = true → E 81 = SL s) ∧ (D 3 = true → E 82 = .pt (.agg (s.map I)) 0) ∧ (D 4 = true → E 83 = .agg (s.map I)) ∧ (D 5 = true → E 84 = .pt (RP (s, d)) 1) ∧ (D 6 = true → E 85 = Str d) ∧ (D 7 = true → E 86 = TP (s, d)) ∧ (D 8 = true → E 87 = B (decide (u = (s, d)))) ∧ (D 9 = true → E 4 = B (decide (u = (s, d))))) 8 ?_ ?_ ?_ ?_
        · simp -implicitDefEqProofs (disch := omega) only [go_sem, h8, h88, hTT, hu9, hu8]
          exact ⟨h2, h6', s6, by simp⟩
        · simp only [stepsJ1, and_true]
          refine ⟨?_, ?_, ?_, ?_, ?_, ?_, ?_, ?_, ?_, ?_⟩
          · intro _; rintro D hD hd E σ ⟨h2, h6, s6, j0, j1, j2, j3, j4, j5, j6, j7, j8, j9⟩
            simp -implicitDefEqProofs (disch := omega) only [go_sem, h2, h6, s6, h8, h88, hTT, hu9, hu8]
            repeat' apply And.intro
            all_goals first | assumption | (intro h; refine kill_of ?_ (by first | rfl | simp -implicitDefEqProofs (disch := omega) only [go_sem]); first | exact j0 h | exact j1 h | exact j2 h | exact j3 h | exact j4 h | exact j5 h | exact j6 h | exact j7 h | exact j8 h | exact j9 h) | (intro h; simp -implicitDefEqProofs (disch := omega) only [go_sem]; done) | (intros; trivial)
          · intro _; rintro D hD hd E σ ⟨h2, h6, s6, j0, j1, j2, j3, j4, j5, j6, j7, j8, j9⟩
            simp -implicitDefEqProofs (disch := omega) only [go_sem, h2, h6, s6, h8, h88, hTT, hu9, hu8]
            repeat' apply And.intro
            all_goals first | assumption | (intro h; refine kill_of ?_ (by first | rfl | simp -implicitDefEqProofs (disch := omega) only [go_sem]); first | exact j0 h | exact j1 h | exact j2 h | exact j3 h | exact j4 h | exact j5 h | exact j6 h | exact j7 h | exact j8 h | exact j9 h) | (intro h; simp -implicitDefEqProofs (disch := omega) only [go_sem]; done) | (intros; trivial)
          · intro _; rintro D hD hd E σ ⟨h2, h6, s6, j0, j1, j2, j3, j4, j5, j6, j7, j8, j9⟩
            have d1 : D 1 = true := hd ⟨1, .data⟩ (by simp) rfl
            have q1 := j1 d1
            simp -implicitDefEqProofs (disch := omega) only [go_sem, h2, h6, s6, q1, h8, h88, hTT, hu9, hu8]
            repeat' apply And.intro
            all_goals first | assumption | (intro h; refine kill_of ?_ (by first | rfl | simp -implicitDefEqProofs (disch := omega) only [go_sem]); first | exact j0 h | exact j1 h | exact j2 h | exact j3 h | exact j4 h | exact j5 h | exact j6 h | exact j7 h | exact j8 h | exact j9 h) | (intro h; simp -implicitDefEqProofs (disch := omega) only [go_sem]; done) | (intros; trivial)
          · intro _; rintro D hD hd E σ ⟨h2, h6, s6, j0, j1, j2, j3, j4, j5, j6, j7, j8, j9⟩
            have d2 : D 2 = true := hd ⟨2, .data⟩ (by simp) rfl
            have q2 := j2 d2
            simp -implicitDefEqProofs (disch := omega) only [go_sem, h2, h6, s6, q2, h8, h88, hTT, hu9, hu8]
            refine toArr_mk (es := s.map I) (m := 8) (by simp -implicitDefEqProofs (disch := omega) only [go_sem, q2]) tarr_79 (by simp [h8]) hne (fun a ha => by obtain ⟨x, _, rfl⟩ := List.mem_map.1 ha; rfl) ?_
            simp -implicitDefEqProofs (disch := omega) only [go_sem, h2, h6, s6, q2, h8, h88, hTT, hu9, hu8]
            repeat' apply And.intro
            all_goals first | assumption | (intro h; refine kill_of ?_ (by first | rfl | simp -implicitDefEqProofs (disch := omega) only [go_sem]); first | exact j0 h | exact j1 h | exact j2 h | exact j3 h | exact j4 h | exact j5 h | exact j6 h | exact j7 h | exact j8 h | exact j9 h) | (intro h; simp -implicitDefEqProofs (disch := omega) only [go_sem]; done) | (intros; trivial)
          · intro _; rintro D hD hd E σ ⟨h2, h6, s6, j0, j1, j2, j3, j4, j5, j6, j7, j8, j9⟩
            have d3 : D 3 = true := hd ⟨3, .data⟩ (by simp) rfl
            have q3 := j3 d3
            simp -implicitDefEqProofs (disch := omega) only [go_sem, h2, h6, s6, q3, h8, h88, hTT, hu9, hu8]
            repeat' apply And.intro
            all_goals first | assumption | (intro h; refine kill_of ?_ (by first | rfl | simp -implicitDefEqProofs (disch := omega) only [go_sem]); first | exact j0 h | exact j1 h | exact j2 h | exact j3 h | exact j4 h | exact j5 h | exact j6 h | exact j7 h | exact j8 h | exact j9 h) | (intro h; simp -implicitDefEqProofs (disch := omega) only [go_sem]; done) | (intros; trivial)
          · intro _; rintro D hD hd E σ ⟨h2, h6, s6, j0, j1, j2, j3, j4, j5, j6, j7, j8, j9⟩
            simp -implicitDefEqProofs (disch := omega) only [go_sem, h2, h6, s6, h8, h88, hTT, hu9, hu8]
            repeat' apply And.intro
            all_goals first | assumption | (intro h; refine kill_of ?_ (by first | rfl | simp -implicitDefEqProofs (disch := omega) only [go_sem]); first | exact j0 h | exact j1 h | exact j2 h | exact j3 h | exact j4 h | exact j5 h | exact j6 h | exact j7 h | exact j8 h | exact j9 h) | (intro h; simp -implicitDefEqProofs (disch := omega) only [go_sem]; done) | (intros; trivial)
          · intro _; rintro D hD hd E σ ⟨h2, h6, s6, j0, j1, j2, j3, j4, j5, j6, j7, j8, j9⟩
            have d5 : D 5 = true := hd ⟨5, .data⟩ (by simp) rfl
            have q5 := j5 d5
            simp -implicitDefEqProofs (disch := omega) only [go_sem, h2, h6, s6, q5, h8, h88, hTT, hu9, hu8]
            repeat' apply And.intro
            all_goals first | assumption | (intro h; refine kill_of ?_ (by first | rfl | simp -implicitDefEqProofs (disch := omega) only [go_sem]); first | exact j0 h | exact j1 h | exact j2 h | exact j3 h | exact j4 h | exact j5 h | exact j6 h | exact j7 h | exact j8 h | exact j9 h) | (intro h; simp -implicitDefEqProofs (disch := omega) only [go_sem]; done) | (intros; trivial)
          · intro _; rintro D hD hd E σ ⟨h2, h6, s6, j0, j1, j2, j3, j4, j5, j6, j7, j8, j9⟩
            have d4 : D 4 = true := hd ⟨4, .data⟩ (by simp) rfl
            have q4 := j4 d4
            have d6 : D 6 = true := hd ⟨6, .data⟩ (by simp) rfl
            have q6 := j6 d6
            simp -implicitDefEqProofs (disch := omega) only [go_sem, h2, h6, s6, q4, q6, h8, h88, hTT, hu9, hu8]
            repeat' apply And.intro
            all_goals first | assumption | (intro h; refine kill_of ?_ (by first | rfl | simp -implicitDefEqProofs (disch := omega) only [go_sem]); first | exact j0 h | exact j1 h | exact j2 h | exact j3 h | exact j4 h | exact j5 h | exact j6 h | exact j7 h | exact j8 h | exact j9 h) | (intro h; simp -implicitDefEqProofs (disch := omega) only [go_sem]; done) | (intros; trivial)
          · intro h; exact absurd rfl h
          · intro _; rintro D hD hd E σ ⟨h2, h6, s6, j0, j1, j2, j3, j4, j5, j6, j7, j8, j9⟩
            have d8 : D 8 = true := hd ⟨8, .data⟩ (by simp) rfl
            have q8 := j8 d8
            simp -implicitDefEqProofs (disch := omega) only [go_sem, h2, h6, s6, q8, h8, h88, hTT, hu9, hu8]
            repeat' apply And.intro
            all_goals first | assumption | (intro h; refine kill_of ?_ (by first | rfl | simp -implicitDefEqProofs (disch := omega) only [go_sem]); first | exact j0 h | exact j1 h | exact j2 h | exact j3 h | exact j4 h | exact j5 h | exact j6 h | exact j7 h | exact j8 h | exact j9 h) | (intro h; simp -implicitDefEqProofs (disch := omega) only [go_sem]; done) | (intros; trivial)
        · intro o ho
          obtain rfl := Option.some.inj ho
          refine ⟨rfl, ?_⟩
          rintro D hD hd E σ ⟨h2, h6, s6, j0, j1, j2, j3, j4, j5, j6, j7, j8, j9⟩
          have d0 : D 0 = true := hd ⟨0, .data⟩ (by simp) rfl
          have q0 := j0 d0
          have d7 : D 7 = true := hd ⟨7, .data⟩ (by simp) rfl
          have q7 := j7 d7
          refine (?_ : semD (spB Tryd.prog 30 88 [17]) (some 87) (.binOp .eql 81 (.tmp 79) (.tmp 86) 81) 4 _ _ _) _ _ _
          refine eqDeep_mk (t := 81) (us := u.1.map (Value.int .i64) ++ [Value.string u.2]) (vs := s.map (Value.int .i64) ++ [Value.string d]) 3 3 (decide (u = (s, d))) ?_ ?_ (lits81 u.1 u.2 hu8 hur hud) (lits81 s d h8 hsr hsd) (by kernel_rfl) (by decide) (form81 u.1 u.2 hu8) (form81 s d h8) (by kernel_rfl) (by kernel_rfl) ?_ ?_
          · simp -implicitDefEqProofs (disch := omega) only [go_sem, q0]
            simp
          · simp -implicitDefEqProofs (disch := omega) only [go_sem, q7]
            simp
          · rw [decide_eq_true_iff]; exact lits81_iff u.1 u.2 s d
          simp -implicitDefEqProofs (disch := omega) only [go_sem, h2, h6, s6, h8, h88, hTT, hu9, hu8]
          repeat' apply And.intro
          all_goals first | assumption | (intro h; refine kill_of ?_ (by first | rfl | simp -implicitDefEqProofs (disch := omega) only [go_sem]); first | exact j0 h | exact j1 h | exact j2 h | exact j3 h | exact j4 h | exact j5 h | exact j6 h | exact j7 h | exact j8 h | exact j9 h) | (intro h; simp -implicitDefEqProofs (disch := omega) only [go_sem]; done)
        · rintro D E σ hD ⟨h2, h6, s6, j0, j1, j2, j3, j4, j5, j6, j7, j8, j9⟩
          have q0 := j0 (hD 0 (by decide))
          have q1 := j1 (hD 1 (by decide))
          have q2 := j2 (hD 2 (by decide))
          have q3 := j3 (hD 3 (by decide))
          have q4 := j4 (hD 4 (by decide))
          have q5 := j5 (hD 5 (by decide))
          have q6 := j6 (hD 6 (by decide))
          have q7 := j7 (hD 7 (by decide))
          have q8 := j8 (hD 8 (by decide))
          have q9 := j9 (hD 9 (by decide))
          simp -implicitDefEqProofs (disch := omega) only [go_sem, q9, Tryd.results30]
end Go.Proofs.YtgbcfpcjljhijaaDoor

/- Tariffs and calls that integers determine -/
import Derived.Test.YtcllccpeechdhaaKI
set_option linter.unusedVariables false
set_option linter.unusedSimpArgs false
set_option maxRecDepth 100000
namespace Go.Proofs.Ytcllccpeechdhaa
open Go.Vai Go Go.Proofs
structure Q4 where
  a : Int
  b : Int
  c : Int
  d : Int
instance : Inhabited Q4 := ⟨⟨0, 0, 0, 0⟩⟩
abbrev QP (q : Q4) : AV := .agg [I q.a, I q.b, I q.c, I q.d]
abbrev QL (x : List Q4) : AV := .sl 4 (x.map QP)
def Q4.ok (q : Q4) : Prop := R64 q.a ∧ R64 q.b ∧ R64 q.c ∧ R64 q.d
section
variable (p : Nat → Bool) (l : List Q4)
@[go_sem] theorem namesL_QP : AV.namesL p (l.map QP) = false := namesL_map p l QP fun _ => rfl
@[go_sem] theorem flatL_QP : AV.flatL (l.map QP) = true := flatL_map l QP fun _ => rfl
@[go_sem] theorem allOK_QP : allOK 4 (l.map QP) = true := allOK_map 4 l QP fun _ => ⟨rfl, rfl⟩
end
def rateM (q : Q4) : Rt :=
  if pickF (q.b.tdiv 24) 4 = 3 then ⟨1 + pickF q.a 127, pickF q.b 86400, pickF q.b 86400 + 1 + pickF q.c (86400 - pickF q.b 86400), pickF q.d 1000⟩
  else ⟨1 + pickF q.a 127, 3600 * pickF q.b 24, min (3600 * pickF q.b 24 + 3600 * (1 + pickF q.c 24)) 86400, pickF q.d 1000⟩
theorem rateM_good (q : Q4) : goodR (rateM q) = true ∧ (rateM q).p < 1000 := by
  have h1 := pickF_in (c := q.a) (n := 127) (by omega)
  have h2 := pickF_in (c := q.b) (n := 86400) (by omega)
  have h3 := pickF_in (c := q.b) (n := 24) (by omega)
  have h4 := pickF_in (c := q.c) (n := 24) (by omega)
  have h5 := pickF_in (c := q.d) (n := 1000) (by omega)
  have h6 := pickF_in (c := q.c) (n := 86400 - pickF q.b 86400) (by omega)
  unfold rateM
  split
  · refine ⟨goodR_iff.2 ?_, ?_⟩ <;> (simp only; omega)
  · refine ⟨goodR_iff.2 ?_, ?_⟩ <;> (simp only; omega)
def madeT (b : Int) (x : List Q4) : Tf := ⟨(x.take 6).map rateM, pickF b 1000⟩
theorem madeT_good (b : Int) (x : List Q4) : goodT (madeT b x) = true := by
  have h1 := pickF_in (c := b) (n := 1000) (by omega)
  refine goodT_iff.2 ⟨⟨h1.1, by simp only [madeT]; omega, by simp only [madeT, List.length_map, List.length_take]; omega⟩, fun r hr => ?_⟩
  obtain ⟨q, _, rfl⟩ := List.mem_map.1 hr
  exact (rateM_good q).1
theorem madeT_rate (b : Int) (x : List Q4) (s : Int) : 0 ≤ rateF (madeT b x) s ∧ rateF (madeT b x) s ≤ 1000 := by
  have h1 := pickF_in (c := b) (n := 1000) (by omega)
  refine ⟨(rateF_in (madeT_good b x) s).1, ?_⟩
  unfold rateF
  split
  · rename_i r hr
    obtain ⟨q, _, rfl⟩ := List.mem_map.1 (List.mem_of_find?_eq_some hr)
    have := (rateM_good q).2
    omega
  · simp only [madeT]; omega
def zonedF (x : Int) : Int := if pickF x 8 = 7 then pickF (x.tdiv 8) 100801 - 50400 else 1800 * (pickF x 57 - 28)
theorem zonedF_ok (x : Int) : zoneF (zonedF x) = true := by
  have h1 := pickF_in (c := x.tdiv 8) (n := 100801) (by omega)
  have h2 := pickF_in (c := x) (n := 57) (by omega)
  rw [zoneF_iff]
  unfold zonedF
  split <;> omega
def durA (f : Int) : Int := max (1800 * pickF f 1000 + pickF (f.tdiv 1000) 3 - 1) 0
def durL (l : Int) : Int := if pickF l 4 = 3 then pickF (l.tdiv 4) 345600 else pickF (l.tdiv 4) 5000
theorem durA_in (f : Int) : 0 ≤ durA f ∧ durA f ≤ 2000000 := by
  have h1 := pickF_in (c := f) (n := 1000) (by omega)
  have h2 := pickF_in (c := f.tdiv 1000) (n := 3) (by omega)
  unfold durA; omega
theorem durL_in (l : Int) : 0 ≤ durL l ∧ durL l < 345600 := by
  have h1 := pickF_in (c := l.tdiv 4) (n := 345600) (by omega)
  have h2 := pickF_in (c := l.tdiv 4) (n := 5000) (by omega)
  unfold durL; split <;> omega
theorem psum_le {g : Int → Int} {a : Int} {c : Int} (h : ∀ t, g t ≤ c) : ∀ n : Nat, psum g a n ≤ c * n
  | 0 => by simp [psum]
  | n + 1 => by
    have := psum_le (a := a) h n
    have h2 := h (a + n)
    rw [psum, show ((n + 1 : Nat) : Int) = n + 1 from rfl, Int.mul_add, Int.mul_one]
    omega
theorem amt_in (b : Int) (x : List Q4) (z : Int) {f t : Int} (h0 : 0 ≤ f) (h : f ≤ t) (ht : t ≤ f + 345600) : 0 ≤ amtF (madeT b x) z f t ∧ amtF (madeT b x) z f t ≤ 10000000 := by
  have h1 := sumF_add (madeT b x) z (a := 0) (b := f) (c := t) h0 h
  have h2 := (sumF_in (madeT_good b x) z f t h).1
  have h3 : sumF (madeT b x) z f t ≤ 1000 * ((t - f).toNat : Int) := psum_le (fun s => (madeT_rate b x _).2) _
  unfold amtF
  omega
theorem amt_add (x : Tf) (z f m t : Int) : amtF x z f m + amtF x z m t = amtF x z f t := by unfold amtF; omega
end Go.Proofs.Ytcllccpeechdhaa
namespace Go.Proofs.Ytcllccpeechdhaa
open Go.Vai Go
def oneD (f t a : Int) : List Deb := if 0 < a then [(f, t, a)] else []
theorem oneD_pos {f t a : Int} (h : 0 < a) : oneD f t a = [(f, t, a)] := if_pos h
theorem oneD_none {f t a : Int} (h : ¬ 0 < a) : oneD f t a = [] := if_neg h
theorem oneD_sum (g : Deb → Int) {f t a : Int} (h : 0 ≤ a) (h0 : g (f, t, 0) = 0) : ((oneD f t a).map g).sum = g (f, t, a) := by
  unfold oneD
  split
  · simp
  · obtain rfl : a = 0 := by omega
    simp [h0]
def frF (q : Q4) : Int := pickF q.a 8
def toF (q : Q4) : Int := (pickF q.a 8 + 1 + pickF q.b 7).tmod 8
theorem ends_in (q : Q4) : (0 ≤ frF q ∧ frF q ≤ 7) ∧ (0 ≤ toF q ∧ toF q ≤ 7) ∧ frF q ≠ toF q := by
  have h1 := pickF_in (c := q.a) (n := 8) (by omega)
  have h2 := pickF_in (c := q.b) (n := 7) (by omega)
  unfold frF toF
  rw [Int.tmod_eq_emod_of_nonneg (by omega)]
  omega
def whF (T : Tf) (z : Int) (cs : List Q4) : Nat → List Deb
  | 0 => []
  | i + 1 => whF T z cs i ++ oneD (frF (gd cs i)) (toF (gd cs i)) (amtF T z (durA (gd cs i).c) (durA (gd cs i).c + durL (gd cs i).d))
def midF (cs : List Q4) (w at_ : Int) (i : Nat) : Int := if (i : Int) = w then durA (gd cs i).c + pickF at_ (durL (gd cs i).d + 1) else durA (gd cs i).c + durL (gd cs i).d
theorem midF_in (cs : List Q4) (w at_ : Int) (i : Nat) : durA (gd cs i).c ≤ midF cs w at_ i ∧ midF cs w at_ i ≤ durA (gd cs i).c + durL (gd cs i).d := by
  have h1 := durL_in (gd cs i).d
  have h2 := pickF_in (c := at_) (n := durL (gd cs i).d + 1) (by omega)
  unfold midF
  split <;> omega
def ptF (T : Tf) (z : Int) (cs : List Q4) (w at_ : Int) : Nat → List Deb
  | 0 => []
  | i + 1 => ptF T z cs w at_ i ++ oneD (frF (gd cs i)) (toF (gd cs i)) (amtF T z (durA (gd cs i).c) (midF cs w at_ i)) ++ oneD (frF (gd cs i)) (toF (gd cs i)) (amtF T z (midF cs w at_ i) (durA (gd cs i).c + durL (gd cs i).d))
variable (b : Int) (x : List Q4) (z : Int) (cs : List Q4) (w at_ : Int)
theorem same_sum (g : Deb → Int) (h0 : ∀ f t, g (f, t, 0) = 0) (h1 : ∀ f t a c, g (f, t, a + c) = g (f, t, a) + g (f, t, c)) : ∀ i, ((whF (madeT b x) z cs i).map g).sum = ((ptF (madeT b x) z cs w at_ i).map g).sum
  | 0 => rfl
  | i + 1 => by
    have hm := midF_in cs w at_ i
    have ha := durA_in (gd cs i).c
    have hl := durL_in (gd cs i).d
    rw [whF, ptF]
    simp only [List.map_append, List.sum_append]
    rw [same_sum g h0 h1 i, oneD_sum g (amt_in b x z ha.1 (by omega) (by omega)).1 (h0 _ _), oneD_sum g (amt_in b x z ha.1 hm.1 (by omega)).1 (h0 _ _), oneD_sum g (amt_in b x z (by omega) hm.2 (by omega)).1 (h0 _ _)]
    rw [← amt_add (madeT b x) z _ (midF cs w at_ i) _, h1]
    omega
theorem oneD_len (f t a : Int) : (oneD f t a).length ≤ 1 := by unfold oneD; split <;> simp
theorem oneD_ok {q : Q4} {a : Int} (h : a ≤ 10000000) : ∀ d ∈ oneD (frF q) (toF q) a, ¬ badF 1000000000 d := fun d hd => by
  have he := ends_in q
  unfold oneD at hd
  split at hd
  · obtain rfl := List.mem_singleton.1 hd
    unfold badF
    simp only
    omega
  · cases hd
theorem wh_len (T : Tf) : ∀ i, (whF T z cs i).length ≤ i
  | 0 => by simp [whF]
  | i + 1 => by
    have h1 := wh_len T i
    have h2 := oneD_len (frF (gd cs i)) (toF (gd cs i)) (amtF T z (durA (gd cs i).c) (durA (gd cs i).c + durL (gd cs i).d))
    rw [whF, List.length_append]; omega
theorem pt_len (T : Tf) : ∀ i, (ptF T z cs w at_ i).length ≤ 2 * i
  | 0 => by simp [ptF]
  | i + 1 => by
    have h1 := pt_len T i
    have h2 := oneD_len (frF (gd cs i)) (toF (gd cs i)) (amtF T z (durA (gd cs i).c) (midF cs w at_ i))
    have h3 := oneD_len (frF (gd cs i)) (toF (gd cs i)) (amtF T z (midF cs w at_ i) (durA (gd cs i).c + durL (gd cs i).d))
    rw [ptF, List.length_append, List.length_append]; omega
theorem wh_ok : ∀ i, ∀ d ∈ whF (madeT b x) z cs i, ¬ badF 1000000000 d
  | 0, d, h => by cases h
  | i + 1, d, h => by
    have ha := durA_in (gd cs i).c
    have hl := durL_in (gd cs i).d
    rw [whF] at h
    rcases List.mem_append.1 h with h | h
    · exact wh_ok i d h
    · exact oneD_ok (amt_in b x z ha.1 (by omega) (by omega)).2 d h
theorem pt_ok : ∀ i, ∀ d ∈ ptF (madeT b x) z cs w at_ i, ¬ badF 1000000000 d
  | 0, d, h => by cases h
  | i + 1, d, h => by
    have hm := midF_in cs w at_ i
    have ha := durA_in (gd cs i).c
    have hl := durL_in (gd cs i).d
    rw [ptF] at h
    rcases List.mem_append.1 h with h | h
    · rcases List.mem_append.1 h with h | h
      · exact pt_ok i d h
      · exact oneD_ok (amt_in b x z ha.1 hm.1 (by omega)).2 d h
    · exact oneD_ok (amt_in b x z (by omega) hm.2 (by omega)).2 d h
theorem wh_debts {i : Nat} (hi : i ≤ 10) : debtsF (whF (madeT b x) z cs i) 1000000000 = true :=
  debts_of (by have := wh_len z cs (madeT b x) i; omega) (wh_ok b x z cs i)
theorem pt_debts {i : Nat} (hi : i ≤ 10) : debtsF (ptF (madeT b x) z cs w at_ i) 1000000000 = true :=
  debts_of (by have := pt_len z cs w at_ (madeT b x) i; omega) (pt_ok b x z cs w at_ i)
theorem pt_bal {i : Nat} (hi : i ≤ 10) : balF (whF (madeT b x) z cs i) = balF (ptF (madeT b x) z cs w at_ i) :=
  bal_same (wh_debts b x z cs hi) (pt_debts b x z cs w at_ hi) fun c _ => same_sum b x z cs w at_ (getsF c)
    (fun f t => by simp [getsF]) (fun f t a c' => by simp only [getsF]; split <;> split <;> omega) i
theorem pt_book (i : Nat) : bookF (whF (madeT b x) z cs i) = bookF (ptF (madeT b x) z cs w at_ i) :=
  book_same fun p q => same_sum b x z cs w at_ (dF p q) (fun f t => by simp [dF]) (fun f t a c' => by simp only [dF]; split <;> omega) i
end Go.Proofs.Ytcllccpeechdhaa
set_option maxRecDepth 100000
namespace Go.Proofs.Ytcllccpeechdhaa
open Go.Vai Go Go.Proofs
theorem tdiv_R64 {c : Int} (h : R64 c) (k : Int) (hk : 0 < k) : R64 (c.tdiv k) := by
  obtain ⟨h1, h2⟩ := h
  unfold R64
  rcases Int.le_total 0 c with h0 | h0
  · rw [Int.tdiv_eq_ediv_of_nonneg h0]
    have a := Int.ediv_nonneg h0 (Int.le_of_lt hk)
    have b := Int.ediv_le_self k h0
    omega
  · have e : c.tdiv k = -((-c).tdiv k) := by rw [Int.neg_tdiv, Int.neg_neg]
    rw [e, Int.tdiv_eq_ediv_of_nonneg (by omega)]
    have a := Int.ediv_nonneg (a := -c) (b := k) (by omega) (Int.le_of_lt hk)
    have b := Int.ediv_le_self (a := -c) k (by omega)
    omega
theorem wrap_R64 {c : Int} (h : R64 c) : IntKind.i64.wrap c = c := wrap64_of (by unfold R64 at h; omega)
theorem pick37_ev (c n : Int) (hc : R64 c) (hn : 0 < n) : Ev Try.prog 20 [I c, I n] (I (pickF c n)) := by
  obtain ⟨h1, h2⟩ := hc
  refine ev_of Try.func20 rfl (by kernel_rfl) mo (Nat.le_of_ble_eq_true rfl) ?_
  simp -implicitDefEqProofs (disch := omega) only [go_sem, ↓reduceIte, Nat.reduceEqDiff, Nat.reduceMul, Nat.reduceAdd, Nat.reduceDiv, Nat.reduceBEq, Nat.reduceLeDiff, Int.reduceToNat, Int.reduceNe, Int.reduceEq, Int.reduceLT, Int.reduceLE, Int.reduceBEq, Int.reduceBNe, ne_eq, not_true_eq_false, not_false_eq_true, decide_true, decide_false, List.length_map, Try.ntmps20]
  refine branch_mk (fun h => ?_) (fun h => ?_) <;> simp -implicitDefEqProofs (disch := omega) only [go_sem, ↓reduceIte, Nat.reduceEqDiff, Nat.reduceMul, Nat.reduceAdd, Nat.reduceDiv, Nat.reduceBEq, Nat.reduceLeDiff, Int.reduceToNat, Int.reduceNe, Int.reduceEq, Int.reduceLT, Int.reduceLE, Int.reduceBEq, Int.reduceBNe, ne_eq, not_true_eq_false, not_false_eq_true, decide_true, decide_false, List.length_map, Try.results20]
  · rw [show (0 - (c+1)) = -(c+1) from by omega]; simp [pickF, h]
  · simp [pickF, h]
theorem pick39_ev (c n : Int) (hc : R64 c) (hn : 0 < n) : Ev Try.prog 7 [I c, I n] (I (pickF c n)) := by
  obtain ⟨h1, h2⟩ := hc
  refine ev_of Try.func7 rfl (by kernel_rfl) mo (Nat.le_of_ble_eq_true rfl) ?_
  simp -implicitDefEqProofs (disch := omega) only [go_sem, ↓reduceIte, Nat.reduceEqDiff, Nat.reduceMul, Nat.reduceAdd, Nat.reduceDiv, Nat.reduceBEq, Nat.reduceLeDiff, Int.reduceToNat, Int.reduceNe, Int.reduceEq, Int.reduceLT, Int.reduceLE, Int.reduceBEq, Int.reduceBNe, ne_eq, not_true_eq_false, not_false_eq_true, decide_true, decide_false, List.length_map, Try.ntmps7]
  refine branch_mk (fun h => ?_) (fun h => ?_) <;> simp -implicitDefEqProofs (disch := omega) only [go_sem, ↓reduceIte, Nat.reduceEqDiff, Nat.reduceMul, Nat.reduceAdd, Nat.reduceDiv, Nat.reduceBEq, Nat.reduceLeDiff, Int.reduceToNat, Int.reduceNe, Int.reduceEq, Int.reduceLT, Int.reduceLE, Int.reduceBEq, Int.reduceBNe, ne_eq, not_true_eq_false, not_false_eq_true, decide_true, decide_false, List.length_map, Try.results7]
  · rw [show (0 - (c+1)) = -(c+1) from by omega]; simp [pickF, h]
  · simp [pickF, h]
theorem zoned_ev (x : Int) (hx : R64 x) : Ev Try.prog 6 [I x] (I (zonedF x)) := by
  have p1 := pickF_in (c := x.tdiv 8) (n := 100801) (by omega)
  have p2 := pickF_in (c := x) (n := 57) (by omega)
  have e1 := pick37_ev x 8 hx (by omega)
  have e2 := pick37_ev (x.tdiv 8) 100801 (tdiv_R64 hx 8 (by omega)) (by omega)
  have e3 := pick37_ev x 57 hx (by omega)
  have w1 := wrap_R64 (tdiv_R64 hx 8 (by omega))
  unfold zonedF
  generalize pickF x 8 = u at *
  generalize pickF (x.tdiv 8) 100801 = v at *
  generalize pickF x 57 = w at *
  refine ev_of Try.func6 rfl (by kernel_rfl) mo (Nat.le_of_ble_eq_true rfl) ?_
  simp -implicitDefEqProofs (disch := omega) only [go_sem, ↓reduceIte, Nat.reduceEqDiff, Nat.reduceMul, Nat.reduceAdd, Nat.reduceDiv, Nat.reduceBEq, Nat.reduceLeDiff, Int.reduceToNat, Int.reduceNe, Int.reduceEq, Int.reduceLT, Int.reduceLE, Int.reduceBEq, Int.reduceBNe, ne_eq, not_true_eq_false, not_false_eq_true, decide_true, decide_false, List.length_map, Try.ntmps6]
  refine callC_at e1 ?_
  simp -implicitDefEqProofs (disch := omega) only [go_sem, ↓reduceIte, Nat.reduceEqDiff, Nat.reduceMul, Nat.reduceAdd, Nat.reduceDiv, Nat.reduceBEq, Nat.reduceLeDiff, Int.reduceToNat, Int.reduceNe, Int.reduceEq, Int.reduceLT, Int.reduceLE, Int.reduceBEq, Int.reduceBNe, ne_eq, not_true_eq_false, not_false_eq_true, decide_true, decide_false, List.length_map]
  refine branch_mk (fun h => ?_) (fun h => ?_)
  · rw [if_pos h]
    simp -implicitDefEqProofs (disch := omega) only [go_sem, ↓reduceIte, Nat.reduceEqDiff, Nat.reduceMul, Nat.reduceAdd, Nat.reduceDiv, Nat.reduceBEq, Nat.reduceLeDiff, Int.reduceToNat, Int.reduceNe, Int.reduceEq, Int.reduceLT, Int.reduceLE, Int.reduceBEq, Int.reduceBNe, ne_eq, not_true_eq_false, not_false_eq_true, decide_true, decide_false, List.length_map, h, w1]
    refine callC_at e2 ?_
    simp -implicitDefEqProofs (disch := omega) only [go_sem, ↓reduceIte, Nat.reduceEqDiff, Nat.reduceMul, Nat.reduceAdd, Nat.reduceDiv, Nat.reduceBEq, Nat.reduceLeDiff, Int.reduceToNat, Int.reduceNe, Int.reduceEq, Int.reduceLT, Int.reduceLE, Int.reduceBEq, Int.reduceBNe, ne_eq, not_true_eq_false, not_false_eq_true, decide_true, decide_false, List.length_map, Try.results6]
  · rw [if_neg h]
    simp -implicitDefEqProofs (disch := omega) only [go_sem, ↓reduceIte, Nat.reduceEqDiff, Nat.reduceMul, Nat.reduceAdd, Nat.reduceDiv, Nat.reduceBEq, Nat.reduceLeDiff, Int.reduceToNat, Int.reduceNe, Int.reduceEq, Int.reduceLT, Int.reduceLE, Int.reduceBEq, Int.reduceBNe, ne_eq, not_true_eq_false, not_false_eq_true, decide_true, decide_false, List.length_map, h]
    refine callC_at e3 ?_
    simp -implicitDefEqProofs (disch := omega) only [go_sem, ↓reduceIte, Nat.reduceEqDiff, Nat.reduceMul, Nat.reduceAdd, Nat.reduceDiv, Nat.reduceBEq, Nat.reduceLeDiff, Int.reduceToNat, Int.reduceNe, Int.reduceEq, Int.reduceLT, Int.reduceLE, Int.reduceBEq, Int.reduceBNe, ne_eq, not_true_eq_false, not_false_eq_true, decide_true, decide_false, List.length_map, Try.results6]
theorem during_ev (f l : Int) (hf : R64 f) (hl : R64 l) : Ev Try.prog 8 [I f, I l] (SP2 (durA f) (durA f + durL l)) := by
  have p1 := pickF_in (c := f) (n := 1000) (by omega)
  have p2 := pickF_in (c := f.tdiv 1000) (n := 3) (by omega)
  have p3 := durA_in f
  have p4 := durL_in l
  have p5 := pickF_in (c := l.tdiv 4) (n := 345600) (by omega)
  have p6 := pickF_in (c := l.tdiv 4) (n := 5000) (by omega)
  have e1 := pick37_ev f 1000 hf (by omega)
  have e2 := pick37_ev (f.tdiv 1000) 3 (tdiv_R64 hf 1000 (by omega)) (by omega)
  have e3 := pick37_ev l 4 hl (by omega)
  have e4 := pick37_ev (l.tdiv 4) 345600 (tdiv_R64 hl 4 (by omega)) (by omega)
  have e5 := pick37_ev (l.tdiv 4) 5000 (tdiv_R64 hl 4 (by omega)) (by omega)
  have ha : durA f = max (1800 * pickF f 1000 + pickF (f.tdiv 1000) 3 - 1) 0 := rfl
  have hb : durL l = if pickF l 4 = 3 then pickF (l.tdiv 4) 345600 else pickF (l.tdiv 4) 5000 := rfl
  generalize pickF f 1000 = u at *
  generalize pickF (f.tdiv 1000) 3 = v at *
  generalize pickF l 4 = w at *
  generalize pickF (l.tdiv 4) 345600 = a at *
  generalize pickF (l.tdiv 4) 5000 = b at *
  refine ev_of Try.func8 rfl (by kernel_rfl) mo (Nat.le_of_ble_eq_true rfl) ?_
  simp -implicitDefEqProofs (disch := omega) only [go_sem, ↓reduceIte, Nat.reduceEqDiff, Nat.reduceMul, Nat.reduceAdd, Nat.reduceDiv, Nat.reduceBEq, Nat.reduceLeDiff, Int.reduceToNat, Int.reduceNe, Int.reduceEq, Int.reduceLT, Int.reduceLE, Int.reduceBEq, Int.reduceBNe, ne_eq, not_true_eq_false, not_false_eq_true, decide_true, decide_false, List.length_map, Try.ntmps8]
  have w1 := wrap_R64 (tdiv_R64 hf 1000 (by omega))
  have w2 := wrap_R64 (tdiv_R64 hl 4 (by omega))
  refine callC_at e1 ?_
  simp -implicitDefEqProofs (disch := omega) only [go_sem, ↓reduceIte, Nat.reduceEqDiff, Nat.reduceMul, Nat.reduceAdd, Nat.reduceDiv, Nat.reduceBEq, Nat.reduceLeDiff, Int.reduceToNat, Int.reduceNe, Int.reduceEq, Int.reduceLT, Int.reduceLE, Int.reduceBEq, Int.reduceBNe, ne_eq, not_true_eq_false, not_false_eq_true, decide_true, decide_false, List.length_map, w1]
  refine callC_at e2 ?_
  simp -implicitDefEqProofs (disch := omega) only [go_sem, ↓reduceIte, Nat.reduceEqDiff, Nat.reduceMul, Nat.reduceAdd, Nat.reduceDiv, Nat.reduceBEq, Nat.reduceLeDiff, Int.reduceToNat, Int.reduceNe, Int.reduceEq, Int.reduceLT, Int.reduceLE, Int.reduceBEq, Int.reduceBNe, ne_eq, not_true_eq_false, not_false_eq_true, decide_true, decide_false, List.length_map, ← ha]
  refine callC_at e3 ?_
  simp -implicitDefEqProofs (disch := omega) only [go_sem, ↓reduceIte, Nat.reduceEqDiff, Nat.reduceMul, Nat.reduceAdd, Nat.reduceDiv, Nat.reduceBEq, Nat.reduceLeDiff, Int.reduceToNat, Int.reduceNe, Int.reduceEq, Int.reduceLT, Int.reduceLE, Int.reduceBEq, Int.reduceBNe, ne_eq, not_true_eq_false, not_false_eq_true, decide_true, decide_false, List.length_map]
  refine branch_mk (fun h => ?_) (fun h => ?_)
  · rw [if_pos h] at hb
    simp -implicitDefEqProofs (disch := omega) only [go_sem, ↓reduceIte, Nat.reduceEqDiff, Nat.reduceMul, Nat.reduceAdd, Nat.reduceDiv, Nat.reduceBEq, Nat.reduceLeDiff, Int.reduceToNat, Int.reduceNe, Int.reduceEq, Int.reduceLT, Int.reduceLE, Int.reduceBEq, Int.reduceBNe, ne_eq, not_true_eq_false, not_false_eq_true, decide_true, decide_false, List.length_map, h, w2]
    refine callC_at e4 ?_
    rw [← hb]
    simp -implicitDefEqProofs (disch := omega) only [go_sem, ↓reduceIte, Nat.reduceEqDiff, Nat.reduceMul, Nat.reduceAdd, Nat.reduceDiv, Nat.reduceBEq, Nat.reduceLeDiff, Int.reduceToNat, Int.reduceNe, Int.reduceEq, Int.reduceLT, Int.reduceLE, Int.reduceBEq, Int.reduceBNe, ne_eq, not_true_eq_false, not_false_eq_true, decide_true, decide_false, List.length_map, false_and, and_self, Try.results8]
  · rw [if_neg h] at hb
    simp -implicitDefEqProofs (disch := omega) only [go_sem, ↓reduceIte, Nat.reduceEqDiff, Nat.reduceMul, Nat.reduceAdd, Nat.reduceDiv, Nat.reduceBEq, Nat.reduceLeDiff, Int.reduceToNat, Int.reduceNe, Int.reduceEq, Int.reduceLT, Int.reduceLE, Int.reduceBEq, Int.reduceBNe, ne_eq, not_true_eq_false, not_false_eq_true, decide_true, decide_false, List.length_map, h, w2]
    refine callC_at e5 ?_
    rw [← hb]
    simp -implicitDefEqProofs (disch := omega) only [go_sem, ↓reduceIte, Nat.reduceEqDiff, Nat.reduceMul, Nat.reduceAdd, Nat.reduceDiv, Nat.reduceBEq, Nat.reduceLeDiff, Int.reduceToNat, Int.reduceNe, Int.reduceEq, Int.reduceLT, Int.reduceLE, Int.reduceBEq, Int.reduceBNe, ne_eq, not_true_eq_false, not_false_eq_true, decide_true, decide_false, List.length_map, false_and, and_self, Try.results8]
set_option maxHeartbeats 1000000 in
theorem madeT_ev (b : Int) (x : List Q4) (hb : R64 b) (hx : ∀ q ∈ x, q.ok) (hn : x.length ≤ 9223372036854775807) : Ev Try.prog 5 [I b, QL x] (TF (madeT b x)) := by
  have p0 := pickF_in (c := b) (n := 1000) (by omega)
  have e0 := pick37_ev b 1000 hb (by omega)
  have hm : madeT b x = ⟨(x.take 6).map rateM, pickF b 1000⟩ := rfl
  rw [hm]
  clear hm
  obtain ⟨Z, hZ⟩ : ∃ Z, (x.take 6).map rateM = Z := ⟨_, rfl⟩
  rw [hZ]
  generalize pickF b 1000 = pb at *
  refine ev_ofB [2, 12] Try.func5 rfl (by kernel_rfl) mo (Nat.le_of_ble_eq_true rfl) ?_
  simp -implicitDefEqProofs (disch := omega) only [go_sem, ↓reduceIte, Nat.reduceEqDiff, Nat.reduceMul, Nat.reduceAdd, Nat.reduceDiv, Nat.reduceBEq, Nat.reduceLeDiff, Int.reduceToNat, Int.reduceNe, Int.reduceEq, Int.reduceLT, Int.reduceLE, Int.reduceBEq, Int.reduceBNe, ne_eq, not_true_eq_false, not_false_eq_true, decide_true, decide_false, List.length_map, Try.ntmps5]
  refine callC_at e0 ?_
  simp -implicitDefEqProofs (disch := omega) only [go_sem, ↓reduceIte, Nat.reduceEqDiff, Nat.reduceMul, Nat.reduceAdd, Nat.reduceDiv, Nat.reduceBEq, Nat.reduceLeDiff, Int.reduceToNat, Int.reduceNe, Int.reduceEq, Int.reduceLT, Int.reduceLE, Int.reduceBEq, Int.reduceBNe, ne_eq, not_true_eq_false, not_false_eq_true, decide_true, decide_false, List.length_map]
  refine nilOwn_C 12582992 12582993 0 0 56 4 (k := ⟨26, 2, [.agg [.v (.slice none 0 0), I pb]]⟩) (el := .agg [.v (.slice none 0 0), I pb]) (by simp -implicitDefEqProofs (disch := omega) only [go_sem, ↓reduceIte, Nat.reduceEqDiff, Nat.reduceMul, Nat.reduceAdd, Nat.reduceDiv, Nat.reduceBEq, Nat.reduceLeDiff, Int.reduceToNat, Int.reduceNe, Int.reduceEq, Int.reduceLT, Int.reduceLE, Int.reduceBEq, Int.reduceBNe, ne_eq, not_true_eq_false, not_false_eq_true, decide_true, decide_false, List.length_map]) (by decide) rfl rfl (by simp) (by simp -implicitDefEqProofs (disch := omega) only [go_sem, ↓reduceIte, Nat.reduceEqDiff, Nat.reduceMul, Nat.reduceAdd, Nat.reduceDiv, Nat.reduceBEq, Nat.reduceLeDiff, Int.reduceToNat, Int.reduceNe, Int.reduceEq, Int.reduceLT, Int.reduceLE, Int.reduceBEq, Int.reduceBNe, ne_eq, not_true_eq_false, not_false_eq_true, decide_true, decide_false, List.length_map]) rfl ?_
  refine reg_mk Plain.mono ?_
  simp -implicitDefEqProofs (disch := omega) only [go_sem, ↓reduceIte, Nat.reduceEqDiff, Nat.reduceMul, Nat.reduceAdd, Nat.reduceDiv, Nat.reduceBEq, Nat.reduceLeDiff, Int.reduceToNat, Int.reduceNe, Int.reduceEq, Int.reduceLT, Int.reduceLE, Int.reduceBEq, Int.reduceBNe, ne_eq, not_true_eq_false, not_false_eq_true, decide_true, decide_false, List.length_map]
  refine loopC_mk (fun n E σ => ∃ i : Nat, i + n = 6 ∧ i ≤ x.length ∧ E 1 = QL x ∧ E 4 = .ptr 12582976 2 0 0 ∧ E 5 = .ptr 12582992 2 0 0 ∧ E 6 = I i ∧ σ 12582976 = some ⟨26, 2, [.agg [.v (.slice none 0 0), I 0]]⟩ ∧ σ 12582992 = some ⟨26, 2, [.agg [.own 12582993 4 0 i, I pb]]⟩ ∧ σ 12582993 = some ⟨56, 4, ((x.take i).map rateM).map TP⟩) 6 ⟨0, by omega, by omega, ?_⟩ ?_
  · simp -implicitDefEqProofs (disch := omega) only [go_sem, ↓reduceIte, Nat.reduceEqDiff, Nat.reduceMul, Nat.reduceAdd, Nat.reduceDiv, Nat.reduceBEq, Nat.reduceLeDiff, Int.reduceToNat, Int.reduceNe, Int.reduceEq, Int.reduceLT, Int.reduceLE, Int.reduceBEq, Int.reduceBNe, ne_eq, not_true_eq_false, not_false_eq_true, decide_true, decide_false, List.length_map]
    try rfl
  rintro n E σ ⟨i, hi, hix, e1, e4, e5, e6, m4, m5, mr⟩
  have htl : ((x.take i).map rateM).length = i := by simp; omega
  have fin : i = 6 ∨ i = x.length → Z = (x.take i).map rateM := fun h => by
    rw [← hZ]
    rcases h with rfl | rfl
    · rfl
    · rw [List.take_length, List.take_of_length_le (by omega)]
  simp -implicitDefEqProofs (disch := omega) only [go_sem, ↓reduceIte, Nat.reduceEqDiff, Nat.reduceMul, Nat.reduceAdd, Nat.reduceDiv, Nat.reduceBEq, Nat.reduceLeDiff, Int.reduceToNat, Int.reduceNe, Int.reduceEq, Int.reduceLT, Int.reduceLE, Int.reduceBEq, Int.reduceBNe, ne_eq, not_true_eq_false, not_false_eq_true, decide_true, decide_false, List.length_map, e1, e4, e5, e6, m4, m5, mr, false_and, and_self]
  refine branch_mk (fun hc => ?_) (fun hc => ?_)
  · simp -implicitDefEqProofs (disch := omega) only [go_sem, ↓reduceIte, Nat.reduceEqDiff, Nat.reduceMul, Nat.reduceAdd, Nat.reduceDiv, Nat.reduceBEq, Nat.reduceLeDiff, Int.reduceToNat, Int.reduceNe, Int.reduceEq, Int.reduceLT, Int.reduceLE, Int.reduceBEq, Int.reduceBNe, ne_eq, not_true_eq_false, not_false_eq_true, decide_true, decide_false, List.length_map, e1, e4, e5, e6, m4, m5, mr, false_and, and_self]
    refine branch_mk (fun hc2 => ?_) (fun hc2 => ?_)
    · obtain ⟨q1, q2, q3, q4⟩ := hx _ (gd_mem x i (by omega))
      have a1 := pickF_in (c := (gd x i).a) (n := 127) (by omega)
      have a2 := pickF_in (c := (gd x i).b) (n := 86400) (by omega)
      have a3 := pickF_in (c := (gd x i).b) (n := 24) (by omega)
      have a4 := pickF_in (c := (gd x i).c) (n := 24) (by omega)
      have a5 := pickF_in (c := (gd x i).d) (n := 1000) (by omega)
      have a6 := pickF_in (c := (gd x i).c) (n := 86400 - pickF (gd x i).b 86400) (by omega)
      have c1 := pick37_ev (gd x i).a 127 q1 (by omega)
      have c2 := pick37_ev (gd x i).b 24 q2 (by omega)
      have c3 := pick37_ev (gd x i).d 1000 q4 (by omega)
      have c4 := pick37_ev (gd x i).c 24 q3 (by omega)
      have c5 := pick37_ev ((gd x i).b.tdiv 24) 4 (tdiv_R64 q2 24 (by omega)) (by omega)
      have w1 := wrap_R64 (tdiv_R64 q2 24 (by omega))
      have c6 := pick37_ev (gd x i).b 86400 q2 (by omega)
      have c7 := pick37_ev (gd x i).c (86400 - pickF (gd x i).b 86400) q3 (by omega)
      have htk : (x.take (i + 1)).map rateM = (x.take i).map rateM ++ [rateM (gd x i)] := by rw [List.take_add_one, gd_some x i (by omega)]; simp
      have hr : rateM (gd x i) = if pickF ((gd x i).b.tdiv 24) 4 = 3 then ⟨1 + pickF (gd x i).a 127, pickF (gd x i).b 86400, pickF (gd x i).b 86400 + 1 + pickF (gd x i).c (86400 - pickF (gd x i).b 86400), pickF (gd x i).d 1000⟩
        else ⟨1 + pickF (gd x i).a 127, 3600 * pickF (gd x i).b 24, min (3600 * pickF (gd x i).b 24 + 3600 * (1 + pickF (gd x i).c 24)) 86400, pickF (gd x i).d 1000⟩ := rfl
      generalize (x.take i).map rateM = q at *
      generalize rateM (gd x i) = r at *
      generalize pickF (gd x i).a 127 = u1 at *
      generalize pickF (gd x i).b 86400 = u2 at *
      generalize pickF (gd x i).b 24 = u3 at *
      generalize pickF (gd x i).c 24 = u4 at *
      generalize pickF (gd x i).d 1000 = u5 at *
      generalize pickF (gd x i).c (86400 - u2) = u6 at *
      generalize pickF ((gd x i).b.tdiv 24) 4 = u7 at *
      have hqt : q.take i = q := List.take_of_length_le (by omega)
      simp -implicitDefEqProofs (disch := omega) only [go_sem, ↓reduceIte, Nat.reduceEqDiff, Nat.reduceMul, Nat.reduceAdd, Nat.reduceDiv, Nat.reduceBEq, Nat.reduceLeDiff, Int.reduceToNat, Int.reduceNe, Int.reduceEq, Int.reduceLT, Int.reduceLE, Int.reduceBEq, Int.reduceBNe, ne_eq, not_true_eq_false, not_false_eq_true, decide_true, decide_false, List.length_map, e1, e4, e5, e6, m4, m5, mr, false_and, and_self]
      refine callC_at c1 ?_
      simp -implicitDefEqProofs (disch := omega) only [go_sem, ↓reduceIte, Nat.reduceEqDiff, Nat.reduceMul, Nat.reduceAdd, Nat.reduceDiv, Nat.reduceBEq, Nat.reduceLeDiff, Int.reduceToNat, Int.reduceNe, Int.reduceEq, Int.reduceLT, Int.reduceLE, Int.reduceBEq, Int.reduceBNe, ne_eq, not_true_eq_false, not_false_eq_true, decide_true, decide_false, List.length_map, e1, e4, e5, e6, m4, m5, mr, false_and, and_self]
      refine callC_at c2 ?_
      simp -implicitDefEqProofs (disch := omega) only [go_sem, ↓reduceIte, Nat.reduceEqDiff, Nat.reduceMul, Nat.reduceAdd, Nat.reduceDiv, Nat.reduceBEq, Nat.reduceLeDiff, Int.reduceToNat, Int.reduceNe, Int.reduceEq, Int.reduceLT, Int.reduceLE, Int.reduceBEq, Int.reduceBNe, ne_eq, not_true_eq_false, not_false_eq_true, decide_true, decide_false, List.length_map, e1, e4, e5, e6, m4, m5, mr, false_and, and_self]
      refine callC_at c3 ?_
      simp -implicitDefEqProofs (disch := omega) only [go_sem, ↓reduceIte, Nat.reduceEqDiff, Nat.reduceMul, Nat.reduceAdd, Nat.reduceDiv, Nat.reduceBEq, Nat.reduceLeDiff, Int.reduceToNat, Int.reduceNe, Int.reduceEq, Int.reduceLT, Int.reduceLE, Int.reduceBEq, Int.reduceBNe, ne_eq, not_true_eq_false, not_false_eq_true, decide_true, decide_false, List.length_map, e1, e4, e5, e6, m4, m5, mr, false_and, and_self]
      refine callC_at c4 ?_
      simp -implicitDefEqProofs (disch := omega) only [go_sem, ↓reduceIte, Nat.reduceEqDiff, Nat.reduceMul, Nat.reduceAdd, Nat.reduceDiv, Nat.reduceBEq, Nat.reduceLeDiff, Int.reduceToNat, Int.reduceNe, Int.reduceEq, Int.reduceLT, Int.reduceLE, Int.reduceBEq, Int.reduceBNe, ne_eq, not_true_eq_false, not_false_eq_true, decide_true, decide_false, List.length_map, e1, e4, e5, e6, m4, m5, mr, w1, false_and, and_self]
      refine callC_at c5 ?_
      simp -implicitDefEqProofs (disch := omega) only [go_sem, ↓reduceIte, Nat.reduceEqDiff, Nat.reduceMul, Nat.reduceAdd, Nat.reduceDiv, Nat.reduceBEq, Nat.reduceLeDiff, Int.reduceToNat, Int.reduceNe, Int.reduceEq, Int.reduceLT, Int.reduceLE, Int.reduceBEq, Int.reduceBNe, ne_eq, not_true_eq_false, not_false_eq_true, decide_true, decide_false, List.length_map, e1, e4, e5, e6, m4, m5, mr, false_and, and_self]
      refine branch_mk (fun hd => ?_) (fun hd => ?_)
      · rw [if_pos hd] at hr
        simp -implicitDefEqProofs (disch := omega) only [go_sem, ↓reduceIte, Nat.reduceEqDiff, Nat.reduceMul, Nat.reduceAdd, Nat.reduceDiv, Nat.reduceBEq, Nat.reduceLeDiff, Int.reduceToNat, Int.reduceNe, Int.reduceEq, Int.reduceLT, Int.reduceLE, Int.reduceBEq, Int.reduceBNe, ne_eq, not_true_eq_false, not_false_eq_true, decide_true, decide_false, List.length_map, e1, e4, e5, e6, m4, m5, mr, false_and, and_self]
        refine callC_at c6 ?_
        simp -implicitDefEqProofs (disch := omega) only [go_sem, ↓reduceIte, Nat.reduceEqDiff, Nat.reduceMul, Nat.reduceAdd, Nat.reduceDiv, Nat.reduceBEq, Nat.reduceLeDiff, Int.reduceToNat, Int.reduceNe, Int.reduceEq, Int.reduceLT, Int.reduceLE, Int.reduceBEq, Int.reduceBNe, ne_eq, not_true_eq_false, not_false_eq_true, decide_true, decide_false, List.length_map, e1, e4, e5, e6, m4, m5, mr, false_and, and_self]
        refine callC_at c7 ?_
        simp -implicitDefEqProofs (disch := omega) only [go_sem, ↓reduceIte, Nat.reduceEqDiff, Nat.reduceMul, Nat.reduceAdd, Nat.reduceDiv, Nat.reduceBEq, Nat.reduceLeDiff, Int.reduceToNat, Int.reduceNe, Int.reduceEq, Int.reduceLT, Int.reduceLE, Int.reduceBEq, Int.reduceBNe, ne_eq, not_true_eq_false, not_false_eq_true, decide_true, decide_false, List.length_map, e1, e4, e5, e6, m4, m5, mr, htl, hqt, false_and, and_self]
        refine againQ_mk (6 - (i + 1)) (by omega) ⟨i + 1, by omega, by omega, ?_⟩
        rw [htk, hr]
        simp -implicitDefEqProofs (disch := omega) only [go_sem, ↓reduceIte, Nat.reduceEqDiff, Nat.reduceMul, Nat.reduceAdd, Nat.reduceDiv, Nat.reduceBEq, Nat.reduceLeDiff, Int.reduceToNat, Int.reduceNe, Int.reduceEq, Int.reduceLT, Int.reduceLE, Int.reduceBEq, Int.reduceBNe, ne_eq, not_true_eq_false, not_false_eq_true, decide_true, decide_false, List.length_map, e1, e4, e5, e6, m4, m5, mr, htl, hqt, and_self]
        try simp
      · rw [if_neg hd] at hr
        simp -implicitDefEqProofs (disch := omega) only [go_sem, ↓reduceIte, Nat.reduceEqDiff, Nat.reduceMul, Nat.reduceAdd, Nat.reduceDiv, Nat.reduceBEq, Nat.reduceLeDiff, Int.reduceToNat, Int.reduceNe, Int.reduceEq, Int.reduceLT, Int.reduceLE, Int.reduceBEq, Int.reduceBNe, ne_eq, not_true_eq_false, not_false_eq_true, decide_true, decide_false, List.length_map, e1, e4, e5, e6, m4, m5, mr, htl, hqt, false_and, and_self]
        refine againQ_mk (6 - (i + 1)) (by omega) ⟨i + 1, by omega, by omega, ?_⟩
        rw [htk, hr]
        simp -implicitDefEqProofs (disch := omega) only [go_sem, ↓reduceIte, Nat.reduceEqDiff, Nat.reduceMul, Nat.reduceAdd, Nat.reduceDiv, Nat.reduceBEq, Nat.reduceLeDiff, Int.reduceToNat, Int.reduceNe, Int.reduceEq, Int.reduceLT, Int.reduceLE, Int.reduceBEq, Int.reduceBNe, ne_eq, not_true_eq_false, not_false_eq_true, decide_true, decide_false, List.length_map, e1, e4, e5, e6, m4, m5, mr, htl, hqt, and_self]
        try simp
    · simp -implicitDefEqProofs (disch := omega) only [go_sem, ↓reduceIte, Nat.reduceEqDiff, Nat.reduceMul, Nat.reduceAdd, Nat.reduceDiv, Nat.reduceBEq, Nat.reduceLeDiff, Int.reduceToNat, Int.reduceNe, Int.reduceEq, Int.reduceLT, Int.reduceLE, Int.reduceBEq, Int.reduceBNe, ne_eq, not_true_eq_false, not_false_eq_true, decide_true, decide_false, List.length_map, e1, e4, e5, e6, m4, m5, mr, false_and, and_self]
      refine freeze_reg Plain.mono [12582992, 12582993] ?_
      rw [fin (.inl (by omega))]
      generalize (x.take i).map rateM = q at *
      have hqt : q.take i = q := List.take_of_length_le (by omega)
      simp -implicitDefEqProofs (disch := omega) only [go_sem, ↓reduceIte, Nat.reduceEqDiff, Nat.reduceMul, Nat.reduceAdd, Nat.reduceDiv, Nat.reduceBEq, Nat.reduceLeDiff, Int.reduceToNat, Int.reduceNe, Int.reduceEq, Int.reduceLT, Int.reduceLE, Int.reduceBEq, Int.reduceBNe, ne_eq, not_true_eq_false, not_false_eq_true, decide_true, decide_false, List.length_map, e1, e4, e5, e6, m4, m5, mr, htl, hqt, false_and, and_self]
      simp -implicitDefEqProofs (disch := omega) only [go_sem, ↓reduceIte, Nat.reduceEqDiff, Nat.reduceMul, Nat.reduceAdd, Nat.reduceDiv, Nat.reduceBEq, Nat.reduceLeDiff, Int.reduceToNat, Int.reduceNe, Int.reduceEq, Int.reduceLT, Int.reduceLE, Int.reduceBEq, Int.reduceBNe, ne_eq, not_true_eq_false, not_false_eq_true, decide_true, decide_false, List.length_map, e1, e4, e5, e6, m4, m5, mr, htl, hqt, Try.results5]
  · simp -implicitDefEqProofs (disch := omega) only [go_sem, ↓reduceIte, Nat.reduceEqDiff, Nat.reduceMul, Nat.reduceAdd, Nat.reduceDiv, Nat.reduceBEq, Nat.reduceLeDiff, Int.reduceToNat, Int.reduceNe, Int.reduceEq, Int.reduceLT, Int.reduceLE, Int.reduceBEq, Int.reduceBNe, ne_eq, not_true_eq_false, not_false_eq_true, decide_true, decide_false, List.length_map, e1, e4, e5, e6, m4, m5, mr, false_and, and_self]
    refine freeze_reg Plain.mono [12582992, 12582993] ?_
    rw [fin (.inr (by omega))]
    generalize (x.take i).map rateM = q at *
    have hqt : q.take i = q := List.take_of_length_le (by omega)
    simp -implicitDefEqProofs (disch := omega) only [go_sem, ↓reduceIte, Nat.reduceEqDiff, Nat.reduceMul, Nat.reduceAdd, Nat.reduceDiv, Nat.reduceBEq, Nat.reduceLeDiff, Int.reduceToNat, Int.reduceNe, Int.reduceEq, Int.reduceLT, Int.reduceLE, Int.reduceBEq, Int.reduceBNe, ne_eq, not_true_eq_false, not_false_eq_true, decide_true, decide_false, List.length_map, e1, e4, e5, e6, m4, m5, mr, htl, hqt, false_and, and_self]
    simp -implicitDefEqProofs (disch := omega) only [go_sem, ↓reduceIte, Nat.reduceEqDiff, Nat.reduceMul, Nat.reduceAdd, Nat.reduceDiv, Nat.reduceBEq, Nat.reduceLeDiff, Int.reduceToNat, Int.reduceNe, Int.reduceEq, Int.reduceLT, Int.reduceLE, Int.reduceBEq, Int.reduceBNe, ne_eq, not_true_eq_false, not_false_eq_true, decide_true, decide_false, List.length_map, e1, e4, e5, e6, m4, m5, mr, htl, hqt, Try.results5]
end Go.Proofs.Ytcllccpeechdhaa

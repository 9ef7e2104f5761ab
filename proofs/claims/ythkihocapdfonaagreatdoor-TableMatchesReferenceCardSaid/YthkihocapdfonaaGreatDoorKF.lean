/- Digests and codes of numbers -/
import Derived.Test.YthkihocapdfonaaGreatDoorKE
import Derived.Shelf.Strings.OnBuilder
set_option linter.unusedVariables false
set_option linter.unusedSimpArgs false
set_option maxRecDepth 100000
namespace Go.Proofs.YthkihocapdfonaaGreatDoor
open Go.Vai Go
open Nat (reduceEqDiff reduceMul reduceAdd reduceDiv reduceLeDiff)
open Int (reduceToNat reduceNe reduceEq reduceLT reduceLE)
theorem mo : Tryz.prog.follows .mixedOrders = true := by kernel_rfl
abbrev U (n : Int) : AV := .v (.int .u32 n)
abbrev UL (l : List Int) : AV := .sl 1 (l.map U)
abbrev YL (l : List Int) : AV := .sl 1 (l.map Y)
abbrev Str (s : ByteArray) : AV := .v (.string s)
abbrev xr (a b : Int) : Int := bitsI .xor .u32 a b
abbrev an (a b : Int) : Int := bitsI .and .u32 a b
abbrev ad (a b : Int) : Int := IntKind.u32.wrap (a + b)
section
variable (p : Nat → Bool) (l : List Int)
@[go_sem] theorem namesL_U : AV.namesL p (l.map U) = false := namesL_map p l U fun _ => rfl
@[go_sem] theorem namesL_Y : AV.namesL p (l.map Y) = false := namesL_map p l Y fun _ => rfl
@[go_sem] theorem flatL_U : AV.flatL (l.map U) = true := flatL_map l U fun _ => rfl
@[go_sem] theorem flatL_Y : AV.flatL (l.map Y) = true := flatL_map l Y fun _ => rfl
@[go_sem] theorem allOK_U : allOK 1 (l.map U) = true := allOK_map 1 l U fun _ => ⟨rfl, rfl⟩
@[go_sem] theorem allOK_Y : allOK 1 (l.map Y) = true := allOK_map 1 l Y fun _ => ⟨rfl, rfl⟩
@[go_sem] theorem append_U (x : Int) : l.map U ++ [.v (.int .u32 x)] = (l ++ [x]).map U := by simp
@[go_sem] theorem append_Y (x : Int) : l.map Y ++ [.v (.int .u8 x)] = (l ++ [x]).map Y := by simp
@[go_sem] theorem set_U (n : Nat) (x : Int) : (l.map U).set n (.v (.int .u32 x)) = (l.set n x).map U := by rw [List.map_set]
@[go_sem] theorem set_Y (n : Nat) (x : Int) : (l.map Y).set n (.v (.int .u8 x)) = (l.set n x).map Y := by rw [List.map_set]
theorem dnL_U : AV.dnL (l.map U) = false := by
  cases h : AV.dnL (l.map U) with
  | false => rfl
  | true => obtain ⟨c, hc, h2⟩ := (dnL_iff _).1 h; obtain ⟨x, _, rfl⟩ := List.mem_map.1 hc; cases h2
end
theorem u32_wrap (x : Int) : IntKind.u32.wrap x = x % 4294967296 := by
  simp [IntKind.wrap, IntKind.bits, IntKind.signed]
theorem u32_range (x : Int) : 0 ≤ IntKind.u32.wrap x ∧ IntKind.u32.wrap x < 4294967296 := by rw [u32_wrap]; omega
theorem bits_range (op : BinOp) (a b : Int) : 0 ≤ bitsI op .u32 a b ∧ bitsI op .u32 a b < 4294967296 := by
  unfold bitsI
  cases op <;> first | exact u32_range _ | simp
theorem or_comm32 (a b : Int) : bitsI .or .u32 a b = bitsI .or .u32 b a := by simp only [bitsI]; rw [BitVec.or_comm]
theorem xor_zero32 (a : Int) (h : 0 ≤ a ∧ a < 4294967296) : bitsI .xor .u32 0 a = a := by
  show IntKind.u32.wrap (((BitVec.ofInt 32 0 ^^^ BitVec.ofInt 32 a : BitVec 32).toNat : Nat) : Int) = a
  rw [show (BitVec.ofInt 32 0 : BitVec 32) = 0#32 from rfl, BitVec.zero_xor, u32_wrap, BitVec.toNat_ofInt]
  omega
theorem u64_and_range (a b : Int) : 0 ≤ bitsI .and .u64 a b := by
  simp only [bitsI, IntKind.wrap, IntKind.bits, IntKind.signed]
  simp; omega
def rolS (k : Int) : Int := bitsI .and .u64 (IntKind.u64.wrap k) 31
def rolF (x k : Int) : Int := bitsI .or .u32 (IntKind.u32.wrap (x * 2 ^ (min (rolS k).toNat IntKind.u32.bits))) (x.fdiv (2 ^ (min (IntKind.u64.wrap (32 - rolS k)).toNat IntKind.u32.bits)))
def rotF (x : Int) (n : Nat) : Int := bitsI .or .u32 (x.fdiv (2 ^ n)) (IntKind.u32.wrap (x * 2 ^ (32 - n)))
theorem rol_of (x k : Int) (n : Nat) (h1 : (min (rolS k).toNat IntKind.u32.bits) = 32 - n) (h2 : (min (IntKind.u64.wrap (32 - rolS k)).toNat IntKind.u32.bits) = n) : rolF x k = rotF x n := by
  unfold rolF rotF; rw [h1, h2, or_comm32]
theorem rol_2 (x : Int) : rolF x (-2) = rotF x 2 := rol_of x _ 2 (by kernel_rfl) (by kernel_rfl)
theorem rol_6 (x : Int) : rolF x (-6) = rotF x 6 := rol_of x _ 6 (by kernel_rfl) (by kernel_rfl)
theorem rol_7 (x : Int) : rolF x (-7) = rotF x 7 := rol_of x _ 7 (by kernel_rfl) (by kernel_rfl)
theorem rol_11 (x : Int) : rolF x (-11) = rotF x 11 := rol_of x _ 11 (by kernel_rfl) (by kernel_rfl)
theorem rol_13 (x : Int) : rolF x (-13) = rotF x 13 := rol_of x _ 13 (by kernel_rfl) (by kernel_rfl)
theorem rol_17 (x : Int) : rolF x (-17) = rotF x 17 := rol_of x _ 17 (by kernel_rfl) (by kernel_rfl)
theorem rol_18 (x : Int) : rolF x (-18) = rotF x 18 := rol_of x _ 18 (by kernel_rfl) (by kernel_rfl)
theorem rol_19 (x : Int) : rolF x (-19) = rotF x 19 := rol_of x _ 19 (by kernel_rfl) (by kernel_rfl)
theorem rol_22 (x : Int) : rolF x (-22) = rotF x 22 := rol_of x _ 22 (by kernel_rfl) (by kernel_rfl)
theorem rol_25 (x : Int) : rolF x (-25) = rotF x 25 := rol_of x _ 25 (by kernel_rfl) (by kernel_rfl)
theorem rotF_range (x : Int) (n : Nat) : 0 ≤ rotF x n ∧ rotF x n < 4294967296 := bits_range _ _ _
def mixF (x : Int) (l : List Int) : Int := l.foldl (fun o n => xr o (rolF x (-n))) 0
def rot2 (x : Int) (a b : Nat) : Int := xr (rotF x a) (rotF x b)
def rot3 (x : Int) (a b c : Nat) : Int := xr (xr (rotF x a) (rotF x b)) (rotF x c)
theorem mix_7 (x : Int) : mixF x [7, 18] = rot2 x 7 18 := by
  simp only [mixF, List.foldl_cons, List.foldl_nil, rol_7, rol_18, xor_zero32 _ (rotF_range x 7), rot2]
theorem mix_17 (x : Int) : mixF x [17, 19] = rot2 x 17 19 := by
  simp only [mixF, List.foldl_cons, List.foldl_nil, rol_17, rol_19, xor_zero32 _ (rotF_range x 17), rot2]
theorem mix_6 (x : Int) : mixF x [6, 11, 25] = rot3 x 6 11 25 := by
  simp only [mixF, List.foldl_cons, List.foldl_nil, rol_6, rol_11, rol_25, xor_zero32 _ (rotF_range x 6), rot3]
theorem mix_2 (x : Int) : mixF x [2, 13, 22] = rot3 x 2 13 22 := by
  simp only [mixF, List.foldl_cons, List.foldl_nil, rol_2, rol_13, rol_22, xor_zero32 _ (rotF_range x 2), rot3]
def be4 (l : List Int) (i : Nat) : Int := bitsI .or .u32 (bitsI .or .u32 (bitsI .or .u32 (IntKind.u32.wrap (IntKind.u32.wrap (gd l (4 * i)) * 2 ^ 24)) (IntKind.u32.wrap (IntKind.u32.wrap (gd l (4 * i + 1)) * 2 ^ 16))) (IntKind.u32.wrap (IntKind.u32.wrap (gd l (4 * i + 2)) * 2 ^ 8))) (IntKind.u32.wrap (gd l (4 * i + 3)))
def nxtF (w : List Int) (i : Nat) : Int := ad (ad (ad (gd w (i - 16)) (xr (rot2 (gd w (i - 15)) 7 18) ((gd w (i - 15)).fdiv (2 ^ 3)))) (gd w (i - 7))) (xr (rot2 (gd w (i - 2)) 17 19) ((gd w (i - 2)).fdiv (2 ^ 10)))
def schN (l : List Int) : Nat → List Int
  | 0 => []
  | i + 1 => schN l i ++ [if i < 16 then be4 l i else nxtF (schN l i) i]
theorem schN_length (l : List Int) : ∀ i, (schN l i).length = i
  | 0 => rfl
  | i + 1 => by simp [schN, schN_length l i]
def schQ (l : List Int) (i : Nat) : List Int := schN l i ++ List.replicate (64 - i) 0
theorem schQ_length (l : List Int) (i : Nat) (h : i ≤ 64) : (schQ l i).length = 64 := by simp [schQ, schN_length]; omega
theorem schQ_gd (l : List Int) (i j : Nat) (h : j < i) : gd (schQ l i) j = gd (schN l i) j := by
  unfold schQ; rw [gd_append_left _ _ _ (by rw [schN_length]; exact h)]
theorem schQ_set (l : List Int) (i : Nat) (h : i < 64) : (schQ l i).set i (if i < 16 then be4 l i else nxtF (schN l i) i) = schQ l (i + 1) := by
  unfold schQ
  rw [List.set_append_right _ _ (by rw [schN_length]; exact Nat.le_refl _), schN_length, Nat.sub_self]
  obtain ⟨m, hm⟩ : ∃ m, 64 - i = m + 1 := ⟨63 - i, by omega⟩
  rw [hm, List.replicate_succ, List.set_cons_zero, show 64 - (i + 1) = m from by omega]
  simp [schN]
def schF (l : List Int) : List Int := schN l 64
def KT : List Int := [1116352408, 1899447441, 3049323471, 3921009573, 961987163, 1508970993, 2453635748, 2870763221, 3624381080, 310598401, 607225278, 1426881987, 1925078388, 2162078206, 2614888103, 3248222580, 3835390401, 4022224774, 264347078, 604807628, 770255983, 1249150122, 1555081692, 1996064986, 2554220882, 2821834349, 2952996808, 3210313671, 3336571891, 3584528711, 113926993, 338241895, 666307205, 773529912, 1294757372, 1396182291, 1695183700, 1986661051, 2177026350, 2456956037, 2730485921, 2820302411, 3259730800, 3345764771, 3516065817, 3600352804, 4094571909, 275423344, 430227734, 506948616, 659060556, 883997877, 958139571, 1322822218, 1537002063, 1747873779, 1955562222, 2024104815, 2227730452, 2361852424, 2428436474, 2756734187, 3204031479, 3329325298]
theorem KT_length : KT.length = 64 := rfl
theorem KT_in : (0, KT.map (Value.int .u32)) ∈ gtab := List.mem_singleton.2 rfl
def notF (e : Int) : Int := bitsI .xor .u32 (if IntKind.u32.signed then -1 else IntKind.u32.max) e
def tF (v : List Int) (k w : Int) : Int := ad (ad (ad (ad (gd v 7) (rot3 (gd v 4) 6 11 25)) (xr (an (gd v 4) (gd v 5)) (an (notF (gd v 4)) (gd v 6)))) k) w
def uF (v : List Int) : Int := ad (rot3 (gd v 0) 2 13 22) (xr (xr (an (gd v 0) (gd v 1)) (an (gd v 0) (gd v 2))) (an (gd v 1) (gd v 2)))
def stepT (v : List Int) (t u : Int) : List Int := [ad t u, gd v 0, gd v 1, gd v 2, ad (gd v 3) t, gd v 4, gd v 5, gd v 6]
def stepF (v : List Int) (k w : Int) : List Int := stepT v (tF v k w) (uF v)
theorem stepT_of (v : List Int) (h : v.length = 8) (t u : Int) : ((v.take 1 ++ v.take 7).set 0 (ad t u)).set 4 (ad (gd (v.take 1 ++ v.take 7) 4) t) = stepT v t u := by
  match v, h with
  | [a, b, c, d, e, f, g, i], _ => rfl
def rndW (h l : List Int) : Nat → List Int
  | 0 => h
  | i + 1 => stepF (rndW h l i) (gd KT i) (gd (schF l) i)
theorem rndW_length (h l : List Int) (h8 : h.length = 8) : ∀ i, (rndW h l i).length = 8
  | 0 => h8
  | i + 1 => rfl
def addF (h l : List Int) : List Int := [ad (gd h 0) (gd (rndW h l 64) 0), ad (gd h 1) (gd (rndW h l 64) 1), ad (gd h 2) (gd (rndW h l 64) 2), ad (gd h 3) (gd (rndW h l 64) 3), ad (gd h 4) (gd (rndW h l 64) 4), ad (gd h 5) (gd (rndW h l 64) 5), ad (gd h 6) (gd (rndW h l 64) 6), ad (gd h 7) (gd (rndW h l 64) 7)]
def dgF (h : List Int) (j : Nat) : Int := IntKind.u8.wrap ((gd h (j / 4)).fdiv (2 ^ (24 - 8 * (j % 4))))
def outN (h : List Int) (m : Nat) : List Int := (List.range 32).map fun j => if j < m then dgF h j else 0
def outF (h : List Int) : List Int := (List.range 32).map (dgF h)
theorem outN_length (h : List Int) (m : Nat) : (outN h m).length = 32 := by simp [outN]
theorem outN_gd (h : List Int) (m j : Nat) (hj : j < 32) : gd (outN h m) j = if j < m then dgF h j else 0 := by
  unfold outN gd; simp [List.getD_eq_getElem?_getD, hj]
theorem outN_set (h : List Int) (m : Nat) (hm : m < 32) : (outN h m).set m (dgF h m) = outN h (m + 1) := gd_ext (by simp [outN_length]) fun j hj => by
  rw [List.length_set, outN_length] at hj
  rw [gd_set _ _ _ _ (by rw [outN_length]; exact hm), outN_gd _ _ _ hj, outN_gd _ _ _ hj]
  by_cases e : j = m
  · subst e; simp
  · simp only [e, if_false, show j < m ↔ j < m + 1 from by omega]
theorem outN_end (h : List Int) : outN h 32 = outF h := List.map_congr_left fun j hj => by simp at hj; simp [hj]
def pieceC (b : List Int) (i : Nat) : List Int := (b.drop (64 * i)).take 64
def restC (b : List Int) (i : Nat) : Nat → List (List Int)
  | 0 => []
  | n + 1 => pieceC b i :: restC b (i + 1) n
abbrev YA (l : List Int) : List AV := [YL l]
@[go_sem] theorem namesL_pieces (p : Nat → Bool) (l : List (List Int)) : AV.namesL p ((l.map YA).map .tup) = false := by
  rw [List.map_map]; exact namesL_map p l _ fun _ => rfl
def zerF (n : Nat) : Nat := (119 - n % 64) % 64
theorem zer_fit (n : Nat) : (n + 1 + zerF n) % 64 = 56 := by unfold zerF; omega
theorem zer_less (n j : Nat) (h : (n + 1 + j) % 64 ≠ 56) (hj : j ≤ zerF n) : j < zerF n := by
  have := zer_fit n
  rcases Nat.lt_or_ge j (zerF n) with h' | h'
  · exact h'
  · have : j = zerF n := by omega
    subst this; exact absurd (zer_fit n) h
theorem zer_more (n j : Nat) (h : (n + 1 + j) % 64 = 56) (hj : j ≤ zerF n) : j = zerF n := by unfold zerF at *; omega
def lenB (n : Nat) (i : Nat) : Int := IntKind.u8.wrap ((8 * (n : Int)).fdiv (2 ^ (8 * i)))
def lenL (n : Nat) : Nat → List Int
  | 0 => []
  | i + 1 => lenB n i :: lenL n i
theorem lenL_length (n : Nat) : ∀ i, (lenL n i).length = i
  | 0 => rfl
  | i + 1 => by simp [lenL, lenL_length n i]
def padZ (l : List Int) (j : Nat) : List Int := l ++ [128] ++ List.replicate j 0
def padF (l : List Int) : List Int := padZ l (zerF l.length) ++ lenL l.length 8
theorem padF_length (l : List Int) : ∃ m, (padF l).length = 64 * m ∧ (padF l).length ≤ l.length + 128 := by
  have := zer_fit l.length
  have h : (padF l).length = l.length + 1 + zerF l.length + 8 := by simp [padF, padZ, lenL_length]; omega
  have h2 : zerF l.length < 64 := by unfold zerF; omega
  exact ⟨(l.length + 1 + zerF l.length + 8) / 64, by omega, by omega⟩
def H0 : List Int := [1779033703, 3144134277, 1013904242, 2773480762, 1359893119, 2600822924, 528734635, 1541459225]
def blkF (b : List Int) : Nat → List Int
  | 0 => H0
  | i + 1 => addF (blkF b i) (pieceC b i)
theorem blkF_length (b : List Int) : ∀ i, (blkF b i).length = 8
  | 0 => rfl
  | i + 1 => rfl
def shaF (s : ByteArray) : ByteArray := strOfNums (outF (blkF (padF (bI s)) ((padF (bI s)).length / 64)))
theorem shaF_size (s : ByteArray) : (shaF s).size = 32 := by unfold shaF; rw [strOfNums_size]; simp [outF]
theorem pieceC_length (b : List Int) (i : Nat) (h : 64 * (i + 1) ≤ b.length) : (pieceC b i).length = 64 := by simp [pieceC]; omega
end Go.Proofs.YthkihocapdfonaaGreatDoor
set_option maxRecDepth 100000
namespace Go.Proofs.YthkihocapdfonaaGreatDoor
open Go.Vai Go Go.Proofs
open Nat (reduceEqDiff reduceMul reduceAdd reduceDiv reduceLeDiff)
open Int (reduceToNat reduceNe reduceEq reduceLT reduceLE)
theorem rol_ev (x k : Int) : Ev Tryz.prog 134 [U x, I k] (U (rolF x k)) := by
  have h0 : 0 ≤ rolS k := u64_and_range _ _
  have h1 : 0 ≤ IntKind.u64.wrap (32 - rolS k) := by simp only [IntKind.wrap, IntKind.bits, IntKind.signed]; simp; omega
  refine ev_of Tryz.func134 rfl (by kernel_rfl) mo (Nat.le_of_ble_eq_true rfl) ?_
  simp -implicitDefEqProofs (disch := omega) only [go_sem, Tryz.ntmps134, Tryz.results134, show bitsI .and .u64 (IntKind.u64.wrap k) 31 = rolS k from rfl]
  rfl
theorem mixed_ev (x : Int) (l : List Int) (hl : l.length ≤ 1000) (hr : ∀ n ∈ l, 0 ≤ n ∧ n ≤ 100) : Ev Tryz.prog 130 [U x, SL l] (U (mixF x l)) := by
  refine ev_of Tryz.func130 rfl (by kernel_rfl) mo (Nat.le_of_ble_eq_true rfl) ?_
  simp -implicitDefEqProofs (disch := omega) only [go_sem, Tryz.ntmps130]
  refine loopC_mk (fun n E σ => ∃ v : Nat, v + n = l.length ∧ E 0 = U x ∧ E 5 = U (mixF x (l.take v)) ∧ E 8 = SL l ∧ E 9 = I l.length ∧ E 10 = I v) l.length ⟨0, by omega, ?_⟩ ?_
  · simp -implicitDefEqProofs (disch := omega) only [go_sem]
    simp [mixF]
  · rintro n E σ ⟨v, hv, h0, h5, h8, h9, h10⟩
    simp -implicitDefEqProofs (disch := omega) only [go_sem, h0, h5, h8, h9, h10]
    refine branch_mk (fun hc => ?_) (fun hc => ?_)
    · have hn := hr _ (gd_mem l v (by omega))
      have hw : IntKind.i64.wrap (0 - gd l v) = -gd l v := by rw [wrap64_of (by omega)]; omega
      simp -implicitDefEqProofs (disch := omega) only [go_sem, h0, h5, h8, h9, h10, hw]
      refine callC_at (rol_ev x (-gd l v)) ?_
      simp -implicitDefEqProofs (disch := omega) only [go_sem, h0, h5, h8, h9, h10]
      refine againQ_mk (n - 1) (by omega) ⟨v + 1, by omega, ?_⟩
      have e : mixF x (l.take (v + 1)) = xr (mixF x (l.take v)) (rolF x (-gd l v)) := by
        unfold mixF; rw [List.take_add_one, gd_some l v (by omega)]; simp
      simp -implicitDefEqProofs (disch := omega) only [go_sem, h0, h5, h8, h9, h10, e]
      simp
    · have e : v = l.length := by omega
      subst e
      simp -implicitDefEqProofs (disch := omega) only [go_sem, h0, h5, Tryz.results130, List.take_length]
end Go.Proofs.YthkihocapdfonaaGreatDoor
set_option maxRecDepth 100000
namespace Go.Proofs.YthkihocapdfonaaGreatDoor
open Go.Vai Go Go.Proofs
open Nat (reduceEqDiff reduceMul reduceAdd reduceDiv reduceLeDiff)
open Int (reduceToNat reduceNe reduceEq reduceLT reduceLE)
@[go_sem high] theorem setC_words (l : List Int) (j : Nat) (x : Int) (hj : j < l.length) (h1 : l.length ≠ 1) : setC (.agg (l.map U)) j (U x) = .agg ((l.set j x).map U) := by
  rw [setC_eq, if_neg (by simp; omega)]
  congr 1
  simp only [AV.cells_agg, AV.cells_v, List.length_singleton, ← List.map_take, ← List.map_drop]
  rw [List.set_eq_take_append_cons_drop, if_pos hj]
  simp
@[go_sem high] theorem setC_words2 (l : List Int) (i : Nat) (y : Int) (j : Nat) (x : Int) (hj : j < l.length) (h1 : l.length ≠ 1) : setC (.agg ((l.set i y).map U)) j (U x) = .agg (((l.set i y).set j x).map U) :=
  setC_words _ _ _ (by simpa using hj) (by simpa using h1)
theorem m24 : min 24 32 = 24 := rfl
theorem m16 : min 16 32 = 16 := rfl
theorem m8 : min 8 32 = 8 := rfl
theorem m3 : min 3 32 = 3 := rfl
theorem m10 : min 10 32 = 10 := rfl
theorem schedule_ev (l : List Int) (hl : l.length = 64) : Ev Tryz.prog 129 [YL l] (.agg ((schF l).map U)) := by
  refine ev_of Tryz.func129 rfl (by kernel_rfl) mo (Nat.le_of_ble_eq_true rfl) ?_
  simp -implicitDefEqProofs (disch := omega) only [go_sem, Tryz.ntmps129]
  refine loopC_mk (fun n E σ => ∃ v : Nat, v + n = 16 ∧ E 0 = YL l ∧ E 2 = .ptr 272629792 64 0 0 ∧ E 7 = I v ∧ σ 272629792 = some ⟨168, 64, [.agg ((schQ l v).map U)]⟩) 16 ⟨0, by omega, ?_⟩ ?_
  · simp -implicitDefEqProofs (disch := omega) only [go_sem]
    exact ⟨rfl, rfl⟩
  · rintro n E σ ⟨v, hv, h0, h2, h7, hs⟩
    have hq := schQ_length l v (by omega)
    simp -implicitDefEqProofs (disch := omega) only [go_sem, h0, h2, h7, hs]
    refine branch_mk (fun hc => ?_) (fun hc => ?_)
    · have n0 : (4 * (v : Int)).toNat = 4 * v := by omega
      have n1 : (4 * (v : Int) + 1).toNat = 4 * v + 1 := by omega
      have n2 : (4 * (v : Int) + 2).toNat = 4 * v + 2 := by omega
      have n3 : (4 * (v : Int) + 3).toNat = 4 * v + 3 := by omega
      simp -implicitDefEqProofs (disch := omega) only [go_sem, h0, h2, h7, hs, hl, hq, n0, n1, n2, n3, m24, m16, m8]
      refine againQ_mk (n - 1) (by omega) ⟨v + 1, by omega, ?_⟩
      have hset := schQ_set l v (by omega)
      rw [if_pos (by omega)] at hset
      have hset : (schQ l v).set v (be4 l v) = _ := hset
      unfold be4 at hset
      simp -implicitDefEqProofs (disch := omega) only [go_sem, h0, h2, h7, hs, hl, hq, hset]
      simp
    · have e : v = 16 := by omega
      subst e
      simp -implicitDefEqProofs (disch := omega) only [go_sem, h0, h2, h7, hs, hl]
      refine loopC_mk (fun n E σ => ∃ v : Nat, v + n = 64 ∧ 16 ≤ v ∧ E 4 = I v ∧ E 2 = .ptr 272629792 64 0 0 ∧ σ 272629792 = some ⟨168, 64, [.agg ((schQ l v).map U)]⟩) 48 ⟨16, by omega, by omega, ?_⟩ ?_
      · simp -implicitDefEqProofs (disch := omega) only [go_sem, h0, h2, h7, hs, hl, and_self]
        simp
      · clear h0 h2 h7 hs hq hv hc n E σ
        rintro n E σ ⟨v, hv, h16, h4, h2, hs⟩
        have hq := schQ_length l v (by omega)
        simp -implicitDefEqProofs (disch := omega) only [go_sem, h4, h2, hs]
        refine branch_mk (fun hc => ?_) (fun hc => ?_)
        · have n0 : ((v : Int) - 15).toNat = v - 15 := by omega
          have n1 : ((v : Int) - 2).toNat = v - 2 := by omega
          have n2 : ((v : Int) - 16).toNat = v - 16 := by omega
          have n3 : ((v : Int) - 7).toNat = v - 7 := by omega
          have g0 := schQ_gd l v (v - 15) (by omega)
          have g1 := schQ_gd l v (v - 2) (by omega)
          have g2 := schQ_gd l v (v - 16) (by omega)
          have g3 := schQ_gd l v (v - 7) (by omega)
          have hm1 := mixed_ev (gd (schN l v) (v - 15)) [7, 18] (by decide) (by decide)
          have hm2 := mixed_ev (gd (schN l v) (v - 2)) [17, 19] (by decide) (by decide)
          rw [mix_7] at hm1
          rw [mix_17] at hm2
          simp -implicitDefEqProofs (disch := omega) only [go_sem, h4, h2, hs, hq, n0, n1, n2, n3, g0, g1, g2, g3]
          refine callC_at hm1 ?_
          simp -implicitDefEqProofs (disch := omega) only [go_sem, h4, h2, hs, hq, n0, n1, n2, n3, g0, g1, g2, g3, m3, m10]
          refine callC_at hm2 ?_
          simp -implicitDefEqProofs (disch := omega) only [go_sem, h4, h2, hs, hq, n0, n1, n2, n3, g0, g1, g2, g3, m3, m10]
          refine againQ_mk (n - 1) (by omega) ⟨v + 1, by omega, by omega, ?_⟩
          have hset := schQ_set l v (by omega)
          rw [if_neg (by omega)] at hset
          have hset : (schQ l v).set v (nxtF (schN l v) v) = _ := hset
          unfold nxtF at hset
          simp -implicitDefEqProofs (disch := omega) only [go_sem, h4, h2, hs, hq, hset]
          simp
        · have e : v = 64 := by omega
          subst e
          have e2 : schQ l 64 = schF l := by simp [schQ, schF]
          have e3 : (schF l).length = 64 := schN_length l 64
          simp -implicitDefEqProofs (disch := omega) only [go_sem, h4, h2, hs, hq, e2, e3, Tryz.results129]
end Go.Proofs.YthkihocapdfonaaGreatDoor
set_option maxRecDepth 100000
namespace Go.Proofs.YthkihocapdfonaaGreatDoor
open Go.Vai Go Go.Proofs
open Nat (reduceEqDiff reduceMul reduceAdd reduceDiv reduceLeDiff)
open Int (reduceToNat reduceNe reduceEq reduceLT reduceLE)
def sumN (h w : List Int) (i : Nat) : List Int := (List.range 8).map fun j => if j < i then ad (gd h j) (gd w j) else gd h j
theorem sumN_length (h w : List Int) (i : Nat) : (sumN h w i).length = 8 := by simp [sumN]
theorem sumN_gd (h w : List Int) (i j : Nat) (hj : j < 8) : gd (sumN h w i) j = if j < i then ad (gd h j) (gd w j) else gd h j := by
  unfold sumN gd; simp [List.getD_eq_getElem?_getD, hj]
theorem sumN_zero (h w : List Int) (h8 : h.length = 8) : sumN h w 0 = h := gd_ext (by rw [sumN_length, h8]) fun i hi => by
  rw [sumN_length] at hi
  rw [sumN_gd _ _ _ _ hi, if_neg (by omega)]
theorem sumN_set (h w : List Int) (i : Nat) (hi : i < 8) : (sumN h w i).set i (ad (gd h i) (gd w i)) = sumN h w (i + 1) := gd_ext (by simp [sumN_length]) fun j hj => by
  rw [List.length_set, sumN_length] at hj
  rw [gd_set _ _ _ _ (by rw [sumN_length]; exact hi), sumN_gd _ _ _ _ hj, sumN_gd _ _ _ _ hj]
  by_cases e : j = i
  · subst e; simp
  · simp only [e, if_false, show j < i ↔ j < i + 1 from by omega]
theorem sumN_end (h l : List Int) : sumN h (rndW h l 64) 8 = addF h l := rfl
set_option maxHeartbeats 4000000 in
theorem add_ev (h l : List Int) (h8 : h.length = 8) (hl : l.length = 64) : LOK Tryz.prog 115 (inI [171966512]) [.ptr 171966512 8 0 0, YL l] (stO [(171966512, ⟨144, 8, [.agg (h.map U)]⟩)]) (.tup []) (stO [(171966512, ⟨144, 8, [.agg ((addF h l).map U)]⟩)]) := by
  refine lok_ofB [8] [171966512] Tryz.func115 rfl (by kernel_rfl) mo (Nat.le_of_ble_eq_true rfl) rfl (by kernel_rfl) (by kernel_rfl) ?_
  simp -implicitDefEqProofs (disch := omega) only [go_sem, Tryz.ntmps115]
  refine callC_at (schedule_ev l hl) ?_
  have hsl : (schF l).length = 64 := schN_length l 64
  simp -implicitDefEqProofs (disch := omega) only [go_sem, hsl, h8]
  refine loadG_mk (KT.map (Value.int .u32)) KT_in (.agg (KT.map U)) (by unfold partOf; rw [spM_P, tagg_168, tsz_168]; exact ⟨by decide, by decide, rfl⟩) ?_
  simp -implicitDefEqProofs (disch := omega) only [go_sem, hsl, h8]
  refine loopC_mk (fun n E σ => ∃ v : Nat, v + n = 64 ∧ E 0 = .ptr 171966512 8 0 0 ∧ E 5 = .ptr 243269712 8 0 0 ∧ σ 171966512 = some ⟨144, 8, [.agg (h.map U)]⟩ ∧ E 4 = .ptr 243269696 64 0 0 ∧ E 18 = .agg (KT.map U) ∧ E 19 = I v ∧ σ 243269696 = some ⟨168, 64, [.agg ((schF l).map U)]⟩ ∧ σ 243269712 = some ⟨144, 8, [.agg ((rndW h l v).map U)]⟩) 64 ⟨0, by omega, ?_⟩ ?_
  · simp -implicitDefEqProofs (disch := omega) only [go_sem, hsl, h8]
    exact ⟨rfl, rfl⟩
  · rintro n E σ ⟨v, hv, h0, h5, sh, h4, h18, h19, s4, s5⟩
    have hrl := rndW_length h l h8 v
    simp -implicitDefEqProofs (disch := omega) only [go_sem, h0, h5, sh, h4, h18, h19, s4, s5, hsl, h8]
    refine branch_mk (fun hc => ?_) (fun hc => ?_)
    · simp -implicitDefEqProofs (disch := omega) only [go_sem, h0, h5, sh, h4, h18, h19, s4, s5, hsl, h8, hrl, KT_length]
      have hm1 := mixed_ev (gd (rndW h l v) 4) [6, 11, 25] (by decide) (by decide)
      have hm2 := mixed_ev (gd (rndW h l v) 0) [2, 13, 22] (by decide) (by decide)
      rw [mix_6] at hm1
      rw [mix_2] at hm2
      refine callC_at hm1 ?_
      simp -implicitDefEqProofs (disch := omega) only [go_sem, h0, h5, sh, h4, h18, h19, s4, s5, hsl, h8, hrl, KT_length]
      refine callC_at hm2 ?_
      simp -implicitDefEqProofs (disch := omega) only [go_sem, h0, h5, sh, h4, h18, h19, s4, s5, hsl, h8, hrl, KT_length]
      refine copy8_mk (cs := (rndW h l v).map U) (bid := 243269712) (te := 144) tarr_144 tsz_99 tel_100 (by simp -implicitDefEqProofs (disch := omega) only [go_sem, h0, h5, sh, h4, h18, h19, s4, s5]) (by simp -implicitDefEqProofs (disch := omega) only [go_sem, h0, h5, sh, h4, h18, h19, s4, s5]) (by simp [hrl]) (by simp) (by decide) (by decide) (by decide) (((rndW h l v).take 1 ++ (rndW h l v).take 7).map U) (by simp) ?_
      have htk : ((rndW h l v).take 1 ++ (rndW h l v).take 7).length = 8 := by simp [hrl]
      have hst := stepT_of (rndW h l v) hrl (tF (rndW h l v) (gd KT v) (gd (schF l) v)) (uF (rndW h l v))
      have hst : _ = rndW h l (v + 1) := hst
      unfold tF uF notF at hst
      generalize (rndW h l v).take 1 ++ (rndW h l v).take 7 = q at *
      simp -implicitDefEqProofs (disch := omega) only [go_sem, h0, h5, sh, h4, h18, h19, s4, s5, hsl, h8, hrl, KT_length, htk]
      refine againQ_mk (n - 1) (by omega) ⟨v + 1, by omega, ?_⟩
      simp -implicitDefEqProofs (disch := omega) only [go_sem, h0, h5, sh, h4, h18, h19, s4, s5, hsl, h8, hrl, hst]
      simp
    · have e : v = 64 := by omega
      subst e
      simp -implicitDefEqProofs (disch := omega) only [go_sem, h0, h5, sh, h4, h18, h19, s4, s5, hsl, h8]
      refine loopC_mk (fun n E σ => ∃ v : Nat, v + n = 8 ∧ E 0 = .ptr 171966512 8 0 0 ∧ E 5 = .ptr 243269712 8 0 0 ∧ E 82 = I v ∧ σ 171966512 = some ⟨144, 8, [.agg ((sumN h (rndW h l 64) v).map U)]⟩ ∧ σ 243269712 = some ⟨144, 8, [.agg ((rndW h l 64).map U)]⟩) 8 ⟨0, by omega, ?_⟩ ?_
      · simp -implicitDefEqProofs (disch := omega) only [go_sem, h0, h5, sh, h4, h18, h19, s4, s5, hsl, h8, sumN_zero h _ h8]
        simp
      · clear h0 h5 sh h4 h18 h19 s4 s5 hv hc n E σ
        rintro n E σ ⟨v, hv, h0, h5, h82, sh, s5⟩
        have hsn := sumN_length h (rndW h l 64) v
        simp -implicitDefEqProofs (disch := omega) only [go_sem, h0, h5, h82, sh, s5, hsl, h8]
        refine branch_mk (fun hc => ?_) (fun hc => ?_)
        · have hg := sumN_gd h (rndW h l 64) v v (by omega)
          rw [if_neg (by omega)] at hg
          have hset := sumN_set h (rndW h l 64) v (by omega)
          simp -implicitDefEqProofs (disch := omega) only [go_sem, h0, h5, h82, sh, s5, hsn, hrl, hg]
          refine againQ_mk (n - 1) (by omega) ⟨v + 1, by omega, ?_⟩
          simp -implicitDefEqProofs (disch := omega) only [go_sem, h0, h5, h82, sh, s5, hsn, hrl, hset]
          simp
        · have e : v = 8 := by omega
          subst e
          have he := sumN_end h l
          simp -implicitDefEqProofs (disch := omega) only [go_sem, h0, h5, h82, sh, s5, he, Tryz.results115]
end Go.Proofs.YthkihocapdfonaaGreatDoor
set_option maxRecDepth 100000
namespace Go.Proofs.YthkihocapdfonaaGreatDoor
open Go.Vai Go Go.Proofs
open Nat (reduceEqDiff reduceMul reduceAdd reduceDiv reduceLeDiff)
open Int (reduceToNat reduceNe reduceEq reduceLT reduceLE)
@[go_sem high] theorem setC_bytes (l : List Int) (j : Nat) (x : Int) (hj : j < l.length) (h1 : l.length ≠ 1) : setC (.agg (l.map Y)) j (Y x) = .agg ((l.set j x).map Y) := by
  rw [setC_eq, if_neg (by simp; omega)]
  congr 1
  simp only [AV.cells_agg, AV.cells_v, List.length_singleton, ← List.map_take, ← List.map_drop]
  rw [List.set_eq_take_append_cons_drop, if_pos hj]
  simp
set_option maxHeartbeats 1000000 in
theorem digest_ev (h : List Int) (h8 : h.length = 8) : Ev Tryz.prog 116 [.agg (h.map U)] (Str (strOfNums (outF h))) := by
  refine ev_of Tryz.func116 rfl (by kernel_rfl) mo (Nat.le_of_ble_eq_true rfl) ?_
  simp -implicitDefEqProofs (disch := omega) only [go_sem, Tryz.ntmps116, h8]
  refine loopC_mk (fun n E σ => ∃ v : Nat, v + n = 8 ∧ E 3 = .ptr 245366832 32 0 0 ∧ E 7 = .agg (h.map U) ∧ E 8 = I v ∧ σ 245366832 = some ⟨171, 32, [.agg ((outN h (4 * v)).map Y)]⟩) 8 ⟨0, by omega, ?_⟩ ?_
  · simp -implicitDefEqProofs (disch := omega) only [go_sem, h8]
    exact ⟨rfl, rfl⟩
  · rintro n E σ ⟨v, hv, h3, h7, h8', hs⟩
    simp -implicitDefEqProofs (disch := omega) only [go_sem, h3, h7, h8', hs, h8]
    refine branch_mk (fun hc => ?_) (fun hc => ?_)
    · simp -implicitDefEqProofs (disch := omega) only [go_sem, h3, h7, h8', hs, h8]
      refine loopC_mk (fun m E σ => ∃ u : Nat, u + m = 4 ∧ E 3 = .ptr 245366832 32 0 0 ∧ E 7 = .agg (h.map U) ∧ E 8 = I v ∧ E 4 = I v ∧ E 5 = U (gd h v) ∧ E 12 = I u ∧ σ 245366832 = some ⟨171, 32, [.agg ((outN h (4 * v + u)).map Y)]⟩) 4 ⟨0, by omega, ?_⟩ ?_
      · simp -implicitDefEqProofs (disch := omega) only [go_sem, h3, h7, h8', hs, h8]
        simp
      · clear h3 h7 h8' hs E σ
        rintro m E σ ⟨u, hu, h3, h7, h8', h4, h5, h12, hs⟩
        have hq := outN_length h (4 * v + u)
        simp -implicitDefEqProofs (disch := omega) only [go_sem, h3, h7, h8', h4, h5, h12, hs, h8]
        refine branch_mk (fun hd => ?_) (fun hd => ?_)
        · have n0 : (4 * (v : Int) + (u : Int)).toNat = 4 * v + u := by omega
          have n1 : (24 - 8 * (u : Int)).toNat = 24 - 8 * u := by omega
          have n2 : min (24 - 8 * u) 32 = 24 - 8 * u := by omega
          simp -implicitDefEqProofs (disch := omega) only [go_sem, h3, h7, h8', h4, h5, h12, hs, h8, hq, n0, n1, n2]
          refine againQ_mk (m - 1) (by omega) ⟨u + 1, by omega, ?_⟩
          have hset := outN_set h (4 * v + u) (by omega)
          unfold dgF at hset
          rw [show (4 * v + u) / 4 = v from by omega, show (4 * v + u) % 4 = u from by omega, Nat.add_assoc] at hset
          simp -implicitDefEqProofs (disch := omega) only [go_sem, h3, h7, h8', h4, h5, h12, hs, h8, hq, hset]
          simp
        · have e : u = 4 := by omega
          subst e
          simp -implicitDefEqProofs (disch := omega) only [go_sem, h3, h7, h8', h4, h5, h12, hs, h8, hq]
          refine againQ_mk (n - 1) (by omega) ⟨v + 1, by omega, ?_⟩
          have e4 : 4 * (v + 1) = 4 * v + 4 := by omega
          simp -implicitDefEqProofs (disch := omega) only [go_sem, h3, h7, h8', h4, h5, h12, hs, h8, hq, e4]
          simp
    · have e : v = 8 := by omega
      subst e
      have he := outN_end h
      have hol : (outF h).length = 32 := by simp [outF]
      rw [show 4 * 8 = 32 from rfl, he] at hs
      simp -implicitDefEqProofs (disch := omega) only [go_sem, h3, h7, h8', hs, h8]
      refine freeze_semD [245366832] ?_
      refine sliceArr_mk (c := .agg ((outF h).map Y)) (j := 0) (m := 32) 0 32 (by simp -implicitDefEqProofs (disch := omega) only [go_sem, h3, hs]) tarr_171 tsz_5 (by simp [hol]) ⟨rfl, rfl, by omega, by omega⟩ ?_
      have htk : (outF h).take 32 = outF h := List.take_of_length_le (by omega)
      simp -implicitDefEqProofs (disch := omega) only [go_sem, h3, hs, htk]
      refine toStr_mk (outF h) (by simp -implicitDefEqProofs (disch := omega) only [go_sem, htk]) (by intro b; simp -implicitDefEqProofs (disch := omega) only [go_sem]; intro e; cases e) (e := 5) rfl rfl rfl ?_
      simp -implicitDefEqProofs (disch := omega) only [go_sem, Tryz.results116]
end Go.Proofs.YthkihocapdfonaaGreatDoor
set_option maxRecDepth 100000
namespace Go.Proofs.YthkihocapdfonaaGreatDoor
open Go.Vai Go Go.Proofs
open Nat (reduceEqDiff reduceMul reduceAdd reduceDiv reduceLeDiff)
open Int (reduceToNat reduceNe reduceEq reduceLT reduceLE)
theorem chunk_ev (b : List Int) (k : Int) (hk : 1 ≤ k) : Ev Tryz.prog 114 [YL b, I k] (.clo 128 [.pt (YL b) 0, .pt (I k) 0]) := by
  refine ev_sl (r := .clo 128 [.nptr 68 1 [YL b], .nptr 3 1 [I k]]) ?_ _
  refine ev_ofB [2] Tryz.func114 rfl (by kernel_rfl) mo (Nat.le_of_ble_eq_true rfl) ?_
  simp -implicitDefEqProofs (disch := omega) only [go_sem, Tryz.ntmps114]
  refine branch_mk (fun h => absurd h (by omega)) (fun h => ?_)
  simp -implicitDefEqProofs (disch := omega) only [go_sem, Tryz.results114]
theorem chunk_sok (b : List Int) (m : Nat) (hm : b.length = 64 * m) (hb : b.length ≤ 1000000000) (σ : Store) : SOK Tryz.prog 128 [.pt (YL b) 0, .pt (I 64) 0] σ ((restC b 0 m).map YA) := by
  refine sok_of Tryz.func128 rfl (by kernel_rfl) mo (Nat.le_of_ble_eq_true rfl) ?_ rfl fun l => ?_
  · exact namesL_pieces allB _
  · simp -implicitDefEqProofs (disch := omega) only [go_sem, Tryz.ntmps128]
    refine loopC_mk (fun n E σ => ∃ i : Nat, i + n = m ∧ E 0 = .yld l ∧ E 1 = .pt (YL b) 0 ∧ E 2 = .pt (I 64) 0 ∧ E 4 = I ((64 * i : Nat) : Int) ∧ E 31 = .tup (((restC b i n).map YA).map .tup)) m ⟨0, by omega, ?_⟩ ?_
    · simp -implicitDefEqProofs (disch := omega) only [go_sem]
      simp
    · rintro n E σ ⟨i, hi, h0, h1, h2, h4, h31⟩
      simp -implicitDefEqProofs (disch := omega) only [go_sem, h0, h1, h2, h4, h31]
      cases n with
      | zero =>
        refine branch_r (by omega) ?_
        simp -implicitDefEqProofs (disch := omega) only [go_sem, h0, h1, h2, h4, h31]
        exact .inl rfl
      | succ n =>
        have hmin : min (64 : Int) ((min (b.length - 64 * i) (b.length - 64 * i) : Nat) : Int) = 64 := by omega
        have hc : ((64 * i : Nat) : Int) + 64 = ((64 * i + 64 : Nat) : Int) := by omega
        rw [restC] at h31
        refine branch_l (by omega) ?_
        simp -implicitDefEqProofs (disch := omega) only [go_sem, h0, h1, h2, h4, h31, List.length_take, List.length_drop, hmin, hc]
        refine slice3_mk (sz := 1) (es := b.map Y) (64 * i) (64 * i + 64) (km := .i64) (by simp -implicitDefEqProofs (disch := omega) only [go_sem, h1]) tel_68 tsz_5 (by decide) (by simp -implicitDefEqProofs (disch := omega) only [go_sem]) (by simp)
          (boundA_of (k := .i64) (n := ((64 * i + 64 : Nat) : Int)) (by simp -implicitDefEqProofs (disch := omega) only [go_sem]) (by omega) (boundA_of (k := .i64) (n := ((64 * i : Nat) : Int)) (by simp -implicitDefEqProofs (disch := omega) only [go_sem]) (by omega) ⟨by omega, by omega, by omega, by rw [List.length_map]; omega⟩)) ?_
        have hp : (b.drop (64 * i)).take (64 * i + 64 - 64 * i) = pieceC b i := by rw [show 64 * i + 64 - 64 * i = 64 from by omega]; rfl
        simp -implicitDefEqProofs (disch := omega) only [go_sem, h0, h1, h2, h4, h31, hmin, hc, hp]
        have h64 : 64 * (i + 1) = 64 * i + 64 := by omega
        refine ⟨againQ_mk n (by omega) ⟨i + 1, by omega, ?_⟩, ?_⟩
        · simp -implicitDefEqProofs (disch := omega) only [go_sem, h0, h1, h2, h4, h31, hmin, hc, hp, h64]
        · exact .inr trivial
end Go.Proofs.YthkihocapdfonaaGreatDoor
set_option maxRecDepth 100000
namespace Go.Proofs.YthkihocapdfonaaGreatDoor
open Go.Vai Go Go.Proofs
open Nat (reduceEqDiff reduceMul reduceAdd reduceDiv reduceLeDiff)
open Int (reduceToNat reduceNe reduceEq reduceLT reduceLE)
theorem restC_tail {b : List Int} {i n : Nat} {x : List AV} {rest : List (List AV)} (h : (restC b i n).map YA = x :: rest) : ∃ m, n = m + 1 ∧ x = YA (pieceC b i) ∧ rest = (restC b (i + 1) m).map YA := by
  cases n with
  | zero => cases h
  | succ m => simp only [restC, List.map_cons, List.cons.injEq] at h; exact ⟨m, rfl, h.1.symm, h.2.symm⟩
theorem restC_nil {b : List Int} {i n : Nat} (h : (restC b i n).map YA = []) : n = 0 := by
  cases n with
  | zero => rfl
  | succ m => simp [restC] at h
set_option maxHeartbeats 2000000 in
theorem sum_ev (s : ByteArray) (hs : s.size ≤ 100000000) : Ev Tryz.prog 81 [Str s] (Str (shaF s)) := by
  refine ev_of Tryz.func81 rfl (by kernel_rfl) mo (Nat.le_of_ble_eq_true rfl) ?_
  simp -implicitDefEqProofs (disch := omega) only [go_sem, Tryz.ntmps81]
  have hbl := bI_length s
  refine toBytes_mk s (by simp -implicitDefEqProofs (disch := omega) only [go_sem]) rfl rfl rfl (by omega) ?_
  simp -implicitDefEqProofs (disch := omega) only [go_sem, hbl]
  unfold shaF
  generalize bI s = l at *
  obtain ⟨m, hpm, hpl⟩ := padF_length l
  refine loopC_mk (fun n E σ => ∃ j : Nat, j + n = zerF l.length ∧ E 0 = Str s ∧ E 3 = .ptr 171966512 8 0 0 ∧ E 4 = .own 171966608 1 0 (l.length + 1 + j) ∧ σ 171966512 = some ⟨144, 8, [.agg (H0.map U)]⟩ ∧ σ 171966608 = some ⟨5, 1, (padZ l j).map Y⟩) (zerF l.length) ⟨0, by omega, ?_⟩ ?_
  · simp -implicitDefEqProofs (disch := omega) only [go_sem, hbl]
    exact ⟨rfl, by simp [padZ]⟩
  · have hz64 : zerF l.length < 64 := by unfold zerF; omega
    rintro n E σ ⟨j, hj, h0, h3, h4, sH, sB⟩
    have hpz : (padZ l j).length = l.length + 1 + j := by simp [padZ]; omega
    have hmod : (((l.length + 1 + j : Nat) : Int)).tmod 64 = (((l.length + 1 + j) % 64 : Nat) : Int) := by rw [Int.tmod_eq_emod_of_nonneg (by omega)]; omega
    simp -implicitDefEqProofs (disch := omega) only [go_sem, h0, h3, h4, sH, sB, hmod]
    refine branch_mk (fun hc => ?_) (fun hc => ?_)
    · have hlt := zer_less l.length j (by omega) (by omega)
      simp -implicitDefEqProofs (disch := omega) only [go_sem, h0, h3, h4, sH, sB, hpz]
      refine againQ_mk (n - 1) (by omega) ⟨j + 1, by omega, ?_⟩
      have hrep : padZ l j ++ [0] = padZ l (j + 1) := by simp [padZ, List.replicate_succ']
      have htk : (padZ l j).take (l.length + 1 + j) = padZ l j := List.take_of_length_le (by omega)
      simp -implicitDefEqProofs (disch := omega) only [go_sem, h0, h3, h4, sH, sB, hpz, hrep, htk]
      rw [Nat.add_assoc]
    · have hjz := zer_more l.length j (by omega) (by omega)
      subst hjz
      have hmin : ∀ k : Nat, k ≤ 8 → min (8 * (k : Int)).toNat 64 = 8 * k := fun k hk => by omega
      simp -implicitDefEqProofs (disch := omega) only [go_sem, h0, h3, h4, sH, sB, hpz]
      refine loopC_mk (fun n E σ => ∃ pre : List Int, n ≤ 8 ∧ pre ++ lenL l.length n = padF l ∧ E 0 = Str s ∧ E 3 = .ptr 171966512 8 0 0 ∧ E 4 = .own 171966608 1 0 pre.length ∧ E 5 = I ((n : Int) - 1) ∧ σ 171966512 = some ⟨144, 8, [.agg (H0.map U)]⟩ ∧ σ 171966608 = some ⟨5, 1, pre.map Y⟩) 8 ⟨padZ l (zerF l.length), by omega, rfl, ?_⟩ ?_
      · simp -implicitDefEqProofs (disch := omega) only [go_sem, h0, h3, h4, sH, sB, hpz]
        simp
      · clear h0 h3 h4 sH sB hc hmod hpz E σ hj n
        rintro n E σ ⟨pre, hn8, hpre, h0, h3, h4, h5, sH, sB⟩
        have hprel : pre.length ≤ l.length + 128 := by have := congrArg List.length hpre; simp at this; omega
        simp -implicitDefEqProofs (disch := omega) only [go_sem, h0, h3, h4, h5, sH, sB]
        refine branch_mk (fun hc => ?_) (fun hc => ?_)
        · obtain ⟨k, rfl⟩ : ∃ k, n = k + 1 := ⟨n - 1, by omega⟩
          have hk : (((k + 1 : Nat) : Int)) - 1 = (k : Int) := by omega
          rw [hk] at h5
          have hm := hmin k (by omega)
          simp -implicitDefEqProofs (disch := omega) only [go_sem, h0, h3, h4, h5, sH, sB, hm, hbl.symm]
          refine againQ_mk k (by omega) ⟨pre ++ [lenB l.length k], by omega, by rw [← hpre]; simp [lenL], ?_⟩
          have hlb : IntKind.u8.wrap ((8 * (l.length : Int)).fdiv (2 ^ (8 * k))) = lenB l.length k := rfl
          simp -implicitDefEqProofs (disch := omega) only [go_sem, h0, h3, h4, h5, sH, sB, hm, hlb, List.take_length]
        · have hn0 : n = 0 := by omega
          subst hn0
          simp only [lenL, List.append_nil] at hpre
          subst hpre
          simp -implicitDefEqProofs (disch := omega) only [go_sem, h0, h3, h4, h5, sH, sB]
          refine callC_sem rfl ?_
          refine freeze_op [171966608] ?_
          simp -implicitDefEqProofs (disch := omega) only [go_sem, h0, h3, h4, h5, sH, sB, List.take_length]
          refine callC_at (chunk_ev (padF l) 64 (by omega)) ?_
          simp -implicitDefEqProofs (disch := omega) only [go_sem, h0, h3, h4, h5, sH, sB]
          refine awpC_range ?_
          have hd : (padF l).length / 64 = m := by omega
          rw [hd]
          refine range_mk [] [171966512] 10748004 ((restC (padF l) 0 m).map YA) (fun xs σ => ∃ i n : Nat, i + n = m ∧ xs = (restC (padF l) i n).map YA ∧ σ 171966512 = some ⟨144, 8, [.agg ((blkF (padF l) i).map U)]⟩)
            (g := 128) (caps := [.pt (YL (padF l)) 0, .pt (I 64) 0]) ?_ ?_ ?_ ?_ ?_ ?_ ?_ ?_
          · simp -implicitDefEqProofs (disch := omega) only [go_sem]
          · exact chunk_sok _ m hpm (by omega) _
          · intro x hx
            obtain ⟨y, _, rfl⟩ := List.mem_map.1 hx
            rfl
          · simp -implicitDefEqProofs (disch := omega) only [go_sem]
          · simp -implicitDefEqProofs (disch := omega) only [go_sem]
          · refine ⟨0, m, by omega, rfl, ?_⟩
            simp -implicitDefEqProofs (disch := omega) only [go_sem, sH]
            rfl
          · rintro E0 hE0 y rest σ' ⟨i, n, hin, hxs, sH⟩
            have e3 : E0 3 = .ptr 171966512 8 0 0 := by rw [hE0]; simp -implicitDefEqProofs (disch := omega) only [go_sem, h3]
            clear hE0 h0 h3 h4 h5 sB
            obtain ⟨k, rfl, rfl, rfl⟩ := restC_tail hxs.symm
            have hL : LOK Tryz.prog 115 (inI [171966512]) ([.ptr 171966512 8 0 0, YL (pieceC (padF l) i)] ++ []) (stO [(171966512, ⟨144, 8, [.agg ((blkF (padF l) i).map U)]⟩)]) (.tup []) (stO [(171966512, ⟨144, 8, [.agg ((blkF (padF l) (i + 1)).map U)]⟩)]) := add_ev (blkF (padF l) i) (pieceC (padF l) i) (blkF_length _ i) (pieceC_length _ _ (by omega))
            simp -implicitDefEqProofs (disch := omega) only [go_sem, e3, sH]
            refine callC_sem rfl ?_
            refine lent_mk [171966512] hL ?_ ?_ ?_ ?_ ?_ ?_ ?_ (hsp := fun id h _ => List.contains_iff_mem.2 h)
            · simp -implicitDefEqProofs (disch := omega) only [go_sem]
            · simp -implicitDefEqProofs (disch := omega) only [go_sem, e3]
            · simp -implicitDefEqProofs (disch := omega) only [go_sem, sH]
            · simp -implicitDefEqProofs (disch := omega) only [go_sem]
            · simp -implicitDefEqProofs (disch := omega) only [go_sem]
            · simp -implicitDefEqProofs (disch := omega) only [go_sem]
            · simp -implicitDefEqProofs (disch := omega) only [go_sem, e3, sH]
              exact ⟨inL [], fun _ _ => rfl, i + 1, k, by omega, rfl, rfl⟩
          · rintro E0 hE0 σ' ⟨i, n, hin, hxs, sH⟩
            have e3 : E0 3 = .ptr 171966512 8 0 0 := by rw [hE0]; simp -implicitDefEqProofs (disch := omega) only [go_sem, h3]
            have hn := restC_nil hxs.symm
            subst hn
            obtain rfl : i = m := by omega
            have htk : (blkF (padF l) i).take 8 = blkF (padF l) i := List.take_of_length_le (by rw [blkF_length]; omega)
            simp -implicitDefEqProofs (disch := omega) only [go_sem, e3, sH, blkF_length, htk]
            refine callC_at (digest_ev _ (blkF_length _ _)) ?_
            simp -implicitDefEqProofs (disch := omega) only [go_sem, Tryz.results81]
end Go.Proofs.YthkihocapdfonaaGreatDoor
namespace Go.Proofs
open Go.Shelf
def Tryz.lays156_ren : Go.Shelf.Ren := ⟨fun | 156 => 82 | 165 => 117 | 166 => 118 | 169 => 119 | 240 => 131 | 241 => 132 | 276 => 135 | 277 => 136 | n => n, fun | 31 => 36 | 9 => 9 | 3 => 3 | 4 => 4 | 0 => 0 | 20 => 20 | 72 => 152 | 76 => 156 | 70 => 150 | 37 => 68 | 75 => 155 | 127 => 172 | 164 => 176 | 5 => 5 | 80 => 149 | n => n, fun | n => n⟩
theorem Tryz.lays156 : Go.Proofs.Lays.n156 Tryz.prog Tryz.lays156_ren := {
  mixed := by kernel_rfl
  f156 := Tryz.func82.trans (congrArg some (by kernel_rfl))
  f165 := Tryz.func117.trans (congrArg some (by kernel_rfl))
  f166 := Tryz.func118.trans (congrArg some (by kernel_rfl))
  f169 := Tryz.func119.trans (congrArg some (by kernel_rfl))
  f240 := Tryz.func131.trans (congrArg some (by kernel_rfl))
  f241 := Tryz.func132.trans (congrArg some (by kernel_rfl))
  f276 := Tryz.func135.trans (congrArg some (by kernel_rfl))
  f277 := Tryz.func136.trans (congrArg some (by kernel_rfl))
  t0 := Tryz.underlying0
  a0 := Tryz.isAgg0
  z0 := Tryz.sizeOf0
  v0 := Tryz.zeroValue0
  t3 := Tryz.underlying3
  a3 := Tryz.isAgg3
  z3 := Tryz.sizeOf3
  v3 := Tryz.zeroValue3
  t4 := Tryz.underlying4
  a4 := Tryz.isAgg4
  z4 := Tryz.sizeOf4
  v4 := Tryz.zeroValue4
  t9 := Tryz.underlying9
  a9 := Tryz.isAgg9
  z9 := Tryz.sizeOf9
  v9 := Tryz.zeroValue9
  t20 := Tryz.underlying20
  a20 := Tryz.isAgg20
  z20 := Tryz.sizeOf20
  v20 := Tryz.zeroValue20
  t31 := Tryz.underlying36
  a31 := Tryz.isAgg36
  z31 := Tryz.sizeOf36
  v31 := Tryz.zeroValue36
  t37 := Tryz.underlying68
  a37 := Tryz.isAgg68
  z37 := Tryz.sizeOf68
  v37 := Tryz.zeroValue68
  t70 := Tryz.underlying150
  a70 := Tryz.isAgg150
  z70 := Tryz.sizeOf150
  v70 := Tryz.zeroValue150
  t72 := Tryz.underlying152
  a72 := Tryz.isAgg152
  z72 := Tryz.sizeOf152
  v72 := Tryz.zeroValue152
  t75 := Tryz.underlying155
  a75 := Tryz.isAgg155
  z75 := Tryz.sizeOf155
  v75 := Tryz.zeroValue155
  t76 := Tryz.underlying156
  a76 := Tryz.isAgg156
  z76 := Tryz.sizeOf156
  v76 := Tryz.zeroValue156
  t127 := Tryz.underlying172
  a127 := Tryz.isAgg172
  z127 := Tryz.sizeOf172
  v127 := Tryz.zeroValue172
  t164 := Tryz.underlying176
  a164 := Tryz.isAgg176
  z164 := Tryz.sizeOf176
  v164 := Tryz.zeroValue176 }
theorem Tryz.Builder_Extra_156 : Builder.Extra Tryz.prog Tryz.lays156_ren := {
  sizeBuilder := by kernel_rfl
  liesBuilder := by kernel_rfl
  t5 := Tryz.underlying5
  a5 := Tryz.isAgg5
  z5 := Tryz.sizeOf5
  v5 := Tryz.zeroValue5
  infoByte := by kernel_rfl
  cellsByte := by kernel_rfl
  sizeByte := by kernel_rfl
  neB5 := by decide }
open Go.RowKit in
theorem Tryz.strings_Join_none (a : Option Addr) (c : Nat) (sep : ByteArray) (w : World) :
    Calls Tryz.prog 82 #[.slice a 0 c, .string sep] w fun e w' => e = .returned (.string ⟨#[]⟩) ∧ w' = w := Any.strings_Join_none Tryz.lays156 Tryz.Builder_Extra_156 a c sep w
open Go.RowKit in
theorem Tryz.strings_Join (bk o c : Nat) (xs : List ByteArray) (sep : ByteArray) (w : World) (hcells : ∀ (j : Nat) x, xs[j]? = some x → w.cell? ⟨bk, o + j, none⟩ = some (.string x)) (hbk : bk < w.heap.size) (hN : xs.length ≤ 140737488355328) (hcap : xs.length ≤ c) (hlen : (Lib.join (xs.map (·.data.toList)) sep.data.toList).length ≤ 140737488355328) :
    Calls Tryz.prog 82 #[.slice (some ⟨bk, o, none⟩) xs.length c, .string sep] w fun e w' => e = .returned (.string ⟨(Lib.join (xs.map (·.data.toList)) sep.data.toList).toArray⟩) ∧ Below w.heap.size w w' := Any.strings_Join Tryz.lays156 Tryz.Builder_Extra_156 bk o c xs sep w hcells hbk hN hcap hlen
end Go.Proofs
namespace Go.Proofs.YthkihocapdfonaaGreatDoor
open Go.Vai Go Go.Proofs
open Nat (reduceEqDiff reduceMul reduceAdd reduceDiv reduceLeDiff)
open Int (reduceToNat reduceNe reduceEq reduceLT reduceLE)
def catF (l : List ByteArray) : ByteArray := ⟨(Lib.join (l.map (·.data.toList)) ((⟨#[]⟩ : ByteArray).data.toList)).toArray⟩
theorem strs_of {w : World} {Im : Nat → Prop} {bk o : Nat} {l : List ByteArray} {f : Nat → Nat → Value}
    (hc : ∀ i j, i < (l.map Str).length → j < 1 → w.cell? ⟨bk, o + i * 1 + j, none⟩ = some (f i j) ∧ (f i j).oneCell' = true)
    (h : ∀ (i : Nat) (e : AV) (j : Nat) (c : AV), (l.map Str)[i]? = some e → e.cells[j]? = some c → IRep w Im c (f i j)) :
    ∀ (j : Nat) x, l[j]? = some x → w.cell? ⟨bk, o + j, none⟩ = some (.string x) := by
  intro j x hx
  have hj : j < l.length := (List.getElem?_eq_some_iff.1 hx).1
  have h1 := (hc j 0 (by simpa using hj) (by omega)).1
  have h2 := h j (Str x) 0 (Str x) (by simp [hx]) rfl
  generalize f j 0 = y at h1 h2
  cases h2
  simpa using h1.trans rfl
theorem join_ev (l : List ByteArray) (hl : (catF l).size ≤ 140737488355328) (hn : l.length ≤ 140737488355328) : Ev Tryz.prog 82 [.sl 1 (l.map Str), Str ⟨#[]⟩] (Str (catF l)) := by
  rintro args r ⟨rfl, rfl⟩
  refine ⟨enters_of Tryz.func82 (by kernel_rfl) rfl, fun w Im vs hIm _ hvs => ?_⟩
  obtain ⟨hlen, hv⟩ := hvs
  obtain ⟨v1, v2, rfl⟩ : ∃ a b, vs = [a, b] := by
    match vs, hlen with
    | [a, b], _ => exact ⟨a, b, rfl⟩
  have h1 := hv 0 _ v1 rfl rfl
  have h2 := hv 1 _ v2 rfl rfl
  cases h2
  have fin : ∀ w', RRep w w' Im (Str (catF l)) (.string (catF l)) := fun w' => ⟨Im, fun _ h => h, fun _ h => .inl h, none, ⟨rfl, .v _⟩, by simp [Fresh]⟩
  generalize he : l.map Str = es at h1
  cases h1 with
  | slnil sz a cap =>
    have : l = [] := by simpa using he
    subst this
    exact (Tryz.strings_Join_none a cap ⟨#[]⟩ w).mono fun e w' ⟨h1, h2⟩ => ⟨_, h1, h2 ▸ Ext.refl _ _, fin w'⟩
  | sl sz es b o cap f hI hcap hsz hcc hh =>
    subst he
    rw [show (l.map Str).length = l.length from List.length_map ..]
    refine (Tryz.strings_Join b o cap l ⟨#[]⟩ w (strs_of hcc hh) (hIm b hI) hn (by simpa using hcap) ?_).mono fun e w' ⟨h1, h2⟩ => ⟨_, h1, ⟨h2.os, h2.tape, h2.output, h2.size, fun k hk _ => h2.block k hk⟩, fin w'⟩
    have := hl
    unfold catF at this
    simpa [ByteArray.size] using this
end Go.Proofs.YthkihocapdfonaaGreatDoor
set_option maxRecDepth 100000
namespace Go.Proofs.YthkihocapdfonaaGreatDoor
open Go.Vai Go Go.Proofs
open Nat (reduceEqDiff reduceMul reduceAdd reduceDiv reduceLeDiff)
open Int (reduceToNat reduceNe reduceEq reduceLT reduceLE)
theorem marked1_ev (m : ByteArray) (l : List ByteArray) (hl : m.size + (catF l).size ≤ 100000000) (hn : l.length ≤ 1000) : Ev Tryz.prog 80 [.sl 1 (l.map Str), .pt (Str m) 0] (Str (shaF (m ++ catF l))) := by
  refine ev_of Tryz.func80 rfl (by kernel_rfl) mo (Nat.le_of_ble_eq_true rfl) ?_
  simp -implicitDefEqProofs (disch := omega) only [go_sem, Tryz.ntmps80]
  refine callC_at (join_ev l (by omega) (by omega)) ?_
  simp -implicitDefEqProofs (disch := omega) only [go_sem]
  refine callC_at (sum_ev (m ++ catF l) (by rw [ByteArray.size_append]; omega)) ?_
  simp -implicitDefEqProofs (disch := omega) only [go_sem, Tryz.results80]
theorem marked_ev (m : ByteArray) : Ev Tryz.prog 58 [Str m] (.clo 80 [.pt (Str m) 0]) := by
  refine ev_sl (r := .clo 80 [.nptr 9 1 [Str m]]) ?_ _
  refine ev_of Tryz.func58 rfl (by kernel_rfl) mo (Nat.le_of_ble_eq_true rfl) ?_
  simp -implicitDefEqProofs (disch := omega) only [go_sem, Tryz.ntmps58]
  simp -implicitDefEqProofs (disch := omega) only [go_sem, Tryz.results58]
end Go.Proofs.YthkihocapdfonaaGreatDoor
set_option maxRecDepth 100000
namespace Go.Proofs.YthkihocapdfonaaGreatDoor
open Go.Vai Go Go.Proofs
open Nat (reduceEqDiff reduceMul reduceAdd reduceDiv reduceLeDiff)
open Int (reduceToNat reduceNe reduceEq reduceLT reduceLE)
theorem rotR_ev (x : Int) (n : Nat) (h1 : 1 ≤ n) (h2 : n ≤ 31) : Ev Tryz.prog 90 [U x, I n] (U (rotF x n)) := by
  refine ev_of Tryz.func90 rfl (by kernel_rfl) mo (Nat.le_of_ble_eq_true rfl) ?_
  have m1 : min n 32 = n := by omega
  have m2 : (32 - (n : Int)).toNat = 32 - n := by omega
  have m3 : min (32 - n) 32 = 32 - n := by omega
  simp -implicitDefEqProofs (disch := omega) only [go_sem, Tryz.ntmps90, Tryz.results90, m1, m2, m3]
  rfl
theorem constants_ev : Ev Tryz.prog 91 [] (UL KT) := by
  refine ev_sl (r := .new 99 1 (KT.map U)) ?_ _
  refine ev_of Tryz.func91 rfl (by kernel_rfl) mo (Nat.le_of_ble_eq_true rfl) ?_
  simp -implicitDefEqProofs (disch := omega) only [go_sem, Tryz.ntmps91, Tryz.results91]
  rfl
theorem byte_at (s : ByteArray) (v : Nat) (h : v < s.size) : ∃ c : UInt8, s[v]? = some c ∧ (c.toNat : Int) = gd (bI s) v := by
  refine ⟨s[v], getElem?_pos s v h, ?_⟩
  unfold gd bI
  rw [List.getD_eq_getElem?_getD, List.getElem?_map, Array.getElem?_toList, Array.getElem?_eq_getElem (show v < s.data.size from h)]
  rfl
theorem extended_ev (s : ByteArray) (hs : s.size ≤ 100000000) : Ev Tryz.prog 64 [Str s] (YL (padF (bI s))) := by
  refine ev_sl (r := .new 5 1 ((padF (bI s)).map Y)) ?_ _
  refine ev_of Tryz.func64 rfl (by kernel_rfl) mo (Nat.le_of_ble_eq_true rfl) ?_
  simp -implicitDefEqProofs (disch := omega) only [go_sem, Tryz.ntmps64]
  have hbl := bI_length s
  refine loopC_mk (fun n E σ => ∃ v : Nat, v + n = s.size ∧ E 0 = Str s ∧ E 3 = .own 136314928 1 0 v ∧ E 4 = I v ∧ σ 136314928 = some ⟨5, 1, ((bI s).take v).map Y⟩) s.size ⟨0, by omega, ?_⟩ ?_
  · simp -implicitDefEqProofs (disch := omega) only [go_sem]
    rfl
  · rintro n E σ ⟨v, hv, h0, h3, h4, sB⟩
    have htl : ((bI s).take v).length = v := by simp; omega
    simp -implicitDefEqProofs (disch := omega) only [go_sem, h0, h3, h4, sB, hbl]
    refine branch_mk (fun hc => ?_) (fun hc => ?_)
    · obtain ⟨c, hsc, hcg⟩ := byte_at s v (by omega)
      have tk : (bI s).take v ++ [gd (bI s) v] = (bI s).take (v + 1) := by rw [List.take_add_one, gd_some _ _ (by omega)]; rfl
      have htk : ((bI s).take v).take v = (bI s).take v := List.take_of_length_le (by omega)
      have hge : 0 ≤ (v : Int) := by omega
      simp -implicitDefEqProofs (disch := omega) only [go_sem, h0, h3, h4, sB, hbl, htl, hsc, hcg, htk, hge, optU, tk]
      refine againQ_mk (n - 1) (by omega) ⟨v + 1, by omega, ?_⟩
      simp -implicitDefEqProofs (disch := omega) only [go_sem, h0, h3, h4, sB, hbl, htl, hsc, hcg, htk, hge, tk]
      simp
    · have e : v = s.size := by omega
      subst e
      rw [List.take_of_length_le (by omega)] at sB
      simp -implicitDefEqProofs (disch := omega) only [go_sem, h0, h3, h4, sB, hbl]
      obtain ⟨m, hpm, hpl⟩ := padF_length (bI s)
      generalize bI s = l at *
      have htk : l.take s.size = l := List.take_of_length_le (by omega)
      have hz64 : zerF l.length < 64 := by unfold zerF; omega
      refine loopC_mk (fun n E σ => ∃ j : Nat, j + n = zerF l.length ∧ E 0 = Str s ∧ E 3 = .own 136314928 1 0 (l.length + 1 + j) ∧ σ 136314928 = some ⟨5, 1, (padZ l j).map Y⟩) (zerF l.length) ⟨0, by omega, ?_⟩ ?_
      · simp -implicitDefEqProofs (disch := omega) only [go_sem, h0, h3, h4, sB, hbl, htk]
        simp [padZ]
      · clear h0 h3 h4 sB hc E σ hv n
        rintro n E σ ⟨j, hj, h0, h3, sB⟩
        have hpz : (padZ l j).length = l.length + 1 + j := by simp [padZ]; omega
        have hmod : (((l.length + 1 + j : Nat) : Int)).tmod 64 = (((l.length + 1 + j) % 64 : Nat) : Int) := by rw [Int.tmod_eq_emod_of_nonneg (by omega)]; omega
        have hrep : padZ l j ++ [0] = padZ l (j + 1) := by simp [padZ, List.replicate_succ']
        have htk : (padZ l j).take (l.length + 1 + j) = padZ l j := List.take_of_length_le (by omega)
        simp -implicitDefEqProofs (disch := omega) only [go_sem, h0, h3, sB, hmod]
        refine branch_mk (fun hc => ?_) (fun hc => ?_)
        · have hlt := zer_less l.length j (by omega) (by omega)
          simp -implicitDefEqProofs (disch := omega) only [go_sem, h0, h3, sB, hpz, hrep, htk]
          refine againQ_mk (n - 1) (by omega) ⟨j + 1, by omega, ?_⟩
          simp -implicitDefEqProofs (disch := omega) only [go_sem, h0, h3, sB, hpz, hrep, htk]
          rw [Nat.add_assoc]
        · have hjz := zer_more l.length j (by omega) (by omega)
          subst hjz
          have hmin : ∀ k : Nat, k ≤ 8 → min (8 * (k : Int)).toNat 64 = 8 * k := fun k hk => by omega
          simp -implicitDefEqProofs (disch := omega) only [go_sem, h0, h3, sB, hpz]
          refine loopC_mk (fun n E σ => ∃ pre : List Int, n ≤ 8 ∧ pre ++ lenL l.length n = padF l ∧ E 0 = Str s ∧ E 3 = .own 136314928 1 0 pre.length ∧ E 5 = I ((n : Int) - 1) ∧ σ 136314928 = some ⟨5, 1, pre.map Y⟩) 8 ⟨padZ l (zerF l.length), by omega, rfl, ?_⟩ ?_
          · simp -implicitDefEqProofs (disch := omega) only [go_sem, h0, h3, sB, hpz]
            simp
          · clear h0 h3 sB hc hmod hpz E σ hj n htk
            rintro n E σ ⟨pre, hn8, hpre, h0, h3, h5, sB⟩
            have hprel : pre.length ≤ l.length + 128 := by have := congrArg List.length hpre; simp at this; omega
            simp -implicitDefEqProofs (disch := omega) only [go_sem, h0, h3, h5, sB]
            refine branch_mk (fun hc => ?_) (fun hc => ?_)
            · obtain ⟨k, rfl⟩ : ∃ k, n = k + 1 := ⟨n - 1, by omega⟩
              have hk : (((k + 1 : Nat) : Int)) - 1 = (k : Int) := by omega
              rw [hk] at h5
              have hm := hmin k (by omega)
              have hlb : IntKind.u8.wrap ((8 * (l.length : Int)).fdiv (2 ^ (8 * k))) = lenB l.length k := rfl
              simp -implicitDefEqProofs (disch := omega) only [go_sem, h0, h3, h5, sB, hm, hlb, hbl.symm, List.take_length]
              refine againQ_mk k (by omega) ⟨pre ++ [lenB l.length k], by omega, by rw [← hpre]; simp [lenL], ?_⟩
              simp -implicitDefEqProofs (disch := omega) only [go_sem, h0, h3, h5, sB, hm, hlb, List.take_length]
            · have hn0 : n = 0 := by omega
              subst hn0
              simp only [lenL, List.append_nil] at hpre
              subst hpre
              simp -implicitDefEqProofs (disch := omega) only [go_sem, h0, h3, h5, sB, List.take_length, Tryz.results64]
end Go.Proofs.YthkihocapdfonaaGreatDoor
set_option maxRecDepth 100000
namespace Go.Proofs.YthkihocapdfonaaGreatDoor
open Go.Vai Go Go.Proofs
open Nat (reduceEqDiff reduceMul reduceAdd reduceDiv reduceLeDiff)
open Int (reduceToNat reduceNe reduceEq reduceLT reduceLE)
theorem addF_gd (h l : List Int) (v : Nat) (hv : v < 8) : gd (addF h l) v = ad (gd h v) (gd (rndW h l 64) v) := by
  rcases v with _ | _ | _ | _ | _ | _ | _ | _ | v
  all_goals first | rfl | omega
theorem addF_length (h l : List Int) : (addF h l).length = 8 := rfl
set_option maxHeartbeats 4000000 in
theorem block_ev (h l : List Int) (h8 : h.length = 8) (hl : l.length = 64) : Ev Tryz.prog 65 [UL h, YL l] (UL (addF h l)) := by
  refine ev_sl (r := .new 99 1 ((addF h l).map U)) ?_ _
  refine ev_ofB [18] Tryz.func65 rfl (by kernel_rfl) mo (Nat.le_of_ble_eq_true rfl) ?_
  simp -implicitDefEqProofs (disch := omega) only [go_sem, Tryz.ntmps65]
  refine loopC_mk (fun n E σ => ∃ v : Nat, v + n = 16 ∧ E 0 = UL h ∧ E 1 = YL l ∧ E 5 = .own 138412112 1 0 v ∧ E 6 = I v ∧ σ 138412112 = some ⟨99, 1, (schN l v).map U⟩) 16 ⟨0, by omega, ?_⟩ ?_
  · simp -implicitDefEqProofs (disch := omega) only [go_sem]
    exact ⟨rfl, rfl⟩
  · rintro n E σ ⟨v, hv, h0, h1, h5, h6, sB⟩
    have hq := schN_length l v
    simp -implicitDefEqProofs (disch := omega) only [go_sem, h0, h1, h5, h6, sB]
    refine branch_mk (fun hc => ?_) (fun hc => ?_)
    · have n0 : (4 * (v : Int)).toNat = 4 * v := by omega
      have n1 : (4 * (v : Int) + 1).toNat = 4 * v + 1 := by omega
      have n2 : (4 * (v : Int) + 2).toNat = 4 * v + 2 := by omega
      have n3 : (4 * (v : Int) + 3).toNat = 4 * v + 3 := by omega
      have htk : (schN l v).take v = schN l v := List.take_of_length_le (by omega)
      have hset : schN l v ++ [be4 l v] = schN l (v + 1) := by simp only [schN, if_pos (show v < 16 from by omega)]
      unfold be4 at hset
      simp -implicitDefEqProofs (disch := omega) only [go_sem, h0, h1, h5, h6, sB, hl, hq, n0, n1, n2, n3, m24, m16, m8, htk, hset]
      refine againQ_mk (n - 1) (by omega) ⟨v + 1, by omega, ?_⟩
      simp -implicitDefEqProofs (disch := omega) only [go_sem, h0, h1, h5, h6, sB, hl, hq, htk, hset]
      simp
    · have e : v = 16 := by omega
      subst e
      simp -implicitDefEqProofs (disch := omega) only [go_sem, h0, h1, h5, h6, sB]
      refine loopC_mk (fun n E σ => ∃ v : Nat, v + n = 64 ∧ 16 ≤ v ∧ E 0 = UL h ∧ E 1 = YL l ∧ E 5 = .own 138412112 1 0 v ∧ E 7 = I v ∧ σ 138412112 = some ⟨99, 1, (schN l v).map U⟩) 48 ⟨16, by omega, by omega, ?_⟩ ?_
      · simp -implicitDefEqProofs (disch := omega) only [go_sem, h0, h1, h5, h6, sB]
        rfl
      · clear h0 h1 h5 h6 sB hc E σ hv hq n
        rintro n E σ ⟨v, hv, h16, h0, h1, h5, h7, sB⟩
        have hq := schN_length l v
        simp -implicitDefEqProofs (disch := omega) only [go_sem, h0, h1, h5, h7, sB]
        refine branch_mk (fun hc => ?_) (fun hc => ?_)
        · have n0 : ((v : Int) - 15).toNat = v - 15 := by omega
          have n1 : ((v : Int) - 2).toNat = v - 2 := by omega
          have n2 : ((v : Int) - 16).toNat = v - 16 := by omega
          have n3 : ((v : Int) - 7).toNat = v - 7 := by omega
          have r7 := rotR_ev (gd (schN l v) (v - 15)) 7 (by omega) (by omega)
          have r18 := rotR_ev (gd (schN l v) (v - 15)) 18 (by omega) (by omega)
          have r17 := rotR_ev (gd (schN l v) (v - 2)) 17 (by omega) (by omega)
          have r19 := rotR_ev (gd (schN l v) (v - 2)) 19 (by omega) (by omega)
          simp -implicitDefEqProofs (disch := omega) only [go_sem, h0, h1, h5, h7, sB, hq, n0, n1, n2, n3]
          refine callC_at r7 ?_
          simp -implicitDefEqProofs (disch := omega) only [go_sem, h0, h1, h5, h7, sB, hq, n0, n1, n2, n3]
          refine callC_at r18 ?_
          simp -implicitDefEqProofs (disch := omega) only [go_sem, h0, h1, h5, h7, sB, hq, n0, n1, n2, n3, m3]
          refine callC_at r17 ?_
          simp -implicitDefEqProofs (disch := omega) only [go_sem, h0, h1, h5, h7, sB, hq, n0, n1, n2, n3, m3]
          refine callC_at r19 ?_
          have htk : (schN l v).take v = schN l v := List.take_of_length_le (by omega)
          have hset : schN l v ++ [nxtF (schN l v) v] = schN l (v + 1) := by simp only [schN, if_neg (show ¬ v < 16 from by omega)]
          unfold nxtF rot2 at hset
          simp -implicitDefEqProofs (disch := omega) only [go_sem, h0, h1, h5, h7, sB, hq, n0, n1, n2, n3, m3, m10, htk, hset]
          refine againQ_mk (n - 1) (by omega) ⟨v + 1, by omega, by omega, ?_⟩
          simp -implicitDefEqProofs (disch := omega) only [go_sem, h0, h1, h5, h7, sB, hq, htk, hset]
          simp
        · have e : v = 64 := by omega
          subst e
          rw [show schN l 64 = schF l from rfl] at sB hq
          simp -implicitDefEqProofs (disch := omega) only [go_sem, h0, h1, h5, h7, sB, hq]
          refine callC_at constants_ev ?_
          have htk : h.take 8 = h := List.take_of_length_le (by omega)
          simp -implicitDefEqProofs (disch := omega) only [go_sem, h0, h1, h5, h7, sB, hq, h8, htk]
          refine loopC_mk (fun n E σ => ∃ v id : Nat, v + n = 64 ∧ (id = 138412208 ∨ id = 138415552) ∧ E 0 = UL h ∧ E 5 = .own 138412112 1 0 64 ∧ E 10 = UL KT ∧ E 11 = .own id 1 0 8 ∧ E 12 = I v ∧ σ 138412112 = some ⟨99, 1, (schF l).map U⟩ ∧ σ id = some ⟨99, 1, (rndW h l v).map U⟩) 64 ⟨0, 138412208, by omega, .inl rfl, ?_⟩ ?_
          · simp -implicitDefEqProofs (disch := omega) only [go_sem, h0, h1, h5, h7, sB, hq, h8, htk]
            simp [rndW]
          · clear h0 h1 h5 h7 sB hc E σ hv n htk h16
            rintro n E σ ⟨v, id, hv, hid, h0, h5, h10, h11, h12, sB, sC⟩
            have hr := rndW_length h l h8 v
            have hst : stepF (rndW h l v) (gd KT v) (gd (schF l) v) = rndW h l (v + 1) := rfl
            have hend : v = 64 → rndW h l v = rndW h l 64 := fun e => by rw [e]
            have hr64 := rndW_length h l h8 64
            generalize rndW h l v = q at *
            have r6 := rotR_ev (gd q 4) 6 (by omega) (by omega)
            have r11 := rotR_ev (gd q 4) 11 (by omega) (by omega)
            have r25 := rotR_ev (gd q 4) 25 (by omega) (by omega)
            have r2 := rotR_ev (gd q 0) 2 (by omega) (by omega)
            have r13 := rotR_ev (gd q 0) 13 (by omega) (by omega)
            have r22 := rotR_ev (gd q 0) 22 (by omega) (by omega)
            rcases hid with rfl | rfl
            · have tq : q.take 8 = q := List.take_of_length_le (by omega)
              simp -implicitDefEqProofs (disch := omega) only [go_sem, h0, h5, h10, h11, h12, sB, sC, hr, hq]
              refine branch_mk (fun hc => ?_) (fun hc => ?_)
              · simp -implicitDefEqProofs (disch := omega) only [go_sem, h0, h5, h10, h11, h12, sB, sC, hr, hq, KT_length]
                refine freeze_mk Plain.mono [138412208] ?_
                simp -implicitDefEqProofs (disch := omega) only [go_sem, h0, h5, h10, h11, h12, sB, sC, hr, hq, KT_length, tq]
                refine callC_at r6 ?_
                simp -implicitDefEqProofs (disch := omega) only [go_sem, h0, h5, h10, h11, h12, sB, sC, hr, hq, KT_length, tq]
                refine callC_at r11 ?_
                simp -implicitDefEqProofs (disch := omega) only [go_sem, h0, h5, h10, h11, h12, sB, sC, hr, hq, KT_length, tq]
                refine callC_at r25 ?_
                simp -implicitDefEqProofs (disch := omega) only [go_sem, h0, h5, h10, h11, h12, sB, sC, hr, hq, KT_length, tq]
                refine callC_at r2 ?_
                simp -implicitDefEqProofs (disch := omega) only [go_sem, h0, h5, h10, h11, h12, sB, sC, hr, hq, KT_length, tq]
                refine callC_at r13 ?_
                simp -implicitDefEqProofs (disch := omega) only [go_sem, h0, h5, h10, h11, h12, sB, sC, hr, hq, KT_length, tq]
                refine callC_at r22 ?_
                simp -implicitDefEqProofs (disch := omega) only [go_sem, h0, h5, h10, h11, h12, sB, sC, hr, hq, KT_length, tq]
                refine againQ_mk (n - 1) (by omega) ⟨v + 1, 138415552, by omega, .inr rfl, ?_⟩
                simp -implicitDefEqProofs (disch := omega) only [go_sem, h0, h5, h10, h11, h12, sB, sC, hr, hq]
                refine ⟨by simp, ?_⟩
                rw [← hst]
                rfl
              · obtain rfl := hend (by omega)
                simp -implicitDefEqProofs (disch := omega) only [go_sem, h0, h5, h10, h11, h12, sB, sC, hr, hq]
                refine loopC_mk (fun n E σ => ∃ v : Nat, v + n = 8 ∧ E 0 = UL h ∧ E 11 = .own 138412208 1 0 8 ∧ E 17 = .own 138412304 1 0 v ∧ E 18 = I v ∧ σ 138412208 = some ⟨99, 1, (rndW h l 64).map U⟩ ∧ σ 138412304 = some ⟨99, 1, ((addF h l).take v).map U⟩) 8 ⟨0, by omega, ?_⟩ ?_
                · simp -implicitDefEqProofs (disch := omega) only [go_sem, h0, h5, h10, h11, h12, sB, sC, hr, hq]
                  rfl
                · clear h0 h5 h10 h11 h12 sB sC E σ
                  rintro n E σ ⟨v, hv, h0, h11, h17, h18, sB, sC⟩
                  simp -implicitDefEqProofs (disch := omega) only [go_sem, h0, h11, h17, h18, sB, sC]
                  refine branch_mk (fun hc => ?_) (fun hc => ?_)
                  · have hg := addF_gd h l v (by omega)
                    have htl : ((addF h l).take v).length = v := by rw [List.length_take, addF_length]; omega
                    have htk : ((addF h l).take v).take v = (addF h l).take v := List.take_of_length_le (by omega)
                    have tk : (addF h l).take v ++ [IntKind.u32.wrap (gd h v + gd (rndW h l 64) v)] = (addF h l).take (v + 1) := by rw [List.take_add_one, gd_some _ _ (by rw [addF_length]; omega), hg]; rfl
                    simp -implicitDefEqProofs (disch := omega) only [go_sem, h0, h11, h17, h18, sB, sC, h8, hr64, htl, htk, tk]
                    refine againQ_mk (n - 1) (by omega) ⟨v + 1, by omega, ?_⟩
                    simp -implicitDefEqProofs (disch := omega) only [go_sem, h0, h11, h17, h18, sB, sC, h8, hr64, htl, htk, tk]
                    simp
                  · have e : v = 8 := by omega
                    subst e
                    rw [List.take_of_length_le (by rw [addF_length]; omega)] at sC
                    have htk : (addF h l).take 8 = addF h l := List.take_of_length_le (by rw [addF_length]; omega)
                    have hal : (addF h l).length = 8 := rfl
                    simp -implicitDefEqProofs (disch := omega) only [go_sem, h0, h11, h17, h18, sB, sC, htk, hal, Tryz.results65]
            · have tq : q.take 8 = q := List.take_of_length_le (by omega)
              simp -implicitDefEqProofs (disch := omega) only [go_sem, h0, h5, h10, h11, h12, sB, sC, hr, hq]
              refine branch_mk (fun hc => ?_) (fun hc => ?_)
              · simp -implicitDefEqProofs (disch := omega) only [go_sem, h0, h5, h10, h11, h12, sB, sC, hr, hq, KT_length]
                refine freeze_mk Plain.mono [138415552] ?_
                simp -implicitDefEqProofs (disch := omega) only [go_sem, h0, h5, h10, h11, h12, sB, sC, hr, hq, KT_length, tq]
                refine callC_at r6 ?_
                simp -implicitDefEqProofs (disch := omega) only [go_sem, h0, h5, h10, h11, h12, sB, sC, hr, hq, KT_length, tq]
                refine callC_at r11 ?_
                simp -implicitDefEqProofs (disch := omega) only [go_sem, h0, h5, h10, h11, h12, sB, sC, hr, hq, KT_length, tq]
                refine callC_at r25 ?_
                simp -implicitDefEqProofs (disch := omega) only [go_sem, h0, h5, h10, h11, h12, sB, sC, hr, hq, KT_length, tq]
                refine callC_at r2 ?_
                simp -implicitDefEqProofs (disch := omega) only [go_sem, h0, h5, h10, h11, h12, sB, sC, hr, hq, KT_length, tq]
                refine callC_at r13 ?_
                simp -implicitDefEqProofs (disch := omega) only [go_sem, h0, h5, h10, h11, h12, sB, sC, hr, hq, KT_length, tq]
                refine callC_at r22 ?_
                simp -implicitDefEqProofs (disch := omega) only [go_sem, h0, h5, h10, h11, h12, sB, sC, hr, hq, KT_length, tq]
                refine againQ_mk (n - 1) (by omega) ⟨v + 1, 138415552, by omega, .inr rfl, ?_⟩
                simp -implicitDefEqProofs (disch := omega) only [go_sem, h0, h5, h10, h11, h12, sB, sC, hr, hq]
                refine ⟨by simp, ?_⟩
                rw [← hst]
                rfl
              · obtain rfl := hend (by omega)
                simp -implicitDefEqProofs (disch := omega) only [go_sem, h0, h5, h10, h11, h12, sB, sC, hr, hq]
                refine loopC_mk (fun n E σ => ∃ v : Nat, v + n = 8 ∧ E 0 = UL h ∧ E 11 = .own 138415552 1 0 8 ∧ E 17 = .own 138412304 1 0 v ∧ E 18 = I v ∧ σ 138415552 = some ⟨99, 1, (rndW h l 64).map U⟩ ∧ σ 138412304 = some ⟨99, 1, ((addF h l).take v).map U⟩) 8 ⟨0, by omega, ?_⟩ ?_
                · simp -implicitDefEqProofs (disch := omega) only [go_sem, h0, h5, h10, h11, h12, sB, sC, hr, hq]
                  rfl
                · clear h0 h5 h10 h11 h12 sB sC E σ
                  rintro n E σ ⟨v, hv, h0, h11, h17, h18, sB, sC⟩
                  simp -implicitDefEqProofs (disch := omega) only [go_sem, h0, h11, h17, h18, sB, sC]
                  refine branch_mk (fun hc => ?_) (fun hc => ?_)
                  · have hg := addF_gd h l v (by omega)
                    have htl : ((addF h l).take v).length = v := by rw [List.length_take, addF_length]; omega
                    have htk : ((addF h l).take v).take v = (addF h l).take v := List.take_of_length_le (by omega)
                    have tk : (addF h l).take v ++ [IntKind.u32.wrap (gd h v + gd (rndW h l 64) v)] = (addF h l).take (v + 1) := by rw [List.take_add_one, gd_some _ _ (by rw [addF_length]; omega), hg]; rfl
                    simp -implicitDefEqProofs (disch := omega) only [go_sem, h0, h11, h17, h18, sB, sC, h8, hr64, htl, htk, tk]
                    refine againQ_mk (n - 1) (by omega) ⟨v + 1, by omega, ?_⟩
                    simp -implicitDefEqProofs (disch := omega) only [go_sem, h0, h11, h17, h18, sB, sC, h8, hr64, htl, htk, tk]
                    simp
                  · have e : v = 8 := by omega
                    subst e
                    rw [List.take_of_length_le (by rw [addF_length]; omega)] at sC
                    have htk : (addF h l).take 8 = addF h l := List.take_of_length_le (by rw [addF_length]; omega)
                    have hal : (addF h l).length = 8 := rfl
                    simp -implicitDefEqProofs (disch := omega) only [go_sem, h0, h11, h17, h18, sB, sC, htk, hal, Tryz.results65]
end Go.Proofs.YthkihocapdfonaaGreatDoor
set_option maxRecDepth 100000
namespace Go.Proofs.YthkihocapdfonaaGreatDoor
open Go.Vai Go Go.Proofs
open Nat (reduceEqDiff reduceMul reduceAdd reduceDiv reduceLeDiff)
open Int (reduceToNat reduceNe reduceEq reduceLT reduceLE)
theorem outF_four (h : List Int) (v : Nat) (hv : v < 8) : (outF h).take (4 * v) ++ [IntKind.u8.wrap ((gd h v).fdiv (2 ^ 24)), IntKind.u8.wrap ((gd h v).fdiv (2 ^ 16)), IntKind.u8.wrap ((gd h v).fdiv (2 ^ 8)), IntKind.u8.wrap (gd h v)] = (outF h).take (4 * (v + 1)) := by
  have e : ∀ j, j < 4 → dgF h (4 * v + j) = IntKind.u8.wrap ((gd h v).fdiv (2 ^ (24 - 8 * j))) := by
    intro j hj
    unfold dgF
    rw [show (4 * v + j) / 4 = v from by omega, show (4 * v + j) % 4 = j from by omega]
  have e0 := e 0 (by omega)
  have e1 := e 1 (by omega)
  have e2 := e 2 (by omega)
  have e3 := e 3 (by omega)
  simp only [Nat.mul_zero, Nat.sub_zero, Nat.mul_one, Nat.reduceMul, Nat.reduceSub, Nat.add_zero] at e0 e1 e2 e3
  rw [show (2 : Int) ^ 0 = 1 from rfl, Int.fdiv_one] at e3
  rw [← e0, ← e1, ← e2, ← e3]
  unfold outF
  rw [← List.map_take, ← List.map_take, List.take_range, List.take_range, show min (4 * (v + 1)) 32 = 4 * v + 4 from by omega, show min (4 * v) 32 = 4 * v from by omega,
    show 4 * v + 4 = 4 * v + 3 + 1 from rfl, List.range_succ, List.range_succ, List.range_succ, List.range_succ]
  simp
set_option maxHeartbeats 2000000 in
theorem sumR_ev (s : ByteArray) (hs : s.size ≤ 100000000) : Ev Tryz.prog 43 [Str s] (Str (shaF s)) := by
  refine ev_of Tryz.func43 rfl (by kernel_rfl) mo (Nat.le_of_ble_eq_true rfl) ?_
  simp -implicitDefEqProofs (disch := omega) only [go_sem, Tryz.ntmps43]
  refine callC_sem rfl ?_
  refine freeze_op [92274816] ?_
  simp -implicitDefEqProofs (disch := omega) only [go_sem]
  refine callC_at (extended_ev s hs) ?_
  simp -implicitDefEqProofs (disch := omega) only [go_sem]
  have hbl := bI_length s
  unfold shaF
  generalize bI s = l at *
  obtain ⟨m, hpm, hpl⟩ := padF_length l
  refine loopC_mk (fun n E σ => ∃ v : Nat, v + n = m ∧ E 3 = UL (blkF (padF l) v) ∧ E 4 = YL (padF l) ∧ E 5 = I ((64 * v : Nat) : Int)) m ⟨0, by omega, ?_⟩ ?_
  · simp -implicitDefEqProofs (disch := omega) only [go_sem]
    exact ⟨rfl, rfl⟩
  · rintro n E σ ⟨v, hv, h3, h4, h5⟩
    simp -implicitDefEqProofs (disch := omega) only [go_sem, h3, h4, h5]
    refine branch_mk (fun hc => ?_) (fun hc => ?_)
    · have hlt : v < m := by omega
      have n1 : (((64 * v : Nat) : Int) + 64).toNat = 64 * v + 64 := by omega
      have hp : ((padF l).drop (64 * v)).take (64 * v + 64 - 64 * v) = pieceC (padF l) v := by unfold pieceC; rw [Nat.add_sub_cancel_left]
      simp -implicitDefEqProofs (disch := omega) only [go_sem, h3, h4, h5, n1, hp]
      refine callC_at (block_ev _ _ (blkF_length _ v) (pieceC_length _ v (by omega))) ?_
      simp -implicitDefEqProofs (disch := omega) only [go_sem, h3, h4, h5]
      refine againQ_mk (n - 1) (by omega) ⟨v + 1, by omega, ?_⟩
      simp -implicitDefEqProofs (disch := omega) only [go_sem, h3, h4, h5]
      exact ⟨rfl, by congr 1⟩
    · have e : v = m := by omega
      subst e
      rw [show (padF l).length / 64 = v from by omega]
      simp -implicitDefEqProofs (disch := omega) only [go_sem, h3, h4, h5]
      have hbk := blkF_length (padF l) v
      generalize blkF (padF l) v = q at *
      refine loopC_mk (fun n E σ => ∃ v : Nat, v + n = 8 ∧ E 3 = UL q ∧ E 6 = .own 92274784 1 0 (4 * v) ∧ E 7 = I v ∧ σ 92274784 = some ⟨5, 1, ((outF q).take (4 * v)).map Y⟩) 8 ⟨0, by omega, ?_⟩ ?_
      · simp -implicitDefEqProofs (disch := omega) only [go_sem, h3, h4, h5]
        rfl
      · clear h3 h4 h5 hc E σ hv n hpm
        rintro n E σ ⟨v, hv, h3, h6, h7, sB⟩
        have hol : (outF q).length = 32 := by simp [outF]
        simp -implicitDefEqProofs (disch := omega) only [go_sem, h3, h6, h7, sB]
        refine branch_mk (fun hc => ?_) (fun hc => ?_)
        · have hf := outF_four q v (by omega)
          have htl : ((outF q).take (4 * v)).length = 4 * v := by rw [List.length_take, hol]; omega
          have htk : ((outF q).take (4 * v)).take (4 * v) = (outF q).take (4 * v) := List.take_of_length_le (by omega)
          have ap4 : ∀ (l : List Int) (a b c d : Int), l.map Y ++ [Y a, Y b, Y c, Y d] = (l ++ [a, b, c, d]).map Y := fun l a b c d => by simp
          simp -implicitDefEqProofs (disch := omega) only [go_sem, h3, h6, h7, sB, hbk, hol, m24, m16, m8, htl, htk, ap4, hf]
          refine againQ_mk (n - 1) (by omega) ⟨v + 1, by omega, ?_⟩
          simp -implicitDefEqProofs (disch := omega) only [go_sem, h3, h6, h7, sB, hbk, hol, htl, htk, ap4, hf]
          exact ⟨by congr 1, by simp⟩
        · have e : v = 8 := by omega
          subst e
          rw [List.take_of_length_le (by omega)] at sB
          simp -implicitDefEqProofs (disch := omega) only [go_sem, h3, h6, h7, sB]
          refine toStr_mk (outF q) (by simp -implicitDefEqProofs (disch := omega) only [go_sem, h6, sB, hol]) (by intro b; simp -implicitDefEqProofs (disch := omega) only [go_sem, h6]; intro e; cases e) (e := 5) rfl rfl rfl ?_
          simp -implicitDefEqProofs (disch := omega) only [go_sem, Tryz.results43]
end Go.Proofs.YthkihocapdfonaaGreatDoor
set_option maxRecDepth 100000
namespace Go.Proofs.YthkihocapdfonaaGreatDoor
open Go.Vai Go Go.Proofs
open Nat (reduceEqDiff reduceMul reduceAdd reduceDiv reduceLeDiff)
open Int (reduceToNat reduceNe reduceEq reduceLT reduceLE)
abbrev U64 (n : Int) : AV := .v (.int .u64 n)
def zz (n : Int) : Int := if n < 0 then -2 * n - 1 else 2 * n
def grp : Nat → Nat → List (Nat × Bool)
  | 0, z => [(z % 128, true)]
  | k + 1, z => if z < 128 then [(z % 128, true)] else (z % 128, false) :: grp k (z / 128)
def grpB (p : Nat × Bool) : Int := if p.2 then p.1 else p.1 + 128
def viB (n : Int) : List Int := (grp 9 (zz n).toNat).map grpB
def viS (n : Int) : ByteArray := strOfNums (viB n)
theorem u64_wrap (x : Int) : IntKind.u64.wrap x = x % 18446744073709551616 := by
  simp [IntKind.wrap, IntKind.bits, IntKind.signed]
theorem zz_range {n : Int} (h1 : -4611686018427387903 ≤ n) (h2 : n ≤ 4611686018427387903) : 0 ≤ zz n ∧ zz n < 9223372036854775808 := by
  unfold zz; split <;> omega
theorem zz_xor {n : Int} (h1 : -4611686018427387903 ≤ n) (h2 : n ≤ 4611686018427387903) : bitsI .xor .u64 (IntKind.u64.wrap (IntKind.u64.wrap n * 2 ^ 1)) (IntKind.u64.wrap (n.fdiv (2 ^ 63))) = zz n := by
  have hr := zz_range h1 h2
  show IntKind.u64.wrap (((BitVec.ofInt 64 _ ^^^ BitVec.ofInt 64 _ : BitVec 64).toNat : Nat) : Int) = zz n
  by_cases hn : n < 0
  · have e2 : IntKind.u64.wrap (n.fdiv (2 ^ 63)) = 18446744073709551615 := by
      rw [u64_wrap, show (2 : Int) ^ 63 = 9223372036854775808 from rfl, Int.fdiv_eq_ediv_of_nonneg _ (by decide)]
      omega
    rw [e2, show BitVec.ofInt 64 18446744073709551615 = BitVec.allOnes 64 from rfl, BitVec.xor_allOnes, BitVec.toNat_not, BitVec.toNat_ofInt, u64_wrap, u64_wrap, u64_wrap]
    simp only [zz, if_pos hn]
    omega
  · have e2 : IntKind.u64.wrap (n.fdiv (2 ^ 63)) = 0 := by
      rw [u64_wrap, show (2 : Int) ^ 63 = 9223372036854775808 from rfl, Int.fdiv_eq_ediv_of_nonneg _ (by decide)]
      omega
    rw [e2, show BitVec.ofInt 64 0 = 0#64 from rfl, BitVec.xor_zero, BitVec.toNat_ofInt, u64_wrap, u64_wrap, u64_wrap]
    simp only [zz, if_neg hn]
    omega
theorem and_127 (z : Nat) (h : z < 18446744073709551616) : bitsI .and .u64 (z : Int) 127 = ((z % 128 : Nat) : Int) := by
  show IntKind.u64.wrap (((BitVec.ofInt 64 (z : Int) &&& BitVec.ofInt 64 127 : BitVec 64).toNat : Nat) : Int) = _
  rw [BitVec.toNat_and, show (BitVec.ofInt 64 127).toNat = 2 ^ 7 - 1 from rfl, Nat.and_two_pow_sub_one_eq_mod, BitVec.toNat_ofInt, u64_wrap]
  omega
theorem or_128 (g : Nat) (h : g < 128) : bitsI .or .u8 (g : Int) 128 = ((g : Int) + 128) := by
  have key : ∀ g : Fin 128, bitsI .or .u8 ((g.1 : Nat) : Int) 128 = ((g.1 : Nat) : Int) + 128 := by decide +kernel
  exact key ⟨g, h⟩
theorem shr_7 (z : Nat) : ((z : Int)).fdiv (2 ^ 7) = ((z / 128 : Nat) : Int) := by
  rw [show (2 : Int) ^ 7 = 128 from rfl, Int.fdiv_eq_ediv_of_nonneg _ (by decide)]; omega
theorem grp_lt : ∀ k z, ∀ p ∈ grp k z, p.1 < 128
  | 0, z, p, h => by simp [grp] at h; rw [h]; simp; omega
  | k + 1, z, p, h => by
    unfold grp at h
    split at h
    · simp at h; rw [h]; simp; omega
    · simp at h
      rcases h with h | h
      · rw [h]; simp; omega
      · exact grp_lt k _ p h
theorem grp_length : ∀ k z, (grp k z).length ≤ k + 1
  | 0, z => by simp [grp]
  | k + 1, z => by
    unfold grp
    split
    · simp
    · simp; exact grp_length k _
theorem viB_length (n : Int) : (viB n).length ≤ 10 := by unfold viB; rw [List.length_map]; exact grp_length _ _
theorem viS_size (n : Int) : (viS n).size ≤ 10 := by unfold viS; rw [strOfNums_size]; exact viB_length n
end Go.Proofs.YthkihocapdfonaaGreatDoor
set_option maxRecDepth 100000
namespace Go.Proofs.YthkihocapdfonaaGreatDoor
open Go.Vai Go Go.Proofs
open Nat (reduceEqDiff reduceMul reduceAdd reduceDiv reduceLeDiff)
open Int (reduceToNat reduceNe reduceEq reduceLT reduceLE)
theorem zig_ev (n : Int) (h1 : -4611686018427387903 ≤ n) (h2 : n ≤ 4611686018427387903) : Ev Tryz.prog 121 [I n] (U64 (zz n)) := by
  refine ev_of Tryz.func121 rfl (by kernel_rfl) mo (Nat.le_of_ble_eq_true rfl) ?_
  simp -implicitDefEqProofs (disch := omega) only [go_sem, Tryz.ntmps121]
  refine branch_mk (fun hc => ?_) (fun hc => ?_)
  · have e1 : IntKind.i64.wrap (0 - n) = -n := by rw [wrap64_of (by omega)]; omega
    have e2 : IntKind.u64.wrap (IntKind.u64.wrap (IntKind.u64.wrap (-n) * 2) - 1) = zz n := by
      simp only [u64_wrap, zz, if_pos hc]; omega
    simp -implicitDefEqProofs (disch := omega) only [go_sem, e1, e2, Tryz.results121]
  · have e2 : IntKind.u64.wrap (IntKind.u64.wrap n * 2) = zz n := by
      simp only [u64_wrap, zz, if_neg hc]; omega
    simp -implicitDefEqProofs (disch := omega) only [go_sem, e2, Tryz.results121]
theorem grp_snoc : ∀ k z, z < 128 ^ (k + 1) → 128 ≤ z → ∃ m, k = m + 1 ∧ grp k z = (z % 128, false) :: grp m (z / 128) ∧ z / 128 < 128 ^ (m + 1)
  | 0, z, h, h2 => by omega
  | k + 1, z, h, h2 => ⟨k, rfl, by rw [show grp (k + 1) z = if z < 128 then [(z % 128, true)] else (z % 128, false) :: grp k (z / 128) from rfl, if_neg (by omega)], by rw [Nat.pow_succ] at h; omega⟩
theorem grp_last : ∀ k z, z < 128 → grp k z = [(z % 128, true)]
  | 0, z, h => rfl
  | k + 1, z, h => by rw [show grp (k + 1) z = if z < 128 then [(z % 128, true)] else (z % 128, false) :: grp k (z / 128) from rfl, if_pos h]
set_option maxHeartbeats 1000000 in
theorem putIntR_ev (n : Int) (h1 : -4611686018427387903 ≤ n) (h2 : n ≤ 4611686018427387903) : Ev Tryz.prog 92 [I n] (.tup [Str (viS n), I 0]) := by
  refine ev_of Tryz.func92 rfl (by kernel_rfl) mo (Nat.le_of_ble_eq_true rfl) ?_
  simp -implicitDefEqProofs (disch := omega) only [go_sem, Tryz.ntmps92]
  refine branch_mk (fun hc => absurd hc (by omega)) (fun hc => ?_)
  simp -implicitDefEqProofs (disch := omega) only [go_sem]
  refine branch_mk (fun hc => absurd hc (by omega)) (fun hc => ?_)
  simp -implicitDefEqProofs (disch := omega) only [go_sem]
  refine callC_at (zig_ev n h1 h2) ?_
  simp -implicitDefEqProofs (disch := omega) only [go_sem]
  have hr := zz_range h1 h2
  unfold viS viB
  obtain ⟨z, hz⟩ : ∃ z : Nat, zz n = z := ⟨(zz n).toNat, by omega⟩
  rw [hz, Int.toNat_natCast]
  have hz1 : z < 128 ^ (9 + 1) := by omega
  refine loopC_mk (fun k E σ => ∃ (pre : List Int) (y : Nat), y < 128 ^ (k + 1) ∧ y < 9223372036854775808 ∧ pre.length + k ≤ 9 ∧ pre ++ (grp k y).map grpB = (grp 9 z).map grpB ∧ E 4 = U64 y ∧ E 5 = .own 195035216 1 0 pre.length ∧ σ 195035216 = some ⟨5, 1, pre.map Y⟩) 9 ⟨[], z, hz1, by omega, by simp, rfl, ?_⟩ ?_
  · simp -implicitDefEqProofs (disch := omega) only [go_sem, hz]
  · clear hz1
    rintro k E σ ⟨pre, y, hy, hy2, hpk, hpre, h4, h5, sB⟩
    simp -implicitDefEqProofs (disch := omega) only [go_sem, h4, h5, sB]
    refine branch_mk (fun hc => ?_) (fun hc => ?_)
    · obtain ⟨m, rfl, hg, hym⟩ := grp_snoc k y hy (by omega)
      have e1 : ((y : Int)).tmod 128 = ((y % 128 : Nat) : Int) := by rw [Int.tmod_eq_emod_of_nonneg (by omega)]; omega
      have e2 : ((y : Int)).tdiv 128 = ((y / 128 : Nat) : Int) := by rw [Int.tdiv_eq_ediv_of_nonneg (by omega)]; omega
      have e3 : IntKind.u8.wrap (IntKind.u64.wrap (((y % 128 : Nat) : Int) + 128)) = ((y % 128 : Nat) : Int) + 128 := by
        rw [u64_wrap]; simp only [IntKind.wrap, IntKind.bits, IntKind.signed]; simp; omega
      have e4 : IntKind.u64.wrap ((y % 128 : Nat) : Int) = ((y % 128 : Nat) : Int) := by rw [u64_wrap]; omega
      have e5 : IntKind.u64.wrap ((y / 128 : Nat) : Int) = ((y / 128 : Nat) : Int) := by rw [u64_wrap]; omega
      simp -implicitDefEqProofs (disch := omega) only [go_sem, h4, h5, sB, e1, e2, e3, e4, e5, List.take_length]
      refine againQ_mk m (by omega) ⟨pre ++ [((y % 128 : Nat) : Int) + 128], y / 128, hym, by omega, by simp; omega, ?_, ?_⟩
      · rw [← hpre, hg]; simp [grpB]
      · simp -implicitDefEqProofs (disch := omega) only [go_sem, h4, h5, sB, e1, e2, e3, e4, e5, List.take_length]
    · have hy3 : y < 128 := by omega
      rw [grp_last k y hy3] at hpre
      have e3 : IntKind.u8.wrap (y : Int) = ((y % 128 : Nat) : Int) := by
        simp only [IntKind.wrap, IntKind.bits, IntKind.signed]; simp; omega
      have e6 : pre ++ [((y % 128 : Nat) : Int)] = (grp 9 z).map grpB := by rw [← hpre]; simp [grpB]
      have e7 := congrArg List.length e6
      have e8 : pre.length + 1 = (grp 9 z).length := by simpa using e7
      simp -implicitDefEqProofs (disch := omega) only [go_sem, h4, h5, sB, e3, e6, List.take_length]
      refine toStr_mk ((grp 9 z).map grpB) (by simp -implicitDefEqProofs (disch := omega) only [go_sem, h5, sB, e3, e6, List.take_length]; rw [e8]; simp) (by intro b; simp -implicitDefEqProofs (disch := omega) only [go_sem, h5]; intro e; cases e) (e := 5) rfl rfl rfl ?_
      simp -implicitDefEqProofs (disch := omega) only [go_sem, Tryz.results92]
end Go.Proofs.YthkihocapdfonaaGreatDoor
set_option maxRecDepth 100000
namespace Go.Proofs.YthkihocapdfonaaGreatDoor
open Go.Vai Go Go.Proofs
open Nat (reduceEqDiff reduceMul reduceAdd reduceDiv reduceLeDiff)
open Int (reduceToNat reduceNe reduceEq reduceLT reduceLE)
abbrev YG (p : Nat × Bool) : List AV := [Y p.1, .v (.bool p.2)]
@[go_sem] theorem namesL_groups (p : Nat → Bool) (l : List (Nat × Bool)) : AV.namesL p ((l.map YG).map .tup) = false := by
  rw [List.map_map]; exact namesL_map p l _ fun _ => rfl
theorem groups_ev (z : Int) : Ev Tryz.prog 89 [U64 z] (.clo 120 [.nptr 122 1 [U64 z]]) := by
  refine ev_of Tryz.func89 rfl (by kernel_rfl) mo (Nat.le_of_ble_eq_true rfl) ?_
  simp -implicitDefEqProofs (disch := omega) only [go_sem, Tryz.ntmps89, Tryz.results89]
theorem m7 : min 7 64 = 7 := rfl
theorem m1a : min 1 64 = 1 := rfl
theorem m63 : min 63 64 = 63 := rfl
theorem groups_sok (z a : Nat) (σ : Store) (h : z < 9223372036854775808) (ha : σ a = some ⟨122, 1, [U64 z]⟩) (hA : a / 16 < 131072 * (120 + 1) ∨ 131072 * (120 + 1) + 100000 ≤ a / 16) :
    SOK Tryz.prog 120 [.ptr a 1 0 0] σ ((grp 9 z).map YG) := by
  refine sok_of Tryz.func120 rfl (by kernel_rfl) mo (Nat.le_of_ble_eq_true rfl) ?_ rfl fun l => ?_
  · exact namesL_groups allB _
  · simp -implicitDefEqProofs (disch := omega) only [go_sem, Tryz.ntmps120, ha]
    have hz1 : z < 128 ^ (9 + 1) := by omega
    refine loopC_mk (fun k E σ => ∃ y : Nat, y < 128 ^ (k + 1) ∧ y < 9223372036854775808 ∧ E 0 = .yld l ∧ E 1 = .ptr a 1 0 0 ∧ E 18 = .tup (((grp k y).map YG).map .tup) ∧ σ a = some ⟨122, 1, [U64 y]⟩) 9 ⟨z, hz1, by omega, ?_⟩ ?_
    · simp -implicitDefEqProofs (disch := omega) only [go_sem, ha]
    · clear ha hz1 σ
      rintro k E σ ⟨y, hy, hy2, h0, h1, h18, ha⟩
      have e1 := and_127 y (by omega)
      have e2 := shr_7 y
      have e3 : IntKind.u8.wrap ((y % 128 : Nat) : Int) = ((y % 128 : Nat) : Int) := by
        simp only [IntKind.wrap, IntKind.bits, IntKind.signed]; simp; omega
      by_cases hc : y < 128
      · rw [grp_last k y hc] at h18
        have hd : decide ((y : Int) < 128) = true := decide_eq_true (by omega)
        simp -implicitDefEqProofs (disch := omega) only [go_sem, h0, h1, h18, ha, e1, e2, e3, hd]
        exact ⟨.inl trivial, .inr trivial⟩
      · obtain ⟨m, rfl, hg, hym⟩ := grp_snoc k y hy (by omega)
        rw [hg] at h18
        have hd : decide ((y : Int) < 128) = false := decide_eq_false (by omega)
        simp -implicitDefEqProofs (disch := omega) only [go_sem, h0, h1, h18, ha, e1, e2, e3, hd]
        refine ⟨againQ_mk m (by omega) ⟨y / 128, hym, by omega, ?_⟩, .inr trivial⟩
        simp -implicitDefEqProofs (disch := omega) only [go_sem, h0, h1, h18, ha, e1, e2, e3, m7]
set_option maxHeartbeats 1000000 in
theorem putInt_ev (n : Int) (h1 : -4611686018427387903 ≤ n) (h2 : n ≤ 4611686018427387903) : Ev Tryz.prog 63 [I n] (.tup [Str (viS n), I 0]) := by
  refine ev_of Tryz.func63 rfl (by kernel_rfl) mo (Nat.le_of_ble_eq_true rfl) ?_
  simp -implicitDefEqProofs (disch := omega) only [go_sem, Tryz.ntmps63]
  refine branch_mk (fun hc => absurd hc (by omega)) (fun hc => ?_)
  simp -implicitDefEqProofs (disch := omega) only [go_sem]
  refine branch_mk (fun hc => absurd hc (by omega)) (fun hc => ?_)
  have hr := zz_range h1 h2
  have e1 := zz_xor h1 h2
  obtain ⟨z, hz⟩ : ∃ z : Nat, zz n = z := ⟨(zz n).toNat, by omega⟩
  rw [hz] at e1
  simp -implicitDefEqProofs (disch := omega) only [go_sem, e1, m1a, m63]
  refine callC_at (groups_ev z) ?_
  simp -implicitDefEqProofs (disch := omega) only [go_sem]
  refine awpC_range ?_
  have hzz : (zz n).toNat = z := by omega
  unfold viS viB
  rw [hzz]
  refine range_mk [134218048] [134217792] 8388708 ((grp 9 z).map YG) (fun xs σ => ∃ (d r : List (Nat × Bool)), grp 9 z = d ++ r ∧ xs = r.map YG ∧ σ 134217792 = some ⟨68, 1, [.own 134217793 1 0 d.length]⟩ ∧ σ 134217793 = some ⟨5, 1, (d.map grpB).map Y⟩)
    (g := 120) (caps := [.ptr 134218048 1 0 0]) ?_ ?_ ?_ ?_ ?_ ?_ ?_ ?_
  · simp -implicitDefEqProofs (disch := omega) only [go_sem]
  · refine groups_sok z _ _ (by omega) ?_ (by decide)
    simp -implicitDefEqProofs (disch := omega) only [go_sem]
  · intro x hx
    obtain ⟨y, _, rfl⟩ := List.mem_map.1 hx
    rfl
  · simp -implicitDefEqProofs (disch := omega) only [go_sem]
  · simp -implicitDefEqProofs (disch := omega) only [go_sem]
  · refine ⟨[], _, rfl, rfl, ?_⟩
    simp -implicitDefEqProofs (disch := omega) only [go_sem]
  · rintro E0 hE0 y rest σ' ⟨d, r, hdr, hxs, s4, s5⟩
    have e4 : E0 4 = .ptr 134217792 1 0 0 := by rw [hE0]; simp -implicitDefEqProofs (disch := omega) only [go_sem]
    clear hE0
    cases r with
    | nil => cases hxs
    | cons g r =>
      simp only [List.map_cons, List.cons.injEq] at hxs
      obtain ⟨rfl, rfl⟩ := hxs
      have hg := grp_lt 9 z g (by rw [hdr]; simp)
      have h5 := or_128 g.1 hg
      have hdl : d.length ≤ 10 := by have := congrArg List.length hdr; have := grp_length 9 z; simp at *; omega
      have htk : (d.map grpB).take d.length = d.map grpB := List.take_of_length_le (by simp)
      simp -implicitDefEqProofs (disch := omega) only [go_sem, e4, s4, s5]
      refine branch_mk (fun hc => ?_) (fun hc => ?_)
      · have hg2 : d.map grpB ++ [(g.1 : Int) + 128] = (d ++ [g]).map grpB := by simp [grpB, hc]
        simp -implicitDefEqProofs (disch := omega) only [go_sem, e4, s4, s5, h5, htk, hg2]
        refine ⟨inL [], fun _ _ => rfl, d ++ [g], r, by rw [hdr]; simp, rfl, ?_⟩
        simp -implicitDefEqProofs (disch := omega) only [go_sem, e4, s4, s5, h5, htk, hg2]
      · have hg2 : d.map grpB ++ [(g.1 : Int)] = (d ++ [g]).map grpB := by simp [grpB, hc]
        simp -implicitDefEqProofs (disch := omega) only [go_sem, e4, s4, s5, h5, htk, hg2]
        refine ⟨inL [], fun _ _ => rfl, d ++ [g], r, by rw [hdr]; simp, rfl, ?_⟩
        simp -implicitDefEqProofs (disch := omega) only [go_sem, e4, s4, s5, h5, htk, hg2]
  · rintro E0 hE0 σ' ⟨d, r, hdr, hxs, s4, s5⟩
    have e4 : E0 4 = .ptr 134217792 1 0 0 := by rw [hE0]; simp -implicitDefEqProofs (disch := omega) only [go_sem]
    have hr0 : r = [] := by cases r with | nil => rfl | cons a b => cases hxs
    subst hr0
    rw [List.append_nil] at hdr
    have htk : ((grp 9 z).map grpB).take d.length = (grp 9 z).map grpB := List.take_of_length_le (by rw [hdr]; simp)
    rw [← hdr] at s5
    have hdl : d.length = (grp 9 z).length := by rw [hdr]
    simp -implicitDefEqProofs (disch := omega) only [go_sem, e4, s4, s5]
    refine toStr_mk ((grp 9 z).map grpB) (by simp -implicitDefEqProofs (disch := omega) only [go_sem, e4, s4, s5, htk, hdl]) (by intro b; simp -implicitDefEqProofs (disch := omega) only [go_sem, e4, s4, s5]; try (intro e; cases e)) (e := 5) rfl rfl rfl ?_
    simp -implicitDefEqProofs (disch := omega) only [go_sem, Tryz.results63]
end Go.Proofs.YthkihocapdfonaaGreatDoor

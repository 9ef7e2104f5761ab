/- Digests, codes of numbers, tariffs -/
import Derived.Test.YtnpbhgeffapojaaGreatDoorKE
import Derived.Shelf.Strings.OnBuilder
import Derived.Shelf.Sort.Plain
import Derived.Ground.Names2Prog
import Derived.Shelf.Slices.CompactI
import Derived.Lib.RowBridge
set_option linter.all false
set_option maxRecDepth 100000
namespace Go.Proofs.YtnpbhgeffapojaaGreatDoor
open Go.Proofs.Tryz
open Go.Vai Go
theorem mo : prog.follows .mixedOrders = true := by kernel_rfl
theorem EV {f : FuncId} {fn : Func} {c : Code} {args : List AV} {r : AV} (hf : prog.funcs[f]? = some fn) (h : awpC (spOf prog f fn.ntmps) c (retC (spOf prog f fn.ntmps) fn r) (JbW args) fun _ => none) (hb : fn.body = some c := by rfl) (hok : fnQ prog fn c = true := by kernel_rfl) (hl : args.length <= fn.ntmps := by exact nb rfl) : Ev prog f args r := Jai hf hb hok mo hl h
theorem EW {f : FuncId} {fn : Func} {c : Code} {args : List AV} {r : AV} (bad : List Nat) (hf : prog.funcs[f]? = some fn) (h : awpC (spB prog f fn.ntmps bad) c (retC (spB prog f fn.ntmps bad) fn r) (JbW args) fun _ => none) (hb : fn.body = some c := by rfl) (hok : fnB prog fn bad c = true := by kernel_rfl) (hl : args.length <= fn.ntmps := by exact nb rfl) : Ev prog f args r := JbK bad hf hb hok mo hl h
abbrev U (n : Int) : AV := .v (.int .u32 n)
abbrev UL (l : List Int) : AV := .sl 1 (l.map U)
abbrev YL (l : List Int) : AV := .sl 1 (l.map Y)
abbrev Str (s : ByteArray) : AV := .v (.string s)
abbrev xr (a b : Int) : Int := Ja6 .xor .u32 a b
abbrev an (a b : Int) : Int := Ja6 .and .u32 a b
abbrev ad (a b : Int) : Int := IntKind.u32.wrap (a + b)
section
variable (p : Nat -> Bool) (l : List Int)
@[go_sem] theorem JAr : AV.namesL p (l.map U) = false := Jal p l U fun _ => rfl
@[go_sem] theorem JAs : AV.namesL p (l.map Y) = false := Jal p l Y fun _ => rfl
@[go_sem] theorem JBM : AV.flatL (l.map U) = true := Jbi l U fun _ => rfl
@[go_sem] theorem JBN : AV.flatL (l.map Y) = true := Jbi l Y fun _ => rfl
@[go_sem] theorem JA6 : JbS 1 (l.map U) = true := JaI 1 l U fun _ => ⟨rfl, rfl⟩
@[go_sem] theorem JA7 : JbS 1 (l.map Y) = true := JaI 1 l Y fun _ => ⟨rfl, rfl⟩
@[go_sem] theorem Jzc (x : Int) : l.map U ++ [.v (.int .u32 x)] = (l ++ [x]).map U := by simp
@[go_sem] theorem Jzd (x : Int) : l.map Y ++ [.v (.int .u8 x)] = (l ++ [x]).map Y := by simp
@[go_sem] theorem set_U (n : Nat) (x : Int) : (l.map U).set n (.v (.int .u32 x)) = (l.set n x).map U := by rw [List.map_set]
@[go_sem] theorem set_Y (n : Nat) (x : Int) : (l.map Y).set n (.v (.int .u8 x)) = (l.set n x).map Y := by rw [List.map_set]
theorem dnL_U : AV.dnL (l.map U) = false := by
  cases h : AV.dnL (l.map U) with
  | false => rfl
  | true => obtain ⟨c, hc, h2⟩ := (Jin _).1 h; obtain ⟨x, _, rfl⟩ := L06.1 hc; cases h2
end
theorem Jmp (x : Int) : IntKind.u32.wrap x = x % 4294967296 := by
  simp [IntKind.wrap, IntKind.bits, IntKind.signed]
theorem Jp3 (x : Int) : 0 <= IntKind.u32.wrap x /\ IntKind.u32.wrap x < 4294967296 := by rw [Jmp]; omega
theorem JmC (op : BinOp) (a b : Int) : 0 <= Ja6 op .u32 a b /\ Ja6 op .u32 a b < 4294967296 := by
  unfold Ja6
  cases op <;> first | exact Jp3 _ | simp
theorem Jpl (a b : Int) : Ja6 .or .u32 a b = Ja6 .or .u32 b a := by simp only [Ja6]; rw [BitVec.or_comm]
theorem Jec (a : Int) (h : 0 <= a /\ a < 4294967296) : Ja6 .xor .u32 0 a = a := by
  show IntKind.u32.wrap (((BitVec.ofInt 32 0 ^^^ BitVec.ofInt 32 a : BitVec 32).toNat : Nat) : Int) = a
  rw [show (BitVec.ofInt 32 0 : BitVec 32) = 0#32 from rfl, BitVec.zero_xor, Jmp, BitVec.toNat_ofInt]
  omega
theorem Ji1 (a b : Int) : 0 <= Ja6 .and .u64 a b := by
  simp only [Ja6, IntKind.wrap, IntKind.bits, IntKind.signed]
  simp; omega
def rolS (k : Int) : Int := Ja6 .and .u64 (IntKind.u64.wrap k) 31
def rolF (x k : Int) : Int := Ja6 .or .u32 (IntKind.u32.wrap (x * 2 ^ (min (rolS k).toNat IntKind.u32.bits))) (x.fdiv (2 ^ (min (IntKind.u64.wrap (32 - rolS k)).toNat IntKind.u32.bits)))
def rotF (x : Int) (n : Nat) : Int := Ja6 .or .u32 (x.fdiv (2 ^ n)) (IntKind.u32.wrap (x * 2 ^ (32 - n)))
theorem Jek (x k : Int) (n : Nat) (h1 : (min (rolS k).toNat IntKind.u32.bits) = 32 - n) (h2 : (min (IntKind.u64.wrap (32 - rolS k)).toNat IntKind.u32.bits) = n) : rolF x k = rotF x n := by
  unfold rolF rotF; rw [h1, h2, Jpl]
theorem JCN (x : Int) : rolF x (-2) = rotF x 2 := Jek x _ 2 (by kernel_rfl) (by kernel_rfl)
theorem JCO (x : Int) : rolF x (-6) = rotF x 6 := Jek x _ 6 (by kernel_rfl) (by kernel_rfl)
theorem JCP (x : Int) : rolF x (-7) = rotF x 7 := Jek x _ 7 (by kernel_rfl) (by kernel_rfl)
theorem Jys (x : Int) : rolF x (-11) = rotF x 11 := Jek x _ 11 (by kernel_rfl) (by kernel_rfl)
theorem Jyt (x : Int) : rolF x (-13) = rotF x 13 := Jek x _ 13 (by kernel_rfl) (by kernel_rfl)
theorem Jyu (x : Int) : rolF x (-17) = rotF x 17 := Jek x _ 17 (by kernel_rfl) (by kernel_rfl)
theorem Jyv (x : Int) : rolF x (-18) = rotF x 18 := Jek x _ 18 (by kernel_rfl) (by kernel_rfl)
theorem Jyw (x : Int) : rolF x (-19) = rotF x 19 := Jek x _ 19 (by kernel_rfl) (by kernel_rfl)
theorem Jyx (x : Int) : rolF x (-22) = rotF x 22 := Jek x _ 22 (by kernel_rfl) (by kernel_rfl)
theorem Jyy (x : Int) : rolF x (-25) = rotF x 25 := Jek x _ 25 (by kernel_rfl) (by kernel_rfl)
theorem Jd6 (x : Int) (n : Nat) : 0 <= rotF x n /\ rotF x n < 4294967296 := JmC _ _ _
def mixF (x : Int) (l : List Int) : Int := l.foldl (fun o n => xr o (rolF x (-n))) 0
def rot2 (x : Int) (a b : Nat) : Int := xr (rotF x a) (rotF x b)
def rot3 (x : Int) (a b c : Nat) : Int := xr (xr (rotF x a) (rotF x b)) (rotF x c)
theorem JCi (x : Int) : mixF x [7, 18] = rot2 x 7 18 := by
  simp only [mixF, L1k, L2d, JCP, Jyv, Jec _ (Jd6 x 7), rot2]
theorem JxP (x : Int) : mixF x [17, 19] = rot2 x 17 19 := by
  simp only [mixF, L1k, L2d, Jyu, Jyw, Jec _ (Jd6 x 17), rot2]
theorem JCh (x : Int) : mixF x [6, 11, 25] = rot3 x 6 11 25 := by
  simp only [mixF, L1k, L2d, JCO, Jys, Jyy, Jec _ (Jd6 x 6), rot3]
theorem JCg (x : Int) : mixF x [2, 13, 22] = rot3 x 2 13 22 := by
  simp only [mixF, L1k, L2d, JCN, Jyt, Jyx, Jec _ (Jd6 x 2), rot3]
def be4 (l : List Int) (i : Nat) : Int := Ja6 .or .u32 (Ja6 .or .u32 (Ja6 .or .u32 (IntKind.u32.wrap (IntKind.u32.wrap (gd l (4 * i)) * 2 ^ 24)) (IntKind.u32.wrap (IntKind.u32.wrap (gd l (4 * i + 1)) * 2 ^ 16))) (IntKind.u32.wrap (IntKind.u32.wrap (gd l (4 * i + 2)) * 2 ^ 8))) (IntKind.u32.wrap (gd l (4 * i + 3)))
def nxtF (w : List Int) (i : Nat) : Int := ad (ad (ad (gd w (i - 16)) (xr (rot2 (gd w (i - 15)) 7 18) ((gd w (i - 15)).fdiv (2 ^ 3)))) (gd w (i - 7))) (xr (rot2 (gd w (i - 2)) 17 19) ((gd w (i - 2)).fdiv (2 ^ 10)))
def schN (l : List Int) : Nat -> List Int
  | 0 => []
  | i + 1 => schN l i ++ [if i < 16 then be4 l i else nxtF (schN l i) i]
theorem Ja5 (l : List Int) : ∀ i, (schN l i).length = i
  | 0 => rfl
  | i + 1 => by simp [schN, Ja5 l i]
def schQ (l : List Int) (i : Nat) : List Int := schN l i ++ List.replicate (64 - i) 0
theorem Jhe (l : List Int) (i : Nat) (h : i <= 64) : (schQ l i).length = 64 := by simp [schQ, Ja5]; omega
theorem JiT (l : List Int) (i j : Nat) (h : j < i) : gd (schQ l i) j = gd (schN l i) j := by
  unfold schQ; rw [Jei _ _ _ (by rw [Ja5]; exact h)]
theorem Jmg (l : List Int) (i : Nat) (h : i < 64) : (schQ l i).set i (if i < 16 then be4 l i else nxtF (schN l i) i) = schQ l (i + 1) := by
  unfold schQ
  rw [List.set_append_right _ _ (by rw [Ja5]; exact L0a _), Ja5, L1p]
  obtain ⟨m, hm⟩ : ∃ m, 64 - i = m + 1 := ⟨63 - i, by omega⟩
  rw [hm, List.replicate_succ, List.set_cons_zero, show 64 - (i + 1) = m from by omega]
  simp [schN]
def schF (l : List Int) : List Int := schN l 64
def KT : List Int := [1116352408, 1899447441, 3049323471, 3921009573, 961987163, 1508970993, 2453635748, 2870763221, 3624381080, 310598401, 607225278, 1426881987, 1925078388, 2162078206, 2614888103, 3248222580, 3835390401, 4022224774, 264347078, 604807628, 770255983, 1249150122, 1555081692, 1996064986, 2554220882, 2821834349, 2952996808, 3210313671, 3336571891, 3584528711, 113926993, 338241895, 666307205, 773529912, 1294757372, 1396182291, 1695183700, 1986661051, 2177026350, 2456956037, 2730485921, 2820302411, 3259730800, 3345764771, 3516065817, 3600352804, 4094571909, 275423344, 430227734, 506948616, 659060556, 883997877, 958139571, 1322822218, 1537002063, 1747873779, 1955562222, 2024104815, 2227730452, 2361852424, 2428436474, 2756734187, 3204031479, 3329325298]
theorem Jay : KT.length = 64 := rfl
theorem JA4 : (0, KT.map (Value.int .u32)) ∈ gtab := L0p.2 rfl
def notF (e : Int) : Int := Ja6 .xor .u32 (if IntKind.u32.signed then -1 else IntKind.u32.max) e
def tF (v : List Int) (k w : Int) : Int := ad (ad (ad (ad (gd v 7) (rot3 (gd v 4) 6 11 25)) (xr (an (gd v 4) (gd v 5)) (an (notF (gd v 4)) (gd v 6)))) k) w
def uF (v : List Int) : Int := ad (rot3 (gd v 0) 2 13 22) (xr (xr (an (gd v 0) (gd v 1)) (an (gd v 0) (gd v 2))) (an (gd v 1) (gd v 2)))
def JyI (v : List Int) (t u : Int) : List Int := [ad t u, gd v 0, gd v 1, gd v 2, ad (gd v 3) t, gd v 4, gd v 5, gd v 6]
def JyH (v : List Int) (k w : Int) : List Int := JyI v (tF v k w) (uF v)
theorem JrO (v : List Int) (h : v.length = 8) (t u : Int) : ((v.take 1 ++ v.take 7).set 0 (ad t u)).set 4 (ad (gd (v.take 1 ++ v.take 7) 4) t) = JyI v t u := by
  match v, h with
  | [a, b, c, d, e, f, g, i], _ => rfl
def rndW (h l : List Int) : Nat -> List Int
  | 0 => h
  | i + 1 => JyH (rndW h l i) (gd KT i) (gd (schF l) i)
theorem JeB (h l : List Int) (h8 : h.length = 8) : ∀ i, (rndW h l i).length = 8
  | 0 => h8
  | i + 1 => rfl
def addF (h l : List Int) : List Int := [ad (gd h 0) (gd (rndW h l 64) 0), ad (gd h 1) (gd (rndW h l 64) 1), ad (gd h 2) (gd (rndW h l 64) 2), ad (gd h 3) (gd (rndW h l 64) 3), ad (gd h 4) (gd (rndW h l 64) 4), ad (gd h 5) (gd (rndW h l 64) 5), ad (gd h 6) (gd (rndW h l 64) 6), ad (gd h 7) (gd (rndW h l 64) 7)]
def dgF (h : List Int) (j : Nat) : Int := IntKind.u8.wrap ((gd h (j / 4)).fdiv (2 ^ (24 - 8 * (j % 4))))
def outN (h : List Int) (m : Nat) : List Int := (List.range 32).map fun j => if j < m then dgF h j else 0
def outF (h : List Int) : List Int := (List.range 32).map (dgF h)
theorem Jdj (h : List Int) (m : Nat) : (outN h m).length = 32 := by simp [outN]
theorem Jpn (h : List Int) (m j : Nat) (hj : j < 32) : gd (outN h m) j = if j < m then dgF h j else 0 := by
  unfold outN gd; simp [L1a, hj]
theorem Jru (h : List Int) (m : Nat) (hm : m < 32) : (outN h m).set m (dgF h m) = outN h (m + 1) := JhH (by simp [Jdj]) fun j hj => by
  rw [L20, Jdj] at hj
  rw [Jjx _ _ _ _ (by rw [Jdj]; exact hm), Jpn _ _ _ hj, Jpn _ _ _ hj]
  by_cases e : j = m
  . subst e; simp
  . simp only [e, if_false, show j < m ↔ j < m + 1 from by omega]
theorem Jrt (h : List Int) : outN h 32 = outF h := L0W fun j hj => by simp at hj; simp [hj]
def Jej (b : List Int) (i : Nat) : List Int := (b.drop (64 * i)).take 64
def Jg9 (b : List Int) (i : Nat) : Nat -> List (List Int)
  | 0 => []
  | n + 1 => Jej b i :: Jg9 b (i + 1) n
abbrev YA (l : List Int) : List AV := [YL l]
@[go_sem] theorem JiK (p : Nat -> Bool) (l : List (List Int)) : AV.namesL p ((l.map YA).map .tup) = false := by
  rw [L19]; exact Jal p l _ fun _ => rfl
def zerF (n : Nat) : Nat := (119 - n % 64) % 64
theorem Jlp (n : Nat) : (n + 1 + zerF n) % 64 = 56 := by unfold zerF; omega
theorem Jmu (n j : Nat) (h : (n + 1 + j) % 64 ≠ 56) (hj : j <= zerF n) : j < zerF n := by
  have := Jlp n
  rcases Nat.lt_or_ge j (zerF n) with h' | h'
  . exact h'
  . have : j = zerF n := by omega
    subst this; exact absurd (Jlp n) h
theorem Jmv (n j : Nat) (h : (n + 1 + j) % 64 = 56) (hj : j <= zerF n) : j = zerF n := by unfold zerF at *; omega
def lenB (n : Nat) (i : Nat) : Int := IntKind.u8.wrap ((8 * (n : Int)).fdiv (2 ^ (8 * i)))
def lenL (n : Nat) : Nat -> List Int
  | 0 => []
  | i + 1 => lenB n i :: lenL n i
theorem JgM (n : Nat) : ∀ i, (lenL n i).length = i
  | 0 => rfl
  | i + 1 => by simp [lenL, JgM n i]
def padZ (l : List Int) (j : Nat) : List Int := l ++ [128] ++ List.replicate j 0
def padF (l : List Int) : List Int := padZ l (zerF l.length) ++ lenL l.length 8
theorem Jey (l : List Int) : ∃ m, (padF l).length = 64 * m /\ (padF l).length <= l.length + 128 := by
  have := Jlp l.length
  have h : (padF l).length = l.length + 1 + zerF l.length + 8 := by simp [padF, padZ, JgM]; omega
  have h2 : zerF l.length < 64 := by unfold zerF; omega
  exact ⟨(l.length + 1 + zerF l.length + 8) / 64, by omega, by omega⟩
def H0 : List Int := [1779033703, 3144134277, 1013904242, 2773480762, 1359893119, 2600822924, 528734635, 1541459225]
def blkF (b : List Int) : Nat -> List Int
  | 0 => H0
  | i + 1 => addF (blkF b i) (Jej b i)
theorem JbU (b : List Int) : ∀ i, (blkF b i).length = 8
  | 0 => rfl
  | i + 1 => rfl
def shaF (s : ByteArray) : ByteArray := strOfNums (outF (blkF (padF (bI s)) ((padF (bI s)).length / 64)))
theorem Jfb (s : ByteArray) : (shaF s).size = 32 := by unfold shaF; rw [strOfNums_size]; simp [outF]
theorem Je3 (b : List Int) (i : Nat) (h : 64 * (i + 1) <= b.length) : (Jej b i).length = 64 := by simp [Jej]; omega
open Go.Vai Go Go.Proofs
theorem Jyz (x k : Int) : Ev prog 222 [U x, I k] (U (rolF x k)) := by
  have h0 : 0 <= rolS k := Ji1 _ _
  have h1 : 0 <= IntKind.u64.wrap (32 - rolS k) := by simp only [IntKind.wrap, IntKind.bits, IntKind.signed]; simp; omega
  refine EV func222 ?_
  simp -implicitDefEqProofs (disch := omega) only [go_sem, ntmps222, results222, show Ja6 .and .u64 (IntKind.u64.wrap k) 31 = rolS k from rfl]
  rfl
theorem Jgc (x : Int) (l : List Int) (hl : l.length <= 1000) (hr : ∀ n ∈ l, 0 <= n /\ n <= 100) : Ev prog 216 [U x, SL l] (U (mixF x l)) := by
  refine EV func216 ?_
  simp -implicitDefEqProofs (disch := omega) only [go_sem, ntmps216]
  refine Jag (fun n E σ => ∃ v : Nat, v + n = l.length /\ E 0 = U x /\ E 5 = U (mixF x (l.take v)) /\ E 8 = SL l /\ E 9 = I l.length /\ E 10 = I v) l.length ⟨0, by omega, ?_⟩ ?_
  . simp -implicitDefEqProofs (disch := omega) only [go_sem]
    simp [mixF]
  . rintro n E σ ⟨v, hv, h0, h5, h8, h9, h10⟩
    simp -implicitDefEqProofs (disch := omega) only [go_sem, h0, h5, h8, h9, h10]
    refine Jab (fun hc => ?_) (fun hc => ?_)
    . have hn := hr _ (Jas l v (by omega))
      have hw : IntKind.i64.wrap (0 - gd l v) = -gd l v := by rw [Jcy (by omega)]; omega
      simp -implicitDefEqProofs (disch := omega) only [go_sem, h0, h5, h8, h9, h10, hw]
      refine Jaa (Jyz x (-gd l v)) ?_
      simp -implicitDefEqProofs (disch := omega) only [go_sem, h0, h5, h8, h9, h10]
      refine Jae (n - 1) (by omega) ⟨v + 1, by omega, ?_⟩
      have e : mixF x (l.take (v + 1)) = xr (mixF x (l.take v)) (rolF x (-gd l v)) := by
        unfold mixF; rw [L1b, Jbj l v (by omega)]; simp
      simp -implicitDefEqProofs (disch := omega) only [go_sem, h0, h5, h8, h9, h10, e]
      simp
    . have e : v = l.length := by omega
      subst e; simp -implicitDefEqProofs (disch := omega) only [go_sem, h0, h5, results216, L0d]
@[go_sem high] theorem Jnl (l : List Int) (j : Nat) (x : Int) (hj : j < l.length) (h1 : l.length ≠ 1) : setC (.agg (l.map U)) j (U x) = .agg ((l.set j x).map U) := by
  rw [Jlc, if_neg (by simp; omega)]
  congr 1
  simp only [AV.cells_agg, AV.cells_v, L1d, <- L1F, <- List.map_drop]; rw [L2j, if_pos hj]
  simp
@[go_sem high] theorem JuE (l : List Int) (i : Nat) (y : Int) (j : Nat) (x : Int) (hj : j < l.length) (h1 : l.length ≠ 1) : setC (.agg ((l.set i y).map U)) j (U x) = .agg (((l.set i y).set j x).map U) :=
  Jnl _ _ _ (by simpa using hj) (by simpa using h1)
theorem m24 : min 24 32 = 24 := rfl
theorem m16 : min 16 32 = 16 := rfl
theorem m8 : min 8 32 = 8 := rfl
theorem m3 : min 3 32 = 3 := rfl
theorem m10 : min 10 32 = 10 := rfl
theorem Jlb (l : List Int) (hl : l.length = 64) : Ev prog 215 [YL l] (.agg ((schF l).map U)) := by
  refine EV func215 ?_
  simp -implicitDefEqProofs (disch := omega) only [go_sem, ntmps215]
  refine Jag (fun n E σ => ∃ v : Nat, v + n = 16 /\ E 0 = YL l /\ E 2 = .ptr 452984864 64 0 0 /\ E 7 = I v /\ σ 452984864 = some ⟨296, 64, [.agg ((schQ l v).map U)]⟩) 16 ⟨0, by omega, ?_⟩ ?_
  . simp -implicitDefEqProofs (disch := omega) only [go_sem]
    exact ⟨rfl, rfl⟩
  . rintro n E σ ⟨v, hv, h0, h2, h7, hs⟩
    have hq := Jhe l v (by omega)
    simp -implicitDefEqProofs (disch := omega) only [go_sem, h0, h2, h7, hs]
    refine Jab (fun hc => ?_) (fun hc => ?_)
    . have n0 : (4 * (v : Int)).toNat = 4 * v := by omega
      have n1 : (4 * (v : Int) + 1).toNat = 4 * v + 1 := by omega
      have n2 : (4 * (v : Int) + 2).toNat = 4 * v + 2 := by omega
      have n3 : (4 * (v : Int) + 3).toNat = 4 * v + 3 := by omega
      simp -implicitDefEqProofs (disch := omega) only [go_sem, h0, h2, h7, hs, hl, hq, n0, n1, n2, n3, m24, m16, m8]
      refine Jae (n - 1) (by omega) ⟨v + 1, by omega, ?_⟩
      have hset := Jmg l v (by omega)
      rw [if_pos (by omega)] at hset
      have hset : (schQ l v).set v (be4 l v) = _ := hset
      unfold be4 at hset; simp -implicitDefEqProofs (disch := omega) only [go_sem, h0, h2, h7, hs, hl, hq, hset]
      simp
    . have e : v = 16 := by omega
      subst e; simp -implicitDefEqProofs (disch := omega) only [go_sem, h0, h2, h7, hs, hl]
      refine Jag (fun n E σ => ∃ v : Nat, v + n = 64 /\ 16 <= v /\ E 4 = I v /\ E 2 = .ptr 452984864 64 0 0 /\ σ 452984864 = some ⟨296, 64, [.agg ((schQ l v).map U)]⟩) 48 ⟨16, by omega, by omega, ?_⟩ ?_
      . simp -implicitDefEqProofs (disch := omega) only [go_sem, h0, h2, h7, hs, hl, and_self]
        simp
      . clear h0 h2 h7 hs hq hv hc n E σ
        rintro n E σ ⟨v, hv, h16, h4, h2, hs⟩
        have hq := Jhe l v (by omega)
        simp -implicitDefEqProofs (disch := omega) only [go_sem, h4, h2, hs]
        refine Jab (fun hc => ?_) (fun hc => ?_)
        . have n0 : ((v : Int) - 15).toNat = v - 15 := by omega
          have n1 : ((v : Int) - 2).toNat = v - 2 := by omega
          have n2 : ((v : Int) - 16).toNat = v - 16 := by omega
          have n3 : ((v : Int) - 7).toNat = v - 7 := by omega
          have g0 := JiT l v (v - 15) (by omega)
          have g1 := JiT l v (v - 2) (by omega)
          have g2 := JiT l v (v - 16) (by omega)
          have g3 := JiT l v (v - 7) (by omega)
          have hm1 := Jgc (gd (schN l v) (v - 15)) [7, 18] (by decide) (by decide)
          have hm2 := Jgc (gd (schN l v) (v - 2)) [17, 19] (by decide) (by decide)
          rw [JCi] at hm1; rw [JxP] at hm2; simp -implicitDefEqProofs (disch := omega) only [go_sem, h4, h2, hs, hq, n0, n1, n2, n3, g0, g1, g2, g3]
          refine Jaa hm1 ?_
          simp -implicitDefEqProofs (disch := omega) only [go_sem, h4, h2, hs, hq, n0, n1, n2, n3, g0, g1, g2, g3, m3, m10]
          refine Jaa hm2 ?_
          simp -implicitDefEqProofs (disch := omega) only [go_sem, h4, h2, hs, hq, n0, n1, n2, n3, g0, g1, g2, g3, m3, m10]
          refine Jae (n - 1) (by omega) ⟨v + 1, by omega, by omega, ?_⟩
          have hset := Jmg l v (by omega)
          rw [if_neg (by omega)] at hset
          have hset : (schQ l v).set v (nxtF (schN l v) v) = _ := hset
          unfold nxtF at hset; simp -implicitDefEqProofs (disch := omega) only [go_sem, h4, h2, hs, hq, hset]
          simp
        . have e : v = 64 := by omega
          subst e
          have e2 : schQ l 64 = schF l := by simp [schQ, schF]
          have e3 : (schF l).length = 64 := Ja5 l 64
          simp -implicitDefEqProofs (disch := omega) only [go_sem, h4, h2, hs, hq, e2, e3, results215]
def sumN (h w : List Int) (i : Nat) : List Int := (List.range 8).map fun j => if j < i then ad (gd h j) (gd w j) else gd h j
theorem JbZ (h w : List Int) (i : Nat) : (sumN h w i).length = 8 := by simp [sumN]
theorem JiZ (h w : List Int) (i j : Nat) (hj : j < 8) : gd (sumN h w i) j = if j < i then ad (gd h j) (gd w j) else gd h j := by
  unfold sumN gd; simp [L1a, hj]
theorem Jp0 (h w : List Int) (h8 : h.length = 8) : sumN h w 0 = h := JhH (by rw [JbZ, h8]) fun i hi => by
  rw [JbZ] at hi
  rw [JiZ _ _ _ _ hi, if_neg (by omega)]
theorem JrR (h w : List Int) (i : Nat) (hi : i < 8) : (sumN h w i).set i (ad (gd h i) (gd w i)) = sumN h w (i + 1) := JhH (by simp [JbZ]) fun j hj => by
  rw [L20, JbZ] at hj
  rw [Jjx _ _ _ _ (by rw [JbZ]; exact hi), JiZ _ _ _ _ hj, JiZ _ _ _ _ hj]
  by_cases e : j = i
  . subst e; simp
  . simp only [e, if_false, show j < i ↔ j < i + 1 from by omega]
theorem JrQ (h l : List Int) : sumN h (rndW h l 64) 8 = addF h l := rfl
set_option maxHeartbeats 4000000 in
theorem Jwr (h l : List Int) (h8 : h.length = 8) (hl : l.length = 64) : LOK prog 192 (inI [339738672]) [.ptr 339738672 8 0 0, YL l] (stO [(339738672, ⟨275, 8, [.agg (h.map U)]⟩)]) (.tup []) (stO [(339738672, ⟨275, 8, [.agg ((addF h l).map U)]⟩)]) := by
  refine JcJ [8] [339738672] func192 rfl (by kernel_rfl) mo (nb rfl) rfl (by kernel_rfl) (by kernel_rfl) ?_
  simp -implicitDefEqProofs (disch := omega) only [go_sem, ntmps192]
  refine Jaa (Jlb l hl) ?_
  have hsl : (schF l).length = 64 := Ja5 l 64
  simp -implicitDefEqProofs (disch := omega) only [go_sem, hsl, h8]
  refine Jrd (KT.map (Value.int .u32)) JA4 (.agg (KT.map U)) (by unfold Jcs; rw [JC0, JrS, JuT]; exact ⟨by decide, by decide, rfl⟩) ?_
  simp -implicitDefEqProofs (disch := omega) only [go_sem, hsl, h8]
  refine Jag (fun n E σ => ∃ v : Nat, v + n = 64 /\ E 0 = .ptr 339738672 8 0 0 /\ E 5 = .ptr 404750416 8 0 0 /\ σ 339738672 = some ⟨275, 8, [.agg (h.map U)]⟩ /\ E 4 = .ptr 404750400 64 0 0 /\ E 18 = .agg (KT.map U) /\ E 19 = I v /\ σ 404750400 = some ⟨296, 64, [.agg ((schF l).map U)]⟩ /\ σ 404750416 = some ⟨275, 8, [.agg ((rndW h l v).map U)]⟩) 64 ⟨0, by omega, ?_⟩ ?_
  . simp -implicitDefEqProofs (disch := omega) only [go_sem, hsl, h8]
    exact ⟨rfl, rfl⟩
  . rintro n E σ ⟨v, hv, h0, h5, sh, h4, h18, h19, s4, s5⟩
    have hrl := JeB h l h8 v; simp -implicitDefEqProofs (disch := omega) only [go_sem, h0, h5, sh, h4, h18, h19, s4, s5, hsl, h8]
    refine Jab (fun hc => ?_) (fun hc => ?_)
    . simp -implicitDefEqProofs (disch := omega) only [go_sem, h0, h5, sh, h4, h18, h19, s4, s5, hsl, h8, hrl, Jay]
      have hm1 := Jgc (gd (rndW h l v) 4) [6, 11, 25] (by decide) (by decide)
      have hm2 := Jgc (gd (rndW h l v) 0) [2, 13, 22] (by decide) (by decide)
      rw [JCh] at hm1; rw [JCg] at hm2
      refine Jaa hm1 ?_
      simp -implicitDefEqProofs (disch := omega) only [go_sem, h0, h5, sh, h4, h18, h19, s4, s5, hsl, h8, hrl, Jay]
      refine Jaa hm2 ?_
      simp -implicitDefEqProofs (disch := omega) only [go_sem, h0, h5, sh, h4, h18, h19, s4, s5, hsl, h8, hrl, Jay]
      refine JqT (cs := (rndW h l v).map U) (bid := 404750416) (te := 275) JrT JuS JuO (by simp -implicitDefEqProofs (disch := omega) only [go_sem, h0, h5, sh, h4, h18, h19, s4, s5]) (by simp -implicitDefEqProofs (disch := omega) only [go_sem, h0, h5, sh, h4, h18, h19, s4, s5]) (by simp [hrl]) (by simp) (by decide) (by decide) (by decide) (((rndW h l v).take 1 ++ (rndW h l v).take 7).map U) (by simp) ?_
      have htk : ((rndW h l v).take 1 ++ (rndW h l v).take 7).length = 8 := by simp [hrl]
      have hst := JrO (rndW h l v) hrl (tF (rndW h l v) (gd KT v) (gd (schF l) v)) (uF (rndW h l v))
      have hst : _ = rndW h l (v + 1) := hst
      unfold tF uF notF at hst; generalize (rndW h l v).take 1 ++ (rndW h l v).take 7 = q at *; simp -implicitDefEqProofs (disch := omega) only [go_sem, h0, h5, sh, h4, h18, h19, s4, s5, hsl, h8, hrl, Jay, htk]
      refine Jae (n - 1) (by omega) ⟨v + 1, by omega, ?_⟩
      simp -implicitDefEqProofs (disch := omega) only [go_sem, h0, h5, sh, h4, h18, h19, s4, s5, hsl, h8, hrl, hst]
      simp
    . have e : v = 64 := by omega
      subst e; simp -implicitDefEqProofs (disch := omega) only [go_sem, h0, h5, sh, h4, h18, h19, s4, s5, hsl, h8]
      refine Jag (fun n E σ => ∃ v : Nat, v + n = 8 /\ E 0 = .ptr 339738672 8 0 0 /\ E 5 = .ptr 404750416 8 0 0 /\ E 82 = I v /\ σ 339738672 = some ⟨275, 8, [.agg ((sumN h (rndW h l 64) v).map U)]⟩ /\ σ 404750416 = some ⟨275, 8, [.agg ((rndW h l 64).map U)]⟩) 8 ⟨0, by omega, ?_⟩ ?_
      . simp -implicitDefEqProofs (disch := omega) only [go_sem, h0, h5, sh, h4, h18, h19, s4, s5, hsl, h8, Jp0 h _ h8]
        simp
      . clear h0 h5 sh h4 h18 h19 s4 s5 hv hc n E σ
        rintro n E σ ⟨v, hv, h0, h5, h82, sh, s5⟩
        have hsn := JbZ h (rndW h l 64) v; simp -implicitDefEqProofs (disch := omega) only [go_sem, h0, h5, h82, sh, s5, hsl, h8]
        refine Jab (fun hc => ?_) (fun hc => ?_)
        . have hg := JiZ h (rndW h l 64) v v (by omega)
          rw [if_neg (by omega)] at hg
          have hset := JrR h (rndW h l 64) v (by omega)
          simp -implicitDefEqProofs (disch := omega) only [go_sem, h0, h5, h82, sh, s5, hsn, hrl, hg]
          refine Jae (n - 1) (by omega) ⟨v + 1, by omega, ?_⟩
          simp -implicitDefEqProofs (disch := omega) only [go_sem, h0, h5, h82, sh, s5, hsn, hrl, hset]
          simp
        . have e : v = 8 := by omega
          subst e; have he := JrQ h l; simp -implicitDefEqProofs (disch := omega) only [go_sem, h0, h5, h82, sh, s5, he, results192]
@[go_sem high] theorem Jwd (l : List Int) (j : Nat) (x : Int) (hj : j < l.length) (h1 : l.length ≠ 1) : setC (.agg (l.map Y)) j (Y x) = .agg ((l.set j x).map Y) := by
  rw [Jlc, if_neg (by simp; omega)]
  congr 1
  simp only [AV.cells_agg, AV.cells_v, L1d, <- L1F, <- List.map_drop]; rw [L2j, if_pos hj]
  simp
set_option maxHeartbeats 1000000 in
theorem Jog (h : List Int) (h8 : h.length = 8) : Ev prog 193 [.agg (h.map U)] (Str (strOfNums (outF h))) := by
  refine EV func193 ?_
  simp -implicitDefEqProofs (disch := omega) only [go_sem, ntmps193, h8]
  refine Jag (fun n E σ => ∃ v : Nat, v + n = 8 /\ E 3 = .ptr 406847536 32 0 0 /\ E 7 = .agg (h.map U) /\ E 8 = I v /\ σ 406847536 = some ⟨300, 32, [.agg ((outN h (4 * v)).map Y)]⟩) 8 ⟨0, by omega, ?_⟩ ?_
  . simp -implicitDefEqProofs (disch := omega) only [go_sem, h8]
    exact ⟨rfl, rfl⟩
  . rintro n E σ ⟨v, hv, h3, h7, h8', hs⟩
    simp -implicitDefEqProofs (disch := omega) only [go_sem, h3, h7, h8', hs, h8]
    refine Jab (fun hc => ?_) (fun hc => ?_)
    . simp -implicitDefEqProofs (disch := omega) only [go_sem, h3, h7, h8', hs, h8]
      refine Jag (fun m E σ => ∃ u : Nat, u + m = 4 /\ E 3 = .ptr 406847536 32 0 0 /\ E 7 = .agg (h.map U) /\ E 8 = I v /\ E 4 = I v /\ E 5 = U (gd h v) /\ E 12 = I u /\ σ 406847536 = some ⟨300, 32, [.agg ((outN h (4 * v + u)).map Y)]⟩) 4 ⟨0, by omega, ?_⟩ ?_
      . simp -implicitDefEqProofs (disch := omega) only [go_sem, h3, h7, h8', hs, h8]
        simp
      . clear h3 h7 h8' hs E σ
        rintro m E σ ⟨u, hu, h3, h7, h8', h4, h5, h12, hs⟩
        have hq := Jdj h (4 * v + u); simp -implicitDefEqProofs (disch := omega) only [go_sem, h3, h7, h8', h4, h5, h12, hs, h8]
        refine Jab (fun hd => ?_) (fun hd => ?_)
        . have n0 : (4 * (v : Int) + (u : Int)).toNat = 4 * v + u := by omega
          have n1 : (24 - 8 * (u : Int)).toNat = 24 - 8 * u := by omega
          have n2 : min (24 - 8 * u) 32 = 24 - 8 * u := by omega
          simp -implicitDefEqProofs (disch := omega) only [go_sem, h3, h7, h8', h4, h5, h12, hs, h8, hq, n0, n1, n2]
          refine Jae (m - 1) (by omega) ⟨u + 1, by omega, ?_⟩
          have hset := Jru h (4 * v + u) (by omega)
          unfold dgF at hset
          rw [show (4 * v + u) / 4 = v from by omega, show (4 * v + u) % 4 = u from by omega, L0L] at hset
          simp -implicitDefEqProofs (disch := omega) only [go_sem, h3, h7, h8', h4, h5, h12, hs, h8, hq, hset]
          simp
        . have e : u = 4 := by omega
          subst e; simp -implicitDefEqProofs (disch := omega) only [go_sem, h3, h7, h8', h4, h5, h12, hs, h8, hq]
          refine Jae (n - 1) (by omega) ⟨v + 1, by omega, ?_⟩
          have e4 : 4 * (v + 1) = 4 * v + 4 := by omega
          simp -implicitDefEqProofs (disch := omega) only [go_sem, h3, h7, h8', h4, h5, h12, hs, h8, hq, e4]
          simp
    . have e : v = 8 := by omega
      subst e; have he := Jrt h
      have hol : (outF h).length = 32 := by simp [outF]
      rw [show 4 * 8 = 32 from rfl, he] at hs
      simp -implicitDefEqProofs (disch := omega) only [go_sem, h3, h7, h8', hs, h8]
      refine JkK [406847536] ?_
      refine Jlg (c := .agg ((outF h).map Y)) (j := 0) (m := 32) 0 32 (by simp -implicitDefEqProofs (disch := omega) only [go_sem, h3, hs]) JrU JyR (by simp [hol]) ⟨rfl, rfl, by omega, by omega⟩ ?_
      have htk : (outF h).take 32 = outF h := L09 (by omega)
      simp -implicitDefEqProofs (disch := omega) only [go_sem, h3, hs, htk]
      refine Jeb (outF h) (by simp -implicitDefEqProofs (disch := omega) only [go_sem, htk]) (by intro b; simp -implicitDefEqProofs (disch := omega) only [go_sem]; intro e; cases e) (e := 5) rfl rfl rfl ?_
      simp -implicitDefEqProofs (disch := omega) only [go_sem, results193]
theorem JqJ (b : List Int) (k : Int) (hk : 1 <= k) : Ev prog 191 [YL b, I k] (.clo 214 [.pt (YL b) 0, .pt (I k) 0]) := by
  refine Jhs (r := .clo 214 [.nptr 164 1 [YL b], .nptr 3 1 [I k]]) ?_ _
  refine EW [2] func191 ?_
  simp -implicitDefEqProofs (disch := omega) only [go_sem, ntmps191]
  refine Jab (fun h => absurd h (by omega)) (fun h => ?_)
  simp -implicitDefEqProofs (disch := omega) only [go_sem, results191]
theorem Jn5 (b : List Int) (m : Nat) (hm : b.length = 64 * m) (hb : b.length <= 1000000000) (σ : Jac) : SOK prog 214 [.pt (YL b) 0, .pt (I 64) 0] σ ((Jg9 b 0 m).map YA) := by
  refine Jj6 func214 rfl (by kernel_rfl) mo (nb rfl) ?_ rfl fun l => ?_
  . exact JiK allB _
  . simp -implicitDefEqProofs (disch := omega) only [go_sem, ntmps214]
    refine Jag (fun n E σ => ∃ i : Nat, i + n = m /\ E 0 = .yld l /\ E 1 = .pt (YL b) 0 /\ E 2 = .pt (I 64) 0 /\ E 4 = I ((64 * i : Nat) : Int) /\ E 31 = .tup (((Jg9 b i n).map YA).map .tup)) m ⟨0, by omega, ?_⟩ ?_
    . simp -implicitDefEqProofs (disch := omega) only [go_sem]
      simp
    . rintro n E σ ⟨i, hi, h0, h1, h2, h4, h31⟩
      simp -implicitDefEqProofs (disch := omega) only [go_sem, h0, h1, h2, h4, h31]
      cases n with
      | zero =>
        refine Jau (by omega) ?_
        simp -implicitDefEqProofs (disch := omega) only [go_sem, h0, h1, h2, h4, h31]
        exact .inl rfl
      | succ n =>
        have hmin : min (64 : Int) ((min (b.length - 64 * i) (b.length - 64 * i) : Nat) : Int) = 64 := by omega
        have hc : ((64 * i : Nat) : Int) + 64 = ((64 * i + 64 : Nat) : Int) := by omega
        rw [Jg9] at h31
        refine Jbl (by omega) ?_
        simp -implicitDefEqProofs (disch := omega) only [go_sem, h0, h1, h2, h4, h31, L02, L0e, hmin, hc]
        refine JpP (sz := 1) (es := b.map Y) (64 * i) (64 * i + 64) (km := .i64) (by simp -implicitDefEqProofs (disch := omega) only [go_sem, h1]) JuN JyR (by decide) (by simp -implicitDefEqProofs (disch := omega) only [go_sem]) (by simp)
          (Jb3 (k := .i64) (n := ((64 * i + 64 : Nat) : Int)) (by simp -implicitDefEqProofs (disch := omega) only [go_sem]) (by omega) (Jb3 (k := .i64) (n := ((64 * i : Nat) : Int)) (by simp -implicitDefEqProofs (disch := omega) only [go_sem]) (by omega) ⟨by omega, by omega, by omega, by rw [L05]; omega⟩)) ?_
        have hp : (b.drop (64 * i)).take (64 * i + 64 - 64 * i) = Jej b i := by rw [show 64 * i + 64 - 64 * i = 64 from by omega]; rfl
        simp -implicitDefEqProofs (disch := omega) only [go_sem, h0, h1, h2, h4, h31, hmin, hc, hp]
        have h64 : 64 * (i + 1) = 64 * i + 64 := by omega
        refine ⟨Jae n (by omega) ⟨i + 1, by omega, ?_⟩, ?_⟩
        . simp -implicitDefEqProofs (disch := omega) only [go_sem, h0, h1, h2, h4, h31, hmin, hc, hp, h64]
        . exact .inr trivial
theorem Jni {b : List Int} {i n : Nat} {x : List AV} {rest : List (List AV)} (h : (Jg9 b i n).map YA = x :: rest) : ∃ m, n = m + 1 /\ x = YA (Jej b i) /\ rest = (Jg9 b (i + 1) m).map YA := by
  cases n with
  | zero => cases h
  | succ m => simp only [Jg9, L0n, List.cons.injEq] at h; exact ⟨m, rfl, h.1.symm, h.2.symm⟩
theorem JpD {b : List Int} {i n : Nat} (h : (Jg9 b i n).map YA = []) : n = 0 := by
  cases n with
  | zero => rfl
  | succ m => simp [Jg9] at h
set_option maxHeartbeats 2000000 in
theorem JsS (s : ByteArray) (hs : s.size <= 100000000) : Ev prog 161 [Str s] (Str (shaF s)) := by
  refine EV func161 ?_
  simp -implicitDefEqProofs (disch := omega) only [go_sem, ntmps161]; have hbl := JaJ s
  refine Jnu s (by simp -implicitDefEqProofs (disch := omega) only [go_sem]) rfl rfl rfl (by omega) ?_
  simp -implicitDefEqProofs (disch := omega) only [go_sem, hbl]; unfold shaF; generalize bI s = l at *
  obtain ⟨m, hpm, hpl⟩ := Jey l
  refine Jag (fun n E σ => ∃ j : Nat, j + n = zerF l.length /\ E 0 = Str s /\ E 3 = .ptr 339738672 8 0 0 /\ E 4 = .own 339738768 1 0 (l.length + 1 + j) /\ σ 339738672 = some ⟨275, 8, [.agg (H0.map U)]⟩ /\ σ 339738768 = some ⟨5, 1, (padZ l j).map Y⟩) (zerF l.length) ⟨0, by omega, ?_⟩ ?_
  . simp -implicitDefEqProofs (disch := omega) only [go_sem, hbl]
    exact ⟨rfl, by simp [padZ]⟩
  . have hz64 : zerF l.length < 64 := by unfold zerF; omega
    rintro n E σ ⟨j, hj, h0, h3, h4, sH, sB⟩
    have hpz : (padZ l j).length = l.length + 1 + j := by simp [padZ]; omega
    have hmod : (((l.length + 1 + j : Nat) : Int)).tmod 64 = (((l.length + 1 + j) % 64 : Nat) : Int) := by rw [L12 (by omega)]; omega
    simp -implicitDefEqProofs (disch := omega) only [go_sem, h0, h3, h4, sH, sB, hmod]
    refine Jab (fun hc => ?_) (fun hc => ?_)
    . have hlt := Jmu l.length j (by omega) (by omega)
      simp -implicitDefEqProofs (disch := omega) only [go_sem, h0, h3, h4, sH, sB, hpz]
      refine Jae (n - 1) (by omega) ⟨j + 1, by omega, ?_⟩
      have hrep : padZ l j ++ [0] = padZ l (j + 1) := by simp [padZ, L2k]
      have htk : (padZ l j).take (l.length + 1 + j) = padZ l j := L09 (by omega)
      simp -implicitDefEqProofs (disch := omega) only [go_sem, h0, h3, h4, sH, sB, hpz, hrep, htk]; rw [L0L]
    . have hjz := Jmv l.length j (by omega) (by omega)
      subst hjz
      have hmin : ∀ k : Nat, k <= 8 -> min (8 * (k : Int)).toNat 64 = 8 * k := fun k hk => by omega
      simp -implicitDefEqProofs (disch := omega) only [go_sem, h0, h3, h4, sH, sB, hpz]
      refine Jag (fun n E σ => ∃ pre : List Int, n <= 8 /\ pre ++ lenL l.length n = padF l /\ E 0 = Str s /\ E 3 = .ptr 339738672 8 0 0 /\ E 4 = .own 339738768 1 0 pre.length /\ E 5 = I ((n : Int) - 1) /\ σ 339738672 = some ⟨275, 8, [.agg (H0.map U)]⟩ /\ σ 339738768 = some ⟨5, 1, pre.map Y⟩) 8 ⟨padZ l (zerF l.length), by omega, rfl, ?_⟩ ?_
      . simp -implicitDefEqProofs (disch := omega) only [go_sem, h0, h3, h4, sH, sB, hpz]
        simp
      . clear h0 h3 h4 sH sB hc hmod hpz E σ hj n
        rintro n E σ ⟨pre, hn8, hpre, h0, h3, h4, h5, sH, sB⟩
        have hprel : pre.length <= l.length + 128 := by have := congrArg List.length hpre; simp at this; omega
        simp -implicitDefEqProofs (disch := omega) only [go_sem, h0, h3, h4, h5, sH, sB]
        refine Jab (fun hc => ?_) (fun hc => ?_)
        . obtain ⟨k, rfl⟩ : ∃ k, n = k + 1 := ⟨n - 1, by omega⟩
          have hk : (((k + 1 : Nat) : Int)) - 1 = (k : Int) := by omega
          rw [hk] at h5
          have hm := hmin k (by omega)
          simp -implicitDefEqProofs (disch := omega) only [go_sem, h0, h3, h4, h5, sH, sB, hm, hbl.symm]
          refine Jae k (by omega) ⟨pre ++ [lenB l.length k], by omega, by rw [<- hpre]; simp [lenL], ?_⟩
          have hlb : IntKind.u8.wrap ((8 * (l.length : Int)).fdiv (2 ^ (8 * k))) = lenB l.length k := rfl
          simp -implicitDefEqProofs (disch := omega) only [go_sem, h0, h3, h4, h5, sH, sB, hm, hlb, L0d]
        . have hn0 : n = 0 := by omega
          subst hn0; simp only [lenL, L0F] at hpre; subst hpre; simp -implicitDefEqProofs (disch := omega) only [go_sem, h0, h3, h4, h5, sH, sB]
          refine Jam rfl ?_
          refine JaS [339738768] ?_
          simp -implicitDefEqProofs (disch := omega) only [go_sem, h0, h3, h4, h5, sH, sB, L0d]
          refine Jaa (JqJ (padF l) 64 (by omega)) ?_
          simp -implicitDefEqProofs (disch := omega) only [go_sem, h0, h3, h4, h5, sH, sB]
          refine Jcb ?_
          have hd : (padF l).length / 64 = m := by omega
          rw [hd]
          refine Jd4 [] [339738672] 21233764 ((Jg9 (padF l) 0 m).map YA) (fun xs σ => ∃ i n : Nat, i + n = m /\ xs = (Jg9 (padF l) i n).map YA /\ σ 339738672 = some ⟨275, 8, [.agg ((blkF (padF l) i).map U)]⟩)
            (g := 214) (caps := [.pt (YL (padF l)) 0, .pt (I 64) 0]) ?_ ?_ ?_ ?_ ?_ ?_ ?_ ?_
          . simp -implicitDefEqProofs (disch := omega) only [go_sem]
          . exact Jn5 _ m hpm (by omega) _
          . intro x hx
            obtain ⟨y, _, rfl⟩ := L06.1 hx
            rfl
          . simp -implicitDefEqProofs (disch := omega) only [go_sem]
          . simp -implicitDefEqProofs (disch := omega) only [go_sem]
          . refine ⟨0, m, by omega, rfl, ?_⟩
            simp -implicitDefEqProofs (disch := omega) only [go_sem, sH]
            rfl
          . rintro E0 hE0 y rest σ' ⟨i, n, hin, hxs, sH⟩
            have e3 : E0 3 = .ptr 339738672 8 0 0 := by rw [hE0]; simp -implicitDefEqProofs (disch := omega) only [go_sem, h3]
            clear hE0 h0 h3 h4 h5 sB
            obtain ⟨k, rfl, rfl, rfl⟩ := Jni hxs.symm
            have hL : LOK prog 192 (inI [339738672]) ([.ptr 339738672 8 0 0, YL (Jej (padF l) i)] ++ []) (stO [(339738672, ⟨275, 8, [.agg ((blkF (padF l) i).map U)]⟩)]) (.tup []) (stO [(339738672, ⟨275, 8, [.agg ((blkF (padF l) (i + 1)).map U)]⟩)]) := Jwr (blkF (padF l) i) (Jej (padF l) i) (JbU _ i) (Je3 _ _ (by omega))
            simp -implicitDefEqProofs (disch := omega) only [go_sem, e3, sH]
            refine Jam rfl ?_
            refine Jcq [339738672] hL ?_ ?_ ?_ ?_ ?_ ?_ ?_ (hsp := fun id h _ => L0G.2 h)
            . simp -implicitDefEqProofs (disch := omega) only [go_sem]
            . simp -implicitDefEqProofs (disch := omega) only [go_sem, e3]
            . simp -implicitDefEqProofs (disch := omega) only [go_sem, sH]
            . simp -implicitDefEqProofs (disch := omega) only [go_sem]
            . simp -implicitDefEqProofs (disch := omega) only [go_sem]
            . simp -implicitDefEqProofs (disch := omega) only [go_sem]
            . simp -implicitDefEqProofs (disch := omega) only [go_sem, e3, sH]
              exact ⟨inL [], fun _ _ => rfl, i + 1, k, by omega, rfl, rfl⟩
          . rintro E0 hE0 σ' ⟨i, n, hin, hxs, sH⟩
            have e3 : E0 3 = .ptr 339738672 8 0 0 := by rw [hE0]; simp -implicitDefEqProofs (disch := omega) only [go_sem, h3]
            have hn := JpD hxs.symm; subst hn
            obtain rfl : i = m := by omega
            have htk : (blkF (padF l) i).take 8 = blkF (padF l) i := L09 (by rw [JbU]; omega)
            simp -implicitDefEqProofs (disch := omega) only [go_sem, e3, sH, JbU, htk]
            refine Jaa (Jog _ (JbU _ _)) ?_
            simp -implicitDefEqProofs (disch := omega) only [go_sem, results161]
end Go.Proofs.YtnpbhgeffapojaaGreatDoor
namespace Go.Proofs
open Go.Shelf
def Tryz.lays156_ren : Go.Shelf.Ren := ⟨fun | 156 => 213 | 165 => 221 | 166 => 127 | 169 => 128 | 240 => 171 | 241 => 233 | 276 => 203 | 277 => 239 | n => n, fun | 31 => 50 | 9 => 9 | 3 => 3 | 4 => 4 | 0 => 0 | 20 => 20 | 72 => 207 | 76 => 210 | 70 => 205 | 37 => 164 | 75 => 209 | 127 => 251 | 164 => 288 | 5 => 5 | 80 => 117 | n => n, fun | n => n⟩
theorem Tryz.lays156 : Go.Proofs.Lays.n156 prog Tryz.lays156_ren := {
  mixed := by kernel_rfl
  f156 := func213.trans (congrArg some (by kernel_rfl))
  f165 := func221.trans (congrArg some (by kernel_rfl))
  f166 := func127.trans (congrArg some (by kernel_rfl))
  f169 := func128.trans (congrArg some (by kernel_rfl))
  f240 := func171.trans (congrArg some (by kernel_rfl))
  f241 := func233.trans (congrArg some (by kernel_rfl))
  f276 := func203.trans (congrArg some (by kernel_rfl))
  f277 := func239.trans (congrArg some (by kernel_rfl))
  t0 := Tryz.underlying0
  a0 := Tryz.isAgg0
  z0 := Tryz.sizeOf0
  v0 := Tryz.zeroValue0
  t3 := Tryz.underlying3
  a3 := Tryz.isAgg3
  z3 := Tryz.sizeOf3
  v3 := Tryz.zeroValue3
  t4 := Tryz.underlying4
  a4 := Tryz.isAgg4
  z4 := Tryz.sizeOf4
  v4 := Tryz.zeroValue4
  t9 := Tryz.underlying9
  a9 := Tryz.isAgg9
  z9 := Tryz.sizeOf9
  v9 := Tryz.zeroValue9
  t20 := Tryz.underlying20
  a20 := Tryz.isAgg20
  z20 := Tryz.sizeOf20
  v20 := Tryz.zeroValue20
  t31 := Tryz.underlying50
  a31 := Tryz.isAgg50
  z31 := Tryz.sizeOf50
  v31 := Tryz.zeroValue50
  t37 := Tryz.underlying164
  a37 := Tryz.isAgg164
  z37 := Tryz.sizeOf164
  v37 := Tryz.zeroValue164
  t70 := Tryz.underlying205
  a70 := Tryz.isAgg205
  z70 := Tryz.sizeOf205
  v70 := Tryz.zeroValue205
  t72 := Tryz.underlying207
  a72 := Tryz.isAgg207
  z72 := Tryz.sizeOf207
  v72 := Tryz.zeroValue207
  t75 := Tryz.underlying209
  a75 := Tryz.isAgg209
  z75 := Tryz.sizeOf209
  v75 := Tryz.zeroValue209
  t76 := Tryz.underlying210
  a76 := Tryz.isAgg210
  z76 := Tryz.sizeOf210
  v76 := Tryz.zeroValue210
  t127 := Tryz.underlying251
  a127 := Tryz.isAgg251
  z127 := Tryz.sizeOf251
  v127 := Tryz.zeroValue251
  t164 := Tryz.underlying288
  a164 := Tryz.isAgg288
  z164 := Tryz.sizeOf288
  v164 := Tryz.zeroValue288 }
theorem Tryz.Builder_Extra_156 : Builder.Extra prog Tryz.lays156_ren := {
  sizeBuilder := by kernel_rfl
  liesBuilder := by kernel_rfl
  t5 := Tryz.underlying5
  a5 := Tryz.isAgg5
  z5 := Tryz.sizeOf5
  v5 := Tryz.zeroValue5
  infoByte := by kernel_rfl
  cellsByte := by kernel_rfl
  sizeByte := by kernel_rfl
  neB5 := by decide }
open Go.RowKit in
theorem Tryz.strings_Join_none (a : Option Addr) (c : Nat) (sep : ByteArray) (w : World) :
    Calls prog 213 #[.slice a 0 c, .string sep] w fun e w' => e = .returned (.string ⟨#[]⟩) /\ w' = w := Any.strings_Join_none Tryz.lays156 Tryz.Builder_Extra_156 a c sep w
open Go.RowKit in
theorem Tryz.strings_Join (bk o c : Nat) (xs : List ByteArray) (sep : ByteArray) (w : World) (hcells : ∀ (j : Nat) x, xs[j]? = some x -> w.cell? ⟨bk, o + j, none⟩ = some (.string x)) (hbk : bk < w.heap.size) (hN : xs.length <= 140737488355328) (hcap : xs.length <= c) (hlen : (Lib.join (xs.map (·.data.toList)) sep.data.toList).length <= 140737488355328) :
    Calls prog 213 #[.slice (some ⟨bk, o, none⟩) xs.length c, .string sep] w fun e w' => e = .returned (.string ⟨(Lib.join (xs.map (·.data.toList)) sep.data.toList).toArray⟩) /\ Below w.heap.size w w' := Any.strings_Join Tryz.lays156 Tryz.Builder_Extra_156 bk o c xs sep w hcells hbk hN hcap hlen
end Go.Proofs
namespace Go.Proofs.YtnpbhgeffapojaaGreatDoor
open Go.Proofs.Tryz
open Go.Vai Go Go.Proofs
def catF (l : List ByteArray) : ByteArray := ⟨(Lib.join (l.map (·.data.toList)) ((⟨#[]⟩ : ByteArray).data.toList)).toArray⟩
theorem Jlw (a : ByteArray) : catF [a] = a := by unfold catF; rw [L0n, L0C, Lib.join_one, Lib.mk_data]
theorem JuL {w : World} {Im : Nat -> Prop} {bk o : Nat} {l : List ByteArray} {f : Nat -> Nat -> Value}
    (hc : ∀ i j, i < (l.map Str).length -> j < 1 -> w.cell? ⟨bk, o + i * 1 + j, none⟩ = some (f i j) /\ (f i j).oneCell' = true)
    (h : ∀ (i : Nat) (e : AV) (j : Nat) (c : AV), (l.map Str)[i]? = some e -> e.cells[j]? = some c -> IRep w Im c (f i j)) :
    ∀ (j : Nat) x, l[j]? = some x -> w.cell? ⟨bk, o + j, none⟩ = some (.string x) := by
  intro j x hx
  have hj : j < l.length := (L04.1 hx).1
  have h1 := (hc j 0 (by simpa using hj) (by omega)).1
  have h2 := h j (Str x) 0 (Str x) (by simp [hx]) rfl
  generalize f j 0 = y at h1 h2
  cases h2
  simpa using h1.trans rfl
theorem Jt4 (l : List ByteArray) (hl : (catF l).size <= 140737488355328) (hn : l.length <= 140737488355328) : Ev prog 213 [.sl 1 (l.map Str), Str ⟨#[]⟩] (Str (catF l)) := by
  rintro args r ⟨rfl, rfl⟩
  refine ⟨enters_of func213 (by kernel_rfl) rfl, fun w Im vs hIm _ hvs => ?_⟩
  obtain ⟨hlen, hv⟩ := hvs
  obtain ⟨v1, v2, rfl⟩ : ∃ a b, vs = [a, b] := by
    match vs, hlen with
    | [a, b], _ => exact ⟨a, b, rfl⟩
  have h1 := hv 0 _ v1 rfl rfl; have h2 := hv 1 _ v2 rfl rfl
  cases h2
  have fin : ∀ w', RRep w w' Im (Str (catF l)) (.string (catF l)) := fun w' => ⟨Im, fun _ h => h, fun _ h => .inl h, none, ⟨rfl, .v _⟩, by simp [Jdv]⟩
  generalize he : l.map Str = es at h1
  cases h1 with
  | slnil sz a cap =>
    have : l = [] := by simpa using he
    subst this
    exact (Tryz.strings_Join_none a cap ⟨#[]⟩ w).mono fun e w' ⟨h1, h2⟩ => ⟨_, h1, h2 ▸ Ext.refl _ _, fin w'⟩
  | sl sz es b o cap f hI hcap hsz hcc hh =>
    subst he
    rw [show (l.map Str).length = l.length from L05 ..]
    refine (Tryz.strings_Join b o cap l ⟨#[]⟩ w (JuL hcc hh) (hIm b hI) hn (by simpa using hcap) ?_).mono fun e w' ⟨h1, h2⟩ => ⟨_, h1, ⟨h2.os, h2.tape, h2.output, h2.size, fun k hk _ => h2.block k hk⟩, fin w'⟩
    have := hl
    unfold catF at this
    simpa [ByteArray.size] using this
theorem JhQ (m : ByteArray) (l : List ByteArray) (hl : m.size + (catF l).size <= 100000000) (hn : l.length <= 1000) : Ev prog 212 [.sl 1 (l.map Str), .pt (Str m) 0] (Str (shaF (m ++ catF l))) := by
  refine EV func212 ?_
  simp -implicitDefEqProofs (disch := omega) only [go_sem, ntmps212]
  refine Jaa (Jt4 l (by omega) (by omega)) ?_
  simp -implicitDefEqProofs (disch := omega) only [go_sem]
  refine Jaa (JsS (m ++ catF l) (by rw [L0T]; omega)) ?_
  simp -implicitDefEqProofs (disch := omega) only [go_sem, results212]
theorem JjH (m : ByteArray) : Ev prog 190 [Str m] (.clo 212 [.pt (Str m) 0]) := by
  refine Jhs (r := .clo 212 [.nptr 9 1 [Str m]]) ?_ _
  refine EV func190 ?_
  simp -implicitDefEqProofs (disch := omega) only [go_sem, ntmps190]; simp -implicitDefEqProofs (disch := omega) only [go_sem, results190]
theorem Jt7 (a : ByteArray) (hl : a.size <= 99999999) : Ev prog 159 [Str a] (Str (shaF (⟨#[0]⟩ ++ a))) := by
  refine EV func159 ?_
  simp -implicitDefEqProofs (disch := omega) only [go_sem, ntmps159]
  refine Jaa (JjH _) ?_
  simp -implicitDefEqProofs (disch := omega) only [go_sem]
  refine Jaa (JhQ ⟨#[0]⟩ [a] ?_ (by simp)) ?_
  . rw [Jlw]; show 1 + _ <= _; omega
  simp -implicitDefEqProofs (disch := omega) only [go_sem, results159, Jlw]
theorem Jlx (a b : ByteArray) : catF [a, b] = a ++ b := by
  unfold catF; rw [L0n, L0n, L0C, Lib.join_cons]; simp only [Lib.joinTail, L0n, L0C, L1H, List.flatten_nil, L0F]
  apply ByteArray.ext
  simp [ByteArray.data_append]
theorem Juj (a b : ByteArray) (hl : a.size + b.size <= 99999999) : Ev prog 160 [Str a, Str b] (Str (shaF (⟨#[1]⟩ ++ (a ++ b)))) := by
  refine EV func160 ?_
  simp -implicitDefEqProofs (disch := omega) only [go_sem, ntmps160]
  refine Jaa (JjH _) ?_
  simp -implicitDefEqProofs (disch := omega) only [go_sem]
  refine Jaa (JhQ ⟨#[1]⟩ [a, b] ?_ (by simp)) ?_
  . rw [Jlx, L0T]; show 1 + _ <= _; omega
  simp -implicitDefEqProofs (disch := omega) only [go_sem, results160, Jlx]
theorem JcL (x : Int) (n : Nat) (h1 : 1 <= n) (h2 : n <= 31) : Ev prog 231 [U x, I n] (U (rotF x n)) := by
  refine EV func231 ?_
  have m1 : min n 32 = n := by omega
  have m2 : (32 - (n : Int)).toNat = 32 - n := by omega
  have m3 : min (32 - n) 32 = 32 - n := by omega
  simp -implicitDefEqProofs (disch := omega) only [go_sem, ntmps231, results231, m1, m2, m3]
  rfl
theorem Jjj : Ev prog 232 [] (UL KT) := by
  refine Jhs (r := .new 273 1 (KT.map U)) ?_ _
  refine EV func232 ?_
  simp -implicitDefEqProofs (disch := omega) only [go_sem, ntmps232, results232]
  rfl
theorem Jtp (s : ByteArray) (v : Nat) (h : v < s.size) : ∃ c : UInt8, s[v]? = some c /\ (c.toNat : Int) = gd (bI s) v := by
  refine ⟨s[v], getElem?_pos s v h, ?_⟩
  unfold gd bI
  rw [L1a, L03, L0J, L0g (show v < s.data.size from h)]
  rfl
theorem JkE (s : ByteArray) (hs : s.size <= 100000000) : Ev prog 219 [Str s] (YL (padF (bI s))) := by
  refine Jhs (r := .new 5 1 ((padF (bI s)).map Y)) ?_ _
  refine EV func219 ?_
  simp -implicitDefEqProofs (disch := omega) only [go_sem, ntmps219]; have hbl := JaJ s
  refine Jag (fun n E σ => ∃ v : Nat, v + n = s.size /\ E 0 = Str s /\ E 3 = .own 461373488 1 0 v /\ E 4 = I v /\ σ 461373488 = some ⟨5, 1, ((bI s).take v).map Y⟩) s.size ⟨0, by omega, ?_⟩ ?_
  . simp -implicitDefEqProofs (disch := omega) only [go_sem]
    rfl
  . rintro n E σ ⟨v, hv, h0, h3, h4, sB⟩
    have htl : ((bI s).take v).length = v := by simp; omega
    simp -implicitDefEqProofs (disch := omega) only [go_sem, h0, h3, h4, sB, hbl]
    refine Jab (fun hc => ?_) (fun hc => ?_)
    . obtain ⟨c, hsc, hcg⟩ := Jtp s v (by omega)
      have tk : (bI s).take v ++ [gd (bI s) v] = (bI s).take (v + 1) := by rw [L1b, Jbj _ _ (by omega)]; rfl
      have htk : ((bI s).take v).take v = (bI s).take v := L09 (by omega)
      have hge : 0 <= (v : Int) := by omega
      simp -implicitDefEqProofs (disch := omega) only [go_sem, h0, h3, h4, sB, hbl, htl, hsc, hcg, htk, hge, optU, tk]
      refine Jae (n - 1) (by omega) ⟨v + 1, by omega, ?_⟩
      simp -implicitDefEqProofs (disch := omega) only [go_sem, h0, h3, h4, sB, hbl, htl, hsc, hcg, htk, hge, tk]
      simp
    . have e : v = s.size := by omega
      subst e
      rw [L09 (by omega)] at sB
      simp -implicitDefEqProofs (disch := omega) only [go_sem, h0, h3, h4, sB, hbl]
      obtain ⟨m, hpm, hpl⟩ := Jey (bI s)
      generalize bI s = l at *
      have htk : l.take s.size = l := L09 (by omega)
      have hz64 : zerF l.length < 64 := by unfold zerF; omega
      refine Jag (fun n E σ => ∃ j : Nat, j + n = zerF l.length /\ E 0 = Str s /\ E 3 = .own 461373488 1 0 (l.length + 1 + j) /\ σ 461373488 = some ⟨5, 1, (padZ l j).map Y⟩) (zerF l.length) ⟨0, by omega, ?_⟩ ?_
      . simp -implicitDefEqProofs (disch := omega) only [go_sem, h0, h3, h4, sB, hbl, htk]
        simp [padZ]
      . clear h0 h3 h4 sB hc E σ hv n
        rintro n E σ ⟨j, hj, h0, h3, sB⟩
        have hpz : (padZ l j).length = l.length + 1 + j := by simp [padZ]; omega
        have hmod : (((l.length + 1 + j : Nat) : Int)).tmod 64 = (((l.length + 1 + j) % 64 : Nat) : Int) := by rw [L12 (by omega)]; omega
        have hrep : padZ l j ++ [0] = padZ l (j + 1) := by simp [padZ, L2k]
        have htk : (padZ l j).take (l.length + 1 + j) = padZ l j := L09 (by omega)
        simp -implicitDefEqProofs (disch := omega) only [go_sem, h0, h3, sB, hmod]
        refine Jab (fun hc => ?_) (fun hc => ?_)
        . have hlt := Jmu l.length j (by omega) (by omega)
          simp -implicitDefEqProofs (disch := omega) only [go_sem, h0, h3, sB, hpz, hrep, htk]
          refine Jae (n - 1) (by omega) ⟨j + 1, by omega, ?_⟩
          simp -implicitDefEqProofs (disch := omega) only [go_sem, h0, h3, sB, hpz, hrep, htk]; rw [L0L]
        . have hjz := Jmv l.length j (by omega) (by omega)
          subst hjz
          have hmin : ∀ k : Nat, k <= 8 -> min (8 * (k : Int)).toNat 64 = 8 * k := fun k hk => by omega
          simp -implicitDefEqProofs (disch := omega) only [go_sem, h0, h3, sB, hpz]
          refine Jag (fun n E σ => ∃ pre : List Int, n <= 8 /\ pre ++ lenL l.length n = padF l /\ E 0 = Str s /\ E 3 = .own 461373488 1 0 pre.length /\ E 5 = I ((n : Int) - 1) /\ σ 461373488 = some ⟨5, 1, pre.map Y⟩) 8 ⟨padZ l (zerF l.length), by omega, rfl, ?_⟩ ?_
          . simp -implicitDefEqProofs (disch := omega) only [go_sem, h0, h3, sB, hpz]
            simp
          . clear h0 h3 sB hc hmod hpz E σ hj n htk
            rintro n E σ ⟨pre, hn8, hpre, h0, h3, h5, sB⟩
            have hprel : pre.length <= l.length + 128 := by have := congrArg List.length hpre; simp at this; omega
            simp -implicitDefEqProofs (disch := omega) only [go_sem, h0, h3, h5, sB]
            refine Jab (fun hc => ?_) (fun hc => ?_)
            . obtain ⟨k, rfl⟩ : ∃ k, n = k + 1 := ⟨n - 1, by omega⟩
              have hk : (((k + 1 : Nat) : Int)) - 1 = (k : Int) := by omega
              rw [hk] at h5
              have hm := hmin k (by omega)
              have hlb : IntKind.u8.wrap ((8 * (l.length : Int)).fdiv (2 ^ (8 * k))) = lenB l.length k := rfl
              simp -implicitDefEqProofs (disch := omega) only [go_sem, h0, h3, h5, sB, hm, hlb, hbl.symm, L0d]
              refine Jae k (by omega) ⟨pre ++ [lenB l.length k], by omega, by rw [<- hpre]; simp [lenL], ?_⟩
              simp -implicitDefEqProofs (disch := omega) only [go_sem, h0, h3, h5, sB, hm, hlb, L0d]
            . have hn0 : n = 0 := by omega
              subst hn0; simp only [lenL, L0F] at hpre; subst hpre; simp -implicitDefEqProofs (disch := omega) only [go_sem, h0, h3, h5, sB, L0d, results219]
theorem JnF (h l : List Int) (v : Nat) (hv : v < 8) : gd (addF h l) v = ad (gd h v) (gd (rndW h l 64) v) := by
  rcases v with _ | _ | _ | _ | _ | _ | _ | _ | v
  all_goals first | rfl | omega
theorem Jbf (h l : List Int) : (addF h l).length = 8 := rfl
set_option maxHeartbeats 4000000 in
theorem JqF (h l : List Int) (h8 : h.length = 8) (hl : l.length = 64) : Ev prog 220 [UL h, YL l] (UL (addF h l)) := by
  refine Jhs (r := .new 273 1 ((addF h l).map U)) ?_ _
  refine EW [18] func220 ?_
  simp -implicitDefEqProofs (disch := omega) only [go_sem, ntmps220]
  refine Jag (fun n E σ => ∃ v : Nat, v + n = 16 /\ E 0 = UL h /\ E 1 = YL l /\ E 5 = .own 463470672 1 0 v /\ E 6 = I v /\ σ 463470672 = some ⟨273, 1, (schN l v).map U⟩) 16 ⟨0, by omega, ?_⟩ ?_
  . simp -implicitDefEqProofs (disch := omega) only [go_sem]
    exact ⟨rfl, rfl⟩
  . rintro n E σ ⟨v, hv, h0, h1, h5, h6, sB⟩
    have hq := Ja5 l v; simp -implicitDefEqProofs (disch := omega) only [go_sem, h0, h1, h5, h6, sB]
    refine Jab (fun hc => ?_) (fun hc => ?_)
    . have n0 : (4 * (v : Int)).toNat = 4 * v := by omega
      have n1 : (4 * (v : Int) + 1).toNat = 4 * v + 1 := by omega
      have n2 : (4 * (v : Int) + 2).toNat = 4 * v + 2 := by omega
      have n3 : (4 * (v : Int) + 3).toNat = 4 * v + 3 := by omega
      have htk : (schN l v).take v = schN l v := L09 (by omega)
      have hset : schN l v ++ [be4 l v] = schN l (v + 1) := by simp only [schN, if_pos (show v < 16 from by omega)]
      unfold be4 at hset; simp -implicitDefEqProofs (disch := omega) only [go_sem, h0, h1, h5, h6, sB, hl, hq, n0, n1, n2, n3, m24, m16, m8, htk, hset]
      refine Jae (n - 1) (by omega) ⟨v + 1, by omega, ?_⟩
      simp -implicitDefEqProofs (disch := omega) only [go_sem, h0, h1, h5, h6, sB, hl, hq, htk, hset]
      simp
    . have e : v = 16 := by omega
      subst e; simp -implicitDefEqProofs (disch := omega) only [go_sem, h0, h1, h5, h6, sB]
      refine Jag (fun n E σ => ∃ v : Nat, v + n = 64 /\ 16 <= v /\ E 0 = UL h /\ E 1 = YL l /\ E 5 = .own 463470672 1 0 v /\ E 7 = I v /\ σ 463470672 = some ⟨273, 1, (schN l v).map U⟩) 48 ⟨16, by omega, by omega, ?_⟩ ?_
      . simp -implicitDefEqProofs (disch := omega) only [go_sem, h0, h1, h5, h6, sB]
        rfl
      . clear h0 h1 h5 h6 sB hc E σ hv hq n
        rintro n E σ ⟨v, hv, h16, h0, h1, h5, h7, sB⟩
        have hq := Ja5 l v; simp -implicitDefEqProofs (disch := omega) only [go_sem, h0, h1, h5, h7, sB]
        refine Jab (fun hc => ?_) (fun hc => ?_)
        . have n0 : ((v : Int) - 15).toNat = v - 15 := by omega
          have n1 : ((v : Int) - 2).toNat = v - 2 := by omega
          have n2 : ((v : Int) - 16).toNat = v - 16 := by omega
          have n3 : ((v : Int) - 7).toNat = v - 7 := by omega
          have r7 := JcL (gd (schN l v) (v - 15)) 7 (by omega) (by omega)
          have r18 := JcL (gd (schN l v) (v - 15)) 18 (by omega) (by omega)
          have r17 := JcL (gd (schN l v) (v - 2)) 17 (by omega) (by omega)
          have r19 := JcL (gd (schN l v) (v - 2)) 19 (by omega) (by omega)
          simp -implicitDefEqProofs (disch := omega) only [go_sem, h0, h1, h5, h7, sB, hq, n0, n1, n2, n3]
          refine Jaa r7 ?_
          simp -implicitDefEqProofs (disch := omega) only [go_sem, h0, h1, h5, h7, sB, hq, n0, n1, n2, n3]
          refine Jaa r18 ?_
          simp -implicitDefEqProofs (disch := omega) only [go_sem, h0, h1, h5, h7, sB, hq, n0, n1, n2, n3, m3]
          refine Jaa r17 ?_
          simp -implicitDefEqProofs (disch := omega) only [go_sem, h0, h1, h5, h7, sB, hq, n0, n1, n2, n3, m3]
          refine Jaa r19 ?_
          have htk : (schN l v).take v = schN l v := L09 (by omega)
          have hset : schN l v ++ [nxtF (schN l v) v] = schN l (v + 1) := by simp only [schN, if_neg (show ¬ v < 16 from by omega)]
          unfold nxtF rot2 at hset; simp -implicitDefEqProofs (disch := omega) only [go_sem, h0, h1, h5, h7, sB, hq, n0, n1, n2, n3, m3, m10, htk, hset]
          refine Jae (n - 1) (by omega) ⟨v + 1, by omega, by omega, ?_⟩
          simp -implicitDefEqProofs (disch := omega) only [go_sem, h0, h1, h5, h7, sB, hq, htk, hset]
          simp
        . have e : v = 64 := by omega
          subst e
          rw [show schN l 64 = schF l from rfl] at sB hq
          simp -implicitDefEqProofs (disch := omega) only [go_sem, h0, h1, h5, h7, sB, hq]
          refine Jaa Jjj ?_
          have htk : h.take 8 = h := L09 (by omega)
          simp -implicitDefEqProofs (disch := omega) only [go_sem, h0, h1, h5, h7, sB, hq, h8, htk]
          refine Jag (fun n E σ => ∃ v id : Nat, v + n = 64 /\ (id = 463470768 \/ id = 463474112) /\ E 0 = UL h /\ E 5 = .own 463470672 1 0 64 /\ E 10 = UL KT /\ E 11 = .own id 1 0 8 /\ E 12 = I v /\ σ 463470672 = some ⟨273, 1, (schF l).map U⟩ /\ σ id = some ⟨273, 1, (rndW h l v).map U⟩) 64 ⟨0, 463470768, by omega, .inl rfl, ?_⟩ ?_
          . simp -implicitDefEqProofs (disch := omega) only [go_sem, h0, h1, h5, h7, sB, hq, h8, htk]
            simp [rndW]
          . clear h0 h1 h5 h7 sB hc E σ hv n htk h16
            rintro n E σ ⟨v, id, hv, hid, h0, h5, h10, h11, h12, sB, sC⟩
            have hr := JeB h l h8 v
            have hst : JyH (rndW h l v) (gd KT v) (gd (schF l) v) = rndW h l (v + 1) := rfl
            have hend : v = 64 -> rndW h l v = rndW h l 64 := fun e => by rw [e]
            have hr64 := JeB h l h8 64; generalize rndW h l v = q at *
            have r6 := JcL (gd q 4) 6 (by omega) (by omega)
            have r11 := JcL (gd q 4) 11 (by omega) (by omega)
            have r25 := JcL (gd q 4) 25 (by omega) (by omega)
            have r2 := JcL (gd q 0) 2 (by omega) (by omega)
            have r13 := JcL (gd q 0) 13 (by omega) (by omega)
            have r22 := JcL (gd q 0) 22 (by omega) (by omega)
            rcases hid with rfl | rfl
            . have tq : q.take 8 = q := L09 (by omega)
              simp -implicitDefEqProofs (disch := omega) only [go_sem, h0, h5, h10, h11, h12, sB, sC, hr, hq]
              refine Jab (fun hc => ?_) (fun hc => ?_)
              . simp -implicitDefEqProofs (disch := omega) only [go_sem, h0, h5, h10, h11, h12, sB, sC, hr, hq, Jay]
                refine JgH Plain.mono [463470768] ?_
                simp -implicitDefEqProofs (disch := omega) only [go_sem, h0, h5, h10, h11, h12, sB, sC, hr, hq, Jay, tq]
                refine Jaa r6 ?_
                simp -implicitDefEqProofs (disch := omega) only [go_sem, h0, h5, h10, h11, h12, sB, sC, hr, hq, Jay, tq]
                refine Jaa r11 ?_
                simp -implicitDefEqProofs (disch := omega) only [go_sem, h0, h5, h10, h11, h12, sB, sC, hr, hq, Jay, tq]
                refine Jaa r25 ?_
                simp -implicitDefEqProofs (disch := omega) only [go_sem, h0, h5, h10, h11, h12, sB, sC, hr, hq, Jay, tq]
                refine Jaa r2 ?_
                simp -implicitDefEqProofs (disch := omega) only [go_sem, h0, h5, h10, h11, h12, sB, sC, hr, hq, Jay, tq]
                refine Jaa r13 ?_
                simp -implicitDefEqProofs (disch := omega) only [go_sem, h0, h5, h10, h11, h12, sB, sC, hr, hq, Jay, tq]
                refine Jaa r22 ?_
                simp -implicitDefEqProofs (disch := omega) only [go_sem, h0, h5, h10, h11, h12, sB, sC, hr, hq, Jay, tq]
                refine Jae (n - 1) (by omega) ⟨v + 1, 463474112, by omega, .inr rfl, ?_⟩
                simp -implicitDefEqProofs (disch := omega) only [go_sem, h0, h5, h10, h11, h12, sB, sC, hr, hq]
                refine ⟨by simp, ?_⟩
                rw [<- hst]
                rfl
              . obtain rfl := hend (by omega)
                simp -implicitDefEqProofs (disch := omega) only [go_sem, h0, h5, h10, h11, h12, sB, sC, hr, hq]
                refine Jag (fun n E σ => ∃ v : Nat, v + n = 8 /\ E 0 = UL h /\ E 11 = .own 463470768 1 0 8 /\ E 17 = .own 463470864 1 0 v /\ E 18 = I v /\ σ 463470768 = some ⟨273, 1, (rndW h l 64).map U⟩ /\ σ 463470864 = some ⟨273, 1, ((addF h l).take v).map U⟩) 8 ⟨0, by omega, ?_⟩ ?_
                . simp -implicitDefEqProofs (disch := omega) only [go_sem, h0, h5, h10, h11, h12, sB, sC, hr, hq]
                  rfl
                . clear h0 h5 h10 h11 h12 sB sC E σ
                  rintro n E σ ⟨v, hv, h0, h11, h17, h18, sB, sC⟩
                  simp -implicitDefEqProofs (disch := omega) only [go_sem, h0, h11, h17, h18, sB, sC]
                  refine Jab (fun hc => ?_) (fun hc => ?_)
                  . have hg := JnF h l v (by omega)
                    have htl : ((addF h l).take v).length = v := by rw [L02, Jbf]; omega
                    have htk : ((addF h l).take v).take v = (addF h l).take v := L09 (by omega)
                    have tk : (addF h l).take v ++ [IntKind.u32.wrap (gd h v + gd (rndW h l 64) v)] = (addF h l).take (v + 1) := by rw [L1b, Jbj _ _ (by rw [Jbf]; omega), hg]; rfl
                    simp -implicitDefEqProofs (disch := omega) only [go_sem, h0, h11, h17, h18, sB, sC, h8, hr64, htl, htk, tk]
                    refine Jae (n - 1) (by omega) ⟨v + 1, by omega, ?_⟩
                    simp -implicitDefEqProofs (disch := omega) only [go_sem, h0, h11, h17, h18, sB, sC, h8, hr64, htl, htk, tk]
                    simp
                  . have e : v = 8 := by omega
                    subst e
                    rw [L09 (by rw [Jbf]; omega)] at sC
                    have htk : (addF h l).take 8 = addF h l := L09 (by rw [Jbf]; omega)
                    have hal : (addF h l).length = 8 := rfl
                    simp -implicitDefEqProofs (disch := omega) only [go_sem, h0, h11, h17, h18, sB, sC, htk, hal, results220]
            . have tq : q.take 8 = q := L09 (by omega)
              simp -implicitDefEqProofs (disch := omega) only [go_sem, h0, h5, h10, h11, h12, sB, sC, hr, hq]
              refine Jab (fun hc => ?_) (fun hc => ?_)
              . simp -implicitDefEqProofs (disch := omega) only [go_sem, h0, h5, h10, h11, h12, sB, sC, hr, hq, Jay]
                refine JgH Plain.mono [463474112] ?_
                simp -implicitDefEqProofs (disch := omega) only [go_sem, h0, h5, h10, h11, h12, sB, sC, hr, hq, Jay, tq]
                refine Jaa r6 ?_
                simp -implicitDefEqProofs (disch := omega) only [go_sem, h0, h5, h10, h11, h12, sB, sC, hr, hq, Jay, tq]
                refine Jaa r11 ?_
                simp -implicitDefEqProofs (disch := omega) only [go_sem, h0, h5, h10, h11, h12, sB, sC, hr, hq, Jay, tq]
                refine Jaa r25 ?_
                simp -implicitDefEqProofs (disch := omega) only [go_sem, h0, h5, h10, h11, h12, sB, sC, hr, hq, Jay, tq]
                refine Jaa r2 ?_
                simp -implicitDefEqProofs (disch := omega) only [go_sem, h0, h5, h10, h11, h12, sB, sC, hr, hq, Jay, tq]
                refine Jaa r13 ?_
                simp -implicitDefEqProofs (disch := omega) only [go_sem, h0, h5, h10, h11, h12, sB, sC, hr, hq, Jay, tq]
                refine Jaa r22 ?_
                simp -implicitDefEqProofs (disch := omega) only [go_sem, h0, h5, h10, h11, h12, sB, sC, hr, hq, Jay, tq]
                refine Jae (n - 1) (by omega) ⟨v + 1, 463474112, by omega, .inr rfl, ?_⟩
                simp -implicitDefEqProofs (disch := omega) only [go_sem, h0, h5, h10, h11, h12, sB, sC, hr, hq]
                refine ⟨by simp, ?_⟩
                rw [<- hst]
                rfl
              . obtain rfl := hend (by omega)
                simp -implicitDefEqProofs (disch := omega) only [go_sem, h0, h5, h10, h11, h12, sB, sC, hr, hq]
                refine Jag (fun n E σ => ∃ v : Nat, v + n = 8 /\ E 0 = UL h /\ E 11 = .own 463474112 1 0 8 /\ E 17 = .own 463470864 1 0 v /\ E 18 = I v /\ σ 463474112 = some ⟨273, 1, (rndW h l 64).map U⟩ /\ σ 463470864 = some ⟨273, 1, ((addF h l).take v).map U⟩) 8 ⟨0, by omega, ?_⟩ ?_
                . simp -implicitDefEqProofs (disch := omega) only [go_sem, h0, h5, h10, h11, h12, sB, sC, hr, hq]
                  rfl
                . clear h0 h5 h10 h11 h12 sB sC E σ
                  rintro n E σ ⟨v, hv, h0, h11, h17, h18, sB, sC⟩
                  simp -implicitDefEqProofs (disch := omega) only [go_sem, h0, h11, h17, h18, sB, sC]
                  refine Jab (fun hc => ?_) (fun hc => ?_)
                  . have hg := JnF h l v (by omega)
                    have htl : ((addF h l).take v).length = v := by rw [L02, Jbf]; omega
                    have htk : ((addF h l).take v).take v = (addF h l).take v := L09 (by omega)
                    have tk : (addF h l).take v ++ [IntKind.u32.wrap (gd h v + gd (rndW h l 64) v)] = (addF h l).take (v + 1) := by rw [L1b, Jbj _ _ (by rw [Jbf]; omega), hg]; rfl
                    simp -implicitDefEqProofs (disch := omega) only [go_sem, h0, h11, h17, h18, sB, sC, h8, hr64, htl, htk, tk]
                    refine Jae (n - 1) (by omega) ⟨v + 1, by omega, ?_⟩
                    simp -implicitDefEqProofs (disch := omega) only [go_sem, h0, h11, h17, h18, sB, sC, h8, hr64, htl, htk, tk]
                    simp
                  . have e : v = 8 := by omega
                    subst e
                    rw [L09 (by rw [Jbf]; omega)] at sC
                    have htk : (addF h l).take 8 = addF h l := L09 (by rw [Jbf]; omega)
                    have hal : (addF h l).length = 8 := rfl
                    simp -implicitDefEqProofs (disch := omega) only [go_sem, h0, h11, h17, h18, sB, sC, htk, hal, results220]
theorem Jpm (h : List Int) (v : Nat) (hv : v < 8) : (outF h).take (4 * v) ++ [IntKind.u8.wrap ((gd h v).fdiv (2 ^ 24)), IntKind.u8.wrap ((gd h v).fdiv (2 ^ 16)), IntKind.u8.wrap ((gd h v).fdiv (2 ^ 8)), IntKind.u8.wrap (gd h v)] = (outF h).take (4 * (v + 1)) := by
  have e : ∀ j, j < 4 -> dgF h (4 * v + j) = IntKind.u8.wrap ((gd h v).fdiv (2 ^ (24 - 8 * j))) := by
    intro j hj
    unfold dgF
    rw [show (4 * v + j) / 4 = v from by omega, show (4 * v + j) % 4 = j from by omega]
  have e0 := e 0 (by omega)
  have e1 := e 1 (by omega)
  have e2 := e 2 (by omega)
  have e3 := e 3 (by omega)
  simp only [Nat.mul_zero, L0M, L0X, Nat.reduceMul, Nat.reduceSub, L0U] at e0 e1 e2 e3
  rw [show (2 : Int) ^ 0 = 1 from rfl, Int.fdiv_one] at e3
  rw [<- e0, <- e1, <- e2, <- e3]; unfold outF
  rw [<- L1F, <- L1F, List.take_range, List.take_range, show min (4 * (v + 1)) 32 = 4 * v + 4 from by omega, show min (4 * v) 32 = 4 * v from by omega,
    show 4 * v + 4 = 4 * v + 3 + 1 from rfl, L1h, L1h, L1h, L1h]
  simp
set_option maxHeartbeats 2000000 in
theorem Jll (s : ByteArray) (hs : s.size <= 100000000) : Ev prog 210 [Str s] (Str (shaF s)) := by
  refine EV func210 ?_
  simp -implicitDefEqProofs (disch := omega) only [go_sem, ntmps210]
  refine Jam rfl ?_
  refine JaS [442499200] ?_
  simp -implicitDefEqProofs (disch := omega) only [go_sem]
  refine Jaa (JkE s hs) ?_
  simp -implicitDefEqProofs (disch := omega) only [go_sem]; have hbl := JaJ s; unfold shaF; generalize bI s = l at *
  obtain ⟨m, hpm, hpl⟩ := Jey l
  refine Jag (fun n E σ => ∃ v : Nat, v + n = m /\ E 3 = UL (blkF (padF l) v) /\ E 4 = YL (padF l) /\ E 5 = I ((64 * v : Nat) : Int)) m ⟨0, by omega, ?_⟩ ?_
  . simp -implicitDefEqProofs (disch := omega) only [go_sem]
    exact ⟨rfl, rfl⟩
  . rintro n E σ ⟨v, hv, h3, h4, h5⟩
    simp -implicitDefEqProofs (disch := omega) only [go_sem, h3, h4, h5]
    refine Jab (fun hc => ?_) (fun hc => ?_)
    . have hlt : v < m := by omega
      have n1 : (((64 * v : Nat) : Int) + 64).toNat = 64 * v + 64 := by omega
      have hp : ((padF l).drop (64 * v)).take (64 * v + 64 - 64 * v) = Jej (padF l) v := by unfold Jej; rw [Nat.add_sub_cancel_left]
      simp -implicitDefEqProofs (disch := omega) only [go_sem, h3, h4, h5, n1, hp]
      refine Jaa (JqF _ _ (JbU _ v) (Je3 _ v (by omega))) ?_
      simp -implicitDefEqProofs (disch := omega) only [go_sem, h3, h4, h5]
      refine Jae (n - 1) (by omega) ⟨v + 1, by omega, ?_⟩
      simp -implicitDefEqProofs (disch := omega) only [go_sem, h3, h4, h5]
      exact ⟨rfl, by congr 1⟩
    . have e : v = m := by omega
      subst e
      rw [show (padF l).length / 64 = v from by omega]
      simp -implicitDefEqProofs (disch := omega) only [go_sem, h3, h4, h5]; have hbk := JbU (padF l) v; generalize blkF (padF l) v = q at *
      refine Jag (fun n E σ => ∃ v : Nat, v + n = 8 /\ E 3 = UL q /\ E 6 = .own 442499168 1 0 (4 * v) /\ E 7 = I v /\ σ 442499168 = some ⟨5, 1, ((outF q).take (4 * v)).map Y⟩) 8 ⟨0, by omega, ?_⟩ ?_
      . simp -implicitDefEqProofs (disch := omega) only [go_sem, h3, h4, h5]
        rfl
      . clear h3 h4 h5 hc E σ hv n hpm
        rintro n E σ ⟨v, hv, h3, h6, h7, sB⟩
        have hol : (outF q).length = 32 := by simp [outF]
        simp -implicitDefEqProofs (disch := omega) only [go_sem, h3, h6, h7, sB]
        refine Jab (fun hc => ?_) (fun hc => ?_)
        . have hf := Jpm q v (by omega)
          have htl : ((outF q).take (4 * v)).length = 4 * v := by rw [L02, hol]; omega
          have htk : ((outF q).take (4 * v)).take (4 * v) = (outF q).take (4 * v) := L09 (by omega)
          have ap4 : ∀ (l : List Int) (a b c d : Int), l.map Y ++ [Y a, Y b, Y c, Y d] = (l ++ [a, b, c, d]).map Y := fun l a b c d => by simp
          simp -implicitDefEqProofs (disch := omega) only [go_sem, h3, h6, h7, sB, hbk, hol, m24, m16, m8, htl, htk, ap4, hf]
          refine Jae (n - 1) (by omega) ⟨v + 1, by omega, ?_⟩
          simp -implicitDefEqProofs (disch := omega) only [go_sem, h3, h6, h7, sB, hbk, hol, htl, htk, ap4, hf]
          exact ⟨by congr 1, by simp⟩
        . have e : v = 8 := by omega
          subst e
          rw [L09 (by omega)] at sB
          simp -implicitDefEqProofs (disch := omega) only [go_sem, h3, h6, h7, sB]
          refine Jeb (outF q) (by simp -implicitDefEqProofs (disch := omega) only [go_sem, h6, sB, hol]) (by intro b; simp -implicitDefEqProofs (disch := omega) only [go_sem, h6]; intro e; cases e) (e := 5) rfl rfl rfl ?_
          simp -implicitDefEqProofs (disch := omega) only [go_sem, results210]
theorem Jrl (a b : ByteArray) (hl : a.size + b.size <= 99999999) : Ev prog 183 [Str a, Str b] (Str (shaF (⟨#[1]⟩ ++ (a ++ b)))) := by
  refine EV func183 ?_
  have hz : (#[1] : Array UInt8).size = 1 := rfl
  simp -implicitDefEqProofs (disch := omega) only [go_sem, ntmps183, hz]
  refine Jaa (Jll ((⟨#[1]⟩ : ByteArray) ++ a ++ b) ?_) ?_
  . simp only [L0T]; show 1 + _ + _ <= _; omega
  simp -implicitDefEqProofs (disch := omega) only [go_sem, results183, L2l]
theorem Jq6 (a : ByteArray) (hl : a.size <= 99999999) : Ev prog 184 [Str a] (Str (shaF (⟨#[0]⟩ ++ a))) := by
  refine EV func184 ?_
  have hz : (#[0] : Array UInt8).size = 1 := rfl
  simp -implicitDefEqProofs (disch := omega) only [go_sem, ntmps184, hz]
  refine Jaa (Jll ((⟨#[0]⟩ : ByteArray) ++ a) ?_) ?_
  . simp only [L0T]; show 1 + _ <= _; omega
  simp -implicitDefEqProofs (disch := omega) only [go_sem, results184]
abbrev U64 (n : Int) : AV := .v (.int .u64 n)
def zz (n : Int) : Int := if n < 0 then -2 * n - 1 else 2 * n
def grp : Nat -> Nat -> List (Nat × Bool)
  | 0, z => [(z % 128, true)]
  | k + 1, z => if z < 128 then [(z % 128, true)] else (z % 128, false) :: grp k (z / 128)
def grpB (p : Nat × Bool) : Int := if p.2 then p.1 else p.1 + 128
def viB (n : Int) : List Int := (grp 9 (zz n).toNat).map grpB
def viS (n : Int) : ByteArray := strOfNums (viB n)
theorem Jbc (x : Int) : IntKind.u64.wrap x = x % 18446744073709551616 := by
  simp [IntKind.wrap, IntKind.bits, IntKind.signed]
theorem Ji4 {n : Int} (h1 : -4611686018427387903 <= n) (h2 : n <= 4611686018427387903) : 0 <= zz n /\ zz n < 9223372036854775808 := by
  unfold zz; split <;> omega
theorem JyW {n : Int} (h1 : -4611686018427387903 <= n) (h2 : n <= 4611686018427387903) : Ja6 .xor .u64 (IntKind.u64.wrap (IntKind.u64.wrap n * 2 ^ 1)) (IntKind.u64.wrap (n.fdiv (2 ^ 63))) = zz n := by
  have hr := Ji4 h1 h2
  show IntKind.u64.wrap (((BitVec.ofInt 64 _ ^^^ BitVec.ofInt 64 _ : BitVec 64).toNat : Nat) : Int) = zz n
  by_cases hn : n < 0
  . have e2 : IntKind.u64.wrap (n.fdiv (2 ^ 63)) = 18446744073709551615 := by
      rw [Jbc, show (2 : Int) ^ 63 = 9223372036854775808 from rfl, L1I _ (by decide)]
      omega
    rw [e2, show BitVec.ofInt 64 18446744073709551615 = BitVec.allOnes 64 from rfl, BitVec.xor_allOnes, BitVec.toNat_not, BitVec.toNat_ofInt, Jbc, Jbc, Jbc]
    simp only [zz, if_pos hn]
    omega
  . have e2 : IntKind.u64.wrap (n.fdiv (2 ^ 63)) = 0 := by
      rw [Jbc, show (2 : Int) ^ 63 = 9223372036854775808 from rfl, L1I _ (by decide)]
      omega
    rw [e2, show BitVec.ofInt 64 0 = 0#64 from rfl, BitVec.xor_zero, BitVec.toNat_ofInt, Jbc, Jbc, Jbc]
    simp only [zz, if_neg hn]
    omega
theorem Js1 (z : Nat) (h : z < 18446744073709551616) : Ja6 .and .u64 (z : Int) 127 = ((z % 128 : Nat) : Int) := by
  show IntKind.u64.wrap (((BitVec.ofInt 64 (z : Int) &&& BitVec.ofInt 64 127 : BitVec 64).toNat : Nat) : Int) = _
  rw [BitVec.toNat_and, show (BitVec.ofInt 64 127).toNat = 2 ^ 7 - 1 from rfl, Nat.and_two_pow_sub_one_eq_mod, BitVec.toNat_ofInt, Jbc]
  omega
theorem Jyd (g : Nat) (h : g < 128) : Ja6 .or .u8 (g : Int) 128 = ((g : Int) + 128) := by
  have key : ∀ g : Fin 128, Ja6 .or .u8 ((g.1 : Nat) : Int) 128 = ((g.1 : Nat) : Int) + 128 := by decide +kernel
  exact key ⟨g, h⟩
theorem JCU (z : Nat) : ((z : Int)).fdiv (2 ^ 7) = ((z / 128 : Nat) : Int) := by
  rw [show (2 : Int) ^ 7 = 128 from rfl, L1I _ (by decide)]; omega
theorem JsC : ∀ k z, ∀ p ∈ grp k z, p.1 < 128
  | 0, z, p, h => by simp [grp] at h; rw [h]; simp; omega
  | k + 1, z, p, h => by
    unfold grp at h
    split at h
    . simp at h; rw [h]; simp; omega
    . simp at h
      rcases h with h | h
      . rw [h]; simp; omega
      . exact JsC k _ p h
theorem Jfp : ∀ k z, (grp k z).length <= k + 1
  | 0, z => by simp [grp]
  | k + 1, z => by
    unfold grp
    split
    . simp
    . simp; exact Jfp k _
theorem Jnv (n : Int) : (viB n).length <= 10 := by unfold viB; rw [L05]; exact Jfp _ _
theorem JaP (n : Int) : (viS n).size <= 10 := by unfold viS; rw [strOfNums_size]; exact Jnv n
theorem JyV (n : Int) (h1 : -4611686018427387903 <= n) (h2 : n <= 4611686018427387903) : Ev prog 97 [I n] (U64 (zz n)) := by
  refine EV func97 ?_
  simp -implicitDefEqProofs (disch := omega) only [go_sem, ntmps97]
  refine Jab (fun hc => ?_) (fun hc => ?_)
  . have e1 : IntKind.i64.wrap (0 - n) = -n := by rw [Jcy (by omega)]; omega
    have e2 : IntKind.u64.wrap (IntKind.u64.wrap (IntKind.u64.wrap (-n) * 2) - 1) = zz n := by
      simp only [Jbc, zz, if_pos hc]; omega
    simp -implicitDefEqProofs (disch := omega) only [go_sem, e1, e2, results97]
  . have e2 : IntKind.u64.wrap (IntKind.u64.wrap n * 2) = zz n := by
      simp only [Jbc, zz, if_neg hc]; omega
    simp -implicitDefEqProofs (disch := omega) only [go_sem, e2, results97]
theorem JlM : ∀ k z, z < 128 ^ (k + 1) -> 128 <= z -> ∃ m, k = m + 1 /\ grp k z = (z % 128, false) :: grp m (z / 128) /\ z / 128 < 128 ^ (m + 1)
  | 0, z, h, h2 => by omega
  | k + 1, z, h, h2 => ⟨k, rfl, by rw [show grp (k + 1) z = if z < 128 then [(z % 128, true)] else (z % 128, false) :: grp k (z / 128) from rfl, if_neg (by omega)], by rw [L1J] at h; omega⟩
theorem JlL : ∀ k z, z < 128 -> grp k z = [(z % 128, true)]
  | 0, z, h => rfl
  | k + 1, z, h => by rw [show grp (k + 1) z = if z < 128 then [(z % 128, true)] else (z % 128, false) :: grp k (z / 128) from rfl, if_pos h]
set_option maxHeartbeats 1000000 in
theorem Jd3 (n : Int) (h1 : -4611686018427387903 <= n) (h2 : n <= 4611686018427387903) : Ev prog 60 [I n] (.tup [Str (viS n), I 0]) := by
  refine EV func60 ?_
  simp -implicitDefEqProofs (disch := omega) only [go_sem, ntmps60]
  refine Jab (fun hc => absurd hc (by omega)) (fun hc => ?_)
  simp -implicitDefEqProofs (disch := omega) only [go_sem]
  refine Jab (fun hc => absurd hc (by omega)) (fun hc => ?_)
  simp -implicitDefEqProofs (disch := omega) only [go_sem]
  refine Jaa (JyV n h1 h2) ?_
  simp -implicitDefEqProofs (disch := omega) only [go_sem]; have hr := Ji4 h1 h2; unfold viS viB
  obtain ⟨z, hz⟩ : ∃ z : Nat, zz n = z := ⟨(zz n).toNat, by omega⟩
  rw [hz, L18]
  have hz1 : z < 128 ^ (9 + 1) := by omega
  refine Jag (fun k E σ => ∃ (pre : List Int) (y : Nat), y < 128 ^ (k + 1) /\ y < 9223372036854775808 /\ pre.length + k <= 9 /\ pre ++ (grp k y).map grpB = (grp 9 z).map grpB /\ E 4 = U64 y /\ E 5 = .own 127926352 1 0 pre.length /\ σ 127926352 = some ⟨5, 1, pre.map Y⟩) 9 ⟨[], z, hz1, by omega, by simp, rfl, ?_⟩ ?_
  . simp -implicitDefEqProofs (disch := omega) only [go_sem, hz]
  . clear hz1
    rintro k E σ ⟨pre, y, hy, hy2, hpk, hpre, h4, h5, sB⟩
    simp -implicitDefEqProofs (disch := omega) only [go_sem, h4, h5, sB]
    refine Jab (fun hc => ?_) (fun hc => ?_)
    . obtain ⟨m, rfl, hg, hym⟩ := JlM k y hy (by omega)
      have e1 : ((y : Int)).tmod 128 = ((y % 128 : Nat) : Int) := by rw [L12 (by omega)]; omega
      have e2 : ((y : Int)).tdiv 128 = ((y / 128 : Nat) : Int) := by rw [L1g (by omega)]; omega
      have e3 : IntKind.u8.wrap (IntKind.u64.wrap (((y % 128 : Nat) : Int) + 128)) = ((y % 128 : Nat) : Int) + 128 := by
        rw [Jbc]; simp only [IntKind.wrap, IntKind.bits, IntKind.signed]; simp; omega
      have e4 : IntKind.u64.wrap ((y % 128 : Nat) : Int) = ((y % 128 : Nat) : Int) := by rw [Jbc]; omega
      have e5 : IntKind.u64.wrap ((y / 128 : Nat) : Int) = ((y / 128 : Nat) : Int) := by rw [Jbc]; omega
      simp -implicitDefEqProofs (disch := omega) only [go_sem, h4, h5, sB, e1, e2, e3, e4, e5, L0d]
      refine Jae m (by omega) ⟨pre ++ [((y % 128 : Nat) : Int) + 128], y / 128, hym, by omega, by simp; omega, ?_, ?_⟩
      . rw [<- hpre, hg]; simp [grpB]
      . simp -implicitDefEqProofs (disch := omega) only [go_sem, h4, h5, sB, e1, e2, e3, e4, e5, L0d]
    . have hy3 : y < 128 := by omega
      rw [JlL k y hy3] at hpre
      have e3 : IntKind.u8.wrap (y : Int) = ((y % 128 : Nat) : Int) := by
        simp only [IntKind.wrap, IntKind.bits, IntKind.signed]; simp; omega
      have e6 : pre ++ [((y % 128 : Nat) : Int)] = (grp 9 z).map grpB := by rw [<- hpre]; simp [grpB]
      have e7 := congrArg List.length e6
      have e8 : pre.length + 1 = (grp 9 z).length := by simpa using e7
      simp -implicitDefEqProofs (disch := omega) only [go_sem, h4, h5, sB, e3, e6, L0d]
      refine Jeb ((grp 9 z).map grpB) (by simp -implicitDefEqProofs (disch := omega) only [go_sem, h5, sB, e3, e6, L0d]; rw [e8]; simp) (by intro b; simp -implicitDefEqProofs (disch := omega) only [go_sem, h5]; intro e; cases e) (e := 5) rfl rfl rfl ?_
      simp -implicitDefEqProofs (disch := omega) only [go_sem, results60]
abbrev YG (p : Nat × Bool) : List AV := [Y p.1, .v (.bool p.2)]
@[go_sem] theorem JiJ (p : Nat -> Bool) (l : List (Nat × Bool)) : AV.namesL p ((l.map YG).map .tup) = false := by
  rw [L19]; exact Jal p l _ fun _ => rfl
theorem JoF (z : Int) : Ev prog 170 [U64 z] (.clo 202 [.nptr 178 1 [U64 z]]) := by
  refine EV func170 ?_
  simp -implicitDefEqProofs (disch := omega) only [go_sem, ntmps170, results170]
theorem m7 : min 7 64 = 7 := rfl
theorem m1a : min 1 64 = 1 := rfl
theorem m63 : min 63 64 = 63 := rfl
theorem JmW (z a : Nat) (σ : Jac) (h : z < 9223372036854775808) (ha : σ a = some ⟨178, 1, [U64 z]⟩) (hA : a / 16 < 131072 * (202 + 1) \/ 131072 * (202 + 1) + 100000 <= a / 16) :
    SOK prog 202 [.ptr a 1 0 0] σ ((grp 9 z).map YG) := by
  refine Jj6 func202 rfl (by kernel_rfl) mo (nb rfl) ?_ rfl fun l => ?_
  . exact JiJ allB _
  . simp -implicitDefEqProofs (disch := omega) only [go_sem, ntmps202, ha]
    have hz1 : z < 128 ^ (9 + 1) := by omega
    refine Jag (fun k E σ => ∃ y : Nat, y < 128 ^ (k + 1) /\ y < 9223372036854775808 /\ E 0 = .yld l /\ E 1 = .ptr a 1 0 0 /\ E 18 = .tup (((grp k y).map YG).map .tup) /\ σ a = some ⟨178, 1, [U64 y]⟩) 9 ⟨z, hz1, by omega, ?_⟩ ?_
    . simp -implicitDefEqProofs (disch := omega) only [go_sem, ha]
    . clear ha hz1 σ
      rintro k E σ ⟨y, hy, hy2, h0, h1, h18, ha⟩
      have e1 := Js1 y (by omega)
      have e2 := JCU y
      have e3 : IntKind.u8.wrap ((y % 128 : Nat) : Int) = ((y % 128 : Nat) : Int) := by
        simp only [IntKind.wrap, IntKind.bits, IntKind.signed]; simp; omega
      by_cases hc : y < 128
      . rw [JlL k y hc] at h18
        have hd : decide ((y : Int) < 128) = true := decide_eq_true (by omega)
        simp -implicitDefEqProofs (disch := omega) only [go_sem, h0, h1, h18, ha, e1, e2, e3, hd]
        exact ⟨.inl trivial, .inr trivial⟩
      . obtain ⟨m, rfl, hg, hym⟩ := JlM k y hy (by omega)
        rw [hg] at h18
        have hd : decide ((y : Int) < 128) = false := decide_eq_false (by omega)
        simp -implicitDefEqProofs (disch := omega) only [go_sem, h0, h1, h18, ha, e1, e2, e3, hd]
        refine ⟨Jae m (by omega) ⟨y / 128, hym, by omega, ?_⟩, .inr trivial⟩
        simp -implicitDefEqProofs (disch := omega) only [go_sem, h0, h1, h18, ha, e1, e2, e3, m7]
set_option maxHeartbeats 1000000 in
theorem JjV (n : Int) (h1 : -4611686018427387903 <= n) (h2 : n <= 4611686018427387903) : Ev prog 126 [I n] (.tup [Str (viS n), I 0]) := by
  refine EV func126 ?_
  simp -implicitDefEqProofs (disch := omega) only [go_sem, ntmps126]
  refine Jab (fun hc => absurd hc (by omega)) (fun hc => ?_)
  simp -implicitDefEqProofs (disch := omega) only [go_sem]
  refine Jab (fun hc => absurd hc (by omega)) (fun hc => ?_)
  have hr := Ji4 h1 h2; have e1 := JyW h1 h2
  obtain ⟨z, hz⟩ : ∃ z : Nat, zz n = z := ⟨(zz n).toNat, by omega⟩
  rw [hz] at e1; simp -implicitDefEqProofs (disch := omega) only [go_sem, e1, m1a, m63]
  refine Jaa (JoF z) ?_
  simp -implicitDefEqProofs (disch := omega) only [go_sem]
  refine Jcb ?_
  have hzz : (zz n).toNat = z := by omega
  unfold viS viB; rw [hzz]
  refine Jd4 [266338624] [266338368] 16646244 ((grp 9 z).map YG) (fun xs σ => ∃ (d r : List (Nat × Bool)), grp 9 z = d ++ r /\ xs = r.map YG /\ σ 266338368 = some ⟨164, 1, [.own 266338369 1 0 d.length]⟩ /\ σ 266338369 = some ⟨5, 1, (d.map grpB).map Y⟩)
    (g := 202) (caps := [.ptr 266338624 1 0 0]) ?_ ?_ ?_ ?_ ?_ ?_ ?_ ?_
  . simp -implicitDefEqProofs (disch := omega) only [go_sem]
  . refine JmW z _ _ (by omega) ?_ (by decide)
    simp -implicitDefEqProofs (disch := omega) only [go_sem]
  . intro x hx
    obtain ⟨y, _, rfl⟩ := L06.1 hx
    rfl
  . simp -implicitDefEqProofs (disch := omega) only [go_sem]
  . simp -implicitDefEqProofs (disch := omega) only [go_sem]
  . refine ⟨[], _, rfl, rfl, ?_⟩
    simp -implicitDefEqProofs (disch := omega) only [go_sem]
  . rintro E0 hE0 y rest σ' ⟨d, r, hdr, hxs, s4, s5⟩
    have e4 : E0 4 = .ptr 266338368 1 0 0 := by rw [hE0]; simp -implicitDefEqProofs (disch := omega) only [go_sem]
    clear hE0
    cases r with
    | nil => cases hxs
    | cons g r =>
      simp only [L0n, List.cons.injEq] at hxs; obtain ⟨rfl, rfl⟩ := hxs
      have hg := JsC 9 z g (by rw [hdr]; simp)
      have h5 := Jyd g.1 hg
      have hdl : d.length <= 10 := by have := congrArg List.length hdr; have := Jfp 9 z; simp at *; omega
      have htk : (d.map grpB).take d.length = d.map grpB := L09 (by simp)
      simp -implicitDefEqProofs (disch := omega) only [go_sem, e4, s4, s5]
      refine Jab (fun hc => ?_) (fun hc => ?_)
      . have hg2 : d.map grpB ++ [(g.1 : Int) + 128] = (d ++ [g]).map grpB := by simp [grpB, hc]
        simp -implicitDefEqProofs (disch := omega) only [go_sem, e4, s4, s5, h5, htk, hg2]
        refine ⟨inL [], fun _ _ => rfl, d ++ [g], r, by rw [hdr]; simp, rfl, ?_⟩
        simp -implicitDefEqProofs (disch := omega) only [go_sem, e4, s4, s5, h5, htk, hg2]
      . have hg2 : d.map grpB ++ [(g.1 : Int)] = (d ++ [g]).map grpB := by simp [grpB, hc]
        simp -implicitDefEqProofs (disch := omega) only [go_sem, e4, s4, s5, h5, htk, hg2]
        refine ⟨inL [], fun _ _ => rfl, d ++ [g], r, by rw [hdr]; simp, rfl, ?_⟩
        simp -implicitDefEqProofs (disch := omega) only [go_sem, e4, s4, s5, h5, htk, hg2]
  . rintro E0 hE0 σ' ⟨d, r, hdr, hxs, s4, s5⟩
    have e4 : E0 4 = .ptr 266338368 1 0 0 := by rw [hE0]; simp -implicitDefEqProofs (disch := omega) only [go_sem]
    have hr0 : r = [] := by cases r with | nil => rfl | cons a b => cases hxs
    subst hr0; rw [L0F] at hdr
    have htk : ((grp 9 z).map grpB).take d.length = (grp 9 z).map grpB := L09 (by rw [hdr]; simp)
    rw [<- hdr] at s5
    have hdl : d.length = (grp 9 z).length := by rw [hdr]
    simp -implicitDefEqProofs (disch := omega) only [go_sem, e4, s4, s5]
    refine Jeb ((grp 9 z).map grpB) (by simp -implicitDefEqProofs (disch := omega) only [go_sem, e4, s4, s5, htk, hdl]) (by intro b; simp -implicitDefEqProofs (disch := omega) only [go_sem, e4, s4, s5]; try (intro e; cases e)) (e := 5) rfl rfl rfl ?_
    simp -implicitDefEqProofs (disch := omega) only [go_sem, results126]
structure Rt where
  d : Int
  f : Int
  t : Int
  p : Int
  deriving DecidableEq
instance : Inhabited Rt := ⟨⟨0, 0, 0, 0⟩⟩
abbrev TP (r : Rt) : AV := .agg [I r.d, I r.f, I r.t, I r.p]
abbrev TS (l : List Rt) : AV := .sl 4 (l.map TP)
structure Tf where
  l : List Rt
  b : Int
abbrev TF (x : Tf) : AV := .agg [TS x.l, I x.b]
section
variable (p : Nat -> Bool) (l : List Rt)
@[go_sem] theorem JxT : AV.namesL p (l.map TP) = false := Jal p l TP fun _ => rfl
@[go_sem] theorem JzO : AV.flatL (l.map TP) = true := Jbi l TP fun _ => rfl
@[go_sem] theorem Jy1 : JbS 4 (l.map TP) = true := JaI 4 l TP fun _ => ⟨rfl, rfl⟩
@[go_sem] theorem JwW (a b c d : Int) : l.map TP ++ [.agg [.v (.int .i64 a), .v (.int .i64 b), .v (.int .i64 c), .v (.int .i64 d)]] = (l ++ [(⟨a, b, c, d⟩ : Rt)]).map TP := by simp
end
theorem Jde (n a b : Int) : Ev prog 150 [I n, I a, I b] (B (decide (a <= n /\ n <= b))) := by
  refine EV func150 ?_
  simp -implicitDefEqProofs (disch := omega) only [go_sem, ntmps150]
  refine Jab (fun h1 => ?_) (fun h1 => ?_)
  . simp -implicitDefEqProofs (disch := omega) only [go_sem, h1, results150]
    try simp [h1]
  . simp -implicitDefEqProofs (disch := omega) only [go_sem, h1, results150]
    try simp [h1]
def Jdr (z : Int) : Bool := decide (-50400 <= z /\ z <= 50400)
theorem JoQ (z : Int) : Ev prog 122 [I z] (B (Jdr z)) := by
  refine EV func122 ?_
  simp -implicitDefEqProofs (disch := omega) only [go_sem, ntmps122]
  refine Jaa (Jde z (-50400) 50400) ?_
  simp -implicitDefEqProofs (disch := omega) only [go_sem, results122]; try rfl
def Jfc (f t : Int) : Bool := decide (0 <= f /\ f <= t /\ t <= 10000000)
theorem JmY (f t : Int) : Ev prog 123 [.agg [I f, I t]] (B (Jfc f t)) := by
  refine EV func123 ?_
  simp -implicitDefEqProofs (disch := omega) only [go_sem, ntmps123]
  refine Jab (fun h1 => ?_) (fun h1 => ?_)
  . simp -implicitDefEqProofs (disch := omega) only [go_sem, h1]
    refine Jaa (Jde t f 10000000) ?_
    simp -implicitDefEqProofs (disch := omega) only [go_sem, h1, results123]
    try simp [Jfc, h1]
  . simp -implicitDefEqProofs (disch := omega) only [go_sem, h1, results123]
    try simp [Jfc, h1]
def JmU (r : Rt) : Bool := decide (1 <= r.d /\ r.d <= 127 /\ 0 <= r.f /\ r.f < r.t /\ r.t <= 86400 /\ 0 <= r.p /\ r.p <= 1000000)
theorem Jcm {r : Rt} : JmU r = true ↔ 1 <= r.d /\ r.d <= 127 /\ 0 <= r.f /\ r.f < r.t /\ r.t <= 86400 /\ 0 <= r.p /\ r.p <= 1000000 := decide_eq_true_iff
theorem Jq3 (r : Rt) (h : JmU r = true) : Ev prog 149 [TP r] (B false) := by
  obtain ⟨h1, h2, h3, h4, h5, h6, h7⟩ := Jcm.1 h
  refine EV func149 ?_
  simp -implicitDefEqProofs (disch := omega) only [go_sem, ntmps149]
  refine Jaa (Jde r.d 1 127) ?_
  rw [decide_eq_true ⟨h1, h2⟩]; simp -implicitDefEqProofs (disch := omega) only [go_sem]
  refine Jau (by omega) ?_
  simp -implicitDefEqProofs (disch := omega) only [go_sem]
  refine Jaa (Jde r.t (r.f + 1) 86400) ?_
  rw [decide_eq_true ⟨by omega, h5⟩]
  simp -implicitDefEqProofs (disch := omega) only [go_sem]
  refine Jau (by omega) ?_
  simp -implicitDefEqProofs (disch := omega) only [go_sem]
  refine Jaa (Jde r.p 0 1000000) ?_
  rw [decide_eq_true ⟨h6, h7⟩]; simp -implicitDefEqProofs (disch := omega) only [go_sem, results149]
def idxT (Q : Rt -> Bool) : List Rt -> Nat -> Int
  | [], _ => -1
  | r :: l, v => if Q r = true then v else idxT Q l (v + 1)
theorem JaU {T : Type} [Inhabited T] (l : List T) (i : Nat) (h : i < l.length) : l.drop i = gd l i :: l.drop (i + 1) := by
  rw [show gd l i = l[i] by unfold gd; simp [h], L2g h]
theorem JoK (g : FuncId) (caps : List AV) (Q : Rt -> Bool) (l : List Rt) (hh : ∀ r ∈ l, Ev prog g ([TP r] ++ caps) (B (Q r))) (hcn : ∀ p, AV.namesL p caps = false) (hcr : ∀ σ, caps.map (res σ) = caps) (hl : l.length <= 1000000) (hhd : JaH caps = true := by rfl) : Ev prog 186 [TS l, .clo g caps] (I (idxT Q l 0)) := by
  refine EV func186 ?_
  simp -implicitDefEqProofs (disch := omega) only [go_sem, ntmps186]
  refine Jag (fun k E σ => ∃ i : Nat, i + k = l.length /\ idxT Q l 0 = idxT Q (l.drop i) i /\ E 0 = TS l /\ E 1 = .clo g caps /\ E 7 = I l.length /\ E 8 = I i) l.length ⟨0, by omega, rfl, ?_⟩ ?_
  . simp -implicitDefEqProofs (disch := omega) only [go_sem, hcn]
    rfl
  rintro k E σ ⟨i, hk, hx, e0, e1, e7, e8⟩
  simp -implicitDefEqProofs (disch := omega) only [go_sem, e0, e1, e7, e8]
  refine Jab (fun hc => ?_) (fun hc => ?_)
  . have hi : i < l.length := by omega
    rw [JaU l i hi, idxT] at hx; have hq := hh (gd l i) (Jas l i hi); simp -implicitDefEqProofs (disch := omega) only [go_sem, e0, e1, e7, e8, hcn, hcr, hhd, L14]
    refine Jaa hq ?_
    simp -implicitDefEqProofs (disch := omega) only [go_sem, e0, e1, e7, e8]
    refine Jab (fun hb => ?_) (fun hb => ?_)
    . have hb : Q (gd l i) = true := by simpa using hb
      rw [if_pos hb] at hx; simp -implicitDefEqProofs (disch := omega) only [go_sem, e0, e1, e7, e8, hx, results186]
    . have hb : ¬ Q (gd l i) = true := by simpa using hb
      rw [if_neg hb] at hx; simp -implicitDefEqProofs (disch := omega) only [go_sem, e0, e1, e7, e8]
      refine Jae (l.length - (i + 1)) (by omega) ⟨i + 1, by omega, hx, ?_⟩
      simp -implicitDefEqProofs (disch := omega) only [go_sem, e0, e1, e7, e8, hcn]
      rfl
  . obtain rfl : i = l.length := by omega
    rw [L0H, idxT] at hx; simp -implicitDefEqProofs (disch := omega) only [go_sem, e0, e1, e7, e8, hx, results186]
end Go.Proofs.YtnpbhgeffapojaaGreatDoor
namespace Go.Proofs
open Go.Shelf
def Tryz.lays189_ren : Go.Shelf.Ren := ⟨fun | 189 => 197 | 125 => 164 | 257 => 217 | 128 => 195 | 129 => 196 | 294 => 223 | 295 => 224 | 296 => 225 | 297 => 226 | 298 => 227 | 299 => 228 | 216 => 199 | 300 => 229 | 301 => 230 | 328 => 234 | 329 => 235 | 330 => 236 | 331 => 237 | 332 => 238 | 215 => 218 | 343 => 240 | n => n, fun | 28 => 25 | 3 => 3 | 46 => 243 | 0 => 0 | 51 => 273 | 53 => 178 | 4 => 4 | 183 => 307 | 182 => 306 | 131 => 180 | 5 => 5 | 9 => 9 | 218 => 313 | 222 => 317 | 228 => 320 | 229 => 222 | n => n, fun | n => n⟩
theorem Tryz.lays189 : Go.Proofs.Lays.n189 prog Tryz.lays189_ren := {
  mixed := by kernel_rfl
  f125 := func164.trans (congrArg some (by kernel_rfl))
  f128 := func195.trans (congrArg some (by kernel_rfl))
  f129 := func196.trans (congrArg some (by kernel_rfl))
  f189 := func197.trans (congrArg some (by kernel_rfl))
  f215 := func218.trans (congrArg some (by kernel_rfl))
  f216 := func199.trans (congrArg some (by kernel_rfl))
  f257 := func217.trans (congrArg some (by kernel_rfl))
  f294 := func223.trans (congrArg some (by kernel_rfl))
  f295 := func224.trans (congrArg some (by kernel_rfl))
  f296 := func225.trans (congrArg some (by kernel_rfl))
  f297 := func226.trans (congrArg some (by kernel_rfl))
  f298 := func227.trans (congrArg some (by kernel_rfl))
  f299 := func228.trans (congrArg some (by kernel_rfl))
  f300 := func229.trans (congrArg some (by kernel_rfl))
  f301 := func230.trans (congrArg some (by kernel_rfl))
  f328 := func234.trans (congrArg some (by kernel_rfl))
  f329 := func235.trans (congrArg some (by kernel_rfl))
  f330 := func236.trans (congrArg some (by kernel_rfl))
  f331 := func237.trans (congrArg some (by kernel_rfl))
  f332 := func238.trans (congrArg some (by kernel_rfl))
  f343 := func240.trans (congrArg some (by kernel_rfl))
  t0 := Tryz.underlying0
  a0 := Tryz.isAgg0
  z0 := Tryz.sizeOf0
  v0 := Tryz.zeroValue0
  t3 := Tryz.underlying3
  a3 := Tryz.isAgg3
  z3 := Tryz.sizeOf3
  v3 := Tryz.zeroValue3
  t4 := Tryz.underlying4
  a4 := Tryz.isAgg4
  z4 := Tryz.sizeOf4
  v4 := Tryz.zeroValue4
  t5 := Tryz.underlying5
  a5 := Tryz.isAgg5
  z5 := Tryz.sizeOf5
  v5 := Tryz.zeroValue5
  t9 := Tryz.underlying9
  a9 := Tryz.isAgg9
  z9 := Tryz.sizeOf9
  v9 := Tryz.zeroValue9
  t28 := Tryz.underlying25
  a28 := Tryz.isAgg25
  z28 := Tryz.sizeOf25
  v28 := Tryz.zeroValue25
  t46 := Tryz.underlying243
  a46 := Tryz.isAgg243
  z46 := Tryz.sizeOf243
  v46 := Tryz.zeroValue243
  t51 := Tryz.underlying273
  a51 := Tryz.isAgg273
  z51 := Tryz.sizeOf273
  v51 := Tryz.zeroValue273
  t53 := Tryz.underlying178
  a53 := Tryz.isAgg178
  z53 := Tryz.sizeOf178
  v53 := Tryz.zeroValue178
  t131 := Tryz.underlying180
  a131 := Tryz.isAgg180
  z131 := Tryz.sizeOf180
  v131 := Tryz.zeroValue180
  t182 := Tryz.underlying306
  a182 := Tryz.isAgg306
  z182 := Tryz.sizeOf306
  v182 := Tryz.zeroValue306
  t183 := Tryz.underlying307
  a183 := Tryz.isAgg307
  z183 := Tryz.sizeOf307
  v183 := Tryz.zeroValue307
  t218 := Tryz.underlying313
  a218 := Tryz.isAgg313
  z218 := Tryz.sizeOf313
  v218 := Tryz.zeroValue313
  t222 := Tryz.underlying317
  a222 := Tryz.isAgg317
  z222 := Tryz.sizeOf317
  v222 := Tryz.zeroValue317
  t228 := Tryz.underlying320
  a228 := Tryz.isAgg320
  z228 := Tryz.sizeOf320
  v228 := Tryz.zeroValue320
  t229 := Tryz.underlying222
  a229 := Tryz.isAgg222
  z229 := Tryz.sizeOf222
  v229 := Tryz.zeroValue222 }
open Go.Sort Go.RowKit in
theorem Tryz.slices_Sort_int (blk off cap : Nat) (zs : List Int) (w : World) (hH : Holds (Value.int .i64) w blk off zs.toArray) (hblk : blk < w.heap.size) (hsz : zs.length < 4611686018427387904) :
    Calls prog 197 #[.slice (some ⟨blk, off, none⟩) zs.length cap] w fun e w' =>
      e = .returned (.tuple #[]) /\ ∃ n os, w' = grow (putRow (Value.int .i64) (Sort.ahead w n) blk off (zs.mergeSort fun x y => decide (x <= y)).toArray) os := Any.slices_Sort_int Tryz.lays189 blk off cap zs w hH hblk hsz
def Tryz.laysNm220_ren : Go.Shelf.Ren := ⟨fun | 20 => 198 | n => n, fun | 22 => 25 | 3 => 3 | 4 => 4 | 0 => 0 | n => n, fun | n => n⟩
theorem Tryz.laysNm220 : Go.Proofs.Lays2.n20 prog Tryz.laysNm220_ren := {
  mixed := by kernel_rfl
  f20 := func198.trans (congrArg some (by kernel_rfl))
  t0 := Tryz.underlying0
  a0 := Tryz.isAgg0
  z0 := Tryz.sizeOf0
  v0 := Tryz.zeroValue0
  t3 := Tryz.underlying3
  a3 := Tryz.isAgg3
  z3 := Tryz.sizeOf3
  v3 := Tryz.zeroValue3
  t4 := Tryz.underlying4
  a4 := Tryz.isAgg4
  z4 := Tryz.sizeOf4
  v4 := Tryz.zeroValue4
  t22 := Tryz.underlying25
  a22 := Tryz.isAgg25
  z22 := Tryz.sizeOf25
  v22 := Tryz.zeroValue25
  i3 := by kernel_rfl }
open Go.RowKit Go.Lib Go.Sort in
theorem Tryz.slices_Compact_int (blk off cap : Nat) (zs : List Int) (w : World) (hH : Holds (Value.int .i64) w blk off zs.toArray) (hsz : zs.length <= 9223372036854775807) (hcap : zs.length <= cap) :
    Calls prog 198 #[.slice (some ⟨blk, off, none⟩) zs.length cap] w fun e w' => e = .returned (.slice (some ⟨blk, off, none⟩) (Lib.compact zs).length cap) /\ ∃ q, w' = putRow (Value.int .i64) (Sort.ahead w q) blk off (Lib.compact zs ++ List.replicate (zs.length - (Lib.compact zs).length) 0).toArray := Any.slices_Compact_int Tryz.laysNm220 blk off cap zs w hH hsz hcap
end Go.Proofs
namespace Go.Proofs.YtnpbhgeffapojaaGreatDoor
open Go.Proofs.Tryz
open Go.Vai Go Go.Proofs
theorem JCV : Jwp prog 197 := fun blk off cap zs w hH hblk hsz => Tryz.slices_Sort_int blk off cap zs w hH hblk hsz
theorem JBs : Jwl prog 198 Lib.compact := fun blk off cap zs w hH hsz hcap => Tryz.slices_Compact_int blk off cap zs w hH hsz hcap
theorem JmK {l : List Int} (h : l.Pairwise (· <= ·)) : (Lib.compact l).Pairwise (· <= ·) := by
  unfold Lib.compact Lib.compactUpTo
  refine List.pairwise_map.2 ?_
  refine List.Pairwise.filter _ ?_
  refine List.Pairwise.imp_of_mem (R := (· < ·)) (fun {a b} ha hb hab => ?_) List.pairwise_lt_range
  have hb : b < l.length := by simpa using hb
  have := List.pairwise_iff_getElem.1 h a b (by omega) hb hab
  simp [show a < l.length by omega, hb]
  exact this
theorem Jky (l : List Int) (x : Int) : x ∈ Lib.compact l ↔ x ∈ l := by
  unfold Lib.compact Lib.compactUpTo; simp only [L06, List.mem_filter, L0P]
  constructor
  . rintro ⟨i, ⟨hi, _⟩, rfl⟩
    simp [hi]
  . intro hx
    obtain ⟨i, hi, rfl⟩ := List.getElem_of_mem hx
    clear hx
    induction i with
    | zero => exact ⟨0, ⟨hi, by simp [Lib.keeps]⟩, by simp [hi]⟩
    | succ i ih =>
      by_cases h : l[i + 1] = l[i]
      . rw [h]; exact ih (by omega)
      . refine ⟨i + 1, ⟨hi, ?_⟩, by simp [hi]⟩
        simp [Lib.keeps, hi, show i < l.length by omega, h]
def loF : List Int -> Int -> Nat
  | [], _ => 0
  | y :: l, v => if y < v then loF l v + 1 else 0
theorem JsF : ∀ (l : List Int) (v : Int), loF l v <= l.length
  | [], _ => L0a _
  | y :: l, v => by
    rw [loF]; split
    . have := JsF l v; simp; omega
    . simp
theorem Jo4 : ∀ (l : List Int) (v : Int) (i : Nat), i < loF l v -> gd l i < v
  | [], _, _, h => by simp [loF] at h
  | y :: l, v, i, h => by
    rw [loF] at h
    split at h
    . cases i with
      | zero => rw [JaD]; assumption
      | succ i => rw [Jaz]; exact Jo4 l v i (by omega)
    . omega
theorem Jo3 : ∀ (l : List Int) (v : Int) (i : Nat), l.Pairwise (· <= ·) -> loF l v <= i -> i < l.length -> v <= gd l i
  | [], _, _, _, _, h => by simp at h
  | y :: l, v, i, hp, h, hi => by
    rw [loF] at h; have hp := L1t.1 hp
    split at h
    . cases i with
      | zero => omega
      | succ i => rw [Jaz]; exact Jo3 l v i hp.2 (by omega) (by simpa using hi)
    . cases i with
      | zero => rw [JaD]; omega
      | succ i =>
        rw [Jaz]
        have := hp.1 (gd l i) (Jas l i (by simpa using hi))
        omega
def Jhy (l : List Int) (v : Int) : Int := if loF l v < l.length then gd l (loF l v) else 86400
theorem Jrg (l : List Int) (v : Int) (hp : l.Pairwise (· <= ·)) (hv : v <= 86400) : v <= Jhy l v := by
  unfold Jhy; split
  . exact Jo3 l v _ hp (L0a _) (by assumption)
  . exact hv
theorem Jrh (l : List Int) (v : Int) (hl : ∀ y ∈ l, y <= 86400) : Jhy l v <= 86400 := by
  unfold Jhy; split
  . exact hl _ (Jas l _ (by assumption))
  . exact L1c _
theorem Jri (l : List Int) (v : Int) (hp : l.Pairwise (· <= ·)) (y : Int) (hy : y ∈ l) (h : v <= y) : Jhy l v <= y := by
  obtain ⟨i, hi, rfl⟩ := List.getElem_of_mem hy
  have hg : gd l i = l[i] := by unfold gd; simp [hi]
  have hlo : loF l v <= i := by
    refine Decidable.byContradiction fun hc => ?_
    have := Jo4 l v i (by omega)
    rw [hg] at this; omega
  unfold Jhy
  rw [if_pos (by omega)]
  rcases Nat.lt_or_eq_of_le hlo with h1 | h1
  . have := List.pairwise_iff_getElem.1 hp (loF l v) i (by omega) hi h1
    have hg2 : gd l (loF l v) = l[loF l v] := by unfold gd; simp [show loF l v < l.length by omega]
    rw [hg2]; exact this
  . rw [h1, hg]; exact L1c _
def hitR (s : Int) (r : Rt) : Bool := decide (r.d / 2 ^ (s / 86400).toNat % 2 = 1 /\ r.f <= s % 86400 /\ s % 86400 < r.t)
def Jf5 (x : Tf) (s : Int) : Int := match x.l.find? (hitR s) with | some r => r.p | none => x.b
def JbG (x : Tf) : Bool := decide (0 <= x.b /\ x.b <= 1000000 /\ x.l.length <= 10) && x.l.all JmU
theorem Jb6 {x : Tf} : JbG x = true ↔ (0 <= x.b /\ x.b <= 1000000 /\ x.l.length <= 10) /\ ∀ r ∈ x.l, JmU r = true := by
  unfold JbG; rw [L00, decide_eq_true_iff, L0b]
theorem Jmb {x : Tf} (h : JbG x = true) (s : Int) : 0 <= Jf5 x s /\ Jf5 x s <= 1000000 := by
  obtain ⟨h1, h2⟩ := Jb6.1 h
  unfold Jf5
  split
  . rename_i r hr
    have := Jcm.1 (h2 r (List.mem_of_find?_eq_some hr))
    exact this.2.2.2.2.2
  . exact ⟨h1.1, h1.2.1⟩
def rawF (x : Tf) : List Int := 0 :: x.l.flatMap fun r => [r.f, r.t % 86400]
def chgF (x : Tf) : List Int := Lib.compact (Jdu (rawF x))
theorem Jkw (x : Tf) : (chgF x).Pairwise (· <= ·) := by
  refine JmK ?_
  have := List.pairwise_mergeSort (le := fun (x y : Int) => decide (x <= y)) (fun a b c h1 h2 => by simp at *; omega) (fun a b => by simp; omega) (rawF x)
  exact this.imp fun h => by simpa using h
theorem Jly (x : Tf) (y : Int) : y ∈ chgF x ↔ y ∈ rawF x := by
  unfold chgF; rw [Jky, JpR]
theorem Jtr {x : Tf} (h : JbG x = true) (y : Int) (hy : y ∈ chgF x) : 0 <= y /\ y < 86400 := by
  rw [Jly] at hy; unfold rawF at hy
  rcases L0h.1 hy with rfl | hy
  . omega
  . obtain ⟨r, hr, hy⟩ := List.mem_flatMap.1 hy
    have := Jcm.1 ((Jb6.1 h).2 r hr)
    simp only [L0h, List.mem_nil_iff, or_false] at hy
    omega
def endF (x : Tf) (u : Int) : Int := Jhy (chgF x) (u + 1)
theorem Jip {x : Tf} (h : JbG x = true) {u : Int} (h0 : 0 <= u) (h1 : u < 86400) : u < endF x u /\ endF x u <= 86400 := by
  refine ⟨?_, Jrh _ _ fun y hy => by have := Jtr h y hy; omega⟩
  have := Jrg (chgF x) (u + 1) (Jkw x) (by omega)
  unfold endF; omega
theorem Jnf {x : Tf} (h : JbG x = true) {s : Int} (h0 : 0 <= s) {i : Int} (hi : 0 <= i) (hlt : s % 86400 + i < endF x (s % 86400)) : Jf5 x (s + i) = Jf5 x s := by
  have he := Jip h (u := s % 86400) (by omega) (by omega)
  have hd : (s + i) / 86400 = s / 86400 := by omega
  have hm : (s + i) % 86400 = s % 86400 + i := by omega
  have hno : ∀ y ∈ rawF x, ¬ (s % 86400 < y /\ y < endF x (s % 86400)) := fun y hy hh => by
    have := Jri (chgF x) (s % 86400 + 1) (Jkw x) y ((Jly x y).2 hy) (by omega)
    unfold endF at hh; omega
  have hq : ∀ r ∈ x.l, hitR (s + i) r = hitR s r := fun r hr => by
    have hg := Jcm.1 ((Jb6.1 h).2 r hr)
    have n1 := hno r.f (by unfold rawF; exact L1w _ (List.mem_flatMap.2 ⟨r, hr, by simp⟩))
    have n2 := hno (r.t % 86400) (by unfold rawF; exact L1w _ (List.mem_flatMap.2 ⟨r, hr, by simp⟩))
    unfold hitR; rw [hd, hm]
    apply decide_eq_decide.2
    refine and_congr Iff.rfl ?_
    omega
  have hf : x.l.find? (hitR (s + i)) = x.l.find? (hitR s) := by
    generalize x.l = l at hq
    induction l with
    | nil => rfl
    | cons r l ih =>
      rw [L2b, L2b, hq r (by simp), ih fun r' h' => hq r' (by simp [h'])]
  unfold Jf5; rw [hf]
def psum (g : Int -> Int) (a : Int) : Nat -> Int
  | 0 => 0
  | n + 1 => psum g a n + g (a + n)
theorem JiO (g : Int -> Int) (a : Int) (m : Nat) : ∀ n : Nat, psum g a (m + n) = psum g a m + psum g (a + m) n
  | 0 => by simp [psum]
  | n + 1 => by
    rw [<- L0L, psum, psum, JiO g a m n, show a + ((m + n : Nat) : Int) = a + m + n by omega]
    omega
theorem JhY {g : Int -> Int} {a c : Int} : ∀ {n : Nat}, (∀ i : Nat, i < n -> g (a + i) = c) -> psum g a n = c * n
  | 0, _ => by simp [psum]
  | n + 1, h => by
    rw [psum, JhY fun i hi => h i (by omega), h n (by omega), show ((n + 1 : Nat) : Int) = n + 1 from rfl, Int.mul_add, Int.mul_one]
theorem JhZ {g : Int -> Int} {a b : Int} : ∀ {n : Nat}, (∀ i : Nat, i < n -> g (a + i) = g (b + i)) -> psum g a n = psum g b n
  | 0, _ => rfl
  | n + 1, h => by rw [psum, psum, JhZ fun i hi => h i (by omega), h n (by omega)]
theorem Jpx {g : Int -> Int} {a : Int} {c : Int} (h : ∀ t, 0 <= g t /\ g t <= c) : ∀ n : Nat, 0 <= psum g a n /\ psum g a n <= c * n
  | 0 => by simp [psum]
  | n + 1 => by
    have := Jpx (a := a) h n
    have h2 := h (a + n)
    rw [psum, show ((n + 1 : Nat) : Int) = n + 1 from rfl, Int.mul_add, Int.mul_one]
    omega
theorem Jhh {g : Int -> Int} {k : Nat} (hg : ∀ t, 0 <= t -> g (t + k) = g t) {a : Int} (ha : 0 <= a) : ∀ n : Nat, g (a + ((n * k : Nat) : Int)) = g a
  | 0 => by simp
  | n + 1 => by
    rw [<- Jhh hg ha n, <- hg (a + ((n * k : Nat) : Int)) (by omega)]
    congr 1
    rw [L10]; omega
theorem Jh0 {g : Int -> Int} {k : Nat} (hg : ∀ t, 0 <= t -> g (t + k) = g t) {a : Int} (ha : 0 <= a) : ∀ n : Nat, psum g a (n * k) = n * psum g a k
  | 0 => by simp [psum]
  | n + 1 => by
    rw [L10, JiO, Jh0 hg ha n]
    have : psum g (a + ((n * k : Nat) : Int)) k = psum g a k := by
      refine JhZ fun i _ => ?_
      have := Jhh hg (a := a + i) (by omega) n
      rw [<- this]
      congr 1
      omega
    rw [this, show ((n + 1 : Nat) : Int) = n + 1 from rfl, Int.add_mul, Int.one_mul]
def locF (z t : Int) : Int := (t + z + 604800) % 604800
def Jg4 (x : Tf) (z t : Int) : Int := Jf5 x (locF z t)
def sumF (x : Tf) (z a b : Int) : Int := psum (Jg4 x z) a (b - a).toNat
theorem Jfi {z : Int} : Jdr z = true ↔ -50400 <= z /\ z <= 50400 := decide_eq_true_iff
theorem Jrx {x : Tf} (h : JbG x = true) (z t : Int) : 0 <= Jg4 x z t /\ Jg4 x z t <= 1000000 := Jmb h _
theorem Jnd (x : Tf) (z t : Int) : Jg4 x z (t + (604800 : Nat)) = Jg4 x z t := by
  unfold Jg4 locF
  congr 1
  omega
theorem Jpo {x : Tf} (h : JbG x = true) {z a b : Int} (hz : Jdr z = true) (ha : 0 <= a) (hab : a <= b) (hb : b <= a + endF x (locF z a % 86400) - locF z a % 86400) : sumF x z a b = Jf5 x (locF z a) * (b - a) := by
  have hl : 0 <= locF z a := by unfold locF; omega
  have hl2 : locF z a < 604800 := by unfold locF; omega
  have he := Jip h (u := locF z a % 86400) (by omega) (by omega)
  unfold sumF
  rw [JhY (c := Jf5 x (locF z a)) fun i hi => ?_, L1Y (by omega)]
  have hloc : locF z (a + i) = locF z a + i := by
    unfold locF at *; omega
  unfold Jg4; rw [hloc]
  exact Jnf h hl (by omega) (by omega)
theorem JiY (x : Tf) (z : Int) {a b c : Int} (h1 : a <= b) (h2 : b <= c) : sumF x z a c = sumF x z a b + sumF x z b c := by
  unfold sumF
  rw [show (c - a).toNat = (b - a).toNat + (c - b).toNat by omega, JiO, L1Y (by omega), show a + (b - a) = b by omega]
theorem Jdp {x : Tf} (h : JbG x = true) (z a b : Int) (hab : a <= b) : 0 <= sumF x z a b /\ sumF x z a b <= 1000000 * (b - a) := by
  have := Jpx (a := a) (Jrx h z) (b - a).toNat
  rw [L1Y (by omega)] at this
  exact this
theorem Jnt (x : Tf) (z : Int) {a b : Int} (ha : 0 <= a) (hab : a <= b) : sumF x z a b = sumF x z (a + (b - a) / 604800 * 604800) b + (b - a) / 604800 * sumF x z a (a + 604800) := by
  rw [JiY x z (a := a) (b := a + (b - a) / 604800 * 604800) (by omega) (by omega), Int.add_comm]
  congr 1
  obtain ⟨n, hn⟩ : ∃ n : Nat, (b - a) / 604800 = n := ⟨((b - a) / 604800).toNat, by omega⟩
  rw [hn]; unfold sumF
  rw [show (a + (n : Int) * 604800 - a).toNat = n * 604800 by omega, show (a + 604800 - a).toNat = 604800 by omega]
  exact Jh0 (fun t _ => Jnd x z t) ha n
def pcsF (x : Tf) (z b : Int) : Nat -> Int -> List (Int × Int × Int)
  | 0, _ => []
  | k + 1, a => if a < b then (a, min (a + endF x (locF z a % 86400) - locF z a % 86400) b, Jf5 x (locF z a)) :: pcsF x z b k (min (a + endF x (locF z a % 86400) - locF z a % 86400) b) else []
theorem Jre (z t : Int) (h : Jdr z = true) (ht : 0 <= t /\ t <= 100000000) : Ev prog 167 [I z, I t] (I (locF z t)) := by
  have hz := Jfi.1 h
  have h1 : (t + z + 604800).tmod 604800 = locF z t := by rw [L12 (by omega)]; rfl
  refine EV func167 ?_
  simp -implicitDefEqProofs (disch := omega) only [go_sem, ntmps167, results167, h1]
theorem Jtg (v : Int) (h0 : 0 <= v) (h1 : v <= 127) : Ja6 .and .i64 v 1 = v % 2 := by
  obtain ⟨n, rfl⟩ : ∃ n : Nat, v = n := ⟨v.toNat, by omega⟩
  have : ∀ m : Fin 128, Ja6 .and .i64 ((m : Nat) : Int) 1 = ((m : Nat) : Int) % 2 := by decide +kernel
  exact this ⟨n, by omega⟩
theorem Jpy (r : Rt) (s : Int) (hr : JmU r = true) (h0 : 0 <= s) (h1 : s < 604800) : Ev prog 201 [TP r, .pt (I s) 0] (B (hitR s r)) := by
  have hg := Jcm.1 hr
  have hd : s.tdiv 86400 = s / 86400 := L1g h0
  have hm : s.tmod 86400 = s % 86400 := L12 h0
  have hb : Ja6 .and .i64 (r.d.fdiv (2 ^ min (s / 86400).toNat 64)) 1 = r.d / 2 ^ (s / 86400).toNat % 2 := by
    rw [L0N (by omega), L1I _ (Int.le_of_lt (Int.pow_pos (by omega)))]
    refine Jtg _ (L1T (by omega) (Int.le_of_lt (Int.pow_pos (by omega)))) ?_
    exact Int.le_trans (Int.ediv_le_self _ (by omega)) hg.2.1
  refine EV func201 ?_
  simp -implicitDefEqProofs (disch := omega) only [go_sem, ntmps201, hd, hm, hb]; unfold hitR; generalize r.d / 2 ^ (s / 86400).toNat % 2 = q
  refine Jab (fun hc => ?_) (fun hc => ?_)
  . simp -implicitDefEqProofs (disch := omega) only [go_sem, hd, hm, hc]
    refine Jaa (Jde (s % 86400) r.f (r.t - 1)) ?_
    simp -implicitDefEqProofs (disch := omega) only [go_sem, hc, results201, true_and]
    congr 2
    apply decide_eq_decide.2
    omega
  . simp -implicitDefEqProofs (disch := omega) only [go_sem, hd, hm, hc, results201, false_and]
theorem JlG (Q : Rt -> Bool) : ∀ (l : List Rt) (v : Nat), (idxT Q l v = -1 /\ l.find? Q = none) \/ ∃ i : Nat, i < l.length /\ idxT Q l v = ((v + i : Nat) : Int) /\ l.find? Q = some (gd l i)
  | [], _ => .inl ⟨rfl, rfl⟩
  | r :: l, v => by
    rw [idxT, L2b]
    by_cases h : Q r = true
    . rw [if_pos h, h]; exact .inr ⟨0, by simp, rfl, by rw [JaD]⟩
    . rw [if_neg h, show Q r = false by simpa using h]
      rcases JlG Q l (v + 1) with ⟨h1, h2⟩ | ⟨i, h1, h2, h3⟩
      . exact .inl ⟨h1, h2⟩
      . exact .inr ⟨i + 1, by simpa using h1, by rw [h2]; congr 1; omega, by rw [Jaz]; exact h3⟩
theorem JrC (x : Tf) (s : Int) (h : JbG x = true) (h0 : 0 <= s) (h1 : s < 604800) : Ev prog 169 [TF x, I s] (I (Jf5 x s)) := by
  obtain ⟨hb, hl⟩ := Jb6.1 h
  refine EV func169 ?_
  simp -implicitDefEqProofs (disch := omega) only [go_sem, ntmps169]
  refine Jam rfl ?_
  refine JaS [356515888] ?_
  simp -implicitDefEqProofs (disch := omega) only [go_sem]
  refine Jaa (JoK 201 [.pt (I s) 0] (hitR s) x.l (fun r hr => Jpy r s (hl r hr) h0 h1) (fun _ => rfl) (fun _ => rfl) (by omega)) ?_
  have hf : Jf5 x s = match x.l.find? (hitR s) with | some r => r.p | none => x.b := rfl
  rcases JlG (hitR s) x.l 0 with ⟨h2, h3⟩ | ⟨i, h2, h3, h4⟩
  . rw [h3] at hf; simp -implicitDefEqProofs (disch := omega) only [go_sem, h2, hf, results169]
  . rw [h4] at hf; rw [L0q] at h3; simp -implicitDefEqProofs (disch := omega) only [go_sem, h3, hf]
    refine Jau (by omega) ?_
    simp -implicitDefEqProofs (disch := omega) only [go_sem, h3, hf, results169]
theorem JlP (Q : Rt -> Bool) : ∀ (l : List Rt) (v : Nat), (∀ r ∈ l, Q r = false) -> idxT Q l v = -1
  | [], _, _ => rfl
  | r :: l, v, h => by
    rw [idxT, if_neg (by rw [h r (by simp)]; simp)]
    exact JlP Q l (v + 1) fun r h' => h r (by simp [h'])
theorem Jkz (l : List Rt) (h : ∀ r ∈ l, JmU r = true) (hl : l.length <= 1000000) : Ev prog 151 [TS l, .clo 149 []] (B false) := by
  have hx := JoK 149 [] (fun _ => false) l (fun r hr => Jq3 r (h r hr)) (fun _ => rfl) (fun _ => rfl) hl
  rw [JlP _ l 0 fun _ _ => rfl] at hx
  refine EV func151 ?_
  simp -implicitDefEqProofs (disch := omega) only [go_sem, ntmps151]
  refine Jaa hx ?_
  simp -implicitDefEqProofs (disch := omega) only [go_sem, results151]
theorem Jmq (x : Tf) (h : JbG x = true) : Ev prog 105 [TF x] (B true) := by
  obtain ⟨⟨h1, h2, h3⟩, h4⟩ := Jb6.1 h
  refine EV func105 ?_
  simp -implicitDefEqProofs (disch := omega) only [go_sem, ntmps105]
  refine Jaa (Jde x.b 0 1000000) ?_
  rw [decide_eq_true ⟨h1, h2⟩]; simp -implicitDefEqProofs (disch := omega) only [go_sem]
  have h5 : decide ((x.l.length : Int) <= 10) = true := decide_eq_true (by omega)
  refine Jbl (by omega) ?_
  simp -implicitDefEqProofs (disch := omega) only [go_sem, h5]
  refine Jaa (Jkz x.l h4 (by omega)) ?_
  simp -implicitDefEqProofs (disch := omega) only [go_sem, results105]
theorem JoP (x : Tf) (z f t : Int) (h : JbG x = true) : Ev prog 79 [TF x, I z, .agg [I f, I t]] (B (Jdr z && Jfc f t)) := by
  refine EV func79 ?_
  simp -implicitDefEqProofs (disch := omega) only [go_sem, ntmps79]
  refine Jaa (Jmq x h) ?_
  simp -implicitDefEqProofs (disch := omega) only [go_sem]
  refine Jaa (JoQ z) ?_
  cases Jdr z with
  | false => simp -implicitDefEqProofs (disch := omega) only [go_sem, results79, L0c]
  | true =>
    simp -implicitDefEqProofs (disch := omega) only [go_sem]
    refine Jaa (JmY f t) ?_
    cases Jfc f t with
    | false => simp -implicitDefEqProofs (disch := omega) only [go_sem, results79, L0k]
    | true => simp -implicitDefEqProofs (disch := omega) only [go_sem, results79, L0k]
theorem Jpz (l : List Rt) : (l.flatMap fun r => [r.f, r.t % 86400]).length = 2 * l.length := by
  induction l with
  | nil => rfl
  | cons r l ih => rw [L2a, L08, ih]; simp; omega
theorem JrD (l : List Rt) (i : Nat) (h : i < l.length) : ((l.take (i + 1)).flatMap fun r => [r.f, r.t % 86400]) = ((l.take i).flatMap fun r => [r.f, r.t % 86400]) ++ [(gd l i).f, (gd l i).t % 86400] := by
  rw [List.take_succ_eq_append_getElem h, List.flatMap_append, L2a, List.flatMap_nil, L0F]
  unfold gd; simp [h]
@[go_sem] theorem JwT (l : List Int) (a b : Int) : l.map I ++ [.v (.int .i64 a), .v (.int .i64 b)] = (l ++ [a, b]).map I := by simp
theorem JmH (x : Tf) (h : JbG x = true) : Ev prog 166 [TF x] (SL (chgF x)) := by
  obtain ⟨⟨h1, h2, h3⟩, h4⟩ := Jb6.1 h
  refine EV func166 ?_
  simp -implicitDefEqProofs (disch := omega) only [go_sem, ntmps166]
  refine Jag (fun k E σ => ∃ (i : Nat) (o : List Int), i + k = x.l.length /\ o = 0 :: ((x.l.take i).flatMap fun r => [r.f, r.t % 86400]) /\ E 3 = .own 350224480 1 0 o.length /\ σ 350224480 = some ⟨3, 1, o.map I⟩ /\ E 8 = TS x.l /\ E 9 = I x.l.length /\ E 10 = I i) x.l.length ⟨0, [0], by omega, rfl, ?_⟩ ?_
  . simp -implicitDefEqProofs (disch := omega) only [go_sem]
    rfl
  rintro k E σ ⟨i, o, hk, ho, e3, m3, e8, e9, e10⟩
  have hol : o.length = 1 + 2 * i := by rw [ho, L0f, Jpz, L02]; omega
  simp -implicitDefEqProofs (disch := omega) only [go_sem, e3, e8, e9, e10, m3]
  refine Jab (fun hc => ?_) (fun hc => ?_)
  . have hi : i < x.l.length := by omega
    have hg := Jcm.1 (h4 _ (Jas x.l i hi))
    have hm : (gd x.l i).t.tmod 86400 = (gd x.l i).t % 86400 := L12 (by omega)
    simp -implicitDefEqProofs (disch := omega) only [go_sem, e3, e8, e9, e10, m3, hm, L0d]
    refine Jae (x.l.length - (i + 1)) (by omega) ⟨i + 1, o ++ [(gd x.l i).f, (gd x.l i).t % 86400], by omega, by rw [JrD _ _ hi, ho]; rfl, ?_⟩
    simp -implicitDefEqProofs (disch := omega) only [go_sem, e3, e8, e9, e10, m3]
    rfl
  . have hi : i = x.l.length := by omega
    rw [hi, L0d] at ho
    have ho : o = rawF x := ho
    subst ho; simp -implicitDefEqProofs (disch := omega) only [go_sem, e3, m3]
    refine Jam rfl ?_
    have hL := JpS (P := prog) (f := 197) (enters_of func197 (by kernel_rfl) rfl) JCV 350224480 3 (rawF x) (by omega) (by omega)
    refine Jq8 350224480 3 hL ?_ ?_ ?_ ?_ (by omega) ?_
    . simp -implicitDefEqProofs (disch := omega) only [go_sem, e3, m3]
    . simp -implicitDefEqProofs (disch := omega) only [go_sem, e3, m3]
    . simp -implicitDefEqProofs (disch := omega) only [go_sem, e3, m3]
    . simp -implicitDefEqProofs (disch := omega) only [go_sem, e3, m3]
    have hsl := JcH (rawF x); simp -implicitDefEqProofs (disch := omega) only [go_sem, e3, m3]
    refine Jam rfl ?_
    have hle := Lib.compact_length_le (Jdu (rawF x))
    have hL := Joa (P := prog) (f := 198) (enters_of func198 (by kernel_rfl) rfl) JBs 350224480 3 (Jdu (rawF x)) (by omega) (by omega) hle
    refine Jra 350224480 hL ?_ ?_ ?_ hle (by simp; omega) ?_
    . simp -implicitDefEqProofs (disch := omega) only [go_sem, e3, m3]
    . simp -implicitDefEqProofs (disch := omega) only [go_sem, e3, m3, hsl]
    . simp -implicitDefEqProofs (disch := omega) only [go_sem, e3, m3]
    rw [List.take_left' rfl]; simp -implicitDefEqProofs (disch := omega) only [go_sem, e3, m3, results166]
    rfl
theorem JxV (x : Int) : Ev prog 218 [I x] (B false) := by
  refine EV func218 ?_
  simp -implicitDefEqProofs (disch := omega) only [go_sem, ntmps218, results218]
  simp
theorem Juf (x : Int) : Ev prog 200 [I x] (B false) := by
  refine EV func200 ?_
  simp -implicitDefEqProofs (disch := omega) only [go_sem, ntmps200, results200]
  simp
theorem Jua (x y : Int) : Ev prog 199 [I x, I y] (B (decide (x < y))) := by
  refine EV func199 ?_
  simp -implicitDefEqProofs (disch := omega) only [go_sem, ntmps199]
  refine Jaa (JxV x) ?_
  simp -implicitDefEqProofs (disch := omega) only [go_sem, results199]
theorem JtR (i j : Nat) (h : i + j <= 100000) : IntKind.i64.wrap ((IntKind.u64.wrap ((i : Int) + (j : Int))).fdiv (2 ^ min 1 64)) = (((i + j) / 2 : Nat) : Int) := by
  have h1 : IntKind.u64.wrap ((i : Int) + (j : Int)) = (i : Int) + (j : Int) := by
    unfold IntKind.wrap; simp only [IntKind.bits, IntKind.signed]
    first | omega | (simp; omega)
  rw [h1, Jcy]
  . rw [show (2 : Int) ^ min 1 64 = 2 from rfl, L1I _ (by omega)]; omega
  . rw [show (2 : Int) ^ min 1 64 = 2 from rfl, L1I _ (by omega)]; omega
theorem JmE (l : List Int) (v : Int) (hp : l.Pairwise (· <= ·)) (hl : l.length <= 40000) : Ev prog 168 [SL l, I v] (.tup [I (loF l v : Nat), B (decide (loF l v < l.length /\ gd l (loF l v) = v))]) := by
  have hle := JsF l v
  refine EV func168 ?_
  simp -implicitDefEqProofs (disch := omega) only [go_sem, ntmps168]
  refine Jag (fun n E σ => ∃ (i j : Nat), i + n = j /\ i <= loF l v /\ loF l v <= j /\ j <= l.length /\ E 0 = SL l /\ E 1 = I v /\ E 6 = I l.length /\ E 7 = I i /\ E 8 = I j) l.length ⟨0, l.length, by omega, by omega, hle, by omega, ?_⟩ ?_
  . simp -implicitDefEqProofs (disch := omega) only [go_sem]
    rfl
  rintro n E σ ⟨i, j, hn, h1, h2, h3, e0, e1, e6, e7, e8⟩
  simp -implicitDefEqProofs (disch := omega) only [go_sem, e0, e1, e6, e7, e8]
  refine Jab (fun hc => ?_) (fun hc => ?_)
  . have hh := JtR i j (by omega)
    obtain ⟨h, hq⟩ : ∃ h, (i + j) / 2 = h := ⟨_, rfl⟩
    rw [hq] at hh; simp -implicitDefEqProofs (disch := omega) only [go_sem, e0, e1, e6, e7, e8, hh]
    refine Jaa (Jua (gd l h) v) ?_
    simp -implicitDefEqProofs (disch := omega) only [go_sem, e0, e1, e6, e7, e8, hh]
    refine Jab (fun hb => ?_) (fun hb => ?_)
    . have hb : gd l h < v := by simpa using hb
      have : h < loF l v := by
        refine Decidable.byContradiction fun hc => ?_
        have := Jo3 l v h hp (by omega) (by omega)
        omega
      simp -implicitDefEqProofs (disch := omega) only [go_sem, e0, e1, e6, e7, e8, hh]
      refine Jae (j - (h + 1)) (by omega) ⟨h + 1, j, by omega, by omega, by omega, by omega, ?_⟩
      simp -implicitDefEqProofs (disch := omega) only [go_sem, e0, e1, e6, e7, e8, hh]
      rfl
    . have hb : ¬ gd l h < v := by simpa using hb
      have : loF l v <= h := by
        refine Decidable.byContradiction fun hc => ?_
        have := Jo4 l v h (by omega)
        omega
      simp -implicitDefEqProofs (disch := omega) only [go_sem, e0, e1, e6, e7, e8, hh]
      refine Jae (h - i) (by omega) ⟨i, h, by omega, by omega, by omega, by omega, ?_⟩
      simp -implicitDefEqProofs (disch := omega) only [go_sem, e0, e1, e6, e7, e8, hh]
  . have hi : i = loF l v := by omega
    rw [<- hi]; simp -implicitDefEqProofs (disch := omega) only [go_sem, e0, e1, e6, e7, e8]
    refine Jab (fun hb => ?_) (fun hb => ?_)
    . have hil : i < l.length := by omega
      simp -implicitDefEqProofs (disch := omega) only [go_sem, e0, e1, e6, e7, e8]
      refine Jab (fun hg => ?_) (fun hg => ?_)
      . simp -implicitDefEqProofs (disch := omega) only [go_sem, e0, e1, e6, e7, e8, hg, results168]; rw [decide_eq_true hil]
      . simp -implicitDefEqProofs (disch := omega) only [go_sem, e0, e1, e6, e7, e8]
        refine Jaa (Juf (gd l i)) ?_
        simp -implicitDefEqProofs (disch := omega) only [go_sem, e0, e1, e6, e7, e8, hg, hil, results168]
    . have hil : ¬ i < l.length := by omega
      simp -implicitDefEqProofs (disch := omega) only [go_sem, e0, e1, e6, e7, e8, hb, hil, results168]
      rw [decide_eq_false (fun h => h.1)]
abbrev SP2 (a b : Int) : AV := .agg [I a, I b]
abbrev PW (q : Int × Int × Int) : List AV := [.agg [I q.1, I q.2.1, I q.2.2]]
abbrev PX (l : List (Int × Int × Int)) : List (List AV) := l.map PW
theorem JjK (p : Nat -> Bool) (l : List (Int × Int × Int)) : AV.namesL p ((PX l).map .tup) = false := by
  induction l with
  | nil => rfl
  | cons q l ih =>
    show AV.namesL p (.tup (PW q) :: (PX l).map .tup) = false
    simp only [go_sem, ih]
    first | done | simp
attribute [go_sem] JjK
theorem JpT (x : Tf) (z a b : Int) : Ev prog 125 [TF x, I z, SP2 a b] (.clo 165 [.pt (TF x) 0, .pt (SP2 a b) 0, .pt (I z) 0]) := by
  refine Jhs (r := .clo 165 [.nptr 96 2 [TF x], .nptr 66 2 [SP2 a b], .nptr 3 1 [I z]]) ?_ _
  refine EV func125 ?_
  simp -implicitDefEqProofs (disch := omega) only [go_sem, ntmps125, results125]
theorem JqI (x : Tf) (h : JbG x = true) : (chgF x).length <= 21 := by
  have h1 := Lib.compact_length_le (Jdu (rawF x)); rw [JcH] at h1; unfold chgF rawF at *; rw [L0f, Jpz] at h1
  have := (Jb6.1 h).1.2.2
  omega
theorem Jnq (x : Tf) (z a b : Int) (h : JbG x = true) (hz : Jdr z = true) (ha : 0 <= a) (hb : b <= 20000000) : SOK prog 165 [.pt (TF x) 0, .pt (SP2 a b) 0, .pt (I z) 0] (stO []) (PX (pcsF x z b (b - a).toNat a)) := by
  have hlen := JqI x h; have hz' := Jfi.1 hz
  refine Jj6 func165 rfl (by kernel_rfl) mo (nb rfl) ?_ rfl fun l => ?_
  . exact JjK allB _
  simp -implicitDefEqProofs (disch := omega) only [go_sem, ntmps165]
  refine Jaa (JmH x h) ?_
  simp -implicitDefEqProofs (disch := omega) only [go_sem]
  refine Jag (fun n E σ => ∃ (t : Int), (b - t).toNat <= n /\ 0 <= t /\ E 0 = .yld l /\ E 1 = .pt (TF x) 0 /\ E 2 = .pt (SP2 a b) 0 /\ E 3 = .pt (I z) 0 /\ E 5 = SL (chgF x) /\ E 6 = I t /\ E 59 = .tup ((PX (pcsF x z b n t)).map .tup)) (b - a).toNat ⟨a, L0a _, ha, ?_⟩ ?_
  . simp -implicitDefEqProofs (disch := omega) only [go_sem]
  rintro n E σ ⟨t, hn, ht, e0, e1, e2, e3, e5, e6, e59⟩
  simp -implicitDefEqProofs (disch := omega) only [go_sem, e0, e1, e2, e3, e5, e6, e59]
  refine Jab (fun hc => ?_) (fun hc => ?_)
  . obtain ⟨m, rfl⟩ : ∃ m, n = m + 1 := ⟨n - 1, by omega⟩
    rw [pcsF, if_pos hc] at e59; simp -implicitDefEqProofs (disch := omega) only [go_sem, e0, e1, e2, e3, e5, e6, e59]
    refine Jaa (Jre z t hz (by omega)) ?_
    have hl0 : 0 <= locF z t := by unfold locF; omega
    have hl1 : locF z t < 604800 := by unfold locF; omega
    have hm : (locF z t).tmod 86400 = locF z t % 86400 := L12 hl0
    have hed : endF x (locF z t % 86400) = Jhy (chgF x) (locF z t % 86400 + 1) := rfl
    have hei := Jip h (u := locF z t % 86400) (by omega) (by omega)
    have hra := JrC x (locF z t) h hl0 hl1
    obtain ⟨u, hu⟩ : ∃ u, locF z t = u := ⟨_, rfl⟩
    rw [hu] at hl0 hl1 hm hed hei hra e59; simp -implicitDefEqProofs (disch := omega) only [go_sem, e0, e1, e2, e3, e5, e6, e59, hu, hm]
    refine Jaa (JmE (chgF x) (u % 86400 + 1) (Jkw x) (by omega)) ?_
    simp -implicitDefEqProofs (disch := omega) only [go_sem, e0, e1, e2, e3, e5, e6, e59, hu, hm]
    refine Jab (fun hi => ?_) (fun hi => ?_)
    . have hg : gd (chgF x) (loF (chgF x) (u % 86400 + 1)) = endF x (u % 86400) := by
        rw [hed]; unfold Jhy; rw [if_pos (by omega)]
      simp -implicitDefEqProofs (disch := omega) only [go_sem, e0, e1, e2, e3, e5, e6, e59, hu, hm, hg]
      refine Jaa hra ?_
      simp -implicitDefEqProofs (disch := omega) only [go_sem, e0, e1, e2, e3, e5, e6, e59, hu, hm, hg]
      refine ⟨?_, .inr trivial⟩
      refine Jae m (by omega) ⟨min (t + endF x (u % 86400) - u % 86400) b, by omega, by omega, ?_⟩
      simp -implicitDefEqProofs (disch := omega) only [go_sem, e0, e1, e2, e3, e5, e6, e59, hu, hm]; try rfl
    . have hg : endF x (u % 86400) = 86400 := by
        rw [hed]; unfold Jhy; rw [if_neg (by omega)]
      rw [hg] at e59; simp -implicitDefEqProofs (disch := omega) only [go_sem, e0, e1, e2, e3, e5, e6, e59, hu, hm, hg]
      refine Jaa hra ?_
      simp -implicitDefEqProofs (disch := omega) only [go_sem, e0, e1, e2, e3, e5, e6, e59, hu, hm, hg]
      refine ⟨?_, .inr trivial⟩
      refine Jae m (by omega) ⟨min (t + 86400 - u % 86400) b, by omega, by omega, ?_⟩
      simp -implicitDefEqProofs (disch := omega) only [go_sem, e0, e1, e2, e3, e5, e6, e59, hu, hm]; try rfl
  . cases n with
    | zero =>
      have e59 : E 59 = .tup [] := e59
      simp -implicitDefEqProofs (disch := omega) only [go_sem, e59]
      exact .inl trivial
    | succ n =>
      rw [pcsF, if_neg hc] at e59
      have e59 : E 59 = .tup [] := e59
      simp -implicitDefEqProofs (disch := omega) only [go_sem, e59]
      exact .inl trivial
theorem JjS (σ : Jac) : only (inI []) σ = stO [] := by
  funext id
  simp [only, inI, stO]
theorem Jwm (l : List (Int × Int × Int)) : ∀ y ∈ PX l, y.length = 1 := fun y hy => by
  obtain ⟨q, _, rfl⟩ := L06.1 hy; rfl
theorem JnG (x : Tf) (z a b : Int) (h : JbG x = true) (hz : Jdr z = true) (ha : 0 <= a) (hab : a <= b) (hb : b <= 20000000) : Ev prog 124 [SP2 a b, .pt (TF x) 0, .pt (I z) 0] (I (sumF x z a b)) := by
  have hz' := Jfi.1 hz
  have h0 : sumF x z a a = 0 := by unfold sumF; rw [Int.sub_self]; rfl
  refine EV func124 ?_
  simp -implicitDefEqProofs (disch := omega) only [go_sem, ntmps124]
  refine Jaa (JpT x z a b) ?_
  simp -implicitDefEqProofs (disch := omega) only [go_sem]
  refine Jcb ?_
  refine Jd4 [] [262144080] 16384100 (PX (pcsF x z b (b - a).toNat a))
    (fun xs σ => ∃ (k : Nat) (t : Int), xs = PX (pcsF x z b k t) /\ (b - t).toNat <= k /\ a <= t /\ t <= b /\ σ 262144080 = some ⟨3, 1, [I (sumF x z a t)]⟩)
    (g := 165) (caps := [.pt (TF x) 0, .pt (SP2 a b) 0, .pt (I z) 0]) ?_ ?_ ?_ ?_ ?_ ?_ ?_ ?_
  . simp -implicitDefEqProofs (disch := omega) only [go_sem]
  . rw [JjS]; exact Jnq x z a b h hz ha hb
  . exact Jwm _
  . simp -implicitDefEqProofs (disch := omega) only [go_sem]
  . simp -implicitDefEqProofs (disch := omega) only [go_sem]
  . refine ⟨_, a, rfl, L0a _, L1c _, hab, ?_⟩
    simp -implicitDefEqProofs (disch := omega) only [go_sem, h0]
  . rintro E0 hE0 y rest σ' ⟨k, t, hx, hk, hat, htb, m5⟩
    have e5 : E0 5 = .ptr 262144080 1 0 0 := by rw [hE0]; simp -implicitDefEqProofs (disch := omega) only [go_sem]
    clear hE0
    cases k with
    | zero => cases hx
    | succ k =>
      rw [pcsF] at hx
      split at hx
      . rename_i hc; rw [PX, L0n, List.cons.injEq] at hx; obtain ⟨rfl, rfl⟩ := hx
        have hl0 : 0 <= locF z t := by unfold locF; omega
        have hei := Jip h (u := locF z t % 86400) (by omega) (by omega)
        obtain ⟨q, hq⟩ : ∃ q, min (t + endF x (locF z t % 86400) - locF z t % 86400) b = q := ⟨_, rfl⟩
        have hpq := Jpo h hz (a := t) (b := q) (by omega) (by omega) (by omega)
        have hin := Jdp h z t q (by omega)
        have hin2 := Jdp h z a t hat
        have hadd := JiY x z (a := a) (b := t) (c := q) hat (by omega)
        have hri := Jmb h (locF z t); rw [hq]
        have hd : 0 <= q - t /\ q - t <= 86400 := by omega
        simp -implicitDefEqProofs (disch := omega) only [go_sem, e5, m5, <- hpq, <- hadd]
        refine ⟨inL [], fun _ _ => rfl, k, q, rfl, by omega, by omega, by omega, ?_⟩
        simp -implicitDefEqProofs (disch := omega) only [go_sem]
      . cases hx
  . rintro E0 hE0 σ' ⟨k, t, hx, hk, hat, htb, m5⟩
    have e5 : E0 5 = .ptr 262144080 1 0 0 := by rw [hE0]; simp -implicitDefEqProofs (disch := omega) only [go_sem]
    clear hE0
    have htb' : t = b := by
      cases k with
      | zero => omega
      | succ k =>
        rw [pcsF] at hx
        split at hx
        . cases hx
        . omega
    subst htb'; simp -implicitDefEqProofs (disch := omega) only [go_sem, e5, m5, results124]
theorem Jp1 (x : Tf) (z a b : Int) (h : JbG x = true) (hz : Jdr z = true) (ha : 0 <= a) (hab : a <= b) (hb : b <= 10000000) : Ev prog 80 [TF x, I z, SP2 a b] (I (sumF x z a b)) := by
  have hw := Jnt x z ha hab
  have hq : (b - a).tdiv 604800 = (b - a) / 604800 := L1g (by omega)
  have hi1 := Jdp h z (a + (b - a) / 604800 * 604800) b (by omega)
  have hi2 := Jdp h z a (a + 604800) (by omega)
  have hi3 := Jdp h z a b hab
  have ev1 := JnG x z (a + (b - a) / 604800 * 604800) b h hz (by omega) (by omega) (by omega)
  have ev2 := JnG x z a (a + 604800) h hz ha (by omega) (by omega)
  have hw0 : 0 <= (b - a) / 604800 := by omega
  have hw1 : (b - a) / 604800 * 604800 <= b - a := by omega
  have hwp : (b - a) / 604800 = 0 \/ 0 < (b - a) / 604800 := by omega
  generalize (b - a) / 604800 = w at *; have hmp := L1K hw0 hi2.1
  refine EV func80 ?_
  simp -implicitDefEqProofs (disch := omega) only [go_sem, ntmps80, hq]
  refine Jam rfl ?_
  refine JaS [169869360, 169869376] ?_
  simp -implicitDefEqProofs (disch := omega) only [go_sem]
  refine Jaa ev1 ?_
  simp -implicitDefEqProofs (disch := omega) only [go_sem]
  rcases hwp with rfl | hwp
  . simp -implicitDefEqProofs (disch := omega) only [go_sem, results80]; rw [hw]
    simp
  . refine Jbl (by omega) ?_
    simp -implicitDefEqProofs (disch := omega) only [go_sem]
    refine Jaa ev2 ?_
    simp -implicitDefEqProofs (disch := omega) only [go_sem, <- hw, results80]
theorem Jc2 {f t : Int} : Jfc f t = true ↔ 0 <= f /\ f <= t /\ t <= 10000000 := decide_eq_true_iff
def amtF (x : Tf) (z a b : Int) : Int := sumF x z 0 b / 60 - sumF x z 0 a / 60
theorem Jgn (x : Tf) (z a b : Int) (h : JbG x = true) (hz : Jdr z = true) (hs : Jfc a b = true) : Ev prog 34 [TF x, I z, SP2 a b] (.tup [I (amtF x z a b), I 0]) := by
  obtain ⟨ha, hab, hb⟩ := Jc2.1 hs
  have hg := JoP x z a b h; rw [hz, hs] at hg
  have e1 := Jp1 x z 0 a h hz (by omega) ha (by omega)
  have e2 := Jp1 x z 0 b h hz (by omega) (by omega) (by omega)
  have i1 := Jdp h z 0 a (by omega)
  have i2 := Jdp h z 0 b (by omega)
  have q1 : (sumF x z 0 a).tdiv 60 = sumF x z 0 a / 60 := L1g i1.1
  have q2 : (sumF x z 0 b).tdiv 60 = sumF x z 0 b / 60 := L1g i2.1
  refine EV func34 ?_
  simp -implicitDefEqProofs (disch := omega) only [go_sem, ntmps34]
  refine Jaa hg ?_
  simp -implicitDefEqProofs (disch := omega) only [go_sem]
  refine Jag (fun n E σ => ∃ i : Nat, i + n = 2 /\ E 1 = I z /\ E 3 = .ptr 73400368 2 0 0 /\ E 8 = .ptr 73400448 2 0 0 /\ E 21 = .agg [I a, I b] /\ E 22 = I i /\ σ 73400368 = some ⟨96, 2, [TF x]⟩ /\ σ 73400448 = some ⟨104, 2, [.agg [I (if i = 0 then a else sumF x z 0 a / 60), I (if i = 2 then sumF x z 0 b / 60 else b)]]⟩) 2 ⟨0, rfl, ?_⟩ ?_
  . simp -implicitDefEqProofs (disch := omega) only [go_sem]; try rfl
  rintro n E σ ⟨i, hi, e1', e3, e8, e21, e22, m3, m8⟩
  obtain rfl | rfl | rfl : i = 0 \/ i = 1 \/ i = 2 := by omega
  . have e22 : E 22 = I 0 := e22
    have m8 : σ 73400448 = some ⟨104, 2, [.agg [I a, I b]]⟩ := m8
    simp -implicitDefEqProofs (disch := omega) only [go_sem, e1', e3, e8, e21, e22, m3, m8]
    refine Jaa e1 ?_
    simp -implicitDefEqProofs (disch := omega) only [go_sem, e1', e3, e8, e21, e22, m3, m8, q1]
    refine Jae 1 (by omega) ⟨1, rfl, ?_⟩
    simp -implicitDefEqProofs (disch := omega) only [go_sem, e1', e3, e8, e21, e22, m3, m8, q1]
    rfl
  . have e22 : E 22 = I 1 := e22
    have m8 : σ 73400448 = some ⟨104, 2, [.agg [I (sumF x z 0 a / 60), I b]]⟩ := m8
    simp -implicitDefEqProofs (disch := omega) only [go_sem, e1', e3, e8, e21, e22, m3, m8]
    refine Jaa e2 ?_
    simp -implicitDefEqProofs (disch := omega) only [go_sem, e1', e3, e8, e21, e22, m3, m8, q2]
    refine Jae 0 (by omega) ⟨2, rfl, ?_⟩
    simp -implicitDefEqProofs (disch := omega) only [go_sem, e1', e3, e8, e21, e22, m3, m8, q2]
    exact ⟨rfl, by rw [if_neg (fun h => h.1)]⟩
  . have e22 : E 22 = I 2 := e22
    have m8 : σ 73400448 = some ⟨104, 2, [.agg [I (sumF x z 0 a / 60), I (sumF x z 0 b / 60)]]⟩ := m8
    simp -implicitDefEqProofs (disch := omega) only [go_sem, e1', e3, e8, e21, e22, m3, m8, results34]
    rfl
end Go.Proofs.YtnpbhgeffapojaaGreatDoor

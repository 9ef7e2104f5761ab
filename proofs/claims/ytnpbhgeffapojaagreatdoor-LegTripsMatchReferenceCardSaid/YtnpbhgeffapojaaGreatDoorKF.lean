/- Digests, codes of numbers, tariffs -/
import Derived.Test.YtnpbhgeffapojaaGreatDoorKE
import Derived.Shelf.Strings.OnBuilder
import Derived.Shelf.Sort.Plain
import Derived.Ground.Names2Prog
import Derived.Shelf.Slices.CompactI
import Derived.Lib.RowBridge
set_option linter.all false
set_option maxRecDepth 100000
open Go.Proofs.Tryz
attribute [local go_sem] ntmps105 ntmps122 ntmps123 ntmps124 ntmps125 ntmps126 ntmps149 ntmps150 ntmps151 ntmps159 ntmps160 ntmps161 ntmps165 ntmps166 ntmps167 ntmps168 ntmps169 ntmps170 ntmps183 ntmps184 ntmps186 ntmps190 ntmps191 ntmps192 ntmps193 ntmps199 ntmps200 ntmps201 ntmps202 ntmps210 ntmps212 ntmps214 ntmps215 ntmps216 ntmps218 ntmps219 ntmps220 ntmps222 ntmps231 ntmps232 ntmps34 ntmps60 ntmps79 ntmps80 ntmps97 results105 results122 results123 results124 results125 results126 results149 results150 results151 results159 results160 results161 results166 results167 results168 results169 results170 results183 results184 results186 results190 results191 results192 results193 results199 results200 results201 results210 results212 results215 results216 results218 results219 results220 results222 results231 results232 results34 results60 results79 results80 results97
namespace Go.Proofs.YtnpbhgeffapojaaGreatDoor
open Go.Proofs.Tryz
open Go.Vai Go
theorem mo : prog.follows .mixedOrders = true := by kernel_rfl
theorem EV {f : FuncId} {g : Func} {c : Code} {args : List AV} {r : AV} (k : prog.funcs[f]? = some g) (h : awpC (spOf prog f g.ntmps) c (retC (spOf prog f g.ntmps) g r) (JbX args) fun _ => none) (j : g.body = some c := by rfl) (i : fnQ prog g c = true := by kernel_rfl) (m : args.length <= g.ntmps := by exact nb rfl) : Ev prog f args r := Jah k j i mo m h
theorem EW {f : FuncId} {i : Func} {c : Code} {args : List AV} {r : AV} (g : List Nat) (m : prog.funcs[f]? = some i) (h : awpC (spB prog f i.ntmps g) c (retC (spB prog f i.ntmps g) i r) (JbX args) fun _ => none) (k : i.body = some c := by rfl) (j : fnB prog i g c = true := by kernel_rfl) (o : args.length <= i.ntmps := by exact nb rfl) : Ev prog f args r := Jbv g m k j mo o h
theorem SA {P Q : Prop} (h : Q) (e : P = Q := by simp -implicitDefEqProofs (disch := omega) only [go_sem, false_and, and_self, beq_self_eq_true, bne_self_eq_false, *]; rfl) : P := e ▸ h
theorem SB {P : Prop} (e : P := by simp -implicitDefEqProofs (disch := omega) only [go_sem, false_and, and_self, beq_self_eq_true, bne_self_eq_false, *]) : P := e
abbrev U (n : Int) : AV := .v (.int .u32 n)
abbrev UL (l : List Int) : AV := .sl 1 (l.map U)
abbrev YL (l : List Int) : AV := .sl 1 (l.map Y)
abbrev Str (s : ByteArray) : AV := .v (.string s)
abbrev xr (a b : Int) : Int := Ja4 .xor .u32 a b
abbrev an (a b : Int) : Int := Ja4 .and .u32 a b
abbrev ad (a b : Int) : Int := IntKind.u32.wrap (a + b)
section
variable (p : Nat -> Bool) (l : List Int)
@[go_sem] theorem JAl : AV.namesL p (l.map U) = false := Jam p l U fun _ => rfl
@[go_sem] theorem JAm : AV.namesL p (l.map Y) = false := Jam p l Y fun _ => rfl
@[go_sem] theorem JBF : AV.flatL (l.map U) = true := Ja5 l U fun _ => rfl
@[go_sem] theorem JBG : AV.flatL (l.map Y) = true := Ja5 l Y fun _ => rfl
@[go_sem] theorem JA0 : JbH 1 (l.map U) = true := JaD 1 l U fun _ => ⟨rfl, rfl⟩
@[go_sem] theorem JA1 : JbH 1 (l.map Y) = true := JaD 1 l Y fun _ => ⟨rfl, rfl⟩
@[go_sem] theorem Jy6 (x : Int) : l.map U ++ [.v (.int .u32 x)] = (l ++ [x]).map U := by simp
@[go_sem] theorem Jy7 (x : Int) : l.map Y ++ [.v (.int .u8 x)] = (l ++ [x]).map Y := by simp
@[go_sem] theorem set_U (n : Nat) (x : Int) : (l.map U).set n (.v (.int .u32 x)) = (l.set n x).map U := by rw [List.map_set]
@[go_sem] theorem set_Y (n : Nat) (x : Int) : (l.map Y).set n (.v (.int .u8 x)) = (l.set n x).map Y := by rw [List.map_set]
theorem dnL_U : AV.dnL (l.map U) = false := by
 cases h : AV.dnL (l.map U) with
 | false => rfl
 | true => obtain ⟨c, i, g⟩ := (Jij _).1 h; obtain ⟨x, _, rfl⟩ := L08.1 i; cases g
end
theorem Jmo (x : Int) : IntKind.u32.wrap x = x % 4294967296 := by
 simp [IntKind.wrap, IntKind.bits, IntKind.signed]
theorem Jp6 (x : Int) : 0 <= IntKind.u32.wrap x /\ IntKind.u32.wrap x < 4294967296 := by rw [Jmo]; omega
theorem JmE (op : BinOp) (a b : Int) : 0 <= Ja4 op .u32 a b /\ Ja4 op .u32 a b < 4294967296 := by
 unfold Ja4
 cases op <;> first | exact Jp6 _ | simp
theorem Jpj (a b : Int) : Ja4 .or .u32 a b = Ja4 .or .u32 b a := by simp only [Ja4]; rw [BitVec.or_comm]
theorem JdY (a : Int) (h : 0 <= a /\ a < 4294967296) : Ja4 .xor .u32 0 a = a := by
 show IntKind.u32.wrap (((BitVec.ofInt 32 0 ^^^ BitVec.ofInt 32 a : BitVec 32).toNat : Nat) : Int) = a
 rw [show (BitVec.ofInt 32 0 : BitVec 32) = 0#32 from rfl, BitVec.zero_xor, Jmo, BitVec.toNat_ofInt]
 omega
theorem JiY (a b : Int) : 0 <= Ja4 .and .u64 a b := by
 simp only [Ja4, IntKind.wrap, IntKind.bits, IntKind.signed]
 simp; omega
def rolS (k : Int) : Int := Ja4 .and .u64 (IntKind.u64.wrap k) 31
def rolF (x k : Int) : Int := Ja4 .or .u32 (IntKind.u32.wrap (x * 2 ^ (min (rolS k).toNat IntKind.u32.bits))) (x.fdiv (2 ^ (min (IntKind.u64.wrap (32 - rolS k)).toNat IntKind.u32.bits)))
def rotF (x : Int) (n : Nat) : Int := Ja4 .or .u32 (x.fdiv (2 ^ n)) (IntKind.u32.wrap (x * 2 ^ (32 - n)))
theorem Jd6 (x k : Int) (n : Nat) (c : (min (rolS k).toNat IntKind.u32.bits) = 32 - n) (g : (min (IntKind.u64.wrap (32 - rolS k)).toNat IntKind.u32.bits) = n) : rolF x k = rotF x n := by
 unfold rolF rotF; rw [c, g, Jpj]
theorem JCE (x : Int) : rolF x (-2) = rotF x 2 := Jd6 x _ 2 (by kernel_rfl) (by kernel_rfl)
theorem JCF (x : Int) : rolF x (-6) = rotF x 6 := Jd6 x _ 6 (by kernel_rfl) (by kernel_rfl)
theorem JCG (x : Int) : rolF x (-7) = rotF x 7 := Jd6 x _ 7 (by kernel_rfl) (by kernel_rfl)
theorem Jyl (x : Int) : rolF x (-11) = rotF x 11 := Jd6 x _ 11 (by kernel_rfl) (by kernel_rfl)
theorem Jym (x : Int) : rolF x (-13) = rotF x 13 := Jd6 x _ 13 (by kernel_rfl) (by kernel_rfl)
theorem Jyn (x : Int) : rolF x (-17) = rotF x 17 := Jd6 x _ 17 (by kernel_rfl) (by kernel_rfl)
theorem Jyo (x : Int) : rolF x (-18) = rotF x 18 := Jd6 x _ 18 (by kernel_rfl) (by kernel_rfl)
theorem Jyp (x : Int) : rolF x (-19) = rotF x 19 := Jd6 x _ 19 (by kernel_rfl) (by kernel_rfl)
theorem Jyq (x : Int) : rolF x (-22) = rotF x 22 := Jd6 x _ 22 (by kernel_rfl) (by kernel_rfl)
theorem Jyr (x : Int) : rolF x (-25) = rotF x 25 := Jd6 x _ 25 (by kernel_rfl) (by kernel_rfl)
theorem JdP (x : Int) (n : Nat) : 0 <= rotF x n /\ rotF x n < 4294967296 := JmE _ _ _
def mixF (x : Int) (l : List Int) : Int := l.foldl (fun o n => xr o (rolF x (-n))) 0
def rot2 (x : Int) (a b : Nat) : Int := xr (rotF x a) (rotF x b)
def rot3 (x : Int) (a b c : Nat) : Int := xr (xr (rotF x a) (rotF x b)) (rotF x c)
theorem JB9 (x : Int) : mixF x [7, 18] = rot2 x 7 18 := by
 simp only [mixF, L1s, L2g, JCG, Jyo, JdY _ (JdP x 7), rot2]
theorem JxJ (x : Int) : mixF x [17, 19] = rot2 x 17 19 := by
 simp only [mixF, L1s, L2g, Jyn, Jyp, JdY _ (JdP x 17), rot2]
theorem JB8 (x : Int) : mixF x [6, 11, 25] = rot3 x 6 11 25 := by
 simp only [mixF, L1s, L2g, JCF, Jyl, Jyr, JdY _ (JdP x 6), rot3]
theorem JB7 (x : Int) : mixF x [2, 13, 22] = rot3 x 2 13 22 := by
 simp only [mixF, L1s, L2g, JCE, Jym, Jyq, JdY _ (JdP x 2), rot3]
def be4 (l : List Int) (i : Nat) : Int := Ja4 .or .u32 (Ja4 .or .u32 (Ja4 .or .u32 (IntKind.u32.wrap (IntKind.u32.wrap (gd l (4 * i)) * 2 ^ 24)) (IntKind.u32.wrap (IntKind.u32.wrap (gd l (4 * i + 1)) * 2 ^ 16))) (IntKind.u32.wrap (IntKind.u32.wrap (gd l (4 * i + 2)) * 2 ^ 8))) (IntKind.u32.wrap (gd l (4 * i + 3)))
def nxtF (w : List Int) (i : Nat) : Int := ad (ad (ad (gd w (i - 16)) (xr (rot2 (gd w (i - 15)) 7 18) ((gd w (i - 15)).fdiv (2 ^ 3)))) (gd w (i - 7))) (xr (rot2 (gd w (i - 2)) 17 19) ((gd w (i - 2)).fdiv (2 ^ 10)))
def schN (l : List Int) : Nat -> List Int
 | 0 => []
 | i + 1 => schN l i ++ [if i < 16 then be4 l i else nxtF (schN l i) i]
theorem Ja3 (l : List Int) : ∀ i, (schN l i).length = i
 | 0 => rfl
 | i + 1 => by simp [schN, Ja3 l i]
def schQ (l : List Int) (i : Nat) : List Int := schN l i ++ List.replicate (64 - i) 0
theorem Jg8 (l : List Int) (i : Nat) (h : i <= 64) : (schQ l i).length = 64 := by simp [schQ, Ja3]; omega
theorem JiO (l : List Int) (i j : Nat) (h : j < i) : gd (schQ l i) j = gd (schN l i) j := by
 unfold schQ; rw [Jd4 _ _ _ (by rw [Ja3]; exact h)]
theorem Jmh (l : List Int) (i : Nat) (h : i < 64) : (schQ l i).set i (if i < 16 then be4 l i else nxtF (schN l i) i) = schQ l (i + 1) := by
 unfold schQ
 rw [List.set_append_right _ _ (by rw [Ja3]; exact L0a _), Ja3, L1l]
 obtain ⟨m, c⟩ : ∃ m, 64 - i = m + 1 := ⟨63 - i, by omega⟩
 rw [c, List.replicate_succ, List.set_cons_zero, show 64 - (i + 1) = m from by omega]
 simp [schN]
def schF (l : List Int) : List Int := schN l 64
def KT : List Int := [1116352408, 1899447441, 3049323471, 3921009573, 961987163, 1508970993, 2453635748, 2870763221, 3624381080, 310598401, 607225278, 1426881987, 1925078388, 2162078206, 2614888103, 3248222580, 3835390401, 4022224774, 264347078, 604807628, 770255983, 1249150122, 1555081692, 1996064986, 2554220882, 2821834349, 2952996808, 3210313671, 3336571891, 3584528711, 113926993, 338241895, 666307205, 773529912, 1294757372, 1396182291, 1695183700, 1986661051, 2177026350, 2456956037, 2730485921, 2820302411, 3259730800, 3345764771, 3516065817, 3600352804, 4094571909, 275423344, 430227734, 506948616, 659060556, 883997877, 958139571, 1322822218, 1537002063, 1747873779, 1955562222, 2024104815, 2227730452, 2361852424, 2428436474, 2756734187, 3204031479, 3329325298]
theorem JaB : KT.length = 64 := rfl
theorem JAY : (0, KT.map (Value.int .u32)) ∈ gtab := L0p.2 rfl
def notF (e : Int) : Int := Ja4 .xor .u32 (if IntKind.u32.signed then -1 else IntKind.u32.max) e
def tF (v : List Int) (k w : Int) : Int := ad (ad (ad (ad (gd v 7) (rot3 (gd v 4) 6 11 25)) (xr (an (gd v 4) (gd v 5)) (an (notF (gd v 4)) (gd v 6)))) k) w
def uF (v : List Int) : Int := ad (rot3 (gd v 0) 2 13 22) (xr (xr (an (gd v 0) (gd v 1)) (an (gd v 0) (gd v 2))) (an (gd v 1) (gd v 2)))
def JyB (v : List Int) (t u : Int) : List Int := [ad t u, gd v 0, gd v 1, gd v 2, ad (gd v 3) t, gd v 4, gd v 5, gd v 6]
def JyA (v : List Int) (k w : Int) : List Int := JyB v (tF v k w) (uF v)
theorem JrQ (v : List Int) (h : v.length = 8) (t u : Int) : ((v.take 1 ++ v.take 7).set 0 (ad t u)).set 4 (ad (gd (v.take 1 ++ v.take 7) 4) t) = JyB v t u := by
 match v, h with
 | [a, b, c, d, e, f, g, i], _ => rfl
def rndW (h l : List Int) : Nat -> List Int
 | 0 => h
 | i + 1 => JyA (rndW h l i) (gd KT i) (gd (schF l) i)
theorem Jen (h l : List Int) (c : h.length = 8) : ∀ i, (rndW h l i).length = 8
 | 0 => c
 | i + 1 => rfl
def addF (h l : List Int) : List Int := [ad (gd h 0) (gd (rndW h l 64) 0), ad (gd h 1) (gd (rndW h l 64) 1), ad (gd h 2) (gd (rndW h l 64) 2), ad (gd h 3) (gd (rndW h l 64) 3), ad (gd h 4) (gd (rndW h l 64) 4), ad (gd h 5) (gd (rndW h l 64) 5), ad (gd h 6) (gd (rndW h l 64) 6), ad (gd h 7) (gd (rndW h l 64) 7)]
def dgF (h : List Int) (j : Nat) : Int := IntKind.u8.wrap ((gd h (j / 4)).fdiv (2 ^ (24 - 8 * (j % 4))))
def outN (h : List Int) (m : Nat) : List Int := (List.range 32).map fun j => if j < m then dgF h j else 0
def outF (h : List Int) : List Int := (List.range 32).map (dgF h)
theorem Jc4 (h : List Int) (m : Nat) : (outN h m).length = 32 := by simp [outN]
theorem Jpl (h : List Int) (m j : Nat) (c : j < 32) : gd (outN h m) j = if j < m then dgF h j else 0 := by
 unfold outN gd; simp [L1e, c]
theorem Jrw (h : List Int) (m : Nat) (g : m < 32) : (outN h m).set m (dgF h m) = outN h (m + 1) := Jhw (by simp [Jc4]) fun j c => by
 rw [L24, Jc4] at c
 rw [JlL _ _ _ _ (by rw [Jc4]; exact g), Jpl _ _ _ c, Jpl _ _ _ c]
 by_cases e : j = m
 . subst e; simp
 . simp only [e, if_false, show j < m ↔ j < m + 1 from by omega]
theorem Jrv (h : List Int) : outN h 32 = outF h := L0Y fun j c => by simp at c; simp [c]
def Jd5 (b : List Int) (i : Nat) : List Int := (b.drop (64 * i)).take 64
def Jg4 (b : List Int) (i : Nat) : Nat -> List (List Int)
 | 0 => []
 | n + 1 => Jd5 b i :: Jg4 b (i + 1) n
abbrev YA (l : List Int) : List AV := [YL l]
@[go_sem] theorem JiF (p : Nat -> Bool) (l : List (List Int)) : AV.namesL p ((l.map YA).map .tup) = false := by
 rw [L1d]; exact Jam p l _ fun _ => rfl
def zerF (n : Nat) : Nat := (119 - n % 64) % 64
theorem Jls (n : Nat) : (n + 1 + zerF n) % 64 = 56 := by unfold zerF; omega
theorem Jmu (n j : Nat) (h : (n + 1 + j) % 64 ≠ 56) (g : j <= zerF n) : j < zerF n := by
 have := Jls n
 rcases Nat.lt_or_ge j (zerF n) with c | c
 . exact c
 . have : j = zerF n := by omega
   subst this; exact absurd (Jls n) h
theorem Jmv (n j : Nat) (h : (n + 1 + j) % 64 = 56) (c : j <= zerF n) : j = zerF n := by unfold zerF at *; omega
def lenB (n : Nat) (i : Nat) : Int := IntKind.u8.wrap ((8 * (n : Int)).fdiv (2 ^ (8 * i)))
def lenL (n : Nat) : Nat -> List Int
 | 0 => []
 | i + 1 => lenB n i :: lenL n i
theorem JgG (n : Nat) : ∀ i, (lenL n i).length = i
 | 0 => rfl
 | i + 1 => by simp [lenL, JgG n i]
def padZ (l : List Int) (j : Nat) : List Int := l ++ [128] ++ List.replicate j 0
def padF (l : List Int) : List Int := padZ l (zerF l.length) ++ lenL l.length 8
theorem Jek (l : List Int) : ∃ m, (padF l).length = 64 * m /\ (padF l).length <= l.length + 128 := by
 have := Jls l.length
 have h : (padF l).length = l.length + 1 + zerF l.length + 8 := by simp [padF, padZ, JgG]; omega
 have c : zerF l.length < 64 := by unfold zerF; omega
 exact ⟨(l.length + 1 + zerF l.length + 8) / 64, by omega, by omega⟩
def H0 : List Int := [1779033703, 3144134277, 1013904242, 2773480762, 1359893119, 2600822924, 528734635, 1541459225]
def blkF (b : List Int) : Nat -> List Int
 | 0 => H0
 | i + 1 => addF (blkF b i) (Jd5 b i)
theorem JbU (b : List Int) : ∀ i, (blkF b i).length = 8
 | 0 => rfl
 | i + 1 => rfl
def shaF (s : ByteArray) : ByteArray := strOfNums (outF (blkF (padF (bI s)) ((padF (bI s)).length / 64)))
theorem JeW (s : ByteArray) : (shaF s).size = 32 := by unfold shaF; rw [strOfNums_size]; simp [outF]
theorem JeO (b : List Int) (i : Nat) (h : 64 * (i + 1) <= b.length) : (Jd5 b i).length = 64 := by simp [Jd5]; omega
open Go.Vai Go Go.Proofs
theorem Jys (x k : Int) : Ev prog 222 [U x, I k] (U (rolF x k)) := by
 have c : 0 <= rolS k := JiY _ _
 have g : 0 <= IntKind.u64.wrap (32 - rolS k) := by simp only [IntKind.wrap, IntKind.bits, IntKind.signed]; simp; omega
 refine EV func222 ?_
 simp -implicitDefEqProofs (disch := omega) only [go_sem, ntmps222, results222, show Ja4 .and .u64 (IntKind.u64.wrap k) 31 = rolS k from rfl]
 rfl
theorem Jf2 (x : Int) (l : List Int) (s : l.length <= 1000) (m : ∀ n ∈ l, 0 <= n /\ n <= 100) : Ev prog 216 [U x, SL l] (U (mixF x l)) := by
 refine EV func216 ?_
 refine SA ?_
 refine Jag (fun n E q => ∃ v : Nat, v + n = l.length /\ E 0 = U x /\ E 5 = U (mixF x (l.take v)) /\ E 8 = SL l /\ E 9 = I l.length /\ E 10 = I v) l.length ⟨0, by omega, ?_⟩ ?_
 . refine SA ?_
   simp [mixF]
 . rintro n E q ⟨v, w, g, h, i, j, c⟩
   refine SA ?_
   refine Jab (fun k => ?_) (fun k => ?_)
   . have u := m _ (Jan l v (by omega))
     have o : IntKind.i64.wrap (0 - gd l v) = -gd l v := by rw [Jcr (by omega)]; omega
     refine SA ?_
     refine Jaa (Jys x (-gd l v)) ?_
     refine SA ?_
     refine Jad (n - 1) (by omega) ⟨v + 1, by omega, ?_⟩
     have e : mixF x (l.take (v + 1)) = xr (mixF x (l.take v)) (rolF x (-gd l v)) := by
      unfold mixF; rw [L1a, Jbb l v (by omega)]; simp
     refine SA ?_
     simp
   . have e : v = l.length := by omega
     subst e; simp -implicitDefEqProofs (disch := omega) only [go_sem, g, h, results216, L0e]
@[go_sem high] theorem Jnm (l : List Int) (j : Nat) (x : Int) (c : j < l.length) (g : l.length ≠ 1) : setC (.agg (l.map U)) j (U x) = .agg ((l.set j x).map U) := by
 rw [Jld, if_neg (by simp; omega)]
 congr 1
 simp only [AV.cells_agg, AV.cells_v, L1g, <- L1H, <- List.map_drop]; rw [L2m, if_pos c]
 simp
@[go_sem high] theorem JuA (l : List Int) (i : Nat) (y : Int) (j : Nat) (x : Int) (g : j < l.length) (c : l.length ≠ 1) : setC (.agg ((l.set i y).map U)) j (U x) = .agg (((l.set i y).set j x).map U) :=
 Jnm _ _ _ (by simpa using g) (by simpa using c)
theorem m24 : min 24 32 = 24 := rfl
theorem m16 : min 16 32 = 16 := rfl
theorem m8 : min 8 32 = 8 := rfl
theorem m3 : min 3 32 = 3 := rfl
theorem m10 : min 10 32 = 10 := rfl
theorem Jlc (l : List Int) (B : l.length = 64) : Ev prog 215 [YL l] (.agg ((schF l).map U)) := by
 refine EV func215 ?_
 refine SA ?_
 refine Jag (fun n E o => ∃ v : Nat, v + n = 16 /\ E 0 = YL l /\ E 2 = .ptr 452984864 64 0 0 /\ E 7 = I v /\ o 452984864 = some ⟨296, 64, [.agg ((schQ l v).map U)]⟩) 16 ⟨0, by omega, ?_⟩ ?_
 . refine SA ?_
   exact ⟨rfl, rfl⟩
 . rintro n E o ⟨v, H, j, g, m, h⟩
   have i := Jg8 l v (by omega)
   refine SA ?_
   refine Jab (fun A => ?_) (fun A => ?_)
   . have u : (4 * (v : Int)).toNat = 4 * v := by omega
     have w : (4 * (v : Int) + 1).toNat = 4 * v + 1 := by omega
     have y : (4 * (v : Int) + 2).toNat = 4 * v + 2 := by omega
     have z : (4 * (v : Int) + 3).toNat = 4 * v + 3 := by omega
     simp -implicitDefEqProofs (disch := omega) only [go_sem, j, g, m, h, B, i, u, w, y, z, m24, m16, m8]
     refine Jad (n - 1) (by omega) ⟨v + 1, by omega, ?_⟩
     have c := Jmh l v (by omega)
     rw [if_pos (by omega)] at c
     have c : (schQ l v).set v (be4 l v) = _ := c
     unfold be4 at c; simp -implicitDefEqProofs (disch := omega) only [go_sem, j, g, m, h, B, i, c]
     simp
   . have e : v = 16 := by omega
     subst e; simp -implicitDefEqProofs (disch := omega) only [go_sem, j, g, m, h, B]
     refine Jag (fun n E o => ∃ v : Nat, v + n = 64 /\ 16 <= v /\ E 4 = I v /\ E 2 = .ptr 452984864 64 0 0 /\ o 452984864 = some ⟨296, 64, [.agg ((schQ l v).map U)]⟩) 48 ⟨16, by omega, by omega, ?_⟩ ?_
     . simp -implicitDefEqProofs (disch := omega) only [go_sem, j, g, m, h, B, and_self]
       simp
     . clear j g m h i H A n E o
       rintro n E o ⟨v, H, L, k, g, h⟩
       have i := Jg8 l v (by omega)
       refine SA ?_
       refine Jab (fun A => ?_) (fun A => ?_)
       . have u : ((v : Int) - 15).toNat = v - 15 := by omega
         have w : ((v : Int) - 2).toNat = v - 2 := by omega
         have y : ((v : Int) - 16).toNat = v - 16 := by omega
         have z : ((v : Int) - 7).toNat = v - 7 := by omega
         have C := JiO l v (v - 15) (by omega)
         have D := JiO l v (v - 2) (by omega)
         have F := JiO l v (v - 16) (by omega)
         have G := JiO l v (v - 7) (by omega)
         have q := Jf2 (gd (schN l v) (v - 15)) [7, 18] (by decide) (by decide)
         have s := Jf2 (gd (schN l v) (v - 2)) [17, 19] (by decide) (by decide)
         rw [JB9] at q; rw [JxJ] at s; refine SA ?_
         refine Jaa q ?_
         simp -implicitDefEqProofs (disch := omega) only [go_sem, k, g, h, i, u, w, y, z, C, D, F, G, m3, m10]
         refine Jaa s ?_
         simp -implicitDefEqProofs (disch := omega) only [go_sem, k, g, h, i, u, w, y, z, C, D, F, G, m3, m10]
         refine Jad (n - 1) (by omega) ⟨v + 1, by omega, by omega, ?_⟩
         have c := Jmh l v (by omega)
         rw [if_neg (by omega)] at c
         have c : (schQ l v).set v (nxtF (schN l v) v) = _ := c
         unfold nxtF at c; refine SA ?_
         simp
       . have e : v = 64 := by omega
         subst e
         have J : schQ l 64 = schF l := by simp [schQ, schF]
         have K : (schF l).length = 64 := Ja3 l 64
         exact SB
def sumN (h w : List Int) (i : Nat) : List Int := (List.range 8).map fun j => if j < i then ad (gd h j) (gd w j) else gd h j
theorem Jb2 (h w : List Int) (i : Nat) : (sumN h w i).length = 8 := by simp [sumN]
theorem JiU (h w : List Int) (i j : Nat) (c : j < 8) : gd (sumN h w i) j = if j < i then ad (gd h j) (gd w j) else gd h j := by
 unfold sumN gd; simp [L1e, c]
theorem Jp2 (h w : List Int) (g : h.length = 8) : sumN h w 0 = h := Jhw (by rw [Jb2, g]) fun i c => by
 rw [Jb2] at c
 rw [JiU _ _ _ _ c, if_neg (by omega)]
theorem JrT (h w : List Int) (i : Nat) (hi : i < 8) : (sumN h w i).set i (ad (gd h i) (gd w i)) = sumN h w (i + 1) := Jhw (by simp [Jb2]) fun j c => by
 rw [L24, Jb2] at c
 rw [JlL _ _ _ _ (by rw [Jb2]; exact hi), JiU _ _ _ _ c, JiU _ _ _ _ c]
 by_cases e : j = i
 . subst e; simp
 . simp only [e, if_false, show j < i ↔ j < i + 1 from by omega]
theorem JrS (h l : List Int) : sumN h (rndW h l 64) 8 = addF h l := rfl
set_option maxHeartbeats 4000000 in
theorem Jwm (h l : List Int) (u : h.length = 8) (N : l.length = 64) : LOK prog 192 (inI [339738672]) [.ptr 339738672 8 0 0, YL l] (stO [(339738672, ⟨275, 8, [.agg (h.map U)]⟩)]) (.tup []) (stO [(339738672, ⟨275, 8, [.agg ((addF h l).map U)]⟩)]) := by
 refine JcC [8] [339738672] func192 rfl (by kernel_rfl) mo (nb rfl) rfl (by kernel_rfl) (by kernel_rfl) ?_
 refine SA ?_
 refine Jaa (Jlc l N) ?_
 have c : (schF l).length = 64 := Ja3 l 64
 refine SA ?_
 refine Jrf (KT.map (Value.int .u32)) JAY (.agg (KT.map U)) (by unfold Jcm; rw [JCR, JrU, JuN]; exact ⟨by decide, by decide, rfl⟩) ?_
 refine SA ?_
 refine Jag (fun n E B => ∃ v : Nat, v + n = 64 /\ E 0 = .ptr 339738672 8 0 0 /\ E 5 = .ptr 404750416 8 0 0 /\ B 339738672 = some ⟨275, 8, [.agg (h.map U)]⟩ /\ E 4 = .ptr 404750400 64 0 0 /\ E 18 = .agg (KT.map U) /\ E 19 = I v /\ B 404750400 = some ⟨296, 64, [.agg ((schF l).map U)]⟩ /\ B 404750416 = some ⟨275, 8, [.agg ((rndW h l v).map U)]⟩) 64 ⟨0, by omega, ?_⟩ ?_
 . refine SA ?_
   exact ⟨rfl, rfl⟩
 . rintro n E B ⟨v, L, k, m, s, w, g, i, y, o⟩
   have j := Jen h l u v; refine SA ?_
   refine Jab (fun H => ?_) (fun H => ?_)
   . simp -implicitDefEqProofs (disch := omega) only [go_sem, k, m, s, w, g, i, y, o, c, u, j, JaB]
     have C := Jf2 (gd (rndW h l v) 4) [6, 11, 25] (by decide) (by decide)
     have D := Jf2 (gd (rndW h l v) 0) [2, 13, 22] (by decide) (by decide)
     rw [JB8] at C; rw [JB7] at D
     refine Jaa C ?_
     simp -implicitDefEqProofs (disch := omega) only [go_sem, k, m, s, w, g, i, y, o, c, u, j, JaB]
     refine Jaa D ?_
     simp -implicitDefEqProofs (disch := omega) only [go_sem, k, m, s, w, g, i, y, o, c, u, j, JaB]
     refine JqU (cs := (rndW h l v).map U) (bid := 404750416) (te := 275) JrV JuM JuJ (by simp -implicitDefEqProofs (disch := omega) only [go_sem, k, m, s, w, g, i, y, o]) (by simp -implicitDefEqProofs (disch := omega) only [go_sem, k, m, s, w, g, i, y, o]) (by simp [j]) (by simp) (by decide) (by decide) (by decide) (((rndW h l v).take 1 ++ (rndW h l v).take 7).map U) (by simp) ?_
     have J : ((rndW h l v).take 1 ++ (rndW h l v).take 7).length = 8 := by simp [j]
     have A := JrQ (rndW h l v) j (tF (rndW h l v) (gd KT v) (gd (schF l) v)) (uF (rndW h l v))
     have A : _ = rndW h l (v + 1) := A
     unfold tF uF notF at A; generalize (rndW h l v).take 1 ++ (rndW h l v).take 7 = q at *; simp -implicitDefEqProofs (disch := omega) only [go_sem, k, m, s, w, g, i, y, o, c, u, j, JaB, J]
     refine Jad (n - 1) (by omega) ⟨v + 1, by omega, ?_⟩
     refine SA ?_
     simp
   . have e : v = 64 := by omega
     subst e; refine SA ?_
     refine Jag (fun n E B => ∃ v : Nat, v + n = 8 /\ E 0 = .ptr 339738672 8 0 0 /\ E 5 = .ptr 404750416 8 0 0 /\ E 82 = I v /\ B 339738672 = some ⟨275, 8, [.agg ((sumN h (rndW h l 64) v).map U)]⟩ /\ B 404750416 = some ⟨275, 8, [.agg ((rndW h l 64).map U)]⟩) 8 ⟨0, by omega, ?_⟩ ?_
     . simp -implicitDefEqProofs (disch := omega) only [go_sem, k, m, s, w, g, i, y, o, c, u, Jp2 h _ u]
       simp
     . clear k m s w g i y o L H n E B
       rintro n E B ⟨v, L, k, m, z, s, o⟩
       have G := Jb2 h (rndW h l 64) v; simp -implicitDefEqProofs (disch := omega) only [go_sem, k, m, z, s, o, c, u]
       refine Jab (fun H => ?_) (fun H => ?_)
       . have K := JiU h (rndW h l 64) v v (by omega)
         rw [if_neg (by omega)] at K
         have F := JrT h (rndW h l 64) v (by omega)
         refine SA ?_
         refine Jad (n - 1) (by omega) ⟨v + 1, by omega, ?_⟩
         refine SA ?_
         simp
       . have e : v = 8 := by omega
         subst e; have M := JrS h l; exact SB
@[go_sem high] theorem Jv7 (l : List Int) (j : Nat) (x : Int) (c : j < l.length) (g : l.length ≠ 1) : setC (.agg (l.map Y)) j (Y x) = .agg ((l.set j x).map Y) := by
 rw [Jld, if_neg (by simp; omega)]
 congr 1
 simp only [AV.cells_agg, AV.cells_v, L1g, <- L1H, <- List.map_drop]; rw [L2m, if_pos c]
 simp
set_option maxHeartbeats 1000000 in
theorem Jol (h : List Int) (s : h.length = 8) : Ev prog 193 [.agg (h.map U)] (Str (strOfNums (outF h))) := by
 refine EV func193 ?_
 refine SA ?_
 refine Jag (fun n E y => ∃ v : Nat, v + n = 8 /\ E 3 = .ptr 406847536 32 0 0 /\ E 7 = .agg (h.map U) /\ E 8 = I v /\ y 406847536 = some ⟨300, 32, [.agg ((outN h (4 * v)).map Y)]⟩) 8 ⟨0, by omega, ?_⟩ ?_
 . refine SA ?_
   exact ⟨rfl, rfl⟩
 . rintro n E y ⟨v, O, k, q, g, i⟩
   refine SA ?_
   refine Jab (fun G => ?_) (fun G => ?_)
   . refine SA ?_
     refine Jag (fun m E y => ∃ u : Nat, u + m = 4 /\ E 3 = .ptr 406847536 32 0 0 /\ E 7 = .agg (h.map U) /\ E 8 = I v /\ E 4 = I v /\ E 5 = U (gd h v) /\ E 12 = I u /\ y 406847536 = some ⟨300, 32, [.agg ((outN h (4 * v + u)).map Y)]⟩) 4 ⟨0, by omega, ?_⟩ ?_
     . refine SA ?_
       simp
     . clear k q g i E y
       rintro m E y ⟨u, N, k, q, g, z, A, o, i⟩
       have C := Jc4 h (4 * v + u); simp -implicitDefEqProofs (disch := omega) only [go_sem, k, q, g, z, A, o, i, s]
       refine Jab (fun H => ?_) (fun H => ?_)
       . have K : (4 * (v : Int) + (u : Int)).toNat = 4 * v + u := by omega
         have L : (24 - 8 * (u : Int)).toNat = 24 - 8 * u := by omega
         have M : min (24 - 8 * u) 32 = 24 - 8 * u := by omega
         refine SA ?_
         refine Jad (m - 1) (by omega) ⟨u + 1, by omega, ?_⟩
         have w := Jrw h (4 * v + u) (by omega)
         unfold dgF at w
         rw [show (4 * v + u) / 4 = v from by omega, show (4 * v + u) % 4 = u from by omega, L0O] at w
         refine SA ?_
         simp
       . have e : u = 4 := by omega
         subst e; refine SA ?_
         refine Jad (n - 1) (by omega) ⟨v + 1, by omega, ?_⟩
         have F : 4 * (v + 1) = 4 * v + 4 := by omega
         refine SA ?_
         simp
   . have e : v = 8 := by omega
     subst e; have J := Jrv h
     have D : (outF h).length = 32 := by simp [outF]
     rw [show 4 * 8 = 32 from rfl, J] at i
     refine SA ?_
     refine JkI [406847536] ?_
     refine Jli (c := .agg ((outF h).map Y)) (j := 0) (m := 32) 0 32 (by simp -implicitDefEqProofs (disch := omega) only [go_sem, k, i]) JrW JyL (by simp [D]) ⟨rfl, rfl, by omega, by omega⟩ ?_
     have B : (outF h).take 32 = outF h := L0b (by omega)
     refine SA ?_
     refine JdX (outF h) (by simp -implicitDefEqProofs (disch := omega) only [go_sem, B]) (by intro b; simp -implicitDefEqProofs (disch := omega) only [go_sem]; intro e; cases e) (e := 5) rfl rfl rfl ?_
     exact SB
theorem JqJ (b : List Int) (k : Int) (c : 1 <= k) : Ev prog 191 [YL b, I k] (.clo 214 [.pt (YL b) 0, .pt (I k) 0]) := by
 refine JeE (r := .clo 214 [.nptr 164 1 [YL b], .nptr 3 1 [I k]]) ?_ _
 refine EW [2] func191 ?_
 refine SA ?_
 refine Jab (fun h => absurd h (by omega)) (fun h => ?_)
 exact SB
theorem Job (b : List Int) (m : Nat) (A : b.length = 64 * m) (y : b.length <= 1000000000) (σ : Jac) : SOK prog 214 [.pt (YL b) 0, .pt (I 64) 0] σ ((Jg4 b 0 m).map YA) := by
 refine Jj4 func214 rfl (by kernel_rfl) mo (nb rfl) ?_ rfl fun l => ?_
 . exact JiF allB _
 . refine SA ?_
   refine Jag (fun n E σ => ∃ i : Nat, i + n = m /\ E 0 = .yld l /\ E 1 = .pt (YL b) 0 /\ E 2 = .pt (I 64) 0 /\ E 4 = I ((64 * i : Nat) : Int) /\ E 31 = .tup (((Jg4 b i n).map YA).map .tup)) m ⟨0, by omega, ?_⟩ ?_
   . refine SA ?_
     simp
   . rintro n E σ ⟨i, z, j, h, o, q, c⟩
     refine SA ?_
     cases n with
     | zero =>
      refine Jal (by omega) ?_
      refine SA ?_
      exact .inl rfl
     | succ n =>
      have g : min (64 : Int) ((min (b.length - 64 * i) (b.length - 64 * i) : Nat) : Int) = 64 := by omega
      have u : ((64 * i : Nat) : Int) + 64 = ((64 * i + 64 : Nat) : Int) := by omega
      rw [Jg4] at c
      refine Ja1 (by omega) ?_
      simp -implicitDefEqProofs (disch := omega) only [go_sem, j, h, o, q, c, L02, L0f, g, u]
      refine JpS (sz := 1) (es := b.map Y) (64 * i) (64 * i + 64) (km := .i64) (by simp -implicitDefEqProofs (disch := omega) only [go_sem, h]) JuI JyL (by decide) (by simp -implicitDefEqProofs (disch := omega) only [go_sem]) (by simp)
       (JbL (k := .i64) (n := ((64 * i + 64 : Nat) : Int)) (by simp -implicitDefEqProofs (disch := omega) only [go_sem]) (by omega) (JbL (k := .i64) (n := ((64 * i : Nat) : Int)) (by simp -implicitDefEqProofs (disch := omega) only [go_sem]) (by omega) ⟨by omega, by omega, by omega, by rw [L06]; omega⟩)) ?_
      have w : (b.drop (64 * i)).take (64 * i + 64 - 64 * i) = Jd5 b i := by rw [show 64 * i + 64 - 64 * i = 64 from by omega]; rfl
      refine SA ?_
      have s : 64 * (i + 1) = 64 * i + 64 := by omega
      refine ⟨Jad n (by omega) ⟨i + 1, by omega, ?_⟩, ?_⟩
      . simp -implicitDefEqProofs (disch := omega) only [go_sem, j, h, o, q, c, g, u, w, s]
      . exact .inr trivial
theorem Jni {b : List Int} {i n : Nat} {x : List AV} {c : List (List AV)} (h : (Jg4 b i n).map YA = x :: c) : ∃ m, n = m + 1 /\ x = YA (Jd5 b i) /\ c = (Jg4 b (i + 1) m).map YA := by
 cases n with
 | zero => cases h
 | succ m => simp only [Jg4, L0q, List.cons.injEq] at h; exact ⟨m, rfl, h.1.symm, h.2.symm⟩
theorem JpE {b : List Int} {i n : Nat} (h : (Jg4 b i n).map YA = []) : n = 0 := by
 cases n with
 | zero => rfl
 | succ m => simp [Jg4] at h
set_option maxHeartbeats 2000000 in
theorem JsP (s : ByteArray) (hs : s.size <= 100000000) : Ev prog 161 [Str s] (Str (shaF s)) := by
 refine EV func161 ?_
 simp -implicitDefEqProofs (disch := omega) only [go_sem]; have H := JaI s
 refine Jnv s (by simp -implicitDefEqProofs (disch := omega) only [go_sem]) rfl rfl rfl (by omega) ?_
 simp -implicitDefEqProofs (disch := omega) only [go_sem, H]; unfold shaF; generalize bI s = l at *
 obtain ⟨m, V, af⟩ := Jek l
 refine Jag (fun n E C => ∃ j : Nat, j + n = zerF l.length /\ E 0 = Str s /\ E 3 = .ptr 339738672 8 0 0 /\ E 4 = .own 339738768 1 0 (l.length + 1 + j) /\ C 339738672 = some ⟨275, 8, [.agg (H0.map U)]⟩ /\ C 339738768 = some ⟨5, 1, (padZ l j).map Y⟩) (zerF l.length) ⟨0, by omega, ?_⟩ ?_
 . simp -implicitDefEqProofs (disch := omega) only [go_sem, H]
   exact ⟨rfl, by simp [padZ]⟩
 . have aa : zerF l.length < 64 := by unfold zerF; omega
   rintro n E C ⟨j, hj, q, o, u, c, z⟩
   have B : (padZ l j).length = l.length + 1 + j := by simp [padZ]; omega
   have G : (((l.length + 1 + j : Nat) : Int)).tmod 64 = (((l.length + 1 + j) % 64 : Nat) : Int) := by rw [L11 (by omega)]; omega
   simp -implicitDefEqProofs (disch := omega) only [go_sem, q, o, u, c, z, G]
   refine Jab (fun O => ?_) (fun O => ?_)
   . have ac := Jmu l.length j (by omega) (by omega)
     simp -implicitDefEqProofs (disch := omega) only [go_sem, q, o, u, c, z, B]
     refine Jad (n - 1) (by omega) ⟨j + 1, by omega, ?_⟩
     have N : padZ l j ++ [0] = padZ l (j + 1) := by simp [padZ, L2n]
     have J : (padZ l j).take (l.length + 1 + j) = padZ l j := L0b (by omega)
     simp -implicitDefEqProofs (disch := omega) only [go_sem, q, o, u, c, z, B, N, J]; rw [L0O]
   . have R := Jmv l.length j (by omega) (by omega)
     subst R
     have M : ∀ k : Nat, k <= 8 -> min (8 * (k : Int)).toNat 64 = 8 * k := fun k Z => by omega
     simp -implicitDefEqProofs (disch := omega) only [go_sem, q, o, u, c, z, B]
     refine Jag (fun n E C => ∃ A : List Int, n <= 8 /\ A ++ lenL l.length n = padF l /\ E 0 = Str s /\ E 3 = .ptr 339738672 8 0 0 /\ E 4 = .own 339738768 1 0 A.length /\ E 5 = I ((n : Int) - 1) /\ C 339738672 = some ⟨275, 8, [.agg (H0.map U)]⟩ /\ C 339738768 = some ⟨5, 1, A.map Y⟩) 8 ⟨padZ l (zerF l.length), by omega, rfl, ?_⟩ ?_
     . simp -implicitDefEqProofs (disch := omega) only [go_sem, q, o, u, c, z, B]
       simp
     . clear q o u c z O G B E C hj n
       rintro n E C ⟨A, ae, w, q, o, u, F, c, z⟩
       have W : A.length <= l.length + 128 := by have := congrArg List.length w; simp at this; omega
       simp -implicitDefEqProofs (disch := omega) only [go_sem, q, o, u, F, c, z]
       refine Jab (fun O => ?_) (fun O => ?_)
       . obtain ⟨k, rfl⟩ : ∃ k, n = k + 1 := ⟨n - 1, by omega⟩
         have Z : (((k + 1 : Nat) : Int)) - 1 = (k : Int) := by omega
         rw [Z] at F
         have hm := M k (by omega)
         simp -implicitDefEqProofs (disch := omega) only [go_sem, q, o, u, F, c, z, hm, H.symm]
         refine Jad k (by omega) ⟨A ++ [lenB l.length k], by omega, by rw [<- w]; simp [lenL], ?_⟩
         have S : IntKind.u8.wrap ((8 * (l.length : Int)).fdiv (2 ^ (8 * k))) = lenB l.length k := rfl
         simp -implicitDefEqProofs (disch := omega) only [go_sem, q, o, u, F, c, z, hm, S, L0e]
       . have T : n = 0 := by omega
         subst T; simp only [lenL, L0J] at w; subst w; simp -implicitDefEqProofs (disch := omega) only [go_sem, q, o, u, F, c, z]
         refine Jar rfl ?_
         refine Jbk [339738768] ?_
         simp -implicitDefEqProofs (disch := omega) only [go_sem, q, o, u, F, c, z, L0e]
         refine Jaa (JqJ (padF l) 64 (by omega)) ?_
         simp -implicitDefEqProofs (disch := omega) only [go_sem, q, o, u, F, c, z]
         refine Jca ?_
         have hd : (padF l).length / 64 = m := by omega
         rw [hd]
         refine JdO [] [339738672] 21233764 ((Jg4 (padF l) 0 m).map YA) (fun xs C => ∃ i n : Nat, i + n = m /\ xs = (Jg4 (padF l) i n).map YA /\ C 339738672 = some ⟨275, 8, [.agg ((blkF (padF l) i).map U)]⟩)
          (g := 214) (caps := [.pt (YL (padF l)) 0, .pt (I 64) 0]) ?_ ?_ ?_ ?_ ?_ ?_ ?_ ?_
         . simp -implicitDefEqProofs (disch := omega) only [go_sem]
         . exact Job _ m V (by omega) _
         . intro x hx
           obtain ⟨y, _, rfl⟩ := L08.1 hx
           rfl
         . simp -implicitDefEqProofs (disch := omega) only [go_sem]
         . simp -implicitDefEqProofs (disch := omega) only [go_sem]
         . refine ⟨0, m, by omega, rfl, ?_⟩
           simp -implicitDefEqProofs (disch := omega) only [go_sem, c]
           rfl
         . rintro P D y ab X ⟨i, n, Q, K, c⟩
           have L : P 3 = .ptr 339738672 8 0 0 := by rw [D]; simp -implicitDefEqProofs (disch := omega) only [go_sem, o]
           clear D q o u F z
           obtain ⟨k, rfl, rfl, rfl⟩ := Jni K.symm
           have hL : LOK prog 192 (inI [339738672]) ([.ptr 339738672 8 0 0, YL (Jd5 (padF l) i)] ++ []) (stO [(339738672, ⟨275, 8, [.agg ((blkF (padF l) i).map U)]⟩)]) (.tup []) (stO [(339738672, ⟨275, 8, [.agg ((blkF (padF l) (i + 1)).map U)]⟩)]) := Jwm (blkF (padF l) i) (Jd5 (padF l) i) (JbU _ i) (JeO _ _ (by omega))
           simp -implicitDefEqProofs (disch := omega) only [go_sem, L, c]
           refine Jar rfl ?_
           refine Jck [339738672] hL ?_ ?_ ?_ ?_ ?_ ?_ ?_ (hsp := fun id h _ => L0K.2 h)
           . simp -implicitDefEqProofs (disch := omega) only [go_sem]
           . simp -implicitDefEqProofs (disch := omega) only [go_sem, L]
           . simp -implicitDefEqProofs (disch := omega) only [go_sem, c]
           . simp -implicitDefEqProofs (disch := omega) only [go_sem]
           . simp -implicitDefEqProofs (disch := omega) only [go_sem]
           . simp -implicitDefEqProofs (disch := omega) only [go_sem]
           . simp -implicitDefEqProofs (disch := omega) only [go_sem, L, c]
             exact ⟨inL [], fun _ _ => rfl, i + 1, k, by omega, rfl, rfl⟩
         . rintro P D X ⟨i, n, Q, K, c⟩
           have L : P 3 = .ptr 339738672 8 0 0 := by rw [D]; simp -implicitDefEqProofs (disch := omega) only [go_sem, o]
           have hn := JpE K.symm; subst hn
           obtain rfl : i = m := by omega
           have J : (blkF (padF l) i).take 8 = blkF (padF l) i := L0b (by rw [JbU]; omega)
           simp -implicitDefEqProofs (disch := omega) only [go_sem, L, c, JbU, J]
           refine Jaa (Jol _ (JbU _ _)) ?_
           simp -implicitDefEqProofs (disch := omega) only [go_sem, results161]
end Go.Proofs.YtnpbhgeffapojaaGreatDoor
namespace Go.Proofs
open Go.Shelf
def Tryz.lays156_ren : Go.Shelf.Ren := ⟨fun | 156 => 213 | 165 => 221 | 166 => 127 | 169 => 128 | 240 => 171 | 241 => 233 | 276 => 203 | 277 => 239 | n => n, fun | 31 => 50 | 9 => 9 | 3 => 3 | 4 => 4 | 0 => 0 | 20 => 20 | 72 => 207 | 76 => 210 | 70 => 205 | 37 => 164 | 75 => 209 | 127 => 251 | 164 => 288 | 5 => 5 | 80 => 117 | n => n, fun | n => n⟩
theorem Tryz.lays156 : Go.Proofs.Lays.n156 prog Tryz.lays156_ren := {
 mixed := by kernel_rfl
 f156 := func213.trans (congrArg some (by kernel_rfl))
 f165 := func221.trans (congrArg some (by kernel_rfl))
 f166 := func127.trans (congrArg some (by kernel_rfl))
 f169 := func128.trans (congrArg some (by kernel_rfl))
 f240 := func171.trans (congrArg some (by kernel_rfl))
 f241 := func233.trans (congrArg some (by kernel_rfl))
 f276 := func203.trans (congrArg some (by kernel_rfl))
 f277 := func239.trans (congrArg some (by kernel_rfl))
 t0 := Tryz.underlying0
 a0 := Tryz.isAgg0
 z0 := Tryz.sizeOf0
 v0 := Tryz.zeroValue0
 t3 := Tryz.underlying3
 a3 := Tryz.isAgg3
 z3 := Tryz.sizeOf3
 v3 := Tryz.zeroValue3
 t4 := Tryz.underlying4
 a4 := Tryz.isAgg4
 z4 := Tryz.sizeOf4
 v4 := Tryz.zeroValue4
 t9 := Tryz.underlying9
 a9 := Tryz.isAgg9
 z9 := Tryz.sizeOf9
 v9 := Tryz.zeroValue9
 t20 := Tryz.underlying20
 a20 := Tryz.isAgg20
 z20 := Tryz.sizeOf20
 v20 := Tryz.zeroValue20
 t31 := Tryz.underlying50
 a31 := Tryz.isAgg50
 z31 := Tryz.sizeOf50
 v31 := Tryz.zeroValue50
 t37 := Tryz.underlying164
 a37 := Tryz.isAgg164
 z37 := Tryz.sizeOf164
 v37 := Tryz.zeroValue164
 t70 := Tryz.underlying205
 a70 := Tryz.isAgg205
 z70 := Tryz.sizeOf205
 v70 := Tryz.zeroValue205
 t72 := Tryz.underlying207
 a72 := Tryz.isAgg207
 z72 := Tryz.sizeOf207
 v72 := Tryz.zeroValue207
 t75 := Tryz.underlying209
 a75 := Tryz.isAgg209
 z75 := Tryz.sizeOf209
 v75 := Tryz.zeroValue209
 t76 := Tryz.underlying210
 a76 := Tryz.isAgg210
 z76 := Tryz.sizeOf210
 v76 := Tryz.zeroValue210
 t127 := Tryz.underlying251
 a127 := Tryz.isAgg251
 z127 := Tryz.sizeOf251
 v127 := Tryz.zeroValue251
 t164 := Tryz.underlying288
 a164 := Tryz.isAgg288
 z164 := Tryz.sizeOf288
 v164 := Tryz.zeroValue288 }
theorem Tryz.Builder_Extra_156 : Builder.Extra prog Tryz.lays156_ren := {
 sizeBuilder := by kernel_rfl
 liesBuilder := by kernel_rfl
 t5 := Tryz.underlying5
 a5 := Tryz.isAgg5
 z5 := Tryz.sizeOf5
 v5 := Tryz.zeroValue5
 infoByte := by kernel_rfl
 cellsByte := by kernel_rfl
 sizeByte := by kernel_rfl
 neB5 := by decide }
open Go.RowKit in
theorem Tryz.strings_Join_none (a : Option Addr) (c : Nat) (g : ByteArray) (w : World) :
 Calls prog 213 #[.slice a 0 c, .string g] w fun e w' => e = .returned (.string ⟨#[]⟩) /\ w' = w := Any.strings_Join_none Tryz.lays156 Tryz.Builder_Extra_156 a c g w
open Go.RowKit in
theorem Tryz.strings_Join (m o c : Nat) (xs : List ByteArray) (h : ByteArray) (w : World) (g : ∀ (j : Nat) x, xs[j]? = some x -> w.cell? ⟨m, o + j, none⟩ = some (.string x)) (q : m < w.heap.size) (s : xs.length <= 140737488355328) (i : xs.length <= c) (k : (Lib.join (xs.map (·.data.toList)) h.data.toList).length <= 140737488355328) :
 Calls prog 213 #[.slice (some ⟨m, o, none⟩) xs.length c, .string h] w fun e w' => e = .returned (.string ⟨(Lib.join (xs.map (·.data.toList)) h.data.toList).toArray⟩) /\ Below w.heap.size w w' := Any.strings_Join Tryz.lays156 Tryz.Builder_Extra_156 m o c xs h w g q s i k
end Go.Proofs
namespace Go.Proofs.YtnpbhgeffapojaaGreatDoor
open Go.Proofs.Tryz
open Go.Vai Go Go.Proofs
def catF (l : List ByteArray) : ByteArray := ⟨(Lib.join (l.map (·.data.toList)) ((⟨#[]⟩ : ByteArray).data.toList)).toArray⟩
theorem Jlz (a : ByteArray) : catF [a] = a := by unfold catF; rw [L0q, L0F, Lib.join_one, Lib.mk_data]
theorem JuH {w : World} {Im : Nat -> Prop} {g o : Nat} {l : List ByteArray} {f : Nat -> Nat -> Value}
 (s : ∀ i j, i < (l.map Str).length -> j < 1 -> w.cell? ⟨g, o + i * 1 + j, none⟩ = some (f i j) /\ (f i j).oneCell' = true)
 (h : ∀ (i : Nat) (e : AV) (j : Nat) (c : AV), (l.map Str)[i]? = some e -> e.cells[j]? = some c -> IRep w Im c (f i j)) :
 ∀ (j : Nat) x, l[j]? = some x -> w.cell? ⟨g, o + j, none⟩ = some (.string x) := by
 intro j x q
 have u : j < l.length := (L05.1 q).1
 have k := (s j 0 (by simpa using u) (by omega)).1
 have m := h j (Str x) 0 (Str x) (by simp [q]) rfl
 generalize f j 0 = y at k m
 cases m
 simpa using k.trans rfl
theorem Jt0 (l : List ByteArray) (I : (catF l).size <= 140737488355328) (J : l.length <= 140737488355328) : Ev prog 213 [.sl 1 (l.map Str), Str ⟨#[]⟩] (Str (catF l)) := by
 rintro B r ⟨rfl, rfl⟩
 refine ⟨enters_of func213 (by kernel_rfl) rfl, fun w A vs u _ z => ?_⟩
 obtain ⟨s, D⟩ := z
 obtain ⟨M, N, rfl⟩ : ∃ a b, vs = [a, b] := by
  match vs, s with
  | [a, b], _ => exact ⟨a, b, rfl⟩
 have i := D 0 _ M rfl rfl; have c := D 1 _ N rfl rfl
 cases c
 have m : ∀ j, RRep w j A (Str (catF l)) (.string (catF l)) := fun j => ⟨A, fun _ h => h, fun _ h => .inl h, none, ⟨rfl, .v _⟩, by simp [Jde]⟩
 generalize C : l.map Str = E at i
 cases i with
 | slnil L a g =>
  have : l = [] := by simpa using C
  subst this
  exact (Tryz.strings_Join_none a g ⟨#[]⟩ w).mono fun e j ⟨i, c⟩ => ⟨_, i, c ▸ Ext.refl _ _, m j⟩
 | sl L E b o g f F q K y G =>
  subst C
  rw [show (l.map Str).length = l.length from L06 ..]
  refine (Tryz.strings_Join b o g l ⟨#[]⟩ w (JuH y G) (u b F) J (by simpa using q) ?_).mono fun e j ⟨i, c⟩ => ⟨_, i, ⟨c.os, c.tape, c.output, c.size, fun k H _ => c.block k H⟩, m j⟩
  have := I
  unfold catF at this
  simpa [ByteArray.size] using this
theorem JhG (m : ByteArray) (l : List ByteArray) (c : m.size + (catF l).size <= 100000000) (g : l.length <= 1000) : Ev prog 212 [.sl 1 (l.map Str), .pt (Str m) 0] (Str (shaF (m ++ catF l))) := by
 refine EV func212 ?_
 refine SA ?_
 refine Jaa (Jt0 l (by omega) (by omega)) ?_
 refine SA ?_
 refine Jaa (JsP (m ++ catF l) (by rw [L0V]; omega)) ?_
 exact SB
theorem JjF (m : ByteArray) : Ev prog 190 [Str m] (.clo 212 [.pt (Str m) 0]) := by
 refine JeE (r := .clo 212 [.nptr 9 1 [Str m]]) ?_ _
 refine EV func190 ?_
 refine SA ?_; simp -implicitDefEqProofs (disch := omega) only [go_sem, results190]
theorem Jt3 (a : ByteArray) (c : a.size <= 99999999) : Ev prog 159 [Str a] (Str (shaF (⟨#[0]⟩ ++ a))) := by
 refine EV func159 ?_
 refine SA ?_
 refine Jaa (JjF _) ?_
 refine SA ?_
 refine Jaa (JhG ⟨#[0]⟩ [a] ?_ (by simp)) ?_
 . rw [Jlz]; show 1 + _ <= _; omega
 simp -implicitDefEqProofs (disch := omega) only [go_sem, results159, Jlz]
theorem JlA (a b : ByteArray) : catF [a, b] = a ++ b := by
 unfold catF; rw [L0q, L0q, L0F, Lib.join_cons]; simp only [Lib.joinTail, L0q, L0F, L1J, List.flatten_nil, L0J]
 apply ByteArray.ext
 simp [ByteArray.data_append]
theorem Juf (a b : ByteArray) (c : a.size + b.size <= 99999999) : Ev prog 160 [Str a, Str b] (Str (shaF (⟨#[1]⟩ ++ (a ++ b)))) := by
 refine EV func160 ?_
 refine SA ?_
 refine Jaa (JjF _) ?_
 refine SA ?_
 refine Jaa (JhG ⟨#[1]⟩ [a, b] ?_ (by simp)) ?_
 . rw [JlA, L0V]; show 1 + _ <= _; omega
 simp -implicitDefEqProofs (disch := omega) only [go_sem, results160, JlA]
theorem JcE (x : Int) (n : Nat) (h : 1 <= n) (i : n <= 31) : Ev prog 231 [U x, I n] (U (rotF x n)) := by
 refine EV func231 ?_
 have c : min n 32 = n := by omega
 have g : (32 - (n : Int)).toNat = 32 - n := by omega
 have m3 : min (32 - n) 32 = 32 - n := by omega
 simp -implicitDefEqProofs (disch := omega) only [go_sem, ntmps231, results231, c, g, m3]
 rfl
theorem Jji : Ev prog 232 [] (UL KT) := by
 refine JeE (r := .new 273 1 (KT.map U)) ?_ _
 refine EV func232 ?_
 simp -implicitDefEqProofs (disch := omega) only [go_sem, ntmps232, results232]
 rfl
theorem Jtl (s : ByteArray) (v : Nat) (h : v < s.size) : ∃ c : UInt8, s[v]? = some c /\ (c.toNat : Int) = gd (bI s) v := by
 refine ⟨s[v], getElem?_pos s v h, ?_⟩
 unfold gd bI
 rw [L1e, L03, L0L, L0g (show v < s.data.size from h)]
 rfl
theorem JkD (s : ByteArray) (hs : s.size <= 100000000) : Ev prog 219 [Str s] (YL (padF (bI s))) := by
 refine JeE (r := .new 5 1 ((padF (bI s)).map Y)) ?_ _
 refine EV func219 ?_
 refine SA ?_; have u := JaI s
 refine Jag (fun n E z => ∃ v : Nat, v + n = s.size /\ E 0 = Str s /\ E 3 = .own 461373488 1 0 v /\ E 4 = I v /\ z 461373488 = some ⟨5, 1, ((bI s).take v).map Y⟩) s.size ⟨0, by omega, ?_⟩ ?_
 . refine SA ?_
   rfl
 . rintro n E z ⟨v, hv, h, i, D, g⟩
   have M : ((bI s).take v).length = v := by simp; omega
   refine SA ?_
   refine Jab (fun C => ?_) (fun C => ?_)
   . obtain ⟨c, L, G⟩ := Jtl s v (by omega)
     have T : (bI s).take v ++ [gd (bI s) v] = (bI s).take (v + 1) := by rw [L1a, Jbb _ _ (by omega)]; rfl
     have o : ((bI s).take v).take v = (bI s).take v := L0b (by omega)
     have H : 0 <= (v : Int) := by omega
     simp -implicitDefEqProofs (disch := omega) only [go_sem, h, i, D, g, u, M, L, G, o, H, optU, T]
     refine Jad (n - 1) (by omega) ⟨v + 1, by omega, ?_⟩
     refine SA ?_
     simp
   . have e : v = s.size := by omega
     subst e
     rw [L0b (by omega)] at g
     refine SA ?_
     obtain ⟨m, aa, Z⟩ := Jek (bI s)
     generalize bI s = l at *
     have o : l.take s.size = l := L0b (by omega)
     have S : zerF l.length < 64 := by unfold zerF; omega
     refine Jag (fun n E z => ∃ j : Nat, j + n = zerF l.length /\ E 0 = Str s /\ E 3 = .own 461373488 1 0 (l.length + 1 + j) /\ z 461373488 = some ⟨5, 1, (padZ l j).map Y⟩) (zerF l.length) ⟨0, by omega, ?_⟩ ?_
     . refine SA ?_
       simp [padZ]
     . clear h i D g C E z hv n
       rintro n E z ⟨j, V, h, i, g⟩
       have y : (padZ l j).length = l.length + 1 + j := by simp [padZ]; omega
       have A : (((l.length + 1 + j : Nat) : Int)).tmod 64 = (((l.length + 1 + j) % 64 : Nat) : Int) := by rw [L11 (by omega)]; omega
       have B : padZ l j ++ [0] = padZ l (j + 1) := by simp [padZ, L2n]
       have o : (padZ l j).take (l.length + 1 + j) = padZ l j := L0b (by omega)
       simp -implicitDefEqProofs (disch := omega) only [go_sem, h, i, g, A]
       refine Jab (fun C => ?_) (fun C => ?_)
       . have W := Jmu l.length j (by omega) (by omega)
         simp -implicitDefEqProofs (disch := omega) only [go_sem, h, i, g, y, B, o]
         refine Jad (n - 1) (by omega) ⟨j + 1, by omega, ?_⟩
         simp -implicitDefEqProofs (disch := omega) only [go_sem, h, i, g, y, B, o]; rw [L0O]
       . have N := Jmv l.length j (by omega) (by omega)
         subst N
         have K : ∀ k : Nat, k <= 8 -> min (8 * (k : Int)).toNat 64 = 8 * k := fun k Q => by omega
         simp -implicitDefEqProofs (disch := omega) only [go_sem, h, i, g, y]
         refine Jag (fun n E z => ∃ w : List Int, n <= 8 /\ w ++ lenL l.length n = padF l /\ E 0 = Str s /\ E 3 = .own 461373488 1 0 w.length /\ E 5 = I ((n : Int) - 1) /\ z 461373488 = some ⟨5, 1, w.map Y⟩) 8 ⟨padZ l (zerF l.length), by omega, rfl, ?_⟩ ?_
         . simp -implicitDefEqProofs (disch := omega) only [go_sem, h, i, g, y]
           simp
         . clear h i g C A y E z V n o
           rintro n E z ⟨w, X, q, h, i, F, g⟩
           have P : w.length <= l.length + 128 := by have := congrArg List.length q; simp at this; omega
           refine SA ?_
           refine Jab (fun C => ?_) (fun C => ?_)
           . obtain ⟨k, rfl⟩ : ∃ k, n = k + 1 := ⟨n - 1, by omega⟩
             have Q : (((k + 1 : Nat) : Int)) - 1 = (k : Int) := by omega
             rw [Q] at F
             have R := K k (by omega)
             have J : IntKind.u8.wrap ((8 * (l.length : Int)).fdiv (2 ^ (8 * k))) = lenB l.length k := rfl
             simp -implicitDefEqProofs (disch := omega) only [go_sem, h, i, F, g, R, J, u.symm, L0e]
             refine Jad k (by omega) ⟨w ++ [lenB l.length k], by omega, by rw [<- q]; simp [lenL], ?_⟩
             simp -implicitDefEqProofs (disch := omega) only [go_sem, h, i, F, g, R, J, L0e]
           . have O : n = 0 := by omega
             subst O; simp only [lenL, L0J] at q; subst q; simp -implicitDefEqProofs (disch := omega) only [go_sem, h, i, F, g, L0e, results219]
theorem JnG (h l : List Int) (v : Nat) (c : v < 8) : gd (addF h l) v = ad (gd h v) (gd (rndW h l 64) v) := by
 rcases v with _ | _ | _ | _ | _ | _ | _ | _ | v
 all_goals first | rfl | omega
theorem Jbi (h l : List Int) : (addF h l).length = 8 := rfl
set_option maxHeartbeats 4000000 in
theorem JqF (h l : List Int) (K : h.length = 8) (hl : l.length = 64) : Ev prog 220 [UL h, YL l] (UL (addF h l)) := by
 refine JeE (r := .new 273 1 ((addF h l).map U)) ?_ _
 refine EW [18] func220 ?_
 refine SA ?_
 refine Jag (fun n E z => ∃ v : Nat, v + n = 16 /\ E 0 = UL h /\ E 1 = YL l /\ E 5 = .own 463470672 1 0 v /\ E 6 = I v /\ z 463470672 = some ⟨273, 1, (schN l v).map U⟩) 16 ⟨0, by omega, ?_⟩ ?_
 . refine SA ?_
   exact ⟨rfl, rfl⟩
 . rintro n E z ⟨v, S, i, C, m, R, g⟩
   have s := Ja3 l v; refine SA ?_
   refine Jab (fun G => ?_) (fun G => ?_)
   . have N : (4 * (v : Int)).toNat = 4 * v := by omega
     have O : (4 * (v : Int) + 1).toNat = 4 * v + 1 := by omega
     have P : (4 * (v : Int) + 2).toNat = 4 * v + 2 := by omega
     have Q : (4 * (v : Int) + 3).toNat = 4 * v + 3 := by omega
     have o : (schN l v).take v = schN l v := L0b (by omega)
     have y : schN l v ++ [be4 l v] = schN l (v + 1) := by simp only [schN, if_pos (show v < 16 from by omega)]
     unfold be4 at y; simp -implicitDefEqProofs (disch := omega) only [go_sem, i, C, m, R, g, hl, s, N, O, P, Q, m24, m16, m8, o, y]
     refine Jad (n - 1) (by omega) ⟨v + 1, by omega, ?_⟩
     refine SA ?_
     simp
   . have e : v = 16 := by omega
     subst e; refine SA ?_
     refine Jag (fun n E z => ∃ v : Nat, v + n = 64 /\ 16 <= v /\ E 0 = UL h /\ E 1 = YL l /\ E 5 = .own 463470672 1 0 v /\ E 7 = I v /\ z 463470672 = some ⟨273, 1, (schN l v).map U⟩) 48 ⟨16, by omega, by omega, ?_⟩ ?_
     . refine SA ?_
       rfl
     . clear i C m R g G E z S s n
       rintro n E z ⟨v, S, aa, i, C, m, H, g⟩
       have s := Ja3 l v; refine SA ?_
       refine Jab (fun G => ?_) (fun G => ?_)
       . have N : ((v : Int) - 15).toNat = v - 15 := by omega
         have O : ((v : Int) - 2).toNat = v - 2 := by omega
         have P : ((v : Int) - 16).toNat = v - 16 := by omega
         have Q : ((v : Int) - 7).toNat = v - 7 := by omega
         have r7 := JcE (gd (schN l v) (v - 15)) 7 (by omega) (by omega)
         have ae := JcE (gd (schN l v) (v - 15)) 18 (by omega) (by omega)
         have ac := JcE (gd (schN l v) (v - 2)) 17 (by omega) (by omega)
         have af := JcE (gd (schN l v) (v - 2)) 19 (by omega) (by omega)
         refine SA ?_
         refine Jaa r7 ?_
         refine SA ?_
         refine Jaa ae ?_
         simp -implicitDefEqProofs (disch := omega) only [go_sem, i, C, m, H, g, s, N, O, P, Q, m3]
         refine Jaa ac ?_
         simp -implicitDefEqProofs (disch := omega) only [go_sem, i, C, m, H, g, s, N, O, P, Q, m3]
         refine Jaa af ?_
         have o : (schN l v).take v = schN l v := L0b (by omega)
         have y : schN l v ++ [nxtF (schN l v) v] = schN l (v + 1) := by simp only [schN, if_neg (show ¬ v < 16 from by omega)]
         unfold nxtF rot2 at y; simp -implicitDefEqProofs (disch := omega) only [go_sem, i, C, m, H, g, s, N, O, P, Q, m3, m10, o, y]
         refine Jad (n - 1) (by omega) ⟨v + 1, by omega, by omega, ?_⟩
         refine SA ?_
         simp
       . have e : v = 64 := by omega
         subst e
         rw [show schN l 64 = schF l from rfl] at g s
         refine SA ?_
         refine Jaa Jji ?_
         have o : h.take 8 = h := L0b (by omega)
         refine SA ?_
         refine Jag (fun n E z => ∃ v id : Nat, v + n = 64 /\ (id = 463470768 \/ id = 463474112) /\ E 0 = UL h /\ E 5 = .own 463470672 1 0 64 /\ E 10 = UL KT /\ E 11 = .own id 1 0 8 /\ E 12 = I v /\ z 463470672 = some ⟨273, 1, (schF l).map U⟩ /\ z id = some ⟨273, 1, (rndW h l v).map U⟩) 64 ⟨0, 463470768, by omega, .inl rfl, ?_⟩ ?_
         . refine SA ?_
           simp [rndW]
         . clear i C m H g G E z S n o aa
           rintro n E z ⟨v, id, S, ab, i, m, j, c, k, g, u⟩
           have w := Jen h l K v
           have T : JyA (rndW h l v) (gd KT v) (gd (schF l) v) = rndW h l (v + 1) := rfl
           have L : v = 64 -> rndW h l v = rndW h l 64 := fun e => by rw [e]
           have F := Jen h l K 64; generalize rndW h l v = q at *
           have r6 := JcE (gd q 4) 6 (by omega) (by omega)
           have V := JcE (gd q 4) 11 (by omega) (by omega)
           have Y := JcE (gd q 4) 25 (by omega) (by omega)
           have r2 := JcE (gd q 0) 2 (by omega) (by omega)
           have W := JcE (gd q 0) 13 (by omega) (by omega)
           have X := JcE (gd q 0) 22 (by omega) (by omega)
           rcases ab with rfl | rfl
           . have D : q.take 8 = q := L0b (by omega)
             refine SA ?_
             refine Jab (fun G => ?_) (fun G => ?_)
             . simp -implicitDefEqProofs (disch := omega) only [go_sem, i, m, j, c, k, g, u, w, s, JaB]
               refine JgA Plain.mono [463470768] ?_
               simp -implicitDefEqProofs (disch := omega) only [go_sem, i, m, j, c, k, g, u, w, s, JaB, D]
               refine Jaa r6 ?_
               simp -implicitDefEqProofs (disch := omega) only [go_sem, i, m, j, c, k, g, u, w, s, JaB, D]
               refine Jaa V ?_
               simp -implicitDefEqProofs (disch := omega) only [go_sem, i, m, j, c, k, g, u, w, s, JaB, D]
               refine Jaa Y ?_
               simp -implicitDefEqProofs (disch := omega) only [go_sem, i, m, j, c, k, g, u, w, s, JaB, D]
               refine Jaa r2 ?_
               simp -implicitDefEqProofs (disch := omega) only [go_sem, i, m, j, c, k, g, u, w, s, JaB, D]
               refine Jaa W ?_
               simp -implicitDefEqProofs (disch := omega) only [go_sem, i, m, j, c, k, g, u, w, s, JaB, D]
               refine Jaa X ?_
               simp -implicitDefEqProofs (disch := omega) only [go_sem, i, m, j, c, k, g, u, w, s, JaB, D]
               refine Jad (n - 1) (by omega) ⟨v + 1, 463474112, by omega, .inr rfl, ?_⟩
               refine SA ?_
               refine ⟨by simp, ?_⟩
               rw [<- T]
               rfl
             . obtain rfl := L (by omega)
               refine SA ?_
               refine Jag (fun n E z => ∃ v : Nat, v + n = 8 /\ E 0 = UL h /\ E 11 = .own 463470768 1 0 8 /\ E 17 = .own 463470864 1 0 v /\ E 18 = I v /\ z 463470768 = some ⟨273, 1, (rndW h l 64).map U⟩ /\ z 463470864 = some ⟨273, 1, ((addF h l).take v).map U⟩) 8 ⟨0, by omega, ?_⟩ ?_
               . refine SA ?_
                 rfl
               . clear i m j c k g u E z
                 rintro n E z ⟨v, S, i, c, A, B, g, u⟩
                 refine SA ?_
                 refine Jab (fun G => ?_) (fun G => ?_)
                 . have hg := JnG h l v (by omega)
                   have J : ((addF h l).take v).length = v := by rw [L02, Jbi]; omega
                   have o : ((addF h l).take v).take v = (addF h l).take v := L0b (by omega)
                   have Z : (addF h l).take v ++ [IntKind.u32.wrap (gd h v + gd (rndW h l 64) v)] = (addF h l).take (v + 1) := by rw [L1a, Jbb _ _ (by rw [Jbi]; omega), hg]; rfl
                   refine SA ?_
                   refine Jad (n - 1) (by omega) ⟨v + 1, by omega, ?_⟩
                   refine SA ?_
                   simp
                 . have e : v = 8 := by omega
                   subst e
                   rw [L0b (by rw [Jbi]; omega)] at u
                   have o : (addF h l).take 8 = addF h l := L0b (by rw [Jbi]; omega)
                   have M : (addF h l).length = 8 := rfl
                   exact SB
           . have D : q.take 8 = q := L0b (by omega)
             refine SA ?_
             refine Jab (fun G => ?_) (fun G => ?_)
             . simp -implicitDefEqProofs (disch := omega) only [go_sem, i, m, j, c, k, g, u, w, s, JaB]
               refine JgA Plain.mono [463474112] ?_
               simp -implicitDefEqProofs (disch := omega) only [go_sem, i, m, j, c, k, g, u, w, s, JaB, D]
               refine Jaa r6 ?_
               simp -implicitDefEqProofs (disch := omega) only [go_sem, i, m, j, c, k, g, u, w, s, JaB, D]
               refine Jaa V ?_
               simp -implicitDefEqProofs (disch := omega) only [go_sem, i, m, j, c, k, g, u, w, s, JaB, D]
               refine Jaa Y ?_
               simp -implicitDefEqProofs (disch := omega) only [go_sem, i, m, j, c, k, g, u, w, s, JaB, D]
               refine Jaa r2 ?_
               simp -implicitDefEqProofs (disch := omega) only [go_sem, i, m, j, c, k, g, u, w, s, JaB, D]
               refine Jaa W ?_
               simp -implicitDefEqProofs (disch := omega) only [go_sem, i, m, j, c, k, g, u, w, s, JaB, D]
               refine Jaa X ?_
               simp -implicitDefEqProofs (disch := omega) only [go_sem, i, m, j, c, k, g, u, w, s, JaB, D]
               refine Jad (n - 1) (by omega) ⟨v + 1, 463474112, by omega, .inr rfl, ?_⟩
               refine SA ?_
               refine ⟨by simp, ?_⟩
               rw [<- T]
               rfl
             . obtain rfl := L (by omega)
               refine SA ?_
               refine Jag (fun n E z => ∃ v : Nat, v + n = 8 /\ E 0 = UL h /\ E 11 = .own 463474112 1 0 8 /\ E 17 = .own 463470864 1 0 v /\ E 18 = I v /\ z 463474112 = some ⟨273, 1, (rndW h l 64).map U⟩ /\ z 463470864 = some ⟨273, 1, ((addF h l).take v).map U⟩) 8 ⟨0, by omega, ?_⟩ ?_
               . refine SA ?_
                 rfl
               . clear i m j c k g u E z
                 rintro n E z ⟨v, S, i, c, A, B, g, u⟩
                 refine SA ?_
                 refine Jab (fun G => ?_) (fun G => ?_)
                 . have hg := JnG h l v (by omega)
                   have J : ((addF h l).take v).length = v := by rw [L02, Jbi]; omega
                   have o : ((addF h l).take v).take v = (addF h l).take v := L0b (by omega)
                   have Z : (addF h l).take v ++ [IntKind.u32.wrap (gd h v + gd (rndW h l 64) v)] = (addF h l).take (v + 1) := by rw [L1a, Jbb _ _ (by rw [Jbi]; omega), hg]; rfl
                   refine SA ?_
                   refine Jad (n - 1) (by omega) ⟨v + 1, by omega, ?_⟩
                   refine SA ?_
                   simp
                 . have e : v = 8 := by omega
                   subst e
                   rw [L0b (by rw [Jbi]; omega)] at u
                   have o : (addF h l).take 8 = addF h l := L0b (by rw [Jbi]; omega)
                   have M : (addF h l).length = 8 := rfl
                   exact SB
theorem Jpk (h : List Int) (v : Nat) (o : v < 8) : (outF h).take (4 * v) ++ [IntKind.u8.wrap ((gd h v).fdiv (2 ^ 24)), IntKind.u8.wrap ((gd h v).fdiv (2 ^ 16)), IntKind.u8.wrap ((gd h v).fdiv (2 ^ 8)), IntKind.u8.wrap (gd h v)] = (outF h).take (4 * (v + 1)) := by
 have e : ∀ j, j < 4 -> dgF h (4 * v + j) = IntKind.u8.wrap ((gd h v).fdiv (2 ^ (24 - 8 * j))) := by
  intro j m
  unfold dgF
  rw [show (4 * v + j) / 4 = v from by omega, show (4 * v + j) % 4 = j from by omega]
 have g := e 0 (by omega)
 have i := e 1 (by omega)
 have k := e 2 (by omega)
 have c := e 3 (by omega)
 simp only [Nat.mul_zero, L0H, L0Z, Nat.reduceMul, Nat.reduceSub, L0X] at g i k c
 rw [show (2 : Int) ^ 0 = 1 from rfl, Int.fdiv_one] at c
 rw [<- g, <- i, <- k, <- c]; unfold outF
 rw [<- L1H, <- L1H, List.take_range, List.take_range, show min (4 * (v + 1)) 32 = 4 * v + 4 from by omega, show min (4 * v) 32 = 4 * v from by omega,
  show 4 * v + 4 = 4 * v + 3 + 1 from rfl, L1m, L1m, L1m, L1m]
 simp
set_option maxHeartbeats 2000000 in
theorem Jln (s : ByteArray) (M : s.size <= 100000000) : Ev prog 210 [Str s] (Str (shaF s)) := by
 refine EV func210 ?_
 refine SA ?_
 refine Jar rfl ?_
 refine Jbk [442499200] ?_
 refine SA ?_
 refine Jaa (JkD s M) ?_
 refine SA ?_; have H := JaI s; unfold shaF; generalize bI s = l at *
 obtain ⟨m, D, L⟩ := Jek l
 refine Jag (fun n E A => ∃ v : Nat, v + n = m /\ E 3 = UL (blkF (padF l) v) /\ E 4 = YL (padF l) /\ E 5 = I ((64 * v : Nat) : Int)) m ⟨0, by omega, ?_⟩ ?_
 . refine SA ?_
   exact ⟨rfl, rfl⟩
 . rintro n E A ⟨v, G, g, i, j⟩
   simp -implicitDefEqProofs (disch := omega) only [go_sem, g, i, j]
   refine Jab (fun C => ?_) (fun C => ?_)
   . have J : v < m := by omega
     have N : (((64 * v : Nat) : Int) + 64).toNat = 64 * v + 64 := by omega
     have K : ((padF l).drop (64 * v)).take (64 * v + 64 - 64 * v) = Jd5 (padF l) v := by unfold Jd5; rw [Nat.add_sub_cancel_left]
     simp -implicitDefEqProofs (disch := omega) only [go_sem, g, i, j, N, K]
     refine Jaa (JqF _ _ (JbU _ v) (JeO _ v (by omega))) ?_
     simp -implicitDefEqProofs (disch := omega) only [go_sem, g, i, j]
     refine Jad (n - 1) (by omega) ⟨v + 1, by omega, ?_⟩
     simp -implicitDefEqProofs (disch := omega) only [go_sem, g, i, j]
     exact ⟨rfl, by congr 1⟩
   . have e : v = m := by omega
     subst e
     rw [show (padF l).length / 64 = v from by omega]
     refine SA ?_; have w := JbU (padF l) v; generalize blkF (padF l) v = q at *
     refine Jag (fun n E A => ∃ v : Nat, v + n = 8 /\ E 3 = UL q /\ E 6 = .own 442499168 1 0 (4 * v) /\ E 7 = I v /\ A 442499168 = some ⟨5, 1, ((outF q).take (4 * v)).map Y⟩) 8 ⟨0, by omega, ?_⟩ ?_
     . refine SA ?_
       rfl
     . clear g i j C E A G n D
       rintro n E A ⟨v, G, g, k, B, o⟩
       have h : (outF q).length = 32 := by simp [outF]
       refine SA ?_
       refine Jab (fun C => ?_) (fun C => ?_)
       . have F := Jpk q v (by omega)
         have z : ((outF q).take (4 * v)).length = 4 * v := by rw [L02, h]; omega
         have y : ((outF q).take (4 * v)).take (4 * v) = (outF q).take (4 * v) := L0b (by omega)
         have u : ∀ (l : List Int) (a b c d : Int), l.map Y ++ [Y a, Y b, Y c, Y d] = (l ++ [a, b, c, d]).map Y := fun l a b c d => by simp
         simp -implicitDefEqProofs (disch := omega) only [go_sem, g, k, B, o, w, h, m24, m16, m8, z, y, u, F]
         refine Jad (n - 1) (by omega) ⟨v + 1, by omega, ?_⟩
         refine SA ?_
         exact ⟨by congr 1, by simp⟩
       . have e : v = 8 := by omega
         subst e
         rw [L0b (by omega)] at o
         refine SA ?_
         refine JdX (outF q) (by simp -implicitDefEqProofs (disch := omega) only [go_sem, k, o, h]) (by intro b; simp -implicitDefEqProofs (disch := omega) only [go_sem, k]; intro e; cases e) (e := 5) rfl rfl rfl ?_
         exact SB
theorem Jrn (a b : ByteArray) (g : a.size + b.size <= 99999999) : Ev prog 183 [Str a, Str b] (Str (shaF (⟨#[1]⟩ ++ (a ++ b)))) := by
 refine EV func183 ?_
 have c : (#[1] : Array UInt8).size = 1 := rfl
 refine SA ?_
 refine Jaa (Jln ((⟨#[1]⟩ : ByteArray) ++ a ++ b) ?_) ?_
 . simp only [L0V]; show 1 + _ + _ <= _; omega
 simp -implicitDefEqProofs (disch := omega) only [go_sem, results183, L2o]
theorem Jq8 (a : ByteArray) (g : a.size <= 99999999) : Ev prog 184 [Str a] (Str (shaF (⟨#[0]⟩ ++ a))) := by
 refine EV func184 ?_
 have c : (#[0] : Array UInt8).size = 1 := rfl
 refine SA ?_
 refine Jaa (Jln ((⟨#[0]⟩ : ByteArray) ++ a) ?_) ?_
 . simp only [L0V]; show 1 + _ <= _; omega
 exact SB
abbrev U64 (n : Int) : AV := .v (.int .u64 n)
def zz (n : Int) : Int := if n < 0 then -2 * n - 1 else 2 * n
def grp : Nat -> Nat -> List (Nat × Bool)
 | 0, z => [(z % 128, true)]
 | k + 1, z => if z < 128 then [(z % 128, true)] else (z % 128, false) :: grp k (z / 128)
def grpB (p : Nat × Bool) : Int := if p.2 then p.1 else p.1 + 128
def viB (n : Int) : List Int := (grp 9 (zz n).toNat).map grpB
def viS (n : Int) : ByteArray := strOfNums (viB n)
theorem Jbg (x : Int) : IntKind.u64.wrap x = x % 18446744073709551616 := by
 simp [IntKind.wrap, IntKind.bits, IntKind.signed]
theorem Ji1 {n : Int} (c : -4611686018427387903 <= n) (g : n <= 4611686018427387903) : 0 <= zz n /\ zz n < 9223372036854775808 := by
 unfold zz; split <;> omega
theorem JyQ {n : Int} (g : -4611686018427387903 <= n) (h : n <= 4611686018427387903) : Ja4 .xor .u64 (IntKind.u64.wrap (IntKind.u64.wrap n * 2 ^ 1)) (IntKind.u64.wrap (n.fdiv (2 ^ 63))) = zz n := by
 have i := Ji1 g h
 show IntKind.u64.wrap (((BitVec.ofInt 64 _ ^^^ BitVec.ofInt 64 _ : BitVec 64).toNat : Nat) : Int) = zz n
 by_cases hn : n < 0
 . have c : IntKind.u64.wrap (n.fdiv (2 ^ 63)) = 18446744073709551615 := by
    rw [Jbg, show (2 : Int) ^ 63 = 9223372036854775808 from rfl, L1K _ (by decide)]
    omega
   rw [c, show BitVec.ofInt 64 18446744073709551615 = BitVec.allOnes 64 from rfl, BitVec.xor_allOnes, BitVec.toNat_not, BitVec.toNat_ofInt, Jbg, Jbg, Jbg]
   simp only [zz, if_pos hn]
   omega
 . have c : IntKind.u64.wrap (n.fdiv (2 ^ 63)) = 0 := by
    rw [Jbg, show (2 : Int) ^ 63 = 9223372036854775808 from rfl, L1K _ (by decide)]
    omega
   rw [c, show BitVec.ofInt 64 0 = 0#64 from rfl, BitVec.xor_zero, BitVec.toNat_ofInt, Jbg, Jbg, Jbg]
   simp only [zz, if_neg hn]
   omega
theorem JsY (z : Nat) (h : z < 18446744073709551616) : Ja4 .and .u64 (z : Int) 127 = ((z % 128 : Nat) : Int) := by
 show IntKind.u64.wrap (((BitVec.ofInt 64 (z : Int) &&& BitVec.ofInt 64 127 : BitVec 64).toNat : Nat) : Int) = _
 rw [BitVec.toNat_and, show (BitVec.ofInt 64 127).toNat = 2 ^ 7 - 1 from rfl, Nat.and_two_pow_sub_one_eq_mod, BitVec.toNat_ofInt, Jbg]
 omega
theorem Jx6 (g : Nat) (h : g < 128) : Ja4 .or .u8 (g : Int) 128 = ((g : Int) + 128) := by
 have c : ∀ g : Fin 128, Ja4 .or .u8 ((g.1 : Nat) : Int) 128 = ((g.1 : Nat) : Int) + 128 := by decide +kernel
 exact c ⟨g, h⟩
theorem JCL (z : Nat) : ((z : Int)).fdiv (2 ^ 7) = ((z / 128 : Nat) : Int) := by
 rw [show (2 : Int) ^ 7 = 128 from rfl, L1K _ (by decide)]; omega
theorem JsC : ∀ k z, ∀ p ∈ grp k z, p.1 < 128
 | 0, z, p, h => by simp [grp] at h; rw [h]; simp; omega
 | k + 1, z, p, h => by
  unfold grp at h
  split at h
  . simp at h; rw [h]; simp; omega
  . simp at h
    rcases h with h | h
    . rw [h]; simp; omega
    . exact JsC k _ p h
theorem Jfb : ∀ k z, (grp k z).length <= k + 1
 | 0, z => by simp [grp]
 | k + 1, z => by
  unfold grp
  split
  . simp
  . simp; exact Jfb k _
theorem Jnw (n : Int) : (viB n).length <= 10 := by unfold viB; rw [L06]; exact Jfb _ _
theorem JaQ (n : Int) : (viS n).size <= 10 := by unfold viS; rw [strOfNums_size]; exact Jnw n
theorem JyP (n : Int) (i : -4611686018427387903 <= n) (j : n <= 4611686018427387903) : Ev prog 97 [I n] (U64 (zz n)) := by
 refine EV func97 ?_
 refine SA ?_
 refine Jab (fun g => ?_) (fun g => ?_)
 . have h : IntKind.i64.wrap (0 - n) = -n := by rw [Jcr (by omega)]; omega
   have c : IntKind.u64.wrap (IntKind.u64.wrap (IntKind.u64.wrap (-n) * 2) - 1) = zz n := by
    simp only [Jbg, zz, if_pos g]; omega
   exact SB
 . have c : IntKind.u64.wrap (IntKind.u64.wrap n * 2) = zz n := by
    simp only [Jbg, zz, if_neg g]; omega
   exact SB
theorem JlP : ∀ k z, z < 128 ^ (k + 1) -> 128 <= z -> ∃ m, k = m + 1 /\ grp k z = (z % 128, false) :: grp m (z / 128) /\ z / 128 < 128 ^ (m + 1)
 | 0, z, h, c => by omega
 | k + 1, z, h, c => ⟨k, rfl, by rw [show grp (k + 1) z = if z < 128 then [(z % 128, true)] else (z % 128, false) :: grp k (z / 128) from rfl, if_neg (by omega)], by rw [L1L] at h; omega⟩
theorem JlO : ∀ k z, z < 128 -> grp k z = [(z % 128, true)]
 | 0, z, h => rfl
 | k + 1, z, h => by rw [show grp (k + 1) z = if z < 128 then [(z % 128, true)] else (z % 128, false) :: grp k (z / 128) from rfl, if_pos h]
set_option maxHeartbeats 1000000 in
theorem JdN (n : Int) (G : -4611686018427387903 <= n) (H : n <= 4611686018427387903) : Ev prog 60 [I n] (.tup [Str (viS n), I 0]) := by
 refine EV func60 ?_
 refine SA ?_
 refine Jab (fun h => absurd h (by omega)) (fun h => ?_)
 refine SA ?_
 refine Jab (fun h => absurd h (by omega)) (fun h => ?_)
 refine SA ?_
 refine Jaa (JyP n G H) ?_
 refine SA ?_; have R := Ji1 G H; unfold viS viB
 obtain ⟨z, J⟩ : ∃ z : Nat, zz n = z := ⟨(zz n).toNat, by omega⟩
 rw [J, L12]
 have o : z < 128 ^ (9 + 1) := by omega
 refine Jag (fun k E K => ∃ (c : List Int) (y : Nat), y < 128 ^ (k + 1) /\ y < 9223372036854775808 /\ c.length + k <= 9 /\ c ++ (grp k y).map grpB = (grp 9 z).map grpB /\ E 4 = U64 y /\ E 5 = .own 127926352 1 0 c.length /\ K 127926352 = some ⟨5, 1, c.map Y⟩) 9 ⟨[], z, o, by omega, by simp, rfl, ?_⟩ ?_
 . simp -implicitDefEqProofs (disch := omega) only [go_sem, J]
 . clear o
   rintro k E K ⟨c, y, P, Q, O, g, s, i, q⟩
   refine SA ?_
   refine Jab (fun h => ?_) (fun h => ?_)
   . obtain ⟨m, rfl, N, A⟩ := JlP k y P (by omega)
     have B : ((y : Int)).tmod 128 = ((y % 128 : Nat) : Int) := by rw [L11 (by omega)]; omega
     have C : ((y : Int)).tdiv 128 = ((y / 128 : Nat) : Int) := by rw [L1j (by omega)]; omega
     have j : IntKind.u8.wrap (IntKind.u64.wrap (((y % 128 : Nat) : Int) + 128)) = ((y % 128 : Nat) : Int) + 128 := by
      rw [Jbg]; simp only [IntKind.wrap, IntKind.bits, IntKind.signed]; simp; omega
     have D : IntKind.u64.wrap ((y % 128 : Nat) : Int) = ((y % 128 : Nat) : Int) := by rw [Jbg]; omega
     have F : IntKind.u64.wrap ((y / 128 : Nat) : Int) = ((y / 128 : Nat) : Int) := by rw [Jbg]; omega
     simp -implicitDefEqProofs (disch := omega) only [go_sem, s, i, q, B, C, j, D, F, L0e]
     refine Jad m (by omega) ⟨c ++ [((y % 128 : Nat) : Int) + 128], y / 128, A, by omega, by simp; omega, ?_, ?_⟩
     . rw [<- g, N]; simp [grpB]
     . simp -implicitDefEqProofs (disch := omega) only [go_sem, s, i, q, B, C, j, D, F, L0e]
   . have w : y < 128 := by omega
     rw [JlO k y w] at g
     have j : IntKind.u8.wrap (y : Int) = ((y % 128 : Nat) : Int) := by
      simp only [IntKind.wrap, IntKind.bits, IntKind.signed]; simp; omega
     have u : c ++ [((y % 128 : Nat) : Int)] = (grp 9 z).map grpB := by rw [<- g]; simp [grpB]
     have L := congrArg List.length u
     have M : c.length + 1 = (grp 9 z).length := by simpa using L
     simp -implicitDefEqProofs (disch := omega) only [go_sem, s, i, q, j, u, L0e]
     refine JdX ((grp 9 z).map grpB) (by simp -implicitDefEqProofs (disch := omega) only [go_sem, i, q, j, u, L0e]; rw [M]; simp) (by intro b; simp -implicitDefEqProofs (disch := omega) only [go_sem, i]; intro e; cases e) (e := 5) rfl rfl rfl ?_
     exact SB
abbrev YG (p : Nat × Bool) : List AV := [Y p.1, .v (.bool p.2)]
@[go_sem] theorem JiE (p : Nat -> Bool) (l : List (Nat × Bool)) : AV.namesL p ((l.map YG).map .tup) = false := by
 rw [L1d]; exact Jam p l _ fun _ => rfl
theorem JoI (z : Int) : Ev prog 170 [U64 z] (.clo 202 [.nptr 178 1 [U64 z]]) := by
 refine EV func170 ?_
 exact SB
theorem m7 : min 7 64 = 7 := rfl
theorem m1a : min 1 64 = 1 := rfl
theorem m63 : min 63 64 = 63 := rfl
theorem JmW (z a : Nat) (σ : Jac) (h : z < 9223372036854775808) (g : σ a = some ⟨178, 1, [U64 z]⟩) (F : a / 16 < 131072 * (202 + 1) \/ 131072 * (202 + 1) + 100000 <= a / 16) :
 SOK prog 202 [.ptr a 1 0 0] σ ((grp 9 z).map YG) := by
 refine Jj4 func202 rfl (by kernel_rfl) mo (nb rfl) ?_ rfl fun l => ?_
 . exact JiE allB _
 . refine SA ?_
   have i : z < 128 ^ (9 + 1) := by omega
   refine Jag (fun k E σ => ∃ y : Nat, y < 128 ^ (k + 1) /\ y < 9223372036854775808 /\ E 0 = .yld l /\ E 1 = .ptr a 1 0 0 /\ E 18 = .tup (((grp k y).map YG).map .tup) /\ σ a = some ⟨178, 1, [U64 y]⟩) 9 ⟨z, i, by omega, ?_⟩ ?_
   . simp -implicitDefEqProofs (disch := omega) only [go_sem, g]
   . clear g i σ
     rintro k E σ ⟨y, C, D, s, u, c, g⟩
     have j := JsY y (by omega)
     have o := JCL y
     have q : IntKind.u8.wrap ((y % 128 : Nat) : Int) = ((y % 128 : Nat) : Int) := by
      simp only [IntKind.wrap, IntKind.bits, IntKind.signed]; simp; omega
     by_cases hc : y < 128
     . rw [JlO k y hc] at c
       have w : decide ((y : Int) < 128) = true := decide_eq_true (by omega)
       refine SA ?_
       exact ⟨.inl trivial, .inr trivial⟩
     . obtain ⟨m, rfl, B, A⟩ := JlP k y C (by omega)
       rw [B] at c
       have w : decide ((y : Int) < 128) = false := decide_eq_false (by omega)
       refine SA ?_
       refine ⟨Jad m (by omega) ⟨y / 128, A, by omega, ?_⟩, .inr trivial⟩
       simp -implicitDefEqProofs (disch := omega) only [go_sem, s, u, c, g, j, o, q, m7]
set_option maxHeartbeats 1000000 in
theorem JjT (n : Int) (F : -4611686018427387903 <= n) (G : n <= 4611686018427387903) : Ev prog 126 [I n] (.tup [Str (viS n), I 0]) := by
 refine EV func126 ?_
 simp -implicitDefEqProofs (disch := omega) only [go_sem]
 refine Jab (fun q => absurd q (by omega)) (fun q => ?_)
 simp -implicitDefEqProofs (disch := omega) only [go_sem]
 refine Jab (fun q => absurd q (by omega)) (fun q => ?_)
 have O := Ji1 F G; have E := JyQ F G
 obtain ⟨z, M⟩ : ∃ z : Nat, zz n = z := ⟨(zz n).toNat, by omega⟩
 rw [M] at E; simp -implicitDefEqProofs (disch := omega) only [go_sem, E, m1a, m63]
 refine Jaa (JoI z) ?_
 simp -implicitDefEqProofs (disch := omega) only [go_sem]
 refine Jca ?_
 have C : (zz n).toNat = z := by omega
 unfold viS viB; rw [C]
 refine JdO [266338624] [266338368] 16646244 ((grp 9 z).map YG) (fun N J => ∃ (d r : List (Nat × Bool)), grp 9 z = d ++ r /\ N = r.map YG /\ J 266338368 = some ⟨164, 1, [.own 266338369 1 0 d.length]⟩ /\ J 266338369 = some ⟨5, 1, (d.map grpB).map Y⟩)
  (g := 202) (caps := [.ptr 266338624 1 0 0]) ?_ ?_ ?_ ?_ ?_ ?_ ?_ ?_
 . simp -implicitDefEqProofs (disch := omega) only [go_sem]
 . refine JmW z _ _ (by omega) ?_ (by decide)
   simp -implicitDefEqProofs (disch := omega) only [go_sem]
 . intro x L
   obtain ⟨y, _, rfl⟩ := L08.1 L
   rfl
 . simp -implicitDefEqProofs (disch := omega) only [go_sem]
 . simp -implicitDefEqProofs (disch := omega) only [go_sem]
 . refine ⟨[], _, rfl, rfl, ?_⟩
   simp -implicitDefEqProofs (disch := omega) only [go_sem]
 . rintro A o y H D ⟨d, r, c, j, s, k⟩
   have m : A 4 = .ptr 266338368 1 0 0 := by rw [o]; simp -implicitDefEqProofs (disch := omega) only [go_sem]
   clear o
   cases r with
   | nil => cases j
   | cons g r =>
    simp only [L0q, List.cons.injEq] at j; obtain ⟨rfl, rfl⟩ := j
    have K := JsC 9 z g (by rw [c]; simp)
    have w := Jx6 g.1 K
    have u : d.length <= 10 := by have := congrArg List.length c; have := Jfb 9 z; simp at *; omega
    have h : (d.map grpB).take d.length = d.map grpB := L0b (by simp)
    simp -implicitDefEqProofs (disch := omega) only [go_sem, m, s, k]
    refine Jab (fun q => ?_) (fun q => ?_)
    . have i : d.map grpB ++ [(g.1 : Int) + 128] = (d ++ [g]).map grpB := by simp [grpB, q]
      simp -implicitDefEqProofs (disch := omega) only [go_sem, m, s, k, w, h, i]
      refine ⟨inL [], fun _ _ => rfl, d ++ [g], r, by rw [c]; simp, rfl, ?_⟩
      simp -implicitDefEqProofs (disch := omega) only [go_sem, m, s, k, w, h, i]
    . have i : d.map grpB ++ [(g.1 : Int)] = (d ++ [g]).map grpB := by simp [grpB, q]
      simp -implicitDefEqProofs (disch := omega) only [go_sem, m, s, k, w, h, i]
      refine ⟨inL [], fun _ _ => rfl, d ++ [g], r, by rw [c]; simp, rfl, ?_⟩
      simp -implicitDefEqProofs (disch := omega) only [go_sem, m, s, k, w, h, i]
 . rintro A o D ⟨d, r, c, j, s, k⟩
   have m : A 4 = .ptr 266338368 1 0 0 := by rw [o]; simp -implicitDefEqProofs (disch := omega) only [go_sem]
   have B : r = [] := by cases r with | nil => rfl | cons a b => cases j
   subst B; rw [L0J] at c
   have h : ((grp 9 z).map grpB).take d.length = (grp 9 z).map grpB := L0b (by rw [c]; simp)
   rw [<- c] at k
   have u : d.length = (grp 9 z).length := by rw [c]
   simp -implicitDefEqProofs (disch := omega) only [go_sem, m, s, k]
   refine JdX ((grp 9 z).map grpB) (by simp -implicitDefEqProofs (disch := omega) only [go_sem, m, s, k, h, u]) (by intro b; simp -implicitDefEqProofs (disch := omega) only [go_sem, m, s, k]; try (intro e; cases e)) (e := 5) rfl rfl rfl ?_
   simp -implicitDefEqProofs (disch := omega) only [go_sem, results126]
structure Rt where
 d : Int
 f : Int
 t : Int
 p : Int
 deriving DecidableEq
instance : Inhabited Rt := ⟨⟨0, 0, 0, 0⟩⟩
abbrev TP (r : Rt) : AV := .agg [I r.d, I r.f, I r.t, I r.p]
abbrev TS (l : List Rt) : AV := .sl 4 (l.map TP)
structure Tf where
 l : List Rt
 b : Int
abbrev TF (x : Tf) : AV := .agg [TS x.l, I x.b]
section
variable (p : Nat -> Bool) (l : List Rt)
@[go_sem] theorem JxN : AV.namesL p (l.map TP) = false := Jam p l TP fun _ => rfl
@[go_sem] theorem JzI : AV.flatL (l.map TP) = true := Ja5 l TP fun _ => rfl
@[go_sem] theorem JyV : JbH 4 (l.map TP) = true := JaD 4 l TP fun _ => ⟨rfl, rfl⟩
@[go_sem] theorem JwS (a b c d : Int) : l.map TP ++ [.agg [.v (.int .i64 a), .v (.int .i64 b), .v (.int .i64 c), .v (.int .i64 d)]] = (l ++ [(⟨a, b, c, d⟩ : Rt)]).map TP := by simp
end
theorem Jc1 (n a b : Int) : Ev prog 150 [I n, I a, I b] (B (decide (a <= n /\ n <= b))) := by
 refine EV func150 ?_
 refine SA ?_
 refine Jab (fun c => ?_) (fun c => ?_)
 . exact SB
   try simp [c]
 . exact SB
   try simp [c]
def Jbr (z : Int) : Bool := decide (-50400 <= z /\ z <= 50400)
theorem JoS (z : Int) : Ev prog 122 [I z] (B (Jbr z)) := by
 refine EV func122 ?_
 simp -implicitDefEqProofs (disch := omega) only [go_sem]
 refine Jaa (Jc1 z (-50400) 50400) ?_
 simp -implicitDefEqProofs (disch := omega) only [go_sem, results122]; try rfl
def JcT (f t : Int) : Bool := decide (0 <= f /\ f <= t /\ t <= 10000000)
theorem JmY (f t : Int) : Ev prog 123 [.agg [I f, I t]] (B (JcT f t)) := by
 refine EV func123 ?_
 refine SA ?_
 refine Jab (fun c => ?_) (fun c => ?_)
 . simp -implicitDefEqProofs (disch := omega) only [go_sem, c]
   refine Jaa (Jc1 t f 10000000) ?_
   simp -implicitDefEqProofs (disch := omega) only [go_sem, c, results123]
   try simp [JcT, c]
 . simp -implicitDefEqProofs (disch := omega) only [go_sem, c, results123]
   try simp [JcT, c]
def Jjv (r : Rt) : Bool := decide (1 <= r.d /\ r.d <= 127 /\ 0 <= r.f /\ r.f < r.t /\ r.t <= 86400 /\ 0 <= r.p /\ r.p <= 1000000)
theorem Jbl {r : Rt} : Jjv r = true ↔ 1 <= r.d /\ r.d <= 127 /\ 0 <= r.f /\ r.f < r.t /\ r.t <= 86400 /\ 0 <= r.p /\ r.p <= 1000000 := decide_eq_true_iff
theorem Jq4 (r : Rt) (h : Jjv r = true) : Ev prog 149 [TP r] (B false) := by
 obtain ⟨c, g, m, o, i, j, k⟩ := Jbl.1 h
 refine EV func149 ?_
 refine SA ?_
 refine Jaa (Jc1 r.d 1 127) ?_
 rw [decide_eq_true ⟨c, g⟩]; refine SA ?_
 refine Jal (by omega) ?_
 refine SA ?_
 refine Jaa (Jc1 r.t (r.f + 1) 86400) ?_
 rw [decide_eq_true ⟨by omega, i⟩]
 refine SA ?_
 refine Jal (by omega) ?_
 refine SA ?_
 refine Jaa (Jc1 r.p 0 1000000) ?_
 rw [decide_eq_true ⟨j, k⟩]; exact SB
def idxT (Q : Rt -> Bool) : List Rt -> Nat -> Int
 | [], _ => -1
 | r :: l, v => if Q r = true then v else idxT Q l (v + 1)
theorem Jaz {T : Type} [Inhabited T] (l : List T) (i : Nat) (h : i < l.length) : l.drop i = gd l i :: l.drop (i + 1) := by
 rw [show gd l i = l[i] by unfold gd; simp [h], L2j h]
theorem JoN (g : FuncId) (caps : List AV) (Q : Rt -> Bool) (l : List Rt) (A : ∀ r ∈ l, Ev prog g ([TP r] ++ caps) (B (Q r))) (q : ∀ p, AV.namesL p caps = false) (u : ∀ σ, caps.map (res σ) = caps) (F : l.length <= 1000000) (w : JaH caps = true := by rfl) : Ev prog 186 [TS l, .clo g caps] (I (idxT Q l 0)) := by
 refine EV func186 ?_
 refine SA ?_
 refine Jag (fun k E σ => ∃ i : Nat, i + k = l.length /\ idxT Q l 0 = idxT Q (l.drop i) i /\ E 0 = TS l /\ E 1 = .clo g caps /\ E 7 = I l.length /\ E 8 = I i) l.length ⟨0, by omega, rfl, ?_⟩ ?_
 . refine SA ?_
   rfl
 rintro k E σ ⟨i, D, s, c, h, j, m⟩
 simp -implicitDefEqProofs (disch := omega) only [go_sem, c, h, j, m]
 refine Jab (fun z => ?_) (fun z => ?_)
 . have y : i < l.length := by omega
   rw [Jaz l i y, idxT] at s; have C := A (gd l i) (Jan l i y); simp -implicitDefEqProofs (disch := omega) only [go_sem, c, h, j, m, q, u, w, L16]
   refine Jaa C ?_
   simp -implicitDefEqProofs (disch := omega) only [go_sem, c, h, j, m]
   refine Jab (fun o => ?_) (fun o => ?_)
   . have o : Q (gd l i) = true := by simpa using o
     rw [if_pos o] at s; simp -implicitDefEqProofs (disch := omega) only [go_sem, c, h, j, m, s, results186]
   . have o : ¬ Q (gd l i) = true := by simpa using o
     rw [if_neg o] at s; simp -implicitDefEqProofs (disch := omega) only [go_sem, c, h, j, m]
     refine Jad (l.length - (i + 1)) (by omega) ⟨i + 1, by omega, s, ?_⟩
     simp -implicitDefEqProofs (disch := omega) only [go_sem, c, h, j, m, q]
     rfl
 . obtain rfl : i = l.length := by omega
   rw [L0C, idxT] at s; simp -implicitDefEqProofs (disch := omega) only [go_sem, c, h, j, m, s, results186]
end Go.Proofs.YtnpbhgeffapojaaGreatDoor
namespace Go.Proofs
open Go.Shelf
def Tryz.lays189_ren : Go.Shelf.Ren := ⟨fun | 189 => 197 | 125 => 164 | 257 => 217 | 128 => 195 | 129 => 196 | 294 => 223 | 295 => 224 | 296 => 225 | 297 => 226 | 298 => 227 | 299 => 228 | 216 => 199 | 300 => 229 | 301 => 230 | 328 => 234 | 329 => 235 | 330 => 236 | 331 => 237 | 332 => 238 | 215 => 218 | 343 => 240 | n => n, fun | 28 => 25 | 3 => 3 | 46 => 243 | 0 => 0 | 51 => 273 | 53 => 178 | 4 => 4 | 183 => 307 | 182 => 306 | 131 => 180 | 5 => 5 | 9 => 9 | 218 => 313 | 222 => 317 | 228 => 320 | 229 => 222 | n => n, fun | n => n⟩
theorem Tryz.lays189 : Go.Proofs.Lays.n189 prog Tryz.lays189_ren := {
 mixed := by kernel_rfl
 f125 := func164.trans (congrArg some (by kernel_rfl))
 f128 := func195.trans (congrArg some (by kernel_rfl))
 f129 := func196.trans (congrArg some (by kernel_rfl))
 f189 := func197.trans (congrArg some (by kernel_rfl))
 f215 := func218.trans (congrArg some (by kernel_rfl))
 f216 := func199.trans (congrArg some (by kernel_rfl))
 f257 := func217.trans (congrArg some (by kernel_rfl))
 f294 := func223.trans (congrArg some (by kernel_rfl))
 f295 := func224.trans (congrArg some (by kernel_rfl))
 f296 := func225.trans (congrArg some (by kernel_rfl))
 f297 := func226.trans (congrArg some (by kernel_rfl))
 f298 := func227.trans (congrArg some (by kernel_rfl))
 f299 := func228.trans (congrArg some (by kernel_rfl))
 f300 := func229.trans (congrArg some (by kernel_rfl))
 f301 := func230.trans (congrArg some (by kernel_rfl))
 f328 := func234.trans (congrArg some (by kernel_rfl))
 f329 := func235.trans (congrArg some (by kernel_rfl))
 f330 := func236.trans (congrArg some (by kernel_rfl))
 f331 := func237.trans (congrArg some (by kernel_rfl))
 f332 := func238.trans (congrArg some (by kernel_rfl))
 f343 := func240.trans (congrArg some (by kernel_rfl))
 t0 := Tryz.underlying0
 a0 := Tryz.isAgg0
 z0 := Tryz.sizeOf0
 v0 := Tryz.zeroValue0
 t3 := Tryz.underlying3
 a3 := Tryz.isAgg3
 z3 := Tryz.sizeOf3
 v3 := Tryz.zeroValue3
 t4 := Tryz.underlying4
 a4 := Tryz.isAgg4
 z4 := Tryz.sizeOf4
 v4 := Tryz.zeroValue4
 t5 := Tryz.underlying5
 a5 := Tryz.isAgg5
 z5 := Tryz.sizeOf5
 v5 := Tryz.zeroValue5
 t9 := Tryz.underlying9
 a9 := Tryz.isAgg9
 z9 := Tryz.sizeOf9
 v9 := Tryz.zeroValue9
 t28 := Tryz.underlying25
 a28 := Tryz.isAgg25
 z28 := Tryz.sizeOf25
 v28 := Tryz.zeroValue25
 t46 := Tryz.underlying243
 a46 := Tryz.isAgg243
 z46 := Tryz.sizeOf243
 v46 := Tryz.zeroValue243
 t51 := Tryz.underlying273
 a51 := Tryz.isAgg273
 z51 := Tryz.sizeOf273
 v51 := Tryz.zeroValue273
 t53 := Tryz.underlying178
 a53 := Tryz.isAgg178
 z53 := Tryz.sizeOf178
 v53 := Tryz.zeroValue178
 t131 := Tryz.underlying180
 a131 := Tryz.isAgg180
 z131 := Tryz.sizeOf180
 v131 := Tryz.zeroValue180
 t182 := Tryz.underlying306
 a182 := Tryz.isAgg306
 z182 := Tryz.sizeOf306
 v182 := Tryz.zeroValue306
 t183 := Tryz.underlying307
 a183 := Tryz.isAgg307
 z183 := Tryz.sizeOf307
 v183 := Tryz.zeroValue307
 t218 := Tryz.underlying313
 a218 := Tryz.isAgg313
 z218 := Tryz.sizeOf313
 v218 := Tryz.zeroValue313
 t222 := Tryz.underlying317
 a222 := Tryz.isAgg317
 z222 := Tryz.sizeOf317
 v222 := Tryz.zeroValue317
 t228 := Tryz.underlying320
 a228 := Tryz.isAgg320
 z228 := Tryz.sizeOf320
 v228 := Tryz.zeroValue320
 t229 := Tryz.underlying222
 a229 := Tryz.isAgg222
 z229 := Tryz.sizeOf222
 v229 := Tryz.zeroValue222 }
open Go.Sort Go.RowKit in
theorem Tryz.slices_Sort_int (c g cap : Nat) (i : List Int) (w : World) (k : Holds (Value.int .i64) w c g i.toArray) (h : c < w.heap.size) (j : i.length < 4611686018427387904) :
 Calls prog 197 #[.slice (some ⟨c, g, none⟩) i.length cap] w fun e w' =>
  e = .returned (.tuple #[]) /\ ∃ n os, w' = grow (putRow (Value.int .i64) (Sort.ahead w n) c g (i.mergeSort fun x y => decide (x <= y)).toArray) os := Any.slices_Sort_int Tryz.lays189 c g cap i w k h j
def Tryz.laysNm220_ren : Go.Shelf.Ren := ⟨fun | 20 => 198 | n => n, fun | 22 => 25 | 3 => 3 | 4 => 4 | 0 => 0 | n => n, fun | n => n⟩
theorem Tryz.laysNm220 : Go.Proofs.Lays2.n20 prog Tryz.laysNm220_ren := {
 mixed := by kernel_rfl
 f20 := func198.trans (congrArg some (by kernel_rfl))
 t0 := Tryz.underlying0
 a0 := Tryz.isAgg0
 z0 := Tryz.sizeOf0
 v0 := Tryz.zeroValue0
 t3 := Tryz.underlying3
 a3 := Tryz.isAgg3
 z3 := Tryz.sizeOf3
 v3 := Tryz.zeroValue3
 t4 := Tryz.underlying4
 a4 := Tryz.isAgg4
 z4 := Tryz.sizeOf4
 v4 := Tryz.zeroValue4
 t22 := Tryz.underlying25
 a22 := Tryz.isAgg25
 z22 := Tryz.sizeOf25
 v22 := Tryz.zeroValue25
 i3 := by kernel_rfl }
open Go.RowKit Go.Lib Go.Sort in
theorem Tryz.slices_Compact_int (c g cap : Nat) (h : List Int) (w : World) (k : Holds (Value.int .i64) w c g h.toArray) (j : h.length <= 9223372036854775807) (i : h.length <= cap) :
 Calls prog 198 #[.slice (some ⟨c, g, none⟩) h.length cap] w fun e w' => e = .returned (.slice (some ⟨c, g, none⟩) (Lib.compact h).length cap) /\ ∃ q, w' = putRow (Value.int .i64) (Sort.ahead w q) c g (Lib.compact h ++ List.replicate (h.length - (Lib.compact h).length) 0).toArray := Any.slices_Compact_int Tryz.laysNm220 c g cap h w k j i
end Go.Proofs
namespace Go.Proofs.YtnpbhgeffapojaaGreatDoor
open Go.Proofs.Tryz
open Go.Vai Go Go.Proofs
theorem JCM : Jwj prog 197 := fun g j h m w k c i => Tryz.slices_Sort_int g j h m w k c i
theorem JBm : Jwf prog 198 Lib.compact := fun g j h m w k i c => Tryz.slices_Compact_int g j h m w k i c
theorem JmN {l : List Int} (h : l.Pairwise (· <= ·)) : (Lib.compact l).Pairwise (· <= ·) := by
 unfold Lib.compact Lib.compactUpTo
 refine List.pairwise_map.2 ?_
 refine List.Pairwise.filter _ ?_
 refine List.Pairwise.imp_of_mem (R := (· < ·)) (fun {a b} i c g => ?_) List.pairwise_lt_range
 have c : b < l.length := by simpa using c
 have := List.pairwise_iff_getElem.1 h a b (by omega) c g
 simp [show a < l.length by omega, c]
 exact this
theorem Jkw (l : List Int) (x : Int) : x ∈ Lib.compact l ↔ x ∈ l := by
 unfold Lib.compact Lib.compactUpTo; simp only [L08, List.mem_filter, L0Q]
 constructor
 . rintro ⟨i, ⟨c, _⟩, rfl⟩
   simp [c]
 . intro g
   obtain ⟨i, c, rfl⟩ := List.getElem_of_mem g
   clear g
   induction i with
   | zero => exact ⟨0, ⟨c, by simp [Lib.keeps]⟩, by simp [c]⟩
   | succ i j =>
    by_cases h : l[i + 1] = l[i]
    . rw [h]; exact j (by omega)
    . refine ⟨i + 1, ⟨c, ?_⟩, by simp [c]⟩
      simp [Lib.keeps, c, show i < l.length by omega, h]
def loF : List Int -> Int -> Nat
 | [], _ => 0
 | y :: l, v => if y < v then loF l v + 1 else 0
theorem JsF : ∀ (l : List Int) (v : Int), loF l v <= l.length
 | [], _ => L0a _
 | y :: l, v => by
  rw [loF]; split
  . have := JsF l v; simp; omega
  . simp
theorem JhC : ∀ (l : List Int) (v : Int) (i : Nat), i < loF l v -> gd l i < v
 | [], _, _, h => by simp [loF] at h
 | y :: l, v, i, h => by
  rw [loF] at h
  split at h
  . cases i with
    | zero => rw [JaJ]; assumption
    | succ i => rw [JaC]; exact JhC l v i (by omega)
  . omega
theorem Jl3 : ∀ (l : List Int) (v : Int) (i : Nat), l.Pairwise (· <= ·) -> loF l v <= i -> i < l.length -> v <= gd l i
 | [], _, _, _, _, h => by simp at h
 | y :: l, v, i, c, h, g => by
  rw [loF] at h; have c := L1p.1 c
  split at h
  . cases i with
    | zero => omega
    | succ i => rw [JaC]; exact Jl3 l v i c.2 (by omega) (by simpa using g)
  . cases i with
    | zero => rw [JaJ]; omega
    | succ i =>
     rw [JaC]
     have := c.1 (gd l i) (Jan l i (by simpa using g))
     omega
def Jhm (l : List Int) (v : Int) : Int := if loF l v < l.length then gd l (loF l v) else 86400
theorem Jri (l : List Int) (v : Int) (c : l.Pairwise (· <= ·)) (g : v <= 86400) : v <= Jhm l v := by
 unfold Jhm; split
 . exact Jl3 l v _ c (L0a _) (by assumption)
 . exact g
theorem Jrj (l : List Int) (v : Int) (c : ∀ y ∈ l, y <= 86400) : Jhm l v <= 86400 := by
 unfold Jhm; split
 . exact c _ (Jan l _ (by assumption))
 . exact L1M _
theorem Jrk (l : List Int) (v : Int) (o : l.Pairwise (· <= ·)) (y : Int) (q : y ∈ l) (h : v <= y) : Jhm l v <= y := by
 obtain ⟨i, m, rfl⟩ := List.getElem_of_mem q
 have k : gd l i = l[i] := by unfold gd; simp [m]
 have j : loF l v <= i := by
  refine Decidable.byContradiction fun s => ?_
  have := JhC l v i (by omega)
  rw [k] at this; omega
 unfold Jhm
 rw [if_pos (by omega)]
 rcases Nat.lt_or_eq_of_le j with c | c
 . have := List.pairwise_iff_getElem.1 o (loF l v) i (by omega) m c
   have g : gd l (loF l v) = l[loF l v] := by unfold gd; simp [show loF l v < l.length by omega]
   rw [g]; exact this
 . rw [c, k]; exact L1M _
def hitR (s : Int) (r : Rt) : Bool := decide (r.d / 2 ^ (s / 86400).toNat % 2 = 1 /\ r.f <= s % 86400 /\ s % 86400 < r.t)
def JcD (x : Tf) (s : Int) : Int := match x.l.find? (hitR s) with | some r => r.p | none => x.b
def JaV (x : Tf) : Bool := decide (0 <= x.b /\ x.b <= 1000000 /\ x.l.length <= 10) && x.l.all Jjv
theorem Ja6 {x : Tf} : JaV x = true ↔ (0 <= x.b /\ x.b <= 1000000 /\ x.l.length <= 10) /\ ∀ r ∈ x.l, Jjv r = true := by
 unfold JaV; rw [L00, decide_eq_true_iff, L0c]
theorem JiK {x : Tf} (h : JaV x = true) (s : Int) : 0 <= JcD x s /\ JcD x s <= 1000000 := by
 obtain ⟨c, g⟩ := Ja6.1 h
 unfold JcD
 split
 . rename_i r i
   have := Jbl.1 (g r (List.mem_of_find?_eq_some i))
   exact this.2.2.2.2.2
 . exact ⟨c.1, c.2.1⟩
def rawF (x : Tf) : List Int := 0 :: x.l.flatMap fun r => [r.f, r.t % 86400]
def chgF (x : Tf) : List Int := Lib.compact (Jdd (rawF x))
theorem Jku (x : Tf) : (chgF x).Pairwise (· <= ·) := by
 refine JmN ?_
 have := List.pairwise_mergeSort (le := fun (x y : Int) => decide (x <= y)) (fun a b c g i => by simp at *; omega) (fun a b => by simp; omega) (rawF x)
 exact this.imp fun h => by simpa using h
theorem JlB (x : Tf) (y : Int) : y ∈ chgF x ↔ y ∈ rawF x := by
 unfold chgF; rw [Jkw, JpU]
theorem Jtm {x : Tf} (h : JaV x = true) (y : Int) (hy : y ∈ chgF x) : 0 <= y /\ y < 86400 := by
  rw [JlB] at hy; unfold rawF at hy
  rcases L0i.1 hy with rfl | hy
  . omega
  . obtain ⟨r, hr, hy⟩ := List.mem_flatMap.1 hy
    have := Jbl.1 ((Ja6.1 h).2 r hr)
    simp only [L0i, List.mem_nil_iff, or_false] at hy
    omega
def endF (x : Tf) (u : Int) : Int := Jhm (chgF x) (u + 1)
theorem Jil {x : Tf} (h : JaV x = true) {u : Int} (g : 0 <= u) (i : u < 86400) : u < endF x u /\ endF x u <= 86400 := by
 refine ⟨?_, Jrj _ _ fun y c => by have := Jtm h y c; omega⟩
 have := Jri (chgF x) (u + 1) (Jku x) (by omega)
 unfold endF; omega
theorem Jnf {x : Tf} (h : JaV x = true) {s : Int} (D : 0 <= s) {i : Int} (hi : 0 <= i) (w : s % 86400 + i < endF x (s % 86400)) : JcD x (s + i) = JcD x s := by
 have E := Jil h (u := s % 86400) (by omega) (by omega)
 have m : (s + i) / 86400 = s / 86400 := by omega
 have z : (s + i) % 86400 = s % 86400 + i := by omega
 have c : ∀ y ∈ rawF x, ¬ (s % 86400 < y /\ y < endF x (s % 86400)) := fun y A q => by
  have := Jrk (chgF x) (s % 86400 + 1) (Jku x) y ((JlB x y).2 A) (by omega)
  unfold endF at q; omega
 have g : ∀ r ∈ x.l, hitR (s + i) r = hitR s r := fun r j => by
  have F := Jbl.1 ((Ja6.1 h).2 r j)
  have G := c r.f (by unfold rawF; exact L1y _ (List.mem_flatMap.2 ⟨r, j, by simp⟩))
  have H := c (r.t % 86400) (by unfold rawF; exact L1y _ (List.mem_flatMap.2 ⟨r, j, by simp⟩))
  unfold hitR; rw [m, z]
  apply decide_eq_decide.2
  refine and_congr Iff.rfl ?_
  omega
 have o : x.l.find? (hitR (s + i)) = x.l.find? (hitR s) := by
  generalize x.l = l at g
  induction l with
  | nil => rfl
  | cons r l B =>
   rw [L2e, L2e, g r (by simp), B fun C k => g C (by simp [k])]
 unfold JcD; rw [o]
def psum (g : Int -> Int) (a : Int) : Nat -> Int
 | 0 => 0
 | n + 1 => psum g a n + g (a + n)
theorem JiJ (g : Int -> Int) (a : Int) (m : Nat) : ∀ n : Nat, psum g a (m + n) = psum g a m + psum g (a + m) n
 | 0 => by simp [psum]
 | n + 1 => by
  rw [<- L0O, psum, psum, JiJ g a m n, show a + ((m + n : Nat) : Int) = a + m + n by omega]
  omega
theorem Jfr {g : Int -> Int} {a c : Int} : ∀ {n : Nat}, (∀ i : Nat, i < n -> g (a + i) = c) -> psum g a n = c * n
 | 0, _ => by simp [psum]
 | n + 1, h => by
  rw [psum, Jfr fun i j => h i (by omega), h n (by omega), show ((n + 1 : Nat) : Int) = n + 1 from rfl, L1X, Int.mul_one]
theorem JhO {g : Int -> Int} {a b : Int} : ∀ {n : Nat}, (∀ i : Nat, i < n -> g (a + i) = g (b + i)) -> psum g a n = psum g b n
 | 0, _ => rfl
 | n + 1, h => by rw [psum, psum, JhO fun i c => h i (by omega), h n (by omega)]
theorem Jpv {g : Int -> Int} {a : Int} {c : Int} (h : ∀ t, 0 <= g t /\ g t <= c) : ∀ n : Nat, 0 <= psum g a n /\ psum g a n <= c * n
 | 0 => by simp [psum]
 | n + 1 => by
  have := Jpv (a := a) h n
  have i := h (a + n)
  rw [psum, show ((n + 1 : Nat) : Int) = n + 1 from rfl, L1X, Int.mul_one]
  omega
theorem Jhb {g : Int -> Int} {k : Nat} (c : ∀ t, 0 <= t -> g (t + k) = g t) {a : Int} (h : 0 <= a) : ∀ n : Nat, g (a + ((n * k : Nat) : Int)) = g a
 | 0 => by simp
 | n + 1 => by
  rw [<- Jhb c h n, <- c (a + ((n * k : Nat) : Int)) (by omega)]
  congr 1
  rw [L10]; omega
theorem JhP {g : Int -> Int} {k : Nat} (c : ∀ t, 0 <= t -> g (t + k) = g t) {a : Int} (h : 0 <= a) : ∀ n : Nat, psum g a (n * k) = n * psum g a k
 | 0 => by simp [psum]
 | n + 1 => by
  rw [L10, JiJ, JhP c h n]
  have : psum g (a + ((n * k : Nat) : Int)) k = psum g a k := by
   refine JhO fun i _ => ?_
   have := Jhb c (a := a + i) (by omega) n
   rw [<- this]
   congr 1
   omega
  rw [this, show ((n + 1 : Nat) : Int) = n + 1 from rfl, Int.add_mul, Int.one_mul]
def locF (z t : Int) : Int := (t + z + 604800) % 604800
def JfM (x : Tf) (z t : Int) : Int := JcD x (locF z t)
def sumF (x : Tf) (z a b : Int) : Int := psum (JfM x z) a (b - a).toNat
theorem JbR {z : Int} : Jbr z = true ↔ -50400 <= z /\ z <= 50400 := decide_eq_true_iff
theorem JrA {x : Tf} (h : JaV x = true) (z t : Int) : 0 <= JfM x z t /\ JfM x z t <= 1000000 := JiK h _
theorem Jnd (x : Tf) (z t : Int) : JfM x z (t + (604800 : Nat)) = JfM x z t := by
 unfold JfM locF
 congr 1
 omega
theorem Jpm {x : Tf} (h : JaV x = true) {z a b : Int} (y : Jbr z = true) (o : 0 <= a) (j : a <= b) (q : b <= a + endF x (locF z a % 86400) - locF z a % 86400) : sumF x z a b = JcD x (locF z a) * (b - a) := by
 have k : 0 <= locF z a := by unfold locF; omega
 have m : locF z a < 604800 := by unfold locF; omega
 have s := Jil h (u := locF z a % 86400) (by omega) (by omega)
 unfold sumF
 rw [Jfr (c := JcD x (locF z a)) fun i w => ?_, L21 (by omega)]
 have g : locF z (a + i) = locF z a + i := by
  unfold locF at *; omega
 unfold JfM; rw [g]
 exact Jnf h k (by omega) (by omega)
theorem Jf8 (x : Tf) (z : Int) {a b c : Int} (g : a <= b) (h : b <= c) : sumF x z a c = sumF x z a b + sumF x z b c := by
 unfold sumF
 rw [show (c - a).toNat = (b - a).toNat + (c - b).toNat by omega, JiJ, L21 (by omega), show a + (b - a) = b by omega]
theorem Jc9 {x : Tf} (h : JaV x = true) (z a b : Int) (c : a <= b) : 0 <= sumF x z a b /\ sumF x z a b <= 1000000 * (b - a) := by
 have := Jpv (a := a) (JrA h z) (b - a).toNat
 rw [L21 (by omega)] at this
 exact this
theorem Jnu (x : Tf) (z : Int) {a b : Int} (c : 0 <= a) (g : a <= b) : sumF x z a b = sumF x z (a + (b - a) / 604800 * 604800) b + (b - a) / 604800 * sumF x z a (a + 604800) := by
 rw [Jf8 x z (a := a) (b := a + (b - a) / 604800 * 604800) (by omega) (by omega), Int.add_comm]
 congr 1
 obtain ⟨n, h⟩ : ∃ n : Nat, (b - a) / 604800 = n := ⟨((b - a) / 604800).toNat, by omega⟩
 rw [h]; unfold sumF
 rw [show (a + (n : Int) * 604800 - a).toNat = n * 604800 by omega, show (a + 604800 - a).toNat = 604800 by omega]
 exact JhP (fun t _ => Jnd x z t) c n
def pcsF (x : Tf) (z b : Int) : Nat -> Int -> List (Int × Int × Int)
 | 0, _ => []
 | k + 1, a => if a < b then (a, min (a + endF x (locF z a % 86400) - locF z a % 86400) b, JcD x (locF z a)) :: pcsF x z b k (min (a + endF x (locF z a % 86400) - locF z a % 86400) b) else []
theorem Jrg (z t : Int) (h : Jbr z = true) (g : 0 <= t /\ t <= 100000000) : Ev prog 167 [I z, I t] (I (locF z t)) := by
 have i := JbR.1 h
 have c : (t + z + 604800).tmod 604800 = locF z t := by rw [L11 (by omega)]; rfl
 refine EV func167 ?_
 exact SB
theorem Jtc (v : Int) (c : 0 <= v) (g : v <= 127) : Ja4 .and .i64 v 1 = v % 2 := by
 obtain ⟨n, rfl⟩ : ∃ n : Nat, v = n := ⟨v.toNat, by omega⟩
 have : ∀ m : Fin 128, Ja4 .and .i64 ((m : Nat) : Int) 1 = ((m : Nat) : Int) % 2 := by decide +kernel
 exact this ⟨n, by omega⟩
theorem Jpw (r : Rt) (s : Int) (m : Jjv r = true) (i : 0 <= s) (o : s < 604800) : Ev prog 201 [TP r, .pt (I s) 0] (B (hitR s r)) := by
 have k := Jbl.1 m
 have g : s.tdiv 86400 = s / 86400 := L1j i
 have h : s.tmod 86400 = s % 86400 := L11 i
 have j : Ja4 .and .i64 (r.d.fdiv (2 ^ min (s / 86400).toNat 64)) 1 = r.d / 2 ^ (s / 86400).toNat % 2 := by
  rw [L0P (by omega), L1K _ (Int.le_of_lt (Int.pow_pos (by omega)))]
  refine Jtc _ (L1k (by omega) (Int.le_of_lt (Int.pow_pos (by omega)))) ?_
  exact Int.le_trans (L2d _ (by omega)) k.2.1
 refine EV func201 ?_
 refine SA ?_; unfold hitR; generalize r.d / 2 ^ (s / 86400).toNat % 2 = q
 refine Jab (fun c => ?_) (fun c => ?_)
 . simp -implicitDefEqProofs (disch := omega) only [go_sem, g, h, c]
   refine Jaa (Jc1 (s % 86400) r.f (r.t - 1)) ?_
   simp -implicitDefEqProofs (disch := omega) only [go_sem, c, results201, true_and]
   congr 2
   apply decide_eq_decide.2
   omega
 . exact SB
theorem JlJ (Q : Rt -> Bool) : ∀ (l : List Rt) (v : Nat), (idxT Q l v = -1 /\ l.find? Q = none) \/ ∃ i : Nat, i < l.length /\ idxT Q l v = ((v + i : Nat) : Int) /\ l.find? Q = some (gd l i)
 | [], _ => .inl ⟨rfl, rfl⟩
 | r :: l, v => by
  rw [idxT, L2e]
  by_cases h : Q r = true
  . rw [if_pos h, h]; exact .inr ⟨0, by simp, rfl, by rw [JaJ]⟩
  . rw [if_neg h, show Q r = false by simpa using h]
    rcases JlJ Q l (v + 1) with ⟨c, g⟩ | ⟨i, c, g, j⟩
    . exact .inl ⟨c, g⟩
    . exact .inr ⟨i + 1, by simpa using c, by rw [g]; congr 1; omega, by rw [JaC]; exact j⟩
theorem JrF (x : Tf) (s : Int) (h : JaV x = true) (k : 0 <= s) (m : s < 604800) : Ev prog 169 [TF x, I s] (I (JcD x s)) := by
 obtain ⟨w, q⟩ := Ja6.1 h
 refine EV func169 ?_
 refine SA ?_
 refine Jar rfl ?_
 refine Jbk [356515888] ?_
 refine SA ?_
 refine Jaa (JoN 201 [.pt (I s) 0] (hitR s) x.l (fun r u => Jpw r s (q r u) k m) (fun _ => rfl) (fun _ => rfl) (by omega)) ?_
 have g : JcD x s = match x.l.find? (hitR s) with | some r => r.p | none => x.b := rfl
 rcases JlJ (hitR s) x.l 0 with ⟨j, c⟩ | ⟨i, j, c, o⟩
 . rw [c] at g; exact SB
 . rw [o] at g; rw [L0n] at c; refine SA ?_
   refine Jal (by omega) ?_
   exact SB
theorem JlS (Q : Rt -> Bool) : ∀ (l : List Rt) (v : Nat), (∀ r ∈ l, Q r = false) -> idxT Q l v = -1
 | [], _, _ => rfl
 | r :: l, v, h => by
  rw [idxT, if_neg (by rw [h r (by simp)]; simp)]
  exact JlS Q l (v + 1) fun r c => h r (by simp [c])
theorem Jkx (l : List Rt) (h : ∀ r ∈ l, Jjv r = true) (g : l.length <= 1000000) : Ev prog 151 [TS l, .clo 149 []] (B false) := by
 have c := JoN 149 [] (fun _ => false) l (fun r i => Jq4 r (h r i)) (fun _ => rfl) (fun _ => rfl) g
 rw [JlS _ l 0 fun _ _ => rfl] at c
 refine EV func151 ?_
 refine SA ?_
 refine Jaa c ?_
 exact SB
theorem Jmp (x : Tf) (h : JaV x = true) : Ev prog 105 [TF x] (B true) := by
 obtain ⟨⟨c, g, k⟩, i⟩ := Ja6.1 h
 refine EV func105 ?_
 refine SA ?_
 refine Jaa (Jc1 x.b 0 1000000) ?_
 rw [decide_eq_true ⟨c, g⟩]; refine SA ?_
 have j : decide ((x.l.length : Int) <= 10) = true := decide_eq_true (by omega)
 refine Ja1 (by omega) ?_
 refine SA ?_
 refine Jaa (Jkx x.l i (by omega)) ?_
 exact SB
theorem JoR (x : Tf) (z f t : Int) (h : JaV x = true) : Ev prog 79 [TF x, I z, .agg [I f, I t]] (B (Jbr z && JcT f t)) := by
 refine EV func79 ?_
 refine SA ?_
 refine Jaa (Jmp x h) ?_
 refine SA ?_
 refine Jaa (JoS z) ?_
 cases Jbr z with
 | false => simp -implicitDefEqProofs (disch := omega) only [go_sem, results79, L04]
 | true =>
  refine SA ?_
  refine Jaa (JmY f t) ?_
  cases JcT f t with
  | false => simp -implicitDefEqProofs (disch := omega) only [go_sem, results79, L0d]
  | true => simp -implicitDefEqProofs (disch := omega) only [go_sem, results79, L0d]
theorem Jpx (l : List Rt) : (l.flatMap fun r => [r.f, r.t % 86400]).length = 2 * l.length := by
 induction l with
 | nil => rfl
 | cons r l c => rw [L2c, L07, c]; simp; omega
theorem JrG (l : List Rt) (i : Nat) (h : i < l.length) : ((l.take (i + 1)).flatMap fun r => [r.f, r.t % 86400]) = ((l.take i).flatMap fun r => [r.f, r.t % 86400]) ++ [(gd l i).f, (gd l i).t % 86400] := by
 rw [List.take_succ_eq_append_getElem h, List.flatMap_append, L2c, List.flatMap_nil, L0J]
 unfold gd; simp [h]
@[go_sem] theorem JwP (l : List Int) (a b : Int) : l.map I ++ [.v (.int .i64 a), .v (.int .i64 b)] = (l ++ [a, b]).map I := by simp
theorem JmJ (x : Tf) (h : JaV x = true) : Ev prog 166 [TF x] (SL (chgF x)) := by
 obtain ⟨⟨F, G, H⟩, A⟩ := Ja6.1 h
 refine EV func166 ?_
 refine SA ?_
 refine Jag (fun k E z => ∃ (i : Nat) (o : List Int), i + k = x.l.length /\ o = 0 :: ((x.l.take i).flatMap fun r => [r.f, r.t % 86400]) /\ E 3 = .own 350224480 1 0 o.length /\ z 350224480 = some ⟨3, 1, o.map I⟩ /\ E 8 = TS x.l /\ E 9 = I x.l.length /\ E 10 = I i) x.l.length ⟨0, [0], by omega, rfl, ?_⟩ ?_
 . refine SA ?_
   rfl
 rintro k E z ⟨i, o, K, j, c, m3, s, u, g⟩
 have D : o.length = 1 + 2 * i := by rw [j, L0h, Jpx, L02]; omega
 refine SA ?_
 refine Jab (fun B => ?_) (fun B => ?_)
 . have q : i < x.l.length := by omega
   have J := Jbl.1 (A _ (Jan x.l i q))
   have C : (gd x.l i).t.tmod 86400 = (gd x.l i).t % 86400 := L11 (by omega)
   simp -implicitDefEqProofs (disch := omega) only [go_sem, c, s, u, g, m3, C, L0e]
   refine Jad (x.l.length - (i + 1)) (by omega) ⟨i + 1, o ++ [(gd x.l i).f, (gd x.l i).t % 86400], by omega, by rw [JrG _ _ q, j]; rfl, ?_⟩
   refine SA ?_
   rfl
 . have q : i = x.l.length := by omega
   rw [q, L0e] at j
   have j : o = rawF x := j
   subst j; simp -implicitDefEqProofs (disch := omega) only [go_sem, c, m3]
   refine Jar rfl ?_
   have w := JpV (P := prog) (f := 197) (enters_of func197 (by kernel_rfl) rfl) JCM 350224480 3 (rawF x) (by omega) (by omega)
   refine Jra 350224480 3 w ?_ ?_ ?_ ?_ (by omega) ?_
   . simp -implicitDefEqProofs (disch := omega) only [go_sem, c, m3]
   . simp -implicitDefEqProofs (disch := omega) only [go_sem, c, m3]
   . simp -implicitDefEqProofs (disch := omega) only [go_sem, c, m3]
   . simp -implicitDefEqProofs (disch := omega) only [go_sem, c, m3]
   have y := Jcz (rawF x); simp -implicitDefEqProofs (disch := omega) only [go_sem, c, m3]
   refine Jar rfl ?_
   have m := Lib.compact_length_le (Jdd (rawF x))
   have w := Jog (P := prog) (f := 198) (enters_of func198 (by kernel_rfl) rfl) JBm 350224480 3 (Jdd (rawF x)) (by omega) (by omega) m
   refine Jrc 350224480 w ?_ ?_ ?_ m (by simp; omega) ?_
   . simp -implicitDefEqProofs (disch := omega) only [go_sem, c, m3]
   . simp -implicitDefEqProofs (disch := omega) only [go_sem, c, m3, y]
   . simp -implicitDefEqProofs (disch := omega) only [go_sem, c, m3]
   rw [L2h rfl]; simp -implicitDefEqProofs (disch := omega) only [go_sem, c, m3, results166]
   rfl
theorem JxP (x : Int) : Ev prog 218 [I x] (B false) := by
 refine EV func218 ?_
 simp -implicitDefEqProofs (disch := omega) only [go_sem, ntmps218, results218]
 simp
theorem Jub (x : Int) : Ev prog 200 [I x] (B false) := by
 refine EV func200 ?_
 simp -implicitDefEqProofs (disch := omega) only [go_sem, ntmps200, results200]
 simp
theorem Jt5 (x y : Int) : Ev prog 199 [I x, I y] (B (decide (x < y))) := by
 refine EV func199 ?_
 refine SA ?_
 refine Jaa (JxP x) ?_
 exact SB
theorem JtN (i j : Nat) (h : i + j <= 100000) : IntKind.i64.wrap ((IntKind.u64.wrap ((i : Int) + (j : Int))).fdiv (2 ^ min 1 64)) = (((i + j) / 2 : Nat) : Int) := by
 have c : IntKind.u64.wrap ((i : Int) + (j : Int)) = (i : Int) + (j : Int) := by
  unfold IntKind.wrap; simp only [IntKind.bits, IntKind.signed]
  first | omega | (simp; omega)
 rw [c, Jcr]
 . rw [show (2 : Int) ^ min 1 64 = 2 from rfl, L1K _ (by omega)]; omega
 . rw [show (2 : Int) ^ min 1 64 = 2 from rfl, L1K _ (by omega)]; omega
theorem JmG (l : List Int) (v : Int) (C : l.Pairwise (· <= ·)) (K : l.length <= 40000) : Ev prog 168 [SL l, I v] (.tup [I (loF l v : Nat), B (decide (loF l v < l.length /\ gd l (loF l v) = v))]) := by
 have z := JsF l v
 refine EV func168 ?_
 simp -implicitDefEqProofs (disch := omega) only [go_sem]
 refine Jag (fun n E F => ∃ (i j : Nat), i + n = j /\ i <= loF l v /\ loF l v <= j /\ j <= l.length /\ E 0 = SL l /\ E 1 = I v /\ E 6 = I l.length /\ E 7 = I i /\ E 8 = I j) l.length ⟨0, l.length, by omega, by omega, z, by omega, ?_⟩ ?_
 . simp -implicitDefEqProofs (disch := omega) only [go_sem]
   rfl
 rintro n E F ⟨i, j, L, G, H, J, c, g, k, m, o⟩
 simp -implicitDefEqProofs (disch := omega) only [go_sem, c, g, k, m, o]
 refine Jab (fun w => ?_) (fun w => ?_)
 . have u := JtN i j (by omega)
   obtain ⟨h, D⟩ : ∃ h, (i + j) / 2 = h := ⟨_, rfl⟩
   rw [D] at u; simp -implicitDefEqProofs (disch := omega) only [go_sem, c, g, k, m, o, u]
   refine Jaa (Jt5 (gd l h) v) ?_
   simp -implicitDefEqProofs (disch := omega) only [go_sem, c, g, k, m, o, u]
   refine Jab (fun s => ?_) (fun s => ?_)
   . have s : gd l h < v := by simpa using s
     have : h < loF l v := by
      refine Decidable.byContradiction fun w => ?_
      have := Jl3 l v h C (by omega) (by omega)
      omega
     simp -implicitDefEqProofs (disch := omega) only [go_sem, c, g, k, m, o, u]
     refine Jad (j - (h + 1)) (by omega) ⟨h + 1, j, by omega, by omega, by omega, by omega, ?_⟩
     simp -implicitDefEqProofs (disch := omega) only [go_sem, c, g, k, m, o, u]
     rfl
   . have s : ¬ gd l h < v := by simpa using s
     have : loF l v <= h := by
      refine Decidable.byContradiction fun w => ?_
      have := JhC l v h (by omega)
      omega
     simp -implicitDefEqProofs (disch := omega) only [go_sem, c, g, k, m, o, u]
     refine Jad (h - i) (by omega) ⟨i, h, by omega, by omega, by omega, by omega, ?_⟩
     simp -implicitDefEqProofs (disch := omega) only [go_sem, c, g, k, m, o, u]
 . have A : i = loF l v := by omega
   rw [<- A]; simp -implicitDefEqProofs (disch := omega) only [go_sem, c, g, k, m, o]
   refine Jab (fun s => ?_) (fun s => ?_)
   . have q : i < l.length := by omega
     simp -implicitDefEqProofs (disch := omega) only [go_sem, c, g, k, m, o]
     refine Jab (fun y => ?_) (fun y => ?_)
     . simp -implicitDefEqProofs (disch := omega) only [go_sem, c, g, k, m, o, y, results168]; rw [decide_eq_true q]
     . simp -implicitDefEqProofs (disch := omega) only [go_sem, c, g, k, m, o]
       refine Jaa (Jub (gd l i)) ?_
       simp -implicitDefEqProofs (disch := omega) only [go_sem, c, g, k, m, o, y, q, results168]
   . have q : ¬ i < l.length := by omega
     simp -implicitDefEqProofs (disch := omega) only [go_sem, c, g, k, m, o, s, q, results168]
     rw [decide_eq_false (fun h => h.1)]
abbrev SP2 (a b : Int) : AV := .agg [I a, I b]
abbrev PW (q : Int × Int × Int) : List AV := [.agg [I q.1, I q.2.1, I q.2.2]]
abbrev PX (l : List (Int × Int × Int)) : List (List AV) := l.map PW
theorem JjI (p : Nat -> Bool) (l : List (Int × Int × Int)) : AV.namesL p ((PX l).map .tup) = false := by
 induction l with
 | nil => rfl
 | cons q l c =>
  show AV.namesL p (.tup (PW q) :: (PX l).map .tup) = false
  simp only [go_sem, c]
  first | done | simp
attribute [go_sem] JjI
theorem JpW (x : Tf) (z a b : Int) : Ev prog 125 [TF x, I z, SP2 a b] (.clo 165 [.pt (TF x) 0, .pt (SP2 a b) 0, .pt (I z) 0]) := by
 refine JeE (r := .clo 165 [.nptr 96 2 [TF x], .nptr 66 2 [SP2 a b], .nptr 3 1 [I z]]) ?_ _
 refine EV func125 ?_
 exact SB
theorem JqI (x : Tf) (h : JaV x = true) : (chgF x).length <= 21 := by
 have c := Lib.compact_length_le (Jdd (rawF x)); rw [Jcz] at c; unfold chgF rawF at *; rw [L0h, Jpx] at c
 have := (Ja6.1 h).1.2.2
 omega
theorem Jnr (x : Tf) (z a b : Int) (h : JaV x = true) (J : Jbr z = true) (K : 0 <= a) (O : b <= 20000000) : SOK prog 165 [.pt (TF x) 0, .pt (SP2 a b) 0, .pt (I z) 0] (stO []) (PX (pcsF x z b (b - a).toNat a)) := by
 have H := JqI x h; have M := JbR.1 J
 refine Jj4 func165 rfl (by kernel_rfl) mo (nb rfl) ?_ rfl fun l => ?_
 . exact JjI allB _
 simp -implicitDefEqProofs (disch := omega) only [go_sem]
 refine Jaa (JmJ x h) ?_
 simp -implicitDefEqProofs (disch := omega) only [go_sem]
 refine Jag (fun n E N => ∃ (t : Int), (b - t).toNat <= n /\ 0 <= t /\ E 0 = .yld l /\ E 1 = .pt (TF x) 0 /\ E 2 = .pt (SP2 a b) 0 /\ E 3 = .pt (I z) 0 /\ E 5 = SL (chgF x) /\ E 6 = I t /\ E 59 = .tup ((PX (pcsF x z b n t)).map .tup)) (b - a).toNat ⟨a, L0a _, K, ?_⟩ ?_
 . simp -implicitDefEqProofs (disch := omega) only [go_sem]
 rintro n E N ⟨t, P, Q, g, i, j, k, o, q, c⟩
 simp -implicitDefEqProofs (disch := omega) only [go_sem, g, i, j, k, o, q, c]
 refine Jab (fun F => ?_) (fun F => ?_)
 . obtain ⟨m, rfl⟩ : ∃ m, n = m + 1 := ⟨n - 1, by omega⟩
   rw [pcsF, if_pos F] at c; simp -implicitDefEqProofs (disch := omega) only [go_sem, g, i, j, k, o, q, c]
   refine Jaa (Jrg z t J (by omega)) ?_
   have A : 0 <= locF z t := by unfold locF; omega
   have D : locF z t < 604800 := by unfold locF; omega
   have s : (locF z t).tmod 86400 = locF z t % 86400 := L11 A
   have y : endF x (locF z t % 86400) = Jhm (chgF x) (locF z t % 86400 + 1) := rfl
   have G := Jil h (u := locF z t % 86400) (by omega) (by omega)
   have B := JrF x (locF z t) h A D
   obtain ⟨u, w⟩ : ∃ u, locF z t = u := ⟨_, rfl⟩
   rw [w] at A D s y G B c; simp -implicitDefEqProofs (disch := omega) only [go_sem, g, i, j, k, o, q, c, w, s]
   refine Jaa (JmG (chgF x) (u % 86400 + 1) (Jku x) (by omega)) ?_
   simp -implicitDefEqProofs (disch := omega) only [go_sem, g, i, j, k, o, q, c, w, s]
   refine Jab (fun L => ?_) (fun L => ?_)
   . have C : gd (chgF x) (loF (chgF x) (u % 86400 + 1)) = endF x (u % 86400) := by
      rw [y]; unfold Jhm; rw [if_pos (by omega)]
     simp -implicitDefEqProofs (disch := omega) only [go_sem, g, i, j, k, o, q, c, w, s, C]
     refine Jaa B ?_
     simp -implicitDefEqProofs (disch := omega) only [go_sem, g, i, j, k, o, q, c, w, s, C]
     refine ⟨?_, .inr trivial⟩
     refine Jad m (by omega) ⟨min (t + endF x (u % 86400) - u % 86400) b, by omega, by omega, ?_⟩
     simp -implicitDefEqProofs (disch := omega) only [go_sem, g, i, j, k, o, q, c, w, s]; try rfl
   . have C : endF x (u % 86400) = 86400 := by
      rw [y]; unfold Jhm; rw [if_neg (by omega)]
     rw [C] at c; simp -implicitDefEqProofs (disch := omega) only [go_sem, g, i, j, k, o, q, c, w, s, C]
     refine Jaa B ?_
     simp -implicitDefEqProofs (disch := omega) only [go_sem, g, i, j, k, o, q, c, w, s, C]
     refine ⟨?_, .inr trivial⟩
     refine Jad m (by omega) ⟨min (t + 86400 - u % 86400) b, by omega, by omega, ?_⟩
     simp -implicitDefEqProofs (disch := omega) only [go_sem, g, i, j, k, o, q, c, w, s]; try rfl
 . cases n with
   | zero =>
    have c : E 59 = .tup [] := c
    simp -implicitDefEqProofs (disch := omega) only [go_sem, c]
    exact .inl trivial
   | succ n =>
    rw [pcsF, if_neg F] at c
    have c : E 59 = .tup [] := c
    simp -implicitDefEqProofs (disch := omega) only [go_sem, c]
    exact .inl trivial
theorem JjP (σ : Jac) : only (inI []) σ = stO [] := by
 funext id
 simp [only, inI, stO]
theorem Jwg (l : List (Int × Int × Int)) : ∀ y ∈ PX l, y.length = 1 := fun y c => by
 obtain ⟨q, _, rfl⟩ := L08.1 c; rfl
theorem JnH (x : Tf) (z a b : Int) (h : JaV x = true) (hz : Jbr z = true) (ha : 0 <= a) (hab : a <= b) (hb : b <= 20000000) : Ev prog 124 [SP2 a b, .pt (TF x) 0, .pt (I z) 0] (I (sumF x z a b)) := by
  have hz' := JbR.1 hz
  have h0 : sumF x z a a = 0 := by unfold sumF; rw [Int.sub_self]; rfl
  refine EV func124 ?_
  simp -implicitDefEqProofs (disch := omega) only [go_sem]
  refine Jaa (JpW x z a b) ?_
  simp -implicitDefEqProofs (disch := omega) only [go_sem]
  refine Jca ?_
  refine JdO [] [262144080] 16384100 (PX (pcsF x z b (b - a).toNat a))
    (fun xs σ => ∃ (k : Nat) (t : Int), xs = PX (pcsF x z b k t) /\ (b - t).toNat <= k /\ a <= t /\ t <= b /\ σ 262144080 = some ⟨3, 1, [I (sumF x z a t)]⟩)
    (g := 165) (caps := [.pt (TF x) 0, .pt (SP2 a b) 0, .pt (I z) 0]) ?_ ?_ ?_ ?_ ?_ ?_ ?_ ?_
  . simp -implicitDefEqProofs (disch := omega) only [go_sem]
  . rw [JjP]; exact Jnr x z a b h hz ha hb
  . exact Jwg _
  . simp -implicitDefEqProofs (disch := omega) only [go_sem]
  . simp -implicitDefEqProofs (disch := omega) only [go_sem]
  . refine ⟨_, a, rfl, L0a _, L1M _, hab, ?_⟩
    simp -implicitDefEqProofs (disch := omega) only [go_sem, h0]
  . rintro E0 hE0 y rest σ' ⟨k, t, hx, hk, hat, htb, m5⟩
    have e5 : E0 5 = .ptr 262144080 1 0 0 := by rw [hE0]; simp -implicitDefEqProofs (disch := omega) only [go_sem]
    clear hE0
    cases k with
    | zero => cases hx
    | succ k =>
      rw [pcsF] at hx
      split at hx
      . rename_i hc; rw [PX, L0q, List.cons.injEq] at hx; obtain ⟨rfl, rfl⟩ := hx
        have hl0 : 0 <= locF z t := by unfold locF; omega
        have hei := Jil h (u := locF z t % 86400) (by omega) (by omega)
        obtain ⟨q, hq⟩ : ∃ q, min (t + endF x (locF z t % 86400) - locF z t % 86400) b = q := ⟨_, rfl⟩
        have hpq := Jpm h hz (a := t) (b := q) (by omega) (by omega) (by omega)
        have hin := Jc9 h z t q (by omega)
        have hin2 := Jc9 h z a t hat
        have hadd := Jf8 x z (a := a) (b := t) (c := q) hat (by omega)
        have hri := JiK h (locF z t); rw [hq]
        have hd : 0 <= q - t /\ q - t <= 86400 := by omega
        simp -implicitDefEqProofs (disch := omega) only [go_sem, e5, m5, <- hpq, <- hadd]
        refine ⟨inL [], fun _ _ => rfl, k, q, rfl, by omega, by omega, by omega, ?_⟩
        simp -implicitDefEqProofs (disch := omega) only [go_sem]
      . cases hx
  . rintro E0 hE0 σ' ⟨k, t, hx, hk, hat, htb, m5⟩
    have e5 : E0 5 = .ptr 262144080 1 0 0 := by rw [hE0]; simp -implicitDefEqProofs (disch := omega) only [go_sem]
    clear hE0
    have htb' : t = b := by
      cases k with
      | zero => omega
      | succ k =>
        rw [pcsF] at hx
        split at hx
        . cases hx
        . omega
    subst htb'; simp -implicitDefEqProofs (disch := omega) only [go_sem, e5, m5, results124]
theorem Jp3 (x : Tf) (z a b : Int) (h : JaV x = true) (s : Jbr z = true) (o : 0 <= a) (c : a <= b) (D : b <= 10000000) : Ev prog 80 [TF x, I z, SP2 a b] (I (sumF x z a b)) := by
 have q := Jnu x z o c
 have B : (b - a).tdiv 604800 = (b - a) / 604800 := L1j (by omega)
 have u := Jc9 h z (a + (b - a) / 604800 * 604800) b (by omega)
 have k := Jc9 h z a (a + 604800) (by omega)
 have y := Jc9 h z a b c
 have i := JnH x z (a + (b - a) / 604800 * 604800) b h s (by omega) (by omega) (by omega)
 have j := JnH x z a (a + 604800) h s o (by omega) (by omega)
 have m : 0 <= (b - a) / 604800 := by omega
 have C : (b - a) / 604800 * 604800 <= b - a := by omega
 have g : (b - a) / 604800 = 0 \/ 0 < (b - a) / 604800 := by omega
 generalize (b - a) / 604800 = w at *; have A := L1f m k.1
 refine EV func80 ?_
 simp -implicitDefEqProofs (disch := omega) only [go_sem, B]
 refine Jar rfl ?_
 refine Jbk [169869360, 169869376] ?_
 simp -implicitDefEqProofs (disch := omega) only [go_sem]
 refine Jaa i ?_
 simp -implicitDefEqProofs (disch := omega) only [go_sem]
 rcases g with rfl | g
 . simp -implicitDefEqProofs (disch := omega) only [go_sem, results80]; rw [q]
   simp
 . refine Ja1 (by omega) ?_
   refine SA ?_
   refine Jaa j ?_
   simp -implicitDefEqProofs (disch := omega) only [go_sem, <- q, results80]
theorem JdU {f t : Int} : JcT f t = true ↔ 0 <= f /\ f <= t /\ t <= 10000000 := decide_eq_true_iff
def amtF (x : Tf) (z a b : Int) : Int := sumF x z 0 b / 60 - sumF x z 0 a / 60
theorem JnN (x : Tf) (z a b : Int) (h : JaV x = true) (q : Jbr z = true) (u : JcT a b = true) : Ev prog 34 [TF x, I z, SP2 a b] (.tup [I (amtF x z a b), I 0]) := by
 obtain ⟨C, D, H⟩ := JdU.1 u
 have s := JoR x z a b h; rw [q, u] at s
 have A := Jp3 x z 0 a h q (by omega) C (by omega)
 have B := Jp3 x z 0 b h q (by omega) (by omega) (by omega)
 have F := Jc9 h z 0 a (by omega)
 have G := Jc9 h z 0 b (by omega)
 have w : (sumF x z 0 a).tdiv 60 = sumF x z 0 a / 60 := L1j F.1
 have y : (sumF x z 0 b).tdiv 60 = sumF x z 0 b / 60 := L1j G.1
 refine EV func34 ?_
 refine SA ?_
 refine Jaa s ?_
 refine SA ?_
 refine Jag (fun n E o => ∃ i : Nat, i + n = 2 /\ E 1 = I z /\ E 3 = .ptr 73400368 2 0 0 /\ E 8 = .ptr 73400448 2 0 0 /\ E 21 = .agg [I a, I b] /\ E 22 = I i /\ o 73400368 = some ⟨96, 2, [TF x]⟩ /\ o 73400448 = some ⟨104, 2, [.agg [I (if i = 0 then a else sumF x z 0 a / 60), I (if i = 2 then sumF x z 0 b / 60 else b)]]⟩) 2 ⟨0, rfl, ?_⟩ ?_
 . refine SA ?_; try rfl
 rintro n E o ⟨i, J, g, k, m, j, c, m3, m8⟩
 obtain rfl | rfl | rfl : i = 0 \/ i = 1 \/ i = 2 := by omega
 . have c : E 22 = I 0 := c
   have m8 : o 73400448 = some ⟨104, 2, [.agg [I a, I b]]⟩ := m8
   simp -implicitDefEqProofs (disch := omega) only [go_sem, g, k, m, j, c, m3, m8]
   refine Jaa A ?_
   refine SA ?_
   refine Jad 1 (by omega) ⟨1, rfl, ?_⟩
   refine SA ?_
   rfl
 . have c : E 22 = I 1 := c
   have m8 : o 73400448 = some ⟨104, 2, [.agg [I (sumF x z 0 a / 60), I b]]⟩ := m8
   simp -implicitDefEqProofs (disch := omega) only [go_sem, g, k, m, j, c, m3, m8]
   refine Jaa B ?_
   simp -implicitDefEqProofs (disch := omega) only [go_sem, g, k, m, j, c, m3, m8, y]
   refine Jad 0 (by omega) ⟨2, rfl, ?_⟩
   simp -implicitDefEqProofs (disch := omega) only [go_sem, g, k, m, j, c, m3, m8, y]
   exact ⟨rfl, by rw [if_neg (fun h => h.1)]⟩
 . have c : E 22 = I 2 := c
   have m8 : o 73400448 = some ⟨104, 2, [.agg [I (sumF x z 0 a / 60), I (sumF x z 0 b / 60)]]⟩ := m8
   simp -implicitDefEqProofs (disch := omega) only [go_sem, g, k, m, j, c, m3, m8, results34]
   rfl
end Go.Proofs.YtnpbhgeffapojaaGreatDoor

/- Digests, codes of numbers, tariffs -/
import Derived.Test.YtlecbpkidomjbaaGreatDoorKE
import Derived.Shelf.Strings.OnBuilder
import Derived.Shelf.Sort.Plain
import Derived.Ground.Names2Prog
import Derived.Shelf.Slices.CompactI
import Derived.Lib.RowBridge
set_option linter.all false
set_option maxRecDepth 100000
namespace Go.Proofs.YtlecbpkidomjbaaGreatDoor
open Go.Proofs.Tryz
open Go.Vai Go
theorem mo : prog.follows .mixedOrders = true := by kernel_rfl
theorem EV {f : FuncId} {g : Func} {c : Code} {args : List AV} {r : AV} (k : prog.funcs[f]? = some g) (h : awpC (spOf prog f g.ntmps) c (retC (spOf prog f g.ntmps) g r) (Jct args) λ _ => none) (j : g.body = some c := by rfl) (i : fnQ prog g c = true := by kernel_rfl) (m : args.length <= g.ntmps := by exact nb rfl) : Ev prog f args r := Jah k j i mo m h
theorem EW {f : FuncId} {i : Func} {c : Code} {args : List AV} {r : AV} (g : List Nat) (m : prog.funcs[f]? = some i) (h : awpC (spB prog f i.ntmps g) c (retC (spB prog f i.ntmps g) i r) (Jct args) λ _ => none) (k : i.body = some c := by rfl) (j : fnB prog i g c = true := by kernel_rfl) (o : args.length <= i.ntmps := by exact nb rfl) : Ev prog f args r := Jbf g m k j mo o h
attribute [go_sem] ntmps10 ntmps100 ntmps101 ntmps102 ntmps103 ntmps104 ntmps105 ntmps106 ntmps107 ntmps108 ntmps109 ntmps11 ntmps110 ntmps111 ntmps112 ntmps113 ntmps114 ntmps115 ntmps116 ntmps117 ntmps118 ntmps119 ntmps12 ntmps120 ntmps121 ntmps122 ntmps123 ntmps124 ntmps125 ntmps126 ntmps127 ntmps128 ntmps129 ntmps13 ntmps130 ntmps131 ntmps132 ntmps133 ntmps134 ntmps135 ntmps136 ntmps137 ntmps138 ntmps139 ntmps14 ntmps140 ntmps141 ntmps142 ntmps143 ntmps144 ntmps145 ntmps146 ntmps147 ntmps148 ntmps149 ntmps15 ntmps150 ntmps151 ntmps152 ntmps155 ntmps156 ntmps157 ntmps158 ntmps159 ntmps16 ntmps160 ntmps161 ntmps162 ntmps163 ntmps164 ntmps165 ntmps166 ntmps167 ntmps168 ntmps169 ntmps17 ntmps170 ntmps171 ntmps172 ntmps173 ntmps174 ntmps175 ntmps176 ntmps177 ntmps178 ntmps179 ntmps18 ntmps180 ntmps182 ntmps183 ntmps184 ntmps185 ntmps186 ntmps187 ntmps188 ntmps189 ntmps19 ntmps190 ntmps191 ntmps194 ntmps195 ntmps196 ntmps197 ntmps198 ntmps199 ntmps20 ntmps201 ntmps202 ntmps203 ntmps204 ntmps206 ntmps207 ntmps208 ntmps21 ntmps210 ntmps211 ntmps22 ntmps23 ntmps24 ntmps25 ntmps26 ntmps27 ntmps28 ntmps29 ntmps3 ntmps30 ntmps31 ntmps32 ntmps33 ntmps34 ntmps35 ntmps36 ntmps37 ntmps38 ntmps39 ntmps40 ntmps41 ntmps42 ntmps43 ntmps44 ntmps45 ntmps46 ntmps47 ntmps48 ntmps49 ntmps5 ntmps50 ntmps51 ntmps52 ntmps53 ntmps54 ntmps55 ntmps56 ntmps57 ntmps58 ntmps59 ntmps6 ntmps60 ntmps61 ntmps62 ntmps63 ntmps64 ntmps65 ntmps66 ntmps67 ntmps68 ntmps69 ntmps7 ntmps70 ntmps71 ntmps72 ntmps73 ntmps74 ntmps75 ntmps76 ntmps77 ntmps78 ntmps79 ntmps8 ntmps80 ntmps81 ntmps82 ntmps83 ntmps84 ntmps85 ntmps86 ntmps87 ntmps88 ntmps89 ntmps9 ntmps90 ntmps91 ntmps92 ntmps93 ntmps94 ntmps95 ntmps96 ntmps97 ntmps98 ntmps99 results10 results100 results101 results102 results103 results104 results105 results106 results107 results108 results109 results11 results110 results111 results112 results113 results114 results115 results116 results117 results118 results119 results12 results120 results122 results123 results124 results125 results126 results127 results128 results129 results13 results130 results131 results132 results133 results134 results135 results136 results137 results138 results139 results14 results140 results141 results142 results143 results144 results145 results146 results147 results148 results149 results15 results151 results152 results155 results156 results157 results158 results159 results16 results160 results161 results162 results163 results164 results165 results166 results167 results168 results169 results17 results170 results171 results172 results174 results175 results176 results177 results178 results179 results18 results180 results182 results183 results184 results185 results186 results187 results188 results189 results19 results191 results194 results195 results196 results198 results199 results20 results201 results202 results203 results204 results206 results207 results208 results21 results210 results211 results22 results23 results24 results25 results26 results27 results28 results29 results3 results30 results31 results32 results33 results34 results35 results36 results37 results38 results39 results40 results41 results42 results43 results44 results45 results46 results47 results48 results49 results5 results50 results51 results52 results53 results54 results55 results56 results57 results58 results59 results6 results60 results61 results62 results63 results64 results65 results66 results67 results68 results69 results7 results70 results72 results73 results74 results75 results77 results78 results79 results8 results80 results81 results82 results83 results84 results85 results86 results87 results88 results89 results9 results90 results91 results92 results93 results94 results95 results96 results97 results98 results99
theorem SA {P Q : Prop} (h : Q) (e : P = Q := by simp -implicitDefEqProofs (disch := omega) only [go_sem, false_and, and_self, beq_self_eq_true, bne_self_eq_false, *]; rfl) : P := e ▸ h
theorem SB {P : Prop} (e : P := by simp -implicitDefEqProofs (disch := omega) only [go_sem, false_and, and_self, beq_self_eq_true, bne_self_eq_false, *]) : P := e
theorem SC {P : Prop} (e : P := by simp -implicitDefEqProofs (disch := omega) only [go_sem]) : P := e
theorem SD {P Q : Prop} (h : Q) (e : P = Q := by simp -implicitDefEqProofs (disch := omega) only [go_sem]; rfl) : P := e ▸ h
abbrev U (n : Int) : AV := .v (.int .u32 n)
abbrev UL (l : List Int) : AV := .sl 1 (l.map U)
abbrev YL (l : List Int) : AV := .sl 1 (l.map Y)
abbrev Str (s : ByteArray) : AV := .v (.string s)
abbrev xr (a b : Int) : Int := Ja6 .xor .u32 a b
abbrev an (a b : Int) : Int := Ja6 .and .u32 a b
abbrev ad (a b : Int) : Int := IntKind.u32.wrap (a + b)
section
variable (p : Nat -> Bool) (l : List Int)
@[go_sem] theorem JAA : AV.namesL p (l.map U) = false := Jak p l U λ _ => rfl
@[go_sem] theorem JAB : AV.namesL p (l.map Y) = false := Jak p l Y λ _ => rfl
@[go_sem] theorem JBG : AV.flatL (l.map U) = true := JaP l U λ _ => rfl
@[go_sem] theorem JBH : AV.flatL (l.map Y) = true := JaP l Y λ _ => rfl
@[go_sem] theorem JBd : Jbv 1 (l.map U) = true := Jaw 1 l U λ _ => ⟨rfl, rfl⟩
@[go_sem] theorem JBe : Jbv 1 (l.map Y) = true := Jaw 1 l Y λ _ => ⟨rfl, rfl⟩
@[go_sem] theorem JzQ (x : Int) : l.map U ++ [.v (.int .u32 x)] = (l ++ [x]).map U := by simp
@[go_sem] theorem JzR (x : Int) : l.map Y ++ [.v (.int .u8 x)] = (l ++ [x]).map Y := by simp
@[go_sem] theorem set_U (n : Nat) (x : Int) : (l.map U).set n (.v (.int .u32 x)) = (l.set n x).map U := by rw [List.map_set]
@[go_sem] theorem set_Y (n : Nat) (x : Int) : (l.map Y).set n (.v (.int .u8 x)) = (l.set n x).map Y := by rw [List.map_set]
theorem dnL_U : AV.dnL (l.map U) = false := by
 cases h : AV.dnL (l.map U) with
 | false => rfl
 | true => obtain ⟨c, i, g⟩ := (Jfw _).1 h; obtain ⟨x, _, rfl⟩ := L05.1 i; cases g
end
theorem Jnm (x : Int) : IntKind.u32.wrap x = x % 4294967296 := by
 simp [IntKind.wrap, IntKind.bits, IntKind.signed]
theorem JrE (x : Int) : 0 <= IntKind.u32.wrap x /\ IntKind.u32.wrap x < 4294967296 := by rw [Jnm]; omega
theorem JnD (op : BinOp) (a b : Int) : 0 <= Ja6 op .u32 a b /\ Ja6 op .u32 a b < 4294967296 := by
 unfold Ja6
 cases op <;> first | exact JrE _ | simp
theorem JqN (a b : Int) : Ja6 .or .u32 a b = Ja6 .or .u32 b a := by simp only [Ja6]; rw [BitVec.or_comm]
theorem Jeh (a : Int) (h : 0 <= a /\ a < 4294967296) : Ja6 .xor .u32 0 a = a := by
 show IntKind.u32.wrap (((BitVec.ofInt 32 0 ^^^ BitVec.ofInt 32 a : BitVec 32).toNat : Nat) : Int) = a
 rw [show (BitVec.ofInt 32 0 : BitVec 32) = 0#32 from rfl, BitVec.zero_xor, Jnm, BitVec.toNat_ofInt]
 omega
theorem JjB (a b : Int) : 0 <= Ja6 .and .u64 a b := by
 simp only [Ja6, IntKind.wrap, IntKind.bits, IntKind.signed]
 simp; omega
def rolS (k : Int) : Int := Ja6 .and .u64 (IntKind.u64.wrap k) 31
def rolF (x k : Int) : Int := Ja6 .or .u32 (IntKind.u32.wrap (x * 2 ^ (min (rolS k).toNat IntKind.u32.bits))) (x.fdiv (2 ^ (min (IntKind.u64.wrap (32 - rolS k)).toNat IntKind.u32.bits)))
def rotF (x : Int) (n : Nat) : Int := Ja6 .or .u32 (x.fdiv (2 ^ n)) (IntKind.u32.wrap (x * 2 ^ (32 - n)))
theorem Jeo (x k : Int) (n : Nat) (c : (min (rolS k).toNat IntKind.u32.bits) = 32 - n) (g : (min (IntKind.u64.wrap (32 - rolS k)).toNat IntKind.u32.bits) = n) : rolF x k = rotF x n := by
 unfold rolF rotF; rw [c, g, JqN]
theorem JCy (x : Int) : rolF x (-2) = rotF x 2 := Jeo x _ 2 (by kernel_rfl) (by kernel_rfl)
theorem JCz (x : Int) : rolF x (-6) = rotF x 6 := Jeo x _ 6 (by kernel_rfl) (by kernel_rfl)
theorem JCA (x : Int) : rolF x (-7) = rotF x 7 := Jeo x _ 7 (by kernel_rfl) (by kernel_rfl)
theorem Jy7 (x : Int) : rolF x (-11) = rotF x 11 := Jeo x _ 11 (by kernel_rfl) (by kernel_rfl)
theorem Jy8 (x : Int) : rolF x (-13) = rotF x 13 := Jeo x _ 13 (by kernel_rfl) (by kernel_rfl)
theorem Jy9 (x : Int) : rolF x (-17) = rotF x 17 := Jeo x _ 17 (by kernel_rfl) (by kernel_rfl)
theorem Jza (x : Int) : rolF x (-18) = rotF x 18 := Jeo x _ 18 (by kernel_rfl) (by kernel_rfl)
theorem Jzb (x : Int) : rolF x (-19) = rotF x 19 := Jeo x _ 19 (by kernel_rfl) (by kernel_rfl)
theorem Jzc (x : Int) : rolF x (-22) = rotF x 22 := Jeo x _ 22 (by kernel_rfl) (by kernel_rfl)
theorem Jzd (x : Int) : rolF x (-25) = rotF x 25 := Jeo x _ 25 (by kernel_rfl) (by kernel_rfl)
theorem Jec (x : Int) (n : Nat) : 0 <= rotF x n /\ rotF x n < 4294967296 := JnD _ _ _
def mixF (x : Int) (l : List Int) : Int := l.foldl (λ o n => xr o (rolF x (-n))) 0
def rot2 (x : Int) (a b : Nat) : Int := xr (rotF x a) (rotF x b)
def rot3 (x : Int) (a b c : Nat) : Int := xr (xr (rotF x a) (rotF x b)) (rotF x c)
theorem JB5 (x : Int) : mixF x [7, 18] = rot2 x 7 18 := by
 simp only [mixF, L1m, L2g, JCA, Jza, Jeh _ (Jec x 7), rot2]
theorem Jys (x : Int) : mixF x [17, 19] = rot2 x 17 19 := by
 simp only [mixF, L1m, L2g, Jy9, Jzb, Jeh _ (Jec x 17), rot2]
theorem JB4 (x : Int) : mixF x [6, 11, 25] = rot3 x 6 11 25 := by
 simp only [mixF, L1m, L2g, JCz, Jy7, Jzd, Jeh _ (Jec x 6), rot3]
theorem JB3 (x : Int) : mixF x [2, 13, 22] = rot3 x 2 13 22 := by
 simp only [mixF, L1m, L2g, JCy, Jy8, Jzc, Jeh _ (Jec x 2), rot3]
def be4 (l : List Int) (i : Nat) : Int := Ja6 .or .u32 (Ja6 .or .u32 (Ja6 .or .u32 (IntKind.u32.wrap (IntKind.u32.wrap (gd l (4 * i)) * 2 ^ 24)) (IntKind.u32.wrap (IntKind.u32.wrap (gd l (4 * i + 1)) * 2 ^ 16))) (IntKind.u32.wrap (IntKind.u32.wrap (gd l (4 * i + 2)) * 2 ^ 8))) (IntKind.u32.wrap (gd l (4 * i + 3)))
def nxtF (w : List Int) (i : Nat) : Int := ad (ad (ad (gd w (i - 16)) (xr (rot2 (gd w (i - 15)) 7 18) ((gd w (i - 15)).fdiv (2 ^ 3)))) (gd w (i - 7))) (xr (rot2 (gd w (i - 2)) 17 19) ((gd w (i - 2)).fdiv (2 ^ 10)))
def schN (l : List Int) : Nat -> List Int
 | 0 => []
 | i + 1 => schN l i ++ [if i < 16 then be4 l i else nxtF (schN l i) i]
theorem Ja8 (l : List Int) : ∀ i, (schN l i).length = i
 | 0 => rfl
 | i + 1 => by simp [schN, Ja8 l i]
def schQ (l : List Int) (i : Nat) : List Int := schN l i ++ List.replicate (64 - i) 0
theorem JhC (l : List Int) (i : Nat) (h : i <= 64) : (schQ l i).length = 64 := by simp [schQ, Ja8]; omega
theorem Jjq (l : List Int) (i j : Nat) (h : j < i) : gd (schQ l i) j = gd (schN l i) j := by
 unfold schQ; rw [JcR _ _ _ (by rw [Ja8]; exact h)]
theorem Jnf (l : List Int) (i : Nat) (h : i < 64) : (schQ l i).set i (if i < 16 then be4 l i else nxtF (schN l i) i) = schQ l (i + 1) := by
 unfold schQ
 rw [L2s _ _ (by rw [Ja8]; exact L09 _), Ja8, L1v]
 obtain ⟨m, c⟩ : ∃ m, 64 - i = m + 1 := ⟨63 - i, by omega⟩
 rw [c, L2t, List.set_cons_zero, show 64 - (i + 1) = m from by omega]
 simp [schN]
def schF (l : List Int) : List Int := schN l 64
def KT : List Int := [1116352408, 1899447441, 3049323471, 3921009573, 961987163, 1508970993, 2453635748, 2870763221, 3624381080, 310598401, 607225278, 1426881987, 1925078388, 2162078206, 2614888103, 3248222580, 3835390401, 4022224774, 264347078, 604807628, 770255983, 1249150122, 1555081692, 1996064986, 2554220882, 2821834349, 2952996808, 3210313671, 3336571891, 3584528711, 113926993, 338241895, 666307205, 773529912, 1294757372, 1396182291, 1695183700, 1986661051, 2177026350, 2456956037, 2730485921, 2820302411, 3259730800, 3345764771, 3516065817, 3600352804, 4094571909, 275423344, 430227734, 506948616, 659060556, 883997877, 958139571, 1322822218, 1537002063, 1747873779, 1955562222, 2024104815, 2227730452, 2361852424, 2428436474, 2756734187, 3204031479, 3329325298]
theorem JaC : KT.length = 64 := rfl
theorem JBb : (0, KT.map (Value.int .u32)) ∈ gtab := L0u.2 rfl
def notF (e : Int) : Int := Ja6 .xor .u32 (if IntKind.u32.signed then -1 else IntKind.u32.max) e
def tF (v : List Int) (k w : Int) : Int := ad (ad (ad (ad (gd v 7) (rot3 (gd v 4) 6 11 25)) (xr (an (gd v 4) (gd v 5)) (an (notF (gd v 4)) (gd v 6)))) k) w
def uF (v : List Int) : Int := ad (rot3 (gd v 0) 2 13 22) (xr (xr (an (gd v 0) (gd v 1)) (an (gd v 0) (gd v 2))) (an (gd v 1) (gd v 2)))
def Jzk (v : List Int) (t u : Int) : List Int := [ad t u, gd v 0, gd v 1, gd v 2, ad (gd v 3) t, gd v 4, gd v 5, gd v 6]
def Jzj (v : List Int) (k w : Int) : List Int := Jzk v (tF v k w) (uF v)
theorem Jtj (v : List Int) (h : v.length = 8) (t u : Int) : ((v.take 1 ++ v.take 7).set 0 (ad t u)).set 4 (ad (gd (v.take 1 ++ v.take 7) 4) t) = Jzk v t u := by
 match v, h with
 | [a, b, c, d, e, f, g, i], _ => rfl
def rndW (h l : List Int) : Nat -> List Int
 | 0 => h
 | i + 1 => Jzj (rndW h l i) (gd KT i) (gd (schF l) i)
theorem JeG (h l : List Int) (c : h.length = 8) : ∀ i, (rndW h l i).length = 8
 | 0 => c
 | i + 1 => rfl
def addF (h l : List Int) : List Int := [ad (gd h 0) (gd (rndW h l 64) 0), ad (gd h 1) (gd (rndW h l 64) 1), ad (gd h 2) (gd (rndW h l 64) 2), ad (gd h 3) (gd (rndW h l 64) 3), ad (gd h 4) (gd (rndW h l 64) 4), ad (gd h 5) (gd (rndW h l 64) 5), ad (gd h 6) (gd (rndW h l 64) 6), ad (gd h 7) (gd (rndW h l 64) 7)]
def dgF (h : List Int) (j : Nat) : Int := IntKind.u8.wrap ((gd h (j / 4)).fdiv (2 ^ (24 - 8 * (j % 4))))
def outN (h : List Int) (m : Nat) : List Int := (List.range 32).map λ j => if j < m then dgF h j else 0
def outF (h : List Int) : List Int := (List.range 32).map (dgF h)
theorem Jdn (h : List Int) (m : Nat) : (outN h m).length = 32 := by simp [outN]
theorem JqP (h : List Int) (m j : Nat) (c : j < 32) : gd (outN h m) j = if j < m then dgF h j else 0 := by
 unfold outN gd; simp [L0X, c]
theorem Js1 (h : List Int) (m : Nat) (g : m < 32) : (outN h m).set m (dgF h m) = outN h (m + 1) := Je1 (by simp [Jdn]) λ j c => by
 rw [L24, Jdn] at c
 rw [Jha _ _ _ _ (by rw [Jdn]; exact g), JqP _ _ _ c, JqP _ _ _ c]
 by_cases e : j = m
 . subst e; simp
 . simp only [e, if_false, show j < m ↔ j < m + 1 from by omega]
theorem Js0 (h : List Int) : outN h 32 = outF h := L0S λ j c => by simp at c; simp [c]
def Jen (b : List Int) (i : Nat) : List Int := (b.drop (64 * i)).take 64
def Jhx (b : List Int) (i : Nat) : Nat -> List (List Int)
 | 0 => []
 | n + 1 => Jen b i :: Jhx b (i + 1) n
abbrev YA (l : List Int) : List AV := [YL l]
@[go_sem] theorem Jjb (p : Nat -> Bool) (l : List (List Int)) : AV.namesL p ((l.map YA).map .tup) = false := by
 rw [L19]; exact Jak p l _ λ _ => rfl
def zerF (n : Nat) : Nat := (119 - n % 64) % 64
theorem Jml (n : Nat) : (n + 1 + zerF n) % 64 = 56 := by unfold zerF; omega
theorem Jnt (n j : Nat) (h : (n + 1 + j) % 64 ≠ 56) (hj : j <= zerF n) : j < zerF n := by
 have := Jml n
 rcases L1t j (zerF n) with h' | h'
 . exact h'
 . have : j = zerF n := by omega
   subst this; exact absurd (Jml n) h
theorem Jnu (n j : Nat) (h : (n + 1 + j) % 64 = 56) (c : j <= zerF n) : j = zerF n := by unfold zerF at *; omega
def lenB (n : Nat) (i : Nat) : Int := IntKind.u8.wrap ((8 * (n : Int)).fdiv (2 ^ (8 * i)))
def lenL (n : Nat) : Nat -> List Int
 | 0 => []
 | i + 1 => lenB n i :: lenL n i
theorem Jhh (n : Nat) : ∀ i, (lenL n i).length = i
 | 0 => rfl
 | i + 1 => by simp [lenL, Jhh n i]
def padZ (l : List Int) (j : Nat) : List Int := l ++ [128] ++ List.replicate j 0
def padF (l : List Int) : List Int := padZ l (zerF l.length) ++ lenL l.length 8
theorem JeE (l : List Int) : ∃ m, (padF l).length = 64 * m /\ (padF l).length <= l.length + 128 := by
 have := Jml l.length
 have h : (padF l).length = l.length + 1 + zerF l.length + 8 := by simp [padF, padZ, Jhh]; omega
 have c : zerF l.length < 64 := by unfold zerF; omega
 exact ⟨(l.length + 1 + zerF l.length + 8) / 64, by omega, by omega⟩
def H0 : List Int := [1779033703, 3144134277, 1013904242, 2773480762, 1359893119, 2600822924, 528734635, 1541459225]
def blkF (b : List Int) : Nat -> List Int
 | 0 => H0
 | i + 1 => addF (blkF b i) (Jen b i)
theorem JbW (b : List Int) : ∀ i, (blkF b i).length = 8
 | 0 => rfl
 | i + 1 => rfl
def shaF (s : ByteArray) : ByteArray := strOfNums (outF (blkF (padF (bI s)) ((padF (bI s)).length / 64)))
theorem Jc9 (s : ByteArray) : (shaF s).size = 32 := by unfold shaF; rw [strOfNums_size]; simp [outF]
theorem Jfc (b : List Int) (i : Nat) (h : 64 * (i + 1) <= b.length) : (Jen b i).length = 64 := by simp [Jen]; omega
open Go.Vai Go Go.Proofs
theorem Jze (x k : Int) : Ev prog 211 [U x, I k] (U (rolF x k)) := by
 have c : 0 <= rolS k := JjB _ _
 have g : 0 <= IntKind.u64.wrap (32 - rolS k) := by simp only [IntKind.wrap, IntKind.bits, IntKind.signed]; simp; omega
 refine EV func211 ?_
 simp -implicitDefEqProofs (disch := omega) only [go_sem, ntmps211, results211, show Ja6 .and .u64 (IntKind.u64.wrap k) 31 = rolS k from rfl]
 rfl
theorem JgA (x : Int) (l : List Int) (s : l.length <= 1000) (m : ∀ n ∈ l, 0 <= n /\ n <= 100) : Ev prog 199 [U x, SL l] (U (mixF x l)) := by
 refine EV func199 ?_
 refine SA ?_
 refine Jaf (λ n E q => ∃ v : Nat, v + n = l.length /\ E 0 = U x /\ E 5 = U (mixF x (l.take v)) /\ E 8 = SL l /\ E 9 = I l.length /\ E 10 = I v) l.length ⟨0, by omega, ?_⟩ ?_
 . refine SA ?_
   simp [mixF]
 . rintro n E q ⟨v, w, g, h, i, j, c⟩
   refine SA ?_
   refine Jab (λ k => ?_) (λ k => ?_)
   . have u := m _ (Jaj l v (by omega))
     have o : IntKind.i64.wrap (0 - gd l v) = -gd l v := by rw [JcD (by omega)]; omega
     refine SA ?_
     refine Jaa (Jze x (-gd l v)) ?_
     refine SA ?_
     refine Jad (n - 1) (by omega) ⟨v + 1, by omega, ?_⟩
     have e : mixF x (l.take (v + 1)) = xr (mixF x (l.take v)) (rolF x (-gd l v)) := by
      unfold mixF; rw [L0B, JaE l v (by omega)]; simp
     refine SA ?_
     simp
   . have e : v = l.length := by omega
     subst e; simp -implicitDefEqProofs (disch := omega) only [go_sem, g, h, results199, L04]
@[go_sem high] theorem JoB (l : List Int) (j : Nat) (x : Int) (c : j < l.length) (g : l.length ≠ 1) : setC (.agg (l.map U)) j (U x) = .agg ((l.set j x).map U) := by
 rw [Jjr, if_neg (by simp; omega)]
 congr 1
 simp only [AV.cells_agg, AV.cells_v, L18, <- L1L, <- List.map_drop]; rw [L2c, if_pos c]
 simp
@[go_sem high] theorem JvM (l : List Int) (i : Nat) (y : Int) (j : Nat) (x : Int) (g : j < l.length) (c : l.length ≠ 1) : setC (.agg ((l.set i y).map U)) j (U x) = .agg (((l.set i y).set j x).map U) :=
 JoB _ _ _ (by simpa using g) (by simpa using c)
theorem m24 : min 24 32 = 24 := rfl
theorem m16 : min 16 32 = 16 := rfl
theorem m8 : min 8 32 = 8 := rfl
theorem m3 : min 3 32 = 3 := rfl
theorem m10 : min 10 32 = 10 := rfl
theorem Jl8 (l : List Int) (B : l.length = 64) : Ev prog 198 [YL l] (.agg ((schF l).map U)) := by
 refine EV func198 ?_
 refine SA ?_
 refine Jaf (λ n E o => ∃ v : Nat, v + n = 16 /\ E 0 = YL l /\ E 2 = .ptr 417333280 64 0 0 /\ E 7 = I v /\ o 417333280 = some ⟨303, 64, [.agg ((schQ l v).map U)]⟩) 16 ⟨0, by omega, ?_⟩ ?_
 . refine SA ?_
   exact ⟨rfl, rfl⟩
 . rintro n E o ⟨v, H, j, g, m, h⟩
   have i := JhC l v (by omega)
   refine SA ?_
   refine Jab (λ A => ?_) (λ A => ?_)
   . have u : (4 * (v : Int)).toNat = 4 * v := by omega
     have w : (4 * (v : Int) + 1).toNat = 4 * v + 1 := by omega
     have y : (4 * (v : Int) + 2).toNat = 4 * v + 2 := by omega
     have z : (4 * (v : Int) + 3).toNat = 4 * v + 3 := by omega
     simp -implicitDefEqProofs (disch := omega) only [go_sem, j, g, m, h, B, i, u, w, y, z, m24, m16, m8]
     refine Jad (n - 1) (by omega) ⟨v + 1, by omega, ?_⟩
     have c := Jnf l v (by omega)
     rw [if_pos (by omega)] at c
     have c : (schQ l v).set v (be4 l v) = _ := c
     unfold be4 at c; simp -implicitDefEqProofs (disch := omega) only [go_sem, j, g, m, h, B, i, c]
     simp
   . have e : v = 16 := by omega
     subst e; simp -implicitDefEqProofs (disch := omega) only [go_sem, j, g, m, h, B]
     refine Jaf (λ n E o => ∃ v : Nat, v + n = 64 /\ 16 <= v /\ E 4 = I v /\ E 2 = .ptr 417333280 64 0 0 /\ o 417333280 = some ⟨303, 64, [.agg ((schQ l v).map U)]⟩) 48 ⟨16, by omega, by omega, ?_⟩ ?_
     . simp -implicitDefEqProofs (disch := omega) only [go_sem, j, g, m, h, B, and_self]
       simp
     . clear j g m h i H A n E o
       rintro n E o ⟨v, H, L, k, g, h⟩
       have i := JhC l v (by omega)
       refine SA ?_
       refine Jab (λ A => ?_) (λ A => ?_)
       . have u : ((v : Int) - 15).toNat = v - 15 := by omega
         have w : ((v : Int) - 2).toNat = v - 2 := by omega
         have y : ((v : Int) - 16).toNat = v - 16 := by omega
         have z : ((v : Int) - 7).toNat = v - 7 := by omega
         have C := Jjq l v (v - 15) (by omega)
         have D := Jjq l v (v - 2) (by omega)
         have F := Jjq l v (v - 16) (by omega)
         have G := Jjq l v (v - 7) (by omega)
         have q := JgA (gd (schN l v) (v - 15)) [7, 18] (by decide) (by decide)
         have s := JgA (gd (schN l v) (v - 2)) [17, 19] (by decide) (by decide)
         rw [JB5] at q; rw [Jys] at s; refine SA ?_
         refine Jaa q ?_
         simp -implicitDefEqProofs (disch := omega) only [go_sem, k, g, h, i, u, w, y, z, C, D, F, G, m3, m10]
         refine Jaa s ?_
         simp -implicitDefEqProofs (disch := omega) only [go_sem, k, g, h, i, u, w, y, z, C, D, F, G, m3, m10]
         refine Jad (n - 1) (by omega) ⟨v + 1, by omega, by omega, ?_⟩
         have c := Jnf l v (by omega)
         rw [if_neg (by omega)] at c
         have c : (schQ l v).set v (nxtF (schN l v) v) = _ := c
         unfold nxtF at c; refine SA ?_
         simp
       . have e : v = 64 := by omega
         subst e
         have J : schQ l 64 = schF l := by simp [schQ, schF]
         have K : (schF l).length = 64 := Ja8 l 64
         exact SB
def sumN (h w : List Int) (i : Nat) : List Int := (List.range 8).map λ j => if j < i then ad (gd h j) (gd w j) else gd h j
theorem Jb4 (h w : List Int) (i : Nat) : (sumN h w i).length = 8 := by simp [sumN]
theorem Jjy (h w : List Int) (i j : Nat) (c : j < 8) : gd (sumN h w i) j = if j < i then ad (gd h j) (gd w j) else gd h j := by
 unfold sumN gd; simp [L0X, c]
theorem Jrx (h w : List Int) (g : h.length = 8) : sumN h w 0 = h := Je1 (by rw [Jb4, g]) λ i c => by
 rw [Jb4] at c
 rw [Jjy _ _ _ _ c, if_neg (by omega)]
theorem Jtm (h w : List Int) (i : Nat) (hi : i < 8) : (sumN h w i).set i (ad (gd h i) (gd w i)) = sumN h w (i + 1) := Je1 (by simp [Jb4]) λ j c => by
 rw [L24, Jb4] at c
 rw [Jha _ _ _ _ (by rw [Jb4]; exact hi), Jjy _ _ _ _ c, Jjy _ _ _ _ c]
 by_cases e : j = i
 . subst e; simp
 . simp only [e, if_false, show j < i ↔ j < i + 1 from by omega]
theorem Jtl (h l : List Int) : sumN h (rndW h l 64) 8 = addF h l := rfl
set_option maxHeartbeats 4000000 in
theorem Jxi (h l : List Int) (u : h.length = 8) (N : l.length = 64) : LOK prog 179 (inI [320864304]) [.ptr 320864304 8 0 0, YL l] (stO [(320864304, ⟨282, 8, [.agg (h.map U)]⟩)]) (.tup []) (stO [(320864304, ⟨282, 8, [.agg ((addF h l).map U)]⟩)]) := by
 refine Jbp [8] [320864304] func179 rfl (by kernel_rfl) mo (nb rfl) rfl (by kernel_rfl) (by kernel_rfl) ?_
 refine SA ?_
 refine Jaa (Jl8 l N) ?_
 have c : (schF l).length = 64 := Ja8 l 64
 refine SA ?_
 refine JsK (KT.map (Value.int .u32)) JBb (.agg (KT.map U)) (by unfold Jcx; rw [JCM, Jtn, Jv2]; exact ⟨by decide, by decide, rfl⟩) ?_
 refine SA ?_
 refine Jaf (λ n E B => ∃ v : Nat, v + n = 64 /\ E 0 = .ptr 320864304 8 0 0 /\ E 5 = .ptr 377487440 8 0 0 /\ B 320864304 = some ⟨282, 8, [.agg (h.map U)]⟩ /\ E 4 = .ptr 377487424 64 0 0 /\ E 18 = .agg (KT.map U) /\ E 19 = I v /\ B 377487424 = some ⟨303, 64, [.agg ((schF l).map U)]⟩ /\ B 377487440 = some ⟨282, 8, [.agg ((rndW h l v).map U)]⟩) 64 ⟨0, by omega, ?_⟩ ?_
 . refine SA ?_
   exact ⟨rfl, rfl⟩
 . rintro n E B ⟨v, L, k, m, s, w, g, i, y, o⟩
   have j := JeG h l u v; refine SA ?_
   refine Jab (λ H => ?_) (λ H => ?_)
   . simp -implicitDefEqProofs (disch := omega) only [go_sem, k, m, s, w, g, i, y, o, c, u, j, JaC]
     have C := JgA (gd (rndW h l v) 4) [6, 11, 25] (by decide) (by decide)
     have D := JgA (gd (rndW h l v) 0) [2, 13, 22] (by decide) (by decide)
     rw [JB4] at C; rw [JB3] at D
     refine Jaa C ?_
     simp -implicitDefEqProofs (disch := omega) only [go_sem, k, m, s, w, g, i, y, o, c, u, j, JaC]
     refine Jaa D ?_
     simp -implicitDefEqProofs (disch := omega) only [go_sem, k, m, s, w, g, i, y, o, c, u, j, JaC]
     refine Jsm (cs := (rndW h l v).map U) (bid := 377487440) (te := 282) Jto Jv1 JvX (by simp -implicitDefEqProofs (disch := omega) only [go_sem, k, m, s, w, g, i, y, o]) (by simp -implicitDefEqProofs (disch := omega) only [go_sem, k, m, s, w, g, i, y, o]) (by simp [j]) (by simp) (by decide) (by decide) (by decide) (((rndW h l v).take 1 ++ (rndW h l v).take 7).map U) (by simp) ?_
     have J : ((rndW h l v).take 1 ++ (rndW h l v).take 7).length = 8 := by simp [j]
     have A := Jtj (rndW h l v) j (tF (rndW h l v) (gd KT v) (gd (schF l) v)) (uF (rndW h l v))
     have A : _ = rndW h l (v + 1) := A
     unfold tF uF notF at A; generalize (rndW h l v).take 1 ++ (rndW h l v).take 7 = q at *; simp -implicitDefEqProofs (disch := omega) only [go_sem, k, m, s, w, g, i, y, o, c, u, j, JaC, J]
     refine Jad (n - 1) (by omega) ⟨v + 1, by omega, ?_⟩
     refine SA ?_
     simp
   . have e : v = 64 := by omega
     subst e; refine SA ?_
     refine Jaf (λ n E B => ∃ v : Nat, v + n = 8 /\ E 0 = .ptr 320864304 8 0 0 /\ E 5 = .ptr 377487440 8 0 0 /\ E 82 = I v /\ B 320864304 = some ⟨282, 8, [.agg ((sumN h (rndW h l 64) v).map U)]⟩ /\ B 377487440 = some ⟨282, 8, [.agg ((rndW h l 64).map U)]⟩) 8 ⟨0, by omega, ?_⟩ ?_
     . simp -implicitDefEqProofs (disch := omega) only [go_sem, k, m, s, w, g, i, y, o, c, u, Jrx h _ u]
       simp
     . clear k m s w g i y o L H n E B
       rintro n E B ⟨v, L, k, m, z, s, o⟩
       have G := Jb4 h (rndW h l 64) v; simp -implicitDefEqProofs (disch := omega) only [go_sem, k, m, z, s, o, c, u]
       refine Jab (λ H => ?_) (λ H => ?_)
       . have K := Jjy h (rndW h l 64) v v (by omega)
         rw [if_neg (by omega)] at K
         have F := Jtm h (rndW h l 64) v (by omega)
         refine SA ?_
         refine Jad (n - 1) (by omega) ⟨v + 1, by omega, ?_⟩
         refine SA ?_
         simp
       . have e : v = 8 := by omega
         subst e; have M := Jtl h l; exact SB
@[go_sem high] theorem Jw4 (l : List Int) (j : Nat) (x : Int) (c : j < l.length) (g : l.length ≠ 1) : setC (.agg (l.map Y)) j (Y x) = .agg ((l.set j x).map Y) := by
 rw [Jjr, if_neg (by simp; omega)]
 congr 1
 simp only [AV.cells_agg, AV.cells_v, L18, <- L1L, <- List.map_drop]; rw [L2c, if_pos c]
 simp
set_option maxHeartbeats 1000000 in
theorem JpM (h : List Int) (s : h.length = 8) : Ev prog 180 [.agg (h.map U)] (Str (strOfNums (outF h))) := by
 refine EV func180 ?_
 refine SA ?_
 refine Jaf (λ n E y => ∃ v : Nat, v + n = 8 /\ E 3 = .ptr 379584560 32 0 0 /\ E 7 = .agg (h.map U) /\ E 8 = I v /\ y 379584560 = some ⟨306, 32, [.agg ((outN h (4 * v)).map Y)]⟩) 8 ⟨0, by omega, ?_⟩ ?_
 . refine SA ?_
   exact ⟨rfl, rfl⟩
 . rintro n E y ⟨v, O, k, q, g, i⟩
   refine SA ?_
   refine Jab (λ G => ?_) (λ G => ?_)
   . refine SA ?_
     refine Jaf (λ m E y => ∃ u : Nat, u + m = 4 /\ E 3 = .ptr 379584560 32 0 0 /\ E 7 = .agg (h.map U) /\ E 8 = I v /\ E 4 = I v /\ E 5 = U (gd h v) /\ E 12 = I u /\ y 379584560 = some ⟨306, 32, [.agg ((outN h (4 * v + u)).map Y)]⟩) 4 ⟨0, by omega, ?_⟩ ?_
     . refine SA ?_
       simp
     . clear k q g i E y
       rintro m E y ⟨u, N, k, q, g, z, A, o, i⟩
       have C := Jdn h (4 * v + u); simp -implicitDefEqProofs (disch := omega) only [go_sem, k, q, g, z, A, o, i, s]
       refine Jab (λ H => ?_) (λ H => ?_)
       . have K : (4 * (v : Int) + (u : Int)).toNat = 4 * v + u := by omega
         have L : (24 - 8 * (u : Int)).toNat = 24 - 8 * u := by omega
         have M : min (24 - 8 * u) 32 = 24 - 8 * u := by omega
         refine SA ?_
         refine Jad (m - 1) (by omega) ⟨u + 1, by omega, ?_⟩
         have w := Js1 h (4 * v + u) (by omega)
         unfold dgF at w
         rw [show (4 * v + u) / 4 = v from by omega, show (4 * v + u) % 4 = u from by omega, L0K] at w
         refine SA ?_
         simp
       . have e : u = 4 := by omega
         subst e; refine SA ?_
         refine Jad (n - 1) (by omega) ⟨v + 1, by omega, ?_⟩
         have F : 4 * (v + 1) = 4 * v + 4 := by omega
         refine SA ?_
         simp
   . have e : v = 8 := by omega
     subst e; have J := Js0 h
     have D : (outF h).length = 32 := by simp [outF]
     rw [show 4 * 8 = 32 from rfl, J] at i
     refine SA ?_
     refine Jcs [379584560] ?_
     refine JcA (c := .agg ((outF h).map Y)) (j := 0) (m := 32) 0 32 (by simp -implicitDefEqProofs (disch := omega) only [go_sem, k, i]) Jtp Jzv (by simp [D]) ⟨rfl, rfl, by omega, by omega⟩ ?_
     have B : (outF h).take 32 = outF h := L03 (by omega)
     refine SA ?_
     refine Jdu (outF h) (by simp -implicitDefEqProofs (disch := omega) only [go_sem, B]) (by intro b; refine SD ?_; intro e; cases e) (e := 5) rfl rfl rfl ?_
     exact SB
theorem Jsg (b : List Int) (k : Int) (c : 1 <= k) : Ev prog 178 [YL b, I k] (.clo 197 [.pt (YL b) 0, .pt (I k) 0]) := by
 refine Jch (r := .clo 197 [.nptr 69 1 [YL b], .nptr 3 1 [I k]]) ?_ _
 refine EW [2] func178 ?_
 refine SA ?_
 refine Jab (λ h => absurd h (by omega)) (λ h => ?_)
 exact SB
theorem JpF (b : List Int) (m : Nat) (A : b.length = 64 * m) (y : b.length <= 1000000000) (σ : Jac) : SOK prog 197 [.pt (YL b) 0, .pt (I 64) 0] σ ((Jhx b 0 m).map YA) := by
 refine JkT func197 rfl (by kernel_rfl) mo (nb rfl) ?_ rfl λ l => ?_
 . exact Jjb allB _
 . refine SA ?_
   refine Jaf (λ n E σ => ∃ i : Nat, i + n = m /\ E 0 = .yld l /\ E 1 = .pt (YL b) 0 /\ E 2 = .pt (I 64) 0 /\ E 4 = I ((64 * i : Nat) : Int) /\ E 31 = .tup (((Jhx b i n).map YA).map .tup)) m ⟨0, by omega, ?_⟩ ?_
   . refine SA ?_
     simp
   . rintro n E σ ⟨i, z, j, h, o, q, c⟩
     refine SA ?_
     cases n with
     | zero =>
      refine Jam (by omega) ?_
      refine SA ?_
      exact .inl rfl
     | succ n =>
      have g : min (64 : Int) ((min (b.length - 64 * i) (b.length - 64 * i) : Nat) : Int) = 64 := by omega
      have u : ((64 * i : Nat) : Int) + 64 = ((64 * i + 64 : Nat) : Int) := by omega
      rw [Jhx] at c
      refine Ja0 (by omega) ?_
      simp -implicitDefEqProofs (disch := omega) only [go_sem, j, h, o, q, c, L01, L0g, g, u]
      refine JkS (sz := 1) (es := b.map Y) (64 * i) (64 * i + 64) (km := .i64) (by simp -implicitDefEqProofs (disch := omega) only [go_sem, h]) Jzq Jzv (by decide) SC (by simp)
       (Jbj (k := .i64) (n := ((64 * i + 64 : Nat) : Int)) SC (by omega) (Jbj (k := .i64) (n := ((64 * i : Nat) : Int)) SC (by omega) ⟨by omega, by omega, by omega, by rw [L0c]; omega⟩)) ?_
      have w : (b.drop (64 * i)).take (64 * i + 64 - 64 * i) = Jen b i := by rw [show 64 * i + 64 - 64 * i = 64 from by omega]; rfl
      refine SA ?_
      have s : 64 * (i + 1) = 64 * i + 64 := by omega
      refine ⟨Jad n (by omega) ⟨i + 1, by omega, ?_⟩, ?_⟩
      . simp -implicitDefEqProofs (disch := omega) only [go_sem, j, h, o, q, c, g, u, w, s]
      . exact .inr trivial
theorem Jow {b : List Int} {i n : Nat} {x : List AV} {c : List (List AV)} (h : (Jhx b i n).map YA = x :: c) : ∃ m, n = m + 1 /\ x = YA (Jen b i) /\ c = (Jhx b (i + 1) m).map YA := by
 cases n with
 | zero => cases h
 | succ m => simp only [Jhx, L0l, List.cons.injEq] at h; exact ⟨m, rfl, h.1.symm, h.2.symm⟩
theorem Jq5 {b : List Int} {i n : Nat} (h : (Jhx b i n).map YA = []) : n = 0 := by
 cases n with
 | zero => rfl
 | succ m => simp [Jhx] at h
set_option maxHeartbeats 2000000 in
theorem Jzm (s : ByteArray) (hs : s.size <= 100000000) : Ev prog 152 [Str s] (Str (shaF s)) := by
 refine EV func152 ?_
 refine SA ?_; have H := Jar s
 refine JoM s SC rfl rfl rfl (by omega) ?_
 refine SA ?_; unfold shaF; generalize bI s = l at *
 obtain ⟨m, V, af⟩ := JeE l
 refine Jaf (λ n E C => ∃ j : Nat, j + n = zerF l.length /\ E 0 = Str s /\ E 3 = .ptr 320864304 8 0 0 /\ E 4 = .own 320864400 1 0 (l.length + 1 + j) /\ C 320864304 = some ⟨282, 8, [.agg (H0.map U)]⟩ /\ C 320864400 = some ⟨5, 1, (padZ l j).map Y⟩) (zerF l.length) ⟨0, by omega, ?_⟩ ?_
 . refine SA ?_
   exact ⟨rfl, by simp [padZ]⟩
 . have aa : zerF l.length < 64 := by unfold zerF; omega
   rintro n E C ⟨j, hj, q, o, u, c, z⟩
   have B : (padZ l j).length = l.length + 1 + j := by simp [padZ]; omega
   have G : (((l.length + 1 + j : Nat) : Int)).tmod 64 = (((l.length + 1 + j) % 64 : Nat) : Int) := by rw [L0Z (by omega)]; omega
   simp -implicitDefEqProofs (disch := omega) only [go_sem, q, o, u, c, z, G]
   refine Jab (λ O => ?_) (λ O => ?_)
   . have ac := Jnt l.length j (by omega) (by omega)
     simp -implicitDefEqProofs (disch := omega) only [go_sem, q, o, u, c, z, B]
     refine Jad (n - 1) (by omega) ⟨j + 1, by omega, ?_⟩
     have N : padZ l j ++ [0] = padZ l (j + 1) := by simp [padZ, L2h]
     have J : (padZ l j).take (l.length + 1 + j) = padZ l j := L03 (by omega)
     simp -implicitDefEqProofs (disch := omega) only [go_sem, q, o, u, c, z, B, N, J]; rw [L0K]
   . have R := Jnu l.length j (by omega) (by omega)
     subst R
     have M : ∀ k : Nat, k <= 8 -> min (8 * (k : Int)).toNat 64 = 8 * k := λ k Z => by omega
     simp -implicitDefEqProofs (disch := omega) only [go_sem, q, o, u, c, z, B]
     refine Jaf (λ n E C => ∃ A : List Int, n <= 8 /\ A ++ lenL l.length n = padF l /\ E 0 = Str s /\ E 3 = .ptr 320864304 8 0 0 /\ E 4 = .own 320864400 1 0 A.length /\ E 5 = I ((n : Int) - 1) /\ C 320864304 = some ⟨282, 8, [.agg (H0.map U)]⟩ /\ C 320864400 = some ⟨5, 1, A.map Y⟩) 8 ⟨padZ l (zerF l.length), by omega, rfl, ?_⟩ ?_
     . simp -implicitDefEqProofs (disch := omega) only [go_sem, q, o, u, c, z, B]
       simp
     . clear q o u c z O G B E C hj n
       rintro n E C ⟨A, ae, w, q, o, u, F, c, z⟩
       have W : A.length <= l.length + 128 := by have := congrArg List.length w; simp at this; omega
       simp -implicitDefEqProofs (disch := omega) only [go_sem, q, o, u, F, c, z]
       refine Jab (λ O => ?_) (λ O => ?_)
       . obtain ⟨k, rfl⟩ : ∃ k, n = k + 1 := ⟨n - 1, by omega⟩
         have Z : (((k + 1 : Nat) : Int)) - 1 = (k : Int) := by omega
         rw [Z] at F
         have hm := M k (by omega)
         simp -implicitDefEqProofs (disch := omega) only [go_sem, q, o, u, F, c, z, hm, H.symm]
         refine Jad k (by omega) ⟨A ++ [lenB l.length k], by omega, by rw [<- w]; simp [lenL], ?_⟩
         have S : IntKind.u8.wrap ((8 * (l.length : Int)).fdiv (2 ^ (8 * k))) = lenB l.length k := rfl
         simp -implicitDefEqProofs (disch := omega) only [go_sem, q, o, u, F, c, z, hm, S, L04]
       . have T : n = 0 := by omega
         subst T; simp only [lenL, L0F] at w; subst w; simp -implicitDefEqProofs (disch := omega) only [go_sem, q, o, u, F, c, z]
         refine Jan rfl ?_
         refine JcZ [320864400] ?_
         simp -implicitDefEqProofs (disch := omega) only [go_sem, q, o, u, F, c, z, L04]
         refine Jaa (Jsg (padF l) 64 (by omega)) ?_
         simp -implicitDefEqProofs (disch := omega) only [go_sem, q, o, u, F, c, z]
         refine JbG ?_
         have hd : (padF l).length / 64 = m := by omega
         rw [hd]
         refine JcN [] [320864304] 20054116 ((Jhx (padF l) 0 m).map YA) (λ xs C => ∃ i n : Nat, i + n = m /\ xs = (Jhx (padF l) i n).map YA /\ C 320864304 = some ⟨282, 8, [.agg ((blkF (padF l) i).map U)]⟩)
          (g := 197) (caps := [.pt (YL (padF l)) 0, .pt (I 64) 0]) ?_ ?_ ?_ ?_ ?_ ?_ ?_ ?_
         . exact SC
         . exact JpF _ m V (by omega) _
         . intro x hx
           obtain ⟨y, _, rfl⟩ := L05.1 hx
           rfl
         . exact SC
         . exact SC
         . refine ⟨0, m, by omega, rfl, ?_⟩
           refine SA ?_
           rfl
         . rintro P D y ab X ⟨i, n, Q, K, c⟩
           have L : P 3 = .ptr 320864304 8 0 0 := by rw [D]; simp -implicitDefEqProofs (disch := omega) only [go_sem, o]
           clear D q o u F z
           obtain ⟨k, rfl, rfl, rfl⟩ := Jow K.symm
           have hL : LOK prog 179 (inI [320864304]) ([.ptr 320864304 8 0 0, YL (Jen (padF l) i)] ++ []) (stO [(320864304, ⟨282, 8, [.agg ((blkF (padF l) i).map U)]⟩)]) (.tup []) (stO [(320864304, ⟨282, 8, [.agg ((blkF (padF l) (i + 1)).map U)]⟩)]) := Jxi (blkF (padF l) i) (Jen (padF l) i) (JbW _ i) (Jfc _ _ (by omega))
           refine SA ?_
           refine Jan rfl ?_
           refine JaY [320864304] hL ?_ ?_ ?_ ?_ ?_ ?_ ?_ (hsp := λ id h _ => L0A.2 h)
           . exact SC
           . simp -implicitDefEqProofs (disch := omega) only [go_sem, L]
           . simp -implicitDefEqProofs (disch := omega) only [go_sem, c]
           . exact SC
           . exact SC
           . exact SC
           . refine SA ?_
             exact ⟨inL [], λ _ _ => rfl, i + 1, k, by omega, rfl, rfl⟩
         . rintro P D X ⟨i, n, Q, K, c⟩
           have L : P 3 = .ptr 320864304 8 0 0 := by rw [D]; simp -implicitDefEqProofs (disch := omega) only [go_sem, o]
           have hn := Jq5 K.symm; subst hn
           obtain rfl : i = m := by omega
           have J : (blkF (padF l) i).take 8 = blkF (padF l) i := L03 (by rw [JbW]; omega)
           simp -implicitDefEqProofs (disch := omega) only [go_sem, L, c, JbW, J]
           refine Jaa (JpM _ (JbW _ _)) ?_
           exact SB
end Go.Proofs.YtlecbpkidomjbaaGreatDoor
namespace Go.Proofs
open Go.Shelf
def Tryz.lays156_ren : Go.Shelf.Ren := ⟨fun | 156 => 153 | 165 => 181 | 166 => 85 | 169 => 86 | 240 => 124 | 241 => 200 | 276 => 154 | 277 => 212 | n => n, fun | 31 => 39 | 9 => 9 | 3 => 3 | 4 => 4 | 0 => 0 | 20 => 20 | 72 => 182 | 76 => 189 | 70 => 180 | 37 => 69 | 75 => 188 | 127 => 229 | 164 => 258 | 5 => 5 | 80 => 90 | n => n, fun | n => n⟩
theorem Tryz.lays156 : Go.Proofs.Lays.n156 prog Tryz.lays156_ren := {
 mixed := by kernel_rfl
 f156 := func153.trans (congrArg some (by kernel_rfl))
 f165 := func181.trans (congrArg some (by kernel_rfl))
 f166 := func85.trans (congrArg some (by kernel_rfl))
 f169 := func86.trans (congrArg some (by kernel_rfl))
 f240 := func124.trans (congrArg some (by kernel_rfl))
 f241 := func200.trans (congrArg some (by kernel_rfl))
 f276 := func154.trans (congrArg some (by kernel_rfl))
 f277 := func212.trans (congrArg some (by kernel_rfl))
 t0 := Tryz.underlying0
 a0 := Tryz.isAgg0
 z0 := Tryz.sizeOf0
 v0 := Tryz.zeroValue0
 t3 := Tryz.underlying3
 a3 := Tryz.isAgg3
 z3 := Tryz.sizeOf3
 v3 := Tryz.zeroValue3
 t4 := Tryz.underlying4
 a4 := Tryz.isAgg4
 z4 := Tryz.sizeOf4
 v4 := Tryz.zeroValue4
 t9 := Tryz.underlying9
 a9 := Tryz.isAgg9
 z9 := Tryz.sizeOf9
 v9 := Tryz.zeroValue9
 t20 := Tryz.underlying20
 a20 := Tryz.isAgg20
 z20 := Tryz.sizeOf20
 v20 := Tryz.zeroValue20
 t31 := Tryz.underlying39
 a31 := Tryz.isAgg39
 z31 := Tryz.sizeOf39
 v31 := Tryz.zeroValue39
 t37 := Tryz.underlying69
 a37 := Tryz.isAgg69
 z37 := Tryz.sizeOf69
 v37 := Tryz.zeroValue69
 t70 := Tryz.underlying180
 a70 := Tryz.isAgg180
 z70 := Tryz.sizeOf180
 v70 := Tryz.zeroValue180
 t72 := Tryz.underlying182
 a72 := Tryz.isAgg182
 z72 := Tryz.sizeOf182
 v72 := Tryz.zeroValue182
 t75 := Tryz.underlying188
 a75 := Tryz.isAgg188
 z75 := Tryz.sizeOf188
 v75 := Tryz.zeroValue188
 t76 := Tryz.underlying189
 a76 := Tryz.isAgg189
 z76 := Tryz.sizeOf189
 v76 := Tryz.zeroValue189
 t127 := Tryz.underlying229
 a127 := Tryz.isAgg229
 z127 := Tryz.sizeOf229
 v127 := Tryz.zeroValue229
 t164 := Tryz.underlying258
 a164 := Tryz.isAgg258
 z164 := Tryz.sizeOf258
 v164 := Tryz.zeroValue258 }
theorem Tryz.Builder_Extra_156 : Builder.Extra prog Tryz.lays156_ren := {
 sizeBuilder := by kernel_rfl
 liesBuilder := by kernel_rfl
 t5 := Tryz.underlying5
 a5 := Tryz.isAgg5
 z5 := Tryz.sizeOf5
 v5 := Tryz.zeroValue5
 infoByte := by kernel_rfl
 cellsByte := by kernel_rfl
 sizeByte := by kernel_rfl
 neB5 := by decide }
open Go.RowKit in
theorem Tryz.strings_Join_none (a : Option Addr) (c : Nat) (g : ByteArray) (w : World) :
 Calls prog 153 #[.slice a 0 c, .string g] w λ e w' => e = .returned (.string ⟨#[]⟩) /\ w' = w := Any.strings_Join_none Tryz.lays156 Tryz.Builder_Extra_156 a c g w
open Go.RowKit in
theorem Tryz.strings_Join (m o c : Nat) (xs : List ByteArray) (h : ByteArray) (w : World) (g : ∀ (j : Nat) x, xs[j]? = some x -> w.cell? ⟨m, o + j, none⟩ = some (.string x)) (q : m < w.heap.size) (s : xs.length <= 140737488355328) (i : xs.length <= c) (k : (Lib.join (xs.map (·.data.toList)) h.data.toList).length <= 140737488355328) :
 Calls prog 153 #[.slice (some ⟨m, o, none⟩) xs.length c, .string h] w λ e w' => e = .returned (.string ⟨(Lib.join (xs.map (·.data.toList)) h.data.toList).toArray⟩) /\ Below w.heap.size w w' := Any.strings_Join Tryz.lays156 Tryz.Builder_Extra_156 m o c xs h w g q s i k
end Go.Proofs
namespace Go.Proofs.YtlecbpkidomjbaaGreatDoor
open Go.Proofs.Tryz
open Go.Vai Go Go.Proofs
def catF (l : List ByteArray) : ByteArray := ⟨(Lib.join (l.map (·.data.toList)) ((⟨#[]⟩ : ByteArray).data.toList)).toArray⟩
theorem Jmt (a : ByteArray) : catF [a] = a := by unfold catF; rw [L0l, L0G, Lib.join_one, Lib.mk_data]
theorem JvU {w : World} {Im : Nat -> Prop} {g o : Nat} {l : List ByteArray} {f : Nat -> Nat -> Value}
 (s : ∀ i j, i < (l.map Str).length -> j < 1 -> w.cell? ⟨g, o + i * 1 + j, none⟩ = some (f i j) /\ (f i j).oneCell' = true)
 (h : ∀ (i : Nat) (e : AV) (j : Nat) (c : AV), (l.map Str)[i]? = some e -> e.cells[j]? = some c -> IRep w Im c (f i j)) :
 ∀ (j : Nat) x, l[j]? = some x -> w.cell? ⟨g, o + j, none⟩ = some (.string x) := by
 intro j x q
 have u : j < l.length := (L0a.1 q).1
 have k := (s j 0 (by simpa using u) (by omega)).1
 have m := h j (Str x) 0 (Str x) (by simp [q]) rfl
 generalize f j 0 = y at k m
 cases m
 simpa using k.trans rfl
theorem Jve (l : List ByteArray) (I : (catF l).size <= 140737488355328) (J : l.length <= 140737488355328) : Ev prog 153 [.sl 1 (l.map Str), Str ⟨#[]⟩] (Str (catF l)) := by
 rintro B r ⟨rfl, rfl⟩
 refine ⟨enters_of func153 (by kernel_rfl) rfl, λ w A vs u _ z => ?_⟩
 obtain ⟨s, D⟩ := z
 obtain ⟨M, N, rfl⟩ : ∃ a b, vs = [a, b] := by
  match vs, s with
  | [a, b], _ => exact ⟨a, b, rfl⟩
 have i := D 0 _ M rfl rfl; have c := D 1 _ N rfl rfl
 cases c
 have m : ∀ j, RRep w j A (Str (catF l)) (.string (catF l)) := λ j => ⟨A, λ _ h => h, λ _ h => .inl h, none, ⟨rfl, .v _⟩, by simp [JdC]⟩
 generalize C : l.map Str = E at i
 cases i with
 | slnil L a g =>
  have : l = [] := by simpa using C
  subst this
  exact (Tryz.strings_Join_none a g ⟨#[]⟩ w).mono λ e j ⟨i, c⟩ => ⟨_, i, c ▸ Ext.refl _ _, m j⟩
 | sl L E b o g f F q K y G =>
  subst C
  rw [show (l.map Str).length = l.length from L0c ..]
  refine (Tryz.strings_Join b o g l ⟨#[]⟩ w (JvU y G) (u b F) J (by simpa using q) ?_).mono λ e j ⟨i, c⟩ => ⟨_, i, ⟨c.os, c.tape, c.output, c.size, λ k H _ => c.block k H⟩, m j⟩
  have := I
  unfold catF at this
  simpa [ByteArray.size] using this
theorem Jif (m : ByteArray) (l : List ByteArray) (c : m.size + (catF l).size <= 100000000) (g : l.length <= 1000) : Ev prog 151 [.sl 1 (l.map Str), .pt (Str m) 0] (Str (shaF (m ++ catF l))) := by
 refine EV func151 ?_
 refine SA ?_
 refine Jaa (Jve l (by omega) (by omega)) ?_
 refine SA ?_
 refine Jaa (Jzm (m ++ catF l) (by rw [L0w]; omega)) ?_
 exact SB
theorem Jku (m : ByteArray) : Ev prog 123 [Str m] (.clo 151 [.pt (Str m) 0]) := by
 refine Jch (r := .clo 151 [.nptr 9 1 [Str m]]) ?_ _
 refine EV func123 ?_
 refine SA ?_; simp -implicitDefEqProofs (disch := omega) only [go_sem, results123]
theorem Jqq (a : ByteArray) (c : a.size <= 99999999) : Ev prog 81 [Str a] (Str (shaF (⟨#[0]⟩ ++ a))) := by
 refine EV func81 ?_
 refine SA ?_
 refine Jaa (Jku _) ?_
 refine SA ?_
 refine Jaa (Jif ⟨#[0]⟩ [a] ?_ (by simp)) ?_
 . rw [Jmt]; show 1 + _ <= _; omega
 simp -implicitDefEqProofs (disch := omega) only [go_sem, results81, Jmt]
theorem Jmu (a b : ByteArray) : catF [a, b] = a ++ b := by
 unfold catF; rw [L0l, L0l, L0G, Lib.join_cons]; simp only [Lib.joinTail, L0l, L0G, List.flatten_cons, List.flatten_nil, L0F]
 apply ByteArray.ext
 simp [L2u]
theorem JqG (a b : ByteArray) (c : a.size + b.size <= 99999999) : Ev prog 80 [Str a, Str b] (Str (shaF (⟨#[1]⟩ ++ (a ++ b)))) := by
 refine EV func80 ?_
 refine SA ?_
 refine Jaa (Jku _) ?_
 refine SA ?_
 refine Jaa (Jif ⟨#[1]⟩ [a, b] ?_ (by simp)) ?_
 . rw [Jmu, L0w]; show 1 + _ <= _; omega
 simp -implicitDefEqProofs (disch := omega) only [go_sem, results80, Jmu]
theorem JcU (x : Int) (n : Nat) (h : 1 <= n) (i : n <= 31) : Ev prog 201 [U x, I n] (U (rotF x n)) := by
 refine EV func201 ?_
 have c : min n 32 = n := by omega
 have g : (32 - (n : Int)).toNat = 32 - n := by omega
 have m3 : min (32 - n) 32 = 32 - n := by omega
 refine SA ?_
 rfl
theorem JjU : Ev prog 202 [] (UL KT) := by
 refine Jch (r := .new 280 1 (KT.map U)) ?_ _
 refine EV func202 ?_
 refine SA ?_
 rfl
theorem JuE (s : ByteArray) (v : Nat) (h : v < s.size) : ∃ c : UInt8, s[v]? = some c /\ (c.toNat : Int) = gd (bI s) v := by
 refine ⟨s[v], getElem?_pos s v h, ?_⟩
 unfold gd bI
 rw [L0X, L07, L0P, L0i (show v < s.data.size from h)]
 rfl
theorem Jly (s : ByteArray) (hs : s.size <= 100000000) : Ev prog 182 [Str s] (YL (padF (bI s))) := by
 refine Jch (r := .new 5 1 ((padF (bI s)).map Y)) ?_ _
 refine EV func182 ?_
 refine SA ?_; have u := Jar s
 refine Jaf (λ n E z => ∃ v : Nat, v + n = s.size /\ E 0 = Str s /\ E 3 = .own 383778864 1 0 v /\ E 4 = I v /\ z 383778864 = some ⟨5, 1, ((bI s).take v).map Y⟩) s.size ⟨0, by omega, ?_⟩ ?_
 . refine SA ?_
   rfl
 . rintro n E z ⟨v, hv, h, i, D, g⟩
   have M : ((bI s).take v).length = v := by simp; omega
   refine SA ?_
   refine Jab (λ C => ?_) (λ C => ?_)
   . obtain ⟨c, L, G⟩ := JuE s v (by omega)
     have T : (bI s).take v ++ [gd (bI s) v] = (bI s).take (v + 1) := by rw [L0B, JaE _ _ (by omega)]; rfl
     have o : ((bI s).take v).take v = (bI s).take v := L03 (by omega)
     have H : 0 <= (v : Int) := by omega
     simp -implicitDefEqProofs (disch := omega) only [go_sem, h, i, D, g, u, M, L, G, o, H, optU, T]
     refine Jad (n - 1) (by omega) ⟨v + 1, by omega, ?_⟩
     refine SA ?_
     simp
   . have e : v = s.size := by omega
     subst e
     rw [L03 (by omega)] at g
     refine SA ?_
     obtain ⟨m, aa, Z⟩ := JeE (bI s)
     generalize bI s = l at *
     have o : l.take s.size = l := L03 (by omega)
     have S : zerF l.length < 64 := by unfold zerF; omega
     refine Jaf (λ n E z => ∃ j : Nat, j + n = zerF l.length /\ E 0 = Str s /\ E 3 = .own 383778864 1 0 (l.length + 1 + j) /\ z 383778864 = some ⟨5, 1, (padZ l j).map Y⟩) (zerF l.length) ⟨0, by omega, ?_⟩ ?_
     . refine SA ?_
       simp [padZ]
     . clear h i D g C E z hv n
       rintro n E z ⟨j, V, h, i, g⟩
       have y : (padZ l j).length = l.length + 1 + j := by simp [padZ]; omega
       have A : (((l.length + 1 + j : Nat) : Int)).tmod 64 = (((l.length + 1 + j) % 64 : Nat) : Int) := by rw [L0Z (by omega)]; omega
       have B : padZ l j ++ [0] = padZ l (j + 1) := by simp [padZ, L2h]
       have o : (padZ l j).take (l.length + 1 + j) = padZ l j := L03 (by omega)
       simp -implicitDefEqProofs (disch := omega) only [go_sem, h, i, g, A]
       refine Jab (λ C => ?_) (λ C => ?_)
       . have W := Jnt l.length j (by omega) (by omega)
         simp -implicitDefEqProofs (disch := omega) only [go_sem, h, i, g, y, B, o]
         refine Jad (n - 1) (by omega) ⟨j + 1, by omega, ?_⟩
         simp -implicitDefEqProofs (disch := omega) only [go_sem, h, i, g, y, B, o]; rw [L0K]
       . have N := Jnu l.length j (by omega) (by omega)
         subst N
         have K : ∀ k : Nat, k <= 8 -> min (8 * (k : Int)).toNat 64 = 8 * k := λ k Q => by omega
         refine SA ?_
         refine Jaf (λ n E z => ∃ w : List Int, n <= 8 /\ w ++ lenL l.length n = padF l /\ E 0 = Str s /\ E 3 = .own 383778864 1 0 w.length /\ E 5 = I ((n : Int) - 1) /\ z 383778864 = some ⟨5, 1, w.map Y⟩) 8 ⟨padZ l (zerF l.length), by omega, rfl, ?_⟩ ?_
         . simp -implicitDefEqProofs (disch := omega) only [go_sem, h, i, g, y]
           simp
         . clear h i g C A y E z V n o
           rintro n E z ⟨w, X, q, h, i, F, g⟩
           have P : w.length <= l.length + 128 := by have := congrArg List.length q; simp at this; omega
           refine SA ?_
           refine Jab (λ C => ?_) (λ C => ?_)
           . obtain ⟨k, rfl⟩ : ∃ k, n = k + 1 := ⟨n - 1, by omega⟩
             have Q : (((k + 1 : Nat) : Int)) - 1 = (k : Int) := by omega
             rw [Q] at F
             have R := K k (by omega)
             have J : IntKind.u8.wrap ((8 * (l.length : Int)).fdiv (2 ^ (8 * k))) = lenB l.length k := rfl
             simp -implicitDefEqProofs (disch := omega) only [go_sem, h, i, F, g, R, J, u.symm, L04]
             refine Jad k (by omega) ⟨w ++ [lenB l.length k], by omega, by rw [<- q]; simp [lenL], ?_⟩
             simp -implicitDefEqProofs (disch := omega) only [go_sem, h, i, F, g, R, J, L04]
           . have O : n = 0 := by omega
             subst O; simp only [lenL, L0F] at q; subst q; simp -implicitDefEqProofs (disch := omega) only [go_sem, h, i, F, g, L04, results182]
theorem JoX (h l : List Int) (v : Nat) (c : v < 8) : gd (addF h l) v = ad (gd h v) (gd (rndW h l 64) v) := by
 rcases v with _ | _ | _ | _ | _ | _ | _ | _ | v
 all_goals first | rfl | omega
theorem Jbi (h l : List Int) : (addF h l).length = 8 := rfl
set_option maxHeartbeats 4000000 in
theorem Jsd (h l : List Int) (K : h.length = 8) (hl : l.length = 64) : Ev prog 183 [UL h, YL l] (UL (addF h l)) := by
 refine Jch (r := .new 280 1 ((addF h l).map U)) ?_ _
 refine EW [18] func183 ?_
 refine SA ?_
 refine Jaf (λ n E z => ∃ v : Nat, v + n = 16 /\ E 0 = UL h /\ E 1 = YL l /\ E 5 = .own 385876048 1 0 v /\ E 6 = I v /\ z 385876048 = some ⟨280, 1, (schN l v).map U⟩) 16 ⟨0, by omega, ?_⟩ ?_
 . refine SA ?_
   exact ⟨rfl, rfl⟩
 . rintro n E z ⟨v, S, i, C, m, R, g⟩
   have s := Ja8 l v; refine SA ?_
   refine Jab (λ G => ?_) (λ G => ?_)
   . have N : (4 * (v : Int)).toNat = 4 * v := by omega
     have O : (4 * (v : Int) + 1).toNat = 4 * v + 1 := by omega
     have P : (4 * (v : Int) + 2).toNat = 4 * v + 2 := by omega
     have Q : (4 * (v : Int) + 3).toNat = 4 * v + 3 := by omega
     have o : (schN l v).take v = schN l v := L03 (by omega)
     have y : schN l v ++ [be4 l v] = schN l (v + 1) := by simp only [schN, if_pos (show v < 16 from by omega)]
     unfold be4 at y; simp -implicitDefEqProofs (disch := omega) only [go_sem, i, C, m, R, g, hl, s, N, O, P, Q, m24, m16, m8, o, y]
     refine Jad (n - 1) (by omega) ⟨v + 1, by omega, ?_⟩
     refine SA ?_
     simp
   . have e : v = 16 := by omega
     subst e; refine SA ?_
     refine Jaf (λ n E z => ∃ v : Nat, v + n = 64 /\ 16 <= v /\ E 0 = UL h /\ E 1 = YL l /\ E 5 = .own 385876048 1 0 v /\ E 7 = I v /\ z 385876048 = some ⟨280, 1, (schN l v).map U⟩) 48 ⟨16, by omega, by omega, ?_⟩ ?_
     . refine SA ?_
       rfl
     . clear i C m R g G E z S s n
       rintro n E z ⟨v, S, aa, i, C, m, H, g⟩
       have s := Ja8 l v; refine SA ?_
       refine Jab (λ G => ?_) (λ G => ?_)
       . have N : ((v : Int) - 15).toNat = v - 15 := by omega
         have O : ((v : Int) - 2).toNat = v - 2 := by omega
         have P : ((v : Int) - 16).toNat = v - 16 := by omega
         have Q : ((v : Int) - 7).toNat = v - 7 := by omega
         have r7 := JcU (gd (schN l v) (v - 15)) 7 (by omega) (by omega)
         have ae := JcU (gd (schN l v) (v - 15)) 18 (by omega) (by omega)
         have ac := JcU (gd (schN l v) (v - 2)) 17 (by omega) (by omega)
         have af := JcU (gd (schN l v) (v - 2)) 19 (by omega) (by omega)
         refine SA ?_
         refine Jaa r7 ?_
         refine SA ?_
         refine Jaa ae ?_
         simp -implicitDefEqProofs (disch := omega) only [go_sem, i, C, m, H, g, s, N, O, P, Q, m3]
         refine Jaa ac ?_
         simp -implicitDefEqProofs (disch := omega) only [go_sem, i, C, m, H, g, s, N, O, P, Q, m3]
         refine Jaa af ?_
         have o : (schN l v).take v = schN l v := L03 (by omega)
         have y : schN l v ++ [nxtF (schN l v) v] = schN l (v + 1) := by simp only [schN, if_neg (show ¬ v < 16 from by omega)]
         unfold nxtF rot2 at y; simp -implicitDefEqProofs (disch := omega) only [go_sem, i, C, m, H, g, s, N, O, P, Q, m3, m10, o, y]
         refine Jad (n - 1) (by omega) ⟨v + 1, by omega, by omega, ?_⟩
         refine SA ?_
         simp
       . have e : v = 64 := by omega
         subst e
         rw [show schN l 64 = schF l from rfl] at g s
         refine SA ?_
         refine Jaa JjU ?_
         have o : h.take 8 = h := L03 (by omega)
         refine SA ?_
         refine Jaf (λ n E z => ∃ v id : Nat, v + n = 64 /\ (id = 385876144 \/ id = 385879488) /\ E 0 = UL h /\ E 5 = .own 385876048 1 0 64 /\ E 10 = UL KT /\ E 11 = .own id 1 0 8 /\ E 12 = I v /\ z 385876048 = some ⟨280, 1, (schF l).map U⟩ /\ z id = some ⟨280, 1, (rndW h l v).map U⟩) 64 ⟨0, 385876144, by omega, .inl rfl, ?_⟩ ?_
         . refine SA ?_
           simp [rndW]
         . clear i C m H g G E z S n o aa
           rintro n E z ⟨v, id, S, ab, i, m, j, c, k, g, u⟩
           have w := JeG h l K v
           have T : Jzj (rndW h l v) (gd KT v) (gd (schF l) v) = rndW h l (v + 1) := rfl
           have L : v = 64 -> rndW h l v = rndW h l 64 := λ e => by rw [e]
           have F := JeG h l K 64; generalize rndW h l v = q at *
           have r6 := JcU (gd q 4) 6 (by omega) (by omega)
           have V := JcU (gd q 4) 11 (by omega) (by omega)
           have Y := JcU (gd q 4) 25 (by omega) (by omega)
           have r2 := JcU (gd q 0) 2 (by omega) (by omega)
           have W := JcU (gd q 0) 13 (by omega) (by omega)
           have X := JcU (gd q 0) 22 (by omega) (by omega)
           rcases ab with rfl | rfl
           . have D : q.take 8 = q := L03 (by omega)
             refine SA ?_
             refine Jab (λ G => ?_) (λ G => ?_)
             . simp -implicitDefEqProofs (disch := omega) only [go_sem, i, m, j, c, k, g, u, w, s, JaC]
               refine Jg9 Plain.mono [385876144] ?_
               simp -implicitDefEqProofs (disch := omega) only [go_sem, i, m, j, c, k, g, u, w, s, JaC, D]
               refine Jaa r6 ?_
               simp -implicitDefEqProofs (disch := omega) only [go_sem, i, m, j, c, k, g, u, w, s, JaC, D]
               refine Jaa V ?_
               simp -implicitDefEqProofs (disch := omega) only [go_sem, i, m, j, c, k, g, u, w, s, JaC, D]
               refine Jaa Y ?_
               simp -implicitDefEqProofs (disch := omega) only [go_sem, i, m, j, c, k, g, u, w, s, JaC, D]
               refine Jaa r2 ?_
               simp -implicitDefEqProofs (disch := omega) only [go_sem, i, m, j, c, k, g, u, w, s, JaC, D]
               refine Jaa W ?_
               simp -implicitDefEqProofs (disch := omega) only [go_sem, i, m, j, c, k, g, u, w, s, JaC, D]
               refine Jaa X ?_
               simp -implicitDefEqProofs (disch := omega) only [go_sem, i, m, j, c, k, g, u, w, s, JaC, D]
               refine Jad (n - 1) (by omega) ⟨v + 1, 385879488, by omega, .inr rfl, ?_⟩
               refine SA ?_
               refine ⟨by simp, ?_⟩
               rw [<- T]
               rfl
             . obtain rfl := L (by omega)
               refine SA ?_
               refine Jaf (λ n E z => ∃ v : Nat, v + n = 8 /\ E 0 = UL h /\ E 11 = .own 385876144 1 0 8 /\ E 17 = .own 385876240 1 0 v /\ E 18 = I v /\ z 385876144 = some ⟨280, 1, (rndW h l 64).map U⟩ /\ z 385876240 = some ⟨280, 1, ((addF h l).take v).map U⟩) 8 ⟨0, by omega, ?_⟩ ?_
               . refine SA ?_
                 rfl
               . clear i m j c k g u E z
                 rintro n E z ⟨v, S, i, c, A, B, g, u⟩
                 refine SA ?_
                 refine Jab (λ G => ?_) (λ G => ?_)
                 . have hg := JoX h l v (by omega)
                   have J : ((addF h l).take v).length = v := by rw [L01, Jbi]; omega
                   have o : ((addF h l).take v).take v = (addF h l).take v := L03 (by omega)
                   have Z : (addF h l).take v ++ [IntKind.u32.wrap (gd h v + gd (rndW h l 64) v)] = (addF h l).take (v + 1) := by rw [L0B, JaE _ _ (by rw [Jbi]; omega), hg]; rfl
                   refine SA ?_
                   refine Jad (n - 1) (by omega) ⟨v + 1, by omega, ?_⟩
                   refine SA ?_
                   simp
                 . have e : v = 8 := by omega
                   subst e
                   rw [L03 (by rw [Jbi]; omega)] at u
                   have o : (addF h l).take 8 = addF h l := L03 (by rw [Jbi]; omega)
                   have M : (addF h l).length = 8 := rfl
                   exact SB
           . have D : q.take 8 = q := L03 (by omega)
             refine SA ?_
             refine Jab (λ G => ?_) (λ G => ?_)
             . simp -implicitDefEqProofs (disch := omega) only [go_sem, i, m, j, c, k, g, u, w, s, JaC]
               refine Jg9 Plain.mono [385879488] ?_
               simp -implicitDefEqProofs (disch := omega) only [go_sem, i, m, j, c, k, g, u, w, s, JaC, D]
               refine Jaa r6 ?_
               simp -implicitDefEqProofs (disch := omega) only [go_sem, i, m, j, c, k, g, u, w, s, JaC, D]
               refine Jaa V ?_
               simp -implicitDefEqProofs (disch := omega) only [go_sem, i, m, j, c, k, g, u, w, s, JaC, D]
               refine Jaa Y ?_
               simp -implicitDefEqProofs (disch := omega) only [go_sem, i, m, j, c, k, g, u, w, s, JaC, D]
               refine Jaa r2 ?_
               simp -implicitDefEqProofs (disch := omega) only [go_sem, i, m, j, c, k, g, u, w, s, JaC, D]
               refine Jaa W ?_
               simp -implicitDefEqProofs (disch := omega) only [go_sem, i, m, j, c, k, g, u, w, s, JaC, D]
               refine Jaa X ?_
               simp -implicitDefEqProofs (disch := omega) only [go_sem, i, m, j, c, k, g, u, w, s, JaC, D]
               refine Jad (n - 1) (by omega) ⟨v + 1, 385879488, by omega, .inr rfl, ?_⟩
               refine SA ?_
               refine ⟨by simp, ?_⟩
               rw [<- T]
               rfl
             . obtain rfl := L (by omega)
               refine SA ?_
               refine Jaf (λ n E z => ∃ v : Nat, v + n = 8 /\ E 0 = UL h /\ E 11 = .own 385879488 1 0 8 /\ E 17 = .own 385876240 1 0 v /\ E 18 = I v /\ z 385879488 = some ⟨280, 1, (rndW h l 64).map U⟩ /\ z 385876240 = some ⟨280, 1, ((addF h l).take v).map U⟩) 8 ⟨0, by omega, ?_⟩ ?_
               . refine SA ?_
                 rfl
               . clear i m j c k g u E z
                 rintro n E z ⟨v, S, i, c, A, B, g, u⟩
                 refine SA ?_
                 refine Jab (λ G => ?_) (λ G => ?_)
                 . have hg := JoX h l v (by omega)
                   have J : ((addF h l).take v).length = v := by rw [L01, Jbi]; omega
                   have o : ((addF h l).take v).take v = (addF h l).take v := L03 (by omega)
                   have Z : (addF h l).take v ++ [IntKind.u32.wrap (gd h v + gd (rndW h l 64) v)] = (addF h l).take (v + 1) := by rw [L0B, JaE _ _ (by rw [Jbi]; omega), hg]; rfl
                   refine SA ?_
                   refine Jad (n - 1) (by omega) ⟨v + 1, by omega, ?_⟩
                   refine SA ?_
                   simp
                 . have e : v = 8 := by omega
                   subst e
                   rw [L03 (by rw [Jbi]; omega)] at u
                   have o : (addF h l).take 8 = addF h l := L03 (by rw [Jbi]; omega)
                   have M : (addF h l).length = 8 := rfl
                   exact SB
theorem JqO (h : List Int) (v : Nat) (o : v < 8) : (outF h).take (4 * v) ++ [IntKind.u8.wrap ((gd h v).fdiv (2 ^ 24)), IntKind.u8.wrap ((gd h v).fdiv (2 ^ 16)), IntKind.u8.wrap ((gd h v).fdiv (2 ^ 8)), IntKind.u8.wrap (gd h v)] = (outF h).take (4 * (v + 1)) := by
 have e : ∀ j, j < 4 -> dgF h (4 * v + j) = IntKind.u8.wrap ((gd h v).fdiv (2 ^ (24 - 8 * j))) := by
  intro j m
  unfold dgF
  rw [show (4 * v + j) / 4 = v from by omega, show (4 * v + j) % 4 = j from by omega]
 have g := e 0 (by omega)
 have i := e 1 (by omega)
 have k := e 2 (by omega)
 have c := e 3 (by omega)
 simp only [Nat.mul_zero, L11, L0U, Nat.reduceMul, Nat.reduceSub, L0R] at g i k c
 rw [show (2 : Int) ^ 0 = 1 from rfl, Int.fdiv_one] at c
 rw [<- g, <- i, <- k, <- c]; unfold outF
 rw [<- L1L, <- L1L, List.take_range, List.take_range, show min (4 * (v + 1)) 32 = 4 * v + 4 from by omega, show min (4 * v) 32 = 4 * v from by omega,
  show 4 * v + 4 = 4 * v + 3 + 1 from rfl, L1d, L1d, L1d, L1d]
 simp
set_option maxHeartbeats 2000000 in
theorem Jmg (s : ByteArray) (M : s.size <= 100000000) : Ev prog 155 [Str s] (Str (shaF s)) := by
 refine EV func155 ?_
 refine SA ?_
 refine Jan rfl ?_
 refine JcZ [327155840] ?_
 refine SA ?_
 refine Jaa (Jly s M) ?_
 refine SA ?_; have H := Jar s; unfold shaF; generalize bI s = l at *
 obtain ⟨m, D, L⟩ := JeE l
 refine Jaf (λ n E A => ∃ v : Nat, v + n = m /\ E 3 = UL (blkF (padF l) v) /\ E 4 = YL (padF l) /\ E 5 = I ((64 * v : Nat) : Int)) m ⟨0, by omega, ?_⟩ ?_
 . refine SA ?_
   exact ⟨rfl, rfl⟩
 . rintro n E A ⟨v, G, g, i, j⟩
   simp -implicitDefEqProofs (disch := omega) only [go_sem, g, i, j]
   refine Jab (λ C => ?_) (λ C => ?_)
   . have J : v < m := by omega
     have N : (((64 * v : Nat) : Int) + 64).toNat = 64 * v + 64 := by omega
     have K : ((padF l).drop (64 * v)).take (64 * v + 64 - 64 * v) = Jen (padF l) v := by unfold Jen; rw [Nat.add_sub_cancel_left]
     simp -implicitDefEqProofs (disch := omega) only [go_sem, g, i, j, N, K]
     refine Jaa (Jsd _ _ (JbW _ v) (Jfc _ v (by omega))) ?_
     simp -implicitDefEqProofs (disch := omega) only [go_sem, g, i, j]
     refine Jad (n - 1) (by omega) ⟨v + 1, by omega, ?_⟩
     simp -implicitDefEqProofs (disch := omega) only [go_sem, g, i, j]
     exact ⟨rfl, by congr 1⟩
   . have e : v = m := by omega
     subst e
     rw [show (padF l).length / 64 = v from by omega]
     refine SA ?_; have w := JbW (padF l) v; generalize blkF (padF l) v = q at *
     refine Jaf (λ n E A => ∃ v : Nat, v + n = 8 /\ E 3 = UL q /\ E 6 = .own 327155808 1 0 (4 * v) /\ E 7 = I v /\ A 327155808 = some ⟨5, 1, ((outF q).take (4 * v)).map Y⟩) 8 ⟨0, by omega, ?_⟩ ?_
     . refine SA ?_
       rfl
     . clear g i j C E A G n D
       rintro n E A ⟨v, G, g, k, B, o⟩
       have h : (outF q).length = 32 := by simp [outF]
       refine SA ?_
       refine Jab (λ C => ?_) (λ C => ?_)
       . have F := JqO q v (by omega)
         have z : ((outF q).take (4 * v)).length = 4 * v := by rw [L01, h]; omega
         have y : ((outF q).take (4 * v)).take (4 * v) = (outF q).take (4 * v) := L03 (by omega)
         have u : ∀ (l : List Int) (a b c d : Int), l.map Y ++ [Y a, Y b, Y c, Y d] = (l ++ [a, b, c, d]).map Y := λ l a b c d => by simp
         simp -implicitDefEqProofs (disch := omega) only [go_sem, g, k, B, o, w, h, m24, m16, m8, z, y, u, F]
         refine Jad (n - 1) (by omega) ⟨v + 1, by omega, ?_⟩
         refine SA ?_
         exact ⟨by congr 1, by simp⟩
       . have e : v = 8 := by omega
         subst e
         rw [L03 (by omega)] at o
         refine SA ?_
         refine Jdu (outF q) (by simp -implicitDefEqProofs (disch := omega) only [go_sem, k, o, h]) (by intro b; simp -implicitDefEqProofs (disch := omega) only [go_sem, k]; intro e; cases e) (e := 5) rfl rfl rfl ?_
         exact SB
theorem Jm2 (a b : ByteArray) (g : a.size + b.size <= 99999999) : Ev prog 157 [Str a, Str b] (Str (shaF (⟨#[1]⟩ ++ (a ++ b)))) := by
 refine EV func157 ?_
 have c : (#[1] : Array UInt8).size = 1 := rfl
 refine SA ?_
 refine Jaa (Jmg ((⟨#[1]⟩ : ByteArray) ++ a ++ b) ?_) ?_
 . simp only [L0w]; show 1 + _ + _ <= _; omega
 simp -implicitDefEqProofs (disch := omega) only [go_sem, results157, L2v]
theorem JmT (a : ByteArray) (g : a.size <= 99999999) : Ev prog 156 [Str a] (Str (shaF (⟨#[0]⟩ ++ a))) := by
 refine EV func156 ?_
 have c : (#[0] : Array UInt8).size = 1 := rfl
 refine SA ?_
 refine Jaa (Jmg ((⟨#[0]⟩ : ByteArray) ++ a) ?_) ?_
 . simp only [L0w]; show 1 + _ <= _; omega
 exact SB
abbrev U64 (n : Int) : AV := .v (.int .u64 n)
def zz (n : Int) : Int := if n < 0 then -2 * n - 1 else 2 * n
def grp : Nat -> Nat -> List (Nat × Bool)
 | 0, z => [(z % 128, true)]
 | k + 1, z => if z < 128 then [(z % 128, true)] else (z % 128, false) :: grp k (z / 128)
def grpB (p : Nat × Bool) : Int := if p.2 then p.1 else p.1 + 128
def viB (n : Int) : List Int := (grp 9 (zz n).toNat).map grpB
def viS (n : Int) : ByteArray := strOfNums (viB n)
theorem Jbg (x : Int) : IntKind.u64.wrap x = x % 18446744073709551616 := by
 simp [IntKind.wrap, IntKind.bits, IntKind.signed]
theorem JjD {n : Int} (c : -4611686018427387903 <= n) (g : n <= 4611686018427387903) : 0 <= zz n /\ zz n < 9223372036854775808 := by
 unfold zz; split <;> omega
theorem Jzz {n : Int} (g : -4611686018427387903 <= n) (h : n <= 4611686018427387903) : Ja6 .xor .u64 (IntKind.u64.wrap (IntKind.u64.wrap n * 2 ^ 1)) (IntKind.u64.wrap (n.fdiv (2 ^ 63))) = zz n := by
 have i := JjD g h
 show IntKind.u64.wrap (((BitVec.ofInt 64 _ ^^^ BitVec.ofInt 64 _ : BitVec 64).toNat : Nat) : Int) = zz n
 by_cases hn : n < 0
 . have c : IntKind.u64.wrap (n.fdiv (2 ^ 63)) = 18446744073709551615 := by
    rw [Jbg, show (2 : Int) ^ 63 = 9223372036854775808 from rfl, L1D _ (by decide)]
    omega
   rw [c, show BitVec.ofInt 64 18446744073709551615 = BitVec.allOnes 64 from rfl, BitVec.xor_allOnes, BitVec.toNat_not, BitVec.toNat_ofInt, Jbg, Jbg, Jbg]
   simp only [zz, if_pos hn]
   omega
 . have c : IntKind.u64.wrap (n.fdiv (2 ^ 63)) = 0 := by
    rw [Jbg, show (2 : Int) ^ 63 = 9223372036854775808 from rfl, L1D _ (by decide)]
    omega
   rw [c, show BitVec.ofInt 64 0 = 0#64 from rfl, BitVec.xor_zero, BitVec.toNat_ofInt, Jbg, Jbg, Jbg]
   simp only [zz, if_neg hn]
   omega
theorem Jun (z : Nat) (h : z < 18446744073709551616) : Ja6 .and .u64 (z : Int) 127 = ((z % 128 : Nat) : Int) := by
 show IntKind.u64.wrap (((BitVec.ofInt 64 (z : Int) &&& BitVec.ofInt 64 127 : BitVec 64).toNat : Nat) : Int) = _
 rw [BitVec.toNat_and, show (BitVec.ofInt 64 127).toNat = 2 ^ 7 - 1 from rfl, Nat.and_two_pow_sub_one_eq_mod, BitVec.toNat_ofInt, Jbg]
 omega
theorem JyR (g : Nat) (h : g < 128) : Ja6 .or .u8 (g : Int) 128 = ((g : Int) + 128) := by
 have c : ∀ g : Fin 128, Ja6 .or .u8 ((g.1 : Nat) : Int) 128 = ((g.1 : Nat) : Int) + 128 := by decide +kernel
 exact c ⟨g, h⟩
theorem JCG (z : Nat) : ((z : Int)).fdiv (2 ^ 7) = ((z / 128 : Nat) : Int) := by
 rw [show (2 : Int) ^ 7 = 128 from rfl, L1D _ (by decide)]; omega
theorem JtY : ∀ k z, ∀ p ∈ grp k z, p.1 < 128
 | 0, z, p, h => by simp [grp] at h; rw [h]; simp; omega
 | k + 1, z, p, h => by
  unfold grp at h
  split at h
  . simp at h; rw [h]; simp; omega
  . simp at h
    rcases h with h | h
    . rw [h]; simp; omega
    . exact JtY k _ p h
theorem JfC : ∀ k z, (grp k z).length <= k + 1
 | 0, z => by simp [grp]
 | k + 1, z => by
  unfold grp
  split
  . simp
  . simp; exact JfC k _
theorem JoN (n : Int) : (viB n).length <= 10 := by unfold viB; rw [L0c]; exact JfC _ _
theorem Jay (n : Int) : (viS n).size <= 10 := by unfold viS; rw [strOfNums_size]; exact JoN n
theorem Jzy (n : Int) (i : -4611686018427387903 <= n) (j : n <= 4611686018427387903) : Ev prog 126 [I n] (U64 (zz n)) := by
 refine EV func126 ?_
 refine SA ?_
 refine Jab (λ g => ?_) (λ g => ?_)
 . have h : IntKind.i64.wrap (0 - n) = -n := by rw [JcD (by omega)]; omega
   have c : IntKind.u64.wrap (IntKind.u64.wrap (IntKind.u64.wrap (-n) * 2) - 1) = zz n := by
    simp only [Jbg, zz, if_pos g]; omega
   exact SB
 . have c : IntKind.u64.wrap (IntKind.u64.wrap n * 2) = zz n := by
    simp only [Jbg, zz, if_neg g]; omega
   exact SB
theorem JmK : ∀ k z, z < 128 ^ (k + 1) -> 128 <= z -> ∃ m, k = m + 1 /\ grp k z = (z % 128, false) :: grp m (z / 128) /\ z / 128 < 128 ^ (m + 1)
 | 0, z, h, c => by omega
 | k + 1, z, h, c => ⟨k, rfl, by rw [show grp (k + 1) z = if z < 128 then [(z % 128, true)] else (z % 128, false) :: grp k (z / 128) from rfl, if_neg (by omega)], by rw [L10] at h; omega⟩
theorem JmJ : ∀ k z, z < 128 -> grp k z = [(z % 128, true)]
 | 0, z, h => rfl
 | k + 1, z, h => by rw [show grp (k + 1) z = if z < 128 then [(z % 128, true)] else (z % 128, false) :: grp k (z / 128) from rfl, if_pos h]
set_option maxHeartbeats 1000000 in
theorem Jd9 (n : Int) (G : -4611686018427387903 <= n) (H : n <= 4611686018427387903) : Ev prog 93 [I n] (.tup [Str (viS n), I 0]) := by
 refine EV func93 ?_
 refine SA ?_
 refine Jab (λ h => absurd h (by omega)) (λ h => ?_)
 refine SA ?_
 refine Jab (λ h => absurd h (by omega)) (λ h => ?_)
 refine SA ?_
 refine Jaa (Jzy n G H) ?_
 refine SA ?_; have R := JjD G H; unfold viS viB
 obtain ⟨z, J⟩ : ∃ z : Nat, zz n = z := ⟨(zz n).toNat, by omega⟩
 rw [J, L1e]
 have o : z < 128 ^ (9 + 1) := by omega
 refine Jaf (λ k E K => ∃ (c : List Int) (y : Nat), y < 128 ^ (k + 1) /\ y < 9223372036854775808 /\ c.length + k <= 9 /\ c ++ (grp k y).map grpB = (grp 9 z).map grpB /\ E 4 = U64 y /\ E 5 = .own 197132368 1 0 c.length /\ K 197132368 = some ⟨5, 1, c.map Y⟩) 9 ⟨[], z, o, by omega, by simp, rfl, ?_⟩ ?_
 . simp -implicitDefEqProofs (disch := omega) only [go_sem, J]
 . clear o
   rintro k E K ⟨c, y, P, Q, O, g, s, i, q⟩
   refine SA ?_
   refine Jab (λ h => ?_) (λ h => ?_)
   . obtain ⟨m, rfl, N, A⟩ := JmK k y P (by omega)
     have B : ((y : Int)).tmod 128 = ((y % 128 : Nat) : Int) := by rw [L0Z (by omega)]; omega
     have C : ((y : Int)).tdiv 128 = ((y / 128 : Nat) : Int) := by rw [L1i (by omega)]; omega
     have j : IntKind.u8.wrap (IntKind.u64.wrap (((y % 128 : Nat) : Int) + 128)) = ((y % 128 : Nat) : Int) + 128 := by
      rw [Jbg]; simp only [IntKind.wrap, IntKind.bits, IntKind.signed]; simp; omega
     have D : IntKind.u64.wrap ((y % 128 : Nat) : Int) = ((y % 128 : Nat) : Int) := by rw [Jbg]; omega
     have F : IntKind.u64.wrap ((y / 128 : Nat) : Int) = ((y / 128 : Nat) : Int) := by rw [Jbg]; omega
     simp -implicitDefEqProofs (disch := omega) only [go_sem, s, i, q, B, C, j, D, F, L04]
     refine Jad m (by omega) ⟨c ++ [((y % 128 : Nat) : Int) + 128], y / 128, A, by omega, by simp; omega, ?_, ?_⟩
     . rw [<- g, N]; simp [grpB]
     . simp -implicitDefEqProofs (disch := omega) only [go_sem, s, i, q, B, C, j, D, F, L04]
   . have w : y < 128 := by omega
     rw [JmJ k y w] at g
     have j : IntKind.u8.wrap (y : Int) = ((y % 128 : Nat) : Int) := by
      simp only [IntKind.wrap, IntKind.bits, IntKind.signed]; simp; omega
     have u : c ++ [((y % 128 : Nat) : Int)] = (grp 9 z).map grpB := by rw [<- g]; simp [grpB]
     have L := congrArg List.length u
     have M : c.length + 1 = (grp 9 z).length := by simpa using L
     simp -implicitDefEqProofs (disch := omega) only [go_sem, s, i, q, j, u, L04]
     refine Jdu ((grp 9 z).map grpB) (by simp -implicitDefEqProofs (disch := omega) only [go_sem, i, q, j, u, L04]; rw [M]; simp) (by intro b; simp -implicitDefEqProofs (disch := omega) only [go_sem, i]; intro e; cases e) (e := 5) rfl rfl rfl ?_
     exact SB
abbrev YG (p : Nat × Bool) : List AV := [Y p.1, .v (.bool p.2)]
@[go_sem] theorem Jja (p : Nat -> Bool) (l : List (Nat × Bool)) : AV.namesL p ((l.map YG).map .tup) = false := by
 rw [L19]; exact Jak p l _ λ _ => rfl
theorem Jp5 (z : Int) : Ev prog 122 [U64 z] (.clo 150 [.nptr 224 1 [U64 z]]) := by
 refine EV func122 ?_
 exact SB
theorem m7 : min 7 64 = 7 := rfl
theorem m1a : min 1 64 = 1 := rfl
theorem m63 : min 63 64 = 63 := rfl
theorem Jn4 (z a : Nat) (σ : Jac) (h : z < 9223372036854775808) (g : σ a = some ⟨224, 1, [U64 z]⟩) (F : a / 16 < 131072 * (150 + 1) \/ 131072 * (150 + 1) + 100000 <= a / 16) :
 SOK prog 150 [.ptr a 1 0 0] σ ((grp 9 z).map YG) := by
 refine JkT func150 rfl (by kernel_rfl) mo (nb rfl) ?_ rfl λ l => ?_
 . exact Jja allB _
 . refine SA ?_
   have i : z < 128 ^ (9 + 1) := by omega
   refine Jaf (λ k E σ => ∃ y : Nat, y < 128 ^ (k + 1) /\ y < 9223372036854775808 /\ E 0 = .yld l /\ E 1 = .ptr a 1 0 0 /\ E 18 = .tup (((grp k y).map YG).map .tup) /\ σ a = some ⟨224, 1, [U64 y]⟩) 9 ⟨z, i, by omega, ?_⟩ ?_
   . simp -implicitDefEqProofs (disch := omega) only [go_sem, g]
   . clear g i σ
     rintro k E σ ⟨y, C, D, s, u, c, g⟩
     have j := Jun y (by omega)
     have o := JCG y
     have q : IntKind.u8.wrap ((y % 128 : Nat) : Int) = ((y % 128 : Nat) : Int) := by
      simp only [IntKind.wrap, IntKind.bits, IntKind.signed]; simp; omega
     by_cases hc : y < 128
     . rw [JmJ k y hc] at c
       have w : decide ((y : Int) < 128) = true := decide_eq_true (by omega)
       refine SA ?_
       exact ⟨.inl trivial, .inr trivial⟩
     . obtain ⟨m, rfl, B, A⟩ := JmK k y C (by omega)
       rw [B] at c
       have w : decide ((y : Int) < 128) = false := decide_eq_false (by omega)
       refine SA ?_
       refine ⟨Jad m (by omega) ⟨y / 128, A, by omega, ?_⟩, .inr trivial⟩
       simp -implicitDefEqProofs (disch := omega) only [go_sem, s, u, c, g, j, o, q, m7]
set_option maxHeartbeats 1000000 in
theorem Jc2 (n : Int) (F : -4611686018427387903 <= n) (G : n <= 4611686018427387903) : Ev prog 79 [I n] (.tup [Str (viS n), I 0]) := by
 refine EV func79 ?_
 refine SD ?_
 refine Jab (λ q => absurd q (by omega)) (λ q => ?_)
 refine SD ?_
 refine Jab (λ q => absurd q (by omega)) (λ q => ?_)
 have O := JjD F G; have E := Jzz F G
 obtain ⟨z, M⟩ : ∃ z : Nat, zz n = z := ⟨(zz n).toNat, by omega⟩
 rw [M] at E; simp -implicitDefEqProofs (disch := omega) only [go_sem, E, m1a, m63]
 refine Jaa (Jp5 z) ?_
 refine SD ?_
 refine JbG ?_
 have C : (zz n).toNat = z := by omega
 unfold viS viB; rw [C]
 refine JcN [167772480] [167772224] 10485860 ((grp 9 z).map YG) (λ N J => ∃ (d r : List (Nat × Bool)), grp 9 z = d ++ r /\ N = r.map YG /\ J 167772224 = some ⟨69, 1, [.own 167772225 1 0 d.length]⟩ /\ J 167772225 = some ⟨5, 1, (d.map grpB).map Y⟩)
  (g := 150) (caps := [.ptr 167772480 1 0 0]) ?_ ?_ ?_ ?_ ?_ ?_ ?_ ?_
 . exact SC
 . refine Jn4 z _ _ (by omega) ?_ (by decide)
   exact SC
 . intro x L
   obtain ⟨y, _, rfl⟩ := L05.1 L
   rfl
 . exact SC
 . exact SC
 . refine ⟨[], _, rfl, rfl, ?_⟩
   exact SC
 . rintro A o y H D ⟨d, r, c, j, s, k⟩
   have m : A 4 = .ptr 167772224 1 0 0 := by rw [o]; exact SC
   clear o
   cases r with
   | nil => cases j
   | cons g r =>
    simp only [L0l, List.cons.injEq] at j; obtain ⟨rfl, rfl⟩ := j
    have K := JtY 9 z g (by rw [c]; simp)
    have w := JyR g.1 K
    have u : d.length <= 10 := by have := congrArg List.length c; have := JfC 9 z; simp at *; omega
    have h : (d.map grpB).take d.length = d.map grpB := L03 (by simp)
    simp -implicitDefEqProofs (disch := omega) only [go_sem, m, s, k]
    refine Jab (λ q => ?_) (λ q => ?_)
    . have i : d.map grpB ++ [(g.1 : Int) + 128] = (d ++ [g]).map grpB := by simp [grpB, q]
      simp -implicitDefEqProofs (disch := omega) only [go_sem, m, s, k, w, h, i]
      refine ⟨inL [], λ _ _ => rfl, d ++ [g], r, by rw [c]; simp, rfl, ?_⟩
      simp -implicitDefEqProofs (disch := omega) only [go_sem, m, s, k, w, h, i]
    . have i : d.map grpB ++ [(g.1 : Int)] = (d ++ [g]).map grpB := by simp [grpB, q]
      simp -implicitDefEqProofs (disch := omega) only [go_sem, m, s, k, w, h, i]
      refine ⟨inL [], λ _ _ => rfl, d ++ [g], r, by rw [c]; simp, rfl, ?_⟩
      simp -implicitDefEqProofs (disch := omega) only [go_sem, m, s, k, w, h, i]
 . rintro A o D ⟨d, r, c, j, s, k⟩
   have m : A 4 = .ptr 167772224 1 0 0 := by rw [o]; exact SC
   have B : r = [] := by cases r with | nil => rfl | cons a b => cases j
   subst B; rw [L0F] at c
   have h : ((grp 9 z).map grpB).take d.length = (grp 9 z).map grpB := L03 (by rw [c]; simp)
   rw [<- c] at k
   have u : d.length = (grp 9 z).length := by rw [c]
   refine SA ?_
   refine Jdu ((grp 9 z).map grpB) (by simp -implicitDefEqProofs (disch := omega) only [go_sem, m, s, k, h, u]) (by intro b; simp -implicitDefEqProofs (disch := omega) only [go_sem, m, s, k]; try (intro e; cases e)) (e := 5) rfl rfl rfl ?_
   exact SB
structure Rt where
 d : Int
 f : Int
 t : Int
 p : Int
 deriving DecidableEq
instance : Inhabited Rt := ⟨⟨0, 0, 0, 0⟩⟩
abbrev TP (r : Rt) : AV := .agg [I r.d, I r.f, I r.t, I r.p]
abbrev TS (l : List Rt) : AV := .sl 4 (l.map TP)
structure Tf where
 l : List Rt
 b : Int
abbrev TF (x : Tf) : AV := .agg [TS x.l, I x.b]
section
variable (p : Nat -> Bool) (l : List Rt)
@[go_sem] theorem JqB : AV.namesL p (l.map TP) = false := Jak p l TP λ _ => rfl
@[go_sem] theorem Jsr : AV.flatL (l.map TP) = true := JaP l TP λ _ => rfl
@[go_sem] theorem JzH : Jbv 4 (l.map TP) = true := Jaw 4 l TP λ _ => ⟨rfl, rfl⟩
@[go_sem] theorem Jpe (a b c d : Int) : l.map TP ++ [.agg [.v (.int .i64 a), .v (.int .i64 b), .v (.int .i64 c), .v (.int .i64 d)]] = (l ++ [(⟨a, b, c, d⟩ : Rt)]).map TP := by simp
end
theorem Jdk (n a b : Int) : Ev prog 110 [I n, I a, I b] (B (decide (a <= n /\ n <= b))) := by
 refine EV func110 ?_
 refine SA ?_
 refine Jab (λ c => ?_) (λ c => ?_)
 . exact SB
   try simp [c]
 . exact SB
   try simp [c]
def Jbw (z : Int) : Bool := decide (-50400 <= z /\ z <= 50400)
theorem Jqh (z : Int) : Ev prog 146 [I z] (B (Jbw z)) := by
 refine EV func146 ?_
 refine SA ?_
 refine Jaa (Jdk z (-50400) 50400) ?_
 refine SA ?_; try rfl
def Jda (f t : Int) : Bool := decide (0 <= f /\ f <= t /\ t <= 10000000)
theorem Jn5 (f t : Int) : Ev prog 147 [.agg [I f, I t]] (B (Jda f t)) := by
 refine EV func147 ?_
 refine SA ?_
 refine Jab (λ c => ?_) (λ c => ?_)
 . refine SA ?_
   refine Jaa (Jdk t f 10000000) ?_
   refine SA ?_
   try simp [Jda, c]
 . refine SA ?_
   try simp [Jda, c]
def Jkh (r : Rt) : Bool := decide (1 <= r.d /\ r.d <= 127 /\ 0 <= r.f /\ r.f < r.t /\ r.t <= 86400 /\ 0 <= r.p /\ r.p <= 1000000)
theorem Jbm {r : Rt} : Jkh r = true ↔ 1 <= r.d /\ r.d <= 127 /\ 0 <= r.f /\ r.f < r.t /\ r.t <= 86400 /\ 0 <= r.p /\ r.p <= 1000000 := decide_eq_true_iff
theorem Jsw (r : Rt) (h : Jkh r = true) : Ev prog 109 [TP r] (B false) := by
 obtain ⟨c, g, m, o, i, j, k⟩ := Jbm.1 h
 refine EV func109 ?_
 refine SA ?_
 refine Jaa (Jdk r.d 1 127) ?_
 rw [decide_eq_true ⟨c, g⟩]; refine SA ?_
 refine Jam (by omega) ?_
 refine SA ?_
 refine Jaa (Jdk r.t (r.f + 1) 86400) ?_
 rw [decide_eq_true ⟨by omega, i⟩]
 refine SA ?_
 refine Jam (by omega) ?_
 refine SA ?_
 refine Jaa (Jdk r.p 0 1000000) ?_
 rw [decide_eq_true ⟨j, k⟩]; exact SB
def idxT (Q : Rt -> Bool) : List Rt -> Nat -> Int
 | [], _ => -1
 | r :: l, v => if Q r = true then v else idxT Q l (v + 1)
theorem JaD {T : Type} [Inhabited T] (l : List T) (i : Nat) (h : i < l.length) : l.drop i = gd l i :: l.drop (i + 1) := by
 rw [show gd l i = l[i] by unfold gd; simp [h], L23 h]
theorem Jp9 (g : FuncId) (caps : List AV) (Q : Rt -> Bool) (l : List Rt) (A : ∀ r ∈ l, Ev prog g ([TP r] ++ caps) (B (Q r))) (q : ∀ p, AV.namesL p caps = false) (u : ∀ σ, caps.map (res σ) = caps) (F : l.length <= 1000000) (w : JaM caps = true := by rfl) : Ev prog 141 [TS l, .clo g caps] (I (idxT Q l 0)) := by
 refine EV func141 ?_
 refine SD ?_
 refine Jaf (λ k E σ => ∃ i : Nat, i + k = l.length /\ idxT Q l 0 = idxT Q (l.drop i) i /\ E 0 = TS l /\ E 1 = .clo g caps /\ E 7 = I l.length /\ E 8 = I i) l.length ⟨0, by omega, rfl, ?_⟩ ?_
 . simp -implicitDefEqProofs (disch := omega) only [go_sem, q]
   rfl
 rintro k E σ ⟨i, D, s, c, h, j, m⟩
 simp -implicitDefEqProofs (disch := omega) only [go_sem, c, h, j, m]
 refine Jab (λ z => ?_) (λ z => ?_)
 . have y : i < l.length := by omega
   rw [JaD l i y, idxT] at s; have C := A (gd l i) (Jaj l i y); simp -implicitDefEqProofs (disch := omega) only [go_sem, c, h, j, m, q, u, w, L1c]
   refine Jaa C ?_
   simp -implicitDefEqProofs (disch := omega) only [go_sem, c, h, j, m]
   refine Jab (λ o => ?_) (λ o => ?_)
   . have o : Q (gd l i) = true := by simpa using o
     rw [if_pos o] at s; simp -implicitDefEqProofs (disch := omega) only [go_sem, c, h, j, m, s, results141]
   . have o : ¬ Q (gd l i) = true := by simpa using o
     rw [if_neg o] at s; simp -implicitDefEqProofs (disch := omega) only [go_sem, c, h, j, m]
     refine Jad (l.length - (i + 1)) (by omega) ⟨i + 1, by omega, s, ?_⟩
     simp -implicitDefEqProofs (disch := omega) only [go_sem, c, h, j, m, q]
     rfl
 . obtain rfl : i = l.length := by omega
   rw [L0H, idxT] at s; simp -implicitDefEqProofs (disch := omega) only [go_sem, c, h, j, m, s, results141]
end Go.Proofs.YtlecbpkidomjbaaGreatDoor
namespace Go.Proofs
open Go.Shelf
def Tryz.lays189_ren : Go.Shelf.Ren := ⟨fun | 189 => 192 | 125 => 189 | 257 => 209 | 128 => 205 | 129 => 206 | 294 => 213 | 295 => 214 | 296 => 215 | 297 => 216 | 298 => 217 | 299 => 218 | 216 => 194 | 300 => 219 | 301 => 220 | 328 => 221 | 329 => 222 | 330 => 223 | 331 => 224 | 332 => 225 | 215 => 210 | 343 => 226 | n => n, fun | 28 => 25 | 3 => 3 | 46 => 225 | 0 => 0 | 51 => 280 | 53 => 224 | 4 => 4 | 183 => 319 | 182 => 318 | 131 => 213 | 5 => 5 | 9 => 9 | 218 => 324 | 222 => 328 | 228 => 330 | 229 => 264 | n => n, fun | n => n⟩
theorem Tryz.lays189 : Go.Proofs.Lays.n189 prog Tryz.lays189_ren := {
 mixed := by kernel_rfl
 f125 := func189.trans (congrArg some (by kernel_rfl))
 f128 := func205.trans (congrArg some (by kernel_rfl))
 f129 := func206.trans (congrArg some (by kernel_rfl))
 f189 := func192.trans (congrArg some (by kernel_rfl))
 f215 := func210.trans (congrArg some (by kernel_rfl))
 f216 := func194.trans (congrArg some (by kernel_rfl))
 f257 := func209.trans (congrArg some (by kernel_rfl))
 f294 := func213.trans (congrArg some (by kernel_rfl))
 f295 := func214.trans (congrArg some (by kernel_rfl))
 f296 := func215.trans (congrArg some (by kernel_rfl))
 f297 := func216.trans (congrArg some (by kernel_rfl))
 f298 := func217.trans (congrArg some (by kernel_rfl))
 f299 := func218.trans (congrArg some (by kernel_rfl))
 f300 := func219.trans (congrArg some (by kernel_rfl))
 f301 := func220.trans (congrArg some (by kernel_rfl))
 f328 := func221.trans (congrArg some (by kernel_rfl))
 f329 := func222.trans (congrArg some (by kernel_rfl))
 f330 := func223.trans (congrArg some (by kernel_rfl))
 f331 := func224.trans (congrArg some (by kernel_rfl))
 f332 := func225.trans (congrArg some (by kernel_rfl))
 f343 := func226.trans (congrArg some (by kernel_rfl))
 t0 := Tryz.underlying0
 a0 := Tryz.isAgg0
 z0 := Tryz.sizeOf0
 v0 := Tryz.zeroValue0
 t3 := Tryz.underlying3
 a3 := Tryz.isAgg3
 z3 := Tryz.sizeOf3
 v3 := Tryz.zeroValue3
 t4 := Tryz.underlying4
 a4 := Tryz.isAgg4
 z4 := Tryz.sizeOf4
 v4 := Tryz.zeroValue4
 t5 := Tryz.underlying5
 a5 := Tryz.isAgg5
 z5 := Tryz.sizeOf5
 v5 := Tryz.zeroValue5
 t9 := Tryz.underlying9
 a9 := Tryz.isAgg9
 z9 := Tryz.sizeOf9
 v9 := Tryz.zeroValue9
 t28 := Tryz.underlying25
 a28 := Tryz.isAgg25
 z28 := Tryz.sizeOf25
 v28 := Tryz.zeroValue25
 t46 := Tryz.underlying225
 a46 := Tryz.isAgg225
 z46 := Tryz.sizeOf225
 v46 := Tryz.zeroValue225
 t51 := Tryz.underlying280
 a51 := Tryz.isAgg280
 z51 := Tryz.sizeOf280
 v51 := Tryz.zeroValue280
 t53 := Tryz.underlying224
 a53 := Tryz.isAgg224
 z53 := Tryz.sizeOf224
 v53 := Tryz.zeroValue224
 t131 := Tryz.underlying213
 a131 := Tryz.isAgg213
 z131 := Tryz.sizeOf213
 v131 := Tryz.zeroValue213
 t182 := Tryz.underlying318
 a182 := Tryz.isAgg318
 z182 := Tryz.sizeOf318
 v182 := Tryz.zeroValue318
 t183 := Tryz.underlying319
 a183 := Tryz.isAgg319
 z183 := Tryz.sizeOf319
 v183 := Tryz.zeroValue319
 t218 := Tryz.underlying324
 a218 := Tryz.isAgg324
 z218 := Tryz.sizeOf324
 v218 := Tryz.zeroValue324
 t222 := Tryz.underlying328
 a222 := Tryz.isAgg328
 z222 := Tryz.sizeOf328
 v222 := Tryz.zeroValue328
 t228 := Tryz.underlying330
 a228 := Tryz.isAgg330
 z228 := Tryz.sizeOf330
 v228 := Tryz.zeroValue330
 t229 := Tryz.underlying264
 a229 := Tryz.isAgg264
 z229 := Tryz.sizeOf264
 v229 := Tryz.zeroValue264 }
open Go.Sort Go.RowKit in
theorem Tryz.slices_Sort_int (c g cap : Nat) (i : List Int) (w : World) (k : Holds (Value.int .i64) w c g i.toArray) (h : c < w.heap.size) (j : i.length < 4611686018427387904) :
 Calls prog 192 #[.slice (some ⟨c, g, none⟩) i.length cap] w λ e w' =>
  e = .returned (.tuple #[]) /\ ∃ n os, w' = grow (putRow (Value.int .i64) (Sort.ahead w n) c g (i.mergeSort λ x y => decide (x <= y)).toArray) os := Any.slices_Sort_int Tryz.lays189 c g cap i w k h j
def Tryz.laysNm220_ren : Go.Shelf.Ren := ⟨fun | 20 => 193 | n => n, fun | 22 => 25 | 3 => 3 | 4 => 4 | 0 => 0 | n => n, fun | n => n⟩
theorem Tryz.laysNm220 : Go.Proofs.Lays2.n20 prog Tryz.laysNm220_ren := {
 mixed := by kernel_rfl
 f20 := func193.trans (congrArg some (by kernel_rfl))
 t0 := Tryz.underlying0
 a0 := Tryz.isAgg0
 z0 := Tryz.sizeOf0
 v0 := Tryz.zeroValue0
 t3 := Tryz.underlying3
 a3 := Tryz.isAgg3
 z3 := Tryz.sizeOf3
 v3 := Tryz.zeroValue3
 t4 := Tryz.underlying4
 a4 := Tryz.isAgg4
 z4 := Tryz.sizeOf4
 v4 := Tryz.zeroValue4
 t22 := Tryz.underlying25
 a22 := Tryz.isAgg25
 z22 := Tryz.sizeOf25
 v22 := Tryz.zeroValue25
 i3 := by kernel_rfl }
open Go.RowKit Go.Lib Go.Sort in
theorem Tryz.slices_Compact_int (c g cap : Nat) (h : List Int) (w : World) (k : Holds (Value.int .i64) w c g h.toArray) (j : h.length <= 9223372036854775807) (i : h.length <= cap) :
 Calls prog 193 #[.slice (some ⟨c, g, none⟩) h.length cap] w λ e w' => e = .returned (.slice (some ⟨c, g, none⟩) (Lib.compact h).length cap) /\ ∃ q, w' = putRow (Value.int .i64) (Sort.ahead w q) c g (Lib.compact h ++ List.replicate (h.length - (Lib.compact h).length) 0).toArray := Any.slices_Compact_int Tryz.laysNm220 c g cap h w k j i
end Go.Proofs
namespace Go.Proofs.YtlecbpkidomjbaaGreatDoor
open Go.Proofs.Tryz
open Go.Vai Go Go.Proofs
theorem JCH : Jxf prog 192 := λ g j h m w k c i => Tryz.slices_Sort_int g j h m w k c i
theorem JBq : Jxb prog 193 Lib.compact := λ g j h m w k i c => Tryz.slices_Compact_int g j h m w k i c
theorem JnS {l : List Int} (h : l.Pairwise (· <= ·)) : (Lib.compact l).Pairwise (· <= ·) := by
 unfold Lib.compact Lib.compactUpTo
 refine List.pairwise_map.2 ?_
 refine List.Pairwise.filter _ ?_
 refine List.Pairwise.imp_of_mem (R := (· < ·)) (λ {a b} i c g => ?_) List.pairwise_lt_range
 have c : b < l.length := by simpa using c
 have := List.pairwise_iff_getElem.1 h a b (by omega) c g
 simp [show a < l.length by omega, c]
 exact this
theorem Jlr (l : List Int) (x : Int) : x ∈ Lib.compact l ↔ x ∈ l := by
 unfold Lib.compact Lib.compactUpTo; simp only [L05, L2i, L1a]
 constructor
 . rintro ⟨i, ⟨c, _⟩, rfl⟩
   simp [c]
 . intro g
   obtain ⟨i, c, rfl⟩ := List.getElem_of_mem g
   clear g
   induction i with
   | zero => exact ⟨0, ⟨c, by simp [Lib.keeps]⟩, by simp [c]⟩
   | succ i j =>
    by_cases h : l[i + 1] = l[i]
    . rw [h]; exact j (by omega)
    . refine ⟨i + 1, ⟨c, ?_⟩, by simp [c]⟩
      simp [Lib.keeps, c, show i < l.length by omega, h]
def loF : List Int -> Int -> Nat
 | [], _ => 0
 | y :: l, v => if y < v then loF l v + 1 else 0
theorem Jt3 : ∀ (l : List Int) (v : Int), loF l v <= l.length
 | [], _ => L09 _
 | y :: l, v => by
  rw [loF]; split
  . have := Jt3 l v; simp; omega
  . simp
theorem Jib : ∀ (l : List Int) (v : Int) (i : Nat), i < loF l v -> gd l i < v
 | [], _, _, h => by simp [loF] at h
 | y :: l, v, i, h => by
  rw [loF] at h
  split at h
  . cases i with
    | zero => rw [JaL]; assumption
    | succ i => rw [Jas]; exact Jib l v i (by omega)
  . omega
theorem Jm0 : ∀ (l : List Int) (v : Int) (i : Nat), l.Pairwise (· <= ·) -> loF l v <= i -> i < l.length -> v <= gd l i
 | [], _, _, _, _, h => by simp at h
 | y :: l, v, i, c, h, g => by
  rw [loF] at h; have c := L1x.1 c
  split at h
  . cases i with
    | zero => omega
    | succ i => rw [Jas]; exact Jm0 l v i c.2 (by omega) (by simpa using g)
  . cases i with
    | zero => rw [JaL]; omega
    | succ i =>
     rw [Jas]
     have := c.1 (gd l i) (Jaj l i (by simpa using g))
     omega
def JhR (l : List Int) (v : Int) : Int := if loF l v < l.length then gd l (loF l v) else 86400
theorem JsM (l : List Int) (v : Int) (c : l.Pairwise (· <= ·)) (g : v <= 86400) : v <= JhR l v := by
 unfold JhR; split
 . exact Jm0 l v _ c (L09 _) (by assumption)
 . exact g
theorem JsN (l : List Int) (v : Int) (c : ∀ y ∈ l, y <= 86400) : JhR l v <= 86400 := by
 unfold JhR; split
 . exact c _ (Jaj l _ (by assumption))
 . exact L1M _
theorem JsO (l : List Int) (v : Int) (o : l.Pairwise (· <= ·)) (y : Int) (q : y ∈ l) (h : v <= y) : JhR l v <= y := by
 obtain ⟨i, m, rfl⟩ := List.getElem_of_mem q
 have k : gd l i = l[i] := by unfold gd; simp [m]
 have j : loF l v <= i := by
  refine Decidable.byContradiction λ s => ?_
  have := Jib l v i (by omega)
  rw [k] at this; omega
 unfold JhR
 rw [if_pos (by omega)]
 rcases Nat.lt_or_eq_of_le j with c | c
 . have := List.pairwise_iff_getElem.1 o (loF l v) i (by omega) m c
   have g : gd l (loF l v) = l[loF l v] := by unfold gd; simp [show loF l v < l.length by omega]
   rw [g]; exact this
 . rw [c, k]; exact L1M _
def hitR (s : Int) (r : Rt) : Bool := decide (r.d / 2 ^ (s / 86400).toNat % 2 = 1 /\ r.f <= s % 86400 /\ s % 86400 < r.t)
def JcT (x : Tf) (s : Int) : Int := match x.l.find? (hitR s) with | some r => r.p | none => x.b
def JaT (x : Tf) : Bool := decide (0 <= x.b /\ x.b <= 1000000 /\ x.l.length <= 10) && x.l.all Jkh
theorem Ja9 {x : Tf} : JaT x = true ↔ (0 <= x.b /\ x.b <= 1000000 /\ x.l.length <= 10) /\ ∀ r ∈ x.l, Jkh r = true := by
 unfold JaT; rw [L00, decide_eq_true_iff, L0f]
theorem Jjh {x : Tf} (h : JaT x = true) (s : Int) : 0 <= JcT x s /\ JcT x s <= 1000000 := by
 obtain ⟨c, g⟩ := Ja9.1 h
 unfold JcT
 split
 . rename_i r i
   have := Jbm.1 (g r (List.mem_of_find?_eq_some i))
   exact this.2.2.2.2.2
 . exact ⟨c.1, c.2.1⟩
def rawF (x : Tf) : List Int := 0 :: x.l.flatMap λ r => [r.f, r.t % 86400]
def chgF (x : Tf) : List Int := Lib.compact (JdB (rawF x))
theorem Jln (x : Tf) : (chgF x).Pairwise (· <= ·) := by
 refine JnS ?_
 have := List.pairwise_mergeSort (le := λ (x y : Int) => decide (x <= y)) (λ a b c g i => by simp at *; omega) (λ a b => by simp; omega) (rawF x)
 exact this.imp λ h => by simpa using h
theorem Jmv (x : Tf) (y : Int) : y ∈ chgF x ↔ y ∈ rawF x := by
 unfold chgF; rw [Jlr, Jrp]
theorem JuF {x : Tf} (h : JaT x = true) (y : Int) (hy : y ∈ chgF x) : 0 <= y /\ y < 86400 := by
 rw [Jmv] at hy; unfold rawF at hy
 rcases L0q.1 hy with rfl | hy
 . omega
 . obtain ⟨r, hr, hy⟩ := List.mem_flatMap.1 hy
   have := Jbm.1 ((Ja9.1 h).2 r hr)
   simp only [L0q, List.mem_nil_iff, or_false] at hy
   omega
def endF (x : Tf) (u : Int) : Int := JhR (chgF x) (u + 1)
theorem JiO {x : Tf} (h : JaT x = true) {u : Int} (g : 0 <= u) (i : u < 86400) : u < endF x u /\ endF x u <= 86400 := by
 refine ⟨?_, JsN _ _ λ y c => by have := JuF h y c; omega⟩
 have := JsM (chgF x) (u + 1) (Jln x) (by omega)
 unfold endF; omega
theorem Jos {x : Tf} (h : JaT x = true) {s : Int} (D : 0 <= s) {i : Int} (hi : 0 <= i) (w : s % 86400 + i < endF x (s % 86400)) : JcT x (s + i) = JcT x s := by
 have E := JiO h (u := s % 86400) (by omega) (by omega)
 have m : (s + i) / 86400 = s / 86400 := by omega
 have z : (s + i) % 86400 = s % 86400 + i := by omega
 have c : ∀ y ∈ rawF x, ¬ (s % 86400 < y /\ y < endF x (s % 86400)) := λ y A q => by
  have := JsO (chgF x) (s % 86400 + 1) (Jln x) y ((Jmv x y).2 A) (by omega)
  unfold endF at q; omega
 have g : ∀ r ∈ x.l, hitR (s + i) r = hitR s r := λ r j => by
  have F := Jbm.1 ((Ja9.1 h).2 r j)
  have G := c r.f (by unfold rawF; exact L1z _ (List.mem_flatMap.2 ⟨r, j, by simp⟩))
  have H := c (r.t % 86400) (by unfold rawF; exact L1z _ (List.mem_flatMap.2 ⟨r, j, by simp⟩))
  unfold hitR; rw [m, z]
  apply decide_eq_decide.2
  refine and_congr Iff.rfl ?_
  omega
 have o : x.l.find? (hitR (s + i)) = x.l.find? (hitR s) := by
  generalize x.l = l at g
  induction l with
  | nil => rfl
  | cons r l B =>
   rw [L2e, L2e, g r (by simp), B λ C k => g C (by simp [k])]
 unfold JcT; rw [o]
def psum (g : Int -> Int) (a : Int) : Nat -> Int
 | 0 => 0
 | n + 1 => psum g a n + g (a + n)
theorem Jjg (g : Int -> Int) (a : Int) (m : Nat) : ∀ n : Nat, psum g a (m + n) = psum g a m + psum g (a + m) n
 | 0 => by simp [psum]
 | n + 1 => by
  rw [<- L0K, psum, psum, Jjg g a m n, show a + ((m + n : Nat) : Int) = a + m + n by omega]
  omega
theorem JfX {g : Int -> Int} {a c : Int} : ∀ {n : Nat}, (∀ i : Nat, i < n -> g (a + i) = c) -> psum g a n = c * n
 | 0, _ => by simp [psum]
 | n + 1, h => by
  rw [psum, JfX λ i j => h i (by omega), h n (by omega), show ((n + 1 : Nat) : Int) = n + 1 from rfl, L1Z, Int.mul_one]
theorem Jin {g : Int -> Int} {a b : Int} : ∀ {n : Nat}, (∀ i : Nat, i < n -> g (a + i) = g (b + i)) -> psum g a n = psum g b n
 | 0, _ => rfl
 | n + 1, h => by rw [psum, psum, Jin λ i c => h i (by omega), h n (by omega)]
theorem JqV {g : Int -> Int} {a : Int} {c : Int} (h : ∀ t, 0 <= g t /\ g t <= c) : ∀ n : Nat, 0 <= psum g a n /\ psum g a n <= c * n
 | 0 => by simp [psum]
 | n + 1 => by
  have := JqV (a := a) h n
  have i := h (a + n)
  rw [psum, show ((n + 1 : Nat) : Int) = n + 1 from rfl, L1Z, Int.mul_one]
  omega
theorem JhF {g : Int -> Int} {k : Nat} (c : ∀ t, 0 <= t -> g (t + k) = g t) {a : Int} (h : 0 <= a) : ∀ n : Nat, g (a + ((n * k : Nat) : Int)) = g a
 | 0 => by simp
 | n + 1 => by
  rw [<- JhF c h n, <- c (a + ((n * k : Nat) : Int)) (by omega)]
  congr 1
  rw [L13]; omega
theorem Jio {g : Int -> Int} {k : Nat} (c : ∀ t, 0 <= t -> g (t + k) = g t) {a : Int} (h : 0 <= a) : ∀ n : Nat, psum g a (n * k) = n * psum g a k
 | 0 => by simp [psum]
 | n + 1 => by
  rw [L13, Jjg, Jio c h n]
  have : psum g (a + ((n * k : Nat) : Int)) k = psum g a k := by
   refine Jin λ i _ => ?_
   have := JhF c (a := a + i) (by omega) n
   rw [<- this]
   congr 1
   omega
  rw [this, show ((n + 1 : Nat) : Int) = n + 1 from rfl, Int.add_mul, Int.one_mul]
def locF (z t : Int) : Int := (t + z + 604800) % 604800
def Jgj (x : Tf) (z t : Int) : Int := JcT x (locF z t)
def sumF (x : Tf) (z a b : Int) : Int := psum (Jgj x z) a (b - a).toNat
theorem JbU {z : Int} : Jbw z = true ↔ -50400 <= z /\ z <= 50400 := decide_eq_true_iff
theorem Js7 {x : Tf} (h : JaT x = true) (z t : Int) : 0 <= Jgj x z t /\ Jgj x z t <= 1000000 := Jjh h _
theorem Joq (x : Tf) (z t : Int) : Jgj x z (t + (604800 : Nat)) = Jgj x z t := by
 unfold Jgj locF
 congr 1
 omega
theorem JqR {x : Tf} (h : JaT x = true) {z a b : Int} (y : Jbw z = true) (o : 0 <= a) (j : a <= b) (q : b <= a + endF x (locF z a % 86400) - locF z a % 86400) : sumF x z a b = JcT x (locF z a) * (b - a) := by
 have k : 0 <= locF z a := by unfold locF; omega
 have m : locF z a < 604800 := by unfold locF; omega
 have s := JiO h (u := locF z a % 86400) (by omega) (by omega)
 unfold sumF
 rw [JfX (c := JcT x (locF z a)) λ i w => ?_, L22 (by omega)]
 have g : locF z (a + i) = locF z a + i := by
  unfold locF at *; omega
 unfold Jgj; rw [g]
 exact Jos h k (by omega) (by omega)
theorem Jfm (x : Tf) (z : Int) {a b c : Int} (g : a <= b) (h : b <= c) : sumF x z a c = sumF x z a b + sumF x z b c := by
 unfold sumF
 rw [show (c - a).toNat = (b - a).toNat + (c - b).toNat by omega, Jjg, L22 (by omega), show a + (b - a) = b by omega]
theorem JcC {x : Tf} (h : JaT x = true) (z a b : Int) (c : a <= b) : 0 <= sumF x z a b /\ sumF x z a b <= 1000000 * (b - a) := by
 have := JqV (a := a) (Js7 h z) (b - a).toNat
 rw [L22 (by omega)] at this
 exact this
theorem JoL (x : Tf) (z : Int) {a b : Int} (c : 0 <= a) (g : a <= b) : sumF x z a b = sumF x z (a + (b - a) / 604800 * 604800) b + (b - a) / 604800 * sumF x z a (a + 604800) := by
 rw [Jfm x z (a := a) (b := a + (b - a) / 604800 * 604800) (by omega) (by omega), Int.add_comm]
 congr 1
 obtain ⟨n, h⟩ : ∃ n : Nat, (b - a) / 604800 = n := ⟨((b - a) / 604800).toNat, by omega⟩
 rw [h]; unfold sumF
 rw [show (a + (n : Int) * 604800 - a).toNat = n * 604800 by omega, show (a + 604800 - a).toNat = 604800 by omega]
 exact Jio (λ t _ => Joq x z t) c n
def pcsF (x : Tf) (z b : Int) : Nat -> Int -> List (Int × Int × Int)
 | 0, _ => []
 | k + 1, a => if a < b then (a, min (a + endF x (locF z a % 86400) - locF z a % 86400) b, JcT x (locF z a)) :: pcsF x z b k (min (a + endF x (locF z a % 86400) - locF z a % 86400) b) else []
theorem JsL (z t : Int) (h : Jbw z = true) (g : 0 <= t /\ t <= 100000000) : Ev prog 175 [I z, I t] (I (locF z t)) := by
 have i := JbU.1 h
 have c : (t + z + 604800).tmod 604800 = locF z t := by rw [L0Z (by omega)]; rfl
 refine EV func175 ?_
 exact SB
theorem JuA (v : Int) (c : 0 <= v) (g : v <= 127) : Ja6 .and .i64 v 1 = v % 2 := by
 obtain ⟨n, rfl⟩ : ∃ n : Nat, v = n := ⟨v.toNat, by omega⟩
 have : ∀ m : Fin 128, Ja6 .and .i64 ((m : Nat) : Int) 1 = ((m : Nat) : Int) % 2 := by decide +kernel
 exact this ⟨n, by omega⟩
theorem JqX (r : Rt) (s : Int) (m : Jkh r = true) (i : 0 <= s) (o : s < 604800) : Ev prog 196 [TP r, .pt (I s) 0] (B (hitR s r)) := by
 have k := Jbm.1 m
 have g : s.tdiv 86400 = s / 86400 := L1i i
 have h : s.tmod 86400 = s % 86400 := L0Z i
 have j : Ja6 .and .i64 (r.d.fdiv (2 ^ min (s / 86400).toNat 64)) 1 = r.d / 2 ^ (s / 86400).toNat % 2 := by
  rw [L0N (by omega), L1D _ (Int.le_of_lt (Int.pow_pos (by omega)))]
  refine JuA _ (L1j (by omega) (Int.le_of_lt (Int.pow_pos (by omega)))) ?_
  exact Int.le_trans (L2d _ (by omega)) k.2.1
 refine EV func196 ?_
 refine SA ?_; unfold hitR; generalize r.d / 2 ^ (s / 86400).toNat % 2 = q
 refine Jab (λ c => ?_) (λ c => ?_)
 . refine SA ?_
   refine Jaa (Jdk (s % 86400) r.f (r.t - 1)) ?_
   refine SA ?_
   congr 2
   apply decide_eq_decide.2
   omega
 . exact SB
theorem JmE (Q : Rt -> Bool) : ∀ (l : List Rt) (v : Nat), (idxT Q l v = -1 /\ l.find? Q = none) \/ ∃ i : Nat, i < l.length /\ idxT Q l v = ((v + i : Nat) : Int) /\ l.find? Q = some (gd l i)
 | [], _ => .inl ⟨rfl, rfl⟩
 | r :: l, v => by
  rw [idxT, L2e]
  by_cases h : Q r = true
  . rw [if_pos h, h]; exact .inr ⟨0, by simp, rfl, by rw [JaL]⟩
  . rw [if_neg h, show Q r = false by simpa using h]
    rcases JmE Q l (v + 1) with ⟨c, g⟩ | ⟨i, c, g, j⟩
    . exact .inl ⟨c, g⟩
    . exact .inr ⟨i + 1, by simpa using c, by rw [g]; congr 1; omega, by rw [Jas]; exact j⟩
theorem Jtb (x : Tf) (s : Int) (h : JaT x = true) (k : 0 <= s) (m : s < 604800) : Ev prog 177 [TF x, I s] (I (JcT x s)) := by
 obtain ⟨w, q⟩ := Ja9.1 h
 refine EV func177 ?_
 refine SA ?_
 refine Jan rfl ?_
 refine JcZ [373293104] ?_
 refine SA ?_
 refine Jaa (Jp9 196 [.pt (I s) 0] (hitR s) x.l (λ r u => JqX r s (q r u) k m) (λ _ => rfl) (λ _ => rfl) (by omega)) ?_
 have g : JcT x s = match x.l.find? (hitR s) with | some r => r.p | none => x.b := rfl
 rcases JmE (hitR s) x.l 0 with ⟨j, c⟩ | ⟨i, j, c, o⟩
 . rw [c] at g; exact SB
 . rw [o] at g; rw [L0p] at c; refine SA ?_
   refine Jam (by omega) ?_
   exact SB
theorem JmO (Q : Rt -> Bool) : ∀ (l : List Rt) (v : Nat), (∀ r ∈ l, Q r = false) -> idxT Q l v = -1
 | [], _, _ => rfl
 | r :: l, v, h => by
  rw [idxT, if_neg (by rw [h r (by simp)]; simp)]
  exact JmO Q l (v + 1) λ r c => h r (by simp [c])
theorem Jls (l : List Rt) (h : ∀ r ∈ l, Jkh r = true) (g : l.length <= 1000000) : Ev prog 111 [TS l, .clo 109 []] (B false) := by
 have c := Jp9 109 [] (λ _ => false) l (λ r i => Jsw r (h r i)) (λ _ => rfl) (λ _ => rfl) g
 rw [JmO _ l 0 λ _ _ => rfl] at c
 refine EV func111 ?_
 refine SA ?_
 refine Jaa c ?_
 exact SB
theorem Jdx (x : Tf) (h : JaT x = true) : Ev prog 65 [TF x] (B true) := by
 obtain ⟨⟨c, g, k⟩, i⟩ := Ja9.1 h
 refine EV func65 ?_
 refine SA ?_
 refine Jaa (Jdk x.b 0 1000000) ?_
 rw [decide_eq_true ⟨c, g⟩]; refine SA ?_
 have j : decide ((x.l.length : Int) <= 10) = true := decide_eq_true (by omega)
 refine Ja0 (by omega) ?_
 refine SA ?_
 refine Jaa (Jls x.l i (by omega)) ?_
 exact SB
theorem Jqg (x : Tf) (z f t : Int) (h : JaT x = true) : Ev prog 119 [TF x, I z, .agg [I f, I t]] (B (Jbw z && Jda f t)) := by
 refine EV func119 ?_
 refine SA ?_
 refine Jaa (Jdx x h) ?_
 refine SA ?_
 refine Jaa (Jqh z) ?_
 cases Jbw z with
 | false => simp -implicitDefEqProofs (disch := omega) only [go_sem, results119, L06]
 | true =>
  refine SA ?_
  refine Jaa (Jn5 f t) ?_
  cases Jda f t with
  | false => simp -implicitDefEqProofs (disch := omega) only [go_sem, results119, L0d]
  | true => simp -implicitDefEqProofs (disch := omega) only [go_sem, results119, L0d]
theorem JqY (l : List Rt) : (l.flatMap λ r => [r.f, r.t % 86400]).length = 2 * l.length := by
 induction l with
 | nil => rfl
 | cons r l c => rw [L1B, L0b, c]; simp; omega
theorem Jtc (l : List Rt) (i : Nat) (h : i < l.length) : ((l.take (i + 1)).flatMap λ r => [r.f, r.t % 86400]) = ((l.take i).flatMap λ r => [r.f, r.t % 86400]) ++ [(gd l i).f, (gd l i).t % 86400] := by
 rw [List.take_succ_eq_append_getElem h, L2r, L1B, List.flatMap_nil, L0F]
 unfold gd; simp [h]
@[go_sem] theorem JxK (l : List Int) (a b : Int) : l.map I ++ [.v (.int .i64 a), .v (.int .i64 b)] = (l ++ [a, b]).map I := by simp
theorem JnK (x : Tf) (h : JaT x = true) : Ev prog 174 [TF x] (SL (chgF x)) := by
 obtain ⟨⟨F, G, H⟩, A⟩ := Ja9.1 h
 refine EV func174 ?_
 refine SA ?_
 refine Jaf (λ k E z => ∃ (i : Nat) (o : List Int), i + k = x.l.length /\ o = 0 :: ((x.l.take i).flatMap λ r => [r.f, r.t % 86400]) /\ E 3 = .own 367001696 1 0 o.length /\ z 367001696 = some ⟨3, 1, o.map I⟩ /\ E 8 = TS x.l /\ E 9 = I x.l.length /\ E 10 = I i) x.l.length ⟨0, [0], by omega, rfl, ?_⟩ ?_
 . refine SA ?_
   rfl
 rintro k E z ⟨i, o, K, j, c, m3, s, u, g⟩
 have D : o.length = 1 + 2 * i := by rw [j, L0e, JqY, L01]; omega
 refine SA ?_
 refine Jab (λ B => ?_) (λ B => ?_)
 . have q : i < x.l.length := by omega
   have J := Jbm.1 (A _ (Jaj x.l i q))
   have C : (gd x.l i).t.tmod 86400 = (gd x.l i).t % 86400 := L0Z (by omega)
   simp -implicitDefEqProofs (disch := omega) only [go_sem, c, s, u, g, m3, C, L04]
   refine Jad (x.l.length - (i + 1)) (by omega) ⟨i + 1, o ++ [(gd x.l i).f, (gd x.l i).t % 86400], by omega, by rw [Jtc _ _ q, j]; rfl, ?_⟩
   refine SA ?_
   rfl
 . have q : i = x.l.length := by omega
   rw [q, L04] at j
   have j : o = rawF x := j
   subst j; simp -implicitDefEqProofs (disch := omega) only [go_sem, c, m3]
   refine Jan rfl ?_
   have w := Jrq (P := prog) (f := 192) (enters_of func192 (by kernel_rfl) rfl) JCH 367001696 3 (rawF x) (by omega) (by omega)
   refine JsG 367001696 3 w ?_ ?_ ?_ ?_ (by omega) ?_
   . simp -implicitDefEqProofs (disch := omega) only [go_sem, c, m3]
   . simp -implicitDefEqProofs (disch := omega) only [go_sem, c, m3]
   . simp -implicitDefEqProofs (disch := omega) only [go_sem, c, m3]
   . simp -implicitDefEqProofs (disch := omega) only [go_sem, c, m3]
   have y := JcP (rawF x); simp -implicitDefEqProofs (disch := omega) only [go_sem, c, m3]
   refine Jan rfl ?_
   have m := Lib.compact_length_le (JdB (rawF x))
   have w := JpI (P := prog) (f := 193) (enters_of func193 (by kernel_rfl) rfl) JBq 367001696 3 (JdB (rawF x)) (by omega) (by omega) m
   refine JsH 367001696 w ?_ ?_ ?_ m (by simp; omega) ?_
   . simp -implicitDefEqProofs (disch := omega) only [go_sem, c, m3]
   . simp -implicitDefEqProofs (disch := omega) only [go_sem, c, m3, y]
   . simp -implicitDefEqProofs (disch := omega) only [go_sem, c, m3]
   rw [List.take_left' rfl]; refine SA ?_
   rfl
theorem JyA (x : Int) : Ev prog 210 [I x] (B false) := by
 refine EV func210 ?_
 refine SA ?_
 simp
theorem Jvn (x : Int) : Ev prog 195 [I x] (B false) := by
 refine EV func195 ?_
 refine SA ?_
 simp
theorem Jvk (x y : Int) : Ev prog 194 [I x, I y] (B (decide (x < y))) := by
 refine EV func194 ?_
 refine SA ?_
 refine Jaa (JyA x) ?_
 exact SB
theorem JuZ (i j : Nat) (h : i + j <= 100000) : IntKind.i64.wrap ((IntKind.u64.wrap ((i : Int) + (j : Int))).fdiv (2 ^ min 1 64)) = (((i + j) / 2 : Nat) : Int) := by
 have c : IntKind.u64.wrap ((i : Int) + (j : Int)) = (i : Int) + (j : Int) := by
  unfold IntKind.wrap; simp only [IntKind.bits, IntKind.signed]
  first | omega | (simp; omega)
 rw [c, JcD]
 . rw [show (2 : Int) ^ min 1 64 = 2 from rfl, L1D _ (by omega)]; omega
 . rw [show (2 : Int) ^ min 1 64 = 2 from rfl, L1D _ (by omega)]; omega
theorem JnF (l : List Int) (v : Int) (C : l.Pairwise (· <= ·)) (K : l.length <= 40000) : Ev prog 176 [SL l, I v] (.tup [I (loF l v : Nat), B (decide (loF l v < l.length /\ gd l (loF l v) = v))]) := by
 have z := Jt3 l v
 refine EV func176 ?_
 refine SD ?_
 refine Jaf (λ n E F => ∃ (i j : Nat), i + n = j /\ i <= loF l v /\ loF l v <= j /\ j <= l.length /\ E 0 = SL l /\ E 1 = I v /\ E 6 = I l.length /\ E 7 = I i /\ E 8 = I j) l.length ⟨0, l.length, by omega, by omega, z, by omega, ?_⟩ ?_
 . refine SD ?_
   rfl
 rintro n E F ⟨i, j, L, G, H, J, c, g, k, m, o⟩
 simp -implicitDefEqProofs (disch := omega) only [go_sem, c, g, k, m, o]
 refine Jab (λ w => ?_) (λ w => ?_)
 . have u := JuZ i j (by omega)
   obtain ⟨h, D⟩ : ∃ h, (i + j) / 2 = h := ⟨_, rfl⟩
   rw [D] at u; simp -implicitDefEqProofs (disch := omega) only [go_sem, c, g, k, m, o, u]
   refine Jaa (Jvk (gd l h) v) ?_
   simp -implicitDefEqProofs (disch := omega) only [go_sem, c, g, k, m, o, u]
   refine Jab (λ s => ?_) (λ s => ?_)
   . have s : gd l h < v := by simpa using s
     have : h < loF l v := by
      refine Decidable.byContradiction λ w => ?_
      have := Jm0 l v h C (by omega) (by omega)
      omega
     simp -implicitDefEqProofs (disch := omega) only [go_sem, c, g, k, m, o, u]
     refine Jad (j - (h + 1)) (by omega) ⟨h + 1, j, by omega, by omega, by omega, by omega, ?_⟩
     simp -implicitDefEqProofs (disch := omega) only [go_sem, c, g, k, m, o, u]
     rfl
   . have s : ¬ gd l h < v := by simpa using s
     have : loF l v <= h := by
      refine Decidable.byContradiction λ w => ?_
      have := Jib l v h (by omega)
      omega
     simp -implicitDefEqProofs (disch := omega) only [go_sem, c, g, k, m, o, u]
     refine Jad (h - i) (by omega) ⟨i, h, by omega, by omega, by omega, by omega, ?_⟩
     simp -implicitDefEqProofs (disch := omega) only [go_sem, c, g, k, m, o, u]
 . have A : i = loF l v := by omega
   rw [<- A]; simp -implicitDefEqProofs (disch := omega) only [go_sem, c, g, k, m, o]
   refine Jab (λ s => ?_) (λ s => ?_)
   . have q : i < l.length := by omega
     simp -implicitDefEqProofs (disch := omega) only [go_sem, c, g, k, m, o]
     refine Jab (λ y => ?_) (λ y => ?_)
     . simp -implicitDefEqProofs (disch := omega) only [go_sem, c, g, k, m, o, y, results176]; rw [decide_eq_true q]
     . simp -implicitDefEqProofs (disch := omega) only [go_sem, c, g, k, m, o]
       refine Jaa (Jvn (gd l i)) ?_
       simp -implicitDefEqProofs (disch := omega) only [go_sem, c, g, k, m, o, y, q, results176]
   . have q : ¬ i < l.length := by omega
     simp -implicitDefEqProofs (disch := omega) only [go_sem, c, g, k, m, o, s, q, results176]
     rw [decide_eq_false (λ h => h.1)]
abbrev SP2 (a b : Int) : AV := .agg [I a, I b]
abbrev PW (q : Int × Int × Int) : List AV := [.agg [I q.1, I q.2.1, I q.2.2]]
abbrev PX (l : List (Int × Int × Int)) : List (List AV) := l.map PW
theorem Jkx (p : Nat -> Bool) (l : List (Int × Int × Int)) : AV.namesL p ((PX l).map .tup) = false := by
 induction l with
 | nil => rfl
 | cons q l c =>
  show AV.namesL p (.tup (PW q) :: (PX l).map .tup) = false
  simp only [go_sem, c]
  first | done | simp
attribute [go_sem] Jkx
theorem Jrr (x : Tf) (z a b : Int) : Ev prog 149 [TF x, I z, SP2 a b] (.clo 173 [.pt (TF x) 0, .pt (SP2 a b) 0, .pt (I z) 0]) := by
 refine Jch (r := .clo 173 [.nptr 100 2 [TF x], .nptr 56 2 [SP2 a b], .nptr 3 1 [I z]]) ?_ _
 refine EV func149 ?_
 exact SB
theorem Jsf (x : Tf) (h : JaT x = true) : (chgF x).length <= 21 := by
 have c := Lib.compact_length_le (JdB (rawF x)); rw [JcP] at c; unfold chgF rawF at *; rw [L0e, JqY] at c
 have := (Ja9.1 h).1.2.2
 omega
theorem JoG (x : Tf) (z a b : Int) (h : JaT x = true) (J : Jbw z = true) (K : 0 <= a) (O : b <= 20000000) : SOK prog 173 [.pt (TF x) 0, .pt (SP2 a b) 0, .pt (I z) 0] (stO []) (PX (pcsF x z b (b - a).toNat a)) := by
 have H := Jsf x h; have M := JbU.1 J
 refine JkT func173 rfl (by kernel_rfl) mo (nb rfl) ?_ rfl λ l => ?_
 . exact Jkx allB _
 refine SD ?_
 refine Jaa (JnK x h) ?_
 refine SD ?_
 refine Jaf (λ n E N => ∃ (t : Int), (b - t).toNat <= n /\ 0 <= t /\ E 0 = .yld l /\ E 1 = .pt (TF x) 0 /\ E 2 = .pt (SP2 a b) 0 /\ E 3 = .pt (I z) 0 /\ E 5 = SL (chgF x) /\ E 6 = I t /\ E 59 = .tup ((PX (pcsF x z b n t)).map .tup)) (b - a).toNat ⟨a, L09 _, K, ?_⟩ ?_
 . exact SC
 rintro n E N ⟨t, P, Q, g, i, j, k, o, q, c⟩
 simp -implicitDefEqProofs (disch := omega) only [go_sem, g, i, j, k, o, q, c]
 refine Jab (λ F => ?_) (λ F => ?_)
 . obtain ⟨m, rfl⟩ : ∃ m, n = m + 1 := ⟨n - 1, by omega⟩
   rw [pcsF, if_pos F] at c; simp -implicitDefEqProofs (disch := omega) only [go_sem, g, i, j, k, o, q, c]
   refine Jaa (JsL z t J (by omega)) ?_
   have A : 0 <= locF z t := by unfold locF; omega
   have D : locF z t < 604800 := by unfold locF; omega
   have s : (locF z t).tmod 86400 = locF z t % 86400 := L0Z A
   have y : endF x (locF z t % 86400) = JhR (chgF x) (locF z t % 86400 + 1) := rfl
   have G := JiO h (u := locF z t % 86400) (by omega) (by omega)
   have B := Jtb x (locF z t) h A D
   obtain ⟨u, w⟩ : ∃ u, locF z t = u := ⟨_, rfl⟩
   rw [w] at A D s y G B c; simp -implicitDefEqProofs (disch := omega) only [go_sem, g, i, j, k, o, q, c, w, s]
   refine Jaa (JnF (chgF x) (u % 86400 + 1) (Jln x) (by omega)) ?_
   simp -implicitDefEqProofs (disch := omega) only [go_sem, g, i, j, k, o, q, c, w, s]
   refine Jab (λ L => ?_) (λ L => ?_)
   . have C : gd (chgF x) (loF (chgF x) (u % 86400 + 1)) = endF x (u % 86400) := by
      rw [y]; unfold JhR; rw [if_pos (by omega)]
     simp -implicitDefEqProofs (disch := omega) only [go_sem, g, i, j, k, o, q, c, w, s, C]
     refine Jaa B ?_
     simp -implicitDefEqProofs (disch := omega) only [go_sem, g, i, j, k, o, q, c, w, s, C]
     refine ⟨?_, .inr trivial⟩
     refine Jad m (by omega) ⟨min (t + endF x (u % 86400) - u % 86400) b, by omega, by omega, ?_⟩
     simp -implicitDefEqProofs (disch := omega) only [go_sem, g, i, j, k, o, q, c, w, s]; try rfl
   . have C : endF x (u % 86400) = 86400 := by
      rw [y]; unfold JhR; rw [if_neg (by omega)]
     rw [C] at c; simp -implicitDefEqProofs (disch := omega) only [go_sem, g, i, j, k, o, q, c, w, s, C]
     refine Jaa B ?_
     simp -implicitDefEqProofs (disch := omega) only [go_sem, g, i, j, k, o, q, c, w, s, C]
     refine ⟨?_, .inr trivial⟩
     refine Jad m (by omega) ⟨min (t + 86400 - u % 86400) b, by omega, by omega, ?_⟩
     simp -implicitDefEqProofs (disch := omega) only [go_sem, g, i, j, k, o, q, c, w, s]; try rfl
 . cases n with
   | zero =>
    have c : E 59 = .tup [] := c
    simp -implicitDefEqProofs (disch := omega) only [go_sem, c]
    exact .inl trivial
   | succ n =>
    rw [pcsF, if_neg F] at c
    have c : E 59 = .tup [] := c
    simp -implicitDefEqProofs (disch := omega) only [go_sem, c]
    exact .inl trivial
theorem JkD (σ : Jac) : only (inI []) σ = stO [] := by
 funext id
 simp [only, inI, stO]
theorem Jxc (l : List (Int × Int × Int)) : ∀ y ∈ PX l, y.length = 1 := λ y c => by
 obtain ⟨q, _, rfl⟩ := L05.1 c; rfl
theorem JoY (x : Tf) (z a b : Int) (h : JaT x = true) (hz : Jbw z = true) (ha : 0 <= a) (hab : a <= b) (hb : b <= 20000000) : Ev prog 148 [SP2 a b, .pt (TF x) 0, .pt (I z) 0] (I (sumF x z a b)) := by
 have hz' := JbU.1 hz
 have h0 : sumF x z a a = 0 := by unfold sumF; rw [Int.sub_self]; rfl
 refine EV func148 ?_
 refine SD ?_
 refine Jaa (Jrr x z a b) ?_
 refine SD ?_
 refine JbG ?_
 refine JcN [] [312475728] 19529828 (PX (pcsF x z b (b - a).toNat a))
  (λ xs σ => ∃ (k : Nat) (t : Int), xs = PX (pcsF x z b k t) /\ (b - t).toNat <= k /\ a <= t /\ t <= b /\ σ 312475728 = some ⟨3, 1, [I (sumF x z a t)]⟩)
  (g := 173) (caps := [.pt (TF x) 0, .pt (SP2 a b) 0, .pt (I z) 0]) ?_ ?_ ?_ ?_ ?_ ?_ ?_ ?_
 . exact SC
 . rw [JkD]; exact JoG x z a b h hz ha hb
 . exact Jxc _
 . exact SC
 . exact SC
 . refine ⟨_, a, rfl, L09 _, L1M _, hab, ?_⟩
   simp -implicitDefEqProofs (disch := omega) only [go_sem, h0]
 . rintro E0 hE0 y rest σ' ⟨k, t, hx, hk, hat, htb, m5⟩
   have e5 : E0 5 = .ptr 312475728 1 0 0 := by rw [hE0]; exact SC
   clear hE0
   cases k with
   | zero => cases hx
   | succ k =>
    rw [pcsF] at hx
    split at hx
    . rename_i hc; rw [PX, L0l, List.cons.injEq] at hx; obtain ⟨rfl, rfl⟩ := hx
      have hl0 : 0 <= locF z t := by unfold locF; omega
      have hei := JiO h (u := locF z t % 86400) (by omega) (by omega)
      obtain ⟨q, hq⟩ : ∃ q, min (t + endF x (locF z t % 86400) - locF z t % 86400) b = q := ⟨_, rfl⟩
      have hpq := JqR h hz (a := t) (b := q) (by omega) (by omega) (by omega)
      have hin := JcC h z t q (by omega)
      have hin2 := JcC h z a t hat
      have hadd := Jfm x z (a := a) (b := t) (c := q) hat (by omega)
      have hri := Jjh h (locF z t); rw [hq]
      have hd : 0 <= q - t /\ q - t <= 86400 := by omega
      simp -implicitDefEqProofs (disch := omega) only [go_sem, e5, m5, <- hpq, <- hadd]
      refine ⟨inL [], λ _ _ => rfl, k, q, rfl, by omega, by omega, by omega, ?_⟩
      exact SC
    . cases hx
 . rintro E0 hE0 σ' ⟨k, t, hx, hk, hat, htb, m5⟩
   have e5 : E0 5 = .ptr 312475728 1 0 0 := by rw [hE0]; exact SC
   clear hE0
   have htb' : t = b := by
    cases k with
    | zero => omega
    | succ k =>
     rw [pcsF] at hx
     split at hx
     . cases hx
     . omega
   subst htb'; exact SB
theorem Jry (x : Tf) (z a b : Int) (h : JaT x = true) (s : Jbw z = true) (o : 0 <= a) (c : a <= b) (D : b <= 10000000) : Ev prog 120 [TF x, I z, SP2 a b] (I (sumF x z a b)) := by
 have q := JoL x z o c
 have B : (b - a).tdiv 604800 = (b - a) / 604800 := L1i (by omega)
 have u := JcC h z (a + (b - a) / 604800 * 604800) b (by omega)
 have k := JcC h z a (a + 604800) (by omega)
 have y := JcC h z a b c
 have i := JoY x z (a + (b - a) / 604800 * 604800) b h s (by omega) (by omega) (by omega)
 have j := JoY x z a (a + 604800) h s o (by omega) (by omega)
 have m : 0 <= (b - a) / 604800 := by omega
 have C : (b - a) / 604800 * 604800 <= b - a := by omega
 have g : (b - a) / 604800 = 0 \/ 0 < (b - a) / 604800 := by omega
 generalize (b - a) / 604800 = w at *; have A := L1f m k.1
 refine EV func120 ?_
 simp -implicitDefEqProofs (disch := omega) only [go_sem, B]
 refine Jan rfl ?_
 refine JcZ [253755440, 253755456] ?_
 refine SD ?_
 refine Jaa i ?_
 refine SD ?_
 rcases g with rfl | g
 . simp -implicitDefEqProofs (disch := omega) only [go_sem, results120]; rw [q]
   simp
 . refine Ja0 (by omega) ?_
   refine SA ?_
   refine Jaa j ?_
   simp -implicitDefEqProofs (disch := omega) only [go_sem, <- q, results120]
theorem Jdb {f t : Int} : Jda f t = true ↔ 0 <= f /\ f <= t /\ t <= 10000000 := decide_eq_true_iff
def amtF (x : Tf) (z a b : Int) : Int := sumF x z 0 b / 60 - sumF x z 0 a / 60
theorem Jo7 (x : Tf) (z a b : Int) (h : JaT x = true) (q : Jbw z = true) (u : Jda a b = true) : Ev prog 74 [TF x, I z, SP2 a b] (.tup [I (amtF x z a b), I 0]) := by
 obtain ⟨C, D, H⟩ := Jdb.1 u
 have s := Jqg x z a b h; rw [q, u] at s
 have A := Jry x z 0 a h q (by omega) C (by omega)
 have B := Jry x z 0 b h q (by omega) (by omega) (by omega)
 have F := JcC h z 0 a (by omega)
 have G := JcC h z 0 b (by omega)
 have w : (sumF x z 0 a).tdiv 60 = sumF x z 0 a / 60 := L1i F.1
 have y : (sumF x z 0 b).tdiv 60 = sumF x z 0 b / 60 := L1i G.1
 refine EV func74 ?_
 refine SA ?_
 refine Jaa s ?_
 refine SA ?_
 refine Jaf (λ n E o => ∃ i : Nat, i + n = 2 /\ E 1 = I z /\ E 3 = .ptr 157286448 2 0 0 /\ E 8 = .ptr 157286528 2 0 0 /\ E 21 = .agg [I a, I b] /\ E 22 = I i /\ o 157286448 = some ⟨100, 2, [TF x]⟩ /\ o 157286528 = some ⟨105, 2, [.agg [I (if i = 0 then a else sumF x z 0 a / 60), I (if i = 2 then sumF x z 0 b / 60 else b)]]⟩) 2 ⟨0, rfl, ?_⟩ ?_
 . refine SA ?_; try rfl
 rintro n E o ⟨i, J, g, k, m, j, c, m3, m8⟩
 obtain rfl | rfl | rfl : i = 0 \/ i = 1 \/ i = 2 := by omega
 . have c : E 22 = I 0 := c
   have m8 : o 157286528 = some ⟨105, 2, [.agg [I a, I b]]⟩ := m8
   simp -implicitDefEqProofs (disch := omega) only [go_sem, g, k, m, j, c, m3, m8]
   refine Jaa A ?_
   refine SA ?_
   refine Jad 1 (by omega) ⟨1, rfl, ?_⟩
   refine SA ?_
   rfl
 . have c : E 22 = I 1 := c
   have m8 : o 157286528 = some ⟨105, 2, [.agg [I (sumF x z 0 a / 60), I b]]⟩ := m8
   simp -implicitDefEqProofs (disch := omega) only [go_sem, g, k, m, j, c, m3, m8]
   refine Jaa B ?_
   simp -implicitDefEqProofs (disch := omega) only [go_sem, g, k, m, j, c, m3, m8, y]
   refine Jad 0 (by omega) ⟨2, rfl, ?_⟩
   simp -implicitDefEqProofs (disch := omega) only [go_sem, g, k, m, j, c, m3, m8, y]
   exact ⟨rfl, by rw [if_neg (λ h => h.1)]⟩
 . have c : E 22 = I 2 := c
   have m8 : o 157286528 = some ⟨105, 2, [.agg [I (sumF x z 0 a / 60), I (sumF x z 0 b / 60)]]⟩ := m8
   simp -implicitDefEqProofs (disch := omega) only [go_sem, g, k, m, j, c, m3, m8, results74]
   rfl
end Go.Proofs.YtlecbpkidomjbaaGreatDoor

/- Clocks, legs, trees, seals -/
import Derived.Test.YtnpbhgeffapojaaGreatDoorKF
set_option linter.all false
open Go.Proofs.Tryz
attribute [local go_sem] ntmps100 ntmps102 ntmps103 ntmps106 ntmps108 ntmps111 ntmps115 ntmps116 ntmps117 ntmps118 ntmps119 ntmps120 ntmps121 ntmps127 ntmps128 ntmps129 ntmps130 ntmps131 ntmps141 ntmps142 ntmps143 ntmps144 ntmps145 ntmps146 ntmps147 ntmps148 ntmps152 ntmps157 ntmps158 ntmps16 ntmps162 ntmps163 ntmps164 ntmps171 ntmps172 ntmps173 ntmps174 ntmps175 ntmps176 ntmps179 ntmps18 ntmps180 ntmps181 ntmps182 ntmps185 ntmps189 ntmps194 ntmps196 ntmps204 ntmps205 ntmps206 ntmps207 ntmps208 ntmps21 ntmps211 ntmps22 ntmps28 ntmps29 ntmps35 ntmps37 ntmps54 ntmps55 ntmps56 ntmps58 ntmps59 ntmps70 ntmps72 ntmps73 ntmps74 ntmps75 ntmps78 ntmps81 ntmps82 ntmps83 ntmps92 ntmps93 ntmps94 ntmps95 ntmps96 ntmps98 ntmps99 results100 results102 results103 results106 results108 results111 results115 results116 results117 results118 results119 results120 results121 results127 results128 results129 results130 results131 results141 results142 results143 results144 results145 results146 results147 results148 results152 results157 results158 results16 results162 results163 results164 results171 results172 results173 results174 results175 results176 results179 results18 results180 results181 results182 results185 results189 results196 results204 results205 results206 results207 results21 results211 results22 results28 results29 results35 results37 results54 results55 results56 results58 results59 results70 results72 results73 results74 results75 results78 results81 results82 results83 results92 results93 results94 results95 results96 results98 results99
namespace Go.Proofs.YtnpbhgeffapojaaGreatDoor
open Go.Proofs.Tryz
open Go.Vai Go
structure Rd where
 l : Int
 a : Int
 b : Int
 deriving DecidableEq
instance : Inhabited Rd := ⟨⟨0, 0, 0⟩⟩
structure Ck where
 d : Int
 r : List Rd
 deriving DecidableEq
instance : Inhabited Ck := ⟨⟨0, []⟩⟩
def ascR : Int -> List Rd -> Bool
 | _, [] => true
 | j, r :: l => decide (j < r.l /\ r.l <= 10000000 /\ 0 <= r.a /\ r.a <= r.b /\ r.b <= 10000000) && ascR r.l l
def Jbe (c : Ck) : Bool := decide (0 <= c.d /\ c.d <= 100 /\ c.r.length <= 12) && ascR (-1) c.r
theorem JdD {c : Ck} : Jbe c = true ↔ (0 <= c.d /\ c.d <= 100 /\ c.r.length <= 12) /\ ascR (-1) c.r = true := by
 unfold Jbe; rw [L00, decide_eq_true_iff]
theorem Jia : ∀ {l : List Rd} {last : Int}, ascR last l = true -> ∀ r ∈ l, last < r.l /\ r.l <= 10000000 /\ 0 <= r.a /\ r.a <= r.b /\ r.b <= 10000000
  | [], _, _, r, h => by cases h
  | x :: l, last, h, r, hr => by
    rw [ascR, L00, decide_eq_true_iff] at h
    rcases L0i.1 hr with rfl | hr
    . exact h.1
    . have := Jia h.2 r hr
      omega
def sLo (d n : Int) : Int := if 0 < n then 1000 * (n - 1) / (1000 + d) + 1 else 0
def sHi (d n : Int) : Int := (1000 * (n + 1) - 1) / (1000 - d)
theorem JhY {d n : Int} (j : 0 <= d /\ d <= 100) (u : 0 <= n) : 0 <= sLo d n /\ sLo d n <= n := by
 unfold sLo
 split
 . have m : 0 <= 1000 * (n - 1) / (1000 + d) := L1k (by omega) (by omega)
   have o : 1000 * (n - 1) / (1000 + d) <= n - 1 := by
    refine L2p (by omega) ?_
    have : 0 <= (n - 1) * d := L1f (by omega) j.1
    rw [L1X]; omega
   omega
 . omega
theorem JhX {d n : Int} (j : 0 <= d /\ d <= 100) (m : 0 <= n) : 0 <= sHi d n /\ sHi d n <= 2 * n + 2 := by
 unfold sHi
 refine ⟨L1k (by omega) (by omega), ?_⟩
 refine L2p (by omega) ?_
 have : (2 * n + 2) * d <= (2 * n + 2) * 100 := L2q j.2 (by omega)
 rw [Int.mul_sub]; omega
def Fit (d x n : Int) : Prop := (1000 - d) * x - 1000 < 1000 * n /\ 1000 * n < (1000 + d) * x + 1000
instance (d x n : Int) : Decidable (Fit d x n) := by unfold Fit; exact inferInstance
theorem JtH {d x n : Int} (o : 0 <= d /\ d <= 100) (u : 0 <= x) : Fit d x n ↔ (n <= 0 \/ 1000 * (n - 1) / (1000 + d) + 1 <= x) /\ x <= sHi d n /\ (0 < n \/ 1000 * n < (1000 + d) * x + 1000) := by
 have j : (1000 - d) * x - 1000 < 1000 * n ↔ x <= sHi d n := by
  unfold sHi
  rw [Int.le_ediv_iff_mul_le (by omega), Int.mul_comm x]
  omega
 have m : 1000 * n < (1000 + d) * x + 1000 ↔ 1000 * (n - 1) / (1000 + d) + 1 <= x := by
  rw [Int.add_one_le_iff, Int.ediv_lt_iff_lt_mul (by omega), Int.mul_comm x]
  omega
 unfold Fit; rw [j]
 by_cases hn : 0 < n
 . rw [m]; omega
 . omega
theorem Jip {d x n : Int} (m : 0 <= d /\ d <= 100) (j : 0 <= x) (u : 0 <= n) : Fit d x n ↔ sLo d n <= x /\ x <= sHi d n := by
 rw [JtH m j]; unfold sLo
 have o : 0 <= (1000 + d) * x := L1f (by omega) j
 by_cases h0 : 0 < n
 . rw [if_pos h0]; omega
 . rw [if_neg h0]; omega
theorem Jnk {d n : Int} (j : 0 <= d /\ d <= 100) (m : 0 <= n) : sLo d n <= n /\ n <= sHi d n := by
 refine ⟨(JhY j m).2, ?_⟩
 unfold sHi
 rw [Int.le_ediv_iff_mul_le (by omega)]
 have : 0 <= n * d := L1f m j.1
 rw [Int.mul_sub]; omega
def Jdw (d t : Int) (w : Int × Int) (r : Rd) : Int × Int :=
 if t < r.l then (max w.1 (r.a - sHi d (r.l - t)), min w.2 (r.b - sLo d (r.l - t)))
 else if t = r.l then (max w.1 (r.a - sHi d 0), min w.2 (r.b + sHi d 0))
 else (max w.1 (r.a + sLo d (t - r.l)), min w.2 (r.b + sHi d (t - r.l)))
def winF (d t : Int) (l : List Rd) : Int × Int := l.foldl (Jdw d t) (0, 10000000)
theorem Jp0 (d t : Int) (w : Int × Int) (r : Rd) : w.1 <= (Jdw d t w r).1 /\ (Jdw d t w r).2 <= w.2 := by
 unfold Jdw
 split
 . simp only; omega
 . split
   . simp only; omega
   . simp only; omega
theorem Joy (d t : Int) : ∀ (l : List Rd) (w : Int × Int), w.1 <= (l.foldl (Jdw d t) w).1 /\ (l.foldl (Jdw d t) w).2 <= w.2
 | [], w => by simp
 | r :: l, w => by
  have j := Jp0 d t w r; have m := Joy d t l (Jdw d t w r)
  rw [L1s]; omega
theorem Jr5 (d t : Int) (l : List Rd) : 0 <= (winF d t l).1 /\ (winF d t l).2 <= 10000000 := Joy d t l _
def atF (c : Ck) (t : Int) : Option (Int × Int) :=
 if Jbe c = true /\ (0 <= t /\ t <= 10000000) /\ (winF c.d t c.r).1 <= (winF c.d t c.r).2 then some (winF c.d t c.r) else none
theorem Jqz {c : Ck} {t : Int} {w : Int × Int} : atF c t = some w ↔ (Jbe c = true /\ (0 <= t /\ t <= 10000000) /\ (winF c.d t c.r).1 <= (winF c.d t c.r).2) /\ winF c.d t c.r = w := by
 unfold atF
 split
 . rename_i h; simp [h]
 . rename_i h; simp [h]
def Jaf (c n : Int) : Int := (if c < 0 then -(c + 1) else c).tmod n
theorem Jai {c n : Int} (j : 0 < n) : 0 <= Jaf c n /\ Jaf c n < n := by
 unfold Jaf
 split
 . exact ⟨Int.tmod_nonneg _ (by omega), Int.tmod_lt_of_pos _ j⟩
 . exact ⟨Int.tmod_nonneg _ (by omega), Int.tmod_lt_of_pos _ j⟩
def sumB (d : Int) (rates : List Int) (t : Int) : Nat -> Int
 | 0 => 0
 | k + 1 => sumB d rates t k + (if 100 * (k : Int) < t then (Jaf (gd rates k) (2 * d + 1) - d) * min (t - 100 * k) 100 else 0)
def sumA (d : Int) (rates : List Int) (t : Int) : Int := sumB d rates t (min rates.length 20)
def milF (d : Int) (rates : List Int) (t : Int) : Int := sumA d rates t + 1000 * t
def JbP (d : Int) (j : Int) (rates : List Int) (t : Int) : Int := Jaf j 1000 + milF d rates t / 1000
theorem JsU {d : Int} (A : 0 <= d) (r : Int) (w : -d <= r /\ r <= d) (k : Nat) {s t : Int} (z : s <= t) :
 let f := fun u : Int => if 100 * (k : Int) < u then r * min (u - 100 * k) 100 else 0
 let g := fun u : Int => if 100 * (k : Int) < u then min (u - 100 * k) 100 else 0
 0 <= g t - g s /\ -(d * (g t - g s)) <= f t - f s /\ f t - f s <= d * (g t - g s) := by
 intro f g
 have j : ∀ u, f u = r * g u := fun u => by
  show (if _ then _ else _) = r * (if _ then _ else _)
  split <;> simp
 have m : 0 <= g t - g s := by
  show 0 <= (if 100 * (k : Int) < t then min (t - 100 * k) 100 else 0) - (if 100 * (k : Int) < s then min (s - 100 * k) 100 else 0)
  split <;> split <;> omega
 refine ⟨m, ?_⟩
 rw [j, j, <- Int.mul_sub]
 have y : r * (g t - g s) <= d * (g t - g s) := L1Y w.2 m
 have o : -d * (g t - g s) <= r * (g t - g s) := L1Y w.1 m
 rw [Int.neg_mul] at o
 exact ⟨o, y⟩
def covN (t : Int) : Nat -> Int
 | 0 => 0
 | k + 1 => covN t k + (if 100 * (k : Int) < t then min (t - 100 * k) 100 else 0)
theorem Jky {t : Int} (j : 0 <= t) : ∀ k : Nat, covN t k = min t (100 * k)
 | 0 => by simp only [covN]; omega
 | k + 1 => by rw [covN, Jky j k]; split <;> omega
theorem Jkb {d : Int} (u : 0 <= d) (rates : List Int) {s t : Int} (j : s <= t) : ∀ k : Nat, 0 <= covN t k - covN s k /\ -(d * (covN t k - covN s k)) <= sumB d rates t k - sumB d rates s k /\ sumB d rates t k - sumB d rates s k <= d * (covN t k - covN s k)
 | 0 => by simp [sumB, covN]
 | k + 1 => by
  have h := Jkb u rates j k
  have A := Jai (c := gd rates k) (n := 2 * d + 1) (by omega)
  have w := JsU u (Jaf (gd rates k) (2 * d + 1) - d) (by omega) k j
  simp only at w
  simp only [sumB, covN]
  generalize (if 100 * (k : Int) < t then (Jaf (gd rates k) (2 * d + 1) - d) * min (t - 100 * k) 100 else 0) = y at *
  generalize (if 100 * (k : Int) < s then (Jaf (gd rates k) (2 * d + 1) - d) * min (s - 100 * k) 100 else 0) = z at *
  generalize (if 100 * (k : Int) < t then min (t - 100 * k) 100 else 0) = m at *
  generalize (if 100 * (k : Int) < s then min (s - 100 * k) 100 else 0) = o at *
  have e : d * (covN t k + m - (covN s k + o)) = d * (covN t k - covN s k) + d * (m - o) := by rw [<- L1X]; congr 1; omega
  rw [e]
  omega
theorem JiB {d : Int} (u : 0 <= d) (rates : List Int) {s t : Int} (o : 0 <= s) (j : s <= t) : (1000 - d) * (t - s) <= milF d rates t - milF d rates s /\ milF d rates t - milF d rates s <= (1000 + d) * (t - s) := by
 obtain ⟨z, A, B⟩ := Jkb u rates j (min rates.length 20)
 have w := Jky o (min rates.length 20); have y := Jky (Int.le_trans o j) (min rates.length 20)
 have m : covN t (min rates.length 20) - covN s (min rates.length 20) <= t - s := by omega
 have C : d * (covN t (min rates.length 20) - covN s (min rates.length 20)) <= d * (t - s) := L2q m u
 unfold milF sumA; rw [Int.sub_mul, Int.add_mul]
 omega
theorem JiC (d : Int) (rates : List Int) : milF d rates 0 = 0 := by
 have : ∀ k : Nat, sumB d rates 0 k = 0 := fun k => by
  induction k with
  | zero => rfl
  | succ k j => rw [sumB, j, if_neg (by omega)]; rfl
 unfold milF sumA; rw [this]; rfl
theorem JpO {d : Int} (u : 0 <= d /\ d <= 100) (j : Int) (rates : List Int) {s t : Int} (o : 0 <= s) (m : s <= t) : JbP d j rates s <= JbP d j rates t /\ Fit d (t - s) (JbP d j rates t - JbP d j rates s) := by
 obtain ⟨w, y⟩ := JiB u.1 rates o m
 have z : 0 <= (1000 - d) * (t - s) := L1f (by omega) (by omega)
 unfold Fit JbP
 omega
theorem JdR {d : Int} (w : 0 <= d /\ d <= 100) (j : Int) (rates : List Int) {t : Int} (m : 0 <= t) : 0 <= JbP d j rates t /\ JbP d j rates t <= 1000 + 2 * t := by
 obtain ⟨o, u⟩ := JiB w.1 rates (L1M 0) m
 have y : 0 <= (1000 - d) * (t - 0) := L1f (by omega) (by omega)
 have z : d * t <= 100 * t := L1Y w.2 m
 have A := Jai (c := j) (n := 1000) (by omega)
 rw [JiC, Int.add_mul] at u; rw [JiC] at o; simp only [Int.sub_zero] at o u y; unfold JbP
 omega
def Jwk (d j : Int) (rates : List Int) (r : Rd) : Prop := ∃ t, 0 <= t /\ r.l = JbP d j rates t /\ r.a <= t /\ t <= r.b
def JfV (d j : Int) (rates : List Int) (t : Int) (q : Int × Int × Int) : Rd := ⟨JbP d j rates t, max (t - Jaf q.2.1 51) 0, t + Jaf q.2.2 51⟩
def putR (d j : Int) (rates : List Int) (t : Int) (l : List Rd) (q : Int × Int × Int) : List Rd :=
 if Jaf q.1 3000 = t /\ (l = [] \/ (gd l (l.length - 1)).l < JbP d j rates t) then l ++ [JfV d j rates t q] else l
def rowR (d j : Int) (rates : List Int) (at_ : List (Int × Int × Int)) (t : Int) (l : List Rd) : Nat -> List Rd
 | 0 => l
 | i + 1 => putR d j rates t (rowR d j rates at_ t l i) (gd at_ i)
def Jdc (d j : Int) (rates : List Int) (at_ : List (Int × Int × Int)) : Nat -> List Rd
 | 0 => []
 | t + 1 => rowR d j rates at_ t (Jdc d j rates at_ t) (min at_.length 12)
def clkF (j m : Int) (rates : List Int) (at_ : List (Int × Int × Int)) : Ck := ⟨Jaf j 101, Jdc (Jaf j 101) m rates at_ 3000⟩
theorem Ji9 : ∀ (l : List Rd) (j : Int) (r : Rd), ascR j (l ++ [r]) = true ↔ ascR j l = true /\ ((l = [] /\ j < r.l) \/ (l ≠ [] /\ (gd l (l.length - 1)).l < r.l)) /\ r.l <= 10000000 /\ 0 <= r.a /\ r.a <= r.b /\ r.b <= 10000000
 | [], j, r => by simp [ascR]
 | x :: l, j, r => by
  rw [L0y, ascR, ascR, L00, L00, Ji9 l x.l r]
  have e : (gd (x :: l) ((x :: l).length - 1)) = if l = [] then x else gd l (l.length - 1) := by
   cases l with
   | nil => rfl
   | cons y l =>
    rw [if_neg (by simp)]
    show gd (x :: y :: l) ((y :: l).length + 1 - 1) = _
    rw [L0W, show (y :: l).length = (y :: l).length - 1 + 1 by simp, JaC]
    simp
  rw [e]
  by_cases hl : l = []
  . subst hl; simp [ascR]
  . simp [hl, and_assoc]
section
variable (d start : Int) (rates : List Int) (at_ : List (Int × Int × Int))
def cntB (T : Nat) : Nat -> Nat
 | 0 => 0
 | i + 1 => cntB T i + if Jaf (gd at_ i).1 3000 < T then 1 else 0
def cntE (t : Nat) : Nat -> Nat
 | 0 => 0
 | i + 1 => cntE t i + if Jaf (gd at_ i).1 3000 = t then 1 else 0
theorem Joe (T : Nat) : ∀ i, cntB at_ (T + 1) i = cntB at_ T i + cntE at_ T i
 | 0 => rfl
 | i + 1 => by
  rw [cntB, cntB, cntE, Joe T i]
  by_cases h : Jaf (gd at_ i).1 3000 < (T : Int)
  . rw [if_pos (by omega), if_pos h, if_neg (by omega)]; omega
  . by_cases h2 : Jaf (gd at_ i).1 3000 = (T : Int)
    . rw [if_pos (by omega), if_neg h, if_pos h2]; omega
    . rw [if_neg (by omega), if_neg h, if_neg h2]; omega
theorem Jof (T : Nat) : ∀ i, cntB at_ T i <= i
 | 0 => L0a _
 | i + 1 => by have := Jof T i; rw [cntB]; split <;> omega
structure Good (l : List Rd) : Prop where
 asc : ascR (-1) l = true
 tru : ∀ r ∈ l, Jwk d start rates r
theorem JrD (hd : 0 <= d /\ d <= 100) {t : Nat} (ht : t < 3000) {l : List Rd} (h : Good d start rates l) (q : Int × Int × Int) : Good d start rates (putR d start rates t l q) /\ (putR d start rates t l q).length <= l.length + if Jaf q.1 3000 = t then 1 else 0 := by
  have h1 := Jai (c := q.2.1) (n := 51) (by omega)
  have h2 := Jai (c := q.2.2) (n := 51) (by omega)
  have h3 := JdR hd start rates (t := t) (by omega)
  unfold putR
  split
  . rename_i hc
    refine ⟨⟨?_, ?_⟩, ?_⟩
    . rw [Ji9]
      refine ⟨h.asc, ?_, ?_⟩
      . by_cases hl : l = []
        . exact .inl ⟨hl, by simp only [JfV]; omega⟩
        . exact .inr ⟨hl, by rcases hc.2 with e | e; exact absurd e hl; exact e⟩
      . simp only [JfV]; omega
    . intro r hr
      rcases L0w.1 hr with hr | hr
      . exact h.tru r hr
      . obtain rfl := L0p.1 hr
        exact ⟨t, by omega, rfl, by simp only [JfV]; omega, by simp only [JfV]; omega⟩
    . rw [L07, if_pos hc.1]; simp
  . exact ⟨h, by omega⟩
theorem JiN (j : 0 <= d /\ d <= 100) {t : Nat} (m : t < 3000) {l : List Rd} (h : Good d start rates l) : ∀ i, Good d start rates (rowR d start rates at_ t l i) /\ (rowR d start rates at_ t l i).length <= l.length + cntE at_ t i
 | 0 => ⟨h, L0a _⟩
 | i + 1 => by
  obtain ⟨o, w⟩ := JiN j m h i
  obtain ⟨u, y⟩ := JrD d start rates j m o (gd at_ i)
  rw [rowR, cntE]
  exact ⟨u, by omega⟩
theorem JgM (j : 0 <= d /\ d <= 100) : ∀ T : Nat, T <= 3000 -> Good d start rates (Jdc d start rates at_ T) /\ (Jdc d start rates at_ T).length <= cntB at_ T (min at_.length 12)
 | 0, _ => ⟨⟨rfl, fun r h => by cases h⟩, L13 _⟩
 | T + 1, y => by
  obtain ⟨m, u⟩ := JgM j T (by omega)
  obtain ⟨o, w⟩ := JiN d start rates at_ j (t := T) (by omega) m (min at_.length 12)
  rw [Jdc, Joe]
  exact ⟨o, by omega⟩
end
theorem JqM (j m : Int) (rates : List Int) (at_ : List (Int × Int × Int)) : Good (Jaf j 101) m rates (clkF j m rates at_).r /\ Jbe (clkF j m rates at_) = true := by
 have u := Jai (c := j) (n := 101) (by omega)
 obtain ⟨o, w⟩ := JgM (Jaf j 101) m rates at_ (by omega) 3000 (L0a _)
 have y := Jof at_ 3000 (min at_.length 12)
 refine ⟨o, JdD.2 ⟨⟨u.1, by simp only [clkF]; omega, by simp only [clkF]; omega⟩, o.asc⟩⟩
structure Cn where
 b : Int
 e : Int
 deriving DecidableEq
structure Lg where
 f : Int
 t : Int
 g : Cn
 k : Cn
 deriving DecidableEq
instance : Inhabited Cn := ⟨⟨0, 0⟩⟩
instance : Inhabited Lg := ⟨⟨0, 0, default, default⟩⟩
def cntF (n : Cn) : Bool := decide (0 <= n.b /\ n.b <= n.e /\ n.e <= 10000000)
theorem JdE {n : Cn} : cntF n = true ↔ 0 <= n.b /\ n.b <= n.e /\ n.e <= 10000000 := decide_eq_true_iff
def legF (l : Lg) : Bool := decide ((0 <= l.f /\ l.f <= 7) /\ (0 <= l.t /\ l.t <= 7) /\ l.f ≠ l.t) && (cntF l.g && cntF l.k)
theorem Jb4 {l : Lg} : legF l = true ↔ ((0 <= l.f /\ l.f <= 7) /\ (0 <= l.t /\ l.t <= 7) /\ l.f ≠ l.t) /\ cntF l.g = true /\ cntF l.k = true := by
 unfold legF; simp only [L00, decide_eq_true_iff]
structure Sn where
 b : Int × Int
 e : Int × Int
 deriving DecidableEq
instance : Inhabited Sn := ⟨⟨(0, 0), (0, 0)⟩⟩
def Jb8 (c : Ck) (n : Cn) : Option Sn := match atF c n.b, atF c n.e with
 | some w, some v => if cntF n = true then some ⟨w, v⟩ else none
 | _, _ => none
def Jbz (w v : Int × Int) : Int × Int := (max w.1 v.1, min w.2 v.2)
def JkU (s t : Sn) : Option Sn :=
 if (Jbz s.b t.b).1 <= (Jbz s.b t.b).2 /\ (Jbz s.e t.e).1 <= (Jbz s.e t.e).2 /\ (Jbz s.b t.b).1 <= (Jbz s.e t.e).2 then some ⟨Jbz s.b t.b, Jbz s.e t.e⟩ else none
def Jdf (a b : Ck) (l : Lg) : Option Sn := match Jb8 a l.g, Jb8 b l.k with
 | some s, some t => if legF l = true then JkU s t else none
 | _, _ => none
def Je5 (s : Sn) : Int × Int := (s.b.2, max s.b.2 s.e.1)
structure Cr where
 d : Int
 s : Int
 r : List Int
 at_ : List (Int × Int × Int)
instance : Inhabited Cr := ⟨⟨0, 0, [], []⟩⟩
def Cr.show (y : Cr) (t : Int) : Int := JbP (Jaf y.d 101) y.s y.r t
def Cr.clk (y : Cr) : Ck := clkF y.d y.s y.r y.at_
def Cr.cnt (y : Cr) (f t : Int) : Cn := ⟨y.show f, y.show t⟩
theorem Joi (y : Cr) {f t : Int} (j : 0 <= f) (h : f <= t) (m : t <= 4000000) : cntF (y.cnt f t) = true := by
 have z := Jai (c := y.d) (n := 101) (by omega)
 have o := (JpO (d := Jaf y.d 101) (by omega) y.s y.r j h).1
 have u := JdR (d := Jaf y.d 101) (by omega) y.s y.r j
 have w := JdR (d := Jaf y.d 101) (by omega) y.s y.r (t := t) (by omega)
 rw [JdE]; simp only [Cr.cnt, Cr.show]; omega
def Jao (n : Nat) : Nat := 2 ^ Nat.log2 (n - 1)
theorem Ja7 (n : Nat) : 0 < Jao n := Nat.pos_of_ne_zero (by unfold Jao; exact Nat.ne_of_gt (L1z (by omega)))
theorem Jby {n : Nat} (h : 2 <= n) : Jao n < n := by
 have := Nat.log2_self_le (n := n - 1) (by omega)
 unfold Jao; omega
theorem JlY {n a : Nat} (j : 2 ^ a < n) (m : n <= 2 * 2 ^ a) : Jao n = 2 ^ a := by
 unfold Jao
 have o : 0 < 2 ^ a := L1z (by omega)
 have e : Nat.log2 (n - 1) = a := (Nat.log2_eq_iff (by omega)).2 ⟨by omega, by rw [L1L]; omega⟩
 rw [e]
section
variable {T : Type} [Inhabited T] (leaf : T -> T) (node : T -> T -> T) (emp : T)
def JbO : List T -> T
 | [] => emp
 | [s] => leaf s
 | a :: b :: l => node (JbO ((a :: b :: l).take (Jao (l.length + 2)))) (JbO ((a :: b :: l).drop (Jao (l.length + 2))))
termination_by l => l.length
decreasing_by
 . have := Jby (n := l.length + 2) (by omega)
   simp only [L02, L0h]; omega
 . have := Ja7 (l.length + 2)
   simp only [L0f, L0h]; omega
theorem Jg7 {l : List T} (h : 2 <= l.length) : JbO leaf node emp l = node (JbO leaf node emp (l.take (Jao l.length))) (JbO leaf node emp (l.drop (Jao l.length))) := by
 match l, h with
 | a :: b :: l, _ => rw [JbO]; rfl
theorem Jds (s : T) : JbO leaf node emp [s] = leaf s := by rw [JbO]
theorem JeS : JbO leaf node emp [] = emp := by rw [JbO]
def Jcw : List T -> Nat -> List T
 | [], _ => []
 | [_], _ => []
 | a :: b :: l, i =>
  if i < Jao (l.length + 2) then JbO leaf node emp ((a :: b :: l).drop (Jao (l.length + 2))) :: Jcw ((a :: b :: l).take (Jao (l.length + 2))) i
  else JbO leaf node emp ((a :: b :: l).take (Jao (l.length + 2))) :: Jcw ((a :: b :: l).drop (Jao (l.length + 2))) (i - Jao (l.length + 2))
termination_by l => l.length
decreasing_by
 . have := Jby (n := l.length + 2) (by omega)
   simp only [L02, L0h]; omega
 . have := Ja7 (l.length + 2)
   simp only [L0f, L0h]; omega
theorem Jfq {l : List T} (h : 2 <= l.length) (i : Nat) : Jcw leaf node emp l i =
 if i < Jao l.length then JbO leaf node emp (l.drop (Jao l.length)) :: Jcw leaf node emp (l.take (Jao l.length)) i
 else JbO leaf node emp (l.take (Jao l.length)) :: Jcw leaf node emp (l.drop (Jao l.length)) (i - Jao l.length) := by
 match l, h with
 | a :: b :: l, _ => rw [Jcw]; rfl
theorem Jbp {l : List T} (h : l.length <= 1) (i : Nat) : Jcw leaf node emp l i = [] := by
 match l, h with
 | [], _ => rw [Jcw]
 | [_], _ => rw [Jcw]
def valF (s : T) (n i : Nat) : List T -> Option T
 | [] => if n <= 1 then some (leaf s) else none
 | x :: p => if n <= 1 then none else if i < Jao n then (valF s (Jao n) i p).map (node · x) else (valF s (n - Jao n) (i - Jao n) p).map (node x ·)
theorem Jhe : ∀ (n : Nat) (l : List T) (i : Nat), l.length <= n -> i < l.length -> valF leaf node (gd l i) l.length i (Jcw leaf node emp l i) = some (JbO leaf node emp l)
 | 0, l, i, u, j => absurd j (by omega)
 | n + 1, l, i, u, j => by
  by_cases h : 2 <= l.length
  . have w := Jby h; have y := Ja7 l.length; rw [Jfq leaf node emp h, Jg7 leaf node emp h]
    split
    . rename_i o
      rw [valF, if_neg (by omega), if_pos o]
      have m := Jhe n (l.take (Jao l.length)) i (by rw [L02]; omega) (by rw [L02]; omega)
      rw [JoE _ _ _ o, L02, L0P (by omega)] at m
      rw [m]; rfl
    . rename_i o
      rw [valF, if_neg (by omega), if_neg o]
      have m := Jhe n (l.drop (Jao l.length)) (i - Jao l.length) (by rw [L0f]; omega) (by rw [L0f]; omega)
      rw [JtJ, L0f, show Jao l.length + (i - Jao l.length) = i by omega] at m
      rw [m]; rfl
  . match l, j, h with
    | [s], j, _ =>
     have : i = 0 := by simpa using j
     subst this
     rw [Jbp leaf node emp (by simp), Jds, valF, if_pos (by simp)]; rfl
    | _ :: _ :: _, _, h => exact absurd (by simp) h
theorem Jfp {P : T -> Prop} (h0 : P emp) (h1 : ∀ s, P (leaf s)) (h2 : ∀ a b, P (node a b)) : ∀ (n : Nat) (l : List T) (i : Nat), l.length <= n -> ∀ x ∈ Jcw leaf node emp l i, P x
  | 0, l, i, hn, x, hx => by rw [Jbp leaf node emp (by omega)] at hx; cases hx
  | n + 1, l, i, hn, x, hx => by
    have hr : ∀ l : List T, P (JbO leaf node emp l) := fun l => by
      match l with
      | [] => rw [JeS]; exact h0
      | [s] => rw [Jds]; exact h1 s
      | a :: b :: l => rw [JbO]; exact h2 _ _
    by_cases h : 2 <= l.length
    . have e1 := Jby h; have e2 := Ja7 l.length; rw [Jfq leaf node emp h] at hx
      split at hx
      . rcases L0i.1 hx with rfl | hx
        . exact hr _
        . exact Jfp h0 h1 h2 n _ i (by rw [L02]; omega) x hx
      . rcases L0i.1 hx with rfl | hx
        . exact hr _
        . exact Jfp h0 h1 h2 n _ _ (by rw [L0f]; omega) x hx
    . rw [Jbp leaf node emp (by omega)] at hx; cases hx
theorem JpI {P : T -> Prop} (j : P emp) (m : ∀ s, P (leaf s)) (o : ∀ a b, P (node a b)) (l : List T) : P (JbO leaf node emp l) := by
 match l with
 | [] => rw [JeS]; exact j
 | [s] => rw [Jds]; exact m s
 | a :: b :: l => rw [JbO]; exact o _ _
def Pow (l : List T) : Prop := ∃ a, l.length = 2 ^ a
def Desc : List (List T) -> Prop
 | [] => True
 | x :: g => Pow x /\ (∀ y ∈ g, y.length < x.length) /\ Desc g
theorem JlD : ∀ {g : List (List T)} {a : Nat}, Desc g -> (∀ y ∈ g, y.length < 2 ^ a) -> g.flatten.length < 2 ^ a
 | [], a, _, _ => by simp; exact L1z (by omega)
 | x :: g, a, ⟨⟨b, j⟩, o, z⟩, h => by
  have u := h x (by simp)
  rw [j] at u
  have m : b < a := (Nat.pow_lt_pow_iff_right (by omega)).1 u
  have B := JlD z (a := b) (fun y A => by rw [<- j]; exact o y A)
  have w : 2 ^ (b + 1) <= 2 ^ a := L2r (by omega) m
  rw [L1L] at w
  rw [L1J, L07, j]; omega
theorem JjY {x y : List T} {a : Nat} (m : x.length = 2 ^ a) (o : 0 < y.length) (w : y.length <= 2 ^ a) : JbO leaf node emp (x ++ y) = node (JbO leaf node emp x) (JbO leaf node emp y) := by
 have u : 0 < 2 ^ a := L1z (by omega)
 have j : Jao (x ++ y).length = 2 ^ a := JlY (by rw [L07]; omega) (by rw [L07]; omega)
 rw [Jg7 leaf node emp (by rw [L07]; omega), j, <- m, L2h, List.drop_left']
 . rfl
 . rfl
theorem JiI {x : List T} (h : Pow x) : 0 < x.length := by obtain ⟨a, h⟩ := h; rw [h]; exact L1z (by omega)
theorem JjX : ∀ {g : List (List T)} {x : List T}, Desc (g ++ [x]) -> JbO leaf node emp (g ++ [x]).flatten = (g.map (JbO leaf node emp)).foldr node (JbO leaf node emp x)
 | [], x, _ => by simp
 | y :: g, x, h => by
  have h : Desc (y :: (g ++ [x])) := h
  obtain ⟨⟨a, o⟩, m, j⟩ := h
  have u := JlD j (a := a) (fun z B => by rw [<- o]; exact m z B)
  have A : Pow x := by
   have : ∀ g : List (List T), Desc (g ++ [x]) -> Pow x := fun g => by
    induction g with
    | nil => exact fun h => h.1
    | cons z g C => exact fun h => C h.2.2
   exact this g j
  have w : 0 < (g ++ [x]).flatten.length := by
   have := JiI A
   simp only [List.flatten_append, L07, L1J, List.flatten_nil, L0J]; omega
  rw [L0y, L1J, JjY leaf node emp o w (by omega), JjX j, L0q, List.foldr_cons]
theorem Jok {g : List (List T)} {x y : List T} (h : Desc (g ++ [x])) (hy : Pow y) (hlt : y.length < x.length) : Desc (g ++ [x] ++ [y]) := by
  induction g with
  | nil =>
    refine ⟨h.1, fun z hz => ?_, hy, (fun _ hz => by cases hz), trivial⟩
    have hz : z ∈ [y] := hz
    rw [L0p.1 hz]; exact hlt
  | cons z g ih =>
    have h : Desc (z :: (g ++ [x])) := h
    show Desc (z :: ((g ++ [x]) ++ [y]))
    obtain ⟨h1, h2, h3⟩ := h
    refine ⟨h1, fun w hw => ?_, ih h3⟩
    rcases L0w.1 hw with hw | hw
    . exact h2 w hw
    . obtain rfl := L0p.1 hw
      have := h2 x (by simp)
      omega
structure Piled (g : List (List T)) (x : List T) : Prop where
 d : Desc g
 p : Pow x
 le : ∀ y ∈ g, x.length <= y.length
theorem Je6 : ∀ {g : List (List T)} {y : List T}, Desc (g ++ [y]) -> Desc g /\ Pow y /\ ∀ z ∈ g, y.length < z.length
  | [], y, h => ⟨trivial, h.1, fun _ hz => by cases hz⟩
  | z :: g, y, h => by
    have h : Desc (z :: (g ++ [y])) := h
    obtain ⟨h1, h2, h3⟩ := h
    obtain ⟨a, b, c⟩ := Je6 h3
    refine ⟨⟨h1, fun w hw => h2 w (List.mem_append_left _ hw), a⟩, b, fun w hw => ?_⟩
    rcases L0i.1 hw with rfl | hw
    . exact h2 y (by simp)
    . exact c w hw
theorem Jnb {g : List (List T)} {y x : List T} (h : Piled (g ++ [y]) x) (j : y.length ≠ x.length) : Desc (g ++ [y] ++ [x]) :=
 Jok h.d h.p (by have := h.le y (by simp); omega)
theorem Jpo {x : List T} (h : Piled [] x) : Desc [x] := ⟨h.p, (fun _ j => by cases j), trivial⟩
theorem Jii : ∀ {g : List (List T)}, Desc g -> ∀ z ∈ g, Pow z
  | [], _, _, hz => by cases hz
  | w :: g, hd, z, hz => by
    rcases L0i.1 hz with rfl | hz
    . exact hd.1
    . exact Jii hd.2.2 z hz
theorem Jnc {g : List (List T)} {y x : List T} (h : Piled (g ++ [y]) x) (B : y.length = x.length) : Piled g (y ++ x) := by
 obtain ⟨u, ⟨a, j⟩, D⟩ := Je6 h.d
 refine ⟨u, ⟨a + 1, by rw [L07, <- B, j, L1L]; omega⟩, fun z C => ?_⟩
 have w := D z C
 have o : Pow z := Jii u z C
 obtain ⟨b, A⟩ := o; rw [j, A] at w
 have m : a < b := (Nat.pow_lt_pow_iff_right (by omega)).1 w
 have E : 2 ^ (a + 1) <= 2 ^ b := L2r (by omega) m
 rw [L1L] at E
 rw [L07, <- B, j, A]; omega
theorem Jpn {g : List (List T)} (h : Desc g) (s : T) : Piled g [s] := ⟨h, ⟨0, rfl⟩, fun y j => JiI (Jii h y j)⟩
theorem JpJ {y x : List T} (m : Pow y) (u : y.length = x.length) : JbO leaf node emp (y ++ x) = node (JbO leaf node emp y) (JbO leaf node emp x) := by
 obtain ⟨a, j⟩ := m
 have o : 0 < 2 ^ a := L1z (by omega)
 exact JjY leaf node emp j (by omega) (by omega)
end
set_option maxRecDepth 100000
open Go.Vai Go Go.Proofs
def JaP (a : ByteArray) : ByteArray := shaF (⟨#[0]⟩ ++ a)
def JaU (a b : ByteArray) : ByteArray := shaF (⟨#[1]⟩ ++ (a ++ b))
def empF : ByteArray := shaF ⟨#[]⟩
theorem JbY (a : ByteArray) : (JaP a).size = 32 := JeW _
theorem JcP (a b : ByteArray) : (JaU a b).size = 32 := JeW _
theorem JgU (a b : ByteArray) (j : a.size + b.size <= 99999999) : Ev prog 160 [Str a, Str b] (Str (JaU a b)) := Juf a b j
theorem JkP (a : ByteArray) (j : a.size <= 99999999) : Ev prog 159 [Str a] (Str (JaP a)) := Jt3 a j
theorem Jf3 (a b : ByteArray) (j : a.size + b.size <= 99999999) : Ev prog 183 [Str a, Str b] (Str (JaU a b)) := Jrn a b j
theorem Jf1 (a : ByteArray) (j : a.size <= 99999999) : Ev prog 184 [Str a] (Str (JaP a)) := Jq8 a j
instance : Inhabited ByteArray := ⟨⟨#[]⟩⟩
structure Hd where
 c : Int
 n : Int
 r : ByteArray
 s : ByteArray
 deriving DecidableEq
instance : Inhabited Hd := ⟨⟨0, 0, default, default⟩⟩
structure It where
 i : Int
 e : ByteArray
 p : List ByteArray
 deriving DecidableEq
instance : Inhabited It := ⟨⟨0, default, []⟩⟩
structure Pt where
 h : Hd
 l : List It
 deriving DecidableEq
instance : Inhabited Pt := ⟨⟨default, []⟩⟩
structure Rg where
 c : Int
 l : List ByteArray
instance : Inhabited Rg := ⟨⟨0, []⟩⟩
def Jec (h : Hd) : ByteArray := viS 4 ++ viS h.c ++ viS h.n ++ h.r
def Jdu (key : ByteArray) (h : Hd) : ByteArray := JaU key (JaP (Jec h))
def Jau (l : List ByteArray) : ByteArray := JbO JaP JaU empF l
theorem Jcc (l : List ByteArray) : (Jau l).size = 32 := JpI JaP JaU empF (P := fun s => s.size = 32) (JeW _) JbY JcP l
def regB (r : Rg) : Bool := decide (0 <= r.c /\ r.c <= 7) && (decide (r.l.length <= 60) && r.l.all fun s => decide (s.size <= 1000))
theorem Jcx {r : Rg} : regB r = true ↔ (0 <= r.c /\ r.c <= 7) /\ r.l.length <= 60 /\ ∀ s ∈ r.l, s.size <= 1000 := by
 unfold regB; simp only [L00, decide_eq_true_iff, L0c]
def genB (key : ByteArray) (h : Hd) : Bool := decide (key.size = 32 /\ (0 <= h.c /\ h.c <= 7) /\ (0 <= h.n /\ h.n <= 60) /\ h.r.size = 32 /\ h.s = Jdu key h)
theorem Jis {key : ByteArray} {h : Hd} : genB key h = true ↔ key.size = 32 /\ (0 <= h.c /\ h.c <= 7) /\ (0 <= h.n /\ h.n <= 60) /\ h.r.size = 32 /\ h.s = Jdu key h := decide_eq_true_iff
def digB (p : List ByteArray) : Bool := p.all fun s => decide (s.size = 32)
def verB (j : ByteArray) (n i : Int) (s : ByteArray) (p : List ByteArray) : Bool :=
 decide (0 <= i /\ i < n) && (digB p && decide (valF JaP JaU s n.toNat i.toNat p.reverse = some j))
def itB (h : Hd) (j : Option Int) (x : It) : Bool := decide (∀ q, j = some q -> q < x.i) && (decide (x.e.size <= 1000) && verB h.r h.n x.i x.e x.p)
def itsB (h : Hd) : Option Int -> List It -> Bool
 | _, [] => true
 | j, x :: l => itB h j x && itsB h (some x.i) l
def Jbd (key : ByteArray) (p : Pt) : Bool := genB key p.h && itsB p.h none p.l
def Jfc (key : ByteArray) (r : Rg) (n : Nat) : Hd := ⟨r.c, n, Jau (r.l.take n), Jdu key ⟨r.c, n, Jau (r.l.take n), default⟩⟩
def JbS (r : Rg) (n i : Nat) : It := ⟨i, gd r.l i, (Jcw JaP JaU empF (r.l.take n) i).reverse⟩
def ascN (n : Nat) : Option Int -> List Int -> Bool
 | _, [] => true
 | j, i :: l => decide ((0 <= i /\ i < n) /\ ∀ q, j = some q -> q < i) && ascN n (some i) l
def JeX (key : ByteArray) (r : Rg) (n : Int) (l : List Int) : Option Pt :=
 if key.size = 32 /\ regB r = true /\ (0 <= n /\ n <= r.l.length) /\ ascN n.toNat none l = true then some ⟨Jfc key r n.toNat, l.map fun i => JbS r n.toNat i.toNat⟩ else none
theorem Jpu (r : Rg) (n i : Nat) : digB (JbS r n i).p = true := by
  unfold digB JbS; rw [L0c]
  intro x hx
  rw [List.mem_reverse] at hx
  exact decide_eq_true (Jfp JaP JaU empF (P := fun s => s.size = 32) (JeW _) JbY JcP _ _ i (L0a _) x hx)
theorem Jq6 {r : Rg} {n i : Nat} (m : n <= r.l.length) (hi : i < n) : verB (Jau (r.l.take n)) n i (gd r.l i) (JbS r n i).p = true := by
 have j : (r.l.take n).length = n := by rw [L02]; omega
 have h := Jhe JaP JaU empF n (r.l.take n) i (by omega) (by omega)
 rw [j, JoE _ _ _ hi] at h; unfold verB; rw [Jpu, L0d, L00, decide_eq_true_iff, decide_eq_true_iff]
 refine ⟨by omega, ?_⟩
 show valF JaP JaU (gd r.l i) ((n : Int)).toNat ((i : Int)).toNat ((Jcw JaP JaU empF (r.l.take n) i).reverse).reverse = _
 rw [L2s, L12, L12]; exact h
theorem JdC {key : ByteArray} {r : Rg} {n : Int} {l : List Int} {p : Pt} (h : JeX key r n l = some p) : Jbd key p = true /\ p.h = Jfc key r n.toNat /\ p.l = l.map fun i => JbS r n.toNat i.toNat := by
 unfold JeX at h
 split at h
 . rename_i A
   cases h
   obtain ⟨B, j, F, m⟩ := A; have j := Jcx.1 j
   refine ⟨?_, rfl, rfl⟩
   unfold Jbd; rw [L00, Jis]
   refine ⟨⟨B, j.1, ?_, Jcc _, rfl⟩, ?_⟩
   . simp only [Jfc]; omega
   . simp only
     generalize u : (none : Option Int) = o at m; clear u
     induction l generalizing o with
     | nil => rfl
     | cons i l D =>
      rw [ascN, L00, decide_eq_true_iff] at m
      obtain ⟨⟨E, y⟩, z⟩ := m
      rw [L0q, itsB, L00]
      have w : (((i.toNat : Nat) : Int)) = i := by omega
      refine ⟨?_, ?_⟩
      . unfold itB; rw [L00, L00, decide_eq_true_iff, decide_eq_true_iff]
        refine ⟨fun q C => ?_, ?_, ?_⟩
        . show q < ((i.toNat : Nat) : Int)
          rw [w]; exact y q C
        . exact j.2.2 _ (Jan _ _ (by omega))
        . exact Jq6 (by omega) (by omega)
      . show itsB _ (some ((i.toNat : Nat) : Int)) _ = true
        rw [w]; exact D _ z
 . cases h
def preN : Nat -> List It -> List ByteArray
 | _, [] => []
 | v, x :: l => if x.i = v then x.e :: preN (v + 1) l else []
def preF (p : Pt) : List ByteArray := preN 0 p.l
def fstF (u v : ByteArray) : List ByteArray -> Int
 | [] => 0
 | e :: l => if e = u then 1 else if e = v then 2 else fstF u v l
def Ja0 (l : List ByteArray) (u v : ByteArray) : Int := if u = v then 0 else fstF u v l
def evF (key : ByteArray) (p : Pt) : List ByteArray := if Jbd key p = true then preF p else []
theorem Joz (u v : ByteArray) : ∀ l, fstF u v l = 0 \/ fstF u v l = 1 \/ fstF u v l = 2
 | [] => .inl rfl
 | e :: l => by
  rw [fstF]
  split
  . exact .inr (.inl rfl)
  . split
    . exact .inr (.inr rfl)
    . exact Joz u v l
theorem Jjn (l : List ByteArray) (u v : ByteArray) : 0 <= Ja0 l u v /\ Ja0 l u v <= 2 := by
 unfold Ja0
 split
 . omega
 . rcases Joz u v l with h | h | h <;> omega
instance : Inhabited Tf := ⟨⟨[], 0⟩⟩
def recN (l : Lg) (e : Int) (n : Cn) : ByteArray := viS 8 ++ viS l.f ++ viS l.t ++ viS e ++ viS n.b ++ viS n.e
def recF (l : Lg) (e : Int) : ByteArray := recN l e (if e = 1 then l.g else l.k)
def Jea (j : List ByteArray) (a b : Ck) (l : Lg) : (Int × Int) × Int := match Jdf a b l with
 | some s => (Je5 s, 0)
 | none =>
  if Ja0 j (recF l 1) (recF l 2) = 1 then (match Jb8 a l.g with | some s => (Je5 s, 1) | none => ((0, 0), 0))
  else if Ja0 j (recF l 1) (recF l 2) = 2 then (match Jb8 b l.k with | some s => (Je5 s, 2) | none => ((0, 0), 0))
  else ((0, 0), 0)
structure Tp where
 hops : List (Int × Int)
 legs : List Lg
 cks : List Ck
 tfs : List Tf
 offs : List Int
 key : ByteArray
 part : Pt
 call : ByteArray
 ups : List ByteArray
def Jdo (u : Nat) : Int × Int -> List (Int × Int) -> Bool
 | _, [] => true
 | j, h :: l => decide ((0 <= h.1 /\ h.1 <= 7) /\ h.1 ≠ j.1 /\ (j.2 <= h.2 /\ h.2 <= 29) /\ h.2 < u) && Jdo u h l
def JcB (j : List (Int × Int)) : Nat -> List Lg -> Bool
 | _, [] => true
 | i, l :: m => (legF l && decide (l.f = (gd j i).1 /\ l.t = (gd j (i + 1)).1)) && JcB j (i + 1) m
def Jb3 (t : Tp) : Bool :=
 Jbd t.key t.part && (decide ((1 <= t.hops.length /\ t.hops.length <= 12) /\ t.legs.length = t.hops.length - 1 /\ t.cks.length = 8 /\ t.tfs.length = 8 /\ t.offs.length = 8 /\ t.ups.length <= 30) &&
  (t.cks.all Jbe && (t.tfs.all JaV && (t.offs.all Jbr && (Jdo t.ups.length (-1, 0) t.hops && JcB t.hops 0 t.legs)))))
def payF (t : Tp) (i : Nat) : Int :=
 if i = 0 then (gd t.hops 0).1
 else if (gd t.hops (i - 1)).2 + 1 < t.ups.length /\ Ja0 (evF t.key t.part) (gd t.ups ((gd t.hops (i - 1)).2 + 1).toNat) t.call = 1 then (gd t.hops (i - 1)).1
 else (gd t.hops i).1
def Jbm (t : Tp) (l : Lg) : (Int × Int) × Int := Jea (evF t.key t.part) (gd t.cks l.f.toNat) (gd t.cks l.t.toNat) l
structure Bl where
 p : Int
 q : Int
 f : Int
 t : Int
 a : Int
 deriving DecidableEq
instance : Inhabited Bl := ⟨⟨0, 0, 0, 0, 0⟩⟩
def Jkp (t : Tp) (i : Nat) : Bl :=
 let l := gd t.legs i
 let s := (Jbm t l).1
 ⟨payF t i, l.t, s.1, s.2, amtF (gd t.tfs l.t.toNat) (gd t.offs l.t.toNat) s.1 s.2⟩
def Jbu (t : Tp) : List Bl := (List.range t.legs.length).map (Jkp t)
theorem JbK (t : Tp) : (Jbu t).length = t.legs.length := by simp [Jbu]
theorem Jew (t : Tp) {i : Nat} (h : i < t.legs.length) : gd (Jbu t) i = Jkp t i := by simp [Jbu, gd, h]
theorem JoL : ∀ (u : Nat) (l : List (Int × Int)) (j : Int × Int), Jdo u j l = true -> ∀ i, i < l.length -> (0 <= (gd l i).1 /\ (gd l i).1 <= 7) /\ (j.2 <= (gd l i).2 /\ (gd l i).2 <= 29) /\ (gd l i).2 < u
 | _, [], _, _, i, m => by simp at m
 | u, h :: l, j, o, i, m => by
  rw [Jdo, L00, decide_eq_true_iff] at o
  obtain ⟨⟨w, B, y, z⟩, A⟩ := o
  cases i with
  | zero => rw [JaJ]; exact ⟨w, y, z⟩
  | succ i =>
   rw [JaC]
   obtain ⟨a, b, c⟩ := JoL u l h A i (by simpa using m)
   exact ⟨a, by omega, c⟩
theorem Jo1 : ∀ (j : List (Int × Int)) (l : List Lg) (v : Nat), JcB j v l = true -> ∀ i, i < l.length -> legF (gd l i) = true /\ (gd l i).f = (gd j (v + i)).1 /\ (gd l i).t = (gd j (v + i + 1)).1
 | _, [], _, _, i, m => by simp at m
 | j, x :: l, v, o, i, m => by
  rw [JcB, L00, L00, decide_eq_true_iff] at o
  obtain ⟨⟨u, w⟩, y⟩ := o
  cases i with
  | zero => rw [JaJ]; exact ⟨u, w⟩
  | succ i =>
   rw [JaC, show v + (i + 1) = v + 1 + i by omega]
   exact Jo1 j l (v + 1) y i (by simpa using m)
theorem Jja {c : Ck} {t : Int} {w : Int × Int} (h : atF c t = some w) : 0 <= w.1 /\ w.1 <= w.2 /\ w.2 <= 10000000 := by
 obtain ⟨j, rfl⟩ := Jqz.1 h
 have := Jr5 c.d t c.r
 omega
def Sn.ok (s : Sn) : Prop := (0 <= s.b.1 /\ s.b.1 <= s.b.2 /\ s.b.2 <= 10000000) /\ 0 <= s.e.1 /\ s.e.1 <= s.e.2 /\ s.e.2 <= 10000000
theorem JiP {c : Ck} {n : Cn} {s : Sn} (h : Jb8 c n = some s) : s.ok := by
 unfold Jb8 at h
 split at h
 . rename_i w v j m
   split at h
   . cases h; exact ⟨Jja j, Jja m⟩
   . cases h
 . cases h
theorem Jqs {a b : Ck} {l : Lg} {s : Sn} (h : Jdf a b l = some s) : s.ok := by
 unfold Jdf at h
 split at h
 . rename_i x y j m; have o := JiP j; have u := JiP m
   split at h
   . unfold JkU at h
     split at h
     . cases h
       unfold Sn.ok Jbz at *
       simp only at *
       omega
     . cases h
   . cases h
 . cases h
theorem Jkt {s : Sn} (h : s.ok) : 0 <= (Je5 s).1 /\ (Je5 s).1 <= (Je5 s).2 /\ (Je5 s).2 <= 10000000 := by
 unfold Sn.ok at h; unfold Je5
 simp only
 omega
theorem JnW (j : List ByteArray) (a b : Ck) (l : Lg) : JcT (Jea j a b l).1.1 (Jea j a b l).1.2 = true /\ ((Jea j a b l).2 = 0 \/ (Jea j a b l).2 = 1 \/ (Jea j a b l).2 = 2) := by
 rw [JdU]; unfold Jea
 split
 . rename_i s m
   exact ⟨Jkt (Jqs m), .inl rfl⟩
 . split
   . split
     . rename_i s m
       exact ⟨Jkt (JiP m), .inr (.inl rfl)⟩
     . exact ⟨by simp only; omega, .inl rfl⟩
   . split
     . split
       . rename_i s m
         exact ⟨Jkt (JiP m), .inr (.inr rfl)⟩
       . exact ⟨by simp only; omega, .inl rfl⟩
     . exact ⟨by simp only; omega, .inl rfl⟩
structure Q4 where
 a : Int
 b : Int
 c : Int
 d : Int
instance : Inhabited Q4 := ⟨⟨0, 0, 0, 0⟩⟩
structure Nm where
 hops : List (Int × Int)
 legs : List (Int × Int × Int)
 crs : List Cr
 bases : List Int
 rates : List Q4
 offs : List Int
 wit : List Int
def numF (l : List Int) (i : Nat) : Int := if l = [] then 0 else gd l (i % l.length)
def crsF (x : Nm) (c : Nat) : Cr := if x.crs = [] then ⟨0, 0, [], []⟩ else gd x.crs (c % x.crs.length)
def Jfs (q : Q4) : Rt := ⟨1 + Jaf q.a 127, 1800 * Jaf q.b 48, 1800 * Jaf q.b 48 + 1 + Jaf q.c (86400 - 1800 * Jaf q.b 48), Jaf q.d 2000⟩
def tfQ (j : Int) (x : List Q4) : Tf := ⟨(x.take 4).map Jfs, Jaf j 2000⟩
theorem JrY (j : Int) (x : List Q4) : JaV (tfQ j x) = true := by
 have m := Jai (c := j) (n := 2000) (by omega)
 refine Ja6.2 ⟨⟨m.1, by simp only [tfQ]; omega, by simp only [tfQ, L06, L02]; omega⟩, fun r o => ?_⟩
 obtain ⟨q, _, rfl⟩ := L08.1 o
 have u := Jai (c := q.a) (n := 127) (by omega)
 have w := Jai (c := q.b) (n := 48) (by omega)
 have y := Jai (c := q.c) (n := 86400 - 1800 * Jaf q.b 48) (by omega)
 have z := Jai (c := q.d) (n := 2000) (by omega)
 refine Jbl.2 ?_
 simp only [Jfs]
 omega
def offF (x : Nm) (c : Nat) : Int := Jaf (numF x.offs c) 100801 - 50400
theorem Jum (x : Nm) (c : Nat) : Jbr (offF x c) = true := by
 have j := Jai (c := numF x.offs c) (n := 100801) (by omega)
 rw [JbR]; unfold offF; omega
def hopF (q j : Int × Int) (i : Nat) : Int × Int := (if i = 0 then Jaf q.1 8 else (j.1 + 1 + Jaf q.1 7).tmod 8, min (j.2 + Jaf q.2 4) 20)
def hopN (x : List (Int × Int)) : Nat -> List (Int × Int)
 | 0 => []
 | i + 1 => hopN x i ++ [hopF (gd x i) (gd (hopN x i) (i - 1)) i]
def Jay (x : List (Int × Int)) : List (Int × Int) := if x = [] then [(0, 0)] else hopN x (min x.length 6)
theorem JaX (x : List (Int × Int)) : ∀ i, (hopN x i).length = i
 | 0 => rfl
 | i + 1 => by rw [hopN, L07, JaX x i]; rfl
theorem JgC (x : List (Int × Int)) : ∀ i, ∀ h ∈ hopN x i, (0 <= h.1 /\ h.1 <= 7) /\ 0 <= h.2 /\ h.2 <= 20
  | 0, h, hh => by cases hh
  | i + 1, h, hh => by
    rw [hopN] at hh
    rcases L0w.1 hh with hh | hh
    . exact JgC x i h hh
    . obtain rfl := L0p.1 hh
      have h1 := Jai (c := (gd x i).1) (n := 8) (by omega)
      have h2 := Jai (c := (gd x i).1) (n := 7) (by omega)
      have h3 := Jai (c := (gd x i).2) (n := 4) (by omega)
      have hl : (0 <= (gd (hopN x i) (i - 1)).1 /\ (gd (hopN x i) (i - 1)).1 <= 7) /\ 0 <= (gd (hopN x i) (i - 1)).2 /\ (gd (hopN x i) (i - 1)).2 <= 20 := by
        by_cases h0 : i = 0
        . subst h0; rw [hopN, JsB]; decide
        . exact JgC x i _ (Jan _ _ (by rw [JaX]; omega))
      unfold hopF
      refine ⟨?_, by simp only; omega⟩
      simp only
      split
      . omega
      . rw [L11 (by omega)]; omega
theorem Jit (x : List (Int × Int)) : ∀ i v, v < i -> gd (hopN x i) v = hopF (gd x v) (gd (hopN x v) (v - 1)) v
 | 0, v, h => absurd h (by omega)
 | i + 1, v, h => by
  rw [hopN]
  by_cases hv : v < i
  . rw [Jd4 _ _ _ (by rw [JaX]; exact hv), Jit x i v hv]
  . obtain rfl : v = i := by omega
    rw [JaT _ _ _ (by rw [JaX]; omega), JaX, L1l]; rfl
theorem Jq3 (x : List (Int × Int)) : ∀ i v, v < i -> gd (hopN x i) v = gd (hopN x (v + 1)) v := fun i v h => by
 rw [Jit x i v h, Jit x (v + 1) v (by omega)]
theorem JoK (x : List (Int × Int)) {i v : Nat} (h : v + 1 < i) : (gd (hopN x i) (v + 1)).1 ≠ (gd (hopN x i) v).1 /\ (gd (hopN x i) v).2 <= (gd (hopN x i) (v + 1)).2 := by
 rw [Jit x i (v + 1) h, Jq3 x i v (by omega), L0W]
 have j := Jai (c := (gd x (v + 1)).1) (n := 7) (by omega)
 have m := Jai (c := (gd x (v + 1)).2) (n := 4) (by omega)
 have o := JgC x (v + 1) _ (Jan (hopN x (v + 1)) v (by rw [JaX]; omega))
 generalize gd (hopN x (v + 1)) v = h at *; unfold hopF
 simp only
 rw [if_neg (by omega), L11 (by omega)]
 omega
theorem Jdp (x : List (Int × Int)) : 1 <= (Jay x).length /\ (Jay x).length <= 6 := by
 unfold Jay
 split
 . simp
 . rename_i h
   have := L19.2 h
   rw [JaX]; omega
theorem JdI (x : List (Int × Int)) : ∀ h ∈ Jay x, (0 <= h.1 /\ h.1 <= 7) /\ 0 <= h.2 /\ h.2 <= 20 := fun h j => by
 unfold Jay at j
 split at j
 . obtain rfl := L0p.1 j; decide
 . exact JgC x _ h j
theorem Jfd (x : List (Int × Int)) {v : Nat} (h : v + 1 < (Jay x).length) : (gd (Jay x) (v + 1)).1 ≠ (gd (Jay x) v).1 /\ (gd (Jay x) v).2 <= (gd (Jay x) (v + 1)).2 := by
 unfold Jay at *
 split
 . rename_i j; rw [if_pos j] at h; simp at h
 . rename_i j; rw [if_neg j, JaX] at h; exact JoK x h
def JcA (x : List (Int × Int)) : Int × Int := gd (Jay x) ((Jay x).length - 1)
theorem JlR (x : List (Int × Int)) : ∀ (k v : Nat), v + k = (Jay x).length - 1 -> 0 < (Jay x).length -> (gd (Jay x) v).2 <= (JcA x).2
 | 0, v, h, j => by unfold JcA; rw [<- h, L0X]; exact L1M _
 | k + 1, v, h, j => by
  have m := JlR x k (v + 1) (by omega) j
  have o := (Jfd x (v := v) (by omega)).2
  omega
theorem JlQ (u : Nat) : ∀ (l : List (Int × Int)) (j : Int × Int), (∀ h ∈ l, (0 <= h.1 /\ h.1 <= 7) /\ h.2 <= 29 /\ h.2 < u) -> (∀ v, v < l.length -> (gd (j :: l) (v + 1)).1 ≠ (gd (j :: l) v).1 /\ (gd (j :: l) v).2 <= (gd (j :: l) (v + 1)).2) -> Jdo u j l = true
 | [], _, _, _ => rfl
 | h :: l, j, m, o => by
  rw [Jdo, L00, decide_eq_true_iff]
  obtain ⟨a, b, c⟩ := m h (by simp)
  have d := o 0 (by simp)
  rw [JaC, JaJ, JaJ] at d
  refine ⟨⟨a, d.1, ⟨d.2, b⟩, c⟩, JlQ u l h (fun y z => m y (L1y _ z)) fun v w => ?_⟩
  have := o (v + 1) (by simpa using w)
  rw [JaC j (h :: l) (v + 1), JaC j (h :: l) v] at this; exact this
def updS (v : Nat) : ByteArray := ⟨#[117, 112, 100, 97, 116, 101, 32]⟩ ++ ⟨#[UInt8.ofNat (65 + v)]⟩
def upsN (n : Nat) : List ByteArray := (List.range n).map updS
def JaO : ByteArray := ⟨#[99, 97, 108, 108]⟩
def keyS (c : Int) : ByteArray := strOfNums (List.replicate 32 (100 + c))
def legY (x : Nm) (i : Nat) : Int × Int × Int := if x.legs = [] then (100 * (i : Int), 60, 0) else gd x.legs (i % x.legs.length)
def legM (x : Nm) (j : List (Int × Int)) (i : Nat) : Lg :=
 let y := legY x i
 let f := (gd j i).1
 let t := (gd j (i + 1)).1
 let a := Jaf y.1 2000
 let b := Jaf y.1 2000 + Jaf y.2.1 900
 let k := (crsF x t.toNat).cnt a b
 ⟨f, t, (crsF x f.toNat).cnt a b, if Jaf y.2.2 4 = 3 then ⟨k.b, k.e + Jaf y.2.2 400⟩ else k⟩
def Jhj (x : Nm) (j : List (Int × Int)) : List Lg := (List.range (j.length - 1)).map (legM x j)
theorem Jo0 (x : Nm) {i : Nat} (hi : i + 1 < (Jay x.hops).length) : legF (legM x (Jay x.hops) i) = true := by
 have y := JdI x.hops _ (Jan (Jay x.hops) i (by omega))
 have z := JdI x.hops _ (Jan (Jay x.hops) (i + 1) hi); have A := (Jfd x.hops hi).1
 have o := Jai (c := (legY x i).1) (n := 2000) (by omega)
 have u := Jai (c := (legY x i).2.1) (n := 900) (by omega)
 have w := Jai (c := (legY x i).2.2) (n := 400) (by omega)
 have m := Joi (crsF x (gd (Jay x.hops) i).1.toNat) (f := Jaf (legY x i).1 2000) (t := Jaf (legY x i).1 2000 + Jaf (legY x i).2.1 900) (by omega) (by omega) (by omega)
 have j := Joi (crsF x (gd (Jay x.hops) (i + 1)).1.toNat) (f := Jaf (legY x i).1 2000) (t := Jaf (legY x i).1 2000 + Jaf (legY x i).2.1 900) (by omega) (by omega) (by omega)
 have C : ((crsF x (gd (Jay x.hops) (i + 1)).1.toNat).cnt (Jaf (legY x i).1 2000) (Jaf (legY x i).1 2000 + Jaf (legY x i).2.1 900)).e <= 9000 := by
  have B := Jai (c := (crsF x (gd (Jay x.hops) (i + 1)).1.toNat).d) (n := 101) (by omega)
  have := (JdR (d := Jaf (crsF x (gd (Jay x.hops) (i + 1)).1.toNat).d 101) (by omega) (crsF x (gd (Jay x.hops) (i + 1)).1.toNat).s (crsF x (gd (Jay x.hops) (i + 1)).1.toNat).r (t := Jaf (legY x i).1 2000 + Jaf (legY x i).2.1 900) (by omega)).2
  simp only [Cr.cnt, Cr.show]; omega
 rw [Jb4]; unfold legM
 simp only
 refine ⟨by omega, m, ?_⟩
 split
 . rw [JdE] at j ⊢
   simp only
   omega
 . exact j
def witE (call : ByteArray) (ups : List ByteArray) (legs : List Lg) (w : Int) : ByteArray :=
 if Jaf w 3 = 1 then gd ups (Jaf (w.tdiv 3) ups.length).toNat
 else if Jaf w 3 = 2 /\ legs ≠ [] then recF (gd legs (Jaf (w.tdiv 6) legs.length).toNat) (1 + Jaf (w.tdiv 3) 2)
 else call
def witN (w : List Int) : Nat -> List Int
 | 0 => []
 | i + 1 => witN w i ++ if Jaf ((gd w i).tdiv 128) 8 ≠ 7 then [(i : Int)] else []
def witR (call : ByteArray) (ups : List ByteArray) (legs : List Lg) (w : List Int) : Rg := ⟨0, (w.take 12).map (witE call ups legs)⟩
def witP (call : ByteArray) (ups : List ByteArray) (legs : List Lg) (w : List Int) : Pt :=
 ⟨Jfc (keyS 0) (witR call ups legs w) (min w.length 12), (witN w (min w.length 12)).map fun i => JbS (witR call ups legs w) (min w.length 12) i.toNat⟩
def Jaw (x : Nm) : Tp where
 hops := Jay x.hops
 legs := Jhj x (Jay x.hops)
 cks := (List.range 8).map fun c => (crsF x c).clk
 tfs := (List.range 8).map fun c => tfQ (numF x.bases c) (x.rates.take (c % 4))
 offs := (List.range 8).map (offF x)
 key := keyS 0
 part := witP JaO (upsN ((JcA x.hops).2 + 2).toNat) (Jhj x (Jay x.hops)) x.wit
 call := JaO
 ups := upsN ((JcA x.hops).2 + 2).toNat
abbrev RDP (r : Rd) : AV := .agg [I r.l, I r.a, I r.b]
abbrev RDS (l : List Rd) : AV := .sl 3 (l.map RDP)
abbrev CKP (c : Ck) : AV := .agg [I c.d, RDS c.r]
section
variable (p : Nat -> Bool) (l : List Rd)
@[go_sem] theorem JvO : AV.namesL p (l.map RDP) = false := Jam p l RDP fun _ => rfl
@[go_sem] theorem Jxo : AV.flatL (l.map RDP) = true := Ja5 l RDP fun _ => rfl
@[go_sem] theorem Jwu : JbH 3 (l.map RDP) = true := JaD 3 l RDP fun _ => ⟨rfl, rfl⟩
@[go_sem] theorem Ju2 (a b c : Int) : l.map RDP ++ [.agg [.v (.int .i64 a), .v (.int .i64 b), .v (.int .i64 c)]] = (l ++ [(⟨a, b, c⟩ : Rd)]).map RDP := by simp
end
theorem Jhp (c : Ck) (J : c.r.length <= 9223372036854775807) : Ev prog 102 [CKP c] (B (Jbe c)) := by
 obtain ⟨d, l⟩ := c
 refine EV func102 ?_
 refine SA ?_; unfold Jbe
 simp only at J ⊢
 refine Jab (fun z => ?_) (fun z => ?_)
 . simp -implicitDefEqProofs (disch := omega) only [go_sem, z, results102]
   rw [decide_eq_false (by omega)]
   rfl
 simp -implicitDefEqProofs (disch := omega) only [go_sem]
 refine Jab (fun A => ?_) (fun A => ?_)
 . simp -implicitDefEqProofs (disch := omega) only [go_sem, A, results102]
   rw [decide_eq_false (by omega)]
   rfl
 simp -implicitDefEqProofs (disch := omega) only [go_sem]
 refine Jab (fun C => ?_) (fun C => ?_)
 . simp -implicitDefEqProofs (disch := omega) only [go_sem, C, results102]
   rw [decide_eq_false (by omega)]
   rfl
 refine SA ?_
 rw [decide_eq_true ⟨by omega, by omega, by omega⟩, L0d]
 refine Jag (fun k E K => ∃ (i : Nat) (w : Int), i + k = l.length /\ ascR (-1) l = ascR w (l.drop i) /\ E 3 = I w /\ E 21 = RDS l /\ E 22 = I l.length /\ E 23 = I i) l.length ⟨0, -1, by omega, rfl, ?_⟩ ?_
 . refine SA ?_; try rfl
 rintro k E K ⟨i, w, L, u, y, j, m, o⟩
 simp -implicitDefEqProofs (disch := omega) only [go_sem, y, j, m, o]
 refine Jab (fun G => ?_) (fun G => ?_)
 . have H : i < l.length := by omega
   rw [Jaz l i H, ascR] at u; simp -implicitDefEqProofs (disch := omega) only [go_sem, y, j, m, o]
   refine Jab (fun z => ?_) (fun z => ?_)
   . rw [decide_eq_false (by omega), L04] at u
     simp -implicitDefEqProofs (disch := omega) only [go_sem, z, u, results102]
   simp -implicitDefEqProofs (disch := omega) only [go_sem, y, j, m, o]
   refine Jab (fun A => ?_) (fun A => ?_)
   . rw [decide_eq_false (by omega), L04] at u
     simp -implicitDefEqProofs (disch := omega) only [go_sem, A, u, results102]
   simp -implicitDefEqProofs (disch := omega) only [go_sem, y, j, m, o]
   refine Jab (fun C => ?_) (fun C => ?_)
   . rw [decide_eq_false (by omega), L04] at u
     simp -implicitDefEqProofs (disch := omega) only [go_sem, C, u, results102]
   simp -implicitDefEqProofs (disch := omega) only [go_sem, y, j, m, o]
   refine Jab (fun D => ?_) (fun D => ?_)
   . rw [decide_eq_false (by omega), L04] at u
     simp -implicitDefEqProofs (disch := omega) only [go_sem, D, u, results102]
   simp -implicitDefEqProofs (disch := omega) only [go_sem, y, j, m, o]
   refine Jab (fun F => ?_) (fun F => ?_)
   . rw [decide_eq_false (by omega), L04] at u
     simp -implicitDefEqProofs (disch := omega) only [go_sem, F, u, results102]
   simp -implicitDefEqProofs (disch := omega) only [go_sem, y, j, m, o]
   rw [decide_eq_true ⟨by omega, by omega, by omega, by omega, by omega⟩, L0d] at u
   refine Jad (l.length - (i + 1)) (by omega) ⟨i + 1, _, by omega, u, ?_⟩
   simp -implicitDefEqProofs (disch := omega) only [go_sem, y, j, m, o]; try rfl
 . obtain rfl : i = l.length := by omega
   rw [L0C, ascR] at u; simp -implicitDefEqProofs (disch := omega) only [go_sem, y, j, m, o, u, results102]
theorem JhR {a b : Int} (h : 0 <= a) : a.tdiv b = a / b := L1j h
theorem JpX (d n : Int) (m : 0 <= d /\ d <= 100) (o : 0 <= n /\ n <= 10000000) : Ev prog 205 [I d, I n] (.tup [I (sLo d n), I (sHi d n)]) := by
 have u : (1000 * (n + 1) - 1).tdiv (1000 - d) = sHi d n := JhR (by omega)
 have z := JhX m o.1; have A := JhY m o.1
 refine EV func205 ?_
 refine SA ?_
 refine Jal (by omega) ?_
 refine SA ?_
 refine Jal (by omega) ?_
 refine SA ?_
 refine Jal (by omega) ?_
 refine SA ?_
 refine Jal (by omega) ?_
 refine SA ?_
 refine Jab (fun j => ?_) (fun j => ?_)
 . have w : (1000 * (n - 1)).tdiv (1000 + d) + 1 = sLo d n := by unfold sLo; rw [if_pos j, JhR (by omega)]
   have y : (1000 * (n - 1)).tdiv (1000 + d) = sLo d n - 1 := by omega
   simp -implicitDefEqProofs (disch := omega) only [go_sem, u, y, results205]; rw [Int.sub_add_cancel]
 . have w : sLo d n = 0 := by unfold sLo; rw [if_neg j]
   exact SB
abbrev wB (u v : Int) : List (Nat × Blk) := [(362807488, ⟨253, 2, [.agg [I u, I v]]⟩)]
set_option maxHeartbeats 1000000 in
theorem Jfm (u v a b : Int) : LOK prog 204 (inI [362807488]) [.ptr 362807488 2 0 0, I a, I b] (stO (wB u v)) (.tup []) (stO (wB (max u a) (min v b))) := by
  refine JcC [0] [362807488] func204 rfl (by kernel_rfl) mo (nb rfl) rfl (by kernel_rfl) (by kernel_rfl) ?_
  refine SA ?_
  refine JeR (fun D E σ => E 0 = .ptr 362807488 2 0 0 /\ E 1 = I a /\ E 2 = I b /\ (D 19 = true -> D 16 = true) /\ (D 16 = true -> D 5 = true) /\ (D 16 = true -> D 11 = true) /\ (D 16 = false -> σ 362807488 = some ⟨253, 2, [.agg [I u, I v]]⟩) /\ (D 16 = true -> D 19 = false -> σ 362807488 = some ⟨253, 2, [.agg [I (max u a), I v]]⟩) /\ (D 19 = true -> σ 362807488 = some ⟨253, 2, [.agg [I (max u a), I (min v b)]]⟩) /\ (D 0 = true -> E 6 = .ptr 362807488 2 0 0) /\ (D 1 = true -> E 7 = .ptr 362807488 2 0 0) /\ (D 2 = true -> E 8 = .ptr 362807488 2 0 0) /\ (D 3 = true -> E 9 = .ptr 362807488 2 0 0) /\ (D 4 = true -> E 10 = .ptr 362807488 2 0 0) /\ (D 5 = true -> E 11 = I u) /\ (D 6 = true -> E 12 = I a) /\ (D 7 = true -> E 13 = I (max u a)) /\ (D 8 = true -> E 14 = .ptr 362807488 2 0 0) /\ (D 9 = true -> E 15 = .ptr 362807488 2 0 0) /\ (D 10 = true -> E 16 = .ptr 362807488 2 0 1) /\ (D 11 = true -> E 17 = I v) /\ (D 12 = true -> E 18 = I b) /\ (D 13 = true -> E 19 = I (min v b)) /\ (D 14 = true -> E 20 = .ptr 362807488 2 0 0) /\ (D 15 = true -> E 21 = .ptr 362807488 2 0 0) /\ (D 17 = true -> E 22 = .ptr 362807488 2 0 0) /\ (D 18 = true -> E 23 = .ptr 362807488 2 0 1)) ?_ ?_ ?_
  . refine SA ?_; try simp
  . simp only [JfQ, depK, Region.binds, eq_self, forall_const, and_true]
    repeat' apply And.intro
    all_goals
      rintro D E σ ⟨e0, e1, e2, c19_16, c16_5, c16_11, m0_0, m0_1, m0_2, j0, j1, j2, j3, j4, j5, j6, j7, j8, j9, j10, j11, j12, j13, j14, j15, j17, j18⟩ hd
      have k := And.intro trivial <| And.intro (cK c19_16) <| And.intro (cK c16_5) <| And.intro (cK c16_11) trivial
      simp -implicitDefEqProofs (disch := first | assumption | (simp only [hd, k]; done) | omega) only [go_sem, e0, e1, e2, m0_0, m0_1, m0_2, j0, j1, j2, j3, j4, j5, j6, j7, j8, j9, j10, j11, j12, j13, j14, j15, j17, j18, false_and, and_self]
      repeat' apply And.intro
      all_goals first | assumption | (intro _; assumption) | trivial | (simp -implicitDefEqProofs (contextual := true) (disch := first | assumption | omega) only [go_sem, m0_0, m0_1, m0_2, j0, j1, j2, j3, j4, j5, j6, j7, j8, j9, j10, j11, j12, j13, j14, j15, j17, j18, hd, c19_16, c16_5, c16_11, k, implies_true, forall_const, false_implies, true_implies]; done) | (intro h; intros; exfalso; simp (maxDischargeDepth := 9) [hd, k] at h; done) | (intros; contradiction) | trace_state
  . rintro D E σ hD ⟨e0, e1, e2, c19_16, c16_5, c16_11, m0_0, m0_1, m0_2, j0, j1, j2, j3, j4, j5, j6, j7, j8, j9, j10, j11, j12, j13, j14, j15, j17, j18⟩
    have g0 := m0_2 (hD 19 (by decide))
    have q0 := j0 (hD 0 (by decide))
    have q1 := j1 (hD 1 (by decide))
    have q2 := j2 (hD 2 (by decide))
    have q3 := j3 (hD 3 (by decide))
    have q4 := j4 (hD 4 (by decide))
    have q5 := j5 (hD 5 (by decide))
    have q6 := j6 (hD 6 (by decide))
    have q7 := j7 (hD 7 (by decide))
    have q8 := j8 (hD 8 (by decide))
    have q9 := j9 (hD 9 (by decide))
    have q10 := j10 (hD 10 (by decide))
    have q11 := j11 (hD 11 (by decide))
    have q12 := j12 (hD 12 (by decide))
    have q13 := j13 (hD 13 (by decide))
    have q14 := j14 (hD 14 (by decide))
    have q15 := j15 (hD 15 (by decide))
    have q17 := j17 (hD 17 (by decide))
    have q18 := j18 (hD 18 (by decide))
    clear c19_16 c16_5 c16_11 m0_0 m0_1 m0_2 j0 j1 j2 j3 j4 j5 j6 j7 j8 j9 j10 j11 j12 j13 j14 j15 j17 j18 hD; exact SB
theorem JnS (c : Ck) (t : Int) (hc : Jbe c = true) (ht : 0 <= t /\ t <= 10000000) : Ev prog 172 [CKP c, I t] (.agg [I (winF c.d t c.r).1, I (winF c.d t c.r).2]) := by
  obtain ⟨d, l⟩ := c
  obtain ⟨hb, ha⟩ := JdD.1 hc
  have hr := Jia ha
  have hw : winF d t l = (l.take l.length).foldl (Jdw d t) (0, 10000000) := by rw [L0e]; rfl
  simp only at hb hr ⊢
  rw [hw]; clear hw
  refine EV func172 ?_
  refine SA ?_
  refine Jag (fun k E σ => ∃ (i : Nat) (w : Int × Int), i + k = l.length /\ (l.take i).foldl (Jdw d t) (0, 10000000) = w /\ E 1 = I t /\ E 2 = .ptr 362807328 2 0 0 /\ E 4 = .ptr 362807360 2 0 0 /\ E 5 = .ptr 362807488 2 0 0 /\ E 6 = .clo 204 [.v (.tuple #[]), .ptr 362807488 2 0 0] /\ E 16 = RDS l /\ E 17 = I l.length /\ E 18 = I i /\
    σ 362807328 = some ⟨58, 2, [.agg [I d, RDS l]]⟩ /\ σ 362807360 = some ⟨253, 2, [.agg [I 0, I 0]]⟩ /\ σ 362807488 = some ⟨253, 2, [.agg [I w.1, I w.2]]⟩) l.length ⟨0, (0, 10000000), by omega, rfl, ?_⟩ ?_
  . refine SA ?_; try rfl
  rintro k E σ ⟨i, w, hk, hx, e1, e2, e4, e5, e6, e16, e17, e18, m2, m4, m12⟩
  obtain ⟨u, v⟩ := w
  simp only at m12
  refine SA ?_
  refine Jab (fun hc => ?_) (fun hc => ?_)
  . have hi : i < l.length := by omega
    have hri := hr _ (Jan l i hi)
    have htk : (l.take (i + 1)).foldl (Jdw d t) (0, 10000000) = Jdw d t (u, v) (gd l i) := by
      rw [L1a, Jbb l i hi, List.foldl_append, hx]; rfl
    obtain ⟨n, hn⟩ : ∃ n, max (t - (gd l i).l) ((gd l i).l - t) = n := ⟨_, rfl⟩
    have hn0 : 0 <= n /\ n <= 10000000 := by omega
    have hs := JpX d n (by omega) hn0
    have h1 := JhY (d := d) (n := n) (by omega) hn0.1
    have h2 := JhX (d := d) (n := n) (by omega) hn0.1
    refine SA ?_
    refine Jaa hs ?_
    have hst : Jdw d t (u, v) (gd l i) = if t < (gd l i).l then (max u ((gd l i).a - sHi d ((gd l i).l - t)), min v ((gd l i).b - sLo d ((gd l i).l - t)))
      else if t = (gd l i).l then (max u ((gd l i).a - sHi d 0), min v ((gd l i).b + sHi d 0))
      else (max u ((gd l i).a + sLo d (t - (gd l i).l)), min v ((gd l i).b + sHi d (t - (gd l i).l))) := rfl
    have key : ∀ x y a b : Int, x = (gd l i).a + y -> True := fun _ _ _ _ _ => trivial
    generalize hrd : gd l i = r at *; refine SA ?_
    refine Jab (fun h3 => ?_) (fun h3 => ?_)
    . rw [if_pos h3] at hst
      have en : n = r.l - t := by omega
      rw [<- en] at hst; simp -implicitDefEqProofs (disch := omega) only [go_sem, e1, e2, e4, e5, e6, e16, e17, e18, m2, m4, m12]
      refine Jiz [362807488] (bs := [.ptr 362807488 2 0 0]) (xs := [I (r.a + (0 - sHi d n)), I (r.b + (0 - sLo d n))]) (l := wB u v) (l' := wB (max u (r.a + (0 - sHi d n))) (min v (r.b + (0 - sLo d n)))) (Jfm _ _ _ _) ?_ ?_ ?_ ?_ ?_ ?_ ?_
      . simp -implicitDefEqProofs (disch := omega) only [go_sem, e1, e2, e4, e5, e6, e16, e17, e18, m2, m4, m12]
      . simp -implicitDefEqProofs (disch := omega) only [go_sem, e1, e2, e4, e5, e6, e16, e17, e18, m2, m4, m12]
      . simp -implicitDefEqProofs (disch := omega) only [go_sem, e1, e2, e4, e5, e6, e16, e17, e18, m2, m4, m12]
      . simp -implicitDefEqProofs (disch := omega) only [go_sem, e1, e2, e4, e5, e6, e16, e17, e18, m2, m4, m12]
      . simp -implicitDefEqProofs (disch := omega) only [go_sem, e1, e2, e4, e5, e6, e16, e17, e18, m2, m4, m12]
      . simp -implicitDefEqProofs (disch := omega) only [go_sem, e1, e2, e4, e5, e6, e16, e17, e18, m2, m4, m12]
      . refine SA ?_
        refine Jad (l.length - (i + 1)) (by omega) ⟨i + 1, _, by omega, htk, ?_⟩
        rw [hst]; refine SA ?_
        try simp [Int.sub_eq_add_neg]
    . rw [if_neg h3] at hst; refine SA ?_
      refine Jab (fun h4 => ?_) (fun h4 => ?_)
      . rw [if_pos h4] at hst
        have en : n = 0 := by omega
        rw [en] at hs h1 h2 ⊢; simp -implicitDefEqProofs (disch := omega) only [go_sem, e1, e2, e4, e5, e6, e16, e17, e18, m2, m4, m12]
        refine Jiz [362807488] (bs := [.ptr 362807488 2 0 0]) (xs := [I (r.a + (0 - sHi d 0)), I (r.b + sHi d 0)]) (l := wB u v) (l' := wB (max u (r.a + (0 - sHi d 0))) (min v (r.b + sHi d 0))) (Jfm _ _ _ _) ?_ ?_ ?_ ?_ ?_ ?_ ?_
        . simp -implicitDefEqProofs (disch := omega) only [go_sem, e1, e2, e4, e5, e6, e16, e17, e18, m2, m4, m12]
        . simp -implicitDefEqProofs (disch := omega) only [go_sem, e1, e2, e4, e5, e6, e16, e17, e18, m2, m4, m12]
        . simp -implicitDefEqProofs (disch := omega) only [go_sem, e1, e2, e4, e5, e6, e16, e17, e18, m2, m4, m12]
        . simp -implicitDefEqProofs (disch := omega) only [go_sem, e1, e2, e4, e5, e6, e16, e17, e18, m2, m4, m12]
        . simp -implicitDefEqProofs (disch := omega) only [go_sem, e1, e2, e4, e5, e6, e16, e17, e18, m2, m4, m12]
        . simp -implicitDefEqProofs (disch := omega) only [go_sem, e1, e2, e4, e5, e6, e16, e17, e18, m2, m4, m12]
        . simp -implicitDefEqProofs (disch := omega) only [go_sem, e1, e2, e4, e5, e6, e16, e17, e18, m2, m4, m12]
          refine Jad (l.length - (i + 1)) (by omega) ⟨i + 1, _, by omega, htk, ?_⟩
          rw [hst]; refine SA ?_
          try simp [Int.sub_eq_add_neg]
      . rw [if_neg h4] at hst
        have en : n = t - r.l := by omega
        rw [<- en] at hst; simp -implicitDefEqProofs (disch := omega) only [go_sem, e1, e2, e4, e5, e6, e16, e17, e18, m2, m4, m12]
        refine Jiz [362807488] (bs := [.ptr 362807488 2 0 0]) (xs := [I (r.a + sLo d n), I (r.b + sHi d n)]) (l := wB u v) (l' := wB (max u (r.a + sLo d n)) (min v (r.b + sHi d n))) (Jfm _ _ _ _) ?_ ?_ ?_ ?_ ?_ ?_ ?_
        . simp -implicitDefEqProofs (disch := omega) only [go_sem, e1, e2, e4, e5, e6, e16, e17, e18, m2, m4, m12]
        . simp -implicitDefEqProofs (disch := omega) only [go_sem, e1, e2, e4, e5, e6, e16, e17, e18, m2, m4, m12]
        . simp -implicitDefEqProofs (disch := omega) only [go_sem, e1, e2, e4, e5, e6, e16, e17, e18, m2, m4, m12]
        . simp -implicitDefEqProofs (disch := omega) only [go_sem, e1, e2, e4, e5, e6, e16, e17, e18, m2, m4, m12]
        . simp -implicitDefEqProofs (disch := omega) only [go_sem, e1, e2, e4, e5, e6, e16, e17, e18, m2, m4, m12]
        . simp -implicitDefEqProofs (disch := omega) only [go_sem, e1, e2, e4, e5, e6, e16, e17, e18, m2, m4, m12]
        . refine SA ?_
          refine Jad (l.length - (i + 1)) (by omega) ⟨i + 1, _, by omega, htk, ?_⟩
          rw [hst]; refine SA ?_
          try simp [Int.sub_eq_add_neg]
  . obtain rfl : i = l.length := by omega
    simp -implicitDefEqProofs (disch := omega) only [go_sem, e1, e2, e4, e5, e6, e16, e17, e18, m2, m4, m12, results172]; rw [L0e] at hx; rw [hx]
abbrev atV (o : Option (Int × Int)) : AV := match o with
 | some w => .tup [I w.1, I w.2, I 0]
 | none => .tup [I 0, I 0, I 50]
theorem JBd (c : Ck) (t : Int) (A : c.r.length <= 9223372036854775807) : Ev prog 129 [CKP c, I t] (atV (atF c t)) := by
 have C := Jhp c A
 have y := fun z B => JnS c t z B
 have j : atF c t = if Jbe c = true /\ (0 <= t /\ t <= 10000000) /\ (winF c.d t c.r).1 <= (winF c.d t c.r).2 then some (winF c.d t c.r) else none := rfl
 obtain ⟨d, l⟩ := c; generalize winF (Ck.mk d l).d t (Ck.mk d l).r = w at *; generalize Jbe ⟨d, l⟩ = b at *; generalize atF ⟨d, l⟩ t = q at *
 refine EV func129 ?_
 simp -implicitDefEqProofs (disch := omega) only [go_sem]
 refine Jaa C ?_
 cases b with
 | false =>
  rw [if_neg (fun h => by cases h.1)] at j
  subst j; simp -implicitDefEqProofs (disch := omega) only [go_sem, results129]
 | true =>
  simp -implicitDefEqProofs (disch := omega) only [go_sem]
  refine Jab (fun m => ?_) (fun m => ?_)
  . rw [if_neg (fun h => by omega)] at j
    subst j; simp -implicitDefEqProofs (disch := omega) only [go_sem, results129]
  simp -implicitDefEqProofs (disch := omega) only [go_sem]
  refine Jab (fun o => ?_) (fun o => ?_)
  . rw [if_neg (fun h => by omega)] at j
    subst j; simp -implicitDefEqProofs (disch := omega) only [go_sem, results129]
  simp -implicitDefEqProofs (disch := omega) only [go_sem]
  refine Jaa (y rfl (by omega)) ?_
  simp -implicitDefEqProofs (disch := omega) only [go_sem]
  refine Jab (fun u => ?_) (fun u => ?_)
  . rw [if_neg (fun h => by omega)] at j
    subst j; simp -implicitDefEqProofs (disch := omega) only [go_sem, results129]
  . rw [if_pos ⟨rfl, by omega, by omega⟩] at j
    subst j; simp -implicitDefEqProofs (disch := omega) only [go_sem, results129]
theorem Jcn (c n : Int) (j : R64 c) (u : 0 < n) : Ev prog 92 [I c, I n] (I (Jaf c n)) := by
 obtain ⟨m, o⟩ := j
 refine EV func92 ?_
 refine SA ?_
 refine Jab (fun h => ?_) (fun h => ?_) <;> simp -implicitDefEqProofs (disch := omega) only [go_sem, results92]
 . rw [show (0 - (c+1)) = -(c+1) from by omega]; simp [Jaf, h]
 . simp [Jaf, h]
theorem Jow (d x n : Int) (D : 0 <= d /\ d <= 100) (m : 0 <= x /\ x <= 100000000) (E : 0 <= n /\ n <= 10000000) : Ev prog 211 [I d, I x, I n] (B (decide (Fit d x n))) := by
 have y : 0 <= (1000 - d) * x /\ (1000 - d) * x <= 1000 * 100000000 := ⟨L1f (by omega) m.1, Int.mul_le_mul (by omega) m.2 m.1 (by omega)⟩
 have A : 0 <= (1000 + d) * x /\ (1000 + d) * x <= 1100 * 100000000 := ⟨L1f (by omega) m.1, Int.mul_le_mul (by omega) m.2 m.1 (by omega)⟩
 obtain ⟨p, o⟩ : ∃ p, (1000 - d) * x = p := ⟨_, rfl⟩
 obtain ⟨q, u⟩ : ∃ q, (1000 + d) * x = q := ⟨_, rfl⟩
 obtain ⟨z, w⟩ : ∃ z, decide (Fit d x n) = z := ⟨_, rfl⟩
 have j : z = true ↔ p - 1000 < 1000 * n /\ 1000 * n < q + 1000 := by
  rw [<- w, decide_eq_true_iff, <- o, <- u]; exact Iff.rfl
 rw [o] at y; rw [u] at A; rw [w]
 refine EV func211 ?_
 simp -implicitDefEqProofs (disch := omega) only [go_sem, o]
 refine Jab (fun h => ?_) (fun h => ?_)
 . simp -implicitDefEqProofs (disch := omega) only [go_sem, o, u, results211]
   cases z with
   | true => rw [decide_eq_true (j.1 rfl).2]
   | false => rw [decide_eq_false (fun C => by have := j.2 ⟨h, C⟩; cases this)]
 . simp -implicitDefEqProofs (disch := omega) only [go_sem, results211]
   cases z with
   | true => exact absurd (j.1 rfl).1 h
   | false => rfl
theorem Jfx (d n : Int) (hd : 0 <= d /\ d <= 100) (hn : 0 <= n /\ n <= 10000000) : Ev prog 182 [I d, I n] (.tup [I (sLo d n), I (sHi d n)]) := by
 have b1 := JhX hd hn.1; have b2 := JhY hd hn.1; have b3 := Jnk hd hn.1
 -- where the first search begins
 obtain ⟨a, ha⟩ : ∃ a, max ((1000 * (n - 1)).tdiv (1000 + d) - 1) 0 = a := ⟨_, rfl⟩
 have ha0 : 0 <= a /\ a <= sLo d n := by
  unfold sLo
  split
  . rw [JhR (by omega)] at ha
    have : 0 <= 1000 * (n - 1) / (1000 + d) := L1k (by omega) (by omega)
    omega
  . have : (1000 * (n - 1)).tdiv (1000 + d) <= 0 := by
     rw [show n = 0 by omega, show (1000 * (0 - 1) : Int) = -1000 from rfl, Int.neg_tdiv]
     have := Int.tdiv_nonneg (a := 1000) (b := 1000 + d) (by omega) (by omega)
     omega
    omega
 have hq1 : -1000 <= (1000 * (n - 1)).tdiv (1000 + d) /\ (1000 * (n - 1)).tdiv (1000 + d) <= 10000000 := by
  rcases Int.lt_or_le n 1 with h | h
  . rw [show n = 0 by omega, show (1000 * (0 - 1) : Int) = -1000 from rfl, Int.neg_tdiv, JhR (by omega)]
    have h1 := L1k (a := 1000) (b := 1000 + d) (by omega) (by omega)
    have h2 := L2d (a := 1000) (1000 + d) (by omega)
    omega
  . rw [JhR (by omega)]
    have h1 := L1k (a := 1000 * (n - 1)) (b := 1000 + d) (by omega) (by omega)
    have h2 : 1000 * (n - 1) / (1000 + d) <= n - 1 := by
     refine L2p (by omega) ?_
     have : 0 <= (n - 1) * d := L1f (by omega) hd.1
     rw [L1X]; omega
    omega
 obtain ⟨m, hm⟩ : ∃ m, max ((1000 * n).tdiv (1000 - d) - 1) (sLo d n) = m := ⟨_, rfl⟩
 have hq2 : 0 <= (1000 * n).tdiv (1000 - d) /\ (1000 * n).tdiv (1000 - d) <= sHi d n := by
  rw [JhR (by omega)]
  refine ⟨L1k (by omega) (by omega), ?_⟩
  unfold sHi
  exact Int.ediv_le_ediv (by omega) (by omega)
 have hm0 : sLo d n <= m /\ m <= sHi d n := by omega
 refine EV func182 ?_
 simp -implicitDefEqProofs (disch := omega) only [go_sem]
 refine Jal (by omega) ?_
 simp -implicitDefEqProofs (disch := omega) only [go_sem]
 refine Jal (by omega) ?_
 simp -implicitDefEqProofs (disch := omega) only [go_sem]
 refine Jal (by omega) ?_
 simp -implicitDefEqProofs (disch := omega) only [go_sem]
 refine Jal (by omega) ?_
 simp -implicitDefEqProofs (disch := omega) only [go_sem, ha]
 refine Jag (fun k E σ => ∃ x, a <= x /\ x <= sLo d n /\ k = (sLo d n - x).toNat /\ E 0 = I d /\ E 1 = I n /\ E 6 = I x) (sLo d n - a).toNat ⟨a, by omega, by omega, rfl, ?_⟩ ?_
 . simp -implicitDefEqProofs (disch := omega) only [go_sem]
 rintro k E σ ⟨x, hx1, hx2, hk, e0, e1, e6⟩
 simp -implicitDefEqProofs (disch := omega) only [go_sem, e0, e1, e6]
 refine Jaa (Jow d x n hd (by omega) hn) ?_
 by_cases hx : x = sLo d n
 . subst hx
   rw [decide_eq_true ((Jip hd (by omega) hn.1).2 (by omega))]
   simp -implicitDefEqProofs (disch := omega) only [go_sem, e0, e1, e6, hm]
   refine Jag (fun k E σ => ∃ x, m <= x /\ x <= sHi d n /\ k = (sHi d n - x).toNat /\ E 0 = I d /\ E 1 = I n /\ E 6 = I (sLo d n) /\ E 7 = I x) (sHi d n - m).toNat ⟨m, by omega, by omega, rfl, ?_⟩ ?_
   . simp -implicitDefEqProofs (disch := omega) only [go_sem, e0, e1, e6]
   clear e0 e1 e6 E σ
   rintro k E σ ⟨x, hx1, hx2, hk, e0, e1, e6, e7⟩
   simp -implicitDefEqProofs (disch := omega) only [go_sem, e0, e1, e6, e7]
   refine Jaa (Jow d (x + 1) n hd (by omega) hn) ?_
   by_cases hx : x = sHi d n
   . subst hx
     rw [decide_eq_false (fun h => by have := (Jip hd (by omega) hn.1).1 h; omega)]
     simp -implicitDefEqProofs (disch := omega) only [go_sem, e0, e1, e6, e7, results182]
   . rw [decide_eq_true ((Jip hd (by omega) hn.1).2 (by omega))]
     simp -implicitDefEqProofs (disch := omega) only [go_sem, e0, e1, e6, e7]
     refine Jad (sHi d n - (x + 1)).toNat (by omega) ⟨x + 1, by omega, by omega, rfl, ?_⟩
     simp -implicitDefEqProofs (disch := omega) only [go_sem, e0, e1, e6, e7]
 . rw [decide_eq_false (fun h => by have := (Jip hd (by omega) hn.1).1 h; omega)]
   simp -implicitDefEqProofs (disch := omega) only [go_sem, e0, e1, e6]
   refine Jad (sLo d n - (x + 1)).toNat (by omega) ⟨x + 1, by omega, by omega, rfl, ?_⟩
   simp -implicitDefEqProofs (disch := omega) only [go_sem, e0, e1, e6]
theorem Jgr (c : Ck) (P : c.r.length <= 9223372036854775807) : Ev prog 111 [CKP c] (B (Jbe c)) := by
 obtain ⟨d, l⟩ := c
 refine EV func111 ?_
 refine SA ?_; unfold Jbe
 simp only at P ⊢
 refine Jab (fun A => ?_) (fun A => ?_)
 . simp -implicitDefEqProofs (disch := omega) only [go_sem, A, results111]
   rw [decide_eq_false (by omega)]
   rfl
 simp -implicitDefEqProofs (disch := omega) only [go_sem]
 refine Jab (fun C => ?_) (fun C => ?_)
 . simp -implicitDefEqProofs (disch := omega) only [go_sem, C, results111]
   rw [decide_eq_false (by omega)]
   rfl
 simp -implicitDefEqProofs (disch := omega) only [go_sem]
 refine Jab (fun D => ?_) (fun D => ?_)
 . simp -implicitDefEqProofs (disch := omega) only [go_sem, D, results111]
   rw [decide_eq_false (by omega)]
   rfl
 refine SA ?_
 rw [decide_eq_true ⟨by omega, by omega, by omega⟩, L0d]
 refine Jag (fun k E K => ∃ (i : Nat) (m : Int), i + k = l.length /\ -1 <= m /\ m = (if i = 0 then -1 else (gd l (i - 1)).l) /\ ascR (-1) l = ascR m (l.drop i) /\ E 1 = .ptr 234881040 2 0 0 /\ E 3 = I i /\ K 234881040 = some ⟨58, 2, [.agg [I d, RDS l]]⟩) l.length ⟨0, -1, by omega, by omega, rfl, rfl, ?_⟩ ?_
 . refine SA ?_; try rfl
 rintro k E K ⟨i, m, Q, R, y, j, o, u, w⟩
 simp -implicitDefEqProofs (disch := omega) only [go_sem, o, u, w]
 refine Jab (fun M => ?_) (fun M => ?_)
 . have N : i < l.length := by omega
   rw [Jaz l i N, ascR] at j
   have F : (gd l i).l = (if i + 1 = 0 then -1 else (gd l (i + 1 - 1)).l) := by rw [if_neg (by omega), L0W]
   generalize z : gd l i = r at *; simp -implicitDefEqProofs (disch := omega) only [go_sem, o, u, w, z]
   refine Jab (fun A => ?_) (fun A => ?_)
   . rw [decide_eq_false (by omega), L04] at j
     simp -implicitDefEqProofs (disch := omega) only [go_sem, A, j, results111]
   simp -implicitDefEqProofs (disch := omega) only [go_sem, o, u, w, z]
   refine Jab (fun C => ?_) (fun C => ?_)
   . rw [decide_eq_false (by omega), L04] at j
     simp -implicitDefEqProofs (disch := omega) only [go_sem, C, j, results111]
   simp -implicitDefEqProofs (disch := omega) only [go_sem, o, u, w, z]
   refine Jab (fun D => ?_) (fun D => ?_)
   . rw [decide_eq_false (by omega), L04] at j
     simp -implicitDefEqProofs (disch := omega) only [go_sem, D, j, results111]
   simp -implicitDefEqProofs (disch := omega) only [go_sem, o, u, w, z]
   refine Jab (fun G => ?_) (fun G => ?_)
   . rw [decide_eq_false (by omega), L04] at j
     simp -implicitDefEqProofs (disch := omega) only [go_sem, G, j, results111]
   simp -implicitDefEqProofs (disch := omega) only [go_sem, o, u, w, z]
   refine Jab (fun H => ?_) (fun H => ?_)
   . rw [decide_eq_false (by omega), L04] at j
     simp -implicitDefEqProofs (disch := omega) only [go_sem, H, j, results111]
   simp -implicitDefEqProofs (disch := omega) only [go_sem, o, u, w, z]
   refine Jab (fun L => ?_) (fun L => ?_)
   . rw [if_neg (by omega)] at y
     have O : ((i : Int) - 1).toNat = i - 1 := by omega
     simp -implicitDefEqProofs (disch := omega) only [go_sem, o, u, w, z, O]
     refine Jab (fun J => ?_) (fun J => ?_)
     . rw [decide_eq_false (by omega), L04] at j
       simp -implicitDefEqProofs (disch := omega) only [go_sem, J, j, results111]
     . rw [decide_eq_true ⟨by omega, by omega, by omega, by omega, by omega⟩, L0d] at j
       simp -implicitDefEqProofs (disch := omega) only [go_sem, o, u, w, z]
       refine Jad (l.length - (i + 1)) (by omega) ⟨i + 1, r.l, by omega, by omega, F, j, ?_⟩
       simp -implicitDefEqProofs (disch := omega) only [go_sem, o, u, w, z]; try rfl
   . rw [if_pos (by omega)] at y
     rw [decide_eq_true ⟨by omega, by omega, by omega, by omega, by omega⟩, L0d] at j
     simp -implicitDefEqProofs (disch := omega) only [go_sem, o, u, w, z]
     refine Jad (l.length - (i + 1)) (by omega) ⟨i + 1, r.l, by omega, by omega, F, j, ?_⟩
     simp -implicitDefEqProofs (disch := omega) only [go_sem, o, u, w, z]; try rfl
 . obtain rfl : i = l.length := by omega
   rw [L0C, ascR] at j; simp -implicitDefEqProofs (disch := omega) only [go_sem, o, u, w, j, results111]
theorem Jn4 (c : Ck) (t : Int) (H : Jbe c = true) (V : 0 <= t /\ t <= 10000000) : Ev prog 143 [CKP c, I t] (.tup [I (winF c.d t c.r).1, I (winF c.d t c.r).2]) := by
 obtain ⟨d, l⟩ := c
 obtain ⟨S, R⟩ := JdD.1 H
 have M := Jia R
 have N : winF d t l = (l.take l.length).foldl (Jdw d t) (0, 10000000) := by rw [L0e]; rfl
 simp only at S M ⊢
 rw [N]; clear N
 refine EV func143 ?_
 refine SA ?_
 refine Jag (fun k E O => ∃ (i : Nat) (w : Int × Int), i + k = l.length /\ (l.take i).foldl (Jdw d t) (0, 10000000) = w /\ E 1 = I t /\ E 2 = .ptr 301989920 2 0 0 /\ E 6 = I w.1 /\ E 7 = I w.2 /\ E 8 = I i /\ O 301989920 = some ⟨58, 2, [.agg [I d, RDS l]]⟩) l.length ⟨0, (0, 10000000), by omega, rfl, ?_⟩ ?_
 . refine SA ?_; try rfl
 rintro k E O ⟨i, w, U, J, y, z, m, o, A, C⟩
 obtain ⟨u, v⟩ := w
 simp only at m o
 refine SA ?_
 refine Jab (fun H => ?_) (fun H => ?_)
 . have L : i < l.length := by omega
   have T := M _ (Jan l i L)
   have D : (l.take (i + 1)).foldl (Jdw d t) (0, 10000000) = Jdw d t (u, v) (gd l i) := by
    rw [L1a, Jbb l i L, List.foldl_append, J]; rfl
   have B : Jdw d t (u, v) (gd l i) = if t < (gd l i).l then (max u ((gd l i).a - sHi d ((gd l i).l - t)), min v ((gd l i).b - sLo d ((gd l i).l - t)))
    else if t = (gd l i).l then (max u ((gd l i).a - sHi d 0), min v ((gd l i).b + sHi d 0))
    else (max u ((gd l i).a + sLo d (t - (gd l i).l)), min v ((gd l i).b + sHi d (t - (gd l i).l))) := rfl
   generalize j : gd l i = r at *; refine SA ?_
   refine Jab (fun G => ?_) (fun G => ?_)
   . rw [if_neg (by omega), if_pos G] at B
     have F := Jfx d 0 (by omega) (by omega)
     have K := JhX (d := d) (n := 0) (by omega) (by omega)
     simp -implicitDefEqProofs (disch := omega) only [go_sem, y, z, m, o, A, C, j]
     refine Jaa F ?_
     simp -implicitDefEqProofs (disch := omega) only [go_sem, y, z, m, o, A, C, j]
     refine Jad (l.length - (i + 1)) (by omega) ⟨i + 1, _, by omega, D, ?_⟩
     rw [B]; refine SA ?_; try rfl
   . refine SA ?_
     refine Jab (fun Q => ?_) (fun Q => ?_)
     . rw [if_neg (by omega), if_neg G] at B
       have F := Jfx d (t - r.l) (by omega) (by omega)
       have K := JhX (d := d) (n := t - r.l) (by omega) (by omega)
       have P := JhY (d := d) (n := t - r.l) (by omega) (by omega)
       refine SA ?_
       refine Jaa F ?_
       refine SA ?_
       refine Jad (l.length - (i + 1)) (by omega) ⟨i + 1, _, by omega, D, ?_⟩
       rw [B]; refine SA ?_; try rfl
     . rw [if_pos (by omega)] at B
       have F := Jfx d (r.l - t) (by omega) (by omega)
       have K := JhX (d := d) (n := r.l - t) (by omega) (by omega)
       have P := JhY (d := d) (n := r.l - t) (by omega) (by omega)
       refine SA ?_
       refine Jaa F ?_
       refine SA ?_
       refine Jad (l.length - (i + 1)) (by omega) ⟨i + 1, _, by omega, D, ?_⟩
       rw [B]; simp -implicitDefEqProofs (disch := omega) only [go_sem, y, z, m, o, A, C, j]; try rfl
 . obtain rfl : i = l.length := by omega
   simp -implicitDefEqProofs (disch := omega) only [go_sem, y, z, m, o, A, C, results143]; rw [L0e] at J; rw [J]
theorem Jsi (c : Ck) (t : Int) (A : c.r.length <= 9223372036854775807) : Ev prog 94 [CKP c, I t] (atV (atF c t)) := by
 have C := Jgr c A
 have y := fun z B => Jn4 c t z B
 have j : atF c t = if Jbe c = true /\ (0 <= t /\ t <= 10000000) /\ (winF c.d t c.r).1 <= (winF c.d t c.r).2 then some (winF c.d t c.r) else none := rfl
 obtain ⟨d, l⟩ := c; generalize winF (Ck.mk d l).d t (Ck.mk d l).r = w at *; generalize Jbe ⟨d, l⟩ = b at *; generalize atF ⟨d, l⟩ t = q at *
 refine EV func94 ?_
 simp -implicitDefEqProofs (disch := omega) only [go_sem]
 refine Jaa C ?_
 cases b with
 | false =>
  rw [if_neg (fun h => by cases h.1)] at j
  subst j; simp -implicitDefEqProofs (disch := omega) only [go_sem, results94]
 | true =>
  simp -implicitDefEqProofs (disch := omega) only [go_sem]
  refine Jab (fun m => ?_) (fun m => ?_)
  . rw [if_neg (fun h => by omega)] at j
    subst j; simp -implicitDefEqProofs (disch := omega) only [go_sem, results94]
  simp -implicitDefEqProofs (disch := omega) only [go_sem]
  refine Jab (fun o => ?_) (fun o => ?_)
  . rw [if_neg (fun h => by omega)] at j
    subst j; simp -implicitDefEqProofs (disch := omega) only [go_sem, results94]
  simp -implicitDefEqProofs (disch := omega) only [go_sem]
  refine Jaa (y rfl (by omega)) ?_
  simp -implicitDefEqProofs (disch := omega) only [go_sem]
  refine Jab (fun u => ?_) (fun u => ?_)
  . rw [if_neg (fun h => by omega)] at j
    subst j; simp -implicitDefEqProofs (disch := omega) only [go_sem, results94]
  . rw [if_pos ⟨rfl, by omega, by omega⟩] at j
    subst j; simp -implicitDefEqProofs (disch := omega) only [go_sem, results94]
abbrev T3 : Type := Int × Int × Int
abbrev QT (q : T3) : AV := .agg [I q.1, I q.2.1, I q.2.2]
abbrev QTS (l : List T3) : AV := .sl 3 (l.map QT)
def T3ok (q : T3) : Prop := R64 q.1 /\ R64 q.2.1 /\ R64 q.2.2
section
variable (p : Nat -> Bool) (l : List T3)
@[go_sem] theorem JxL : AV.namesL p (l.map QT) = false := Jam p l QT fun _ => rfl
@[go_sem] theorem JzH : AV.flatL (l.map QT) = true := Ja5 l QT fun _ => rfl
@[go_sem] theorem JyT : JbH 3 (l.map QT) = true := JaD 3 l QT fun _ => ⟨rfl, rfl⟩
end
theorem Jlm {d : Int} (j : 0 <= d /\ d <= 100) (rates : List Int) (t : Int) (m : 0 <= t) : ∀ k : Nat, -(10000 * (k : Int)) <= sumB d rates t k /\ sumB d rates t k <= 10000 * k
 | 0 => by simp [sumB]
 | k + 1 => by
  have y := Jlm j rates t m k
  have w := Jai (c := gd rates k) (n := 2 * d + 1) (by omega)
  rw [sumB]
  split
  . have o : (Jaf (gd rates k) (2 * d + 1) - d) * min (t - 100 * k) 100 <= 100 * 100 := by
     refine Int.le_trans (L1Y (c := min (t - 100 * k) 100) (show Jaf (gd rates k) (2 * d + 1) - d <= 100 by omega) (by omega)) ?_
     exact L2q (by omega) (by omega)
    have u : -(100 * 100) <= (Jaf (gd rates k) (2 * d + 1) - d) * min (t - 100 * k) 100 := by
     have := L1Y (c := min (t - 100 * k) 100) (show (-100 : Int) <= Jaf (gd rates k) (2 * d + 1) - d by omega) (by omega)
     omega
    omega
  . omega
theorem Jkc (d : Int) (rates : List Int) (t : Int) {i : Nat} (hi : t <= 100 * i) : ∀ m : Nat, sumB d rates t (i + m) = sumB d rates t i
 | 0 => rfl
 | m + 1 => by rw [<- L0O, sumB, if_neg (by omega), Jkc d rates t hi m, Int.add_zero]
theorem Jmj (drift start : Int) (rates : List Int) (t : Int) (hd : R64 drift) (hs : R64 start) (hr : ∀ r ∈ rates, R64 r) (hl : rates.length <= 9223372036854775807) (ht : 0 <= t /\ t <= 1000000) :
    Ev prog 93 [I drift, I start, SL rates, I t] (I (JbP (Jaf drift 101) start rates t)) := by
  have hd1 := Jai (c := drift) (n := 101) (by omega)
  have hs1 := Jai (c := start) (n := 1000) (by omega)
  have c1 := Jcn drift 101 hd (by omega)
  have c2 := Jcn start 1000 hs (by omega)
  have hsh : JbP (Jaf drift 101) start rates t = Jaf start 1000 + (sumA (Jaf drift 101) rates t + 1000 * t) / 1000 := rfl
  have hmd := (JiB (d := Jaf drift 101) (by omega) rates (L1M 0) ht.1).1
  rw [JiC] at hmd
  have hmp : 0 <= (1000 - Jaf drift 101) * (t - 0) := L1f (by omega) (by omega)
  have hmil : milF (Jaf drift 101) rates t = sumA (Jaf drift 101) rates t + 1000 * t := rfl
  rw [hsh]; generalize Jaf drift 101 = d at *; generalize Jaf start 1000 = s at *
  refine EV func93 ?_
  refine SA ?_
  refine Jaa c1 ?_
  simp -implicitDefEqProofs (disch := omega) only [go_sem]
  refine Jag (fun k E σ => ∃ i : Nat, i + k = 20 /\ i <= rates.length /\ E 1 = I start /\ E 2 = SL rates /\ E 3 = I t /\ E 9 = I d /\ E 10 = I (sumB d rates t i) /\ E 11 = I i) 20 ⟨0, by omega, by omega, ?_⟩ ?_
  . simp -implicitDefEqProofs (disch := omega) only [go_sem, sumB]; try rfl
  rintro k E σ ⟨i, hk, hi, e1, e2, e3, e9, e10, e11⟩
  have hb := Jlm (d := d) (by omega) rates t ht.1 i
  have fin : (rates.length <= i \/ 20 <= i \/ t <= 100 * i) -> sumB d rates t i = sumA d rates t := fun h => by
    unfold sumA
    rcases h with h | h | h
    . rw [show i = min rates.length 20 by omega]
    . rw [show i = min rates.length 20 by omega]
    . obtain ⟨m, hm⟩ : ∃ m, min rates.length 20 = i + m := ⟨min rates.length 20 - i, by omega⟩
      rw [hm, Jkc d rates t h m]
  have done : sumB d rates t i = sumA d rates t -> (sumB d rates t i + 1000 * t).tdiv 1000 = (sumA d rates t + 1000 * t) / 1000 := fun h => by
    rw [h, L1j (by omega)]
  refine SA ?_
  refine Jab (fun h1 => ?_) (fun h1 => ?_)
  . refine SA ?_
    refine Jab (fun h2 => ?_) (fun h2 => ?_)
    . refine SA ?_
      refine Jab (fun h3 => ?_) (fun h3 => ?_)
      . have hp := Jai (c := gd rates i) (n := 2 * d + 1) (by omega)
        have c3 := Jcn (gd rates i) (2 * d + 1) (hr _ (Jan rates i (by omega))) (by omega)
        have hn : sumB d rates t (i + 1) = sumB d rates t i + (Jaf (gd rates i) (2 * d + 1) - d) * min (t - 100 * i) 100 := by rw [sumB, if_pos (by omega)]
        have hb2 := Jlm (d := d) (by omega) rates t ht.1 (i + 1)
        obtain ⟨x, hx⟩ : ∃ x, (Jaf (gd rates i) (2 * d + 1) - d) * min (t - 100 * i) 100 = x := ⟨_, rfl⟩
        rw [hx] at hn; generalize Jaf (gd rates i) (2 * d + 1) = y at *
        have hw : IntKind.i64.wrap ((y - d) * min (t - 100 * i) 100) = x := by rw [hx]; exact Jcr (by omega)
        refine SA ?_
        refine Jaa c3 ?_
        refine SA ?_
        refine Jad (20 - (i + 1)) (by omega) ⟨i + 1, by omega, by omega, ?_⟩
        rw [hn]; refine SA ?_; try rfl
      . have hf := fin (.inr (.inr (by omega)))
        have hdn := done hf; simp -implicitDefEqProofs (disch := omega) only [go_sem, e1, e2, e3, e9, e10, e11]
        refine Jaa c2 ?_
        simp -implicitDefEqProofs (disch := omega) only [go_sem, hdn, results93]
    . have hf := fin (.inr (.inl (by omega)))
      have hdn := done hf; simp -implicitDefEqProofs (disch := omega) only [go_sem, e1, e2, e3, e9, e10, e11]
      refine Jaa c2 ?_
      simp -implicitDefEqProofs (disch := omega) only [go_sem, hdn, results93]
  . have hf := fin (.inl (by omega))
    have hdn := done hf; simp -implicitDefEqProofs (disch := omega) only [go_sem, e1, e2, e3, e9, e10, e11]
    refine Jaa c2 ?_
    simp -implicitDefEqProofs (disch := omega) only [go_sem, hdn, results93]
def mkC (j m : Int) (rates : List Int) (at_ : List T3) (d : Int) (T : Nat) (l : List Rd) (E : Env) (σ : Jac) : Prop :=
 E 0 = I j /\ E 1 = I m /\ E 2 = SL rates /\ E 3 = QTS at_ /\ E 8 = .ptr 115343488 2 0 0 /\ E 9 = .ptr 115343504 2 0 0 /\ E 10 = I T /\
  σ 115343488 = some ⟨58, 2, [.agg [I 0, .v (.slice none 0 0)]]⟩ /\ σ 115343504 = some ⟨58, 2, [.agg [I d, .own 115343505 3 0 l.length]]⟩ /\ σ 115343505 = some ⟨152, 3, l.map RDP⟩
theorem Jpy (l : List Rd) (s : Int) : (l = [] \/ (gd l (l.length - 1)).l < s) ↔ (l.length = 0 \/ (0 < l.length /\ (gd l (l.length - 1)).l < s)) := by
 cases l with
 | nil => simp
 | cons a l => simp
set_option maxHeartbeats 4000000 in
theorem Jw0 (m j : Int) (rates : List Int) (at_ : List T3) (hd : R64 m) (hs : R64 j) (hr : ∀ r ∈ rates, R64 r) (hl : rates.length <= 9223372036854775807) (ha : ∀ q ∈ at_, T3ok q) (ai : at_.length <= 9223372036854775807) :
 Ev prog 54 [I m, I j, SL rates, QTS at_] (CKP (clkF m j rates at_)) := by
 have ak := Jai (c := m) (n := 101) (by omega)
 have c1 := Jcn m 101 hd (by omega)
 have af := fun t (X : 0 <= t /\ t <= 1000000) => Jmj m j rates t hd hs hr hl X
 have an := fun t (X : 0 <= t) => JdR (d := Jaf m 101) (by omega) j rates X
 have S := fun T (hT : T <= 3000) => JgM (Jaf m 101) j rates at_ (by omega) T hT
 have W := fun (t : Nat) (l : List Rd) (X : t < 3000) (hg : Good (Jaf m 101) j rates l) (i : Nat) => JiN (Jaf m 101) j rates at_ (by omega) X hg i
 have Q : clkF m j rates at_ = ⟨Jaf m 101, Jdc (Jaf m 101) j rates at_ 3000⟩ := rfl
 rw [Q]; clear Q; generalize Jaf m 101 = d at *
 refine EW [2, 13] func54 ?_
 simp -implicitDefEqProofs (disch := omega) only [go_sem]
 refine Jaa c1 ?_
 simp -implicitDefEqProofs (disch := omega) only [go_sem]
 refine Jbo 115343504 115343505 0 1 152 3 (k := ⟨58, 2, [.agg [I d, .v (.slice none 0 0)]]⟩) (el := .agg [I d, .v (.slice none 0 0)]) (by simp -implicitDefEqProofs (disch := omega) only [go_sem]) (by decide) rfl rfl (by simp) (by simp -implicitDefEqProofs (disch := omega) only [go_sem]) rfl ?_
 refine JeQ Plain.mono ?_
 simp -implicitDefEqProofs (disch := omega) only [go_sem]
 refine Jag (fun k E N => ∃ T : Nat, T + k = 3000 /\ mkC m j rates at_ d T (Jdc d j rates at_ T) E N) 3000 ⟨0, by omega, ?_⟩ ?_
 . simp -implicitDefEqProofs (disch := omega) only [go_sem, Jdc, mkC, false_and]; try rfl
 rintro k E N ⟨T, hk, z, A, B, C, D, F, o, G, w, y⟩
 obtain ⟨aa, ah⟩ := S T (by omega)
 have ag := Jof at_ T (min at_.length 12); simp -implicitDefEqProofs (disch := omega) only [go_sem, z, A, B, C, D, F, o, G, w, y, false_and]
 refine Jab (fun hc => ?_) (fun hc => ?_)
 . have hT : T < 3000 := by omega
   have ab : Jdc d j rates at_ (T + 1) = rowR d j rates at_ T (Jdc d j rates at_ T) (min at_.length 12) := rfl
   have ae := W T (Jdc d j rates at_ T) hT aa
   have ad : ∀ i, rowR d j rates at_ T (Jdc d j rates at_ T) (i + 1) = putR d j rates T (rowR d j rates at_ T (Jdc d j rates at_ T) i) (gd at_ i) := fun _ => rfl
   have ac : rowR d j rates at_ T (Jdc d j rates at_ T) 0 = Jdc d j rates at_ T := rfl
   generalize P : Jdc d j rates at_ (T + 1) = M' at *; generalize Jdc d j rates at_ T = M at *; simp -implicitDefEqProofs (disch := omega) only [go_sem, z, A, B, C, D, F, o, G, w, y, false_and]
   refine Jag (fun k E N => ∃ i : Nat, i + k = 12 /\ i <= at_.length /\ E 11 = I i /\ mkC m j rates at_ d T (rowR d j rates at_ T M i) E N) 12 ⟨0, by omega, by omega, ?_⟩ ?_
   . simp -implicitDefEqProofs (disch := omega) only [go_sem, ac, mkC, z, A, B, C, D, F, o, G, w, y]; try rfl
   clear z A B C D F o G w y E N
   rintro k' E N ⟨i, ao, am, u, z, A, B, C, D, F, o, G, w, y⟩
   obtain ⟨al, ap⟩ := ae i
   have aj : cntE at_ T i <= i := by
    have : ∀ i, cntE at_ T i <= i := fun i => by
     induction i with
     | zero => exact L0a _
     | succ i ih => rw [cntE]; split <;> omega
    exact this i
   have K := ad i
   have O : i = 12 \/ i = at_.length -> rowR d j rates at_ T M i = M' := fun h => by
    rw [ab]; congr 1; omega
   generalize hR : rowR d j rates at_ T M i = R at *; simp -implicitDefEqProofs (disch := omega) only [go_sem, z, A, B, C, D, F, o, u, G, w, y, false_and]
   refine Jab (fun h1 => ?_) (fun h1 => ?_)
   . simp -implicitDefEqProofs (disch := omega) only [go_sem, z, A, B, C, D, F, o, u, G, w, y, false_and]
     refine Jab (fun Y => ?_) (fun Y => ?_)
     . obtain ⟨q1, q2, q3⟩ := ha _ (Jan at_ i (by omega))
       have p1 := Jai (c := (gd at_ i).1) (n := 3000) (by omega)
       have p2 := Jai (c := (gd at_ i).2.1) (n := 51) (by omega)
       have p3 := Jai (c := (gd at_ i).2.2) (n := 51) (by omega)
       have d1 := Jcn (gd at_ i).1 3000 q1 (by omega)
       have d2 := Jcn (gd at_ i).2.1 51 q2 (by omega)
       have d3 := Jcn (gd at_ i).2.2 51 q3 (by omega)
       have d4 := af T (by omega)
       have U : Jaf (gd at_ i).1 3000 = T -> (R.length = 0 \/ (0 < R.length /\ (gd R (R.length - 1)).l < JbP d j rates T)) -> putR d j rates T R (gd at_ i) = R ++ [⟨JbP d j rates T, max (T - Jaf (gd at_ i).2.1 51) 0, T + Jaf (gd at_ i).2.2 51⟩] := fun h Y => if_pos ⟨h, (Jpy R _).2 Y⟩
       have V : ¬ (Jaf (gd at_ i).1 3000 = T /\ (R.length = 0 \/ (0 < R.length /\ (gd R (R.length - 1)).l < JbP d j rates T))) -> putR d j rates T R (gd at_ i) = R := fun h => if_neg fun hh => h ⟨hh.1, (Jpy R _).1 hh.2⟩
       generalize JbP d j rates T = s at *; generalize Jaf (gd at_ i).1 3000 = x1 at *; generalize Jaf (gd at_ i).2.1 51 = x2 at *; generalize Jaf (gd at_ i).2.2 51 = x3 at *; simp -implicitDefEqProofs (disch := omega) only [go_sem, z, A, B, C, D, F, o, u, G, w, y, false_and]
       refine Jaa d1 ?_
       simp -implicitDefEqProofs (disch := omega) only [go_sem, z, A, B, C, D, F, o, u, G, w, y, false_and]
       refine Jab (fun h3 => ?_) (fun h3 => ?_)
       . have H := V (fun h => by omega)
         simp -implicitDefEqProofs (disch := omega) only [go_sem, z, A, B, C, D, F, o, u, G, w, y, false_and]
         refine Jad (12 - (i + 1)) (by omega) ⟨i + 1, by omega, by omega, ?_⟩
         rw [K, H]; simp -implicitDefEqProofs (disch := omega) only [go_sem, mkC, z, A, B, C, D, F, o, u, G, w, y]; try rfl
       . have L : R.length <= 100 := by omega
         have J : R.take R.length = R := L0e
         simp -implicitDefEqProofs (disch := omega) only [go_sem, z, A, B, C, D, F, o, u, G, w, y, false_and]
         refine Jaa d4 ?_
         simp -implicitDefEqProofs (disch := omega) only [go_sem, z, A, B, C, D, F, o, u, G, w, y, false_and]
         refine Jaa d2 ?_
         simp -implicitDefEqProofs (disch := omega) only [go_sem, z, A, B, C, D, F, o, u, G, w, y, false_and]
         refine Jaa d3 ?_
         simp -implicitDefEqProofs (disch := omega) only [go_sem, z, A, B, C, D, F, o, u, G, w, y, false_and]
         refine Jab (fun h4 => ?_) (fun h4 => ?_)
         . have H := U (by omega) (.inl (by omega))
           simp -implicitDefEqProofs (disch := omega) only [go_sem, z, A, B, C, D, F, o, u, G, w, y, false_and, L, J]
           refine Jad (12 - (i + 1)) (by omega) ⟨i + 1, by omega, by omega, ?_⟩
           rw [K, H]; simp -implicitDefEqProofs (disch := omega) only [go_sem, mkC, z, A, B, C, D, F, o, u, G, w, y, false_and, L, J, L07, L0h, L0t]; try simp
         . have hj : ((R.length : Int) - 1).toNat = R.length - 1 := by omega
           simp -implicitDefEqProofs (disch := omega) only [go_sem, z, A, B, C, D, F, o, u, G, w, y, false_and, hj]
           refine Jab (fun Z => ?_) (fun Z => ?_)
           . have H := U (by omega) (.inr ⟨by omega, Z⟩)
             simp -implicitDefEqProofs (disch := omega) only [go_sem, z, A, B, C, D, F, o, u, G, w, y, false_and, L, J]
             refine Jad (12 - (i + 1)) (by omega) ⟨i + 1, by omega, by omega, ?_⟩
             rw [K, H]; simp -implicitDefEqProofs (disch := omega) only [go_sem, mkC, z, A, B, C, D, F, o, u, G, w, y, false_and, L, J, L07, L0h, L0t]; try simp
           . have H := V (fun h => by rcases h.2 with h | h; omega; exact Z h.2)
             simp -implicitDefEqProofs (disch := omega) only [go_sem, z, A, B, C, D, F, o, u, G, w, y, false_and]
             refine Jad (12 - (i + 1)) (by omega) ⟨i + 1, by omega, by omega, ?_⟩
             rw [K, H]; simp -implicitDefEqProofs (disch := omega) only [go_sem, mkC, z, A, B, C, D, F, o, u, G, w, y, false_and]; try rfl
     . have hf := O (.inl (by omega))
       rw [hf] at w y; simp -implicitDefEqProofs (disch := omega) only [go_sem, z, A, B, C, D, F, o, u, G, w, y, false_and]
       refine Jad (3000 - (T + 1)) (by omega) ⟨T + 1, by omega, ?_⟩
       rw [P]; simp -implicitDefEqProofs (disch := omega) only [go_sem, mkC, z, A, B, C, D, F, o, G, w, y, false_and]; try rfl
   . have hf := O (.inr (by omega))
     rw [hf] at w y; simp -implicitDefEqProofs (disch := omega) only [go_sem, z, A, B, C, D, F, o, u, G, w, y, false_and]
     refine Jad (3000 - (T + 1)) (by omega) ⟨T + 1, by omega, ?_⟩
     rw [P]; simp -implicitDefEqProofs (disch := omega) only [go_sem, mkC, z, A, B, C, D, F, o, G, w, y, false_and]; try rfl
 . obtain rfl : T = 3000 := by omega
   generalize Jdc d j rates at_ 3000 = M at *
   have J : M.take M.length = M := L0e
   simp -implicitDefEqProofs (disch := omega) only [go_sem, z, A, B, C, D, F, o, G, w, y, false_and]
   refine Jap Plain.mono [115343504, 115343505] ?_
   simp -implicitDefEqProofs (disch := omega) only [go_sem, z, A, B, C, D, F, o, G, w, y, J, L06]
abbrev CNP (n : Cn) : AV := .agg [I n.b, I n.e]
abbrev LGP (l : Lg) : AV := .agg [I l.f, I l.t, I l.g.b, I l.g.e, I l.k.b, I l.k.e]
abbrev WNP (w : Int × Int) : AV := .agg [I w.1, I w.2]
abbrev SNP (s : Sn) : AV := .agg [I s.b.1, I s.b.2, I s.e.1, I s.e.2]
abbrev CRP (y : Cr) : AV := .agg [I y.d, I y.s, SL y.r, QTS y.at_]
def Cr.ok (y : Cr) : Prop := R64 y.d /\ R64 y.s /\ (∀ r ∈ y.r, R64 r) /\ y.r.length <= 9223372036854775807 /\ (∀ q ∈ y.at_, T3ok q) /\ y.at_.length <= 9223372036854775807
theorem JlZ (l : Lg) : legF l = (decide (0 <= l.f /\ l.f <= 7) && (decide (0 <= l.t /\ l.t <= 7) && (decide (l.f ≠ l.t) && (cntF l.g && cntF l.k)))) := by
 unfold legF; simp only [Bool.decide_and, L1t]
theorem JmK (y : Cr) (h : y.ok) : Ev prog 16 [CRP y] (CKP y.clk) := by
 obtain ⟨j, m, o, u, w, z⟩ := h; have c := Jw0 y.d y.s y.r y.at_ j m o u w z; unfold Cr.clk; generalize clkF y.d y.s y.r y.at_ = A at *
 refine EV func16 ?_
 refine SA ?_
 refine Jaa c ?_
 exact SB
theorem JhZ (y : Cr) (t : Int) (h : y.ok) (w : 0 <= t /\ t <= 1000000) : Ev prog 72 [CRP y, I t] (I (y.show t)) := by
 obtain ⟨j, m, o, u, A, B⟩ := h; have c := Jmj y.d y.s y.r t j m o u w
 unfold Cr.show
 generalize JbP (Jaf y.d 101) y.s y.r t = z at *
 refine EV func72 ?_
 refine SA ?_
 refine Jaa c ?_
 exact SB
theorem Jhs (y : Cr) (f t : Int) (h : y.ok) (o : 0 <= f /\ f <= 1000000) (u : 0 <= t /\ t <= 1000000) : Ev prog 28 [CRP y, I f, I t] (CNP (y.cnt f t)) := by
 have j := JhZ y f h o; have m := JhZ y t h u; unfold Cr.cnt
 generalize y.show f = a at *
 generalize y.show t = b at *
 refine EV func28 ?_
 refine SA ?_
 refine Jaa j ?_
 refine SA ?_
 refine Jaa m ?_
 exact SB
theorem Jc0 (n a b : Int) : Ev prog 70 [I n, I a, I b] (B (decide (a <= n /\ n <= b))) := by
 refine EV func70 ?_
 refine SA ?_
 refine Jab (fun j => ?_) (fun j => ?_)
 . exact SB
   try simp [j]
 . exact SB
   try simp [j]
theorem JfH (n a b : Int) : Ev prog 59 [I n, I a, I b] (B (decide (a <= n /\ n <= b))) := by
 refine EV func59 ?_
 refine SA ?_
 refine Jab (fun j => ?_) (fun j => ?_)
 . exact SB
   try simp [j]
 . exact SB
   try simp [j]
theorem JcZ (n : Int) : Ev prog 108 [I n] (B (decide (0 <= n /\ n <= 7))) := by
 refine EV func108 ?_
 refine SA ?_
 refine Jaa (Jc0 n 0 7) ?_
 exact SB
theorem Jfg (n : Cn) : Ev prog 83 [CNP n] (B (cntF n)) := by
 have c := Jc0 n.b 0 n.e
 obtain ⟨z, m⟩ : ∃ z, cntF n = z := ⟨_, rfl⟩
 have j : z = true ↔ 0 <= n.b /\ n.b <= n.e /\ n.e <= 10000000 := by rw [<- m]; exact JdE
 rw [m]
 refine EV func83 ?_
 refine SA ?_
 by_cases h : 0 <= n.b /\ n.b <= n.e
 . rw [decide_eq_true h] at c
   refine Jaa c ?_
   simp -implicitDefEqProofs (disch := omega) only [go_sem, results83]
   cases z with
   | true => rw [decide_eq_true (j.1 rfl).2.2]
   | false => rw [decide_eq_false (fun o => by have := j.2 ⟨h.1, h.2, o⟩; cases this)]
 . rw [decide_eq_false h] at c
   refine Jaa c ?_
   simp -implicitDefEqProofs (disch := omega) only [go_sem, results83]
   cases z with
   | true => exact absurd ⟨(j.1 rfl).1, (j.1 rfl).2.1⟩ h
   | false => rfl
theorem Jgt (n : Cn) : Ev prog 95 [CNP n] (B (cntF n)) := by
 obtain ⟨z, u⟩ : ∃ z, cntF n = z := ⟨_, rfl⟩
 have j : z = true ↔ 0 <= n.b /\ n.b <= n.e /\ n.e <= 10000000 := by rw [<- u]; exact JdE
 rw [u]
 refine EV func95 ?_
 refine SA ?_
 refine Jab (fun m => ?_) (fun m => ?_)
 . simp -implicitDefEqProofs (disch := omega) only [go_sem]
   refine Jab (fun o => ?_) (fun o => ?_)
   . simp -implicitDefEqProofs (disch := omega) only [go_sem, results95]
     cases z with
     | true => rw [decide_eq_true (j.1 rfl).2.2]
     | false => rw [decide_eq_false (fun w => by have := j.2 ⟨m, o, w⟩; cases this)]
   . simp -implicitDefEqProofs (disch := omega) only [go_sem, results95]
     cases z with
     | true => exact absurd (j.1 rfl).2.1 o
     | false => rfl
 . simp -implicitDefEqProofs (disch := omega) only [go_sem, results95]
   cases z with
   | true => exact absurd (j.1 rfl).1 m
   | false => rfl
theorem Jf0 (l : Lg) : Ev prog 73 [LGP l] (B (legF l)) := by
 have u := JcZ l.f; have w := JcZ l.t; have y := Jfg l.g; have z := Jfg l.k; rw [JlZ]; generalize decide (0 <= l.f /\ l.f <= 7) = b1 at *; generalize decide (0 <= l.t /\ l.t <= 7) = b2 at *; generalize cntF l.g = m at *; generalize cntF l.k = o at *
 refine EV func73 ?_
 refine SA ?_
 refine Jaa u ?_
 cases b1
 . exact SB; try rfl
 refine SA ?_
 refine Jaa w ?_
 cases b2
 . exact SB; try rfl
 refine SA ?_
 refine Jab (fun j => ?_) (fun j => ?_)
 rotate_left
 . rw [decide_eq_false j]; exact SB; try rfl
 rw [decide_eq_true j]; refine SA ?_
 refine Jaa y ?_
 cases m
 . exact SB; try rfl
 refine SA ?_
 refine Jaa z ?_
 cases o <;> (simp -implicitDefEqProofs (disch := omega) only [go_sem, results73]; try rfl)
theorem Jiy (l : Lg) : Ev prog 58 [LGP l] (B (legF l)) := by
 have u := JfH l.f 0 7; have w := JfH l.t 0 7; have y := Jgt l.g; have z := Jgt l.k; rw [JlZ]; generalize decide (0 <= l.f /\ l.f <= 7) = b1 at *; generalize decide (0 <= l.t /\ l.t <= 7) = b2 at *; generalize cntF l.g = m at *; generalize cntF l.k = o at *
 refine EV func58 ?_
 refine SA ?_
 refine Jaa u ?_
 cases b1
 . exact SB; try rfl
 refine SA ?_
 refine Jaa w ?_
 cases b2
 . exact SB; try rfl
 refine SA ?_
 refine Jab (fun j => ?_) (fun j => ?_)
 rotate_left
 . rw [decide_eq_false j]; exact SB; try rfl
 rw [decide_eq_true j]; refine SA ?_
 refine Jaa y ?_
 cases m
 . exact SB; try rfl
 refine SA ?_
 refine Jaa z ?_
 cases o <;> (simp -implicitDefEqProofs (disch := omega) only [go_sem, results58]; try rfl)
abbrev spV (o : Option Sn) : AV := match o with
 | some s => .tup [SNP s, I 0]
 | none => .tup [SNP ⟨(0, 0), (0, 0)⟩, I 380]
abbrev agV (o : Option Sn) : AV := match o with
 | some s => .tup [SNP s, B true]
 | none => .tup [SNP ⟨(0, 0), (0, 0)⟩, B false]
theorem Jsh (c : Ck) (t : Int) (j : c.r.length <= 9223372036854775807) : Ev prog 82 [CKP c, I t] (match atF c t with | some w => .tup [WNP w, B true] | none => .tup [WNP (0, 0), B false]) := by
 have h := JBd c t j; generalize atF c t = o at *
 refine EV func82 ?_
 refine SA ?_
 cases o with
 | none =>
  refine Jaa h ?_
  exact SB
 | some w =>
  refine Jaa h ?_
  exact SB
theorem JdT (c : Ck) (n : Cn) (o : c.r.length <= 9223372036854775807) : Ev prog 37 [CKP c, CNP n] (spV (Jb8 c n)) := by
 have j := Jsh c n.b o; have m := Jsh c n.e o; have u := Jfg n; unfold Jb8; generalize atF c n.b = w at *; generalize atF c n.e = y at *; generalize cntF n = b at *
 refine EV func37 ?_
 refine SA ?_
 cases w <;> cases y
 . refine Jaa j ?_
   refine SA ?_
   refine Jaa m ?_
   exact SB
 . refine Jaa j ?_
   refine SA ?_
   refine Jaa m ?_
   exact SB
 . refine Jaa j ?_
   refine SA ?_
   refine Jaa m ?_
   exact SB
 . refine Jaa j ?_
   refine SA ?_
   refine Jaa m ?_
   refine SA ?_
   refine Jaa u ?_
   cases b <;> simp -implicitDefEqProofs (disch := omega) only [go_sem, results37]
theorem Jf7 (c : Ck) (n : Cn) (j : c.r.length <= 9223372036854775807) : Ev prog 55 [CKP c, CNP n] (spV (Jb8 c n)) := by
 have m := Jsi c n.b j; have o := Jsi c n.e j; have u := Jgt n; unfold Jb8; generalize atF c n.b = w at *; generalize atF c n.e = y at *; generalize cntF n = b at *
 refine EV func55 ?_
 refine SA ?_
 cases w <;> cases y <;> (refine Jaa m ?_; simp -implicitDefEqProofs (disch := omega) only [go_sem]; refine Jaa o ?_; simp -implicitDefEqProofs (disch := omega) only [go_sem]; refine Jaa u ?_; cases b <;> simp -implicitDefEqProofs (disch := omega) only [go_sem, results55])
theorem Jqi (w v : Int × Int) : Ev prog 74 [WNP w, WNP v] (WNP (Jbz w v)) := by
 refine EV func74 ?_
 simp -implicitDefEqProofs (disch := omega) only [go_sem, ntmps74, results74]
 rfl
theorem Jhz (w : Int × Int) : Ev prog 75 [WNP w] (B (decide (w.2 < w.1))) := by
 refine EV func75 ?_
 exact SB
theorem Jn3 (w v : Int × Int) : Ev prog 96 [WNP w, WNP v] (WNP (Jbz w v)) := by
 refine EV func96 ?_
 simp -implicitDefEqProofs (disch := omega) only [go_sem, ntmps96, results96]
 rfl
theorem Jif (s : Sn) : Ev prog 21 [SNP s] (WNP (Je5 s)) := by
 refine EV func21 ?_
 simp -implicitDefEqProofs (disch := omega) only [go_sem, ntmps21, results21]
 rfl
theorem Jie (s : Sn) : Ev prog 22 [SNP s] (WNP (Je5 s)) := by
 refine EV func22 ?_
 simp -implicitDefEqProofs (disch := omega) only [go_sem, ntmps22, results22]
 rfl
def JnL (j m : Option Sn) (q : Bool) : Option Sn := match j, m with
 | some s, some t => if q = true then JkU s t else none
 | _, _ => none
theorem Jlu (a b : Ck) (l : Lg) : Jdf a b l = JnL (Jb8 a l.g) (Jb8 b l.k) (legF l) := rfl
theorem Jge (a b : Ck) (l : Lg) (ha : a.r.length <= 9223372036854775807) (hb : b.r.length <= 9223372036854775807) : Ev prog 29 [CKP a, CKP b, LGP l] (agV (Jdf a b l)) := by
  have h1 := JdT a l.g ha; have h2 := JdT b l.k hb; have h3 := Jf0 l; rw [Jlu]; generalize Jb8 a l.g = o1 at *; generalize Jb8 b l.k = o2 at *; generalize legF l = q at *
  refine EW [5] func29 ?_
  refine SA ?_
  cases o1 <;> cases o2
  . refine Jaa h1 ?_
    refine SA ?_
    refine Jaa h2 ?_
    refine SA ?_
    refine Jaa h3 ?_
    cases q <;> (simp -implicitDefEqProofs (disch := omega) only [go_sem, results29]; try rfl)
  . refine Jaa h1 ?_
    refine SA ?_
    refine Jaa h2 ?_
    refine SA ?_
    refine Jaa h3 ?_
    cases q <;> (simp -implicitDefEqProofs (disch := omega) only [go_sem, results29]; try rfl)
  . refine Jaa h1 ?_
    refine SA ?_
    refine Jaa h2 ?_
    refine SA ?_
    refine Jaa h3 ?_
    cases q <;> (simp -implicitDefEqProofs (disch := omega) only [go_sem, results29]; try rfl)
  . rename_i s t
    refine Jaa h1 ?_
    refine SA ?_
    refine Jaa h2 ?_
    refine SA ?_
    refine Jaa h3 ?_
    cases q
    . simp -implicitDefEqProofs (disch := omega) only [go_sem, results29]; try rfl
    . have c1 := Jqi s.b t.b; have c2 := Jqi s.e t.e
      have hm : JkU s t = if (Jbz s.b t.b).1 <= (Jbz s.b t.b).2 /\ (Jbz s.e t.e).1 <= (Jbz s.e t.e).2 /\ (Jbz s.b t.b).1 <= (Jbz s.e t.e).2 then some ⟨Jbz s.b t.b, Jbz s.e t.e⟩ else none := rfl
      have hw : JnL (some s) (some t) true = JkU s t := rfl
      rw [hw, hm]; clear hw; clear hm; generalize Jbz s.b t.b = w at *; generalize Jbz s.e t.e = v at *; have c3 := Jhz w; have c4 := Jhz v; refine SA ?_
      refine JeR (fun D E σ => E 6 = .ptr 62914656 4 0 0 /\ E 8 = .ptr 62914688 4 0 0 /\ E 10 = .ptr 62914720 4 0 0 /\ σ 62914656 = some ⟨39, 4, [.agg [I 0, I 0, I 0, I 0]]⟩ /\ σ 62914688 = some ⟨39, 4, [SNP s]⟩ /\ σ 62914720 = some ⟨39, 4, [SNP t]⟩ /\ (D 16 = true -> D 14 = true) /\ (D 17 = true -> D 15 = true) /\ (D 14 = true -> D 16 = false -> σ 62914752 = some ⟨147, 2, [.agg [I 0, I 0]]⟩) /\ (D 16 = true -> σ 62914752 = some ⟨147, 2, [.agg [I w.1, I w.2]]⟩) /\ (D 15 = true -> D 17 = false -> σ 62914768 = some ⟨147, 2, [.agg [I 0, I 0]]⟩) /\ (D 17 = true -> σ 62914768 = some ⟨147, 2, [.agg [I v.1, I v.2]]⟩) /\ (D 0 = true -> E 40 = .ptr 62914688 4 0 0) /\ (D 1 = true -> E 41 = .agg [I s.b.1, I s.b.2]) /\ (D 2 = true -> E 42 = .agg [I s.b.1, I s.b.2]) /\ (D 3 = true -> E 43 = .ptr 62914720 4 0 0) /\ (D 4 = true -> E 44 = .agg [I t.b.1, I t.b.2]) /\ (D 5 = true -> E 45 = .agg [I w.1, I w.2]) /\ (D 6 = true -> E 46 = .agg [I w.1, I w.2]) /\ (D 7 = true -> E 47 = .ptr 62914688 4 0 2) /\ (D 8 = true -> E 48 = .agg [I s.e.1, I s.e.2]) /\ (D 9 = true -> E 49 = .agg [I s.e.1, I s.e.2]) /\ (D 10 = true -> E 50 = .ptr 62914720 4 0 2) /\ (D 11 = true -> E 51 = .agg [I t.e.1, I t.e.2]) /\ (D 12 = true -> E 52 = .agg [I v.1, I v.2]) /\ (D 13 = true -> E 53 = .agg [I v.1, I v.2]) /\ (D 14 = true -> E 12 = .ptr 62914752 2 0 0) /\ (D 15 = true -> E 13 = .ptr 62914768 2 0 0)) ?_ ?_ ?_
      . refine SA ?_; try simp
      . simp only [JfQ, depK, Region.binds, eq_self, forall_const, and_true]
        repeat' apply And.intro
        all_goals
          rintro D E σ ⟨e6, e8, e10, b6, b8, b10, c16_14, c17_15, m0_0, m0_1, m1_0, m1_1, j0, j1, j2, j3, j4, j5, j6, j7, j8, j9, j10, j11, j12, j13, j14, j15⟩ hd
          have k := And.intro trivial <| And.intro (cK c16_14) <| And.intro (cK c17_15) trivial
          simp -implicitDefEqProofs (disch := first | assumption | (simp only [hd, k]; done) | omega) only [go_sem, e6, e8, e10, b6, b8, b10, m0_0, m0_1, m1_0, m1_1, j0, j1, j2, j3, j4, j5, j6, j7, j8, j9, j10, j11, j12, j13, j14, j15, false_and, and_self]
          try ((first | refine Jaa c1 ?_ | refine Jaa c2 ?_); simp -implicitDefEqProofs (disch := first | assumption | (simp only [hd, k]; done) | omega) only [go_sem, e6, e8, e10, b6, b8, b10, m0_0, m0_1, m1_0, m1_1, j0, j1, j2, j3, j4, j5, j6, j7, j8, j9, j10, j11, j12, j13, j14, j15, false_and, and_self])
          repeat' apply And.intro
          all_goals first | assumption | (intro _; assumption) | trivial | (simp -implicitDefEqProofs (contextual := true) (disch := first | assumption | omega) only [go_sem, m0_0, m0_1, m1_0, m1_1, j0, j1, j2, j3, j4, j5, j6, j7, j8, j9, j10, j11, j12, j13, j14, j15, hd, c16_14, c17_15, k, implies_true, forall_const, false_implies, true_implies]; done) | (intro h; intros; exfalso; simp (maxDischargeDepth := 9) [hd, k] at h; done) | (intros; contradiction) | trace_state
      . rintro D E σ hD ⟨e6, e8, e10, b6, b8, b10, c16_14, c17_15, m0_0, m0_1, m1_0, m1_1, j0, j1, j2, j3, j4, j5, j6, j7, j8, j9, j10, j11, j12, j13, j14, j15⟩
        have g0 := m0_1 (hD 16 (by decide))
        have g1 := m1_1 (hD 17 (by decide))
        have q0 := j0 (hD 0 (by decide))
        have q1 := j1 (hD 1 (by decide))
        have q2 := j2 (hD 2 (by decide))
        have q3 := j3 (hD 3 (by decide))
        have q4 := j4 (hD 4 (by decide))
        have q5 := j5 (hD 5 (by decide))
        have q6 := j6 (hD 6 (by decide))
        have q7 := j7 (hD 7 (by decide))
        have q8 := j8 (hD 8 (by decide))
        have q9 := j9 (hD 9 (by decide))
        have q10 := j10 (hD 10 (by decide))
        have q11 := j11 (hD 11 (by decide))
        have q12 := j12 (hD 12 (by decide))
        have q13 := j13 (hD 13 (by decide))
        have q14 := j14 (hD 14 (by decide))
        have q15 := j15 (hD 15 (by decide))
        clear c16_14 c17_15 m0_0 m0_1 m1_0 m1_1 j0 j1 j2 j3 j4 j5 j6 j7 j8 j9 j10 j11 j12 j13 j14 j15 hD; clear e8 e10 b8 b10; refine SA ?_
        refine Jaa c3 ?_
        by_cases h5 : w.2 < w.1
        . rw [decide_eq_true h5, if_neg (fun h => by omega)]
          exact SB
        rw [decide_eq_false h5]; refine SA ?_
        refine Jaa c4 ?_
        by_cases h6 : v.2 < v.1
        . rw [decide_eq_true h6, if_neg (fun h => by omega)]
          exact SB
        rw [decide_eq_false h6]; refine SA ?_
        refine Jab (fun h7 => ?_) (fun h7 => ?_)
        . rw [if_neg (fun h => by omega)]
          exact SB
        . rw [if_pos ⟨by omega, by omega, by omega⟩]
          exact SB
theorem JnK (a b : Ck) (l : Lg) (E : a.r.length <= 9223372036854775807) (F : b.r.length <= 9223372036854775807) : Ev prog 56 [CKP a, CKP b, LGP l] (agV (Jdf a b l)) := by
 have j := Jf7 a l.g E; have m := Jf7 b l.k F; have o := Jiy l; rw [Jlu]; generalize Jb8 a l.g = G at *; generalize Jb8 b l.k = H at *; generalize legF l = q at *
 refine EV func56 ?_
 refine SA ?_
 cases G <;> cases H
 . refine Jaa j ?_
   refine SA ?_
   refine Jaa m ?_
   refine SA ?_
   refine Jaa o ?_
   cases q <;> (simp -implicitDefEqProofs (disch := omega) only [go_sem, results56]; try rfl)
 . refine Jaa j ?_
   refine SA ?_
   refine Jaa m ?_
   refine SA ?_
   refine Jaa o ?_
   cases q <;> (simp -implicitDefEqProofs (disch := omega) only [go_sem, results56]; try rfl)
 . refine Jaa j ?_
   refine SA ?_
   refine Jaa m ?_
   refine SA ?_
   refine Jaa o ?_
   cases q <;> (simp -implicitDefEqProofs (disch := omega) only [go_sem, results56]; try rfl)
 . rename_i s t
   refine Jaa j ?_
   refine SA ?_
   refine Jaa m ?_
   refine SA ?_
   refine Jaa o ?_
   cases q
   . simp -implicitDefEqProofs (disch := omega) only [go_sem, results56]; try rfl
   . have z := Jn3 s.b t.b; have A := Jn3 s.e t.e
     have u : JkU s t = if (Jbz s.b t.b).1 <= (Jbz s.b t.b).2 /\ (Jbz s.e t.e).1 <= (Jbz s.e t.e).2 /\ (Jbz s.b t.b).1 <= (Jbz s.e t.e).2 then some ⟨Jbz s.b t.b, Jbz s.e t.e⟩ else none := rfl
     have y : JnL (some s) (some t) true = JkU s t := rfl
     rw [y, u]; clear y; clear u; generalize Jbz s.b t.b = w at *; generalize Jbz s.e t.e = v at *; refine SA ?_
     refine Jaa z ?_
     refine SA ?_
     refine Jaa A ?_
     refine SA ?_
     refine Jab (fun B => ?_) (fun B => ?_)
     . rw [if_neg (fun h => by omega)]
       exact SB
     refine SA ?_
     refine Jab (fun C => ?_) (fun C => ?_)
     . rw [if_neg (fun h => by omega)]
       exact SB
     refine SA ?_
     refine Jab (fun D => ?_) (fun D => ?_)
     . rw [if_neg (fun h => by omega)]
       exact SB
     . rw [if_pos ⟨by omega, by omega, by omega⟩]
       exact SB
abbrev bPP (u : Bool) : AV := if u then .ptr 171966512 2 0 0 else .v (.pointer none)
@[go_sem] theorem bPP_f : bPP false = .v (.pointer none) := rfl
@[go_sem] theorem bPP_t : bPP true = .ptr 171966512 2 0 0 := rfl
abbrev bLP (u : Bool) (l : List Int) : List (Nat × Blk) := [(171966512, ⟨207, 2, [.agg [bPP u, .own 171966513 1 0 l.length]]⟩), (171966513, ⟨5, 1, l.map Y⟩)]
set_option maxHeartbeats 1000000 in
theorem Jn9 (u : Bool) (l : List Int) : LOK prog 171 (inI [171966512, 171966513]) [.ptr 171966512 2 0 0] (stO (bLP u l)) (.tup []) (stO (bLP true l)) := by
 refine JcC [] [171966512, 171966513] func171 rfl (by kernel_rfl) mo (nb rfl) rfl (by kernel_rfl) (by kernel_rfl) ?_
 cases u with
 | false =>
  refine SA ?_
  refine JeP (te := 207) true (.inl ⟨by simp -implicitDefEqProofs (disch := omega) only [go_sem], rfl⟩) rfl true (.inl ⟨rfl, rfl⟩) ?_
  refine SA ?_
  refine Jhd (te := 207) (k := ⟨207, 2, [.agg [.v (.pointer none), .own 171966513 1 0 l.length]]⟩) (id := 171966512) (sz := 2) (j := 0) (by simp -implicitDefEqProofs (disch := omega) only [go_sem]) (by simp -implicitDefEqProofs (disch := omega) only [go_sem]) rfl (by decide) (by show 0 < 1 * 2; omega) rfl rfl rfl (by decide) ?_
  refine SA ?_
  refine Jar rfl ?_
  refine JgT (.ptr 171966512 2 0 0) (by simp -implicitDefEqProofs (disch := omega) only [go_sem]) func203 rfl rfl rfl rfl ?_
  refine SA ?_
  refine JgW (te := 207) (k := ⟨207, 2, [.agg [.v (.pointer none), .own 171966513 1 0 l.length]]⟩) (id := 171966512) (sz := 2) (j := 0) (by simp -implicitDefEqProofs (disch := omega) only [go_sem]) (by simp -implicitDefEqProofs (disch := omega) only [go_sem]) rfl (by decide) (by simp) rfl rfl rfl (show prog.cellsOf 207 ≠ 0 /\ prog.cellsOf 207 <= 2 from by decide +kernel) (by kernel_rfl) ?_
  exact SB
 | true =>
  refine SA ?_
  refine JeP (te := 207) false (.inr (.inl ⟨⟨171966512, 2, 0, 0, by simp -implicitDefEqProofs (disch := omega) only [go_sem]⟩, rfl⟩)) rfl false (.inl ⟨rfl, rfl⟩) ?_
  refine SA ?_
  refine JhQ (te := 207) (id := 171966512) (sz := 2) (i := 0) (j := 0) (by simp -implicitDefEqProofs (disch := omega) only [go_sem]) (by simp -implicitDefEqProofs (disch := omega) only [go_sem]) rfl rfl false (.inr ⟨rfl, rfl⟩) ?_
  exact SB
set_option maxHeartbeats 1000000 in
theorem Jqj (u : Bool) (l : List Int) (s : ByteArray) (o : l.length + s.size <= 100000000) : LOK prog 127 (inI [171966512]) [.ptr 171966512 2 0 0, Str s] (stO (bLP u l)) (.tup [I s.size, .v .nilIface]) (stO (bLP true (l ++ bI s))) := by
 refine JcC [] [171966512] func127 rfl (by kernel_rfl) mo (nb rfl) rfl (by kernel_rfl) (by kernel_rfl) ?_
 have j := JaI s; refine SA ?_
 refine Jar rfl ?_
 have m : LOK prog 171 (inI [171966512, 171966513]) ([.ptr 171966512 2 0 0] ++ []) (stO (bLP u l)) (.tup []) (stO (bLP true l)) := Jn9 u l
 refine Jck [171966512, 171966513] m ?_ ?_ ?_ ?_ ?_ ?_ ?_ (hsp := fun id h _ => L0K.2 h)
 . simp -implicitDefEqProofs (disch := omega) only [go_sem]
 . simp -implicitDefEqProofs (disch := omega) only [go_sem]
 . simp -implicitDefEqProofs (disch := omega) only [go_sem]
 . simp -implicitDefEqProofs (disch := omega) only [go_sem]
 . cases u <;> simp -implicitDefEqProofs (disch := omega) only [go_sem]
 . simp -implicitDefEqProofs (disch := omega) only [go_sem]
 . simp -implicitDefEqProofs (disch := omega) only [go_sem, L07, j, results127, L0e, and_self]
theorem Jns (u : Bool) (s : ByteArray) (w : s.size ≠ 0) (y : s.size <= 100000000) : LOK prog 128 (inI [171966512]) [.ptr 171966512 2 0 0] (stO (bLP u (bI s))) (Str s) (stO [(171966512, ⟨207, 2, [.agg [bPP u, .any]]⟩), (171966513, ⟨5, 1, []⟩)]) := by
 refine JcC [] [171966512] func128 rfl (by kernel_rfl) mo (nb rfl) rfl (by kernel_rfl) (by kernel_rfl) ?_
 have j := JaI s
 obtain ⟨m, o⟩ : ∃ m, s.size = m + 1 := ⟨s.size - 1, by omega⟩
 refine SA ?_
 refine JfS (e := 5) (id := 171966513) s (by simp -implicitDefEqProofs (disch := omega) only [go_sem, j, o]) (by simp -implicitDefEqProofs (disch := omega) only [go_sem, j, o]) (by simp -implicitDefEqProofs (disch := omega) only [go_sem, j, o]) (by omega) rfl (by decide +kernel) (by simp -implicitDefEqProofs (disch := omega) only [go_sem]) (by omega) ?_
 cases u <;> simp -implicitDefEqProofs (disch := omega) only [go_sem, results128]
abbrev bPS (u : Bool) : AV := if u then .ptr 251658320 2 0 0 else .v (.pointer none)
@[go_sem] theorem bPS_f : bPS false = .v (.pointer none) := rfl
@[go_sem] theorem bPS_t : bPS true = .ptr 251658320 2 0 0 := rfl
abbrev bLS (u : Bool) (l : List Int) : List (Nat × Blk) := [(251658320, ⟨240, 2, [.agg [bPS u, .own 251658321 1 0 l.length]]⟩), (251658321, ⟨5, 1, l.map Y⟩)]
set_option maxHeartbeats 1000000 in
theorem Joa (u : Bool) (l : List Int) : LOK prog 171 (inI [251658320, 251658321]) [.ptr 251658320 2 0 0] (stO (bLS u l)) (.tup []) (stO (bLS true l)) := by
 refine JcC [] [251658320, 251658321] func171 rfl (by kernel_rfl) mo (nb rfl) rfl (by kernel_rfl) (by kernel_rfl) ?_
 cases u with
 | false =>
  refine SA ?_
  refine JeP (te := 207) true (.inl ⟨by simp -implicitDefEqProofs (disch := omega) only [go_sem], rfl⟩) rfl true (.inl ⟨rfl, rfl⟩) ?_
  refine SA ?_
  refine Jhd (te := 207) (k := ⟨240, 2, [.agg [.v (.pointer none), .own 251658321 1 0 l.length]]⟩) (id := 251658320) (sz := 2) (j := 0) (by simp -implicitDefEqProofs (disch := omega) only [go_sem]) (by simp -implicitDefEqProofs (disch := omega) only [go_sem]) rfl (by decide) (by show 0 < 1 * 2; omega) rfl rfl rfl (by decide) ?_
  refine SA ?_
  refine Jar rfl ?_
  refine JgT (.ptr 251658320 2 0 0) (by simp -implicitDefEqProofs (disch := omega) only [go_sem]) func203 rfl rfl rfl rfl ?_
  refine SA ?_
  refine JgW (te := 207) (k := ⟨240, 2, [.agg [.v (.pointer none), .own 251658321 1 0 l.length]]⟩) (id := 251658320) (sz := 2) (j := 0) (by simp -implicitDefEqProofs (disch := omega) only [go_sem]) (by simp -implicitDefEqProofs (disch := omega) only [go_sem]) rfl (by decide) (by simp) rfl rfl rfl (show prog.cellsOf 240 ≠ 0 /\ prog.cellsOf 240 <= 2 from by decide +kernel) (by kernel_rfl) ?_
  exact SB
 | true =>
  refine SA ?_
  refine JeP (te := 207) false (.inr (.inl ⟨⟨251658320, 2, 0, 0, by simp -implicitDefEqProofs (disch := omega) only [go_sem]⟩, rfl⟩)) rfl false (.inl ⟨rfl, rfl⟩) ?_
  refine SA ?_
  refine JhQ (te := 207) (id := 251658320) (sz := 2) (i := 0) (j := 0) (by simp -implicitDefEqProofs (disch := omega) only [go_sem]) (by simp -implicitDefEqProofs (disch := omega) only [go_sem]) rfl rfl false (.inr ⟨rfl, rfl⟩) ?_
  exact SB
set_option maxHeartbeats 1000000 in
theorem Jkj (u : Bool) (l : List Int) (s : ByteArray) (o : l.length + s.size <= 100000000) : LOK prog 127 (inI [251658320]) [.ptr 251658320 2 0 0, Str s] (stO (bLS u l)) (.tup [I s.size, .v .nilIface]) (stO (bLS true (l ++ bI s))) := by
 refine JcC [] [251658320] func127 rfl (by kernel_rfl) mo (nb rfl) rfl (by kernel_rfl) (by kernel_rfl) ?_
 have j := JaI s; refine SA ?_
 refine Jar rfl ?_
 have m : LOK prog 171 (inI [251658320, 251658321]) ([.ptr 251658320 2 0 0] ++ []) (stO (bLS u l)) (.tup []) (stO (bLS true l)) := Joa u l
 refine Jck [251658320, 251658321] m ?_ ?_ ?_ ?_ ?_ ?_ ?_ (hsp := fun id h _ => L0K.2 h)
 . simp -implicitDefEqProofs (disch := omega) only [go_sem]
 . simp -implicitDefEqProofs (disch := omega) only [go_sem]
 . simp -implicitDefEqProofs (disch := omega) only [go_sem]
 . simp -implicitDefEqProofs (disch := omega) only [go_sem]
 . cases u <;> simp -implicitDefEqProofs (disch := omega) only [go_sem]
 . simp -implicitDefEqProofs (disch := omega) only [go_sem]
 . simp -implicitDefEqProofs (disch := omega) only [go_sem, L07, j, results127, L0e, and_self]
theorem Jnt (u : Bool) (s : ByteArray) (w : s.size ≠ 0) (y : s.size <= 100000000) : LOK prog 128 (inI [251658320]) [.ptr 251658320 2 0 0] (stO (bLS u (bI s))) (Str s) (stO [(251658320, ⟨240, 2, [.agg [bPS u, .any]]⟩), (251658321, ⟨5, 1, []⟩)]) := by
 refine JcC [] [251658320] func128 rfl (by kernel_rfl) mo (nb rfl) rfl (by kernel_rfl) (by kernel_rfl) ?_
 have j := JaI s
 obtain ⟨m, o⟩ : ∃ m, s.size = m + 1 := ⟨s.size - 1, by omega⟩
 refine SA ?_
 refine JfS (e := 5) (id := 251658321) s (by simp -implicitDefEqProofs (disch := omega) only [go_sem, j, o]) (by simp -implicitDefEqProofs (disch := omega) only [go_sem, j, o]) (by simp -implicitDefEqProofs (disch := omega) only [go_sem, j, o]) (by omega) rfl (by decide +kernel) (by simp -implicitDefEqProofs (disch := omega) only [go_sem]) (by omega) ?_
 cases u <;> simp -implicitDefEqProofs (disch := omega) only [go_sem, results128]
def catV : List Int -> ByteArray
 | [] => ByteArray.empty
 | n :: l => viS n ++ catV l
theorem Jgq : ∀ (l : List Int) (n : Int), catV (l ++ [n]) = catV l ++ viS n
 | [], n => by simp [catV]
 | m :: l, n => by rw [L0y, catV, catV, Jgq l n, L2o]
theorem Jev (a b : ByteArray) : bI (a ++ b) = bI a ++ bI b := by
 unfold bI; rw [ByteArray.data_append]; simp
theorem Jjf (l : List Int) : (catV l).size <= 10 * l.length := by
 induction l with
 | nil => simp [catV]
 | cons n l j =>
  have := JaQ n
  rw [catV, L0V, L0h]; omega
theorem Jqe (n : Int) : (viS n).size ≠ 0 := by
 unfold viS viB; rw [strOfNums_size, L06]; unfold grp
 split <;> simp
theorem JiL (l : Lg) (e : Int) (n : Cn) : catV [8, l.f, l.t, e, n.b, n.e] = recN l e n := by
 simp only [catV, recN, L2o, ByteArray.append_empty]
set_option maxHeartbeats 1000000 in
theorem JsN (l : List Int) (J : 0 < l.length) (S : l.length <= 1000) (K : ∀ n ∈ l, -4611686018427387903 <= n /\ n <= 4611686018427387903) : Ev prog 81 [SL l] (Str (catV l)) := by
 refine EW [2] func81 ?_
 simp -implicitDefEqProofs (disch := omega) only [go_sem]
 refine Jbo 171966512 171966513 0 1 5 1 (k := ⟨207, 2, [.agg [.v (.pointer none), .v (.slice none 0 0)]]⟩) (el := .agg [.v (.pointer none), .v (.slice none 0 0)]) (by simp -implicitDefEqProofs (disch := omega) only [go_sem]) (by decide) rfl rfl (by decide) (by simp -implicitDefEqProofs (disch := omega) only [go_sem]) rfl ?_
 refine JeQ Plain.mono ?_
 simp -implicitDefEqProofs (disch := omega) only [go_sem]
 refine Jag (fun k E H => ∃ i : Nat, i + k = l.length /\ E 3 = .ptr 171966512 2 0 0 /\ E 8 = SL l /\ E 9 = I l.length /\ E 10 = I i /\ H 171966512 = some ⟨207, 2, [.agg [bPP (decide (0 < i)), .own 171966513 1 0 (bI (catV (l.take i))).length]]⟩ /\ H 171966513 = some ⟨5, 1, (bI (catV (l.take i))).map Y⟩) l.length ⟨0, by omega, ?_⟩ ?_
 . have C : bI ByteArray.empty = [] := rfl
   simp -implicitDefEqProofs (disch := omega) only [go_sem, catV, false_and, C]
   try exact ⟨rfl, rfl⟩
 rintro k E H ⟨i, R, m, o, w, j, z, A⟩
 have y := Jjf (l.take i); rw [L02] at y; simp -implicitDefEqProofs (disch := omega) only [go_sem, m, o, w, j]
 refine Jab (fun N => ?_) (fun N => ?_)
 . have D : i < l.length := by omega
   have O := JjT (gd l i) (K _ (Jan l i D)).1 (K _ (Jan l i D)).2; have Q := JaQ (gd l i)
   have G : bI (catV (l.take (i + 1))) = bI (catV (l.take i)) ++ bI (viS (gd l i)) := by
    rw [L1a, Jbb l i D]
    show bI (catV (l.take i ++ [gd l i])) = _
    rw [Jgq, Jev]
   have M : (bI (catV (l.take i))).length = (catV (l.take i)).size := JaI _
   generalize T : bI (catV (l.take i)) = q at *; generalize viS (gd l i) = v at *; generalize U : decide (0 < i) = u at *; simp -implicitDefEqProofs (disch := omega) only [go_sem, m, o, w, j]
   refine Jaa O ?_
   simp -implicitDefEqProofs (disch := omega) only [go_sem, m, o, w, j]
   refine Jar rfl ?_
   have L : LOK prog 127 (inI [171966512]) ([.ptr 171966512 2 0 0, Str v] ++ []) (stO (bLP u q)) (.tup [I v.size, .v .nilIface]) (stO (bLP true (q ++ bI v))) := Jqj u q v (by omega)
   refine Jck [171966512] L ?_ ?_ ?_ ?_ ?_ ?_ ?_
   . simp -implicitDefEqProofs (disch := omega) only [go_sem, m, o, w, j]
   . simp -implicitDefEqProofs (disch := omega) only [go_sem, m, o, w, j]
   . cases u <;> simp -implicitDefEqProofs (disch := omega) only [go_sem, m, o, w, j, z, A]
   . cases u <;> simp -implicitDefEqProofs (disch := omega) only [go_sem, m, o, w, j]
   . cases u <;> simp -implicitDefEqProofs (disch := omega) only [go_sem, m, o, w, j]
   . simp -implicitDefEqProofs (disch := omega) only [go_sem, m, o, w, j]
   . simp -implicitDefEqProofs (disch := omega) only [go_sem, m, o, w, j]
     refine Jad (l.length - (i + 1)) (by omega) ⟨i + 1, by omega, ?_⟩
     have P : decide (0 < i + 1) = true := decide_eq_true (by omega)
     rw [G, P]; simp -implicitDefEqProofs (disch := omega) only [go_sem, m, o, w, j, z, A]; try simp
 . obtain rfl : i = l.length := by omega
   rw [L0e, decide_eq_true J] at z; rw [L0e] at A; rw [L0e] at y; simp -implicitDefEqProofs (disch := omega) only [go_sem, m, o, w, j, z, A]
   refine Jar rfl ?_
   have F : (catV l).size ≠ 0 := by
    cases l with
    | nil => simp at J
    | cons n l =>
     have := Jqe n
     rw [catV, L0V]; omega
   have B : LOK prog 128 (inI [171966512]) ([.ptr 171966512 2 0 0] ++ []) (stO (bLP true (bI (catV l)))) (Str (catV l)) (stO [(171966512, ⟨207, 2, [.agg [bPP true, .any]]⟩), (171966513, ⟨5, 1, []⟩)]) := Jns true (catV l) F (by omega)
   refine Jck [171966512] B ?_ ?_ ?_ ?_ ?_ ?_ ?_
   . simp -implicitDefEqProofs (disch := omega) only [go_sem, m]
   . simp -implicitDefEqProofs (disch := omega) only [go_sem, m]
   . simp -implicitDefEqProofs (disch := omega) only [go_sem, z, A]
   . simp -implicitDefEqProofs (disch := omega) only [go_sem]
   . simp -implicitDefEqProofs (disch := omega) only [go_sem]
   . simp -implicitDefEqProofs (disch := omega) only [go_sem]
   . simp -implicitDefEqProofs (disch := omega) only [go_sem, results81]
def recV (l : Lg) (e : Int) : AV := if legF l = true /\ (1 <= e /\ e <= 2) then .tup [Str (recF l e), I 0] else .tup [Str ⟨#[]⟩, I 380]
theorem JpA {l : Lg} (h : legF l = true) (e : Int) (y : 1 <= e /\ e <= 2) (n : Cn) (j : cntF n = true) : ∀ x ∈ [8, l.f, l.t, e, n.b, n.e], -4611686018427387903 <= x /\ x <= 4611686018427387903 := by
 obtain ⟨o, u, w⟩ := Jb4.1 h
 have := JdE.1 j
 intro x m
 simp only [L0i, List.mem_nil_iff, or_false] at m
 omega
theorem JhS (l : Lg) (e : Int) : Ev prog 35 [LGP l, I e] (recV l e) := by
 have B := Jf0 l; have w := Jc0 e 1 2
 obtain ⟨r, y⟩ : ∃ r, recV l e = r := ⟨_, rfl⟩
 have m : legF l = true -> (1 <= e /\ e <= 2) -> r = .tup [Str (recF l e), I 0] := fun a b => by rw [<- y]; exact if_pos ⟨a, b⟩
 have o : ¬ (legF l = true /\ (1 <= e /\ e <= 2)) -> r = .tup [Str ⟨#[]⟩, I 380] := fun a => by rw [<- y]; exact if_neg a
 rw [y]; clear y
 refine EV func35 ?_
 refine SA ?_
 refine Jaa B ?_
 by_cases j : legF l = true
 rotate_left
 . rw [o (fun h => j h.1)]
   have j : legF l = false := by simpa using j
   exact SB
 refine SA ?_
 by_cases he : 1 <= e /\ e <= 2
 rotate_left
 . rw [o (fun h => he h.2)]
   rw [decide_eq_false he] at w
   refine Jaa w ?_
   exact SB
 rw [decide_eq_true he] at w; rw [m j he]; clear m o
 refine Jaa w ?_
 have C := (Jb4.1 j).2.1; have D := (Jb4.1 j).2.2
 obtain rfl | rfl : e = 1 \/ e = 2 := by omega
 . have u := JsN [8, l.f, l.t, 1, l.g.b, l.g.e] (by simp) (by simp) (JpA j 1 he l.g C)
   rw [JiL] at u
   have z : ((1 : Int) - 1).toNat = 0 := rfl
   have A : ((2 : Int) - 1).toNat = 1 := rfl
   simp -implicitDefEqProofs (disch := omega) only [go_sem, z, A]
   refine Jaa u ?_
   simp -implicitDefEqProofs (disch := omega) only [go_sem, results35]; try rfl
 . have u := JsN [8, l.f, l.t, 2, l.k.b, l.k.e] (by simp) (by simp) (JpA j 2 he l.k D)
   rw [JiL] at u
   have z : ((1 : Int) - 1).toNat = 0 := rfl
   have A : ((2 : Int) - 1).toNat = 1 := rfl
   simp -implicitDefEqProofs (disch := omega) only [go_sem, z, A]
   refine Jaa u ?_
   simp -implicitDefEqProofs (disch := omega) only [go_sem, results35]; try rfl
set_option maxHeartbeats 1000000 in
theorem Jk5 (l : Lg) (e : Int) : Ev prog 18 [LGP l, I e] (recV l e) := by
 have S := Jiy l; have D := JfH e 1 2
 obtain ⟨r, G⟩ : ∃ r, recV l e = r := ⟨_, rfl⟩
 have z : legF l = true -> (1 <= e /\ e <= 2) -> r = .tup [Str (recF l e), I 0] := fun a b => by rw [<- G]; exact if_pos ⟨a, b⟩
 have A : ¬ (legF l = true /\ (1 <= e /\ e <= 2)) -> r = .tup [Str ⟨#[]⟩, I 380] := fun a => by rw [<- G]; exact if_neg a
 rw [G]; clear G
 refine EV func18 ?_
 simp -implicitDefEqProofs (disch := omega) only [go_sem]
 refine Jaa S ?_
 by_cases w : legF l = true
 rotate_left
 . rw [A (fun h => w h.1)]
   have w : legF l = false := by simpa using w
   simp -implicitDefEqProofs (disch := omega) only [go_sem, w, results18]
 simp -implicitDefEqProofs (disch := omega) only [go_sem, w]
 by_cases he : 1 <= e /\ e <= 2
 rotate_left
 . rw [A (fun h => he h.2)]
   rw [decide_eq_false he] at D
   refine Jaa D ?_
   simp -implicitDefEqProofs (disch := omega) only [go_sem, results18]
 rw [decide_eq_true he] at D; rw [z w he]; clear z A
 refine Jaa D ?_
 obtain ⟨n, F, y⟩ : ∃ n : Cn, n = (if e = 1 then l.g else l.k) /\ recF l e = recN l e n := ⟨_, rfl, rfl⟩
 have M : cntF n = true := by
  rw [F]; split
  . exact (Jb4.1 w).2.1
  . exact (Jb4.1 w).2.2
 have O := JpA w e he n M; rw [y, <- JiL]; clear y S D; generalize T : [8, l.f, l.t, e, n.b, n.e] = L at *
 have V : L.length = 6 := by rw [<- T]; rfl
 simp -implicitDefEqProofs (disch := omega) only [go_sem]
 refine JbV (fun E B => E 1 = I e /\ E 2 = .ptr 39845920 6 0 0 /\ E 6 = .ptr 39845984 2 0 0 /\ B 39845920 = some ⟨33, 6, [LGP l]⟩ /\ B 39845984 = some ⟨31, 2, [CNP n]⟩) (fun h => ?_) (fun h => ?_) ?_
 . rw [if_neg (by omega)] at F
   subst F; simp -implicitDefEqProofs (disch := omega) only [go_sem, false_and]
 . rw [if_pos (by omega)] at F
   subst F; simp -implicitDefEqProofs (disch := omega) only [go_sem]
 rintro E B ⟨H, J, K, Q, R⟩
 simp -implicitDefEqProofs (disch := omega) only [go_sem, H, J, K, Q, R]
 refine Jag (fun k E B => ∃ i : Nat, i + k = 6 /\ E 35 = .own 39846448 1 0 6 /\ E 36 = I 6 /\ E 37 = I i /\ E 7 = Str (catV (L.take i)) /\ B 39846448 = some ⟨3, 1, L.map I⟩) 6 ⟨0, by omega, ?_⟩ ?_
 . rw [<- T]; simp -implicitDefEqProofs (disch := omega) only [go_sem, H, J, K, Q, R]
   exact ⟨rfl, rfl, rfl⟩
 clear H J K Q R E B
 rintro k E B ⟨i, Z, j, m, o, C, u⟩
 simp -implicitDefEqProofs (disch := omega) only [go_sem, j, m, o, C, u]
 refine Jab (fun W => ?_) (fun W => ?_)
 . have U := O _ (Jan L i (by omega))
   have X := JdN (gd L i) U.1 U.2
   have P : catV (L.take (i + 1)) = catV (L.take i) ++ viS (gd L i) := by
    rw [L1a, Jbb L i (by omega)]; exact Jgq _ _
   have N := Jjf (L.take i); rw [L02] at N; have Y := JaQ (gd L i); simp -implicitDefEqProofs (disch := omega) only [go_sem, j, m, o, C, u]
   refine Jaa X ?_
   simp -implicitDefEqProofs (disch := omega) only [go_sem, j, m, o, C, u]
   refine Jad (6 - (i + 1)) (by omega) ⟨i + 1, by omega, ?_⟩
   rw [P]; simp -implicitDefEqProofs (disch := omega) only [go_sem, j, m, o, C, u]; try rfl
 . obtain rfl : i = 6 := by omega
   rw [L0b (by omega)] at C
   simp -implicitDefEqProofs (disch := omega) only [go_sem, j, m, o, C, u, results18]
def lenT : ByteArray := ⟨((List.range 256).map fun i => UInt8.ofNat (if i = 0 then 0 else Nat.log2 i + 1)).toArray⟩
theorem Jt4 (z : Nat) (j : z < 64) : lenT[z]? = some (UInt8.ofNat (if z = 0 then 0 else Nat.log2 z + 1)) := by
 have : ∀ z : Fin 64, lenT[(z : Nat)]? = some (UInt8.ofNat (if (z : Nat) = 0 then 0 else Nat.log2 z + 1)) := by decide +kernel
 exact this ⟨z, j⟩
theorem Jl2 (z : Nat) (j : z < 64) : (((UInt8.ofNat (if z = 0 then 0 else Nat.log2 z + 1)).toNat : Nat) : Int) = ((if z = 0 then 0 else Nat.log2 z + 1 : Nat) : Int) /\ (if z = 0 then 0 else Nat.log2 z + 1) <= 6 := by
 have : ∀ z : Fin 64, (((UInt8.ofNat (if (z : Nat) = 0 then 0 else Nat.log2 z + 1)).toNat : Nat) : Int) = ((if (z : Nat) = 0 then 0 else Nat.log2 z + 1 : Nat) : Int) /\ (if (z : Nat) = 0 then 0 else Nat.log2 z + 1) <= 6 := by decide +kernel
 exact this ⟨z, j⟩
theorem Jru {A : Prop} {T T' : ByteArray} {z : Nat} {c : UInt8} {k : AV -> Prop} (m : T = T') (h : T'[z]? = some c) (j : A) (o : k (.v (.int .u8 c.toNat))) : optU A T[z]? k := by
 subst m; rw [h]; exact ⟨j, o⟩
theorem Jq9 (z : Nat) (o : z < 64) : Ev prog 196 [.v (.int .u64 z)] (I (if z = 0 then 0 else Nat.log2 z + 1 : Nat)) := by
 refine EV func196 ?_
 refine SA ?_
 refine Jal (by omega) ?_
 refine SA ?_
 refine Jal (by omega) ?_
 refine SA ?_
 refine Jal (by omega) ?_
 have y : IntKind.u8.wrap (z : Int) = z := by simp [IntKind.wrap, IntKind.bits, IntKind.signed]; omega
 obtain ⟨u, A⟩ := Jl2 z o
 have w := Jt4 z o
 generalize (if z = 0 then 0 else Nat.log2 z + 1) = m at *
 refine SA ?_
 refine Jru (T' := lenT) (by kernel_rfl) w (by omega) ?_
 have j : IntKind.i64.wrap (m : Int) = m := Jcr (by omega)
 simp -implicitDefEqProofs (disch := omega) only [go_sem, u, j, results196]
 try rw [Int.zero_add]
theorem JxF (z : Nat) (j : z < 64) : Ev prog 164 [.v (.int .u64 z)] (I (if z = 0 then 0 else Nat.log2 z + 1 : Nat)) := by
 refine EV func164 ?_
 refine SA ?_
 refine Jaa (Jq9 z j) ?_
 exact SB
theorem JoZ (n : Nat) (E : 2 <= n) (F : n <= 64) : Ev prog 120 [I n] (I (Jao n : Nat)) := by
 have u := JxF (n - 1) (by omega)
 have z := Jl2 (n - 1) (by omega)
 rw [if_neg (by omega)] at u z
 have j : Jao n = 2 ^ Nat.log2 (n - 1) := rfl
 obtain ⟨m, w⟩ : ∃ m, Nat.log2 (n - 1) = m := ⟨_, rfl⟩
 rw [w] at u j z; rw [j]
 have C : IntKind.u64.wrap ((n : Int) - 1) = ((n - 1 : Nat) : Int) := by
  simp only [IntKind.wrap, IntKind.bits, IntKind.signed]; simp; omega
 have G : (2 : Int) ^ m <= 64 := by
  have : (2 : Nat) ^ m <= 2 ^ 6 := L2r (by omega) (by omega)
  have A : (((2 : Nat) ^ m : Nat) : Int) <= ((2 ^ 6 : Nat) : Int) := by exact_mod_cast this
  simpa using A
 have B : (0 : Int) < (2 : Int) ^ m := Int.pow_pos (by omega)
 refine EV func120 ?_
 refine SA ?_
 refine Jaa u ?_
 have D : (((m + 1 : Nat) : Int) - 1) = m := by omega
 have o : min m 64 = m := by omega
 have y : IntKind.i64.wrap ((2 : Int) ^ m) = (2 : Int) ^ m := Jcr (by omega)
 simp -implicitDefEqProofs (disch := omega) only [go_sem, D, o, y, Int.one_mul, L12, results120]; try simp
instance : Inhabited (ByteArray × Bool) := ⟨(⟨#[]⟩, false)⟩
abbrev SLs (l : List ByteArray) : AV := .sl 1 (l.map Str)
abbrev SDP (x : ByteArray × Bool) : AV := .agg [Str x.1, B x.2]
abbrev SDS (l : List (ByteArray × Bool)) : AV := .sl 2 (l.map SDP)
section
variable (p : Nat -> Bool) (l : List (ByteArray × Bool))
@[go_sem] theorem JvP : AV.namesL p (l.map SDP) = false := Jam p l SDP fun _ => rfl
@[go_sem] theorem Jxp : AV.flatL (l.map SDP) = true := Ja5 l SDP fun _ => rfl
@[go_sem] theorem Jwv : JbH 2 (l.map SDP) = true := JaD 2 l SDP fun _ => ⟨rfl, rfl⟩
@[go_sem] theorem Ju3 (a : ByteArray) (b : Bool) : l.map SDP ++ [.agg [.v (.string a), .v (.bool b)]] = (l ++ [(a, b)]).map SDP := by simp
end
section
variable (p : Nat -> Bool) (l : List ByteArray)
@[go_sem] theorem JvQ : AV.namesL p (l.map Str) = false := Jam p l Str fun _ => rfl
@[go_sem] theorem Jxq : AV.flatL (l.map Str) = true := Ja5 l Str fun _ => rfl
@[go_sem] theorem Jww : JbH 1 (l.map Str) = true := JaD 1 l Str fun _ => ⟨rfl, rfl⟩
@[go_sem] theorem Ju4 (x : ByteArray) : l.map Str ++ [.v (.string x)] = (l ++ [x]).map Str := by simp
end
def bkS (l : List ByteArray) : Nat -> List (List AV)
 | 0 => []
 | k + 1 => [I k, Str (gd l k)] :: bkS l k
theorem Jfl (p : Nat -> Bool) (l : List ByteArray) : ∀ k, AV.namesL p ((bkS l k).map .tup) = false
 | 0 => rfl
 | k + 1 => by
  show AV.namesL p (.tup [I k, Str (gd l k)] :: (bkS l k).map .tup) = false
  simp only [go_sem, Jfl p l k]
  first | done | simp
attribute [go_sem] Jfl
theorem Jn0 (l : List ByteArray) : ∀ k, ∀ y ∈ bkS l k, y.length = 2
  | 0, y, h => by cases h
  | k + 1, y, h => by
    rcases L0i.1 h with rfl | h
    . rfl
    . exact Jn0 l k y h
theorem JqC (l : List ByteArray) : Ev prog 162 [SLs l] (.clo 194 [.pt (SLs l) 0]) := by
 refine JeE (r := .clo 194 [.nptr 50 1 [SLs l]]) ?_ _
 refine EV func162 ?_
 exact SB
theorem JnU (l : List ByteArray) (A : l.length <= 1000000) : SOK prog 194 [.pt (SLs l) 0] (stO []) (bkS l l.length) := by
 refine Jj4 func194 rfl (by kernel_rfl) mo (nb rfl) ?_ rfl fun y => ?_
 . exact Jfl allB _ _
 simp -implicitDefEqProofs (disch := omega) only [go_sem]
 refine Jag (fun n E z => E 0 = .yld y /\ E 1 = .pt (SLs l) 0 /\ E 3 = I ((n : Int) - 1) /\ n <= l.length /\ E 19 = .tup ((bkS l n).map .tup)) l.length ?_ ?_
 . simp -implicitDefEqProofs (disch := omega) only [go_sem]
   try exact L0a _
 rintro n E z ⟨m, o, u, B, j⟩
 refine SA ?_
 cases n with
 | zero =>
  refine Jal (by omega) ?_
  have j : E 19 = .tup [] := j
  simp -implicitDefEqProofs (disch := omega) only [go_sem, j]
  exact .inl trivial
 | succ n =>
  refine Ja1 (by omega) ?_
  have j : E 19 = .tup (.tup [I n, Str (gd l n)] :: (bkS l n).map .tup) := j
  have w : ((n + 1 : Nat) : Int) - 1 = n := by omega
  simp -implicitDefEqProofs (disch := omega) only [go_sem, m, o, u, j, w]
  refine ⟨?_, .inr trivial⟩
  refine Jad n (by omega) ?_
  refine SA ?_
  try omega
def bkD (l : List (ByteArray × Bool)) : Nat -> List (List AV)
 | 0 => []
 | k + 1 => [I k, SDP (gd l k)] :: bkD l k
theorem Jfk (p : Nat -> Bool) (l : List (ByteArray × Bool)) : ∀ k, AV.namesL p ((bkD l k).map .tup) = false
 | 0 => rfl
 | k + 1 => by
  show AV.namesL p (.tup [I k, SDP (gd l k)] :: (bkD l k).map .tup) = false
  simp only [go_sem, Jfk p l k]
  first | done | simp
attribute [go_sem] Jfk
theorem JnZ (l : List (ByteArray × Bool)) : ∀ k, ∀ y ∈ bkD l k, y.length = 2
  | 0, y, h => by cases h
  | k + 1, y, h => by
    rcases L0i.1 h with rfl | h
    . rfl
    . exact JnZ l k y h
theorem JqB (l : List (ByteArray × Bool)) : Ev prog 175 [SDS l] (.clo 208 [.pt (SDS l) 0]) := by
 refine JeE (r := .clo 208 [.nptr 255 1 [SDS l]]) ?_ _
 refine EV func175 ?_
 exact SB
theorem JnT (l : List (ByteArray × Bool)) (A : l.length <= 1000000) : SOK prog 208 [.pt (SDS l) 0] (stO []) (bkD l l.length) := by
 refine Jj4 func208 rfl (by kernel_rfl) mo (nb rfl) ?_ rfl fun y => ?_
 . exact Jfk allB _ _
 simp -implicitDefEqProofs (disch := omega) only [go_sem]
 refine Jag (fun n E z => E 0 = .yld y /\ E 1 = .pt (SDS l) 0 /\ E 3 = I ((n : Int) - 1) /\ n <= l.length /\ E 19 = .tup ((bkD l n).map .tup)) l.length ?_ ?_
 . simp -implicitDefEqProofs (disch := omega) only [go_sem]
   try exact L0a _
 rintro n E z ⟨m, o, u, B, j⟩
 refine SA ?_
 cases n with
 | zero =>
  refine Jal (by omega) ?_
  have j : E 19 = .tup [] := j
  simp -implicitDefEqProofs (disch := omega) only [go_sem, j]
  exact .inl trivial
 | succ n =>
  refine Ja1 (by omega) ?_
  have j : E 19 = .tup (.tup [I n, SDP (gd l n)] :: (bkD l n).map .tup) := j
  have w : ((n + 1 : Nat) : Int) - 1 = n := by omega
  simp -implicitDefEqProofs (disch := omega) only [go_sem, m, o, u, j, w]
  refine ⟨?_, .inr trivial⟩
  refine Jad n (by omega) ?_
  refine SA ?_
  try omega
theorem JhK (σ : Jac) : only (inI []) σ = stO [] := by
 funext id
 simp [only, inI, stO]
theorem Jjh {T : Type} (l : List T) (h : l ≠ []) : ∃ a b, l = a ++ [b] := ⟨l.dropLast, l.getLast h, (List.dropLast_concat_getLast h).symm⟩
theorem JoB {T : Type} [Inhabited T] (A : List T) (a b : T) : gd (A ++ [a] ++ [b]) A.length = a := by
 rw [L0I, JaT _ _ _ (L0a _), L1l]; rfl
theorem JoC {T : Type} [Inhabited T] (A : List T) (a b : T) : gd (A ++ [a] ++ [b]) (A.length + 1) = b := by
 rw [JaT _ _ _ (by simp), L07]; simp
theorem Jkd {T : Type} (A : List T) (a b : T) : (A ++ [a] ++ [b]).take A.length = A := by simp
def stR (l : List ByteArray) (i : Nat) (W : List ByteArray) (Z : List Int) (E : Env) (σ : Jac) : Prop :=
 E 11 = SLs l /\ E 12 = I l.length /\ E 13 = I i /\ E 3 = .own 249561136 1 0 W.length /\ E 4 = .own 249561152 1 0 Z.length /\
  σ 249561136 = some ⟨9, 1, W.map Str⟩ /\ σ 249561152 = some ⟨3, 1, Z.map I⟩
def lenZ (g : List (List ByteArray)) : List Int := g.map fun x => (x.length : Int)
theorem Jq1 {g : List (List ByteArray)} (j : Desc g) : g.length <= g.flatten.length := by
 induction g with
 | nil => simp
 | cons x g m =>
  have := JiI j.1
  have := m j.2.2
  rw [L1J, L07, L0h]; omega
set_option maxHeartbeats 4000000 in
theorem Jk9 (l : List ByteArray) (hl : l.length <= 1000) (hs : ∀ s ∈ l, s.size <= 1000000) : Ev prog 118 [SLs l] (Str (Jau l)) := by
  have hrs := Jcc
  refine EV func118 ?_
  simp -implicitDefEqProofs (disch := omega) only [go_sem]
  refine Jag (fun k E σ => ∃ (i : Nat) (g : List (List ByteArray)), i + k = l.length /\ Desc g /\ g.flatten = l.take i /\ stR l i (g.map Jau) (lenZ g) E σ) l.length ⟨0, [], by omega, trivial, rfl, ?_⟩ ?_
  . simp -implicitDefEqProofs (disch := omega) only [go_sem, stR, lenZ]; try rfl
  rintro k E σ ⟨i, g, hk, hd, hf, e11, e12, e13, e3, e4, m3, m4⟩
  have hgl := Jq1 hd; rw [hf, L02] at hgl; rw [L06] at e3
  have hzl : (lenZ g).length = g.length := L06 _
  rw [hzl] at e4; simp -implicitDefEqProofs (disch := omega) only [go_sem, e11, e12, e13, e3, e4, m3, m4]
  refine Jab (fun hc => ?_) (fun hc => ?_)
  . have hi : i < l.length := by omega
    have hlf := JkP (gd l i) (by have := hs _ (Jan l i hi); omega)
    have hroot1 : JaP (gd l i) = Jau [gd l i] := (Jds JaP JaU empF _).symm
    rw [hroot1] at hlf
    have hW1 : g.map Jau ++ [Jau [gd l i]] = (g ++ [[gd l i]]).map Jau := by rw [L16]; rfl
    have hZ1 : lenZ g ++ [1] = lenZ (g ++ [[gd l i]]) := by unfold lenZ; rw [L16]; rfl
    have hp0 := Jpn hd (gd l i)
    have hf0 : g.flatten ++ [gd l i] = l.take (i + 1) := by rw [hf, L1a, Jbb l i hi]; rfl
    have hml : (g.map Jau).length = g.length := L06 _
    have hgl0 : g.length <= i := by omega
    generalize hW : g.map Jau = W at *; generalize hZ : lenZ g = Z at *
    have hWt : W.take g.length = W := L0b (by omega)
    have hZt : Z.take g.length = Z := L0b (by omega)
    simp -implicitDefEqProofs (disch := omega) only [go_sem, e11, e12, e13, e3, e4, m3, m4]
    refine Jaa hlf ?_
    simp -implicitDefEqProofs (disch := omega) only [go_sem, e11, e12, e13, e3, e4, m3, m4, hml, hzl, hWt, hZt]
    refine Jag (fun k E σ => ∃ (g' : List (List ByteArray)) (x : List ByteArray), k = g'.length /\ g'.length <= i /\ Piled g' x /\ g'.flatten ++ x = l.take (i + 1) /\ E 7 = I ((g'.length : Int) + 1) /\ stR l i ((g' ++ [x]).map Jau) (lenZ (g' ++ [x])) E σ) g.length ⟨g, [gd l i], rfl, hgl0, hp0, hf0, ?_⟩ ?_
    . rw [<- hW1, <- hZ1]; simp -implicitDefEqProofs (disch := omega) only [go_sem, e11, e12, e13, e3, e4, m3, m4, stR, hml, hzl, L07, L0h, L0t]; try simp
    clear e11 e12 e13 e3 e4 m3 m4 E σ hW1 hZ1 hWt hZt hml hzl hW hZ hp0 hf0 hgl hgl0 W Z
    rintro k' E σ ⟨g', x, hk', hgi, hp, hfx, e7, e11, e12, e13, e3, e4, m3, m4⟩
    by_cases hg0 : g' = []
    . subst hg0; have hd' := Jpo hp
      have e7 : E 7 = I 1 := e7
      simp -implicitDefEqProofs (disch := omega) only [go_sem, e7, e11, e12, e13, e3, e4, m3, m4]
      refine Jad (l.length - (i + 1)) (by omega) ⟨i + 1, [x], by omega, hd', by simpa using hfx, ?_⟩
      simp -implicitDefEqProofs (disch := omega) only [go_sem, e7, e11, e12, e13, e3, e4, m3, m4, stR, L1C]; try rfl
    . obtain ⟨a, y, rfl⟩ := Jjh g' hg0
      obtain ⟨m, hm⟩ : ∃ m, a.length = m := ⟨_, rfl⟩
      have hgy : (a ++ [y]).length = m + 1 := by rw [L07, hm]; rfl
      rw [hgy] at hk' hgi e7
      have e7 : E 7 = I ((m : Int) + 2) := by rw [e7, show ((m + 1 : Nat) : Int) + 1 = (m : Int) + 2 by omega]
      have hWl : ((a ++ [y] ++ [x]).map Jau).length = m + 2 := by simp; omega
      have hZl : (lenZ (a ++ [y] ++ [x])).length = m + 2 := by simp [lenZ]; omega
      have hAl : (a.map Jau).length = m := by rw [L06, hm]
      have hBl : (lenZ a).length = m := by unfold lenZ; rw [L06, hm]
      have hWe : (a ++ [y] ++ [x]).map Jau = a.map Jau ++ [Jau y] ++ [Jau x] := by simp
      have hZe : lenZ (a ++ [y] ++ [x]) = lenZ a ++ [(y.length : Int)] ++ [(x.length : Int)] := by simp [lenZ]
      rw [hWl] at e3; rw [hZl] at e4
      have hg1 : gd ((a ++ [y] ++ [x]).map Jau) m = Jau y := by rw [hWe, <- hAl]; exact JoB _ _ _
      have hg2 : gd ((a ++ [y] ++ [x]).map Jau) (m + 1) = Jau x := by rw [hWe, <- hAl]; exact JoC _ _ _
      have hg3 : gd (lenZ (a ++ [y] ++ [x])) m = y.length := by rw [hZe, <- hBl]; exact JoB _ _ _
      have hg4 : gd (lenZ (a ++ [y] ++ [x])) (m + 1) = x.length := by rw [hZe, <- hBl]; exact JoC _ _ _
      have ht1 : ((a ++ [y] ++ [x]).map Jau).take m = a.map Jau := by rw [hWe, <- hAl]; exact Jkd _ _ _
      have ht2 : (lenZ (a ++ [y] ++ [x])).take m = lenZ a := by rw [hZe, <- hBl]; exact Jkd _ _ _
      have hj1 : ((m : Int) + 2 - 2).toNat = m := by omega
      have hj2 : ((m : Int) + 2 - 1).toNat = m + 1 := by omega
      have hxl : x.length <= l.length /\ y.length <= l.length := by
        have h1 := congrArg List.length hfx; simp only [L07, List.flatten_append, L1J, List.flatten_nil, L0J, L02] at h1
        omega
      have hnode := JgU (Jau y) (Jau x) (by rw [hrs, hrs]; omega)
      have hfin : stR l i ((a ++ [y] ++ [x]).map Jau) (lenZ (a ++ [y] ++ [x])) E σ := ⟨e11, e12, e13, by rw [hWl]; exact e3, by rw [hZl]; exact e4, m3, m4⟩
      generalize hW : (a ++ [y] ++ [x]).map Jau = W at *; generalize hZ : lenZ (a ++ [y] ++ [x]) = Z at *; simp -implicitDefEqProofs (disch := omega) only [go_sem, e7, e11, e12, e13, e3, e4, m3, m4, hj1, hj2, hg3, hg4, hZl]
      refine Ja1 (by omega) ?_
      simp -implicitDefEqProofs (disch := omega) only [go_sem, e7, e11, e12, e13, e3, e4, m3, m4, hj1, hj2, hg3, hg4, hZl]
      refine Jab (fun he => ?_) (fun he => ?_)
      . have he : y.length = x.length := by omega
        have hpy := (Je6 hp.d).2.1
        have hrt : JaU (Jau y) (Jau x) = Jau (y ++ x) := (JpJ JaP JaU empF hpy he).symm
        rw [hrt] at hnode; have hjo := Jnc hp he
        have hlen2 : 2 * (x.length : Int) = ((y ++ x).length : Int) := by rw [L07]; omega
        have hW2 : a.map Jau ++ [Jau (y ++ x)] = (a ++ [y ++ x]).map Jau := by simp
        have hZ2 : lenZ a ++ [((y ++ x).length : Int)] = lenZ (a ++ [y ++ x]) := by simp [lenZ]
        have hlW : ((a ++ [y ++ x]).map Jau).length = m + 1 := by simp; omega
        have hlZ : (lenZ (a ++ [y ++ x])).length = m + 1 := by simp [lenZ]; omega
        simp -implicitDefEqProofs (disch := omega) only [go_sem, e7, e11, e12, e13, e3, e4, m3, m4, hj1, hj2, hg1, hg2, hg3, hg4, hZl, hWl]
        refine Jaa hnode ?_
        simp -implicitDefEqProofs (disch := omega) only [go_sem, e7, e11, e12, e13, e3, e4, m3, m4, hj1, hj2, hg1, hg2, hg3, hg4, hZl, hWl, ht1, ht2, hlen2, hAl, hBl]
        refine Jad m (by omega) ⟨a, y ++ x, hm.symm, by omega, hjo, by rw [<- hfx]; simp, ?_⟩
        rw [<- hW2, <- hZ2]; simp -implicitDefEqProofs (disch := omega) only [go_sem, e7, e11, e12, e13, e3, e4, m3, m4, stR, hAl, hBl, L07, L0h, L0t, hm]; simp only [L0H, ht1, ht2]
        refine ⟨by congr 2; omega, ?_⟩
        simp
      . have hds := Jnb hp (fun h => he (by omega))
        simp -implicitDefEqProofs (disch := omega) only [go_sem, e7, e11, e12, e13, e3, e4, m3, m4]
        refine Jad (l.length - (i + 1)) (by omega) ⟨i + 1, a ++ [y] ++ [x], by omega, hds, by rw [<- hfx]; simp, ?_⟩
        rw [hW, hZ]; simp -implicitDefEqProofs (disch := omega) only [go_sem, e7, e11, e12, e13, e3, e4, m3, m4, stR, hWl, hZl]; try rfl
  . obtain rfl : i = l.length := by omega
    rw [L0e] at hf
    by_cases hg0 : g = []
    . subst hg0
      have hl0 : l = [] := by rw [<- hf]; rfl
      subst hl0
      have hsum := JsP ⟨#[]⟩ (by decide)
      have hre : Jau [] = shaF ⟨#[]⟩ := JeS JaP JaU empF
      rw [hre]
      have e3 : E 3 = .own 249561136 1 0 0 := e3
      simp -implicitDefEqProofs (disch := omega) only [go_sem, e11, e12, e13, e3, e4, m3, m4]
      refine Ja1 rfl ?_
      simp -implicitDefEqProofs (disch := omega) only [go_sem]
      refine Jaa hsum ?_
      simp -implicitDefEqProofs (disch := omega) only [go_sem, results118]
    . obtain ⟨a, x, rfl⟩ := Jjh g hg0
      have hroot : Jau l = (a.map Jau).foldr JaU (Jau x) := by rw [<- hf]; exact JjX JaP JaU empF hd
      rw [hroot]
      obtain ⟨m, hm⟩ : ∃ m, a.length = m := ⟨_, rfl⟩
      have hgy : (a ++ [x]).length = m + 1 := by rw [L07, hm]; rfl
      have hAl : (a.map Jau).length = m := by rw [L06, hm]
      have hWe : (a ++ [x]).map Jau = a.map Jau ++ [Jau x] := by simp
      rw [hgy] at e3 e4 hgl; rw [hWe] at m3
      have hA32 : ∀ s ∈ a.map Jau, s.size = 32 := fun s hs => by obtain ⟨z, _, rfl⟩ := L08.1 hs; exact hrs z
      have hx32 := hrs x; generalize a.map Jau = A at *; generalize Jau x = r at *
      have hg1 : gd (A ++ [r]) m = r := by rw [<- hAl, JaT _ _ _ (L0a _), L1l]; rfl
      have ht1 : (A ++ [r]).take m = A := by rw [<- hAl]; simp
      have hWl : (A ++ [r]).length = m + 1 := by simp; omega
      have hj1 : (((m + 1 : Nat) : Int) - 1).toNat = m := by omega
      have hml : m <= 1000 := by omega
      clear hd hf hg0 hroot hgy hm hWe hs hrs hgl hzl hk hc m4 e4; generalize hW : A ++ [r] = W at *; simp -implicitDefEqProofs (disch := omega) only [go_sem, e3, m3, hWl]
      refine Jal (by omega) ?_
      simp -implicitDefEqProofs (disch := omega) only [go_sem, e3, m3, hWl, hj1, hg1]
      refine Jar rfl ?_
      refine Jbk [249561136] ?_
      have hle : (m <= m + 1) = True := eq_true (by omega)
      simp -implicitDefEqProofs (disch := omega) only [go_sem, e3, m3, hWl, hj1, hg1, ht1, L0H, hle]
      refine Jaa (JqC A) ?_
      simp -implicitDefEqProofs (disch := omega) only [go_sem]
      have h8 : ∀ (E0 : Env) (k : Nat), True := fun _ _ => trivial
      refine Jca ?_
      refine JdO [] [249561216] 15597668 (bkS A A.length)
        (fun xs σ => ∃ k : Nat, k <= A.length /\ xs = bkS A k /\ σ 249561216 = some ⟨9, 1, [Str ((A.drop k).foldr JaU r)]⟩)
        (g := 194) (caps := [.pt (SLs A) 0]) ?_ ?_ ?_ ?_ ?_ ?_ ?_ ?_
      . simp -implicitDefEqProofs (disch := omega) only [go_sem]
      . rw [JhK]; exact JnU A (by omega)
      . exact Jn0 A _
      . simp -implicitDefEqProofs (disch := omega) only [go_sem]
      . simp -implicitDefEqProofs (disch := omega) only [go_sem]
      . refine ⟨A.length, L0a _, rfl, ?_⟩
        rw [L0C]; simp -implicitDefEqProofs (disch := omega) only [go_sem]; try rfl
      . rintro E0 hE0 y rest σ' ⟨k, hk, hx, m8⟩
        have e8 : E0 8 = .ptr 249561216 1 0 0 := by rw [hE0]; simp -implicitDefEqProofs (disch := omega) only [go_sem]
        clear hE0
        cases k with
        | zero => cases hx
        | succ k =>
          have hx : y :: rest = [I k, Str (gd A k)] :: bkS A k := hx
          rw [List.cons.injEq] at hx; obtain ⟨rfl, rfl⟩ := hx
          have hdk : (A.drop k).foldr JaU r = JaU (gd A k) ((A.drop (k + 1)).foldr JaU r) := by rw [Jaz A k (by omega)]; rfl
          have hfs : ((A.drop (k + 1)).foldr JaU r).size = 32 := by
            cases A.drop (k + 1) with
            | nil => exact hx32
            | cons z q => exact JcP _ _
          have hnd := JgU (gd A k) ((A.drop (k + 1)).foldr JaU r) (by rw [hfs, hA32 _ (Jan A k (by omega))]; omega)
          rw [<- hdk] at hnd; generalize (A.drop (k + 1)).foldr JaU r = q at *; simp -implicitDefEqProofs (disch := omega) only [go_sem, e8, m8]
          refine Jaa hnd ?_
          simp -implicitDefEqProofs (disch := omega) only [go_sem, e8, m8]
          refine ⟨inL [], fun _ _ => rfl, k, by omega, rfl, ?_⟩
          simp -implicitDefEqProofs (disch := omega) only [go_sem]
      . rintro E0 hE0 σ' ⟨k, hk, hx, m8⟩
        have e8 : E0 8 = .ptr 249561216 1 0 0 := by rw [hE0]; simp -implicitDefEqProofs (disch := omega) only [go_sem]
        clear hE0
        cases k with
        | succ k => cases hx
        | zero =>
          rw [List.drop_zero] at m8; simp -implicitDefEqProofs (disch := omega) only [go_sem, e8, m8, results118]
def idxG {T : Type} (Q : T -> Bool) : List T -> Nat -> Int
 | [], _ => -1
 | r :: l, v => if Q r = true then v else idxG Q l (v + 1)
theorem JeH {T : Type} (Q : T -> Bool) : ∀ (l : List T) (v : Nat), decide (0 <= idxG Q l v) = l.any Q
 | [], _ => rfl
 | r :: l, v => by
  rw [idxG, List.any_cons]
  cases h : Q r with
  | true => rw [if_pos rfl, Bool.true_or, decide_eq_true (by omega)]
  | false => rw [if_neg (by simp), L1O]; exact JeH Q l (v + 1)
abbrev CKS (l : List Ck) : AV := .sl 2 (l.map CKP)
abbrev TFS (l : List Tf) : AV := .sl 2 (l.map TF)
section
variable (p : Nat -> Bool) (l : List Ck)
@[go_sem] theorem JvJ : AV.namesL p (l.map CKP) = false := Jam p l CKP fun _ => rfl
@[go_sem] theorem Jwp : JbH 2 (l.map CKP) = true := JaD 2 l CKP fun _ => ⟨rfl, rfl⟩
end
section
variable (p : Nat -> Bool) (l : List Tf)
@[go_sem] theorem JxM : AV.namesL p (l.map TF) = false := Jam p l TF fun _ => rfl
@[go_sem] theorem JyU : JbH 2 (l.map TF) = true := JaD 2 l TF fun _ => ⟨rfl, rfl⟩
end
theorem JtX (g : FuncId) (caps : List AV) (Q : ByteArray -> Bool) (l : List ByteArray) (G : ∀ r ∈ l, Ev prog g ([Str r] ++ caps) (B (Q r))) (y : ∀ p, AV.namesL p caps = false) (A : ∀ σ, caps.map (res σ) = caps) (K : l.length <= 9223372036854775807) (C : JaH caps = true := by rfl) : Ev prog 189 [SLs l, .clo g caps] (I (idxG Q l 0)) := by
 refine EV func189 ?_
 refine SA ?_
 refine Jag (fun k E σ => ∃ i : Nat, i + k = l.length /\ idxG Q l 0 = idxG Q (l.drop i) i /\ E 0 = SLs l /\ E 1 = .clo g caps /\ E 7 = I l.length /\ E 8 = I i) l.length ⟨0, by omega, rfl, ?_⟩ ?_
 . refine SA ?_
   rfl
 rintro k E σ ⟨i, J, z, j, m, o, u⟩
 simp -implicitDefEqProofs (disch := omega) only [go_sem, j, m, o, u]
 refine Jab (fun F => ?_) (fun F => ?_)
 . have D : i < l.length := by omega
   rw [Jaz l i D, idxG] at z; have H := G (gd l i) (Jan l i D); simp -implicitDefEqProofs (disch := omega) only [go_sem, j, m, o, u, y, A, C, L16]
   refine Jaa H ?_
   simp -implicitDefEqProofs (disch := omega) only [go_sem, j, m, o, u]
   refine Jab (fun w => ?_) (fun w => ?_)
   . have w : Q (gd l i) = true := by simpa using w
     rw [if_pos w] at z; simp -implicitDefEqProofs (disch := omega) only [go_sem, j, m, o, u, z, results189]
   . have w : ¬ Q (gd l i) = true := by simpa using w
     rw [if_neg w] at z; simp -implicitDefEqProofs (disch := omega) only [go_sem, j, m, o, u]
     refine Jad (l.length - (i + 1)) (by omega) ⟨i + 1, by omega, z, ?_⟩
     simp -implicitDefEqProofs (disch := omega) only [go_sem, j, m, o, u, y]
     rfl
 . obtain rfl : i = l.length := by omega
   rw [L0C, idxG] at z; simp -implicitDefEqProofs (disch := omega) only [go_sem, j, m, o, u, z, results189]
theorem JoJ (g : FuncId) (caps : List AV) (Q : ByteArray -> Bool) (l : List ByteArray) (u : ∀ r ∈ l, Ev prog g ([Str r] ++ caps) (B (Q r))) (j : ∀ p, AV.namesL p caps = false) (m : ∀ σ, caps.map (res σ) = caps) (w : l.length <= 9223372036854775807) (o : JaH caps = true := by rfl) : Ev prog 158 [SLs l, .clo g caps] (B (l.any Q)) := by
 have h := JtX g caps Q l u j m w o; rw [<- JeH Q l 0]; generalize idxG Q l 0 = n at *
 refine EV func158 ?_
 refine SA ?_
 refine Jaa h ?_
 exact SB
theorem JtW (g : FuncId) (caps : List AV) (Q : Int -> Bool) (l : List Int) (G : ∀ r ∈ l, Ev prog g ([I r] ++ caps) (B (Q r))) (y : ∀ p, AV.namesL p caps = false) (A : ∀ σ, caps.map (res σ) = caps) (K : l.length <= 9223372036854775807) (C : JaH caps = true := by rfl) : Ev prog 152 [SL l, .clo g caps] (I (idxG Q l 0)) := by
 refine EV func152 ?_
 refine SA ?_
 refine Jag (fun k E σ => ∃ i : Nat, i + k = l.length /\ idxG Q l 0 = idxG Q (l.drop i) i /\ E 0 = SL l /\ E 1 = .clo g caps /\ E 7 = I l.length /\ E 8 = I i) l.length ⟨0, by omega, rfl, ?_⟩ ?_
 . refine SA ?_
   rfl
 rintro k E σ ⟨i, J, z, j, m, o, u⟩
 simp -implicitDefEqProofs (disch := omega) only [go_sem, j, m, o, u]
 refine Jab (fun F => ?_) (fun F => ?_)
 . have D : i < l.length := by omega
   rw [Jaz l i D, idxG] at z; have H := G (gd l i) (Jan l i D); simp -implicitDefEqProofs (disch := omega) only [go_sem, j, m, o, u, y, A, C, L16]
   refine Jaa H ?_
   simp -implicitDefEqProofs (disch := omega) only [go_sem, j, m, o, u]
   refine Jab (fun w => ?_) (fun w => ?_)
   . have w : Q (gd l i) = true := by simpa using w
     rw [if_pos w] at z; simp -implicitDefEqProofs (disch := omega) only [go_sem, j, m, o, u, z, results152]
   . have w : ¬ Q (gd l i) = true := by simpa using w
     rw [if_neg w] at z; simp -implicitDefEqProofs (disch := omega) only [go_sem, j, m, o, u]
     refine Jad (l.length - (i + 1)) (by omega) ⟨i + 1, by omega, z, ?_⟩
     simp -implicitDefEqProofs (disch := omega) only [go_sem, j, m, o, u, y]
     rfl
 . obtain rfl : i = l.length := by omega
   rw [L0C, idxG] at z; simp -implicitDefEqProofs (disch := omega) only [go_sem, j, m, o, u, z, results152]
theorem JtP (g : FuncId) (caps : List AV) (Q : Int -> Bool) (l : List Int) (u : ∀ r ∈ l, Ev prog g ([I r] ++ caps) (B (Q r))) (j : ∀ p, AV.namesL p caps = false) (m : ∀ σ, caps.map (res σ) = caps) (w : l.length <= 9223372036854775807) (o : JaH caps = true := by rfl) : Ev prog 106 [SL l, .clo g caps] (B (l.any Q)) := by
 have h := JtW g caps Q l u j m w o; rw [<- JeH Q l 0]; generalize idxG Q l 0 = n at *
 refine EV func106 ?_
 refine SA ?_
 refine Jaa h ?_
 exact SB
theorem JtU (g : FuncId) (caps : List AV) (Q : Ck -> Bool) (l : List Ck) (G : ∀ r ∈ l, Ev prog g ([CKP r] ++ caps) (B (Q r))) (y : ∀ p, AV.namesL p caps = false) (A : ∀ σ, caps.map (res σ) = caps) (K : l.length <= 9223372036854775807) (C : JaH caps = true := by rfl) : Ev prog 147 [CKS l, .clo g caps] (I (idxG Q l 0)) := by
 refine EV func147 ?_
 refine SA ?_
 refine Jag (fun k E σ => ∃ i : Nat, i + k = l.length /\ idxG Q l 0 = idxG Q (l.drop i) i /\ E 0 = CKS l /\ E 1 = .clo g caps /\ E 7 = I l.length /\ E 8 = I i) l.length ⟨0, by omega, rfl, ?_⟩ ?_
 . refine SA ?_
   rfl
 rintro k E σ ⟨i, J, z, j, m, o, u⟩
 simp -implicitDefEqProofs (disch := omega) only [go_sem, j, m, o, u]
 refine Jab (fun F => ?_) (fun F => ?_)
 . have D : i < l.length := by omega
   rw [Jaz l i D, idxG] at z; have H := G (gd l i) (Jan l i D); simp -implicitDefEqProofs (disch := omega) only [go_sem, j, m, o, u, y, A, C, L16]
   refine Jaa H ?_
   simp -implicitDefEqProofs (disch := omega) only [go_sem, j, m, o, u]
   refine Jab (fun w => ?_) (fun w => ?_)
   . have w : Q (gd l i) = true := by simpa using w
     rw [if_pos w] at z; simp -implicitDefEqProofs (disch := omega) only [go_sem, j, m, o, u, z, results147]
   . have w : ¬ Q (gd l i) = true := by simpa using w
     rw [if_neg w] at z; simp -implicitDefEqProofs (disch := omega) only [go_sem, j, m, o, u]
     refine Jad (l.length - (i + 1)) (by omega) ⟨i + 1, by omega, z, ?_⟩
     simp -implicitDefEqProofs (disch := omega) only [go_sem, j, m, o, u, y]
     rfl
 . obtain rfl : i = l.length := by omega
   rw [L0C, idxG] at z; simp -implicitDefEqProofs (disch := omega) only [go_sem, j, m, o, u, z, results147]
theorem JtO (g : FuncId) (caps : List AV) (Q : Ck -> Bool) (l : List Ck) (u : ∀ r ∈ l, Ev prog g ([CKP r] ++ caps) (B (Q r))) (j : ∀ p, AV.namesL p caps = false) (m : ∀ σ, caps.map (res σ) = caps) (w : l.length <= 9223372036854775807) (o : JaH caps = true := by rfl) : Ev prog 100 [CKS l, .clo g caps] (B (l.any Q)) := by
 have h := JtU g caps Q l u j m w o; rw [<- JeH Q l 0]; generalize idxG Q l 0 = n at *
 refine EV func100 ?_
 refine SA ?_
 refine Jaa h ?_
 exact SB
theorem JtY (g : FuncId) (caps : List AV) (Q : Tf -> Bool) (l : List Tf) (G : ∀ r ∈ l, Ev prog g ([TF r] ++ caps) (B (Q r))) (y : ∀ p, AV.namesL p caps = false) (A : ∀ σ, caps.map (res σ) = caps) (K : l.length <= 9223372036854775807) (C : JaH caps = true := by rfl) : Ev prog 148 [TFS l, .clo g caps] (I (idxG Q l 0)) := by
 refine EV func148 ?_
 refine SA ?_
 refine Jag (fun k E σ => ∃ i : Nat, i + k = l.length /\ idxG Q l 0 = idxG Q (l.drop i) i /\ E 0 = TFS l /\ E 1 = .clo g caps /\ E 7 = I l.length /\ E 8 = I i) l.length ⟨0, by omega, rfl, ?_⟩ ?_
 . refine SA ?_
   rfl
 rintro k E σ ⟨i, J, z, j, m, o, u⟩
 simp -implicitDefEqProofs (disch := omega) only [go_sem, j, m, o, u]
 refine Jab (fun F => ?_) (fun F => ?_)
 . have D : i < l.length := by omega
   rw [Jaz l i D, idxG] at z; have H := G (gd l i) (Jan l i D); simp -implicitDefEqProofs (disch := omega) only [go_sem, j, m, o, u, y, A, C, L16]
   refine Jaa H ?_
   simp -implicitDefEqProofs (disch := omega) only [go_sem, j, m, o, u]
   refine Jab (fun w => ?_) (fun w => ?_)
   . have w : Q (gd l i) = true := by simpa using w
     rw [if_pos w] at z; simp -implicitDefEqProofs (disch := omega) only [go_sem, j, m, o, u, z, results148]
   . have w : ¬ Q (gd l i) = true := by simpa using w
     rw [if_neg w] at z; simp -implicitDefEqProofs (disch := omega) only [go_sem, j, m, o, u]
     refine Jad (l.length - (i + 1)) (by omega) ⟨i + 1, by omega, z, ?_⟩
     simp -implicitDefEqProofs (disch := omega) only [go_sem, j, m, o, u, y]
     rfl
 . obtain rfl : i = l.length := by omega
   rw [L0C, idxG] at z; simp -implicitDefEqProofs (disch := omega) only [go_sem, j, m, o, u, z, results148]
theorem JtQ (g : FuncId) (caps : List AV) (Q : Tf -> Bool) (l : List Tf) (u : ∀ r ∈ l, Ev prog g ([TF r] ++ caps) (B (Q r))) (j : ∀ p, AV.namesL p caps = false) (m : ∀ σ, caps.map (res σ) = caps) (w : l.length <= 9223372036854775807) (o : JaH caps = true := by rfl) : Ev prog 103 [TFS l, .clo g caps] (B (l.any Q)) := by
 have h := JtY g caps Q l u j m w o; rw [<- JeH Q l 0]; generalize idxG Q l 0 = n at *
 refine EV func103 ?_
 refine SA ?_
 refine Jaa h ?_
 exact SB
theorem Jn7 {a b : ByteArray} (h : a.data.toList = b.data.toList) : a = b := by
 have j : a.data = b.data := L0S.1 h
 cases a; cases b; simp only at j; rw [j]
theorem Jeq (a b : ByteArray) : (a.toList == b.toList) = decide (a = b) := by
 rw [ByteArray.toList_eq, ByteArray.toList_eq, L1b, decide_eq_true_iff, beq_iff_eq]
 exact ⟨Jn7, fun h => by rw [h]⟩
theorem Jq5 (s : ByteArray) : Ev prog 207 [Str s] (B (decide (s.size = 32))) := by
 refine EV func207 ?_
 simp -implicitDefEqProofs (disch := omega) only [go_sem, ntmps207, results207]
 have : ((s.size : Int) == 32) = decide (s.size = 32) := by rw [L1b]; simp; omega
 rw [this]
theorem JsV (s : ByteArray) : Ev prog 206 [Str s] (B (!decide (s.size = 32))) := by
 refine EV func206 ?_
 refine SA ?_
 refine Jaa (Jq5 s) ?_
 exact SB
theorem Jkn {T : Type} (Q : T -> Bool) (l : List T) : (!l.any fun x => !Q x) = l.all Q := by
 induction l with
 | nil => rfl
 | cons x l j => rw [List.any_cons, L1V, <- j]; cases Q x <;> rfl
theorem JwC (l : List ByteArray) (m : l.length <= 9223372036854775807) : Ev prog 173 [SLs l] (B (digB l)) := by
 have h := JoJ 206 [] (fun s => !decide (s.size = 32)) l (fun r _ => JsV r) (fun _ => rfl) (fun _ => rfl) m
 have j : digB l = !l.any fun s => !decide (s.size = 32) := (Jkn _ l).symm
 rw [j]
 generalize (l.any fun s => !decide (s.size = 32)) = b at *
 refine EV func173 ?_
 refine SA ?_
 refine Jaa h ?_
 exact SB
theorem JgF (n : Nat) (A : 2 <= n) (C : n <= 1000000) : Ev prog 181 [I n] (I (Jao n : Nat)) := by
 refine EV func181 ?_
 refine SA ?_
 refine Jag (fun k E z => ∃ (a m : Nat), m = 2 ^ a /\ m < n /\ k = n - m /\ E 0 = I n /\ E 3 = I m) (n - 1) ⟨0, 1, rfl, by omega, rfl, ?_⟩ ?_
 . refine SA ?_; try rfl
 rintro k E z ⟨a, m, u, y, B, j, o⟩
 have D : 0 < m := by rw [u]; exact L1z (by omega)
 refine SA ?_
 refine Jab (fun w => ?_) (fun w => ?_)
 . refine SA ?_
   refine Jad (n - 2 * m) (by omega) ⟨a + 1, 2 * m, by rw [u, L1L]; omega, by omega, rfl, ?_⟩
   refine SA ?_; try rfl
 . have : Jao n = m := by rw [u]; exact JlY (by omega) (by omega)
   rw [this]; exact SB
theorem JcU {l : List ByteArray} (h : ∀ s ∈ l, s.size <= 1000000) (k : Nat) : (∀ s ∈ l.take k, s.size <= 1000000) /\ ∀ s ∈ l.drop k, s.size <= 1000000 :=
 ⟨fun s j => h s (L0G j), fun s j => h s (L18 j)⟩
theorem JeT : ∀ (n : Nat) (l : List ByteArray), l.length <= n -> l.length <= 1000 -> (∀ s ∈ l, s.size <= 1000000) -> Ev prog 180 [SLs l] (Str (Jau l))
 | n, l, B, J, C => by
  have w := Jcc
  by_cases h0 : l = []
  . subst h0
    have y := Jln ⟨#[]⟩ (by decide)
    have j : Jau [] = shaF ⟨#[]⟩ := JeS JaP JaU empF
    rw [j]
    refine EV func180 ?_
    refine SA ?_
    refine Ja1 rfl ?_
    refine SA ?_
    refine Jaa y ?_
    exact SB
  . have D := L19.2 h0
    by_cases h1 : l.length = 1
    . obtain ⟨s, rfl⟩ : ∃ s, l = [s] := List.length_eq_one_iff.1 h1
      have o := Jf1 s (by have := C s (by simp); omega)
      have j : Jau [s] = JaP s := Jds JaP JaU empF s
      rw [j]
      refine EV func180 ?_
      refine SA ?_
      refine Jal (by simp) ?_
      refine SA ?_
      refine Ja1 rfl ?_
      simp -implicitDefEqProofs (disch := omega) only [go_sem, JaJ]
      refine Jaa o ?_
      exact SB
    . match n, B with
      | 0, B => omega
      | n + 1, B =>
       have z : 2 <= l.length := by omega
       have H := Jby z; have I := Ja7 l.length
       have o := JgF l.length z (by omega)
       have j : Jau l = JaU (Jau (l.take (Jao l.length))) (Jau (l.drop (Jao l.length))) := Jg7 JaP JaU empF z
       rw [j]; generalize Jao l.length = m at *
       have E := JeT n (l.take m) (by rw [L02]; omega) (by rw [L02]; omega) (JcU C m).1
       have F := JeT n (l.drop m) (by rw [L0f]; omega) (by rw [L0f]; omega) (JcU C m).2
       have G := Jf3 (Jau (l.take m)) (Jau (l.drop m)) (by rw [w, w]; omega)
       refine EV func180 ?_
       refine SA ?_
       refine Jal (by omega) ?_
       refine SA ?_
       refine Jal (by omega) ?_
       refine SA ?_
       refine Jaa o ?_
       have u : (m <= l.length) = True := eq_true (by omega)
       refine SA ?_
       refine Jaa E ?_
       have A : (l.drop m).take (l.length - m) = l.drop m := L0b (by rw [L0f]; omega)
       refine SA ?_
       refine Jaa F ?_
       refine SA ?_
       refine Jaa G ?_
       exact SB
theorem JkA (l : List ByteArray) (C : l.length <= 9223372036854775807) : Ev prog 145 [SLs l] (B (digB l)) := by
 refine EV func145 ?_
 refine SA ?_
 refine Jag (fun k E z => ∃ i : Nat, i + k = l.length /\ digB l = digB (l.drop i) /\ E 0 = SLs l /\ E 3 = I i) l.length ⟨0, by omega, rfl, ?_⟩ ?_
 . refine SA ?_; try rfl
 rintro k E z ⟨i, A, j, m, o⟩
 simp -implicitDefEqProofs (disch := omega) only [go_sem, m, o]
 refine Jab (fun w => ?_) (fun w => ?_)
 . have y : i < l.length := by omega
   rw [Jaz l i y] at j
   have j : digB l = (decide ((gd l i).size = 32) && digB (l.drop (i + 1))) := j
   simp -implicitDefEqProofs (disch := omega) only [go_sem, m, o]
   refine Jab (fun u => ?_) (fun u => ?_)
   . rw [decide_eq_false (by omega), L04] at j
     simp -implicitDefEqProofs (disch := omega) only [go_sem, j, results145]
   . rw [decide_eq_true (by omega), L0d] at j
     simp -implicitDefEqProofs (disch := omega) only [go_sem, m, o]
     refine Jad (l.length - (i + 1)) (by omega) ⟨i + 1, by omega, j, ?_⟩
     simp -implicitDefEqProofs (disch := omega) only [go_sem, m, o]; try rfl
 . obtain rfl : i = l.length := by omega
   rw [L0C] at j
   have j : digB l = true := j
   simp -implicitDefEqProofs (disch := omega) only [go_sem, m, o, j, results145]
def valW (s : ByteArray) (n i : Nat) : List ByteArray -> ByteArray × Bool
 | [] => if n = 1 then (JaP s, true) else (⟨#[]⟩, false)
 | x :: p => if n = 1 then (JaP s, false) else if i < Jao n then (JaU (valW s (Jao n) i p).1 x, (valW s (Jao n) i p).2) else (JaU x (valW s (n - Jao n) (i - Jao n) p).1, (valW s (n - Jao n) (i - Jao n) p).2)
theorem Jlp (s : ByteArray) : ∀ (p : List ByteArray) (n i : Nat), 1 <= n -> i < n -> valF JaP JaU s n i p = if (valW s n i p).2 = true then some (valW s n i p).1 else none
 | [], n, i, m, o => by
  rw [valF, valW]
  by_cases h : n = 1
  . rw [if_pos (by omega), if_pos h]; rfl
  . rw [if_neg (by omega), if_neg h]; rfl
 | x :: p, n, i, m, o => by
  rw [valF, valW]
  by_cases h : n = 1
  . rw [if_pos (by omega), if_pos h]; rfl
  . have u := Jby (n := n) (by omega)
    have j := Ja7 n
    rw [if_neg (by omega), if_neg h]
    by_cases hk : i < Jao n
    . rw [if_pos hk, if_pos hk, Jlp s p (Jao n) i j hk]
      simp only
      split <;> rfl
    . rw [if_neg hk, if_neg hk, Jlp s p (n - Jao n) (i - Jao n) (by omega) (by omega)]
      simp only
      split <;> rfl
theorem Jkg (s : ByteArray) (n i : Nat) (p : List ByteArray) : (valW s n i p).1.size <= 32 := by
 cases p with
 | nil =>
  rw [valW]; split
  . rw [JbY]; omega
  . show (0 : Nat) <= 32; omega
 | cons x p =>
  rw [valW]; split
  . rw [JbY]; omega
  . split <;> (rw [JcP]; omega)
theorem Jmq : ∀ (p : List ByteArray) (n i : Nat) (s : ByteArray), 1 <= n -> n <= 60 -> i < n -> s.size <= 1000000 -> p.length <= 9223372036854775807 -> (∀ x ∈ p, x.size = 32) -> Ev prog 146 [I n, I i, Str s, SLs p.reverse] (.tup [Str (valW s n i p).1, B (valW s n i p).2])
 | [], n, i, s, F, J, G, L, z, K => by
  have u := Jf1 s (by omega)
  have m : valW s n i [] = if n = 1 then (JaP s, true) else (⟨#[]⟩, false) := rfl
  refine EV func146 ?_
  simp -implicitDefEqProofs (disch := omega) only [go_sem, List.reverse_nil]
  refine Jab (fun h => ?_) (fun h => ?_)
  . rw [if_pos (by omega)] at m
    rw [m]; simp -implicitDefEqProofs (disch := omega) only [go_sem]
    refine Jaa u ?_
    simp -implicitDefEqProofs (disch := omega) only [go_sem, results146]; try rfl
  . rw [if_neg (by omega)] at m
    rw [m]; refine SA ?_
    refine Ja1 (by decide) ?_
    exact SB
 | x :: p, n, i, s, F, J, G, L, z, K => by
  have u := Jf1 s (by omega)
  have U := K x (by simp)
  rw [L0h] at z
  have m : valW s n i (x :: p) = if n = 1 then (JaP s, false) else if i < Jao n then (JaU (valW s (Jao n) i p).1 x, (valW s (Jao n) i p).2) else (JaU x (valW s (n - Jao n) (i - Jao n) p).1, (valW s (n - Jao n) (i - Jao n) p).2) := rfl
  generalize valW s n i (x :: p) = r at *
  have j : (x :: p).reverse.length = p.length + 1 := by simp
  have A : gd (x :: p).reverse p.length = x := by
   rw [L1N, JaT _ _ _ (by simp), L17, L1l]; rfl
  have C : (x :: p).reverse.take p.length = p.reverse := by
   have e : p.reverse.length = p.length := L17
   rw [L1N, <- e, L2h]
   rfl
  have o : (((p.length + 1 : Nat) : Int) - 1) = p.length := by omega
  have M := fun n i F J G => Jmq p n i s F J G L (by omega) (fun y S => K y (by simp [S]))
  generalize (x :: p).reverse = R at *
  refine EV func146 ?_
  simp -implicitDefEqProofs (disch := omega) only [go_sem, j, o]
  refine Jab (fun h => ?_) (fun h => ?_)
  . rw [if_pos (by omega)] at m
    subst m; simp -implicitDefEqProofs (disch := omega) only [go_sem, j, o]
    refine Jaa u ?_
    simp -implicitDefEqProofs (disch := omega) only [go_sem, j, o, results146]
    try rw [decide_eq_false (by omega)]
  . rw [if_neg (by omega)] at m
    have T := Jby (n := n) (by omega)
    have N := Ja7 n
    have H := JgF n (by omega) (by omega)
    simp -implicitDefEqProofs (disch := omega) only [go_sem, j, o]
    refine Jal (by omega) ?_
    simp -implicitDefEqProofs (disch := omega) only [go_sem, j, o]
    refine Jaa H ?_
    simp -implicitDefEqProofs (disch := omega) only [go_sem, j, o]
    refine Jab (fun Q => ?_) (fun Q => ?_)
    . rw [if_pos (by omega)] at m
      have D := M (Jao n) i N (by omega) (by omega)
      have E := Jf3 (valW s (Jao n) i p).1 x (by have := Jkg s (Jao n) i p; omega)
      generalize valW s (Jao n) i p = q at *; subst m
      have w : (p.length <= p.length + 1) = True := eq_true (by omega)
      simp -implicitDefEqProofs (disch := omega) only [go_sem, j, o, C, w, L0H]
      refine Jaa D ?_
      simp -implicitDefEqProofs (disch := omega) only [go_sem, j, o, A]
      refine Jaa E ?_
      simp -implicitDefEqProofs (disch := omega) only [go_sem, results146]
    . rw [if_neg (by omega)] at m
      have D := M (n - Jao n) (i - Jao n) (by omega) (by omega) (by omega)
      have E := Jf3 x (valW s (n - Jao n) (i - Jao n) p).1 (by have := Jkg s (n - Jao n) (i - Jao n) p; omega)
      generalize valW s (n - Jao n) (i - Jao n) p = q at *
      have O : (((n - Jao n : Nat)) : Int) = (n : Int) - (Jao n : Nat) := by omega
      have P : (((i - Jao n : Nat)) : Int) = (i : Int) - (Jao n : Nat) := by omega
      rw [O, P] at D; subst m
      have w : (p.length <= p.length + 1) = True := eq_true (by omega)
      simp -implicitDefEqProofs (disch := omega) only [go_sem, j, o, C, w, L0H]
      refine Jaa D ?_
      simp -implicitDefEqProofs (disch := omega) only [go_sem, j, o, A]
      refine Jaa E ?_
      simp -implicitDefEqProofs (disch := omega) only [go_sem, results146]
theorem JuO (j : ByteArray) (n i : Int) (s : ByteArray) (p : List ByteArray) (E : n <= 60) (D : s.size <= 1000000) (w : p.length <= 9223372036854775807) : Ev prog 99 [Str j, I n, I i, Str s, SLs p] (B (verB j n i s p)) := by
 have z := JkA p w
 have m : verB j n i s p = (decide (0 <= i /\ i < n) && (digB p && decide (valF JaP JaU s n.toNat i.toNat p.reverse = some j))) := rfl
 refine EV func99 ?_
 simp -implicitDefEqProofs (disch := omega) only [go_sem]
 refine Jaa z ?_
 simp -implicitDefEqProofs (disch := omega) only [go_sem]
 refine Jab (fun A => ?_) (fun A => ?_)
 . rw [decide_eq_false (by omega), L04] at m
   rw [m]; simp -implicitDefEqProofs (disch := omega) only [go_sem, results99]
 simp -implicitDefEqProofs (disch := omega) only [go_sem]
 refine Jab (fun C => ?_) (fun C => ?_)
 . rw [decide_eq_false (by omega), L04] at m
   rw [m]; simp -implicitDefEqProofs (disch := omega) only [go_sem, results99]
 rw [decide_eq_true (by omega), L0d] at m
 cases hd : digB p with
 | false =>
  rw [hd, L04] at m; rw [m]; simp -implicitDefEqProofs (disch := omega) only [go_sem, results99]
 | true =>
  rw [hd, L0d] at m
  obtain ⟨N, rfl⟩ : ∃ N : Nat, n = N := ⟨n.toNat, by omega⟩
  obtain ⟨J, rfl⟩ : ∃ J : Nat, i = J := ⟨i.toNat, by omega⟩
  rw [L12, L12, Jlp s p.reverse N J (by omega) (by omega)] at m
  have o : ∀ x ∈ p.reverse, x.size = 32 := fun x y => by
   rw [List.mem_reverse] at y
   have := L0c.1 hd x y
   simpa using this
  have u := Jmq p.reverse N J s (by omega) (by omega) (by omega) D (by rw [L17]; exact w) o
  rw [L2s] at u; generalize valW s N J p.reverse = q at *; obtain ⟨v, ok⟩ := q; simp -implicitDefEqProofs (disch := omega) only [go_sem]
  refine Jaa u ?_
  rw [m]
  cases ok with
  | false =>
   simp -implicitDefEqProofs (disch := omega) only [go_sem, results99]; try rfl
  | true =>
   simp -implicitDefEqProofs (disch := omega) only [go_sem, Jeq, results99]; try simp
theorem Jp4 (R : List ByteArray) (o : R.length <= 9223372036854775807) : Ev prog 174 [SLs R] (if R = [] then .tup [Str ⟨#[]⟩, .new 9 1 [], B false] else .tup [Str (gd R (R.length - 1)), SLs (R.take (R.length - 1)), B true]) := by
 by_cases h : R = []
 . subst h; rw [if_pos rfl]
   refine EV func174 ?_
   refine SA ?_
   refine Ja1 rfl ?_
   exact SB
 . have u := L19.2 h; rw [if_neg h]
   have m : ((R.length : Int) - 1).toNat = R.length - 1 := by omega
   have j : (R.length - 1 <= R.length) = True := eq_true (by omega)
   refine EV func174 ?_
   refine SA ?_
   refine Jal (by omega) ?_
   simp -implicitDefEqProofs (disch := omega) only [go_sem, m, j, L0H, results174]
def Jfh (x : ByteArray × Bool) (part : ByteArray) : ByteArray := if x.2 = true then JaU x.1 part else JaU part x.1
theorem JoV (x : ByteArray × Bool) (part : ByteArray) (h : x.1.size + part.size <= 99999999) : Ev prog 176 [SDP x, Str part] (Str (Jfh x part)) := by
 obtain ⟨r, b⟩ := x
 refine EV func176 ?_
 simp only at h
 cases b with
 | true =>
  simp -implicitDefEqProofs (disch := omega) only [go_sem]
  refine Jaa (JgU r part (by omega)) ?_
  simp -implicitDefEqProofs (disch := omega) only [go_sem, results176]; try rfl
 | false =>
  simp -implicitDefEqProofs (disch := omega) only [go_sem]
  refine Jaa (JgU part r (by omega)) ?_
  simp -implicitDefEqProofs (disch := omega) only [go_sem, results176]; try rfl
def wayF : Nat -> Nat -> List ByteArray -> Option (List (ByteArray × Bool) × List ByteArray)
 | n, _, [] => if n <= 1 then some ([], []) else none
 | n, i, x :: p => if n <= 1 then some ([], x :: p) else if i < Jao n then (wayF (Jao n) i p).map fun q => ((x, false) :: q.1, q.2) else (wayF (n - Jao n) (i - Jao n) p).map fun q => ((x, true) :: q.1, q.2)
theorem Jlq (s : ByteArray) : ∀ (p : List ByteArray) (n i : Nat), valF JaP JaU s n i p = match wayF n i p with
    | some (w, []) => some (w.foldr Jfh (JaP s))
    | _ => none
  | [], n, i => by
    rw [valF, wayF]
    by_cases h : n <= 1
    . rw [if_pos h, if_pos h]; rfl
    . rw [if_neg h, if_neg h]
  | x :: p, n, i => by
    rw [valF, wayF]
    by_cases h : n <= 1
    . rw [if_pos h, if_pos h]
    . rw [if_neg h, if_neg h]
      by_cases hk : i < Jao n
      . rw [if_pos hk, if_pos hk, Jlq s p]
        cases wayF (Jao n) i p with
        | none => rfl
        | some q =>
          obtain ⟨w, r⟩ := q
          cases r with
          | nil => rfl
          | cons => rfl
      . rw [if_neg hk, if_neg hk, Jlq s p]
        cases wayF (n - Jao n) (i - Jao n) p with
        | none => rfl
        | some q =>
          obtain ⟨w, r⟩ := q
          cases r with
          | nil => rfl
          | cons => rfl
theorem JsS (w : List (ByteArray × Bool)) (x : ByteArray) (b : Bool) (o : Option (List (ByteArray × Bool) × List ByteArray)) : (o.map fun q => ((x, b) :: q.1, q.2)).map (fun q => (w ++ q.1, q.2)) = o.map fun q => ((w ++ [(x, b)]) ++ q.1, q.2) := by
 cases o with
 | none => rfl
 | some q => simp
theorem Jr4 {s : ByteArray} : ∀ w : List (ByteArray × Bool), (w.foldr Jfh (JaP s)).size = 32
 | [] => JbY s
 | x :: w => by
  rw [List.foldr_cons]; unfold Jfh
  split <;> exact JcP _ _
set_option maxHeartbeats 4000000 in
theorem JyN (root : ByteArray) (n i : Int) (s : ByteArray) (p : List ByteArray) (hn : n <= 60) (hs : s.size <= 1000000) (hp : p.length <= 1000000) : Ev prog 131 [Str root, I n, I i, Str s, SLs p] (B (verB root n i s p)) := by
  have h1 := JwC p (by omega)
  have hv : verB root n i s p = (decide (0 <= i /\ i < n) && (digB p && decide (valF JaP JaU s n.toNat i.toNat p.reverse = some root))) := rfl
  obtain ⟨z, hz⟩ : ∃ z, verB root n i s p = z := ⟨_, rfl⟩
  rw [hz] at hv ⊢; clear hz
  refine EV func131 ?_
  simp -implicitDefEqProofs (disch := omega) only [go_sem]
  refine Jab (fun h2 => ?_) (fun h2 => ?_)
  . rw [decide_eq_false (by omega), L04] at hv
    subst hv; simp -implicitDefEqProofs (disch := omega) only [go_sem, results131]
  simp -implicitDefEqProofs (disch := omega) only [go_sem]
  refine Jab (fun h3 => ?_) (fun h3 => ?_)
  . rw [decide_eq_false (by omega), L04] at hv
    subst hv; simp -implicitDefEqProofs (disch := omega) only [go_sem, results131]
  rw [decide_eq_true (by omega), L0d] at hv
  simp -implicitDefEqProofs (disch := omega) only [go_sem]
  refine Jaa h1 ?_
  cases hd : digB p with
  | false =>
    rw [hd, L04] at hv; subst hv; simp -implicitDefEqProofs (disch := omega) only [go_sem, results131]
  | true =>
    rw [hd, L0d] at hv
    obtain ⟨N, rfl⟩ : ∃ N : Nat, n = N := ⟨n.toNat, by omega⟩
    obtain ⟨J, rfl⟩ : ∃ J : Nat, i = J := ⟨i.toNat, by omega⟩
    have h32 : ∀ x ∈ p.reverse, x.size = 32 := fun x hx => by
      rw [List.mem_reverse] at hx
      have := L0c.1 hd x hx
      simpa using this
    rw [L12, L12, Jlq s p.reverse N J] at hv
    have hpr : SLs p = SLs p.reverse.reverse := by rw [L2s]
    have hPl : p.reverse.length <= 1000000 := by rw [L17]; exact hp
    simp -implicitDefEqProofs (disch := omega) only [go_sem]; rw [hpr]; clear hpr h1 hd hp; generalize p.reverse = P0 at *; generalize hW : wayF N J P0 = W at *
    refine Jag (fun k E σ => ∃ (n i : Nat) (P : List ByteArray) (w : List (ByteArray × Bool)), 1 <= n /\ n <= 60 /\ i < n /\ k = P.length /\ P.length + w.length <= 1000000 /\ W = (wayF n i P).map (fun q => (w ++ q.1, q.2)) /\ (∀ x ∈ P, x.size = 32) /\ (∀ x ∈ w, x.1.size = 32) /\
      E 0 = Str root /\ E 1 = I n /\ E 2 = I i /\ E 3 = Str s /\ E 4 = SLs P.reverse /\ E 11 = .own 276824240 2 0 w.length /\ σ 276824240 = some ⟨259, 2, w.map SDP⟩) P0.length ⟨N, J, P0, [], by omega, by omega, by omega, rfl, by simpa using hPl, by rw [hW]; cases W <;> simp, h32, (fun x hx => by cases hx), ?_⟩ ?_
    . simp -implicitDefEqProofs (disch := omega) only [go_sem]; try rfl
    clear hPl
    rintro k E σ ⟨n, i, P, w, hn1, hn2, hi, hk, hPw, hW, h32, hw32, e0, e1, e2, e3, e4, e11, m11⟩
    simp -implicitDefEqProofs (disch := omega) only [go_sem, e0, e1, e2, e3, e4, e11, m11]
    refine Jab (fun hc => ?_) (fun hc => ?_)
    . cases P with
      | nil =>
        have hwn : wayF n i [] = none := by rw [wayF, if_neg (by omega)]
        rw [hwn] at hW
        have hW : W = none := hW
        subst hW
        have hv : z = false := hv
        subst hv
        have htk := Jp4 [] (by decide)
        rw [if_pos rfl] at htk
        have e4 : E 4 = SLs [] := e4
        simp -implicitDefEqProofs (disch := omega) only [go_sem, e0, e1, e2, e3, e4, e11, m11]
        refine Jaa htk ?_
        simp -implicitDefEqProofs (disch := omega) only [go_sem, results131]
      | cons x P =>
        have hx := h32 x (by simp)
        rw [L0h] at hk hPw
        have hrl : (x :: P).reverse.length = P.length + 1 := by simp
        have hrg : gd (x :: P).reverse P.length = x := by
          rw [L1N, JaT _ _ _ (by simp), L17, L1l]; rfl
        have hrt : (x :: P).reverse.take P.length = P.reverse := by
          have e : P.reverse.length = P.length := L17
          rw [L1N, <- e, L2h]
          rfl
        have htk := Jp4 (x :: P).reverse (by omega)
        rw [if_neg (by simp), hrl, L0W, hrg, hrt] at htk
        have hle := JoZ n (by omega) (by omega)
        have a1 := Jby (n := n) (by omega)
        have a2 := Ja7 n
        have hwc : wayF n i (x :: P) = if i < Jao n then (wayF (Jao n) i P).map fun q => ((x, false) :: q.1, q.2) else (wayF (n - Jao n) (i - Jao n) P).map fun q => ((x, true) :: q.1, q.2) := by rw [wayF, if_neg (by omega)]
        rw [hwc] at hW; clear hwc
        have hwt : w.take w.length = w := L0e
        have h32' : ∀ y ∈ P, y.size = 32 := fun y hy => h32 y (by simp [hy])
        generalize Jao n = m at *; simp -implicitDefEqProofs (disch := omega) only [go_sem, e0, e1, e2, e3, e4, e11, m11]
        refine Jaa htk ?_
        simp -implicitDefEqProofs (disch := omega) only [go_sem, e0, e1, e2, e3, e4, e11, m11]
        refine Jaa hle ?_
        simp -implicitDefEqProofs (disch := omega) only [go_sem, e0, e1, e2, e3, e4, e11, m11, hwt]
        refine Jab (fun hk2 => ?_) (fun hk2 => ?_)
        . rw [if_neg (by omega), JsS] at hW
          have hd : decide ((m : Int) <= i) = true := decide_eq_true hk2
          simp -implicitDefEqProofs (disch := omega) only [go_sem, e0, e1, e2, e3, e4, e11, m11, hwt, hd]
          refine Jad P.length (by omega) ⟨n - m, i - m, P, w ++ [(x, true)], by omega, by omega, by omega, rfl, by simp; omega, hW, h32', ?_, ?_⟩
          . intro y hy
            rcases L0w.1 hy with hy | hy
            . exact hw32 y hy
            . rw [L0p.1 hy]; exact hx
          . have q1 : ((n - m : Nat) : Int) = (n : Int) - m := by omega
            have q2 : ((i - m : Nat) : Int) = (i : Int) - m := by omega
            rw [q1, q2]; simp -implicitDefEqProofs (disch := omega) only [go_sem, e0, e1, e2, e3, e4, e11, m11, hwt, L07, L0h, L0t]; try simp
        . rw [if_pos (by omega), JsS] at hW
          have hd : decide ((m : Int) <= i) = false := decide_eq_false hk2
          simp -implicitDefEqProofs (disch := omega) only [go_sem, e0, e1, e2, e3, e4, e11, m11, hwt, hd]
          refine Jad P.length (by omega) ⟨m, i, P, w ++ [(x, false)], by omega, by omega, by omega, rfl, by simp; omega, hW, h32', ?_, ?_⟩
          . intro y hy
            rcases L0w.1 hy with hy | hy
            . exact hw32 y hy
            . rw [L0p.1 hy]; exact hx
          . simp -implicitDefEqProofs (disch := omega) only [go_sem, e0, e1, e2, e3, e4, e11, m11, hwt, L07, L0h, L0t]; try simp
    . have hwn : wayF n i P = some ([], P) := by
        cases P with
        | nil => rw [wayF, if_pos (by omega)]
        | cons x P => rw [wayF, if_pos (by omega)]
      rw [hwn] at hW
      have hW : W = some (w ++ [], P) := hW
      rw [L0J] at hW; subst hW
      have hlf := JkP s (by omega)
      have hPl : P.reverse.length = P.length := L17
      have hwt : w.take w.length = w := L0e
      simp -implicitDefEqProofs (disch := omega) only [go_sem, e0, e1, e2, e3, e4, e11, m11]
      refine Jaa hlf ?_
      simp -implicitDefEqProofs (disch := omega) only [go_sem, e0, e1, e2, e3, e4, e11, m11]
      refine Jar rfl ?_
      refine Jbk [276824240] ?_
      simp -implicitDefEqProofs (disch := omega) only [go_sem, e0, e1, e2, e3, e4, e11, m11, hwt]
      refine Jaa (JqB w) ?_
      simp -implicitDefEqProofs (disch := omega) only [go_sem, e0, e1, e2, e3, e4, e11, m11]
      refine Jca ?_
      refine JdO [] [276824320] 17301604 (bkD w w.length)
        (fun xs σ => ∃ k : Nat, k <= w.length /\ xs = bkD w k /\ σ 276824320 = some ⟨9, 1, [Str ((w.drop k).foldr Jfh (JaP s))]⟩)
        (g := 208) (caps := [.pt (SDS w) 0]) ?_ ?_ ?_ ?_ ?_ ?_ ?_ ?_
      . simp -implicitDefEqProofs (disch := omega) only [go_sem]
      . rw [JhK]; exact JnT w (by omega)
      . exact JnZ w _
      . simp -implicitDefEqProofs (disch := omega) only [go_sem]
      . simp -implicitDefEqProofs (disch := omega) only [go_sem]
      . refine ⟨w.length, L0a _, rfl, ?_⟩
        rw [L0C]; simp -implicitDefEqProofs (disch := omega) only [go_sem]; try rfl
      . rintro E0 hE0 y rest σ' ⟨k, hk, hx, m8⟩
        have e16 : E0 16 = .ptr 276824320 1 0 0 := by rw [hE0]; simp -implicitDefEqProofs (disch := omega) only [go_sem]
        clear hE0
        cases k with
        | zero => cases hx
        | succ k =>
          have hx : y :: rest = [I k, SDP (gd w k)] :: bkD w k := hx
          rw [List.cons.injEq] at hx; obtain ⟨rfl, rfl⟩ := hx
          have hdk : (w.drop k).foldr Jfh (JaP s) = Jfh (gd w k) ((w.drop (k + 1)).foldr Jfh (JaP s)) := by rw [Jaz w k (by omega)]; rfl
          have hjn := JoV (gd w k) ((w.drop (k + 1)).foldr Jfh (JaP s)) (by rw [Jr4, hw32 _ (Jan w k (by omega))]; omega)
          rw [<- hdk] at hjn; generalize (w.drop (k + 1)).foldr Jfh (JaP s) = q at *; simp -implicitDefEqProofs (disch := omega) only [go_sem, e16, m8]
          refine Jaa hjn ?_
          simp -implicitDefEqProofs (disch := omega) only [go_sem, e16, m8]
          refine ⟨inL [], fun _ _ => rfl, k, by omega, rfl, ?_⟩
          simp -implicitDefEqProofs (disch := omega) only [go_sem]
      . rintro E0 hE0 σ' ⟨k, hk, hx, m8⟩
        have e16 : E0 16 = .ptr 276824320 1 0 0 := by rw [hE0]; simp -implicitDefEqProofs (disch := omega) only [go_sem]
        have f0 : E0 0 = Str root := by rw [hE0]; simp -implicitDefEqProofs (disch := omega) only [go_sem, e0]
        have f4 : E0 4 = SLs P.reverse := by rw [hE0]; simp -implicitDefEqProofs (disch := omega) only [go_sem, e4]
        clear hE0
        cases k with
        | succ k => cases hx
        | zero =>
          rw [List.drop_zero] at m8
          cases P with
          | nil =>
            have hv : z = decide (some (w.foldr Jfh (JaP s)) = some root) := hv
            have f4 : E0 4 = SLs [] := f4
            generalize w.foldr Jfh (JaP s) = q at *; subst hv; simp -implicitDefEqProofs (disch := omega) only [go_sem, e16, f0, f4, m8]
            refine Ja1 rfl ?_
            simp -implicitDefEqProofs (disch := omega) only [go_sem, e16, f0, f4, m8, Jeq, results131]; try simp
          | cons x P =>
            have hv : z = false := hv
            subst hv; rw [L0h] at hPl; generalize w.foldr Jfh (JaP s) = q at *; simp -implicitDefEqProofs (disch := omega) only [go_sem, e16, f0, f4, m8, hPl]
            refine Jal (by omega) ?_
            simp -implicitDefEqProofs (disch := omega) only [go_sem, e16, f0, f4, m8, Jeq, results131]
def revN (l : List ByteArray) (i : Nat) : List ByteArray := (List.range l.length).map fun k => if k < i \/ l.length - i <= k then gd l (l.length - 1 - k) else gd l k
theorem Ja2 (l : List ByteArray) (i : Nat) : (revN l i).length = l.length := by simp [revN]
theorem Jfv (l : List ByteArray) (i k : Nat) (j : k < l.length) : gd (revN l i) k = if k < i \/ l.length - i <= k then gd l (l.length - 1 - k) else gd l k := by
 simp [revN, gd, j]
theorem JpH (l : List ByteArray) : revN l 0 = l := Jhw (Ja2 l 0) fun k j => by
 rw [Ja2] at j
 rw [Jfv l 0 k j, if_neg (by omega)]
theorem JrJ (l : List ByteArray) (i : Nat) (h : l.length <= 2 * i + 1) : revN l i = l.reverse := Jhw (by rw [Ja2, L17]) fun k j => by
 rw [Ja2] at j
 have m : gd l.reverse k = gd l (l.length - 1 - k) := by simp [gd, List.getElem?_reverse j]
 rw [Jfv l i k j, m]
 split
 . rfl
 . rw [show l.length - 1 - k = k by omega]
theorem JpG (l : List ByteArray) (i : Nat) (h : 2 * i + 1 < l.length) : revN l (i + 1) = ((revN l i).set i (gd (revN l i) (l.length - 1 - i))).set (l.length - 1 - i) (gd (revN l i) i) := Jhw (by simp [Ja2]) fun k j => by
 rw [Ja2] at j
 rw [JlL _ _ _ _ (by rw [L24, Ja2]; omega), JlL _ _ _ _ (by rw [Ja2]; omega), Jfv l (i + 1) k j, Jfv l i _ (by omega), Jfv l i _ (by omega), Jfv l i k j]
 by_cases h1 : k = l.length - 1 - i
 . rw [if_pos h1, if_pos (by omega), if_neg (by omega), h1]
   congr 1; omega
 . rw [if_neg h1]
   by_cases h2 : k = i
   . rw [if_pos h2, if_pos (by omega), if_neg (by omega), h2]
   . rw [if_neg h2]
     by_cases h3 : k < i \/ l.length - i <= k
     . rw [if_pos (by omega), if_pos h3]
     . rw [if_neg (by omega), if_neg h3]
@[go_sem] theorem JCK (l : List ByteArray) (i : Nat) (x : ByteArray) : (l.map Str).set i (.v (.string x)) = (l.set i x).map Str := by simp
abbrev rvB (l : List ByteArray) : List (Nat × Blk) := [(165675104, ⟨9, 1, l.map Str⟩)]
set_option maxHeartbeats 2000000 in
theorem Jk8 (l : List ByteArray) (hl : l.length <= 1000000) : LOK prog 121 (inI [165675104]) [.own 165675104 1 0 l.length] (stO (rvB l)) (.tup []) (stO (rvB l.reverse)) := by
  refine JcC [3] [165675104] func121 rfl (by kernel_rfl) mo (nb rfl) rfl (by kernel_rfl) (by kernel_rfl) ?_
  obtain ⟨n, hn⟩ : ∃ n, l.length = n := ⟨_, rfl⟩
  rw [hn]; refine SA ?_
  refine Jag (fun k E σ => ∃ i : Nat, k = n - i /\ i <= n /\ E 0 = .own 165675104 1 0 n /\ E 2 = I i /\ E 3 = I ((n : Int) - 1 - i) /\ σ 165675104 = some ⟨9, 1, (revN l i).map Str⟩) n ⟨0, by omega, by omega, ?_⟩ ?_
  . rw [JpH]; refine SA ?_
    exact ⟨rfl, by congr 2; omega⟩
  rintro k E σ ⟨i, hk, hin, e0, e2, e3, m0⟩
  refine SA ?_
  refine Jab (fun hc => ?_) (fun hc => ?_)
  . have hstep := JpG l i (by omega)
    have hel := Ja2 l i; rw [hn] at hstep hel
    obtain ⟨j, hj⟩ : ∃ j : Nat, n - 1 - i = j := ⟨_, rfl⟩
    have e3 : E 3 = I j := by rw [e3]; congr 2; omega
    rw [hj] at hstep
    obtain ⟨a, ha⟩ : ∃ a, gd (revN l i) j = a := ⟨_, rfl⟩
    obtain ⟨b, hb⟩ : ∃ b, gd (revN l i) i = b := ⟨_, rfl⟩
    rw [ha, hb] at hstep
    have hil : i < n := by omega
    have hjl : j < n := by omega
    generalize revN l i = es at *; simp -implicitDefEqProofs (disch := omega) only [go_sem, e0, e2, e3, m0]
    refine JeR (fun D E σ => E 0 = .own 165675104 1 0 n /\ E 2 = I i /\ E 3 = I j /\ (D 15 = true -> D 13 = true) /\ (D 13 = true -> D 7 = true) /\ (D 13 = true -> D 11 = true) /\ (D 13 = false -> σ 165675104 = some ⟨9, 1, es.map Str⟩) /\ (D 13 = true -> D 15 = false -> σ 165675104 = some ⟨9, 1, (es.set i a).map Str⟩) /\ (D 15 = true -> σ 165675104 = some ⟨9, 1, ((es.set i a).set j b).map Str⟩) /\ (D 0 = true -> E 14 = .own 165675104 1 0 n) /\ (D 1 = true -> E 15 = I i) /\ (D 2 = true -> E 16 = .own 165675104 1 0 n) /\ (D 3 = true -> E 17 = I j) /\ (D 4 = true -> E 18 = .own 165675104 1 0 n) /\ (D 5 = true -> E 19 = I j) /\ (D 6 = true -> E 20 = .ptr 165675104 1 j 0) /\ (D 7 = true -> E 21 = Str a) /\ (D 8 = true -> E 22 = .own 165675104 1 0 n) /\ (D 9 = true -> E 23 = I i) /\ (D 10 = true -> E 24 = .ptr 165675104 1 i 0) /\ (D 11 = true -> E 25 = Str b) /\ (D 12 = true -> E 26 = .ptr 165675104 1 i 0) /\ (D 14 = true -> E 27 = .ptr 165675104 1 j 0)) ?_ ?_ ?_
    . simp -implicitDefEqProofs (disch := omega) only [go_sem, hel, ha, hb, hil, hjl]
      simp [e0, e2, e3, m0]
    . simp only [JfQ, depK, Region.binds, eq_self, forall_const, and_true]
      repeat' apply And.intro
      all_goals
        rintro D E σ ⟨e0, e2, e3, c15_13, c13_7, c13_11, m0_0, m0_1, m0_2, j0, j1, j2, j3, j4, j5, j6, j7, j8, j9, j10, j11, j12, j14⟩ hd
        have k := And.intro trivial <| And.intro (cK c15_13) <| And.intro (cK c13_7) <| And.intro (cK c13_11) trivial
        simp -implicitDefEqProofs (disch := first | assumption | (simp only [hd, k]; done) | omega) only [go_sem, e0, e2, e3, m0_0, m0_1, m0_2, j0, j1, j2, j3, j4, j5, j6, j7, j8, j9, j10, j11, j12, j14, hel, ha, hb, hil, hjl]
        repeat' apply And.intro
        all_goals first | assumption | (intro _; assumption) | trivial | (simp -implicitDefEqProofs (contextual := true) (disch := first | assumption | omega) only [go_sem, m0_0, m0_1, m0_2, j0, j1, j2, j3, j4, j5, j6, j7, j8, j9, j10, j11, j12, j14, hd, c15_13, c13_7, c13_11, k, implies_true, forall_const, false_implies, true_implies]; done) | (intro h; intros; exfalso; simp (maxDischargeDepth := 9) [hd, k] at h; done) | (intros; contradiction) | trace_state
    . rintro D E σ hD ⟨e0, e2, e3, c15_13, c13_7, c13_11, m0_0, m0_1, m0_2, j0, j1, j2, j3, j4, j5, j6, j7, j8, j9, j10, j11, j12, j14⟩
      have g0 := m0_2 (hD 15 (by decide))
      have q0 := j0 (hD 0 (by decide))
      have q1 := j1 (hD 1 (by decide))
      have q2 := j2 (hD 2 (by decide))
      have q3 := j3 (hD 3 (by decide))
      have q4 := j4 (hD 4 (by decide))
      have q5 := j5 (hD 5 (by decide))
      have q6 := j6 (hD 6 (by decide))
      have q7 := j7 (hD 7 (by decide))
      have q8 := j8 (hD 8 (by decide))
      have q9 := j9 (hD 9 (by decide))
      have q10 := j10 (hD 10 (by decide))
      have q11 := j11 (hD 11 (by decide))
      have q12 := j12 (hD 12 (by decide))
      have q14 := j14 (hD 14 (by decide))
      clear c15_13 c13_7 c13_11 m0_0 m0_1 m0_2 j0 j1 j2 j3 j4 j5 j6 j7 j8 j9 j10 j11 j12 j14 hD; refine SA ?_
      refine Jad (n - (i + 1)) (by omega) ⟨i + 1, by omega, by omega, ?_⟩
      rw [hstep]; refine SA ?_
      exact ⟨rfl, by congr 2; omega⟩
  . rw [JrJ l i (by omega)] at m0
    exact SB
abbrev Jbf (l : List ByteArray) (i : Nat) : List ByteArray := Jcw JaP JaU empF l i
theorem JdM {l : List ByteArray} (h : 2 <= l.length) (i : Nat) : Jbf l i = if i < Jao l.length then Jau (l.drop (Jao l.length)) :: Jbf (l.take (Jao l.length)) i else Jau (l.take (Jao l.length)) :: Jbf (l.drop (Jao l.length)) (i - Jao l.length) := Jfq JaP JaU empF h i
theorem Jpt (l : List ByteArray) (i : Int) (m : l.length <= 60) (hi : ¬ (0 <= i /\ i < l.length)) : Ev prog 78 [SLs l, I i] (.tup [.new 9 1 [], I 2]) := by
 refine EV func78 ?_
 refine SA ?_
 refine Jab (fun j => ?_) (fun j => ?_)
 . exact SB
 refine SA ?_
 refine Ja1 (by omega) ?_
 exact SB
theorem Juw : Ev prog 121 [SLs []] (.tup []) := by
 refine EW [3] func121 ?_
 refine SA ?_
 refine Jag (fun k E u => E 0 = SLs [] /\ E 2 = I 0 /\ E 3 = I (-1)) 0 ?_ ?_
 . refine SA ?_; try rfl
 rintro k E u ⟨j, m, o⟩
 refine SA ?_
 try refine Jal (by decide) ?_
 exact SB
set_option maxHeartbeats 2000000 in
theorem JrB (l : List ByteArray) (J : Nat) (M : l.length <= 60) (G : ∀ s ∈ l, s.size <= 1000000) (V : J < l.length) : Ev prog 78 [SLs l, I J] (.tup [SLs (Jbf l J).reverse, I 0]) := by
 refine EV func78 ?_
 simp -implicitDefEqProofs (disch := omega) only [go_sem]
 refine Jal (by omega) ?_
 simp -implicitDefEqProofs (disch := omega) only [go_sem]
 refine Jal (by omega) ?_
 have W : Jbf l J = Jbf l J := rfl
 generalize z : Jbf l J = Q at *; clear W; simp -implicitDefEqProofs (disch := omega) only [go_sem]
 refine Jag (fun k E S => ∃ (L : List ByteArray) (i : Nat) (j : List ByteArray), i < L.length /\ L.length <= 60 /\ k = L.length /\ j.length + L.length <= 60 /\ (∀ s ∈ L, s.size <= 1000000) /\ Q = j ++ Jbf L i /\ E 0 = SLs L /\ E 1 = I i /\ E 6 = .own 165675104 1 0 j.length /\ S 165675104 = some ⟨9, 1, j.map Str⟩) l.length ⟨l, J, [], by omega, M, rfl, by simpa using M, G, z.symm, ?_⟩ ?_
 . simp -implicitDefEqProofs (disch := omega) only [go_sem]; try rfl
 clear z G V M l J
 rintro k E S ⟨L, i, j, hi, hL, hk, X, G, z, w, y, o, u⟩
 have A : j.take j.length = j := L0e
 simp -implicitDefEqProofs (disch := omega) only [go_sem, w, y, o, u]
 refine Jab (fun Y => ?_) (fun Y => ?_)
 . have O : Jbf L i = [] := Jbp JaP JaU empF (by omega) i
   rw [O, L0J] at z; subst z
   by_cases hQ0 : Q = []
   . subst hQ0
     have o : E 6 = .own 165675104 1 0 0 := o
     have u : S 165675104 = some ⟨9, 1, []⟩ := u
     simp -implicitDefEqProofs (disch := omega) only [go_sem, w, y, o, u]
     refine Jar rfl ?_
     refine Jbk [165675104] ?_
     simp -implicitDefEqProofs (disch := omega) only [go_sem, w, y, o, u]
     refine Jaa Juw ?_
     simp -implicitDefEqProofs (disch := omega) only [go_sem, w, y, o, u, results78]; try rfl
   . have T := L19.2 hQ0; simp -implicitDefEqProofs (disch := omega) only [go_sem, w, y, o, u]
     refine Jar rfl ?_
     have D := Jk8 Q (by omega)
     have P : Q.reverse.length = Q.length := L17
     unfold rvB at D; generalize hR : Q.reverse = R at *
     refine Jrb (xs := [.own 165675104 1 0 Q.length]) (caps := []) 165675104 6 D ?_ ?_ ?_ ?_ (by omega) ?_ ?_
     . simp -implicitDefEqProofs (disch := omega) only [go_sem, o]
     . simp -implicitDefEqProofs (disch := omega) only [go_sem, o]
     . simp -implicitDefEqProofs (disch := omega) only [go_sem, u]
     . simp -implicitDefEqProofs (disch := omega) only [go_sem, o, P]
     . simp -implicitDefEqProofs (disch := omega) only [go_sem]
     . simp -implicitDefEqProofs (disch := omega) only [go_sem, o, u, results78]
 . have N := JoZ L.length (by omega) (by omega)
   have a1 := Jby (n := L.length) (by omega)
   have a2 := Ja7 L.length
   have F := JdM (l := L) (by omega) i
   rw [F] at z; clear F; generalize Jao L.length = m at *
   have C : (m <= L.length) = True := eq_true (by omega)
   have B : (L.drop m).take (L.length - m) = L.drop m := L0b (by rw [L0f]; omega)
   have H := (JcU G m).1; have K := (JcU G m).2
   have r1 := Jk9 (L.drop m) (by rw [L0f]; omega) K
   have r2 := Jk9 (L.take m) (by rw [L02]; omega) H
   simp -implicitDefEqProofs (disch := omega) only [go_sem, w, y, o, u]
   refine Jaa N ?_
   simp -implicitDefEqProofs (disch := omega) only [go_sem, w, y, o, u, C, B, L0H]
   refine Jab (fun U => ?_) (fun U => ?_)
   . rw [if_neg (by omega)] at z
     simp -implicitDefEqProofs (disch := omega) only [go_sem, w, y, o, u, C, B, L0H]
     refine Jaa r2 ?_
     simp -implicitDefEqProofs (disch := omega) only [go_sem, w, y, o, u, A]
     refine Jad (L.drop m).length (by rw [L0f]; omega) ⟨L.drop m, i - m, j ++ [Jau (L.take m)], by rw [L0f]; omega, by rw [L0f]; omega, rfl, by rw [L0f, L07]; simp; omega, K, by rw [z]; simp, ?_⟩
     have Z : ((i - m : Nat) : Int) = (i : Int) - m := by omega
     rw [Z]; simp -implicitDefEqProofs (disch := omega) only [go_sem, w, y, o, u, A, L07, L0h, L0t]; try simp
   . rw [if_pos (by omega)] at z
     simp -implicitDefEqProofs (disch := omega) only [go_sem, w, y, o, u, C, B, L0H]
     refine Jaa r1 ?_
     simp -implicitDefEqProofs (disch := omega) only [go_sem, w, y, o, u, A]
     refine Jad (L.take m).length (by rw [L02]; omega) ⟨L.take m, i, j ++ [Jau (L.drop m)], by rw [L02]; omega, by rw [L02]; omega, rfl, by rw [L02, L07]; simp; omega, H, by rw [z]; simp, ?_⟩
     simp -implicitDefEqProofs (disch := omega) only [go_sem, w, y, o, u, A, L07, L0h, L0t]; try simp
theorem JdL : ∀ (n : Nat) (l : List ByteArray) (i : Nat), l.length <= n -> (Jbf l i).length <= l.length
 | 0, l, i, j => by
  have : Jbf l i = [] := Jbp JaP JaU empF (by omega) i
  rw [this]; simp
 | n + 1, l, i, j => by
  by_cases h : 2 <= l.length
  . have m := Jby h; have o := Ja7 l.length; rw [JdM h]
    split
    . have := JdL n (l.take (Jao l.length)) i (by rw [L02]; omega)
      rw [L02] at this
      rw [L0h]; omega
    . have := JdL n (l.drop (Jao l.length)) (i - Jao l.length) (by rw [L0f]; omega)
      rw [L0f] at this
      rw [L0h]; omega
  . have : Jbf l i = [] := Jbp JaP JaU empF (by omega) i
    rw [this]; simp
set_option maxHeartbeats 2000000 in
theorem Jem : ∀ (n : Nat) (l : List ByteArray) (i : Nat), l.length <= n -> i < l.length -> l.length <= 60 -> (∀ s ∈ l, s.size <= 1000000) -> Ev prog 142 [SLs l, I i] (.tup [.new 9 1 ((Jbf l i).reverse.map Str), I 0])
 | 0, l, i, M, J, L, H => absurd J (by omega)
 | n + 1, l, i, M, J, L, H => by
  by_cases h1 : l.length = 1
  . have C : Jbf l i = [] := Jbp JaP JaU empF (by omega) i
    rw [C]
    refine EV func142 ?_
    simp -implicitDefEqProofs (disch := omega) only [go_sem]
    refine Jal (by omega) ?_
    simp -implicitDefEqProofs (disch := omega) only [go_sem]
    refine Jal (by omega) ?_
    simp -implicitDefEqProofs (disch := omega) only [go_sem]
    refine Ja1 (by omega) ?_
    simp -implicitDefEqProofs (disch := omega) only [go_sem, results142]; try rfl
  . have B := JgF l.length (by omega) (by omega)
    have S := Jby (n := l.length) (by omega)
    have T := Ja7 l.length
    have u := JdM (l := l) (by omega) i
    generalize Jbf l i = Q at *; generalize Jao l.length = m at *
    have o : (m <= l.length) = True := eq_true (by omega)
    have j : (l.drop m).take (l.length - m) = l.drop m := L0b (by rw [L0f]; omega)
    have y := (JcU H m).1; have z := (JcU H m).2
    have O := JeT _ (l.drop m) (L0a _) (by rw [L0f]; omega) z
    have P := JeT _ (l.take m) (L0a _) (by rw [L02]; omega) y
    refine EV func142 ?_
    simp -implicitDefEqProofs (disch := omega) only [go_sem]
    refine Jal (by omega) ?_
    simp -implicitDefEqProofs (disch := omega) only [go_sem]
    refine Jal (by omega) ?_
    simp -implicitDefEqProofs (disch := omega) only [go_sem]
    refine Jal (by omega) ?_
    simp -implicitDefEqProofs (disch := omega) only [go_sem]
    refine Jaa B ?_
    simp -implicitDefEqProofs (disch := omega) only [go_sem]
    refine Jab (fun K => ?_) (fun K => ?_)
    . rw [if_pos (by omega)] at u
      have A := Jem n (l.take m) i (by rw [L02]; omega) (by rw [L02]; omega) (by rw [L02]; omega) y
      have E := JdL _ (l.take m) i (L0a _)
      have F := L02 (i := m) (l := l)
      have D := L0f (i := m) (l := l)
      generalize Jbf (l.take m) i = q at *; subst u; rw [L1N]
      have G : q.reverse.length = q.length := L17
      generalize q.reverse = R at *
      have w : R.take R.length = R := L0e
      simp -implicitDefEqProofs (disch := omega) only [go_sem, o, j, L0H]
      refine Jaa A ?_
      simp -implicitDefEqProofs (disch := omega) only [go_sem, o, j, L0H]
      refine Jaa O ?_
      simp -implicitDefEqProofs (disch := omega) only [go_sem, w, results142]; try simp
    . rw [if_neg (by omega)] at u
      have A := Jem n (l.drop m) (i - m) (by rw [L0f]; omega) (by rw [L0f]; omega) (by rw [L0f]; omega) z
      have N : ((i - m : Nat) : Int) = (i : Int) - m := by omega
      rw [N] at A; have E := JdL _ (l.drop m) (i - m) (L0a _)
      have F := L02 (i := m) (l := l)
      have D := L0f (i := m) (l := l)
      generalize Jbf (l.drop m) (i - m) = q at *; subst u; rw [L1N]
      have G : q.reverse.length = q.length := L17
      generalize q.reverse = R at *
      have w : R.take R.length = R := L0e
      simp -implicitDefEqProofs (disch := omega) only [go_sem, o, j, L0H]
      refine Jaa A ?_
      simp -implicitDefEqProofs (disch := omega) only [go_sem, o, j, L0H]
      refine Jaa P ?_
      simp -implicitDefEqProofs (disch := omega) only [go_sem, w, results142]; try simp
abbrev HDP (h : Hd) : AV := .agg [I h.c, I h.n, Str h.r, Str h.s]
abbrev RGP (r : Rg) : AV := .agg [I r.c, SLs r.l]
theorem Jiw (s : ByteArray) : Ev prog 115 [Str s] (B (decide (s.size = 32))) := by
 refine EV func115 ?_
 simp -implicitDefEqProofs (disch := omega) only [go_sem, ntmps115, results115]
 have : ((s.size : Int) == 32) = decide (s.size = 32) := by rw [L1b]; simp; omega
 rw [this]
theorem Jch (n a b : Int) : Ev prog 117 [I n, I a, I b] (B (decide (a <= n /\ n <= b))) := by
 refine EV func117 ?_
 refine SA ?_
 refine Jab (fun j => ?_) (fun j => ?_)
 . exact SB
   try simp [j]
 . exact SB
   try simp [j]
theorem Jff (n a b : Int) : Ev prog 141 [I n, I a, I b] (B (decide (a <= n /\ n <= b))) := by
 refine EV func141 ?_
 refine SA ?_
 refine Jab (fun j => ?_) (fun j => ?_)
 . exact SB
   try simp [j]
 . exact SB
   try simp [j]
theorem Jt7 (s : ByteArray) : Ev prog 157 [Str s] (B (!decide (s.size <= 1000))) := by
 refine EV func157 ?_
 simp -implicitDefEqProofs (disch := omega) only [go_sem, ntmps157, results157]
 have : decide ((1000 : Int) < s.size) = !decide (s.size <= 1000) := by rw [L1b]; simp; omega
 rw [this]
theorem JhU (r : Rg) (y : r.l.length <= 9223372036854775807) : Ev prog 116 [RGP r] (B (regB r)) := by
 have o := Jch r.c 0 7
 have u := JoJ 157 [] (fun s => !decide (s.size <= 1000)) r.l (fun s _ => Jt7 s) (fun _ => rfl) (fun _ => rfl) y
 have j : regB r = (decide (0 <= r.c /\ r.c <= 7) && (decide (r.l.length <= 60) && !(r.l.any fun s => !decide (s.size <= 1000)))) := by
  unfold regB; rw [Jkn]
 obtain ⟨z, A⟩ : ∃ z, regB r = z := ⟨_, rfl⟩
 rw [A] at j ⊢; generalize decide (0 <= r.c /\ r.c <= 7) = b1 at *
 generalize (r.l.any fun s => !decide (s.size <= 1000)) = m at *
 refine EV func116 ?_
 simp -implicitDefEqProofs (disch := omega) only [go_sem]
 refine Jaa o ?_
 cases b1 with
 | false =>
  subst j; simp -implicitDefEqProofs (disch := omega) only [go_sem, results116]; try rfl
 | true =>
  simp -implicitDefEqProofs (disch := omega) only [go_sem]
  refine Jab (fun w => ?_) (fun w => ?_)
  . rw [decide_eq_true (by omega)] at j
    simp -implicitDefEqProofs (disch := omega) only [go_sem]
    refine Jaa u ?_
    subst j
    cases m <;> (simp -implicitDefEqProofs (disch := omega) only [go_sem, results116]; try rfl)
  . rw [decide_eq_false (by omega)] at j
    subst j; simp -implicitDefEqProofs (disch := omega) only [go_sem, results116]; try rfl
theorem Jg6 (r : Rg) (H : r.l.length <= 9223372036854775807) : Ev prog 179 [RGP r] (B (regB r)) := by
 have A := Jff r.c 0 7
 have m : regB r = (decide (0 <= r.c /\ r.c <= 7) && (decide (r.l.length <= 60) && r.l.all fun s => decide (s.size <= 1000))) := rfl
 obtain ⟨z, J⟩ : ∃ z, regB r = z := ⟨_, rfl⟩
 rw [J] at m ⊢; generalize decide (0 <= r.c /\ r.c <= 7) = b1 at *; obtain ⟨c, l⟩ := r
 simp only at H m
 refine EV func179 ?_
 simp -implicitDefEqProofs (disch := omega) only [go_sem]
 refine Jaa A ?_
 cases b1 with
 | false =>
  subst m; simp -implicitDefEqProofs (disch := omega) only [go_sem, results179]; try rfl
 | true =>
  simp -implicitDefEqProofs (disch := omega) only [go_sem]
  refine Jab (fun C => ?_) (fun C => ?_)
  . rw [decide_eq_false (by omega)] at m
    subst m; simp -implicitDefEqProofs (disch := omega) only [go_sem, results179]; try rfl
  rw [decide_eq_true (by omega), L0d, L0d] at m
  simp -implicitDefEqProofs (disch := omega) only [go_sem]
  refine Jag (fun k E y => ∃ i : Nat, i + k = l.length /\ z = (l.drop i).all (fun s => decide (s.size <= 1000)) /\ E 1 = .ptr 377487376 2 0 0 /\ E 3 = I i /\ y 377487376 = some ⟨90, 2, [.agg [I c, SLs l]]⟩) l.length ⟨0, by omega, m, ?_⟩ ?_
  . simp -implicitDefEqProofs (disch := omega) only [go_sem]; try rfl
  rintro k E y ⟨i, K, j, o, u, w⟩
  simp -implicitDefEqProofs (disch := omega) only [go_sem, o, u, w]
  refine Jab (fun F => ?_) (fun F => ?_)
  . have G : i < l.length := by omega
    rw [Jaz l i G, L1V] at j; simp -implicitDefEqProofs (disch := omega) only [go_sem, o, u, w]
    refine Jab (fun D => ?_) (fun D => ?_)
    . rw [decide_eq_false (by omega), L04] at j
      subst j; simp -implicitDefEqProofs (disch := omega) only [go_sem, results179]
    . rw [decide_eq_true (by omega), L0d] at j
      simp -implicitDefEqProofs (disch := omega) only [go_sem, o, u, w]
      refine Jad (l.length - (i + 1)) (by omega) ⟨i + 1, by omega, j, ?_⟩
      simp -implicitDefEqProofs (disch := omega) only [go_sem, o, u, w]; try rfl
  . obtain rfl : i = l.length := by omega
    rw [L0C] at j
    have j : z = true := j
    subst j; simp -implicitDefEqProofs (disch := omega) only [go_sem, results179]
theorem Jtx (h : Hd) (y : 0 <= h.c /\ h.c <= 7) (z : 0 <= h.n /\ h.n <= 60) (A : h.r.size <= 1000000) : Ev prog 185 [HDP h] (Str (Jec h)) := by
 have m := JdN 4 (by omega) (by omega)
 have o := JdN h.c (by omega) (by omega)
 have u := JdN h.n (by omega) (by omega)
 have B := JaQ 4; have C := JaQ h.c; have D := JaQ h.n
 refine EV func185 ?_
 refine SA ?_
 refine Jaa m ?_
 refine SA ?_
 refine Jaa o ?_
 refine SA ?_
 refine Jaa u ?_
 have j : (viS 4 ++ viS h.c).size = (viS 4).size + (viS h.c).size := L0V
 have w : (viS 4 ++ viS h.c ++ viS h.n).size = (viS 4).size + (viS h.c).size + (viS h.n).size := by rw [L0V, j]
 simp -implicitDefEqProofs (disch := omega) only [go_sem, j, w, results185]; try rfl
theorem Jhq (h : Hd) : (Jec h).size <= 30 + h.r.size := by
 have j := JaQ 4; have m := JaQ h.c; have o := JaQ h.n; unfold Jec; rw [L0V, L0V, L0V]
 omega
theorem Jmi (key : ByteArray) (h : Hd) (A : key.size <= 10000) (u : 0 <= h.c /\ h.c <= 7) (w : 0 <= h.n /\ h.n <= 60) (y : h.r.size <= 1000000) : Ev prog 144 [Str key, HDP h] (Str (Jdu key h)) := by
 have j := Jtx h u w y; have z := Jhq h
 have m := Jf1 (Jec h) (by omega)
 have o := Jf3 key (JaP (Jec h)) (by rw [JbY]; omega)
 unfold Jdu; generalize Jec h = q at *
 refine EV func144 ?_
 refine SA ?_
 refine Jaa j ?_
 refine SA ?_
 refine Jaa m ?_
 refine SA ?_
 refine Jaa o ?_
 exact SB
theorem Jfn (u : Bool) (l : List Int) (n : Int) (y : l.length <= 1000000) (j : -4611686018427387903 <= n /\ n <= 4611686018427387903) :
 LOK prog 163 (inI [251658320]) [.ptr 251658320 2 0 0, I n] (stO (bLS u l)) (.tup []) (stO (bLS true (l ++ bI (viS n)))) := by
 refine JcC [] [251658320] func163 rfl (by kernel_rfl) mo (nb rfl) rfl (by kernel_rfl) (by kernel_rfl) ?_
 have o := JjT n j.1 j.2; have w := JaQ n; generalize viS n = v at *; refine SA ?_
 refine Jaa o ?_
 refine SA ?_
 refine Jar rfl ?_
 have m : LOK prog 127 (inI [251658320]) ([.ptr 251658320 2 0 0, Str v] ++ []) (stO (bLS u l)) (.tup [I v.size, .v .nilIface]) (stO (bLS true (l ++ bI v))) := Jkj u l v (by omega)
 refine Jck [251658320] m ?_ ?_ ?_ ?_ ?_ ?_ ?_ (hsp := fun id _ h => h)
 . simp -implicitDefEqProofs (disch := omega) only [go_sem]
 . simp -implicitDefEqProofs (disch := omega) only [go_sem]
 . cases u <;> simp -implicitDefEqProofs (disch := omega) only [go_sem]
 . cases u <;> simp -implicitDefEqProofs (disch := omega) only [go_sem]
 . cases u <;> simp -implicitDefEqProofs (disch := omega) only [go_sem]
 . simp -implicitDefEqProofs (disch := omega) only [go_sem]
 . exact SB
set_option maxHeartbeats 1000000 in
theorem JpM (key : ByteArray) (h : Hd) (E : key.size <= 10000) (D : 0 <= h.c /\ h.c <= 7) (F : 0 <= h.n /\ h.n <= 60) (G : h.r.size <= 1000000) : Ev prog 119 [Str key, HDP h] (Str (Jdu key h)) := by
 have z := Jhq h
 have A := JkP (Jec h) (by omega)
 have B := JgU key (JaP (Jec h)) (by rw [JbY]; omega)
 have C : bI (Jec h) = ((bI (viS 4) ++ bI (viS h.c)) ++ bI (viS h.n)) ++ bI h.r := by unfold Jec; rw [Jev, Jev, Jev]
 have j : (Jec h).size ≠ 0 := by
  have := Jqe 4
  unfold Jec
  rw [L0V, L0V, L0V]; omega
 have K : (bI (viS 4)).length <= 10 := by rw [JaI]; exact JaQ 4
 have L : (bI (viS h.c)).length <= 10 := by rw [JaI]; exact JaQ h.c
 have M : (bI (viS h.n)).length <= 10 := by rw [JaI]; exact JaQ h.n
 have m := Jfn false [] 4 (by simp) (by omega)
 have u := Jfn true (bI (viS 4)) h.c (by omega) (by omega)
 have w := Jfn true (bI (viS 4) ++ bI (viS h.c)) h.n (by rw [L07]; omega) (by omega)
 have o := Jkj true (bI (viS 4) ++ bI (viS h.c) ++ bI (viS h.n)) h.r (by rw [L07, L07]; omega)
 have y := Jnt true (Jec h) j (by omega)
 rw [<- C] at o; rw [L1C] at m; unfold Jdu; generalize Jec h = q at *; generalize bI (viS 4) = H at *; generalize bI (viS h.c) = I at *; generalize bI (viS h.n) = J at *
 change LOK _ _ _ ([_, _] ++ []) _ _ _ at m
 change LOK _ _ _ ([_, _] ++ []) _ _ _ at u
 change LOK _ _ _ ([_, _] ++ []) _ _ _ at w
 change LOK _ _ _ ([_, _] ++ []) _ _ _ at o
 change LOK _ _ _ ([_] ++ []) _ _ _ at y
 refine EV func119 ?_
 refine SA ?_
 refine Jar rfl ?_
 refine Jm9 251658320 251658321 0 1 5 1 (k := ⟨240, 2, [.agg [.v (.pointer none), .v (.slice none 0 0)]]⟩) (el := .agg [.v (.pointer none), .v (.slice none 0 0)]) (by simp -implicitDefEqProofs (disch := omega) only [go_sem]) (by decide) rfl rfl (by decide) (by simp -implicitDefEqProofs (disch := omega) only [go_sem]) rfl ?_
 refine Jck [251658320] m ?_ ?_ ?_ ?_ ?_ ?_ ?_
 . simp -implicitDefEqProofs (disch := omega) only [go_sem]
 . simp -implicitDefEqProofs (disch := omega) only [go_sem]
 . simp -implicitDefEqProofs (disch := omega) only [go_sem]
   simp
 . simp -implicitDefEqProofs (disch := omega) only [go_sem]
 . simp -implicitDefEqProofs (disch := omega) only [go_sem]
 . simp -implicitDefEqProofs (disch := omega) only [go_sem]
 refine SA ?_
 refine Jar rfl ?_
 refine Jck [251658320] u ?_ ?_ ?_ ?_ ?_ ?_ ?_
 . simp -implicitDefEqProofs (disch := omega) only [go_sem]
 . simp -implicitDefEqProofs (disch := omega) only [go_sem]
 . simp -implicitDefEqProofs (disch := omega) only [go_sem]
 . simp -implicitDefEqProofs (disch := omega) only [go_sem]
 . simp -implicitDefEqProofs (disch := omega) only [go_sem]
 . simp -implicitDefEqProofs (disch := omega) only [go_sem]
 refine SA ?_
 refine Jar rfl ?_
 refine Jck [251658320] w ?_ ?_ ?_ ?_ ?_ ?_ ?_
 . simp -implicitDefEqProofs (disch := omega) only [go_sem]
 . simp -implicitDefEqProofs (disch := omega) only [go_sem]
 . simp -implicitDefEqProofs (disch := omega) only [go_sem]
 . simp -implicitDefEqProofs (disch := omega) only [go_sem]
 . simp -implicitDefEqProofs (disch := omega) only [go_sem]
 . simp -implicitDefEqProofs (disch := omega) only [go_sem]
 refine SA ?_
 refine Jar rfl ?_
 refine Jck [251658320] o ?_ ?_ ?_ ?_ ?_ ?_ ?_
 . simp -implicitDefEqProofs (disch := omega) only [go_sem]
 . simp -implicitDefEqProofs (disch := omega) only [go_sem]
 . simp -implicitDefEqProofs (disch := omega) only [go_sem]
 . simp -implicitDefEqProofs (disch := omega) only [go_sem]
 . simp -implicitDefEqProofs (disch := omega) only [go_sem]
 . simp -implicitDefEqProofs (disch := omega) only [go_sem]
 simp -implicitDefEqProofs (disch := omega) only [go_sem]
 refine Jar rfl ?_
 refine Jck [251658320] y ?_ ?_ ?_ ?_ ?_ ?_ ?_
 . simp -implicitDefEqProofs (disch := omega) only [go_sem]
 . simp -implicitDefEqProofs (disch := omega) only [go_sem]
 . simp -implicitDefEqProofs (disch := omega) only [go_sem]
 . simp -implicitDefEqProofs (disch := omega) only [go_sem]
 . simp -implicitDefEqProofs (disch := omega) only [go_sem]
 . simp -implicitDefEqProofs (disch := omega) only [go_sem]
 refine SA ?_
 refine Jaa A ?_
 refine SA ?_
 refine Jaa B ?_
 exact SB
theorem JlM (key : ByteArray) (h : Hd) : genB key h = (decide (key.size = 32) && (decide (0 <= h.c /\ h.c <= 7) && (decide (0 <= h.n /\ h.n <= 60) && (decide (h.r.size = 32) && decide (h.s = Jdu key h))))) := by
 unfold genB; simp only [Bool.decide_and, L1t]
theorem Jxv (key : ByteArray) (h : Hd) (D : h.r.size <= 9223372036854775807) : Ev prog 130 [Str key, HDP h] (B (genB key h)) := by
 have m := Jch h.c 0 7; have o := Jch h.n 0 60; have u := Jiw key
 have w := fun (F : key.size = 32) (y : 0 <= h.c /\ h.c <= 7) (C : 0 <= h.n /\ h.n <= 60) (G : h.r.size = 32) => JpM key h (by omega) y C (by omega)
 have j := JlM key h
 obtain ⟨z, E⟩ : ∃ z, genB key h = z := ⟨_, rfl⟩
 rw [E] at j ⊢; generalize Jdu key h = S at *; obtain ⟨c, n, r, s⟩ := h
 simp only at *
 refine EV func130 ?_
 refine SA ?_
 by_cases h1 : 0 <= c /\ c <= 7
 rotate_left
 . rw [decide_eq_false h1] at m j; rw [L04, L1A] at j; subst j
   refine Jaa m ?_
   refine SA ?_
   refine Jaa u ?_
   generalize decide (key.size = 32) = b at *
   cases b <;> simp -implicitDefEqProofs (disch := omega) only [go_sem, results130]
 rw [decide_eq_true h1] at m j
 refine Jaa m ?_
 refine SA ?_
 by_cases h2 : 0 <= n /\ n <= 60
 rotate_left
 . rw [decide_eq_false h2] at o j; rw [L04, L1A, L1A] at j; subst j
   refine Jaa o ?_
   refine SA ?_
   refine Jaa u ?_
   generalize decide (key.size = 32) = b at *
   cases b <;> simp -implicitDefEqProofs (disch := omega) only [go_sem, results130]
 rw [decide_eq_true h2] at o j
 refine Jaa o ?_
 have A : ((r.size : Int) == 32) = decide (r.size = 32) := by rw [L1b]; simp; omega
 refine SA ?_
 refine Jaa u ?_
 by_cases h3 : key.size = 32
 rotate_left
 . rw [decide_eq_false h3] at j ⊢; rw [L04] at j; subst j; exact SB
 rw [decide_eq_true h3] at j ⊢
 by_cases h4 : r.size = 32
 rotate_left
 . rw [decide_eq_false h4] at j ⊢; rw [L04, L1A, L1A, L1A] at j; subst j; exact SB
 rw [decide_eq_true h4] at j ⊢; simp only [L0d] at j; refine SA ?_
 refine Jaa (w h3 h1 h2 h4) ?_
 subst j; simp -implicitDefEqProofs (disch := omega) only [go_sem, Jeq, results130]
theorem JtK (key : ByteArray) (h : Hd) (D : h.r.size <= 9223372036854775807) : Ev prog 98 [Str key, HDP h] (B (genB key h)) := by
 have m := Jff h.c 0 7; have o := Jff h.n 0 60
 have u := fun (F : key.size = 32) (A : 0 <= h.c /\ h.c <= 7) (C : 0 <= h.n /\ h.n <= 60) (G : h.r.size = 32) => Jmi key h (by omega) A C (by omega)
 have j := JlM key h
 obtain ⟨z, E⟩ : ∃ z, genB key h = z := ⟨_, rfl⟩
 rw [E] at j ⊢; generalize Jdu key h = S at *; obtain ⟨c, n, r, s⟩ := h
 simp only at *
 refine EV func98 ?_
 simp -implicitDefEqProofs (disch := omega) only [go_sem]
 refine Jab (fun w => ?_) (fun w => ?_)
 . rw [decide_eq_false (by omega), L04] at j
   subst j; simp -implicitDefEqProofs (disch := omega) only [go_sem, results98]
 rw [decide_eq_true (by omega), L0d] at j
 simp -implicitDefEqProofs (disch := omega) only [go_sem]
 by_cases h1 : 0 <= c /\ c <= 7
 rotate_left
 . rw [decide_eq_false h1] at m j; rw [L04] at j; subst j
   refine Jaa m ?_
   simp -implicitDefEqProofs (disch := omega) only [go_sem, results98]
 rw [decide_eq_true h1] at m j; rw [L0d] at j
 refine Jaa m ?_
 simp -implicitDefEqProofs (disch := omega) only [go_sem]
 by_cases h2 : 0 <= n /\ n <= 60
 rotate_left
 . rw [decide_eq_false h2] at o j; rw [L04] at j; subst j
   refine Jaa o ?_
   simp -implicitDefEqProofs (disch := omega) only [go_sem, results98]
 rw [decide_eq_true h2] at o j; rw [L0d] at j
 refine Jaa o ?_
 simp -implicitDefEqProofs (disch := omega) only [go_sem]
 refine Jab (fun y => ?_) (fun y => ?_)
 . rw [decide_eq_false (by omega), L04] at j
   subst j; simp -implicitDefEqProofs (disch := omega) only [go_sem, results98]
 rw [decide_eq_true (by omega), L0d] at j
 simp -implicitDefEqProofs (disch := omega) only [go_sem]
 refine Jaa (u (by omega) h1 h2 (by omega)) ?_
 subst j; simp -implicitDefEqProofs (disch := omega) only [go_sem, Jeq, results98]
end Go.Proofs.YtnpbhgeffapojaaGreatDoor

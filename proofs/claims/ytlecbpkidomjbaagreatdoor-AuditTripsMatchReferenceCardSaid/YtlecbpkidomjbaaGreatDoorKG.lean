/- Clocks, legs, trees, seals -/
import Derived.Test.YtlecbpkidomjbaaGreatDoorKF
set_option linter.all false
namespace Go.Proofs.YtlecbpkidomjbaaGreatDoor
open Go.Proofs.Tryz
open Go.Vai Go
structure Rd where
 l : Int
 a : Int
 b : Int
 deriving DecidableEq
instance : Inhabited Rd := ⟨⟨0, 0, 0⟩⟩
structure Ck where
 d : Int
 r : List Rd
 deriving DecidableEq
instance : Inhabited Ck := ⟨⟨0, []⟩⟩
def ascR : Int -> List Rd -> Bool
 | _, [] => true
 | j, r :: l => decide (j < r.l /\ r.l <= 10000000 /\ 0 <= r.a /\ r.a <= r.b /\ r.b <= 10000000) && ascR r.l l
def Jbe (c : Ck) : Bool := decide (0 <= c.d /\ c.d <= 100 /\ c.r.length <= 12) && ascR (-1) c.r
theorem JdZ {c : Ck} : Jbe c = true ↔ (0 <= c.d /\ c.d <= 100 /\ c.r.length <= 12) /\ ascR (-1) c.r = true := by
 unfold Jbe; rw [L00, decide_eq_true_iff]
theorem JiH : ∀ {l : List Rd} {last : Int}, ascR last l = true -> ∀ r ∈ l, last < r.l /\ r.l <= 10000000 /\ 0 <= r.a /\ r.a <= r.b /\ r.b <= 10000000
 | [], _, _, r, h => by cases h
 | x :: l, last, h, r, hr => by
  rw [ascR, L00, decide_eq_true_iff] at h
  rcases L0q.1 hr with rfl | hr
  . exact h.1
  . have := JiH h.2 r hr
    omega
def sLo (d n : Int) : Int := if 0 < n then 1000 * (n - 1) / (1000 + d) + 1 else 0
def sHi (d n : Int) : Int := (1000 * (n + 1) - 1) / (1000 - d)
theorem Jiv {d n : Int} (j : 0 <= d /\ d <= 100) (u : 0 <= n) : 0 <= sLo d n /\ sLo d n <= n := by
 unfold sLo
 split
 . have m : 0 <= 1000 * (n - 1) / (1000 + d) := L1j (by omega) (by omega)
   have o : 1000 * (n - 1) / (1000 + d) <= n - 1 := by
    refine L2w (by omega) ?_
    have : 0 <= (n - 1) * d := L1f (by omega) j.1
    rw [L1Z]; omega
   omega
 . omega
theorem Jiu {d n : Int} (j : 0 <= d /\ d <= 100) (m : 0 <= n) : 0 <= sHi d n /\ sHi d n <= 2 * n + 2 := by
 unfold sHi
 refine ⟨L1j (by omega) (by omega), ?_⟩
 refine L2w (by omega) ?_
 have : (2 * n + 2) * d <= (2 * n + 2) * 100 := L2x j.2 (by omega)
 rw [Int.mul_sub]; omega
def Fit (d x n : Int) : Prop := (1000 - d) * x - 1000 < 1000 * n /\ 1000 * n < (1000 + d) * x + 1000
instance (d x n : Int) : Decidable (Fit d x n) := by unfold Fit; exact inferInstance
theorem JuS {d x n : Int} (o : 0 <= d /\ d <= 100) (u : 0 <= x) : Fit d x n ↔ (n <= 0 \/ 1000 * (n - 1) / (1000 + d) + 1 <= x) /\ x <= sHi d n /\ (0 < n \/ 1000 * n < (1000 + d) * x + 1000) := by
 have j : (1000 - d) * x - 1000 < 1000 * n ↔ x <= sHi d n := by
  unfold sHi
  rw [Int.le_ediv_iff_mul_le (by omega), Int.mul_comm x]
  omega
 have m : 1000 * n < (1000 + d) * x + 1000 ↔ 1000 * (n - 1) / (1000 + d) + 1 <= x := by
  rw [Int.add_one_le_iff, Int.ediv_lt_iff_lt_mul (by omega), Int.mul_comm x]
  omega
 unfold Fit; rw [j]
 by_cases hn : 0 < n
 . rw [m]; omega
 . omega
theorem JiQ {d x n : Int} (m : 0 <= d /\ d <= 100) (j : 0 <= x) (u : 0 <= n) : Fit d x n ↔ sLo d n <= x /\ x <= sHi d n := by
 rw [JuS m j]; unfold sLo
 have o : 0 <= (1000 + d) * x := L1f (by omega) j
 by_cases h0 : 0 < n
 . rw [if_pos h0]; omega
 . rw [if_neg h0]; omega
theorem Joz {d n : Int} (j : 0 <= d /\ d <= 100) (m : 0 <= n) : sLo d n <= n /\ n <= sHi d n := by
 refine ⟨(Jiv j m).2, ?_⟩
 unfold sHi
 rw [Int.le_ediv_iff_mul_le (by omega)]
 have : 0 <= n * d := L1f m j.1
 rw [Int.mul_sub]; omega
def JdT (d t : Int) (w : Int × Int) (r : Rd) : Int × Int :=
 if t < r.l then (max w.1 (r.a - sHi d (r.l - t)), min w.2 (r.b - sLo d (r.l - t)))
 else if t = r.l then (max w.1 (r.a - sHi d 0), min w.2 (r.b + sHi d 0))
 else (max w.1 (r.a + sLo d (t - r.l)), min w.2 (r.b + sHi d (t - r.l)))
def winF (d t : Int) (l : List Rd) : Int × Int := l.foldl (JdT d t) (0, 10000000)
theorem Jrw (d t : Int) (w : Int × Int) (r : Rd) : w.1 <= (JdT d t w r).1 /\ (JdT d t w r).2 <= w.2 := by
 unfold JdT
 split
 . simp only; omega
 . split
   . simp only; omega
   . simp only; omega
theorem JpY (d t : Int) : ∀ (l : List Rd) (w : Int × Int), w.1 <= (l.foldl (JdT d t) w).1 /\ (l.foldl (JdT d t) w).2 <= w.2
 | [], w => by simp
 | r :: l, w => by
  have j := Jrw d t w r; have m := JpY d t l (JdT d t w r)
  rw [L1m]; omega
theorem JtB (d t : Int) (l : List Rd) : 0 <= (winF d t l).1 /\ (winF d t l).2 <= 10000000 := JpY d t l _
def atF (c : Ck) (t : Int) : Option (Int × Int) :=
 if Jbe c = true /\ (0 <= t /\ t <= 10000000) /\ (winF c.d t c.r).1 <= (winF c.d t c.r).2 then some (winF c.d t c.r) else none
theorem Jr8 {c : Ck} {t : Int} {w : Int × Int} : atF c t = some w ↔ (Jbe c = true /\ (0 <= t /\ t <= 10000000) /\ (winF c.d t c.r).1 <= (winF c.d t c.r).2) /\ winF c.d t c.r = w := by
 unfold atF
 split
 . rename_i h; simp [h]
 . rename_i h; simp [h]
def Jag (c n : Int) : Int := (if c < 0 then -(c + 1) else c).tmod n
theorem Jai {c n : Int} (j : 0 < n) : 0 <= Jag c n /\ Jag c n < n := by
 unfold Jag
 split
 . exact ⟨Int.tmod_nonneg _ (by omega), Int.tmod_lt_of_pos _ j⟩
 . exact ⟨Int.tmod_nonneg _ (by omega), Int.tmod_lt_of_pos _ j⟩
def sumB (d : Int) (rates : List Int) (t : Int) : Nat -> Int
 | 0 => 0
 | k + 1 => sumB d rates t k + (if 100 * (k : Int) < t then (Jag (gd rates k) (2 * d + 1) - d) * min (t - 100 * k) 100 else 0)
def sumA (d : Int) (rates : List Int) (t : Int) : Int := sumB d rates t (min rates.length 20)
def milF (d : Int) (rates : List Int) (t : Int) : Int := sumA d rates t + 1000 * t
def JbS (d : Int) (j : Int) (rates : List Int) (t : Int) : Int := Jag j 1000 + milF d rates t / 1000
theorem Jul {d : Int} (z : 0 <= d) (r : Int) (w : -d <= r /\ r <= d) (k : Nat) {s t : Int} (y : s <= t) :
 let f := λ u : Int => if 100 * (k : Int) < u then r * min (u - 100 * k) 100 else 0
 let g := λ u : Int => if 100 * (k : Int) < u then min (u - 100 * k) 100 else 0
 0 <= g t - g s /\ -(d * (g t - g s)) <= f t - f s /\ f t - f s <= d * (g t - g s) := by
 intro f g
 have j : ∀ u, f u = r * g u := λ u => by
  show (if _ then _ else _) = r * (if _ then _ else _)
  split <;> simp
 have m : 0 <= g t - g s := by
  show 0 <= (if 100 * (k : Int) < t then min (t - 100 * k) 100 else 0) - (if 100 * (k : Int) < s then min (s - 100 * k) 100 else 0)
  split <;> split <;> omega
 refine ⟨m, ?_⟩
 rw [j, j, <- Int.mul_sub]
 have x : r * (g t - g s) <= d * (g t - g s) := L20 w.2 m
 have o : -d * (g t - g s) <= r * (g t - g s) := L20 w.1 m
 rw [Int.neg_mul] at o
 exact ⟨o, x⟩
def covN (t : Int) : Nat -> Int
 | 0 => 0
 | k + 1 => covN t k + (if 100 * (k : Int) < t then min (t - 100 * k) 100 else 0)
theorem Jlt {t : Int} (j : 0 <= t) : ∀ k : Nat, covN t k = min t (100 * k)
 | 0 => by simp only [covN]; omega
 | k + 1 => by rw [covN, Jlt j k]; split <;> omega
theorem Jk1 {d : Int} (u : 0 <= d) (rates : List Int) {s t : Int} (j : s <= t) : ∀ k : Nat, 0 <= covN t k - covN s k /\ -(d * (covN t k - covN s k)) <= sumB d rates t k - sumB d rates s k /\ sumB d rates t k - sumB d rates s k <= d * (covN t k - covN s k)
 | 0 => by simp [sumB, covN]
 | k + 1 => by
  have h := Jk1 u rates j k
  have z := Jai (c := gd rates k) (n := 2 * d + 1) (by omega)
  have w := Jul u (Jag (gd rates k) (2 * d + 1) - d) (by omega) k j
  simp only at w
  simp only [sumB, covN]
  generalize (if 100 * (k : Int) < t then (Jag (gd rates k) (2 * d + 1) - d) * min (t - 100 * k) 100 else 0) = x at *
  generalize (if 100 * (k : Int) < s then (Jag (gd rates k) (2 * d + 1) - d) * min (s - 100 * k) 100 else 0) = y at *
  generalize (if 100 * (k : Int) < t then min (t - 100 * k) 100 else 0) = m at *
  generalize (if 100 * (k : Int) < s then min (s - 100 * k) 100 else 0) = o at *
  have e : d * (covN t k + m - (covN s k + o)) = d * (covN t k - covN s k) + d * (m - o) := by rw [<- L1Z]; congr 1; omega
  rw [e]
  omega
theorem Ji7 {d : Int} (u : 0 <= d) (rates : List Int) {s t : Int} (o : 0 <= s) (j : s <= t) : (1000 - d) * (t - s) <= milF d rates t - milF d rates s /\ milF d rates t - milF d rates s <= (1000 + d) * (t - s) := by
 obtain ⟨y, z, A⟩ := Jk1 u rates j (min rates.length 20)
 have w := Jlt o (min rates.length 20); have x := Jlt (Int.le_trans o j) (min rates.length 20)
 have m : covN t (min rates.length 20) - covN s (min rates.length 20) <= t - s := by omega
 have B : d * (covN t (min rates.length 20) - covN s (min rates.length 20)) <= d * (t - s) := L2x m u
 unfold milF sumA; rw [Int.sub_mul, Int.add_mul]
 omega
theorem Ji8 (d : Int) (rates : List Int) : milF d rates 0 = 0 := by
 have : ∀ k : Nat, sumB d rates 0 k = 0 := λ k => by
  induction k with
  | zero => rfl
  | succ k j => rw [sumB, j, if_neg (by omega)]; rfl
 unfold milF sumA; rw [this]; rfl
theorem Jrj {d : Int} (u : 0 <= d /\ d <= 100) (j : Int) (rates : List Int) {s t : Int} (o : 0 <= s) (m : s <= t) : JbS d j rates s <= JbS d j rates t /\ Fit d (t - s) (JbS d j rates t - JbS d j rates s) := by
 obtain ⟨w, x⟩ := Ji7 u.1 rates o m
 have y : 0 <= (1000 - d) * (t - s) := L1f (by omega) (by omega)
 unfold Fit JbS
 omega
theorem Jee {d : Int} (w : 0 <= d /\ d <= 100) (j : Int) (rates : List Int) {t : Int} (m : 0 <= t) : 0 <= JbS d j rates t /\ JbS d j rates t <= 1000 + 2 * t := by
 obtain ⟨o, u⟩ := Ji7 w.1 rates (L1M 0) m
 have x : 0 <= (1000 - d) * (t - 0) := L1f (by omega) (by omega)
 have y : d * t <= 100 * t := L20 w.2 m
 have z := Jai (c := j) (n := 1000) (by omega)
 rw [Ji8, Int.add_mul] at u; rw [Ji8] at o; simp only [Int.sub_zero] at o u x; unfold JbS
 omega
def Jxg (d j : Int) (rates : List Int) (r : Rd) : Prop := ∃ t, 0 <= t /\ r.l = JbS d j rates t /\ r.a <= t /\ t <= r.b
def Jgt (d j : Int) (rates : List Int) (t : Int) (q : Int × Int × Int) : Rd := ⟨JbS d j rates t, max (t - Jag q.2.1 51) 0, t + Jag q.2.2 51⟩
def putR (d j : Int) (rates : List Int) (t : Int) (l : List Rd) (q : Int × Int × Int) : List Rd :=
 if Jag q.1 3000 = t /\ (l = [] \/ (gd l (l.length - 1)).l < JbS d j rates t) then l ++ [Jgt d j rates t q] else l
def rowR (d j : Int) (rates : List Int) (at_ : List (Int × Int × Int)) (t : Int) (l : List Rd) : Nat -> List Rd
 | 0 => l
 | i + 1 => putR d j rates t (rowR d j rates at_ t l i) (gd at_ i)
def JdA (d j : Int) (rates : List Int) (at_ : List (Int × Int × Int)) : Nat -> List Rd
 | 0 => []
 | t + 1 => rowR d j rates at_ t (JdA d j rates at_ t) (min at_.length 12)
def clkF (j m : Int) (rates : List Int) (at_ : List (Int × Int × Int)) : Ck := ⟨Jag j 101, JdA (Jag j 101) m rates at_ 3000⟩
theorem JjL : ∀ (l : List Rd) (j : Int) (r : Rd), ascR j (l ++ [r]) = true ↔ ascR j l = true /\ ((l = [] /\ j < r.l) \/ (l ≠ [] /\ (gd l (l.length - 1)).l < r.l)) /\ r.l <= 10000000 /\ 0 <= r.a /\ r.a <= r.b /\ r.b <= 10000000
 | [], j, r => by simp [ascR]
 | x :: l, j, r => by
  rw [L0L, ascR, ascR, L00, L00, JjL l x.l r]
  have e : (gd (x :: l) ((x :: l).length - 1)) = if l = [] then x else gd l (l.length - 1) := by
   cases l with
   | nil => rfl
   | cons y l =>
    rw [if_neg (by simp)]
    show gd (x :: y :: l) ((y :: l).length + 1 - 1) = _
    rw [L15, show (y :: l).length = (y :: l).length - 1 + 1 by simp, Jas]
    simp
  rw [e]
  by_cases hl : l = []
  . subst hl; simp [ascR]
  . simp [hl, and_assoc]
section
variable (d start : Int) (rates : List Int) (at_ : List (Int × Int × Int))
def cntB (T : Nat) : Nat -> Nat
 | 0 => 0
 | i + 1 => cntB T i + if Jag (gd at_ i).1 3000 < T then 1 else 0
def cntE (t : Nat) : Nat -> Nat
 | 0 => 0
 | i + 1 => cntE t i + if Jag (gd at_ i).1 3000 = t then 1 else 0
theorem JpG (T : Nat) : ∀ i, cntB at_ (T + 1) i = cntB at_ T i + cntE at_ T i
 | 0 => rfl
 | i + 1 => by
  rw [cntB, cntB, cntE, JpG T i]
  by_cases h : Jag (gd at_ i).1 3000 < (T : Int)
  . rw [if_pos (by omega), if_pos h, if_neg (by omega)]; omega
  . by_cases h2 : Jag (gd at_ i).1 3000 = (T : Int)
    . rw [if_pos (by omega), if_neg h, if_pos h2]; omega
    . rw [if_neg (by omega), if_neg h, if_neg h2]; omega
theorem JpH (T : Nat) : ∀ i, cntB at_ T i <= i
 | 0 => L09 _
 | i + 1 => by have := JpH T i; rw [cntB]; split <;> omega
structure Good (l : List Rd) : Prop where
 asc : ascR (-1) l = true
 tru : ∀ r ∈ l, Jxg d start rates r
theorem Js9 (hd : 0 <= d /\ d <= 100) {t : Nat} (ht : t < 3000) {l : List Rd} (h : Good d start rates l) (q : Int × Int × Int) : Good d start rates (putR d start rates t l q) /\ (putR d start rates t l q).length <= l.length + if Jag q.1 3000 = t then 1 else 0 := by
 have h1 := Jai (c := q.2.1) (n := 51) (by omega)
 have h2 := Jai (c := q.2.2) (n := 51) (by omega)
 have h3 := Jee hd start rates (t := t) (by omega)
 unfold putR
 split
 . rename_i hc
   refine ⟨⟨?_, ?_⟩, ?_⟩
   . rw [JjL]
     refine ⟨h.asc, ?_, ?_⟩
     . by_cases hl : l = []
       . exact .inl ⟨hl, by simp only [Jgt]; omega⟩
       . exact .inr ⟨hl, by rcases hc.2 with e | e; exact absurd e hl; exact e⟩
     . simp only [Jgt]; omega
   . intro r hr
     rcases L0t.1 hr with hr | hr
     . exact h.tru r hr
     . obtain rfl := L0u.1 hr
       exact ⟨t, by omega, rfl, by simp only [Jgt]; omega, by simp only [Jgt]; omega⟩
   . rw [L0b, if_pos hc.1]; simp
 . exact ⟨h, by omega⟩
theorem Jjo (j : 0 <= d /\ d <= 100) {t : Nat} (m : t < 3000) {l : List Rd} (h : Good d start rates l) : ∀ i, Good d start rates (rowR d start rates at_ t l i) /\ (rowR d start rates at_ t l i).length <= l.length + cntE at_ t i
 | 0 => ⟨h, L09 _⟩
 | i + 1 => by
  obtain ⟨o, w⟩ := Jjo j m h i
  obtain ⟨u, x⟩ := Js9 d start rates j m o (gd at_ i)
  rw [rowR, cntE]
  exact ⟨u, by omega⟩
theorem Jhk (j : 0 <= d /\ d <= 100) : ∀ T : Nat, T <= 3000 -> Good d start rates (JdA d start rates at_ T) /\ (JdA d start rates at_ T).length <= cntB at_ T (min at_.length 12)
 | 0, _ => ⟨⟨rfl, λ r h => by cases h⟩, L17 _⟩
 | T + 1, x => by
  obtain ⟨m, u⟩ := Jhk j T (by omega)
  obtain ⟨o, w⟩ := Jjo d start rates at_ j (t := T) (by omega) m (min at_.length 12)
  rw [JdA, JpG]
  exact ⟨o, by omega⟩
end
theorem Jsj (j m : Int) (rates : List Int) (at_ : List (Int × Int × Int)) : Good (Jag j 101) m rates (clkF j m rates at_).r /\ Jbe (clkF j m rates at_) = true := by
 have u := Jai (c := j) (n := 101) (by omega)
 obtain ⟨o, w⟩ := Jhk (Jag j 101) m rates at_ (by omega) 3000 (L09 _)
 have x := JpH at_ 3000 (min at_.length 12)
 refine ⟨o, JdZ.2 ⟨⟨u.1, by simp only [clkF]; omega, by simp only [clkF]; omega⟩, o.asc⟩⟩
structure Cn where
 b : Int
 e : Int
 deriving DecidableEq
structure Lg where
 f : Int
 t : Int
 g : Cn
 k : Cn
 deriving DecidableEq
instance : Inhabited Cn := ⟨⟨0, 0⟩⟩
instance : Inhabited Lg := ⟨⟨0, 0, default, default⟩⟩
def cntF (n : Cn) : Bool := decide (0 <= n.b /\ n.b <= n.e /\ n.e <= 10000000)
theorem Jd0 {n : Cn} : cntF n = true ↔ 0 <= n.b /\ n.b <= n.e /\ n.e <= 10000000 := decide_eq_true_iff
def legF (l : Lg) : Bool := decide ((0 <= l.f /\ l.f <= 7) /\ (0 <= l.t /\ l.t <= 7) /\ l.f ≠ l.t) && (cntF l.g && cntF l.k)
theorem JbC {l : Lg} : legF l = true ↔ ((0 <= l.f /\ l.f <= 7) /\ (0 <= l.t /\ l.t <= 7) /\ l.f ≠ l.t) /\ cntF l.g = true /\ cntF l.k = true := by
 unfold legF; simp only [L00, decide_eq_true_iff]
structure Sn where
 b : Int × Int
 e : Int × Int
 deriving DecidableEq
instance : Inhabited Sn := ⟨⟨(0, 0), (0, 0)⟩⟩
def JcF (c : Ck) (n : Cn) : Option Sn := match atF c n.b, atF c n.e with
 | some w, some v => if cntF n = true then some ⟨w, v⟩ else none
 | _, _ => none
def JbE (w v : Int × Int) : Int × Int := (max w.1 v.1, min w.2 v.2)
def JlP (s t : Sn) : Option Sn :=
 if (JbE s.b t.b).1 <= (JbE s.b t.b).2 /\ (JbE s.e t.e).1 <= (JbE s.e t.e).2 /\ (JbE s.b t.b).1 <= (JbE s.e t.e).2 then some ⟨JbE s.b t.b, JbE s.e t.e⟩ else none
def JeM (a b : Ck) (l : Lg) : Option Sn := match JcF a l.g, JcF b l.k with
 | some s, some t => if legF l = true then JlP s t else none
 | _, _ => none
def Jfu (s : Sn) : Int × Int := (s.b.2, max s.b.2 s.e.1)
structure Cr where
 d : Int
 s : Int
 r : List Int
 at_ : List (Int × Int × Int)
instance : Inhabited Cr := ⟨⟨0, 0, [], []⟩⟩
def Cr.show (y : Cr) (t : Int) : Int := JbS (Jag y.d 101) y.s y.r t
def Cr.clk (y : Cr) : Ck := clkF y.d y.s y.r y.at_
def Cr.cnt (y : Cr) (f t : Int) : Cn := ⟨y.show f, y.show t⟩
theorem JpK (y : Cr) {f t : Int} (j : 0 <= f) (h : f <= t) (m : t <= 4000000) : cntF (y.cnt f t) = true := by
 have x := Jai (c := y.d) (n := 101) (by omega)
 have o := (Jrj (d := Jag y.d 101) (by omega) y.s y.r j h).1
 have u := Jee (d := Jag y.d 101) (by omega) y.s y.r j
 have w := Jee (d := Jag y.d 101) (by omega) y.s y.r (t := t) (by omega)
 rw [Jd0]; simp only [Cr.cnt, Cr.show]; omega
def Jaq (n : Nat) : Nat := 2 ^ Nat.log2 (n - 1)
theorem Jbn (n : Nat) : 0 < Jaq n := Nat.pos_of_ne_zero (by unfold Jaq; exact Nat.ne_of_gt (Nat.pow_pos (by omega)))
theorem JbO {n : Nat} (h : 2 <= n) : Jaq n < n := by
 have := Nat.log2_self_le (n := n - 1) (by omega)
 unfold Jaq; omega
theorem JsE {n a : Nat} (j : 2 ^ a < n) (m : n <= 2 * 2 ^ a) : Jaq n = 2 ^ a := by
 unfold Jaq
 have o : 0 < 2 ^ a := Nat.pow_pos (by omega)
 have e : Nat.log2 (n - 1) = a := (Nat.log2_eq_iff (by omega)).2 ⟨by omega, by rw [L10]; omega⟩
 rw [e]
section
variable {T : Type} [Inhabited T] (leaf : T -> T) (node : T -> T -> T) (emp : T)
def Jc7 : List T -> T
 | [] => emp
 | [s] => leaf s
 | a :: b :: l => node (Jc7 ((a :: b :: l).take (Jaq (l.length + 2)))) (Jc7 ((a :: b :: l).drop (Jaq (l.length + 2))))
termination_by l => l.length
decreasing_by
 . have := JbO (n := l.length + 2) (by omega)
   simp only [L01, L0e]; omega
 . have := Jbn (l.length + 2)
   simp only [L0g, L0e]; omega
theorem JkM {l : List T} (h : 2 <= l.length) : Jc7 leaf node emp l = node (Jc7 leaf node emp (l.take (Jaq l.length))) (Jc7 leaf node emp (l.drop (Jaq l.length))) := by
 match l, h with
 | a :: b :: l, _ => rw [Jc7]; rfl
theorem Jfe (s : T) : Jc7 leaf node emp [s] = leaf s := by rw [Jc7]
theorem JhB : Jc7 leaf node emp [] = emp := by rw [Jc7]
def JcM : List T -> Nat -> List T
 | [], _ => []
 | [_], _ => []
 | a :: b :: l, i =>
  if i < Jaq (l.length + 2) then Jc7 leaf node emp ((a :: b :: l).drop (Jaq (l.length + 2))) :: JcM ((a :: b :: l).take (Jaq (l.length + 2))) i
  else Jc7 leaf node emp ((a :: b :: l).take (Jaq (l.length + 2))) :: JcM ((a :: b :: l).drop (Jaq (l.length + 2))) (i - Jaq (l.length + 2))
termination_by l => l.length
decreasing_by
 . have := JbO (n := l.length + 2) (by omega)
   simp only [L01, L0e]; omega
 . have := Jbn (l.length + 2)
   simp only [L0g, L0e]; omega
theorem JfW {l : List T} (h : 2 <= l.length) (i : Nat) : JcM leaf node emp l i =
 if i < Jaq l.length then Jc7 leaf node emp (l.drop (Jaq l.length)) :: JcM leaf node emp (l.take (Jaq l.length)) i
 else Jc7 leaf node emp (l.take (Jaq l.length)) :: JcM leaf node emp (l.drop (Jaq l.length)) (i - Jaq l.length) := by
 match l, h with
 | a :: b :: l, _ => rw [JcM]; rfl
theorem JbI {l : List T} (h : l.length <= 1) (i : Nat) : JcM leaf node emp l i = [] := by
 match l, h with
 | [], _ => rw [JcM]
 | [_], _ => rw [JcM]
def valF (s : T) (n i : Nat) : List T -> Option T
 | [] => if n <= 1 then some (leaf s) else none
 | x :: p => if n <= 1 then none else if i < Jaq n then (valF s (Jaq n) i p).map (node · x) else (valF s (n - Jaq n) (i - Jaq n) p).map (node x ·)
theorem JhK : ∀ (n : Nat) (l : List T) (i : Nat), l.length <= n -> i < l.length -> valF leaf node (gd l i) l.length i (JcM leaf node emp l i) = some (Jc7 leaf node emp l)
 | 0, l, i, u, j => absurd j (by omega)
 | n + 1, l, i, u, j => by
  by_cases h : 2 <= l.length
  . have w := JbO h; have x := Jbn l.length; rw [JfW leaf node emp h, JkM leaf node emp h]
    split
    . rename_i o
      rw [valF, if_neg (by omega), if_pos o]
      have m := JhK n (l.take (Jaq l.length)) i (by rw [L01]; omega) (by rw [L01]; omega)
      rw [JfB _ _ _ o, L01, L0N (by omega)] at m
      rw [m]; rfl
    . rename_i o
      rw [valF, if_neg (by omega), if_neg o]
      have m := JhK n (l.drop (Jaq l.length)) (i - Jaq l.length) (by rw [L0g]; omega) (by rw [L0g]; omega)
      rw [JuV, L0g, show Jaq l.length + (i - Jaq l.length) = i by omega] at m
      rw [m]; rfl
  . match l, j, h with
    | [s], j, _ =>
     have : i = 0 := by simpa using j
     subst this
     rw [JbI leaf node emp (by simp), Jfe, valF, if_pos (by simp)]; rfl
    | _ :: _ :: _, _, h => exact absurd (by simp) h
theorem JfV {P : T -> Prop} (h0 : P emp) (h1 : ∀ s, P (leaf s)) (h2 : ∀ a b, P (node a b)) : ∀ (n : Nat) (l : List T) (i : Nat), l.length <= n -> ∀ x ∈ JcM leaf node emp l i, P x
 | 0, l, i, hn, x, hx => by rw [JbI leaf node emp (by omega)] at hx; cases hx
 | n + 1, l, i, hn, x, hx => by
  have hr : ∀ l : List T, P (Jc7 leaf node emp l) := λ l => by
   match l with
   | [] => rw [JhB]; exact h0
   | [s] => rw [Jfe]; exact h1 s
   | a :: b :: l => rw [Jc7]; exact h2 _ _
  by_cases h : 2 <= l.length
  . have e1 := JbO h; have e2 := Jbn l.length; rw [JfW leaf node emp h] at hx
    split at hx
    . rcases L0q.1 hx with rfl | hx
      . exact hr _
      . exact JfV h0 h1 h2 n _ i (by rw [L01]; omega) x hx
    . rcases L0q.1 hx with rfl | hx
      . exact hr _
      . exact JfV h0 h1 h2 n _ _ (by rw [L0g]; omega) x hx
  . rw [JbI leaf node emp (by omega)] at hx; cases hx
theorem Jq9 {P : T -> Prop} (j : P emp) (m : ∀ s, P (leaf s)) (o : ∀ a b, P (node a b)) (l : List T) : P (Jc7 leaf node emp l) := by
 match l with
 | [] => rw [JhB]; exact j
 | [s] => rw [Jfe]; exact m s
 | a :: b :: l => rw [Jc7]; exact o _ _
end
set_option maxRecDepth 100000
open Go.Vai Go Go.Proofs
def JaG (a : ByteArray) : ByteArray := shaF (⟨#[0]⟩ ++ a)
def JaW (a b : ByteArray) : ByteArray := shaF (⟨#[1]⟩ ++ (a ++ b))
def empF : ByteArray := shaF ⟨#[]⟩
theorem Ja4 (a : ByteArray) : (JaG a).size = 32 := Jc9 _
theorem Jbt (a b : ByteArray) : (JaW a b).size = 32 := Jc9 _
theorem JeA (a b : ByteArray) (j : a.size + b.size <= 99999999) : Ev prog 80 [Str a, Str b] (Str (JaW a b)) := JqG a b j
theorem JfL (a : ByteArray) (j : a.size <= 99999999) : Ev prog 81 [Str a] (Str (JaG a)) := Jqq a j
theorem Je9 (a b : ByteArray) (j : a.size + b.size <= 99999999) : Ev prog 157 [Str a, Str b] (Str (JaW a b)) := Jm2 a b j
theorem Je5 (a : ByteArray) (j : a.size <= 99999999) : Ev prog 156 [Str a] (Str (JaG a)) := JmT a j
instance : Inhabited ByteArray := ⟨⟨#[]⟩⟩
structure Hd where
 c : Int
 n : Int
 r : ByteArray
 s : ByteArray
 deriving DecidableEq
instance : Inhabited Hd := ⟨⟨0, 0, default, default⟩⟩
structure It where
 i : Int
 e : ByteArray
 p : List ByteArray
 deriving DecidableEq
instance : Inhabited It := ⟨⟨0, default, []⟩⟩
structure Pt where
 h : Hd
 l : List It
 deriving DecidableEq
instance : Inhabited Pt := ⟨⟨default, []⟩⟩
structure Rg where
 c : Int
 l : List ByteArray
instance : Inhabited Rg := ⟨⟨0, []⟩⟩
def JcE (h : Hd) : ByteArray := viS 4 ++ viS h.c ++ viS h.n ++ h.r
def Jfh (key : ByteArray) (h : Hd) : ByteArray := JaW key (JaG (JcE h))
def Jcz (l : List ByteArray) : ByteArray := Jc7 JaG JaW empF l
theorem Jeb (l : List ByteArray) : (Jcz l).size = 32 := Jq9 JaG JaW empF (P := λ s => s.size = 32) (Jc9 _) Ja4 Jbt l
def regB (r : Rg) : Bool := decide (0 <= r.c /\ r.c <= 7) && (decide (r.l.length <= 60) && r.l.all λ s => decide (s.size <= 1000))
theorem Jea {r : Rg} : regB r = true ↔ (0 <= r.c /\ r.c <= 7) /\ r.l.length <= 60 /\ ∀ s ∈ r.l, s.size <= 1000 := by
 unfold regB; simp only [L00, decide_eq_true_iff, L0f]
def genB (key : ByteArray) (h : Hd) : Bool := decide (key.size = 32 /\ (0 <= h.c /\ h.c <= 7) /\ (0 <= h.n /\ h.n <= 60) /\ h.r.size = 32 /\ h.s = Jfh key h)
theorem JiT {key : ByteArray} {h : Hd} : genB key h = true ↔ key.size = 32 /\ (0 <= h.c /\ h.c <= 7) /\ (0 <= h.n /\ h.n <= 60) /\ h.r.size = 32 /\ h.s = Jfh key h := decide_eq_true_iff
def digB (p : List ByteArray) : Bool := p.all λ s => decide (s.size = 32)
def verB (j : ByteArray) (n i : Int) (s : ByteArray) (p : List ByteArray) : Bool :=
 decide (0 <= i /\ i < n) && (digB p && decide (valF JaG JaW s n.toNat i.toNat p.reverse = some j))
def itB (h : Hd) (j : Option Int) (x : It) : Bool := decide (∀ q, j = some q -> q < x.i) && (decide (x.e.size <= 1000) && verB h.r h.n x.i x.e x.p)
def itsB (h : Hd) : Option Int -> List It -> Bool
 | _, [] => true
 | j, x :: l => itB h j x && itsB h (some x.i) l
def Jbu (key : ByteArray) (p : Pt) : Bool := genB key p.h && itsB p.h none p.l
def JiU (key : ByteArray) (r : Rg) (n : Nat) : Hd := ⟨r.c, n, Jcz (r.l.take n), Jfh key ⟨r.c, n, Jcz (r.l.take n), default⟩⟩
def Je4 (r : Rg) (n i : Nat) : It := ⟨i, gd r.l i, (JcM JaG JaW empF (r.l.take n) i).reverse⟩
def ascN (n : Nat) : Option Int -> List Int -> Bool
 | _, [] => true
 | j, i :: l => decide ((0 <= i /\ i < n) /\ ∀ q, j = some q -> q < i) && ascN n (some i) l
def Jjs (key : ByteArray) (r : Rg) (n : Int) (l : List Int) : Option Pt :=
 if key.size = 32 /\ regB r = true /\ (0 <= n /\ n <= r.l.length) /\ ascN n.toNat none l = true then some ⟨JiU key r n.toNat, l.map λ i => Je4 r n.toNat i.toNat⟩ else none
theorem JqU (r : Rg) (n i : Nat) : digB (Je4 r n i).p = true := by
 unfold digB Je4; rw [L0f]
 intro x hx
 rw [List.mem_reverse] at hx
 exact decide_eq_true (JfV JaG JaW empF (P := λ s => s.size = 32) (Jc9 _) Ja4 Jbt _ _ i (L09 _) x hx)
theorem JsB {r : Rg} {n i : Nat} (o : n <= r.l.length) (j : i < n) : verB (Jcz (r.l.take n)) n i (gd r.l i) (Je4 r n i).p = true := by
 have m : (r.l.take n).length = n := by rw [L01]; omega
 have h := JhK JaG JaW empF n (r.l.take n) i (by omega) (by omega)
 rw [m, JfB _ _ _ j] at h; unfold verB; rw [JqU, L0d, L00, decide_eq_true_iff, decide_eq_true_iff]
 refine ⟨by omega, ?_⟩
 show valF JaG JaW (gd r.l i) ((n : Int)).toNat ((i : Int)).toNat ((JcM JaG JaW empF (r.l.take n) i).reverse).reverse = _
 rw [L2y, L1e, L1e]; exact h
theorem JhV {key : ByteArray} {r : Rg} {n : Int} {l : List Int} {p : Pt} (h : Jjs key r n l = some p) : Jbu key p = true /\ p.h = JiU key r n.toNat /\ p.l = l.map λ i => Je4 r n.toNat i.toNat := by
 unfold Jjs at h
 split at h
 . rename_i z
   cases h
   obtain ⟨A, j, E, m⟩ := z; have j := Jea.1 j
   refine ⟨?_, rfl, rfl⟩
   unfold Jbu; rw [L00, JiT]
   refine ⟨⟨A, j.1, ?_, Jeb _, rfl⟩, ?_⟩
   . simp only [JiU]; omega
   . simp only
     generalize u : (none : Option Int) = o at m; clear u
     induction l generalizing o with
     | nil => rfl
     | cons i l C =>
      rw [ascN, L00, decide_eq_true_iff] at m
      obtain ⟨⟨D, x⟩, y⟩ := m
      rw [L0l, itsB, L00]
      have w : (((i.toNat : Nat) : Int)) = i := by omega
      refine ⟨?_, ?_⟩
      . unfold itB; rw [L00, L00, decide_eq_true_iff, decide_eq_true_iff]
        refine ⟨λ q B => ?_, ?_, ?_⟩
        . show q < ((i.toNat : Nat) : Int)
          rw [w]; exact x q B
        . exact j.2.2 _ (Jaj _ _ (by omega))
        . exact JsB (by omega) (by omega)
      . show itsB _ (some ((i.toNat : Nat) : Int)) _ = true
        rw [w]; exact C _ y
 . cases h
def preN : Nat -> List It -> List ByteArray
 | _, [] => []
 | v, x :: l => if x.i = v then x.e :: preN (v + 1) l else []
def preF (p : Pt) : List ByteArray := preN 0 p.l
def fstF (u v : ByteArray) : List ByteArray -> Int
 | [] => 0
 | e :: l => if e = u then 1 else if e = v then 2 else fstF u v l
def Jbz (l : List ByteArray) (u v : ByteArray) : Int := if u = v then 0 else fstF u v l
def evF (key : ByteArray) (p : Pt) : List ByteArray := if Jbu key p = true then preF p else []
theorem JpZ (u v : ByteArray) : ∀ l, fstF u v l = 0 \/ fstF u v l = 1 \/ fstF u v l = 2
 | [] => .inl rfl
 | e :: l => by
  rw [fstF]
  split
  . exact .inr (.inl rfl)
  . split
    . exact .inr (.inr rfl)
    . exact JpZ u v l
theorem Jj7 (l : List ByteArray) (u v : ByteArray) : 0 <= Jbz l u v /\ Jbz l u v <= 2 := by
 unfold Jbz
 split
 . omega
 . rcases JpZ u v l with h | h | h <;> omega
instance : Inhabited Tf := ⟨⟨[], 0⟩⟩
def recN (l : Lg) (e : Int) (n : Cn) : ByteArray := viS 8 ++ viS l.f ++ viS l.t ++ viS e ++ viS n.b ++ viS n.e
def recF (l : Lg) (e : Int) : ByteArray := recN l e (if e = 1 then l.g else l.k)
def JhM (j : List ByteArray) (a b : Ck) (l : Lg) : (Int × Int) × Int := match JeM a b l with
 | some s => (Jfu s, 0)
 | none =>
  if Jbz j (recF l 1) (recF l 2) = 1 then (match JcF a l.g with | some s => (Jfu s, 1) | none => ((0, 0), 0))
  else if Jbz j (recF l 1) (recF l 2) = 2 then (match JcF b l.k with | some s => (Jfu s, 2) | none => ((0, 0), 0))
  else ((0, 0), 0)
structure Tp where
 hops : List (Int × Int)
 legs : List Lg
 cks : List Ck
 tfs : List Tf
 offs : List Int
 key : ByteArray
 part : Pt
 call : ByteArray
 ups : List ByteArray
def JdK (u : Nat) : Int × Int -> List (Int × Int) -> Bool
 | _, [] => true
 | j, h :: l => decide ((0 <= h.1 /\ h.1 <= 7) /\ h.1 ≠ j.1 /\ (j.2 <= h.2 /\ h.2 <= 29) /\ h.2 < u) && JdK u h l
def JcS (j : List (Int × Int)) : Nat -> List Lg -> Bool
 | _, [] => true
 | i, l :: m => (legF l && decide (l.f = (gd j i).1 /\ l.t = (gd j (i + 1)).1)) && JcS j (i + 1) m
def JbA (t : Tp) : Bool :=
 Jbu t.key t.part && (decide ((1 <= t.hops.length /\ t.hops.length <= 12) /\ t.legs.length = t.hops.length - 1 /\ t.cks.length = 8 /\ t.tfs.length = 8 /\ t.offs.length = 8 /\ t.ups.length <= 30) &&
  (t.cks.all Jbe && (t.tfs.all JaT && (t.offs.all Jbw && (JdK t.ups.length (-1, 0) t.hops && JcS t.hops 0 t.legs)))))
def payF (t : Tp) (i : Nat) : Int :=
 if i = 0 then (gd t.hops 0).1
 else if (gd t.hops (i - 1)).2 + 1 < t.ups.length /\ Jbz (evF t.key t.part) (gd t.ups ((gd t.hops (i - 1)).2 + 1).toNat) t.call = 1 then (gd t.hops (i - 1)).1
 else (gd t.hops i).1
def Jbo (t : Tp) (l : Lg) : (Int × Int) × Int := JhM (evF t.key t.part) (gd t.cks l.f.toNat) (gd t.cks l.t.toNat) l
structure Bl where
 p : Int
 q : Int
 f : Int
 t : Int
 a : Int
 deriving DecidableEq
instance : Inhabited Bl := ⟨⟨0, 0, 0, 0, 0⟩⟩
def Jlf (t : Tp) (i : Nat) : Bl :=
 let l := gd t.legs i
 let s := (Jbo t l).1
 ⟨payF t i, l.t, s.1, s.2, amtF (gd t.tfs l.t.toNat) (gd t.offs l.t.toNat) s.1 s.2⟩
def JaZ (t : Tp) : List Bl := (List.range t.legs.length).map (Jlf t)
theorem Jbr (t : Tp) : (JaZ t).length = t.legs.length := by simp [JaZ]
theorem JjO (t : Tp) {i : Nat} (h : i < t.legs.length) : gd (JaZ t) i = Jlf t i := by simp [JaZ, gd, h]
theorem Jp7 : ∀ (u : Nat) (l : List (Int × Int)) (j : Int × Int), JdK u j l = true -> ∀ i, i < l.length -> (0 <= (gd l i).1 /\ (gd l i).1 <= 7) /\ (j.2 <= (gd l i).2 /\ (gd l i).2 <= 29) /\ (gd l i).2 < u
 | _, [], _, _, i, m => by simp at m
 | u, h :: l, j, o, i, m => by
  rw [JdK, L00, decide_eq_true_iff] at o
  obtain ⟨⟨w, A, x, y⟩, z⟩ := o
  cases i with
  | zero => rw [JaL]; exact ⟨w, x, y⟩
  | succ i =>
   rw [Jas]
   obtain ⟨a, b, c⟩ := Jp7 u l h z i (by simpa using m)
   exact ⟨a, by omega, c⟩
theorem Jqs : ∀ (j : List (Int × Int)) (l : List Lg) (v : Nat), JcS j v l = true -> ∀ i, i < l.length -> legF (gd l i) = true /\ (gd l i).f = (gd j (v + i)).1 /\ (gd l i).t = (gd j (v + i + 1)).1
 | _, [], _, _, i, m => by simp at m
 | j, x :: l, v, o, i, m => by
  rw [JcS, L00, L00, decide_eq_true_iff] at o
  obtain ⟨⟨u, w⟩, y⟩ := o
  cases i with
  | zero => rw [JaL]; exact ⟨u, w⟩
  | succ i =>
   rw [Jas, show v + (i + 1) = v + 1 + i by omega]
   exact Jqs j l (v + 1) y i (by simpa using m)
theorem JjM {c : Ck} {t : Int} {w : Int × Int} (h : atF c t = some w) : 0 <= w.1 /\ w.1 <= w.2 /\ w.2 <= 10000000 := by
 obtain ⟨j, rfl⟩ := Jr8.1 h
 have := JtB c.d t c.r
 omega
def Sn.ok (s : Sn) : Prop := (0 <= s.b.1 /\ s.b.1 <= s.b.2 /\ s.b.2 <= 10000000) /\ 0 <= s.e.1 /\ s.e.1 <= s.e.2 /\ s.e.2 <= 10000000
theorem Jju {c : Ck} {n : Cn} {s : Sn} (h : JcF c n = some s) : s.ok := by
 unfold JcF at h
 split at h
 . rename_i w v j m
   split at h
   . cases h; exact ⟨JjM j, JjM m⟩
   . cases h
 . cases h
theorem Jr0 {a b : Ck} {l : Lg} {s : Sn} (h : JeM a b l = some s) : s.ok := by
 unfold JeM at h
 split at h
 . rename_i x y j m; have o := Jju j; have u := Jju m
   split at h
   . unfold JlP at h
     split at h
     . cases h
       unfold Sn.ok JbE at *
       simp only at *
       omega
     . cases h
   . cases h
 . cases h
theorem Jlm {s : Sn} (h : s.ok) : 0 <= (Jfu s).1 /\ (Jfu s).1 <= (Jfu s).2 /\ (Jfu s).2 <= 10000000 := by
 unfold Sn.ok at h; unfold Jfu
 simp only
 omega
theorem Jlg (j : List ByteArray) (a b : Ck) (l : Lg) : Jda (JhM j a b l).1.1 (JhM j a b l).1.2 = true /\ ((JhM j a b l).2 = 0 \/ (JhM j a b l).2 = 1 \/ (JhM j a b l).2 = 2) := by
 rw [Jdb]; unfold JhM
 split
 . rename_i s m
   exact ⟨Jlm (Jr0 m), .inl rfl⟩
 . split
   . split
     . rename_i s m
       exact ⟨Jlm (Jju m), .inr (.inl rfl)⟩
     . exact ⟨by simp only; omega, .inl rfl⟩
   . split
     . split
       . rename_i s m
         exact ⟨Jlm (Jju m), .inr (.inr rfl)⟩
       . exact ⟨by simp only; omega, .inl rfl⟩
     . exact ⟨by simp only; omega, .inl rfl⟩
structure Q4 where
 a : Int
 b : Int
 c : Int
 d : Int
instance : Inhabited Q4 := ⟨⟨0, 0, 0, 0⟩⟩
structure Nm where
 hops : List (Int × Int)
 legs : List (Int × Int × Int)
 crs : List Cr
 bases : List Int
 rates : List Q4
 offs : List Int
 wit : List Int
def numF (l : List Int) (i : Nat) : Int := if l = [] then 0 else gd l (i % l.length)
def crsF (x : Nm) (c : Nat) : Cr := if x.crs = [] then ⟨0, 0, [], []⟩ else gd x.crs (c % x.crs.length)
def JfY (q : Q4) : Rt := ⟨1 + Jag q.a 127, 1800 * Jag q.b 48, 1800 * Jag q.b 48 + 1 + Jag q.c (86400 - 1800 * Jag q.b 48), Jag q.d 2000⟩
def tfQ (j : Int) (x : List Q4) : Tf := ⟨(x.take 4).map JfY, Jag j 2000⟩
theorem Jtr (j : Int) (x : List Q4) : JaT (tfQ j x) = true := by
 have m := Jai (c := j) (n := 2000) (by omega)
 refine Ja9.2 ⟨⟨m.1, by simp only [tfQ]; omega, by simp only [tfQ, L0c, L01]; omega⟩, λ r o => ?_⟩
 obtain ⟨q, _, rfl⟩ := L05.1 o
 have u := Jai (c := q.a) (n := 127) (by omega)
 have w := Jai (c := q.b) (n := 48) (by omega)
 have y := Jai (c := q.c) (n := 86400 - 1800 * Jag q.b 48) (by omega)
 have z := Jai (c := q.d) (n := 2000) (by omega)
 refine Jbm.2 ?_
 simp only [JfY]
 omega
def offF (x : Nm) (c : Nat) : Int := Jag (numF x.offs c) 100801 - 50400
theorem Jvw (x : Nm) (c : Nat) : Jbw (offF x c) = true := by
 have j := Jai (c := numF x.offs c) (n := 100801) (by omega)
 rw [JbU]; unfold offF; omega
def hopF (q j : Int × Int) (i : Nat) : Int × Int := (if i = 0 then Jag q.1 8 else (j.1 + 1 + Jag q.1 7).tmod 8, min (j.2 + Jag q.2 4) 20)
def hopN (x : List (Int × Int)) : Nat -> List (Int × Int)
 | 0 => []
 | i + 1 => hopN x i ++ [hopF (gd x i) (gd (hopN x i) (i - 1)) i]
def JaA (x : List (Int × Int)) : List (Int × Int) := if x = [] then [(0, 0)] else hopN x (min x.length 6)
theorem Ja2 (x : List (Int × Int)) : ∀ i, (hopN x i).length = i
 | 0 => rfl
 | i + 1 => by rw [hopN, L0b, Ja2 x i]; rfl
theorem Jhb (x : List (Int × Int)) : ∀ i, ∀ h ∈ hopN x i, (0 <= h.1 /\ h.1 <= 7) /\ 0 <= h.2 /\ h.2 <= 20
 | 0, h, hh => by cases hh
 | i + 1, h, hh => by
  rw [hopN] at hh
  rcases L0t.1 hh with hh | hh
  . exact Jhb x i h hh
  . obtain rfl := L0u.1 hh
    have h1 := Jai (c := (gd x i).1) (n := 8) (by omega)
    have h2 := Jai (c := (gd x i).1) (n := 7) (by omega)
    have h3 := Jai (c := (gd x i).2) (n := 4) (by omega)
    have hl : (0 <= (gd (hopN x i) (i - 1)).1 /\ (gd (hopN x i) (i - 1)).1 <= 7) /\ 0 <= (gd (hopN x i) (i - 1)).2 /\ (gd (hopN x i) (i - 1)).2 <= 20 := by
     by_cases h0 : i = 0
     . subst h0; rw [hopN, JtX]; decide
     . exact Jhb x i _ (Jaj _ _ (by rw [Ja2]; omega))
    unfold hopF
    refine ⟨?_, by simp only; omega⟩
    simp only
    split
    . omega
    . rw [L0Z (by omega)]; omega
theorem JiV (x : List (Int × Int)) : ∀ i v, v < i -> gd (hopN x i) v = hopF (gd x v) (gd (hopN x v) (v - 1)) v
 | 0, v, h => absurd h (by omega)
 | i + 1, v, h => by
  rw [hopN]
  by_cases hv : v < i
  . rw [JcR _ _ _ (by rw [Ja2]; exact hv), JiV x i v hv]
  . obtain rfl : v = i := by omega
    rw [Jbl _ _ _ (by rw [Ja2]; omega), Ja2, L1v]; rfl
theorem Jsv (x : List (Int × Int)) : ∀ i v, v < i -> gd (hopN x i) v = gd (hopN x (v + 1)) v := λ i v h => by
 rw [JiV x i v h, JiV x (v + 1) v (by omega)]
theorem Jp6 (x : List (Int × Int)) {i v : Nat} (h : v + 1 < i) : (gd (hopN x i) (v + 1)).1 ≠ (gd (hopN x i) v).1 /\ (gd (hopN x i) v).2 <= (gd (hopN x i) (v + 1)).2 := by
 rw [JiV x i (v + 1) h, Jsv x i v (by omega), L15]
 have j := Jai (c := (gd x (v + 1)).1) (n := 7) (by omega)
 have m := Jai (c := (gd x (v + 1)).2) (n := 4) (by omega)
 have o := Jhb x (v + 1) _ (Jaj (hopN x (v + 1)) v (by rw [Ja2]; omega))
 generalize gd (hopN x (v + 1)) v = h at *; unfold hopF
 simp only
 rw [if_neg (by omega), L0Z (by omega)]
 omega
theorem JdL (x : List (Int × Int)) : 1 <= (JaA x).length /\ (JaA x).length <= 6 := by
 unfold JaA
 split
 . simp
 . rename_i h
   have := L1h.2 h
   rw [Ja2]; omega
theorem Jd2 (x : List (Int × Int)) : ∀ h ∈ JaA x, (0 <= h.1 /\ h.1 <= 7) /\ 0 <= h.2 /\ h.2 <= 20 := λ h j => by
 unfold JaA at j
 split at j
 . obtain rfl := L0u.1 j; decide
 . exact Jhb x _ h j
theorem JfE (x : List (Int × Int)) {v : Nat} (h : v + 1 < (JaA x).length) : (gd (JaA x) (v + 1)).1 ≠ (gd (JaA x) v).1 /\ (gd (JaA x) v).2 <= (gd (JaA x) (v + 1)).2 := by
 unfold JaA at *
 split
 . rename_i j; rw [if_pos j] at h; simp at h
 . rename_i j; rw [if_neg j, Ja2] at h; exact Jp6 x h
def JdM (x : List (Int × Int)) : Int × Int := gd (JaA x) ((JaA x).length - 1)
theorem JmN (x : List (Int × Int)) : ∀ (k v : Nat), v + k = (JaA x).length - 1 -> 0 < (JaA x).length -> (gd (JaA x) v).2 <= (JdM x).2
 | 0, v, h, j => by unfold JdM; rw [<- h, L0R]; exact L1M _
 | k + 1, v, h, j => by
  have m := JmN x k (v + 1) (by omega) j
  have o := (JfE x (v := v) (by omega)).2
  omega
theorem JmM (u : Nat) : ∀ (l : List (Int × Int)) (j : Int × Int), (∀ h ∈ l, (0 <= h.1 /\ h.1 <= 7) /\ h.2 <= 29 /\ h.2 < u) -> (∀ v, v < l.length -> (gd (j :: l) (v + 1)).1 ≠ (gd (j :: l) v).1 /\ (gd (j :: l) v).2 <= (gd (j :: l) (v + 1)).2) -> JdK u j l = true
 | [], _, _, _ => rfl
 | h :: l, j, m, o => by
  rw [JdK, L00, decide_eq_true_iff]
  obtain ⟨a, b, c⟩ := m h (by simp)
  have d := o 0 (by simp)
  rw [Jas, JaL, JaL] at d
  refine ⟨⟨a, d.1, ⟨d.2, b⟩, c⟩, JmM u l h (λ y x => m y (L1z _ x)) λ v w => ?_⟩
  have := o (v + 1) (by simpa using w)
  rw [Jas j (h :: l) (v + 1), Jas j (h :: l) v] at this; exact this
def updS (v : Nat) : ByteArray := ⟨#[117, 112, 100, 97, 116, 101, 32]⟩ ++ ⟨#[UInt8.ofNat (65 + v)]⟩
def upsN (n : Nat) : List ByteArray := (List.range n).map updS
def Ja7 : ByteArray := ⟨#[99, 97, 108, 108]⟩
def keyS (c : Int) : ByteArray := strOfNums (List.replicate 32 (100 + c))
def legY (x : Nm) (i : Nat) : Int × Int × Int := if x.legs = [] then (100 * (i : Int), 60, 0) else gd x.legs (i % x.legs.length)
def legM (x : Nm) (j : List (Int × Int)) (i : Nat) : Lg :=
 let y := legY x i
 let f := (gd j i).1
 let t := (gd j (i + 1)).1
 let a := Jag y.1 2000
 let b := Jag y.1 2000 + Jag y.2.1 900
 let k := (crsF x t.toNat).cnt a b
 ⟨f, t, (crsF x f.toNat).cnt a b, if Jag y.2.2 4 = 3 then ⟨k.b, k.e + Jag y.2.2 400⟩ else k⟩
def Ji2 (x : Nm) (j : List (Int × Int)) : List Lg := (List.range (j.length - 1)).map (legM x j)
theorem Jqr (x : Nm) {i : Nat} (m : i + 1 < (JaA x.hops).length) : legF (legM x (JaA x.hops) i) = true := by
 have z := Jd2 x.hops _ (Jaj (JaA x.hops) i (by omega))
 have A := Jd2 x.hops _ (Jaj (JaA x.hops) (i + 1) m); have B := (JfE x.hops m).1
 have u := Jai (c := (legY x i).1) (n := 2000) (by omega)
 have w := Jai (c := (legY x i).2.1) (n := 900) (by omega)
 have y := Jai (c := (legY x i).2.2) (n := 400) (by omega)
 have o := JpK (crsF x (gd (JaA x.hops) i).1.toNat) (f := Jag (legY x i).1 2000) (t := Jag (legY x i).1 2000 + Jag (legY x i).2.1 900) (by omega) (by omega) (by omega)
 have j := JpK (crsF x (gd (JaA x.hops) (i + 1)).1.toNat) (f := Jag (legY x i).1 2000) (t := Jag (legY x i).1 2000 + Jag (legY x i).2.1 900) (by omega) (by omega) (by omega)
 have D : ((crsF x (gd (JaA x.hops) (i + 1)).1.toNat).cnt (Jag (legY x i).1 2000) (Jag (legY x i).1 2000 + Jag (legY x i).2.1 900)).e <= 9000 := by
  have C := Jai (c := (crsF x (gd (JaA x.hops) (i + 1)).1.toNat).d) (n := 101) (by omega)
  have := (Jee (d := Jag (crsF x (gd (JaA x.hops) (i + 1)).1.toNat).d 101) (by omega) (crsF x (gd (JaA x.hops) (i + 1)).1.toNat).s (crsF x (gd (JaA x.hops) (i + 1)).1.toNat).r (t := Jag (legY x i).1 2000 + Jag (legY x i).2.1 900) (by omega)).2
  simp only [Cr.cnt, Cr.show]; omega
 rw [JbC]; unfold legM
 simp only
 refine ⟨by omega, o, ?_⟩
 split
 . rw [Jd0] at j ⊢
   simp only
   omega
 . exact j
def witE (call : ByteArray) (ups : List ByteArray) (legs : List Lg) (w : Int) : ByteArray :=
 if Jag w 3 = 1 then gd ups (Jag (w.tdiv 3) ups.length).toNat
 else if Jag w 3 = 2 /\ legs ≠ [] then recF (gd legs (Jag (w.tdiv 6) legs.length).toNat) (1 + Jag (w.tdiv 3) 2)
 else call
def witN (w : List Int) : Nat -> List Int
 | 0 => []
 | i + 1 => witN w i ++ if Jag ((gd w i).tdiv 128) 8 ≠ 7 then [(i : Int)] else []
def witR (call : ByteArray) (ups : List ByteArray) (legs : List Lg) (w : List Int) : Rg := ⟨0, (w.take 12).map (witE call ups legs)⟩
def witP (call : ByteArray) (ups : List ByteArray) (legs : List Lg) (w : List Int) : Pt :=
 ⟨JiU (keyS 0) (witR call ups legs w) (min w.length 12), (witN w (min w.length 12)).map λ i => Je4 (witR call ups legs w) (min w.length 12) i.toNat⟩
def Jca (x : Nm) : Tp where
 hops := JaA x.hops
 legs := Ji2 x (JaA x.hops)
 cks := (List.range 8).map λ c => (crsF x c).clk
 tfs := (List.range 8).map λ c => tfQ (numF x.bases c) (x.rates.take (c % 4))
 offs := (List.range 8).map (offF x)
 key := keyS 0
 part := witP Ja7 (upsN ((JdM x.hops).2 + 2).toNat) (Ji2 x (JaA x.hops)) x.wit
 call := Ja7
 ups := upsN ((JdM x.hops).2 + 2).toNat
abbrev RDP (r : Rd) : AV := .agg [I r.l, I r.a, I r.b]
abbrev RDS (l : List Rd) : AV := .sl 3 (l.map RDP)
abbrev CKP (c : Ck) : AV := .agg [I c.d, RDS c.r]
section
variable (p : Nat -> Bool) (l : List Rd)
@[go_sem] theorem JwM : AV.namesL p (l.map RDP) = false := Jak p l RDP λ _ => rfl
@[go_sem] theorem Jyb : AV.flatL (l.map RDP) = true := JaP l RDP λ _ => rfl
@[go_sem] theorem Jxp : Jbv 3 (l.map RDP) = true := Jaw 3 l RDP λ _ => ⟨rfl, rfl⟩
@[go_sem] theorem Jwi (a b c : Int) : l.map RDP ++ [.agg [.v (.int .i64 a), .v (.int .i64 b), .v (.int .i64 c)]] = (l ++ [(⟨a, b, c⟩ : Rd)]).map RDP := by simp
end
theorem JhW (c : Ck) (H : c.r.length <= 9223372036854775807) : Ev prog 62 [CKP c] (B (Jbe c)) := by
 obtain ⟨d, l⟩ := c
 refine EV func62 ?_
 refine SD ?_; unfold Jbe
 simp only at H ⊢
 refine Jab (λ y => ?_) (λ y => ?_)
 . simp -implicitDefEqProofs (disch := omega) only [go_sem, y, results62]
   rw [decide_eq_false (by omega)]
   rfl
 refine SD ?_
 refine Jab (λ z => ?_) (λ z => ?_)
 . simp -implicitDefEqProofs (disch := omega) only [go_sem, z, results62]
   rw [decide_eq_false (by omega)]
   rfl
 refine SD ?_
 refine Jab (λ A => ?_) (λ A => ?_)
 . simp -implicitDefEqProofs (disch := omega) only [go_sem, A, results62]
   rw [decide_eq_false (by omega)]
   rfl
 refine SD ?_
 rw [decide_eq_true ⟨by omega, by omega, by omega⟩, L0d]
 refine Jaf (λ k E J => ∃ (i : Nat) (w : Int), i + k = l.length /\ ascR (-1) l = ascR w (l.drop i) /\ E 3 = I w /\ E 21 = RDS l /\ E 22 = I l.length /\ E 23 = I i) l.length ⟨0, -1, by omega, rfl, ?_⟩ ?_
 . refine SD ?_; try rfl
 rintro k E J ⟨i, w, K, u, x, j, m, o⟩
 simp -implicitDefEqProofs (disch := omega) only [go_sem, x, j, m, o]
 refine Jab (λ F => ?_) (λ F => ?_)
 . have G : i < l.length := by omega
   rw [JaD l i G, ascR] at u; simp -implicitDefEqProofs (disch := omega) only [go_sem, x, j, m, o]
   refine Jab (λ y => ?_) (λ y => ?_)
   . rw [decide_eq_false (by omega), L06] at u
     simp -implicitDefEqProofs (disch := omega) only [go_sem, y, u, results62]
   simp -implicitDefEqProofs (disch := omega) only [go_sem, x, j, m, o]
   refine Jab (λ z => ?_) (λ z => ?_)
   . rw [decide_eq_false (by omega), L06] at u
     simp -implicitDefEqProofs (disch := omega) only [go_sem, z, u, results62]
   simp -implicitDefEqProofs (disch := omega) only [go_sem, x, j, m, o]
   refine Jab (λ A => ?_) (λ A => ?_)
   . rw [decide_eq_false (by omega), L06] at u
     simp -implicitDefEqProofs (disch := omega) only [go_sem, A, u, results62]
   simp -implicitDefEqProofs (disch := omega) only [go_sem, x, j, m, o]
   refine Jab (λ C => ?_) (λ C => ?_)
   . rw [decide_eq_false (by omega), L06] at u
     simp -implicitDefEqProofs (disch := omega) only [go_sem, C, u, results62]
   simp -implicitDefEqProofs (disch := omega) only [go_sem, x, j, m, o]
   refine Jab (λ D => ?_) (λ D => ?_)
   . rw [decide_eq_false (by omega), L06] at u
     simp -implicitDefEqProofs (disch := omega) only [go_sem, D, u, results62]
   simp -implicitDefEqProofs (disch := omega) only [go_sem, x, j, m, o]
   rw [decide_eq_true ⟨by omega, by omega, by omega, by omega, by omega⟩, L0d] at u
   refine Jad (l.length - (i + 1)) (by omega) ⟨i + 1, _, by omega, u, ?_⟩
   simp -implicitDefEqProofs (disch := omega) only [go_sem, x, j, m, o]; try rfl
 . obtain rfl : i = l.length := by omega
   rw [L0H, ascR] at u; simp -implicitDefEqProofs (disch := omega) only [go_sem, x, j, m, o, u, results62]
theorem Jip {a b : Int} (h : 0 <= a) : a.tdiv b = a / b := L1i h
theorem Jrs (d n : Int) (m : 0 <= d /\ d <= 100) (o : 0 <= n /\ n <= 10000000) : Ev prog 208 [I d, I n] (.tup [I (sLo d n), I (sHi d n)]) := by
 have u : (1000 * (n + 1) - 1).tdiv (1000 - d) = sHi d n := Jip (by omega)
 have y := Jiu m o.1; have z := Jiv m o.1
 refine EV func208 ?_
 refine SA ?_
 refine Jam (by omega) ?_
 refine SA ?_
 refine Jam (by omega) ?_
 refine SA ?_
 refine Jam (by omega) ?_
 refine SA ?_
 refine Jam (by omega) ?_
 refine SA ?_
 refine Jab (λ j => ?_) (λ j => ?_)
 . have w : (1000 * (n - 1)).tdiv (1000 + d) + 1 = sLo d n := by unfold sLo; rw [if_pos j, Jip (by omega)]
   have x : (1000 * (n - 1)).tdiv (1000 + d) = sLo d n - 1 := by omega
   refine SA ?_; rw [Int.sub_add_cancel]
 . have w : sLo d n = 0 := by unfold sLo; rw [if_neg j]
   exact SB
abbrev wB (u v : Int) : List (Nat × Blk) := [(402653376, ⟨297, 2, [.agg [I u, I v]]⟩)]
set_option maxHeartbeats 1000000 in
theorem JfO (u v a b : Int) : LOK prog 207 (inI [402653376]) [.ptr 402653376 2 0 0, I a, I b] (stO (wB u v)) (.tup []) (stO (wB (max u a) (min v b))) := by
 refine Jbp [0] [402653376] func207 rfl (by kernel_rfl) mo (nb rfl) rfl (by kernel_rfl) (by kernel_rfl) ?_
 refine SA ?_
 refine JgD (λ D E σ => E 0 = .ptr 402653376 2 0 0 /\ E 1 = I a /\ E 2 = I b /\ (D 19 = true -> D 16 = true) /\ (D 16 = true -> D 5 = true) /\ (D 16 = true -> D 11 = true) /\ (D 16 = false -> σ 402653376 = some ⟨297, 2, [.agg [I u, I v]]⟩) /\ (D 16 = true -> D 19 = false -> σ 402653376 = some ⟨297, 2, [.agg [I (max u a), I v]]⟩) /\ (D 19 = true -> σ 402653376 = some ⟨297, 2, [.agg [I (max u a), I (min v b)]]⟩) /\ (D 0 = true -> E 6 = .ptr 402653376 2 0 0) /\ (D 1 = true -> E 7 = .ptr 402653376 2 0 0) /\ (D 2 = true -> E 8 = .ptr 402653376 2 0 0) /\ (D 3 = true -> E 9 = .ptr 402653376 2 0 0) /\ (D 4 = true -> E 10 = .ptr 402653376 2 0 0) /\ (D 5 = true -> E 11 = I u) /\ (D 6 = true -> E 12 = I a) /\ (D 7 = true -> E 13 = I (max u a)) /\ (D 8 = true -> E 14 = .ptr 402653376 2 0 0) /\ (D 9 = true -> E 15 = .ptr 402653376 2 0 0) /\ (D 10 = true -> E 16 = .ptr 402653376 2 0 1) /\ (D 11 = true -> E 17 = I v) /\ (D 12 = true -> E 18 = I b) /\ (D 13 = true -> E 19 = I (min v b)) /\ (D 14 = true -> E 20 = .ptr 402653376 2 0 0) /\ (D 15 = true -> E 21 = .ptr 402653376 2 0 0) /\ (D 17 = true -> E 22 = .ptr 402653376 2 0 0) /\ (D 18 = true -> E 23 = .ptr 402653376 2 0 1)) ?_ ?_ ?_
 . refine SA ?_; try simp
 . simp only [JhH, depK, Region.binds, eq_self, forall_const, and_true]
   repeat' apply And.intro
   all_goals
    rintro D E σ ⟨e0, e1, e2, c19_16, c16_5, c16_11, m0_0, m0_1, m0_2, j0, j1, j2, j3, j4, j5, j6, j7, j8, j9, j10, j11, j12, j13, j14, j15, j17, j18⟩ hd
    have k := And.intro trivial <| And.intro (cK c19_16) <| And.intro (cK c16_5) <| And.intro (cK c16_11) trivial
    simp -implicitDefEqProofs (disch := first | assumption | (simp only [hd, k]; done) | omega) only [go_sem, e0, e1, e2, m0_0, m0_1, m0_2, j0, j1, j2, j3, j4, j5, j6, j7, j8, j9, j10, j11, j12, j13, j14, j15, j17, j18, false_and, and_self]
    repeat' apply And.intro
    all_goals first | assumption | (intro _; assumption) | trivial | (simp -implicitDefEqProofs (contextual := true) (disch := first | assumption | omega) only [go_sem, m0_0, m0_1, m0_2, j0, j1, j2, j3, j4, j5, j6, j7, j8, j9, j10, j11, j12, j13, j14, j15, j17, j18, hd, c19_16, c16_5, c16_11, k, implies_true, forall_const, false_implies, true_implies]; done) | (intro h; intros; exfalso; simp (maxDischargeDepth := 9) [hd, k] at h; done) | (intros; contradiction) | trace_state
 . rintro D E σ hD ⟨e0, e1, e2, c19_16, c16_5, c16_11, m0_0, m0_1, m0_2, j0, j1, j2, j3, j4, j5, j6, j7, j8, j9, j10, j11, j12, j13, j14, j15, j17, j18⟩
   have g0 := m0_2 (hD 19 (by decide))
   have q0 := j0 (hD 0 (by decide))
   have q1 := j1 (hD 1 (by decide))
   have q2 := j2 (hD 2 (by decide))
   have q3 := j3 (hD 3 (by decide))
   have q4 := j4 (hD 4 (by decide))
   have q5 := j5 (hD 5 (by decide))
   have q6 := j6 (hD 6 (by decide))
   have q7 := j7 (hD 7 (by decide))
   have q8 := j8 (hD 8 (by decide))
   have q9 := j9 (hD 9 (by decide))
   have q10 := j10 (hD 10 (by decide))
   have q11 := j11 (hD 11 (by decide))
   have q12 := j12 (hD 12 (by decide))
   have q13 := j13 (hD 13 (by decide))
   have q14 := j14 (hD 14 (by decide))
   have q15 := j15 (hD 15 (by decide))
   have q17 := j17 (hD 17 (by decide))
   have q18 := j18 (hD 18 (by decide))
   clear c19_16 c16_5 c16_11 m0_0 m0_1 m0_2 j0 j1 j2 j3 j4 j5 j6 j7 j8 j9 j10 j11 j12 j13 j14 j15 j17 j18 hD; exact SB
theorem Jpf (c : Ck) (t : Int) (hc : Jbe c = true) (ht : 0 <= t /\ t <= 10000000) : Ev prog 191 [CKP c, I t] (.agg [I (winF c.d t c.r).1, I (winF c.d t c.r).2]) := by
 obtain ⟨d, l⟩ := c
 obtain ⟨hb, ha⟩ := JdZ.1 hc
 have hr := JiH ha
 have hw : winF d t l = (l.take l.length).foldl (JdT d t) (0, 10000000) := by rw [L04]; rfl
 simp only at hb hr ⊢
 rw [hw]; clear hw
 refine EV func191 ?_
 refine SA ?_
 refine Jaf (λ k E σ => ∃ (i : Nat) (w : Int × Int), i + k = l.length /\ (l.take i).foldl (JdT d t) (0, 10000000) = w /\ E 1 = I t /\ E 2 = .ptr 402653216 2 0 0 /\ E 4 = .ptr 402653248 2 0 0 /\ E 5 = .ptr 402653376 2 0 0 /\ E 6 = .clo 207 [.v (.tuple #[]), .ptr 402653376 2 0 0] /\ E 16 = RDS l /\ E 17 = I l.length /\ E 18 = I i /\
  σ 402653216 = some ⟨93, 2, [.agg [I d, RDS l]]⟩ /\ σ 402653248 = some ⟨297, 2, [.agg [I 0, I 0]]⟩ /\ σ 402653376 = some ⟨297, 2, [.agg [I w.1, I w.2]]⟩) l.length ⟨0, (0, 10000000), by omega, rfl, ?_⟩ ?_
 . refine SA ?_; try rfl
 rintro k E σ ⟨i, w, hk, hx, e1, e2, e4, e5, e6, e16, e17, e18, m2, m4, m12⟩
 obtain ⟨u, v⟩ := w
 simp only at m12
 refine SA ?_
 refine Jab (λ hc => ?_) (λ hc => ?_)
 . have hi : i < l.length := by omega
   have hri := hr _ (Jaj l i hi)
   have htk : (l.take (i + 1)).foldl (JdT d t) (0, 10000000) = JdT d t (u, v) (gd l i) := by
    rw [L0B, JaE l i hi, List.foldl_append, hx]; rfl
   obtain ⟨n, hn⟩ : ∃ n, max (t - (gd l i).l) ((gd l i).l - t) = n := ⟨_, rfl⟩
   have hn0 : 0 <= n /\ n <= 10000000 := by omega
   have hs := Jrs d n (by omega) hn0
   have h1 := Jiv (d := d) (n := n) (by omega) hn0.1
   have h2 := Jiu (d := d) (n := n) (by omega) hn0.1
   refine SA ?_
   refine Jaa hs ?_
   have hst : JdT d t (u, v) (gd l i) = if t < (gd l i).l then (max u ((gd l i).a - sHi d ((gd l i).l - t)), min v ((gd l i).b - sLo d ((gd l i).l - t)))
    else if t = (gd l i).l then (max u ((gd l i).a - sHi d 0), min v ((gd l i).b + sHi d 0))
    else (max u ((gd l i).a + sLo d (t - (gd l i).l)), min v ((gd l i).b + sHi d (t - (gd l i).l))) := rfl
   have key : ∀ x y a b : Int, x = (gd l i).a + y -> True := λ _ _ _ _ _ => trivial
   generalize hrd : gd l i = r at *; refine SA ?_
   refine Jab (λ h3 => ?_) (λ h3 => ?_)
   . rw [if_pos h3] at hst
     have en : n = r.l - t := by omega
     rw [<- en] at hst; simp -implicitDefEqProofs (disch := omega) only [go_sem, e1, e2, e4, e5, e6, e16, e17, e18, m2, m4, m12]
     refine Ji3 [402653376] (bs := [.ptr 402653376 2 0 0]) (xs := [I (r.a + (0 - sHi d n)), I (r.b + (0 - sLo d n))]) (l := wB u v) (l' := wB (max u (r.a + (0 - sHi d n))) (min v (r.b + (0 - sLo d n)))) (JfO _ _ _ _) ?_ ?_ ?_ ?_ ?_ ?_ ?_
     . simp -implicitDefEqProofs (disch := omega) only [go_sem, e1, e2, e4, e5, e6, e16, e17, e18, m2, m4, m12]
     . simp -implicitDefEqProofs (disch := omega) only [go_sem, e1, e2, e4, e5, e6, e16, e17, e18, m2, m4, m12]
     . simp -implicitDefEqProofs (disch := omega) only [go_sem, e1, e2, e4, e5, e6, e16, e17, e18, m2, m4, m12]
     . simp -implicitDefEqProofs (disch := omega) only [go_sem, e1, e2, e4, e5, e6, e16, e17, e18, m2, m4, m12]
     . simp -implicitDefEqProofs (disch := omega) only [go_sem, e1, e2, e4, e5, e6, e16, e17, e18, m2, m4, m12]
     . simp -implicitDefEqProofs (disch := omega) only [go_sem, e1, e2, e4, e5, e6, e16, e17, e18, m2, m4, m12]
     . refine SA ?_
       refine Jad (l.length - (i + 1)) (by omega) ⟨i + 1, _, by omega, htk, ?_⟩
       rw [hst]; refine SA ?_
       try simp [Int.sub_eq_add_neg]
   . rw [if_neg h3] at hst; refine SA ?_
     refine Jab (λ h4 => ?_) (λ h4 => ?_)
     . rw [if_pos h4] at hst
       have en : n = 0 := by omega
       rw [en] at hs h1 h2 ⊢; simp -implicitDefEqProofs (disch := omega) only [go_sem, e1, e2, e4, e5, e6, e16, e17, e18, m2, m4, m12]
       refine Ji3 [402653376] (bs := [.ptr 402653376 2 0 0]) (xs := [I (r.a + (0 - sHi d 0)), I (r.b + sHi d 0)]) (l := wB u v) (l' := wB (max u (r.a + (0 - sHi d 0))) (min v (r.b + sHi d 0))) (JfO _ _ _ _) ?_ ?_ ?_ ?_ ?_ ?_ ?_
       . simp -implicitDefEqProofs (disch := omega) only [go_sem, e1, e2, e4, e5, e6, e16, e17, e18, m2, m4, m12]
       . simp -implicitDefEqProofs (disch := omega) only [go_sem, e1, e2, e4, e5, e6, e16, e17, e18, m2, m4, m12]
       . simp -implicitDefEqProofs (disch := omega) only [go_sem, e1, e2, e4, e5, e6, e16, e17, e18, m2, m4, m12]
       . simp -implicitDefEqProofs (disch := omega) only [go_sem, e1, e2, e4, e5, e6, e16, e17, e18, m2, m4, m12]
       . simp -implicitDefEqProofs (disch := omega) only [go_sem, e1, e2, e4, e5, e6, e16, e17, e18, m2, m4, m12]
       . simp -implicitDefEqProofs (disch := omega) only [go_sem, e1, e2, e4, e5, e6, e16, e17, e18, m2, m4, m12]
       . simp -implicitDefEqProofs (disch := omega) only [go_sem, e1, e2, e4, e5, e6, e16, e17, e18, m2, m4, m12]
         refine Jad (l.length - (i + 1)) (by omega) ⟨i + 1, _, by omega, htk, ?_⟩
         rw [hst]; refine SA ?_
         try simp [Int.sub_eq_add_neg]
     . rw [if_neg h4] at hst
       have en : n = t - r.l := by omega
       rw [<- en] at hst; simp -implicitDefEqProofs (disch := omega) only [go_sem, e1, e2, e4, e5, e6, e16, e17, e18, m2, m4, m12]
       refine Ji3 [402653376] (bs := [.ptr 402653376 2 0 0]) (xs := [I (r.a + sLo d n), I (r.b + sHi d n)]) (l := wB u v) (l' := wB (max u (r.a + sLo d n)) (min v (r.b + sHi d n))) (JfO _ _ _ _) ?_ ?_ ?_ ?_ ?_ ?_ ?_
       . simp -implicitDefEqProofs (disch := omega) only [go_sem, e1, e2, e4, e5, e6, e16, e17, e18, m2, m4, m12]
       . simp -implicitDefEqProofs (disch := omega) only [go_sem, e1, e2, e4, e5, e6, e16, e17, e18, m2, m4, m12]
       . simp -implicitDefEqProofs (disch := omega) only [go_sem, e1, e2, e4, e5, e6, e16, e17, e18, m2, m4, m12]
       . simp -implicitDefEqProofs (disch := omega) only [go_sem, e1, e2, e4, e5, e6, e16, e17, e18, m2, m4, m12]
       . simp -implicitDefEqProofs (disch := omega) only [go_sem, e1, e2, e4, e5, e6, e16, e17, e18, m2, m4, m12]
       . simp -implicitDefEqProofs (disch := omega) only [go_sem, e1, e2, e4, e5, e6, e16, e17, e18, m2, m4, m12]
       . refine SA ?_
         refine Jad (l.length - (i + 1)) (by omega) ⟨i + 1, _, by omega, htk, ?_⟩
         rw [hst]; refine SA ?_
         try simp [Int.sub_eq_add_neg]
 . obtain rfl : i = l.length := by omega
   refine SA ?_; rw [L04] at hx; rw [hx]
abbrev atV (o : Option (Int × Int)) : AV := match o with
 | some w => .tup [I w.1, I w.2, I 0]
 | none => .tup [I 0, I 0, I 50]
theorem JBo (c : Ck) (t : Int) (z : c.r.length <= 9223372036854775807) : Ev prog 172 [CKP c, I t] (atV (atF c t)) := by
 have B := JhW c z
 have x := λ y A => Jpf c t y A
 have j : atF c t = if Jbe c = true /\ (0 <= t /\ t <= 10000000) /\ (winF c.d t c.r).1 <= (winF c.d t c.r).2 then some (winF c.d t c.r) else none := rfl
 obtain ⟨d, l⟩ := c; generalize winF (Ck.mk d l).d t (Ck.mk d l).r = w at *; generalize Jbe ⟨d, l⟩ = b at *; generalize atF ⟨d, l⟩ t = q at *
 refine EV func172 ?_
 refine SD ?_
 refine Jaa B ?_
 cases b with
 | false =>
  rw [if_neg (λ h => by cases h.1)] at j
  subst j; simp -implicitDefEqProofs (disch := omega) only [go_sem, results172]
 | true =>
  refine SD ?_
  refine Jab (λ m => ?_) (λ m => ?_)
  . rw [if_neg (λ h => by omega)] at j
    subst j; simp -implicitDefEqProofs (disch := omega) only [go_sem, results172]
  refine SD ?_
  refine Jab (λ o => ?_) (λ o => ?_)
  . rw [if_neg (λ h => by omega)] at j
    subst j; simp -implicitDefEqProofs (disch := omega) only [go_sem, results172]
  refine SD ?_
  refine Jaa (x rfl (by omega)) ?_
  refine SD ?_
  refine Jab (λ u => ?_) (λ u => ?_)
  . rw [if_neg (λ h => by omega)] at j
    subst j; simp -implicitDefEqProofs (disch := omega) only [go_sem, results172]
  . rw [if_pos ⟨rfl, by omega, by omega⟩] at j
    subst j; simp -implicitDefEqProofs (disch := omega) only [go_sem, results172]
theorem Jcy (c n : Int) (j : R64 c) (u : 0 < n) : Ev prog 89 [I c, I n] (I (Jag c n)) := by
 obtain ⟨m, o⟩ := j
 refine EV func89 ?_
 refine SA ?_
 refine Jab (λ h => ?_) (λ h => ?_) <;> simp -implicitDefEqProofs (disch := omega) only [go_sem, results89]
 . rw [show (0 - (c+1)) = -(c+1) from by omega]; simp [Jag, h]
 . simp [Jag, h]
theorem JpV (d x n : Int) (D : 0 <= d /\ d <= 100) (m : 0 <= x /\ x <= 100000000) (E : 0 <= n /\ n <= 10000000) : Ev prog 203 [I d, I x, I n] (B (decide (Fit d x n))) := by
 have y : 0 <= (1000 - d) * x /\ (1000 - d) * x <= 1000 * 100000000 := ⟨L1f (by omega) m.1, Int.mul_le_mul (by omega) m.2 m.1 (by omega)⟩
 have A : 0 <= (1000 + d) * x /\ (1000 + d) * x <= 1100 * 100000000 := ⟨L1f (by omega) m.1, Int.mul_le_mul (by omega) m.2 m.1 (by omega)⟩
 obtain ⟨p, o⟩ : ∃ p, (1000 - d) * x = p := ⟨_, rfl⟩
 obtain ⟨q, u⟩ : ∃ q, (1000 + d) * x = q := ⟨_, rfl⟩
 obtain ⟨z, w⟩ : ∃ z, decide (Fit d x n) = z := ⟨_, rfl⟩
 have j : z = true ↔ p - 1000 < 1000 * n /\ 1000 * n < q + 1000 := by
  rw [<- w, decide_eq_true_iff, <- o, <- u]; exact Iff.rfl
 rw [o] at y; rw [u] at A; rw [w]
 refine EV func203 ?_
 refine SA ?_
 refine Jab (λ h => ?_) (λ h => ?_)
 . refine SA ?_
   cases z with
   | true => rw [decide_eq_true (j.1 rfl).2]
   | false => rw [decide_eq_false (λ C => by have := j.2 ⟨h, C⟩; cases this)]
 . refine SA ?_
   cases z with
   | true => exact absurd (j.1 rfl).1 h
   | false => rfl
theorem Jf3 (d n : Int) (hd : 0 <= d /\ d <= 100) (hn : 0 <= n /\ n <= 10000000) : Ev prog 184 [I d, I n] (.tup [I (sLo d n), I (sHi d n)]) := by
 have b1 := Jiu hd hn.1; have b2 := Jiv hd hn.1; have b3 := Joz hd hn.1
 -- where the first search begins
 obtain ⟨a, ha⟩ : ∃ a, max ((1000 * (n - 1)).tdiv (1000 + d) - 1) 0 = a := ⟨_, rfl⟩
 have ha0 : 0 <= a /\ a <= sLo d n := by
  unfold sLo
  split
  . rw [Jip (by omega)] at ha
    have : 0 <= 1000 * (n - 1) / (1000 + d) := L1j (by omega) (by omega)
    omega
  . have : (1000 * (n - 1)).tdiv (1000 + d) <= 0 := by
     rw [show n = 0 by omega, show (1000 * (0 - 1) : Int) = -1000 from rfl, Int.neg_tdiv]
     have := Int.tdiv_nonneg (a := 1000) (b := 1000 + d) (by omega) (by omega)
     omega
    omega
 have hq1 : -1000 <= (1000 * (n - 1)).tdiv (1000 + d) /\ (1000 * (n - 1)).tdiv (1000 + d) <= 10000000 := by
  rcases Int.lt_or_le n 1 with h | h
  . rw [show n = 0 by omega, show (1000 * (0 - 1) : Int) = -1000 from rfl, Int.neg_tdiv, Jip (by omega)]
    have h1 := L1j (a := 1000) (b := 1000 + d) (by omega) (by omega)
    have h2 := L2d (a := 1000) (1000 + d) (by omega)
    omega
  . rw [Jip (by omega)]
    have h1 := L1j (a := 1000 * (n - 1)) (b := 1000 + d) (by omega) (by omega)
    have h2 : 1000 * (n - 1) / (1000 + d) <= n - 1 := by
     refine L2w (by omega) ?_
     have : 0 <= (n - 1) * d := L1f (by omega) hd.1
     rw [L1Z]; omega
    omega
 obtain ⟨m, hm⟩ : ∃ m, max ((1000 * n).tdiv (1000 - d) - 1) (sLo d n) = m := ⟨_, rfl⟩
 have hq2 : 0 <= (1000 * n).tdiv (1000 - d) /\ (1000 * n).tdiv (1000 - d) <= sHi d n := by
  rw [Jip (by omega)]
  refine ⟨L1j (by omega) (by omega), ?_⟩
  unfold sHi
  exact Int.ediv_le_ediv (by omega) (by omega)
 have hm0 : sLo d n <= m /\ m <= sHi d n := by omega
 refine EV func184 ?_
 refine SD ?_
 refine Jam (by omega) ?_
 refine SD ?_
 refine Jam (by omega) ?_
 refine SD ?_
 refine Jam (by omega) ?_
 refine SD ?_
 refine Jam (by omega) ?_
 simp -implicitDefEqProofs (disch := omega) only [go_sem, ha]
 refine Jaf (λ k E σ => ∃ x, a <= x /\ x <= sLo d n /\ k = (sLo d n - x).toNat /\ E 0 = I d /\ E 1 = I n /\ E 6 = I x) (sLo d n - a).toNat ⟨a, by omega, by omega, rfl, ?_⟩ ?_
 . exact SC
 rintro k E σ ⟨x, hx1, hx2, hk, e0, e1, e6⟩
 simp -implicitDefEqProofs (disch := omega) only [go_sem, e0, e1, e6]
 refine Jaa (JpV d x n hd (by omega) hn) ?_
 by_cases hx : x = sLo d n
 . subst hx
   rw [decide_eq_true ((JiQ hd (by omega) hn.1).2 (by omega))]
   simp -implicitDefEqProofs (disch := omega) only [go_sem, e0, e1, e6, hm]
   refine Jaf (λ k E σ => ∃ x, m <= x /\ x <= sHi d n /\ k = (sHi d n - x).toNat /\ E 0 = I d /\ E 1 = I n /\ E 6 = I (sLo d n) /\ E 7 = I x) (sHi d n - m).toNat ⟨m, by omega, by omega, rfl, ?_⟩ ?_
   . simp -implicitDefEqProofs (disch := omega) only [go_sem, e0, e1, e6]
   clear e0 e1 e6 E σ
   rintro k E σ ⟨x, hx1, hx2, hk, e0, e1, e6, e7⟩
   simp -implicitDefEqProofs (disch := omega) only [go_sem, e0, e1, e6, e7]
   refine Jaa (JpV d (x + 1) n hd (by omega) hn) ?_
   by_cases hx : x = sHi d n
   . subst hx
     rw [decide_eq_false (λ h => by have := (JiQ hd (by omega) hn.1).1 h; omega)]
     simp -implicitDefEqProofs (disch := omega) only [go_sem, e0, e1, e6, e7, results184]
   . rw [decide_eq_true ((JiQ hd (by omega) hn.1).2 (by omega))]
     simp -implicitDefEqProofs (disch := omega) only [go_sem, e0, e1, e6, e7]
     refine Jad (sHi d n - (x + 1)).toNat (by omega) ⟨x + 1, by omega, by omega, rfl, ?_⟩
     simp -implicitDefEqProofs (disch := omega) only [go_sem, e0, e1, e6, e7]
 . rw [decide_eq_false (λ h => by have := (JiQ hd (by omega) hn.1).1 h; omega)]
   simp -implicitDefEqProofs (disch := omega) only [go_sem, e0, e1, e6]
   refine Jad (sLo d n - (x + 1)).toNat (by omega) ⟨x + 1, by omega, by omega, rfl, ?_⟩
   simp -implicitDefEqProofs (disch := omega) only [go_sem, e0, e1, e6]
theorem JgZ (c : Ck) (O : c.r.length <= 9223372036854775807) : Ev prog 98 [CKP c] (B (Jbe c)) := by
 obtain ⟨d, l⟩ := c
 refine EV func98 ?_
 refine SD ?_; unfold Jbe
 simp only at O ⊢
 refine Jab (λ z => ?_) (λ z => ?_)
 . simp -implicitDefEqProofs (disch := omega) only [go_sem, z, results98]
   rw [decide_eq_false (by omega)]
   rfl
 refine SD ?_
 refine Jab (λ A => ?_) (λ A => ?_)
 . simp -implicitDefEqProofs (disch := omega) only [go_sem, A, results98]
   rw [decide_eq_false (by omega)]
   rfl
 refine SD ?_
 refine Jab (λ C => ?_) (λ C => ?_)
 . simp -implicitDefEqProofs (disch := omega) only [go_sem, C, results98]
   rw [decide_eq_false (by omega)]
   rfl
 refine SD ?_
 rw [decide_eq_true ⟨by omega, by omega, by omega⟩, L0d]
 refine Jaf (λ k E J => ∃ (i : Nat) (m : Int), i + k = l.length /\ -1 <= m /\ m = (if i = 0 then -1 else (gd l (i - 1)).l) /\ ascR (-1) l = ascR m (l.drop i) /\ E 1 = .ptr 207618064 2 0 0 /\ E 3 = I i /\ J 207618064 = some ⟨93, 2, [.agg [I d, RDS l]]⟩) l.length ⟨0, -1, by omega, by omega, rfl, rfl, ?_⟩ ?_
 . refine SD ?_; try rfl
 rintro k E J ⟨i, m, P, Q, x, j, o, u, w⟩
 simp -implicitDefEqProofs (disch := omega) only [go_sem, o, u, w]
 refine Jab (λ L => ?_) (λ L => ?_)
 . have M : i < l.length := by omega
   rw [JaD l i M, ascR] at j
   have D : (gd l i).l = (if i + 1 = 0 then -1 else (gd l (i + 1 - 1)).l) := by rw [if_neg (by omega), L15]
   generalize y : gd l i = r at *; simp -implicitDefEqProofs (disch := omega) only [go_sem, o, u, w, y]
   refine Jab (λ z => ?_) (λ z => ?_)
   . rw [decide_eq_false (by omega), L06] at j
     simp -implicitDefEqProofs (disch := omega) only [go_sem, z, j, results98]
   simp -implicitDefEqProofs (disch := omega) only [go_sem, o, u, w, y]
   refine Jab (λ A => ?_) (λ A => ?_)
   . rw [decide_eq_false (by omega), L06] at j
     simp -implicitDefEqProofs (disch := omega) only [go_sem, A, j, results98]
   simp -implicitDefEqProofs (disch := omega) only [go_sem, o, u, w, y]
   refine Jab (λ C => ?_) (λ C => ?_)
   . rw [decide_eq_false (by omega), L06] at j
     simp -implicitDefEqProofs (disch := omega) only [go_sem, C, j, results98]
   simp -implicitDefEqProofs (disch := omega) only [go_sem, o, u, w, y]
   refine Jab (λ F => ?_) (λ F => ?_)
   . rw [decide_eq_false (by omega), L06] at j
     simp -implicitDefEqProofs (disch := omega) only [go_sem, F, j, results98]
   simp -implicitDefEqProofs (disch := omega) only [go_sem, o, u, w, y]
   refine Jab (λ G => ?_) (λ G => ?_)
   . rw [decide_eq_false (by omega), L06] at j
     simp -implicitDefEqProofs (disch := omega) only [go_sem, G, j, results98]
   simp -implicitDefEqProofs (disch := omega) only [go_sem, o, u, w, y]
   refine Jab (λ K => ?_) (λ K => ?_)
   . rw [if_neg (by omega)] at x
     have N : ((i : Int) - 1).toNat = i - 1 := by omega
     simp -implicitDefEqProofs (disch := omega) only [go_sem, o, u, w, y, N]
     refine Jab (λ H => ?_) (λ H => ?_)
     . rw [decide_eq_false (by omega), L06] at j
       simp -implicitDefEqProofs (disch := omega) only [go_sem, H, j, results98]
     . rw [decide_eq_true ⟨by omega, by omega, by omega, by omega, by omega⟩, L0d] at j
       simp -implicitDefEqProofs (disch := omega) only [go_sem, o, u, w, y]
       refine Jad (l.length - (i + 1)) (by omega) ⟨i + 1, r.l, by omega, by omega, D, j, ?_⟩
       simp -implicitDefEqProofs (disch := omega) only [go_sem, o, u, w, y]; try rfl
   . rw [if_pos (by omega)] at x
     rw [decide_eq_true ⟨by omega, by omega, by omega, by omega, by omega⟩, L0d] at j
     simp -implicitDefEqProofs (disch := omega) only [go_sem, o, u, w, y]
     refine Jad (l.length - (i + 1)) (by omega) ⟨i + 1, r.l, by omega, by omega, D, j, ?_⟩
     simp -implicitDefEqProofs (disch := omega) only [go_sem, o, u, w, y]; try rfl
 . obtain rfl : i = l.length := by omega
   rw [L0H, ascR] at j; simp -implicitDefEqProofs (disch := omega) only [go_sem, o, u, w, j, results98]
theorem Jps (c : Ck) (t : Int) (G : Jbe c = true) (U : 0 <= t /\ t <= 10000000) : Ev prog 161 [CKP c, I t] (.tup [I (winF c.d t c.r).1, I (winF c.d t c.r).2]) := by
 obtain ⟨d, l⟩ := c
 obtain ⟨R, Q⟩ := JdZ.1 G
 have L := JiH Q
 have M : winF d t l = (l.take l.length).foldl (JdT d t) (0, 10000000) := by rw [L04]; rfl
 simp only at R L ⊢
 rw [M]; clear M
 refine EV func161 ?_
 refine SA ?_
 refine Jaf (λ k E N => ∃ (i : Nat) (w : Int × Int), i + k = l.length /\ (l.take i).foldl (JdT d t) (0, 10000000) = w /\ E 1 = I t /\ E 2 = .ptr 339738656 2 0 0 /\ E 6 = I w.1 /\ E 7 = I w.2 /\ E 8 = I i /\ N 339738656 = some ⟨93, 2, [.agg [I d, RDS l]]⟩) l.length ⟨0, (0, 10000000), by omega, rfl, ?_⟩ ?_
 . refine SA ?_; try rfl
 rintro k E N ⟨i, w, T, H, x, y, m, o, z, B⟩
 obtain ⟨u, v⟩ := w
 simp only at m o
 refine SA ?_
 refine Jab (λ G => ?_) (λ G => ?_)
 . have K : i < l.length := by omega
   have S := L _ (Jaj l i K)
   have C : (l.take (i + 1)).foldl (JdT d t) (0, 10000000) = JdT d t (u, v) (gd l i) := by
    rw [L0B, JaE l i K, List.foldl_append, H]; rfl
   have A : JdT d t (u, v) (gd l i) = if t < (gd l i).l then (max u ((gd l i).a - sHi d ((gd l i).l - t)), min v ((gd l i).b - sLo d ((gd l i).l - t)))
    else if t = (gd l i).l then (max u ((gd l i).a - sHi d 0), min v ((gd l i).b + sHi d 0))
    else (max u ((gd l i).a + sLo d (t - (gd l i).l)), min v ((gd l i).b + sHi d (t - (gd l i).l))) := rfl
   generalize j : gd l i = r at *; refine SA ?_
   refine Jab (λ F => ?_) (λ F => ?_)
   . rw [if_neg (by omega), if_pos F] at A
     have D := Jf3 d 0 (by omega) (by omega)
     have J := Jiu (d := d) (n := 0) (by omega) (by omega)
     simp -implicitDefEqProofs (disch := omega) only [go_sem, x, y, m, o, z, B, j]
     refine Jaa D ?_
     simp -implicitDefEqProofs (disch := omega) only [go_sem, x, y, m, o, z, B, j]
     refine Jad (l.length - (i + 1)) (by omega) ⟨i + 1, _, by omega, C, ?_⟩
     rw [A]; refine SA ?_; try rfl
   . refine SA ?_
     refine Jab (λ P => ?_) (λ P => ?_)
     . rw [if_neg (by omega), if_neg F] at A
       have D := Jf3 d (t - r.l) (by omega) (by omega)
       have J := Jiu (d := d) (n := t - r.l) (by omega) (by omega)
       have O := Jiv (d := d) (n := t - r.l) (by omega) (by omega)
       refine SA ?_
       refine Jaa D ?_
       refine SA ?_
       refine Jad (l.length - (i + 1)) (by omega) ⟨i + 1, _, by omega, C, ?_⟩
       rw [A]; refine SA ?_; try rfl
     . rw [if_pos (by omega)] at A
       have D := Jf3 d (r.l - t) (by omega) (by omega)
       have J := Jiu (d := d) (n := r.l - t) (by omega) (by omega)
       have O := Jiv (d := d) (n := r.l - t) (by omega) (by omega)
       refine SA ?_
       refine Jaa D ?_
       refine SA ?_
       refine Jad (l.length - (i + 1)) (by omega) ⟨i + 1, _, by omega, C, ?_⟩
       rw [A]; refine SA ?_; try rfl
 . obtain rfl : i = l.length := by omega
   refine SA ?_; rw [L04] at H; rw [H]
theorem JtO (c : Ck) (t : Int) (z : c.r.length <= 9223372036854775807) : Ev prog 135 [CKP c, I t] (atV (atF c t)) := by
 have B := JgZ c z
 have x := λ y A => Jps c t y A
 have j : atF c t = if Jbe c = true /\ (0 <= t /\ t <= 10000000) /\ (winF c.d t c.r).1 <= (winF c.d t c.r).2 then some (winF c.d t c.r) else none := rfl
 obtain ⟨d, l⟩ := c; generalize winF (Ck.mk d l).d t (Ck.mk d l).r = w at *; generalize Jbe ⟨d, l⟩ = b at *; generalize atF ⟨d, l⟩ t = q at *
 refine EV func135 ?_
 refine SD ?_
 refine Jaa B ?_
 cases b with
 | false =>
  rw [if_neg (λ h => by cases h.1)] at j
  subst j; simp -implicitDefEqProofs (disch := omega) only [go_sem, results135]
 | true =>
  refine SD ?_
  refine Jab (λ m => ?_) (λ m => ?_)
  . rw [if_neg (λ h => by omega)] at j
    subst j; simp -implicitDefEqProofs (disch := omega) only [go_sem, results135]
  refine SD ?_
  refine Jab (λ o => ?_) (λ o => ?_)
  . rw [if_neg (λ h => by omega)] at j
    subst j; simp -implicitDefEqProofs (disch := omega) only [go_sem, results135]
  refine SD ?_
  refine Jaa (x rfl (by omega)) ?_
  refine SD ?_
  refine Jab (λ u => ?_) (λ u => ?_)
  . rw [if_neg (λ h => by omega)] at j
    subst j; simp -implicitDefEqProofs (disch := omega) only [go_sem, results135]
  . rw [if_pos ⟨rfl, by omega, by omega⟩] at j
    subst j; simp -implicitDefEqProofs (disch := omega) only [go_sem, results135]
abbrev T3 : Type := Int × Int × Int
abbrev QT (q : T3) : AV := .agg [I q.1, I q.2.1, I q.2.2]
abbrev QTS (l : List T3) : AV := .sl 3 (l.map QT)
def T3ok (q : T3) : Prop := R64 q.1 /\ R64 q.2.1 /\ R64 q.2.2
section
variable (p : Nat -> Bool) (l : List T3)
@[go_sem] theorem Jyw : AV.namesL p (l.map QT) = false := Jak p l QT λ _ => rfl
@[go_sem] theorem JAb : AV.flatL (l.map QT) = true := JaP l QT λ _ => rfl
@[go_sem] theorem JzE : Jbv 3 (l.map QT) = true := Jaw 3 l QT λ _ => ⟨rfl, rfl⟩
end
theorem Jmf {d : Int} (j : 0 <= d /\ d <= 100) (rates : List Int) (t : Int) (m : 0 <= t) : ∀ k : Nat, -(10000 * (k : Int)) <= sumB d rates t k /\ sumB d rates t k <= 10000 * k
 | 0 => by simp [sumB]
 | k + 1 => by
  have x := Jmf j rates t m k
  have w := Jai (c := gd rates k) (n := 2 * d + 1) (by omega)
  rw [sumB]
  split
  . have o : (Jag (gd rates k) (2 * d + 1) - d) * min (t - 100 * k) 100 <= 100 * 100 := by
     refine Int.le_trans (L20 (c := min (t - 100 * k) 100) (show Jag (gd rates k) (2 * d + 1) - d <= 100 by omega) (by omega)) ?_
     exact L2x (by omega) (by omega)
    have u : -(100 * 100) <= (Jag (gd rates k) (2 * d + 1) - d) * min (t - 100 * k) 100 := by
     have := L20 (c := min (t - 100 * k) 100) (show (-100 : Int) <= Jag (gd rates k) (2 * d + 1) - d by omega) (by omega)
     omega
    omega
  . omega
theorem Jk2 (d : Int) (rates : List Int) (t : Int) {i : Nat} (j : t <= 100 * i) : ∀ m : Nat, sumB d rates t (i + m) = sumB d rates t i
 | 0 => rfl
 | m + 1 => by rw [<- L0K, sumB, if_neg (by omega), Jk2 d rates t j m, Int.add_zero]
theorem Jfj (drift start : Int) (rates : List Int) (t : Int) (hd : R64 drift) (hs : R64 start) (hr : ∀ r ∈ rates, R64 r) (hl : rates.length <= 9223372036854775807) (ht : 0 <= t /\ t <= 1000000) :
 Ev prog 90 [I drift, I start, SL rates, I t] (I (JbS (Jag drift 101) start rates t)) := by
 have hd1 := Jai (c := drift) (n := 101) (by omega)
 have hs1 := Jai (c := start) (n := 1000) (by omega)
 have c1 := Jcy drift 101 hd (by omega)
 have c2 := Jcy start 1000 hs (by omega)
 have hsh : JbS (Jag drift 101) start rates t = Jag start 1000 + (sumA (Jag drift 101) rates t + 1000 * t) / 1000 := rfl
 have hmd := (Ji7 (d := Jag drift 101) (by omega) rates (L1M 0) ht.1).1
 rw [Ji8] at hmd
 have hmp : 0 <= (1000 - Jag drift 101) * (t - 0) := L1f (by omega) (by omega)
 have hmil : milF (Jag drift 101) rates t = sumA (Jag drift 101) rates t + 1000 * t := rfl
 rw [hsh]; generalize Jag drift 101 = d at *; generalize Jag start 1000 = s at *
 refine EV func90 ?_
 refine SD ?_
 refine Jaa c1 ?_
 refine SD ?_
 refine Jaf (λ k E σ => ∃ i : Nat, i + k = 20 /\ i <= rates.length /\ E 1 = I start /\ E 2 = SL rates /\ E 3 = I t /\ E 9 = I d /\ E 10 = I (sumB d rates t i) /\ E 11 = I i) 20 ⟨0, by omega, by omega, ?_⟩ ?_
 . simp -implicitDefEqProofs (disch := omega) only [go_sem, sumB]; try rfl
 rintro k E σ ⟨i, hk, hi, e1, e2, e3, e9, e10, e11⟩
 have hb := Jmf (d := d) (by omega) rates t ht.1 i
 have fin : (rates.length <= i \/ 20 <= i \/ t <= 100 * i) -> sumB d rates t i = sumA d rates t := λ h => by
  unfold sumA
  rcases h with h | h | h
  . rw [show i = min rates.length 20 by omega]
  . rw [show i = min rates.length 20 by omega]
  . obtain ⟨m, hm⟩ : ∃ m, min rates.length 20 = i + m := ⟨min rates.length 20 - i, by omega⟩
    rw [hm, Jk2 d rates t h m]
 have done : sumB d rates t i = sumA d rates t -> (sumB d rates t i + 1000 * t).tdiv 1000 = (sumA d rates t + 1000 * t) / 1000 := λ h => by
  rw [h, L1i (by omega)]
 simp -implicitDefEqProofs (disch := omega) only [go_sem, e1, e2, e3, e9, e10, e11]
 refine Jab (λ h1 => ?_) (λ h1 => ?_)
 . simp -implicitDefEqProofs (disch := omega) only [go_sem, e1, e2, e3, e9, e10, e11]
   refine Jab (λ h2 => ?_) (λ h2 => ?_)
   . simp -implicitDefEqProofs (disch := omega) only [go_sem, e1, e2, e3, e9, e10, e11]
     refine Jab (λ h3 => ?_) (λ h3 => ?_)
     . have hp := Jai (c := gd rates i) (n := 2 * d + 1) (by omega)
       have c3 := Jcy (gd rates i) (2 * d + 1) (hr _ (Jaj rates i (by omega))) (by omega)
       have hn : sumB d rates t (i + 1) = sumB d rates t i + (Jag (gd rates i) (2 * d + 1) - d) * min (t - 100 * i) 100 := by rw [sumB, if_pos (by omega)]
       have hb2 := Jmf (d := d) (by omega) rates t ht.1 (i + 1)
       obtain ⟨x, hx⟩ : ∃ x, (Jag (gd rates i) (2 * d + 1) - d) * min (t - 100 * i) 100 = x := ⟨_, rfl⟩
       rw [hx] at hn; generalize Jag (gd rates i) (2 * d + 1) = y at *
       have hw : IntKind.i64.wrap ((y - d) * min (t - 100 * i) 100) = x := by rw [hx]; exact JcD (by omega)
       simp -implicitDefEqProofs (disch := omega) only [go_sem, e1, e2, e3, e9, e10, e11]
       refine Jaa c3 ?_
       simp -implicitDefEqProofs (disch := omega) only [go_sem, e1, e2, e3, e9, e10, e11, hw, hx]
       refine Jad (20 - (i + 1)) (by omega) ⟨i + 1, by omega, by omega, ?_⟩
       rw [hn]; simp -implicitDefEqProofs (disch := omega) only [go_sem, e1, e2, e3, e9, e10, e11]; try rfl
     . have hf := fin (.inr (.inr (by omega)))
       have hdn := done hf; simp -implicitDefEqProofs (disch := omega) only [go_sem, e1, e2, e3, e9, e10, e11]
       refine Jaa c2 ?_
       simp -implicitDefEqProofs (disch := omega) only [go_sem, hdn, results90]
   . have hf := fin (.inr (.inl (by omega)))
     have hdn := done hf; simp -implicitDefEqProofs (disch := omega) only [go_sem, e1, e2, e3, e9, e10, e11]
     refine Jaa c2 ?_
     simp -implicitDefEqProofs (disch := omega) only [go_sem, hdn, results90]
 . have hf := fin (.inl (by omega))
   have hdn := done hf; simp -implicitDefEqProofs (disch := omega) only [go_sem, e1, e2, e3, e9, e10, e11]
   refine Jaa c2 ?_
   simp -implicitDefEqProofs (disch := omega) only [go_sem, hdn, results90]
def mkC (j m : Int) (rates : List Int) (at_ : List T3) (d : Int) (T : Nat) (l : List Rd) (E : Env) (o : Jac) : Prop :=
 E 0 = I j /\ E 1 = I m /\ E 2 = SL rates /\ E 3 = QTS at_ /\ E 8 = .ptr 106954880 2 0 0 /\ E 9 = .ptr 106954896 2 0 0 /\ E 10 = I T /\
  o 106954880 = some ⟨93, 2, [.agg [I 0, .v (.slice none 0 0)]]⟩ /\ o 106954896 = some ⟨93, 2, [.agg [I d, .own 106954897 3 0 l.length]]⟩ /\ o 106954897 = some ⟨193, 3, l.map RDP⟩
theorem JqZ (l : List Rd) (s : Int) : (l = [] \/ (gd l (l.length - 1)).l < s) ↔ (l.length = 0 \/ (0 < l.length /\ (gd l (l.length - 1)).l < s)) := by
 cases l with
 | nil => simp
 | cons a l => simp
set_option maxHeartbeats 4000000 in
theorem JxU (m j : Int) (rates : List Int) (at_ : List T3) (hd : R64 m) (hs : R64 j) (hr : ∀ r ∈ rates, R64 r) (hl : rates.length <= 9223372036854775807) (ha : ∀ q ∈ at_, T3ok q) (ai : at_.length <= 9223372036854775807) :
 Ev prog 50 [I m, I j, SL rates, QTS at_] (CKP (clkF m j rates at_)) := by
 have ak := Jai (c := m) (n := 101) (by omega)
 have c1 := Jcy m 101 hd (by omega)
 have af := λ t (W : 0 <= t /\ t <= 1000000) => Jfj m j rates t hd hs hr hl W
 have an := λ t (W : 0 <= t) => Jee (d := Jag m 101) (by omega) j rates W
 have Q := λ T (Z : T <= 3000) => Jhk (Jag m 101) j rates at_ (by omega) T Z
 have V := λ (t : Nat) (l : List Rd) (W : t < 3000) (hg : Good (Jag m 101) j rates l) (i : Nat) => Jjo (Jag m 101) j rates at_ (by omega) W hg i
 have P : clkF m j rates at_ = ⟨Jag m 101, JdA (Jag m 101) j rates at_ 3000⟩ := rfl
 rw [P]; clear P; generalize Jag m 101 = d at *
 refine EW [2, 13] func50 ?_
 refine SD ?_
 refine Jaa c1 ?_
 refine SD ?_
 refine JbD 106954896 106954897 0 1 193 3 (k := ⟨93, 2, [.agg [I d, .v (.slice none 0 0)]]⟩) (el := .agg [I d, .v (.slice none 0 0)]) SC (by decide) rfl rfl (by simp) SC rfl ?_
 refine Jfd Plain.mono ?_
 refine SD ?_
 refine Jaf (λ k E L => ∃ T : Nat, T + k = 3000 /\ mkC m j rates at_ d T (JdA d j rates at_ T) E L) 3000 ⟨0, by omega, ?_⟩ ?_
 . simp -implicitDefEqProofs (disch := omega) only [go_sem, JdA, mkC, false_and]; try rfl
 rintro k E L ⟨T, hk, y, z, A, B, C, D, o, F, w, x⟩
 obtain ⟨aa, ah⟩ := Q T (by omega)
 have ag := JpH at_ T (min at_.length 12); simp -implicitDefEqProofs (disch := omega) only [go_sem, y, z, A, B, C, D, o, F, w, x, false_and]
 refine Jab (λ hc => ?_) (λ hc => ?_)
 . have Z : T < 3000 := by omega
   have ab : JdA d j rates at_ (T + 1) = rowR d j rates at_ T (JdA d j rates at_ T) (min at_.length 12) := rfl
   have ae := V T (JdA d j rates at_ T) Z aa
   have ad : ∀ i, rowR d j rates at_ T (JdA d j rates at_ T) (i + 1) = putR d j rates T (rowR d j rates at_ T (JdA d j rates at_ T) i) (gd at_ i) := λ _ => rfl
   have ac : rowR d j rates at_ T (JdA d j rates at_ T) 0 = JdA d j rates at_ T := rfl
   generalize O : JdA d j rates at_ (T + 1) = M' at *; generalize JdA d j rates at_ T = M at *; simp -implicitDefEqProofs (disch := omega) only [go_sem, y, z, A, B, C, D, o, F, w, x, false_and]
   refine Jaf (λ k E L => ∃ i : Nat, i + k = 12 /\ i <= at_.length /\ E 11 = I i /\ mkC m j rates at_ d T (rowR d j rates at_ T M i) E L) 12 ⟨0, by omega, by omega, ?_⟩ ?_
   . simp -implicitDefEqProofs (disch := omega) only [go_sem, ac, mkC, y, z, A, B, C, D, o, F, w, x]; try rfl
   clear y z A B C D o F w x E L
   rintro k' E L ⟨i, ao, am, u, y, z, A, B, C, D, o, F, w, x⟩
   obtain ⟨al, ap⟩ := ae i
   have aj : cntE at_ T i <= i := by
    have : ∀ i, cntE at_ T i <= i := λ i => by
     induction i with
     | zero => exact L09 _
     | succ i ih => rw [cntE]; split <;> omega
    exact this i
   have J := ad i
   have N : i = 12 \/ i = at_.length -> rowR d j rates at_ T M i = M' := λ h => by
    rw [ab]; congr 1; omega
   generalize hR : rowR d j rates at_ T M i = R at *; simp -implicitDefEqProofs (disch := omega) only [go_sem, y, z, A, B, C, D, o, u, F, w, x, false_and]
   refine Jab (λ h1 => ?_) (λ h1 => ?_)
   . simp -implicitDefEqProofs (disch := omega) only [go_sem, y, z, A, B, C, D, o, u, F, w, x, false_and]
     refine Jab (λ X => ?_) (λ X => ?_)
     . obtain ⟨q1, q2, q3⟩ := ha _ (Jaj at_ i (by omega))
       have p1 := Jai (c := (gd at_ i).1) (n := 3000) (by omega)
       have p2 := Jai (c := (gd at_ i).2.1) (n := 51) (by omega)
       have p3 := Jai (c := (gd at_ i).2.2) (n := 51) (by omega)
       have d1 := Jcy (gd at_ i).1 3000 q1 (by omega)
       have d2 := Jcy (gd at_ i).2.1 51 q2 (by omega)
       have d3 := Jcy (gd at_ i).2.2 51 q3 (by omega)
       have d4 := af T (by omega)
       have S : Jag (gd at_ i).1 3000 = T -> (R.length = 0 \/ (0 < R.length /\ (gd R (R.length - 1)).l < JbS d j rates T)) -> putR d j rates T R (gd at_ i) = R ++ [⟨JbS d j rates T, max (T - Jag (gd at_ i).2.1 51) 0, T + Jag (gd at_ i).2.2 51⟩] := λ h X => if_pos ⟨h, (JqZ R _).2 X⟩
       have U : ¬ (Jag (gd at_ i).1 3000 = T /\ (R.length = 0 \/ (0 < R.length /\ (gd R (R.length - 1)).l < JbS d j rates T))) -> putR d j rates T R (gd at_ i) = R := λ h => if_neg λ hh => h ⟨hh.1, (JqZ R _).1 hh.2⟩
       generalize JbS d j rates T = s at *; generalize Jag (gd at_ i).1 3000 = x1 at *; generalize Jag (gd at_ i).2.1 51 = x2 at *; generalize Jag (gd at_ i).2.2 51 = x3 at *; simp -implicitDefEqProofs (disch := omega) only [go_sem, y, z, A, B, C, D, o, u, F, w, x, false_and]
       refine Jaa d1 ?_
       simp -implicitDefEqProofs (disch := omega) only [go_sem, y, z, A, B, C, D, o, u, F, w, x, false_and]
       refine Jab (λ h3 => ?_) (λ h3 => ?_)
       . have G := U (λ h => by omega)
         simp -implicitDefEqProofs (disch := omega) only [go_sem, y, z, A, B, C, D, o, u, F, w, x, false_and]
         refine Jad (12 - (i + 1)) (by omega) ⟨i + 1, by omega, by omega, ?_⟩
         rw [J, G]; simp -implicitDefEqProofs (disch := omega) only [go_sem, mkC, y, z, A, B, C, D, o, u, F, w, x]; try rfl
       . have K : R.length <= 100 := by omega
         have H : R.take R.length = R := L04
         simp -implicitDefEqProofs (disch := omega) only [go_sem, y, z, A, B, C, D, o, u, F, w, x, false_and]
         refine Jaa d4 ?_
         simp -implicitDefEqProofs (disch := omega) only [go_sem, y, z, A, B, C, D, o, u, F, w, x, false_and]
         refine Jaa d2 ?_
         simp -implicitDefEqProofs (disch := omega) only [go_sem, y, z, A, B, C, D, o, u, F, w, x, false_and]
         refine Jaa d3 ?_
         simp -implicitDefEqProofs (disch := omega) only [go_sem, y, z, A, B, C, D, o, u, F, w, x, false_and]
         refine Jab (λ h4 => ?_) (λ h4 => ?_)
         . have G := S (by omega) (.inl (by omega))
           simp -implicitDefEqProofs (disch := omega) only [go_sem, y, z, A, B, C, D, o, u, F, w, x, false_and, K, H]
           refine Jad (12 - (i + 1)) (by omega) ⟨i + 1, by omega, by omega, ?_⟩
           rw [J, G]; simp -implicitDefEqProofs (disch := omega) only [go_sem, mkC, y, z, A, B, C, D, o, u, F, w, x, false_and, K, H, L0b, L0e, L0r]; try simp
         . have hj : ((R.length : Int) - 1).toNat = R.length - 1 := by omega
           simp -implicitDefEqProofs (disch := omega) only [go_sem, y, z, A, B, C, D, o, u, F, w, x, false_and, hj]
           refine Jab (λ Y => ?_) (λ Y => ?_)
           . have G := S (by omega) (.inr ⟨by omega, Y⟩)
             simp -implicitDefEqProofs (disch := omega) only [go_sem, y, z, A, B, C, D, o, u, F, w, x, false_and, K, H]
             refine Jad (12 - (i + 1)) (by omega) ⟨i + 1, by omega, by omega, ?_⟩
             rw [J, G]; simp -implicitDefEqProofs (disch := omega) only [go_sem, mkC, y, z, A, B, C, D, o, u, F, w, x, false_and, K, H, L0b, L0e, L0r]; try simp
           . have G := U (λ h => by rcases h.2 with h | h; omega; exact Y h.2)
             simp -implicitDefEqProofs (disch := omega) only [go_sem, y, z, A, B, C, D, o, u, F, w, x, false_and]
             refine Jad (12 - (i + 1)) (by omega) ⟨i + 1, by omega, by omega, ?_⟩
             rw [J, G]; simp -implicitDefEqProofs (disch := omega) only [go_sem, mkC, y, z, A, B, C, D, o, u, F, w, x, false_and]; try rfl
     . have hf := N (.inl (by omega))
       rw [hf] at w x; simp -implicitDefEqProofs (disch := omega) only [go_sem, y, z, A, B, C, D, o, u, F, w, x, false_and]
       refine Jad (3000 - (T + 1)) (by omega) ⟨T + 1, by omega, ?_⟩
       rw [O]; simp -implicitDefEqProofs (disch := omega) only [go_sem, mkC, y, z, A, B, C, D, o, F, w, x, false_and]; try rfl
   . have hf := N (.inr (by omega))
     rw [hf] at w x; simp -implicitDefEqProofs (disch := omega) only [go_sem, y, z, A, B, C, D, o, u, F, w, x, false_and]
     refine Jad (3000 - (T + 1)) (by omega) ⟨T + 1, by omega, ?_⟩
     rw [O]; simp -implicitDefEqProofs (disch := omega) only [go_sem, mkC, y, z, A, B, C, D, o, F, w, x, false_and]; try rfl
 . obtain rfl : T = 3000 := by omega
   generalize JdA d j rates at_ 3000 = M at *
   have H : M.take M.length = M := L04
   simp -implicitDefEqProofs (disch := omega) only [go_sem, y, z, A, B, C, D, o, F, w, x, false_and]
   refine Jap Plain.mono [106954896, 106954897] ?_
   simp -implicitDefEqProofs (disch := omega) only [go_sem, y, z, A, B, C, D, o, F, w, x, H, L0c]
abbrev CNP (n : Cn) : AV := .agg [I n.b, I n.e]
abbrev LGP (l : Lg) : AV := .agg [I l.f, I l.t, I l.g.b, I l.g.e, I l.k.b, I l.k.e]
abbrev WNP (w : Int × Int) : AV := .agg [I w.1, I w.2]
abbrev SNP (s : Sn) : AV := .agg [I s.b.1, I s.b.2, I s.e.1, I s.e.2]
abbrev CRP (y : Cr) : AV := .agg [I y.d, I y.s, SL y.r, QTS y.at_]
def Cr.ok (y : Cr) : Prop := R64 y.d /\ R64 y.s /\ (∀ r ∈ y.r, R64 r) /\ y.r.length <= 9223372036854775807 /\ (∀ q ∈ y.at_, T3ok q) /\ y.at_.length <= 9223372036854775807
theorem JmW (l : Lg) : legF l = (decide (0 <= l.f /\ l.f <= 7) && (decide (0 <= l.t /\ l.t <= 7) && (decide (l.f ≠ l.t) && (cntF l.g && cntF l.k)))) := by
 unfold legF; simp only [Bool.decide_and, L1o]
theorem JnQ (y : Cr) (h : y.ok) : Ev prog 23 [CRP y] (CKP y.clk) := by
 obtain ⟨j, m, o, u, w, x⟩ := h; have c := JxU y.d y.s y.r y.at_ j m o u w x; unfold Cr.clk; generalize clkF y.d y.s y.r y.at_ = z at *
 refine EV func23 ?_
 refine SA ?_
 refine Jaa c ?_
 exact SB
theorem Jiw (y : Cr) (t : Int) (h : y.ok) (w : 0 <= t /\ t <= 1000000) : Ev prog 51 [CRP y, I t] (I (y.show t)) := by
 obtain ⟨j, m, o, u, z, A⟩ := h; have c := Jfj y.d y.s y.r t j m o u w
 unfold Cr.show
 generalize JbS (Jag y.d 101) y.s y.r t = x at *
 refine EV func51 ?_
 refine SA ?_
 refine Jaa c ?_
 exact SB
theorem JhY (y : Cr) (f t : Int) (h : y.ok) (o : 0 <= f /\ f <= 1000000) (u : 0 <= t /\ t <= 1000000) : Ev prog 29 [CRP y, I f, I t] (CNP (y.cnt f t)) := by
 have j := Jiw y f h o; have m := Jiw y t h u; unfold Cr.cnt
 generalize y.show f = a at *
 generalize y.show t = b at *
 refine EV func29 ?_
 refine SA ?_
 refine Jaa j ?_
 refine SA ?_
 refine Jaa m ?_
 exact SB
theorem Jd4 (n a b : Int) : Ev prog 59 [I n, I a, I b] (B (decide (a <= n /\ n <= b))) := by
 refine EV func59 ?_
 refine SA ?_
 refine Jab (λ j => ?_) (λ j => ?_)
 . exact SB
   try simp [j]
 . exact SB
   try simp [j]
theorem Jhc (n a b : Int) : Ev prog 92 [I n, I a, I b] (B (decide (a <= n /\ n <= b))) := by
 refine EV func92 ?_
 refine SA ?_
 refine Jab (λ j => ?_) (λ j => ?_)
 . exact SB
   try simp [j]
 . exact SB
   try simp [j]
theorem Jdj (n : Int) : Ev prog 68 [I n] (B (decide (0 <= n /\ n <= 7))) := by
 refine EV func68 ?_
 refine SA ?_
 refine Jaa (Jd4 n 0 7) ?_
 exact SB
theorem JfH (n : Cn) : Ev prog 113 [CNP n] (B (cntF n)) := by
 have c := Jd4 n.b 0 n.e
 obtain ⟨z, m⟩ : ∃ z, cntF n = z := ⟨_, rfl⟩
 have j : z = true ↔ 0 <= n.b /\ n.b <= n.e /\ n.e <= 10000000 := by rw [<- m]; exact Jd0
 rw [m]
 refine EV func113 ?_
 refine SA ?_
 by_cases h : 0 <= n.b /\ n.b <= n.e
 . rw [decide_eq_true h] at c
   refine Jaa c ?_
   refine SA ?_
   cases z with
   | true => rw [decide_eq_true (j.1 rfl).2.2]
   | false => rw [decide_eq_false (λ o => by have := j.2 ⟨h.1, h.2, o⟩; cases this)]
 . rw [decide_eq_false h] at c
   refine Jaa c ?_
   refine SA ?_
   cases z with
   | true => exact absurd ⟨(j.1 rfl).1, (j.1 rfl).2.1⟩ h
   | false => rfl
theorem Jg1 (n : Cn) : Ev prog 125 [CNP n] (B (cntF n)) := by
 obtain ⟨z, u⟩ : ∃ z, cntF n = z := ⟨_, rfl⟩
 have j : z = true ↔ 0 <= n.b /\ n.b <= n.e /\ n.e <= 10000000 := by rw [<- u]; exact Jd0
 rw [u]
 refine EV func125 ?_
 refine SA ?_
 refine Jab (λ m => ?_) (λ m => ?_)
 . refine SA ?_
   refine Jab (λ o => ?_) (λ o => ?_)
   . refine SA ?_
     cases z with
     | true => rw [decide_eq_true (j.1 rfl).2.2]
     | false => rw [decide_eq_false (λ w => by have := j.2 ⟨m, o, w⟩; cases this)]
   . refine SA ?_
     cases z with
     | true => exact absurd (j.1 rfl).2.1 o
     | false => rfl
 . refine SA ?_
   cases z with
   | true => exact absurd (j.1 rfl).1 m
   | false => rfl
theorem JiX (l : Lg) : Ev prog 69 [LGP l] (B (legF l)) := by
 have u := Jdj l.f; have w := Jdj l.t; have x := JfH l.g; have y := JfH l.k; rw [JmW]; generalize decide (0 <= l.f /\ l.f <= 7) = b1 at *; generalize decide (0 <= l.t /\ l.t <= 7) = b2 at *; generalize cntF l.g = m at *; generalize cntF l.k = o at *
 refine EV func69 ?_
 refine SA ?_
 refine Jaa u ?_
 cases b1
 . exact SB; try rfl
 refine SA ?_
 refine Jaa w ?_
 cases b2
 . exact SB; try rfl
 refine SA ?_
 refine Jab (λ j => ?_) (λ j => ?_)
 rotate_left
 . rw [decide_eq_false j]; exact SB; try rfl
 rw [decide_eq_true j]; refine SA ?_
 refine Jaa x ?_
 cases m
 . exact SB; try rfl
 refine SA ?_
 refine Jaa y ?_
 cases o <;> (simp -implicitDefEqProofs (disch := omega) only [go_sem, results69]; try rfl)
theorem Ji1 (l : Lg) : Ev prog 91 [LGP l] (B (legF l)) := by
 have u := Jhc l.f 0 7; have w := Jhc l.t 0 7; have x := Jg1 l.g; have y := Jg1 l.k; rw [JmW]; generalize decide (0 <= l.f /\ l.f <= 7) = b1 at *; generalize decide (0 <= l.t /\ l.t <= 7) = b2 at *; generalize cntF l.g = m at *; generalize cntF l.k = o at *
 refine EV func91 ?_
 refine SA ?_
 refine Jaa u ?_
 cases b1
 . exact SB; try rfl
 refine SA ?_
 refine Jaa w ?_
 cases b2
 . exact SB; try rfl
 refine SA ?_
 refine Jab (λ j => ?_) (λ j => ?_)
 rotate_left
 . rw [decide_eq_false j]; exact SB; try rfl
 rw [decide_eq_true j]; refine SA ?_
 refine Jaa x ?_
 cases m
 . exact SB; try rfl
 refine SA ?_
 refine Jaa y ?_
 cases o <;> (simp -implicitDefEqProofs (disch := omega) only [go_sem, results91]; try rfl)
abbrev spV (o : Option Sn) : AV := match o with
 | some s => .tup [SNP s, I 0]
 | none => .tup [SNP ⟨(0, 0), (0, 0)⟩, I 380]
abbrev agV (o : Option Sn) : AV := match o with
 | some s => .tup [SNP s, B true]
 | none => .tup [SNP ⟨(0, 0), (0, 0)⟩, B false]
theorem JtN (c : Ck) (t : Int) (j : c.r.length <= 9223372036854775807) : Ev prog 145 [CKP c, I t] (match atF c t with | some w => .tup [WNP w, B true] | none => .tup [WNP (0, 0), B false]) := by
 have h := JBo c t j; generalize atF c t = o at *
 refine EV func145 ?_
 refine SA ?_
 cases o with
 | none =>
  refine Jaa h ?_
  exact SB
 | some w =>
  refine Jaa h ?_
  exact SB
theorem JgI (c : Ck) (n : Cn) (o : c.r.length <= 9223372036854775807) : Ev prog 118 [CKP c, CNP n] (spV (JcF c n)) := by
 have j := JtN c n.b o; have m := JtN c n.e o; have u := JfH n; unfold JcF; generalize atF c n.b = w at *; generalize atF c n.e = x at *; generalize cntF n = b at *
 refine EV func118 ?_
 refine SA ?_
 cases w <;> cases x
 . refine Jaa j ?_
   refine SA ?_
   refine Jaa m ?_
   exact SB
 . refine Jaa j ?_
   refine SA ?_
   refine Jaa m ?_
   exact SB
 . refine Jaa j ?_
   refine SA ?_
   refine Jaa m ?_
   exact SB
 . refine Jaa j ?_
   refine SA ?_
   refine Jaa m ?_
   refine SA ?_
   refine Jaa u ?_
   cases b <;> simp -implicitDefEqProofs (disch := omega) only [go_sem, results118]
theorem JgJ (c : Ck) (n : Cn) (j : c.r.length <= 9223372036854775807) : Ev prog 103 [CKP c, CNP n] (spV (JcF c n)) := by
 have m := JtO c n.b j; have o := JtO c n.e j; have u := Jg1 n; unfold JcF; generalize atF c n.b = w at *; generalize atF c n.e = x at *; generalize cntF n = b at *
 refine EV func103 ?_
 refine SA ?_
 cases w <;> cases x <;> (refine Jaa m ?_; refine SD ?_; refine Jaa o ?_; refine SD ?_; refine Jaa u ?_; cases b <;> simp -implicitDefEqProofs (disch := omega) only [go_sem, results103])
theorem JrS (w v : Int × Int) : Ev prog 142 [WNP w, WNP v] (WNP (JbE w v)) := by
 refine EV func142 ?_
 refine SA ?_
 rfl
theorem Jh8 (w : Int × Int) : Ev prog 143 [WNP w] (B (decide (w.2 < w.1))) := by
 refine EV func143 ?_
 exact SB
theorem Jpr (w v : Int × Int) : Ev prog 134 [WNP w, WNP v] (WNP (JbE w v)) := by
 refine EV func134 ?_
 refine SA ?_
 rfl
theorem Jll (s : Sn) : Ev prog 116 [SNP s] (WNP (Jfu s)) := by
 refine EV func116 ?_
 refine SA ?_
 rfl
theorem JiL (s : Sn) : Ev prog 101 [SNP s] (WNP (Jfu s)) := by
 refine EV func101 ?_
 refine SA ?_
 rfl
def Jo3 (j m : Option Sn) (q : Bool) : Option Sn := match j, m with
 | some s, some t => if q = true then JlP s t else none
 | _, _ => none
theorem Jmn (a b : Ck) (l : Lg) : JeM a b l = Jo3 (JcF a l.g) (JcF b l.k) (legF l) := rfl
theorem Jo1 (a b : Ck) (l : Lg) (ha : a.r.length <= 9223372036854775807) (hb : b.r.length <= 9223372036854775807) : Ev prog 115 [CKP a, CKP b, LGP l] (agV (JeM a b l)) := by
 have h1 := JgI a l.g ha; have h2 := JgI b l.k hb; have h3 := JiX l; rw [Jmn]; generalize JcF a l.g = o1 at *; generalize JcF b l.k = o2 at *; generalize legF l = q at *
 refine EW [5] func115 ?_
 refine SA ?_
 cases o1 <;> cases o2
 . refine Jaa h1 ?_
   refine SA ?_
   refine Jaa h2 ?_
   refine SA ?_
   refine Jaa h3 ?_
   cases q <;> (simp -implicitDefEqProofs (disch := omega) only [go_sem, results115]; try rfl)
 . refine Jaa h1 ?_
   refine SA ?_
   refine Jaa h2 ?_
   refine SA ?_
   refine Jaa h3 ?_
   cases q <;> (simp -implicitDefEqProofs (disch := omega) only [go_sem, results115]; try rfl)
 . refine Jaa h1 ?_
   refine SA ?_
   refine Jaa h2 ?_
   refine SA ?_
   refine Jaa h3 ?_
   cases q <;> (simp -implicitDefEqProofs (disch := omega) only [go_sem, results115]; try rfl)
 . rename_i s t
   refine Jaa h1 ?_
   refine SA ?_
   refine Jaa h2 ?_
   refine SA ?_
   refine Jaa h3 ?_
   cases q
   . refine SA ?_; try rfl
   . have c1 := JrS s.b t.b; have c2 := JrS s.e t.e
     have hm : JlP s t = if (JbE s.b t.b).1 <= (JbE s.b t.b).2 /\ (JbE s.e t.e).1 <= (JbE s.e t.e).2 /\ (JbE s.b t.b).1 <= (JbE s.e t.e).2 then some ⟨JbE s.b t.b, JbE s.e t.e⟩ else none := rfl
     have hw : Jo3 (some s) (some t) true = JlP s t := rfl
     rw [hw, hm]; clear hw; clear hm; generalize JbE s.b t.b = w at *; generalize JbE s.e t.e = v at *; have c3 := Jh8 w; have c4 := Jh8 v; refine SA ?_
     refine JgD (λ D E σ => E 6 = .ptr 243269728 4 0 0 /\ E 8 = .ptr 243269760 4 0 0 /\ E 10 = .ptr 243269792 4 0 0 /\ σ 243269728 = some ⟨204, 4, [.agg [I 0, I 0, I 0, I 0]]⟩ /\ σ 243269760 = some ⟨204, 4, [SNP s]⟩ /\ σ 243269792 = some ⟨204, 4, [SNP t]⟩ /\ (D 16 = true -> D 14 = true) /\ (D 17 = true -> D 15 = true) /\ (D 14 = true -> D 16 = false -> σ 243269824 = some ⟨246, 2, [.agg [I 0, I 0]]⟩) /\ (D 16 = true -> σ 243269824 = some ⟨246, 2, [.agg [I w.1, I w.2]]⟩) /\ (D 15 = true -> D 17 = false -> σ 243269840 = some ⟨246, 2, [.agg [I 0, I 0]]⟩) /\ (D 17 = true -> σ 243269840 = some ⟨246, 2, [.agg [I v.1, I v.2]]⟩) /\ (D 0 = true -> E 40 = .ptr 243269760 4 0 0) /\ (D 1 = true -> E 41 = .agg [I s.b.1, I s.b.2]) /\ (D 2 = true -> E 42 = .agg [I s.b.1, I s.b.2]) /\ (D 3 = true -> E 43 = .ptr 243269792 4 0 0) /\ (D 4 = true -> E 44 = .agg [I t.b.1, I t.b.2]) /\ (D 5 = true -> E 45 = .agg [I w.1, I w.2]) /\ (D 6 = true -> E 46 = .agg [I w.1, I w.2]) /\ (D 7 = true -> E 47 = .ptr 243269760 4 0 2) /\ (D 8 = true -> E 48 = .agg [I s.e.1, I s.e.2]) /\ (D 9 = true -> E 49 = .agg [I s.e.1, I s.e.2]) /\ (D 10 = true -> E 50 = .ptr 243269792 4 0 2) /\ (D 11 = true -> E 51 = .agg [I t.e.1, I t.e.2]) /\ (D 12 = true -> E 52 = .agg [I v.1, I v.2]) /\ (D 13 = true -> E 53 = .agg [I v.1, I v.2]) /\ (D 14 = true -> E 12 = .ptr 243269824 2 0 0) /\ (D 15 = true -> E 13 = .ptr 243269840 2 0 0)) ?_ ?_ ?_
     . refine SA ?_; try simp
     . simp only [JhH, depK, Region.binds, eq_self, forall_const, and_true]
       repeat' apply And.intro
       all_goals
        rintro D E σ ⟨e6, e8, e10, b6, b8, b10, c16_14, c17_15, m0_0, m0_1, m1_0, m1_1, j0, j1, j2, j3, j4, j5, j6, j7, j8, j9, j10, j11, j12, j13, j14, j15⟩ hd
        have k := And.intro trivial <| And.intro (cK c16_14) <| And.intro (cK c17_15) trivial
        simp -implicitDefEqProofs (disch := first | assumption | (simp only [hd, k]; done) | omega) only [go_sem, e6, e8, e10, b6, b8, b10, m0_0, m0_1, m1_0, m1_1, j0, j1, j2, j3, j4, j5, j6, j7, j8, j9, j10, j11, j12, j13, j14, j15, false_and, and_self]
        try ((first | refine Jaa c1 ?_ | refine Jaa c2 ?_); simp -implicitDefEqProofs (disch := first | assumption | (simp only [hd, k]; done) | omega) only [go_sem, e6, e8, e10, b6, b8, b10, m0_0, m0_1, m1_0, m1_1, j0, j1, j2, j3, j4, j5, j6, j7, j8, j9, j10, j11, j12, j13, j14, j15, false_and, and_self])
        repeat' apply And.intro
        all_goals first | assumption | (intro _; assumption) | trivial | (simp -implicitDefEqProofs (contextual := true) (disch := first | assumption | omega) only [go_sem, m0_0, m0_1, m1_0, m1_1, j0, j1, j2, j3, j4, j5, j6, j7, j8, j9, j10, j11, j12, j13, j14, j15, hd, c16_14, c17_15, k, implies_true, forall_const, false_implies, true_implies]; done) | (intro h; intros; exfalso; simp (maxDischargeDepth := 9) [hd, k] at h; done) | (intros; contradiction) | trace_state
     . rintro D E σ hD ⟨e6, e8, e10, b6, b8, b10, c16_14, c17_15, m0_0, m0_1, m1_0, m1_1, j0, j1, j2, j3, j4, j5, j6, j7, j8, j9, j10, j11, j12, j13, j14, j15⟩
       have g0 := m0_1 (hD 16 (by decide))
       have g1 := m1_1 (hD 17 (by decide))
       have q0 := j0 (hD 0 (by decide))
       have q1 := j1 (hD 1 (by decide))
       have q2 := j2 (hD 2 (by decide))
       have q3 := j3 (hD 3 (by decide))
       have q4 := j4 (hD 4 (by decide))
       have q5 := j5 (hD 5 (by decide))
       have q6 := j6 (hD 6 (by decide))
       have q7 := j7 (hD 7 (by decide))
       have q8 := j8 (hD 8 (by decide))
       have q9 := j9 (hD 9 (by decide))
       have q10 := j10 (hD 10 (by decide))
       have q11 := j11 (hD 11 (by decide))
       have q12 := j12 (hD 12 (by decide))
       have q13 := j13 (hD 13 (by decide))
       have q14 := j14 (hD 14 (by decide))
       have q15 := j15 (hD 15 (by decide))
       clear c16_14 c17_15 m0_0 m0_1 m1_0 m1_1 j0 j1 j2 j3 j4 j5 j6 j7 j8 j9 j10 j11 j12 j13 j14 j15 hD; clear e8 e10 b8 b10; refine SA ?_
       refine Jaa c3 ?_
       by_cases h5 : w.2 < w.1
       . rw [decide_eq_true h5, if_neg (λ h => by omega)]
         exact SB
       rw [decide_eq_false h5]; refine SA ?_
       refine Jaa c4 ?_
       by_cases h6 : v.2 < v.1
       . rw [decide_eq_true h6, if_neg (λ h => by omega)]
         exact SB
       rw [decide_eq_false h6]; refine SA ?_
       refine Jab (λ h7 => ?_) (λ h7 => ?_)
       . rw [if_neg (λ h => by omega)]
         exact SB
       . rw [if_pos ⟨by omega, by omega, by omega⟩]
         exact SB
theorem Jo2 (a b : Ck) (l : Lg) (D : a.r.length <= 9223372036854775807) (E : b.r.length <= 9223372036854775807) : Ev prog 100 [CKP a, CKP b, LGP l] (agV (JeM a b l)) := by
 have j := JgJ a l.g D; have m := JgJ b l.k E; have o := Ji1 l; rw [Jmn]; generalize JcF a l.g = F at *; generalize JcF b l.k = G at *; generalize legF l = q at *
 refine EV func100 ?_
 refine SA ?_
 cases F <;> cases G
 . refine Jaa j ?_
   refine SA ?_
   refine Jaa m ?_
   refine SA ?_
   refine Jaa o ?_
   cases q <;> (simp -implicitDefEqProofs (disch := omega) only [go_sem, results100]; try rfl)
 . refine Jaa j ?_
   refine SA ?_
   refine Jaa m ?_
   refine SA ?_
   refine Jaa o ?_
   cases q <;> (simp -implicitDefEqProofs (disch := omega) only [go_sem, results100]; try rfl)
 . refine Jaa j ?_
   refine SA ?_
   refine Jaa m ?_
   refine SA ?_
   refine Jaa o ?_
   cases q <;> (simp -implicitDefEqProofs (disch := omega) only [go_sem, results100]; try rfl)
 . rename_i s t
   refine Jaa j ?_
   refine SA ?_
   refine Jaa m ?_
   refine SA ?_
   refine Jaa o ?_
   cases q
   . refine SA ?_; try rfl
   . have y := Jpr s.b t.b; have z := Jpr s.e t.e
     have u : JlP s t = if (JbE s.b t.b).1 <= (JbE s.b t.b).2 /\ (JbE s.e t.e).1 <= (JbE s.e t.e).2 /\ (JbE s.b t.b).1 <= (JbE s.e t.e).2 then some ⟨JbE s.b t.b, JbE s.e t.e⟩ else none := rfl
     have x : Jo3 (some s) (some t) true = JlP s t := rfl
     rw [x, u]; clear x; clear u; generalize JbE s.b t.b = w at *; generalize JbE s.e t.e = v at *; refine SA ?_
     refine Jaa y ?_
     refine SA ?_
     refine Jaa z ?_
     refine SA ?_
     refine Jab (λ A => ?_) (λ A => ?_)
     . rw [if_neg (λ h => by omega)]
       exact SB
     refine SA ?_
     refine Jab (λ B => ?_) (λ B => ?_)
     . rw [if_neg (λ h => by omega)]
       exact SB
     refine SA ?_
     refine Jab (λ C => ?_) (λ C => ?_)
     . rw [if_neg (λ h => by omega)]
       exact SB
     . rw [if_pos ⟨by omega, by omega, by omega⟩]
       exact SB
abbrev bPP (u : Bool) : AV := if u then .ptr 304087088 2 0 0 else .v (.pointer none)
@[go_sem] theorem bPP_f : bPP false = .v (.pointer none) := rfl
@[go_sem] theorem bPP_t : bPP true = .ptr 304087088 2 0 0 := rfl
abbrev bLP (u : Bool) (l : List Int) : List (Nat × Blk) := [(304087088, ⟨182, 2, [.agg [bPP u, .own 304087089 1 0 l.length]]⟩), (304087089, ⟨5, 1, l.map Y⟩)]
set_option maxHeartbeats 1000000 in
theorem JpA (u : Bool) (l : List Int) : LOK prog 124 (inI [304087088, 304087089]) [.ptr 304087088 2 0 0] (stO (bLP u l)) (.tup []) (stO (bLP true l)) := by
 refine Jbp [] [304087088, 304087089] func124 rfl (by kernel_rfl) mo (nb rfl) rfl (by kernel_rfl) (by kernel_rfl) ?_
 cases u with
 | false =>
  refine SA ?_
  refine Jcd (te := 182) true (.inl ⟨SC, rfl⟩) rfl true (.inl ⟨rfl, rfl⟩) ?_
  refine SA ?_
  refine Jdv (te := 182) (k := ⟨182, 2, [.agg [.v (.pointer none), .own 304087089 1 0 l.length]]⟩) (id := 304087088) (sz := 2) (j := 0) SC SC rfl (by decide) (by show 0 < 1 * 2; omega) rfl rfl rfl (by decide) ?_
  refine SA ?_
  refine Jan rfl ?_
  refine Jdl (.ptr 304087088 2 0 0) SC func154 rfl rfl rfl rfl ?_
  refine SA ?_
  refine Jdm (te := 182) (k := ⟨182, 2, [.agg [.v (.pointer none), .own 304087089 1 0 l.length]]⟩) (id := 304087088) (sz := 2) (j := 0) SC SC rfl (by decide) (by simp) rfl rfl rfl (show prog.cellsOf 182 ≠ 0 /\ prog.cellsOf 182 <= 2 from by decide +kernel) (by kernel_rfl) ?_
  exact SB
 | true =>
  refine SA ?_
  refine Jcd (te := 182) false (.inr (.inl ⟨⟨304087088, 2, 0, 0, SC⟩, rfl⟩)) rfl false (.inl ⟨rfl, rfl⟩) ?_
  refine SA ?_
  refine Jd8 (te := 182) (id := 304087088) (sz := 2) (i := 0) (j := 0) SC SC rfl rfl false (.inr ⟨rfl, rfl⟩) ?_
  exact SB
set_option maxHeartbeats 1000000 in
theorem JrT (u : Bool) (l : List Int) (s : ByteArray) (o : l.length + s.size <= 100000000) : LOK prog 85 (inI [304087088]) [.ptr 304087088 2 0 0, Str s] (stO (bLP u l)) (.tup [I s.size, .v .nilIface]) (stO (bLP true (l ++ bI s))) := by
 refine Jbp [] [304087088] func85 rfl (by kernel_rfl) mo (nb rfl) rfl (by kernel_rfl) (by kernel_rfl) ?_
 have j := Jar s; refine SA ?_
 refine Jan rfl ?_
 have m : LOK prog 124 (inI [304087088, 304087089]) ([.ptr 304087088 2 0 0] ++ []) (stO (bLP u l)) (.tup []) (stO (bLP true l)) := JpA u l
 refine JaY [304087088, 304087089] m ?_ ?_ ?_ ?_ ?_ ?_ ?_ (hsp := λ id h _ => L0A.2 h)
 . exact SC
 . exact SC
 . exact SC
 . exact SC
 . cases u <;> simp -implicitDefEqProofs (disch := omega) only [go_sem]
 . exact SC
 . simp -implicitDefEqProofs (disch := omega) only [go_sem, L0b, j, results85, L04, and_self]
theorem JoJ (u : Bool) (s : ByteArray) (w : s.size ≠ 0) (x : s.size <= 100000000) : LOK prog 86 (inI [304087088]) [.ptr 304087088 2 0 0] (stO (bLP u (bI s))) (Str s) (stO [(304087088, ⟨182, 2, [.agg [bPP u, .any]]⟩), (304087089, ⟨5, 1, []⟩)]) := by
 refine Jbp [] [304087088] func86 rfl (by kernel_rfl) mo (nb rfl) rfl (by kernel_rfl) (by kernel_rfl) ?_
 have j := Jar s
 obtain ⟨m, o⟩ : ∃ m, s.size = m + 1 := ⟨s.size - 1, by omega⟩
 refine SA ?_
 refine JcQ (e := 5) (id := 304087089) s (by simp -implicitDefEqProofs (disch := omega) only [go_sem, j, o]) (by simp -implicitDefEqProofs (disch := omega) only [go_sem, j, o]) (by simp -implicitDefEqProofs (disch := omega) only [go_sem, j, o]) (by omega) rfl (by decide +kernel) SC (by omega) ?_
 cases u <;> simp -implicitDefEqProofs (disch := omega) only [go_sem, results86]
abbrev bPS (u : Bool) : AV := if u then .ptr 350224464 2 0 0 else .v (.pointer none)
@[go_sem] theorem bPS_f : bPS false = .v (.pointer none) := rfl
@[go_sem] theorem bPS_t : bPS true = .ptr 350224464 2 0 0 := rfl
abbrev bLS (u : Bool) (l : List Int) : List (Nat × Blk) := [(350224464, ⟨292, 2, [.agg [bPS u, .own 350224465 1 0 l.length]]⟩), (350224465, ⟨5, 1, l.map Y⟩)]
set_option maxHeartbeats 1000000 in
theorem JpB (u : Bool) (l : List Int) : LOK prog 124 (inI [350224464, 350224465]) [.ptr 350224464 2 0 0] (stO (bLS u l)) (.tup []) (stO (bLS true l)) := by
 refine Jbp [] [350224464, 350224465] func124 rfl (by kernel_rfl) mo (nb rfl) rfl (by kernel_rfl) (by kernel_rfl) ?_
 cases u with
 | false =>
  refine SA ?_
  refine Jcd (te := 182) true (.inl ⟨SC, rfl⟩) rfl true (.inl ⟨rfl, rfl⟩) ?_
  refine SA ?_
  refine Jdv (te := 182) (k := ⟨292, 2, [.agg [.v (.pointer none), .own 350224465 1 0 l.length]]⟩) (id := 350224464) (sz := 2) (j := 0) SC SC rfl (by decide) (by show 0 < 1 * 2; omega) rfl rfl rfl (by decide) ?_
  refine SA ?_
  refine Jan rfl ?_
  refine Jdl (.ptr 350224464 2 0 0) SC func154 rfl rfl rfl rfl ?_
  refine SA ?_
  refine Jdm (te := 182) (k := ⟨292, 2, [.agg [.v (.pointer none), .own 350224465 1 0 l.length]]⟩) (id := 350224464) (sz := 2) (j := 0) SC SC rfl (by decide) (by simp) rfl rfl rfl (show prog.cellsOf 292 ≠ 0 /\ prog.cellsOf 292 <= 2 from by decide +kernel) (by kernel_rfl) ?_
  exact SB
 | true =>
  refine SA ?_
  refine Jcd (te := 182) false (.inr (.inl ⟨⟨350224464, 2, 0, 0, SC⟩, rfl⟩)) rfl false (.inl ⟨rfl, rfl⟩) ?_
  refine SA ?_
  refine Jd8 (te := 182) (id := 350224464) (sz := 2) (i := 0) (j := 0) SC SC rfl rfl false (.inr ⟨rfl, rfl⟩) ?_
  exact SB
set_option maxHeartbeats 1000000 in
theorem Jla (u : Bool) (l : List Int) (s : ByteArray) (o : l.length + s.size <= 100000000) : LOK prog 85 (inI [350224464]) [.ptr 350224464 2 0 0, Str s] (stO (bLS u l)) (.tup [I s.size, .v .nilIface]) (stO (bLS true (l ++ bI s))) := by
 refine Jbp [] [350224464] func85 rfl (by kernel_rfl) mo (nb rfl) rfl (by kernel_rfl) (by kernel_rfl) ?_
 have j := Jar s; refine SA ?_
 refine Jan rfl ?_
 have m : LOK prog 124 (inI [350224464, 350224465]) ([.ptr 350224464 2 0 0] ++ []) (stO (bLS u l)) (.tup []) (stO (bLS true l)) := JpB u l
 refine JaY [350224464, 350224465] m ?_ ?_ ?_ ?_ ?_ ?_ ?_ (hsp := λ id h _ => L0A.2 h)
 . exact SC
 . exact SC
 . exact SC
 . exact SC
 . cases u <;> simp -implicitDefEqProofs (disch := omega) only [go_sem]
 . exact SC
 . simp -implicitDefEqProofs (disch := omega) only [go_sem, L0b, j, results85, L04, and_self]
theorem JoK (u : Bool) (s : ByteArray) (w : s.size ≠ 0) (x : s.size <= 100000000) : LOK prog 86 (inI [350224464]) [.ptr 350224464 2 0 0] (stO (bLS u (bI s))) (Str s) (stO [(350224464, ⟨292, 2, [.agg [bPS u, .any]]⟩), (350224465, ⟨5, 1, []⟩)]) := by
 refine Jbp [] [350224464] func86 rfl (by kernel_rfl) mo (nb rfl) rfl (by kernel_rfl) (by kernel_rfl) ?_
 have j := Jar s
 obtain ⟨m, o⟩ : ∃ m, s.size = m + 1 := ⟨s.size - 1, by omega⟩
 refine SA ?_
 refine JcQ (e := 5) (id := 350224465) s (by simp -implicitDefEqProofs (disch := omega) only [go_sem, j, o]) (by simp -implicitDefEqProofs (disch := omega) only [go_sem, j, o]) (by simp -implicitDefEqProofs (disch := omega) only [go_sem, j, o]) (by omega) rfl (by decide +kernel) SC (by omega) ?_
 cases u <;> simp -implicitDefEqProofs (disch := omega) only [go_sem, results86]
def catV : List Int -> ByteArray
 | [] => ByteArray.empty
 | n :: l => viS n ++ catV l
theorem JgY : ∀ (l : List Int) (n : Int), catV (l ++ [n]) = catV l ++ viS n
 | [], n => by simp [catV]
 | m :: l, n => by rw [L0L, catV, catV, JgY l n, L2v]
theorem Jby (a b : ByteArray) : bI (a ++ b) = bI a ++ bI b := by
 unfold bI; rw [L2u]; simp
theorem JjR (l : List Int) : (catV l).size <= 10 * l.length := by
 induction l with
 | nil => simp [catV]
 | cons n l j =>
  have := Jay n
  rw [catV, L0w, L0e]; omega
theorem JrO (n : Int) : (viS n).size ≠ 0 := by
 unfold viS viB; rw [strOfNums_size, L0c]; unfold grp
 split <;> simp
theorem Jji (l : Lg) (e : Int) (n : Cn) : catV [8, l.f, l.t, e, n.b, n.e] = recN l e n := by
 simp only [catV, recN, L2v, ByteArray.append_empty]
set_option maxHeartbeats 1000000 in
theorem Juc (l : List Int) (H : 0 < l.length) (R : l.length <= 1000) (J : ∀ n ∈ l, -4611686018427387903 <= n /\ n <= 4611686018427387903) : Ev prog 144 [SL l] (Str (catV l)) := by
 refine EW [2] func144 ?_
 refine SD ?_
 refine JbD 304087088 304087089 0 1 5 1 (k := ⟨182, 2, [.agg [.v (.pointer none), .v (.slice none 0 0)]]⟩) (el := .agg [.v (.pointer none), .v (.slice none 0 0)]) SC (by decide) rfl rfl (by decide) SC rfl ?_
 refine Jfd Plain.mono ?_
 refine SD ?_
 refine Jaf (λ k E G => ∃ i : Nat, i + k = l.length /\ E 3 = .ptr 304087088 2 0 0 /\ E 8 = SL l /\ E 9 = I l.length /\ E 10 = I i /\ G 304087088 = some ⟨182, 2, [.agg [bPP (decide (0 < i)), .own 304087089 1 0 (bI (catV (l.take i))).length]]⟩ /\ G 304087089 = some ⟨5, 1, (bI (catV (l.take i))).map Y⟩) l.length ⟨0, by omega, ?_⟩ ?_
 . have B : bI ByteArray.empty = [] := rfl
   simp -implicitDefEqProofs (disch := omega) only [go_sem, catV, false_and, B]
   try exact ⟨rfl, rfl⟩
 rintro k E G ⟨i, Q, m, o, w, j, y, z⟩
 have x := JjR (l.take i); rw [L01] at x; simp -implicitDefEqProofs (disch := omega) only [go_sem, m, o, w, j]
 refine Jab (λ M => ?_) (λ M => ?_)
 . have C : i < l.length := by omega
   have N := Jc2 (gd l i) (J _ (Jaj l i C)).1 (J _ (Jaj l i C)).2; have P := Jay (gd l i)
   have F : bI (catV (l.take (i + 1))) = bI (catV (l.take i)) ++ bI (viS (gd l i)) := by
    rw [L0B, JaE l i C]
    show bI (catV (l.take i ++ [gd l i])) = _
    rw [JgY, Jby]
   have L : (bI (catV (l.take i))).length = (catV (l.take i)).size := Jar _
   generalize S : bI (catV (l.take i)) = q at *; generalize viS (gd l i) = v at *; generalize T : decide (0 < i) = u at *; simp -implicitDefEqProofs (disch := omega) only [go_sem, m, o, w, j]
   refine Jaa N ?_
   refine SA ?_
   refine Jan rfl ?_
   have K : LOK prog 85 (inI [304087088]) ([.ptr 304087088 2 0 0, Str v] ++ []) (stO (bLP u q)) (.tup [I v.size, .v .nilIface]) (stO (bLP true (q ++ bI v))) := JrT u q v (by omega)
   refine JaY [304087088] K ?_ ?_ ?_ ?_ ?_ ?_ ?_
   . simp -implicitDefEqProofs (disch := omega) only [go_sem, m, o, w, j]
   . simp -implicitDefEqProofs (disch := omega) only [go_sem, m, o, w, j]
   . cases u <;> simp -implicitDefEqProofs (disch := omega) only [go_sem, m, o, w, j, y, z]
   . cases u <;> simp -implicitDefEqProofs (disch := omega) only [go_sem, m, o, w, j]
   . cases u <;> simp -implicitDefEqProofs (disch := omega) only [go_sem, m, o, w, j]
   . simp -implicitDefEqProofs (disch := omega) only [go_sem, m, o, w, j]
   . refine SA ?_
     refine Jad (l.length - (i + 1)) (by omega) ⟨i + 1, by omega, ?_⟩
     have O : decide (0 < i + 1) = true := decide_eq_true (by omega)
     rw [F, O]; refine SA ?_; try simp
 . obtain rfl : i = l.length := by omega
   rw [L04, decide_eq_true H] at y; rw [L04] at z; rw [L04] at x; refine SA ?_
   refine Jan rfl ?_
   have D : (catV l).size ≠ 0 := by
    cases l with
    | nil => simp at H
    | cons n l =>
     have := JrO n
     rw [catV, L0w]; omega
   have A : LOK prog 86 (inI [304087088]) ([.ptr 304087088 2 0 0] ++ []) (stO (bLP true (bI (catV l)))) (Str (catV l)) (stO [(304087088, ⟨182, 2, [.agg [bPP true, .any]]⟩), (304087089, ⟨5, 1, []⟩)]) := JoJ true (catV l) D (by omega)
   refine JaY [304087088] A ?_ ?_ ?_ ?_ ?_ ?_ ?_
   . simp -implicitDefEqProofs (disch := omega) only [go_sem, m]
   . simp -implicitDefEqProofs (disch := omega) only [go_sem, m]
   . simp -implicitDefEqProofs (disch := omega) only [go_sem, y, z]
   . exact SC
   . exact SC
   . exact SC
   . exact SB
def recV (l : Lg) (e : Int) : AV := if legF l = true /\ (1 <= e /\ e <= 2) then .tup [Str (recF l e), I 0] else .tup [Str ⟨#[]⟩, I 380]
theorem Jq2 {l : Lg} (h : legF l = true) (e : Int) (y : 1 <= e /\ e <= 2) (n : Cn) (j : cntF n = true) : ∀ x ∈ [8, l.f, l.t, e, n.b, n.e], -4611686018427387903 <= x /\ x <= 4611686018427387903 := by
 obtain ⟨o, u, w⟩ := JbC.1 h
 have := Jd0.1 j
 intro x m
 simp only [L0q, List.mem_nil_iff, or_false] at m
 omega
theorem Jud (l : Lg) (e : Int) : Ev prog 117 [LGP l, I e] (recV l e) := by
 have A := JiX l; have w := Jd4 e 1 2
 obtain ⟨r, x⟩ : ∃ r, recV l e = r := ⟨_, rfl⟩
 have m : legF l = true -> (1 <= e /\ e <= 2) -> r = .tup [Str (recF l e), I 0] := λ a b => by rw [<- x]; exact if_pos ⟨a, b⟩
 have o : ¬ (legF l = true /\ (1 <= e /\ e <= 2)) -> r = .tup [Str ⟨#[]⟩, I 380] := λ a => by rw [<- x]; exact if_neg a
 rw [x]; clear x
 refine EV func117 ?_
 refine SA ?_
 refine Jaa A ?_
 by_cases j : legF l = true
 rotate_left
 . rw [o (λ h => j h.1)]
   have j : legF l = false := by simpa using j
   exact SB
 refine SA ?_
 by_cases he : 1 <= e /\ e <= 2
 rotate_left
 . rw [o (λ h => he h.2)]
   rw [decide_eq_false he] at w
   refine Jaa w ?_
   exact SB
 rw [decide_eq_true he] at w; rw [m j he]; clear m o
 refine Jaa w ?_
 have B := (JbC.1 j).2.1; have C := (JbC.1 j).2.2
 obtain rfl | rfl : e = 1 \/ e = 2 := by omega
 . have u := Juc [8, l.f, l.t, 1, l.g.b, l.g.e] (by simp) (by simp) (Jq2 j 1 he l.g B)
   rw [Jji] at u
   have y : ((1 : Int) - 1).toNat = 0 := rfl
   have z : ((2 : Int) - 1).toNat = 1 := rfl
   refine SA ?_
   refine Jaa u ?_
   refine SA ?_; try rfl
 . have u := Juc [8, l.f, l.t, 2, l.k.b, l.k.e] (by simp) (by simp) (Jq2 j 2 he l.k C)
   rw [Jji] at u
   have y : ((1 : Int) - 1).toNat = 0 := rfl
   have z : ((2 : Int) - 1).toNat = 1 := rfl
   refine SA ?_
   refine Jaa u ?_
   refine SA ?_; try rfl
set_option maxHeartbeats 1000000 in
theorem Jl2 (l : Lg) (e : Int) : Ev prog 52 [LGP l, I e] (recV l e) := by
 have R := Ji1 l; have C := Jhc e 1 2
 obtain ⟨r, F⟩ : ∃ r, recV l e = r := ⟨_, rfl⟩
 have y : legF l = true -> (1 <= e /\ e <= 2) -> r = .tup [Str (recF l e), I 0] := λ a b => by rw [<- F]; exact if_pos ⟨a, b⟩
 have z : ¬ (legF l = true /\ (1 <= e /\ e <= 2)) -> r = .tup [Str ⟨#[]⟩, I 380] := λ a => by rw [<- F]; exact if_neg a
 rw [F]; clear F
 refine EV func52 ?_
 refine SD ?_
 refine Jaa R ?_
 by_cases w : legF l = true
 rotate_left
 . rw [z (λ h => w h.1)]
   have w : legF l = false := by simpa using w
   simp -implicitDefEqProofs (disch := omega) only [go_sem, w, results52]
 simp -implicitDefEqProofs (disch := omega) only [go_sem, w]
 by_cases he : 1 <= e /\ e <= 2
 rotate_left
 . rw [z (λ h => he h.2)]
   rw [decide_eq_false he] at C
   refine Jaa C ?_
   simp -implicitDefEqProofs (disch := omega) only [go_sem, results52]
 rw [decide_eq_true he] at C; rw [y w he]; clear y z
 refine Jaa C ?_
 obtain ⟨n, D, x⟩ : ∃ n : Cn, n = (if e = 1 then l.g else l.k) /\ recF l e = recN l e n := ⟨_, rfl, rfl⟩
 have K : cntF n = true := by
  rw [D]; split
  . exact (JbC.1 w).2.1
  . exact (JbC.1 w).2.2
 have N := Jq2 w e he n K; rw [x, <- Jji]; clear x R C; generalize S : [8, l.f, l.t, e, n.b, n.e] = L at *
 have U : L.length = 6 := by rw [<- S]; rfl
 refine SD ?_
 refine JbX (λ E A => E 1 = I e /\ E 2 = .ptr 111149088 6 0 0 /\ E 6 = .ptr 111149152 2 0 0 /\ A 111149088 = some ⟨62, 6, [LGP l]⟩ /\ A 111149152 = some ⟨60, 2, [CNP n]⟩) (λ h => ?_) (λ h => ?_) ?_
 . rw [if_neg (by omega)] at D
   subst D; simp -implicitDefEqProofs (disch := omega) only [go_sem, false_and]
 . rw [if_pos (by omega)] at D
   subst D; exact SC
 rintro E A ⟨G, H, J, P, Q⟩
 refine SA ?_
 refine Jaf (λ k E A => ∃ i : Nat, i + k = 6 /\ E 35 = .own 111149616 1 0 6 /\ E 36 = I 6 /\ E 37 = I i /\ E 7 = Str (catV (L.take i)) /\ A 111149616 = some ⟨3, 1, L.map I⟩) 6 ⟨0, by omega, ?_⟩ ?_
 . rw [<- S]; refine SA ?_
   exact ⟨rfl, rfl, rfl⟩
 clear G H J P Q E A
 rintro k E A ⟨i, Y, j, m, o, B, u⟩
 refine SA ?_
 refine Jab (λ V => ?_) (λ V => ?_)
 . have T := N _ (Jaj L i (by omega))
   have W := Jd9 (gd L i) T.1 T.2
   have O : catV (L.take (i + 1)) = catV (L.take i) ++ viS (gd L i) := by
    rw [L0B, JaE L i (by omega)]; exact JgY _ _
   have M := JjR (L.take i); rw [L01] at M; have X := Jay (gd L i); simp -implicitDefEqProofs (disch := omega) only [go_sem, j, m, o, B, u]
   refine Jaa W ?_
   refine SA ?_
   refine Jad (6 - (i + 1)) (by omega) ⟨i + 1, by omega, ?_⟩
   rw [O]; refine SA ?_; try rfl
 . obtain rfl : i = 6 := by omega
   rw [L03 (by omega)] at B
   exact SB
def lenT : ByteArray := ⟨((List.range 256).map λ i => UInt8.ofNat (if i = 0 then 0 else Nat.log2 i + 1)).toArray⟩
theorem Jvj (z : Nat) (j : z < 64) : lenT[z]? = some (UInt8.ofNat (if z = 0 then 0 else Nat.log2 z + 1)) := by
 have : ∀ z : Fin 64, lenT[(z : Nat)]? = some (UInt8.ofNat (if (z : Nat) = 0 then 0 else Nat.log2 z + 1)) := by decide +kernel
 exact this ⟨z, j⟩
theorem JmZ (z : Nat) (j : z < 64) : (((UInt8.ofNat (if z = 0 then 0 else Nat.log2 z + 1)).toNat : Nat) : Int) = ((if z = 0 then 0 else Nat.log2 z + 1 : Nat) : Int) /\ (if z = 0 then 0 else Nat.log2 z + 1) <= 6 := by
 have : ∀ z : Fin 64, (((UInt8.ofNat (if (z : Nat) = 0 then 0 else Nat.log2 z + 1)).toNat : Nat) : Int) = ((if (z : Nat) = 0 then 0 else Nat.log2 z + 1 : Nat) : Int) /\ (if (z : Nat) = 0 then 0 else Nat.log2 z + 1) <= 6 := by decide +kernel
 exact this ⟨z, j⟩
theorem JsY {A : Prop} {T T' : ByteArray} {z : Nat} {c : UInt8} {k : AV -> Prop} (m : T = T') (h : T'[z]? = some c) (j : A) (o : k (.v (.int .u8 c.toNat))) : optU A T[z]? k := by
 subst m; rw [h]; exact ⟨j, o⟩
theorem JsF (z : Nat) (o : z < 64) : Ev prog 206 [.v (.int .u64 z)] (I (if z = 0 then 0 else Nat.log2 z + 1 : Nat)) := by
 refine EV func206 ?_
 refine SA ?_
 refine Jam (by omega) ?_
 refine SA ?_
 refine Jam (by omega) ?_
 refine SA ?_
 refine Jam (by omega) ?_
 have x : IntKind.u8.wrap (z : Int) = z := by simp [IntKind.wrap, IntKind.bits, IntKind.signed]; omega
 obtain ⟨u, y⟩ := JmZ z o
 have w := Jvj z o
 generalize (if z = 0 then 0 else Nat.log2 z + 1) = m at *
 refine SA ?_
 refine JsY (T' := lenT) (by kernel_rfl) w (by omega) ?_
 have j : IntKind.i64.wrap (m : Int) = m := JcD (by omega)
 refine SA ?_
 try rw [Int.zero_add]
theorem Jyo (z : Nat) (j : z < 64) : Ev prog 189 [.v (.int .u64 z)] (I (if z = 0 then 0 else Nat.log2 z + 1 : Nat)) := by
 refine EV func189 ?_
 refine SA ?_
 refine Jaa (JsF z j) ?_
 exact SB
theorem Jvi (n : Nat) (D : 2 <= n) (E : n <= 64) : Ev prog 169 [I n] (I (Jaq n : Nat)) := by
 have u := Jyo (n - 1) (by omega)
 have y := JmZ (n - 1) (by omega)
 rw [if_neg (by omega)] at u y
 have j : Jaq n = 2 ^ Nat.log2 (n - 1) := rfl
 obtain ⟨m, w⟩ : ∃ m, Nat.log2 (n - 1) = m := ⟨_, rfl⟩
 rw [w] at u j y; rw [j]
 have B : IntKind.u64.wrap ((n : Int) - 1) = ((n - 1 : Nat) : Int) := by
  simp only [IntKind.wrap, IntKind.bits, IntKind.signed]; simp; omega
 have F : (2 : Int) ^ m <= 64 := by
  have : (2 : Nat) ^ m <= 2 ^ 6 := L2j (by omega) (by omega)
  have z : (((2 : Nat) ^ m : Nat) : Int) <= ((2 ^ 6 : Nat) : Int) := by exact_mod_cast this
  simpa using z
 have A : (0 : Int) < (2 : Int) ^ m := Int.pow_pos (by omega)
 refine EV func169 ?_
 refine SA ?_
 refine Jaa u ?_
 have C : (((m + 1 : Nat) : Int) - 1) = m := by omega
 have o : min m 64 = m := by omega
 have x : IntKind.i64.wrap ((2 : Int) ^ m) = (2 : Int) ^ m := JcD (by omega)
 simp -implicitDefEqProofs (disch := omega) only [go_sem, C, o, x, Int.one_mul, L1e, results169]; try simp
instance : Inhabited (ByteArray × Bool) := ⟨(⟨#[]⟩, false)⟩
abbrev SLs (l : List ByteArray) : AV := .sl 1 (l.map Str)
abbrev SDP (x : ByteArray × Bool) : AV := .agg [Str x.1, B x.2]
abbrev SDS (l : List (ByteArray × Bool)) : AV := .sl 2 (l.map SDP)
section
variable (p : Nat -> Bool) (l : List (ByteArray × Bool))
@[go_sem] theorem JwO : AV.namesL p (l.map SDP) = false := Jak p l SDP λ _ => rfl
@[go_sem] theorem Jyc : AV.flatL (l.map SDP) = true := JaP l SDP λ _ => rfl
@[go_sem] theorem Jxr : Jbv 2 (l.map SDP) = true := Jaw 2 l SDP λ _ => ⟨rfl, rfl⟩
@[go_sem] theorem Jwk (a : ByteArray) (b : Bool) : l.map SDP ++ [.agg [.v (.string a), .v (.bool b)]] = (l ++ [(a, b)]).map SDP := by simp
end
section
variable (p : Nat -> Bool) (l : List ByteArray)
@[go_sem] theorem Joi : AV.namesL p (l.map Str) = false := Jak p l Str λ _ => rfl
@[go_sem] theorem JpW : AV.flatL (l.map Str) = true := JaP l Str λ _ => rfl
@[go_sem] theorem Jo4 : Jbv 1 (l.map Str) = true := Jaw 1 l Str λ _ => ⟨rfl, rfl⟩
@[go_sem] theorem Jnx (x : ByteArray) : l.map Str ++ [.v (.string x)] = (l ++ [x]).map Str := by simp
end
def bkD (l : List (ByteArray × Bool)) : Nat -> List (List AV)
 | 0 => []
 | k + 1 => [I k, SDP (gd l k)] :: bkD l k
theorem JfN (p : Nat -> Bool) (l : List (ByteArray × Bool)) : ∀ k, AV.namesL p ((bkD l k).map .tup) = false
 | 0 => rfl
 | k + 1 => by
  show AV.namesL p (.tup [I k, SDP (gd l k)] :: (bkD l k).map .tup) = false
  simp only [go_sem, JfN p l k]
  first | done | simp
attribute [go_sem] JfN
theorem Jpo (l : List (ByteArray × Bool)) : ∀ k, ∀ y ∈ bkD l k, y.length = 2
 | 0, y, h => by cases h
 | k + 1, y, h => by
  rcases L0q.1 h with rfl | h
  . rfl
  . exact Jpo l k y h
theorem Jsa (l : List (ByteArray × Bool)) : Ev prog 170 [SDS l] (.clo 190 [.pt (SDS l) 0]) := by
 refine Jch (r := .clo 190 [.nptr 269 1 [SDS l]]) ?_ _
 refine EV func170 ?_
 exact SB
theorem Jpi (l : List (ByteArray × Bool)) (z : l.length <= 1000000) : SOK prog 190 [.pt (SDS l) 0] (stO []) (bkD l l.length) := by
 refine JkT func190 rfl (by kernel_rfl) mo (nb rfl) ?_ rfl λ y => ?_
 . exact JfN allB _ _
 refine SA ?_
 refine Jaf (λ n E x => E 0 = .yld y /\ E 1 = .pt (SDS l) 0 /\ E 3 = I ((n : Int) - 1) /\ n <= l.length /\ E 19 = .tup ((bkD l n).map .tup)) l.length ?_ ?_
 . exact SC
   try exact L09 _
 rintro n E x ⟨m, o, u, A, j⟩
 refine SA ?_
 cases n with
 | zero =>
  refine Jam (by omega) ?_
  have j : E 19 = .tup [] := j
  simp -implicitDefEqProofs (disch := omega) only [go_sem, j]
  exact .inl trivial
 | succ n =>
  refine Ja0 (by omega) ?_
  have j : E 19 = .tup (.tup [I n, SDP (gd l n)] :: (bkD l n).map .tup) := j
  have w : ((n + 1 : Nat) : Int) - 1 = n := by omega
  simp -implicitDefEqProofs (disch := omega) only [go_sem, m, o, u, j, w]
  refine ⟨?_, .inr trivial⟩
  refine Jad n (by omega) ?_
  refine SA ?_
  try omega
theorem Jon (j : Jac) : only (inI []) j = stO [] := by
 funext id
 simp [only, inI, stO]
def idxG {T : Type} (Q : T -> Bool) : List T -> Nat -> Int
 | [], _ => -1
 | r :: l, v => if Q r = true then v else idxG Q l (v + 1)
theorem Je3 {T : Type} (Q : T -> Bool) : ∀ (l : List T) (v : Nat), decide (0 <= idxG Q l v) = l.any Q
 | [], _ => rfl
 | r :: l, v => by
  rw [idxG, List.any_cons]
  cases h : Q r with
  | true => rw [if_pos rfl, Bool.true_or, decide_eq_true (by omega)]
  | false => rw [if_neg (by simp), L1F]; exact Je3 Q l (v + 1)
abbrev CKS (l : List Ck) : AV := .sl 2 (l.map CKP)
abbrev TFS (l : List Tf) : AV := .sl 2 (l.map TF)
section
variable (p : Nat -> Bool) (l : List Ck)
@[go_sem] theorem JwH : AV.namesL p (l.map CKP) = false := Jak p l CKP λ _ => rfl
@[go_sem] theorem Jxk : Jbv 2 (l.map CKP) = true := Jaw 2 l CKP λ _ => ⟨rfl, rfl⟩
end
section
variable (p : Nat -> Bool) (l : List Tf)
@[go_sem] theorem Jyy : AV.namesL p (l.map TF) = false := Jak p l TF λ _ => rfl
@[go_sem] theorem JzG : Jbv 2 (l.map TF) = true := Jaw 2 l TF λ _ => ⟨rfl, rfl⟩
end
theorem Ju9 (g : FuncId) (caps : List AV) (Q : ByteArray -> Bool) (l : List ByteArray) (G : ∀ r ∈ l, Ev prog g ([Str r] ++ caps) (B (Q r))) (x : ∀ p, AV.namesL p caps = false) (z : ∀ C, caps.map (res C) = caps) (K : l.length <= 9223372036854775807) (A : JaM caps = true := by rfl) : Ev prog 204 [SLs l, .clo g caps] (I (idxG Q l 0)) := by
 refine EV func204 ?_
 refine SD ?_
 refine Jaf (λ k E C => ∃ i : Nat, i + k = l.length /\ idxG Q l 0 = idxG Q (l.drop i) i /\ E 0 = SLs l /\ E 1 = .clo g caps /\ E 7 = I l.length /\ E 8 = I i) l.length ⟨0, by omega, rfl, ?_⟩ ?_
 . simp -implicitDefEqProofs (disch := omega) only [go_sem, x]
   rfl
 rintro k E C ⟨i, J, y, j, m, o, u⟩
 simp -implicitDefEqProofs (disch := omega) only [go_sem, j, m, o, u]
 refine Jab (λ F => ?_) (λ F => ?_)
 . have D : i < l.length := by omega
   rw [JaD l i D, idxG] at y; have H := G (gd l i) (Jaj l i D); simp -implicitDefEqProofs (disch := omega) only [go_sem, j, m, o, u, x, z, A, L1c]
   refine Jaa H ?_
   simp -implicitDefEqProofs (disch := omega) only [go_sem, j, m, o, u]
   refine Jab (λ w => ?_) (λ w => ?_)
   . have w : Q (gd l i) = true := by simpa using w
     rw [if_pos w] at y; simp -implicitDefEqProofs (disch := omega) only [go_sem, j, m, o, u, y, results204]
   . have w : ¬ Q (gd l i) = true := by simpa using w
     rw [if_neg w] at y; simp -implicitDefEqProofs (disch := omega) only [go_sem, j, m, o, u]
     refine Jad (l.length - (i + 1)) (by omega) ⟨i + 1, by omega, y, ?_⟩
     simp -implicitDefEqProofs (disch := omega) only [go_sem, j, m, o, u, x]
     rfl
 . obtain rfl : i = l.length := by omega
   rw [L0H, idxG] at y; simp -implicitDefEqProofs (disch := omega) only [go_sem, j, m, o, u, y, results204]
theorem Ju2 (g : FuncId) (caps : List AV) (Q : ByteArray -> Bool) (l : List ByteArray) (u : ∀ r ∈ l, Ev prog g ([Str r] ++ caps) (B (Q r))) (j : ∀ p, AV.namesL p caps = false) (m : ∀ x, caps.map (res x) = caps) (w : l.length <= 9223372036854775807) (o : JaM caps = true := by rfl) : Ev prog 188 [SLs l, .clo g caps] (B (l.any Q)) := by
 have h := Ju9 g caps Q l u j m w o; rw [<- Je3 Q l 0]; generalize idxG Q l 0 = n at *
 refine EV func188 ?_
 refine SA ?_
 refine Jaa h ?_
 exact SB
theorem Ju8 (g : FuncId) (caps : List AV) (Q : Int -> Bool) (l : List Int) (G : ∀ r ∈ l, Ev prog g ([I r] ++ caps) (B (Q r))) (x : ∀ p, AV.namesL p caps = false) (z : ∀ C, caps.map (res C) = caps) (K : l.length <= 9223372036854775807) (A : JaM caps = true := by rfl) : Ev prog 112 [SL l, .clo g caps] (I (idxG Q l 0)) := by
 refine EV func112 ?_
 refine SD ?_
 refine Jaf (λ k E C => ∃ i : Nat, i + k = l.length /\ idxG Q l 0 = idxG Q (l.drop i) i /\ E 0 = SL l /\ E 1 = .clo g caps /\ E 7 = I l.length /\ E 8 = I i) l.length ⟨0, by omega, rfl, ?_⟩ ?_
 . simp -implicitDefEqProofs (disch := omega) only [go_sem, x]
   rfl
 rintro k E C ⟨i, J, y, j, m, o, u⟩
 simp -implicitDefEqProofs (disch := omega) only [go_sem, j, m, o, u]
 refine Jab (λ F => ?_) (λ F => ?_)
 . have D : i < l.length := by omega
   rw [JaD l i D, idxG] at y; have H := G (gd l i) (Jaj l i D); simp -implicitDefEqProofs (disch := omega) only [go_sem, j, m, o, u, x, z, A, L1c]
   refine Jaa H ?_
   simp -implicitDefEqProofs (disch := omega) only [go_sem, j, m, o, u]
   refine Jab (λ w => ?_) (λ w => ?_)
   . have w : Q (gd l i) = true := by simpa using w
     rw [if_pos w] at y; simp -implicitDefEqProofs (disch := omega) only [go_sem, j, m, o, u, y, results112]
   . have w : ¬ Q (gd l i) = true := by simpa using w
     rw [if_neg w] at y; simp -implicitDefEqProofs (disch := omega) only [go_sem, j, m, o, u]
     refine Jad (l.length - (i + 1)) (by omega) ⟨i + 1, by omega, y, ?_⟩
     simp -implicitDefEqProofs (disch := omega) only [go_sem, j, m, o, u, x]
     rfl
 . obtain rfl : i = l.length := by omega
   rw [L0H, idxG] at y; simp -implicitDefEqProofs (disch := omega) only [go_sem, j, m, o, u, y, results112]
theorem Ju1 (g : FuncId) (caps : List AV) (Q : Int -> Bool) (l : List Int) (u : ∀ r ∈ l, Ev prog g ([I r] ++ caps) (B (Q r))) (j : ∀ p, AV.namesL p caps = false) (m : ∀ x, caps.map (res x) = caps) (w : l.length <= 9223372036854775807) (o : JaM caps = true := by rfl) : Ev prog 66 [SL l, .clo g caps] (B (l.any Q)) := by
 have h := Ju8 g caps Q l u j m w o; rw [<- Je3 Q l 0]; generalize idxG Q l 0 = n at *
 refine EV func66 ?_
 refine SA ?_
 refine Jaa h ?_
 exact SB
theorem Ju6 (g : FuncId) (caps : List AV) (Q : Ck -> Bool) (l : List Ck) (G : ∀ r ∈ l, Ev prog g ([CKP r] ++ caps) (B (Q r))) (x : ∀ p, AV.namesL p caps = false) (z : ∀ C, caps.map (res C) = caps) (K : l.length <= 9223372036854775807) (A : JaM caps = true := by rfl) : Ev prog 107 [CKS l, .clo g caps] (I (idxG Q l 0)) := by
 refine EV func107 ?_
 refine SD ?_
 refine Jaf (λ k E C => ∃ i : Nat, i + k = l.length /\ idxG Q l 0 = idxG Q (l.drop i) i /\ E 0 = CKS l /\ E 1 = .clo g caps /\ E 7 = I l.length /\ E 8 = I i) l.length ⟨0, by omega, rfl, ?_⟩ ?_
 . simp -implicitDefEqProofs (disch := omega) only [go_sem, x]
   rfl
 rintro k E C ⟨i, J, y, j, m, o, u⟩
 simp -implicitDefEqProofs (disch := omega) only [go_sem, j, m, o, u]
 refine Jab (λ F => ?_) (λ F => ?_)
 . have D : i < l.length := by omega
   rw [JaD l i D, idxG] at y; have H := G (gd l i) (Jaj l i D); simp -implicitDefEqProofs (disch := omega) only [go_sem, j, m, o, u, x, z, A, L1c]
   refine Jaa H ?_
   simp -implicitDefEqProofs (disch := omega) only [go_sem, j, m, o, u]
   refine Jab (λ w => ?_) (λ w => ?_)
   . have w : Q (gd l i) = true := by simpa using w
     rw [if_pos w] at y; simp -implicitDefEqProofs (disch := omega) only [go_sem, j, m, o, u, y, results107]
   . have w : ¬ Q (gd l i) = true := by simpa using w
     rw [if_neg w] at y; simp -implicitDefEqProofs (disch := omega) only [go_sem, j, m, o, u]
     refine Jad (l.length - (i + 1)) (by omega) ⟨i + 1, by omega, y, ?_⟩
     simp -implicitDefEqProofs (disch := omega) only [go_sem, j, m, o, u, x]
     rfl
 . obtain rfl : i = l.length := by omega
   rw [L0H, idxG] at y; simp -implicitDefEqProofs (disch := omega) only [go_sem, j, m, o, u, y, results107]
theorem Ju0 (g : FuncId) (caps : List AV) (Q : Ck -> Bool) (l : List Ck) (u : ∀ r ∈ l, Ev prog g ([CKP r] ++ caps) (B (Q r))) (j : ∀ p, AV.namesL p caps = false) (m : ∀ x, caps.map (res x) = caps) (w : l.length <= 9223372036854775807) (o : JaM caps = true := by rfl) : Ev prog 60 [CKS l, .clo g caps] (B (l.any Q)) := by
 have h := Ju6 g caps Q l u j m w o; rw [<- Je3 Q l 0]; generalize idxG Q l 0 = n at *
 refine EV func60 ?_
 refine SA ?_
 refine Jaa h ?_
 exact SB
theorem Jva (g : FuncId) (caps : List AV) (Q : Tf -> Bool) (l : List Tf) (G : ∀ r ∈ l, Ev prog g ([TF r] ++ caps) (B (Q r))) (x : ∀ p, AV.namesL p caps = false) (z : ∀ C, caps.map (res C) = caps) (K : l.length <= 9223372036854775807) (A : JaM caps = true := by rfl) : Ev prog 108 [TFS l, .clo g caps] (I (idxG Q l 0)) := by
 refine EV func108 ?_
 refine SD ?_
 refine Jaf (λ k E C => ∃ i : Nat, i + k = l.length /\ idxG Q l 0 = idxG Q (l.drop i) i /\ E 0 = TFS l /\ E 1 = .clo g caps /\ E 7 = I l.length /\ E 8 = I i) l.length ⟨0, by omega, rfl, ?_⟩ ?_
 . simp -implicitDefEqProofs (disch := omega) only [go_sem, x]
   rfl
 rintro k E C ⟨i, J, y, j, m, o, u⟩
 simp -implicitDefEqProofs (disch := omega) only [go_sem, j, m, o, u]
 refine Jab (λ F => ?_) (λ F => ?_)
 . have D : i < l.length := by omega
   rw [JaD l i D, idxG] at y; have H := G (gd l i) (Jaj l i D); simp -implicitDefEqProofs (disch := omega) only [go_sem, j, m, o, u, x, z, A, L1c]
   refine Jaa H ?_
   simp -implicitDefEqProofs (disch := omega) only [go_sem, j, m, o, u]
   refine Jab (λ w => ?_) (λ w => ?_)
   . have w : Q (gd l i) = true := by simpa using w
     rw [if_pos w] at y; simp -implicitDefEqProofs (disch := omega) only [go_sem, j, m, o, u, y, results108]
   . have w : ¬ Q (gd l i) = true := by simpa using w
     rw [if_neg w] at y; simp -implicitDefEqProofs (disch := omega) only [go_sem, j, m, o, u]
     refine Jad (l.length - (i + 1)) (by omega) ⟨i + 1, by omega, y, ?_⟩
     simp -implicitDefEqProofs (disch := omega) only [go_sem, j, m, o, u, x]
     rfl
 . obtain rfl : i = l.length := by omega
   rw [L0H, idxG] at y; simp -implicitDefEqProofs (disch := omega) only [go_sem, j, m, o, u, y, results108]
theorem Ju3 (g : FuncId) (caps : List AV) (Q : Tf -> Bool) (l : List Tf) (u : ∀ r ∈ l, Ev prog g ([TF r] ++ caps) (B (Q r))) (j : ∀ p, AV.namesL p caps = false) (m : ∀ x, caps.map (res x) = caps) (w : l.length <= 9223372036854775807) (o : JaM caps = true := by rfl) : Ev prog 63 [TFS l, .clo g caps] (B (l.any Q)) := by
 have h := Jva g caps Q l u j m w o; rw [<- Je3 Q l 0]; generalize idxG Q l 0 = n at *
 refine EV func63 ?_
 refine SA ?_
 refine Jaa h ?_
 exact SB
theorem Jpv {a b : ByteArray} (h : a.data.toList = b.data.toList) : a = b := by
 have j : a.data = b.data := L12.1 h
 cases a; cases b; simp only at j; rw [j]
theorem Jds (a b : ByteArray) : (a.toList == b.toList) = decide (a = b) := by
 rw [ByteArray.toList_eq, ByteArray.toList_eq, L0Y, decide_eq_true_iff, beq_iff_eq]
 exact ⟨Jpv, λ h => by rw [h]⟩
theorem Jsx (s : ByteArray) : Ev prog 187 [Str s] (B (decide (s.size = 32))) := by
 refine EV func187 ?_
 refine SA ?_
 have : ((s.size : Int) == 32) = decide (s.size = 32) := by rw [L0Y]; simp; omega
 rw [this]
theorem Jum (s : ByteArray) : Ev prog 186 [Str s] (B (!decide (s.size = 32))) := by
 refine EV func186 ?_
 refine SA ?_
 refine Jaa (Jsx s) ?_
 exact SB
theorem Jo9 {T : Type} (Q : T -> Bool) (l : List T) : (!l.any λ x => !Q x) = l.all Q := by
 induction l with
 | nil => rfl
 | cons x l j => rw [List.any_cons, L1W, <- j]; cases Q x <;> rfl
theorem Jxx (l : List ByteArray) (m : l.length <= 9223372036854775807) : Ev prog 167 [SLs l] (B (digB l)) := by
 have h := Ju2 186 [] (λ s => !decide (s.size = 32)) l (λ r _ => Jum r) (λ _ => rfl) (λ _ => rfl) m
 have j : digB l = !l.any λ s => !decide (s.size = 32) := (Jo9 _ l).symm
 rw [j]
 generalize (l.any λ s => !decide (s.size = 32)) = b at *
 refine EV func167 ?_
 refine SA ?_
 refine Jaa h ?_
 exact SB
theorem Jhg (n : Nat) (z : 2 <= n) (B : n <= 1000000) : Ev prog 130 [I n] (I (Jaq n : Nat)) := by
 refine EV func130 ?_
 refine SA ?_
 refine Jaf (λ k E y => ∃ (a m : Nat), m = 2 ^ a /\ m < n /\ k = n - m /\ E 0 = I n /\ E 3 = I m) (n - 1) ⟨0, 1, rfl, by omega, rfl, ?_⟩ ?_
 . refine SA ?_; try rfl
 rintro k E y ⟨a, m, u, x, A, j, o⟩
 have C : 0 < m := by rw [u]; exact Nat.pow_pos (by omega)
 refine SA ?_
 refine Jab (λ w => ?_) (λ w => ?_)
 . refine SA ?_
   refine Jad (n - 2 * m) (by omega) ⟨a + 1, 2 * m, by rw [u, L10]; omega, by omega, rfl, ?_⟩
   refine SA ?_; try rfl
 . have : Jaq n = m := by rw [u]; exact JsE (by omega) (by omega)
   rw [this]; exact SB
theorem Jfn {l : List ByteArray} (h : ∀ s ∈ l, s.size <= 1000000) (k : Nat) : (∀ s ∈ l.take k, s.size <= 1000000) /\ ∀ s ∈ l.drop k, s.size <= 1000000 :=
 ⟨λ s j => h s (L0J j), λ s j => h s (L16 j)⟩
theorem Jff : ∀ (n : Nat) (l : List ByteArray), l.length <= n -> l.length <= 1000 -> (∀ s ∈ l, s.size <= 1000000) -> Ev prog 128 [SLs l] (Str (Jcz l))
 | n, l, A, I, B => by
  have w := Jeb
  by_cases h0 : l = []
  . subst h0
    have x := Jmg ⟨#[]⟩ (by decide)
    have j : Jcz [] = shaF ⟨#[]⟩ := JhB JaG JaW empF
    rw [j]
    refine EV func128 ?_
    refine SA ?_
    refine Ja0 rfl ?_
    refine SA ?_
    refine Jaa x ?_
    exact SB
  . have C := L1h.2 h0
    by_cases h1 : l.length = 1
    . obtain ⟨s, rfl⟩ : ∃ s, l = [s] := List.length_eq_one_iff.1 h1
      have o := Je5 s (by have := B s (by simp); omega)
      have j : Jcz [s] = JaG s := Jfe JaG JaW empF s
      rw [j]
      refine EV func128 ?_
      refine SA ?_
      refine Jam (by simp) ?_
      refine SA ?_
      refine Ja0 rfl ?_
      simp -implicitDefEqProofs (disch := omega) only [go_sem, JaL]
      refine Jaa o ?_
      exact SB
    . match n, A with
      | 0, A => omega
      | n + 1, A =>
       have y : 2 <= l.length := by omega
       have G := JbO y; have H := Jbn l.length
       have o := Jhg l.length y (by omega)
       have j : Jcz l = JaW (Jcz (l.take (Jaq l.length))) (Jcz (l.drop (Jaq l.length))) := JkM JaG JaW empF y
       rw [j]; generalize Jaq l.length = m at *
       have D := Jff n (l.take m) (by rw [L01]; omega) (by rw [L01]; omega) (Jfn B m).1
       have E := Jff n (l.drop m) (by rw [L0g]; omega) (by rw [L0g]; omega) (Jfn B m).2
       have F := Je9 (Jcz (l.take m)) (Jcz (l.drop m)) (by rw [w, w]; omega)
       refine EV func128 ?_
       refine SA ?_
       refine Jam (by omega) ?_
       refine SA ?_
       refine Jam (by omega) ?_
       refine SA ?_
       refine Jaa o ?_
       have u : (m <= l.length) = True := eq_true (by omega)
       refine SA ?_
       refine Jaa D ?_
       have z : (l.drop m).take (l.length - m) = l.drop m := L03 (by rw [L0g]; omega)
       refine SA ?_
       refine Jaa E ?_
       refine SA ?_
       refine Jaa F ?_
       exact SB
theorem Jlw (l : List ByteArray) (A : l.length <= 9223372036854775807) : Ev prog 159 [SLs l] (B (digB l)) := by
 refine EV func159 ?_
 refine SD ?_
 refine Jaf (λ k E y => ∃ i : Nat, i + k = l.length /\ digB l = digB (l.drop i) /\ E 0 = SLs l /\ E 3 = I i) l.length ⟨0, by omega, rfl, ?_⟩ ?_
 . refine SD ?_; try rfl
 rintro k E y ⟨i, z, j, m, o⟩
 simp -implicitDefEqProofs (disch := omega) only [go_sem, m, o]
 refine Jab (λ w => ?_) (λ w => ?_)
 . have x : i < l.length := by omega
   rw [JaD l i x] at j
   have j : digB l = (decide ((gd l i).size = 32) && digB (l.drop (i + 1))) := j
   simp -implicitDefEqProofs (disch := omega) only [go_sem, m, o]
   refine Jab (λ u => ?_) (λ u => ?_)
   . rw [decide_eq_false (by omega), L06] at j
     simp -implicitDefEqProofs (disch := omega) only [go_sem, j, results159]
   . rw [decide_eq_true (by omega), L0d] at j
     simp -implicitDefEqProofs (disch := omega) only [go_sem, m, o]
     refine Jad (l.length - (i + 1)) (by omega) ⟨i + 1, by omega, j, ?_⟩
     simp -implicitDefEqProofs (disch := omega) only [go_sem, m, o]; try rfl
 . obtain rfl : i = l.length := by omega
   rw [L0H] at j
   have j : digB l = true := j
   simp -implicitDefEqProofs (disch := omega) only [go_sem, m, o, j, results159]
def valW (s : ByteArray) (n i : Nat) : List ByteArray -> ByteArray × Bool
 | [] => if n = 1 then (JaG s, true) else (⟨#[]⟩, false)
 | x :: p => if n = 1 then (JaG s, false) else if i < Jaq n then (JaW (valW s (Jaq n) i p).1 x, (valW s (Jaq n) i p).2) else (JaW x (valW s (n - Jaq n) (i - Jaq n) p).1, (valW s (n - Jaq n) (i - Jaq n) p).2)
theorem Jmi (s : ByteArray) : ∀ (p : List ByteArray) (n i : Nat), 1 <= n -> i < n -> valF JaG JaW s n i p = if (valW s n i p).2 = true then some (valW s n i p).1 else none
 | [], n, i, m, o => by
  rw [valF, valW]
  by_cases h : n = 1
  . rw [if_pos (by omega), if_pos h]; rfl
  . rw [if_neg (by omega), if_neg h]; rfl
 | x :: p, n, i, m, o => by
  rw [valF, valW]
  by_cases h : n = 1
  . rw [if_pos (by omega), if_pos h]; rfl
  . have u := JbO (n := n) (by omega)
    have j := Jbn n
    rw [if_neg (by omega), if_neg h]
    by_cases hk : i < Jaq n
    . rw [if_pos hk, if_pos hk, Jmi s p (Jaq n) i j hk]
      simp only
      split <;> rfl
    . rw [if_neg hk, if_neg hk, Jmi s p (n - Jaq n) (i - Jaq n) (by omega) (by omega)]
      simp only
      split <;> rfl
theorem Jk4 (s : ByteArray) (n i : Nat) (p : List ByteArray) : (valW s n i p).1.size <= 32 := by
 cases p with
 | nil =>
  rw [valW]; split
  . rw [Ja4]; omega
  . show (0 : Nat) <= 32; omega
 | cons x p =>
  rw [valW]; split
  . rw [Ja4]; omega
  . split <;> (rw [Jbt]; omega)
theorem Jno : ∀ (p : List ByteArray) (n i : Nat) (s : ByteArray), 1 <= n -> n <= 60 -> i < n -> s.size <= 1000000 -> p.length <= 9223372036854775807 -> (∀ x ∈ p, x.size = 32) -> Ev prog 160 [I n, I i, Str s, SLs p.reverse] (.tup [Str (valW s n i p).1, B (valW s n i p).2])
 | [], n, i, s, F, J, G, L, z, K => by
  have u := Je5 s (by omega)
  have m : valW s n i [] = if n = 1 then (JaG s, true) else (⟨#[]⟩, false) := rfl
  refine EV func160 ?_
  simp -implicitDefEqProofs (disch := omega) only [go_sem, List.reverse_nil]
  refine Jab (λ h => ?_) (λ h => ?_)
  . rw [if_pos (by omega)] at m
    rw [m]; refine SD ?_
    refine Jaa u ?_
    simp -implicitDefEqProofs (disch := omega) only [go_sem, results160]; try rfl
  . rw [if_neg (by omega)] at m
    rw [m]; refine SD ?_
    refine Ja0 (by decide) ?_
    simp -implicitDefEqProofs (disch := omega) only [go_sem, results160]
 | x :: p, n, i, s, F, J, G, L, z, K => by
  have u := Je5 s (by omega)
  have U := K x (by simp)
  rw [L0e] at z
  have m : valW s n i (x :: p) = if n = 1 then (JaG s, false) else if i < Jaq n then (JaW (valW s (Jaq n) i p).1 x, (valW s (Jaq n) i p).2) else (JaW x (valW s (n - Jaq n) (i - Jaq n) p).1, (valW s (n - Jaq n) (i - Jaq n) p).2) := rfl
  generalize valW s n i (x :: p) = r at *
  have j : (x :: p).reverse.length = p.length + 1 := by simp
  have A : gd (x :: p).reverse p.length = x := by
   rw [L1N, Jbl _ _ _ (by simp), L1k, L1v]; rfl
  have C : (x :: p).reverse.take p.length = p.reverse := by
   have e : p.reverse.length = p.length := L1k
   rw [L1N, <- e, List.take_left']
   rfl
  have o : (((p.length + 1 : Nat) : Int) - 1) = p.length := by omega
  have M := λ n i F J G => Jno p n i s F J G L (by omega) (λ y S => K y (by simp [S]))
  generalize (x :: p).reverse = R at *
  refine EV func160 ?_
  simp -implicitDefEqProofs (disch := omega) only [go_sem, j, o]
  refine Jab (λ h => ?_) (λ h => ?_)
  . rw [if_pos (by omega)] at m
    subst m; simp -implicitDefEqProofs (disch := omega) only [go_sem, j, o]
    refine Jaa u ?_
    simp -implicitDefEqProofs (disch := omega) only [go_sem, j, o, results160]
    try rw [decide_eq_false (by omega)]
  . rw [if_neg (by omega)] at m
    have T := JbO (n := n) (by omega)
    have N := Jbn n
    have H := Jhg n (by omega) (by omega)
    simp -implicitDefEqProofs (disch := omega) only [go_sem, j, o]
    refine Jam (by omega) ?_
    simp -implicitDefEqProofs (disch := omega) only [go_sem, j, o]
    refine Jaa H ?_
    simp -implicitDefEqProofs (disch := omega) only [go_sem, j, o]
    refine Jab (λ Q => ?_) (λ Q => ?_)
    . rw [if_pos (by omega)] at m
      have D := M (Jaq n) i N (by omega) (by omega)
      have E := Je9 (valW s (Jaq n) i p).1 x (by have := Jk4 s (Jaq n) i p; omega)
      generalize valW s (Jaq n) i p = q at *; subst m
      have w : (p.length <= p.length + 1) = True := eq_true (by omega)
      simp -implicitDefEqProofs (disch := omega) only [go_sem, j, o, C, w, L11]
      refine Jaa D ?_
      simp -implicitDefEqProofs (disch := omega) only [go_sem, j, o, A]
      refine Jaa E ?_
      simp -implicitDefEqProofs (disch := omega) only [go_sem, results160]
    . rw [if_neg (by omega)] at m
      have D := M (n - Jaq n) (i - Jaq n) (by omega) (by omega) (by omega)
      have E := Je9 x (valW s (n - Jaq n) (i - Jaq n) p).1 (by have := Jk4 s (n - Jaq n) (i - Jaq n) p; omega)
      generalize valW s (n - Jaq n) (i - Jaq n) p = q at *
      have O : (((n - Jaq n : Nat)) : Int) = (n : Int) - (Jaq n : Nat) := by omega
      have P : (((i - Jaq n : Nat)) : Int) = (i : Int) - (Jaq n : Nat) := by omega
      rw [O, P] at D; subst m
      have w : (p.length <= p.length + 1) = True := eq_true (by omega)
      simp -implicitDefEqProofs (disch := omega) only [go_sem, j, o, C, w, L11]
      refine Jaa D ?_
      simp -implicitDefEqProofs (disch := omega) only [go_sem, j, o, A]
      refine Jaa E ?_
      simp -implicitDefEqProofs (disch := omega) only [go_sem, results160]
theorem Jv3 (j : ByteArray) (n i : Int) (s : ByteArray) (p : List ByteArray) (E : n <= 60) (D : s.size <= 1000000) (w : p.length <= 9223372036854775807) : Ev prog 132 [Str j, I n, I i, Str s, SLs p] (B (verB j n i s p)) := by
 have z := Jlw p w
 have m : verB j n i s p = (decide (0 <= i /\ i < n) && (digB p && decide (valF JaG JaW s n.toNat i.toNat p.reverse = some j))) := rfl
 refine EV func132 ?_
 refine SD ?_
 refine Jaa z ?_
 refine SD ?_
 refine Jab (λ A => ?_) (λ A => ?_)
 . rw [decide_eq_false (by omega), L06] at m
   rw [m]; simp -implicitDefEqProofs (disch := omega) only [go_sem, results132]
 refine SD ?_
 refine Jab (λ C => ?_) (λ C => ?_)
 . rw [decide_eq_false (by omega), L06] at m
   rw [m]; simp -implicitDefEqProofs (disch := omega) only [go_sem, results132]
 rw [decide_eq_true (by omega), L0d] at m
 cases hd : digB p with
 | false =>
  rw [hd, L06] at m; rw [m]; simp -implicitDefEqProofs (disch := omega) only [go_sem, results132]
 | true =>
  rw [hd, L0d] at m
  obtain ⟨N, rfl⟩ : ∃ N : Nat, n = N := ⟨n.toNat, by omega⟩
  obtain ⟨J, rfl⟩ : ∃ J : Nat, i = J := ⟨i.toNat, by omega⟩
  rw [L1e, L1e, Jmi s p.reverse N J (by omega) (by omega)] at m
  have o : ∀ x ∈ p.reverse, x.size = 32 := λ x y => by
   rw [List.mem_reverse] at y
   have := L0f.1 hd x y
   simpa using this
  have u := Jno p.reverse N J s (by omega) (by omega) (by omega) D (by rw [L1k]; exact w) o
  rw [L2y] at u; generalize valW s N J p.reverse = q at *; obtain ⟨v, ok⟩ := q; refine SD ?_
  refine Jaa u ?_
  rw [m]
  cases ok with
  | false =>
   refine SA ?_; try rfl
  | true =>
   simp -implicitDefEqProofs (disch := omega) only [go_sem, Jds, results132]; try simp
theorem JrB (R : List ByteArray) (o : R.length <= 9223372036854775807) : Ev prog 168 [SLs R] (if R = [] then .tup [Str ⟨#[]⟩, .new 9 1 [], B false] else .tup [Str (gd R (R.length - 1)), SLs (R.take (R.length - 1)), B true]) := by
 by_cases h : R = []
 . subst h; rw [if_pos rfl]
   refine EV func168 ?_
   refine SA ?_
   refine Ja0 rfl ?_
   exact SB
 . have u := L1h.2 h; rw [if_neg h]
   have m : ((R.length : Int) - 1).toNat = R.length - 1 := by omega
   have j : (R.length - 1 <= R.length) = True := eq_true (by omega)
   refine EV func168 ?_
   refine SA ?_
   refine Jam (by omega) ?_
   simp -implicitDefEqProofs (disch := omega) only [go_sem, m, j, L11, results168]
def JfI (x : ByteArray × Bool) (part : ByteArray) : ByteArray := if x.2 = true then JaW x.1 part else JaW part x.1
theorem Jqm (x : ByteArray × Bool) (part : ByteArray) (h : x.1.size + part.size <= 99999999) : Ev prog 171 [SDP x, Str part] (Str (JfI x part)) := by
 obtain ⟨r, b⟩ := x
 refine EV func171 ?_
 simp only at h
 cases b with
 | true =>
  refine SA ?_
  refine Jaa (JeA r part (by omega)) ?_
  refine SA ?_; try rfl
 | false =>
  refine SA ?_
  refine Jaa (JeA part r (by omega)) ?_
  refine SA ?_; try rfl
def wayF : Nat -> Nat -> List ByteArray -> Option (List (ByteArray × Bool) × List ByteArray)
 | n, _, [] => if n <= 1 then some ([], []) else none
 | n, i, x :: p => if n <= 1 then some ([], x :: p) else if i < Jaq n then (wayF (Jaq n) i p).map λ q => ((x, false) :: q.1, q.2) else (wayF (n - Jaq n) (i - Jaq n) p).map λ q => ((x, true) :: q.1, q.2)
theorem Jmj (s : ByteArray) : ∀ (p : List ByteArray) (n i : Nat), valF JaG JaW s n i p = match wayF n i p with
    | some (w, []) => some (w.foldr JfI (JaG s))
    | _ => none
  | [], n, i => by
    rw [valF, wayF]
    by_cases h : n <= 1
    . rw [if_pos h, if_pos h]; rfl
    . rw [if_neg h, if_neg h]
  | x :: p, n, i => by
    rw [valF, wayF]
    by_cases h : n <= 1
    . rw [if_pos h, if_pos h]
    . rw [if_neg h, if_neg h]
      by_cases hk : i < Jaq n
      . rw [if_pos hk, if_pos hk, Jmj s p]
        cases wayF (Jaq n) i p with
        | none => rfl
        | some q =>
          obtain ⟨w, r⟩ := q
          cases r with
          | nil => rfl
          | cons => rfl
      . rw [if_neg hk, if_neg hk, Jmj s p]
        cases wayF (n - Jaq n) (i - Jaq n) p with
        | none => rfl
        | some q =>
          obtain ⟨w, r⟩ := q
          cases r with
          | nil => rfl
          | cons => rfl
theorem Juj (w : List (ByteArray × Bool)) (x : ByteArray) (b : Bool) (o : Option (List (ByteArray × Bool) × List ByteArray)) : (o.map λ q => ((x, b) :: q.1, q.2)).map (λ q => (w ++ q.1, q.2)) = o.map λ q => ((w ++ [(x, b)]) ++ q.1, q.2) := by
 cases o with
 | none => rfl
 | some q => simp
theorem JtA {s : ByteArray} : ∀ w : List (ByteArray × Bool), (w.foldr JfI (JaG s)).size = 32
 | [] => Ja4 s
 | x :: w => by
  rw [List.foldr_cons]; unfold JfI
  split <;> exact Jbt _ _
set_option maxHeartbeats 4000000 in
theorem Jzw (root : ByteArray) (n i : Int) (s : ByteArray) (p : List ByteArray) (hn : n <= 60) (hs : s.size <= 1000000) (hp : p.length <= 1000000) : Ev prog 140 [Str root, I n, I i, Str s, SLs p] (B (verB root n i s p)) := by
 have h1 := Jxx p (by omega)
 have hv : verB root n i s p = (decide (0 <= i /\ i < n) && (digB p && decide (valF JaG JaW s n.toNat i.toNat p.reverse = some root))) := rfl
 obtain ⟨z, hz⟩ : ∃ z, verB root n i s p = z := ⟨_, rfl⟩
 rw [hz] at hv ⊢; clear hz
 refine EV func140 ?_
 refine SD ?_
 refine Jab (λ h2 => ?_) (λ h2 => ?_)
 . rw [decide_eq_false (by omega), L06] at hv
   subst hv; simp -implicitDefEqProofs (disch := omega) only [go_sem, results140]
 refine SD ?_
 refine Jab (λ h3 => ?_) (λ h3 => ?_)
 . rw [decide_eq_false (by omega), L06] at hv
   subst hv; simp -implicitDefEqProofs (disch := omega) only [go_sem, results140]
 rw [decide_eq_true (by omega), L0d] at hv
 refine SD ?_
 refine Jaa h1 ?_
 cases hd : digB p with
 | false =>
  rw [hd, L06] at hv; subst hv; simp -implicitDefEqProofs (disch := omega) only [go_sem, results140]
 | true =>
  rw [hd, L0d] at hv
  obtain ⟨N, rfl⟩ : ∃ N : Nat, n = N := ⟨n.toNat, by omega⟩
  obtain ⟨J, rfl⟩ : ∃ J : Nat, i = J := ⟨i.toNat, by omega⟩
  have h32 : ∀ x ∈ p.reverse, x.size = 32 := λ x hx => by
   rw [List.mem_reverse] at hx
   have := L0f.1 hd x hx
   simpa using this
  rw [L1e, L1e, Jmj s p.reverse N J] at hv
  have hpr : SLs p = SLs p.reverse.reverse := by rw [L2y]
  have hPl : p.reverse.length <= 1000000 := by rw [L1k]; exact hp
  refine SD ?_; rw [hpr]; clear hpr h1 hd hp; generalize p.reverse = P0 at *; generalize hW : wayF N J P0 = W at *
  refine Jaf (λ k E σ => ∃ (n i : Nat) (P : List ByteArray) (w : List (ByteArray × Bool)), 1 <= n /\ n <= 60 /\ i < n /\ k = P.length /\ P.length + w.length <= 1000000 /\ W = (wayF n i P).map (λ q => (w ++ q.1, q.2)) /\ (∀ x ∈ P, x.size = 32) /\ (∀ x ∈ w, x.1.size = 32) /\
   E 0 = Str root /\ E 1 = I n /\ E 2 = I i /\ E 3 = Str s /\ E 4 = SLs P.reverse /\ E 11 = .own 295698608 2 0 w.length /\ σ 295698608 = some ⟨273, 2, w.map SDP⟩) P0.length ⟨N, J, P0, [], by omega, by omega, by omega, rfl, by simpa using hPl, by rw [hW]; cases W <;> simp, h32, (λ x hx => by cases hx), ?_⟩ ?_
  . simp -implicitDefEqProofs (disch := omega) only [go_sem]; try rfl
  clear hPl
  rintro k E σ ⟨n, i, P, w, hn1, hn2, hi, hk, hPw, hW, h32, hw32, e0, e1, e2, e3, e4, e11, m11⟩
  simp -implicitDefEqProofs (disch := omega) only [go_sem, e0, e1, e2, e3, e4, e11, m11]
  refine Jab (λ hc => ?_) (λ hc => ?_)
  . cases P with
    | nil =>
     have hwn : wayF n i [] = none := by rw [wayF, if_neg (by omega)]
     rw [hwn] at hW
     have hW : W = none := hW
     subst hW
     have hv : z = false := hv
     subst hv
     have htk := JrB [] (by decide)
     rw [if_pos rfl] at htk
     have e4 : E 4 = SLs [] := e4
     simp -implicitDefEqProofs (disch := omega) only [go_sem, e0, e1, e2, e3, e4, e11, m11]
     refine Jaa htk ?_
     simp -implicitDefEqProofs (disch := omega) only [go_sem, results140]
    | cons x P =>
     have hx := h32 x (by simp)
     rw [L0e] at hk hPw
     have hrl : (x :: P).reverse.length = P.length + 1 := by simp
     have hrg : gd (x :: P).reverse P.length = x := by
      rw [L1N, Jbl _ _ _ (by simp), L1k, L1v]; rfl
     have hrt : (x :: P).reverse.take P.length = P.reverse := by
      have e : P.reverse.length = P.length := L1k
      rw [L1N, <- e, List.take_left']
      rfl
     have htk := JrB (x :: P).reverse (by omega)
     rw [if_neg (by simp), hrl, L15, hrg, hrt] at htk
     have hle := Jvi n (by omega) (by omega)
     have a1 := JbO (n := n) (by omega)
     have a2 := Jbn n
     have hwc : wayF n i (x :: P) = if i < Jaq n then (wayF (Jaq n) i P).map λ q => ((x, false) :: q.1, q.2) else (wayF (n - Jaq n) (i - Jaq n) P).map λ q => ((x, true) :: q.1, q.2) := by rw [wayF, if_neg (by omega)]
     rw [hwc] at hW; clear hwc
     have hwt : w.take w.length = w := L04
     have h32' : ∀ y ∈ P, y.size = 32 := λ y hy => h32 y (by simp [hy])
     generalize Jaq n = m at *; simp -implicitDefEqProofs (disch := omega) only [go_sem, e0, e1, e2, e3, e4, e11, m11]
     refine Jaa htk ?_
     simp -implicitDefEqProofs (disch := omega) only [go_sem, e0, e1, e2, e3, e4, e11, m11]
     refine Jaa hle ?_
     simp -implicitDefEqProofs (disch := omega) only [go_sem, e0, e1, e2, e3, e4, e11, m11, hwt]
     refine Jab (λ hk2 => ?_) (λ hk2 => ?_)
     . rw [if_neg (by omega), Juj] at hW
       have hd : decide ((m : Int) <= i) = true := decide_eq_true hk2
       simp -implicitDefEqProofs (disch := omega) only [go_sem, e0, e1, e2, e3, e4, e11, m11, hwt, hd]
       refine Jad P.length (by omega) ⟨n - m, i - m, P, w ++ [(x, true)], by omega, by omega, by omega, rfl, by simp; omega, hW, h32', ?_, ?_⟩
       . intro y hy
         rcases L0t.1 hy with hy | hy
         . exact hw32 y hy
         . rw [L0u.1 hy]; exact hx
       . have q1 : ((n - m : Nat) : Int) = (n : Int) - m := by omega
         have q2 : ((i - m : Nat) : Int) = (i : Int) - m := by omega
         rw [q1, q2]; simp -implicitDefEqProofs (disch := omega) only [go_sem, e0, e1, e2, e3, e4, e11, m11, hwt, L0b, L0e, L0r]; try simp
     . rw [if_pos (by omega), Juj] at hW
       have hd : decide ((m : Int) <= i) = false := decide_eq_false hk2
       simp -implicitDefEqProofs (disch := omega) only [go_sem, e0, e1, e2, e3, e4, e11, m11, hwt, hd]
       refine Jad P.length (by omega) ⟨m, i, P, w ++ [(x, false)], by omega, by omega, by omega, rfl, by simp; omega, hW, h32', ?_, ?_⟩
       . intro y hy
         rcases L0t.1 hy with hy | hy
         . exact hw32 y hy
         . rw [L0u.1 hy]; exact hx
       . simp -implicitDefEqProofs (disch := omega) only [go_sem, e0, e1, e2, e3, e4, e11, m11, hwt, L0b, L0e, L0r]; try simp
  . have hwn : wayF n i P = some ([], P) := by
     cases P with
     | nil => rw [wayF, if_pos (by omega)]
     | cons x P => rw [wayF, if_pos (by omega)]
    rw [hwn] at hW
    have hW : W = some (w ++ [], P) := hW
    rw [L0F] at hW; subst hW
    have hlf := JfL s (by omega)
    have hPl : P.reverse.length = P.length := L1k
    have hwt : w.take w.length = w := L04
    simp -implicitDefEqProofs (disch := omega) only [go_sem, e0, e1, e2, e3, e4, e11, m11]
    refine Jaa hlf ?_
    simp -implicitDefEqProofs (disch := omega) only [go_sem, e0, e1, e2, e3, e4, e11, m11]
    refine Jan rfl ?_
    refine JcZ [295698608] ?_
    simp -implicitDefEqProofs (disch := omega) only [go_sem, e0, e1, e2, e3, e4, e11, m11, hwt]
    refine Jaa (Jsa w) ?_
    simp -implicitDefEqProofs (disch := omega) only [go_sem, e0, e1, e2, e3, e4, e11, m11]
    refine JbG ?_
    refine JcN [] [295698688] 18481252 (bkD w w.length)
     (λ xs σ => ∃ k : Nat, k <= w.length /\ xs = bkD w k /\ σ 295698688 = some ⟨9, 1, [Str ((w.drop k).foldr JfI (JaG s))]⟩)
     (g := 190) (caps := [.pt (SDS w) 0]) ?_ ?_ ?_ ?_ ?_ ?_ ?_ ?_
    . exact SC
    . rw [Jon]; exact Jpi w (by omega)
    . exact Jpo w _
    . exact SC
    . exact SC
    . refine ⟨w.length, L09 _, rfl, ?_⟩
      rw [L0H]; refine SD ?_; try rfl
    . rintro E0 hE0 y rest σ' ⟨k, hk, hx, m8⟩
      have e16 : E0 16 = .ptr 295698688 1 0 0 := by rw [hE0]; exact SC
      clear hE0
      cases k with
      | zero => cases hx
      | succ k =>
       have hx : y :: rest = [I k, SDP (gd w k)] :: bkD w k := hx
       rw [List.cons.injEq] at hx; obtain ⟨rfl, rfl⟩ := hx
       have hdk : (w.drop k).foldr JfI (JaG s) = JfI (gd w k) ((w.drop (k + 1)).foldr JfI (JaG s)) := by rw [JaD w k (by omega)]; rfl
       have hjn := Jqm (gd w k) ((w.drop (k + 1)).foldr JfI (JaG s)) (by rw [JtA, hw32 _ (Jaj w k (by omega))]; omega)
       rw [<- hdk] at hjn; generalize (w.drop (k + 1)).foldr JfI (JaG s) = q at *; simp -implicitDefEqProofs (disch := omega) only [go_sem, e16, m8]
       refine Jaa hjn ?_
       simp -implicitDefEqProofs (disch := omega) only [go_sem, e16, m8]
       refine ⟨inL [], λ _ _ => rfl, k, by omega, rfl, ?_⟩
       exact SC
    . rintro E0 hE0 σ' ⟨k, hk, hx, m8⟩
      have e16 : E0 16 = .ptr 295698688 1 0 0 := by rw [hE0]; exact SC
      have f0 : E0 0 = Str root := by rw [hE0]; simp -implicitDefEqProofs (disch := omega) only [go_sem, e0]
      have f4 : E0 4 = SLs P.reverse := by rw [hE0]; simp -implicitDefEqProofs (disch := omega) only [go_sem, e4]
      clear hE0
      cases k with
      | succ k => cases hx
      | zero =>
       rw [List.drop_zero] at m8
       cases P with
       | nil =>
        have hv : z = decide (some (w.foldr JfI (JaG s)) = some root) := hv
        have f4 : E0 4 = SLs [] := f4
        generalize w.foldr JfI (JaG s) = q at *; subst hv; simp -implicitDefEqProofs (disch := omega) only [go_sem, e16, f0, f4, m8]
        refine Ja0 rfl ?_
        simp -implicitDefEqProofs (disch := omega) only [go_sem, e16, f0, f4, m8, Jds, results140]; try simp
       | cons x P =>
        have hv : z = false := hv
        subst hv; rw [L0e] at hPl; generalize w.foldr JfI (JaG s) = q at *; simp -implicitDefEqProofs (disch := omega) only [go_sem, e16, f0, f4, m8, hPl]
        refine Jam (by omega) ?_
        simp -implicitDefEqProofs (disch := omega) only [go_sem, e16, f0, f4, m8, Jds, results140]
@[go_sem] theorem JCF (l : List ByteArray) (i : Nat) (x : ByteArray) : (l.map Str).set i (.v (.string x)) = (l.set i x).map Str := by simp
abbrev Jcc (l : List ByteArray) (i : Nat) : List ByteArray := JcM JaG JaW empF l i
theorem JfU {l : List ByteArray} (h : 2 <= l.length) (i : Nat) : Jcc l i = if i < Jaq l.length then Jcz (l.drop (Jaq l.length)) :: Jcc (l.take (Jaq l.length)) i else Jcz (l.take (Jaq l.length)) :: Jcc (l.drop (Jaq l.length)) (i - Jaq l.length) := JfW JaG JaW empF h i
theorem Jd7 : ∀ (n : Nat) (l : List ByteArray) (i : Nat), l.length <= n -> (Jcc l i).length <= l.length
 | 0, l, i, j => by
  have : Jcc l i = [] := JbI JaG JaW empF (by omega) i
  rw [this]; simp
 | n + 1, l, i, j => by
  by_cases h : 2 <= l.length
  . have m := JbO h; have o := Jbn l.length; rw [JfU h]
    split
    . have := Jd7 n (l.take (Jaq l.length)) i (by rw [L01]; omega)
      rw [L01] at this
      rw [L0e]; omega
    . have := Jd7 n (l.drop (Jaq l.length)) (i - Jaq l.length) (by rw [L0g]; omega)
      rw [L0g] at this
      rw [L0e]; omega
  . have : Jcc l i = [] := JbI JaG JaW empF (by omega) i
    rw [this]; simp
set_option maxHeartbeats 2000000 in
theorem JeF : ∀ (n : Nat) (l : List ByteArray) (i : Nat), l.length <= n -> i < l.length -> l.length <= 60 -> (∀ s ∈ l, s.size <= 1000000) -> Ev prog 96 [SLs l, I i] (.tup [.new 9 1 ((Jcc l i).reverse.map Str), I 0])
 | 0, l, i, L, H, K, G => absurd H (by omega)
 | n + 1, l, i, L, H, K, G => by
  by_cases h1 : l.length = 1
  . have B : Jcc l i = [] := JbI JaG JaW empF (by omega) i
    rw [B]
    refine EV func96 ?_
    refine SA ?_
    refine Jam (by omega) ?_
    refine SA ?_
    refine Jam (by omega) ?_
    refine SA ?_
    refine Ja0 (by omega) ?_
    refine SA ?_; try rfl
  . have A := Jhg l.length (by omega) (by omega)
    have P := JbO (n := l.length) (by omega)
    have S := Jbn l.length
    have u := JfU (l := l) (by omega) i
    generalize Jcc l i = Q at *; generalize Jaq l.length = m at *
    have o : (m <= l.length) = True := eq_true (by omega)
    have j : (l.drop m).take (l.length - m) = l.drop m := L03 (by rw [L0g]; omega)
    have x := (Jfn G m).1; have y := (Jfn G m).2
    have N := Jff _ (l.drop m) (L09 _) (by rw [L0g]; omega) y
    have O := Jff _ (l.take m) (L09 _) (by rw [L01]; omega) x
    refine EV func96 ?_
    refine SD ?_
    refine Jam (by omega) ?_
    refine SD ?_
    refine Jam (by omega) ?_
    refine SD ?_
    refine Jam (by omega) ?_
    refine SD ?_
    refine Jaa A ?_
    refine SD ?_
    refine Jab (λ J => ?_) (λ J => ?_)
    . rw [if_pos (by omega)] at u
      have z := JeF n (l.take m) i (by rw [L01]; omega) (by rw [L01]; omega) (by rw [L01]; omega) x
      have D := Jd7 _ (l.take m) i (L09 _)
      have E := L01 (i := m) (l := l)
      have C := L0g (i := m) (l := l)
      generalize Jcc (l.take m) i = q at *; subst u; rw [L1N]
      have F : q.reverse.length = q.length := L1k
      generalize q.reverse = R at *
      have w : R.take R.length = R := L04
      simp -implicitDefEqProofs (disch := omega) only [go_sem, o, j, L11]
      refine Jaa z ?_
      simp -implicitDefEqProofs (disch := omega) only [go_sem, o, j, L11]
      refine Jaa N ?_
      simp -implicitDefEqProofs (disch := omega) only [go_sem, w, results96]; try simp
    . rw [if_neg (by omega)] at u
      have z := JeF n (l.drop m) (i - m) (by rw [L0g]; omega) (by rw [L0g]; omega) (by rw [L0g]; omega) y
      have M : ((i - m : Nat) : Int) = (i : Int) - m := by omega
      rw [M] at z; have D := Jd7 _ (l.drop m) (i - m) (L09 _)
      have E := L01 (i := m) (l := l)
      have C := L0g (i := m) (l := l)
      generalize Jcc (l.drop m) (i - m) = q at *; subst u; rw [L1N]
      have F : q.reverse.length = q.length := L1k
      generalize q.reverse = R at *
      have w : R.take R.length = R := L04
      simp -implicitDefEqProofs (disch := omega) only [go_sem, o, j, L11]
      refine Jaa z ?_
      simp -implicitDefEqProofs (disch := omega) only [go_sem, o, j, L11]
      refine Jaa O ?_
      exact SB; try simp
abbrev HDP (h : Hd) : AV := .agg [I h.c, I h.n, Str h.r, Str h.s]
abbrev RGP (r : Rg) : AV := .agg [I r.c, SLs r.l]
theorem Jsy (s : ByteArray) : Ev prog 165 [Str s] (B (decide (s.size = 32))) := by
 refine EV func165 ?_
 refine SA ?_
 have : ((s.size : Int) == 32) = decide (s.size = 32) := by rw [L0Y]; simp; omega
 rw [this]
theorem Jhe (n a b : Int) : Ev prog 164 [I n, I a, I b] (B (decide (a <= n /\ n <= b))) := by
 refine EV func164 ?_
 refine SA ?_
 refine Jab (λ j => ?_) (λ j => ?_)
 . exact SB
   try simp [j]
 . exact SB
   try simp [j]
theorem JfG (n a b : Int) : Ev prog 95 [I n, I a, I b] (B (decide (a <= n /\ n <= b))) := by
 refine EV func95 ?_
 refine SA ?_
 refine Jab (λ j => ?_) (λ j => ?_)
 . exact SB
   try simp [j]
 . exact SB
   try simp [j]
theorem JhA (r : Rg) (G : r.l.length <= 9223372036854775807) : Ev prog 127 [RGP r] (B (regB r)) := by
 have y := JfG r.c 0 7
 have m : regB r = (decide (0 <= r.c /\ r.c <= 7) && (decide (r.l.length <= 60) && r.l.all λ s => decide (s.size <= 1000))) := rfl
 obtain ⟨z, H⟩ : ∃ z, regB r = z := ⟨_, rfl⟩
 rw [H] at m ⊢; generalize decide (0 <= r.c /\ r.c <= 7) = b1 at *; obtain ⟨c, l⟩ := r
 simp only at G m
 refine EV func127 ?_
 refine SD ?_
 refine Jaa y ?_
 cases b1 with
 | false =>
  subst m; simp -implicitDefEqProofs (disch := omega) only [go_sem, results127]; try rfl
 | true =>
  refine SD ?_
  refine Jab (λ A => ?_) (λ A => ?_)
  . rw [decide_eq_false (by omega)] at m
    subst m; simp -implicitDefEqProofs (disch := omega) only [go_sem, results127]; try rfl
  rw [decide_eq_true (by omega), L0d, L0d] at m
  refine SD ?_
  refine Jaf (λ k E x => ∃ i : Nat, i + k = l.length /\ z = (l.drop i).all (λ s => decide (s.size <= 1000)) /\ E 1 = .ptr 268435472 2 0 0 /\ E 3 = I i /\ x 268435472 = some ⟨144, 2, [.agg [I c, SLs l]]⟩) l.length ⟨0, by omega, m, ?_⟩ ?_
  . refine SD ?_; try rfl
  rintro k E x ⟨i, J, j, o, u, w⟩
  simp -implicitDefEqProofs (disch := omega) only [go_sem, o, u, w]
  refine Jab (λ D => ?_) (λ D => ?_)
  . have F : i < l.length := by omega
    rw [JaD l i F, L1W] at j; simp -implicitDefEqProofs (disch := omega) only [go_sem, o, u, w]
    refine Jab (λ C => ?_) (λ C => ?_)
    . rw [decide_eq_false (by omega), L06] at j
      subst j; simp -implicitDefEqProofs (disch := omega) only [go_sem, results127]
    . rw [decide_eq_true (by omega), L0d] at j
      simp -implicitDefEqProofs (disch := omega) only [go_sem, o, u, w]
      refine Jad (l.length - (i + 1)) (by omega) ⟨i + 1, by omega, j, ?_⟩
      simp -implicitDefEqProofs (disch := omega) only [go_sem, o, u, w]; try rfl
  . obtain rfl : i = l.length := by omega
    rw [L0H] at j
    have j : z = true := j
    subst j; simp -implicitDefEqProofs (disch := omega) only [go_sem, results127]
theorem JuI (h : Hd) (x : 0 <= h.c /\ h.c <= 7) (y : 0 <= h.n /\ h.n <= 60) (z : h.r.size <= 1000000) : Ev prog 158 [HDP h] (Str (JcE h)) := by
 have m := Jd9 4 (by omega) (by omega)
 have o := Jd9 h.c (by omega) (by omega)
 have u := Jd9 h.n (by omega) (by omega)
 have A := Jay 4; have B := Jay h.c; have C := Jay h.n
 refine EV func158 ?_
 refine SA ?_
 refine Jaa m ?_
 refine SA ?_
 refine Jaa o ?_
 refine SA ?_
 refine Jaa u ?_
 have j : (viS 4 ++ viS h.c).size = (viS 4).size + (viS h.c).size := L0w
 have w : (viS 4 ++ viS h.c ++ viS h.n).size = (viS 4).size + (viS h.c).size + (viS h.n).size := by rw [L0w, j]
 refine SA ?_; try rfl
theorem Jfv (h : Hd) : (JcE h).size <= 30 + h.r.size := by
 have j := Jay 4; have m := Jay h.c; have o := Jay h.n; unfold JcE; rw [L0w, L0w, L0w]
 omega
theorem Jng (key : ByteArray) (h : Hd) (y : key.size <= 10000) (u : 0 <= h.c /\ h.c <= 7) (w : 0 <= h.n /\ h.n <= 60) (x : h.r.size <= 1000000) : Ev prog 129 [Str key, HDP h] (Str (Jfh key h)) := by
 have j := JuI h u w x; have z := Jfv h
 have m := Je5 (JcE h) (by omega)
 have o := Je9 key (JaG (JcE h)) (by rw [Ja4]; omega)
 unfold Jfh; generalize JcE h = q at *
 refine EV func129 ?_
 refine SA ?_
 refine Jaa j ?_
 refine SA ?_
 refine Jaa m ?_
 refine SA ?_
 refine Jaa o ?_
 exact SB
theorem JfQ (u : Bool) (l : List Int) (n : Int) (x : l.length <= 1000000) (j : -4611686018427387903 <= n /\ n <= 4611686018427387903) :
 LOK prog 185 (inI [350224464]) [.ptr 350224464 2 0 0, I n] (stO (bLS u l)) (.tup []) (stO (bLS true (l ++ bI (viS n)))) := by
 refine Jbp [] [350224464] func185 rfl (by kernel_rfl) mo (nb rfl) rfl (by kernel_rfl) (by kernel_rfl) ?_
 have o := Jc2 n j.1 j.2; have w := Jay n; generalize viS n = v at *; refine SA ?_
 refine Jaa o ?_
 refine SA ?_
 refine Jan rfl ?_
 have m : LOK prog 85 (inI [350224464]) ([.ptr 350224464 2 0 0, Str v] ++ []) (stO (bLS u l)) (.tup [I v.size, .v .nilIface]) (stO (bLS true (l ++ bI v))) := Jla u l v (by omega)
 refine JaY [350224464] m ?_ ?_ ?_ ?_ ?_ ?_ ?_ (hsp := λ id _ h => h)
 . exact SC
 . exact SC
 . cases u <;> simp -implicitDefEqProofs (disch := omega) only [go_sem]
 . cases u <;> simp -implicitDefEqProofs (disch := omega) only [go_sem]
 . cases u <;> simp -implicitDefEqProofs (disch := omega) only [go_sem]
 . exact SC
 . exact SB
set_option maxHeartbeats 1000000 in
theorem JvJ (key : ByteArray) (h : Hd) (D : key.size <= 10000) (C : 0 <= h.c /\ h.c <= 7) (E : 0 <= h.n /\ h.n <= 60) (F : h.r.size <= 1000000) : Ev prog 166 [Str key, HDP h] (Str (Jfh key h)) := by
 have z := Jfv h
 have y := JfL (JcE h) (by omega)
 have A := JeA key (JaG (JcE h)) (by rw [Ja4]; omega)
 have B : bI (JcE h) = ((bI (viS 4) ++ bI (viS h.c)) ++ bI (viS h.n)) ++ bI h.r := by unfold JcE; rw [Jby, Jby, Jby]
 have j : (JcE h).size ≠ 0 := by
  have := JrO 4
  unfold JcE
  rw [L0w, L0w, L0w]; omega
 have J : (bI (viS 4)).length <= 10 := by rw [Jar]; exact Jay 4
 have K : (bI (viS h.c)).length <= 10 := by rw [Jar]; exact Jay h.c
 have L : (bI (viS h.n)).length <= 10 := by rw [Jar]; exact Jay h.n
 have m := JfQ false [] 4 (by simp) (by omega)
 have u := JfQ true (bI (viS 4)) h.c (by omega) (by omega)
 have w := JfQ true (bI (viS 4) ++ bI (viS h.c)) h.n (by rw [L0b]; omega) (by omega)
 have o := Jla true (bI (viS 4) ++ bI (viS h.c) ++ bI (viS h.n)) h.r (by rw [L0b, L0b]; omega)
 have x := JoK true (JcE h) j (by omega)
 rw [<- B] at o; rw [L1T] at m; unfold Jfh; generalize JcE h = q at *; generalize bI (viS 4) = G at *; generalize bI (viS h.c) = H at *; generalize bI (viS h.n) = I at *
 change LOK _ _ _ ([_, _] ++ []) _ _ _ at m
 change LOK _ _ _ ([_, _] ++ []) _ _ _ at u
 change LOK _ _ _ ([_, _] ++ []) _ _ _ at w
 change LOK _ _ _ ([_, _] ++ []) _ _ _ at o
 change LOK _ _ _ ([_] ++ []) _ _ _ at x
 refine EV func166 ?_
 refine SA ?_
 refine Jan rfl ?_
 refine Jd6 350224464 350224465 0 1 5 1 (k := ⟨292, 2, [.agg [.v (.pointer none), .v (.slice none 0 0)]]⟩) (el := .agg [.v (.pointer none), .v (.slice none 0 0)]) SC (by decide) rfl rfl (by decide) SC rfl ?_
 refine JaY [350224464] m ?_ ?_ ?_ ?_ ?_ ?_ ?_
 . exact SC
 . exact SC
 . refine SA ?_
   simp
 . exact SC
 . exact SC
 . exact SC
 refine SA ?_
 refine Jan rfl ?_
 refine JaY [350224464] u ?_ ?_ ?_ ?_ ?_ ?_ ?_
 . exact SC
 . exact SC
 . exact SC
 . exact SC
 . exact SC
 . exact SC
 refine SA ?_
 refine Jan rfl ?_
 refine JaY [350224464] w ?_ ?_ ?_ ?_ ?_ ?_ ?_
 . exact SC
 . exact SC
 . exact SC
 . exact SC
 . exact SC
 . exact SC
 refine SA ?_
 refine Jan rfl ?_
 refine JaY [350224464] o ?_ ?_ ?_ ?_ ?_ ?_ ?_
 . exact SC
 . exact SC
 . exact SC
 . exact SC
 . exact SC
 . exact SC
 refine SD ?_
 refine Jan rfl ?_
 refine JaY [350224464] x ?_ ?_ ?_ ?_ ?_ ?_ ?_
 . exact SC
 . exact SC
 . exact SC
 . exact SC
 . exact SC
 . exact SC
 refine SA ?_
 refine Jaa y ?_
 refine SA ?_
 refine Jaa A ?_
 exact SB
theorem JmH (key : ByteArray) (h : Hd) : genB key h = (decide (key.size = 32) && (decide (0 <= h.c /\ h.c <= 7) && (decide (0 <= h.n /\ h.n <= 60) && (decide (h.r.size = 32) && decide (h.s = Jfh key h))))) := by
 unfold genB; simp only [Bool.decide_and, L1o]
theorem Jyf (key : ByteArray) (h : Hd) (C : h.r.size <= 9223372036854775807) : Ev prog 139 [Str key, HDP h] (B (genB key h)) := by
 have m := Jhe h.c 0 7; have o := Jhe h.n 0 60; have u := Jsy key
 have w := λ (E : key.size = 32) (x : 0 <= h.c /\ h.c <= 7) (A : 0 <= h.n /\ h.n <= 60) (F : h.r.size = 32) => JvJ key h (by omega) x A (by omega)
 have j := JmH key h
 obtain ⟨z, D⟩ : ∃ z, genB key h = z := ⟨_, rfl⟩
 rw [D] at j ⊢; generalize Jfh key h = S at *; obtain ⟨c, n, r, s⟩ := h
 simp only at *
 refine EV func139 ?_
 refine SA ?_
 by_cases h1 : 0 <= c /\ c <= 7
 rotate_left
 . rw [decide_eq_false h1] at m j; rw [L06, L1E] at j; subst j
   refine Jaa m ?_
   refine SA ?_
   refine Jaa u ?_
   generalize decide (key.size = 32) = b at *
   cases b <;> simp -implicitDefEqProofs (disch := omega) only [go_sem, results139]
 rw [decide_eq_true h1] at m j
 refine Jaa m ?_
 refine SA ?_
 by_cases h2 : 0 <= n /\ n <= 60
 rotate_left
 . rw [decide_eq_false h2] at o j; rw [L06, L1E, L1E] at j; subst j
   refine Jaa o ?_
   refine SA ?_
   refine Jaa u ?_
   generalize decide (key.size = 32) = b at *
   cases b <;> simp -implicitDefEqProofs (disch := omega) only [go_sem, results139]
 rw [decide_eq_true h2] at o j
 refine Jaa o ?_
 have y : ((r.size : Int) == 32) = decide (r.size = 32) := by rw [L0Y]; simp; omega
 refine SA ?_
 refine Jaa u ?_
 by_cases h3 : key.size = 32
 rotate_left
 . rw [decide_eq_false h3] at j ⊢; rw [L06] at j; subst j; exact SB
 rw [decide_eq_true h3] at j ⊢
 by_cases h4 : r.size = 32
 rotate_left
 . rw [decide_eq_false h4] at j ⊢; rw [L06, L1E, L1E, L1E] at j; subst j; exact SB
 rw [decide_eq_true h4] at j ⊢; simp only [L0d] at j; refine SA ?_
 refine Jaa (w h3 h1 h2 h4) ?_
 subst j; simp -implicitDefEqProofs (disch := omega) only [go_sem, Jds, results139]
theorem JuW (key : ByteArray) (h : Hd) (C : h.r.size <= 9223372036854775807) : Ev prog 131 [Str key, HDP h] (B (genB key h)) := by
 have m := JfG h.c 0 7; have o := JfG h.n 0 60
 have u := λ (E : key.size = 32) (y : 0 <= h.c /\ h.c <= 7) (A : 0 <= h.n /\ h.n <= 60) (F : h.r.size = 32) => Jng key h (by omega) y A (by omega)
 have j := JmH key h
 obtain ⟨z, D⟩ : ∃ z, genB key h = z := ⟨_, rfl⟩
 rw [D] at j ⊢; generalize Jfh key h = S at *; obtain ⟨c, n, r, s⟩ := h
 simp only at *
 refine EV func131 ?_
 refine SD ?_
 refine Jab (λ w => ?_) (λ w => ?_)
 . rw [decide_eq_false (by omega), L06] at j
   subst j; simp -implicitDefEqProofs (disch := omega) only [go_sem, results131]
 rw [decide_eq_true (by omega), L0d] at j
 refine SD ?_
 by_cases h1 : 0 <= c /\ c <= 7
 rotate_left
 . rw [decide_eq_false h1] at m j; rw [L06] at j; subst j
   refine Jaa m ?_
   simp -implicitDefEqProofs (disch := omega) only [go_sem, results131]
 rw [decide_eq_true h1] at m j; rw [L0d] at j
 refine Jaa m ?_
 refine SD ?_
 by_cases h2 : 0 <= n /\ n <= 60
 rotate_left
 . rw [decide_eq_false h2] at o j; rw [L06] at j; subst j
   refine Jaa o ?_
   simp -implicitDefEqProofs (disch := omega) only [go_sem, results131]
 rw [decide_eq_true h2] at o j; rw [L0d] at j
 refine Jaa o ?_
 refine SD ?_
 refine Jab (λ x => ?_) (λ x => ?_)
 . rw [decide_eq_false (by omega), L06] at j
   subst j; simp -implicitDefEqProofs (disch := omega) only [go_sem, results131]
 rw [decide_eq_true (by omega), L0d] at j
 refine SA ?_
 refine Jaa (u (by omega) h1 h2 (by omega)) ?_
 subst j; simp -implicitDefEqProofs (disch := omega) only [go_sem, Jds, results131]
end Go.Proofs.YtlecbpkidomjbaaGreatDoor

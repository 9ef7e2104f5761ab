/- Clocks, legs, trees, seals -/
import Derived.Test.YtlecbpkidomjbaaGreatDoorKF
set_option linter.all false
namespace Go.Proofs.YtlecbpkidomjbaaGreatDoor
open Go.Proofs.Tryz
open Go.Vai Go
structure Rd where
 l : Int
 a : Int
 b : Int
 deriving DecidableEq
instance : Inhabited Rd := ⟨⟨0, 0, 0⟩⟩
structure Ck where
 d : Int
 r : List Rd
 deriving DecidableEq
instance : Inhabited Ck := ⟨⟨0, []⟩⟩
def ascR : Int -> List Rd -> Bool
 | _, [] => true
 | j, r :: l => decide (j < r.l /\ r.l <= 10000000 /\ 0 <= r.a /\ r.a <= r.b /\ r.b <= 10000000) && ascR r.l l
def Jb3 (c : Ck) : Bool := decide (0 <= c.d /\ c.d <= 100 /\ c.r.length <= 12) && ascR (-1) c.r
theorem JcT {c : Ck} : Jb3 c = true ↔ (0 <= c.d /\ c.d <= 100 /\ c.r.length <= 12) /\ ascR (-1) c.r = true := by
 unfold Jb3; rw [L00, decide_eq_true_iff]
theorem Jip : ∀ {l : List Rd} {last : Int}, ascR last l = true -> ∀ r ∈ l, last < r.l /\ r.l <= 10000000 /\ 0 <= r.a /\ r.a <= r.b /\ r.b <= 10000000
  | [], _, _, r, h => by cases h
  | x :: l, last, h, r, hr => by
    rw [ascR, L00, decide_eq_true_iff] at h
    rcases L0o.1 hr with rfl | hr
    . exact h.1
    . have := Jip h.2 r hr
      omega
def sLo (d n : Int) : Int := if 0 < n then 1000 * (n - 1) / (1000 + d) + 1 else 0
def sHi (d n : Int) : Int := (1000 * (n + 1) - 1) / (1000 - d)
theorem JqQ {d n : Int} (j : 0 <= d /\ d <= 100) (u : 0 <= n) : 0 <= sLo d n /\ sLo d n <= n := by
 unfold sLo
 split
 . have m : 0 <= 1000 * (n - 1) / (1000 + d) := L1J (by omega) (by omega)
   have o : 1000 * (n - 1) / (1000 + d) <= n - 1 := by
    refine Int.ediv_le_of_le_mul (by omega) ?_
    have : 0 <= (n - 1) * d := L1L (by omega) j.1
    rw [Int.mul_add]; omega
   omega
 . omega
theorem JmS {d n : Int} (j : 0 <= d /\ d <= 100) (m : 0 <= n) : 0 <= sHi d n /\ sHi d n <= 2 * n + 2 := by
 unfold sHi
 refine ⟨L1J (by omega) (by omega), ?_⟩
 refine Int.ediv_le_of_le_mul (by omega) ?_
 have : (2 * n + 2) * d <= (2 * n + 2) * 100 := L2v j.2 (by omega)
 rw [Int.mul_sub]; omega
def Fit (d x n : Int) : Prop := (1000 - d) * x - 1000 < 1000 * n /\ 1000 * n < (1000 + d) * x + 1000
instance (d x n : Int) : Decidable (Fit d x n) := by unfold Fit; exact inferInstance
def Jfa (d t : Int) (w : Int × Int) (r : Rd) : Int × Int :=
 if t < r.l then (max w.1 (r.a - sHi d (r.l - t)), min w.2 (r.b - sLo d (r.l - t)))
 else if t = r.l then (max w.1 (r.a - sHi d 0), min w.2 (r.b + sHi d 0))
 else (max w.1 (r.a + sLo d (t - r.l)), min w.2 (r.b + sHi d (t - r.l)))
def winF (d t : Int) (l : List Rd) : Int × Int := l.foldl (Jfa d t) (0, 10000000)
theorem Jq6 (d t : Int) (w : Int × Int) (r : Rd) : w.1 <= (Jfa d t w r).1 /\ (Jfa d t w r).2 <= w.2 := by
 unfold Jfa
 split
 . simp only; omega
 . split
   . simp only; omega
   . simp only; omega
theorem Jpv (d t : Int) : ∀ (l : List Rd) (w : Int × Int), w.1 <= (l.foldl (Jfa d t) w).1 /\ (l.foldl (Jfa d t) w).2 <= w.2
 | [], w => by simp
 | r :: l, w => by
  have j := Jq6 d t w r; have m := Jpv d t l (Jfa d t w r)
  rw [L17]; omega
theorem Jtg (d t : Int) (l : List Rd) : 0 <= (winF d t l).1 /\ (winF d t l).2 <= 10000000 := Jpv d t l _
def atF (c : Ck) (t : Int) : Option (Int × Int) :=
 if Jb3 c = true /\ (0 <= t /\ t <= 10000000) /\ (winF c.d t c.r).1 <= (winF c.d t c.r).2 then some (winF c.d t c.r) else none
theorem Jl2 {c : Ck} {t : Int} {w : Int × Int} : atF c t = some w ↔ (Jb3 c = true /\ (0 <= t /\ t <= 10000000) /\ (winF c.d t c.r).1 <= (winF c.d t c.r).2) /\ winF c.d t c.r = w := by
 unfold atF
 split
 . rename_i h; simp [h]
 . rename_i h; simp [h]
def Jaf (c n : Int) : Int := (if c < 0 then -(c + 1) else c).tmod n
theorem Jai {c n : Int} (j : 0 < n) : 0 <= Jaf c n /\ Jaf c n < n := by
 unfold Jaf
 split
 . exact ⟨Int.tmod_nonneg _ (by omega), Int.tmod_lt_of_pos _ j⟩
 . exact ⟨Int.tmod_nonneg _ (by omega), Int.tmod_lt_of_pos _ j⟩
def sumB (d : Int) (rates : List Int) (t : Int) : Nat -> Int
 | 0 => 0
 | k + 1 => sumB d rates t k + (if 100 * (k : Int) < t then (Jaf (gd rates k) (2 * d + 1) - d) * min (t - 100 * k) 100 else 0)
def sumA (d : Int) (rates : List Int) (t : Int) : Int := sumB d rates t (min rates.length 20)
def milF (d : Int) (rates : List Int) (t : Int) : Int := sumA d rates t + 1000 * t
def JbE (d : Int) (j : Int) (rates : List Int) (t : Int) : Int := Jaf j 1000 + milF d rates t / 1000
theorem Jt0 {d : Int} (A : 0 <= d) (r : Int) (w : -d <= r /\ r <= d) (k : Nat) {s t : Int} (z : s <= t) :
 let f := λ u : Int => if 100 * (k : Int) < u then r * min (u - 100 * k) 100 else 0
 let g := λ u : Int => if 100 * (k : Int) < u then min (u - 100 * k) 100 else 0
 0 <= g t - g s /\ -(d * (g t - g s)) <= f t - f s /\ f t - f s <= d * (g t - g s) := by
 intro f g
 have j : ∀ u, f u = r * g u := λ u => by
  show (if _ then _ else _) = r * (if _ then _ else _)
  split <;> simp
 have m : 0 <= g t - g s := by
  show 0 <= (if 100 * (k : Int) < t then min (t - 100 * k) 100 else 0) - (if 100 * (k : Int) < s then min (s - 100 * k) 100 else 0)
  split <;> split <;> omega
 refine ⟨m, ?_⟩
 rw [j, j, <- Int.mul_sub]
 have y : r * (g t - g s) <= d * (g t - g s) := L1Y w.2 m
 have o : -d * (g t - g s) <= r * (g t - g s) := L1Y w.1 m
 rw [Int.neg_mul] at o
 exact ⟨o, y⟩
def covN (t : Int) : Nat -> Int
 | 0 => 0
 | k + 1 => covN t k + (if 100 * (k : Int) < t then min (t - 100 * k) 100 else 0)
theorem Jk6 {t : Int} (j : 0 <= t) : ∀ k : Nat, covN t k = min t (100 * k)
 | 0 => by simp only [covN]; omega
 | k + 1 => by rw [covN, Jk6 j k]; split <;> omega
theorem JkG {d : Int} (u : 0 <= d) (rates : List Int) {s t : Int} (j : s <= t) : ∀ k : Nat, 0 <= covN t k - covN s k /\ -(d * (covN t k - covN s k)) <= sumB d rates t k - sumB d rates s k /\ sumB d rates t k - sumB d rates s k <= d * (covN t k - covN s k)
 | 0 => by simp [sumB, covN]
 | k + 1 => by
  have h := JkG u rates j k
  have A := Jai (c := gd rates k) (n := 2 * d + 1) (by omega)
  have w := Jt0 u (Jaf (gd rates k) (2 * d + 1) - d) (by omega) k j
  simp only at w
  simp only [sumB, covN]
  generalize (if 100 * (k : Int) < t then (Jaf (gd rates k) (2 * d + 1) - d) * min (t - 100 * k) 100 else 0) = y at *
  generalize (if 100 * (k : Int) < s then (Jaf (gd rates k) (2 * d + 1) - d) * min (s - 100 * k) 100 else 0) = z at *
  generalize (if 100 * (k : Int) < t then min (t - 100 * k) 100 else 0) = m at *
  generalize (if 100 * (k : Int) < s then min (s - 100 * k) 100 else 0) = o at *
  have e : d * (covN t k + m - (covN s k + o)) = d * (covN t k - covN s k) + d * (m - o) := by rw [<- Int.mul_add]; congr 1; omega
  rw [e]
  omega
theorem JiN {d : Int} (u : 0 <= d) (rates : List Int) {s t : Int} (o : 0 <= s) (j : s <= t) : (1000 - d) * (t - s) <= milF d rates t - milF d rates s /\ milF d rates t - milF d rates s <= (1000 + d) * (t - s) := by
 obtain ⟨z, A, B⟩ := JkG u rates j (min rates.length 20)
 have w := Jk6 o (min rates.length 20); have y := Jk6 (Int.le_trans o j) (min rates.length 20)
 have m : covN t (min rates.length 20) - covN s (min rates.length 20) <= t - s := by omega
 have C : d * (covN t (min rates.length 20) - covN s (min rates.length 20)) <= d * (t - s) := L2v m u
 unfold milF sumA; rw [Int.sub_mul, Int.add_mul]
 omega
theorem JiO (d : Int) (rates : List Int) : milF d rates 0 = 0 := by
 have : ∀ k : Nat, sumB d rates 0 k = 0 := λ k => by
  induction k with
  | zero => rfl
  | succ k j => rw [sumB, j, if_neg (by omega)]; rfl
 unfold milF sumA; rw [this]; rfl
theorem JqT {d : Int} (u : 0 <= d /\ d <= 100) (j : Int) (rates : List Int) {s t : Int} (o : 0 <= s) (m : s <= t) : JbE d j rates s <= JbE d j rates t /\ Fit d (t - s) (JbE d j rates t - JbE d j rates s) := by
 obtain ⟨w, y⟩ := JiN u.1 rates o m
 have z : 0 <= (1000 - d) * (t - s) := L1L (by omega) (by omega)
 unfold Fit JbE
 omega
theorem Jdm {d : Int} (w : 0 <= d /\ d <= 100) (j : Int) (rates : List Int) {t : Int} (m : 0 <= t) : 0 <= JbE d j rates t /\ JbE d j rates t <= 1000 + 2 * t := by
 obtain ⟨o, u⟩ := JiN w.1 rates (L1K 0) m
 have y : 0 <= (1000 - d) * (t - 0) := L1L (by omega) (by omega)
 have z : d * t <= 100 * t := L1Y w.2 m
 have A := Jai (c := j) (n := 1000) (by omega)
 rw [JiO, Int.add_mul] at u; rw [JiO] at o; simp only [Int.sub_zero] at o u y; unfold JbE
 omega
def JwX (d j : Int) (rates : List Int) (r : Rd) : Prop := ∃ t, 0 <= t /\ r.l = JbE d j rates t /\ r.a <= t /\ t <= r.b
def JfM (d j : Int) (rates : List Int) (t : Int) (q : Int × Int × Int) : Rd := ⟨JbE d j rates t, max (t - Jaf q.2.1 51) 0, t + Jaf q.2.2 51⟩
def putR (d j : Int) (rates : List Int) (t : Int) (l : List Rd) (q : Int × Int × Int) : List Rd :=
 if Jaf q.1 3000 = t /\ (l = [] \/ (gd l (l.length - 1)).l < JbE d j rates t) then l ++ [JfM d j rates t q] else l
def rowR (d j : Int) (rates : List Int) (at_ : List (Int × Int × Int)) (t : Int) (l : List Rd) : Nat -> List Rd
 | 0 => l
 | i + 1 => putR d j rates t (rowR d j rates at_ t l i) (gd at_ i)
def Jdf (d j : Int) (rates : List Int) (at_ : List (Int × Int × Int)) : Nat -> List Rd
 | 0 => []
 | t + 1 => rowR d j rates at_ t (Jdf d j rates at_ t) (min at_.length 12)
def clkF (j m : Int) (rates : List Int) (at_ : List (Int × Int × Int)) : Ck := ⟨Jaf j 101, Jdf (Jaf j 101) m rates at_ 3000⟩
theorem Jjs : ∀ (l : List Rd) (j : Int) (r : Rd), ascR j (l ++ [r]) = true ↔ ascR j l = true /\ ((l = [] /\ j < r.l) \/ (l ≠ [] /\ (gd l (l.length - 1)).l < r.l)) /\ r.l <= 10000000 /\ 0 <= r.a /\ r.a <= r.b /\ r.b <= 10000000
 | [], j, r => by simp [ascR]
 | x :: l, j, r => by
  rw [L0K, ascR, ascR, L00, L00, Jjs l x.l r]
  have e : (gd (x :: l) ((x :: l).length - 1)) = if l = [] then x else gd l (l.length - 1) := by
   cases l with
   | nil => rfl
   | cons y l =>
    rw [if_neg (by simp)]
    show gd (x :: y :: l) ((y :: l).length + 1 - 1) = _
    rw [L1e, show (y :: l).length = (y :: l).length - 1 + 1 by simp, Jap]
    simp
  rw [e]
  by_cases hl : l = []
  . subst hl; simp [ascR]
  . simp [hl, and_assoc]
section
variable (d start : Int) (rates : List Int) (at_ : List (Int × Int × Int))
def cntB (T : Nat) : Nat -> Nat
 | 0 => 0
 | i + 1 => cntB T i + if Jaf (gd at_ i).1 3000 < T then 1 else 0
def cntE (t : Nat) : Nat -> Nat
 | 0 => 0
 | i + 1 => cntE t i + if Jaf (gd at_ i).1 3000 = t then 1 else 0
theorem Jpc (T : Nat) : ∀ i, cntB at_ (T + 1) i = cntB at_ T i + cntE at_ T i
 | 0 => rfl
 | i + 1 => by
  rw [cntB, cntB, cntE, Jpc T i]
  by_cases h : Jaf (gd at_ i).1 3000 < (T : Int)
  . rw [if_pos (by omega), if_pos h, if_neg (by omega)]; omega
  . by_cases h2 : Jaf (gd at_ i).1 3000 = (T : Int)
    . rw [if_pos (by omega), if_neg h, if_pos h2]; omega
    . rw [if_neg (by omega), if_neg h, if_neg h2]; omega
theorem Jpd (T : Nat) : ∀ i, cntB at_ T i <= i
 | 0 => L08 _
 | i + 1 => by have := Jpd T i; rw [cntB]; split <;> omega
structure Good (l : List Rd) : Prop where
 asc : ascR (-1) l = true
 tru : ∀ r ∈ l, JwX d start rates r
theorem JsN (hd : 0 <= d /\ d <= 100) {t : Nat} (ht : t < 3000) {l : List Rd} (h : Good d start rates l) (q : Int × Int × Int) : Good d start rates (putR d start rates t l q) /\ (putR d start rates t l q).length <= l.length + if Jaf q.1 3000 = t then 1 else 0 := by
  have h1 := Jai (c := q.2.1) (n := 51) (by omega)
  have h2 := Jai (c := q.2.2) (n := 51) (by omega)
  have h3 := Jdm hd start rates (t := t) (by omega)
  unfold putR
  split
  . rename_i hc
    refine ⟨⟨?_, ?_⟩, ?_⟩
    . rw [Jjs]
      refine ⟨h.asc, ?_, ?_⟩
      . by_cases hl : l = []
        . exact .inl ⟨hl, by simp only [JfM]; omega⟩
        . exact .inr ⟨hl, by rcases hc.2 with e | e; exact absurd e hl; exact e⟩
      . simp only [JfM]; omega
    . intro r hr
      rcases L0t.1 hr with hr | hr
      . exact h.tru r hr
      . obtain rfl := L0r.1 hr
        exact ⟨t, by omega, rfl, by simp only [JfM]; omega, by simp only [JfM]; omega⟩
    . rw [L0a, if_pos hc.1]; simp
  . exact ⟨h, by omega⟩
theorem Ji3 (j : 0 <= d /\ d <= 100) {t : Nat} (m : t < 3000) {l : List Rd} (h : Good d start rates l) : ∀ i, Good d start rates (rowR d start rates at_ t l i) /\ (rowR d start rates at_ t l i).length <= l.length + cntE at_ t i
 | 0 => ⟨h, L08 _⟩
 | i + 1 => by
  obtain ⟨o, w⟩ := Ji3 j m h i
  obtain ⟨u, y⟩ := JsN d start rates j m o (gd at_ i)
  rw [rowR, cntE]
  exact ⟨u, by omega⟩
theorem Jg5 (j : 0 <= d /\ d <= 100) : ∀ T : Nat, T <= 3000 -> Good d start rates (Jdf d start rates at_ T) /\ (Jdf d start rates at_ T).length <= cntB at_ T (min at_.length 12)
 | 0, _ => ⟨⟨rfl, λ r h => by cases h⟩, L15 _⟩
 | T + 1, y => by
  obtain ⟨m, u⟩ := Jg5 j T (by omega)
  obtain ⟨o, w⟩ := Ji3 d start rates at_ j (t := T) (by omega) m (min at_.length 12)
  rw [Jdf, Jpc]
  exact ⟨o, by omega⟩
end
theorem Jl9 (j m : Int) (rates : List Int) (at_ : List (Int × Int × Int)) : Good (Jaf j 101) m rates (clkF j m rates at_).r /\ Jb3 (clkF j m rates at_) = true := by
 have u := Jai (c := j) (n := 101) (by omega)
 obtain ⟨o, w⟩ := Jg5 (Jaf j 101) m rates at_ (by omega) 3000 (L08 _)
 have y := Jpd at_ 3000 (min at_.length 12)
 refine ⟨o, JcT.2 ⟨⟨u.1, by simp only [clkF]; omega, by simp only [clkF]; omega⟩, o.asc⟩⟩
structure Cn where
 b : Int
 e : Int
 deriving DecidableEq
structure Lg where
 f : Int
 t : Int
 g : Cn
 k : Cn
 deriving DecidableEq
instance : Inhabited Cn := ⟨⟨0, 0⟩⟩
instance : Inhabited Lg := ⟨⟨0, 0, default, default⟩⟩
def cntF (n : Cn) : Bool := decide (0 <= n.b /\ n.b <= n.e /\ n.e <= 10000000)
theorem JdV {n : Cn} : cntF n = true ↔ 0 <= n.b /\ n.b <= n.e /\ n.e <= 10000000 := decide_eq_true_iff
def legF (l : Lg) : Bool := decide ((0 <= l.f /\ l.f <= 7) /\ (0 <= l.t /\ l.t <= 7) /\ l.f ≠ l.t) && (cntF l.g && cntF l.k)
theorem JbS {l : Lg} : legF l = true ↔ ((0 <= l.f /\ l.f <= 7) /\ (0 <= l.t /\ l.t <= 7) /\ l.f ≠ l.t) /\ cntF l.g = true /\ cntF l.k = true := by
 unfold legF; simp only [L00, decide_eq_true_iff]
structure Sn where
 b : Int × Int
 e : Int × Int
 deriving DecidableEq
instance : Inhabited Sn := ⟨⟨(0, 0), (0, 0)⟩⟩
def Jdy (c : Ck) (n : Cn) : Option Sn := match atF c n.b, atF c n.e with
 | some w, some v => if cntF n = true then some ⟨w, v⟩ else none
 | _, _ => none
def JcL (w v : Int × Int) : Int × Int := (max w.1 v.1, min w.2 v.2)
def JnQ (s t : Sn) : Option Sn :=
 if (JcL s.b t.b).1 <= (JcL s.b t.b).2 /\ (JcL s.e t.e).1 <= (JcL s.e t.e).2 /\ (JcL s.b t.b).1 <= (JcL s.e t.e).2 then some ⟨JcL s.b t.b, JcL s.e t.e⟩ else none
def JeI (a b : Ck) (l : Lg) : Option Sn := match Jdy a l.g, Jdy b l.k with
 | some s, some t => if legF l = true then JnQ s t else none
 | _, _ => none
def Jdu (s : Sn) : Int × Int := (s.b.2, max s.b.2 s.e.1)
structure Cr where
 d : Int
 s : Int
 r : List Int
 at_ : List (Int × Int × Int)
instance : Inhabited Cr := ⟨⟨0, 0, [], []⟩⟩
def Cr.show (y : Cr) (t : Int) : Int := JbE (Jaf y.d 101) y.s y.r t
def Cr.clk (y : Cr) : Ck := clkF y.d y.s y.r y.at_
def Cr.cnt (y : Cr) (f t : Int) : Cn := ⟨y.show f, y.show t⟩
theorem Jpg (y : Cr) {f t : Int} (j : 0 <= f) (h : f <= t) (m : t <= 4000000) : cntF (y.cnt f t) = true := by
 have z := Jai (c := y.d) (n := 101) (by omega)
 have o := (JqT (d := Jaf y.d 101) (by omega) y.s y.r j h).1
 have u := Jdm (d := Jaf y.d 101) (by omega) y.s y.r j
 have w := Jdm (d := Jaf y.d 101) (by omega) y.s y.r (t := t) (by omega)
 rw [JdV]; simp only [Cr.cnt, Cr.show]; omega
theorem Jit (s : Sn) : (Jdu s).1 <= (Jdu s).2 := by unfold Jdu; simp only; omega
def Jax (n : Nat) : Nat := 2 ^ Nat.log2 (n - 1)
theorem JbC (n : Nat) : 0 < Jax n := Nat.pos_of_ne_zero (by unfold Jax; exact Nat.ne_of_gt (Nat.pow_pos (by omega)))
theorem Jb8 {n : Nat} (h : 2 <= n) : Jax n < n := by
 have := Nat.log2_self_le (n := n - 1) (by omega)
 unfold Jax; omega
theorem Jsh {n a : Nat} (j : 2 ^ a < n) (m : n <= 2 * 2 ^ a) : Jax n = 2 ^ a := by
 unfold Jax
 have o : 0 < 2 ^ a := Nat.pow_pos (by omega)
 have e : Nat.log2 (n - 1) = a := (Nat.log2_eq_iff (by omega)).2 ⟨by omega, by rw [L0W]; omega⟩
 rw [e]
section
variable {T : Type} [Inhabited T] (leaf : T -> T) (node : T -> T -> T) (emp : T)
def Jc2 : List T -> T
 | [] => emp
 | [s] => leaf s
 | a :: b :: l => node (Jc2 ((a :: b :: l).take (Jax (l.length + 2)))) (Jc2 ((a :: b :: l).drop (Jax (l.length + 2))))
termination_by l => l.length
decreasing_by
 . have := Jb8 (n := l.length + 2) (by omega)
   simp only [L01, L0c]; omega
 . have := JbC (l.length + 2)
   simp only [L0g, L0c]; omega
theorem Jko {l : List T} (h : 2 <= l.length) : Jc2 leaf node emp l = node (Jc2 leaf node emp (l.take (Jax l.length))) (Jc2 leaf node emp (l.drop (Jax l.length))) := by
 match l, h with
 | a :: b :: l, _ => rw [Jc2]; rfl
theorem Je4 (s : T) : Jc2 leaf node emp [s] = leaf s := by rw [Jc2]
theorem Jhl : Jc2 leaf node emp [] = emp := by rw [Jc2]
def JcF : List T -> Nat -> List T
 | [], _ => []
 | [_], _ => []
 | a :: b :: l, i =>
  if i < Jax (l.length + 2) then Jc2 leaf node emp ((a :: b :: l).drop (Jax (l.length + 2))) :: JcF ((a :: b :: l).take (Jax (l.length + 2))) i
  else Jc2 leaf node emp ((a :: b :: l).take (Jax (l.length + 2))) :: JcF ((a :: b :: l).drop (Jax (l.length + 2))) (i - Jax (l.length + 2))
termination_by l => l.length
decreasing_by
 . have := Jb8 (n := l.length + 2) (by omega)
   simp only [L01, L0c]; omega
 . have := JbC (l.length + 2)
   simp only [L0g, L0c]; omega
theorem JfK {l : List T} (h : 2 <= l.length) (i : Nat) : JcF leaf node emp l i =
 if i < Jax l.length then Jc2 leaf node emp (l.drop (Jax l.length)) :: JcF leaf node emp (l.take (Jax l.length)) i
 else Jc2 leaf node emp (l.take (Jax l.length)) :: JcF leaf node emp (l.drop (Jax l.length)) (i - Jax l.length) := by
 match l, h with
 | a :: b :: l, _ => rw [JcF]; rfl
theorem Jbv {l : List T} (h : l.length <= 1) (i : Nat) : JcF leaf node emp l i = [] := by
 match l, h with
 | [], _ => rw [JcF]
 | [_], _ => rw [JcF]
def valF (s : T) (n i : Nat) : List T -> Option T
 | [] => if n <= 1 then some (leaf s) else none
 | x :: p => if n <= 1 then none else if i < Jax n then (valF s (Jax n) i p).map (node · x) else (valF s (n - Jax n) (i - Jax n) p).map (node x ·)
theorem Jhv : ∀ (n : Nat) (l : List T) (i : Nat), l.length <= n -> i < l.length -> valF leaf node (gd l i) l.length i (JcF leaf node emp l i) = some (Jc2 leaf node emp l)
 | 0, l, i, u, j => absurd j (by omega)
 | n + 1, l, i, u, j => by
  by_cases h : 2 <= l.length
  . have w := Jb8 h; have y := JbC l.length; rw [JfK leaf node emp h, Jko leaf node emp h]
    split
    . rename_i o
      rw [valF, if_neg (by omega), if_pos o]
      have m := Jhv n (l.take (Jax l.length)) i (by rw [L01]; omega) (by rw [L01]; omega)
      rw [Jfp _ _ _ o, L01, L0N (by omega)] at m
      rw [m]; rfl
    . rename_i o
      rw [valF, if_neg (by omega), if_neg o]
      have m := Jhv n (l.drop (Jax l.length)) (i - Jax l.length) (by rw [L0g]; omega) (by rw [L0g]; omega)
      rw [JuB, L0g, show Jax l.length + (i - Jax l.length) = i by omega] at m
      rw [m]; rfl
  . match l, j, h with
    | [s], j, _ =>
     have : i = 0 := by simpa using j
     subst this
     rw [Jbv leaf node emp (by simp), Je4, valF, if_pos (by simp)]; rfl
    | _ :: _ :: _, _, h => exact absurd (by simp) h
theorem JfJ {P : T -> Prop} (h0 : P emp) (h1 : ∀ s, P (leaf s)) (h2 : ∀ a b, P (node a b)) : ∀ (n : Nat) (l : List T) (i : Nat), l.length <= n -> ∀ x ∈ JcF leaf node emp l i, P x
  | 0, l, i, hn, x, hx => by rw [Jbv leaf node emp (by omega)] at hx; cases hx
  | n + 1, l, i, hn, x, hx => by
    have hr : ∀ l : List T, P (Jc2 leaf node emp l) := fun l => by
      match l with
      | [] => rw [Jhl]; exact h0
      | [s] => rw [Je4]; exact h1 s
      | a :: b :: l => rw [Jc2]; exact h2 _ _
    by_cases h : 2 <= l.length
    . have e1 := Jb8 h; have e2 := JbC l.length; rw [JfK leaf node emp h] at hx
      split at hx
      . rcases L0o.1 hx with rfl | hx
        . exact hr _
        . exact JfJ h0 h1 h2 n _ i (by rw [L01]; omega) x hx
      . rcases L0o.1 hx with rfl | hx
        . exact hr _
        . exact JfJ h0 h1 h2 n _ _ (by rw [L0g]; omega) x hx
    . rw [Jbv leaf node emp (by omega)] at hx; cases hx
theorem JqL {P : T -> Prop} (j : P emp) (m : ∀ s, P (leaf s)) (o : ∀ a b, P (node a b)) (l : List T) : P (Jc2 leaf node emp l) := by
 match l with
 | [] => rw [Jhl]; exact j
 | [s] => rw [Je4]; exact m s
 | a :: b :: l => rw [Jc2]; exact o _ _
end
set_option maxRecDepth 100000
open Go.Vai Go Go.Proofs
def JaK (a : ByteArray) : ByteArray := shaF (⟨#[0]⟩ ++ a)
def Ja2 (a b : ByteArray) : ByteArray := shaF (⟨#[1]⟩ ++ (a ++ b))
def empF : ByteArray := shaF ⟨#[]⟩
theorem Jbg (a : ByteArray) : (JaK a).size = 32 := Jc3 _
theorem Jbt (a b : ByteArray) : (Ja2 a b).size = 32 := Jc3 _
theorem Jew (a b : ByteArray) (j : a.size + b.size <= 99999999) : Ev prog 80 [Str a, Str b] (Str (Ja2 a b)) := Jqi a b j
theorem Jfy (a : ByteArray) (j : a.size <= 99999999) : Ev prog 81 [Str a] (Str (JaK a)) := Jp0 a j
theorem JiS (a b : ByteArray) (j : a.size + b.size <= 99999999) : Ev prog 157 [Str a, Str b] (Str (Ja2 a b)) := JmF a b j
theorem JiH (a : ByteArray) (j : a.size <= 99999999) : Ev prog 156 [Str a] (Str (JaK a)) := Jmw a j
instance : Inhabited ByteArray := ⟨⟨#[]⟩⟩
structure Hd where
 c : Int
 n : Int
 r : ByteArray
 s : ByteArray
 deriving DecidableEq
instance : Inhabited Hd := ⟨⟨0, 0, default, default⟩⟩
structure It where
 i : Int
 e : ByteArray
 p : List ByteArray
 deriving DecidableEq
instance : Inhabited It := ⟨⟨0, default, []⟩⟩
structure Pt where
 h : Hd
 l : List It
 deriving DecidableEq
instance : Inhabited Pt := ⟨⟨default, []⟩⟩
structure Rg where
 c : Int
 l : List ByteArray
instance : Inhabited Rg := ⟨⟨0, []⟩⟩
def Jcw (h : Hd) : ByteArray := viS 4 ++ viS h.c ++ viS h.n ++ h.r
def JfQ (key : ByteArray) (h : Hd) : ByteArray := Ja2 key (JaK (Jcw h))
def Jcr (l : List ByteArray) : ByteArray := Jc2 JaK Ja2 empF l
theorem Jd7 (l : List ByteArray) : (Jcr l).size = 32 := JqL JaK Ja2 empF (P := λ s => s.size = 32) (Jc3 _) Jbg Jbt l
def regB (r : Rg) : Bool := decide (0 <= r.c /\ r.c <= 7) && (decide (r.l.length <= 60) && r.l.all λ s => decide (s.size <= 1000))
theorem Jd6 {r : Rg} : regB r = true ↔ (0 <= r.c /\ r.c <= 7) /\ r.l.length <= 60 /\ ∀ s ∈ r.l, s.size <= 1000 := by
 unfold regB; simp only [L00, decide_eq_true_iff, L0d]
def genB (key : ByteArray) (h : Hd) : Bool := decide (key.size = 32 /\ (0 <= h.c /\ h.c <= 7) /\ (0 <= h.n /\ h.n <= 60) /\ h.r.size = 32 /\ h.s = JfQ key h)
theorem Jmk {key : ByteArray} {h : Hd} : genB key h = true ↔ key.size = 32 /\ (0 <= h.c /\ h.c <= 7) /\ (0 <= h.n /\ h.n <= 60) /\ h.r.size = 32 /\ h.s = JfQ key h := decide_eq_true_iff
def digB (p : List ByteArray) : Bool := p.all λ s => decide (s.size = 32)
def verB (j : ByteArray) (n i : Int) (s : ByteArray) (p : List ByteArray) : Bool :=
 decide (0 <= i /\ i < n) && (digB p && decide (valF JaK Ja2 s n.toNat i.toNat p.reverse = some j))
def itB (h : Hd) (j : Option Int) (x : It) : Bool := decide (∀ q, j = some q -> q < x.i) && (decide (x.e.size <= 1000) && verB h.r h.n x.i x.e x.p)
def itsB (h : Hd) : Option Int -> List It -> Bool
 | _, [] => true
 | j, x :: l => itB h j x && itsB h (some x.i) l
def Jcz (key : ByteArray) (p : Pt) : Bool := genB key p.h && itsB p.h none p.l
def Jiz (key : ByteArray) (r : Rg) (n : Nat) : Hd := ⟨r.c, n, Jcr (r.l.take n), JfQ key ⟨r.c, n, Jcr (r.l.take n), default⟩⟩
def JeX (r : Rg) (n i : Nat) : It := ⟨i, gd r.l i, (JcF JaK Ja2 empF (r.l.take n) i).reverse⟩
def ascN (n : Nat) : Option Int -> List Int -> Bool
 | _, [] => true
 | j, i :: l => decide ((0 <= i /\ i < n) /\ ∀ q, j = some q -> q < i) && ascN n (some i) l
def Ji7 (key : ByteArray) (r : Rg) (n : Int) (l : List Int) : Option Pt :=
 if key.size = 32 /\ regB r = true /\ (0 <= n /\ n <= r.l.length) /\ ascN n.toNat none l = true then some ⟨Jiz key r n.toNat, l.map λ i => JeX r n.toNat i.toNat⟩ else none
theorem Jqw (r : Rg) (n i : Nat) : digB (JeX r n i).p = true := by
  unfold digB JeX; rw [L0d]
  intro x hx
  rw [List.mem_reverse] at hx
  exact decide_eq_true (JfJ JaK Ja2 empF (P := fun s => s.size = 32) (Jc3 _) Jbg Jbt _ _ i (L08 _) x hx)
theorem Jse {r : Rg} {n i : Nat} (m : n <= r.l.length) (hi : i < n) : verB (Jcr (r.l.take n)) n i (gd r.l i) (JeX r n i).p = true := by
 have j : (r.l.take n).length = n := by rw [L01]; omega
 have h := Jhv JaK Ja2 empF n (r.l.take n) i (by omega) (by omega)
 rw [j, Jfp _ _ _ hi] at h; unfold verB; rw [Jqw, L0h, L00, decide_eq_true_iff, decide_eq_true_iff]
 refine ⟨by omega, ?_⟩
 show valF JaK Ja2 (gd r.l i) ((n : Int)).toNat ((i : Int)).toNat ((JcF JaK Ja2 empF (r.l.take n) i).reverse).reverse = _
 rw [List.reverse_reverse, L1m, L1m]; exact h
theorem JhG {key : ByteArray} {r : Rg} {n : Int} {l : List Int} {p : Pt} (h : Ji7 key r n l = some p) : Jcz key p = true /\ p.h = Jiz key r n.toNat /\ p.l = l.map λ i => JeX r n.toNat i.toNat := by
 unfold Ji7 at h
 split at h
 . rename_i A
   cases h
   obtain ⟨B, j, F, m⟩ := A; have j := Jd6.1 j
   refine ⟨?_, rfl, rfl⟩
   unfold Jcz; rw [L00, Jmk]
   refine ⟨⟨B, j.1, ?_, Jd7 _, rfl⟩, ?_⟩
   . simp only [Jiz]; omega
   . simp only
     generalize u : (none : Option Int) = o at m; clear u
     induction l generalizing o with
     | nil => rfl
     | cons i l D =>
      rw [ascN, L00, decide_eq_true_iff] at m
      obtain ⟨⟨E, y⟩, z⟩ := m
      rw [L0j, itsB, L00]
      have w : (((i.toNat : Nat) : Int)) = i := by omega
      refine ⟨?_, ?_⟩
      . unfold itB; rw [L00, L00, decide_eq_true_iff, decide_eq_true_iff]
        refine ⟨λ q C => ?_, ?_, ?_⟩
        . show q < ((i.toNat : Nat) : Int)
          rw [w]; exact y q C
        . exact j.2.2 _ (Jan _ _ (by omega))
        . exact Jse (by omega) (by omega)
      . show itsB _ (some ((i.toNat : Nat) : Int)) _ = true
        rw [w]; exact D _ z
 . cases h
def preN : Nat -> List It -> List ByteArray
 | _, [] => []
 | v, x :: l => if x.i = v then x.e :: preN (v + 1) l else []
def preF (p : Pt) : List ByteArray := preN 0 p.l
def fstF (u v : ByteArray) : List ByteArray -> Int
 | [] => 0
 | e :: l => if e = u then 1 else if e = v then 2 else fstF u v l
def JcA (l : List ByteArray) (u v : ByteArray) : Int := if u = v then 0 else fstF u v l
def evF (key : ByteArray) (p : Pt) : List ByteArray := if Jcz key p = true then preF p else []
theorem Jpx (u v : ByteArray) : ∀ l, fstF u v l = 0 \/ fstF u v l = 1 \/ fstF u v l = 2
 | [] => .inl rfl
 | e :: l => by
  rw [fstF]
  split
  . exact .inr (.inl rfl)
  . split
    . exact .inr (.inr rfl)
    . exact Jpx u v l
theorem Jps (l : List ByteArray) (u v : ByteArray) : 0 <= JcA l u v /\ JcA l u v <= 2 := by
 unfold JcA
 split
 . omega
 . rcases Jpx u v l with h | h | h <;> omega
instance : Inhabited Tf := ⟨⟨[], 0⟩⟩
def recN (l : Lg) (e : Int) (n : Cn) : ByteArray := viS 8 ++ viS l.f ++ viS l.t ++ viS e ++ viS n.b ++ viS n.e
def recF (l : Lg) (e : Int) : ByteArray := recN l e (if e = 1 then l.g else l.k)
def Jgh (j : List ByteArray) (a b : Ck) (l : Lg) : (Int × Int) × Int := match JeI a b l with
 | some s => (Jdu s, 0)
 | none =>
  if JcA j (recF l 1) (recF l 2) = 1 then (match Jdy a l.g with | some s => (Jdu s, 1) | none => ((0, 0), 0))
  else if JcA j (recF l 1) (recF l 2) = 2 then (match Jdy b l.k with | some s => (Jdu s, 2) | none => ((0, 0), 0))
  else ((0, 0), 0)
structure Tp where
 hops : List (Int × Int)
 legs : List Lg
 cks : List Ck
 tfs : List Tf
 offs : List Int
 key : ByteArray
 part : Pt
 call : ByteArray
 ups : List ByteArray
def JgY (u : Nat) : Int × Int -> List (Int × Int) -> Bool
 | _, [] => true
 | j, h :: l => decide ((0 <= h.1 /\ h.1 <= 7) /\ h.1 ≠ j.1 /\ (j.2 <= h.2 /\ h.2 <= 29) /\ h.2 < u) && JgY u h l
def Jfz (j : List (Int × Int)) : Nat -> List Lg -> Bool
 | _, [] => true
 | i, l :: m => (legF l && decide (l.f = (gd j i).1 /\ l.t = (gd j (i + 1)).1)) && Jfz j (i + 1) m
def Jef (t : Tp) : Bool :=
 Jcz t.key t.part && (decide ((1 <= t.hops.length /\ t.hops.length <= 12) /\ t.legs.length = t.hops.length - 1 /\ t.cks.length = 8 /\ t.tfs.length = 8 /\ t.offs.length = 8 /\ t.ups.length <= 30) &&
  (t.cks.all Jb3 && (t.tfs.all JbF && (t.offs.all Jdz && (JgY t.ups.length (-1, 0) t.hops && Jfz t.hops 0 t.legs)))))
def payF (t : Tp) (i : Nat) : Int :=
 if i = 0 then (gd t.hops 0).1
 else if (gd t.hops (i - 1)).2 + 1 < t.ups.length /\ JcA (evF t.key t.part) (gd t.ups ((gd t.hops (i - 1)).2 + 1).toNat) t.call = 1 then (gd t.hops (i - 1)).1
 else (gd t.hops i).1
def Jde (t : Tp) (l : Lg) : (Int × Int) × Int := Jgh (evF t.key t.part) (gd t.cks l.f.toNat) (gd t.cks l.t.toNat) l
structure Bl where
 p : Int
 q : Int
 f : Int
 t : Int
 a : Int
 deriving DecidableEq
instance : Inhabited Bl := ⟨⟨0, 0, 0, 0, 0⟩⟩
def JrM (t : Tp) (i : Nat) : Bl :=
 let l := gd t.legs i
 let s := (Jde t l).1
 ⟨payF t i, l.t, s.1, s.2, amtF (gd t.tfs l.t.toNat) (gd t.offs l.t.toNat) s.1 s.2⟩
def Jbj (t : Tp) : List Bl := (List.range t.legs.length).map (JrM t)
theorem Jb7 (t : Tp) : (Jbj t).length = t.legs.length := by simp [Jbj]
theorem Jjv (t : Tp) {i : Nat} (h : i < t.legs.length) : gd (Jbj t) i = JrM t i := by simp [Jbj, gd, h]
theorem JpF : ∀ (u : Nat) (l : List (Int × Int)) (j : Int × Int), JgY u j l = true -> ∀ i, i < l.length -> (0 <= (gd l i).1 /\ (gd l i).1 <= 7) /\ (j.2 <= (gd l i).2 /\ (gd l i).2 <= 29) /\ (gd l i).2 < u
 | _, [], _, _, i, m => by simp at m
 | u, h :: l, j, o, i, m => by
  rw [JgY, L00, decide_eq_true_iff] at o
  obtain ⟨⟨w, B, y, z⟩, A⟩ := o
  cases i with
  | zero => rw [JaJ]; exact ⟨w, y, z⟩
  | succ i =>
   rw [Jap]
   obtain ⟨a, b, c⟩ := JpF u l h A i (by simpa using m)
   exact ⟨a, by omega, c⟩
theorem Jp2 : ∀ (j : List (Int × Int)) (l : List Lg) (v : Nat), Jfz j v l = true -> ∀ i, i < l.length -> legF (gd l i) = true /\ (gd l i).f = (gd j (v + i)).1 /\ (gd l i).t = (gd j (v + i + 1)).1
 | _, [], _, _, i, m => by simp at m
 | j, x :: l, v, o, i, m => by
  rw [Jfz, L00, L00, decide_eq_true_iff] at o
  obtain ⟨⟨u, w⟩, y⟩ := o
  cases i with
  | zero => rw [JaJ]; exact ⟨u, w⟩
  | succ i =>
   rw [Jap, show v + (i + 1) = v + 1 + i by omega]
   exact Jp2 j l (v + 1) y i (by simpa using m)
theorem Jjt {c : Ck} {t : Int} {w : Int × Int} (h : atF c t = some w) : 0 <= w.1 /\ w.1 <= w.2 /\ w.2 <= 10000000 := by
 obtain ⟨j, rfl⟩ := Jl2.1 h
 have := Jtg c.d t c.r
 omega
def Sn.ok (s : Sn) : Prop := (0 <= s.b.1 /\ s.b.1 <= s.b.2 /\ s.b.2 <= 10000000) /\ 0 <= s.e.1 /\ s.e.1 <= s.e.2 /\ s.e.2 <= 10000000
theorem JfS {c : Ck} {n : Cn} {s : Sn} (h : Jdy c n = some s) : s.ok := by
 unfold Jdy at h
 split at h
 . rename_i w v j m
   split at h
   . cases h; exact ⟨Jjt j, Jjt m⟩
   . cases h
 . cases h
theorem Jl0 {a b : Ck} {l : Lg} {s : Sn} (h : JeI a b l = some s) : s.ok := by
 unfold JeI at h
 split at h
 . rename_i x y j m; have o := JfS j; have u := JfS m
   split at h
   . unfold JnQ at h
     split at h
     . cases h
       unfold Sn.ok JcL at *
       simp only at *
       omega
     . cases h
   . cases h
 . cases h
theorem JkZ {s : Sn} (h : s.ok) : 0 <= (Jdu s).1 /\ (Jdu s).1 <= (Jdu s).2 /\ (Jdu s).2 <= 10000000 := by
 unfold Sn.ok at h; unfold Jdu
 simp only
 omega
theorem JoR (j : List ByteArray) (a b : Ck) (l : Lg) : Je9 (Jgh j a b l).1.1 (Jgh j a b l).1.2 = true /\ ((Jgh j a b l).2 = 0 \/ (Jgh j a b l).2 = 1 \/ (Jgh j a b l).2 = 2) := by
 rw [JfT]; unfold Jgh
 split
 . rename_i s m
   exact ⟨JkZ (Jl0 m), .inl rfl⟩
 . split
   . split
     . rename_i s m
       exact ⟨JkZ (JfS m), .inr (.inl rfl)⟩
     . exact ⟨by simp only; omega, .inl rfl⟩
   . split
     . split
       . rename_i s m
         exact ⟨JkZ (JfS m), .inr (.inr rfl)⟩
       . exact ⟨by simp only; omega, .inl rfl⟩
     . exact ⟨by simp only; omega, .inl rfl⟩
structure Q4 where
 a : Int
 b : Int
 c : Int
 d : Int
instance : Inhabited Q4 := ⟨⟨0, 0, 0, 0⟩⟩
structure Nm where
 hops : List (Int × Int)
 legs : List (Int × Int × Int)
 crs : List Cr
 bases : List Int
 rates : List Q4
 offs : List Int
 wit : List Int
def numF (l : List Int) (i : Nat) : Int := if l = [] then 0 else gd l (i % l.length)
def crsF (x : Nm) (c : Nat) : Cr := if x.crs = [] then ⟨0, 0, [], []⟩ else gd x.crs (c % x.crs.length)
def JfL (q : Q4) : Rt := ⟨1 + Jaf q.a 127, 1800 * Jaf q.b 48, 1800 * Jaf q.b 48 + 1 + Jaf q.c (86400 - 1800 * Jaf q.b 48), Jaf q.d 2000⟩
def tfQ (j : Int) (x : List Q4) : Tf := ⟨(x.take 4).map JfL, Jaf j 2000⟩
theorem Js7 (j : Int) (x : List Q4) : JbF (tfQ j x) = true := by
 have m := Jai (c := j) (n := 2000) (by omega)
 refine JbU.2 ⟨⟨m.1, by simp only [tfQ]; omega, by simp only [tfQ, L0b, L01]; omega⟩, λ r o => ?_⟩
 obtain ⟨q, _, rfl⟩ := L04.1 o
 have u := Jai (c := q.a) (n := 127) (by omega)
 have w := Jai (c := q.b) (n := 48) (by omega)
 have y := Jai (c := q.c) (n := 86400 - 1800 * Jaf q.b 48) (by omega)
 have z := Jai (c := q.d) (n := 2000) (by omega)
 refine Jck.2 ?_
 simp only [JfL]
 omega
def offF (x : Nm) (c : Nat) : Int := Jaf (numF x.offs c) 100801 - 50400
theorem Jvc (x : Nm) (c : Nat) : Jdz (offF x c) = true := by
 have j := Jai (c := numF x.offs c) (n := 100801) (by omega)
 rw [Jfh]; unfold offF; omega
def hopF (q j : Int × Int) (i : Nat) : Int × Int := (if i = 0 then Jaf q.1 8 else (j.1 + 1 + Jaf q.1 7).tmod 8, min (j.2 + Jaf q.2 4) 20)
def hopN (x : List (Int × Int)) : Nat -> List (Int × Int)
 | 0 => []
 | i + 1 => hopN x i ++ [hopF (gd x i) (gd (hopN x i) (i - 1)) i]
def Jau (x : List (Int × Int)) : List (Int × Int) := if x = [] then [(0, 0)] else hopN x (min x.length 6)
theorem JaX (x : List (Int × Int)) : ∀ i, (hopN x i).length = i
 | 0 => rfl
 | i + 1 => by rw [hopN, L0a, JaX x i]; rfl
theorem JgX (x : List (Int × Int)) : ∀ i, ∀ h ∈ hopN x i, (0 <= h.1 /\ h.1 <= 7) /\ 0 <= h.2 /\ h.2 <= 20
  | 0, h, hh => by cases hh
  | i + 1, h, hh => by
    rw [hopN] at hh
    rcases L0t.1 hh with hh | hh
    . exact JgX x i h hh
    . obtain rfl := L0r.1 hh
      have h1 := Jai (c := (gd x i).1) (n := 8) (by omega)
      have h2 := Jai (c := (gd x i).1) (n := 7) (by omega)
      have h3 := Jai (c := (gd x i).2) (n := 4) (by omega)
      have hl : (0 <= (gd (hopN x i) (i - 1)).1 /\ (gd (hopN x i) (i - 1)).1 <= 7) /\ 0 <= (gd (hopN x i) (i - 1)).2 /\ (gd (hopN x i) (i - 1)).2 <= 20 := by
        by_cases h0 : i = 0
        . subst h0; rw [hopN, JtC]; decide
        . exact JgX x i _ (Jan _ _ (by rw [JaX]; omega))
      unfold hopF
      refine ⟨?_, by simp only; omega⟩
      simp only
      split
      . omega
      . rw [L0V (by omega)]; omega
theorem JiA (x : List (Int × Int)) : ∀ i v, v < i -> gd (hopN x i) v = hopF (gd x v) (gd (hopN x v) (v - 1)) v
 | 0, v, h => absurd h (by omega)
 | i + 1, v, h => by
  rw [hopN]
  by_cases hv : v < i
  . rw [JcM _ _ _ (by rw [JaX]; exact hv), JiA x i v hv]
  . obtain rfl : v = i := by omega
    rw [JbB _ _ _ (by rw [JaX]; omega), JaX, L1y]; rfl
theorem Jr8 (x : List (Int × Int)) : ∀ i v, v < i -> gd (hopN x i) v = gd (hopN x (v + 1)) v := λ i v h => by
 rw [JiA x i v h, JiA x (v + 1) v (by omega)]
theorem JpE (x : List (Int × Int)) {i v : Nat} (h : v + 1 < i) : (gd (hopN x i) (v + 1)).1 ≠ (gd (hopN x i) v).1 /\ (gd (hopN x i) v).2 <= (gd (hopN x i) (v + 1)).2 := by
 rw [JiA x i (v + 1) h, Jr8 x i v (by omega), L1e]
 have j := Jai (c := (gd x (v + 1)).1) (n := 7) (by omega)
 have m := Jai (c := (gd x (v + 1)).2) (n := 4) (by omega)
 have o := JgX x (v + 1) _ (Jan (hopN x (v + 1)) v (by rw [JaX]; omega))
 generalize gd (hopN x (v + 1)) v = h at *; unfold hopF
 simp only
 rw [if_neg (by omega), L0V (by omega)]
 omega
theorem JdI (x : List (Int × Int)) : 1 <= (Jau x).length /\ (Jau x).length <= 6 := by
 unfold Jau
 split
 . simp
 . rename_i h
   have := L1f.2 h
   rw [JaX]; omega
theorem JdX (x : List (Int × Int)) : ∀ h ∈ Jau x, (0 <= h.1 /\ h.1 <= 7) /\ 0 <= h.2 /\ h.2 <= 20 := λ h j => by
 unfold Jau at j
 split at j
 . obtain rfl := L0r.1 j; decide
 . exact JgX x _ h j
theorem Jfs (x : List (Int × Int)) {v : Nat} (h : v + 1 < (Jau x).length) : (gd (Jau x) (v + 1)).1 ≠ (gd (Jau x) v).1 /\ (gd (Jau x) v).2 <= (gd (Jau x) (v + 1)).2 := by
 unfold Jau at *
 split
 . rename_i j; rw [if_pos j] at h; simp at h
 . rename_i j; rw [if_neg j, JaX] at h; exact JpE x h
def JdJ (x : List (Int × Int)) : Int × Int := gd (Jau x) ((Jau x).length - 1)
theorem Jmq (x : List (Int × Int)) : ∀ (k v : Nat), v + k = (Jau x).length - 1 -> 0 < (Jau x).length -> (gd (Jau x) v).2 <= (JdJ x).2
 | 0, v, h, j => by unfold JdJ; rw [<- h, L0Q]; exact L1K _
 | k + 1, v, h, j => by
  have m := Jmq x k (v + 1) (by omega) j
  have o := (Jfs x (v := v) (by omega)).2
  omega
theorem Jmp (u : Nat) : ∀ (l : List (Int × Int)) (j : Int × Int), (∀ h ∈ l, (0 <= h.1 /\ h.1 <= 7) /\ h.2 <= 29 /\ h.2 < u) -> (∀ v, v < l.length -> (gd (j :: l) (v + 1)).1 ≠ (gd (j :: l) v).1 /\ (gd (j :: l) v).2 <= (gd (j :: l) (v + 1)).2) -> JgY u j l = true
 | [], _, _, _ => rfl
 | h :: l, j, m, o => by
  rw [JgY, L00, decide_eq_true_iff]
  obtain ⟨a, b, c⟩ := m h (by simp)
  have d := o 0 (by simp)
  rw [Jap, JaJ, JaJ] at d
  refine ⟨⟨a, d.1, ⟨d.2, b⟩, c⟩, Jmp u l h (λ y z => m y (L1q _ z)) λ v w => ?_⟩
  have := o (v + 1) (by simpa using w)
  rw [Jap j (h :: l) (v + 1), Jap j (h :: l) v] at this; exact this
def updS (v : Nat) : ByteArray := ⟨#[117, 112, 100, 97, 116, 101, 32]⟩ ++ ⟨#[UInt8.ofNat (65 + v)]⟩
def upsN (n : Nat) : List ByteArray := (List.range n).map updS
def Ja1 : ByteArray := ⟨#[99, 97, 108, 108]⟩
def keyS (c : Int) : ByteArray := strOfNums (List.replicate 32 (100 + c))
def legY (x : Nm) (i : Nat) : Int × Int × Int := if x.legs = [] then (100 * (i : Int), 60, 0) else gd x.legs (i % x.legs.length)
def legM (x : Nm) (j : List (Int × Int)) (i : Nat) : Lg :=
 let y := legY x i
 let f := (gd j i).1
 let t := (gd j (i + 1)).1
 let a := Jaf y.1 2000
 let b := Jaf y.1 2000 + Jaf y.2.1 900
 let k := (crsF x t.toNat).cnt a b
 ⟨f, t, (crsF x f.toNat).cnt a b, if Jaf y.2.2 4 = 3 then ⟨k.b, k.e + Jaf y.2.2 400⟩ else k⟩
def Jhz (x : Nm) (j : List (Int × Int)) : List Lg := (List.range (j.length - 1)).map (legM x j)
theorem Jp1 (x : Nm) {i : Nat} (hi : i + 1 < (Jau x.hops).length) : legF (legM x (Jau x.hops) i) = true := by
 have y := JdX x.hops _ (Jan (Jau x.hops) i (by omega))
 have z := JdX x.hops _ (Jan (Jau x.hops) (i + 1) hi); have A := (Jfs x.hops hi).1
 have o := Jai (c := (legY x i).1) (n := 2000) (by omega)
 have u := Jai (c := (legY x i).2.1) (n := 900) (by omega)
 have w := Jai (c := (legY x i).2.2) (n := 400) (by omega)
 have m := Jpg (crsF x (gd (Jau x.hops) i).1.toNat) (f := Jaf (legY x i).1 2000) (t := Jaf (legY x i).1 2000 + Jaf (legY x i).2.1 900) (by omega) (by omega) (by omega)
 have j := Jpg (crsF x (gd (Jau x.hops) (i + 1)).1.toNat) (f := Jaf (legY x i).1 2000) (t := Jaf (legY x i).1 2000 + Jaf (legY x i).2.1 900) (by omega) (by omega) (by omega)
 have C : ((crsF x (gd (Jau x.hops) (i + 1)).1.toNat).cnt (Jaf (legY x i).1 2000) (Jaf (legY x i).1 2000 + Jaf (legY x i).2.1 900)).e <= 9000 := by
  have B := Jai (c := (crsF x (gd (Jau x.hops) (i + 1)).1.toNat).d) (n := 101) (by omega)
  have := (Jdm (d := Jaf (crsF x (gd (Jau x.hops) (i + 1)).1.toNat).d 101) (by omega) (crsF x (gd (Jau x.hops) (i + 1)).1.toNat).s (crsF x (gd (Jau x.hops) (i + 1)).1.toNat).r (t := Jaf (legY x i).1 2000 + Jaf (legY x i).2.1 900) (by omega)).2
  simp only [Cr.cnt, Cr.show]; omega
 rw [JbS]; unfold legM
 simp only
 refine ⟨by omega, m, ?_⟩
 split
 . rw [JdV] at j ⊢
   simp only
   omega
 . exact j
def witE (call : ByteArray) (ups : List ByteArray) (legs : List Lg) (w : Int) : ByteArray :=
 if Jaf w 3 = 1 then gd ups (Jaf (w.tdiv 3) ups.length).toNat
 else if Jaf w 3 = 2 /\ legs ≠ [] then recF (gd legs (Jaf (w.tdiv 6) legs.length).toNat) (1 + Jaf (w.tdiv 3) 2)
 else call
def witN (w : List Int) : Nat -> List Int
 | 0 => []
 | i + 1 => witN w i ++ if Jaf ((gd w i).tdiv 128) 8 ≠ 7 then [(i : Int)] else []
def witR (call : ByteArray) (ups : List ByteArray) (legs : List Lg) (w : List Int) : Rg := ⟨0, (w.take 12).map (witE call ups legs)⟩
def witP (call : ByteArray) (ups : List ByteArray) (legs : List Lg) (w : List Int) : Pt :=
 ⟨Jiz (keyS 0) (witR call ups legs w) (min w.length 12), (witN w (min w.length 12)).map λ i => JeX (witR call ups legs w) (min w.length 12) i.toNat⟩
def JaE (x : Nm) : Tp where
 hops := Jau x.hops
 legs := Jhz x (Jau x.hops)
 cks := (List.range 8).map λ c => (crsF x c).clk
 tfs := (List.range 8).map λ c => tfQ (numF x.bases c) (x.rates.take (c % 4))
 offs := (List.range 8).map (offF x)
 key := keyS 0
 part := witP Ja1 (upsN ((JdJ x.hops).2 + 2).toNat) (Jhz x (Jau x.hops)) x.wit
 call := Ja1
 ups := upsN ((JdJ x.hops).2 + 2).toNat
abbrev RDP (r : Rd) : AV := .agg [I r.l, I r.a, I r.b]
abbrev RDS (l : List Rd) : AV := .sl 3 (l.map RDP)
abbrev CKP (c : Ck) : AV := .agg [I c.d, RDS c.r]
section
variable (p : Nat -> Bool) (l : List Rd)
@[go_sem] theorem Jwt : AV.namesL p (l.map RDP) = false := Jaj p l RDP λ _ => rfl
@[go_sem] theorem JxS : AV.flatL (l.map RDP) = true := JaR l RDP λ _ => rfl
@[go_sem] theorem Jw6 : Jbq 3 (l.map RDP) = true := Jaw 3 l RDP λ _ => ⟨rfl, rfl⟩
@[go_sem] theorem JvZ (a b c : Int) : l.map RDP ++ [.agg [.v (.int .i64 a), .v (.int .i64 b), .v (.int .i64 c)]] = (l ++ [(⟨a, b, c⟩ : Rd)]).map RDP := by simp
end
theorem JhI (c : Ck) (J : c.r.length <= 9223372036854775807) : Ev prog 62 [CKP c] (B (Jb3 c)) := by
 obtain ⟨d, l⟩ := c
 refine EV func62 ?_
 simp -implicitDefEqProofs (disch := omega) only [go_sem, ntmps62]; unfold Jb3
 simp only at J ⊢
 refine Jab (λ z => ?_) (λ z => ?_)
 . simp -implicitDefEqProofs (disch := omega) only [go_sem, z, results62]
   rw [decide_eq_false (by omega)]
   rfl
 simp -implicitDefEqProofs (disch := omega) only [go_sem]
 refine Jab (λ A => ?_) (λ A => ?_)
 . simp -implicitDefEqProofs (disch := omega) only [go_sem, A, results62]
   rw [decide_eq_false (by omega)]
   rfl
 simp -implicitDefEqProofs (disch := omega) only [go_sem]
 refine Jab (λ C => ?_) (λ C => ?_)
 . simp -implicitDefEqProofs (disch := omega) only [go_sem, C, results62]
   rw [decide_eq_false (by omega)]
   rfl
 simp -implicitDefEqProofs (disch := omega) only [go_sem]
 rw [decide_eq_true ⟨by omega, by omega, by omega⟩, L0h]
 refine Jag (λ k E K => ∃ (i : Nat) (w : Int), i + k = l.length /\ ascR (-1) l = ascR w (l.drop i) /\ E 3 = I w /\ E 21 = RDS l /\ E 22 = I l.length /\ E 23 = I i) l.length ⟨0, -1, by omega, rfl, ?_⟩ ?_
 . simp -implicitDefEqProofs (disch := omega) only [go_sem]; try rfl
 rintro k E K ⟨i, w, L, u, y, j, m, o⟩
 simp -implicitDefEqProofs (disch := omega) only [go_sem, y, j, m, o]
 refine Jab (λ G => ?_) (λ G => ?_)
 . have H : i < l.length := by omega
   rw [Ja6 l i H, ascR] at u; simp -implicitDefEqProofs (disch := omega) only [go_sem, y, j, m, o]
   refine Jab (λ z => ?_) (λ z => ?_)
   . rw [decide_eq_false (by omega), L0e] at u
     simp -implicitDefEqProofs (disch := omega) only [go_sem, z, u, results62]
   simp -implicitDefEqProofs (disch := omega) only [go_sem, y, j, m, o]
   refine Jab (λ A => ?_) (λ A => ?_)
   . rw [decide_eq_false (by omega), L0e] at u
     simp -implicitDefEqProofs (disch := omega) only [go_sem, A, u, results62]
   simp -implicitDefEqProofs (disch := omega) only [go_sem, y, j, m, o]
   refine Jab (λ C => ?_) (λ C => ?_)
   . rw [decide_eq_false (by omega), L0e] at u
     simp -implicitDefEqProofs (disch := omega) only [go_sem, C, u, results62]
   simp -implicitDefEqProofs (disch := omega) only [go_sem, y, j, m, o]
   refine Jab (λ D => ?_) (λ D => ?_)
   . rw [decide_eq_false (by omega), L0e] at u
     simp -implicitDefEqProofs (disch := omega) only [go_sem, D, u, results62]
   simp -implicitDefEqProofs (disch := omega) only [go_sem, y, j, m, o]
   refine Jab (λ F => ?_) (λ F => ?_)
   . rw [decide_eq_false (by omega), L0e] at u
     simp -implicitDefEqProofs (disch := omega) only [go_sem, F, u, results62]
   simp -implicitDefEqProofs (disch := omega) only [go_sem, y, j, m, o]
   rw [decide_eq_true ⟨by omega, by omega, by omega, by omega, by omega⟩, L0h] at u
   refine Jad (l.length - (i + 1)) (by omega) ⟨i + 1, _, by omega, u, ?_⟩
   simp -implicitDefEqProofs (disch := omega) only [go_sem, y, j, m, o]; try rfl
 . obtain rfl : i = l.length := by omega
   rw [L0X, ascR] at u; simp -implicitDefEqProofs (disch := omega) only [go_sem, y, j, m, o, u, results62]
theorem JtQ {a b : Int} (h : 0 <= a) : a.tdiv b = a / b := L1g h
theorem Jq2 (d n : Int) (m : 0 <= d /\ d <= 100) (o : 0 <= n /\ n <= 10000000) : Ev prog 208 [I d, I n] (.tup [I (sLo d n), I (sHi d n)]) := by
 have u : (1000 * (n + 1) - 1).tdiv (1000 - d) = sHi d n := JtQ (by omega)
 have z := JmS m o.1; have A := JqQ m o.1
 refine EV func208 ?_
 simp -implicitDefEqProofs (disch := omega) only [go_sem, ntmps208]
 refine Jas (by omega) ?_
 simp -implicitDefEqProofs (disch := omega) only [go_sem]
 refine Jas (by omega) ?_
 simp -implicitDefEqProofs (disch := omega) only [go_sem]
 refine Jas (by omega) ?_
 simp -implicitDefEqProofs (disch := omega) only [go_sem]
 refine Jas (by omega) ?_
 simp -implicitDefEqProofs (disch := omega) only [go_sem]
 refine Jab (λ j => ?_) (λ j => ?_)
 . have w : (1000 * (n - 1)).tdiv (1000 + d) + 1 = sLo d n := by unfold sLo; rw [if_pos j, JtQ (by omega)]
   have y : (1000 * (n - 1)).tdiv (1000 + d) = sLo d n - 1 := by omega
   simp -implicitDefEqProofs (disch := omega) only [go_sem, u, y, results208]; rw [Int.sub_add_cancel]
 . have w : sLo d n = 0 := by unfold sLo; rw [if_neg j]
   simp -implicitDefEqProofs (disch := omega) only [go_sem, u, w, results208]
abbrev wB (u v : Int) : List (Nat × Blk) := [(402653376, ⟨297, 2, [.agg [I u, I v]]⟩)]
set_option maxHeartbeats 1000000 in
theorem JfC (u v a b : Int) : LOK prog 207 (inI [402653376]) [.ptr 402653376 2 0 0, I a, I b] (stO (wB u v)) (.tup []) (stO (wB (max u a) (min v b))) := by
  refine Jbc [0] [402653376] func207 rfl (by kernel_rfl) mo (nb rfl) rfl (by kernel_rfl) (by kernel_rfl) ?_
  simp -implicitDefEqProofs (disch := omega) only [go_sem, ntmps207]
  refine Jgu (fun D E σ => E 0 = .ptr 402653376 2 0 0 /\ E 1 = I a /\ E 2 = I b /\ (D 19 = true -> D 16 = true) /\ (D 16 = true -> D 5 = true) /\ (D 16 = true -> D 11 = true) /\ (D 16 = false -> σ 402653376 = some ⟨297, 2, [.agg [I u, I v]]⟩) /\ (D 16 = true -> D 19 = false -> σ 402653376 = some ⟨297, 2, [.agg [I (max u a), I v]]⟩) /\ (D 19 = true -> σ 402653376 = some ⟨297, 2, [.agg [I (max u a), I (min v b)]]⟩) /\ (D 0 = true -> E 6 = .ptr 402653376 2 0 0) /\ (D 1 = true -> E 7 = .ptr 402653376 2 0 0) /\ (D 2 = true -> E 8 = .ptr 402653376 2 0 0) /\ (D 3 = true -> E 9 = .ptr 402653376 2 0 0) /\ (D 4 = true -> E 10 = .ptr 402653376 2 0 0) /\ (D 5 = true -> E 11 = I u) /\ (D 6 = true -> E 12 = I a) /\ (D 7 = true -> E 13 = I (max u a)) /\ (D 8 = true -> E 14 = .ptr 402653376 2 0 0) /\ (D 9 = true -> E 15 = .ptr 402653376 2 0 0) /\ (D 10 = true -> E 16 = .ptr 402653376 2 0 1) /\ (D 11 = true -> E 17 = I v) /\ (D 12 = true -> E 18 = I b) /\ (D 13 = true -> E 19 = I (min v b)) /\ (D 14 = true -> E 20 = .ptr 402653376 2 0 0) /\ (D 15 = true -> E 21 = .ptr 402653376 2 0 0) /\ (D 17 = true -> E 22 = .ptr 402653376 2 0 0) /\ (D 18 = true -> E 23 = .ptr 402653376 2 0 1)) ?_ ?_ ?_
  . simp -implicitDefEqProofs (disch := omega) only [go_sem, false_and, and_self]; try simp
  . simp only [Jhr, depK, Region.binds, eq_self, forall_const, and_true]
    repeat' apply And.intro
    all_goals
      rintro D E σ ⟨e0, e1, e2, c19_16, c16_5, c16_11, m0_0, m0_1, m0_2, j0, j1, j2, j3, j4, j5, j6, j7, j8, j9, j10, j11, j12, j13, j14, j15, j17, j18⟩ hd
      have k := And.intro trivial <| And.intro (cK c19_16) <| And.intro (cK c16_5) <| And.intro (cK c16_11) trivial
      simp -implicitDefEqProofs (disch := first | assumption | (simp only [hd, k]; done) | omega) only [go_sem, e0, e1, e2, m0_0, m0_1, m0_2, j0, j1, j2, j3, j4, j5, j6, j7, j8, j9, j10, j11, j12, j13, j14, j15, j17, j18, false_and, and_self]
      repeat' apply And.intro
      all_goals first | assumption | (intro _; assumption) | trivial | (simp -implicitDefEqProofs (contextual := true) (disch := first | assumption | omega) only [go_sem, m0_0, m0_1, m0_2, j0, j1, j2, j3, j4, j5, j6, j7, j8, j9, j10, j11, j12, j13, j14, j15, j17, j18, hd, c19_16, c16_5, c16_11, k, implies_true, forall_const, false_implies, true_implies]; done) | (intro h; intros; exfalso; simp (maxDischargeDepth := 9) [hd, k] at h; done) | (intros; contradiction) | trace_state
  . rintro D E σ hD ⟨e0, e1, e2, c19_16, c16_5, c16_11, m0_0, m0_1, m0_2, j0, j1, j2, j3, j4, j5, j6, j7, j8, j9, j10, j11, j12, j13, j14, j15, j17, j18⟩
    have g0 := m0_2 (hD 19 (by decide))
    have q0 := j0 (hD 0 (by decide))
    have q1 := j1 (hD 1 (by decide))
    have q2 := j2 (hD 2 (by decide))
    have q3 := j3 (hD 3 (by decide))
    have q4 := j4 (hD 4 (by decide))
    have q5 := j5 (hD 5 (by decide))
    have q6 := j6 (hD 6 (by decide))
    have q7 := j7 (hD 7 (by decide))
    have q8 := j8 (hD 8 (by decide))
    have q9 := j9 (hD 9 (by decide))
    have q10 := j10 (hD 10 (by decide))
    have q11 := j11 (hD 11 (by decide))
    have q12 := j12 (hD 12 (by decide))
    have q13 := j13 (hD 13 (by decide))
    have q14 := j14 (hD 14 (by decide))
    have q15 := j15 (hD 15 (by decide))
    have q17 := j17 (hD 17 (by decide))
    have q18 := j18 (hD 18 (by decide))
    clear c19_16 c16_5 c16_11 m0_0 m0_1 m0_2 j0 j1 j2 j3 j4 j5 j6 j7 j8 j9 j10 j11 j12 j13 j14 j15 j17 j18 hD; simp -implicitDefEqProofs (disch := omega) only [go_sem, e0, e1, e2, g0, results207]
theorem JoL (c : Ck) (t : Int) (hc : Jb3 c = true) (ht : 0 <= t /\ t <= 10000000) : Ev prog 191 [CKP c, I t] (.agg [I (winF c.d t c.r).1, I (winF c.d t c.r).2]) := by
  obtain ⟨d, l⟩ := c
  obtain ⟨hb, ha⟩ := JcT.1 hc
  have hr := Jip ha
  have hw : winF d t l = (l.take l.length).foldl (Jfa d t) (0, 10000000) := by rw [L05]; rfl
  simp only at hb hr ⊢
  rw [hw]; clear hw
  refine EV func191 ?_
  simp -implicitDefEqProofs (disch := omega) only [go_sem, ntmps191]
  refine Jag (fun k E σ => ∃ (i : Nat) (w : Int × Int), i + k = l.length /\ (l.take i).foldl (Jfa d t) (0, 10000000) = w /\ E 1 = I t /\ E 2 = .ptr 402653216 2 0 0 /\ E 4 = .ptr 402653248 2 0 0 /\ E 5 = .ptr 402653376 2 0 0 /\ E 6 = .clo 207 [.v (.tuple #[]), .ptr 402653376 2 0 0] /\ E 16 = RDS l /\ E 17 = I l.length /\ E 18 = I i /\
    σ 402653216 = some ⟨93, 2, [.agg [I d, RDS l]]⟩ /\ σ 402653248 = some ⟨297, 2, [.agg [I 0, I 0]]⟩ /\ σ 402653376 = some ⟨297, 2, [.agg [I w.1, I w.2]]⟩) l.length ⟨0, (0, 10000000), by omega, rfl, ?_⟩ ?_
  . simp -implicitDefEqProofs (disch := omega) only [go_sem]; try rfl
  rintro k E σ ⟨i, w, hk, hx, e1, e2, e4, e5, e6, e16, e17, e18, m2, m4, m12⟩
  obtain ⟨u, v⟩ := w
  simp only at m12
  simp -implicitDefEqProofs (disch := omega) only [go_sem, e1, e2, e4, e5, e6, e16, e17, e18, m2, m4, m12]
  refine Jab (fun hc => ?_) (fun hc => ?_)
  . have hi : i < l.length := by omega
    have hri := hr _ (Jan l i hi)
    have htk : (l.take (i + 1)).foldl (Jfa d t) (0, 10000000) = Jfa d t (u, v) (gd l i) := by
      rw [L0D, JaA l i hi, List.foldl_append, hx]; rfl
    obtain ⟨n, hn⟩ : ∃ n, max (t - (gd l i).l) ((gd l i).l - t) = n := ⟨_, rfl⟩
    have hn0 : 0 <= n /\ n <= 10000000 := by omega
    have hs := Jq2 d n (by omega) hn0
    have h1 := JqQ (d := d) (n := n) (by omega) hn0.1
    have h2 := JmS (d := d) (n := n) (by omega) hn0.1
    simp -implicitDefEqProofs (disch := omega) only [go_sem, e1, e2, e4, e5, e6, e16, e17, e18, m2, m4, m12, hn]
    refine Jaa hs ?_
    have hst : Jfa d t (u, v) (gd l i) = if t < (gd l i).l then (max u ((gd l i).a - sHi d ((gd l i).l - t)), min v ((gd l i).b - sLo d ((gd l i).l - t)))
      else if t = (gd l i).l then (max u ((gd l i).a - sHi d 0), min v ((gd l i).b + sHi d 0))
      else (max u ((gd l i).a + sLo d (t - (gd l i).l)), min v ((gd l i).b + sHi d (t - (gd l i).l))) := rfl
    have key : ∀ x y a b : Int, x = (gd l i).a + y -> True := fun _ _ _ _ _ => trivial
    generalize hrd : gd l i = r at *; simp -implicitDefEqProofs (disch := omega) only [go_sem, e1, e2, e4, e5, e6, e16, e17, e18, m2, m4, m12]
    refine Jab (fun h3 => ?_) (fun h3 => ?_)
    . rw [if_pos h3] at hst
      have en : n = r.l - t := by omega
      rw [<- en] at hst; simp -implicitDefEqProofs (disch := omega) only [go_sem, e1, e2, e4, e5, e6, e16, e17, e18, m2, m4, m12]
      refine JiJ [402653376] (bs := [.ptr 402653376 2 0 0]) (xs := [I (r.a + (0 - sHi d n)), I (r.b + (0 - sLo d n))]) (l := wB u v) (l' := wB (max u (r.a + (0 - sHi d n))) (min v (r.b + (0 - sLo d n)))) (JfC _ _ _ _) ?_ ?_ ?_ ?_ ?_ ?_ ?_
      . simp -implicitDefEqProofs (disch := omega) only [go_sem, e1, e2, e4, e5, e6, e16, e17, e18, m2, m4, m12]
      . simp -implicitDefEqProofs (disch := omega) only [go_sem, e1, e2, e4, e5, e6, e16, e17, e18, m2, m4, m12]
      . simp -implicitDefEqProofs (disch := omega) only [go_sem, e1, e2, e4, e5, e6, e16, e17, e18, m2, m4, m12]
      . simp -implicitDefEqProofs (disch := omega) only [go_sem, e1, e2, e4, e5, e6, e16, e17, e18, m2, m4, m12]
      . simp -implicitDefEqProofs (disch := omega) only [go_sem, e1, e2, e4, e5, e6, e16, e17, e18, m2, m4, m12]
      . simp -implicitDefEqProofs (disch := omega) only [go_sem, e1, e2, e4, e5, e6, e16, e17, e18, m2, m4, m12]
      . simp -implicitDefEqProofs (disch := omega) only [go_sem, e1, e2, e4, e5, e6, e16, e17, e18, m2, m4, m12]
        refine Jad (l.length - (i + 1)) (by omega) ⟨i + 1, _, by omega, htk, ?_⟩
        rw [hst]; simp -implicitDefEqProofs (disch := omega) only [go_sem, e1, e2, e4, e5, e6, e16, e17, e18, m2, m4, m12]
        try simp [Int.sub_eq_add_neg]
    . rw [if_neg h3] at hst; simp -implicitDefEqProofs (disch := omega) only [go_sem, e1, e2, e4, e5, e6, e16, e17, e18, m2, m4, m12]
      refine Jab (fun h4 => ?_) (fun h4 => ?_)
      . rw [if_pos h4] at hst
        have en : n = 0 := by omega
        rw [en] at hs h1 h2 ⊢; simp -implicitDefEqProofs (disch := omega) only [go_sem, e1, e2, e4, e5, e6, e16, e17, e18, m2, m4, m12]
        refine JiJ [402653376] (bs := [.ptr 402653376 2 0 0]) (xs := [I (r.a + (0 - sHi d 0)), I (r.b + sHi d 0)]) (l := wB u v) (l' := wB (max u (r.a + (0 - sHi d 0))) (min v (r.b + sHi d 0))) (JfC _ _ _ _) ?_ ?_ ?_ ?_ ?_ ?_ ?_
        . simp -implicitDefEqProofs (disch := omega) only [go_sem, e1, e2, e4, e5, e6, e16, e17, e18, m2, m4, m12]
        . simp -implicitDefEqProofs (disch := omega) only [go_sem, e1, e2, e4, e5, e6, e16, e17, e18, m2, m4, m12]
        . simp -implicitDefEqProofs (disch := omega) only [go_sem, e1, e2, e4, e5, e6, e16, e17, e18, m2, m4, m12]
        . simp -implicitDefEqProofs (disch := omega) only [go_sem, e1, e2, e4, e5, e6, e16, e17, e18, m2, m4, m12]
        . simp -implicitDefEqProofs (disch := omega) only [go_sem, e1, e2, e4, e5, e6, e16, e17, e18, m2, m4, m12]
        . simp -implicitDefEqProofs (disch := omega) only [go_sem, e1, e2, e4, e5, e6, e16, e17, e18, m2, m4, m12]
        . simp -implicitDefEqProofs (disch := omega) only [go_sem, e1, e2, e4, e5, e6, e16, e17, e18, m2, m4, m12]
          refine Jad (l.length - (i + 1)) (by omega) ⟨i + 1, _, by omega, htk, ?_⟩
          rw [hst]; simp -implicitDefEqProofs (disch := omega) only [go_sem, e1, e2, e4, e5, e6, e16, e17, e18, m2, m4, m12]
          try simp [Int.sub_eq_add_neg]
      . rw [if_neg h4] at hst
        have en : n = t - r.l := by omega
        rw [<- en] at hst; simp -implicitDefEqProofs (disch := omega) only [go_sem, e1, e2, e4, e5, e6, e16, e17, e18, m2, m4, m12]
        refine JiJ [402653376] (bs := [.ptr 402653376 2 0 0]) (xs := [I (r.a + sLo d n), I (r.b + sHi d n)]) (l := wB u v) (l' := wB (max u (r.a + sLo d n)) (min v (r.b + sHi d n))) (JfC _ _ _ _) ?_ ?_ ?_ ?_ ?_ ?_ ?_
        . simp -implicitDefEqProofs (disch := omega) only [go_sem, e1, e2, e4, e5, e6, e16, e17, e18, m2, m4, m12]
        . simp -implicitDefEqProofs (disch := omega) only [go_sem, e1, e2, e4, e5, e6, e16, e17, e18, m2, m4, m12]
        . simp -implicitDefEqProofs (disch := omega) only [go_sem, e1, e2, e4, e5, e6, e16, e17, e18, m2, m4, m12]
        . simp -implicitDefEqProofs (disch := omega) only [go_sem, e1, e2, e4, e5, e6, e16, e17, e18, m2, m4, m12]
        . simp -implicitDefEqProofs (disch := omega) only [go_sem, e1, e2, e4, e5, e6, e16, e17, e18, m2, m4, m12]
        . simp -implicitDefEqProofs (disch := omega) only [go_sem, e1, e2, e4, e5, e6, e16, e17, e18, m2, m4, m12]
        . simp -implicitDefEqProofs (disch := omega) only [go_sem, e1, e2, e4, e5, e6, e16, e17, e18, m2, m4, m12]
          refine Jad (l.length - (i + 1)) (by omega) ⟨i + 1, _, by omega, htk, ?_⟩
          rw [hst]; simp -implicitDefEqProofs (disch := omega) only [go_sem, e1, e2, e4, e5, e6, e16, e17, e18, m2, m4, m12]
          try simp [Int.sub_eq_add_neg]
  . obtain rfl : i = l.length := by omega
    simp -implicitDefEqProofs (disch := omega) only [go_sem, e1, e2, e4, e5, e6, e16, e17, e18, m2, m4, m12, results191]; rw [L05] at hx; rw [hx]
abbrev atV (o : Option (Int × Int)) : AV := match o with
 | some w => .tup [I w.1, I w.2, I 0]
 | none => .tup [I 0, I 0, I 50]
theorem JA7 (c : Ck) (t : Int) (A : c.r.length <= 9223372036854775807) : Ev prog 172 [CKP c, I t] (atV (atF c t)) := by
 have C := JhI c A
 have y := λ z B => JoL c t z B
 have j : atF c t = if Jb3 c = true /\ (0 <= t /\ t <= 10000000) /\ (winF c.d t c.r).1 <= (winF c.d t c.r).2 then some (winF c.d t c.r) else none := rfl
 obtain ⟨d, l⟩ := c; generalize winF (Ck.mk d l).d t (Ck.mk d l).r = w at *; generalize Jb3 ⟨d, l⟩ = b at *; generalize atF ⟨d, l⟩ t = q at *
 refine EV func172 ?_
 simp -implicitDefEqProofs (disch := omega) only [go_sem, ntmps172]
 refine Jaa C ?_
 cases b with
 | false =>
  rw [if_neg (λ h => by cases h.1)] at j
  subst j; simp -implicitDefEqProofs (disch := omega) only [go_sem, results172]
 | true =>
  simp -implicitDefEqProofs (disch := omega) only [go_sem]
  refine Jab (λ m => ?_) (λ m => ?_)
  . rw [if_neg (λ h => by omega)] at j
    subst j; simp -implicitDefEqProofs (disch := omega) only [go_sem, results172]
  simp -implicitDefEqProofs (disch := omega) only [go_sem]
  refine Jab (λ o => ?_) (λ o => ?_)
  . rw [if_neg (λ h => by omega)] at j
    subst j; simp -implicitDefEqProofs (disch := omega) only [go_sem, results172]
  simp -implicitDefEqProofs (disch := omega) only [go_sem]
  refine Jaa (y rfl (by omega)) ?_
  simp -implicitDefEqProofs (disch := omega) only [go_sem]
  refine Jab (λ u => ?_) (λ u => ?_)
  . rw [if_neg (λ h => by omega)] at j
    subst j; simp -implicitDefEqProofs (disch := omega) only [go_sem, results172]
  . rw [if_pos ⟨rfl, by omega, by omega⟩] at j
    subst j; simp -implicitDefEqProofs (disch := omega) only [go_sem, results172]
theorem Jcq (c n : Int) (j : R64 c) (u : 0 < n) : Ev prog 89 [I c, I n] (I (Jaf c n)) := by
 obtain ⟨m, o⟩ := j
 refine EV func89 ?_
 simp -implicitDefEqProofs (disch := omega) only [go_sem, ntmps89]
 refine Jab (λ h => ?_) (λ h => ?_) <;> simp -implicitDefEqProofs (disch := omega) only [go_sem, results89]
 . rw [show (0 - (c+1)) = -(c+1) from by omega]; simp [Jaf, h]
 . simp [Jaf, h]
abbrev T3 : Type := Int × Int × Int
abbrev QT (q : T3) : AV := .agg [I q.1, I q.2.1, I q.2.2]
abbrev QTS (l : List T3) : AV := .sl 3 (l.map QT)
def T3ok (q : T3) : Prop := R64 q.1 /\ R64 q.2.1 /\ R64 q.2.2
section
variable (p : Nat -> Bool) (l : List T3)
@[go_sem] theorem Jye : AV.namesL p (l.map QT) = false := Jaj p l QT λ _ => rfl
@[go_sem] theorem JzU : AV.flatL (l.map QT) = true := JaR l QT λ _ => rfl
@[go_sem] theorem Jzn : Jbq 3 (l.map QT) = true := Jaw 3 l QT λ _ => ⟨rfl, rfl⟩
end
theorem JlT {d : Int} (j : 0 <= d /\ d <= 100) (rates : List Int) (t : Int) (m : 0 <= t) : ∀ k : Nat, -(10000 * (k : Int)) <= sumB d rates t k /\ sumB d rates t k <= 10000 * k
 | 0 => by simp [sumB]
 | k + 1 => by
  have y := JlT j rates t m k
  have w := Jai (c := gd rates k) (n := 2 * d + 1) (by omega)
  rw [sumB]
  split
  . have o : (Jaf (gd rates k) (2 * d + 1) - d) * min (t - 100 * k) 100 <= 100 * 100 := by
     refine Int.le_trans (L1Y (c := min (t - 100 * k) 100) (show Jaf (gd rates k) (2 * d + 1) - d <= 100 by omega) (by omega)) ?_
     exact L2v (by omega) (by omega)
    have u : -(100 * 100) <= (Jaf (gd rates k) (2 * d + 1) - d) * min (t - 100 * k) 100 := by
     have := L1Y (c := min (t - 100 * k) 100) (show (-100 : Int) <= Jaf (gd rates k) (2 * d + 1) - d by omega) (by omega)
     omega
    omega
  . omega
theorem JkH (d : Int) (rates : List Int) (t : Int) {i : Nat} (hi : t <= 100 * i) : ∀ m : Nat, sumB d rates t (i + m) = sumB d rates t i
 | 0 => rfl
 | m + 1 => by rw [<- L0I, sumB, if_neg (by omega), JkH d rates t hi m, Int.add_zero]
theorem Je8 (drift start : Int) (rates : List Int) (t : Int) (hd : R64 drift) (hs : R64 start) (hr : ∀ r ∈ rates, R64 r) (hl : rates.length <= 9223372036854775807) (ht : 0 <= t /\ t <= 1000000) :
    Ev prog 90 [I drift, I start, SL rates, I t] (I (JbE (Jaf drift 101) start rates t)) := by
  have hd1 := Jai (c := drift) (n := 101) (by omega)
  have hs1 := Jai (c := start) (n := 1000) (by omega)
  have c1 := Jcq drift 101 hd (by omega)
  have c2 := Jcq start 1000 hs (by omega)
  have hsh : JbE (Jaf drift 101) start rates t = Jaf start 1000 + (sumA (Jaf drift 101) rates t + 1000 * t) / 1000 := rfl
  have hmd := (JiN (d := Jaf drift 101) (by omega) rates (L1K 0) ht.1).1
  rw [JiO] at hmd
  have hmp : 0 <= (1000 - Jaf drift 101) * (t - 0) := L1L (by omega) (by omega)
  have hmil : milF (Jaf drift 101) rates t = sumA (Jaf drift 101) rates t + 1000 * t := rfl
  rw [hsh]; generalize Jaf drift 101 = d at *; generalize Jaf start 1000 = s at *
  refine EV func90 ?_
  simp -implicitDefEqProofs (disch := omega) only [go_sem, ntmps90]
  refine Jaa c1 ?_
  simp -implicitDefEqProofs (disch := omega) only [go_sem]
  refine Jag (fun k E σ => ∃ i : Nat, i + k = 20 /\ i <= rates.length /\ E 1 = I start /\ E 2 = SL rates /\ E 3 = I t /\ E 9 = I d /\ E 10 = I (sumB d rates t i) /\ E 11 = I i) 20 ⟨0, by omega, by omega, ?_⟩ ?_
  . simp -implicitDefEqProofs (disch := omega) only [go_sem, sumB]; try rfl
  rintro k E σ ⟨i, hk, hi, e1, e2, e3, e9, e10, e11⟩
  have hb := JlT (d := d) (by omega) rates t ht.1 i
  have fin : (rates.length <= i \/ 20 <= i \/ t <= 100 * i) -> sumB d rates t i = sumA d rates t := fun h => by
    unfold sumA
    rcases h with h | h | h
    . rw [show i = min rates.length 20 by omega]
    . rw [show i = min rates.length 20 by omega]
    . obtain ⟨m, hm⟩ : ∃ m, min rates.length 20 = i + m := ⟨min rates.length 20 - i, by omega⟩
      rw [hm, JkH d rates t h m]
  have done : sumB d rates t i = sumA d rates t -> (sumB d rates t i + 1000 * t).tdiv 1000 = (sumA d rates t + 1000 * t) / 1000 := fun h => by
    rw [h, L1g (by omega)]
  simp -implicitDefEqProofs (disch := omega) only [go_sem, e1, e2, e3, e9, e10, e11]
  refine Jab (fun h1 => ?_) (fun h1 => ?_)
  . simp -implicitDefEqProofs (disch := omega) only [go_sem, e1, e2, e3, e9, e10, e11]
    refine Jab (fun h2 => ?_) (fun h2 => ?_)
    . simp -implicitDefEqProofs (disch := omega) only [go_sem, e1, e2, e3, e9, e10, e11]
      refine Jab (fun h3 => ?_) (fun h3 => ?_)
      . have hp := Jai (c := gd rates i) (n := 2 * d + 1) (by omega)
        have c3 := Jcq (gd rates i) (2 * d + 1) (hr _ (Jan rates i (by omega))) (by omega)
        have hn : sumB d rates t (i + 1) = sumB d rates t i + (Jaf (gd rates i) (2 * d + 1) - d) * min (t - 100 * i) 100 := by rw [sumB, if_pos (by omega)]
        have hb2 := JlT (d := d) (by omega) rates t ht.1 (i + 1)
        obtain ⟨x, hx⟩ : ∃ x, (Jaf (gd rates i) (2 * d + 1) - d) * min (t - 100 * i) 100 = x := ⟨_, rfl⟩
        rw [hx] at hn; generalize Jaf (gd rates i) (2 * d + 1) = y at *
        have hw : IntKind.i64.wrap ((y - d) * min (t - 100 * i) 100) = x := by rw [hx]; exact Jcv (by omega)
        simp -implicitDefEqProofs (disch := omega) only [go_sem, e1, e2, e3, e9, e10, e11]
        refine Jaa c3 ?_
        simp -implicitDefEqProofs (disch := omega) only [go_sem, e1, e2, e3, e9, e10, e11, hw, hx]
        refine Jad (20 - (i + 1)) (by omega) ⟨i + 1, by omega, by omega, ?_⟩
        rw [hn]; simp -implicitDefEqProofs (disch := omega) only [go_sem, e1, e2, e3, e9, e10, e11]; try rfl
      . have hf := fin (.inr (.inr (by omega)))
        have hdn := done hf; simp -implicitDefEqProofs (disch := omega) only [go_sem, e1, e2, e3, e9, e10, e11]
        refine Jaa c2 ?_
        simp -implicitDefEqProofs (disch := omega) only [go_sem, hdn, results90]
    . have hf := fin (.inr (.inl (by omega)))
      have hdn := done hf; simp -implicitDefEqProofs (disch := omega) only [go_sem, e1, e2, e3, e9, e10, e11]
      refine Jaa c2 ?_
      simp -implicitDefEqProofs (disch := omega) only [go_sem, hdn, results90]
  . have hf := fin (.inl (by omega))
    have hdn := done hf; simp -implicitDefEqProofs (disch := omega) only [go_sem, e1, e2, e3, e9, e10, e11]
    refine Jaa c2 ?_
    simp -implicitDefEqProofs (disch := omega) only [go_sem, hdn, results90]
def mkC (j m : Int) (rates : List Int) (at_ : List T3) (d : Int) (T : Nat) (l : List Rd) (E : Env) (σ : Jac) : Prop :=
 E 0 = I j /\ E 1 = I m /\ E 2 = SL rates /\ E 3 = QTS at_ /\ E 8 = .ptr 106954880 2 0 0 /\ E 9 = .ptr 106954896 2 0 0 /\ E 10 = I T /\
  σ 106954880 = some ⟨93, 2, [.agg [I 0, .v (.slice none 0 0)]]⟩ /\ σ 106954896 = some ⟨93, 2, [.agg [I d, .own 106954897 3 0 l.length]]⟩ /\ σ 106954897 = some ⟨193, 3, l.map RDP⟩
theorem JqB (l : List Rd) (s : Int) : (l = [] \/ (gd l (l.length - 1)).l < s) ↔ (l.length = 0 \/ (0 < l.length /\ (gd l (l.length - 1)).l < s)) := by
 cases l with
 | nil => simp
 | cons a l => simp
set_option maxHeartbeats 4000000 in
theorem JxC (m j : Int) (rates : List Int) (at_ : List T3) (hd : R64 m) (hs : R64 j) (hr : ∀ r ∈ rates, R64 r) (hl : rates.length <= 9223372036854775807) (ha : ∀ q ∈ at_, T3ok q) (ai : at_.length <= 9223372036854775807) :
 Ev prog 50 [I m, I j, SL rates, QTS at_] (CKP (clkF m j rates at_)) := by
 have ak := Jai (c := m) (n := 101) (by omega)
 have c1 := Jcq m 101 hd (by omega)
 have af := λ t (X : 0 <= t /\ t <= 1000000) => Je8 m j rates t hd hs hr hl X
 have an := λ t (X : 0 <= t) => Jdm (d := Jaf m 101) (by omega) j rates X
 have S := λ T (hT : T <= 3000) => Jg5 (Jaf m 101) j rates at_ (by omega) T hT
 have W := λ (t : Nat) (l : List Rd) (X : t < 3000) (hg : Good (Jaf m 101) j rates l) (i : Nat) => Ji3 (Jaf m 101) j rates at_ (by omega) X hg i
 have Q : clkF m j rates at_ = ⟨Jaf m 101, Jdf (Jaf m 101) j rates at_ 3000⟩ := rfl
 rw [Q]; clear Q; generalize Jaf m 101 = d at *
 refine EW [2, 13] func50 ?_
 simp -implicitDefEqProofs (disch := omega) only [go_sem, ntmps50]
 refine Jaa c1 ?_
 simp -implicitDefEqProofs (disch := omega) only [go_sem]
 refine Jbp 106954896 106954897 0 1 193 3 (k := ⟨93, 2, [.agg [I d, .v (.slice none 0 0)]]⟩) (el := .agg [I d, .v (.slice none 0 0)]) (by simp -implicitDefEqProofs (disch := omega) only [go_sem]) (by decide) rfl rfl (by simp) (by simp -implicitDefEqProofs (disch := omega) only [go_sem]) rfl ?_
 refine Jel Plain.mono ?_
 simp -implicitDefEqProofs (disch := omega) only [go_sem]
 refine Jag (λ k E N => ∃ T : Nat, T + k = 3000 /\ mkC m j rates at_ d T (Jdf d j rates at_ T) E N) 3000 ⟨0, by omega, ?_⟩ ?_
 . simp -implicitDefEqProofs (disch := omega) only [go_sem, Jdf, mkC, false_and]; try rfl
 rintro k E N ⟨T, hk, z, A, B, C, D, F, o, G, w, y⟩
 obtain ⟨aa, ah⟩ := S T (by omega)
 have ag := Jpd at_ T (min at_.length 12); simp -implicitDefEqProofs (disch := omega) only [go_sem, z, A, B, C, D, F, o, G, w, y, false_and]
 refine Jab (λ hc => ?_) (λ hc => ?_)
 . have hT : T < 3000 := by omega
   have ab : Jdf d j rates at_ (T + 1) = rowR d j rates at_ T (Jdf d j rates at_ T) (min at_.length 12) := rfl
   have ae := W T (Jdf d j rates at_ T) hT aa
   have ad : ∀ i, rowR d j rates at_ T (Jdf d j rates at_ T) (i + 1) = putR d j rates T (rowR d j rates at_ T (Jdf d j rates at_ T) i) (gd at_ i) := λ _ => rfl
   have ac : rowR d j rates at_ T (Jdf d j rates at_ T) 0 = Jdf d j rates at_ T := rfl
   generalize P : Jdf d j rates at_ (T + 1) = M' at *; generalize Jdf d j rates at_ T = M at *; simp -implicitDefEqProofs (disch := omega) only [go_sem, z, A, B, C, D, F, o, G, w, y, false_and]
   refine Jag (λ k E N => ∃ i : Nat, i + k = 12 /\ i <= at_.length /\ E 11 = I i /\ mkC m j rates at_ d T (rowR d j rates at_ T M i) E N) 12 ⟨0, by omega, by omega, ?_⟩ ?_
   . simp -implicitDefEqProofs (disch := omega) only [go_sem, ac, mkC, z, A, B, C, D, F, o, G, w, y]; try rfl
   clear z A B C D F o G w y E N
   rintro k' E N ⟨i, ao, am, u, z, A, B, C, D, F, o, G, w, y⟩
   obtain ⟨al, ap⟩ := ae i
   have aj : cntE at_ T i <= i := by
    have : ∀ i, cntE at_ T i <= i := λ i => by
     induction i with
     | zero => exact L08 _
     | succ i ih => rw [cntE]; split <;> omega
    exact this i
   have K := ad i
   have O : i = 12 \/ i = at_.length -> rowR d j rates at_ T M i = M' := λ h => by
    rw [ab]; congr 1; omega
   generalize hR : rowR d j rates at_ T M i = R at *; simp -implicitDefEqProofs (disch := omega) only [go_sem, z, A, B, C, D, F, o, u, G, w, y, false_and]
   refine Jab (λ h1 => ?_) (λ h1 => ?_)
   . simp -implicitDefEqProofs (disch := omega) only [go_sem, z, A, B, C, D, F, o, u, G, w, y, false_and]
     refine Jab (λ Y => ?_) (λ Y => ?_)
     . obtain ⟨q1, q2, q3⟩ := ha _ (Jan at_ i (by omega))
       have p1 := Jai (c := (gd at_ i).1) (n := 3000) (by omega)
       have p2 := Jai (c := (gd at_ i).2.1) (n := 51) (by omega)
       have p3 := Jai (c := (gd at_ i).2.2) (n := 51) (by omega)
       have d1 := Jcq (gd at_ i).1 3000 q1 (by omega)
       have d2 := Jcq (gd at_ i).2.1 51 q2 (by omega)
       have d3 := Jcq (gd at_ i).2.2 51 q3 (by omega)
       have d4 := af T (by omega)
       have U : Jaf (gd at_ i).1 3000 = T -> (R.length = 0 \/ (0 < R.length /\ (gd R (R.length - 1)).l < JbE d j rates T)) -> putR d j rates T R (gd at_ i) = R ++ [⟨JbE d j rates T, max (T - Jaf (gd at_ i).2.1 51) 0, T + Jaf (gd at_ i).2.2 51⟩] := λ h Y => if_pos ⟨h, (JqB R _).2 Y⟩
       have V : ¬ (Jaf (gd at_ i).1 3000 = T /\ (R.length = 0 \/ (0 < R.length /\ (gd R (R.length - 1)).l < JbE d j rates T))) -> putR d j rates T R (gd at_ i) = R := λ h => if_neg λ hh => h ⟨hh.1, (JqB R _).1 hh.2⟩
       generalize JbE d j rates T = s at *; generalize Jaf (gd at_ i).1 3000 = x1 at *; generalize Jaf (gd at_ i).2.1 51 = x2 at *; generalize Jaf (gd at_ i).2.2 51 = x3 at *; simp -implicitDefEqProofs (disch := omega) only [go_sem, z, A, B, C, D, F, o, u, G, w, y, false_and]
       refine Jaa d1 ?_
       simp -implicitDefEqProofs (disch := omega) only [go_sem, z, A, B, C, D, F, o, u, G, w, y, false_and]
       refine Jab (λ h3 => ?_) (λ h3 => ?_)
       . have H := V (λ h => by omega)
         simp -implicitDefEqProofs (disch := omega) only [go_sem, z, A, B, C, D, F, o, u, G, w, y, false_and]
         refine Jad (12 - (i + 1)) (by omega) ⟨i + 1, by omega, by omega, ?_⟩
         rw [K, H]; simp -implicitDefEqProofs (disch := omega) only [go_sem, mkC, z, A, B, C, D, F, o, u, G, w, y]; try rfl
       . have L : R.length <= 100 := by omega
         have J : R.take R.length = R := L05
         simp -implicitDefEqProofs (disch := omega) only [go_sem, z, A, B, C, D, F, o, u, G, w, y, false_and]
         refine Jaa d4 ?_
         simp -implicitDefEqProofs (disch := omega) only [go_sem, z, A, B, C, D, F, o, u, G, w, y, false_and]
         refine Jaa d2 ?_
         simp -implicitDefEqProofs (disch := omega) only [go_sem, z, A, B, C, D, F, o, u, G, w, y, false_and]
         refine Jaa d3 ?_
         simp -implicitDefEqProofs (disch := omega) only [go_sem, z, A, B, C, D, F, o, u, G, w, y, false_and]
         refine Jab (λ h4 => ?_) (λ h4 => ?_)
         . have H := U (by omega) (.inl (by omega))
           simp -implicitDefEqProofs (disch := omega) only [go_sem, z, A, B, C, D, F, o, u, G, w, y, false_and, L, J]
           refine Jad (12 - (i + 1)) (by omega) ⟨i + 1, by omega, by omega, ?_⟩
           rw [K, H]; simp -implicitDefEqProofs (disch := omega) only [go_sem, mkC, z, A, B, C, D, F, o, u, G, w, y, false_and, L, J, L0a, L0c, L0w]; try simp
         . have hj : ((R.length : Int) - 1).toNat = R.length - 1 := by omega
           simp -implicitDefEqProofs (disch := omega) only [go_sem, z, A, B, C, D, F, o, u, G, w, y, false_and, hj]
           refine Jab (λ Z => ?_) (λ Z => ?_)
           . have H := U (by omega) (.inr ⟨by omega, Z⟩)
             simp -implicitDefEqProofs (disch := omega) only [go_sem, z, A, B, C, D, F, o, u, G, w, y, false_and, L, J]
             refine Jad (12 - (i + 1)) (by omega) ⟨i + 1, by omega, by omega, ?_⟩
             rw [K, H]; simp -implicitDefEqProofs (disch := omega) only [go_sem, mkC, z, A, B, C, D, F, o, u, G, w, y, false_and, L, J, L0a, L0c, L0w]; try simp
           . have H := V (λ h => by rcases h.2 with h | h; omega; exact Z h.2)
             simp -implicitDefEqProofs (disch := omega) only [go_sem, z, A, B, C, D, F, o, u, G, w, y, false_and]
             refine Jad (12 - (i + 1)) (by omega) ⟨i + 1, by omega, by omega, ?_⟩
             rw [K, H]; simp -implicitDefEqProofs (disch := omega) only [go_sem, mkC, z, A, B, C, D, F, o, u, G, w, y, false_and]; try rfl
     . have hf := O (.inl (by omega))
       rw [hf] at w y; simp -implicitDefEqProofs (disch := omega) only [go_sem, z, A, B, C, D, F, o, u, G, w, y, false_and]
       refine Jad (3000 - (T + 1)) (by omega) ⟨T + 1, by omega, ?_⟩
       rw [P]; simp -implicitDefEqProofs (disch := omega) only [go_sem, mkC, z, A, B, C, D, F, o, G, w, y, false_and]; try rfl
   . have hf := O (.inr (by omega))
     rw [hf] at w y; simp -implicitDefEqProofs (disch := omega) only [go_sem, z, A, B, C, D, F, o, u, G, w, y, false_and]
     refine Jad (3000 - (T + 1)) (by omega) ⟨T + 1, by omega, ?_⟩
     rw [P]; simp -implicitDefEqProofs (disch := omega) only [go_sem, mkC, z, A, B, C, D, F, o, G, w, y, false_and]; try rfl
 . obtain rfl : T = 3000 := by omega
   generalize Jdf d j rates at_ 3000 = M at *
   have J : M.take M.length = M := L05
   simp -implicitDefEqProofs (disch := omega) only [go_sem, z, A, B, C, D, F, o, G, w, y, false_and]
   refine JaW Plain.mono [106954896, 106954897] ?_
   simp -implicitDefEqProofs (disch := omega) only [go_sem, z, A, B, C, D, F, o, G, w, y, J, L0b]; simp -implicitDefEqProofs (disch := omega) only [go_sem, z, A, B, C, D, F, o, G, w, y, J, L0b, results50]
abbrev CNP (n : Cn) : AV := .agg [I n.b, I n.e]
abbrev LGP (l : Lg) : AV := .agg [I l.f, I l.t, I l.g.b, I l.g.e, I l.k.b, I l.k.e]
abbrev WNP (w : Int × Int) : AV := .agg [I w.1, I w.2]
abbrev SNP (s : Sn) : AV := .agg [I s.b.1, I s.b.2, I s.e.1, I s.e.2]
abbrev CRP (y : Cr) : AV := .agg [I y.d, I y.s, SL y.r, QTS y.at_]
def Cr.ok (y : Cr) : Prop := R64 y.d /\ R64 y.s /\ (∀ r ∈ y.r, R64 r) /\ y.r.length <= 9223372036854775807 /\ (∀ q ∈ y.at_, T3ok q) /\ y.at_.length <= 9223372036854775807
theorem Jmz (l : Lg) : legF l = (decide (0 <= l.f /\ l.f <= 7) && (decide (0 <= l.t /\ l.t <= 7) && (decide (l.f ≠ l.t) && (cntF l.g && cntF l.k)))) := by
 unfold legF; simp only [Bool.decide_and, L1j]
theorem Jno (y : Cr) (h : y.ok) : Ev prog 23 [CRP y] (CKP y.clk) := by
 obtain ⟨j, m, o, u, w, z⟩ := h; have c := JxC y.d y.s y.r y.at_ j m o u w z; unfold Cr.clk; generalize clkF y.d y.s y.r y.at_ = A at *
 refine EV func23 ?_
 simp -implicitDefEqProofs (disch := omega) only [go_sem, ntmps23]
 refine Jaa c ?_
 simp -implicitDefEqProofs (disch := omega) only [go_sem, results23]
theorem Jif (y : Cr) (t : Int) (h : y.ok) (w : 0 <= t /\ t <= 1000000) : Ev prog 51 [CRP y, I t] (I (y.show t)) := by
 obtain ⟨j, m, o, u, A, B⟩ := h; have c := Je8 y.d y.s y.r t j m o u w
 unfold Cr.show
 generalize JbE (Jaf y.d 101) y.s y.r t = z at *
 refine EV func51 ?_
 simp -implicitDefEqProofs (disch := omega) only [go_sem, ntmps51]
 refine Jaa c ?_
 simp -implicitDefEqProofs (disch := omega) only [go_sem, results51]
theorem JhK (y : Cr) (f t : Int) (h : y.ok) (o : 0 <= f /\ f <= 1000000) (u : 0 <= t /\ t <= 1000000) : Ev prog 29 [CRP y, I f, I t] (CNP (y.cnt f t)) := by
 have j := Jif y f h o; have m := Jif y t h u; unfold Cr.cnt
 generalize y.show f = a at *
 generalize y.show t = b at *
 refine EV func29 ?_
 simp -implicitDefEqProofs (disch := omega) only [go_sem, ntmps29]
 refine Jaa j ?_
 simp -implicitDefEqProofs (disch := omega) only [go_sem]
 refine Jaa m ?_
 simp -implicitDefEqProofs (disch := omega) only [go_sem, results29]
theorem Jd0 (n a b : Int) : Ev prog 59 [I n, I a, I b] (B (decide (a <= n /\ n <= b))) := by
 refine EV func59 ?_
 simp -implicitDefEqProofs (disch := omega) only [go_sem, ntmps59]
 refine Jab (λ j => ?_) (λ j => ?_)
 . simp -implicitDefEqProofs (disch := omega) only [go_sem, j, results59]
   try simp [j]
 . simp -implicitDefEqProofs (disch := omega) only [go_sem, j, results59]
   try simp [j]
theorem JpK (n a b : Int) : Ev prog 92 [I n, I a, I b] (B (decide (a <= n /\ n <= b))) := by
 refine EV func92 ?_
 simp -implicitDefEqProofs (disch := omega) only [go_sem, ntmps92]
 refine Jab (λ j => ?_) (λ j => ?_)
 . simp -implicitDefEqProofs (disch := omega) only [go_sem, j, results92]
   try simp [j]
 . simp -implicitDefEqProofs (disch := omega) only [go_sem, j, results92]
   try simp [j]
theorem Jdc (n : Int) : Ev prog 68 [I n] (B (decide (0 <= n /\ n <= 7))) := by
 refine EV func68 ?_
 simp -implicitDefEqProofs (disch := omega) only [go_sem, ntmps68]
 refine Jaa (Jd0 n 0 7) ?_
 simp -implicitDefEqProofs (disch := omega) only [go_sem, results68]
theorem Jfu (n : Cn) : Ev prog 113 [CNP n] (B (cntF n)) := by
 have c := Jd0 n.b 0 n.e
 obtain ⟨z, m⟩ : ∃ z, cntF n = z := ⟨_, rfl⟩
 have j : z = true ↔ 0 <= n.b /\ n.b <= n.e /\ n.e <= 10000000 := by rw [<- m]; exact JdV
 rw [m]
 refine EV func113 ?_
 simp -implicitDefEqProofs (disch := omega) only [go_sem, ntmps113]
 by_cases h : 0 <= n.b /\ n.b <= n.e
 . rw [decide_eq_true h] at c
   refine Jaa c ?_
   simp -implicitDefEqProofs (disch := omega) only [go_sem, results113]
   cases z with
   | true => rw [decide_eq_true (j.1 rfl).2.2]
   | false => rw [decide_eq_false (λ o => by have := j.2 ⟨h.1, h.2, o⟩; cases this)]
 . rw [decide_eq_false h] at c
   refine Jaa c ?_
   simp -implicitDefEqProofs (disch := omega) only [go_sem, results113]
   cases z with
   | true => exact absurd ⟨(j.1 rfl).1, (j.1 rfl).2.1⟩ h
   | false => rfl
theorem JjD (n : Cn) : Ev prog 125 [CNP n] (B (cntF n)) := by
 obtain ⟨z, u⟩ : ∃ z, cntF n = z := ⟨_, rfl⟩
 have j : z = true ↔ 0 <= n.b /\ n.b <= n.e /\ n.e <= 10000000 := by rw [<- u]; exact JdV
 rw [u]
 refine EV func125 ?_
 simp -implicitDefEqProofs (disch := omega) only [go_sem, ntmps125]
 refine Jab (λ m => ?_) (λ m => ?_)
 . simp -implicitDefEqProofs (disch := omega) only [go_sem]
   refine Jab (λ o => ?_) (λ o => ?_)
   . simp -implicitDefEqProofs (disch := omega) only [go_sem, results125]
     cases z with
     | true => rw [decide_eq_true (j.1 rfl).2.2]
     | false => rw [decide_eq_false (λ w => by have := j.2 ⟨m, o, w⟩; cases this)]
   . simp -implicitDefEqProofs (disch := omega) only [go_sem, results125]
     cases z with
     | true => exact absurd (j.1 rfl).2.1 o
     | false => rfl
 . simp -implicitDefEqProofs (disch := omega) only [go_sem, results125]
   cases z with
   | true => exact absurd (j.1 rfl).1 m
   | false => rfl
theorem JiD (l : Lg) : Ev prog 69 [LGP l] (B (legF l)) := by
 have u := Jdc l.f; have w := Jdc l.t; have y := Jfu l.g; have z := Jfu l.k; rw [Jmz]; generalize decide (0 <= l.f /\ l.f <= 7) = b1 at *; generalize decide (0 <= l.t /\ l.t <= 7) = b2 at *; generalize cntF l.g = m at *; generalize cntF l.k = o at *
 refine EV func69 ?_
 simp -implicitDefEqProofs (disch := omega) only [go_sem, ntmps69]
 refine Jaa u ?_
 cases b1
 . simp -implicitDefEqProofs (disch := omega) only [go_sem, results69]; try rfl
 simp -implicitDefEqProofs (disch := omega) only [go_sem]
 refine Jaa w ?_
 cases b2
 . simp -implicitDefEqProofs (disch := omega) only [go_sem, results69]; try rfl
 simp -implicitDefEqProofs (disch := omega) only [go_sem]
 refine Jab (λ j => ?_) (λ j => ?_)
 rotate_left
 . rw [decide_eq_false j]; simp -implicitDefEqProofs (disch := omega) only [go_sem, results69]; try rfl
 rw [decide_eq_true j]; simp -implicitDefEqProofs (disch := omega) only [go_sem]
 refine Jaa y ?_
 cases m
 . simp -implicitDefEqProofs (disch := omega) only [go_sem, results69]; try rfl
 simp -implicitDefEqProofs (disch := omega) only [go_sem]
 refine Jaa z ?_
 cases o <;> (simp -implicitDefEqProofs (disch := omega) only [go_sem, results69]; try rfl)
theorem JuY (l : Lg) : Ev prog 91 [LGP l] (B (legF l)) := by
 have u := JpK l.f 0 7; have w := JpK l.t 0 7; have y := JjD l.g; have z := JjD l.k; rw [Jmz]; generalize decide (0 <= l.f /\ l.f <= 7) = b1 at *; generalize decide (0 <= l.t /\ l.t <= 7) = b2 at *; generalize cntF l.g = m at *; generalize cntF l.k = o at *
 refine EV func91 ?_
 simp -implicitDefEqProofs (disch := omega) only [go_sem, ntmps91]
 refine Jaa u ?_
 cases b1
 . simp -implicitDefEqProofs (disch := omega) only [go_sem, results91]; try rfl
 simp -implicitDefEqProofs (disch := omega) only [go_sem]
 refine Jaa w ?_
 cases b2
 . simp -implicitDefEqProofs (disch := omega) only [go_sem, results91]; try rfl
 simp -implicitDefEqProofs (disch := omega) only [go_sem]
 refine Jab (λ j => ?_) (λ j => ?_)
 rotate_left
 . rw [decide_eq_false j]; simp -implicitDefEqProofs (disch := omega) only [go_sem, results91]; try rfl
 rw [decide_eq_true j]; simp -implicitDefEqProofs (disch := omega) only [go_sem]
 refine Jaa y ?_
 cases m
 . simp -implicitDefEqProofs (disch := omega) only [go_sem, results91]; try rfl
 simp -implicitDefEqProofs (disch := omega) only [go_sem]
 refine Jaa z ?_
 cases o <;> (simp -implicitDefEqProofs (disch := omega) only [go_sem, results91]; try rfl)
abbrev spV (o : Option Sn) : AV := match o with
 | some s => .tup [SNP s, I 0]
 | none => .tup [SNP ⟨(0, 0), (0, 0)⟩, I 380]
abbrev agV (o : Option Sn) : AV := match o with
 | some s => .tup [SNP s, B true]
 | none => .tup [SNP ⟨(0, 0), (0, 0)⟩, B false]
theorem Jtt (c : Ck) (t : Int) (j : c.r.length <= 9223372036854775807) : Ev prog 145 [CKP c, I t] (match atF c t with | some w => .tup [WNP w, B true] | none => .tup [WNP (0, 0), B false]) := by
 have h := JA7 c t j; generalize atF c t = o at *
 refine EV func145 ?_
 simp -implicitDefEqProofs (disch := omega) only [go_sem, ntmps145]
 cases o with
 | none =>
  refine Jaa h ?_
  simp -implicitDefEqProofs (disch := omega) only [go_sem, results145]
 | some w =>
  refine Jaa h ?_
  simp -implicitDefEqProofs (disch := omega) only [go_sem, results145]
theorem Jgz (c : Ck) (n : Cn) (o : c.r.length <= 9223372036854775807) : Ev prog 118 [CKP c, CNP n] (spV (Jdy c n)) := by
 have j := Jtt c n.b o; have m := Jtt c n.e o; have u := Jfu n; unfold Jdy; generalize atF c n.b = w at *; generalize atF c n.e = y at *; generalize cntF n = b at *
 refine EV func118 ?_
 simp -implicitDefEqProofs (disch := omega) only [go_sem, ntmps118]
 cases w <;> cases y
 . refine Jaa j ?_
   simp -implicitDefEqProofs (disch := omega) only [go_sem]
   refine Jaa m ?_
   simp -implicitDefEqProofs (disch := omega) only [go_sem, results118]
 . refine Jaa j ?_
   simp -implicitDefEqProofs (disch := omega) only [go_sem]
   refine Jaa m ?_
   simp -implicitDefEqProofs (disch := omega) only [go_sem, results118]
 . refine Jaa j ?_
   simp -implicitDefEqProofs (disch := omega) only [go_sem]
   refine Jaa m ?_
   simp -implicitDefEqProofs (disch := omega) only [go_sem, results118]
 . refine Jaa j ?_
   simp -implicitDefEqProofs (disch := omega) only [go_sem]
   refine Jaa m ?_
   simp -implicitDefEqProofs (disch := omega) only [go_sem]
   refine Jaa u ?_
   cases b <;> simp -implicitDefEqProofs (disch := omega) only [go_sem, results118]
theorem Jrs (w v : Int × Int) : Ev prog 142 [WNP w, WNP v] (WNP (JcL w v)) := by
 refine EV func142 ?_
 simp -implicitDefEqProofs (disch := omega) only [go_sem, ntmps142, results142]
 rfl
theorem JhU (w : Int × Int) : Ev prog 143 [WNP w] (B (decide (w.2 < w.1))) := by
 refine EV func143 ?_
 simp -implicitDefEqProofs (disch := omega) only [go_sem, ntmps143, results143]
theorem JkY (s : Sn) : Ev prog 116 [SNP s] (WNP (Jdu s)) := by
 refine EV func116 ?_
 simp -implicitDefEqProofs (disch := omega) only [go_sem, ntmps116, results116]
 rfl
def Jtk (j m : Option Sn) (q : Bool) : Option Sn := match j, m with
 | some s, some t => if q = true then JnQ s t else none
 | _, _ => none
theorem JrB (a b : Ck) (l : Lg) : JeI a b l = Jtk (Jdy a l.g) (Jdy b l.k) (legF l) := rfl
theorem Joz (a b : Ck) (l : Lg) (ha : a.r.length <= 9223372036854775807) (hb : b.r.length <= 9223372036854775807) : Ev prog 115 [CKP a, CKP b, LGP l] (agV (JeI a b l)) := by
  have h1 := Jgz a l.g ha; have h2 := Jgz b l.k hb; have h3 := JiD l; rw [JrB]; generalize Jdy a l.g = o1 at *; generalize Jdy b l.k = o2 at *; generalize legF l = q at *
  refine EW [5] func115 ?_
  simp -implicitDefEqProofs (disch := omega) only [go_sem, ntmps115]
  cases o1 <;> cases o2
  . refine Jaa h1 ?_
    simp -implicitDefEqProofs (disch := omega) only [go_sem]
    refine Jaa h2 ?_
    simp -implicitDefEqProofs (disch := omega) only [go_sem]
    refine Jaa h3 ?_
    cases q <;> (simp -implicitDefEqProofs (disch := omega) only [go_sem, results115]; try rfl)
  . refine Jaa h1 ?_
    simp -implicitDefEqProofs (disch := omega) only [go_sem]
    refine Jaa h2 ?_
    simp -implicitDefEqProofs (disch := omega) only [go_sem]
    refine Jaa h3 ?_
    cases q <;> (simp -implicitDefEqProofs (disch := omega) only [go_sem, results115]; try rfl)
  . refine Jaa h1 ?_
    simp -implicitDefEqProofs (disch := omega) only [go_sem]
    refine Jaa h2 ?_
    simp -implicitDefEqProofs (disch := omega) only [go_sem]
    refine Jaa h3 ?_
    cases q <;> (simp -implicitDefEqProofs (disch := omega) only [go_sem, results115]; try rfl)
  . rename_i s t
    refine Jaa h1 ?_
    simp -implicitDefEqProofs (disch := omega) only [go_sem]
    refine Jaa h2 ?_
    simp -implicitDefEqProofs (disch := omega) only [go_sem]
    refine Jaa h3 ?_
    cases q
    . simp -implicitDefEqProofs (disch := omega) only [go_sem, results115]; try rfl
    . have c1 := Jrs s.b t.b; have c2 := Jrs s.e t.e
      have hm : JnQ s t = if (JcL s.b t.b).1 <= (JcL s.b t.b).2 /\ (JcL s.e t.e).1 <= (JcL s.e t.e).2 /\ (JcL s.b t.b).1 <= (JcL s.e t.e).2 then some ⟨JcL s.b t.b, JcL s.e t.e⟩ else none := rfl
      have hw : Jtk (some s) (some t) true = JnQ s t := rfl
      rw [hw, hm]; clear hw; clear hm; generalize JcL s.b t.b = w at *; generalize JcL s.e t.e = v at *; have c3 := JhU w; have c4 := JhU v; simp -implicitDefEqProofs (disch := omega) only [go_sem]
      refine Jgu (fun D E σ => E 6 = .ptr 243269728 4 0 0 /\ E 8 = .ptr 243269760 4 0 0 /\ E 10 = .ptr 243269792 4 0 0 /\ σ 243269728 = some ⟨204, 4, [.agg [I 0, I 0, I 0, I 0]]⟩ /\ σ 243269760 = some ⟨204, 4, [SNP s]⟩ /\ σ 243269792 = some ⟨204, 4, [SNP t]⟩ /\ (D 16 = true -> D 14 = true) /\ (D 17 = true -> D 15 = true) /\ (D 14 = true -> D 16 = false -> σ 243269824 = some ⟨246, 2, [.agg [I 0, I 0]]⟩) /\ (D 16 = true -> σ 243269824 = some ⟨246, 2, [.agg [I w.1, I w.2]]⟩) /\ (D 15 = true -> D 17 = false -> σ 243269840 = some ⟨246, 2, [.agg [I 0, I 0]]⟩) /\ (D 17 = true -> σ 243269840 = some ⟨246, 2, [.agg [I v.1, I v.2]]⟩) /\ (D 0 = true -> E 40 = .ptr 243269760 4 0 0) /\ (D 1 = true -> E 41 = .agg [I s.b.1, I s.b.2]) /\ (D 2 = true -> E 42 = .agg [I s.b.1, I s.b.2]) /\ (D 3 = true -> E 43 = .ptr 243269792 4 0 0) /\ (D 4 = true -> E 44 = .agg [I t.b.1, I t.b.2]) /\ (D 5 = true -> E 45 = .agg [I w.1, I w.2]) /\ (D 6 = true -> E 46 = .agg [I w.1, I w.2]) /\ (D 7 = true -> E 47 = .ptr 243269760 4 0 2) /\ (D 8 = true -> E 48 = .agg [I s.e.1, I s.e.2]) /\ (D 9 = true -> E 49 = .agg [I s.e.1, I s.e.2]) /\ (D 10 = true -> E 50 = .ptr 243269792 4 0 2) /\ (D 11 = true -> E 51 = .agg [I t.e.1, I t.e.2]) /\ (D 12 = true -> E 52 = .agg [I v.1, I v.2]) /\ (D 13 = true -> E 53 = .agg [I v.1, I v.2]) /\ (D 14 = true -> E 12 = .ptr 243269824 2 0 0) /\ (D 15 = true -> E 13 = .ptr 243269840 2 0 0)) ?_ ?_ ?_
      . simp -implicitDefEqProofs (disch := omega) only [go_sem, false_and, and_self]; try simp
      . simp only [Jhr, depK, Region.binds, eq_self, forall_const, and_true]
        repeat' apply And.intro
        all_goals
          rintro D E σ ⟨e6, e8, e10, b6, b8, b10, c16_14, c17_15, m0_0, m0_1, m1_0, m1_1, j0, j1, j2, j3, j4, j5, j6, j7, j8, j9, j10, j11, j12, j13, j14, j15⟩ hd
          have k := And.intro trivial <| And.intro (cK c16_14) <| And.intro (cK c17_15) trivial
          simp -implicitDefEqProofs (disch := first | assumption | (simp only [hd, k]; done) | omega) only [go_sem, e6, e8, e10, b6, b8, b10, m0_0, m0_1, m1_0, m1_1, j0, j1, j2, j3, j4, j5, j6, j7, j8, j9, j10, j11, j12, j13, j14, j15, false_and, and_self]
          try ((first | refine Jaa c1 ?_ | refine Jaa c2 ?_); simp -implicitDefEqProofs (disch := first | assumption | (simp only [hd, k]; done) | omega) only [go_sem, e6, e8, e10, b6, b8, b10, m0_0, m0_1, m1_0, m1_1, j0, j1, j2, j3, j4, j5, j6, j7, j8, j9, j10, j11, j12, j13, j14, j15, false_and, and_self])
          repeat' apply And.intro
          all_goals first | assumption | (intro _; assumption) | trivial | (simp -implicitDefEqProofs (contextual := true) (disch := first | assumption | omega) only [go_sem, m0_0, m0_1, m1_0, m1_1, j0, j1, j2, j3, j4, j5, j6, j7, j8, j9, j10, j11, j12, j13, j14, j15, hd, c16_14, c17_15, k, implies_true, forall_const, false_implies, true_implies]; done) | (intro h; intros; exfalso; simp (maxDischargeDepth := 9) [hd, k] at h; done) | (intros; contradiction) | trace_state
      . rintro D E σ hD ⟨e6, e8, e10, b6, b8, b10, c16_14, c17_15, m0_0, m0_1, m1_0, m1_1, j0, j1, j2, j3, j4, j5, j6, j7, j8, j9, j10, j11, j12, j13, j14, j15⟩
        have g0 := m0_1 (hD 16 (by decide))
        have g1 := m1_1 (hD 17 (by decide))
        have q0 := j0 (hD 0 (by decide))
        have q1 := j1 (hD 1 (by decide))
        have q2 := j2 (hD 2 (by decide))
        have q3 := j3 (hD 3 (by decide))
        have q4 := j4 (hD 4 (by decide))
        have q5 := j5 (hD 5 (by decide))
        have q6 := j6 (hD 6 (by decide))
        have q7 := j7 (hD 7 (by decide))
        have q8 := j8 (hD 8 (by decide))
        have q9 := j9 (hD 9 (by decide))
        have q10 := j10 (hD 10 (by decide))
        have q11 := j11 (hD 11 (by decide))
        have q12 := j12 (hD 12 (by decide))
        have q13 := j13 (hD 13 (by decide))
        have q14 := j14 (hD 14 (by decide))
        have q15 := j15 (hD 15 (by decide))
        clear c16_14 c17_15 m0_0 m0_1 m1_0 m1_1 j0 j1 j2 j3 j4 j5 j6 j7 j8 j9 j10 j11 j12 j13 j14 j15 hD; clear e8 e10 b8 b10; simp -implicitDefEqProofs (disch := omega) only [go_sem, e6, b6, q14, q15, g0, g1]
        refine Jaa c3 ?_
        by_cases h5 : w.2 < w.1
        . rw [decide_eq_true h5, if_neg (fun h => by omega)]
          simp -implicitDefEqProofs (disch := omega) only [go_sem, e6, b6, q14, q15, g0, g1, results115]
        rw [decide_eq_false h5]; simp -implicitDefEqProofs (disch := omega) only [go_sem, e6, b6, q14, q15, g0, g1]
        refine Jaa c4 ?_
        by_cases h6 : v.2 < v.1
        . rw [decide_eq_true h6, if_neg (fun h => by omega)]
          simp -implicitDefEqProofs (disch := omega) only [go_sem, e6, b6, q14, q15, g0, g1, results115]
        rw [decide_eq_false h6]; simp -implicitDefEqProofs (disch := omega) only [go_sem, e6, b6, q14, q15, g0, g1]
        refine Jab (fun h7 => ?_) (fun h7 => ?_)
        . rw [if_neg (fun h => by omega)]
          simp -implicitDefEqProofs (disch := omega) only [go_sem, e6, b6, q14, q15, g0, g1, results115]
        . rw [if_pos ⟨by omega, by omega, by omega⟩]
          simp -implicitDefEqProofs (disch := omega) only [go_sem, e6, b6, q14, q15, g0, g1, results115]
abbrev bPP (u : Bool) : AV := if u then .ptr 304087088 2 0 0 else .v (.pointer none)
@[go_sem] theorem bPP_f : bPP false = .v (.pointer none) := rfl
@[go_sem] theorem bPP_t : bPP true = .ptr 304087088 2 0 0 := rfl
abbrev bLP (u : Bool) (l : List Int) : List (Nat × Blk) := [(304087088, ⟨182, 2, [.agg [bPP u, .own 304087089 1 0 l.length]]⟩), (304087089, ⟨5, 1, l.map Y⟩)]
set_option maxHeartbeats 1000000 in
theorem Jo6 (u : Bool) (l : List Int) : LOK prog 124 (inI [304087088, 304087089]) [.ptr 304087088 2 0 0] (stO (bLP u l)) (.tup []) (stO (bLP true l)) := by
 refine Jbc [] [304087088, 304087089] func124 rfl (by kernel_rfl) mo (nb rfl) rfl (by kernel_rfl) (by kernel_rfl) ?_
 cases u with
 | false =>
  simp -implicitDefEqProofs (disch := omega) only [go_sem, ntmps124]
  refine JbY (te := 182) true (.inl ⟨by simp -implicitDefEqProofs (disch := omega) only [go_sem], rfl⟩) rfl true (.inl ⟨rfl, rfl⟩) ?_
  simp -implicitDefEqProofs (disch := omega) only [go_sem]
  refine Jdr (te := 182) (k := ⟨182, 2, [.agg [.v (.pointer none), .own 304087089 1 0 l.length]]⟩) (id := 304087088) (sz := 2) (j := 0) (by simp -implicitDefEqProofs (disch := omega) only [go_sem]) (by simp -implicitDefEqProofs (disch := omega) only [go_sem]) rfl (by decide) (by show 0 < 1 * 2; omega) rfl rfl rfl (by decide) ?_
  simp -implicitDefEqProofs (disch := omega) only [go_sem]
  refine Jak rfl ?_
  refine Jdg (.ptr 304087088 2 0 0) (by simp -implicitDefEqProofs (disch := omega) only [go_sem]) func154 rfl rfl rfl rfl ?_
  simp -implicitDefEqProofs (disch := omega) only [go_sem]
  refine Jdh (te := 182) (k := ⟨182, 2, [.agg [.v (.pointer none), .own 304087089 1 0 l.length]]⟩) (id := 304087088) (sz := 2) (j := 0) (by simp -implicitDefEqProofs (disch := omega) only [go_sem]) (by simp -implicitDefEqProofs (disch := omega) only [go_sem]) rfl (by decide) (by simp) rfl rfl rfl (show prog.cellsOf 182 ≠ 0 /\ prog.cellsOf 182 <= 2 from by decide +kernel) (by kernel_rfl) ?_
  simp -implicitDefEqProofs (disch := omega) only [go_sem, results124]
 | true =>
  simp -implicitDefEqProofs (disch := omega) only [go_sem, ntmps124]
  refine JbY (te := 182) false (.inr (.inl ⟨⟨304087088, 2, 0, 0, by simp -implicitDefEqProofs (disch := omega) only [go_sem]⟩, rfl⟩)) rfl false (.inl ⟨rfl, rfl⟩) ?_
  simp -implicitDefEqProofs (disch := omega) only [go_sem]
  refine Jd4 (te := 182) (id := 304087088) (sz := 2) (i := 0) (j := 0) (by simp -implicitDefEqProofs (disch := omega) only [go_sem]) (by simp -implicitDefEqProofs (disch := omega) only [go_sem]) rfl rfl false (.inr ⟨rfl, rfl⟩) ?_
  simp -implicitDefEqProofs (disch := omega) only [go_sem, results124]
set_option maxHeartbeats 1000000 in
theorem Jrt (u : Bool) (l : List Int) (s : ByteArray) (o : l.length + s.size <= 100000000) : LOK prog 85 (inI [304087088]) [.ptr 304087088 2 0 0, Str s] (stO (bLP u l)) (.tup [I s.size, .v .nilIface]) (stO (bLP true (l ++ bI s))) := by
 refine Jbc [] [304087088] func85 rfl (by kernel_rfl) mo (nb rfl) rfl (by kernel_rfl) (by kernel_rfl) ?_
 have j := Jao s; simp -implicitDefEqProofs (disch := omega) only [go_sem, ntmps85]
 refine Jak rfl ?_
 have m : LOK prog 124 (inI [304087088, 304087089]) ([.ptr 304087088 2 0 0] ++ []) (stO (bLP u l)) (.tup []) (stO (bLP true l)) := Jo6 u l
 refine JaV [304087088, 304087089] m ?_ ?_ ?_ ?_ ?_ ?_ ?_ (hsp := λ id h _ => L0y.2 h)
 . simp -implicitDefEqProofs (disch := omega) only [go_sem]
 . simp -implicitDefEqProofs (disch := omega) only [go_sem]
 . simp -implicitDefEqProofs (disch := omega) only [go_sem]
 . simp -implicitDefEqProofs (disch := omega) only [go_sem]
 . cases u <;> simp -implicitDefEqProofs (disch := omega) only [go_sem]
 . simp -implicitDefEqProofs (disch := omega) only [go_sem]
 . simp -implicitDefEqProofs (disch := omega) only [go_sem, L0a, j, results85, L05, and_self]
theorem Joh (u : Bool) (s : ByteArray) (w : s.size ≠ 0) (y : s.size <= 100000000) : LOK prog 86 (inI [304087088]) [.ptr 304087088 2 0 0] (stO (bLP u (bI s))) (Str s) (stO [(304087088, ⟨182, 2, [.agg [bPP u, .any]]⟩), (304087089, ⟨5, 1, []⟩)]) := by
 refine Jbc [] [304087088] func86 rfl (by kernel_rfl) mo (nb rfl) rfl (by kernel_rfl) (by kernel_rfl) ?_
 have j := Jao s
 obtain ⟨m, o⟩ : ∃ m, s.size = m + 1 := ⟨s.size - 1, by omega⟩
 simp -implicitDefEqProofs (disch := omega) only [go_sem, ntmps86, j, o]
 refine JcK (e := 5) (id := 304087089) s (by simp -implicitDefEqProofs (disch := omega) only [go_sem, j, o]) (by simp -implicitDefEqProofs (disch := omega) only [go_sem, j, o]) (by simp -implicitDefEqProofs (disch := omega) only [go_sem, j, o]) (by omega) rfl (by decide +kernel) (by simp -implicitDefEqProofs (disch := omega) only [go_sem]) (by omega) ?_
 cases u <;> simp -implicitDefEqProofs (disch := omega) only [go_sem, results86]
abbrev bPS (u : Bool) : AV := if u then .ptr 350224464 2 0 0 else .v (.pointer none)
@[go_sem] theorem bPS_f : bPS false = .v (.pointer none) := rfl
@[go_sem] theorem bPS_t : bPS true = .ptr 350224464 2 0 0 := rfl
abbrev bLS (u : Bool) (l : List Int) : List (Nat × Blk) := [(350224464, ⟨292, 2, [.agg [bPS u, .own 350224465 1 0 l.length]]⟩), (350224465, ⟨5, 1, l.map Y⟩)]
set_option maxHeartbeats 1000000 in
theorem Jo7 (u : Bool) (l : List Int) : LOK prog 124 (inI [350224464, 350224465]) [.ptr 350224464 2 0 0] (stO (bLS u l)) (.tup []) (stO (bLS true l)) := by
 refine Jbc [] [350224464, 350224465] func124 rfl (by kernel_rfl) mo (nb rfl) rfl (by kernel_rfl) (by kernel_rfl) ?_
 cases u with
 | false =>
  simp -implicitDefEqProofs (disch := omega) only [go_sem, ntmps124]
  refine JbY (te := 182) true (.inl ⟨by simp -implicitDefEqProofs (disch := omega) only [go_sem], rfl⟩) rfl true (.inl ⟨rfl, rfl⟩) ?_
  simp -implicitDefEqProofs (disch := omega) only [go_sem]
  refine Jdr (te := 182) (k := ⟨292, 2, [.agg [.v (.pointer none), .own 350224465 1 0 l.length]]⟩) (id := 350224464) (sz := 2) (j := 0) (by simp -implicitDefEqProofs (disch := omega) only [go_sem]) (by simp -implicitDefEqProofs (disch := omega) only [go_sem]) rfl (by decide) (by show 0 < 1 * 2; omega) rfl rfl rfl (by decide) ?_
  simp -implicitDefEqProofs (disch := omega) only [go_sem]
  refine Jak rfl ?_
  refine Jdg (.ptr 350224464 2 0 0) (by simp -implicitDefEqProofs (disch := omega) only [go_sem]) func154 rfl rfl rfl rfl ?_
  simp -implicitDefEqProofs (disch := omega) only [go_sem]
  refine Jdh (te := 182) (k := ⟨292, 2, [.agg [.v (.pointer none), .own 350224465 1 0 l.length]]⟩) (id := 350224464) (sz := 2) (j := 0) (by simp -implicitDefEqProofs (disch := omega) only [go_sem]) (by simp -implicitDefEqProofs (disch := omega) only [go_sem]) rfl (by decide) (by simp) rfl rfl rfl (show prog.cellsOf 292 ≠ 0 /\ prog.cellsOf 292 <= 2 from by decide +kernel) (by kernel_rfl) ?_
  simp -implicitDefEqProofs (disch := omega) only [go_sem, results124]
 | true =>
  simp -implicitDefEqProofs (disch := omega) only [go_sem, ntmps124]
  refine JbY (te := 182) false (.inr (.inl ⟨⟨350224464, 2, 0, 0, by simp -implicitDefEqProofs (disch := omega) only [go_sem]⟩, rfl⟩)) rfl false (.inl ⟨rfl, rfl⟩) ?_
  simp -implicitDefEqProofs (disch := omega) only [go_sem]
  refine Jd4 (te := 182) (id := 350224464) (sz := 2) (i := 0) (j := 0) (by simp -implicitDefEqProofs (disch := omega) only [go_sem]) (by simp -implicitDefEqProofs (disch := omega) only [go_sem]) rfl rfl false (.inr ⟨rfl, rfl⟩) ?_
  simp -implicitDefEqProofs (disch := omega) only [go_sem, results124]
set_option maxHeartbeats 1000000 in
theorem JkP (u : Bool) (l : List Int) (s : ByteArray) (o : l.length + s.size <= 100000000) : LOK prog 85 (inI [350224464]) [.ptr 350224464 2 0 0, Str s] (stO (bLS u l)) (.tup [I s.size, .v .nilIface]) (stO (bLS true (l ++ bI s))) := by
 refine Jbc [] [350224464] func85 rfl (by kernel_rfl) mo (nb rfl) rfl (by kernel_rfl) (by kernel_rfl) ?_
 have j := Jao s; simp -implicitDefEqProofs (disch := omega) only [go_sem, ntmps85]
 refine Jak rfl ?_
 have m : LOK prog 124 (inI [350224464, 350224465]) ([.ptr 350224464 2 0 0] ++ []) (stO (bLS u l)) (.tup []) (stO (bLS true l)) := Jo7 u l
 refine JaV [350224464, 350224465] m ?_ ?_ ?_ ?_ ?_ ?_ ?_ (hsp := λ id h _ => L0y.2 h)
 . simp -implicitDefEqProofs (disch := omega) only [go_sem]
 . simp -implicitDefEqProofs (disch := omega) only [go_sem]
 . simp -implicitDefEqProofs (disch := omega) only [go_sem]
 . simp -implicitDefEqProofs (disch := omega) only [go_sem]
 . cases u <;> simp -implicitDefEqProofs (disch := omega) only [go_sem]
 . simp -implicitDefEqProofs (disch := omega) only [go_sem]
 . simp -implicitDefEqProofs (disch := omega) only [go_sem, L0a, j, results85, L05, and_self]
theorem Joi (u : Bool) (s : ByteArray) (w : s.size ≠ 0) (y : s.size <= 100000000) : LOK prog 86 (inI [350224464]) [.ptr 350224464 2 0 0] (stO (bLS u (bI s))) (Str s) (stO [(350224464, ⟨292, 2, [.agg [bPS u, .any]]⟩), (350224465, ⟨5, 1, []⟩)]) := by
 refine Jbc [] [350224464] func86 rfl (by kernel_rfl) mo (nb rfl) rfl (by kernel_rfl) (by kernel_rfl) ?_
 have j := Jao s
 obtain ⟨m, o⟩ : ∃ m, s.size = m + 1 := ⟨s.size - 1, by omega⟩
 simp -implicitDefEqProofs (disch := omega) only [go_sem, ntmps86, j, o]
 refine JcK (e := 5) (id := 350224465) s (by simp -implicitDefEqProofs (disch := omega) only [go_sem, j, o]) (by simp -implicitDefEqProofs (disch := omega) only [go_sem, j, o]) (by simp -implicitDefEqProofs (disch := omega) only [go_sem, j, o]) (by omega) rfl (by decide +kernel) (by simp -implicitDefEqProofs (disch := omega) only [go_sem]) (by omega) ?_
 cases u <;> simp -implicitDefEqProofs (disch := omega) only [go_sem, results86]
def catV : List Int -> ByteArray
 | [] => ByteArray.empty
 | n :: l => viS n ++ catV l
theorem JgN : ∀ (l : List Int) (n : Int), catV (l ++ [n]) = catV l ++ viS n
 | [], n => by simp [catV]
 | m :: l, n => by rw [L0K, catV, catV, JgN l n, L2u]
theorem Jbi (a b : ByteArray) : bI (a ++ b) = bI a ++ bI b := by
 unfold bI; rw [L2t]; simp
theorem Jjy (l : List Int) : (catV l).size <= 10 * l.length := by
 induction l with
 | nil => simp [catV]
 | cons n l j =>
  have := Jav n
  rw [catV, L0u, L0c]; omega
theorem Jro (n : Int) : (viS n).size ≠ 0 := by
 unfold viS viB; rw [strOfNums_size, L0b]; unfold grp
 split <;> simp
theorem JiY (l : Lg) (e : Int) (n : Cn) : catV [8, l.f, l.t, e, n.b, n.e] = recN l e n := by
 simp only [catV, recN, L2u, ByteArray.append_empty]
set_option maxHeartbeats 1000000 in
theorem JtP (l : List Int) (J : 0 < l.length) (S : l.length <= 1000) (K : ∀ n ∈ l, -4611686018427387903 <= n /\ n <= 4611686018427387903) : Ev prog 144 [SL l] (Str (catV l)) := by
 refine EW [2] func144 ?_
 simp -implicitDefEqProofs (disch := omega) only [go_sem, ntmps144]
 refine Jbp 304087088 304087089 0 1 5 1 (k := ⟨182, 2, [.agg [.v (.pointer none), .v (.slice none 0 0)]]⟩) (el := .agg [.v (.pointer none), .v (.slice none 0 0)]) (by simp -implicitDefEqProofs (disch := omega) only [go_sem]) (by decide) rfl rfl (by decide) (by simp -implicitDefEqProofs (disch := omega) only [go_sem]) rfl ?_
 refine Jel Plain.mono ?_
 simp -implicitDefEqProofs (disch := omega) only [go_sem]
 refine Jag (λ k E H => ∃ i : Nat, i + k = l.length /\ E 3 = .ptr 304087088 2 0 0 /\ E 8 = SL l /\ E 9 = I l.length /\ E 10 = I i /\ H 304087088 = some ⟨182, 2, [.agg [bPP (decide (0 < i)), .own 304087089 1 0 (bI (catV (l.take i))).length]]⟩ /\ H 304087089 = some ⟨5, 1, (bI (catV (l.take i))).map Y⟩) l.length ⟨0, by omega, ?_⟩ ?_
 . have C : bI ByteArray.empty = [] := rfl
   simp -implicitDefEqProofs (disch := omega) only [go_sem, catV, false_and, C]
   try exact ⟨rfl, rfl⟩
 rintro k E H ⟨i, R, m, o, w, j, z, A⟩
 have y := Jjy (l.take i); rw [L01] at y; simp -implicitDefEqProofs (disch := omega) only [go_sem, m, o, w, j]
 refine Jab (λ N => ?_) (λ N => ?_)
 . have D : i < l.length := by omega
   have O := JcX (gd l i) (K _ (Jan l i D)).1 (K _ (Jan l i D)).2; have Q := Jav (gd l i)
   have G : bI (catV (l.take (i + 1))) = bI (catV (l.take i)) ++ bI (viS (gd l i)) := by
    rw [L0D, JaA l i D]
    show bI (catV (l.take i ++ [gd l i])) = _
    rw [JgN, Jbi]
   have M : (bI (catV (l.take i))).length = (catV (l.take i)).size := Jao _
   generalize T : bI (catV (l.take i)) = q at *; generalize viS (gd l i) = v at *; generalize U : decide (0 < i) = u at *; simp -implicitDefEqProofs (disch := omega) only [go_sem, m, o, w, j]
   refine Jaa O ?_
   simp -implicitDefEqProofs (disch := omega) only [go_sem, m, o, w, j]
   refine Jak rfl ?_
   have L : LOK prog 85 (inI [304087088]) ([.ptr 304087088 2 0 0, Str v] ++ []) (stO (bLP u q)) (.tup [I v.size, .v .nilIface]) (stO (bLP true (q ++ bI v))) := Jrt u q v (by omega)
   refine JaV [304087088] L ?_ ?_ ?_ ?_ ?_ ?_ ?_
   . simp -implicitDefEqProofs (disch := omega) only [go_sem, m, o, w, j]
   . simp -implicitDefEqProofs (disch := omega) only [go_sem, m, o, w, j]
   . cases u <;> simp -implicitDefEqProofs (disch := omega) only [go_sem, m, o, w, j, z, A]
   . cases u <;> simp -implicitDefEqProofs (disch := omega) only [go_sem, m, o, w, j]
   . cases u <;> simp -implicitDefEqProofs (disch := omega) only [go_sem, m, o, w, j]
   . simp -implicitDefEqProofs (disch := omega) only [go_sem, m, o, w, j]
   . simp -implicitDefEqProofs (disch := omega) only [go_sem, m, o, w, j]
     refine Jad (l.length - (i + 1)) (by omega) ⟨i + 1, by omega, ?_⟩
     have P : decide (0 < i + 1) = true := decide_eq_true (by omega)
     rw [G, P]; simp -implicitDefEqProofs (disch := omega) only [go_sem, m, o, w, j, z, A]; try simp
 . obtain rfl : i = l.length := by omega
   rw [L05, decide_eq_true J] at z; rw [L05] at A; rw [L05] at y; simp -implicitDefEqProofs (disch := omega) only [go_sem, m, o, w, j, z, A]
   refine Jak rfl ?_
   have F : (catV l).size ≠ 0 := by
    cases l with
    | nil => simp at J
    | cons n l =>
     have := Jro n
     rw [catV, L0u]; omega
   have B : LOK prog 86 (inI [304087088]) ([.ptr 304087088 2 0 0] ++ []) (stO (bLP true (bI (catV l)))) (Str (catV l)) (stO [(304087088, ⟨182, 2, [.agg [bPP true, .any]]⟩), (304087089, ⟨5, 1, []⟩)]) := Joh true (catV l) F (by omega)
   refine JaV [304087088] B ?_ ?_ ?_ ?_ ?_ ?_ ?_
   . simp -implicitDefEqProofs (disch := omega) only [go_sem, m]
   . simp -implicitDefEqProofs (disch := omega) only [go_sem, m]
   . simp -implicitDefEqProofs (disch := omega) only [go_sem, z, A]
   . simp -implicitDefEqProofs (disch := omega) only [go_sem]
   . simp -implicitDefEqProofs (disch := omega) only [go_sem]
   . simp -implicitDefEqProofs (disch := omega) only [go_sem]
   . simp -implicitDefEqProofs (disch := omega) only [go_sem, results144]
def recV (l : Lg) (e : Int) : AV := if legF l = true /\ (1 <= e /\ e <= 2) then .tup [Str (recF l e), I 0] else .tup [Str ⟨#[]⟩, I 380]
theorem JqE {l : Lg} (h : legF l = true) (e : Int) (y : 1 <= e /\ e <= 2) (n : Cn) (j : cntF n = true) : ∀ x ∈ [8, l.f, l.t, e, n.b, n.e], -4611686018427387903 <= x /\ x <= 4611686018427387903 := by
 obtain ⟨o, u, w⟩ := JbS.1 h
 have := JdV.1 j
 intro x m
 simp only [L0o, List.mem_nil_iff, or_false] at m
 omega
theorem JtR (l : Lg) (e : Int) : Ev prog 117 [LGP l, I e] (recV l e) := by
 have B := JiD l; have w := Jd0 e 1 2
 obtain ⟨r, y⟩ : ∃ r, recV l e = r := ⟨_, rfl⟩
 have m : legF l = true -> (1 <= e /\ e <= 2) -> r = .tup [Str (recF l e), I 0] := λ a b => by rw [<- y]; exact if_pos ⟨a, b⟩
 have o : ¬ (legF l = true /\ (1 <= e /\ e <= 2)) -> r = .tup [Str ⟨#[]⟩, I 380] := λ a => by rw [<- y]; exact if_neg a
 rw [y]; clear y
 refine EV func117 ?_
 simp -implicitDefEqProofs (disch := omega) only [go_sem, ntmps117]
 refine Jaa B ?_
 by_cases j : legF l = true
 rotate_left
 . rw [o (λ h => j h.1)]
   have j : legF l = false := by simpa using j
   simp -implicitDefEqProofs (disch := omega) only [go_sem, j, results117]
 simp -implicitDefEqProofs (disch := omega) only [go_sem, j]
 by_cases he : 1 <= e /\ e <= 2
 rotate_left
 . rw [o (λ h => he h.2)]
   rw [decide_eq_false he] at w
   refine Jaa w ?_
   simp -implicitDefEqProofs (disch := omega) only [go_sem, results117]
 rw [decide_eq_true he] at w; rw [m j he]; clear m o
 refine Jaa w ?_
 have C := (JbS.1 j).2.1; have D := (JbS.1 j).2.2
 obtain rfl | rfl : e = 1 \/ e = 2 := by omega
 . have u := JtP [8, l.f, l.t, 1, l.g.b, l.g.e] (by simp) (by simp) (JqE j 1 he l.g C)
   rw [JiY] at u
   have z : ((1 : Int) - 1).toNat = 0 := rfl
   have A : ((2 : Int) - 1).toNat = 1 := rfl
   simp -implicitDefEqProofs (disch := omega) only [go_sem, z, A]
   refine Jaa u ?_
   simp -implicitDefEqProofs (disch := omega) only [go_sem, results117]; try rfl
 . have u := JtP [8, l.f, l.t, 2, l.k.b, l.k.e] (by simp) (by simp) (JqE j 2 he l.k D)
   rw [JiY] at u
   have z : ((1 : Int) - 1).toNat = 0 := rfl
   have A : ((2 : Int) - 1).toNat = 1 := rfl
   simp -implicitDefEqProofs (disch := omega) only [go_sem, z, A]
   refine Jaa u ?_
   simp -implicitDefEqProofs (disch := omega) only [go_sem, results117]; try rfl
set_option maxHeartbeats 1000000 in
theorem Jvi (l : Lg) (e : Int) : Ev prog 52 [LGP l, I e] (recV l e) := by
 have S := JuY l; have D := JpK e 1 2
 obtain ⟨r, G⟩ : ∃ r, recV l e = r := ⟨_, rfl⟩
 have z : legF l = true -> (1 <= e /\ e <= 2) -> r = .tup [Str (recF l e), I 0] := λ a b => by rw [<- G]; exact if_pos ⟨a, b⟩
 have A : ¬ (legF l = true /\ (1 <= e /\ e <= 2)) -> r = .tup [Str ⟨#[]⟩, I 380] := λ a => by rw [<- G]; exact if_neg a
 rw [G]; clear G
 refine EV func52 ?_
 simp -implicitDefEqProofs (disch := omega) only [go_sem, ntmps52]
 refine Jaa S ?_
 by_cases w : legF l = true
 rotate_left
 . rw [A (λ h => w h.1)]
   have w : legF l = false := by simpa using w
   simp -implicitDefEqProofs (disch := omega) only [go_sem, w, results52]
 simp -implicitDefEqProofs (disch := omega) only [go_sem, w]
 by_cases he : 1 <= e /\ e <= 2
 rotate_left
 . rw [A (λ h => he h.2)]
   rw [decide_eq_false he] at D
   refine Jaa D ?_
   simp -implicitDefEqProofs (disch := omega) only [go_sem, results52]
 rw [decide_eq_true he] at D; rw [z w he]; clear z A
 refine Jaa D ?_
 obtain ⟨n, F, y⟩ : ∃ n : Cn, n = (if e = 1 then l.g else l.k) /\ recF l e = recN l e n := ⟨_, rfl, rfl⟩
 have M : cntF n = true := by
  rw [F]; split
  . exact (JbS.1 w).2.1
  . exact (JbS.1 w).2.2
 have O := JqE w e he n M; rw [y, <- JiY]; clear y S D; generalize T : [8, l.f, l.t, e, n.b, n.e] = L at *
 have V : L.length = 6 := by rw [<- T]; rfl
 simp -implicitDefEqProofs (disch := omega) only [go_sem]
 refine JbJ (λ E B => E 1 = I e /\ E 2 = .ptr 111149088 6 0 0 /\ E 6 = .ptr 111149152 2 0 0 /\ B 111149088 = some ⟨62, 6, [LGP l]⟩ /\ B 111149152 = some ⟨60, 2, [CNP n]⟩) (λ h => ?_) (λ h => ?_) ?_
 . rw [if_neg (by omega)] at F
   subst F; simp -implicitDefEqProofs (disch := omega) only [go_sem, false_and]
 . rw [if_pos (by omega)] at F
   subst F; simp -implicitDefEqProofs (disch := omega) only [go_sem]
 rintro E B ⟨H, J, K, Q, R⟩
 simp -implicitDefEqProofs (disch := omega) only [go_sem, H, J, K, Q, R]
 refine Jag (λ k E B => ∃ i : Nat, i + k = 6 /\ E 35 = .own 111149616 1 0 6 /\ E 36 = I 6 /\ E 37 = I i /\ E 7 = Str (catV (L.take i)) /\ B 111149616 = some ⟨3, 1, L.map I⟩) 6 ⟨0, by omega, ?_⟩ ?_
 . rw [<- T]; simp -implicitDefEqProofs (disch := omega) only [go_sem, H, J, K, Q, R]
   exact ⟨rfl, rfl, rfl⟩
 clear H J K Q R E B
 rintro k E B ⟨i, Z, j, m, o, C, u⟩
 simp -implicitDefEqProofs (disch := omega) only [go_sem, j, m, o, C, u]
 refine Jab (λ W => ?_) (λ W => ?_)
 . have U := O _ (Jan L i (by omega))
   have X := Jd5 (gd L i) U.1 U.2
   have P : catV (L.take (i + 1)) = catV (L.take i) ++ viS (gd L i) := by
    rw [L0D, JaA L i (by omega)]; exact JgN _ _
   have N := Jjy (L.take i); rw [L01] at N; have Y := Jav (gd L i); simp -implicitDefEqProofs (disch := omega) only [go_sem, j, m, o, C, u]
   refine Jaa X ?_
   simp -implicitDefEqProofs (disch := omega) only [go_sem, j, m, o, C, u]
   refine Jad (6 - (i + 1)) (by omega) ⟨i + 1, by omega, ?_⟩
   rw [P]; simp -implicitDefEqProofs (disch := omega) only [go_sem, j, m, o, C, u]; try rfl
 . obtain rfl : i = 6 := by omega
   rw [L03 (by omega)] at C
   simp -implicitDefEqProofs (disch := omega) only [go_sem, j, m, o, C, u, results52]
def lenT : ByteArray := ⟨((List.range 256).map λ i => UInt8.ofNat (if i = 0 then 0 else Nat.log2 i + 1)).toArray⟩
theorem JuZ (z : Nat) (j : z < 64) : lenT[z]? = some (UInt8.ofNat (if z = 0 then 0 else Nat.log2 z + 1)) := by
 have : ∀ z : Fin 64, lenT[(z : Nat)]? = some (UInt8.ofNat (if (z : Nat) = 0 then 0 else Nat.log2 z + 1)) := by decide +kernel
 exact this ⟨z, j⟩
theorem JmB (z : Nat) (j : z < 64) : (((UInt8.ofNat (if z = 0 then 0 else Nat.log2 z + 1)).toNat : Nat) : Int) = ((if z = 0 then 0 else Nat.log2 z + 1 : Nat) : Int) /\ (if z = 0 then 0 else Nat.log2 z + 1) <= 6 := by
 have : ∀ z : Fin 64, (((UInt8.ofNat (if (z : Nat) = 0 then 0 else Nat.log2 z + 1)).toNat : Nat) : Int) = ((if (z : Nat) = 0 then 0 else Nat.log2 z + 1 : Nat) : Int) /\ (if (z : Nat) = 0 then 0 else Nat.log2 z + 1) <= 6 := by decide +kernel
 exact this ⟨z, j⟩
theorem JsC {A : Prop} {T T' : ByteArray} {z : Nat} {c : UInt8} {k : AV -> Prop} (m : T = T') (h : T'[z]? = some c) (j : A) (o : k (.v (.int .u8 c.toNat))) : optU A T[z]? k := by
 subst m; rw [h]; exact ⟨j, o⟩
theorem Jsi (z : Nat) (o : z < 64) : Ev prog 206 [.v (.int .u64 z)] (I (if z = 0 then 0 else Nat.log2 z + 1 : Nat)) := by
 refine EV func206 ?_
 simp -implicitDefEqProofs (disch := omega) only [go_sem, ntmps206]
 refine Jas (by omega) ?_
 simp -implicitDefEqProofs (disch := omega) only [go_sem]
 refine Jas (by omega) ?_
 simp -implicitDefEqProofs (disch := omega) only [go_sem]
 refine Jas (by omega) ?_
 have y : IntKind.u8.wrap (z : Int) = z := by simp [IntKind.wrap, IntKind.bits, IntKind.signed]; omega
 obtain ⟨u, A⟩ := JmB z o
 have w := JuZ z o
 generalize (if z = 0 then 0 else Nat.log2 z + 1) = m at *
 simp -implicitDefEqProofs (disch := omega) only [go_sem, y]
 refine JsC (T' := lenT) (by kernel_rfl) w (by omega) ?_
 have j : IntKind.i64.wrap (m : Int) = m := Jcv (by omega)
 simp -implicitDefEqProofs (disch := omega) only [go_sem, u, j, results206]
 try rw [Int.zero_add]
theorem Jx6 (z : Nat) (j : z < 64) : Ev prog 189 [.v (.int .u64 z)] (I (if z = 0 then 0 else Nat.log2 z + 1 : Nat)) := by
 refine EV func189 ?_
 simp -implicitDefEqProofs (disch := omega) only [go_sem, ntmps189]
 refine Jaa (Jsi z j) ?_
 simp -implicitDefEqProofs (disch := omega) only [go_sem, results189]
theorem JuX (n : Nat) (E : 2 <= n) (F : n <= 64) : Ev prog 169 [I n] (I (Jax n : Nat)) := by
 have u := Jx6 (n - 1) (by omega)
 have z := JmB (n - 1) (by omega)
 rw [if_neg (by omega)] at u z
 have j : Jax n = 2 ^ Nat.log2 (n - 1) := rfl
 obtain ⟨m, w⟩ : ∃ m, Nat.log2 (n - 1) = m := ⟨_, rfl⟩
 rw [w] at u j z; rw [j]
 have C : IntKind.u64.wrap ((n : Int) - 1) = ((n - 1 : Nat) : Int) := by
  simp only [IntKind.wrap, IntKind.bits, IntKind.signed]; simp; omega
 have G : (2 : Int) ^ m <= 64 := by
  have : (2 : Nat) ^ m <= 2 ^ 6 := L2i (by omega) (by omega)
  have A : (((2 : Nat) ^ m : Nat) : Int) <= ((2 ^ 6 : Nat) : Int) := by exact_mod_cast this
  simpa using A
 have B : (0 : Int) < (2 : Int) ^ m := Int.pow_pos (by omega)
 refine EV func169 ?_
 simp -implicitDefEqProofs (disch := omega) only [go_sem, ntmps169, C]
 refine Jaa u ?_
 have D : (((m + 1 : Nat) : Int) - 1) = m := by omega
 have o : min m 64 = m := by omega
 have y : IntKind.i64.wrap ((2 : Int) ^ m) = (2 : Int) ^ m := Jcv (by omega)
 simp -implicitDefEqProofs (disch := omega) only [go_sem, D, o, y, Int.one_mul, L1m, results169]; try simp
instance : Inhabited (ByteArray × Bool) := ⟨(⟨#[]⟩, false)⟩
abbrev SLs (l : List ByteArray) : AV := .sl 1 (l.map Str)
abbrev SDP (x : ByteArray × Bool) : AV := .agg [Str x.1, B x.2]
abbrev SDS (l : List (ByteArray × Bool)) : AV := .sl 2 (l.map SDP)
section
variable (p : Nat -> Bool) (l : List (ByteArray × Bool))
@[go_sem] theorem Jwv : AV.namesL p (l.map SDP) = false := Jaj p l SDP λ _ => rfl
@[go_sem] theorem JxT : AV.flatL (l.map SDP) = true := JaR l SDP λ _ => rfl
@[go_sem] theorem Jw8 : Jbq 2 (l.map SDP) = true := Jaw 2 l SDP λ _ => ⟨rfl, rfl⟩
@[go_sem] theorem Jv1 (a : ByteArray) (b : Bool) : l.map SDP ++ [.agg [.v (.string a), .v (.bool b)]] = (l ++ [(a, b)]).map SDP := by simp
end
section
variable (p : Nat -> Bool) (l : List ByteArray)
@[go_sem] theorem JnS : AV.namesL p (l.map Str) = false := Jaj p l Str λ _ => rfl
@[go_sem] theorem Jpt : AV.flatL (l.map Str) = true := JaR l Str λ _ => rfl
@[go_sem] theorem JoA : Jbq 1 (l.map Str) = true := Jaw 1 l Str λ _ => ⟨rfl, rfl⟩
@[go_sem] theorem Jm8 (x : ByteArray) : l.map Str ++ [.v (.string x)] = (l ++ [x]).map Str := by simp
end
def bkD (l : List (ByteArray × Bool)) : Nat -> List (List AV)
 | 0 => []
 | k + 1 => [I k, SDP (gd l k)] :: bkD l k
theorem JfB (p : Nat -> Bool) (l : List (ByteArray × Bool)) : ∀ k, AV.namesL p ((bkD l k).map .tup) = false
 | 0 => rfl
 | k + 1 => by
  show AV.namesL p (.tup [I k, SDP (gd l k)] :: (bkD l k).map .tup) = false
  simp only [go_sem, JfB p l k]
  first | done | simp
attribute [go_sem] JfB
theorem JoV (l : List (ByteArray × Bool)) : ∀ k, ∀ y ∈ bkD l k, y.length = 2
  | 0, y, h => by cases h
  | k + 1, y, h => by
    rcases L0o.1 h with rfl | h
    . rfl
    . exact JoV l k y h
theorem JrL (l : List (ByteArray × Bool)) : Ev prog 170 [SDS l] (.clo 190 [.pt (SDS l) 0]) := by
 refine Jed (r := .clo 190 [.nptr 269 1 [SDS l]]) ?_ _
 refine EV func170 ?_
 simp -implicitDefEqProofs (disch := omega) only [go_sem, ntmps170, results170]
theorem JoO (l : List (ByteArray × Bool)) (A : l.length <= 1000000) : SOK prog 190 [.pt (SDS l) 0] (stO []) (bkD l l.length) := by
 refine Jkx func190 rfl (by kernel_rfl) mo (nb rfl) ?_ rfl λ y => ?_
 . exact JfB allB _ _
 simp -implicitDefEqProofs (disch := omega) only [go_sem, ntmps190]
 refine Jag (λ n E z => E 0 = .yld y /\ E 1 = .pt (SDS l) 0 /\ E 3 = I ((n : Int) - 1) /\ n <= l.length /\ E 19 = .tup ((bkD l n).map .tup)) l.length ?_ ?_
 . simp -implicitDefEqProofs (disch := omega) only [go_sem]
   try exact L08 _
 rintro n E z ⟨m, o, u, B, j⟩
 simp -implicitDefEqProofs (disch := omega) only [go_sem, m, o, u, j]
 cases n with
 | zero =>
  refine Jas (by omega) ?_
  have j : E 19 = .tup [] := j
  simp -implicitDefEqProofs (disch := omega) only [go_sem, j]
  exact .inl trivial
 | succ n =>
  refine Jbn (by omega) ?_
  have j : E 19 = .tup (.tup [I n, SDP (gd l n)] :: (bkD l n).map .tup) := j
  have w : ((n + 1 : Nat) : Int) - 1 = n := by omega
  simp -implicitDefEqProofs (disch := omega) only [go_sem, m, o, u, j, w]
  refine ⟨?_, .inr trivial⟩
  refine Jad n (by omega) ?_
  simp -implicitDefEqProofs (disch := omega) only [go_sem, m, o, u, j, w]
  try omega
theorem JnX (σ : Jac) : only (inI []) σ = stO [] := by
 funext id
 simp [only, inI, stO]
def idxG {T : Type} (Q : T -> Bool) : List T -> Nat -> Int
 | [], _ => -1
 | r :: l, v => if Q r = true then v else idxG Q l (v + 1)
theorem JeW {T : Type} (Q : T -> Bool) : ∀ (l : List T) (v : Nat), decide (0 <= idxG Q l v) = l.any Q
 | [], _ => rfl
 | r :: l, v => by
  rw [idxG, List.any_cons]
  cases h : Q r with
  | true => rw [if_pos rfl, Bool.true_or, decide_eq_true (by omega)]
  | false => rw [if_neg (by simp), L1B]; exact JeW Q l (v + 1)
abbrev CKS (l : List Ck) : AV := .sl 2 (l.map CKP)
abbrev TFS (l : List Tf) : AV := .sl 2 (l.map TF)
section
variable (p : Nat -> Bool) (l : List Ck)
@[go_sem] theorem Jwo : AV.namesL p (l.map CKP) = false := Jaj p l CKP λ _ => rfl
@[go_sem] theorem Jw1 : Jbq 2 (l.map CKP) = true := Jaw 2 l CKP λ _ => ⟨rfl, rfl⟩
end
section
variable (p : Nat -> Bool) (l : List Tf)
@[go_sem] theorem Jyg : AV.namesL p (l.map TF) = false := Jaj p l TF λ _ => rfl
@[go_sem] theorem Jzp : Jbq 2 (l.map TF) = true := Jaw 2 l TF λ _ => ⟨rfl, rfl⟩
end
theorem JuO (g : FuncId) (caps : List AV) (Q : ByteArray -> Bool) (l : List ByteArray) (G : ∀ r ∈ l, Ev prog g ([Str r] ++ caps) (B (Q r))) (y : ∀ p, AV.namesL p caps = false) (A : ∀ σ, caps.map (res σ) = caps) (K : l.length <= 9223372036854775807) (C : JaL caps = true := by rfl) : Ev prog 204 [SLs l, .clo g caps] (I (idxG Q l 0)) := by
 refine EV func204 ?_
 simp -implicitDefEqProofs (disch := omega) only [go_sem, ntmps204]
 refine Jag (λ k E σ => ∃ i : Nat, i + k = l.length /\ idxG Q l 0 = idxG Q (l.drop i) i /\ E 0 = SLs l /\ E 1 = .clo g caps /\ E 7 = I l.length /\ E 8 = I i) l.length ⟨0, by omega, rfl, ?_⟩ ?_
 . simp -implicitDefEqProofs (disch := omega) only [go_sem, y]
   rfl
 rintro k E σ ⟨i, J, z, j, m, o, u⟩
 simp -implicitDefEqProofs (disch := omega) only [go_sem, j, m, o, u]
 refine Jab (λ F => ?_) (λ F => ?_)
 . have D : i < l.length := by omega
   rw [Ja6 l i D, idxG] at z; have H := G (gd l i) (Jan l i D); simp -implicitDefEqProofs (disch := omega) only [go_sem, j, m, o, u, y, A, C, L1b]
   refine Jaa H ?_
   simp -implicitDefEqProofs (disch := omega) only [go_sem, j, m, o, u]
   refine Jab (λ w => ?_) (λ w => ?_)
   . have w : Q (gd l i) = true := by simpa using w
     rw [if_pos w] at z; simp -implicitDefEqProofs (disch := omega) only [go_sem, j, m, o, u, z, results204]
   . have w : ¬ Q (gd l i) = true := by simpa using w
     rw [if_neg w] at z; simp -implicitDefEqProofs (disch := omega) only [go_sem, j, m, o, u]
     refine Jad (l.length - (i + 1)) (by omega) ⟨i + 1, by omega, z, ?_⟩
     simp -implicitDefEqProofs (disch := omega) only [go_sem, j, m, o, u, y]
     rfl
 . obtain rfl : i = l.length := by omega
   rw [L0X, idxG] at z; simp -implicitDefEqProofs (disch := omega) only [go_sem, j, m, o, u, z, results204]
theorem JuH (g : FuncId) (caps : List AV) (Q : ByteArray -> Bool) (l : List ByteArray) (u : ∀ r ∈ l, Ev prog g ([Str r] ++ caps) (B (Q r))) (j : ∀ p, AV.namesL p caps = false) (m : ∀ σ, caps.map (res σ) = caps) (w : l.length <= 9223372036854775807) (o : JaL caps = true := by rfl) : Ev prog 188 [SLs l, .clo g caps] (B (l.any Q)) := by
 have h := JuO g caps Q l u j m w o; rw [<- JeW Q l 0]; generalize idxG Q l 0 = n at *
 refine EV func188 ?_
 simp -implicitDefEqProofs (disch := omega) only [go_sem, ntmps188, j, m]
 refine Jaa h ?_
 simp -implicitDefEqProofs (disch := omega) only [go_sem, results188]
theorem JuN (g : FuncId) (caps : List AV) (Q : Int -> Bool) (l : List Int) (G : ∀ r ∈ l, Ev prog g ([I r] ++ caps) (B (Q r))) (y : ∀ p, AV.namesL p caps = false) (A : ∀ σ, caps.map (res σ) = caps) (K : l.length <= 9223372036854775807) (C : JaL caps = true := by rfl) : Ev prog 112 [SL l, .clo g caps] (I (idxG Q l 0)) := by
 refine EV func112 ?_
 simp -implicitDefEqProofs (disch := omega) only [go_sem, ntmps112]
 refine Jag (λ k E σ => ∃ i : Nat, i + k = l.length /\ idxG Q l 0 = idxG Q (l.drop i) i /\ E 0 = SL l /\ E 1 = .clo g caps /\ E 7 = I l.length /\ E 8 = I i) l.length ⟨0, by omega, rfl, ?_⟩ ?_
 . simp -implicitDefEqProofs (disch := omega) only [go_sem, y]
   rfl
 rintro k E σ ⟨i, J, z, j, m, o, u⟩
 simp -implicitDefEqProofs (disch := omega) only [go_sem, j, m, o, u]
 refine Jab (λ F => ?_) (λ F => ?_)
 . have D : i < l.length := by omega
   rw [Ja6 l i D, idxG] at z; have H := G (gd l i) (Jan l i D); simp -implicitDefEqProofs (disch := omega) only [go_sem, j, m, o, u, y, A, C, L1b]
   refine Jaa H ?_
   simp -implicitDefEqProofs (disch := omega) only [go_sem, j, m, o, u]
   refine Jab (λ w => ?_) (λ w => ?_)
   . have w : Q (gd l i) = true := by simpa using w
     rw [if_pos w] at z; simp -implicitDefEqProofs (disch := omega) only [go_sem, j, m, o, u, z, results112]
   . have w : ¬ Q (gd l i) = true := by simpa using w
     rw [if_neg w] at z; simp -implicitDefEqProofs (disch := omega) only [go_sem, j, m, o, u]
     refine Jad (l.length - (i + 1)) (by omega) ⟨i + 1, by omega, z, ?_⟩
     simp -implicitDefEqProofs (disch := omega) only [go_sem, j, m, o, u, y]
     rfl
 . obtain rfl : i = l.length := by omega
   rw [L0X, idxG] at z; simp -implicitDefEqProofs (disch := omega) only [go_sem, j, m, o, u, z, results112]
theorem JuG (g : FuncId) (caps : List AV) (Q : Int -> Bool) (l : List Int) (u : ∀ r ∈ l, Ev prog g ([I r] ++ caps) (B (Q r))) (j : ∀ p, AV.namesL p caps = false) (m : ∀ σ, caps.map (res σ) = caps) (w : l.length <= 9223372036854775807) (o : JaL caps = true := by rfl) : Ev prog 66 [SL l, .clo g caps] (B (l.any Q)) := by
 have h := JuN g caps Q l u j m w o; rw [<- JeW Q l 0]; generalize idxG Q l 0 = n at *
 refine EV func66 ?_
 simp -implicitDefEqProofs (disch := omega) only [go_sem, ntmps66, j, m]
 refine Jaa h ?_
 simp -implicitDefEqProofs (disch := omega) only [go_sem, results66]
theorem JuL (g : FuncId) (caps : List AV) (Q : Ck -> Bool) (l : List Ck) (G : ∀ r ∈ l, Ev prog g ([CKP r] ++ caps) (B (Q r))) (y : ∀ p, AV.namesL p caps = false) (A : ∀ σ, caps.map (res σ) = caps) (K : l.length <= 9223372036854775807) (C : JaL caps = true := by rfl) : Ev prog 107 [CKS l, .clo g caps] (I (idxG Q l 0)) := by
 refine EV func107 ?_
 simp -implicitDefEqProofs (disch := omega) only [go_sem, ntmps107]
 refine Jag (λ k E σ => ∃ i : Nat, i + k = l.length /\ idxG Q l 0 = idxG Q (l.drop i) i /\ E 0 = CKS l /\ E 1 = .clo g caps /\ E 7 = I l.length /\ E 8 = I i) l.length ⟨0, by omega, rfl, ?_⟩ ?_
 . simp -implicitDefEqProofs (disch := omega) only [go_sem, y]
   rfl
 rintro k E σ ⟨i, J, z, j, m, o, u⟩
 simp -implicitDefEqProofs (disch := omega) only [go_sem, j, m, o, u]
 refine Jab (λ F => ?_) (λ F => ?_)
 . have D : i < l.length := by omega
   rw [Ja6 l i D, idxG] at z; have H := G (gd l i) (Jan l i D); simp -implicitDefEqProofs (disch := omega) only [go_sem, j, m, o, u, y, A, C, L1b]
   refine Jaa H ?_
   simp -implicitDefEqProofs (disch := omega) only [go_sem, j, m, o, u]
   refine Jab (λ w => ?_) (λ w => ?_)
   . have w : Q (gd l i) = true := by simpa using w
     rw [if_pos w] at z; simp -implicitDefEqProofs (disch := omega) only [go_sem, j, m, o, u, z, results107]
   . have w : ¬ Q (gd l i) = true := by simpa using w
     rw [if_neg w] at z; simp -implicitDefEqProofs (disch := omega) only [go_sem, j, m, o, u]
     refine Jad (l.length - (i + 1)) (by omega) ⟨i + 1, by omega, z, ?_⟩
     simp -implicitDefEqProofs (disch := omega) only [go_sem, j, m, o, u, y]
     rfl
 . obtain rfl : i = l.length := by omega
   rw [L0X, idxG] at z; simp -implicitDefEqProofs (disch := omega) only [go_sem, j, m, o, u, z, results107]
theorem JuF (g : FuncId) (caps : List AV) (Q : Ck -> Bool) (l : List Ck) (u : ∀ r ∈ l, Ev prog g ([CKP r] ++ caps) (B (Q r))) (j : ∀ p, AV.namesL p caps = false) (m : ∀ σ, caps.map (res σ) = caps) (w : l.length <= 9223372036854775807) (o : JaL caps = true := by rfl) : Ev prog 60 [CKS l, .clo g caps] (B (l.any Q)) := by
 have h := JuL g caps Q l u j m w o; rw [<- JeW Q l 0]; generalize idxG Q l 0 = n at *
 refine EV func60 ?_
 simp -implicitDefEqProofs (disch := omega) only [go_sem, ntmps60, j, m]
 refine Jaa h ?_
 simp -implicitDefEqProofs (disch := omega) only [go_sem, results60]
theorem JuP (g : FuncId) (caps : List AV) (Q : Tf -> Bool) (l : List Tf) (G : ∀ r ∈ l, Ev prog g ([TF r] ++ caps) (B (Q r))) (y : ∀ p, AV.namesL p caps = false) (A : ∀ σ, caps.map (res σ) = caps) (K : l.length <= 9223372036854775807) (C : JaL caps = true := by rfl) : Ev prog 108 [TFS l, .clo g caps] (I (idxG Q l 0)) := by
 refine EV func108 ?_
 simp -implicitDefEqProofs (disch := omega) only [go_sem, ntmps108]
 refine Jag (λ k E σ => ∃ i : Nat, i + k = l.length /\ idxG Q l 0 = idxG Q (l.drop i) i /\ E 0 = TFS l /\ E 1 = .clo g caps /\ E 7 = I l.length /\ E 8 = I i) l.length ⟨0, by omega, rfl, ?_⟩ ?_
 . simp -implicitDefEqProofs (disch := omega) only [go_sem, y]
   rfl
 rintro k E σ ⟨i, J, z, j, m, o, u⟩
 simp -implicitDefEqProofs (disch := omega) only [go_sem, j, m, o, u]
 refine Jab (λ F => ?_) (λ F => ?_)
 . have D : i < l.length := by omega
   rw [Ja6 l i D, idxG] at z; have H := G (gd l i) (Jan l i D); simp -implicitDefEqProofs (disch := omega) only [go_sem, j, m, o, u, y, A, C, L1b]
   refine Jaa H ?_
   simp -implicitDefEqProofs (disch := omega) only [go_sem, j, m, o, u]
   refine Jab (λ w => ?_) (λ w => ?_)
   . have w : Q (gd l i) = true := by simpa using w
     rw [if_pos w] at z; simp -implicitDefEqProofs (disch := omega) only [go_sem, j, m, o, u, z, results108]
   . have w : ¬ Q (gd l i) = true := by simpa using w
     rw [if_neg w] at z; simp -implicitDefEqProofs (disch := omega) only [go_sem, j, m, o, u]
     refine Jad (l.length - (i + 1)) (by omega) ⟨i + 1, by omega, z, ?_⟩
     simp -implicitDefEqProofs (disch := omega) only [go_sem, j, m, o, u, y]
     rfl
 . obtain rfl : i = l.length := by omega
   rw [L0X, idxG] at z; simp -implicitDefEqProofs (disch := omega) only [go_sem, j, m, o, u, z, results108]
theorem JuI (g : FuncId) (caps : List AV) (Q : Tf -> Bool) (l : List Tf) (u : ∀ r ∈ l, Ev prog g ([TF r] ++ caps) (B (Q r))) (j : ∀ p, AV.namesL p caps = false) (m : ∀ σ, caps.map (res σ) = caps) (w : l.length <= 9223372036854775807) (o : JaL caps = true := by rfl) : Ev prog 63 [TFS l, .clo g caps] (B (l.any Q)) := by
 have h := JuP g caps Q l u j m w o; rw [<- JeW Q l 0]; generalize idxG Q l 0 = n at *
 refine EV func63 ?_
 simp -implicitDefEqProofs (disch := omega) only [go_sem, ntmps63, j, m]
 refine Jaa h ?_
 simp -implicitDefEqProofs (disch := omega) only [go_sem, results63]
theorem Jo0 {a b : ByteArray} (h : a.data.toList = b.data.toList) : a = b := by
 have j : a.data = b.data := L11.1 h
 cases a; cases b; simp only at j; rw [j]
theorem Jht (a b : ByteArray) : (a.toList == b.toList) = decide (a = b) := by
 rw [ByteArray.toList_eq, ByteArray.toList_eq, L1c, decide_eq_true_iff, beq_iff_eq]
 exact ⟨Jo0, λ h => by rw [h]⟩
theorem Jsa (s : ByteArray) : Ev prog 187 [Str s] (B (decide (s.size = 32))) := by
 refine EV func187 ?_
 simp -implicitDefEqProofs (disch := omega) only [go_sem, ntmps187, results187]
 have : ((s.size : Int) == 32) = decide (s.size = 32) := by rw [L1c]; simp; omega
 rw [this]
theorem Jt1 (s : ByteArray) : Ev prog 186 [Str s] (B (!decide (s.size = 32))) := by
 refine EV func186 ?_
 simp -implicitDefEqProofs (disch := omega) only [go_sem, ntmps186]
 refine Jaa (Jsa s) ?_
 simp -implicitDefEqProofs (disch := omega) only [go_sem, results186]
theorem JoE {T : Type} (Q : T -> Bool) (l : List T) : (!l.any λ x => !Q x) = l.all Q := by
 induction l with
 | nil => rfl
 | cons x l j => rw [List.any_cons, L1V, <- j]; cases Q x <;> rfl
theorem Jxe (l : List ByteArray) (m : l.length <= 9223372036854775807) : Ev prog 167 [SLs l] (B (digB l)) := by
 have h := JuH 186 [] (λ s => !decide (s.size = 32)) l (λ r _ => Jt1 r) (λ _ => rfl) (λ _ => rfl) m
 have j : digB l = !l.any λ s => !decide (s.size = 32) := (JoE _ l).symm
 rw [j]
 generalize (l.any λ s => !decide (s.size = 32)) = b at *
 refine EV func167 ?_
 simp -implicitDefEqProofs (disch := omega) only [go_sem, ntmps167]
 refine Jaa h ?_
 simp -implicitDefEqProofs (disch := omega) only [go_sem, results167]
theorem Jj6 (n : Nat) (A : 2 <= n) (C : n <= 1000000) : Ev prog 130 [I n] (I (Jax n : Nat)) := by
 refine EV func130 ?_
 simp -implicitDefEqProofs (disch := omega) only [go_sem, ntmps130]
 refine Jag (λ k E z => ∃ (a m : Nat), m = 2 ^ a /\ m < n /\ k = n - m /\ E 0 = I n /\ E 3 = I m) (n - 1) ⟨0, 1, rfl, by omega, rfl, ?_⟩ ?_
 . simp -implicitDefEqProofs (disch := omega) only [go_sem]; try rfl
 rintro k E z ⟨a, m, u, y, B, j, o⟩
 have D : 0 < m := by rw [u]; exact Nat.pow_pos (by omega)
 simp -implicitDefEqProofs (disch := omega) only [go_sem, j, o]
 refine Jab (λ w => ?_) (λ w => ?_)
 . simp -implicitDefEqProofs (disch := omega) only [go_sem, j, o]
   refine Jad (n - 2 * m) (by omega) ⟨a + 1, 2 * m, by rw [u, L0W]; omega, by omega, rfl, ?_⟩
   simp -implicitDefEqProofs (disch := omega) only [go_sem, j, o]; try rfl
 . have : Jax n = m := by rw [u]; exact Jsh (by omega) (by omega)
   rw [this]; simp -implicitDefEqProofs (disch := omega) only [go_sem, j, o, results130]
theorem Jfd {l : List ByteArray} (h : ∀ s ∈ l, s.size <= 1000000) (k : Nat) : (∀ s ∈ l.take k, s.size <= 1000000) /\ ∀ s ∈ l.drop k, s.size <= 1000000 :=
 ⟨λ s j => h s (L0H j), λ s j => h s (L14 j)⟩
theorem Je5 : ∀ (n : Nat) (l : List ByteArray), l.length <= n -> l.length <= 1000 -> (∀ s ∈ l, s.size <= 1000000) -> Ev prog 128 [SLs l] (Str (Jcr l))
 | n, l, B, J, C => by
  have w := Jd7
  by_cases h0 : l = []
  . subst h0
    have y := JlU ⟨#[]⟩ (by decide)
    have j : Jcr [] = shaF ⟨#[]⟩ := Jhl JaK Ja2 empF
    rw [j]
    refine EV func128 ?_
    simp -implicitDefEqProofs (disch := omega) only [go_sem, ntmps128]
    refine Jbn rfl ?_
    simp -implicitDefEqProofs (disch := omega) only [go_sem]
    refine Jaa y ?_
    simp -implicitDefEqProofs (disch := omega) only [go_sem, results128]
  . have D := L1f.2 h0
    by_cases h1 : l.length = 1
    . obtain ⟨s, rfl⟩ : ∃ s, l = [s] := List.length_eq_one_iff.1 h1
      have o := JiH s (by have := C s (by simp); omega)
      have j : Jcr [s] = JaK s := Je4 JaK Ja2 empF s
      rw [j]
      refine EV func128 ?_
      simp -implicitDefEqProofs (disch := omega) only [go_sem, ntmps128]
      refine Jas (by simp) ?_
      simp -implicitDefEqProofs (disch := omega) only [go_sem]
      refine Jbn rfl ?_
      simp -implicitDefEqProofs (disch := omega) only [go_sem, JaJ]
      refine Jaa o ?_
      simp -implicitDefEqProofs (disch := omega) only [go_sem, results128]
    . match n, B with
      | 0, B => omega
      | n + 1, B =>
       have z : 2 <= l.length := by omega
       have H := Jb8 z; have I := JbC l.length
       have o := Jj6 l.length z (by omega)
       have j : Jcr l = Ja2 (Jcr (l.take (Jax l.length))) (Jcr (l.drop (Jax l.length))) := Jko JaK Ja2 empF z
       rw [j]; generalize Jax l.length = m at *
       have E := Je5 n (l.take m) (by rw [L01]; omega) (by rw [L01]; omega) (Jfd C m).1
       have F := Je5 n (l.drop m) (by rw [L0g]; omega) (by rw [L0g]; omega) (Jfd C m).2
       have G := JiS (Jcr (l.take m)) (Jcr (l.drop m)) (by rw [w, w]; omega)
       refine EV func128 ?_
       simp -implicitDefEqProofs (disch := omega) only [go_sem, ntmps128]
       refine Jas (by omega) ?_
       simp -implicitDefEqProofs (disch := omega) only [go_sem]
       refine Jas (by omega) ?_
       simp -implicitDefEqProofs (disch := omega) only [go_sem]
       refine Jaa o ?_
       have u : (m <= l.length) = True := eq_true (by omega)
       simp -implicitDefEqProofs (disch := omega) only [go_sem, u]
       refine Jaa E ?_
       have A : (l.drop m).take (l.length - m) = l.drop m := L03 (by rw [L0g]; omega)
       simp -implicitDefEqProofs (disch := omega) only [go_sem, u, A]
       refine Jaa F ?_
       simp -implicitDefEqProofs (disch := omega) only [go_sem]
       refine Jaa G ?_
       simp -implicitDefEqProofs (disch := omega) only [go_sem, results128]
theorem Jrb (R : List ByteArray) (o : R.length <= 9223372036854775807) : Ev prog 168 [SLs R] (if R = [] then .tup [Str ⟨#[]⟩, .new 9 1 [], B false] else .tup [Str (gd R (R.length - 1)), SLs (R.take (R.length - 1)), B true]) := by
 by_cases h : R = []
 . subst h; rw [if_pos rfl]
   refine EV func168 ?_
   simp -implicitDefEqProofs (disch := omega) only [go_sem, ntmps168]
   refine Jbn rfl ?_
   simp -implicitDefEqProofs (disch := omega) only [go_sem, results168]
 . have u := L1f.2 h; rw [if_neg h]
   have m : ((R.length : Int) - 1).toNat = R.length - 1 := by omega
   have j : (R.length - 1 <= R.length) = True := eq_true (by omega)
   refine EV func168 ?_
   simp -implicitDefEqProofs (disch := omega) only [go_sem, ntmps168]
   refine Jas (by omega) ?_
   simp -implicitDefEqProofs (disch := omega) only [go_sem, m, j, L16, results168]
def Jfv (x : ByteArray × Bool) (part : ByteArray) : ByteArray := if x.2 = true then Ja2 x.1 part else Ja2 part x.1
theorem JpW (x : ByteArray × Bool) (part : ByteArray) (h : x.1.size + part.size <= 99999999) : Ev prog 171 [SDP x, Str part] (Str (Jfv x part)) := by
 obtain ⟨r, b⟩ := x
 refine EV func171 ?_
 simp only at h
 cases b with
 | true =>
  simp -implicitDefEqProofs (disch := omega) only [go_sem, ntmps171]
  refine Jaa (Jew r part (by omega)) ?_
  simp -implicitDefEqProofs (disch := omega) only [go_sem, results171]; try rfl
 | false =>
  simp -implicitDefEqProofs (disch := omega) only [go_sem, ntmps171]
  refine Jaa (Jew part r (by omega)) ?_
  simp -implicitDefEqProofs (disch := omega) only [go_sem, results171]; try rfl
def wayF : Nat -> Nat -> List ByteArray -> Option (List (ByteArray × Bool) × List ByteArray)
 | n, _, [] => if n <= 1 then some ([], []) else none
 | n, i, x :: p => if n <= 1 then some ([], x :: p) else if i < Jax n then (wayF (Jax n) i p).map λ q => ((x, false) :: q.1, q.2) else (wayF (n - Jax n) (i - Jax n) p).map λ q => ((x, true) :: q.1, q.2)
theorem JlW (s : ByteArray) : ∀ (p : List ByteArray) (n i : Nat), valF JaK Ja2 s n i p = match wayF n i p with
    | some (w, []) => some (w.foldr Jfv (JaK s))
    | _ => none
  | [], n, i => by
    rw [valF, wayF]
    by_cases h : n <= 1
    . rw [if_pos h, if_pos h]; rfl
    . rw [if_neg h, if_neg h]
  | x :: p, n, i => by
    rw [valF, wayF]
    by_cases h : n <= 1
    . rw [if_pos h, if_pos h]
    . rw [if_neg h, if_neg h]
      by_cases hk : i < Jax n
      . rw [if_pos hk, if_pos hk, JlW s p]
        cases wayF (Jax n) i p with
        | none => rfl
        | some q =>
          obtain ⟨w, r⟩ := q
          cases r with
          | nil => rfl
          | cons => rfl
      . rw [if_neg hk, if_neg hk, JlW s p]
        cases wayF (n - Jax n) (i - Jax n) p with
        | none => rfl
        | some q =>
          obtain ⟨w, r⟩ := q
          cases r with
          | nil => rfl
          | cons => rfl
theorem JtY (w : List (ByteArray × Bool)) (x : ByteArray) (b : Bool) (o : Option (List (ByteArray × Bool) × List ByteArray)) : (o.map λ q => ((x, b) :: q.1, q.2)).map (λ q => (w ++ q.1, q.2)) = o.map λ q => ((w ++ [(x, b)]) ++ q.1, q.2) := by
 cases o with
 | none => rfl
 | some q => simp
theorem Jtf {s : ByteArray} : ∀ w : List (ByteArray × Bool), (w.foldr Jfv (JaK s)).size = 32
 | [] => Jbg s
 | x :: w => by
  rw [List.foldr_cons]; unfold Jfv
  split <;> exact Jbt _ _
set_option maxHeartbeats 4000000 in
theorem Jzf (root : ByteArray) (n i : Int) (s : ByteArray) (p : List ByteArray) (hn : n <= 60) (hs : s.size <= 1000000) (hp : p.length <= 1000000) : Ev prog 140 [Str root, I n, I i, Str s, SLs p] (B (verB root n i s p)) := by
  have h1 := Jxe p (by omega)
  have hv : verB root n i s p = (decide (0 <= i /\ i < n) && (digB p && decide (valF JaK Ja2 s n.toNat i.toNat p.reverse = some root))) := rfl
  obtain ⟨z, hz⟩ : ∃ z, verB root n i s p = z := ⟨_, rfl⟩
  rw [hz] at hv ⊢; clear hz
  refine EV func140 ?_
  simp -implicitDefEqProofs (disch := omega) only [go_sem, ntmps140]
  refine Jab (fun h2 => ?_) (fun h2 => ?_)
  . rw [decide_eq_false (by omega), L0e] at hv
    subst hv; simp -implicitDefEqProofs (disch := omega) only [go_sem, results140]
  simp -implicitDefEqProofs (disch := omega) only [go_sem]
  refine Jab (fun h3 => ?_) (fun h3 => ?_)
  . rw [decide_eq_false (by omega), L0e] at hv
    subst hv; simp -implicitDefEqProofs (disch := omega) only [go_sem, results140]
  rw [decide_eq_true (by omega), L0h] at hv
  simp -implicitDefEqProofs (disch := omega) only [go_sem]
  refine Jaa h1 ?_
  cases hd : digB p with
  | false =>
    rw [hd, L0e] at hv; subst hv; simp -implicitDefEqProofs (disch := omega) only [go_sem, results140]
  | true =>
    rw [hd, L0h] at hv
    obtain ⟨N, rfl⟩ : ∃ N : Nat, n = N := ⟨n.toNat, by omega⟩
    obtain ⟨J, rfl⟩ : ∃ J : Nat, i = J := ⟨i.toNat, by omega⟩
    have h32 : ∀ x ∈ p.reverse, x.size = 32 := fun x hx => by
      rw [List.mem_reverse] at hx
      have := L0d.1 hd x hx
      simpa using this
    rw [L1m, L1m, JlW s p.reverse N J] at hv
    have hpr : SLs p = SLs p.reverse.reverse := by rw [List.reverse_reverse]
    have hPl : p.reverse.length <= 1000000 := by rw [L1A]; exact hp
    simp -implicitDefEqProofs (disch := omega) only [go_sem]; rw [hpr]; clear hpr h1 hd hp; generalize p.reverse = P0 at *; generalize hW : wayF N J P0 = W at *
    refine Jag (fun k E σ => ∃ (n i : Nat) (P : List ByteArray) (w : List (ByteArray × Bool)), 1 <= n /\ n <= 60 /\ i < n /\ k = P.length /\ P.length + w.length <= 1000000 /\ W = (wayF n i P).map (fun q => (w ++ q.1, q.2)) /\ (∀ x ∈ P, x.size = 32) /\ (∀ x ∈ w, x.1.size = 32) /\
      E 0 = Str root /\ E 1 = I n /\ E 2 = I i /\ E 3 = Str s /\ E 4 = SLs P.reverse /\ E 11 = .own 295698608 2 0 w.length /\ σ 295698608 = some ⟨273, 2, w.map SDP⟩) P0.length ⟨N, J, P0, [], by omega, by omega, by omega, rfl, by simpa using hPl, by rw [hW]; cases W <;> simp, h32, (fun x hx => by cases hx), ?_⟩ ?_
    . simp -implicitDefEqProofs (disch := omega) only [go_sem]; try rfl
    clear hPl
    rintro k E σ ⟨n, i, P, w, hn1, hn2, hi, hk, hPw, hW, h32, hw32, e0, e1, e2, e3, e4, e11, m11⟩
    simp -implicitDefEqProofs (disch := omega) only [go_sem, e0, e1, e2, e3, e4, e11, m11]
    refine Jab (fun hc => ?_) (fun hc => ?_)
    . cases P with
      | nil =>
        have hwn : wayF n i [] = none := by rw [wayF, if_neg (by omega)]
        rw [hwn] at hW
        have hW : W = none := hW
        subst hW
        have hv : z = false := hv
        subst hv
        have htk := Jrb [] (by decide)
        rw [if_pos rfl] at htk
        have e4 : E 4 = SLs [] := e4
        simp -implicitDefEqProofs (disch := omega) only [go_sem, e0, e1, e2, e3, e4, e11, m11]
        refine Jaa htk ?_
        simp -implicitDefEqProofs (disch := omega) only [go_sem, results140]
      | cons x P =>
        have hx := h32 x (by simp)
        rw [L0c] at hk hPw
        have hrl : (x :: P).reverse.length = P.length + 1 := by simp
        have hrg : gd (x :: P).reverse P.length = x := by
          rw [L2j, JbB _ _ _ (by simp), L1A, L1y]; rfl
        have hrt : (x :: P).reverse.take P.length = P.reverse := by
          have e : P.reverse.length = P.length := L1A
          rw [L2j, <- e, List.take_left']
          rfl
        have htk := Jrb (x :: P).reverse (by omega)
        rw [if_neg (by simp), hrl, L1e, hrg, hrt] at htk
        have hle := JuX n (by omega) (by omega)
        have a1 := Jb8 (n := n) (by omega)
        have a2 := JbC n
        have hwc : wayF n i (x :: P) = if i < Jax n then (wayF (Jax n) i P).map fun q => ((x, false) :: q.1, q.2) else (wayF (n - Jax n) (i - Jax n) P).map fun q => ((x, true) :: q.1, q.2) := by rw [wayF, if_neg (by omega)]
        rw [hwc] at hW; clear hwc
        have hwt : w.take w.length = w := L05
        have h32' : ∀ y ∈ P, y.size = 32 := fun y hy => h32 y (by simp [hy])
        generalize Jax n = m at *; simp -implicitDefEqProofs (disch := omega) only [go_sem, e0, e1, e2, e3, e4, e11, m11]
        refine Jaa htk ?_
        simp -implicitDefEqProofs (disch := omega) only [go_sem, e0, e1, e2, e3, e4, e11, m11]
        refine Jaa hle ?_
        simp -implicitDefEqProofs (disch := omega) only [go_sem, e0, e1, e2, e3, e4, e11, m11, hwt]
        refine Jab (fun hk2 => ?_) (fun hk2 => ?_)
        . rw [if_neg (by omega), JtY] at hW
          have hd : decide ((m : Int) <= i) = true := decide_eq_true hk2
          simp -implicitDefEqProofs (disch := omega) only [go_sem, e0, e1, e2, e3, e4, e11, m11, hwt, hd]
          refine Jad P.length (by omega) ⟨n - m, i - m, P, w ++ [(x, true)], by omega, by omega, by omega, rfl, by simp; omega, hW, h32', ?_, ?_⟩
          . intro y hy
            rcases L0t.1 hy with hy | hy
            . exact hw32 y hy
            . rw [L0r.1 hy]; exact hx
          . have q1 : ((n - m : Nat) : Int) = (n : Int) - m := by omega
            have q2 : ((i - m : Nat) : Int) = (i : Int) - m := by omega
            rw [q1, q2]; simp -implicitDefEqProofs (disch := omega) only [go_sem, e0, e1, e2, e3, e4, e11, m11, hwt, L0a, L0c, L0w]; try simp
        . rw [if_pos (by omega), JtY] at hW
          have hd : decide ((m : Int) <= i) = false := decide_eq_false hk2
          simp -implicitDefEqProofs (disch := omega) only [go_sem, e0, e1, e2, e3, e4, e11, m11, hwt, hd]
          refine Jad P.length (by omega) ⟨m, i, P, w ++ [(x, false)], by omega, by omega, by omega, rfl, by simp; omega, hW, h32', ?_, ?_⟩
          . intro y hy
            rcases L0t.1 hy with hy | hy
            . exact hw32 y hy
            . rw [L0r.1 hy]; exact hx
          . simp -implicitDefEqProofs (disch := omega) only [go_sem, e0, e1, e2, e3, e4, e11, m11, hwt, L0a, L0c, L0w]; try simp
    . have hwn : wayF n i P = some ([], P) := by
        cases P with
        | nil => rw [wayF, if_pos (by omega)]
        | cons x P => rw [wayF, if_pos (by omega)]
      rw [hwn] at hW
      have hW : W = some (w ++ [], P) := hW
      rw [L0C] at hW; subst hW
      have hlf := Jfy s (by omega)
      have hPl : P.reverse.length = P.length := L1A
      have hwt : w.take w.length = w := L05
      simp -implicitDefEqProofs (disch := omega) only [go_sem, e0, e1, e2, e3, e4, e11, m11]
      refine Jaa hlf ?_
      simp -implicitDefEqProofs (disch := omega) only [go_sem, e0, e1, e2, e3, e4, e11, m11]
      refine Jak rfl ?_
      refine JcU [295698608] ?_
      simp -implicitDefEqProofs (disch := omega) only [go_sem, e0, e1, e2, e3, e4, e11, m11, hwt]
      refine Jaa (JrL w) ?_
      simp -implicitDefEqProofs (disch := omega) only [go_sem, e0, e1, e2, e3, e4, e11, m11]
      refine Jbs ?_
      refine JcG [] [295698688] 18481252 (bkD w w.length)
        (fun xs σ => ∃ k : Nat, k <= w.length /\ xs = bkD w k /\ σ 295698688 = some ⟨9, 1, [Str ((w.drop k).foldr Jfv (JaK s))]⟩)
        (g := 190) (caps := [.pt (SDS w) 0]) ?_ ?_ ?_ ?_ ?_ ?_ ?_ ?_
      . simp -implicitDefEqProofs (disch := omega) only [go_sem]
      . rw [JnX]; exact JoO w (by omega)
      . exact JoV w _
      . simp -implicitDefEqProofs (disch := omega) only [go_sem]
      . simp -implicitDefEqProofs (disch := omega) only [go_sem]
      . refine ⟨w.length, L08 _, rfl, ?_⟩
        rw [L0X]; simp -implicitDefEqProofs (disch := omega) only [go_sem]; try rfl
      . rintro E0 hE0 y rest σ' ⟨k, hk, hx, m8⟩
        have e16 : E0 16 = .ptr 295698688 1 0 0 := by rw [hE0]; simp -implicitDefEqProofs (disch := omega) only [go_sem]
        clear hE0
        cases k with
        | zero => cases hx
        | succ k =>
          have hx : y :: rest = [I k, SDP (gd w k)] :: bkD w k := hx
          rw [List.cons.injEq] at hx; obtain ⟨rfl, rfl⟩ := hx
          have hdk : (w.drop k).foldr Jfv (JaK s) = Jfv (gd w k) ((w.drop (k + 1)).foldr Jfv (JaK s)) := by rw [Ja6 w k (by omega)]; rfl
          have hjn := JpW (gd w k) ((w.drop (k + 1)).foldr Jfv (JaK s)) (by rw [Jtf, hw32 _ (Jan w k (by omega))]; omega)
          rw [<- hdk] at hjn; generalize (w.drop (k + 1)).foldr Jfv (JaK s) = q at *; simp -implicitDefEqProofs (disch := omega) only [go_sem, e16, m8]
          refine Jaa hjn ?_
          simp -implicitDefEqProofs (disch := omega) only [go_sem, e16, m8]
          refine ⟨inL [], fun _ _ => rfl, k, by omega, rfl, ?_⟩
          simp -implicitDefEqProofs (disch := omega) only [go_sem]
      . rintro E0 hE0 σ' ⟨k, hk, hx, m8⟩
        have e16 : E0 16 = .ptr 295698688 1 0 0 := by rw [hE0]; simp -implicitDefEqProofs (disch := omega) only [go_sem]
        have f0 : E0 0 = Str root := by rw [hE0]; simp -implicitDefEqProofs (disch := omega) only [go_sem, e0]
        have f4 : E0 4 = SLs P.reverse := by rw [hE0]; simp -implicitDefEqProofs (disch := omega) only [go_sem, e4]
        clear hE0
        cases k with
        | succ k => cases hx
        | zero =>
          rw [List.drop_zero] at m8
          cases P with
          | nil =>
            have hv : z = decide (some (w.foldr Jfv (JaK s)) = some root) := hv
            have f4 : E0 4 = SLs [] := f4
            generalize w.foldr Jfv (JaK s) = q at *; subst hv; simp -implicitDefEqProofs (disch := omega) only [go_sem, e16, f0, f4, m8]
            refine Jbn rfl ?_
            simp -implicitDefEqProofs (disch := omega) only [go_sem, e16, f0, f4, m8, Jht, results140]; try simp
          | cons x P =>
            have hv : z = false := hv
            subst hv; rw [L0c] at hPl; generalize w.foldr Jfv (JaK s) = q at *; simp -implicitDefEqProofs (disch := omega) only [go_sem, e16, f0, f4, m8, hPl]
            refine Jas (by omega) ?_
            simp -implicitDefEqProofs (disch := omega) only [go_sem, e16, f0, f4, m8, Jht, results140]
@[go_sem] theorem JCr (l : List ByteArray) (i : Nat) (x : ByteArray) : (l.map Str).set i (.v (.string x)) = (l.set i x).map Str := by simp
abbrev JbX (l : List ByteArray) (i : Nat) : List ByteArray := JcF JaK Ja2 empF l i
theorem JfI {l : List ByteArray} (h : 2 <= l.length) (i : Nat) : JbX l i = if i < Jax l.length then Jcr (l.drop (Jax l.length)) :: JbX (l.take (Jax l.length)) i else Jcr (l.take (Jax l.length)) :: JbX (l.drop (Jax l.length)) (i - Jax l.length) := JfK JaK Ja2 empF h i
theorem Jd3 : ∀ (n : Nat) (l : List ByteArray) (i : Nat), l.length <= n -> (JbX l i).length <= l.length
 | 0, l, i, j => by
  have : JbX l i = [] := Jbv JaK Ja2 empF (by omega) i
  rw [this]; simp
 | n + 1, l, i, j => by
  by_cases h : 2 <= l.length
  . have m := Jb8 h; have o := JbC l.length; rw [JfI h]
    split
    . have := Jd3 n (l.take (Jax l.length)) i (by rw [L01]; omega)
      rw [L01] at this
      rw [L0c]; omega
    . have := Jd3 n (l.drop (Jax l.length)) (i - Jax l.length) (by rw [L0g]; omega)
      rw [L0g] at this
      rw [L0c]; omega
  . have : JbX l i = [] := Jbv JaK Ja2 empF (by omega) i
    rw [this]; simp
set_option maxHeartbeats 2000000 in
theorem JeC : ∀ (n : Nat) (l : List ByteArray) (i : Nat), l.length <= n -> i < l.length -> l.length <= 60 -> (∀ s ∈ l, s.size <= 1000000) -> Ev prog 96 [SLs l, I i] (.tup [.new 9 1 ((JbX l i).reverse.map Str), I 0])
 | 0, l, i, M, J, L, H => absurd J (by omega)
 | n + 1, l, i, M, J, L, H => by
  by_cases h1 : l.length = 1
  . have C : JbX l i = [] := Jbv JaK Ja2 empF (by omega) i
    rw [C]
    refine EV func96 ?_
    simp -implicitDefEqProofs (disch := omega) only [go_sem, ntmps96]
    refine Jas (by omega) ?_
    simp -implicitDefEqProofs (disch := omega) only [go_sem]
    refine Jas (by omega) ?_
    simp -implicitDefEqProofs (disch := omega) only [go_sem]
    refine Jbn (by omega) ?_
    simp -implicitDefEqProofs (disch := omega) only [go_sem, results96]; try rfl
  . have B := Jj6 l.length (by omega) (by omega)
    have S := Jb8 (n := l.length) (by omega)
    have T := JbC l.length
    have u := JfI (l := l) (by omega) i
    generalize JbX l i = Q at *; generalize Jax l.length = m at *
    have o : (m <= l.length) = True := eq_true (by omega)
    have j : (l.drop m).take (l.length - m) = l.drop m := L03 (by rw [L0g]; omega)
    have y := (Jfd H m).1; have z := (Jfd H m).2
    have O := Je5 _ (l.drop m) (L08 _) (by rw [L0g]; omega) z
    have P := Je5 _ (l.take m) (L08 _) (by rw [L01]; omega) y
    refine EV func96 ?_
    simp -implicitDefEqProofs (disch := omega) only [go_sem, ntmps96]
    refine Jas (by omega) ?_
    simp -implicitDefEqProofs (disch := omega) only [go_sem]
    refine Jas (by omega) ?_
    simp -implicitDefEqProofs (disch := omega) only [go_sem]
    refine Jas (by omega) ?_
    simp -implicitDefEqProofs (disch := omega) only [go_sem]
    refine Jaa B ?_
    simp -implicitDefEqProofs (disch := omega) only [go_sem]
    refine Jab (λ K => ?_) (λ K => ?_)
    . rw [if_pos (by omega)] at u
      have A := JeC n (l.take m) i (by rw [L01]; omega) (by rw [L01]; omega) (by rw [L01]; omega) y
      have E := Jd3 _ (l.take m) i (L08 _)
      have F := L01 (i := m) (l := l)
      have D := L0g (i := m) (l := l)
      generalize JbX (l.take m) i = q at *; subst u; rw [L2j]
      have G : q.reverse.length = q.length := L1A
      generalize q.reverse = R at *
      have w : R.take R.length = R := L05
      simp -implicitDefEqProofs (disch := omega) only [go_sem, o, j, L16]
      refine Jaa A ?_
      simp -implicitDefEqProofs (disch := omega) only [go_sem, o, j, L16]
      refine Jaa O ?_
      simp -implicitDefEqProofs (disch := omega) only [go_sem, w, results96]; try simp
    . rw [if_neg (by omega)] at u
      have A := JeC n (l.drop m) (i - m) (by rw [L0g]; omega) (by rw [L0g]; omega) (by rw [L0g]; omega) z
      have N : ((i - m : Nat) : Int) = (i : Int) - m := by omega
      rw [N] at A; have E := Jd3 _ (l.drop m) (i - m) (L08 _)
      have F := L01 (i := m) (l := l)
      have D := L0g (i := m) (l := l)
      generalize JbX (l.drop m) (i - m) = q at *; subst u; rw [L2j]
      have G : q.reverse.length = q.length := L1A
      generalize q.reverse = R at *
      have w : R.take R.length = R := L05
      simp -implicitDefEqProofs (disch := omega) only [go_sem, o, j, L16]
      refine Jaa A ?_
      simp -implicitDefEqProofs (disch := omega) only [go_sem, o, j, L16]
      refine Jaa P ?_
      simp -implicitDefEqProofs (disch := omega) only [go_sem, w, results96]; try simp
abbrev HDP (h : Hd) : AV := .agg [I h.c, I h.n, Str h.r, Str h.s]
abbrev RGP (r : Rg) : AV := .agg [I r.c, SLs r.l]
theorem Jsb (s : ByteArray) : Ev prog 165 [Str s] (B (decide (s.size = 32))) := by
 refine EV func165 ?_
 simp -implicitDefEqProofs (disch := omega) only [go_sem, ntmps165, results165]
 have : ((s.size : Int) == 32) = decide (s.size = 32) := by rw [L1c]; simp; omega
 rw [this]
theorem Jg0 (n a b : Int) : Ev prog 164 [I n, I a, I b] (B (decide (a <= n /\ n <= b))) := by
 refine EV func164 ?_
 simp -implicitDefEqProofs (disch := omega) only [go_sem, ntmps164]
 refine Jab (λ j => ?_) (λ j => ?_)
 . simp -implicitDefEqProofs (disch := omega) only [go_sem, j, results164]
   try simp [j]
 . simp -implicitDefEqProofs (disch := omega) only [go_sem, j, results164]
   try simp [j]
theorem JiC (n a b : Int) : Ev prog 95 [I n, I a, I b] (B (decide (a <= n /\ n <= b))) := by
 refine EV func95 ?_
 simp -implicitDefEqProofs (disch := omega) only [go_sem, ntmps95]
 refine Jab (λ j => ?_) (λ j => ?_)
 . simp -implicitDefEqProofs (disch := omega) only [go_sem, j, results95]
   try simp [j]
 . simp -implicitDefEqProofs (disch := omega) only [go_sem, j, results95]
   try simp [j]
theorem Jhk (r : Rg) (H : r.l.length <= 9223372036854775807) : Ev prog 127 [RGP r] (B (regB r)) := by
 have A := JiC r.c 0 7
 have m : regB r = (decide (0 <= r.c /\ r.c <= 7) && (decide (r.l.length <= 60) && r.l.all λ s => decide (s.size <= 1000))) := rfl
 obtain ⟨z, J⟩ : ∃ z, regB r = z := ⟨_, rfl⟩
 rw [J] at m ⊢; generalize decide (0 <= r.c /\ r.c <= 7) = b1 at *; obtain ⟨c, l⟩ := r
 simp only at H m
 refine EV func127 ?_
 simp -implicitDefEqProofs (disch := omega) only [go_sem, ntmps127]
 refine Jaa A ?_
 cases b1 with
 | false =>
  subst m; simp -implicitDefEqProofs (disch := omega) only [go_sem, results127]; try rfl
 | true =>
  simp -implicitDefEqProofs (disch := omega) only [go_sem]
  refine Jab (λ C => ?_) (λ C => ?_)
  . rw [decide_eq_false (by omega)] at m
    subst m; simp -implicitDefEqProofs (disch := omega) only [go_sem, results127]; try rfl
  rw [decide_eq_true (by omega), L0h, L0h] at m
  simp -implicitDefEqProofs (disch := omega) only [go_sem]
  refine Jag (λ k E y => ∃ i : Nat, i + k = l.length /\ z = (l.drop i).all (λ s => decide (s.size <= 1000)) /\ E 1 = .ptr 268435472 2 0 0 /\ E 3 = I i /\ y 268435472 = some ⟨144, 2, [.agg [I c, SLs l]]⟩) l.length ⟨0, by omega, m, ?_⟩ ?_
  . simp -implicitDefEqProofs (disch := omega) only [go_sem]; try rfl
  rintro k E y ⟨i, K, j, o, u, w⟩
  simp -implicitDefEqProofs (disch := omega) only [go_sem, o, u, w]
  refine Jab (λ F => ?_) (λ F => ?_)
  . have G : i < l.length := by omega
    rw [Ja6 l i G, L1V] at j; simp -implicitDefEqProofs (disch := omega) only [go_sem, o, u, w]
    refine Jab (λ D => ?_) (λ D => ?_)
    . rw [decide_eq_false (by omega), L0e] at j
      subst j; simp -implicitDefEqProofs (disch := omega) only [go_sem, results127]
    . rw [decide_eq_true (by omega), L0h] at j
      simp -implicitDefEqProofs (disch := omega) only [go_sem, o, u, w]
      refine Jad (l.length - (i + 1)) (by omega) ⟨i + 1, by omega, j, ?_⟩
      simp -implicitDefEqProofs (disch := omega) only [go_sem, o, u, w]; try rfl
  . obtain rfl : i = l.length := by omega
    rw [L0X] at j
    have j : z = true := j
    subst j; simp -implicitDefEqProofs (disch := omega) only [go_sem, results127]
theorem Jup (h : Hd) (y : 0 <= h.c /\ h.c <= 7) (z : 0 <= h.n /\ h.n <= 60) (A : h.r.size <= 1000000) : Ev prog 158 [HDP h] (Str (Jcw h)) := by
 have m := Jd5 4 (by omega) (by omega)
 have o := Jd5 h.c (by omega) (by omega)
 have u := Jd5 h.n (by omega) (by omega)
 have B := Jav 4; have C := Jav h.c; have D := Jav h.n
 refine EV func158 ?_
 simp -implicitDefEqProofs (disch := omega) only [go_sem, ntmps158]
 refine Jaa m ?_
 simp -implicitDefEqProofs (disch := omega) only [go_sem]
 refine Jaa o ?_
 simp -implicitDefEqProofs (disch := omega) only [go_sem]
 refine Jaa u ?_
 have j : (viS 4 ++ viS h.c).size = (viS 4).size + (viS h.c).size := L0u
 have w : (viS 4 ++ viS h.c ++ viS h.n).size = (viS 4).size + (viS h.c).size + (viS h.n).size := by rw [L0u, j]
 simp -implicitDefEqProofs (disch := omega) only [go_sem, j, w, results158]; try rfl
theorem Jfk (h : Hd) : (Jcw h).size <= 30 + h.r.size := by
 have j := Jav 4; have m := Jav h.c; have o := Jav h.n; unfold Jcw; rw [L0u, L0u, L0u]
 omega
theorem JsT (key : ByteArray) (h : Hd) (A : key.size <= 10000) (u : 0 <= h.c /\ h.c <= 7) (w : 0 <= h.n /\ h.n <= 60) (y : h.r.size <= 1000000) : Ev prog 129 [Str key, HDP h] (Str (JfQ key h)) := by
 have j := Jup h u w y; have z := Jfk h
 have m := JiH (Jcw h) (by omega)
 have o := JiS key (JaK (Jcw h)) (by rw [Jbg]; omega)
 unfold JfQ; generalize Jcw h = q at *
 refine EV func129 ?_
 simp -implicitDefEqProofs (disch := omega) only [go_sem, ntmps129]
 refine Jaa j ?_
 simp -implicitDefEqProofs (disch := omega) only [go_sem]
 refine Jaa m ?_
 simp -implicitDefEqProofs (disch := omega) only [go_sem]
 refine Jaa o ?_
 simp -implicitDefEqProofs (disch := omega) only [go_sem, results129]
theorem JfE (u : Bool) (l : List Int) (n : Int) (y : l.length <= 1000000) (j : -4611686018427387903 <= n /\ n <= 4611686018427387903) :
 LOK prog 185 (inI [350224464]) [.ptr 350224464 2 0 0, I n] (stO (bLS u l)) (.tup []) (stO (bLS true (l ++ bI (viS n)))) := by
 refine Jbc [] [350224464] func185 rfl (by kernel_rfl) mo (nb rfl) rfl (by kernel_rfl) (by kernel_rfl) ?_
 have o := JcX n j.1 j.2; have w := Jav n; generalize viS n = v at *; simp -implicitDefEqProofs (disch := omega) only [go_sem, ntmps185]
 refine Jaa o ?_
 simp -implicitDefEqProofs (disch := omega) only [go_sem]
 refine Jak rfl ?_
 have m : LOK prog 85 (inI [350224464]) ([.ptr 350224464 2 0 0, Str v] ++ []) (stO (bLS u l)) (.tup [I v.size, .v .nilIface]) (stO (bLS true (l ++ bI v))) := JkP u l v (by omega)
 refine JaV [350224464] m ?_ ?_ ?_ ?_ ?_ ?_ ?_ (hsp := λ id _ h => h)
 . simp -implicitDefEqProofs (disch := omega) only [go_sem]
 . simp -implicitDefEqProofs (disch := omega) only [go_sem]
 . cases u <;> simp -implicitDefEqProofs (disch := omega) only [go_sem]
 . cases u <;> simp -implicitDefEqProofs (disch := omega) only [go_sem]
 . cases u <;> simp -implicitDefEqProofs (disch := omega) only [go_sem]
 . simp -implicitDefEqProofs (disch := omega) only [go_sem]
 . simp -implicitDefEqProofs (disch := omega) only [go_sem, results185]
set_option maxHeartbeats 1000000 in
theorem Jvq (key : ByteArray) (h : Hd) (E : key.size <= 10000) (D : 0 <= h.c /\ h.c <= 7) (F : 0 <= h.n /\ h.n <= 60) (G : h.r.size <= 1000000) : Ev prog 166 [Str key, HDP h] (Str (JfQ key h)) := by
 have z := Jfk h
 have A := Jfy (Jcw h) (by omega)
 have B := Jew key (JaK (Jcw h)) (by rw [Jbg]; omega)
 have C : bI (Jcw h) = ((bI (viS 4) ++ bI (viS h.c)) ++ bI (viS h.n)) ++ bI h.r := by unfold Jcw; rw [Jbi, Jbi, Jbi]
 have j : (Jcw h).size ≠ 0 := by
  have := Jro 4
  unfold Jcw
  rw [L0u, L0u, L0u]; omega
 have K : (bI (viS 4)).length <= 10 := by rw [Jao]; exact Jav 4
 have L : (bI (viS h.c)).length <= 10 := by rw [Jao]; exact Jav h.c
 have M : (bI (viS h.n)).length <= 10 := by rw [Jao]; exact Jav h.n
 have m := JfE false [] 4 (by simp) (by omega)
 have u := JfE true (bI (viS 4)) h.c (by omega) (by omega)
 have w := JfE true (bI (viS 4) ++ bI (viS h.c)) h.n (by rw [L0a]; omega) (by omega)
 have o := JkP true (bI (viS 4) ++ bI (viS h.c) ++ bI (viS h.n)) h.r (by rw [L0a, L0a]; omega)
 have y := Joi true (Jcw h) j (by omega)
 rw [<- C] at o; rw [L23] at m; unfold JfQ; generalize Jcw h = q at *; generalize bI (viS 4) = H at *; generalize bI (viS h.c) = I at *; generalize bI (viS h.n) = J at *
 change LOK _ _ _ ([_, _] ++ []) _ _ _ at m
 change LOK _ _ _ ([_, _] ++ []) _ _ _ at u
 change LOK _ _ _ ([_, _] ++ []) _ _ _ at w
 change LOK _ _ _ ([_, _] ++ []) _ _ _ at o
 change LOK _ _ _ ([_] ++ []) _ _ _ at y
 refine EV func166 ?_
 simp -implicitDefEqProofs (disch := omega) only [go_sem, ntmps166]
 refine Jak rfl ?_
 refine Jd2 350224464 350224465 0 1 5 1 (k := ⟨292, 2, [.agg [.v (.pointer none), .v (.slice none 0 0)]]⟩) (el := .agg [.v (.pointer none), .v (.slice none 0 0)]) (by simp -implicitDefEqProofs (disch := omega) only [go_sem]) (by decide) rfl rfl (by decide) (by simp -implicitDefEqProofs (disch := omega) only [go_sem]) rfl ?_
 refine JaV [350224464] m ?_ ?_ ?_ ?_ ?_ ?_ ?_
 . simp -implicitDefEqProofs (disch := omega) only [go_sem]
 . simp -implicitDefEqProofs (disch := omega) only [go_sem]
 . simp -implicitDefEqProofs (disch := omega) only [go_sem]
   simp
 . simp -implicitDefEqProofs (disch := omega) only [go_sem]
 . simp -implicitDefEqProofs (disch := omega) only [go_sem]
 . simp -implicitDefEqProofs (disch := omega) only [go_sem]
 simp -implicitDefEqProofs (disch := omega) only [go_sem]
 refine Jak rfl ?_
 refine JaV [350224464] u ?_ ?_ ?_ ?_ ?_ ?_ ?_
 . simp -implicitDefEqProofs (disch := omega) only [go_sem]
 . simp -implicitDefEqProofs (disch := omega) only [go_sem]
 . simp -implicitDefEqProofs (disch := omega) only [go_sem]
 . simp -implicitDefEqProofs (disch := omega) only [go_sem]
 . simp -implicitDefEqProofs (disch := omega) only [go_sem]
 . simp -implicitDefEqProofs (disch := omega) only [go_sem]
 simp -implicitDefEqProofs (disch := omega) only [go_sem]
 refine Jak rfl ?_
 refine JaV [350224464] w ?_ ?_ ?_ ?_ ?_ ?_ ?_
 . simp -implicitDefEqProofs (disch := omega) only [go_sem]
 . simp -implicitDefEqProofs (disch := omega) only [go_sem]
 . simp -implicitDefEqProofs (disch := omega) only [go_sem]
 . simp -implicitDefEqProofs (disch := omega) only [go_sem]
 . simp -implicitDefEqProofs (disch := omega) only [go_sem]
 . simp -implicitDefEqProofs (disch := omega) only [go_sem]
 simp -implicitDefEqProofs (disch := omega) only [go_sem]
 refine Jak rfl ?_
 refine JaV [350224464] o ?_ ?_ ?_ ?_ ?_ ?_ ?_
 . simp -implicitDefEqProofs (disch := omega) only [go_sem]
 . simp -implicitDefEqProofs (disch := omega) only [go_sem]
 . simp -implicitDefEqProofs (disch := omega) only [go_sem]
 . simp -implicitDefEqProofs (disch := omega) only [go_sem]
 . simp -implicitDefEqProofs (disch := omega) only [go_sem]
 . simp -implicitDefEqProofs (disch := omega) only [go_sem]
 simp -implicitDefEqProofs (disch := omega) only [go_sem]
 refine Jak rfl ?_
 refine JaV [350224464] y ?_ ?_ ?_ ?_ ?_ ?_ ?_
 . simp -implicitDefEqProofs (disch := omega) only [go_sem]
 . simp -implicitDefEqProofs (disch := omega) only [go_sem]
 . simp -implicitDefEqProofs (disch := omega) only [go_sem]
 . simp -implicitDefEqProofs (disch := omega) only [go_sem]
 . simp -implicitDefEqProofs (disch := omega) only [go_sem]
 . simp -implicitDefEqProofs (disch := omega) only [go_sem]
 simp -implicitDefEqProofs (disch := omega) only [go_sem]
 refine Jaa A ?_
 simp -implicitDefEqProofs (disch := omega) only [go_sem]
 refine Jaa B ?_
 simp -implicitDefEqProofs (disch := omega) only [go_sem, results166]
theorem Jr6 (key : ByteArray) (h : Hd) : genB key h = (decide (key.size = 32) && (decide (0 <= h.c /\ h.c <= 7) && (decide (0 <= h.n /\ h.n <= 60) && (decide (h.r.size = 32) && decide (h.s = JfQ key h))))) := by
 unfold genB; simp only [Bool.decide_and, L1j]
theorem JxW (key : ByteArray) (h : Hd) (D : h.r.size <= 9223372036854775807) : Ev prog 139 [Str key, HDP h] (B (genB key h)) := by
 have m := Jg0 h.c 0 7; have o := Jg0 h.n 0 60; have u := Jsb key
 have w := λ (F : key.size = 32) (y : 0 <= h.c /\ h.c <= 7) (C : 0 <= h.n /\ h.n <= 60) (G : h.r.size = 32) => Jvq key h (by omega) y C (by omega)
 have j := Jr6 key h
 obtain ⟨z, E⟩ : ∃ z, genB key h = z := ⟨_, rfl⟩
 rw [E] at j ⊢; generalize JfQ key h = S at *; obtain ⟨c, n, r, s⟩ := h
 simp only at *
 refine EV func139 ?_
 simp -implicitDefEqProofs (disch := omega) only [go_sem, ntmps139]
 by_cases h1 : 0 <= c /\ c <= 7
 rotate_left
 . rw [decide_eq_false h1] at m j; rw [L0e, L1M] at j; subst j
   refine Jaa m ?_
   simp -implicitDefEqProofs (disch := omega) only [go_sem]
   refine Jaa u ?_
   generalize decide (key.size = 32) = b at *
   cases b <;> simp -implicitDefEqProofs (disch := omega) only [go_sem, results139]
 rw [decide_eq_true h1] at m j
 refine Jaa m ?_
 simp -implicitDefEqProofs (disch := omega) only [go_sem]
 by_cases h2 : 0 <= n /\ n <= 60
 rotate_left
 . rw [decide_eq_false h2] at o j; rw [L0e, L1M, L1M] at j; subst j
   refine Jaa o ?_
   simp -implicitDefEqProofs (disch := omega) only [go_sem]
   refine Jaa u ?_
   generalize decide (key.size = 32) = b at *
   cases b <;> simp -implicitDefEqProofs (disch := omega) only [go_sem, results139]
 rw [decide_eq_true h2] at o j
 refine Jaa o ?_
 have A : ((r.size : Int) == 32) = decide (r.size = 32) := by rw [L1c]; simp; omega
 simp -implicitDefEqProofs (disch := omega) only [go_sem, A]
 refine Jaa u ?_
 by_cases h3 : key.size = 32
 rotate_left
 . rw [decide_eq_false h3] at j ⊢; rw [L0e] at j; subst j; simp -implicitDefEqProofs (disch := omega) only [go_sem, results139]
 rw [decide_eq_true h3] at j ⊢
 by_cases h4 : r.size = 32
 rotate_left
 . rw [decide_eq_false h4] at j ⊢; rw [L0e, L1M, L1M, L1M] at j; subst j; simp -implicitDefEqProofs (disch := omega) only [go_sem, results139]
 rw [decide_eq_true h4] at j ⊢; simp only [L0h] at j; simp -implicitDefEqProofs (disch := omega) only [go_sem]
 refine Jaa (w h3 h1 h2 h4) ?_
 subst j; simp -implicitDefEqProofs (disch := omega) only [go_sem, Jht, results139]
end Go.Proofs.YtlecbpkidomjbaaGreatDoor

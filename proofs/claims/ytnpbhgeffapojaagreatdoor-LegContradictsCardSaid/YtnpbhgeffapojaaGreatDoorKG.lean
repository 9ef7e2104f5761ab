/- Clocks, legs, trees, seals -/
import Derived.Test.YtnpbhgeffapojaaGreatDoorKF
set_option linter.all false
namespace Go.Proofs.YtnpbhgeffapojaaGreatDoor
open Go.Proofs.Tryz
open Go.Vai Go
structure Rd where
  l : Int
  a : Int
  b : Int
  deriving DecidableEq
instance : Inhabited Rd := ⟨⟨0, 0, 0⟩⟩
structure Ck where
  d : Int
  r : List Rd
  deriving DecidableEq
instance : Inhabited Ck := ⟨⟨0, []⟩⟩
def ascR : Int -> List Rd -> Bool
  | _, [] => true
  | last, r :: l => decide (last < r.l /\ r.l <= 10000000 /\ 0 <= r.a /\ r.a <= r.b /\ r.b <= 10000000) && ascR r.l l
def Jb5 (c : Ck) : Bool := decide (0 <= c.d /\ c.d <= 100 /\ c.r.length <= 12) && ascR (-1) c.r
theorem JdT {c : Ck} : Jb5 c = true ↔ (0 <= c.d /\ c.d <= 100 /\ c.r.length <= 12) /\ ascR (-1) c.r = true := by
  unfold Jb5; rw [L00, decide_eq_true_iff]
theorem Jlt : ∀ {l : List Rd} {last : Int}, ascR last l = true -> ∀ r ∈ l, last < r.l /\ r.l <= 10000000 /\ 0 <= r.a /\ r.a <= r.b /\ r.b <= 10000000
  | [], _, _, r, h => by cases h
  | x :: l, last, h, r, hr => by
    rw [ascR, L00, decide_eq_true_iff] at h
    rcases L0h.1 hr with rfl | hr
    . exact h.1
    . have := Jlt h.2 r hr
      omega
def sLo (d n : Int) : Int := if 0 < n then 1000 * (n - 1) / (1000 + d) + 1 else 0
def sHi (d n : Int) : Int := (1000 * (n + 1) - 1) / (1000 - d)
theorem JsQ {d n : Int} (hd : 0 <= d /\ d <= 100) (hn : 0 <= n) : 0 <= sLo d n /\ sLo d n <= n := by
  unfold sLo
  split
  . have h1 : 0 <= 1000 * (n - 1) / (1000 + d) := L1T (by omega) (by omega)
    have h2 : 1000 * (n - 1) / (1000 + d) <= n - 1 := by
      refine Int.ediv_le_of_le_mul (by omega) ?_
      have : 0 <= (n - 1) * d := L1K (by omega) hd.1
      rw [Int.mul_add]; omega
    omega
  . omega
theorem Jmf {d n : Int} (hd : 0 <= d /\ d <= 100) (hn : 0 <= n) : 0 <= sHi d n /\ sHi d n <= 2 * n + 2 := by
  unfold sHi
  refine ⟨L1T (by omega) (by omega), ?_⟩
  refine Int.ediv_le_of_le_mul (by omega) ?_
  have : (2 * n + 2) * d <= (2 * n + 2) * 100 := L2m hd.2 (by omega)
  rw [Int.mul_sub]; omega
def Fit (d x n : Int) : Prop := (1000 - d) * x - 1000 < 1000 * n /\ 1000 * n < (1000 + d) * x + 1000
instance (d x n : Int) : Decidable (Fit d x n) := by unfold Fit; exact inferInstance
theorem JtM {d x n : Int} (hd : 0 <= d /\ d <= 100) (hx : 0 <= x) : Fit d x n ↔ (n <= 0 \/ 1000 * (n - 1) / (1000 + d) + 1 <= x) /\ x <= sHi d n /\ (0 < n \/ 1000 * n < (1000 + d) * x + 1000) := by
  have e1 : (1000 - d) * x - 1000 < 1000 * n ↔ x <= sHi d n := by
    unfold sHi
    rw [Int.le_ediv_iff_mul_le (by omega), Int.mul_comm x]
    omega
  have e2 : 1000 * n < (1000 + d) * x + 1000 ↔ 1000 * (n - 1) / (1000 + d) + 1 <= x := by
    rw [Int.add_one_le_iff, Int.ediv_lt_iff_lt_mul (by omega), Int.mul_comm x]
    omega
  unfold Fit; rw [e1]
  by_cases hn : 0 < n
  . rw [e2]; omega
  . omega
theorem Jos {d x n : Int} (hd : 0 <= d /\ d <= 100) (hx : 0 <= x) (hn : 0 <= n) : Fit d x n ↔ sLo d n <= x /\ x <= sHi d n := by
  rw [JtM hd hx]; unfold sLo
  have hm : 0 <= (1000 + d) * x := L1K (by omega) hx
  by_cases h0 : 0 < n
  . rw [if_pos h0]; omega
  . rw [if_neg h0]; omega
def JdL (d t : Int) (w : Int × Int) (r : Rd) : Int × Int :=
  if t < r.l then (max w.1 (r.a - sHi d (r.l - t)), min w.2 (r.b - sLo d (r.l - t)))
  else if t = r.l then (max w.1 (r.a - sHi d 0), min w.2 (r.b + sHi d 0))
  else (max w.1 (r.a + sLo d (t - r.l)), min w.2 (r.b + sHi d (t - r.l)))
def winF (d t : Int) (l : List Rd) : Int × Int := l.foldl (JdL d t) (0, 10000000)
def inR (d t x : Int) (r : Rd) : Prop :=
  if t < r.l then r.a - sHi d (r.l - t) <= x /\ x <= r.b - sLo d (r.l - t)
  else if t = r.l then r.a - sHi d 0 <= x /\ x <= r.b + sHi d 0
  else r.a + sLo d (t - r.l) <= x /\ x <= r.b + sHi d (t - r.l)
theorem JpX (d t : Int) (w : Int × Int) (r : Rd) (x : Int) : ((JdL d t w r).1 <= x /\ x <= (JdL d t w r).2) ↔ (w.1 <= x /\ x <= w.2) /\ inR d t x r := by
  unfold JdL inR
  split
  . simp only; omega
  . split
    . simp only; omega
    . simp only; omega
theorem JlH (d t x : Int) : ∀ (l : List Rd) (w : Int × Int), ((l.foldl (JdL d t) w).1 <= x /\ x <= (l.foldl (JdL d t) w).2) ↔ (w.1 <= x /\ x <= w.2) /\ ∀ r ∈ l, inR d t x r
  | [], w => by simp
  | r :: l, w => by
    rw [L1k, JlH d t x l, JpX]; simp only [L0h, forall_eq_or_imp, and_assoc]
theorem JpY (d t : Int) (w : Int × Int) (r : Rd) : w.1 <= (JdL d t w r).1 /\ (JdL d t w r).2 <= w.2 := by
  unfold JdL
  split
  . simp only; omega
  . split
    . simp only; omega
    . simp only; omega
theorem Jdq (d t x : Int) (l : List Rd) : ((winF d t l).1 <= x /\ x <= (winF d t l).2) ↔ (0 <= x /\ x <= 10000000) /\ ∀ r ∈ l, inR d t x r := JlH d t x l _
theorem Jou (d t : Int) : ∀ (l : List Rd) (w : Int × Int), w.1 <= (l.foldl (JdL d t) w).1 /\ (l.foldl (JdL d t) w).2 <= w.2
  | [], w => by simp
  | r :: l, w => by
    have h1 := JpY d t w r; have h2 := Jou d t l (JdL d t w r)
    rw [L1k]; omega
theorem Jr1 (d t : Int) (l : List Rd) : 0 <= (winF d t l).1 /\ (winF d t l).2 <= 10000000 := Jou d t l _
def atF (c : Ck) (t : Int) : Option (Int × Int) :=
  if Jb5 c = true /\ (0 <= t /\ t <= 10000000) /\ (winF c.d t c.r).1 <= (winF c.d t c.r).2 then some (winF c.d t c.r) else none
theorem JeH {c : Ck} {t : Int} {w : Int × Int} : atF c t = some w ↔ (Jb5 c = true /\ (0 <= t /\ t <= 10000000) /\ (winF c.d t c.r).1 <= (winF c.d t c.r).2) /\ winF c.d t c.r = w := by
  unfold atF
  split
  . rename_i h; simp [h]
  . rename_i h; simp [h]
theorem Jtc {c : Ck} {t x : Int} (hc : Jb5 c = true) (ht : 0 <= t /\ t <= 10000000) (hx : 0 <= x /\ x <= 10000000) (h : ∀ r ∈ c.r, inR c.d t x r) : ∃ w, atF c t = some w /\ w.1 <= x /\ x <= w.2 := by
  have := (Jdq c.d t x c.r).2 ⟨hx, h⟩
  exact ⟨_, JeH.2 ⟨⟨hc, ht, by omega⟩, rfl⟩, this⟩
theorem Jr2 {d t : Int} {l m : List Rd} (h : ∀ r ∈ l, r ∈ m) (hm : (winF d t m).1 <= (winF d t m).2) : (winF d t l).1 <= (winF d t m).1 /\ (winF d t m).2 <= (winF d t l).2 := by
  have h1 := (Jdq d t (winF d t m).1 m).1 ⟨L1c _, hm⟩; have h2 := (Jdq d t (winF d t m).2 m).1 ⟨hm, L1c _⟩
  have h3 := (Jdq d t (winF d t m).1 l).2 ⟨h1.1, fun r hr => h1.2 r (h r hr)⟩
  have h4 := (Jdq d t (winF d t m).2 l).2 ⟨h2.1, fun r hr => h2.2 r (h r hr)⟩
  exact ⟨h3.1, h4.2⟩
def Jad (c n : Int) : Int := (if c < 0 then -(c + 1) else c).tmod n
theorem Jah {c n : Int} (hn : 0 < n) : 0 <= Jad c n /\ Jad c n < n := by
  unfold Jad
  split
  . exact ⟨Int.tmod_nonneg _ (by omega), Int.tmod_lt_of_pos _ hn⟩
  . exact ⟨Int.tmod_nonneg _ (by omega), Int.tmod_lt_of_pos _ hn⟩
def sumB (d : Int) (rates : List Int) (t : Int) : Nat -> Int
  | 0 => 0
  | k + 1 => sumB d rates t k + (if 100 * (k : Int) < t then (Jad (gd rates k) (2 * d + 1) - d) * min (t - 100 * k) 100 else 0)
def sumA (d : Int) (rates : List Int) (t : Int) : Int := sumB d rates t (min rates.length 20)
def milF (d : Int) (rates : List Int) (t : Int) : Int := sumA d rates t + 1000 * t
def JaL (d : Int) (start : Int) (rates : List Int) (t : Int) : Int := Jad start 1000 + milF d rates t / 1000
theorem JsX {d : Int} (hd : 0 <= d) (r : Int) (hr : -d <= r /\ r <= d) (k : Nat) {s t : Int} (hst : s <= t) :
    let f := fun u : Int => if 100 * (k : Int) < u then r * min (u - 100 * k) 100 else 0
    let g := fun u : Int => if 100 * (k : Int) < u then min (u - 100 * k) 100 else 0
    0 <= g t - g s /\ -(d * (g t - g s)) <= f t - f s /\ f t - f s <= d * (g t - g s) := by
  intro f g
  have hfg : ∀ u, f u = r * g u := fun u => by
    show (if _ then _ else _) = r * (if _ then _ else _)
    split <;> simp
  have h0 : 0 <= g t - g s := by
    show 0 <= (if 100 * (k : Int) < t then min (t - 100 * k) 100 else 0) - (if 100 * (k : Int) < s then min (s - 100 * k) 100 else 0)
    split <;> split <;> omega
  refine ⟨h0, ?_⟩
  rw [hfg, hfg, <- Int.mul_sub]
  have h1 : r * (g t - g s) <= d * (g t - g s) := L1V hr.2 h0
  have h2 : -d * (g t - g s) <= r * (g t - g s) := L1V hr.1 h0
  rw [Int.neg_mul] at h2
  exact ⟨h2, h1⟩
def covN (t : Int) : Nat -> Int
  | 0 => 0
  | k + 1 => covN t k + (if 100 * (k : Int) < t then min (t - 100 * k) 100 else 0)
theorem JkA {t : Int} (ht : 0 <= t) : ∀ k : Nat, covN t k = min t (100 * k)
  | 0 => by simp only [covN]; omega
  | k + 1 => by rw [covN, JkA ht k]; split <;> omega
theorem Jke {d : Int} (hd : 0 <= d) (rates : List Int) {s t : Int} (hst : s <= t) : ∀ k : Nat, 0 <= covN t k - covN s k /\ -(d * (covN t k - covN s k)) <= sumB d rates t k - sumB d rates s k /\ sumB d rates t k - sumB d rates s k <= d * (covN t k - covN s k)
  | 0 => by simp [sumB, covN]
  | k + 1 => by
    have h := Jke hd rates hst k
    have hp := Jah (c := gd rates k) (n := 2 * d + 1) (by omega)
    have h1 := JsX hd (Jad (gd rates k) (2 * d + 1) - d) (by omega) k hst
    simp only at h1
    simp only [sumB, covN]
    generalize (if 100 * (k : Int) < t then (Jad (gd rates k) (2 * d + 1) - d) * min (t - 100 * k) 100 else 0) = f1 at *
    generalize (if 100 * (k : Int) < s then (Jad (gd rates k) (2 * d + 1) - d) * min (s - 100 * k) 100 else 0) = f2 at *
    generalize (if 100 * (k : Int) < t then min (t - 100 * k) 100 else 0) = g1 at *
    generalize (if 100 * (k : Int) < s then min (s - 100 * k) 100 else 0) = g2 at *
    have e : d * (covN t k + g1 - (covN s k + g2)) = d * (covN t k - covN s k) + d * (g1 - g2) := by rw [<- Int.mul_add]; congr 1; omega
    rw [e]
    omega
theorem JiG {d : Int} (hd : 0 <= d) (rates : List Int) {s t : Int} (h0 : 0 <= s) (hst : s <= t) : (1000 - d) * (t - s) <= milF d rates t - milF d rates s /\ milF d rates t - milF d rates s <= (1000 + d) * (t - s) := by
  obtain ⟨h1, h2, h3⟩ := Jke hd rates hst (min rates.length 20)
  have e1 := JkA h0 (min rates.length 20); have e2 := JkA (Int.le_trans h0 hst) (min rates.length 20)
  have hle : covN t (min rates.length 20) - covN s (min rates.length 20) <= t - s := by omega
  have h4 : d * (covN t (min rates.length 20) - covN s (min rates.length 20)) <= d * (t - s) := L2m hle hd
  unfold milF sumA; rw [Int.sub_mul, Int.add_mul]
  omega
theorem JiH (d : Int) (rates : List Int) : milF d rates 0 = 0 := by
  have : ∀ k : Nat, sumB d rates 0 k = 0 := fun k => by
    induction k with
    | zero => rfl
    | succ k ih => rw [sumB, ih, if_neg (by omega)]; rfl
  unfold milF sumA; rw [this]; rfl
theorem Jhi {d : Int} (hd : 0 <= d /\ d <= 100) (start : Int) (rates : List Int) {s t : Int} (h0 : 0 <= s) (hst : s <= t) : JaL d start rates s <= JaL d start rates t /\ Fit d (t - s) (JaL d start rates t - JaL d start rates s) := by
  obtain ⟨h1, h2⟩ := JiG hd.1 rates h0 hst
  have h3 : 0 <= (1000 - d) * (t - s) := L1K (by omega) (by omega)
  unfold Fit JaL
  omega
theorem JcG {d : Int} (hd : 0 <= d /\ d <= 100) (start : Int) (rates : List Int) {t : Int} (h0 : 0 <= t) : 0 <= JaL d start rates t /\ JaL d start rates t <= 1000 + 2 * t := by
  obtain ⟨h1, h2⟩ := JiG hd.1 rates (L1c 0) h0
  have h3 : 0 <= (1000 - d) * (t - 0) := L1K (by omega) (by omega)
  have h4 : d * t <= 100 * t := L1V hd.2 h0
  have hp := Jah (c := start) (n := 1000) (by omega)
  rw [JiH, Int.add_mul] at h2; rw [JiH] at h1; simp only [Int.sub_zero] at h1 h2 h3; unfold JaL
  omega
def Jr6 (d start : Int) (rates : List Int) (r : Rd) : Prop := ∃ t, 0 <= t /\ r.l = JaL d start rates t /\ r.a <= t /\ t <= r.b
theorem JuR {d : Int} (hd : 0 <= d /\ d <= 100) (start : Int) (rates : List Int) {r : Rd} (h : Jr6 d start rates r) {t : Int} (ht : 0 <= t) : inR d (JaL d start rates t) t r := by
  obtain ⟨u, hu, e, ha, hb⟩ := h; unfold inR; rw [e]
  rcases Int.le_total u t with h1 | h1
  . obtain ⟨h2, h3⟩ := Jhi hd start rates hu h1
    rw [Jos hd (by omega) (by omega)] at h3
    rw [if_neg (by omega)]
    split
    . rename_i h4; rw [h4, Int.sub_self] at h3
      have := (Jmf hd (n := 0) (by omega)).1
      omega
    . omega
  . obtain ⟨h2, h3⟩ := Jhi hd start rates ht h1
    rw [Jos hd (by omega) (by omega)] at h3
    split
    . omega
    . rename_i h4
      have e4 : JaL d start rates t = JaL d start rates u := by omega
      rw [if_pos e4]; rw [e4, Int.sub_self] at h3
      have := (Jmf hd (n := 0) (by omega)).1
      omega
def Je5 (d start : Int) (rates : List Int) (t : Int) (q : Int × Int × Int) : Rd := ⟨JaL d start rates t, max (t - Jad q.2.1 51) 0, t + Jad q.2.2 51⟩
def putR (d start : Int) (rates : List Int) (t : Int) (l : List Rd) (q : Int × Int × Int) : List Rd :=
  if Jad q.1 3000 = t /\ (l = [] \/ (gd l (l.length - 1)).l < JaL d start rates t) then l ++ [Je5 d start rates t q] else l
def rowR (d start : Int) (rates : List Int) (at_ : List (Int × Int × Int)) (t : Int) (l : List Rd) : Nat -> List Rd
  | 0 => l
  | i + 1 => putR d start rates t (rowR d start rates at_ t l i) (gd at_ i)
def JcK (d start : Int) (rates : List Int) (at_ : List (Int × Int × Int)) : Nat -> List Rd
  | 0 => []
  | t + 1 => rowR d start rates at_ t (JcK d start rates at_ t) (min at_.length 12)
def clkF (drift start : Int) (rates : List Int) (at_ : List (Int × Int × Int)) : Ck := ⟨Jad drift 101, JcK (Jad drift 101) start rates at_ 3000⟩
theorem Jjb : ∀ (l : List Rd) (last : Int) (r : Rd), ascR last (l ++ [r]) = true ↔ ascR last l = true /\ ((l = [] /\ last < r.l) \/ (l ≠ [] /\ (gd l (l.length - 1)).l < r.l)) /\ r.l <= 10000000 /\ 0 <= r.a /\ r.a <= r.b /\ r.b <= 10000000
  | [], last, r => by simp [ascR]
  | x :: l, last, r => by
    rw [L0w, ascR, ascR, L00, L00, Jjb l x.l r]
    have e : (gd (x :: l) ((x :: l).length - 1)) = if l = [] then x else gd l (l.length - 1) := by
      cases l with
      | nil => rfl
      | cons y l =>
        rw [if_neg (by simp)]
        show gd (x :: y :: l) ((y :: l).length + 1 - 1) = _
        rw [L0Z, show (y :: l).length = (y :: l).length - 1 + 1 by simp, Jaz]
        simp
    rw [e]
    by_cases hl : l = []
    . subst hl; simp [ascR]
    . simp [hl, and_assoc]
section
variable (d start : Int) (rates : List Int) (at_ : List (Int × Int × Int))
def cntB (T : Nat) : Nat -> Nat
  | 0 => 0
  | i + 1 => cntB T i + if Jad (gd at_ i).1 3000 < T then 1 else 0
def cntE (t : Nat) : Nat -> Nat
  | 0 => 0
  | i + 1 => cntE t i + if Jad (gd at_ i).1 3000 = t then 1 else 0
theorem Jn8 (T : Nat) : ∀ i, cntB at_ (T + 1) i = cntB at_ T i + cntE at_ T i
  | 0 => rfl
  | i + 1 => by
    rw [cntB, cntB, cntE, Jn8 T i]
    by_cases h : Jad (gd at_ i).1 3000 < (T : Int)
    . rw [if_pos (by omega), if_pos h, if_neg (by omega)]; omega
    . by_cases h2 : Jad (gd at_ i).1 3000 = (T : Int)
      . rw [if_pos (by omega), if_neg h, if_pos h2]; omega
      . rw [if_neg (by omega), if_neg h, if_neg h2]; omega
theorem Jn9 (T : Nat) : ∀ i, cntB at_ T i <= i
  | 0 => L0a _
  | i + 1 => by have := Jn9 T i; rw [cntB]; split <;> omega
structure Good (l : List Rd) : Prop where
  asc : ascR (-1) l = true
  tru : ∀ r ∈ l, Jr6 d start rates r
theorem JrA (hd : 0 <= d /\ d <= 100) {t : Nat} (ht : t < 3000) {l : List Rd} (h : Good d start rates l) (q : Int × Int × Int) : Good d start rates (putR d start rates t l q) /\ (putR d start rates t l q).length <= l.length + if Jad q.1 3000 = t then 1 else 0 := by
  have h1 := Jah (c := q.2.1) (n := 51) (by omega)
  have h2 := Jah (c := q.2.2) (n := 51) (by omega)
  have h3 := JcG hd start rates (t := t) (by omega)
  unfold putR
  split
  . rename_i hc
    refine ⟨⟨?_, ?_⟩, ?_⟩
    . rw [Jjb]
      refine ⟨h.asc, ?_, ?_⟩
      . by_cases hl : l = []
        . exact .inl ⟨hl, by simp only [Je5]; omega⟩
        . exact .inr ⟨hl, by rcases hc.2 with e | e; exact absurd e hl; exact e⟩
      . simp only [Je5]; omega
    . intro r hr
      rcases L0v.1 hr with hr | hr
      . exact h.tru r hr
      . obtain rfl := L0p.1 hr
        exact ⟨t, by omega, rfl, by simp only [Je5]; omega, by simp only [Je5]; omega⟩
    . rw [L08, if_pos hc.1]; simp
  . exact ⟨h, by omega⟩
theorem JiS (hd : 0 <= d /\ d <= 100) {t : Nat} (ht : t < 3000) {l : List Rd} (h : Good d start rates l) : ∀ i, Good d start rates (rowR d start rates at_ t l i) /\ (rowR d start rates at_ t l i).length <= l.length + cntE at_ t i
  | 0 => ⟨h, L0a _⟩
  | i + 1 => by
    obtain ⟨h1, h2⟩ := JiS hd ht h i
    obtain ⟨h3, h4⟩ := JrA d start rates hd ht h1 (gd at_ i)
    rw [rowR, cntE]
    exact ⟨h3, by omega⟩
theorem JgR (hd : 0 <= d /\ d <= 100) : ∀ T : Nat, T <= 3000 -> Good d start rates (JcK d start rates at_ T) /\ (JcK d start rates at_ T).length <= cntB at_ T (min at_.length 12)
  | 0, _ => ⟨⟨rfl, fun r h => by cases h⟩, L13 _⟩
  | T + 1, hT => by
    obtain ⟨h1, h2⟩ := JgR hd T (by omega)
    obtain ⟨h3, h4⟩ := JiS d start rates at_ hd (t := T) (by omega) h1 (min at_.length 12)
    rw [JcK, Jn8]
    exact ⟨h3, by omega⟩
end
theorem Jik (drift start : Int) (rates : List Int) (at_ : List (Int × Int × Int)) : Good (Jad drift 101) start rates (clkF drift start rates at_).r /\ Jb5 (clkF drift start rates at_) = true := by
  have hd := Jah (c := drift) (n := 101) (by omega)
  obtain ⟨h1, h2⟩ := JgR (Jad drift 101) start rates at_ (by omega) 3000 (L0a _)
  have h3 := Jn9 at_ 3000 (min at_.length 12)
  refine ⟨h1, JdT.2 ⟨⟨hd.1, by simp only [clkF]; omega, by simp only [clkF]; omega⟩, h1.asc⟩⟩
theorem Jsm (drift start : Int) (rates : List Int) (at_ : List (Int × Int × Int)) {t : Int} (h0 : 0 <= t) (h1 : t <= 4000000) : ∃ w, atF (clkF drift start rates at_) (JaL (Jad drift 101) start rates t) = some w /\ w.1 <= t /\ t <= w.2 := by
  have hd := Jah (c := drift) (n := 101) (by omega)
  obtain ⟨hg, hc⟩ := Jik drift start rates at_
  have hs := JcG (d := Jad drift 101) (by omega) start rates h0
  exact Jtc hc (by omega) (by omega) fun r hr => JuR (by omega) start rates (hg.tru r hr) h0
theorem Jl1 (d start : Int) (rates : List Int) (q : Int × Int × Int) : ∀ T : Nat, JcK d start rates [q] T = if Jad q.1 3000 < T then [Je5 d start rates (Jad q.1 3000) q] else []
  | 0 => by
    have := Jah (c := q.1) (n := 3000) (by omega)
    rw [if_neg (by omega)]; rfl
  | T + 1 => by
    have hm : min [q].length 12 = 0 + 1 := by simp
    rw [JcK, hm, rowR, rowR, Jl1 d start rates q T, JaD]; unfold putR
    by_cases h : Jad q.1 3000 < (T : Int)
    . rw [if_pos h, if_neg (by omega), if_pos (by omega)]
    . rw [if_neg h]
      by_cases h2 : Jad q.1 3000 = (T : Int)
      . rw [if_pos ⟨h2, .inl rfl⟩, if_pos (by omega), h2]; rfl
      . rw [if_neg (by omega), if_neg (by omega)]
theorem JsL (start f : Int) {t : Int} (h0 : 0 <= t) (h1 : t <= 4000000) : atF (clkF 0 start [] [(f, 0, 0)]) (JaL 0 start [] t) = some (t, t) := by
  obtain ⟨w, hw, h2, h3⟩ := Jsm 0 start [] [(f, 0, 0)] h0 h1
  have e0 : Jad 0 101 = 0 := by decide
  rw [e0] at hw; rw [hw]
  obtain ⟨hh, rfl⟩ := JeH.1 hw
  have hp := Jah (c := f) (n := 3000) (by omega)
  have er : (clkF 0 start [] [(f, 0, 0)]).r = [⟨JaL 0 start [] (Jad f 3000), Jad f 3000, Jad f 3000⟩] := by
    show JcK (Jad 0 101) start [] [(f, 0, 0)] 3000 = _
    rw [e0, Jl1, if_pos (by simp only; omega)]
    have : Jad 0 51 = 0 := by decide
    simp only [Je5, this]
    rw [Int.sub_zero, Int.add_zero, show max (Jad f 3000) 0 = Jad f 3000 by omega]
  have ed : (clkF 0 start [] [(f, 0, 0)]).d = 0 := e0
  have em : ∀ u, milF 0 [] u = 1000 * u := fun u => by unfold milF sumA; rw [show min ([] : List Int).length 20 = 0 from rfl, sumB]; omega
  have hin := (Jdq 0 (JaL 0 start [] t) (winF 0 (JaL 0 start [] t) (clkF 0 start [] [(f, 0, 0)]).r).1 (clkF 0 start [] [(f, 0, 0)]).r).1 ⟨L1c _, by rw [ed] at hh; exact hh.2.2⟩
  have hin2 := (Jdq 0 (JaL 0 start [] t) (winF 0 (JaL 0 start [] t) (clkF 0 start [] [(f, 0, 0)]).r).2 (clkF 0 start [] [(f, 0, 0)]).r).1 ⟨by rw [ed] at hh; exact hh.2.2, L1c _⟩
  rw [ed] at h2 h3 ⊢
  have hs : ∀ u, JaL 0 start [] u = Jad start 1000 + u := fun u => by unfold JaL; rw [em]; omega
  have key : ∀ x, inR 0 (JaL 0 start [] t) x ⟨JaL 0 start [] (Jad f 3000), Jad f 3000, Jad f 3000⟩ -> x = t := fun x hx => by
    unfold inR at hx; simp only [hs] at hx
    have lo : ∀ n, 0 < n -> sLo 0 n = n := fun n hn => by unfold sLo; rw [if_pos hn]; omega
    have hi : ∀ n, sHi 0 n = n := fun n => by unfold sHi; omega
    split at hx
    . rw [lo _ (by omega), hi] at hx; omega
    . split at hx
      . rw [hi] at hx; omega
      . rw [lo _ (by omega), hi] at hx; omega
  have k1 := key _ (hin.2 _ (by rw [er]; simp))
  have k2 := key _ (hin2.2 _ (by rw [er]; simp))
  congr 1
  exact Prod.ext k1 k2
structure Cn where
  b : Int
  e : Int
  deriving DecidableEq
structure Lg where
  f : Int
  t : Int
  g : Cn
  k : Cn
  deriving DecidableEq
instance : Inhabited Cn := ⟨⟨0, 0⟩⟩
instance : Inhabited Lg := ⟨⟨0, 0, default, default⟩⟩
def cntF (n : Cn) : Bool := decide (0 <= n.b /\ n.b <= n.e /\ n.e <= 10000000)
theorem Jb0 {n : Cn} : cntF n = true ↔ 0 <= n.b /\ n.b <= n.e /\ n.e <= 10000000 := decide_eq_true_iff
def legF (l : Lg) : Bool := decide ((0 <= l.f /\ l.f <= 7) /\ (0 <= l.t /\ l.t <= 7) /\ l.f ≠ l.t) && (cntF l.g && cntF l.k)
theorem JbN {l : Lg} : legF l = true ↔ ((0 <= l.f /\ l.f <= 7) /\ (0 <= l.t /\ l.t <= 7) /\ l.f ≠ l.t) /\ cntF l.g = true /\ cntF l.k = true := by
  unfold legF; simp only [L00, decide_eq_true_iff]
structure Sn where
  b : Int × Int
  e : Int × Int
  deriving DecidableEq
instance : Inhabited Sn := ⟨⟨(0, 0), (0, 0)⟩⟩
def Jbx (c : Ck) (n : Cn) : Option Sn := match atF c n.b, atF c n.e with
  | some w, some v => if cntF n = true then some ⟨w, v⟩ else none
  | _, _ => none
def Jbe (w v : Int × Int) : Int × Int := (max w.1 v.1, min w.2 v.2)
def Jhw (s t : Sn) : Option Sn :=
  if (Jbe s.b t.b).1 <= (Jbe s.b t.b).2 /\ (Jbe s.e t.e).1 <= (Jbe s.e t.e).2 /\ (Jbe s.b t.b).1 <= (Jbe s.e t.e).2 then some ⟨Jbe s.b t.b, Jbe s.e t.e⟩ else none
def Jbr (a b : Ck) (l : Lg) : Option Sn := match Jbx a l.g, Jbx b l.k with
  | some s, some t => if legF l = true then Jhw s t else none
  | _, _ => none
def JaZ (s : Sn) : Int × Int := (s.b.2, max s.b.2 s.e.1)
theorem Jh7 {c : Ck} {n : Cn} {w v : Int × Int} (hw : atF c n.b = some w) (hv : atF c n.e = some v) (hn : cntF n = true) : Jbx c n = some ⟨w, v⟩ := by
  unfold Jbx; rw [hw, hv]; simp [hn]
structure Cr where
  d : Int
  s : Int
  r : List Int
  at_ : List (Int × Int × Int)
instance : Inhabited Cr := ⟨⟨0, 0, [], []⟩⟩
def Cr.show (y : Cr) (t : Int) : Int := JaL (Jad y.d 101) y.s y.r t
def Cr.clk (y : Cr) : Ck := clkF y.d y.s y.r y.at_
def Cr.cnt (y : Cr) (f t : Int) : Cn := ⟨y.show f, y.show t⟩
theorem Jxi (y : Cr) {t : Int} (h0 : 0 <= t) (h1 : t <= 4000000) : ∃ w, atF y.clk (y.show t) = some w /\ w.1 <= t /\ t <= w.2 := Jsm y.d y.s y.r y.at_ h0 h1
theorem JeM (y : Cr) {f t : Int} (h0 : 0 <= f) (h : f <= t) (h1 : t <= 4000000) : cntF (y.cnt f t) = true := by
  have hd := Jah (c := y.d) (n := 101) (by omega)
  have h2 := (Jhi (d := Jad y.d 101) (by omega) y.s y.r h0 h).1
  have h3 := JcG (d := Jad y.d 101) (by omega) y.s y.r h0
  have h4 := JcG (d := Jad y.d 101) (by omega) y.s y.r (t := t) (by omega)
  rw [Jb0]; simp only [Cr.cnt, Cr.show]; omega
theorem Joc (y : Cr) {f t : Int} (h0 : 0 <= f) (h : f <= t) (h1 : t <= 4000000) : ∃ s, Jbx y.clk (y.cnt f t) = some s /\ s.b.1 <= f /\ f <= s.b.2 /\ s.e.1 <= t /\ t <= s.e.2 := by
  obtain ⟨w, hw, a1, a2⟩ := Jxi y h0 (by omega)
  obtain ⟨v, hv, b1, b2⟩ := Jxi y (t := t) (by omega) h1
  exact ⟨⟨w, v⟩, Jh7 hw hv (JeM y h0 h h1), a1, a2, b1, b2⟩
theorem Jo8 {s t : Sn} {f u : Int} (h1 : s.b.1 <= f /\ f <= s.b.2 /\ s.e.1 <= u /\ u <= s.e.2) (h2 : t.b.1 <= f /\ f <= t.b.2 /\ t.e.1 <= u /\ u <= t.e.2) (h : f <= u) : Jhw s t = some ⟨Jbe s.b t.b, Jbe s.e t.e⟩ := by
  unfold Jhw; rw [if_pos]
  simp only [Jbe]; omega
theorem Jdn (y z : Cr) {f t : Int} (h0 : 0 <= f) (h : f <= t) (h1 : t <= 4000000) : ∃ s, Jbr y.clk z.clk ⟨3, 4, y.cnt f t, z.cnt f t⟩ = some s /\ (s.b.1 <= f /\ f <= s.b.2) /\ s.e.1 <= t /\ t <= s.e.2 := by
  obtain ⟨s, hs, a⟩ := Joc y h0 h h1
  obtain ⟨u, hu, b⟩ := Joc z h0 h h1
  have hl : legF ⟨3, 4, y.cnt f t, z.cnt f t⟩ = true := JbN.2 ⟨by simp only; omega, JeM y h0 h h1, JeM z h0 h h1⟩
  refine ⟨⟨Jbe s.b u.b, Jbe s.e u.e⟩, ?_, ?_⟩
  . unfold Jbr; simp only [hs, hu]; rw [if_pos hl, Jo8 a b h]
  . simp only [Jbe]; omega
theorem Jtq (s : Sn) : (JaZ s).1 <= (JaZ s).2 := by unfold JaZ; simp only; omega
theorem Jnp {s : Sn} {f t : Int} (h : (s.b.1 <= f /\ f <= s.b.2) /\ s.e.1 <= t /\ t <= s.e.2) : (JaZ s).1 = (JaZ s).2 \/ (f <= (JaZ s).1 /\ (JaZ s).2 <= t) := by
  unfold JaZ; simp only; omega
theorem JcM {a b : Ck} {l : Lg} {s : Sn} (h : Jbr a b l = some s) : ∃ x y, Jbx a l.g = some x /\ Jbx b l.k = some y /\ legF l = true /\ Jhw x y = some s := by
  unfold Jbr at h
  cases h1 : Jbx a l.g with
  | none => rw [h1] at h; cases h
  | some x =>
    cases h2 : Jbx b l.k with
    | none => rw [h1, h2] at h; cases h
    | some y =>
      rw [h1, h2] at h
      simp only at h
      split at h
      . exact ⟨x, y, rfl, rfl, by assumption, h⟩
      . cases h
theorem Jmk {c : Ck} {n : Cn} {s : Sn} (h : Jbx c n = some s) : ∃ w v, atF c n.b = some w /\ atF c n.e = some v /\ cntF n = true /\ s = ⟨w, v⟩ := by
  unfold Jbx at h
  cases h1 : atF c n.b with
  | none => rw [h1] at h; cases h
  | some w =>
    cases h2 : atF c n.e with
    | none => rw [h1, h2] at h; cases h
    | some v =>
      rw [h1, h2] at h
      simp only at h
      split at h
      . cases h; exact ⟨w, v, rfl, rfl, by assumption, rfl⟩
      . cases h
theorem JiF {x y s : Sn} (h : Jhw x y = some s) : s = ⟨Jbe x.b y.b, Jbe x.e y.e⟩ /\ ((Jbe x.b y.b).1 <= (Jbe x.b y.b).2 /\ (Jbe x.e y.e).1 <= (Jbe x.e y.e).2 /\ (Jbe x.b y.b).1 <= (Jbe x.e y.e).2) := by
  unfold Jhw at h
  split at h
  . cases h; exact ⟨rfl, by assumption⟩
  . cases h
theorem JmV (y : Cr) (p : Int) {f t : Int} (h0 : 0 <= f) (h : f <= t) (h1 : t <= 4000000) :
    ∃ s, Jbr (Cr.clk ⟨0, y.s, [], [(p, 0, 0)]⟩) y.clk ⟨3, 4, Cr.cnt ⟨0, y.s, [], [(p, 0, 0)]⟩ f t, y.cnt f t⟩ = some s /\ JaZ s = (f, t) := by
  obtain ⟨s, hs, h2, h3⟩ := Jdn ⟨0, y.s, [], [(p, 0, 0)]⟩ y h0 h h1
  refine ⟨s, hs, ?_⟩
  have e0 : Jad 0 101 = 0 := by decide
  have w1 := JsL y.s p h0 (by omega)
  have w2 := JsL y.s p (t := t) (by omega) h1
  have hn := JeM ⟨0, y.s, [], [(p, 0, 0)]⟩ h0 h h1
  have hsp : Jbx (Cr.clk ⟨0, y.s, [], [(p, 0, 0)]⟩) (Cr.cnt ⟨0, y.s, [], [(p, 0, 0)]⟩ f t) = some ⟨(f, f), (t, t)⟩ := by
    refine Jh7 (w := (f, f)) (v := (t, t)) ?_ ?_ hn
    . simp only [Cr.cnt, Cr.show, Cr.clk, e0]; exact w1
    . simp only [Cr.cnt, Cr.show, Cr.clk, e0]; exact w2
  obtain ⟨x, z, hx, hz, _, hm⟩ := JcM hs
  simp only at hx
  rw [hsp] at hx
  cases hx
  obtain ⟨rfl, _⟩ := JiF hm
  unfold JaZ Jbe at *
  simp only at *
  exact Prod.ext (by simp only; omega) (by simp only; omega)
theorem Jm5 {a m : Ck} {l : Lg} {s : Sn} (hd : m.d = a.d) (hs : Jbr a a l = some s) {t : Sn} (ht : Jbr a m l = some t) (h : ∀ r ∈ a.r, r ∈ m.r) (hgk : l.g = l.k) : (JaZ s).1 = (JaZ s).2 \/ ((JaZ t).1 <= (JaZ s).1 /\ (JaZ s).2 <= (JaZ t).2) := by
  have key : ∀ u w v, atF a u = some w -> atF m u = some v -> w.1 <= v.1 /\ v.2 <= w.2 := fun u w v hw hv => by
    obtain ⟨_, rfl⟩ := JeH.1 hw
    obtain ⟨h2, rfl⟩ := JeH.1 hv
    rw [hd] at h2 ⊢
    exact Jr2 h h2.2.2
  obtain ⟨x, x', hx, hx', _, hm⟩ := JcM hs
  obtain ⟨y, y', hy, hy', _, hn⟩ := JcM ht
  rw [<- hgk] at hx' hy'; rw [hx] at hx' hy
  cases hx'
  cases hy
  obtain ⟨w, v, a1, a2, _, rfl⟩ := Jmk hx
  obtain ⟨w', v', a3, a4, _, rfl⟩ := Jmk hy'
  have k1 := key _ _ _ a1 a3; have k2 := key _ _ _ a2 a4
  obtain ⟨rfl, _⟩ := JiF hm
  obtain ⟨rfl, _⟩ := JiF hn
  unfold JaZ Jbe at *
  simp only at *
  omega
def Jaw (n : Nat) : Nat := 2 ^ Nat.log2 (n - 1)
theorem Jbv (n : Nat) : 0 < Jaw n := Nat.pos_of_ne_zero (by unfold Jaw; exact Nat.ne_of_gt (L1x (by omega)))
theorem Jb1 {n : Nat} (h : 2 <= n) : Jaw n < n := by
  have := Nat.log2_self_le (n := n - 1) (by omega)
  unfold Jaw; omega
theorem JlV {n a : Nat} (h1 : 2 ^ a < n) (h2 : n <= 2 * 2 ^ a) : Jaw n = 2 ^ a := by
  unfold Jaw
  have hp : 0 < 2 ^ a := L1x (by omega)
  have e : Nat.log2 (n - 1) = a := (Nat.log2_eq_iff (by omega)).2 ⟨by omega, by rw [L1J]; omega⟩
  rw [e]
section
variable {T : Type} [Inhabited T] (leaf : T -> T) (node : T -> T -> T) (emp : T)
def JbP : List T -> T
  | [] => emp
  | [s] => leaf s
  | a :: b :: l => node (JbP ((a :: b :: l).take (Jaw (l.length + 2)))) (JbP ((a :: b :: l).drop (Jaw (l.length + 2))))
termination_by l => l.length
decreasing_by
  . have := Jb1 (n := l.length + 2) (by omega)
    simp only [L02, L0f]; omega
  . have := Jbv (l.length + 2)
    simp only [L0e, L0f]; omega
theorem Jhc {l : List T} (h : 2 <= l.length) : JbP leaf node emp l = node (JbP leaf node emp (l.take (Jaw l.length))) (JbP leaf node emp (l.drop (Jaw l.length))) := by
  match l, h with
  | a :: b :: l, _ => rw [JbP]; rfl
theorem JdI (s : T) : JbP leaf node emp [s] = leaf s := by rw [JbP]
theorem Je7 : JbP leaf node emp [] = emp := by rw [JbP]
def JcE : List T -> Nat -> List T
  | [], _ => []
  | [_], _ => []
  | a :: b :: l, i =>
    if i < Jaw (l.length + 2) then JbP leaf node emp ((a :: b :: l).drop (Jaw (l.length + 2))) :: JcE ((a :: b :: l).take (Jaw (l.length + 2))) i
    else JbP leaf node emp ((a :: b :: l).take (Jaw (l.length + 2))) :: JcE ((a :: b :: l).drop (Jaw (l.length + 2))) (i - Jaw (l.length + 2))
termination_by l => l.length
decreasing_by
  . have := Jb1 (n := l.length + 2) (by omega)
    simp only [L02, L0f]; omega
  . have := Jbv (l.length + 2)
    simp only [L0e, L0f]; omega
theorem JfD {l : List T} (h : 2 <= l.length) (i : Nat) : JcE leaf node emp l i =
    if i < Jaw l.length then JbP leaf node emp (l.drop (Jaw l.length)) :: JcE leaf node emp (l.take (Jaw l.length)) i
    else JbP leaf node emp (l.take (Jaw l.length)) :: JcE leaf node emp (l.drop (Jaw l.length)) (i - Jaw l.length) := by
  match l, h with
  | a :: b :: l, _ => rw [JcE]; rfl
theorem Jbq {l : List T} (h : l.length <= 1) (i : Nat) : JcE leaf node emp l i = [] := by
  match l, h with
  | [], _ => rw [JcE]
  | [_], _ => rw [JcE]
def valF (s : T) (n i : Nat) : List T -> Option T
  | [] => if n <= 1 then some (leaf s) else none
  | x :: p => if n <= 1 then none else if i < Jaw n then (valF s (Jaw n) i p).map (node · x) else (valF s (n - Jaw n) (i - Jaw n) p).map (node x ·)
theorem Jhm : ∀ (n : Nat) (l : List T) (i : Nat), l.length <= n -> i < l.length -> valF leaf node (gd l i) l.length i (JcE leaf node emp l i) = some (JbP leaf node emp l)
  | 0, l, i, hn, hi => absurd hi (by omega)
  | n + 1, l, i, hn, hi => by
    by_cases h : 2 <= l.length
    . have h1 := Jb1 h; have h2 := Jbv l.length; rw [JfD leaf node emp h, Jhc leaf node emp h]
      split
      . rename_i hk
        rw [valF, if_neg (by omega), if_pos hk]
        have ih := Jhm n (l.take (Jaw l.length)) i (by rw [L02]; omega) (by rw [L02]; omega)
        rw [JoA _ _ _ hk, L02, L0N (by omega)] at ih
        rw [ih]; rfl
      . rename_i hk
        rw [valF, if_neg (by omega), if_neg hk]
        have ih := Jhm n (l.drop (Jaw l.length)) (i - Jaw l.length) (by rw [L0e]; omega) (by rw [L0e]; omega)
        rw [JtO, L0e, show Jaw l.length + (i - Jaw l.length) = i by omega] at ih
        rw [ih]; rfl
    . match l, hi, h with
      | [s], hi, _ =>
        have : i = 0 := by simpa using hi
        subst this
        rw [Jbq leaf node emp (by simp), JdI, valF, if_pos (by simp)]; rfl
      | _ :: _ :: _, _, h => exact absurd (by simp) h
theorem JfC {P : T -> Prop} (h0 : P emp) (h1 : ∀ s, P (leaf s)) (h2 : ∀ a b, P (node a b)) : ∀ (n : Nat) (l : List T) (i : Nat), l.length <= n -> ∀ x ∈ JcE leaf node emp l i, P x
  | 0, l, i, hn, x, hx => by rw [Jbq leaf node emp (by omega)] at hx; cases hx
  | n + 1, l, i, hn, x, hx => by
    have hr : ∀ l : List T, P (JbP leaf node emp l) := fun l => by
      match l with
      | [] => rw [Je7]; exact h0
      | [s] => rw [JdI]; exact h1 s
      | a :: b :: l => rw [JbP]; exact h2 _ _
    by_cases h : 2 <= l.length
    . have e1 := Jb1 h; have e2 := Jbv l.length; rw [JfD leaf node emp h] at hx
      split at hx
      . rcases L0h.1 hx with rfl | hx
        . exact hr _
        . exact JfC h0 h1 h2 n _ i (by rw [L02]; omega) x hx
      . rcases L0h.1 hx with rfl | hx
        . exact hr _
        . exact JfC h0 h1 h2 n _ _ (by rw [L0e]; omega) x hx
    . rw [Jbq leaf node emp (by omega)] at hx; cases hx
theorem JpH {P : T -> Prop} (h0 : P emp) (h1 : ∀ s, P (leaf s)) (h2 : ∀ a b, P (node a b)) (l : List T) : P (JbP leaf node emp l) := by
  match l with
  | [] => rw [Je7]; exact h0
  | [s] => rw [JdI]; exact h1 s
  | a :: b :: l => rw [JbP]; exact h2 _ _
def Pow (l : List T) : Prop := ∃ a, l.length = 2 ^ a
def Desc : List (List T) -> Prop
  | [] => True
  | x :: g => Pow x /\ (∀ y ∈ g, y.length < x.length) /\ Desc g
theorem JlA : ∀ {g : List (List T)} {a : Nat}, Desc g -> (∀ y ∈ g, y.length < 2 ^ a) -> g.flatten.length < 2 ^ a
  | [], a, _, _ => by simp; exact L1x (by omega)
  | x :: g, a, ⟨⟨b, hb⟩, hlt, hd⟩, h => by
    have hx := h x (by simp)
    rw [hb] at hx
    have hba : b < a := (Nat.pow_lt_pow_iff_right (by omega)).1 hx
    have h1 := JlA hd (a := b) (fun y hy => by rw [<- hb]; exact hlt y hy)
    have h2 : 2 ^ (b + 1) <= 2 ^ a := L2n (by omega) hba
    rw [L1J] at h2
    rw [L1H, L08, hb]; omega
theorem Jj0 {x y : List T} {a : Nat} (hx : x.length = 2 ^ a) (h0 : 0 < y.length) (hy : y.length <= 2 ^ a) : JbP leaf node emp (x ++ y) = node (JbP leaf node emp x) (JbP leaf node emp y) := by
  have hp : 0 < 2 ^ a := L1x (by omega)
  have hl : Jaw (x ++ y).length = 2 ^ a := JlV (by rw [L08]; omega) (by rw [L08]; omega)
  rw [Jhc leaf node emp (by rw [L08]; omega), hl, <- hx, List.take_left', List.drop_left']
  . rfl
  . rfl
theorem JiN {x : List T} (h : Pow x) : 0 < x.length := by obtain ⟨a, h⟩ := h; rw [h]; exact L1x (by omega)
theorem JjZ : ∀ {g : List (List T)} {x : List T}, Desc (g ++ [x]) -> JbP leaf node emp (g ++ [x]).flatten = (g.map (JbP leaf node emp)).foldr node (JbP leaf node emp x)
  | [], x, _ => by simp
  | y :: g, x, h => by
    have h : Desc (y :: (g ++ [x])) := h
    obtain ⟨⟨a, ha⟩, hlt, hd⟩ := h
    have hlen := JlA hd (a := a) (fun z hz => by rw [<- ha]; exact hlt z hz)
    have hx : Pow x := by
      have : ∀ g : List (List T), Desc (g ++ [x]) -> Pow x := fun g => by
        induction g with
        | nil => exact fun h => h.1
        | cons z g ih => exact fun h => ih h.2.2
      exact this g hd
    have h0 : 0 < (g ++ [x]).flatten.length := by
      have := JiN hx
      simp only [List.flatten_append, L08, L1H, List.flatten_nil, L0F]; omega
    rw [L0w, L1H, Jj0 leaf node emp ha h0 (by omega), JjZ hd, L0n, List.foldr_cons]
theorem Jof {g : List (List T)} {x y : List T} (h : Desc (g ++ [x])) (hy : Pow y) (hlt : y.length < x.length) : Desc (g ++ [x] ++ [y]) := by
  induction g with
  | nil =>
    refine ⟨h.1, fun z hz => ?_, hy, (fun _ hz => by cases hz), trivial⟩
    have hz : z ∈ [y] := hz
    rw [L0p.1 hz]; exact hlt
  | cons z g ih =>
    have h : Desc (z :: (g ++ [x])) := h
    show Desc (z :: ((g ++ [x]) ++ [y]))
    obtain ⟨h1, h2, h3⟩ := h
    refine ⟨h1, fun w hw => ?_, ih h3⟩
    rcases L0v.1 hw with hw | hw
    . exact h2 w hw
    . obtain rfl := L0p.1 hw
      have := h2 x (by simp)
      omega
structure Piled (g : List (List T)) (x : List T) : Prop where
  d : Desc g
  p : Pow x
  le : ∀ y ∈ g, x.length <= y.length
theorem Jfl : ∀ {g : List (List T)} {y : List T}, Desc (g ++ [y]) -> Desc g /\ Pow y /\ ∀ z ∈ g, y.length < z.length
  | [], y, h => ⟨trivial, h.1, fun _ hz => by cases hz⟩
  | z :: g, y, h => by
    have h : Desc (z :: (g ++ [y])) := h
    obtain ⟨h1, h2, h3⟩ := h
    obtain ⟨a, b, c⟩ := Jfl h3
    refine ⟨⟨h1, fun w hw => h2 w (List.mem_append_left _ hw), a⟩, b, fun w hw => ?_⟩
    rcases L0h.1 hw with rfl | hw
    . exact h2 y (by simp)
    . exact c w hw
theorem Jnb {g : List (List T)} {y x : List T} (h : Piled (g ++ [y]) x) (hne : y.length ≠ x.length) : Desc (g ++ [y] ++ [x]) :=
  Jof h.d h.p (by have := h.le y (by simp); omega)
theorem Jpq {x : List T} (h : Piled [] x) : Desc [x] := ⟨h.p, (fun _ hz => by cases hz), trivial⟩
theorem Jim : ∀ {g : List (List T)}, Desc g -> ∀ z ∈ g, Pow z
  | [], _, _, hz => by cases hz
  | w :: g, hd, z, hz => by
    rcases L0h.1 hz with rfl | hz
    . exact hd.1
    . exact Jim hd.2.2 z hz
theorem Jnc {g : List (List T)} {y x : List T} (h : Piled (g ++ [y]) x) (he : y.length = x.length) : Piled g (y ++ x) := by
  obtain ⟨h1, ⟨a, h2⟩, h3⟩ := Jfl h.d
  refine ⟨h1, ⟨a + 1, by rw [L08, <- he, h2, L1J]; omega⟩, fun z hz => ?_⟩
  have h4 := h3 z hz
  have hzp : Pow z := Jim h1 z hz
  obtain ⟨b, hb⟩ := hzp; rw [h2, hb] at h4
  have hab : a < b := (Nat.pow_lt_pow_iff_right (by omega)).1 h4
  have h5 : 2 ^ (a + 1) <= 2 ^ b := L2n (by omega) hab
  rw [L1J] at h5
  rw [L08, <- he, h2, hb]; omega
theorem Jpp {g : List (List T)} (h : Desc g) (s : T) : Piled g [s] := ⟨h, ⟨0, rfl⟩, fun y hy => JiN (Jim h y hy)⟩
theorem JpI {y x : List T} (hp : Pow y) (he : y.length = x.length) : JbP leaf node emp (y ++ x) = node (JbP leaf node emp y) (JbP leaf node emp x) := by
  obtain ⟨a, ha⟩ := hp
  have h0 : 0 < 2 ^ a := L1x (by omega)
  exact Jj0 leaf node emp ha (by omega) (by omega)
end
set_option maxRecDepth 100000
open Go.Vai Go Go.Proofs
def JaW (a : ByteArray) : ByteArray := shaF (⟨#[0]⟩ ++ a)
def Ja3 (a b : ByteArray) : ByteArray := shaF (⟨#[1]⟩ ++ (a ++ b))
def empF : ByteArray := shaF ⟨#[]⟩
theorem JcV (a : ByteArray) : (JaW a).size = 32 := Jfb _
theorem JdZ (a b : ByteArray) : (Ja3 a b).size = 32 := Jfb _
theorem JgY (a b : ByteArray) (hl : a.size + b.size <= 99999999) : Ev prog 160 [Str a, Str b] (Str (Ja3 a b)) := Juj a b hl
theorem JkQ (a : ByteArray) (hl : a.size <= 99999999) : Ev prog 159 [Str a] (Str (JaW a)) := Jt7 a hl
theorem Jl2 (a b : ByteArray) (hl : a.size + b.size <= 99999999) : Ev prog 183 [Str a, Str b] (Str (Ja3 a b)) := Jrl a b hl
theorem JlU (a : ByteArray) (hl : a.size <= 99999999) : Ev prog 184 [Str a] (Str (JaW a)) := Jq6 a hl
instance : Inhabited ByteArray := ⟨⟨#[]⟩⟩
structure Hd where
  c : Int
  n : Int
  r : ByteArray
  s : ByteArray
  deriving DecidableEq
instance : Inhabited Hd := ⟨⟨0, 0, default, default⟩⟩
structure It where
  i : Int
  e : ByteArray
  p : List ByteArray
  deriving DecidableEq
instance : Inhabited It := ⟨⟨0, default, []⟩⟩
structure Pt where
  h : Hd
  l : List It
  deriving DecidableEq
instance : Inhabited Pt := ⟨⟨default, []⟩⟩
structure Rg where
  c : Int
  l : List ByteArray
instance : Inhabited Rg := ⟨⟨0, []⟩⟩
def Jeo (h : Hd) : ByteArray := viS 4 ++ viS h.c ++ viS h.n ++ h.r
def Jed (key : ByteArray) (h : Hd) : ByteArray := Ja3 key (JaW (Jeo h))
def Jar (l : List ByteArray) : ByteArray := JbP JaW Ja3 empF l
theorem Jcf (l : List ByteArray) : (Jar l).size = 32 := JpH JaW Ja3 empF (P := fun s => s.size = 32) (Jfb _) JcV JdZ l
def regB (r : Rg) : Bool := decide (0 <= r.c /\ r.c <= 7) && (decide (r.l.length <= 60) && r.l.all fun s => decide (s.size <= 1000))
theorem Jb2 {r : Rg} : regB r = true ↔ (0 <= r.c /\ r.c <= 7) /\ r.l.length <= 60 /\ ∀ s ∈ r.l, s.size <= 1000 := by
  unfold regB; simp only [L00, decide_eq_true_iff, L0b]
def genB (key : ByteArray) (h : Hd) : Bool := decide (key.size = 32 /\ (0 <= h.c /\ h.c <= 7) /\ (0 <= h.n /\ h.n <= 60) /\ h.r.size = 32 /\ h.s = Jed key h)
theorem JlJ {key : ByteArray} {h : Hd} : genB key h = true ↔ key.size = 32 /\ (0 <= h.c /\ h.c <= 7) /\ (0 <= h.n /\ h.n <= 60) /\ h.r.size = 32 /\ h.s = Jed key h := decide_eq_true_iff
def digB (p : List ByteArray) : Bool := p.all fun s => decide (s.size = 32)
def verB (root : ByteArray) (n i : Int) (s : ByteArray) (p : List ByteArray) : Bool :=
  decide (0 <= i /\ i < n) && (digB p && decide (valF JaW Ja3 s n.toNat i.toNat p.reverse = some root))
def itB (h : Hd) (prev : Option Int) (x : It) : Bool := decide (∀ q, prev = some q -> q < x.i) && (decide (x.e.size <= 1000) && verB h.r h.n x.i x.e x.p)
def itsB (h : Hd) : Option Int -> List It -> Bool
  | _, [] => true
  | prev, x :: l => itB h prev x && itsB h (some x.i) l
def Jb4 (key : ByteArray) (p : Pt) : Bool := genB key p.h && itsB p.h none p.l
def Jer (key : ByteArray) (r : Rg) (n : Nat) : Hd := ⟨r.c, n, Jar (r.l.take n), Jed key ⟨r.c, n, Jar (r.l.take n), default⟩⟩
def Ja7 (r : Rg) (n i : Nat) : It := ⟨i, gd r.l i, (JcE JaW Ja3 empF (r.l.take n) i).reverse⟩
def ascN (n : Nat) : Option Int -> List Int -> Bool
  | _, [] => true
  | prev, i :: l => decide ((0 <= i /\ i < n) /\ ∀ q, prev = some q -> q < i) && ascN n (some i) l
def Jc1 (key : ByteArray) (r : Rg) (n : Int) (l : List Int) : Option Pt :=
  if key.size = 32 /\ regB r = true /\ (0 <= n /\ n <= r.l.length) /\ ascN n.toNat none l = true then some ⟨Jer key r n.toNat, l.map fun i => Ja7 r n.toNat i.toNat⟩ else none
theorem Jpw (r : Rg) (n i : Nat) : digB (Ja7 r n i).p = true := by
  unfold digB Ja7; rw [L0b]
  intro x hx
  rw [List.mem_reverse] at hx
  exact decide_eq_true (JfC JaW Ja3 empF (P := fun s => s.size = 32) (Jfb _) JcV JdZ _ _ i (L0a _) x hx)
theorem Jq5 {r : Rg} {n i : Nat} (hn : n <= r.l.length) (hi : i < n) : verB (Jar (r.l.take n)) n i (gd r.l i) (Ja7 r n i).p = true := by
  have hl : (r.l.take n).length = n := by rw [L02]; omega
  have h := Jhm JaW Ja3 empF n (r.l.take n) i (by omega) (by omega)
  rw [hl, JoA _ _ _ hi] at h; unfold verB; rw [Jpw, L0k, L00, decide_eq_true_iff, decide_eq_true_iff]
  refine ⟨by omega, ?_⟩
  show valF JaW Ja3 (gd r.l i) ((n : Int)).toNat ((i : Int)).toNat ((JcE JaW Ja3 empF (r.l.take n) i).reverse).reverse = _
  rw [List.reverse_reverse, L18, L18]; exact h
theorem Jbn {key : ByteArray} {r : Rg} {n : Int} {l : List Int} {p : Pt} (h : Jc1 key r n l = some p) : Jb4 key p = true /\ p.h = Jer key r n.toNat /\ p.l = l.map fun i => Ja7 r n.toNat i.toNat := by
  unfold Jc1 at h
  split at h
  . rename_i hc
    cases h
    obtain ⟨hk, hr, hn, ha⟩ := hc; have hr := Jb2.1 hr
    refine ⟨?_, rfl, rfl⟩
    unfold Jb4; rw [L00, JlJ]
    refine ⟨⟨hk, hr.1, ?_, Jcf _, rfl⟩, ?_⟩
    . simp only [Jer]; omega
    . simp only
      generalize hno : (none : Option Int) = o at ha; clear hno
      induction l generalizing o with
      | nil => rfl
      | cons i l ih =>
        rw [ascN, L00, decide_eq_true_iff] at ha
        obtain ⟨⟨h1, h2⟩, h3⟩ := ha
        rw [L0n, itsB, L00]
        have hi : (((i.toNat : Nat) : Int)) = i := by omega
        refine ⟨?_, ?_⟩
        . unfold itB; rw [L00, L00, decide_eq_true_iff, decide_eq_true_iff]
          refine ⟨fun q hq => ?_, ?_, ?_⟩
          . show q < ((i.toNat : Nat) : Int)
            rw [hi]; exact h2 q hq
          . exact hr.2.2 _ (Jas _ _ (by omega))
          . exact Jq5 (by omega) (by omega)
        . show itsB _ (some ((i.toNat : Nat) : Int)) _ = true
          rw [hi]; exact ih _ h3
  . cases h
theorem Jjc (n k : Nat) (hk : k <= n) : ∀ (m a : Nat), a + m = k -> ∀ o : Option Int, (∀ q, o = some q -> q < a) -> ascN n o ((List.range' a m).map fun i : Nat => (i : Int)) = true
  | 0, a, h, o, ho => rfl
  | m + 1, a, h, o, ho => by
    rw [L1P, L0n, ascN, L00, decide_eq_true_iff]
    refine ⟨⟨by omega, ho⟩, Jjc n k hk m (a + 1) (by omega) _ fun q hq => ?_⟩
    cases hq; omega
def preN : Nat -> List It -> List ByteArray
  | _, [] => []
  | v, x :: l => if x.i = v then x.e :: preN (v + 1) l else []
def preF (p : Pt) : List ByteArray := preN 0 p.l
def fstF (u v : ByteArray) : List ByteArray -> Int
  | [] => 0
  | e :: l => if e = u then 1 else if e = v then 2 else fstF u v l
def JaC (l : List ByteArray) (u v : ByteArray) : Int := if u = v then 0 else fstF u v l
def evF (key : ByteArray) (p : Pt) : List ByteArray := if Jb4 key p = true then preF p else []
theorem Jov (u v : ByteArray) : ∀ l, fstF u v l = 0 \/ fstF u v l = 1 \/ fstF u v l = 2
  | [] => .inl rfl
  | e :: l => by
    rw [fstF]
    split
    . exact .inr (.inl rfl)
    . split
      . exact .inr (.inr rfl)
      . exact Jov u v l
theorem Jjv {u v : ByteArray} (h : u ≠ v) : ∀ l, fstF v u l = (3 - fstF u v l) % 3
  | [] => rfl
  | e :: l => by
    rw [fstF, fstF]
    by_cases h1 : e = u
    . subst h1; rw [if_neg h, if_pos rfl, if_pos rfl]; rfl
    . by_cases h2 : e = v
      . rw [if_pos h2, if_neg h1, if_pos h2]; rfl
      . rw [if_neg h2, if_neg h1, if_neg h1, if_neg h2]; exact Jjv h l
theorem JkG (l : List ByteArray) (u v : ByteArray) : JaC l v u = (3 - JaC l u v) % 3 := by
  unfold JaC
  by_cases h : u = v
  . subst h; simp
  . rw [if_neg h, if_neg (fun e => h e.symm)]; exact Jjv h l
theorem Jjp (l : List ByteArray) (u v : ByteArray) : 0 <= JaC l u v /\ JaC l u v <= 2 := by
  unfold JaC
  split
  . omega
  . rcases Jov u v l with h | h | h <;> omega
instance : Inhabited Tf := ⟨⟨[], 0⟩⟩
def recN (l : Lg) (e : Int) (n : Cn) : ByteArray := viS 8 ++ viS l.f ++ viS l.t ++ viS e ++ viS n.b ++ viS n.e
def recF (l : Lg) (e : Int) : ByteArray := recN l e (if e = 1 then l.g else l.k)
def Jci (ev : List ByteArray) (a b : Ck) (l : Lg) : (Int × Int) × Int := match Jbr a b l with
  | some s => (JaZ s, 0)
  | none =>
    if JaC ev (recF l 1) (recF l 2) = 1 then (match Jbx a l.g with | some s => (JaZ s, 1) | none => ((0, 0), 0))
    else if JaC ev (recF l 1) (recF l 2) = 2 then (match Jbx b l.k with | some s => (JaZ s, 2) | none => ((0, 0), 0))
    else ((0, 0), 0)
structure Tp where
  hops : List (Int × Int)
  legs : List Lg
  cks : List Ck
  tfs : List Tf
  offs : List Int
  key : ByteArray
  part : Pt
  call : ByteArray
  ups : List ByteArray
def JgK (u : Nat) : Int × Int -> List (Int × Int) -> Bool
  | _, [] => true
  | last, h :: l => decide ((0 <= h.1 /\ h.1 <= 7) /\ h.1 ≠ last.1 /\ (last.2 <= h.2 /\ h.2 <= 29) /\ h.2 < u) && JgK u h l
def Jfv (hs : List (Int × Int)) : Nat -> List Lg -> Bool
  | _, [] => true
  | i, l :: ls => (legF l && decide (l.f = (gd hs i).1 /\ l.t = (gd hs (i + 1)).1)) && Jfv hs (i + 1) ls
def Jc5 (t : Tp) : Bool :=
  Jb4 t.key t.part && (decide ((1 <= t.hops.length /\ t.hops.length <= 12) /\ t.legs.length = t.hops.length - 1 /\ t.cks.length = 8 /\ t.tfs.length = 8 /\ t.offs.length = 8 /\ t.ups.length <= 30) &&
    (t.cks.all Jb5 && (t.tfs.all JbG && (t.offs.all Jdr && (JgK t.ups.length (-1, 0) t.hops && Jfv t.hops 0 t.legs)))))
def payF (t : Tp) (i : Nat) : Int :=
  if i = 0 then (gd t.hops 0).1
  else if (gd t.hops (i - 1)).2 + 1 < t.ups.length /\ JaC (evF t.key t.part) (gd t.ups ((gd t.hops (i - 1)).2 + 1).toNat) t.call = 1 then (gd t.hops (i - 1)).1
  else (gd t.hops i).1
def Jdf (t : Tp) (l : Lg) : (Int × Int) × Int := Jci (evF t.key t.part) (gd t.cks l.f.toNat) (gd t.cks l.t.toNat) l
structure Bl where
  p : Int
  q : Int
  f : Int
  t : Int
  a : Int
  deriving DecidableEq
instance : Inhabited Bl := ⟨⟨0, 0, 0, 0, 0⟩⟩
def JqB (t : Tp) (i : Nat) : Bl :=
  let l := gd t.legs i
  let s := (Jdf t l).1
  ⟨payF t i, l.t, s.1, s.2, amtF (gd t.tfs l.t.toNat) (gd t.offs l.t.toNat) s.1 s.2⟩
def Jbs (t : Tp) : List Bl := (List.range t.legs.length).map (JqB t)
theorem Jbk (t : Tp) : (Jbs t).length = t.legs.length := by simp [Jbs]
theorem Jcj (t : Tp) {i : Nat} (h : i < t.legs.length) : gd (Jbs t) i = JqB t i := by simp [Jbs, gd, h]
theorem JoI : ∀ (u : Nat) (l : List (Int × Int)) (last : Int × Int), JgK u last l = true -> ∀ i, i < l.length -> (0 <= (gd l i).1 /\ (gd l i).1 <= 7) /\ (last.2 <= (gd l i).2 /\ (gd l i).2 <= 29) /\ (gd l i).2 < u
  | _, [], _, _, i, hi => by simp at hi
  | u, h :: l, last, hh, i, hi => by
    rw [JgK, L00, decide_eq_true_iff] at hh
    obtain ⟨⟨h1, h2, h3, h4⟩, h5⟩ := hh
    cases i with
    | zero => rw [JaD]; exact ⟨h1, h3, h4⟩
    | succ i =>
      rw [Jaz]
      obtain ⟨a, b, c⟩ := JoI u l h h5 i (by simpa using hi)
      exact ⟨a, by omega, c⟩
theorem Jo0 : ∀ (hs : List (Int × Int)) (l : List Lg) (v : Nat), Jfv hs v l = true -> ∀ i, i < l.length -> legF (gd l i) = true /\ (gd l i).f = (gd hs (v + i)).1 /\ (gd l i).t = (gd hs (v + i + 1)).1
  | _, [], _, _, i, hi => by simp at hi
  | hs, x :: l, v, hh, i, hi => by
    rw [Jfv, L00, L00, decide_eq_true_iff] at hh
    obtain ⟨⟨h1, h2⟩, h3⟩ := hh
    cases i with
    | zero => rw [JaD]; exact ⟨h1, h2⟩
    | succ i =>
      rw [Jaz, show v + (i + 1) = v + 1 + i by omega]
      exact Jo0 hs l (v + 1) h3 i (by simpa using hi)
theorem Jjd {c : Ck} {t : Int} {w : Int × Int} (h : atF c t = some w) : 0 <= w.1 /\ w.1 <= w.2 /\ w.2 <= 10000000 := by
  obtain ⟨h1, rfl⟩ := JeH.1 h
  have := Jr1 c.d t c.r
  omega
def Sn.ok (s : Sn) : Prop := (0 <= s.b.1 /\ s.b.1 <= s.b.2 /\ s.b.2 <= 10000000) /\ 0 <= s.e.1 /\ s.e.1 <= s.e.2 /\ s.e.2 <= 10000000
theorem JiU {c : Ck} {n : Cn} {s : Sn} (h : Jbx c n = some s) : s.ok := by
  unfold Jbx at h
  split at h
  . rename_i w v h1 h2
    split at h
    . cases h; exact ⟨Jjd h1, Jjd h2⟩
    . cases h
  . cases h
theorem Jqq {a b : Ck} {l : Lg} {s : Sn} (h : Jbr a b l = some s) : s.ok := by
  unfold Jbr at h
  split at h
  . rename_i x y h1 h2; have h3 := JiU h1; have h4 := JiU h2
    split at h
    . unfold Jhw at h
      split at h
      . cases h
        unfold Sn.ok Jbe at *
        simp only at *
        omega
      . cases h
    . cases h
  . cases h
theorem Jkv {s : Sn} (h : s.ok) : 0 <= (JaZ s).1 /\ (JaZ s).1 <= (JaZ s).2 /\ (JaZ s).2 <= 10000000 := by
  unfold Sn.ok at h; unfold JaZ
  simp only
  omega
theorem JnS (ev : List ByteArray) (a b : Ck) (l : Lg) : Jfc (Jci ev a b l).1.1 (Jci ev a b l).1.2 = true /\ ((Jci ev a b l).2 = 0 \/ (Jci ev a b l).2 = 1 \/ (Jci ev a b l).2 = 2) := by
  rw [Jc2]; unfold Jci
  split
  . rename_i s hs
    exact ⟨Jkv (Jqq hs), .inl rfl⟩
  . split
    . split
      . rename_i s hs
        exact ⟨Jkv (JiU hs), .inr (.inl rfl)⟩
      . exact ⟨by simp only; omega, .inl rfl⟩
    . split
      . split
        . rename_i s hs
          exact ⟨Jkv (JiU hs), .inr (.inr rfl)⟩
        . exact ⟨by simp only; omega, .inl rfl⟩
      . exact ⟨by simp only; omega, .inl rfl⟩
structure Q4 where
  a : Int
  b : Int
  c : Int
  d : Int
instance : Inhabited Q4 := ⟨⟨0, 0, 0, 0⟩⟩
structure Nm where
  hops : List (Int × Int)
  legs : List (Int × Int × Int)
  crs : List Cr
  bases : List Int
  rates : List Q4
  offs : List Int
  wit : List Int
def numF (l : List Int) (i : Nat) : Int := if l = [] then 0 else gd l (i % l.length)
def crsF (x : Nm) (c : Nat) : Cr := if x.crs = [] then ⟨0, 0, [], []⟩ else gd x.crs (c % x.crs.length)
def JfE (q : Q4) : Rt := ⟨1 + Jad q.a 127, 1800 * Jad q.b 48, 1800 * Jad q.b 48 + 1 + Jad q.c (86400 - 1800 * Jad q.b 48), Jad q.d 2000⟩
def tfQ (base : Int) (x : List Q4) : Tf := ⟨(x.take 4).map JfE, Jad base 2000⟩
theorem Jmn (base : Int) (x : List Q4) : JbG (tfQ base x) = true := by
  have h1 := Jah (c := base) (n := 2000) (by omega)
  refine Jb6.2 ⟨⟨h1.1, by simp only [tfQ]; omega, by simp only [tfQ, L05, L02]; omega⟩, fun r hr => ?_⟩
  obtain ⟨q, _, rfl⟩ := L06.1 hr
  have h2 := Jah (c := q.a) (n := 127) (by omega)
  have h3 := Jah (c := q.b) (n := 48) (by omega)
  have h4 := Jah (c := q.c) (n := 86400 - 1800 * Jad q.b 48) (by omega)
  have h5 := Jah (c := q.d) (n := 2000) (by omega)
  refine Jcm.2 ?_
  simp only [JfE]
  omega
def offF (x : Nm) (c : Nat) : Int := Jad (numF x.offs c) 100801 - 50400
theorem Jup (x : Nm) (c : Nat) : Jdr (offF x c) = true := by
  have h1 := Jah (c := numF x.offs c) (n := 100801) (by omega)
  rw [Jfi]; unfold offF; omega
def hopF (q last : Int × Int) (i : Nat) : Int × Int := (if i = 0 then Jad q.1 8 else (last.1 + 1 + Jad q.1 7).tmod 8, min (last.2 + Jad q.2 4) 20)
def hopN (x : List (Int × Int)) : Nat -> List (Int × Int)
  | 0 => []
  | i + 1 => hopN x i ++ [hopF (gd x i) (gd (hopN x i) (i - 1)) i]
def Jat (x : List (Int × Int)) : List (Int × Int) := if x = [] then [(0, 0)] else hopN x (min x.length 6)
theorem JaV (x : List (Int × Int)) : ∀ i, (hopN x i).length = i
  | 0 => rfl
  | i + 1 => by rw [hopN, L08, JaV x i]; rfl
theorem JgJ (x : List (Int × Int)) : ∀ i, ∀ h ∈ hopN x i, (0 <= h.1 /\ h.1 <= 7) /\ 0 <= h.2 /\ h.2 <= 20
  | 0, h, hh => by cases hh
  | i + 1, h, hh => by
    rw [hopN] at hh
    rcases L0v.1 hh with hh | hh
    . exact JgJ x i h hh
    . obtain rfl := L0p.1 hh
      have h1 := Jah (c := (gd x i).1) (n := 8) (by omega)
      have h2 := Jah (c := (gd x i).1) (n := 7) (by omega)
      have h3 := Jah (c := (gd x i).2) (n := 4) (by omega)
      have hl : (0 <= (gd (hopN x i) (i - 1)).1 /\ (gd (hopN x i) (i - 1)).1 <= 7) /\ 0 <= (gd (hopN x i) (i - 1)).2 /\ (gd (hopN x i) (i - 1)).2 <= 20 := by
        by_cases h0 : i = 0
        . subst h0; rw [hopN, JsB]; decide
        . exact JgJ x i _ (Jas _ _ (by rw [JaV]; omega))
      unfold hopF
      refine ⟨?_, by simp only; omega⟩
      simp only
      split
      . omega
      . rw [L12 (by omega)]; omega
theorem Jiv (x : List (Int × Int)) : ∀ i v, v < i -> gd (hopN x i) v = hopF (gd x v) (gd (hopN x v) (v - 1)) v
  | 0, v, h => absurd h (by omega)
  | i + 1, v, h => by
    rw [hopN]
    by_cases hv : v < i
    . rw [Jei _ _ _ (by rw [JaV]; exact hv), Jiv x i v hv]
    . obtain rfl : v = i := by omega
      rw [Ja0 _ _ _ (by rw [JaV]; omega), JaV, L1p]; rfl
theorem Jq2 (x : List (Int × Int)) : ∀ i v, v < i -> gd (hopN x i) v = gd (hopN x (v + 1)) v := fun i v h => by
  rw [Jiv x i v h, Jiv x (v + 1) v (by omega)]
theorem JoH (x : List (Int × Int)) {i v : Nat} (h : v + 1 < i) : (gd (hopN x i) (v + 1)).1 ≠ (gd (hopN x i) v).1 /\ (gd (hopN x i) v).2 <= (gd (hopN x i) (v + 1)).2 := by
  rw [Jiv x i (v + 1) h, Jq2 x i v (by omega), L0Z]
  have h1 := Jah (c := (gd x (v + 1)).1) (n := 7) (by omega)
  have h2 := Jah (c := (gd x (v + 1)).2) (n := 4) (by omega)
  have h3 := JgJ x (v + 1) _ (Jas (hopN x (v + 1)) v (by rw [JaV]; omega))
  generalize gd (hopN x (v + 1)) v = h at *; unfold hopF
  simp only
  rw [if_neg (by omega), L12 (by omega)]
  omega
theorem JdE (x : List (Int × Int)) : 1 <= (Jat x).length /\ (Jat x).length <= 6 := by
  unfold Jat
  split
  . simp
  . rename_i h
    have := L17.2 h
    rw [JaV]; omega
theorem Jdb (x : List (Int × Int)) : ∀ h ∈ Jat x, (0 <= h.1 /\ h.1 <= 7) /\ 0 <= h.2 /\ h.2 <= 20 := fun h hh => by
  unfold Jat at hh
  split at hh
  . obtain rfl := L0p.1 hh; decide
  . exact JgJ x _ h hh
theorem Jfq (x : List (Int × Int)) {v : Nat} (h : v + 1 < (Jat x).length) : (gd (Jat x) (v + 1)).1 ≠ (gd (Jat x) v).1 /\ (gd (Jat x) v).2 <= (gd (Jat x) (v + 1)).2 := by
  unfold Jat at *
  split
  . rename_i h0; rw [if_pos h0] at h; simp at h
  . rename_i h0; rw [if_neg h0, JaV] at h; exact JoH x h
def Jcz (x : List (Int × Int)) : Int × Int := gd (Jat x) ((Jat x).length - 1)
theorem Jiw (x : List (Int × Int)) : ∀ (k v : Nat), v + k = (Jat x).length - 1 -> 0 < (Jat x).length -> (gd (Jat x) v).2 <= (Jcz x).2
  | 0, v, h, h0 => by unfold Jcz; rw [<- h, L0U]; exact L1c _
  | k + 1, v, h, h0 => by
    have h1 := Jiw x k (v + 1) (by omega) h0
    have h2 := (Jfq x (v := v) (by omega)).2
    omega
theorem JlO (u : Nat) : ∀ (l : List (Int × Int)) (last : Int × Int), (∀ h ∈ l, (0 <= h.1 /\ h.1 <= 7) /\ h.2 <= 29 /\ h.2 < u) -> (∀ v, v < l.length -> (gd (last :: l) (v + 1)).1 ≠ (gd (last :: l) v).1 /\ (gd (last :: l) v).2 <= (gd (last :: l) (v + 1)).2) -> JgK u last l = true
  | [], _, _, _ => rfl
  | h :: l, last, h1, h2 => by
    rw [JgK, L00, decide_eq_true_iff]
    obtain ⟨a, b, c⟩ := h1 h (by simp)
    have d := h2 0 (by simp)
    rw [Jaz, JaD, JaD] at d
    refine ⟨⟨a, d.1, ⟨d.2, b⟩, c⟩, JlO u l h (fun y hy => h1 y (L1w _ hy)) fun v hv => ?_⟩
    have := h2 (v + 1) (by simpa using hv)
    rw [Jaz last (h :: l) (v + 1), Jaz last (h :: l) v] at this; exact this
def updS (v : Nat) : ByteArray := ⟨#[117, 112, 100, 97, 116, 101, 32]⟩ ++ ⟨#[UInt8.ofNat (65 + v)]⟩
def upsN (n : Nat) : List ByteArray := (List.range n).map updS
def JaN : ByteArray := ⟨#[99, 97, 108, 108]⟩
def keyS (c : Int) : ByteArray := strOfNums (List.replicate 32 (100 + c))
def legY (x : Nm) (i : Nat) : Int × Int × Int := if x.legs = [] then (100 * (i : Int), 60, 0) else gd x.legs (i % x.legs.length)
def legM (x : Nm) (hs : List (Int × Int)) (i : Nat) : Lg :=
  let y := legY x i
  let f := (gd hs i).1
  let t := (gd hs (i + 1)).1
  let a := Jad y.1 2000
  let b := Jad y.1 2000 + Jad y.2.1 900
  let k := (crsF x t.toNat).cnt a b
  ⟨f, t, (crsF x f.toNat).cnt a b, if Jad y.2.2 4 = 3 then ⟨k.b, k.e + Jad y.2.2 400⟩ else k⟩
def Jhu (x : Nm) (hs : List (Int × Int)) : List Lg := (List.range (hs.length - 1)).map (legM x hs)
theorem JoZ (x : Nm) {i : Nat} (hi : i + 1 < (Jat x.hops).length) : legF (legM x (Jat x.hops) i) = true := by
  have h1 := Jdb x.hops _ (Jas (Jat x.hops) i (by omega))
  have h2 := Jdb x.hops _ (Jas (Jat x.hops) (i + 1) hi); have h3 := (Jfq x.hops hi).1
  have a1 := Jah (c := (legY x i).1) (n := 2000) (by omega)
  have a2 := Jah (c := (legY x i).2.1) (n := 900) (by omega)
  have a3 := Jah (c := (legY x i).2.2) (n := 400) (by omega)
  have c1 := JeM (crsF x (gd (Jat x.hops) i).1.toNat) (f := Jad (legY x i).1 2000) (t := Jad (legY x i).1 2000 + Jad (legY x i).2.1 900) (by omega) (by omega) (by omega)
  have c2 := JeM (crsF x (gd (Jat x.hops) (i + 1)).1.toNat) (f := Jad (legY x i).1 2000) (t := Jad (legY x i).1 2000 + Jad (legY x i).2.1 900) (by omega) (by omega) (by omega)
  have s2 : ((crsF x (gd (Jat x.hops) (i + 1)).1.toNat).cnt (Jad (legY x i).1 2000) (Jad (legY x i).1 2000 + Jad (legY x i).2.1 900)).e <= 9000 := by
    have hd := Jah (c := (crsF x (gd (Jat x.hops) (i + 1)).1.toNat).d) (n := 101) (by omega)
    have := (JcG (d := Jad (crsF x (gd (Jat x.hops) (i + 1)).1.toNat).d 101) (by omega) (crsF x (gd (Jat x.hops) (i + 1)).1.toNat).s (crsF x (gd (Jat x.hops) (i + 1)).1.toNat).r (t := Jad (legY x i).1 2000 + Jad (legY x i).2.1 900) (by omega)).2
    simp only [Cr.cnt, Cr.show]; omega
  rw [JbN]; unfold legM
  simp only
  refine ⟨by omega, c1, ?_⟩
  split
  . rw [Jb0] at c2 ⊢
    simp only
    omega
  . exact c2
def witE (call : ByteArray) (ups : List ByteArray) (legs : List Lg) (w : Int) : ByteArray :=
  if Jad w 3 = 1 then gd ups (Jad (w.tdiv 3) ups.length).toNat
  else if Jad w 3 = 2 /\ legs ≠ [] then recF (gd legs (Jad (w.tdiv 6) legs.length).toNat) (1 + Jad (w.tdiv 3) 2)
  else call
def witN (w : List Int) : Nat -> List Int
  | 0 => []
  | i + 1 => witN w i ++ if Jad ((gd w i).tdiv 128) 8 ≠ 7 then [(i : Int)] else []
def witR (call : ByteArray) (ups : List ByteArray) (legs : List Lg) (w : List Int) : Rg := ⟨0, (w.take 12).map (witE call ups legs)⟩
def witP (call : ByteArray) (ups : List ByteArray) (legs : List Lg) (w : List Int) : Pt :=
  ⟨Jer (keyS 0) (witR call ups legs w) (min w.length 12), (witN w (min w.length 12)).map fun i => Ja7 (witR call ups legs w) (min w.length 12) i.toNat⟩
def Jan (x : Nm) : Tp where
  hops := Jat x.hops
  legs := Jhu x (Jat x.hops)
  cks := (List.range 8).map fun c => (crsF x c).clk
  tfs := (List.range 8).map fun c => tfQ (numF x.bases c) (x.rates.take (c % 4))
  offs := (List.range 8).map (offF x)
  key := keyS 0
  part := witP JaN (upsN ((Jcz x.hops).2 + 2).toNat) (Jhu x (Jat x.hops)) x.wit
  call := JaN
  ups := upsN ((Jcz x.hops).2 + 2).toNat
abbrev RDP (r : Rd) : AV := .agg [I r.l, I r.a, I r.b]
abbrev RDS (l : List Rd) : AV := .sl 3 (l.map RDP)
abbrev CKP (c : Ck) : AV := .agg [I c.d, RDS c.r]
section
variable (p : Nat -> Bool) (l : List Rd)
@[go_sem] theorem JvU : AV.namesL p (l.map RDP) = false := Jal p l RDP fun _ => rfl
@[go_sem] theorem Jxt : AV.flatL (l.map RDP) = true := Jbi l RDP fun _ => rfl
@[go_sem] theorem Jwz : JbS 3 (l.map RDP) = true := JaI 3 l RDP fun _ => ⟨rfl, rfl⟩
@[go_sem] theorem Ju8 (a b c : Int) : l.map RDP ++ [.agg [.v (.int .i64 a), .v (.int .i64 b), .v (.int .i64 c)]] = (l ++ [(⟨a, b, c⟩ : Rd)]).map RDP := by simp
end
theorem JhB (c : Ck) (hl : c.r.length <= 9223372036854775807) : Ev prog 102 [CKP c] (B (Jb5 c)) := by
  obtain ⟨d, l⟩ := c
  refine EV func102 ?_
  simp -implicitDefEqProofs (disch := omega) only [go_sem, ntmps102]; unfold Jb5
  simp only at hl ⊢
  refine Jab (fun h1 => ?_) (fun h1 => ?_)
  . simp -implicitDefEqProofs (disch := omega) only [go_sem, h1, results102]
    rw [decide_eq_false (by omega)]
    rfl
  simp -implicitDefEqProofs (disch := omega) only [go_sem]
  refine Jab (fun h2 => ?_) (fun h2 => ?_)
  . simp -implicitDefEqProofs (disch := omega) only [go_sem, h2, results102]
    rw [decide_eq_false (by omega)]
    rfl
  simp -implicitDefEqProofs (disch := omega) only [go_sem]
  refine Jab (fun h3 => ?_) (fun h3 => ?_)
  . simp -implicitDefEqProofs (disch := omega) only [go_sem, h3, results102]
    rw [decide_eq_false (by omega)]
    rfl
  simp -implicitDefEqProofs (disch := omega) only [go_sem]
  rw [decide_eq_true ⟨by omega, by omega, by omega⟩, L0k]
  refine Jag (fun k E σ => ∃ (i : Nat) (last : Int), i + k = l.length /\ ascR (-1) l = ascR last (l.drop i) /\ E 3 = I last /\ E 21 = RDS l /\ E 22 = I l.length /\ E 23 = I i) l.length ⟨0, -1, by omega, rfl, ?_⟩ ?_
  . simp -implicitDefEqProofs (disch := omega) only [go_sem]; try rfl
  rintro k E σ ⟨i, last, hk, hx, e3, e21, e22, e23⟩
  simp -implicitDefEqProofs (disch := omega) only [go_sem, e3, e21, e22, e23]
  refine Jab (fun hc => ?_) (fun hc => ?_)
  . have hi : i < l.length := by omega
    rw [JaU l i hi, ascR] at hx; simp -implicitDefEqProofs (disch := omega) only [go_sem, e3, e21, e22, e23]
    refine Jab (fun h1 => ?_) (fun h1 => ?_)
    . rw [decide_eq_false (by omega), L0c] at hx
      simp -implicitDefEqProofs (disch := omega) only [go_sem, h1, hx, results102]
    simp -implicitDefEqProofs (disch := omega) only [go_sem, e3, e21, e22, e23]
    refine Jab (fun h2 => ?_) (fun h2 => ?_)
    . rw [decide_eq_false (by omega), L0c] at hx
      simp -implicitDefEqProofs (disch := omega) only [go_sem, h2, hx, results102]
    simp -implicitDefEqProofs (disch := omega) only [go_sem, e3, e21, e22, e23]
    refine Jab (fun h3 => ?_) (fun h3 => ?_)
    . rw [decide_eq_false (by omega), L0c] at hx
      simp -implicitDefEqProofs (disch := omega) only [go_sem, h3, hx, results102]
    simp -implicitDefEqProofs (disch := omega) only [go_sem, e3, e21, e22, e23]
    refine Jab (fun h4 => ?_) (fun h4 => ?_)
    . rw [decide_eq_false (by omega), L0c] at hx
      simp -implicitDefEqProofs (disch := omega) only [go_sem, h4, hx, results102]
    simp -implicitDefEqProofs (disch := omega) only [go_sem, e3, e21, e22, e23]
    refine Jab (fun h5 => ?_) (fun h5 => ?_)
    . rw [decide_eq_false (by omega), L0c] at hx
      simp -implicitDefEqProofs (disch := omega) only [go_sem, h5, hx, results102]
    simp -implicitDefEqProofs (disch := omega) only [go_sem, e3, e21, e22, e23]
    rw [decide_eq_true ⟨by omega, by omega, by omega, by omega, by omega⟩, L0k] at hx
    refine Jae (l.length - (i + 1)) (by omega) ⟨i + 1, _, by omega, hx, ?_⟩
    simp -implicitDefEqProofs (disch := omega) only [go_sem, e3, e21, e22, e23]; try rfl
  . obtain rfl : i = l.length := by omega
    rw [L0H, ascR] at hx; simp -implicitDefEqProofs (disch := omega) only [go_sem, e3, e21, e22, e23, hx, results102]
theorem JsP {a b : Int} (h : 0 <= a) : a.tdiv b = a / b := L1g h
theorem JpU (d n : Int) (hd : 0 <= d /\ d <= 100) (hn : 0 <= n /\ n <= 10000000) : Ev prog 205 [I d, I n] (.tup [I (sLo d n), I (sHi d n)]) := by
  have q1 : (1000 * (n + 1) - 1).tdiv (1000 - d) = sHi d n := JsP (by omega)
  have q3 := Jmf hd hn.1; have q4 := JsQ hd hn.1
  refine EV func205 ?_
  simp -implicitDefEqProofs (disch := omega) only [go_sem, ntmps205]
  refine Jau (by omega) ?_
  simp -implicitDefEqProofs (disch := omega) only [go_sem]
  refine Jau (by omega) ?_
  simp -implicitDefEqProofs (disch := omega) only [go_sem]
  refine Jau (by omega) ?_
  simp -implicitDefEqProofs (disch := omega) only [go_sem]
  refine Jau (by omega) ?_
  simp -implicitDefEqProofs (disch := omega) only [go_sem]
  refine Jab (fun h0 => ?_) (fun h0 => ?_)
  . have q2 : (1000 * (n - 1)).tdiv (1000 + d) + 1 = sLo d n := by unfold sLo; rw [if_pos h0, JsP (by omega)]
    have q5 : (1000 * (n - 1)).tdiv (1000 + d) = sLo d n - 1 := by omega
    simp -implicitDefEqProofs (disch := omega) only [go_sem, q1, q5, results205]; rw [Int.sub_add_cancel]
  . have q2 : sLo d n = 0 := by unfold sLo; rw [if_neg h0]
    simp -implicitDefEqProofs (disch := omega) only [go_sem, q1, q2, results205]
abbrev wB (u v : Int) : List (Nat × Blk) := [(362807488, ⟨253, 2, [.agg [I u, I v]]⟩)]
set_option maxHeartbeats 1000000 in
theorem Jfz (u v a b : Int) : LOK prog 204 (inI [362807488]) [.ptr 362807488 2 0 0, I a, I b] (stO (wB u v)) (.tup []) (stO (wB (max u a) (min v b))) := by
  refine JcJ [0] [362807488] func204 rfl (by kernel_rfl) mo (nb rfl) rfl (by kernel_rfl) (by kernel_rfl) ?_
  simp -implicitDefEqProofs (disch := omega) only [go_sem, ntmps204]
  refine Jd5 (fun D E σ => E 0 = .ptr 362807488 2 0 0 /\ E 1 = I a /\ E 2 = I b /\ (D 19 = true -> D 16 = true) /\ (D 16 = true -> D 5 = true) /\ (D 16 = true -> D 11 = true) /\ (D 16 = false -> σ 362807488 = some ⟨253, 2, [.agg [I u, I v]]⟩) /\ (D 16 = true -> D 19 = false -> σ 362807488 = some ⟨253, 2, [.agg [I (max u a), I v]]⟩) /\ (D 19 = true -> σ 362807488 = some ⟨253, 2, [.agg [I (max u a), I (min v b)]]⟩) /\ (D 0 = true -> E 6 = .ptr 362807488 2 0 0) /\ (D 1 = true -> E 7 = .ptr 362807488 2 0 0) /\ (D 2 = true -> E 8 = .ptr 362807488 2 0 0) /\ (D 3 = true -> E 9 = .ptr 362807488 2 0 0) /\ (D 4 = true -> E 10 = .ptr 362807488 2 0 0) /\ (D 5 = true -> E 11 = I u) /\ (D 6 = true -> E 12 = I a) /\ (D 7 = true -> E 13 = I (max u a)) /\ (D 8 = true -> E 14 = .ptr 362807488 2 0 0) /\ (D 9 = true -> E 15 = .ptr 362807488 2 0 0) /\ (D 10 = true -> E 16 = .ptr 362807488 2 0 1) /\ (D 11 = true -> E 17 = I v) /\ (D 12 = true -> E 18 = I b) /\ (D 13 = true -> E 19 = I (min v b)) /\ (D 14 = true -> E 20 = .ptr 362807488 2 0 0) /\ (D 15 = true -> E 21 = .ptr 362807488 2 0 0) /\ (D 17 = true -> E 22 = .ptr 362807488 2 0 0) /\ (D 18 = true -> E 23 = .ptr 362807488 2 0 1)) ?_ ?_ ?_
  . simp -implicitDefEqProofs (disch := omega) only [go_sem, false_and, and_self]; try simp
  . simp only [Jfd, depK, Region.binds, eq_self, forall_const, and_true]
    repeat' apply And.intro
    all_goals
      rintro D E σ ⟨e0, e1, e2, c19_16, c16_5, c16_11, m0_0, m0_1, m0_2, j0, j1, j2, j3, j4, j5, j6, j7, j8, j9, j10, j11, j12, j13, j14, j15, j17, j18⟩ hd
      have k := And.intro trivial <| And.intro (cK c19_16) <| And.intro (cK c16_5) <| And.intro (cK c16_11) trivial
      simp -implicitDefEqProofs (disch := first | assumption | (simp only [hd, k]; done) | omega) only [go_sem, e0, e1, e2, m0_0, m0_1, m0_2, j0, j1, j2, j3, j4, j5, j6, j7, j8, j9, j10, j11, j12, j13, j14, j15, j17, j18, false_and, and_self]
      repeat' apply And.intro
      all_goals first | assumption | (intro _; assumption) | trivial | (simp -implicitDefEqProofs (contextual := true) (disch := first | assumption | omega) only [go_sem, m0_0, m0_1, m0_2, j0, j1, j2, j3, j4, j5, j6, j7, j8, j9, j10, j11, j12, j13, j14, j15, j17, j18, hd, c19_16, c16_5, c16_11, k, implies_true, forall_const, false_implies, true_implies]; done) | (intro h; intros; exfalso; simp (maxDischargeDepth := 9) [hd, k] at h; done) | (intros; contradiction) | trace_state
  . rintro D E σ hD ⟨e0, e1, e2, c19_16, c16_5, c16_11, m0_0, m0_1, m0_2, j0, j1, j2, j3, j4, j5, j6, j7, j8, j9, j10, j11, j12, j13, j14, j15, j17, j18⟩
    have g0 := m0_2 (hD 19 (by decide))
    have q0 := j0 (hD 0 (by decide))
    have q1 := j1 (hD 1 (by decide))
    have q2 := j2 (hD 2 (by decide))
    have q3 := j3 (hD 3 (by decide))
    have q4 := j4 (hD 4 (by decide))
    have q5 := j5 (hD 5 (by decide))
    have q6 := j6 (hD 6 (by decide))
    have q7 := j7 (hD 7 (by decide))
    have q8 := j8 (hD 8 (by decide))
    have q9 := j9 (hD 9 (by decide))
    have q10 := j10 (hD 10 (by decide))
    have q11 := j11 (hD 11 (by decide))
    have q12 := j12 (hD 12 (by decide))
    have q13 := j13 (hD 13 (by decide))
    have q14 := j14 (hD 14 (by decide))
    have q15 := j15 (hD 15 (by decide))
    have q17 := j17 (hD 17 (by decide))
    have q18 := j18 (hD 18 (by decide))
    clear c19_16 c16_5 c16_11 m0_0 m0_1 m0_2 j0 j1 j2 j3 j4 j5 j6 j7 j8 j9 j10 j11 j12 j13 j14 j15 j17 j18 hD; simp -implicitDefEqProofs (disch := omega) only [go_sem, e0, e1, e2, g0, results204]
theorem JnO (c : Ck) (t : Int) (hc : Jb5 c = true) (ht : 0 <= t /\ t <= 10000000) : Ev prog 172 [CKP c, I t] (.agg [I (winF c.d t c.r).1, I (winF c.d t c.r).2]) := by
  obtain ⟨d, l⟩ := c
  obtain ⟨hb, ha⟩ := JdT.1 hc
  have hr := Jlt ha
  have hw : winF d t l = (l.take l.length).foldl (JdL d t) (0, 10000000) := by rw [L0d]; rfl
  simp only at hb hr ⊢
  rw [hw]; clear hw
  refine EV func172 ?_
  simp -implicitDefEqProofs (disch := omega) only [go_sem, ntmps172]
  refine Jag (fun k E σ => ∃ (i : Nat) (w : Int × Int), i + k = l.length /\ (l.take i).foldl (JdL d t) (0, 10000000) = w /\ E 1 = I t /\ E 2 = .ptr 362807328 2 0 0 /\ E 4 = .ptr 362807360 2 0 0 /\ E 5 = .ptr 362807488 2 0 0 /\ E 6 = .clo 204 [.v (.tuple #[]), .ptr 362807488 2 0 0] /\ E 16 = RDS l /\ E 17 = I l.length /\ E 18 = I i /\
    σ 362807328 = some ⟨58, 2, [.agg [I d, RDS l]]⟩ /\ σ 362807360 = some ⟨253, 2, [.agg [I 0, I 0]]⟩ /\ σ 362807488 = some ⟨253, 2, [.agg [I w.1, I w.2]]⟩) l.length ⟨0, (0, 10000000), by omega, rfl, ?_⟩ ?_
  . simp -implicitDefEqProofs (disch := omega) only [go_sem]; try rfl
  rintro k E σ ⟨i, w, hk, hx, e1, e2, e4, e5, e6, e16, e17, e18, m2, m4, m12⟩
  obtain ⟨u, v⟩ := w
  simp only at m12
  simp -implicitDefEqProofs (disch := omega) only [go_sem, e1, e2, e4, e5, e6, e16, e17, e18, m2, m4, m12]
  refine Jab (fun hc => ?_) (fun hc => ?_)
  . have hi : i < l.length := by omega
    have hri := hr _ (Jas l i hi)
    have htk : (l.take (i + 1)).foldl (JdL d t) (0, 10000000) = JdL d t (u, v) (gd l i) := by
      rw [L1b, Jbj l i hi, List.foldl_append, hx]; rfl
    obtain ⟨n, hn⟩ : ∃ n, max (t - (gd l i).l) ((gd l i).l - t) = n := ⟨_, rfl⟩
    have hn0 : 0 <= n /\ n <= 10000000 := by omega
    have hs := JpU d n (by omega) hn0
    have h1 := JsQ (d := d) (n := n) (by omega) hn0.1
    have h2 := Jmf (d := d) (n := n) (by omega) hn0.1
    simp -implicitDefEqProofs (disch := omega) only [go_sem, e1, e2, e4, e5, e6, e16, e17, e18, m2, m4, m12, hn]
    refine Jaa hs ?_
    have hst : JdL d t (u, v) (gd l i) = if t < (gd l i).l then (max u ((gd l i).a - sHi d ((gd l i).l - t)), min v ((gd l i).b - sLo d ((gd l i).l - t)))
      else if t = (gd l i).l then (max u ((gd l i).a - sHi d 0), min v ((gd l i).b + sHi d 0))
      else (max u ((gd l i).a + sLo d (t - (gd l i).l)), min v ((gd l i).b + sHi d (t - (gd l i).l))) := rfl
    have key : ∀ x y a b : Int, x = (gd l i).a + y -> True := fun _ _ _ _ _ => trivial
    generalize hrd : gd l i = r at *; simp -implicitDefEqProofs (disch := omega) only [go_sem, e1, e2, e4, e5, e6, e16, e17, e18, m2, m4, m12]
    refine Jab (fun h3 => ?_) (fun h3 => ?_)
    . rw [if_pos h3] at hst
      have en : n = r.l - t := by omega
      rw [<- en] at hst; simp -implicitDefEqProofs (disch := omega) only [go_sem, e1, e2, e4, e5, e6, e16, e17, e18, m2, m4, m12]
      refine JiD [362807488] (bs := [.ptr 362807488 2 0 0]) (xs := [I (r.a + (0 - sHi d n)), I (r.b + (0 - sLo d n))]) (l := wB u v) (l' := wB (max u (r.a + (0 - sHi d n))) (min v (r.b + (0 - sLo d n)))) (Jfz _ _ _ _) ?_ ?_ ?_ ?_ ?_ ?_ ?_
      . simp -implicitDefEqProofs (disch := omega) only [go_sem, e1, e2, e4, e5, e6, e16, e17, e18, m2, m4, m12]
      . simp -implicitDefEqProofs (disch := omega) only [go_sem, e1, e2, e4, e5, e6, e16, e17, e18, m2, m4, m12]
      . simp -implicitDefEqProofs (disch := omega) only [go_sem, e1, e2, e4, e5, e6, e16, e17, e18, m2, m4, m12]
      . simp -implicitDefEqProofs (disch := omega) only [go_sem, e1, e2, e4, e5, e6, e16, e17, e18, m2, m4, m12]
      . simp -implicitDefEqProofs (disch := omega) only [go_sem, e1, e2, e4, e5, e6, e16, e17, e18, m2, m4, m12]
      . simp -implicitDefEqProofs (disch := omega) only [go_sem, e1, e2, e4, e5, e6, e16, e17, e18, m2, m4, m12]
      . simp -implicitDefEqProofs (disch := omega) only [go_sem, e1, e2, e4, e5, e6, e16, e17, e18, m2, m4, m12]
        refine Jae (l.length - (i + 1)) (by omega) ⟨i + 1, _, by omega, htk, ?_⟩
        rw [hst]; simp -implicitDefEqProofs (disch := omega) only [go_sem, e1, e2, e4, e5, e6, e16, e17, e18, m2, m4, m12]
        try simp [Int.sub_eq_add_neg]
    . rw [if_neg h3] at hst; simp -implicitDefEqProofs (disch := omega) only [go_sem, e1, e2, e4, e5, e6, e16, e17, e18, m2, m4, m12]
      refine Jab (fun h4 => ?_) (fun h4 => ?_)
      . rw [if_pos h4] at hst
        have en : n = 0 := by omega
        rw [en] at hs h1 h2 ⊢; simp -implicitDefEqProofs (disch := omega) only [go_sem, e1, e2, e4, e5, e6, e16, e17, e18, m2, m4, m12]
        refine JiD [362807488] (bs := [.ptr 362807488 2 0 0]) (xs := [I (r.a + (0 - sHi d 0)), I (r.b + sHi d 0)]) (l := wB u v) (l' := wB (max u (r.a + (0 - sHi d 0))) (min v (r.b + sHi d 0))) (Jfz _ _ _ _) ?_ ?_ ?_ ?_ ?_ ?_ ?_
        . simp -implicitDefEqProofs (disch := omega) only [go_sem, e1, e2, e4, e5, e6, e16, e17, e18, m2, m4, m12]
        . simp -implicitDefEqProofs (disch := omega) only [go_sem, e1, e2, e4, e5, e6, e16, e17, e18, m2, m4, m12]
        . simp -implicitDefEqProofs (disch := omega) only [go_sem, e1, e2, e4, e5, e6, e16, e17, e18, m2, m4, m12]
        . simp -implicitDefEqProofs (disch := omega) only [go_sem, e1, e2, e4, e5, e6, e16, e17, e18, m2, m4, m12]
        . simp -implicitDefEqProofs (disch := omega) only [go_sem, e1, e2, e4, e5, e6, e16, e17, e18, m2, m4, m12]
        . simp -implicitDefEqProofs (disch := omega) only [go_sem, e1, e2, e4, e5, e6, e16, e17, e18, m2, m4, m12]
        . simp -implicitDefEqProofs (disch := omega) only [go_sem, e1, e2, e4, e5, e6, e16, e17, e18, m2, m4, m12]
          refine Jae (l.length - (i + 1)) (by omega) ⟨i + 1, _, by omega, htk, ?_⟩
          rw [hst]; simp -implicitDefEqProofs (disch := omega) only [go_sem, e1, e2, e4, e5, e6, e16, e17, e18, m2, m4, m12]
          try simp [Int.sub_eq_add_neg]
      . rw [if_neg h4] at hst
        have en : n = t - r.l := by omega
        rw [<- en] at hst; simp -implicitDefEqProofs (disch := omega) only [go_sem, e1, e2, e4, e5, e6, e16, e17, e18, m2, m4, m12]
        refine JiD [362807488] (bs := [.ptr 362807488 2 0 0]) (xs := [I (r.a + sLo d n), I (r.b + sHi d n)]) (l := wB u v) (l' := wB (max u (r.a + sLo d n)) (min v (r.b + sHi d n))) (Jfz _ _ _ _) ?_ ?_ ?_ ?_ ?_ ?_ ?_
        . simp -implicitDefEqProofs (disch := omega) only [go_sem, e1, e2, e4, e5, e6, e16, e17, e18, m2, m4, m12]
        . simp -implicitDefEqProofs (disch := omega) only [go_sem, e1, e2, e4, e5, e6, e16, e17, e18, m2, m4, m12]
        . simp -implicitDefEqProofs (disch := omega) only [go_sem, e1, e2, e4, e5, e6, e16, e17, e18, m2, m4, m12]
        . simp -implicitDefEqProofs (disch := omega) only [go_sem, e1, e2, e4, e5, e6, e16, e17, e18, m2, m4, m12]
        . simp -implicitDefEqProofs (disch := omega) only [go_sem, e1, e2, e4, e5, e6, e16, e17, e18, m2, m4, m12]
        . simp -implicitDefEqProofs (disch := omega) only [go_sem, e1, e2, e4, e5, e6, e16, e17, e18, m2, m4, m12]
        . simp -implicitDefEqProofs (disch := omega) only [go_sem, e1, e2, e4, e5, e6, e16, e17, e18, m2, m4, m12]
          refine Jae (l.length - (i + 1)) (by omega) ⟨i + 1, _, by omega, htk, ?_⟩
          rw [hst]; simp -implicitDefEqProofs (disch := omega) only [go_sem, e1, e2, e4, e5, e6, e16, e17, e18, m2, m4, m12]
          try simp [Int.sub_eq_add_neg]
  . obtain rfl : i = l.length := by omega
    simp -implicitDefEqProofs (disch := omega) only [go_sem, e1, e2, e4, e5, e6, e16, e17, e18, m2, m4, m12, results172]; rw [L0d] at hx; rw [hx]
abbrev atV (o : Option (Int × Int)) : AV := match o with
  | some w => .tup [I w.1, I w.2, I 0]
  | none => .tup [I 0, I 0, I 50]
theorem JBj (c : Ck) (t : Int) (hl : c.r.length <= 9223372036854775807) : Ev prog 129 [CKP c, I t] (atV (atF c t)) := by
  have hv := JhB c hl
  have ha := fun hc ht => JnO c t hc ht
  have hat : atF c t = if Jb5 c = true /\ (0 <= t /\ t <= 10000000) /\ (winF c.d t c.r).1 <= (winF c.d t c.r).2 then some (winF c.d t c.r) else none := rfl
  obtain ⟨d, l⟩ := c; generalize winF (Ck.mk d l).d t (Ck.mk d l).r = w at *; generalize Jb5 ⟨d, l⟩ = b at *; generalize atF ⟨d, l⟩ t = q at *
  refine EV func129 ?_
  simp -implicitDefEqProofs (disch := omega) only [go_sem, ntmps129]
  refine Jaa hv ?_
  cases b with
  | false =>
    rw [if_neg (fun h => by cases h.1)] at hat
    subst hat; simp -implicitDefEqProofs (disch := omega) only [go_sem, results129]
  | true =>
    simp -implicitDefEqProofs (disch := omega) only [go_sem]
    refine Jab (fun h1 => ?_) (fun h1 => ?_)
    . rw [if_neg (fun h => by omega)] at hat
      subst hat; simp -implicitDefEqProofs (disch := omega) only [go_sem, results129]
    simp -implicitDefEqProofs (disch := omega) only [go_sem]
    refine Jab (fun h2 => ?_) (fun h2 => ?_)
    . rw [if_neg (fun h => by omega)] at hat
      subst hat; simp -implicitDefEqProofs (disch := omega) only [go_sem, results129]
    simp -implicitDefEqProofs (disch := omega) only [go_sem]
    refine Jaa (ha rfl (by omega)) ?_
    simp -implicitDefEqProofs (disch := omega) only [go_sem]
    refine Jab (fun h3 => ?_) (fun h3 => ?_)
    . rw [if_neg (fun h => by omega)] at hat
      subst hat; simp -implicitDefEqProofs (disch := omega) only [go_sem, results129]
    . rw [if_pos ⟨rfl, by omega, by omega⟩] at hat
      subst hat; simp -implicitDefEqProofs (disch := omega) only [go_sem, results129]
theorem Jct (c n : Int) (hc : R64 c) (hn : 0 < n) : Ev prog 92 [I c, I n] (I (Jad c n)) := by
  obtain ⟨h1, h2⟩ := hc
  refine EV func92 ?_
  simp -implicitDefEqProofs (disch := omega) only [go_sem, ntmps92]
  refine Jab (fun h => ?_) (fun h => ?_) <;> simp -implicitDefEqProofs (disch := omega) only [go_sem, results92]
  . rw [show (0 - (c+1)) = -(c+1) from by omega]; simp [Jad, h]
  . simp [Jad, h]
abbrev T3 : Type := Int × Int × Int
abbrev QT (q : T3) : AV := .agg [I q.1, I q.2.1, I q.2.2]
abbrev QTS (l : List T3) : AV := .sl 3 (l.map QT)
def T3ok (q : T3) : Prop := R64 q.1 /\ R64 q.2.1 /\ R64 q.2.2
section
variable (p : Nat -> Bool) (l : List T3)
@[go_sem] theorem JxR : AV.namesL p (l.map QT) = false := Jal p l QT fun _ => rfl
@[go_sem] theorem JzN : AV.flatL (l.map QT) = true := Jbi l QT fun _ => rfl
@[go_sem] theorem JyZ : JbS 3 (l.map QT) = true := JaI 3 l QT fun _ => ⟨rfl, rfl⟩
end
theorem Jlk {d : Int} (hd : 0 <= d /\ d <= 100) (rates : List Int) (t : Int) (ht : 0 <= t) : ∀ k : Nat, -(10000 * (k : Int)) <= sumB d rates t k /\ sumB d rates t k <= 10000 * k
  | 0 => by simp [sumB]
  | k + 1 => by
    have ih := Jlk hd rates t ht k
    have hp := Jah (c := gd rates k) (n := 2 * d + 1) (by omega)
    rw [sumB]
    split
    . have h1 : (Jad (gd rates k) (2 * d + 1) - d) * min (t - 100 * k) 100 <= 100 * 100 := by
        refine Int.le_trans (L1V (c := min (t - 100 * k) 100) (show Jad (gd rates k) (2 * d + 1) - d <= 100 by omega) (by omega)) ?_
        exact L2m (by omega) (by omega)
      have h2 : -(100 * 100) <= (Jad (gd rates k) (2 * d + 1) - d) * min (t - 100 * k) 100 := by
        have := L1V (c := min (t - 100 * k) 100) (show (-100 : Int) <= Jad (gd rates k) (2 * d + 1) - d by omega) (by omega)
        omega
      omega
    . omega
theorem Jkf (d : Int) (rates : List Int) (t : Int) {i : Nat} (hi : t <= 100 * i) : ∀ m : Nat, sumB d rates t (i + m) = sumB d rates t i
  | 0 => rfl
  | m + 1 => by rw [<- L0L, sumB, if_neg (by omega), Jkf d rates t hi m, Int.add_zero]
theorem Jmh (drift start : Int) (rates : List Int) (t : Int) (hd : R64 drift) (hs : R64 start) (hr : ∀ r ∈ rates, R64 r) (hl : rates.length <= 9223372036854775807) (ht : 0 <= t /\ t <= 1000000) :
    Ev prog 93 [I drift, I start, SL rates, I t] (I (JaL (Jad drift 101) start rates t)) := by
  have hd1 := Jah (c := drift) (n := 101) (by omega)
  have hs1 := Jah (c := start) (n := 1000) (by omega)
  have c1 := Jct drift 101 hd (by omega)
  have c2 := Jct start 1000 hs (by omega)
  have hsh : JaL (Jad drift 101) start rates t = Jad start 1000 + (sumA (Jad drift 101) rates t + 1000 * t) / 1000 := rfl
  have hmd := (JiG (d := Jad drift 101) (by omega) rates (L1c 0) ht.1).1
  rw [JiH] at hmd
  have hmp : 0 <= (1000 - Jad drift 101) * (t - 0) := L1K (by omega) (by omega)
  have hmil : milF (Jad drift 101) rates t = sumA (Jad drift 101) rates t + 1000 * t := rfl
  rw [hsh]; generalize Jad drift 101 = d at *; generalize Jad start 1000 = s at *
  refine EV func93 ?_
  simp -implicitDefEqProofs (disch := omega) only [go_sem, ntmps93]
  refine Jaa c1 ?_
  simp -implicitDefEqProofs (disch := omega) only [go_sem]
  refine Jag (fun k E σ => ∃ i : Nat, i + k = 20 /\ i <= rates.length /\ E 1 = I start /\ E 2 = SL rates /\ E 3 = I t /\ E 9 = I d /\ E 10 = I (sumB d rates t i) /\ E 11 = I i) 20 ⟨0, by omega, by omega, ?_⟩ ?_
  . simp -implicitDefEqProofs (disch := omega) only [go_sem, sumB]; try rfl
  rintro k E σ ⟨i, hk, hi, e1, e2, e3, e9, e10, e11⟩
  have hb := Jlk (d := d) (by omega) rates t ht.1 i
  have fin : (rates.length <= i \/ 20 <= i \/ t <= 100 * i) -> sumB d rates t i = sumA d rates t := fun h => by
    unfold sumA
    rcases h with h | h | h
    . rw [show i = min rates.length 20 by omega]
    . rw [show i = min rates.length 20 by omega]
    . obtain ⟨m, hm⟩ : ∃ m, min rates.length 20 = i + m := ⟨min rates.length 20 - i, by omega⟩
      rw [hm, Jkf d rates t h m]
  have done : sumB d rates t i = sumA d rates t -> (sumB d rates t i + 1000 * t).tdiv 1000 = (sumA d rates t + 1000 * t) / 1000 := fun h => by
    rw [h, L1g (by omega)]
  simp -implicitDefEqProofs (disch := omega) only [go_sem, e1, e2, e3, e9, e10, e11]
  refine Jab (fun h1 => ?_) (fun h1 => ?_)
  . simp -implicitDefEqProofs (disch := omega) only [go_sem, e1, e2, e3, e9, e10, e11]
    refine Jab (fun h2 => ?_) (fun h2 => ?_)
    . simp -implicitDefEqProofs (disch := omega) only [go_sem, e1, e2, e3, e9, e10, e11]
      refine Jab (fun h3 => ?_) (fun h3 => ?_)
      . have hp := Jah (c := gd rates i) (n := 2 * d + 1) (by omega)
        have c3 := Jct (gd rates i) (2 * d + 1) (hr _ (Jas rates i (by omega))) (by omega)
        have hn : sumB d rates t (i + 1) = sumB d rates t i + (Jad (gd rates i) (2 * d + 1) - d) * min (t - 100 * i) 100 := by rw [sumB, if_pos (by omega)]
        have hb2 := Jlk (d := d) (by omega) rates t ht.1 (i + 1)
        obtain ⟨x, hx⟩ : ∃ x, (Jad (gd rates i) (2 * d + 1) - d) * min (t - 100 * i) 100 = x := ⟨_, rfl⟩
        rw [hx] at hn; generalize Jad (gd rates i) (2 * d + 1) = y at *
        have hw : IntKind.i64.wrap ((y - d) * min (t - 100 * i) 100) = x := by rw [hx]; exact Jcy (by omega)
        simp -implicitDefEqProofs (disch := omega) only [go_sem, e1, e2, e3, e9, e10, e11]
        refine Jaa c3 ?_
        simp -implicitDefEqProofs (disch := omega) only [go_sem, e1, e2, e3, e9, e10, e11, hw, hx]
        refine Jae (20 - (i + 1)) (by omega) ⟨i + 1, by omega, by omega, ?_⟩
        rw [hn]; simp -implicitDefEqProofs (disch := omega) only [go_sem, e1, e2, e3, e9, e10, e11]; try rfl
      . have hf := fin (.inr (.inr (by omega)))
        have hdn := done hf; simp -implicitDefEqProofs (disch := omega) only [go_sem, e1, e2, e3, e9, e10, e11]
        refine Jaa c2 ?_
        simp -implicitDefEqProofs (disch := omega) only [go_sem, hdn, results93]
    . have hf := fin (.inr (.inl (by omega)))
      have hdn := done hf; simp -implicitDefEqProofs (disch := omega) only [go_sem, e1, e2, e3, e9, e10, e11]
      refine Jaa c2 ?_
      simp -implicitDefEqProofs (disch := omega) only [go_sem, hdn, results93]
  . have hf := fin (.inl (by omega))
    have hdn := done hf; simp -implicitDefEqProofs (disch := omega) only [go_sem, e1, e2, e3, e9, e10, e11]
    refine Jaa c2 ?_
    simp -implicitDefEqProofs (disch := omega) only [go_sem, hdn, results93]
def mkC (drift start : Int) (rates : List Int) (at_ : List T3) (d : Int) (T : Nat) (l : List Rd) (E : Env) (σ : Jac) : Prop :=
  E 0 = I drift /\ E 1 = I start /\ E 2 = SL rates /\ E 3 = QTS at_ /\ E 8 = .ptr 115343488 2 0 0 /\ E 9 = .ptr 115343504 2 0 0 /\ E 10 = I T /\
    σ 115343488 = some ⟨58, 2, [.agg [I 0, .v (.slice none 0 0)]]⟩ /\ σ 115343504 = some ⟨58, 2, [.agg [I d, .own 115343505 3 0 l.length]]⟩ /\ σ 115343505 = some ⟨152, 3, l.map RDP⟩
theorem JpA (l : List Rd) (s : Int) : (l = [] \/ (gd l (l.length - 1)).l < s) ↔ (l.length = 0 \/ (0 < l.length /\ (gd l (l.length - 1)).l < s)) := by
  cases l with
  | nil => simp
  | cons a l => simp
set_option maxHeartbeats 4000000 in
theorem Jw4 (drift start : Int) (rates : List Int) (at_ : List T3) (hd : R64 drift) (hs : R64 start) (hr : ∀ r ∈ rates, R64 r) (hl : rates.length <= 9223372036854775807) (ha : ∀ q ∈ at_, T3ok q) (hal : at_.length <= 9223372036854775807) :
    Ev prog 54 [I drift, I start, SL rates, QTS at_] (CKP (clkF drift start rates at_)) := by
  have hd1 := Jah (c := drift) (n := 101) (by omega)
  have c1 := Jct drift 101 hd (by omega)
  have hsh := fun t (ht : 0 <= t /\ t <= 1000000) => Jmh drift start rates t hd hs hr hl ht
  have hin := fun t (ht : 0 <= t) => JcG (d := Jad drift 101) (by omega) start rates ht
  have hlen := fun T (hT : T <= 3000) => JgR (Jad drift 101) start rates at_ (by omega) T hT
  have hrow := fun (t : Nat) (l : List Rd) (ht : t < 3000) (hg : Good (Jad drift 101) start rates l) (i : Nat) => JiS (Jad drift 101) start rates at_ (by omega) ht hg i
  have hcl : clkF drift start rates at_ = ⟨Jad drift 101, JcK (Jad drift 101) start rates at_ 3000⟩ := rfl
  rw [hcl]; clear hcl; generalize Jad drift 101 = d at *
  refine EW [2, 13] func54 ?_
  simp -implicitDefEqProofs (disch := omega) only [go_sem, ntmps54]
  refine Jaa c1 ?_
  simp -implicitDefEqProofs (disch := omega) only [go_sem]
  refine Jbp 115343504 115343505 0 1 152 3 (k := ⟨58, 2, [.agg [I d, .v (.slice none 0 0)]]⟩) (el := .agg [I d, .v (.slice none 0 0)]) (by simp -implicitDefEqProofs (disch := omega) only [go_sem]) (by decide) rfl rfl (by simp) (by simp -implicitDefEqProofs (disch := omega) only [go_sem]) rfl ?_
  refine Je6 Plain.mono ?_
  simp -implicitDefEqProofs (disch := omega) only [go_sem]
  refine Jag (fun k E σ => ∃ T : Nat, T + k = 3000 /\ mkC drift start rates at_ d T (JcK d start rates at_ T) E σ) 3000 ⟨0, by omega, ?_⟩ ?_
  . simp -implicitDefEqProofs (disch := omega) only [go_sem, JcK, mkC, false_and]; try rfl
  rintro k E σ ⟨T, hk, e0, e1, e2, e3, e8, e9, e10, m8, m9, mr⟩
  obtain ⟨hg0, hlt0⟩ := hlen T (by omega)
  have hcnt := Jn9 at_ T (min at_.length 12); simp -implicitDefEqProofs (disch := omega) only [go_sem, e0, e1, e2, e3, e8, e9, e10, m8, m9, mr, false_and]
  refine Jab (fun hc => ?_) (fun hc => ?_)
  . have hT : T < 3000 := by omega
    have hmd : JcK d start rates at_ (T + 1) = rowR d start rates at_ T (JcK d start rates at_ T) (min at_.length 12) := rfl
    have hrw := hrow T (JcK d start rates at_ T) hT hg0
    have hri : ∀ i, rowR d start rates at_ T (JcK d start rates at_ T) (i + 1) = putR d start rates T (rowR d start rates at_ T (JcK d start rates at_ T) i) (gd at_ i) := fun _ => rfl
    have hr0 : rowR d start rates at_ T (JcK d start rates at_ T) 0 = JcK d start rates at_ T := rfl
    generalize hM' : JcK d start rates at_ (T + 1) = M' at *; generalize JcK d start rates at_ T = M at *; simp -implicitDefEqProofs (disch := omega) only [go_sem, e0, e1, e2, e3, e8, e9, e10, m8, m9, mr, false_and]
    refine Jag (fun k E σ => ∃ i : Nat, i + k = 12 /\ i <= at_.length /\ E 11 = I i /\ mkC drift start rates at_ d T (rowR d start rates at_ T M i) E σ) 12 ⟨0, by omega, by omega, ?_⟩ ?_
    . simp -implicitDefEqProofs (disch := omega) only [go_sem, hr0, mkC, e0, e1, e2, e3, e8, e9, e10, m8, m9, mr]; try rfl
    clear e0 e1 e2 e3 e8 e9 e10 m8 m9 mr E σ
    rintro k' E σ ⟨i, hk', hia, e11, e0, e1, e2, e3, e8, e9, e10, m8, m9, mr⟩
    obtain ⟨hgi, hli⟩ := hrw i
    have hce : cntE at_ T i <= i := by
      have : ∀ i, cntE at_ T i <= i := fun i => by
        induction i with
        | zero => exact L0a _
        | succ i ih => rw [cntE]; split <;> omega
      exact this i
    have hrii := hri i
    have fin : i = 12 \/ i = at_.length -> rowR d start rates at_ T M i = M' := fun h => by
      rw [hmd]; congr 1; omega
    generalize hR : rowR d start rates at_ T M i = R at *; simp -implicitDefEqProofs (disch := omega) only [go_sem, e0, e1, e2, e3, e8, e9, e10, e11, m8, m9, mr, false_and]
    refine Jab (fun h1 => ?_) (fun h1 => ?_)
    . simp -implicitDefEqProofs (disch := omega) only [go_sem, e0, e1, e2, e3, e8, e9, e10, e11, m8, m9, mr, false_and]
      refine Jab (fun h2 => ?_) (fun h2 => ?_)
      . obtain ⟨q1, q2, q3⟩ := ha _ (Jas at_ i (by omega))
        have p1 := Jah (c := (gd at_ i).1) (n := 3000) (by omega)
        have p2 := Jah (c := (gd at_ i).2.1) (n := 51) (by omega)
        have p3 := Jah (c := (gd at_ i).2.2) (n := 51) (by omega)
        have d1 := Jct (gd at_ i).1 3000 q1 (by omega)
        have d2 := Jct (gd at_ i).2.1 51 q2 (by omega)
        have d3 := Jct (gd at_ i).2.2 51 q3 (by omega)
        have d4 := hsh T (by omega)
        have hpA : Jad (gd at_ i).1 3000 = T -> (R.length = 0 \/ (0 < R.length /\ (gd R (R.length - 1)).l < JaL d start rates T)) -> putR d start rates T R (gd at_ i) = R ++ [⟨JaL d start rates T, max (T - Jad (gd at_ i).2.1 51) 0, T + Jad (gd at_ i).2.2 51⟩] := fun h h2 => if_pos ⟨h, (JpA R _).2 h2⟩
        have hpB : ¬ (Jad (gd at_ i).1 3000 = T /\ (R.length = 0 \/ (0 < R.length /\ (gd R (R.length - 1)).l < JaL d start rates T))) -> putR d start rates T R (gd at_ i) = R := fun h => if_neg fun hh => h ⟨hh.1, (JpA R _).1 hh.2⟩
        generalize JaL d start rates T = s at *; generalize Jad (gd at_ i).1 3000 = x1 at *; generalize Jad (gd at_ i).2.1 51 = x2 at *; generalize Jad (gd at_ i).2.2 51 = x3 at *; simp -implicitDefEqProofs (disch := omega) only [go_sem, e0, e1, e2, e3, e8, e9, e10, e11, m8, m9, mr, false_and]
        refine Jaa d1 ?_
        simp -implicitDefEqProofs (disch := omega) only [go_sem, e0, e1, e2, e3, e8, e9, e10, e11, m8, m9, mr, false_and]
        refine Jab (fun h3 => ?_) (fun h3 => ?_)
        . have hpu := hpB (fun h => by omega)
          simp -implicitDefEqProofs (disch := omega) only [go_sem, e0, e1, e2, e3, e8, e9, e10, e11, m8, m9, mr, false_and]
          refine Jae (12 - (i + 1)) (by omega) ⟨i + 1, by omega, by omega, ?_⟩
          rw [hrii, hpu]; simp -implicitDefEqProofs (disch := omega) only [go_sem, mkC, e0, e1, e2, e3, e8, e9, e10, e11, m8, m9, mr]; try rfl
        . have hRl : R.length <= 100 := by omega
          have hqt : R.take R.length = R := L0d
          simp -implicitDefEqProofs (disch := omega) only [go_sem, e0, e1, e2, e3, e8, e9, e10, e11, m8, m9, mr, false_and]
          refine Jaa d4 ?_
          simp -implicitDefEqProofs (disch := omega) only [go_sem, e0, e1, e2, e3, e8, e9, e10, e11, m8, m9, mr, false_and]
          refine Jaa d2 ?_
          simp -implicitDefEqProofs (disch := omega) only [go_sem, e0, e1, e2, e3, e8, e9, e10, e11, m8, m9, mr, false_and]
          refine Jaa d3 ?_
          simp -implicitDefEqProofs (disch := omega) only [go_sem, e0, e1, e2, e3, e8, e9, e10, e11, m8, m9, mr, false_and]
          refine Jab (fun h4 => ?_) (fun h4 => ?_)
          . have hpu := hpA (by omega) (.inl (by omega))
            simp -implicitDefEqProofs (disch := omega) only [go_sem, e0, e1, e2, e3, e8, e9, e10, e11, m8, m9, mr, false_and, hRl, hqt]
            refine Jae (12 - (i + 1)) (by omega) ⟨i + 1, by omega, by omega, ?_⟩
            rw [hrii, hpu]; simp -implicitDefEqProofs (disch := omega) only [go_sem, mkC, e0, e1, e2, e3, e8, e9, e10, e11, m8, m9, mr, false_and, hRl, hqt, L08, L0f, L0z]; try simp
          . have hj : ((R.length : Int) - 1).toNat = R.length - 1 := by omega
            simp -implicitDefEqProofs (disch := omega) only [go_sem, e0, e1, e2, e3, e8, e9, e10, e11, m8, m9, mr, false_and, hj]
            refine Jab (fun h5 => ?_) (fun h5 => ?_)
            . have hpu := hpA (by omega) (.inr ⟨by omega, h5⟩)
              simp -implicitDefEqProofs (disch := omega) only [go_sem, e0, e1, e2, e3, e8, e9, e10, e11, m8, m9, mr, false_and, hRl, hqt]
              refine Jae (12 - (i + 1)) (by omega) ⟨i + 1, by omega, by omega, ?_⟩
              rw [hrii, hpu]; simp -implicitDefEqProofs (disch := omega) only [go_sem, mkC, e0, e1, e2, e3, e8, e9, e10, e11, m8, m9, mr, false_and, hRl, hqt, L08, L0f, L0z]; try simp
            . have hpu := hpB (fun h => by rcases h.2 with h | h; omega; exact h5 h.2)
              simp -implicitDefEqProofs (disch := omega) only [go_sem, e0, e1, e2, e3, e8, e9, e10, e11, m8, m9, mr, false_and]
              refine Jae (12 - (i + 1)) (by omega) ⟨i + 1, by omega, by omega, ?_⟩
              rw [hrii, hpu]; simp -implicitDefEqProofs (disch := omega) only [go_sem, mkC, e0, e1, e2, e3, e8, e9, e10, e11, m8, m9, mr, false_and]; try rfl
      . have hf := fin (.inl (by omega))
        rw [hf] at m9 mr; simp -implicitDefEqProofs (disch := omega) only [go_sem, e0, e1, e2, e3, e8, e9, e10, e11, m8, m9, mr, false_and]
        refine Jae (3000 - (T + 1)) (by omega) ⟨T + 1, by omega, ?_⟩
        rw [hM']; simp -implicitDefEqProofs (disch := omega) only [go_sem, mkC, e0, e1, e2, e3, e8, e9, e10, m8, m9, mr, false_and]; try rfl
    . have hf := fin (.inr (by omega))
      rw [hf] at m9 mr; simp -implicitDefEqProofs (disch := omega) only [go_sem, e0, e1, e2, e3, e8, e9, e10, e11, m8, m9, mr, false_and]
      refine Jae (3000 - (T + 1)) (by omega) ⟨T + 1, by omega, ?_⟩
      rw [hM']; simp -implicitDefEqProofs (disch := omega) only [go_sem, mkC, e0, e1, e2, e3, e8, e9, e10, m8, m9, mr, false_and]; try rfl
  . obtain rfl : T = 3000 := by omega
    generalize JcK d start rates at_ 3000 = M at *
    have hqt : M.take M.length = M := L0d
    simp -implicitDefEqProofs (disch := omega) only [go_sem, e0, e1, e2, e3, e8, e9, e10, m8, m9, mr, false_and]
    refine JaK Plain.mono [115343504, 115343505] ?_
    simp -implicitDefEqProofs (disch := omega) only [go_sem, e0, e1, e2, e3, e8, e9, e10, m8, m9, mr, hqt, L05]; simp -implicitDefEqProofs (disch := omega) only [go_sem, e0, e1, e2, e3, e8, e9, e10, m8, m9, mr, hqt, L05, results54]
abbrev CNP (n : Cn) : AV := .agg [I n.b, I n.e]
abbrev LGP (l : Lg) : AV := .agg [I l.f, I l.t, I l.g.b, I l.g.e, I l.k.b, I l.k.e]
abbrev WNP (w : Int × Int) : AV := .agg [I w.1, I w.2]
abbrev SNP (s : Sn) : AV := .agg [I s.b.1, I s.b.2, I s.e.1, I s.e.2]
abbrev CRP (y : Cr) : AV := .agg [I y.d, I y.s, SL y.r, QTS y.at_]
def Cr.ok (y : Cr) : Prop := R64 y.d /\ R64 y.s /\ (∀ r ∈ y.r, R64 r) /\ y.r.length <= 9223372036854775807 /\ (∀ q ∈ y.at_, T3ok q) /\ y.at_.length <= 9223372036854775807
theorem JlW (l : Lg) : legF l = (decide (0 <= l.f /\ l.f <= 7) && (decide (0 <= l.t /\ l.t <= 7) && (decide (l.f ≠ l.t) && (cntF l.g && cntF l.k)))) := by
  unfold legF; simp only [Bool.decide_and, L1r]
theorem Jbo (y : Cr) (h : y.ok) : Ev prog 16 [CRP y] (CKP y.clk) := by
  obtain ⟨h1, h2, h3, h4, h5, h6⟩ := h; have c := Jw4 y.d y.s y.r y.at_ h1 h2 h3 h4 h5 h6; unfold Cr.clk; generalize clkF y.d y.s y.r y.at_ = ck at *
  refine EV func16 ?_
  simp -implicitDefEqProofs (disch := omega) only [go_sem, ntmps16]
  refine Jaa c ?_
  simp -implicitDefEqProofs (disch := omega) only [go_sem, results16]
theorem Jh6 (y : Cr) (t : Int) (h : y.ok) (ht : 0 <= t /\ t <= 1000000) : Ev prog 72 [CRP y, I t] (I (y.show t)) := by
  obtain ⟨h1, h2, h3, h4, h5, h6⟩ := h; have c := Jmh y.d y.s y.r t h1 h2 h3 h4 ht
  unfold Cr.show
  generalize JaL (Jad y.d 101) y.s y.r t = ck at *
  refine EV func72 ?_
  simp -implicitDefEqProofs (disch := omega) only [go_sem, ntmps72]
  refine Jaa c ?_
  simp -implicitDefEqProofs (disch := omega) only [go_sem, results72]
theorem JbD (y : Cr) (f t : Int) (h : y.ok) (hf : 0 <= f /\ f <= 1000000) (ht : 0 <= t /\ t <= 1000000) : Ev prog 28 [CRP y, I f, I t] (CNP (y.cnt f t)) := by
  have c1 := Jh6 y f h hf; have c2 := Jh6 y t h ht; unfold Cr.cnt
  generalize y.show f = a at *
  generalize y.show t = b at *
  refine EV func28 ?_
  simp -implicitDefEqProofs (disch := omega) only [go_sem, ntmps28]
  refine Jaa c1 ?_
  simp -implicitDefEqProofs (disch := omega) only [go_sem]
  refine Jaa c2 ?_
  simp -implicitDefEqProofs (disch := omega) only [go_sem, results28]
theorem Jdd (n a b : Int) : Ev prog 70 [I n, I a, I b] (B (decide (a <= n /\ n <= b))) := by
  refine EV func70 ?_
  simp -implicitDefEqProofs (disch := omega) only [go_sem, ntmps70]
  refine Jab (fun h1 => ?_) (fun h1 => ?_)
  . simp -implicitDefEqProofs (disch := omega) only [go_sem, h1, results70]
    try simp [h1]
  . simp -implicitDefEqProofs (disch := omega) only [go_sem, h1, results70]
    try simp [h1]
theorem JoN (n a b : Int) : Ev prog 59 [I n, I a, I b] (B (decide (a <= n /\ n <= b))) := by
  refine EV func59 ?_
  simp -implicitDefEqProofs (disch := omega) only [go_sem, ntmps59]
  refine Jab (fun h1 => ?_) (fun h1 => ?_)
  . simp -implicitDefEqProofs (disch := omega) only [go_sem, h1, results59]
    try simp [h1]
  . simp -implicitDefEqProofs (disch := omega) only [go_sem, h1, results59]
    try simp [h1]
theorem Jdc (n : Int) : Ev prog 108 [I n] (B (decide (0 <= n /\ n <= 7))) := by
  refine EV func108 ?_
  simp -implicitDefEqProofs (disch := omega) only [go_sem, ntmps108]
  refine Jaa (Jdd n 0 7) ?_
  simp -implicitDefEqProofs (disch := omega) only [go_sem, results108]
theorem Jfs (n : Cn) : Ev prog 83 [CNP n] (B (cntF n)) := by
  have c := Jdd n.b 0 n.e
  obtain ⟨z, hz⟩ : ∃ z, cntF n = z := ⟨_, rfl⟩
  have hz2 : z = true ↔ 0 <= n.b /\ n.b <= n.e /\ n.e <= 10000000 := by rw [<- hz]; exact Jb0
  rw [hz]
  refine EV func83 ?_
  simp -implicitDefEqProofs (disch := omega) only [go_sem, ntmps83]
  by_cases h : 0 <= n.b /\ n.b <= n.e
  . rw [decide_eq_true h] at c
    refine Jaa c ?_
    simp -implicitDefEqProofs (disch := omega) only [go_sem, results83]
    cases z with
    | true => rw [decide_eq_true (hz2.1 rfl).2.2]
    | false => rw [decide_eq_false (fun h3 => by have := hz2.2 ⟨h.1, h.2, h3⟩; cases this)]
  . rw [decide_eq_false h] at c
    refine Jaa c ?_
    simp -implicitDefEqProofs (disch := omega) only [go_sem, results83]
    cases z with
    | true => exact absurd ⟨(hz2.1 rfl).1, (hz2.1 rfl).2.1⟩ h
    | false => rfl
theorem Jjk (n : Cn) : Ev prog 95 [CNP n] (B (cntF n)) := by
  obtain ⟨z, hz⟩ : ∃ z, cntF n = z := ⟨_, rfl⟩
  have hz2 : z = true ↔ 0 <= n.b /\ n.b <= n.e /\ n.e <= 10000000 := by rw [<- hz]; exact Jb0
  rw [hz]
  refine EV func95 ?_
  simp -implicitDefEqProofs (disch := omega) only [go_sem, ntmps95]
  refine Jab (fun h1 => ?_) (fun h1 => ?_)
  . simp -implicitDefEqProofs (disch := omega) only [go_sem]
    refine Jab (fun h2 => ?_) (fun h2 => ?_)
    . simp -implicitDefEqProofs (disch := omega) only [go_sem, results95]
      cases z with
      | true => rw [decide_eq_true (hz2.1 rfl).2.2]
      | false => rw [decide_eq_false (fun h3 => by have := hz2.2 ⟨h1, h2, h3⟩; cases this)]
    . simp -implicitDefEqProofs (disch := omega) only [go_sem, results95]
      cases z with
      | true => exact absurd (hz2.1 rfl).2.1 h2
      | false => rfl
  . simp -implicitDefEqProofs (disch := omega) only [go_sem, results95]
    cases z with
    | true => exact absurd (hz2.1 rfl).1 h1
    | false => rfl
theorem Jgb (l : Lg) : Ev prog 73 [LGP l] (B (legF l)) := by
  have c1 := Jdc l.f; have c2 := Jdc l.t; have c3 := Jfs l.g; have c4 := Jfs l.k; rw [JlW]; generalize decide (0 <= l.f /\ l.f <= 7) = b1 at *; generalize decide (0 <= l.t /\ l.t <= 7) = b2 at *; generalize cntF l.g = b3 at *; generalize cntF l.k = b4 at *
  refine EV func73 ?_
  simp -implicitDefEqProofs (disch := omega) only [go_sem, ntmps73]
  refine Jaa c1 ?_
  cases b1
  . simp -implicitDefEqProofs (disch := omega) only [go_sem, results73]; try rfl
  simp -implicitDefEqProofs (disch := omega) only [go_sem]
  refine Jaa c2 ?_
  cases b2
  . simp -implicitDefEqProofs (disch := omega) only [go_sem, results73]; try rfl
  simp -implicitDefEqProofs (disch := omega) only [go_sem]
  refine Jab (fun h1 => ?_) (fun h1 => ?_)
  rotate_left
  . rw [decide_eq_false h1]; simp -implicitDefEqProofs (disch := omega) only [go_sem, results73]; try rfl
  rw [decide_eq_true h1]; simp -implicitDefEqProofs (disch := omega) only [go_sem]
  refine Jaa c3 ?_
  cases b3
  . simp -implicitDefEqProofs (disch := omega) only [go_sem, results73]; try rfl
  simp -implicitDefEqProofs (disch := omega) only [go_sem]
  refine Jaa c4 ?_
  cases b4 <;> (simp -implicitDefEqProofs (disch := omega) only [go_sem, results73]; try rfl)
theorem Jt8 (l : Lg) : Ev prog 58 [LGP l] (B (legF l)) := by
  have c1 := JoN l.f 0 7; have c2 := JoN l.t 0 7; have c3 := Jjk l.g; have c4 := Jjk l.k; rw [JlW]; generalize decide (0 <= l.f /\ l.f <= 7) = b1 at *; generalize decide (0 <= l.t /\ l.t <= 7) = b2 at *; generalize cntF l.g = b3 at *; generalize cntF l.k = b4 at *
  refine EV func58 ?_
  simp -implicitDefEqProofs (disch := omega) only [go_sem, ntmps58]
  refine Jaa c1 ?_
  cases b1
  . simp -implicitDefEqProofs (disch := omega) only [go_sem, results58]; try rfl
  simp -implicitDefEqProofs (disch := omega) only [go_sem]
  refine Jaa c2 ?_
  cases b2
  . simp -implicitDefEqProofs (disch := omega) only [go_sem, results58]; try rfl
  simp -implicitDefEqProofs (disch := omega) only [go_sem]
  refine Jab (fun h1 => ?_) (fun h1 => ?_)
  rotate_left
  . rw [decide_eq_false h1]; simp -implicitDefEqProofs (disch := omega) only [go_sem, results58]; try rfl
  rw [decide_eq_true h1]; simp -implicitDefEqProofs (disch := omega) only [go_sem]
  refine Jaa c3 ?_
  cases b3
  . simp -implicitDefEqProofs (disch := omega) only [go_sem, results58]; try rfl
  simp -implicitDefEqProofs (disch := omega) only [go_sem]
  refine Jaa c4 ?_
  cases b4 <;> (simp -implicitDefEqProofs (disch := omega) only [go_sem, results58]; try rfl)
abbrev spV (o : Option Sn) : AV := match o with
  | some s => .tup [SNP s, I 0]
  | none => .tup [SNP ⟨(0, 0), (0, 0)⟩, I 380]
abbrev agV (o : Option Sn) : AV := match o with
  | some s => .tup [SNP s, B true]
  | none => .tup [SNP ⟨(0, 0), (0, 0)⟩, B false]
theorem Jsh (c : Ck) (t : Int) (hl : c.r.length <= 9223372036854775807) : Ev prog 82 [CKP c, I t] (match atF c t with | some w => .tup [WNP w, B true] | none => .tup [WNP (0, 0), B false]) := by
  have h := JBj c t hl; generalize atF c t = o at *
  refine EV func82 ?_
  simp -implicitDefEqProofs (disch := omega) only [go_sem, ntmps82]
  cases o with
  | none =>
    refine Jaa h ?_
    simp -implicitDefEqProofs (disch := omega) only [go_sem, results82]
  | some w =>
    refine Jaa h ?_
    simp -implicitDefEqProofs (disch := omega) only [go_sem, results82]
theorem JcI (c : Ck) (n : Cn) (hl : c.r.length <= 9223372036854775807) : Ev prog 37 [CKP c, CNP n] (spV (Jbx c n)) := by
  have h1 := Jsh c n.b hl; have h2 := Jsh c n.e hl; have h3 := Jfs n; unfold Jbx; generalize atF c n.b = o1 at *; generalize atF c n.e = o2 at *; generalize cntF n = b at *
  refine EV func37 ?_
  simp -implicitDefEqProofs (disch := omega) only [go_sem, ntmps37]
  cases o1 <;> cases o2
  . refine Jaa h1 ?_
    simp -implicitDefEqProofs (disch := omega) only [go_sem]
    refine Jaa h2 ?_
    simp -implicitDefEqProofs (disch := omega) only [go_sem, results37]
  . refine Jaa h1 ?_
    simp -implicitDefEqProofs (disch := omega) only [go_sem]
    refine Jaa h2 ?_
    simp -implicitDefEqProofs (disch := omega) only [go_sem, results37]
  . refine Jaa h1 ?_
    simp -implicitDefEqProofs (disch := omega) only [go_sem]
    refine Jaa h2 ?_
    simp -implicitDefEqProofs (disch := omega) only [go_sem, results37]
  . refine Jaa h1 ?_
    simp -implicitDefEqProofs (disch := omega) only [go_sem]
    refine Jaa h2 ?_
    simp -implicitDefEqProofs (disch := omega) only [go_sem]
    refine Jaa h3 ?_
    cases b <;> simp -implicitDefEqProofs (disch := omega) only [go_sem, results37]
theorem Jqf (w v : Int × Int) : Ev prog 74 [WNP w, WNP v] (WNP (Jbe w v)) := by
  refine EV func74 ?_
  simp -implicitDefEqProofs (disch := omega) only [go_sem, ntmps74, results74]
  rfl
theorem JhK (w : Int × Int) : Ev prog 75 [WNP w] (B (decide (w.2 < w.1))) := by
  refine EV func75 ?_
  simp -implicitDefEqProofs (disch := omega) only [go_sem, ntmps75, results75]
theorem Jfk (s : Sn) : Ev prog 21 [SNP s] (WNP (JaZ s)) := by
  refine EV func21 ?_
  simp -implicitDefEqProofs (disch := omega) only [go_sem, ntmps21, results21]
  rfl
def Jr7 (o1 o2 : Option Sn) (q : Bool) : Option Sn := match o1, o2 with
  | some s, some t => if q = true then Jhw s t else none
  | _, _ => none
theorem Jqp (a b : Ck) (l : Lg) : Jbr a b l = Jr7 (Jbx a l.g) (Jbx b l.k) (legF l) := rfl
theorem Jdw (a b : Ck) (l : Lg) (ha : a.r.length <= 9223372036854775807) (hb : b.r.length <= 9223372036854775807) : Ev prog 29 [CKP a, CKP b, LGP l] (agV (Jbr a b l)) := by
  have h1 := JcI a l.g ha; have h2 := JcI b l.k hb; have h3 := Jgb l; rw [Jqp]; generalize Jbx a l.g = o1 at *; generalize Jbx b l.k = o2 at *; generalize legF l = q at *
  refine EW [5] func29 ?_
  simp -implicitDefEqProofs (disch := omega) only [go_sem, ntmps29]
  cases o1 <;> cases o2
  . refine Jaa h1 ?_
    simp -implicitDefEqProofs (disch := omega) only [go_sem]
    refine Jaa h2 ?_
    simp -implicitDefEqProofs (disch := omega) only [go_sem]
    refine Jaa h3 ?_
    cases q <;> (simp -implicitDefEqProofs (disch := omega) only [go_sem, results29]; try rfl)
  . refine Jaa h1 ?_
    simp -implicitDefEqProofs (disch := omega) only [go_sem]
    refine Jaa h2 ?_
    simp -implicitDefEqProofs (disch := omega) only [go_sem]
    refine Jaa h3 ?_
    cases q <;> (simp -implicitDefEqProofs (disch := omega) only [go_sem, results29]; try rfl)
  . refine Jaa h1 ?_
    simp -implicitDefEqProofs (disch := omega) only [go_sem]
    refine Jaa h2 ?_
    simp -implicitDefEqProofs (disch := omega) only [go_sem]
    refine Jaa h3 ?_
    cases q <;> (simp -implicitDefEqProofs (disch := omega) only [go_sem, results29]; try rfl)
  . rename_i s t
    refine Jaa h1 ?_
    simp -implicitDefEqProofs (disch := omega) only [go_sem]
    refine Jaa h2 ?_
    simp -implicitDefEqProofs (disch := omega) only [go_sem]
    refine Jaa h3 ?_
    cases q
    . simp -implicitDefEqProofs (disch := omega) only [go_sem, results29]; try rfl
    . have c1 := Jqf s.b t.b; have c2 := Jqf s.e t.e
      have hm : Jhw s t = if (Jbe s.b t.b).1 <= (Jbe s.b t.b).2 /\ (Jbe s.e t.e).1 <= (Jbe s.e t.e).2 /\ (Jbe s.b t.b).1 <= (Jbe s.e t.e).2 then some ⟨Jbe s.b t.b, Jbe s.e t.e⟩ else none := rfl
      have hw : Jr7 (some s) (some t) true = Jhw s t := rfl
      rw [hw, hm]; clear hw; clear hm; generalize Jbe s.b t.b = w at *; generalize Jbe s.e t.e = v at *; have c3 := JhK w; have c4 := JhK v; simp -implicitDefEqProofs (disch := omega) only [go_sem]
      refine Jd5 (fun D E σ => E 6 = .ptr 62914656 4 0 0 /\ E 8 = .ptr 62914688 4 0 0 /\ E 10 = .ptr 62914720 4 0 0 /\ σ 62914656 = some ⟨39, 4, [.agg [I 0, I 0, I 0, I 0]]⟩ /\ σ 62914688 = some ⟨39, 4, [SNP s]⟩ /\ σ 62914720 = some ⟨39, 4, [SNP t]⟩ /\ (D 16 = true -> D 14 = true) /\ (D 17 = true -> D 15 = true) /\ (D 14 = true -> D 16 = false -> σ 62914752 = some ⟨147, 2, [.agg [I 0, I 0]]⟩) /\ (D 16 = true -> σ 62914752 = some ⟨147, 2, [.agg [I w.1, I w.2]]⟩) /\ (D 15 = true -> D 17 = false -> σ 62914768 = some ⟨147, 2, [.agg [I 0, I 0]]⟩) /\ (D 17 = true -> σ 62914768 = some ⟨147, 2, [.agg [I v.1, I v.2]]⟩) /\ (D 0 = true -> E 40 = .ptr 62914688 4 0 0) /\ (D 1 = true -> E 41 = .agg [I s.b.1, I s.b.2]) /\ (D 2 = true -> E 42 = .agg [I s.b.1, I s.b.2]) /\ (D 3 = true -> E 43 = .ptr 62914720 4 0 0) /\ (D 4 = true -> E 44 = .agg [I t.b.1, I t.b.2]) /\ (D 5 = true -> E 45 = .agg [I w.1, I w.2]) /\ (D 6 = true -> E 46 = .agg [I w.1, I w.2]) /\ (D 7 = true -> E 47 = .ptr 62914688 4 0 2) /\ (D 8 = true -> E 48 = .agg [I s.e.1, I s.e.2]) /\ (D 9 = true -> E 49 = .agg [I s.e.1, I s.e.2]) /\ (D 10 = true -> E 50 = .ptr 62914720 4 0 2) /\ (D 11 = true -> E 51 = .agg [I t.e.1, I t.e.2]) /\ (D 12 = true -> E 52 = .agg [I v.1, I v.2]) /\ (D 13 = true -> E 53 = .agg [I v.1, I v.2]) /\ (D 14 = true -> E 12 = .ptr 62914752 2 0 0) /\ (D 15 = true -> E 13 = .ptr 62914768 2 0 0)) ?_ ?_ ?_
      . simp -implicitDefEqProofs (disch := omega) only [go_sem, false_and, and_self]; try simp
      . simp only [Jfd, depK, Region.binds, eq_self, forall_const, and_true]
        repeat' apply And.intro
        all_goals
          rintro D E σ ⟨e6, e8, e10, b6, b8, b10, c16_14, c17_15, m0_0, m0_1, m1_0, m1_1, j0, j1, j2, j3, j4, j5, j6, j7, j8, j9, j10, j11, j12, j13, j14, j15⟩ hd
          have k := And.intro trivial <| And.intro (cK c16_14) <| And.intro (cK c17_15) trivial
          simp -implicitDefEqProofs (disch := first | assumption | (simp only [hd, k]; done) | omega) only [go_sem, e6, e8, e10, b6, b8, b10, m0_0, m0_1, m1_0, m1_1, j0, j1, j2, j3, j4, j5, j6, j7, j8, j9, j10, j11, j12, j13, j14, j15, false_and, and_self]
          try ((first | refine Jaa c1 ?_ | refine Jaa c2 ?_); simp -implicitDefEqProofs (disch := first | assumption | (simp only [hd, k]; done) | omega) only [go_sem, e6, e8, e10, b6, b8, b10, m0_0, m0_1, m1_0, m1_1, j0, j1, j2, j3, j4, j5, j6, j7, j8, j9, j10, j11, j12, j13, j14, j15, false_and, and_self])
          repeat' apply And.intro
          all_goals first | assumption | (intro _; assumption) | trivial | (simp -implicitDefEqProofs (contextual := true) (disch := first | assumption | omega) only [go_sem, m0_0, m0_1, m1_0, m1_1, j0, j1, j2, j3, j4, j5, j6, j7, j8, j9, j10, j11, j12, j13, j14, j15, hd, c16_14, c17_15, k, implies_true, forall_const, false_implies, true_implies]; done) | (intro h; intros; exfalso; simp (maxDischargeDepth := 9) [hd, k] at h; done) | (intros; contradiction) | trace_state
      . rintro D E σ hD ⟨e6, e8, e10, b6, b8, b10, c16_14, c17_15, m0_0, m0_1, m1_0, m1_1, j0, j1, j2, j3, j4, j5, j6, j7, j8, j9, j10, j11, j12, j13, j14, j15⟩
        have g0 := m0_1 (hD 16 (by decide))
        have g1 := m1_1 (hD 17 (by decide))
        have q0 := j0 (hD 0 (by decide))
        have q1 := j1 (hD 1 (by decide))
        have q2 := j2 (hD 2 (by decide))
        have q3 := j3 (hD 3 (by decide))
        have q4 := j4 (hD 4 (by decide))
        have q5 := j5 (hD 5 (by decide))
        have q6 := j6 (hD 6 (by decide))
        have q7 := j7 (hD 7 (by decide))
        have q8 := j8 (hD 8 (by decide))
        have q9 := j9 (hD 9 (by decide))
        have q10 := j10 (hD 10 (by decide))
        have q11 := j11 (hD 11 (by decide))
        have q12 := j12 (hD 12 (by decide))
        have q13 := j13 (hD 13 (by decide))
        have q14 := j14 (hD 14 (by decide))
        have q15 := j15 (hD 15 (by decide))
        clear c16_14 c17_15 m0_0 m0_1 m1_0 m1_1 j0 j1 j2 j3 j4 j5 j6 j7 j8 j9 j10 j11 j12 j13 j14 j15 hD; clear e8 e10 b8 b10; simp -implicitDefEqProofs (disch := omega) only [go_sem, e6, b6, q14, q15, g0, g1]
        refine Jaa c3 ?_
        by_cases h5 : w.2 < w.1
        . rw [decide_eq_true h5, if_neg (fun h => by omega)]
          simp -implicitDefEqProofs (disch := omega) only [go_sem, e6, b6, q14, q15, g0, g1, results29]
        rw [decide_eq_false h5]; simp -implicitDefEqProofs (disch := omega) only [go_sem, e6, b6, q14, q15, g0, g1]
        refine Jaa c4 ?_
        by_cases h6 : v.2 < v.1
        . rw [decide_eq_true h6, if_neg (fun h => by omega)]
          simp -implicitDefEqProofs (disch := omega) only [go_sem, e6, b6, q14, q15, g0, g1, results29]
        rw [decide_eq_false h6]; simp -implicitDefEqProofs (disch := omega) only [go_sem, e6, b6, q14, q15, g0, g1]
        refine Jab (fun h7 => ?_) (fun h7 => ?_)
        . rw [if_neg (fun h => by omega)]
          simp -implicitDefEqProofs (disch := omega) only [go_sem, e6, b6, q14, q15, g0, g1, results29]
        . rw [if_pos ⟨by omega, by omega, by omega⟩]
          simp -implicitDefEqProofs (disch := omega) only [go_sem, e6, b6, q14, q15, g0, g1, results29]
abbrev bPP (u : Bool) : AV := if u then .ptr 171966512 2 0 0 else .v (.pointer none)
@[go_sem] theorem bPP_f : bPP false = .v (.pointer none) := rfl
@[go_sem] theorem bPP_t : bPP true = .ptr 171966512 2 0 0 := rfl
abbrev bLP (u : Bool) (l : List Int) : List (Nat × Blk) := [(171966512, ⟨207, 2, [.agg [bPP u, .own 171966513 1 0 l.length]]⟩), (171966513, ⟨5, 1, l.map Y⟩)]
set_option maxHeartbeats 1000000 in
theorem Jn3 (u : Bool) (l : List Int) : LOK prog 171 (inI [171966512, 171966513]) [.ptr 171966512 2 0 0] (stO (bLP u l)) (.tup []) (stO (bLP true l)) := by
  refine JcJ [] [171966512, 171966513] func171 rfl (by kernel_rfl) mo (nb rfl) rfl (by kernel_rfl) (by kernel_rfl) ?_
  cases u with
  | false =>
    simp -implicitDefEqProofs (disch := omega) only [go_sem, ntmps171]
    refine Je4 (te := 207) true (.inl ⟨by simp -implicitDefEqProofs (disch := omega) only [go_sem], rfl⟩) rfl true (.inl ⟨rfl, rfl⟩) ?_
    simp -implicitDefEqProofs (disch := omega) only [go_sem]
    refine Jhl (te := 207) (k := ⟨207, 2, [.agg [.v (.pointer none), .own 171966513 1 0 l.length]]⟩) (id := 171966512) (sz := 2) (j := 0) (by simp -implicitDefEqProofs (disch := omega) only [go_sem]) (by simp -implicitDefEqProofs (disch := omega) only [go_sem]) rfl (by decide) (by show 0 < 1 * 2; omega) rfl rfl rfl (by decide) ?_
    simp -implicitDefEqProofs (disch := omega) only [go_sem]
    refine Jam rfl ?_
    refine JgX (.ptr 171966512 2 0 0) (by simp -implicitDefEqProofs (disch := omega) only [go_sem]) func203 rfl rfl rfl rfl ?_
    simp -implicitDefEqProofs (disch := omega) only [go_sem]
    refine Jg0 (te := 207) (k := ⟨207, 2, [.agg [.v (.pointer none), .own 171966513 1 0 l.length]]⟩) (id := 171966512) (sz := 2) (j := 0) (by simp -implicitDefEqProofs (disch := omega) only [go_sem]) (by simp -implicitDefEqProofs (disch := omega) only [go_sem]) rfl (by decide) (by simp) rfl rfl rfl (show prog.cellsOf 207 ≠ 0 /\ prog.cellsOf 207 <= 2 from by decide +kernel) (by kernel_rfl) ?_
    simp -implicitDefEqProofs (disch := omega) only [go_sem, results171]
  | true =>
    simp -implicitDefEqProofs (disch := omega) only [go_sem, ntmps171]
    refine Je4 (te := 207) false (.inr (.inl ⟨⟨171966512, 2, 0, 0, by simp -implicitDefEqProofs (disch := omega) only [go_sem]⟩, rfl⟩)) rfl false (.inl ⟨rfl, rfl⟩) ?_
    simp -implicitDefEqProofs (disch := omega) only [go_sem]
    refine Jh1 (te := 207) (id := 171966512) (sz := 2) (i := 0) (j := 0) (by simp -implicitDefEqProofs (disch := omega) only [go_sem]) (by simp -implicitDefEqProofs (disch := omega) only [go_sem]) rfl rfl false (.inr ⟨rfl, rfl⟩) ?_
    simp -implicitDefEqProofs (disch := omega) only [go_sem, results171]
set_option maxHeartbeats 1000000 in
theorem Jqg (u : Bool) (l : List Int) (s : ByteArray) (hl : l.length + s.size <= 100000000) : LOK prog 127 (inI [171966512]) [.ptr 171966512 2 0 0, Str s] (stO (bLP u l)) (.tup [I s.size, .v .nilIface]) (stO (bLP true (l ++ bI s))) := by
  refine JcJ [] [171966512] func127 rfl (by kernel_rfl) mo (nb rfl) rfl (by kernel_rfl) (by kernel_rfl) ?_
  have hbl := JaJ s; simp -implicitDefEqProofs (disch := omega) only [go_sem, ntmps127]
  refine Jam rfl ?_
  have hL : LOK prog 171 (inI [171966512, 171966513]) ([.ptr 171966512 2 0 0] ++ []) (stO (bLP u l)) (.tup []) (stO (bLP true l)) := Jn3 u l
  refine Jcq [171966512, 171966513] hL ?_ ?_ ?_ ?_ ?_ ?_ ?_ (hsp := fun id h _ => L0G.2 h)
  . simp -implicitDefEqProofs (disch := omega) only [go_sem]
  . simp -implicitDefEqProofs (disch := omega) only [go_sem]
  . simp -implicitDefEqProofs (disch := omega) only [go_sem]
  . simp -implicitDefEqProofs (disch := omega) only [go_sem]
  . cases u <;> simp -implicitDefEqProofs (disch := omega) only [go_sem]
  . simp -implicitDefEqProofs (disch := omega) only [go_sem]
  . simp -implicitDefEqProofs (disch := omega) only [go_sem, L08, hbl, results127, L0d, and_self]
theorem Jnr (u : Bool) (s : ByteArray) (h0 : s.size ≠ 0) (hs : s.size <= 100000000) : LOK prog 128 (inI [171966512]) [.ptr 171966512 2 0 0] (stO (bLP u (bI s))) (Str s) (stO [(171966512, ⟨207, 2, [.agg [bPP u, .any]]⟩), (171966513, ⟨5, 1, []⟩)]) := by
  refine JcJ [] [171966512] func128 rfl (by kernel_rfl) mo (nb rfl) rfl (by kernel_rfl) (by kernel_rfl) ?_
  have hbl := JaJ s
  obtain ⟨m, hm⟩ : ∃ m, s.size = m + 1 := ⟨s.size - 1, by omega⟩
  simp -implicitDefEqProofs (disch := omega) only [go_sem, ntmps128, hbl, hm]
  refine Jf3 (e := 5) (id := 171966513) s (by simp -implicitDefEqProofs (disch := omega) only [go_sem, hbl, hm]) (by simp -implicitDefEqProofs (disch := omega) only [go_sem, hbl, hm]) (by simp -implicitDefEqProofs (disch := omega) only [go_sem, hbl, hm]) (by omega) rfl (by decide +kernel) (by simp -implicitDefEqProofs (disch := omega) only [go_sem]) (by omega) ?_
  cases u <;> simp -implicitDefEqProofs (disch := omega) only [go_sem, results128]
abbrev bPS (u : Bool) : AV := if u then .ptr 251658320 2 0 0 else .v (.pointer none)
@[go_sem] theorem bPS_f : bPS false = .v (.pointer none) := rfl
@[go_sem] theorem bPS_t : bPS true = .ptr 251658320 2 0 0 := rfl
abbrev bLS (u : Bool) (l : List Int) : List (Nat × Blk) := [(251658320, ⟨240, 2, [.agg [bPS u, .own 251658321 1 0 l.length]]⟩), (251658321, ⟨5, 1, l.map Y⟩)]
set_option maxHeartbeats 1000000 in
theorem Jn4 (u : Bool) (l : List Int) : LOK prog 171 (inI [251658320, 251658321]) [.ptr 251658320 2 0 0] (stO (bLS u l)) (.tup []) (stO (bLS true l)) := by
  refine JcJ [] [251658320, 251658321] func171 rfl (by kernel_rfl) mo (nb rfl) rfl (by kernel_rfl) (by kernel_rfl) ?_
  cases u with
  | false =>
    simp -implicitDefEqProofs (disch := omega) only [go_sem, ntmps171]
    refine Je4 (te := 207) true (.inl ⟨by simp -implicitDefEqProofs (disch := omega) only [go_sem], rfl⟩) rfl true (.inl ⟨rfl, rfl⟩) ?_
    simp -implicitDefEqProofs (disch := omega) only [go_sem]
    refine Jhl (te := 207) (k := ⟨240, 2, [.agg [.v (.pointer none), .own 251658321 1 0 l.length]]⟩) (id := 251658320) (sz := 2) (j := 0) (by simp -implicitDefEqProofs (disch := omega) only [go_sem]) (by simp -implicitDefEqProofs (disch := omega) only [go_sem]) rfl (by decide) (by show 0 < 1 * 2; omega) rfl rfl rfl (by decide) ?_
    simp -implicitDefEqProofs (disch := omega) only [go_sem]
    refine Jam rfl ?_
    refine JgX (.ptr 251658320 2 0 0) (by simp -implicitDefEqProofs (disch := omega) only [go_sem]) func203 rfl rfl rfl rfl ?_
    simp -implicitDefEqProofs (disch := omega) only [go_sem]
    refine Jg0 (te := 207) (k := ⟨240, 2, [.agg [.v (.pointer none), .own 251658321 1 0 l.length]]⟩) (id := 251658320) (sz := 2) (j := 0) (by simp -implicitDefEqProofs (disch := omega) only [go_sem]) (by simp -implicitDefEqProofs (disch := omega) only [go_sem]) rfl (by decide) (by simp) rfl rfl rfl (show prog.cellsOf 240 ≠ 0 /\ prog.cellsOf 240 <= 2 from by decide +kernel) (by kernel_rfl) ?_
    simp -implicitDefEqProofs (disch := omega) only [go_sem, results171]
  | true =>
    simp -implicitDefEqProofs (disch := omega) only [go_sem, ntmps171]
    refine Je4 (te := 207) false (.inr (.inl ⟨⟨251658320, 2, 0, 0, by simp -implicitDefEqProofs (disch := omega) only [go_sem]⟩, rfl⟩)) rfl false (.inl ⟨rfl, rfl⟩) ?_
    simp -implicitDefEqProofs (disch := omega) only [go_sem]
    refine Jh1 (te := 207) (id := 251658320) (sz := 2) (i := 0) (j := 0) (by simp -implicitDefEqProofs (disch := omega) only [go_sem]) (by simp -implicitDefEqProofs (disch := omega) only [go_sem]) rfl rfl false (.inr ⟨rfl, rfl⟩) ?_
    simp -implicitDefEqProofs (disch := omega) only [go_sem, results171]
set_option maxHeartbeats 1000000 in
theorem Jkm (u : Bool) (l : List Int) (s : ByteArray) (hl : l.length + s.size <= 100000000) : LOK prog 127 (inI [251658320]) [.ptr 251658320 2 0 0, Str s] (stO (bLS u l)) (.tup [I s.size, .v .nilIface]) (stO (bLS true (l ++ bI s))) := by
  refine JcJ [] [251658320] func127 rfl (by kernel_rfl) mo (nb rfl) rfl (by kernel_rfl) (by kernel_rfl) ?_
  have hbl := JaJ s; simp -implicitDefEqProofs (disch := omega) only [go_sem, ntmps127]
  refine Jam rfl ?_
  have hL : LOK prog 171 (inI [251658320, 251658321]) ([.ptr 251658320 2 0 0] ++ []) (stO (bLS u l)) (.tup []) (stO (bLS true l)) := Jn4 u l
  refine Jcq [251658320, 251658321] hL ?_ ?_ ?_ ?_ ?_ ?_ ?_ (hsp := fun id h _ => L0G.2 h)
  . simp -implicitDefEqProofs (disch := omega) only [go_sem]
  . simp -implicitDefEqProofs (disch := omega) only [go_sem]
  . simp -implicitDefEqProofs (disch := omega) only [go_sem]
  . simp -implicitDefEqProofs (disch := omega) only [go_sem]
  . cases u <;> simp -implicitDefEqProofs (disch := omega) only [go_sem]
  . simp -implicitDefEqProofs (disch := omega) only [go_sem]
  . simp -implicitDefEqProofs (disch := omega) only [go_sem, L08, hbl, results127, L0d, and_self]
theorem Jns (u : Bool) (s : ByteArray) (h0 : s.size ≠ 0) (hs : s.size <= 100000000) : LOK prog 128 (inI [251658320]) [.ptr 251658320 2 0 0] (stO (bLS u (bI s))) (Str s) (stO [(251658320, ⟨240, 2, [.agg [bPS u, .any]]⟩), (251658321, ⟨5, 1, []⟩)]) := by
  refine JcJ [] [251658320] func128 rfl (by kernel_rfl) mo (nb rfl) rfl (by kernel_rfl) (by kernel_rfl) ?_
  have hbl := JaJ s
  obtain ⟨m, hm⟩ : ∃ m, s.size = m + 1 := ⟨s.size - 1, by omega⟩
  simp -implicitDefEqProofs (disch := omega) only [go_sem, ntmps128, hbl, hm]
  refine Jf3 (e := 5) (id := 251658321) s (by simp -implicitDefEqProofs (disch := omega) only [go_sem, hbl, hm]) (by simp -implicitDefEqProofs (disch := omega) only [go_sem, hbl, hm]) (by simp -implicitDefEqProofs (disch := omega) only [go_sem, hbl, hm]) (by omega) rfl (by decide +kernel) (by simp -implicitDefEqProofs (disch := omega) only [go_sem]) (by omega) ?_
  cases u <;> simp -implicitDefEqProofs (disch := omega) only [go_sem, results128]
def catV : List Int -> ByteArray
  | [] => ByteArray.empty
  | n :: l => viS n ++ catV l
theorem Jgx : ∀ (l : List Int) (n : Int), catV (l ++ [n]) = catV l ++ viS n
  | [], n => by simp [catV]
  | m :: l, n => by rw [L0w, catV, catV, Jgx l n, L2l]
theorem JeI (a b : ByteArray) : bI (a ++ b) = bI a ++ bI b := by
  unfold bI; rw [ByteArray.data_append]; simp
theorem Jjh (l : List Int) : (catV l).size <= 10 * l.length := by
  induction l with
  | nil => simp [catV]
  | cons n l ih =>
    have := JaP n
    rw [catV, L0T, L0f]; omega
theorem Jqb (n : Int) : (viS n).size ≠ 0 := by
  unfold viS viB; rw [strOfNums_size, L05]; unfold grp
  split <;> simp
theorem JiP (l : Lg) (e : Int) (n : Cn) : catV [8, l.f, l.t, e, n.b, n.e] = recN l e n := by
  simp only [catV, recN, L2l, ByteArray.append_empty]
set_option maxHeartbeats 1000000 in
theorem JsO (l : List Int) (h0 : 0 < l.length) (hl : l.length <= 1000) (hr : ∀ n ∈ l, -4611686018427387903 <= n /\ n <= 4611686018427387903) : Ev prog 81 [SL l] (Str (catV l)) := by
  refine EW [2] func81 ?_
  simp -implicitDefEqProofs (disch := omega) only [go_sem, ntmps81]
  refine Jbp 171966512 171966513 0 1 5 1 (k := ⟨207, 2, [.agg [.v (.pointer none), .v (.slice none 0 0)]]⟩) (el := .agg [.v (.pointer none), .v (.slice none 0 0)]) (by simp -implicitDefEqProofs (disch := omega) only [go_sem]) (by decide) rfl rfl (by decide) (by simp -implicitDefEqProofs (disch := omega) only [go_sem]) rfl ?_
  refine Je6 Plain.mono ?_
  simp -implicitDefEqProofs (disch := omega) only [go_sem]
  refine Jag (fun k E σ => ∃ i : Nat, i + k = l.length /\ E 3 = .ptr 171966512 2 0 0 /\ E 8 = SL l /\ E 9 = I l.length /\ E 10 = I i /\ σ 171966512 = some ⟨207, 2, [.agg [bPP (decide (0 < i)), .own 171966513 1 0 (bI (catV (l.take i))).length]]⟩ /\ σ 171966513 = some ⟨5, 1, (bI (catV (l.take i))).map Y⟩) l.length ⟨0, by omega, ?_⟩ ?_
  . have hb0 : bI ByteArray.empty = [] := rfl
    simp -implicitDefEqProofs (disch := omega) only [go_sem, catV, false_and, hb0]
    try exact ⟨rfl, rfl⟩
  rintro k E σ ⟨i, hk, e3, e8, e9, e10, m3, m4⟩
  have hsz := Jjh (l.take i); rw [L02] at hsz; simp -implicitDefEqProofs (disch := omega) only [go_sem, e3, e8, e9, e10]
  refine Jab (fun hc => ?_) (fun hc => ?_)
  . have hi : i < l.length := by omega
    have hp := JjV (gd l i) (hr _ (Jas l i hi)).1 (hr _ (Jas l i hi)).2; have hvs := JaP (gd l i)
    have hnx : bI (catV (l.take (i + 1))) = bI (catV (l.take i)) ++ bI (viS (gd l i)) := by
      rw [L1b, Jbj l i hi]
      show bI (catV (l.take i ++ [gd l i])) = _
      rw [Jgx, JeI]
    have hbl : (bI (catV (l.take i))).length = (catV (l.take i)).size := JaJ _
    generalize hq : bI (catV (l.take i)) = q at *; generalize viS (gd l i) = v at *; generalize hu : decide (0 < i) = u at *; simp -implicitDefEqProofs (disch := omega) only [go_sem, e3, e8, e9, e10]
    refine Jaa hp ?_
    simp -implicitDefEqProofs (disch := omega) only [go_sem, e3, e8, e9, e10]
    refine Jam rfl ?_
    have hL : LOK prog 127 (inI [171966512]) ([.ptr 171966512 2 0 0, Str v] ++ []) (stO (bLP u q)) (.tup [I v.size, .v .nilIface]) (stO (bLP true (q ++ bI v))) := Jqg u q v (by omega)
    refine Jcq [171966512] hL ?_ ?_ ?_ ?_ ?_ ?_ ?_
    . simp -implicitDefEqProofs (disch := omega) only [go_sem, e3, e8, e9, e10]
    . simp -implicitDefEqProofs (disch := omega) only [go_sem, e3, e8, e9, e10]
    . cases u <;> simp -implicitDefEqProofs (disch := omega) only [go_sem, e3, e8, e9, e10, m3, m4]
    . cases u <;> simp -implicitDefEqProofs (disch := omega) only [go_sem, e3, e8, e9, e10]
    . cases u <;> simp -implicitDefEqProofs (disch := omega) only [go_sem, e3, e8, e9, e10]
    . simp -implicitDefEqProofs (disch := omega) only [go_sem, e3, e8, e9, e10]
    . simp -implicitDefEqProofs (disch := omega) only [go_sem, e3, e8, e9, e10]
      refine Jae (l.length - (i + 1)) (by omega) ⟨i + 1, by omega, ?_⟩
      have ht : decide (0 < i + 1) = true := decide_eq_true (by omega)
      rw [hnx, ht]; simp -implicitDefEqProofs (disch := omega) only [go_sem, e3, e8, e9, e10, m3, m4]; try simp
  . obtain rfl : i = l.length := by omega
    rw [L0d, decide_eq_true h0] at m3; rw [L0d] at m4; rw [L0d] at hsz; simp -implicitDefEqProofs (disch := omega) only [go_sem, e3, e8, e9, e10, m3, m4]
    refine Jam rfl ?_
    have hne : (catV l).size ≠ 0 := by
      cases l with
      | nil => simp at h0
      | cons n l =>
        have := Jqb n
        rw [catV, L0T]; omega
    have hL3 : LOK prog 128 (inI [171966512]) ([.ptr 171966512 2 0 0] ++ []) (stO (bLP true (bI (catV l)))) (Str (catV l)) (stO [(171966512, ⟨207, 2, [.agg [bPP true, .any]]⟩), (171966513, ⟨5, 1, []⟩)]) := Jnr true (catV l) hne (by omega)
    refine Jcq [171966512] hL3 ?_ ?_ ?_ ?_ ?_ ?_ ?_
    . simp -implicitDefEqProofs (disch := omega) only [go_sem, e3]
    . simp -implicitDefEqProofs (disch := omega) only [go_sem, e3]
    . simp -implicitDefEqProofs (disch := omega) only [go_sem, m3, m4]
    . simp -implicitDefEqProofs (disch := omega) only [go_sem]
    . simp -implicitDefEqProofs (disch := omega) only [go_sem]
    . simp -implicitDefEqProofs (disch := omega) only [go_sem]
    . simp -implicitDefEqProofs (disch := omega) only [go_sem, results81]
def recV (l : Lg) (e : Int) : AV := if legF l = true /\ (1 <= e /\ e <= 2) then .tup [Str (recF l e), I 0] else .tup [Str ⟨#[]⟩, I 380]
theorem JpB {l : Lg} (h : legF l = true) (e : Int) (he : 1 <= e /\ e <= 2) (n : Cn) (hn : cntF n = true) : ∀ x ∈ [8, l.f, l.t, e, n.b, n.e], -4611686018427387903 <= x /\ x <= 4611686018427387903 := by
  obtain ⟨h1, h2, h3⟩ := JbN.1 h
  have := Jb0.1 hn
  intro x hx
  simp only [L0h, List.mem_nil_iff, or_false] at hx
  omega
theorem JfX (l : Lg) (e : Int) : Ev prog 35 [LGP l, I e] (recV l e) := by
  have h1 := Jgb l; have h2 := Jdd e 1 2
  obtain ⟨r, hr⟩ : ∃ r, recV l e = r := ⟨_, rfl⟩
  have hyes : legF l = true -> (1 <= e /\ e <= 2) -> r = .tup [Str (recF l e), I 0] := fun a b => by rw [<- hr]; exact if_pos ⟨a, b⟩
  have hno : ¬ (legF l = true /\ (1 <= e /\ e <= 2)) -> r = .tup [Str ⟨#[]⟩, I 380] := fun a => by rw [<- hr]; exact if_neg a
  rw [hr]; clear hr
  refine EV func35 ?_
  simp -implicitDefEqProofs (disch := omega) only [go_sem, ntmps35]
  refine Jaa h1 ?_
  by_cases hl : legF l = true
  rotate_left
  . rw [hno (fun h => hl h.1)]
    have hl : legF l = false := by simpa using hl
    simp -implicitDefEqProofs (disch := omega) only [go_sem, hl, results35]
  simp -implicitDefEqProofs (disch := omega) only [go_sem, hl]
  by_cases he : 1 <= e /\ e <= 2
  rotate_left
  . rw [hno (fun h => he h.2)]
    rw [decide_eq_false he] at h2
    refine Jaa h2 ?_
    simp -implicitDefEqProofs (disch := omega) only [go_sem, results35]
  rw [decide_eq_true he] at h2; rw [hyes hl he]; clear hyes hno
  refine Jaa h2 ?_
  have hg := (JbN.1 hl).2.1; have hk := (JbN.1 hl).2.2
  obtain rfl | rfl : e = 1 \/ e = 2 := by omega
  . have hp := JsO [8, l.f, l.t, 1, l.g.b, l.g.e] (by simp) (by simp) (JpB hl 1 he l.g hg)
    rw [JiP] at hp
    have k1 : ((1 : Int) - 1).toNat = 0 := rfl
    have k2 : ((2 : Int) - 1).toNat = 1 := rfl
    simp -implicitDefEqProofs (disch := omega) only [go_sem, k1, k2]
    refine Jaa hp ?_
    simp -implicitDefEqProofs (disch := omega) only [go_sem, results35]; try rfl
  . have hp := JsO [8, l.f, l.t, 2, l.k.b, l.k.e] (by simp) (by simp) (JpB hl 2 he l.k hk)
    rw [JiP] at hp
    have k1 : ((1 : Int) - 1).toNat = 0 := rfl
    have k2 : ((2 : Int) - 1).toNat = 1 := rfl
    simp -implicitDefEqProofs (disch := omega) only [go_sem, k1, k2]
    refine Jaa hp ?_
    simp -implicitDefEqProofs (disch := omega) only [go_sem, results35]; try rfl
set_option maxHeartbeats 1000000 in
theorem Jut (l : Lg) (e : Int) : Ev prog 18 [LGP l, I e] (recV l e) := by
  have h1 := Jt8 l; have h2 := JoN e 1 2
  obtain ⟨r, hr⟩ : ∃ r, recV l e = r := ⟨_, rfl⟩
  have hyes : legF l = true -> (1 <= e /\ e <= 2) -> r = .tup [Str (recF l e), I 0] := fun a b => by rw [<- hr]; exact if_pos ⟨a, b⟩
  have hno : ¬ (legF l = true /\ (1 <= e /\ e <= 2)) -> r = .tup [Str ⟨#[]⟩, I 380] := fun a => by rw [<- hr]; exact if_neg a
  rw [hr]; clear hr
  refine EV func18 ?_
  simp -implicitDefEqProofs (disch := omega) only [go_sem, ntmps18]
  refine Jaa h1 ?_
  by_cases hl : legF l = true
  rotate_left
  . rw [hno (fun h => hl h.1)]
    have hl : legF l = false := by simpa using hl
    simp -implicitDefEqProofs (disch := omega) only [go_sem, hl, results18]
  simp -implicitDefEqProofs (disch := omega) only [go_sem, hl]
  by_cases he : 1 <= e /\ e <= 2
  rotate_left
  . rw [hno (fun h => he h.2)]
    rw [decide_eq_false he] at h2
    refine Jaa h2 ?_
    simp -implicitDefEqProofs (disch := omega) only [go_sem, results18]
  rw [decide_eq_true he] at h2; rw [hyes hl he]; clear hyes hno
  refine Jaa h2 ?_
  obtain ⟨n, hn, hrec⟩ : ∃ n : Cn, n = (if e = 1 then l.g else l.k) /\ recF l e = recN l e n := ⟨_, rfl, rfl⟩
  have hcn : cntF n = true := by
    rw [hn]; split
    . exact (JbN.1 hl).2.1
    . exact (JbN.1 hl).2.2
  have hin := JpB hl e he n hcn; rw [hrec, <- JiP]; clear hrec h1 h2; generalize hL : [8, l.f, l.t, e, n.b, n.e] = L at *
  have hLl : L.length = 6 := by rw [<- hL]; rfl
  simp -implicitDefEqProofs (disch := omega) only [go_sem]
  refine JbA (fun E σ => E 1 = I e /\ E 2 = .ptr 39845920 6 0 0 /\ E 6 = .ptr 39845984 2 0 0 /\ σ 39845920 = some ⟨33, 6, [LGP l]⟩ /\ σ 39845984 = some ⟨31, 2, [CNP n]⟩) (fun h => ?_) (fun h => ?_) ?_
  . rw [if_neg (by omega)] at hn
    subst hn; simp -implicitDefEqProofs (disch := omega) only [go_sem, false_and]
  . rw [if_pos (by omega)] at hn
    subst hn; simp -implicitDefEqProofs (disch := omega) only [go_sem]
  rintro E σ ⟨e1, e2, e6, m2, m6⟩
  simp -implicitDefEqProofs (disch := omega) only [go_sem, e1, e2, e6, m2, m6]
  refine Jag (fun k E σ => ∃ i : Nat, i + k = 6 /\ E 35 = .own 39846448 1 0 6 /\ E 36 = I 6 /\ E 37 = I i /\ E 7 = Str (catV (L.take i)) /\ σ 39846448 = some ⟨3, 1, L.map I⟩) 6 ⟨0, by omega, ?_⟩ ?_
  . rw [<- hL]; simp -implicitDefEqProofs (disch := omega) only [go_sem, e1, e2, e6, m2, m6]
    exact ⟨rfl, rfl, rfl⟩
  clear e1 e2 e6 m2 m6 E σ
  rintro k E σ ⟨i, hk, e35, e36, e37, e7, m35⟩
  simp -implicitDefEqProofs (disch := omega) only [go_sem, e35, e36, e37, e7, m35]
  refine Jab (fun hc => ?_) (fun hc => ?_)
  . have hi := hin _ (Jas L i (by omega))
    have hp := Jd3 (gd L i) hi.1 hi.2
    have hnx : catV (L.take (i + 1)) = catV (L.take i) ++ viS (gd L i) := by
      rw [L1b, Jbj L i (by omega)]; exact Jgx _ _
    have hcs := Jjh (L.take i); rw [L02] at hcs; have hvs := JaP (gd L i); simp -implicitDefEqProofs (disch := omega) only [go_sem, e35, e36, e37, e7, m35]
    refine Jaa hp ?_
    simp -implicitDefEqProofs (disch := omega) only [go_sem, e35, e36, e37, e7, m35]
    refine Jae (6 - (i + 1)) (by omega) ⟨i + 1, by omega, ?_⟩
    rw [hnx]; simp -implicitDefEqProofs (disch := omega) only [go_sem, e35, e36, e37, e7, m35]; try rfl
  . obtain rfl : i = 6 := by omega
    rw [L09 (by omega)] at e7
    simp -implicitDefEqProofs (disch := omega) only [go_sem, e35, e36, e37, e7, m35, results18]
def lenT : ByteArray := ⟨((List.range 256).map fun i => UInt8.ofNat (if i = 0 then 0 else Nat.log2 i + 1)).toArray⟩
theorem Jt9 (z : Nat) (hz : z < 64) : lenT[z]? = some (UInt8.ofNat (if z = 0 then 0 else Nat.log2 z + 1)) := by
  have : ∀ z : Fin 64, lenT[(z : Nat)]? = some (UInt8.ofNat (if (z : Nat) = 0 then 0 else Nat.log2 z + 1)) := by decide +kernel
  exact this ⟨z, hz⟩
theorem JlZ (z : Nat) (hz : z < 64) : (((UInt8.ofNat (if z = 0 then 0 else Nat.log2 z + 1)).toNat : Nat) : Int) = ((if z = 0 then 0 else Nat.log2 z + 1 : Nat) : Int) /\ (if z = 0 then 0 else Nat.log2 z + 1) <= 6 := by
  have : ∀ z : Fin 64, (((UInt8.ofNat (if (z : Nat) = 0 then 0 else Nat.log2 z + 1)).toNat : Nat) : Int) = ((if (z : Nat) = 0 then 0 else Nat.log2 z + 1 : Nat) : Int) /\ (if (z : Nat) = 0 then 0 else Nat.log2 z + 1) <= 6 := by decide +kernel
  exact this ⟨z, hz⟩
theorem Jrs {A : Prop} {T T' : ByteArray} {z : Nat} {c : UInt8} {k : AV -> Prop} (hT : T = T') (h : T'[z]? = some c) (hA : A) (hk : k (.v (.int .u8 c.toNat))) : optU A T[z]? k := by
  subst hT; rw [h]; exact ⟨hA, hk⟩
theorem Jq7 (z : Nat) (hz : z < 64) : Ev prog 196 [.v (.int .u64 z)] (I (if z = 0 then 0 else Nat.log2 z + 1 : Nat)) := by
  refine EV func196 ?_
  simp -implicitDefEqProofs (disch := omega) only [go_sem, ntmps196]
  refine Jau (by omega) ?_
  simp -implicitDefEqProofs (disch := omega) only [go_sem]
  refine Jau (by omega) ?_
  simp -implicitDefEqProofs (disch := omega) only [go_sem]
  refine Jau (by omega) ?_
  have hw : IntKind.u8.wrap (z : Int) = z := by simp [IntKind.wrap, IntKind.bits, IntKind.signed]; omega
  obtain ⟨h1, h2⟩ := JlZ z hz
  have h3 := Jt9 z hz
  generalize (if z = 0 then 0 else Nat.log2 z + 1) = m at *
  simp -implicitDefEqProofs (disch := omega) only [go_sem, hw]
  refine Jrs (T' := lenT) (by kernel_rfl) h3 (by omega) ?_
  have hw2 : IntKind.i64.wrap (m : Int) = m := Jcy (by omega)
  simp -implicitDefEqProofs (disch := omega) only [go_sem, h1, hw2, results196]
  try rw [Int.zero_add]
theorem JxL (z : Nat) (hz : z < 64) : Ev prog 164 [.v (.int .u64 z)] (I (if z = 0 then 0 else Nat.log2 z + 1 : Nat)) := by
  refine EV func164 ?_
  simp -implicitDefEqProofs (disch := omega) only [go_sem, ntmps164]
  refine Jaa (Jq7 z hz) ?_
  simp -implicitDefEqProofs (disch := omega) only [go_sem, results164]
theorem JoY (n : Nat) (h2 : 2 <= n) (hn : n <= 64) : Ev prog 120 [I n] (I (Jaw n : Nat)) := by
  have hl := JxL (n - 1) (by omega)
  have hm := JlZ (n - 1) (by omega)
  rw [if_neg (by omega)] at hl hm
  have hln : Jaw n = 2 ^ Nat.log2 (n - 1) := rfl
  obtain ⟨m, hm2⟩ : ∃ m, Nat.log2 (n - 1) = m := ⟨_, rfl⟩
  rw [hm2] at hl hln hm; rw [hln]
  have hw : IntKind.u64.wrap ((n : Int) - 1) = ((n - 1 : Nat) : Int) := by
    simp only [IntKind.wrap, IntKind.bits, IntKind.signed]; simp; omega
  have hp : (2 : Int) ^ m <= 64 := by
    have : (2 : Nat) ^ m <= 2 ^ 6 := L2n (by omega) (by omega)
    have h3 : (((2 : Nat) ^ m : Nat) : Int) <= ((2 ^ 6 : Nat) : Int) := by exact_mod_cast this
    simpa using h3
  have hp0 : (0 : Int) < (2 : Int) ^ m := Int.pow_pos (by omega)
  refine EV func120 ?_
  simp -implicitDefEqProofs (disch := omega) only [go_sem, ntmps120, hw]
  refine Jaa hl ?_
  have hx : (((m + 1 : Nat) : Int) - 1) = m := by omega
  have hmin : min m 64 = m := by omega
  have hsh : IntKind.i64.wrap ((2 : Int) ^ m) = (2 : Int) ^ m := Jcy (by omega)
  simp -implicitDefEqProofs (disch := omega) only [go_sem, hx, hmin, hsh, Int.one_mul, L18, results120]; try simp
instance : Inhabited (ByteArray × Bool) := ⟨(⟨#[]⟩, false)⟩
abbrev SLs (l : List ByteArray) : AV := .sl 1 (l.map Str)
abbrev SDP (x : ByteArray × Bool) : AV := .agg [Str x.1, B x.2]
abbrev SDS (l : List (ByteArray × Bool)) : AV := .sl 2 (l.map SDP)
section
variable (p : Nat -> Bool) (l : List (ByteArray × Bool))
@[go_sem] theorem JvV : AV.namesL p (l.map SDP) = false := Jal p l SDP fun _ => rfl
@[go_sem] theorem Jxu : AV.flatL (l.map SDP) = true := Jbi l SDP fun _ => rfl
@[go_sem] theorem JwA : JbS 2 (l.map SDP) = true := JaI 2 l SDP fun _ => ⟨rfl, rfl⟩
@[go_sem] theorem Ju9 (a : ByteArray) (b : Bool) : l.map SDP ++ [.agg [.v (.string a), .v (.bool b)]] = (l ++ [(a, b)]).map SDP := by simp
end
section
variable (p : Nat -> Bool) (l : List ByteArray)
@[go_sem] theorem JvW : AV.namesL p (l.map Str) = false := Jal p l Str fun _ => rfl
@[go_sem] theorem Jxv : AV.flatL (l.map Str) = true := Jbi l Str fun _ => rfl
@[go_sem] theorem JwB : JbS 1 (l.map Str) = true := JaI 1 l Str fun _ => ⟨rfl, rfl⟩
@[go_sem] theorem Jva (x : ByteArray) : l.map Str ++ [.v (.string x)] = (l ++ [x]).map Str := by simp
end
def bkS (l : List ByteArray) : Nat -> List (List AV)
  | 0 => []
  | k + 1 => [I k, Str (gd l k)] :: bkS l k
theorem Jfy (p : Nat -> Bool) (l : List ByteArray) : ∀ k, AV.namesL p ((bkS l k).map .tup) = false
  | 0 => rfl
  | k + 1 => by
    show AV.namesL p (.tup [I k, Str (gd l k)] :: (bkS l k).map .tup) = false
    simp only [go_sem, Jfy p l k]
    first | done | simp
attribute [go_sem] Jfy
theorem JnW (l : List ByteArray) : ∀ k, ∀ y ∈ bkS l k, y.length = 2
  | 0, y, h => by cases h
  | k + 1, y, h => by
    rcases L0h.1 h with rfl | h
    . rfl
    . exact JnW l k y h
theorem JqA (l : List ByteArray) : Ev prog 162 [SLs l] (.clo 194 [.pt (SLs l) 0]) := by
  refine Jhs (r := .clo 194 [.nptr 50 1 [SLs l]]) ?_ _
  refine EV func162 ?_
  simp -implicitDefEqProofs (disch := omega) only [go_sem, ntmps162, results162]
theorem JnQ (l : List ByteArray) (hl : l.length <= 1000000) : SOK prog 194 [.pt (SLs l) 0] (stO []) (bkS l l.length) := by
  refine Jj6 func194 rfl (by kernel_rfl) mo (nb rfl) ?_ rfl fun y => ?_
  . exact Jfy allB _ _
  simp -implicitDefEqProofs (disch := omega) only [go_sem, ntmps194]
  refine Jag (fun n E σ => E 0 = .yld y /\ E 1 = .pt (SLs l) 0 /\ E 3 = I ((n : Int) - 1) /\ n <= l.length /\ E 19 = .tup ((bkS l n).map .tup)) l.length ?_ ?_
  . simp -implicitDefEqProofs (disch := omega) only [go_sem]
    try exact L0a _
  rintro n E σ ⟨e0, e1, e3, hn, e19⟩
  simp -implicitDefEqProofs (disch := omega) only [go_sem, e0, e1, e3, e19]
  cases n with
  | zero =>
    refine Jau (by omega) ?_
    have e19 : E 19 = .tup [] := e19
    simp -implicitDefEqProofs (disch := omega) only [go_sem, e19]
    exact .inl trivial
  | succ n =>
    refine Jbl (by omega) ?_
    have e19 : E 19 = .tup (.tup [I n, Str (gd l n)] :: (bkS l n).map .tup) := e19
    have hk : ((n + 1 : Nat) : Int) - 1 = n := by omega
    simp -implicitDefEqProofs (disch := omega) only [go_sem, e0, e1, e3, e19, hk]
    refine ⟨?_, .inr trivial⟩
    refine Jae n (by omega) ?_
    simp -implicitDefEqProofs (disch := omega) only [go_sem, e0, e1, e3, e19, hk]
    try omega
def bkD (l : List (ByteArray × Bool)) : Nat -> List (List AV)
  | 0 => []
  | k + 1 => [I k, SDP (gd l k)] :: bkD l k
theorem Jfx (p : Nat -> Bool) (l : List (ByteArray × Bool)) : ∀ k, AV.namesL p ((bkD l k).map .tup) = false
  | 0 => rfl
  | k + 1 => by
    show AV.namesL p (.tup [I k, SDP (gd l k)] :: (bkD l k).map .tup) = false
    simp only [go_sem, Jfx p l k]
    first | done | simp
attribute [go_sem] Jfx
theorem JnV (l : List (ByteArray × Bool)) : ∀ k, ∀ y ∈ bkD l k, y.length = 2
  | 0, y, h => by cases h
  | k + 1, y, h => by
    rcases L0h.1 h with rfl | h
    . rfl
    . exact JnV l k y h
theorem Jqz (l : List (ByteArray × Bool)) : Ev prog 175 [SDS l] (.clo 208 [.pt (SDS l) 0]) := by
  refine Jhs (r := .clo 208 [.nptr 255 1 [SDS l]]) ?_ _
  refine EV func175 ?_
  simp -implicitDefEqProofs (disch := omega) only [go_sem, ntmps175, results175]
theorem JnP (l : List (ByteArray × Bool)) (hl : l.length <= 1000000) : SOK prog 208 [.pt (SDS l) 0] (stO []) (bkD l l.length) := by
  refine Jj6 func208 rfl (by kernel_rfl) mo (nb rfl) ?_ rfl fun y => ?_
  . exact Jfx allB _ _
  simp -implicitDefEqProofs (disch := omega) only [go_sem, ntmps208]
  refine Jag (fun n E σ => E 0 = .yld y /\ E 1 = .pt (SDS l) 0 /\ E 3 = I ((n : Int) - 1) /\ n <= l.length /\ E 19 = .tup ((bkD l n).map .tup)) l.length ?_ ?_
  . simp -implicitDefEqProofs (disch := omega) only [go_sem]
    try exact L0a _
  rintro n E σ ⟨e0, e1, e3, hn, e19⟩
  simp -implicitDefEqProofs (disch := omega) only [go_sem, e0, e1, e3, e19]
  cases n with
  | zero =>
    refine Jau (by omega) ?_
    have e19 : E 19 = .tup [] := e19
    simp -implicitDefEqProofs (disch := omega) only [go_sem, e19]
    exact .inl trivial
  | succ n =>
    refine Jbl (by omega) ?_
    have e19 : E 19 = .tup (.tup [I n, SDP (gd l n)] :: (bkD l n).map .tup) := e19
    have hk : ((n + 1 : Nat) : Int) - 1 = n := by omega
    simp -implicitDefEqProofs (disch := omega) only [go_sem, e0, e1, e3, e19, hk]
    refine ⟨?_, .inr trivial⟩
    refine Jae n (by omega) ?_
    simp -implicitDefEqProofs (disch := omega) only [go_sem, e0, e1, e3, e19, hk]
    try omega
theorem JhU (σ : Jac) : only (inI []) σ = stO [] := by
  funext id
  simp [only, inI, stO]
theorem Jji {T : Type} (l : List T) (h : l ≠ []) : ∃ a b, l = a ++ [b] := ⟨l.dropLast, l.getLast h, (List.dropLast_concat_getLast h).symm⟩
theorem Jox {T : Type} [Inhabited T] (A : List T) (a b : T) : gd (A ++ [a] ++ [b]) A.length = a := by
  rw [L0O, Ja0 _ _ _ (L0a _), L1p]; rfl
theorem Joy {T : Type} [Inhabited T] (A : List T) (a b : T) : gd (A ++ [a] ++ [b]) (A.length + 1) = b := by
  rw [Ja0 _ _ _ (by simp), L08]; simp
theorem Jkg {T : Type} (A : List T) (a b : T) : (A ++ [a] ++ [b]).take A.length = A := by simp
def stR (l : List ByteArray) (i : Nat) (W : List ByteArray) (Z : List Int) (E : Env) (σ : Jac) : Prop :=
  E 11 = SLs l /\ E 12 = I l.length /\ E 13 = I i /\ E 3 = .own 249561136 1 0 W.length /\ E 4 = .own 249561152 1 0 Z.length /\
    σ 249561136 = some ⟨9, 1, W.map Str⟩ /\ σ 249561152 = some ⟨3, 1, Z.map I⟩
def lenZ (g : List (List ByteArray)) : List Int := g.map fun x => (x.length : Int)
theorem JqZ {g : List (List ByteArray)} (hd : Desc g) : g.length <= g.flatten.length := by
  induction g with
  | nil => simp
  | cons x g ih =>
    have := JiN hd.1
    have := ih hd.2.2
    rw [L1H, L08, L0f]; omega
set_option maxHeartbeats 4000000 in
theorem Jk8 (l : List ByteArray) (hl : l.length <= 1000) (hs : ∀ s ∈ l, s.size <= 1000000) : Ev prog 118 [SLs l] (Str (Jar l)) := by
  have hrs := Jcf
  refine EV func118 ?_
  simp -implicitDefEqProofs (disch := omega) only [go_sem, ntmps118]
  refine Jag (fun k E σ => ∃ (i : Nat) (g : List (List ByteArray)), i + k = l.length /\ Desc g /\ g.flatten = l.take i /\ stR l i (g.map Jar) (lenZ g) E σ) l.length ⟨0, [], by omega, trivial, rfl, ?_⟩ ?_
  . simp -implicitDefEqProofs (disch := omega) only [go_sem, stR, lenZ]; try rfl
  rintro k E σ ⟨i, g, hk, hd, hf, e11, e12, e13, e3, e4, m3, m4⟩
  have hgl := JqZ hd; rw [hf, L02] at hgl; rw [L05] at e3
  have hzl : (lenZ g).length = g.length := L05 _
  rw [hzl] at e4; simp -implicitDefEqProofs (disch := omega) only [go_sem, e11, e12, e13, e3, e4, m3, m4]
  refine Jab (fun hc => ?_) (fun hc => ?_)
  . have hi : i < l.length := by omega
    have hlf := JkQ (gd l i) (by have := hs _ (Jas l i hi); omega)
    have hroot1 : JaW (gd l i) = Jar [gd l i] := (JdI JaW Ja3 empF _).symm
    rw [hroot1] at hlf
    have hW1 : g.map Jar ++ [Jar [gd l i]] = (g ++ [[gd l i]]).map Jar := by rw [L14]; rfl
    have hZ1 : lenZ g ++ [1] = lenZ (g ++ [[gd l i]]) := by unfold lenZ; rw [L14]; rfl
    have hp0 := Jpp hd (gd l i)
    have hf0 : g.flatten ++ [gd l i] = l.take (i + 1) := by rw [hf, L1b, Jbj l i hi]; rfl
    have hml : (g.map Jar).length = g.length := L05 _
    have hgl0 : g.length <= i := by omega
    generalize hW : g.map Jar = W at *; generalize hZ : lenZ g = Z at *
    have hWt : W.take g.length = W := L09 (by omega)
    have hZt : Z.take g.length = Z := L09 (by omega)
    simp -implicitDefEqProofs (disch := omega) only [go_sem, e11, e12, e13, e3, e4, m3, m4]
    refine Jaa hlf ?_
    simp -implicitDefEqProofs (disch := omega) only [go_sem, e11, e12, e13, e3, e4, m3, m4, hml, hzl, hWt, hZt]
    refine Jag (fun k E σ => ∃ (g' : List (List ByteArray)) (x : List ByteArray), k = g'.length /\ g'.length <= i /\ Piled g' x /\ g'.flatten ++ x = l.take (i + 1) /\ E 7 = I ((g'.length : Int) + 1) /\ stR l i ((g' ++ [x]).map Jar) (lenZ (g' ++ [x])) E σ) g.length ⟨g, [gd l i], rfl, hgl0, hp0, hf0, ?_⟩ ?_
    . rw [<- hW1, <- hZ1]; simp -implicitDefEqProofs (disch := omega) only [go_sem, e11, e12, e13, e3, e4, m3, m4, stR, hml, hzl, L08, L0f, L0z]; try simp
    clear e11 e12 e13 e3 e4 m3 m4 E σ hW1 hZ1 hWt hZt hml hzl hW hZ hp0 hf0 hgl hgl0 W Z
    rintro k' E σ ⟨g', x, hk', hgi, hp, hfx, e7, e11, e12, e13, e3, e4, m3, m4⟩
    by_cases hg0 : g' = []
    . subst hg0; have hd' := Jpq hp
      have e7 : E 7 = I 1 := e7
      simp -implicitDefEqProofs (disch := omega) only [go_sem, e7, e11, e12, e13, e3, e4, m3, m4]
      refine Jae (l.length - (i + 1)) (by omega) ⟨i + 1, [x], by omega, hd', by simpa using hfx, ?_⟩
      simp -implicitDefEqProofs (disch := omega) only [go_sem, e7, e11, e12, e13, e3, e4, m3, m4, stR, L1Q]; try rfl
    . obtain ⟨a, y, rfl⟩ := Jji g' hg0
      obtain ⟨m, hm⟩ : ∃ m, a.length = m := ⟨_, rfl⟩
      have hgy : (a ++ [y]).length = m + 1 := by rw [L08, hm]; rfl
      rw [hgy] at hk' hgi e7
      have e7 : E 7 = I ((m : Int) + 2) := by rw [e7, show ((m + 1 : Nat) : Int) + 1 = (m : Int) + 2 by omega]
      have hWl : ((a ++ [y] ++ [x]).map Jar).length = m + 2 := by simp; omega
      have hZl : (lenZ (a ++ [y] ++ [x])).length = m + 2 := by simp [lenZ]; omega
      have hAl : (a.map Jar).length = m := by rw [L05, hm]
      have hBl : (lenZ a).length = m := by unfold lenZ; rw [L05, hm]
      have hWe : (a ++ [y] ++ [x]).map Jar = a.map Jar ++ [Jar y] ++ [Jar x] := by simp
      have hZe : lenZ (a ++ [y] ++ [x]) = lenZ a ++ [(y.length : Int)] ++ [(x.length : Int)] := by simp [lenZ]
      rw [hWl] at e3; rw [hZl] at e4
      have hg1 : gd ((a ++ [y] ++ [x]).map Jar) m = Jar y := by rw [hWe, <- hAl]; exact Jox _ _ _
      have hg2 : gd ((a ++ [y] ++ [x]).map Jar) (m + 1) = Jar x := by rw [hWe, <- hAl]; exact Joy _ _ _
      have hg3 : gd (lenZ (a ++ [y] ++ [x])) m = y.length := by rw [hZe, <- hBl]; exact Jox _ _ _
      have hg4 : gd (lenZ (a ++ [y] ++ [x])) (m + 1) = x.length := by rw [hZe, <- hBl]; exact Joy _ _ _
      have ht1 : ((a ++ [y] ++ [x]).map Jar).take m = a.map Jar := by rw [hWe, <- hAl]; exact Jkg _ _ _
      have ht2 : (lenZ (a ++ [y] ++ [x])).take m = lenZ a := by rw [hZe, <- hBl]; exact Jkg _ _ _
      have hj1 : ((m : Int) + 2 - 2).toNat = m := by omega
      have hj2 : ((m : Int) + 2 - 1).toNat = m + 1 := by omega
      have hxl : x.length <= l.length /\ y.length <= l.length := by
        have h1 := congrArg List.length hfx; simp only [L08, List.flatten_append, L1H, List.flatten_nil, L0F, L02] at h1
        omega
      have hnode := JgY (Jar y) (Jar x) (by rw [hrs, hrs]; omega)
      have hfin : stR l i ((a ++ [y] ++ [x]).map Jar) (lenZ (a ++ [y] ++ [x])) E σ := ⟨e11, e12, e13, by rw [hWl]; exact e3, by rw [hZl]; exact e4, m3, m4⟩
      generalize hW : (a ++ [y] ++ [x]).map Jar = W at *; generalize hZ : lenZ (a ++ [y] ++ [x]) = Z at *; simp -implicitDefEqProofs (disch := omega) only [go_sem, e7, e11, e12, e13, e3, e4, m3, m4, hj1, hj2, hg3, hg4, hZl]
      refine Jbl (by omega) ?_
      simp -implicitDefEqProofs (disch := omega) only [go_sem, e7, e11, e12, e13, e3, e4, m3, m4, hj1, hj2, hg3, hg4, hZl]
      refine Jab (fun he => ?_) (fun he => ?_)
      . have he : y.length = x.length := by omega
        have hpy := (Jfl hp.d).2.1
        have hrt : Ja3 (Jar y) (Jar x) = Jar (y ++ x) := (JpI JaW Ja3 empF hpy he).symm
        rw [hrt] at hnode; have hjo := Jnc hp he
        have hlen2 : 2 * (x.length : Int) = ((y ++ x).length : Int) := by rw [L08]; omega
        have hW2 : a.map Jar ++ [Jar (y ++ x)] = (a ++ [y ++ x]).map Jar := by simp
        have hZ2 : lenZ a ++ [((y ++ x).length : Int)] = lenZ (a ++ [y ++ x]) := by simp [lenZ]
        have hlW : ((a ++ [y ++ x]).map Jar).length = m + 1 := by simp; omega
        have hlZ : (lenZ (a ++ [y ++ x])).length = m + 1 := by simp [lenZ]; omega
        simp -implicitDefEqProofs (disch := omega) only [go_sem, e7, e11, e12, e13, e3, e4, m3, m4, hj1, hj2, hg1, hg2, hg3, hg4, hZl, hWl]
        refine Jaa hnode ?_
        simp -implicitDefEqProofs (disch := omega) only [go_sem, e7, e11, e12, e13, e3, e4, m3, m4, hj1, hj2, hg1, hg2, hg3, hg4, hZl, hWl, ht1, ht2, hlen2, hAl, hBl]
        refine Jae m (by omega) ⟨a, y ++ x, hm.symm, by omega, hjo, by rw [<- hfx]; simp, ?_⟩
        rw [<- hW2, <- hZ2]; simp -implicitDefEqProofs (disch := omega) only [go_sem, e7, e11, e12, e13, e3, e4, m3, m4, stR, hAl, hBl, L08, L0f, L0z, hm]; simp only [L0M, ht1, ht2]
        refine ⟨by congr 2; omega, ?_⟩
        simp
      . have hds := Jnb hp (fun h => he (by omega))
        simp -implicitDefEqProofs (disch := omega) only [go_sem, e7, e11, e12, e13, e3, e4, m3, m4]
        refine Jae (l.length - (i + 1)) (by omega) ⟨i + 1, a ++ [y] ++ [x], by omega, hds, by rw [<- hfx]; simp, ?_⟩
        rw [hW, hZ]; simp -implicitDefEqProofs (disch := omega) only [go_sem, e7, e11, e12, e13, e3, e4, m3, m4, stR, hWl, hZl]; try rfl
  . obtain rfl : i = l.length := by omega
    rw [L0d] at hf
    by_cases hg0 : g = []
    . subst hg0
      have hl0 : l = [] := by rw [<- hf]; rfl
      subst hl0
      have hsum := JsS ⟨#[]⟩ (by decide)
      have hre : Jar [] = shaF ⟨#[]⟩ := Je7 JaW Ja3 empF
      rw [hre]
      have e3 : E 3 = .own 249561136 1 0 0 := e3
      simp -implicitDefEqProofs (disch := omega) only [go_sem, e11, e12, e13, e3, e4, m3, m4]
      refine Jbl rfl ?_
      simp -implicitDefEqProofs (disch := omega) only [go_sem]
      refine Jaa hsum ?_
      simp -implicitDefEqProofs (disch := omega) only [go_sem, results118]
    . obtain ⟨a, x, rfl⟩ := Jji g hg0
      have hroot : Jar l = (a.map Jar).foldr Ja3 (Jar x) := by rw [<- hf]; exact JjZ JaW Ja3 empF hd
      rw [hroot]
      obtain ⟨m, hm⟩ : ∃ m, a.length = m := ⟨_, rfl⟩
      have hgy : (a ++ [x]).length = m + 1 := by rw [L08, hm]; rfl
      have hAl : (a.map Jar).length = m := by rw [L05, hm]
      have hWe : (a ++ [x]).map Jar = a.map Jar ++ [Jar x] := by simp
      rw [hgy] at e3 e4 hgl; rw [hWe] at m3
      have hA32 : ∀ s ∈ a.map Jar, s.size = 32 := fun s hs => by obtain ⟨z, _, rfl⟩ := L06.1 hs; exact hrs z
      have hx32 := hrs x; generalize a.map Jar = A at *; generalize Jar x = r at *
      have hg1 : gd (A ++ [r]) m = r := by rw [<- hAl, Ja0 _ _ _ (L0a _), L1p]; rfl
      have ht1 : (A ++ [r]).take m = A := by rw [<- hAl]; simp
      have hWl : (A ++ [r]).length = m + 1 := by simp; omega
      have hj1 : (((m + 1 : Nat) : Int) - 1).toNat = m := by omega
      have hml : m <= 1000 := by omega
      clear hd hf hg0 hroot hgy hm hWe hs hrs hgl hzl hk hc m4 e4; generalize hW : A ++ [r] = W at *; simp -implicitDefEqProofs (disch := omega) only [go_sem, e3, m3, hWl]
      refine Jau (by omega) ?_
      simp -implicitDefEqProofs (disch := omega) only [go_sem, e3, m3, hWl, hj1, hg1]
      refine Jam rfl ?_
      refine JaS [249561136] ?_
      have hle : (m <= m + 1) = True := eq_true (by omega)
      simp -implicitDefEqProofs (disch := omega) only [go_sem, e3, m3, hWl, hj1, hg1, ht1, L0M, hle]
      refine Jaa (JqA A) ?_
      simp -implicitDefEqProofs (disch := omega) only [go_sem]
      have h8 : ∀ (E0 : Env) (k : Nat), True := fun _ _ => trivial
      refine Jcb ?_
      refine Jd4 [] [249561216] 15597668 (bkS A A.length)
        (fun xs σ => ∃ k : Nat, k <= A.length /\ xs = bkS A k /\ σ 249561216 = some ⟨9, 1, [Str ((A.drop k).foldr Ja3 r)]⟩)
        (g := 194) (caps := [.pt (SLs A) 0]) ?_ ?_ ?_ ?_ ?_ ?_ ?_ ?_
      . simp -implicitDefEqProofs (disch := omega) only [go_sem]
      . rw [JhU]; exact JnQ A (by omega)
      . exact JnW A _
      . simp -implicitDefEqProofs (disch := omega) only [go_sem]
      . simp -implicitDefEqProofs (disch := omega) only [go_sem]
      . refine ⟨A.length, L0a _, rfl, ?_⟩
        rw [L0H]; simp -implicitDefEqProofs (disch := omega) only [go_sem]; try rfl
      . rintro E0 hE0 y rest σ' ⟨k, hk, hx, m8⟩
        have e8 : E0 8 = .ptr 249561216 1 0 0 := by rw [hE0]; simp -implicitDefEqProofs (disch := omega) only [go_sem]
        clear hE0
        cases k with
        | zero => cases hx
        | succ k =>
          have hx : y :: rest = [I k, Str (gd A k)] :: bkS A k := hx
          rw [List.cons.injEq] at hx; obtain ⟨rfl, rfl⟩ := hx
          have hdk : (A.drop k).foldr Ja3 r = Ja3 (gd A k) ((A.drop (k + 1)).foldr Ja3 r) := by rw [JaU A k (by omega)]; rfl
          have hfs : ((A.drop (k + 1)).foldr Ja3 r).size = 32 := by
            cases A.drop (k + 1) with
            | nil => exact hx32
            | cons z q => exact JdZ _ _
          have hnd := JgY (gd A k) ((A.drop (k + 1)).foldr Ja3 r) (by rw [hfs, hA32 _ (Jas A k (by omega))]; omega)
          rw [<- hdk] at hnd; generalize (A.drop (k + 1)).foldr Ja3 r = q at *; simp -implicitDefEqProofs (disch := omega) only [go_sem, e8, m8]
          refine Jaa hnd ?_
          simp -implicitDefEqProofs (disch := omega) only [go_sem, e8, m8]
          refine ⟨inL [], fun _ _ => rfl, k, by omega, rfl, ?_⟩
          simp -implicitDefEqProofs (disch := omega) only [go_sem]
      . rintro E0 hE0 σ' ⟨k, hk, hx, m8⟩
        have e8 : E0 8 = .ptr 249561216 1 0 0 := by rw [hE0]; simp -implicitDefEqProofs (disch := omega) only [go_sem]
        clear hE0
        cases k with
        | succ k => cases hx
        | zero =>
          rw [List.drop_zero] at m8; simp -implicitDefEqProofs (disch := omega) only [go_sem, e8, m8, results118]
def idxG {T : Type} (Q : T -> Bool) : List T -> Nat -> Int
  | [], _ => -1
  | r :: l, v => if Q r = true then v else idxG Q l (v + 1)
theorem JeT {T : Type} (Q : T -> Bool) : ∀ (l : List T) (v : Nat), decide (0 <= idxG Q l v) = l.any Q
  | [], _ => rfl
  | r :: l, v => by
    rw [idxG, List.any_cons]
    cases h : Q r with
    | true => rw [if_pos rfl, Bool.true_or, decide_eq_true (by omega)]
    | false => rw [if_neg (by simp), L1y]; exact JeT Q l (v + 1)
abbrev CKS (l : List Ck) : AV := .sl 2 (l.map CKP)
abbrev TFS (l : List Tf) : AV := .sl 2 (l.map TF)
section
variable (p : Nat -> Bool) (l : List Ck)
@[go_sem] theorem JvP : AV.namesL p (l.map CKP) = false := Jal p l CKP fun _ => rfl
@[go_sem] theorem Jwu : JbS 2 (l.map CKP) = true := JaI 2 l CKP fun _ => ⟨rfl, rfl⟩
end
section
variable (p : Nat -> Bool) (l : List Tf)
@[go_sem] theorem JxS : AV.namesL p (l.map TF) = false := Jal p l TF fun _ => rfl
@[go_sem] theorem Jy0 : JbS 2 (l.map TF) = true := JaI 2 l TF fun _ => ⟨rfl, rfl⟩
end
theorem Jt1 (g : FuncId) (caps : List AV) (Q : ByteArray -> Bool) (l : List ByteArray) (hh : ∀ r ∈ l, Ev prog g ([Str r] ++ caps) (B (Q r))) (hcn : ∀ p, AV.namesL p caps = false) (hcr : ∀ σ, caps.map (res σ) = caps) (hl : l.length <= 9223372036854775807) (hhd : JaH caps = true := by rfl) : Ev prog 189 [SLs l, .clo g caps] (I (idxG Q l 0)) := by
  refine EV func189 ?_
  simp -implicitDefEqProofs (disch := omega) only [go_sem, ntmps189]
  refine Jag (fun k E σ => ∃ i : Nat, i + k = l.length /\ idxG Q l 0 = idxG Q (l.drop i) i /\ E 0 = SLs l /\ E 1 = .clo g caps /\ E 7 = I l.length /\ E 8 = I i) l.length ⟨0, by omega, rfl, ?_⟩ ?_
  . simp -implicitDefEqProofs (disch := omega) only [go_sem, hcn]
    rfl
  rintro k E σ ⟨i, hk, hx, e0, e1, e7, e8⟩
  simp -implicitDefEqProofs (disch := omega) only [go_sem, e0, e1, e7, e8]
  refine Jab (fun hc => ?_) (fun hc => ?_)
  . have hi : i < l.length := by omega
    rw [JaU l i hi, idxG] at hx; have hq := hh (gd l i) (Jas l i hi); simp -implicitDefEqProofs (disch := omega) only [go_sem, e0, e1, e7, e8, hcn, hcr, hhd, L14]
    refine Jaa hq ?_
    simp -implicitDefEqProofs (disch := omega) only [go_sem, e0, e1, e7, e8]
    refine Jab (fun hb => ?_) (fun hb => ?_)
    . have hb : Q (gd l i) = true := by simpa using hb
      rw [if_pos hb] at hx; simp -implicitDefEqProofs (disch := omega) only [go_sem, e0, e1, e7, e8, hx, results189]
    . have hb : ¬ Q (gd l i) = true := by simpa using hb
      rw [if_neg hb] at hx; simp -implicitDefEqProofs (disch := omega) only [go_sem, e0, e1, e7, e8]
      refine Jae (l.length - (i + 1)) (by omega) ⟨i + 1, by omega, hx, ?_⟩
      simp -implicitDefEqProofs (disch := omega) only [go_sem, e0, e1, e7, e8, hcn]
      rfl
  . obtain rfl : i = l.length := by omega
    rw [L0H, idxG] at hx; simp -implicitDefEqProofs (disch := omega) only [go_sem, e0, e1, e7, e8, hx, results189]
theorem JoG (g : FuncId) (caps : List AV) (Q : ByteArray -> Bool) (l : List ByteArray) (hh : ∀ r ∈ l, Ev prog g ([Str r] ++ caps) (B (Q r))) (hcn : ∀ p, AV.namesL p caps = false) (hcr : ∀ σ, caps.map (res σ) = caps) (hl : l.length <= 9223372036854775807) (hhd : JaH caps = true := by rfl) : Ev prog 158 [SLs l, .clo g caps] (B (l.any Q)) := by
  have h := Jt1 g caps Q l hh hcn hcr hl hhd; rw [<- JeT Q l 0]; generalize idxG Q l 0 = n at *
  refine EV func158 ?_
  simp -implicitDefEqProofs (disch := omega) only [go_sem, ntmps158, hcn, hcr]
  refine Jaa h ?_
  simp -implicitDefEqProofs (disch := omega) only [go_sem, results158]
theorem Jt0 (g : FuncId) (caps : List AV) (Q : Int -> Bool) (l : List Int) (hh : ∀ r ∈ l, Ev prog g ([I r] ++ caps) (B (Q r))) (hcn : ∀ p, AV.namesL p caps = false) (hcr : ∀ σ, caps.map (res σ) = caps) (hl : l.length <= 9223372036854775807) (hhd : JaH caps = true := by rfl) : Ev prog 152 [SL l, .clo g caps] (I (idxG Q l 0)) := by
  refine EV func152 ?_
  simp -implicitDefEqProofs (disch := omega) only [go_sem, ntmps152]
  refine Jag (fun k E σ => ∃ i : Nat, i + k = l.length /\ idxG Q l 0 = idxG Q (l.drop i) i /\ E 0 = SL l /\ E 1 = .clo g caps /\ E 7 = I l.length /\ E 8 = I i) l.length ⟨0, by omega, rfl, ?_⟩ ?_
  . simp -implicitDefEqProofs (disch := omega) only [go_sem, hcn]
    rfl
  rintro k E σ ⟨i, hk, hx, e0, e1, e7, e8⟩
  simp -implicitDefEqProofs (disch := omega) only [go_sem, e0, e1, e7, e8]
  refine Jab (fun hc => ?_) (fun hc => ?_)
  . have hi : i < l.length := by omega
    rw [JaU l i hi, idxG] at hx; have hq := hh (gd l i) (Jas l i hi); simp -implicitDefEqProofs (disch := omega) only [go_sem, e0, e1, e7, e8, hcn, hcr, hhd, L14]
    refine Jaa hq ?_
    simp -implicitDefEqProofs (disch := omega) only [go_sem, e0, e1, e7, e8]
    refine Jab (fun hb => ?_) (fun hb => ?_)
    . have hb : Q (gd l i) = true := by simpa using hb
      rw [if_pos hb] at hx; simp -implicitDefEqProofs (disch := omega) only [go_sem, e0, e1, e7, e8, hx, results152]
    . have hb : ¬ Q (gd l i) = true := by simpa using hb
      rw [if_neg hb] at hx; simp -implicitDefEqProofs (disch := omega) only [go_sem, e0, e1, e7, e8]
      refine Jae (l.length - (i + 1)) (by omega) ⟨i + 1, by omega, hx, ?_⟩
      simp -implicitDefEqProofs (disch := omega) only [go_sem, e0, e1, e7, e8, hcn]
      rfl
  . obtain rfl : i = l.length := by omega
    rw [L0H, idxG] at hx; simp -implicitDefEqProofs (disch := omega) only [go_sem, e0, e1, e7, e8, hx, results152]
theorem JtT (g : FuncId) (caps : List AV) (Q : Int -> Bool) (l : List Int) (hh : ∀ r ∈ l, Ev prog g ([I r] ++ caps) (B (Q r))) (hcn : ∀ p, AV.namesL p caps = false) (hcr : ∀ σ, caps.map (res σ) = caps) (hl : l.length <= 9223372036854775807) (hhd : JaH caps = true := by rfl) : Ev prog 106 [SL l, .clo g caps] (B (l.any Q)) := by
  have h := Jt0 g caps Q l hh hcn hcr hl hhd; rw [<- JeT Q l 0]; generalize idxG Q l 0 = n at *
  refine EV func106 ?_
  simp -implicitDefEqProofs (disch := omega) only [go_sem, ntmps106, hcn, hcr]
  refine Jaa h ?_
  simp -implicitDefEqProofs (disch := omega) only [go_sem, results106]
theorem JtY (g : FuncId) (caps : List AV) (Q : Ck -> Bool) (l : List Ck) (hh : ∀ r ∈ l, Ev prog g ([CKP r] ++ caps) (B (Q r))) (hcn : ∀ p, AV.namesL p caps = false) (hcr : ∀ σ, caps.map (res σ) = caps) (hl : l.length <= 9223372036854775807) (hhd : JaH caps = true := by rfl) : Ev prog 147 [CKS l, .clo g caps] (I (idxG Q l 0)) := by
  refine EV func147 ?_
  simp -implicitDefEqProofs (disch := omega) only [go_sem, ntmps147]
  refine Jag (fun k E σ => ∃ i : Nat, i + k = l.length /\ idxG Q l 0 = idxG Q (l.drop i) i /\ E 0 = CKS l /\ E 1 = .clo g caps /\ E 7 = I l.length /\ E 8 = I i) l.length ⟨0, by omega, rfl, ?_⟩ ?_
  . simp -implicitDefEqProofs (disch := omega) only [go_sem, hcn]
    rfl
  rintro k E σ ⟨i, hk, hx, e0, e1, e7, e8⟩
  simp -implicitDefEqProofs (disch := omega) only [go_sem, e0, e1, e7, e8]
  refine Jab (fun hc => ?_) (fun hc => ?_)
  . have hi : i < l.length := by omega
    rw [JaU l i hi, idxG] at hx; have hq := hh (gd l i) (Jas l i hi); simp -implicitDefEqProofs (disch := omega) only [go_sem, e0, e1, e7, e8, hcn, hcr, hhd, L14]
    refine Jaa hq ?_
    simp -implicitDefEqProofs (disch := omega) only [go_sem, e0, e1, e7, e8]
    refine Jab (fun hb => ?_) (fun hb => ?_)
    . have hb : Q (gd l i) = true := by simpa using hb
      rw [if_pos hb] at hx; simp -implicitDefEqProofs (disch := omega) only [go_sem, e0, e1, e7, e8, hx, results147]
    . have hb : ¬ Q (gd l i) = true := by simpa using hb
      rw [if_neg hb] at hx; simp -implicitDefEqProofs (disch := omega) only [go_sem, e0, e1, e7, e8]
      refine Jae (l.length - (i + 1)) (by omega) ⟨i + 1, by omega, hx, ?_⟩
      simp -implicitDefEqProofs (disch := omega) only [go_sem, e0, e1, e7, e8, hcn]
      rfl
  . obtain rfl : i = l.length := by omega
    rw [L0H, idxG] at hx; simp -implicitDefEqProofs (disch := omega) only [go_sem, e0, e1, e7, e8, hx, results147]
theorem JtS (g : FuncId) (caps : List AV) (Q : Ck -> Bool) (l : List Ck) (hh : ∀ r ∈ l, Ev prog g ([CKP r] ++ caps) (B (Q r))) (hcn : ∀ p, AV.namesL p caps = false) (hcr : ∀ σ, caps.map (res σ) = caps) (hl : l.length <= 9223372036854775807) (hhd : JaH caps = true := by rfl) : Ev prog 100 [CKS l, .clo g caps] (B (l.any Q)) := by
  have h := JtY g caps Q l hh hcn hcr hl hhd; rw [<- JeT Q l 0]; generalize idxG Q l 0 = n at *
  refine EV func100 ?_
  simp -implicitDefEqProofs (disch := omega) only [go_sem, ntmps100, hcn, hcr]
  refine Jaa h ?_
  simp -implicitDefEqProofs (disch := omega) only [go_sem, results100]
theorem Jt2 (g : FuncId) (caps : List AV) (Q : Tf -> Bool) (l : List Tf) (hh : ∀ r ∈ l, Ev prog g ([TF r] ++ caps) (B (Q r))) (hcn : ∀ p, AV.namesL p caps = false) (hcr : ∀ σ, caps.map (res σ) = caps) (hl : l.length <= 9223372036854775807) (hhd : JaH caps = true := by rfl) : Ev prog 148 [TFS l, .clo g caps] (I (idxG Q l 0)) := by
  refine EV func148 ?_
  simp -implicitDefEqProofs (disch := omega) only [go_sem, ntmps148]
  refine Jag (fun k E σ => ∃ i : Nat, i + k = l.length /\ idxG Q l 0 = idxG Q (l.drop i) i /\ E 0 = TFS l /\ E 1 = .clo g caps /\ E 7 = I l.length /\ E 8 = I i) l.length ⟨0, by omega, rfl, ?_⟩ ?_
  . simp -implicitDefEqProofs (disch := omega) only [go_sem, hcn]
    rfl
  rintro k E σ ⟨i, hk, hx, e0, e1, e7, e8⟩
  simp -implicitDefEqProofs (disch := omega) only [go_sem, e0, e1, e7, e8]
  refine Jab (fun hc => ?_) (fun hc => ?_)
  . have hi : i < l.length := by omega
    rw [JaU l i hi, idxG] at hx; have hq := hh (gd l i) (Jas l i hi); simp -implicitDefEqProofs (disch := omega) only [go_sem, e0, e1, e7, e8, hcn, hcr, hhd, L14]
    refine Jaa hq ?_
    simp -implicitDefEqProofs (disch := omega) only [go_sem, e0, e1, e7, e8]
    refine Jab (fun hb => ?_) (fun hb => ?_)
    . have hb : Q (gd l i) = true := by simpa using hb
      rw [if_pos hb] at hx; simp -implicitDefEqProofs (disch := omega) only [go_sem, e0, e1, e7, e8, hx, results148]
    . have hb : ¬ Q (gd l i) = true := by simpa using hb
      rw [if_neg hb] at hx; simp -implicitDefEqProofs (disch := omega) only [go_sem, e0, e1, e7, e8]
      refine Jae (l.length - (i + 1)) (by omega) ⟨i + 1, by omega, hx, ?_⟩
      simp -implicitDefEqProofs (disch := omega) only [go_sem, e0, e1, e7, e8, hcn]
      rfl
  . obtain rfl : i = l.length := by omega
    rw [L0H, idxG] at hx; simp -implicitDefEqProofs (disch := omega) only [go_sem, e0, e1, e7, e8, hx, results148]
theorem JtU (g : FuncId) (caps : List AV) (Q : Tf -> Bool) (l : List Tf) (hh : ∀ r ∈ l, Ev prog g ([TF r] ++ caps) (B (Q r))) (hcn : ∀ p, AV.namesL p caps = false) (hcr : ∀ σ, caps.map (res σ) = caps) (hl : l.length <= 9223372036854775807) (hhd : JaH caps = true := by rfl) : Ev prog 103 [TFS l, .clo g caps] (B (l.any Q)) := by
  have h := Jt2 g caps Q l hh hcn hcr hl hhd; rw [<- JeT Q l 0]; generalize idxG Q l 0 = n at *
  refine EV func103 ?_
  simp -implicitDefEqProofs (disch := omega) only [go_sem, ntmps103, hcn, hcr]
  refine Jaa h ?_
  simp -implicitDefEqProofs (disch := omega) only [go_sem, results103]
theorem Jn1 {a b : ByteArray} (h : a.data.toList = b.data.toList) : a = b := by
  have h2 : a.data = b.data := L0V.1 h
  cases a; cases b; simp only at h2; rw [h2]
theorem JiX (a b : ByteArray) : (a.toList == b.toList) = decide (a = b) := by
  rw [ByteArray.toList_eq, ByteArray.toList_eq, L1i, decide_eq_true_iff, beq_iff_eq]
  exact ⟨Jn1, fun h => by rw [h]⟩
theorem Jq4 (s : ByteArray) : Ev prog 207 [Str s] (B (decide (s.size = 32))) := by
  refine EV func207 ?_
  simp -implicitDefEqProofs (disch := omega) only [go_sem, ntmps207, results207]
  have : ((s.size : Int) == 32) = decide (s.size = 32) := by rw [L1i]; simp; omega
  rw [this]
theorem JsY (s : ByteArray) : Ev prog 206 [Str s] (B (!decide (s.size = 32))) := by
  refine EV func206 ?_
  simp -implicitDefEqProofs (disch := omega) only [go_sem, ntmps206]
  refine Jaa (Jq4 s) ?_
  simp -implicitDefEqProofs (disch := omega) only [go_sem, results206]
theorem Jkq {T : Type} (Q : T -> Bool) (l : List T) : (!l.any fun x => !Q x) = l.all Q := by
  induction l with
  | nil => rfl
  | cons x l ih => rw [List.any_cons, L1D, <- ih]; cases Q x <;> rfl
theorem JwG (l : List ByteArray) (hl : l.length <= 9223372036854775807) : Ev prog 173 [SLs l] (B (digB l)) := by
  have h := JoG 206 [] (fun s => !decide (s.size = 32)) l (fun r _ => JsY r) (fun _ => rfl) (fun _ => rfl) hl
  have hd : digB l = !l.any fun s => !decide (s.size = 32) := (Jkq _ l).symm
  rw [hd]
  generalize (l.any fun s => !decide (s.size = 32)) = b at *
  refine EV func173 ?_
  simp -implicitDefEqProofs (disch := omega) only [go_sem, ntmps173]
  refine Jaa h ?_
  simp -implicitDefEqProofs (disch := omega) only [go_sem, results173]
theorem JjF (n : Nat) (h2 : 2 <= n) (hn : n <= 1000000) : Ev prog 181 [I n] (I (Jaw n : Nat)) := by
  refine EV func181 ?_
  simp -implicitDefEqProofs (disch := omega) only [go_sem, ntmps181]
  refine Jag (fun k E σ => ∃ (a m : Nat), m = 2 ^ a /\ m < n /\ k = n - m /\ E 0 = I n /\ E 3 = I m) (n - 1) ⟨0, 1, rfl, by omega, rfl, ?_⟩ ?_
  . simp -implicitDefEqProofs (disch := omega) only [go_sem]; try rfl
  rintro k E σ ⟨a, m, hm, hlt, hk, e0, e3⟩
  have hp : 0 < m := by rw [hm]; exact L1x (by omega)
  simp -implicitDefEqProofs (disch := omega) only [go_sem, e0, e3]
  refine Jab (fun hc => ?_) (fun hc => ?_)
  . simp -implicitDefEqProofs (disch := omega) only [go_sem, e0, e3]
    refine Jae (n - 2 * m) (by omega) ⟨a + 1, 2 * m, by rw [hm, L1J]; omega, by omega, rfl, ?_⟩
    simp -implicitDefEqProofs (disch := omega) only [go_sem, e0, e3]; try rfl
  . have : Jaw n = m := by rw [hm]; exact JlV (by omega) (by omega)
    rw [this]; simp -implicitDefEqProofs (disch := omega) only [go_sem, e0, e3, results181]
theorem Jc3 {l : List ByteArray} (h : ∀ s ∈ l, s.size <= 1000000) (k : Nat) : (∀ s ∈ l.take k, s.size <= 1000000) /\ ∀ s ∈ l.drop k, s.size <= 1000000 :=
  ⟨fun s hs => h s (L0D hs), fun s hs => h s (L15 hs)⟩
theorem Je8 : ∀ (n : Nat) (l : List ByteArray), l.length <= n -> l.length <= 1000 -> (∀ s ∈ l, s.size <= 1000000) -> Ev prog 180 [SLs l] (Str (Jar l))
  | n, l, hn, hl, hs => by
    have hrs := Jcf
    by_cases h0 : l = []
    . subst h0
      have hsum := Jll ⟨#[]⟩ (by decide)
      have hre : Jar [] = shaF ⟨#[]⟩ := Je7 JaW Ja3 empF
      rw [hre]
      refine EV func180 ?_
      simp -implicitDefEqProofs (disch := omega) only [go_sem, ntmps180]
      refine Jbl rfl ?_
      simp -implicitDefEqProofs (disch := omega) only [go_sem]
      refine Jaa hsum ?_
      simp -implicitDefEqProofs (disch := omega) only [go_sem, results180]
    . have hpos := L17.2 h0
      by_cases h1 : l.length = 1
      . obtain ⟨s, rfl⟩ : ∃ s, l = [s] := List.length_eq_one_iff.1 h1
        have hlf := JlU s (by have := hs s (by simp); omega)
        have hre : Jar [s] = JaW s := JdI JaW Ja3 empF s
        rw [hre]
        refine EV func180 ?_
        simp -implicitDefEqProofs (disch := omega) only [go_sem, ntmps180]
        refine Jau (by simp) ?_
        simp -implicitDefEqProofs (disch := omega) only [go_sem]
        refine Jbl rfl ?_
        simp -implicitDefEqProofs (disch := omega) only [go_sem, JaD]
        refine Jaa hlf ?_
        simp -implicitDefEqProofs (disch := omega) only [go_sem, results180]
      . match n, hn with
        | 0, hn => omega
        | n + 1, hn =>
          have h2 : 2 <= l.length := by omega
          have a1 := Jb1 h2; have a2 := Jbv l.length
          have hlf := JjF l.length h2 (by omega)
          have hre : Jar l = Ja3 (Jar (l.take (Jaw l.length))) (Jar (l.drop (Jaw l.length))) := Jhc JaW Ja3 empF h2
          rw [hre]; generalize Jaw l.length = m at *
          have c1 := Je8 n (l.take m) (by rw [L02]; omega) (by rw [L02]; omega) (Jc3 hs m).1
          have c2 := Je8 n (l.drop m) (by rw [L0e]; omega) (by rw [L0e]; omega) (Jc3 hs m).2
          have c3 := Jl2 (Jar (l.take m)) (Jar (l.drop m)) (by rw [hrs, hrs]; omega)
          refine EV func180 ?_
          simp -implicitDefEqProofs (disch := omega) only [go_sem, ntmps180]
          refine Jau (by omega) ?_
          simp -implicitDefEqProofs (disch := omega) only [go_sem]
          refine Jau (by omega) ?_
          simp -implicitDefEqProofs (disch := omega) only [go_sem]
          refine Jaa hlf ?_
          have hle : (m <= l.length) = True := eq_true (by omega)
          simp -implicitDefEqProofs (disch := omega) only [go_sem, hle]
          refine Jaa c1 ?_
          have hdt : (l.drop m).take (l.length - m) = l.drop m := L09 (by rw [L0e]; omega)
          simp -implicitDefEqProofs (disch := omega) only [go_sem, hle, hdt]
          refine Jaa c2 ?_
          simp -implicitDefEqProofs (disch := omega) only [go_sem]
          refine Jaa c3 ?_
          simp -implicitDefEqProofs (disch := omega) only [go_sem, results180]
theorem Jp2 (R : List ByteArray) (hl : R.length <= 9223372036854775807) : Ev prog 174 [SLs R] (if R = [] then .tup [Str ⟨#[]⟩, .new 9 1 [], B false] else .tup [Str (gd R (R.length - 1)), SLs (R.take (R.length - 1)), B true]) := by
  by_cases h : R = []
  . subst h; rw [if_pos rfl]
    refine EV func174 ?_
    simp -implicitDefEqProofs (disch := omega) only [go_sem, ntmps174]
    refine Jbl rfl ?_
    simp -implicitDefEqProofs (disch := omega) only [go_sem, results174]
  . have hp := L17.2 h; rw [if_neg h]
    have hj : ((R.length : Int) - 1).toNat = R.length - 1 := by omega
    have hle : (R.length - 1 <= R.length) = True := eq_true (by omega)
    refine EV func174 ?_
    simp -implicitDefEqProofs (disch := omega) only [go_sem, ntmps174]
    refine Jau (by omega) ?_
    simp -implicitDefEqProofs (disch := omega) only [go_sem, hj, hle, L0M, results174]
def Jft (x : ByteArray × Bool) (part : ByteArray) : ByteArray := if x.2 = true then Ja3 x.1 part else Ja3 part x.1
theorem JoU (x : ByteArray × Bool) (part : ByteArray) (h : x.1.size + part.size <= 99999999) : Ev prog 176 [SDP x, Str part] (Str (Jft x part)) := by
  obtain ⟨r, b⟩ := x
  refine EV func176 ?_
  simp only at h
  cases b with
  | true =>
    simp -implicitDefEqProofs (disch := omega) only [go_sem, ntmps176]
    refine Jaa (JgY r part (by omega)) ?_
    simp -implicitDefEqProofs (disch := omega) only [go_sem, results176]; try rfl
  | false =>
    simp -implicitDefEqProofs (disch := omega) only [go_sem, ntmps176]
    refine Jaa (JgY part r (by omega)) ?_
    simp -implicitDefEqProofs (disch := omega) only [go_sem, results176]; try rfl
def wayF : Nat -> Nat -> List ByteArray -> Option (List (ByteArray × Bool) × List ByteArray)
  | n, _, [] => if n <= 1 then some ([], []) else none
  | n, i, x :: p => if n <= 1 then some ([], x :: p) else if i < Jaw n then (wayF (Jaw n) i p).map fun q => ((x, false) :: q.1, q.2) else (wayF (n - Jaw n) (i - Jaw n) p).map fun q => ((x, true) :: q.1, q.2)
theorem Jln (s : ByteArray) : ∀ (p : List ByteArray) (n i : Nat), valF JaW Ja3 s n i p = match wayF n i p with
    | some (w, []) => some (w.foldr Jft (JaW s))
    | _ => none
  | [], n, i => by
    rw [valF, wayF]
    by_cases h : n <= 1
    . rw [if_pos h, if_pos h]; rfl
    . rw [if_neg h, if_neg h]
  | x :: p, n, i => by
    rw [valF, wayF]
    by_cases h : n <= 1
    . rw [if_pos h, if_pos h]
    . rw [if_neg h, if_neg h]
      by_cases hk : i < Jaw n
      . rw [if_pos hk, if_pos hk, Jln s p]
        cases wayF (Jaw n) i p with
        | none => rfl
        | some q =>
          obtain ⟨w, r⟩ := q
          cases r with
          | nil => rfl
          | cons => rfl
      . rw [if_neg hk, if_neg hk, Jln s p]
        cases wayF (n - Jaw n) (i - Jaw n) p with
        | none => rfl
        | some q =>
          obtain ⟨w, r⟩ := q
          cases r with
          | nil => rfl
          | cons => rfl
theorem JsV (w : List (ByteArray × Bool)) (x : ByteArray) (b : Bool) (o : Option (List (ByteArray × Bool) × List ByteArray)) : (o.map fun q => ((x, b) :: q.1, q.2)).map (fun q => (w ++ q.1, q.2)) = o.map fun q => ((w ++ [(x, b)]) ++ q.1, q.2) := by
  cases o with
  | none => rfl
  | some q => simp
theorem Jr0 {s : ByteArray} : ∀ w : List (ByteArray × Bool), (w.foldr Jft (JaW s)).size = 32
  | [] => JcV s
  | x :: w => by
    rw [List.foldr_cons]; unfold Jft
    split <;> exact JdZ _ _
set_option maxHeartbeats 4000000 in
theorem JyT (root : ByteArray) (n i : Int) (s : ByteArray) (p : List ByteArray) (hn : n <= 60) (hs : s.size <= 1000000) (hp : p.length <= 1000000) : Ev prog 131 [Str root, I n, I i, Str s, SLs p] (B (verB root n i s p)) := by
  have h1 := JwG p (by omega)
  have hv : verB root n i s p = (decide (0 <= i /\ i < n) && (digB p && decide (valF JaW Ja3 s n.toNat i.toNat p.reverse = some root))) := rfl
  obtain ⟨z, hz⟩ : ∃ z, verB root n i s p = z := ⟨_, rfl⟩
  rw [hz] at hv ⊢; clear hz
  refine EV func131 ?_
  simp -implicitDefEqProofs (disch := omega) only [go_sem, ntmps131]
  refine Jab (fun h2 => ?_) (fun h2 => ?_)
  . rw [decide_eq_false (by omega), L0c] at hv
    subst hv; simp -implicitDefEqProofs (disch := omega) only [go_sem, results131]
  simp -implicitDefEqProofs (disch := omega) only [go_sem]
  refine Jab (fun h3 => ?_) (fun h3 => ?_)
  . rw [decide_eq_false (by omega), L0c] at hv
    subst hv; simp -implicitDefEqProofs (disch := omega) only [go_sem, results131]
  rw [decide_eq_true (by omega), L0k] at hv
  simp -implicitDefEqProofs (disch := omega) only [go_sem]
  refine Jaa h1 ?_
  cases hd : digB p with
  | false =>
    rw [hd, L0c] at hv; subst hv; simp -implicitDefEqProofs (disch := omega) only [go_sem, results131]
  | true =>
    rw [hd, L0k] at hv
    obtain ⟨N, rfl⟩ : ∃ N : Nat, n = N := ⟨n.toNat, by omega⟩
    obtain ⟨J, rfl⟩ : ∃ J : Nat, i = J := ⟨i.toNat, by omega⟩
    have h32 : ∀ x ∈ p.reverse, x.size = 32 := fun x hx => by
      rw [List.mem_reverse] at hx
      have := L0b.1 hd x hx
      simpa using this
    rw [L18, L18, Jln s p.reverse N J] at hv
    have hpr : SLs p = SLs p.reverse.reverse := by rw [List.reverse_reverse]
    have hPl : p.reverse.length <= 1000000 := by rw [L1j]; exact hp
    simp -implicitDefEqProofs (disch := omega) only [go_sem]; rw [hpr]; clear hpr h1 hd hp; generalize p.reverse = P0 at *; generalize hW : wayF N J P0 = W at *
    refine Jag (fun k E σ => ∃ (n i : Nat) (P : List ByteArray) (w : List (ByteArray × Bool)), 1 <= n /\ n <= 60 /\ i < n /\ k = P.length /\ P.length + w.length <= 1000000 /\ W = (wayF n i P).map (fun q => (w ++ q.1, q.2)) /\ (∀ x ∈ P, x.size = 32) /\ (∀ x ∈ w, x.1.size = 32) /\
      E 0 = Str root /\ E 1 = I n /\ E 2 = I i /\ E 3 = Str s /\ E 4 = SLs P.reverse /\ E 11 = .own 276824240 2 0 w.length /\ σ 276824240 = some ⟨259, 2, w.map SDP⟩) P0.length ⟨N, J, P0, [], by omega, by omega, by omega, rfl, by simpa using hPl, by rw [hW]; cases W <;> simp, h32, (fun x hx => by cases hx), ?_⟩ ?_
    . simp -implicitDefEqProofs (disch := omega) only [go_sem]; try rfl
    clear hPl
    rintro k E σ ⟨n, i, P, w, hn1, hn2, hi, hk, hPw, hW, h32, hw32, e0, e1, e2, e3, e4, e11, m11⟩
    simp -implicitDefEqProofs (disch := omega) only [go_sem, e0, e1, e2, e3, e4, e11, m11]
    refine Jab (fun hc => ?_) (fun hc => ?_)
    . cases P with
      | nil =>
        have hwn : wayF n i [] = none := by rw [wayF, if_neg (by omega)]
        rw [hwn] at hW
        have hW : W = none := hW
        subst hW
        have hv : z = false := hv
        subst hv
        have htk := Jp2 [] (by decide)
        rw [if_pos rfl] at htk
        have e4 : E 4 = SLs [] := e4
        simp -implicitDefEqProofs (disch := omega) only [go_sem, e0, e1, e2, e3, e4, e11, m11]
        refine Jaa htk ?_
        simp -implicitDefEqProofs (disch := omega) only [go_sem, results131]
      | cons x P =>
        have hx := h32 x (by simp)
        rw [L0f] at hk hPw
        have hrl : (x :: P).reverse.length = P.length + 1 := by simp
        have hrg : gd (x :: P).reverse P.length = x := by
          rw [L2e, Ja0 _ _ _ (by simp), L1j, L1p]; rfl
        have hrt : (x :: P).reverse.take P.length = P.reverse := by
          have e : P.reverse.length = P.length := L1j
          rw [L2e, <- e, List.take_left']
          rfl
        have htk := Jp2 (x :: P).reverse (by omega)
        rw [if_neg (by simp), hrl, L0Z, hrg, hrt] at htk
        have hle := JoY n (by omega) (by omega)
        have a1 := Jb1 (n := n) (by omega)
        have a2 := Jbv n
        have hwc : wayF n i (x :: P) = if i < Jaw n then (wayF (Jaw n) i P).map fun q => ((x, false) :: q.1, q.2) else (wayF (n - Jaw n) (i - Jaw n) P).map fun q => ((x, true) :: q.1, q.2) := by rw [wayF, if_neg (by omega)]
        rw [hwc] at hW; clear hwc
        have hwt : w.take w.length = w := L0d
        have h32' : ∀ y ∈ P, y.size = 32 := fun y hy => h32 y (by simp [hy])
        generalize Jaw n = m at *; simp -implicitDefEqProofs (disch := omega) only [go_sem, e0, e1, e2, e3, e4, e11, m11]
        refine Jaa htk ?_
        simp -implicitDefEqProofs (disch := omega) only [go_sem, e0, e1, e2, e3, e4, e11, m11]
        refine Jaa hle ?_
        simp -implicitDefEqProofs (disch := omega) only [go_sem, e0, e1, e2, e3, e4, e11, m11, hwt]
        refine Jab (fun hk2 => ?_) (fun hk2 => ?_)
        . rw [if_neg (by omega), JsV] at hW
          have hd : decide ((m : Int) <= i) = true := decide_eq_true hk2
          simp -implicitDefEqProofs (disch := omega) only [go_sem, e0, e1, e2, e3, e4, e11, m11, hwt, hd]
          refine Jae P.length (by omega) ⟨n - m, i - m, P, w ++ [(x, true)], by omega, by omega, by omega, rfl, by simp; omega, hW, h32', ?_, ?_⟩
          . intro y hy
            rcases L0v.1 hy with hy | hy
            . exact hw32 y hy
            . rw [L0p.1 hy]; exact hx
          . have q1 : ((n - m : Nat) : Int) = (n : Int) - m := by omega
            have q2 : ((i - m : Nat) : Int) = (i : Int) - m := by omega
            rw [q1, q2]; simp -implicitDefEqProofs (disch := omega) only [go_sem, e0, e1, e2, e3, e4, e11, m11, hwt, L08, L0f, L0z]; try simp
        . rw [if_pos (by omega), JsV] at hW
          have hd : decide ((m : Int) <= i) = false := decide_eq_false hk2
          simp -implicitDefEqProofs (disch := omega) only [go_sem, e0, e1, e2, e3, e4, e11, m11, hwt, hd]
          refine Jae P.length (by omega) ⟨m, i, P, w ++ [(x, false)], by omega, by omega, by omega, rfl, by simp; omega, hW, h32', ?_, ?_⟩
          . intro y hy
            rcases L0v.1 hy with hy | hy
            . exact hw32 y hy
            . rw [L0p.1 hy]; exact hx
          . simp -implicitDefEqProofs (disch := omega) only [go_sem, e0, e1, e2, e3, e4, e11, m11, hwt, L08, L0f, L0z]; try simp
    . have hwn : wayF n i P = some ([], P) := by
        cases P with
        | nil => rw [wayF, if_pos (by omega)]
        | cons x P => rw [wayF, if_pos (by omega)]
      rw [hwn] at hW
      have hW : W = some (w ++ [], P) := hW
      rw [L0F] at hW; subst hW
      have hlf := JkQ s (by omega)
      have hPl : P.reverse.length = P.length := L1j
      have hwt : w.take w.length = w := L0d
      simp -implicitDefEqProofs (disch := omega) only [go_sem, e0, e1, e2, e3, e4, e11, m11]
      refine Jaa hlf ?_
      simp -implicitDefEqProofs (disch := omega) only [go_sem, e0, e1, e2, e3, e4, e11, m11]
      refine Jam rfl ?_
      refine JaS [276824240] ?_
      simp -implicitDefEqProofs (disch := omega) only [go_sem, e0, e1, e2, e3, e4, e11, m11, hwt]
      refine Jaa (Jqz w) ?_
      simp -implicitDefEqProofs (disch := omega) only [go_sem, e0, e1, e2, e3, e4, e11, m11]
      refine Jcb ?_
      refine Jd4 [] [276824320] 17301604 (bkD w w.length)
        (fun xs σ => ∃ k : Nat, k <= w.length /\ xs = bkD w k /\ σ 276824320 = some ⟨9, 1, [Str ((w.drop k).foldr Jft (JaW s))]⟩)
        (g := 208) (caps := [.pt (SDS w) 0]) ?_ ?_ ?_ ?_ ?_ ?_ ?_ ?_
      . simp -implicitDefEqProofs (disch := omega) only [go_sem]
      . rw [JhU]; exact JnP w (by omega)
      . exact JnV w _
      . simp -implicitDefEqProofs (disch := omega) only [go_sem]
      . simp -implicitDefEqProofs (disch := omega) only [go_sem]
      . refine ⟨w.length, L0a _, rfl, ?_⟩
        rw [L0H]; simp -implicitDefEqProofs (disch := omega) only [go_sem]; try rfl
      . rintro E0 hE0 y rest σ' ⟨k, hk, hx, m8⟩
        have e16 : E0 16 = .ptr 276824320 1 0 0 := by rw [hE0]; simp -implicitDefEqProofs (disch := omega) only [go_sem]
        clear hE0
        cases k with
        | zero => cases hx
        | succ k =>
          have hx : y :: rest = [I k, SDP (gd w k)] :: bkD w k := hx
          rw [List.cons.injEq] at hx; obtain ⟨rfl, rfl⟩ := hx
          have hdk : (w.drop k).foldr Jft (JaW s) = Jft (gd w k) ((w.drop (k + 1)).foldr Jft (JaW s)) := by rw [JaU w k (by omega)]; rfl
          have hjn := JoU (gd w k) ((w.drop (k + 1)).foldr Jft (JaW s)) (by rw [Jr0, hw32 _ (Jas w k (by omega))]; omega)
          rw [<- hdk] at hjn; generalize (w.drop (k + 1)).foldr Jft (JaW s) = q at *; simp -implicitDefEqProofs (disch := omega) only [go_sem, e16, m8]
          refine Jaa hjn ?_
          simp -implicitDefEqProofs (disch := omega) only [go_sem, e16, m8]
          refine ⟨inL [], fun _ _ => rfl, k, by omega, rfl, ?_⟩
          simp -implicitDefEqProofs (disch := omega) only [go_sem]
      . rintro E0 hE0 σ' ⟨k, hk, hx, m8⟩
        have e16 : E0 16 = .ptr 276824320 1 0 0 := by rw [hE0]; simp -implicitDefEqProofs (disch := omega) only [go_sem]
        have f0 : E0 0 = Str root := by rw [hE0]; simp -implicitDefEqProofs (disch := omega) only [go_sem, e0]
        have f4 : E0 4 = SLs P.reverse := by rw [hE0]; simp -implicitDefEqProofs (disch := omega) only [go_sem, e4]
        clear hE0
        cases k with
        | succ k => cases hx
        | zero =>
          rw [List.drop_zero] at m8
          cases P with
          | nil =>
            have hv : z = decide (some (w.foldr Jft (JaW s)) = some root) := hv
            have f4 : E0 4 = SLs [] := f4
            generalize w.foldr Jft (JaW s) = q at *; subst hv; simp -implicitDefEqProofs (disch := omega) only [go_sem, e16, f0, f4, m8]
            refine Jbl rfl ?_
            simp -implicitDefEqProofs (disch := omega) only [go_sem, e16, f0, f4, m8, JiX, results131]; try simp
          | cons x P =>
            have hv : z = false := hv
            subst hv; rw [L0f] at hPl; generalize w.foldr Jft (JaW s) = q at *; simp -implicitDefEqProofs (disch := omega) only [go_sem, e16, f0, f4, m8, hPl]
            refine Jau (by omega) ?_
            simp -implicitDefEqProofs (disch := omega) only [go_sem, e16, f0, f4, m8, JiX, results131]
def revN (l : List ByteArray) (i : Nat) : List ByteArray := (List.range l.length).map fun k => if k < i \/ l.length - i <= k then gd l (l.length - 1 - k) else gd l k
theorem Ja4 (l : List ByteArray) (i : Nat) : (revN l i).length = l.length := by simp [revN]
theorem JfH (l : List ByteArray) (i k : Nat) (hk : k < l.length) : gd (revN l i) k = if k < i \/ l.length - i <= k then gd l (l.length - 1 - k) else gd l k := by
  simp [revN, gd, hk]
theorem JpG (l : List ByteArray) : revN l 0 = l := JhH (Ja4 l 0) fun k hk => by
  rw [Ja4] at hk
  rw [JfH l 0 k hk, if_neg (by omega)]
theorem JrG (l : List ByteArray) (i : Nat) (h : l.length <= 2 * i + 1) : revN l i = l.reverse := JhH (by rw [Ja4, L1j]) fun k hk => by
  rw [Ja4] at hk
  have hr : gd l.reverse k = gd l (l.length - 1 - k) := by simp [gd, List.getElem?_reverse hk]
  rw [JfH l i k hk, hr]
  split
  . rfl
  . rw [show l.length - 1 - k = k by omega]
theorem JpF (l : List ByteArray) (i : Nat) (h : 2 * i + 1 < l.length) : revN l (i + 1) = ((revN l i).set i (gd (revN l i) (l.length - 1 - i))).set (l.length - 1 - i) (gd (revN l i) i) := JhH (by simp [Ja4]) fun k hk => by
  rw [Ja4] at hk
  rw [Jjx _ _ _ _ (by rw [L20, Ja4]; omega), Jjx _ _ _ _ (by rw [Ja4]; omega), JfH l (i + 1) k hk, JfH l i _ (by omega), JfH l i _ (by omega), JfH l i k hk]
  by_cases h1 : k = l.length - 1 - i
  . rw [if_pos h1, if_pos (by omega), if_neg (by omega), h1]
    congr 1; omega
  . rw [if_neg h1]
    by_cases h2 : k = i
    . rw [if_pos h2, if_pos (by omega), if_neg (by omega), h2]
    . rw [if_neg h2]
      by_cases h3 : k < i \/ l.length - i <= k
      . rw [if_pos (by omega), if_pos h3]
      . rw [if_neg (by omega), if_neg h3]
@[go_sem] theorem JCT (l : List ByteArray) (i : Nat) (x : ByteArray) : (l.map Str).set i (.v (.string x)) = (l.set i x).map Str := by simp
abbrev rvB (l : List ByteArray) : List (Nat × Blk) := [(165675104, ⟨9, 1, l.map Str⟩)]
set_option maxHeartbeats 2000000 in
theorem Jk7 (l : List ByteArray) (hl : l.length <= 1000000) : LOK prog 121 (inI [165675104]) [.own 165675104 1 0 l.length] (stO (rvB l)) (.tup []) (stO (rvB l.reverse)) := by
  refine JcJ [3] [165675104] func121 rfl (by kernel_rfl) mo (nb rfl) rfl (by kernel_rfl) (by kernel_rfl) ?_
  obtain ⟨n, hn⟩ : ∃ n, l.length = n := ⟨_, rfl⟩
  rw [hn]; simp -implicitDefEqProofs (disch := omega) only [go_sem, ntmps121]
  refine Jag (fun k E σ => ∃ i : Nat, k = n - i /\ i <= n /\ E 0 = .own 165675104 1 0 n /\ E 2 = I i /\ E 3 = I ((n : Int) - 1 - i) /\ σ 165675104 = some ⟨9, 1, (revN l i).map Str⟩) n ⟨0, by omega, by omega, ?_⟩ ?_
  . rw [JpG]; simp -implicitDefEqProofs (disch := omega) only [go_sem]
    exact ⟨rfl, by congr 2; omega⟩
  rintro k E σ ⟨i, hk, hin, e0, e2, e3, m0⟩
  simp -implicitDefEqProofs (disch := omega) only [go_sem, e0, e2, e3, m0]
  refine Jab (fun hc => ?_) (fun hc => ?_)
  . have hstep := JpF l i (by omega)
    have hel := Ja4 l i; rw [hn] at hstep hel
    obtain ⟨j, hj⟩ : ∃ j : Nat, n - 1 - i = j := ⟨_, rfl⟩
    have e3 : E 3 = I j := by rw [e3]; congr 2; omega
    rw [hj] at hstep
    obtain ⟨a, ha⟩ : ∃ a, gd (revN l i) j = a := ⟨_, rfl⟩
    obtain ⟨b, hb⟩ : ∃ b, gd (revN l i) i = b := ⟨_, rfl⟩
    rw [ha, hb] at hstep
    have hil : i < n := by omega
    have hjl : j < n := by omega
    generalize revN l i = es at *; simp -implicitDefEqProofs (disch := omega) only [go_sem, e0, e2, e3, m0]
    refine Jd5 (fun D E σ => E 0 = .own 165675104 1 0 n /\ E 2 = I i /\ E 3 = I j /\ (D 15 = true -> D 13 = true) /\ (D 13 = true -> D 7 = true) /\ (D 13 = true -> D 11 = true) /\ (D 13 = false -> σ 165675104 = some ⟨9, 1, es.map Str⟩) /\ (D 13 = true -> D 15 = false -> σ 165675104 = some ⟨9, 1, (es.set i a).map Str⟩) /\ (D 15 = true -> σ 165675104 = some ⟨9, 1, ((es.set i a).set j b).map Str⟩) /\ (D 0 = true -> E 14 = .own 165675104 1 0 n) /\ (D 1 = true -> E 15 = I i) /\ (D 2 = true -> E 16 = .own 165675104 1 0 n) /\ (D 3 = true -> E 17 = I j) /\ (D 4 = true -> E 18 = .own 165675104 1 0 n) /\ (D 5 = true -> E 19 = I j) /\ (D 6 = true -> E 20 = .ptr 165675104 1 j 0) /\ (D 7 = true -> E 21 = Str a) /\ (D 8 = true -> E 22 = .own 165675104 1 0 n) /\ (D 9 = true -> E 23 = I i) /\ (D 10 = true -> E 24 = .ptr 165675104 1 i 0) /\ (D 11 = true -> E 25 = Str b) /\ (D 12 = true -> E 26 = .ptr 165675104 1 i 0) /\ (D 14 = true -> E 27 = .ptr 165675104 1 j 0)) ?_ ?_ ?_
    . simp -implicitDefEqProofs (disch := omega) only [go_sem, hel, ha, hb, hil, hjl]
      simp [e0, e2, e3, m0]
    . simp only [Jfd, depK, Region.binds, eq_self, forall_const, and_true]
      repeat' apply And.intro
      all_goals
        rintro D E σ ⟨e0, e2, e3, c15_13, c13_7, c13_11, m0_0, m0_1, m0_2, j0, j1, j2, j3, j4, j5, j6, j7, j8, j9, j10, j11, j12, j14⟩ hd
        have k := And.intro trivial <| And.intro (cK c15_13) <| And.intro (cK c13_7) <| And.intro (cK c13_11) trivial
        simp -implicitDefEqProofs (disch := first | assumption | (simp only [hd, k]; done) | omega) only [go_sem, e0, e2, e3, m0_0, m0_1, m0_2, j0, j1, j2, j3, j4, j5, j6, j7, j8, j9, j10, j11, j12, j14, hel, ha, hb, hil, hjl]
        repeat' apply And.intro
        all_goals first | assumption | (intro _; assumption) | trivial | (simp -implicitDefEqProofs (contextual := true) (disch := first | assumption | omega) only [go_sem, m0_0, m0_1, m0_2, j0, j1, j2, j3, j4, j5, j6, j7, j8, j9, j10, j11, j12, j14, hd, c15_13, c13_7, c13_11, k, implies_true, forall_const, false_implies, true_implies]; done) | (intro h; intros; exfalso; simp (maxDischargeDepth := 9) [hd, k] at h; done) | (intros; contradiction) | trace_state
    . rintro D E σ hD ⟨e0, e2, e3, c15_13, c13_7, c13_11, m0_0, m0_1, m0_2, j0, j1, j2, j3, j4, j5, j6, j7, j8, j9, j10, j11, j12, j14⟩
      have g0 := m0_2 (hD 15 (by decide))
      have q0 := j0 (hD 0 (by decide))
      have q1 := j1 (hD 1 (by decide))
      have q2 := j2 (hD 2 (by decide))
      have q3 := j3 (hD 3 (by decide))
      have q4 := j4 (hD 4 (by decide))
      have q5 := j5 (hD 5 (by decide))
      have q6 := j6 (hD 6 (by decide))
      have q7 := j7 (hD 7 (by decide))
      have q8 := j8 (hD 8 (by decide))
      have q9 := j9 (hD 9 (by decide))
      have q10 := j10 (hD 10 (by decide))
      have q11 := j11 (hD 11 (by decide))
      have q12 := j12 (hD 12 (by decide))
      have q14 := j14 (hD 14 (by decide))
      clear c15_13 c13_7 c13_11 m0_0 m0_1 m0_2 j0 j1 j2 j3 j4 j5 j6 j7 j8 j9 j10 j11 j12 j14 hD; simp -implicitDefEqProofs (disch := omega) only [go_sem, e0, e2, e3, g0]
      refine Jae (n - (i + 1)) (by omega) ⟨i + 1, by omega, by omega, ?_⟩
      rw [hstep]; simp -implicitDefEqProofs (disch := omega) only [go_sem, e0, e2, e3, g0]
      exact ⟨rfl, by congr 2; omega⟩
  . rw [JrG l i (by omega)] at m0
    simp -implicitDefEqProofs (disch := omega) only [go_sem, e0, e2, e3, m0, results121]
abbrev Jbb (l : List ByteArray) (i : Nat) : List ByteArray := JcE JaW Ja3 empF l i
theorem Jd2 {l : List ByteArray} (h : 2 <= l.length) (i : Nat) : Jbb l i = if i < Jaw l.length then Jar (l.drop (Jaw l.length)) :: Jbb (l.take (Jaw l.length)) i else Jar (l.take (Jaw l.length)) :: Jbb (l.drop (Jaw l.length)) (i - Jaw l.length) := JfD JaW Ja3 empF h i
theorem Jpv (l : List ByteArray) (i : Int) (hl : l.length <= 60) (hi : ¬ (0 <= i /\ i < l.length)) : Ev prog 78 [SLs l, I i] (.tup [.new 9 1 [], I 2]) := by
  refine EV func78 ?_
  simp -implicitDefEqProofs (disch := omega) only [go_sem, ntmps78]
  refine Jab (fun h1 => ?_) (fun h1 => ?_)
  . simp -implicitDefEqProofs (disch := omega) only [go_sem, results78]
  simp -implicitDefEqProofs (disch := omega) only [go_sem]
  refine Jbl (by omega) ?_
  simp -implicitDefEqProofs (disch := omega) only [go_sem, results78]
theorem JuB : Ev prog 121 [SLs []] (.tup []) := by
  refine EW [3] func121 ?_
  simp -implicitDefEqProofs (disch := omega) only [go_sem, ntmps121]
  refine Jag (fun k E σ => E 0 = SLs [] /\ E 2 = I 0 /\ E 3 = I (-1)) 0 ?_ ?_
  . simp -implicitDefEqProofs (disch := omega) only [go_sem]; try rfl
  rintro k E σ ⟨e0, e2, e3⟩
  simp -implicitDefEqProofs (disch := omega) only [go_sem, e0, e2, e3]
  try refine Jau (by decide) ?_
  simp -implicitDefEqProofs (disch := omega) only [go_sem, results121]
set_option maxHeartbeats 2000000 in
theorem Jry (l : List ByteArray) (J : Nat) (hl : l.length <= 60) (hs : ∀ s ∈ l, s.size <= 1000000) (hJ : J < l.length) : Ev prog 78 [SLs l, I J] (.tup [SLs (Jbb l J).reverse, I 0]) := by
  refine EV func78 ?_
  simp -implicitDefEqProofs (disch := omega) only [go_sem, ntmps78]
  refine Jau (by omega) ?_
  simp -implicitDefEqProofs (disch := omega) only [go_sem]
  refine Jau (by omega) ?_
  have hP : Jbb l J = Jbb l J := rfl
  generalize hQ : Jbb l J = Q at *; clear hP; simp -implicitDefEqProofs (disch := omega) only [go_sem]
  refine Jag (fun k E σ => ∃ (L : List ByteArray) (i : Nat) (acc : List ByteArray), i < L.length /\ L.length <= 60 /\ k = L.length /\ acc.length + L.length <= 60 /\ (∀ s ∈ L, s.size <= 1000000) /\ Q = acc ++ Jbb L i /\ E 0 = SLs L /\ E 1 = I i /\ E 6 = .own 165675104 1 0 acc.length /\ σ 165675104 = some ⟨9, 1, acc.map Str⟩) l.length ⟨l, J, [], by omega, hl, rfl, by simpa using hl, hs, hQ.symm, ?_⟩ ?_
  . simp -implicitDefEqProofs (disch := omega) only [go_sem]; try rfl
  clear hQ hs hJ hl l J
  rintro k E σ ⟨L, i, acc, hi, hL, hk, hal, hs, hQ, e0, e1, e6, m6⟩
  have hat : acc.take acc.length = acc := L0d
  simp -implicitDefEqProofs (disch := omega) only [go_sem, e0, e1, e6, m6]
  refine Jab (fun hc => ?_) (fun hc => ?_)
  . have hp1 : Jbb L i = [] := Jbq JaW Ja3 empF (by omega) i
    rw [hp1, L0F] at hQ; subst hQ
    by_cases hQ0 : Q = []
    . subst hQ0
      have e6 : E 6 = .own 165675104 1 0 0 := e6
      have m6 : σ 165675104 = some ⟨9, 1, []⟩ := m6
      simp -implicitDefEqProofs (disch := omega) only [go_sem, e0, e1, e6, m6]
      refine Jam rfl ?_
      refine JaS [165675104] ?_
      simp -implicitDefEqProofs (disch := omega) only [go_sem, e0, e1, e6, m6]
      refine Jaa JuB ?_
      simp -implicitDefEqProofs (disch := omega) only [go_sem, e0, e1, e6, m6, results78]; try rfl
    . have hpos := L17.2 hQ0; simp -implicitDefEqProofs (disch := omega) only [go_sem, e0, e1, e6, m6]
      refine Jam rfl ?_
      have hLk := Jk7 Q (by omega)
      have hrl : Q.reverse.length = Q.length := L1j
      unfold rvB at hLk; generalize hR : Q.reverse = R at *
      refine Jq9 (xs := [.own 165675104 1 0 Q.length]) (caps := []) 165675104 6 hLk ?_ ?_ ?_ ?_ (by omega) ?_ ?_
      . simp -implicitDefEqProofs (disch := omega) only [go_sem, e6]
      . simp -implicitDefEqProofs (disch := omega) only [go_sem, e6]
      . simp -implicitDefEqProofs (disch := omega) only [go_sem, m6]
      . simp -implicitDefEqProofs (disch := omega) only [go_sem, e6, hrl]
      . simp -implicitDefEqProofs (disch := omega) only [go_sem]
      . simp -implicitDefEqProofs (disch := omega) only [go_sem, e6, m6, results78]
  . have hle := JoY L.length (by omega) (by omega)
    have a1 := Jb1 (n := L.length) (by omega)
    have a2 := Jbv L.length
    have hp2 := Jd2 (l := L) (by omega) i
    rw [hp2] at hQ; clear hp2; generalize Jaw L.length = m at *
    have hml : (m <= L.length) = True := eq_true (by omega)
    have hdt : (L.drop m).take (L.length - m) = L.drop m := L09 (by rw [L0e]; omega)
    have hs1 := (Jc3 hs m).1; have hs2 := (Jc3 hs m).2
    have r1 := Jk8 (L.drop m) (by rw [L0e]; omega) hs2
    have r2 := Jk8 (L.take m) (by rw [L02]; omega) hs1
    simp -implicitDefEqProofs (disch := omega) only [go_sem, e0, e1, e6, m6]
    refine Jaa hle ?_
    simp -implicitDefEqProofs (disch := omega) only [go_sem, e0, e1, e6, m6, hml, hdt, L0M]
    refine Jab (fun h3 => ?_) (fun h3 => ?_)
    . rw [if_neg (by omega)] at hQ
      simp -implicitDefEqProofs (disch := omega) only [go_sem, e0, e1, e6, m6, hml, hdt, L0M]
      refine Jaa r2 ?_
      simp -implicitDefEqProofs (disch := omega) only [go_sem, e0, e1, e6, m6, hat]
      refine Jae (L.drop m).length (by rw [L0e]; omega) ⟨L.drop m, i - m, acc ++ [Jar (L.take m)], by rw [L0e]; omega, by rw [L0e]; omega, rfl, by rw [L0e, L08]; simp; omega, hs2, by rw [hQ]; simp, ?_⟩
      have q2 : ((i - m : Nat) : Int) = (i : Int) - m := by omega
      rw [q2]; simp -implicitDefEqProofs (disch := omega) only [go_sem, e0, e1, e6, m6, hat, L08, L0f, L0z]; try simp
    . rw [if_pos (by omega)] at hQ
      simp -implicitDefEqProofs (disch := omega) only [go_sem, e0, e1, e6, m6, hml, hdt, L0M]
      refine Jaa r1 ?_
      simp -implicitDefEqProofs (disch := omega) only [go_sem, e0, e1, e6, m6, hat]
      refine Jae (L.take m).length (by rw [L02]; omega) ⟨L.take m, i, acc ++ [Jar (L.drop m)], by rw [L02]; omega, by rw [L02]; omega, rfl, by rw [L02, L08]; simp; omega, hs1, by rw [hQ]; simp, ?_⟩
      simp -implicitDefEqProofs (disch := omega) only [go_sem, e0, e1, e6, m6, hat, L08, L0f, L0z]; try simp
theorem Jd1 : ∀ (n : Nat) (l : List ByteArray) (i : Nat), l.length <= n -> (Jbb l i).length <= l.length
  | 0, l, i, hn => by
    have : Jbb l i = [] := Jbq JaW Ja3 empF (by omega) i
    rw [this]; simp
  | n + 1, l, i, hn => by
    by_cases h : 2 <= l.length
    . have a1 := Jb1 h; have a2 := Jbv l.length; rw [Jd2 h]
      split
      . have := Jd1 n (l.take (Jaw l.length)) i (by rw [L02]; omega)
        rw [L02] at this
        rw [L0f]; omega
      . have := Jd1 n (l.drop (Jaw l.length)) (i - Jaw l.length) (by rw [L0e]; omega)
        rw [L0e] at this
        rw [L0f]; omega
    . have : Jbb l i = [] := Jbq JaW Ja3 empF (by omega) i
      rw [this]; simp
set_option maxHeartbeats 2000000 in
theorem JeA : ∀ (n : Nat) (l : List ByteArray) (i : Nat), l.length <= n -> i < l.length -> l.length <= 60 -> (∀ s ∈ l, s.size <= 1000000) -> Ev prog 142 [SLs l, I i] (.tup [.new 9 1 ((Jbb l i).reverse.map Str), I 0])
  | 0, l, i, hn, hi, hl, hs => absurd hi (by omega)
  | n + 1, l, i, hn, hi, hl, hs => by
    by_cases h1 : l.length = 1
    . have hp1 : Jbb l i = [] := Jbq JaW Ja3 empF (by omega) i
      rw [hp1]
      refine EV func142 ?_
      simp -implicitDefEqProofs (disch := omega) only [go_sem, ntmps142]
      refine Jau (by omega) ?_
      simp -implicitDefEqProofs (disch := omega) only [go_sem]
      refine Jau (by omega) ?_
      simp -implicitDefEqProofs (disch := omega) only [go_sem]
      refine Jbl (by omega) ?_
      simp -implicitDefEqProofs (disch := omega) only [go_sem, results142]; try rfl
    . have hle := JjF l.length (by omega) (by omega)
      have a1 := Jb1 (n := l.length) (by omega)
      have a2 := Jbv l.length
      have hp2 := Jd2 (l := l) (by omega) i
      generalize Jbb l i = Q at *; generalize Jaw l.length = m at *
      have hml : (m <= l.length) = True := eq_true (by omega)
      have hdt : (l.drop m).take (l.length - m) = l.drop m := L09 (by rw [L0e]; omega)
      have hs1 := (Jc3 hs m).1; have hs2 := (Jc3 hs m).2
      have r1 := Je8 _ (l.drop m) (L0a _) (by rw [L0e]; omega) hs2
      have r2 := Je8 _ (l.take m) (L0a _) (by rw [L02]; omega) hs1
      refine EV func142 ?_
      simp -implicitDefEqProofs (disch := omega) only [go_sem, ntmps142]
      refine Jau (by omega) ?_
      simp -implicitDefEqProofs (disch := omega) only [go_sem]
      refine Jau (by omega) ?_
      simp -implicitDefEqProofs (disch := omega) only [go_sem]
      refine Jau (by omega) ?_
      simp -implicitDefEqProofs (disch := omega) only [go_sem]
      refine Jaa hle ?_
      simp -implicitDefEqProofs (disch := omega) only [go_sem]
      refine Jab (fun h3 => ?_) (fun h3 => ?_)
      . rw [if_pos (by omega)] at hp2
        have ih := JeA n (l.take m) i (by rw [L02]; omega) (by rw [L02]; omega) (by rw [L02]; omega) hs1
        have hpl := Jd1 _ (l.take m) i (L0a _)
        have hpm := L02 (i := m) (l := l)
        have hpd := L0e (i := m) (l := l)
        generalize Jbb (l.take m) i = q at *; subst hp2; rw [L2e]
        have hqr : q.reverse.length = q.length := L1j
        generalize q.reverse = R at *
        have hRt : R.take R.length = R := L0d
        simp -implicitDefEqProofs (disch := omega) only [go_sem, hml, hdt, L0M]
        refine Jaa ih ?_
        simp -implicitDefEqProofs (disch := omega) only [go_sem, hml, hdt, L0M]
        refine Jaa r1 ?_
        simp -implicitDefEqProofs (disch := omega) only [go_sem, hRt, results142]; try simp
      . rw [if_neg (by omega)] at hp2
        have ih := JeA n (l.drop m) (i - m) (by rw [L0e]; omega) (by rw [L0e]; omega) (by rw [L0e]; omega) hs2
        have q2 : ((i - m : Nat) : Int) = (i : Int) - m := by omega
        rw [q2] at ih; have hpl := Jd1 _ (l.drop m) (i - m) (L0a _)
        have hpm := L02 (i := m) (l := l)
        have hpd := L0e (i := m) (l := l)
        generalize Jbb (l.drop m) (i - m) = q at *; subst hp2; rw [L2e]
        have hqr : q.reverse.length = q.length := L1j
        generalize q.reverse = R at *
        have hRt : R.take R.length = R := L0d
        simp -implicitDefEqProofs (disch := omega) only [go_sem, hml, hdt, L0M]
        refine Jaa ih ?_
        simp -implicitDefEqProofs (disch := omega) only [go_sem, hml, hdt, L0M]
        refine Jaa r2 ?_
        simp -implicitDefEqProofs (disch := omega) only [go_sem, hRt, results142]; try simp
abbrev HDP (h : Hd) : AV := .agg [I h.c, I h.n, Str h.r, Str h.s]
abbrev RGP (r : Rg) : AV := .agg [I r.c, SLs r.l]
theorem JiA (s : ByteArray) : Ev prog 115 [Str s] (B (decide (s.size = 32))) := by
  refine EV func115 ?_
  simp -implicitDefEqProofs (disch := omega) only [go_sem, ntmps115, results115]
  have : ((s.size : Int) == 32) = decide (s.size = 32) := by rw [L1i]; simp; omega
  rw [this]
theorem Jcn (n a b : Int) : Ev prog 117 [I n, I a, I b] (B (decide (a <= n /\ n <= b))) := by
  refine EV func117 ?_
  simp -implicitDefEqProofs (disch := omega) only [go_sem, ntmps117]
  refine Jab (fun h1 => ?_) (fun h1 => ?_)
  . simp -implicitDefEqProofs (disch := omega) only [go_sem, h1, results117]
    try simp [h1]
  . simp -implicitDefEqProofs (disch := omega) only [go_sem, h1, results117]
    try simp [h1]
theorem Jiy (n a b : Int) : Ev prog 141 [I n, I a, I b] (B (decide (a <= n /\ n <= b))) := by
  refine EV func141 ?_
  simp -implicitDefEqProofs (disch := omega) only [go_sem, ntmps141]
  refine Jab (fun h1 => ?_) (fun h1 => ?_)
  . simp -implicitDefEqProofs (disch := omega) only [go_sem, h1, results141]
    try simp [h1]
  . simp -implicitDefEqProofs (disch := omega) only [go_sem, h1, results141]
    try simp [h1]
theorem Jub (s : ByteArray) : Ev prog 157 [Str s] (B (!decide (s.size <= 1000))) := by
  refine EV func157 ?_
  simp -implicitDefEqProofs (disch := omega) only [go_sem, ntmps157, results157]
  have : decide ((1000 : Int) < s.size) = !decide (s.size <= 1000) := by rw [L1i]; simp; omega
  rw [this]
theorem Jh3 (r : Rg) (hl : r.l.length <= 9223372036854775807) : Ev prog 116 [RGP r] (B (regB r)) := by
  have c1 := Jcn r.c 0 7
  have c2 := JoG 157 [] (fun s => !decide (s.size <= 1000)) r.l (fun s _ => Jub s) (fun _ => rfl) (fun _ => rfl) hl
  have hr : regB r = (decide (0 <= r.c /\ r.c <= 7) && (decide (r.l.length <= 60) && !(r.l.any fun s => !decide (s.size <= 1000)))) := by
    unfold regB; rw [Jkq]
  obtain ⟨z, hz⟩ : ∃ z, regB r = z := ⟨_, rfl⟩
  rw [hz] at hr ⊢; generalize decide (0 <= r.c /\ r.c <= 7) = b1 at *
  generalize (r.l.any fun s => !decide (s.size <= 1000)) = b2 at *
  refine EV func116 ?_
  simp -implicitDefEqProofs (disch := omega) only [go_sem, ntmps116]
  refine Jaa c1 ?_
  cases b1 with
  | false =>
    subst hr; simp -implicitDefEqProofs (disch := omega) only [go_sem, results116]; try rfl
  | true =>
    simp -implicitDefEqProofs (disch := omega) only [go_sem]
    refine Jab (fun h1 => ?_) (fun h1 => ?_)
    . rw [decide_eq_true (by omega)] at hr
      simp -implicitDefEqProofs (disch := omega) only [go_sem]
      refine Jaa c2 ?_
      subst hr
      cases b2 <;> (simp -implicitDefEqProofs (disch := omega) only [go_sem, results116]; try rfl)
    . rw [decide_eq_false (by omega)] at hr
      subst hr; simp -implicitDefEqProofs (disch := omega) only [go_sem, results116]; try rfl
theorem Jhb (r : Rg) (hl : r.l.length <= 9223372036854775807) : Ev prog 179 [RGP r] (B (regB r)) := by
  have c1 := Jiy r.c 0 7
  have hr : regB r = (decide (0 <= r.c /\ r.c <= 7) && (decide (r.l.length <= 60) && r.l.all fun s => decide (s.size <= 1000))) := rfl
  obtain ⟨z, hz⟩ : ∃ z, regB r = z := ⟨_, rfl⟩
  rw [hz] at hr ⊢; generalize decide (0 <= r.c /\ r.c <= 7) = b1 at *; obtain ⟨c, l⟩ := r
  simp only at hl hr
  refine EV func179 ?_
  simp -implicitDefEqProofs (disch := omega) only [go_sem, ntmps179]
  refine Jaa c1 ?_
  cases b1 with
  | false =>
    subst hr; simp -implicitDefEqProofs (disch := omega) only [go_sem, results179]; try rfl
  | true =>
    simp -implicitDefEqProofs (disch := omega) only [go_sem]
    refine Jab (fun h1 => ?_) (fun h1 => ?_)
    . rw [decide_eq_false (by omega)] at hr
      subst hr; simp -implicitDefEqProofs (disch := omega) only [go_sem, results179]; try rfl
    rw [decide_eq_true (by omega), L0k, L0k] at hr
    simp -implicitDefEqProofs (disch := omega) only [go_sem]
    refine Jag (fun k E σ => ∃ i : Nat, i + k = l.length /\ z = (l.drop i).all (fun s => decide (s.size <= 1000)) /\ E 1 = .ptr 377487376 2 0 0 /\ E 3 = I i /\ σ 377487376 = some ⟨90, 2, [.agg [I c, SLs l]]⟩) l.length ⟨0, by omega, hr, ?_⟩ ?_
    . simp -implicitDefEqProofs (disch := omega) only [go_sem]; try rfl
    rintro k E σ ⟨i, hk, hx, e1, e3, m1⟩
    simp -implicitDefEqProofs (disch := omega) only [go_sem, e1, e3, m1]
    refine Jab (fun hc => ?_) (fun hc => ?_)
    . have hi : i < l.length := by omega
      rw [JaU l i hi, L1D] at hx; simp -implicitDefEqProofs (disch := omega) only [go_sem, e1, e3, m1]
      refine Jab (fun h2 => ?_) (fun h2 => ?_)
      . rw [decide_eq_false (by omega), L0c] at hx
        subst hx; simp -implicitDefEqProofs (disch := omega) only [go_sem, results179]
      . rw [decide_eq_true (by omega), L0k] at hx
        simp -implicitDefEqProofs (disch := omega) only [go_sem, e1, e3, m1]
        refine Jae (l.length - (i + 1)) (by omega) ⟨i + 1, by omega, hx, ?_⟩
        simp -implicitDefEqProofs (disch := omega) only [go_sem, e1, e3, m1]; try rfl
    . obtain rfl : i = l.length := by omega
      rw [L0H] at hx
      have hx : z = true := hx
      subst hx; simp -implicitDefEqProofs (disch := omega) only [go_sem, results179]
theorem JtC (h : Hd) (hc : 0 <= h.c /\ h.c <= 7) (hn : 0 <= h.n /\ h.n <= 60) (hr : h.r.size <= 1000000) : Ev prog 185 [HDP h] (Str (Jeo h)) := by
  have c1 := Jd3 4 (by omega) (by omega)
  have c2 := Jd3 h.c (by omega) (by omega)
  have c3 := Jd3 h.n (by omega) (by omega)
  have s1 := JaP 4; have s2 := JaP h.c; have s3 := JaP h.n
  refine EV func185 ?_
  simp -implicitDefEqProofs (disch := omega) only [go_sem, ntmps185]
  refine Jaa c1 ?_
  simp -implicitDefEqProofs (disch := omega) only [go_sem]
  refine Jaa c2 ?_
  simp -implicitDefEqProofs (disch := omega) only [go_sem]
  refine Jaa c3 ?_
  have z1 : (viS 4 ++ viS h.c).size = (viS 4).size + (viS h.c).size := L0T
  have z2 : (viS 4 ++ viS h.c ++ viS h.n).size = (viS 4).size + (viS h.c).size + (viS h.n).size := by rw [L0T, z1]
  simp -implicitDefEqProofs (disch := omega) only [go_sem, z1, z2, results185]; try rfl
theorem JhC (h : Hd) : (Jeo h).size <= 30 + h.r.size := by
  have s1 := JaP 4; have s2 := JaP h.c; have s3 := JaP h.n; unfold Jeo; rw [L0T, L0T, L0T]
  omega
theorem JrJ (key : ByteArray) (h : Hd) (hk : key.size <= 10000) (hc : 0 <= h.c /\ h.c <= 7) (hn : 0 <= h.n /\ h.n <= 60) (hr : h.r.size <= 1000000) : Ev prog 144 [Str key, HDP h] (Str (Jed key h)) := by
  have c1 := JtC h hc hn hr; have z := JhC h
  have c2 := JlU (Jeo h) (by omega)
  have c3 := Jl2 key (JaW (Jeo h)) (by rw [JcV]; omega)
  unfold Jed; generalize Jeo h = q at *
  refine EV func144 ?_
  simp -implicitDefEqProofs (disch := omega) only [go_sem, ntmps144]
  refine Jaa c1 ?_
  simp -implicitDefEqProofs (disch := omega) only [go_sem]
  refine Jaa c2 ?_
  simp -implicitDefEqProofs (disch := omega) only [go_sem]
  refine Jaa c3 ?_
  simp -implicitDefEqProofs (disch := omega) only [go_sem, results144]
theorem JfA (u : Bool) (l : List Int) (n : Int) (hl : l.length <= 1000000) (hn : -4611686018427387903 <= n /\ n <= 4611686018427387903) :
    LOK prog 163 (inI [251658320]) [.ptr 251658320 2 0 0, I n] (stO (bLS u l)) (.tup []) (stO (bLS true (l ++ bI (viS n)))) := by
  refine JcJ [] [251658320] func163 rfl (by kernel_rfl) mo (nb rfl) rfl (by kernel_rfl) (by kernel_rfl) ?_
  have hp := JjV n hn.1 hn.2; have hvs := JaP n; generalize viS n = v at *; simp -implicitDefEqProofs (disch := omega) only [go_sem, ntmps163]
  refine Jaa hp ?_
  simp -implicitDefEqProofs (disch := omega) only [go_sem]
  refine Jam rfl ?_
  have hL : LOK prog 127 (inI [251658320]) ([.ptr 251658320 2 0 0, Str v] ++ []) (stO (bLS u l)) (.tup [I v.size, .v .nilIface]) (stO (bLS true (l ++ bI v))) := Jkm u l v (by omega)
  refine Jcq [251658320] hL ?_ ?_ ?_ ?_ ?_ ?_ ?_ (hsp := fun id _ h => h)
  . simp -implicitDefEqProofs (disch := omega) only [go_sem]
  . simp -implicitDefEqProofs (disch := omega) only [go_sem]
  . cases u <;> simp -implicitDefEqProofs (disch := omega) only [go_sem]
  . cases u <;> simp -implicitDefEqProofs (disch := omega) only [go_sem]
  . cases u <;> simp -implicitDefEqProofs (disch := omega) only [go_sem]
  . simp -implicitDefEqProofs (disch := omega) only [go_sem]
  . simp -implicitDefEqProofs (disch := omega) only [go_sem, results163]
set_option maxHeartbeats 1000000 in
theorem JpL (key : ByteArray) (h : Hd) (hk : key.size <= 10000) (hc : 0 <= h.c /\ h.c <= 7) (hn : 0 <= h.n /\ h.n <= 60) (hr : h.r.size <= 1000000) : Ev prog 119 [Str key, HDP h] (Str (Jed key h)) := by
  have z := JhC h
  have c2 := JkQ (Jeo h) (by omega)
  have c3 := JgY key (JaW (Jeo h)) (by rw [JcV]; omega)
  have hb : bI (Jeo h) = ((bI (viS 4) ++ bI (viS h.c)) ++ bI (viS h.n)) ++ bI h.r := by unfold Jeo; rw [JeI, JeI, JeI]
  have hz0 : (Jeo h).size ≠ 0 := by
    have := Jqb 4
    unfold Jeo
    rw [L0T, L0T, L0T]; omega
  have s1 : (bI (viS 4)).length <= 10 := by rw [JaJ]; exact JaP 4
  have s2 : (bI (viS h.c)).length <= 10 := by rw [JaJ]; exact JaP h.c
  have s3 : (bI (viS h.n)).length <= 10 := by rw [JaJ]; exact JaP h.n
  have n1 := JfA false [] 4 (by simp) (by omega)
  have n2 := JfA true (bI (viS 4)) h.c (by omega) (by omega)
  have n3 := JfA true (bI (viS 4) ++ bI (viS h.c)) h.n (by rw [L08]; omega) (by omega)
  have n4 := Jkm true (bI (viS 4) ++ bI (viS h.c) ++ bI (viS h.n)) h.r (by rw [L08, L08]; omega)
  have n5 := Jns true (Jeo h) hz0 (by omega)
  rw [<- hb] at n4; rw [L1Q] at n1; unfold Jed; generalize Jeo h = q at *; generalize bI (viS 4) = q1 at *; generalize bI (viS h.c) = q2 at *; generalize bI (viS h.n) = q3 at *
  change LOK _ _ _ ([_, _] ++ []) _ _ _ at n1
  change LOK _ _ _ ([_, _] ++ []) _ _ _ at n2
  change LOK _ _ _ ([_, _] ++ []) _ _ _ at n3
  change LOK _ _ _ ([_, _] ++ []) _ _ _ at n4
  change LOK _ _ _ ([_] ++ []) _ _ _ at n5
  refine EV func119 ?_
  simp -implicitDefEqProofs (disch := omega) only [go_sem, ntmps119]
  refine Jam rfl ?_
  refine Jm9 251658320 251658321 0 1 5 1 (k := ⟨240, 2, [.agg [.v (.pointer none), .v (.slice none 0 0)]]⟩) (el := .agg [.v (.pointer none), .v (.slice none 0 0)]) (by simp -implicitDefEqProofs (disch := omega) only [go_sem]) (by decide) rfl rfl (by decide) (by simp -implicitDefEqProofs (disch := omega) only [go_sem]) rfl ?_
  refine Jcq [251658320] n1 ?_ ?_ ?_ ?_ ?_ ?_ ?_
  . simp -implicitDefEqProofs (disch := omega) only [go_sem]
  . simp -implicitDefEqProofs (disch := omega) only [go_sem]
  . simp -implicitDefEqProofs (disch := omega) only [go_sem]
    simp
  . simp -implicitDefEqProofs (disch := omega) only [go_sem]
  . simp -implicitDefEqProofs (disch := omega) only [go_sem]
  . simp -implicitDefEqProofs (disch := omega) only [go_sem]
  simp -implicitDefEqProofs (disch := omega) only [go_sem]
  refine Jam rfl ?_
  refine Jcq [251658320] n2 ?_ ?_ ?_ ?_ ?_ ?_ ?_
  . simp -implicitDefEqProofs (disch := omega) only [go_sem]
  . simp -implicitDefEqProofs (disch := omega) only [go_sem]
  . simp -implicitDefEqProofs (disch := omega) only [go_sem]
  . simp -implicitDefEqProofs (disch := omega) only [go_sem]
  . simp -implicitDefEqProofs (disch := omega) only [go_sem]
  . simp -implicitDefEqProofs (disch := omega) only [go_sem]
  simp -implicitDefEqProofs (disch := omega) only [go_sem]
  refine Jam rfl ?_
  refine Jcq [251658320] n3 ?_ ?_ ?_ ?_ ?_ ?_ ?_
  . simp -implicitDefEqProofs (disch := omega) only [go_sem]
  . simp -implicitDefEqProofs (disch := omega) only [go_sem]
  . simp -implicitDefEqProofs (disch := omega) only [go_sem]
  . simp -implicitDefEqProofs (disch := omega) only [go_sem]
  . simp -implicitDefEqProofs (disch := omega) only [go_sem]
  . simp -implicitDefEqProofs (disch := omega) only [go_sem]
  simp -implicitDefEqProofs (disch := omega) only [go_sem]
  refine Jam rfl ?_
  refine Jcq [251658320] n4 ?_ ?_ ?_ ?_ ?_ ?_ ?_
  . simp -implicitDefEqProofs (disch := omega) only [go_sem]
  . simp -implicitDefEqProofs (disch := omega) only [go_sem]
  . simp -implicitDefEqProofs (disch := omega) only [go_sem]
  . simp -implicitDefEqProofs (disch := omega) only [go_sem]
  . simp -implicitDefEqProofs (disch := omega) only [go_sem]
  . simp -implicitDefEqProofs (disch := omega) only [go_sem]
  simp -implicitDefEqProofs (disch := omega) only [go_sem]
  refine Jam rfl ?_
  refine Jcq [251658320] n5 ?_ ?_ ?_ ?_ ?_ ?_ ?_
  . simp -implicitDefEqProofs (disch := omega) only [go_sem]
  . simp -implicitDefEqProofs (disch := omega) only [go_sem]
  . simp -implicitDefEqProofs (disch := omega) only [go_sem]
  . simp -implicitDefEqProofs (disch := omega) only [go_sem]
  . simp -implicitDefEqProofs (disch := omega) only [go_sem]
  . simp -implicitDefEqProofs (disch := omega) only [go_sem]
  simp -implicitDefEqProofs (disch := omega) only [go_sem]
  refine Jaa c2 ?_
  simp -implicitDefEqProofs (disch := omega) only [go_sem]
  refine Jaa c3 ?_
  simp -implicitDefEqProofs (disch := omega) only [go_sem, results119]
theorem Jq1 (key : ByteArray) (h : Hd) : genB key h = (decide (key.size = 32) && (decide (0 <= h.c /\ h.c <= 7) && (decide (0 <= h.n /\ h.n <= 60) && (decide (h.r.size = 32) && decide (h.s = Jed key h))))) := by
  unfold genB; simp only [Bool.decide_and, L1r]
theorem JxA (key : ByteArray) (h : Hd) (hrs : h.r.size <= 9223372036854775807) : Ev prog 130 [Str key, HDP h] (B (genB key h)) := by
  have c1 := Jcn h.c 0 7; have c2 := Jcn h.n 0 60; have c3 := JiA key
  have c4 := fun (hk : key.size = 32) (hc : 0 <= h.c /\ h.c <= 7) (hn : 0 <= h.n /\ h.n <= 60) (hr : h.r.size = 32) => JpL key h (by omega) hc hn (by omega)
  have hg := Jq1 key h
  obtain ⟨z, hz⟩ : ∃ z, genB key h = z := ⟨_, rfl⟩
  rw [hz] at hg ⊢; generalize Jed key h = S at *; obtain ⟨c, n, r, s⟩ := h
  simp only at *
  refine EV func130 ?_
  simp -implicitDefEqProofs (disch := omega) only [go_sem, ntmps130]
  by_cases h1 : 0 <= c /\ c <= 7
  rotate_left
  . rw [decide_eq_false h1] at c1 hg; rw [L0c, L1L] at hg; subst hg
    refine Jaa c1 ?_
    simp -implicitDefEqProofs (disch := omega) only [go_sem]
    refine Jaa c3 ?_
    generalize decide (key.size = 32) = b at *
    cases b <;> simp -implicitDefEqProofs (disch := omega) only [go_sem, results130]
  rw [decide_eq_true h1] at c1 hg
  refine Jaa c1 ?_
  simp -implicitDefEqProofs (disch := omega) only [go_sem]
  by_cases h2 : 0 <= n /\ n <= 60
  rotate_left
  . rw [decide_eq_false h2] at c2 hg; rw [L0c, L1L, L1L] at hg; subst hg
    refine Jaa c2 ?_
    simp -implicitDefEqProofs (disch := omega) only [go_sem]
    refine Jaa c3 ?_
    generalize decide (key.size = 32) = b at *
    cases b <;> simp -implicitDefEqProofs (disch := omega) only [go_sem, results130]
  rw [decide_eq_true h2] at c2 hg
  refine Jaa c2 ?_
  have he : ((r.size : Int) == 32) = decide (r.size = 32) := by rw [L1i]; simp; omega
  simp -implicitDefEqProofs (disch := omega) only [go_sem, he]
  refine Jaa c3 ?_
  by_cases h3 : key.size = 32
  rotate_left
  . rw [decide_eq_false h3] at hg ⊢; rw [L0c] at hg; subst hg; simp -implicitDefEqProofs (disch := omega) only [go_sem, results130]
  rw [decide_eq_true h3] at hg ⊢
  by_cases h4 : r.size = 32
  rotate_left
  . rw [decide_eq_false h4] at hg ⊢; rw [L0c, L1L, L1L, L1L] at hg; subst hg; simp -implicitDefEqProofs (disch := omega) only [go_sem, results130]
  rw [decide_eq_true h4] at hg ⊢; simp only [L0k] at hg; simp -implicitDefEqProofs (disch := omega) only [go_sem]
  refine Jaa (c4 h3 h1 h2 h4) ?_
  subst hg; simp -implicitDefEqProofs (disch := omega) only [go_sem, JiX, results130]
end Go.Proofs.YtnpbhgeffapojaaGreatDoor

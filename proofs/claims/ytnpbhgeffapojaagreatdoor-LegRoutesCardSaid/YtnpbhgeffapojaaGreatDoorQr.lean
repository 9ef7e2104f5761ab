/- The law LegRoutes: the row and the card. -/
import Derived.Test.YtnpbhgeffapojaaGreatDoorKI
set_option linter.all false
namespace Go.Proofs.YtnpbhgeffapojaaGreatDoor.Rt
open Go.Proofs.Tryz
open Go.Vai Go
def Jcu (c n : Int) : Int := (if c < 0 then -(c + 1) else c).tmod n
def inF (n lo hi : Int) : Bool := decide (lo <= n) && decide (n <= hi)
def holdersF (h : List Int) : Bool := inF h.length 1 30 && h.all fun c => inF c (-1) 7
def findF (l : List Int) (v : Nat) : Nat -> Int
 | 0 => -1
 | n + 1 => if inF (gd l v) (-1) 7 = false then v else findF l (v + 1) n
def turnsF (h : List Int) (c : Int) (v : Nat) : Prop := gd h v ≠ gd h (v - 1) /\ (gd h v = c \/ gd h (v - 1) = c)
instance (h : List Int) (c : Int) (v : Nat) : Decidable (turnsF h c v) := by unfold turnsF; exact inferInstance
def leastF (h : List Int) (b c : Int) : Nat -> Int
 | 0 => max 0 ((h.length : Int) - 1 - b)
 | v + 1 => if turnsF h c (v + 1) then max (leastF h b c v) ((v + 1 : Nat) : Int) else leastF h b c v
def validF (h k : List Int) (b : Int) : Bool :=
 holdersF h && decide (k.length = 8) && inF b 0 10 && (List.range 8).all fun (c : Nat) => decide (gd k c = -1) || inF (gd k c) (leastF h b c (h.length - 1)) ((h.length : Int) - 1)
theorem leastF_le (h : List Int) (j c x : Int) : ∀ v, leastF h j c v <= x ↔ 0 <= x /\ (h.length : Int) - 1 - j <= x /\ ∀ i, 1 <= i -> i <= v -> turnsF h c i -> (i : Int) <= x
 | 0 => by
  simp only [leastF]
  constructor
  . intro q; exact ⟨by omega, by omega, fun i d f => by omega⟩
  . intro ⟨d, f, _⟩; omega
 | v + 1 => by
  have o := leastF_le h j c x v; simp only [leastF]
  split
  . rename_i m
    constructor
    . intro q
      have := o.1 (by omega)
      refine ⟨this.1, this.2.1, fun i d f g => ?_⟩
      by_cases e : i = v + 1
      . subst e; omega
      . exact this.2.2 i d (by omega) g
    . intro ⟨d, f, g⟩
      have a := o.2 ⟨d, f, fun i l p k => g i l (by omega) k⟩
      have b := g (v + 1) (by omega) (by omega) m
      omega
  . rename_i m; rw [o]
    constructor
    . intro ⟨d, f, g⟩
      refine ⟨d, f, fun i l p k => ?_⟩
      by_cases e : i = v + 1
      . subst e; exact absurd k m
      . exact g i l (by omega) k
    . intro ⟨d, f, g⟩
      exact ⟨d, f, fun i l p k => g i l (by omega) k⟩
theorem inF_iff (n lo hi : Int) : inF n lo hi = true ↔ lo <= n /\ n <= hi := by simp [inF]
theorem inF_not (n lo hi : Int) : inF n lo hi = false ↔ ¬ (lo <= n /\ n <= hi) := by rw [<- inF_iff]; simp
def decideF (h k : List Int) (c u : Int) : Int × Int × Int :=
 if gd h (max (gd k c.toNat) u).toNat = c then (max (gd k c.toNat) u, -1, 1)
 else if gd h (max (gd k c.toNat) u).toNat < 0 then (max (gd k c.toNat) u, -1, 2)
 else if gd k (gd h (max (gd k c.toNat) u).toNat).toNat < 0 then (max (gd k c.toNat) u, -1, 3)
 else (max (gd k c.toNat) u, gd h (max (gd k c.toNat) u).toNat, 0)
def canF (h k : List Int) (b c : Int) : Bool := validF h k b && (decide (0 <= c /\ c <= 7) && decide (0 <= gd k c.toNat))
def T3 (r : Int × Int × Int) : AV := .tup [I r.1, I r.2.1, I r.2.2]
abbrev Er (n : Int) : AV := .v (.int .i64 n)
theorem valid_holders {h k : List Int} {b : Int} (d : validF h k b = true) : holdersF h = true /\ k.length = 8 /\ 0 <= b /\ b <= 10 /\ 1 <= h.length /\ h.length <= 30 := by
 simp only [validF, holdersF, L00, decide_eq_true_eq, inF_iff] at d ⊢
 obtain ⟨⟨⟨f, g⟩, c⟩, _⟩ := d
 exact ⟨f, g, c.1, c.2, by omega, by omega⟩
theorem holders_at {h : List Int} (b : holdersF h = true) (i : Nat) (hi : i < h.length) : -1 <= gd h i /\ gd h i <= 7 := by
 simp only [holdersF, L00] at b
 exact (inF_iff _ _ _).1 (L0b.1 b.2 _ (Jan h i hi))
theorem valid_known {h k : List Int} {b : Int} (c : validF h k b = true) (i : Nat) (hi : i < 8) : gd k i = -1 \/ (leastF h b i (h.length - 1) <= gd k i /\ gd k i <= (h.length : Int) - 1) := by
 simp only [validF, L00] at c
 have := L0b.1 c.2 i (L0O.2 hi)
 simpa [inF_iff] using this
theorem leastF_nonneg (h : List Int) (b c : Int) (n : Nat) : 0 <= leastF h b c n := ((leastF_le h b c (leastF h b c n) n).1 (by omega)).1
theorem valid_known' {h k : List Int} {b : Int} (c : validF h k b = true) (i : Nat) (hi : i < 8) : -1 <= gd k i /\ gd k i <= (h.length : Int) - 1 := by
 have d := valid_known c i hi; have f := leastF_nonneg h b i (h.length - 1)
 have := (valid_holders c).2.2.2.2
 omega
def knownF1 (h : List Int) (b : Int) (y : List Int) (c : Nat) : Int :=
 if Jcu (gd y c) 16 = 15 then -1 else leastF h b c (h.length - 1) + Jcu ((gd y c).tdiv 16) (h.length - leastF h b c (h.length - 1))
def knownF (h : List Int) (b : Int) (y : List Int) : List Int := (List.range 8).map fun c => knownF1 h b y c
def madeH (x : List Int) : List Int := if x = [] then [0] else (x.take 12).map fun a => Jcu a 9 - 1
def madeL (b : Int) : Int := Jcu b 11
theorem pickF_in {c n : Int} (d : 0 < n) : 0 <= Jcu c n /\ Jcu c n < n := by
 unfold Jcu
 have b : 0 <= (if c < 0 then -(c + 1) else c) := by split <;> omega
 rw [L11 b]
 exact ⟨Int.emod_nonneg _ (by omega), Int.emod_lt_of_pos _ d⟩
theorem madeH_holders (x : List Int) : holdersF (madeH x) = true := by
 unfold madeH
 split
 . rfl
 . rename_i f; simp only [holdersF, L00]
   refine ⟨(inF_iff _ _ _).2 ?_, L0b.2 fun a d => ?_⟩
   . have : 0 < x.length := by cases x with | nil => exact absurd rfl f | cons => simp
     simp; omega
   . obtain ⟨b, _, rfl⟩ := L06.1 d
     have := pickF_in (c := b) (n := 9) (by omega)
     exact (inF_iff _ _ _).2 (by omega)
theorem leastF_lt {h : List Int} (h1 : 1 <= h.length) (b c : Int) (g : 0 <= b) : leastF h b c (h.length - 1) <= (h.length : Int) - 1 :=
 (leastF_le h b c _ _).2 ⟨by omega, by omega, fun i d f _ => by omega⟩
theorem knownF_at (h : List Int) (b : Int) (y : List Int) (c : Nat) (d : c < 8) : gd (knownF h b y) c = knownF1 h b y c := by
 unfold gd knownF
 rw [L1a, L03, List.getElem?_range d]; rfl
theorem knownF_length (h : List Int) (b : Int) (y : List Int) : (knownF h b y).length = 8 := by simp [knownF]
theorem known_valid {h : List Int} (f : holdersF h = true) (b : Int) (g : 0 <= b /\ b <= 10) (y : List Int) : validF h (knownF h b y) b = true := by
 have i : 1 <= h.length := by simp only [holdersF, L00, inF_iff] at f; omega
 simp only [validF, L00]
 refine ⟨⟨⟨f, by simp [knownF]⟩, (inF_iff _ _ _).2 g⟩, L0b.2 fun c d => ?_⟩
 have d := L0O.1 d; rw [knownF_at _ _ _ _ d]; unfold knownF1
 split
 . simp
 . have j := leastF_lt i b c g.1
   have k := pickF_in (c := (gd y c).tdiv 16) (n := h.length - leastF h b c (h.length - 1)) (by omega)
   rw [L0x]; exact .inr ((inF_iff _ _ _).2 ⟨by omega, by omega⟩)
theorem madeL_in (b : Int) : 0 <= madeL b /\ madeL b <= 10 := by
 have := pickF_in (c := b) (n := 11) (by omega)
 unfold madeL; omega
theorem made_valid (x y : List Int) (b : Int) : validF (madeH x) (knownF (madeH x) (madeL b) y) (madeL b) = true := known_valid (madeH_holders x) _ (madeL_in b) y
abbrev HP (x : Int × Int) : AV := .agg [I x.1, I x.2]
def walkF (h k : List Int) : Nat -> Int -> Int -> List (Int × Int) × Int
 | 0, _, _ => ([], 0)
 | n + 1, c, u =>
  if (decideF h k c u).2.2 = 0 then ((c, (decideF h k c u).1) :: (walkF h k n (decideF h k c u).2.1 (decideF h k c u).1).1, (walkF h k n (decideF h k c u).2.1 (decideF h k c u).1).2)
  else ([(c, (decideF h k c u).1)], (decideF h k c u).2.2)
def pathF (h k : List Int) (c : Int) : List (Int × Int) × Int := walkF h k (h.length + 1) c (-1)
def pathR (h k : List Int) (b c : Int) : AV := if canF h k b c = true then .tup [.new 88 2 ((pathF h k c).1.map HP), I (pathF h k c).2, Er 0] else .tup [.new 88 2 [], I 0, Er 240]
def AtF (h k : List Int) (c u : Int) : Prop := 0 <= c /\ c <= 7 /\ 0 <= gd k c.toNat /\ -1 <= u /\ u <= (h.length : Int) - 1 /\ (u = -1 \/ gd h u.toNat = c)
theorem at_step {h k : List Int} {g c u : Int} (f : validF h k g = true) (j : AtF h k c u) :
 u <= (decideF h k c u).1 /\ 0 <= (decideF h k c u).1 /\ (decideF h k c u).1 <= (h.length : Int) - 1 /\ (decideF h k c u).1 = max (gd k c.toNat) u /\
 (((decideF h k c u).2.2 = 0 /\ u < (decideF h k c u).1 /\ (decideF h k c u).2.1 = gd h (decideF h k c u).1.toNat /\ AtF h k (decideF h k c u).2.1 (decideF h k c u).1) \/
  ((decideF h k c u).2.1 = -1 /\ ((decideF h k c u).2.2 = 1 /\ gd h (decideF h k c u).1.toNat = c \/ (decideF h k c u).2.2 = 2 /\ gd h (decideF h k c u).1.toNat = -1 \/
   (decideF h k c u).2.2 = 3 /\ 0 <= gd h (decideF h k c u).1.toNat /\ gd h (decideF h k c u).1.toNat ≠ c /\ gd k (gd h (decideF h k c u).1.toNat).toNat = -1))) := by
 obtain ⟨y, z, A, B, C, b⟩ := j
 obtain ⟨i, p, q, s, t, w⟩ := valid_holders f
 have D := valid_known' f c.toNat (by omega)
 have E := holders_at i (max (gd k c.toNat) u).toNat (by omega)
 unfold decideF
 split
 . rename_i e; exact ⟨by simp; omega, by simp; omega, by simp; omega, rfl, .inr ⟨rfl, .inl ⟨rfl, e⟩⟩⟩
 . rename_i e
   split
   . exact ⟨by simp; omega, by simp; omega, by simp; omega, rfl, .inr ⟨rfl, .inr (.inl ⟨rfl, by simp; omega⟩)⟩⟩
   . rename_i m
     have l := valid_known' f (gd h (max (gd k c.toNat) u).toNat).toNat (by omega)
     split
     . refine ⟨by simp; omega, by simp; omega, by simp; omega, rfl, .inr ⟨rfl, .inr (.inr ⟨rfl, by simp; omega, e, ?_⟩)⟩⟩
       simp only; omega
     . rename_i o
       have d : u < max (gd k c.toNat) u := by
        rcases b with b | b
        . omega
        . by_cases hq : max (gd k c.toNat) u = u
          . rw [hq] at e; exact absurd b e
          . omega
       refine ⟨by simp; omega, by simp; omega, by simp; omega, rfl, .inl ⟨rfl, d, rfl, ?_⟩⟩
       exact ⟨by simp; omega, by simp; omega, by simp; omega, by simp; omega, by simp; omega, .inr rfl⟩
theorem walk_here {h k : List Int} {lag : Int} (hv : validF h k lag = true) : ∀ (n : Nat) (c u : Int), AtF h k c u -> (h.length : Int) - u <= n -> ∀ x ∈ (walkF h k n c u).1, 0 <= x.1 /\ x.1 <= 7 /\ 0 <= gd k x.1.toNat /\ 0 <= x.2 /\ x.2 <= (h.length : Int) - 1
 | 0, c, u, ha, hn, x, hx => by simp [walkF] at hx
 | n + 1, c, u, ha, hn, x, hx => by
  obtain ⟨s1, s2, s3, s4, s5⟩ := at_step hv ha
  obtain ⟨a1, a2, a3, _⟩ := ha; unfold walkF at hx
  split at hx
  . rename_i he
    rcases s5 with ⟨_, s6, s7, s8⟩ | ⟨_, s6⟩
    . rcases L0i.1 hx with rfl | hx
      . exact ⟨a1, a2, a3, s2, s3⟩
      . exact walk_here hv n _ _ s8 (by omega) x hx
    . omega
  . simp at hx; subst hx; exact ⟨a1, a2, a3, s2, s3⟩
theorem walk_length {h k : List Int} : ∀ (n : Nat) (c u : Int), (walkF h k (n + 1) c u).1 ≠ [] /\ (walkF h k n c u).1.length <= n
 | 0, c, u => ⟨by unfold walkF; split <;> simp, by simp [walkF]⟩
 | n + 1, c, u => by
  refine ⟨by unfold walkF; split <;> simp, ?_⟩
  unfold walkF
  split
  . have := (walk_length (h := h) (k := k) n (decideF h k c u).2.1 (decideF h k c u).1).2
    simp; omega
  . simp
theorem can_at {h k : List Int} {d c : Int} (b : canF h k d c = true) : validF h k d = true /\ AtF h k c (-1) := by
 simp only [canF, L00, decide_eq_true_eq] at b
 have := valid_holders b.1
 exact ⟨b.1, by omega, by omega, by omega, by omega, by omega, .inl rfl⟩
theorem path_in {h k : List Int} {d c : Int} (b : canF h k d c = true) : ∀ x ∈ (pathF h k c).1, 0 <= x.1 /\ x.1 <= 7 /\ 0 <= gd k x.1.toNat /\ 0 <= x.2 /\ x.2 <= (h.length : Int) - 1 :=
 walk_here (can_at b).1 _ _ _ (can_at b).2 (by omega)
theorem stays {h k : List Int} {b : Int} (i : validF h k b = true) {c : Int} (m : 0 <= c /\ c <= 7) (o : 0 <= gd k c.toNat) (a : Nat) (l : gd k c.toNat <= a) : ∀ d : Nat, a + d < h.length -> (gd h (a + d) = c ↔ gd h a = c)
 | 0, _ => Iff.rfl
 | d + 1, q => by
  rw [<- stays i m o a l d (by omega)]
  have p := valid_known i c.toNat (by omega)
  have g := ((leastF_le h b c.toNat (gd k c.toNat) (h.length - 1)).1 (by omega)).2.2 (a + (d + 1)) (by omega) (by omega)
  have e : a + (d + 1) - 1 = a + d := by omega
  have j : ((c.toNat : Nat) : Int) = c := by omega
  simp only [turnsF, e, j] at g
  by_cases hq : gd h (a + (d + 1)) = gd h (a + d)
  . rw [hq]
  . constructor
    . intro f; have := g ⟨hq, .inl f⟩; omega
    . intro f; have := g ⟨hq, .inr f⟩; omega
theorem stays' {h k : List Int} {d : Int} (j : validF h k d = true) {c : Int} (g : 0 <= c /\ c <= 7) (i : 0 <= gd k c.toNat) {a b : Int} (l : gd k c.toNat <= a) (f : a <= b) (m : b <= (h.length : Int) - 1) : gd h b.toNat = c ↔ gd h a.toNat = c := by
 have := stays j g i a.toNat (by omega) (b - a).toNat (by omega)
 rwa [show a.toNat + (b - a).toNat = b.toNat from by omega] at this
theorem decide_go {h k : List Int} {c u : Int} (d : (decideF h k c u).2.2 = 0) : (decideF h k c u).2.1 = gd h (decideF h k c u).1.toNat /\ (decideF h k c u).2.1 ≠ c /\ (decideF h k c u).1 = max (gd k c.toNat) u := by
 revert d
 unfold decideF
 split
 . intro h; simp at h
 . rename_i b
   split
   . intro h; simp at h
   . split
     . intro h; simp at h
     . intro _; exact ⟨rfl, b, rfl⟩
theorem decide_w (h k : List Int) (c u : Int) : (decideF h k c u).1 = max (gd k c.toNat) u := by
 unfold decideF; split
 . rfl
 . split
   . rfl
   . split <;> rfl
structure PathOK (h k : List Int) (c u : Int) (p : List (Int × Int)) (e : Int) : Prop where
 pos : 0 < p.length
 zero : gd p 0 = (c, max (gd k c.toNat) u)
 step : ∀ i, i + 1 < p.length -> (gd p (i + 1)).1 = gd h (gd p i).2.toNat /\ (gd p (i + 1)).1 ≠ (gd p i).1 /\ (gd p (i + 1)).2 = max (gd k (gd p (i + 1)).1.toNat) (gd p i).2
 fin : (e = 1 /\ gd h (gd p (p.length - 1)).2.toNat = (gd p (p.length - 1)).1) \/ (e = 2 /\ gd h (gd p (p.length - 1)).2.toNat = -1) \/
  (e = 3 /\ 0 <= gd h (gd p (p.length - 1)).2.toNat /\ gd h (gd p (p.length - 1)).2.toNat ≠ (gd p (p.length - 1)).1 /\ gd k (gd h (gd p (p.length - 1)).2.toNat).toNat = -1)
theorem walk_ok {h k : List Int} {l : Int} (m : validF h k l = true) : ∀ (n : Nat) (c u : Int), AtF h k c u -> (h.length : Int) - u <= n -> PathOK h k c u (walkF h k n c u).1 (walkF h k n c u).2
 | 0, c, u, f, y => by have := f.2.2.2.2.1; omega
 | n + 1, c, u, f, y => by
  obtain ⟨B, C, D, E, o⟩ := at_step m f
  by_cases he : (decideF h k c u).2.2 = 0
  . obtain ⟨s, t, w⟩ := decide_go he
    have j : walkF h k (n + 1) c u = ((c, (decideF h k c u).1) :: (walkF h k n (decideF h k c u).2.1 (decideF h k c u).1).1, (walkF h k n (decideF h k c u).2.1 (decideF h k c u).1).2) := by rw [walkF, if_pos he]
    rw [j]
    rcases o with ⟨_, b, F, z⟩ | ⟨_, b⟩
    . have d := walk_ok m n _ _ z (by omega)
      generalize (walkF h k n (decideF h k c u).2.1 (decideF h k c u).1).1 = p at *; generalize (walkF h k n (decideF h k c u).2.1 (decideF h k c u).1).2 = e at *
      refine ⟨by simp, by simp [w], fun i g => ?_, ?_⟩
      . cases i with
        | zero => simp only [Jar, Jam, d.zero]; exact ⟨s, t, trivial⟩
        | succ i => simp only [Jam]; exact d.step i (by simpa using g)
      . have A := d.pos
        have q : gd ((c, (decideF h k c u).1) :: p) (((c, (decideF h k c u).1) :: p).length - 1) = gd p (p.length - 1) := by
         rw [L0f, show p.length + 1 - 1 = (p.length - 1) + 1 from by omega, Jam]
        rw [q]; exact d.fin
    . omega
  . have j : walkF h k (n + 1) c u = ([(c, (decideF h k c u).1)], (decideF h k c u).2.2) := by rw [walkF, if_neg he]
    rw [j]
    refine ⟨by simp, by simp [decide_w], fun i g => by simp at g, ?_⟩
    simp only [L1c, L1n, Jar]
    rcases o with ⟨b, _⟩ | ⟨_, b⟩
    . exact absurd b he
    . exact b
theorem path_ok {h k : List Int} {d c : Int} (b : canF h k d c = true) : PathOK h k c (-1) (pathF h k c).1 (pathF h k c).2 :=
 walk_ok (can_at b).1 _ _ _ (can_at b).2 (by omega)
section
variable {h k : List Int} {lag c : Int} {p : List (Int × Int)} {e : Int}
theorem PathOK.asc {u : Int} (b : PathOK h k c u p e) (i : Nat) (hi : i + 1 < p.length) : (gd p i).2 <= (gd p (i + 1)).2 := by
 have := (b.step i hi).2.2; omega
theorem PathOK.asc' {u : Int} (b : PathOK h k c u p e) (i : Nat) : ∀ d, i + d < p.length -> (gd p i).2 <= (gd p (i + d)).2
 | 0, _ => by simp
 | d + 1, f => by
  have := PathOK.asc' b i d (by omega)
  have := b.asc (i + d) (by omega)
  rw [<- L0K]; omega
theorem PathOK.strict {u : Int} (b : PathOK h k c u p e) (i : Nat) (hi : i + 2 < p.length) : (gd p i).2 < (gd p (i + 1)).2 := by
 have d := b.step i (by omega)
 have f := b.step (i + 1) (by omega)
 have g := b.asc i (by omega)
 by_cases e : (gd p i).2 = (gd p (i + 1)).2
 . rw [e] at d; exact absurd (f.1.trans d.1.symm) f.2.1
 . omega
theorem PathOK.climb {u : Int} (b : PathOK h k c u p e) : ∀ i : Nat, i + 1 < p.length -> (gd p 0).2 + i <= (gd p i).2
 | 0, _ => by simp
 | i + 1, d => by
  have := PathOK.climb b i (by omega)
  have := b.strict i (by omega)
  push_cast; omega
theorem PathOK.once (b : canF h k lag c = true) (f : PathOK h k c (-1) p e) (d : ∀ x ∈ p, 0 <= x.1 /\ x.1 <= 7 /\ 0 <= gd k x.1.toNat /\ 0 <= x.2 /\ x.2 <= (h.length : Int) - 1) (m i : Nat) (y : m < i) (hi : i < p.length) : (gd p m).1 ≠ (gd p i).1 := by
 intro s
 obtain ⟨j, rfl⟩ : ∃ j, i = j + 1 := ⟨i - 1, by omega⟩
 have u := (can_at b).1
 have t := f.step j (by omega)
 have g := f.step m (by omega)
 have q := d _ (Jan p m (by omega))
 have w := d _ (Jan p j (by omega))
 have l : gd k (gd p m).1.toNat <= (gd p m).2 := by
  cases m with
  | zero => rw [f.zero]; simp only; omega
  | succ m => have := (f.step m (by omega)).2.2; omega
 have o : (gd p m).2 <= (gd p j).2 := by
  have := f.asc' m (j - m) (by omega)
  rwa [show m + (j - m) = j from by omega] at this
 have := (stays' u ⟨q.1, q.2.1⟩ q.2.2.1 l o w.2.2.2.2).1 (by rw [s]; exact t.1.symm)
 exact g.2.1 (g.1.trans this)
end
theorem path_least {h k : List Int} {d c : Int} (b : canF h k d c = true) : (h.length : Int) - 1 - d <= gd k c.toNat /\ 0 <= gd k c.toNat := by
 have j := (can_at b).1; have f := (can_at b).2
 have g := valid_known j c.toNat (by have := f.2.1; omega)
 have := f.2.2.1
 have i := (leastF_le h d c.toNat (gd k c.toNat) (h.length - 1)).1 (by omega)
 exact ⟨i.2.1, this⟩
theorem path_short {h k : List Int} {d c : Int} (b : canF h k d c = true) : ((pathF h k c).1.length : Int) <= d + 2 := by
 have i := path_ok b; have f := path_in b; have m := path_least b
 by_cases h2 : (pathF h k c).1.length < 2
 . have := (valid_holders (can_at b).1).2.2.1; omega
 . have g := i.climb ((pathF h k c).1.length - 2) (by omega)
   have l := f _ (Jan (pathF h k c).1 ((pathF h k c).1.length - 2) (by omega))
   have j := i.zero
   rw [j] at g; simp only at g
   omega
theorem holdersF_pos {h : List Int} (b : holdersF h = true) : 1 <= h.length /\ h.length <= 30 := by
 simp only [holdersF, L00, inF_iff] at b; omega
theorem validF_of {h k : List Int} {lag : Int} (h1 : holdersF h = true) (h2 : k.length = 8) (h3 : 0 <= lag /\ lag <= 10)
 (h4 : ∀ c : Nat, c < 8 -> gd k c = -1 \/ (0 <= gd k c /\ (h.length : Int) - 1 - lag <= gd k c /\ gd k c <= (h.length : Int) - 1 /\ ∀ i : Nat, 1 <= i -> i < h.length -> turnsF h c i -> (i : Int) <= gd k c)) : validF h k lag = true := by
 simp only [validF, L00]
 refine ⟨⟨⟨h1, by simp [h2]⟩, (inF_iff _ _ _).2 h3⟩, L0b.2 fun c hc => ?_⟩
 have hl := holdersF_pos h1
 rcases h4 c (L0O.1 hc) with h5 | ⟨h5, h6, h7, h8⟩
 . simp [h5]
 . rw [L0x]
   exact .inr ((inF_iff _ _ _).2 ⟨(leastF_le h lag c _ _).2 ⟨h5, h6, fun i h9 h10 h11 => h8 i h9 (by omega) h11⟩, h7⟩)
section
variable {h k : List Int} {lag c : Int}
end
section
variable {h k : List Int} {lag c : Int}
end
section
variable {h k g m : List Int} {old to : Int}
end
section
variable {h k : List Int} {lag old to : Int}
end
def rotF (t c : Int) : Int := if c < 0 then -1 else (c + t).tmod 8
section
variable {h k m : List Int} {lag t : Int}
end
section
variable {h k : List Int} {n : Int}
theorem newest_path (m : holdersF h = true) (t : k.length = 8) (w : n = (h.length : Int) - 1) (i : ∀ c : Nat, c < 8 -> gd k c = -1 \/ gd k c = n) {d : Int} (s : 0 <= d /\ d <= 7) (f : gd k d.toNat = n) :
 pathF h k d = if gd h n.toNat = -1 then ([(d, n)], 2) else if gd k (gd h n.toNat).toNat = -1 then ([(d, n)], 3) else if gd h n.toNat = d then ([(d, n)], 1) else ([(d, n), (gd h n.toNat, n)], 1) := by
 have u := holdersF_pos m
 have y := holders_at m n.toNat (by omega)
 have o : pathF h k d = walkF h k ((h.length - 1) + 2) d (-1) := by unfold pathF; congr 1; omega
 have j : max n (-1) = n := by omega
 have q : max n n = n := by omega
 rw [o]
 by_cases b1 : gd h n.toNat = -1
 . have b : decideF h k d (-1) = (n, -1, 2) := by unfold decideF; rw [f, j, if_neg (by omega), if_pos (by omega)]
   rw [if_pos b1, walkF, b]; simp
 . rw [if_neg b1]
   by_cases b2 : gd k (gd h n.toNat).toNat = -1
   . have l : gd h n.toNat ≠ d := fun e => by rw [e, f] at b2; omega
     have b : decideF h k d (-1) = (n, -1, 3) := by unfold decideF; rw [f, j, if_neg l, if_neg (by omega), if_pos (by omega)]
     rw [if_pos b2, walkF, b]; simp
   . rw [if_neg b2]
     have p := (i (gd h n.toNat).toNat (by omega)).resolve_left b2
     by_cases b3 : gd h n.toNat = d
     . have b : decideF h k d (-1) = (n, -1, 1) := by unfold decideF; rw [f, j, if_pos b3]
       rw [if_pos b3, walkF, b]; simp
     . have b : decideF h k d (-1) = (n, gd h n.toNat, 0) := by unfold decideF; rw [f, j, if_neg b3, if_neg (by omega), if_neg (by omega)]
       have g : decideF h k (gd h n.toNat) n = (n, -1, 1) := by unfold decideF; rw [p, q, if_pos rfl]
       rw [if_neg b3, walkF, b]; simp only; rw [walkF, g]; simp
end
set_option maxRecDepth 100000
open Go.Vai Go Go.Proofs Go.Proofs.YtnpbhgeffapojaaGreatDoor
theorem mo : prog.follows .mixedOrders = true := by kernel_rfl
theorem pick_ev (c n : Int) (b : R64 c) (g : 0 < n) : Ev prog 87 [I c, I n] (I (Jcu c n)) := by
 obtain ⟨d, f⟩ := b
 refine EV func87 ?_
 simp -implicitDefEqProofs (disch := omega) only [go_sem, ntmps87]
 refine Jab (fun h => ?_) (fun h => ?_) <;> simp -implicitDefEqProofs (disch := omega) only [go_sem, results87]
 . rw [show (0 - (c+1)) = -(c+1) from by omega]; simp [Jcu, h]
 . simp [Jcu, h]
theorem JaP (n lo hi : Int) : Ev prog 137 [I n, I lo, I hi] (B (inF n lo hi)) := by
 refine EV func137 ?_
 simp -implicitDefEqProofs (disch := omega) only [go_sem, ntmps137]
 refine Jab (fun h => ?_) (fun h => ?_) <;> simp -implicitDefEqProofs (disch := omega) only [go_sem, results137]
 . simp [inF, h]
 . simp [inF, h]
theorem isNone_ev (c : Int) : Ev prog 209 [I c] (B (!inF c (-1) 7)) := by
 refine EV func209 ?_
 simp -implicitDefEqProofs (disch := omega) only [go_sem, ntmps209]
 refine Jaa (JaP _ _ _) ?_
 simp -implicitDefEqProofs (disch := omega) only [go_sem, results209]
theorem index_ev (l : List Int) (k : l.length <= 1000000) : Ev prog 152 [SL l, .clo 209 []] (I (findF l 0 l.length)) := by
 refine EV func152 ?_
 simp -implicitDefEqProofs (disch := omega) only [go_sem, ntmps152]
 refine Jaf (fun n E j => ∃ v : Nat, v + n = l.length /\ E 0 = SL l /\ E 1 = .clo 209 [] /\ E 7 = I l.length /\ E 8 = I v /\ findF l 0 l.length = findF l v n) l.length ⟨0, by omega, ?_⟩ ?_
 . simp -implicitDefEqProofs (disch := omega) only [go_sem]
   simp
 . rintro n E j ⟨v, o, c, d, f, g, b⟩
   simp -implicitDefEqProofs (disch := omega) only [go_sem, c, d, f, g]
   refine Jab (fun i => ?_) (fun i => ?_)
   . simp -implicitDefEqProofs (disch := omega) only [go_sem, c, d, f, g]
     refine Jaa (isNone_ev _) ?_
     simp -implicitDefEqProofs (disch := omega) only [go_sem, c, d, f, g]
     obtain ⟨m, rfl⟩ : ∃ m, n = m + 1 := ⟨n - 1, by omega⟩
     refine Jab (fun h => ?_) (fun h => ?_)
     . simp -implicitDefEqProofs (disch := omega) only [go_sem, results152]
       rw [b]; simp [findF, h]
     . simp -implicitDefEqProofs (disch := omega) only [go_sem, c, d, f, g]
       refine Jad m (by omega) ⟨v + 1, by omega, ?_⟩
       simp -implicitDefEqProofs (disch := omega) only [go_sem, c, d, f, g]
       refine ⟨by simp, ?_⟩
       rw [b]; simp [findF, h]
   . simp -implicitDefEqProofs (disch := omega) only [go_sem, results152]
     have : n = 0 := by omega
     subst this; rw [b]; rfl
theorem findF_none (l : List Int) : ∀ n v, v + n = l.length -> (findF l v n < 0 ↔ ∀ i, v <= i -> i < l.length -> inF (gd l i) (-1) 7 = true)
 | 0, v, f => by simp [findF]; intro i d c; omega
 | n + 1, v, f => by
  unfold findF
  split
  . rename_i h
    constructor
    . intro h; omega
    . intro b; rw [b v (by omega) (by omega)] at h; cases h
  . rename_i h
    rw [findF_none l n (v + 1) (by omega)]
    constructor
    . intro b i d c
      by_cases e : i = v
      . subst e; simpa using h
      . exact b i (by omega) c
    . intro b i d c; exact b i (by omega) c
theorem all_iff {T : Type} [Inhabited T] (l : List T) (p : T -> Bool) : l.all p = true ↔ ∀ i, i < l.length -> p (gd l i) = true := by
 rw [L0b]
 constructor
 . intro h i b; exact h _ (Jan l i b)
 . intro h x d
   obtain ⟨i, b⟩ := L29 d
   have c := (L04.1 b).1
   have := h i c
   rw [JaZ l i c] at b; cases b; exact this
theorem Jd3 (l : List Int) (b : l.length <= 1000000) : Ev prog 106 [SL l, .clo 209 []] (B (decide (0 <= findF l 0 l.length))) := by
 refine EV func106 ?_
 simp -implicitDefEqProofs (disch := omega) only [go_sem, ntmps106]
 refine Jaa (index_ev l b) ?_
 simp -implicitDefEqProofs (disch := omega) only [go_sem, results106]
theorem holders_find (l : List Int) (h : inF l.length 1 30 = true) : (!decide (0 <= findF l 0 l.length)) = holdersF l := by
 have d := findF_none l l.length 0 (by omega)
 have f := all_iff l fun c => inF c (-1) 7
 unfold holdersF; rw [h, L0k]
 by_cases hf : findF l 0 l.length < 0
 . rw [f.2 fun i b => d.1 hf i (by omega) b]
   simp; omega
 . have : (l.all fun c => inF c (-1) 7) = false := by
    cases hh : l.all fun c => inF c (-1) 7 with
    | false => rfl
    | true => exact absurd (d.2 fun i _ b => f.1 hh i b) hf
   rw [this]; simp; omega
theorem areHolders_ev (l : List Int) (c : l.length <= 9223372036854775807) : Ev prog 178 [SL l] (B (holdersF l)) := by
 refine EV func178 ?_
 simp -implicitDefEqProofs (disch := omega) only [go_sem, ntmps178]
 refine Jaa (JaP _ _ _) ?_
 simp -implicitDefEqProofs (disch := omega) only [go_sem]
 refine Jab (fun b => ?_) (fun b => ?_)
 . simp -implicitDefEqProofs (disch := omega) only [go_sem]
   refine Jaa (Jd3 l (by simp [inF] at b; omega)) ?_
   simp -implicitDefEqProofs (disch := omega) only [go_sem, results178]; rw [holders_find l b]
 . simp -implicitDefEqProofs (disch := omega) only [go_sem, results178]
   simp [holdersF, b]
def LBlk (l : List Int) : Blk := ⟨265, 8, [.agg (l.map I)]⟩
def partF (h : List Int) (c a : Int) (v i : Nat) : Int := if gd h v ≠ gd h (v - 1) /\ ((1 <= i /\ gd h (v - 1) = c) \/ (2 <= i /\ gd h v = c)) then max a v else a
theorem JfV (h k : List Int) (lag : Int) (hh : h.length <= 9223372036854775807) (hk : k.length <= 9223372036854775807) (hl : R64 lag) : Ev prog 136 [SL h, SL k, I lag] (B (validF h k lag)) := by
 obtain ⟨hl1, hl2⟩ := hl
 refine EV func136 ?_
 simp -implicitDefEqProofs (disch := omega) only [go_sem, ntmps136]
 refine Jaa (areHolders_ev h hh) ?_
 simp -implicitDefEqProofs (disch := omega) only [go_sem]
 repeat' (first | ((with_reducible refine Jab (fun hb => ?_) (fun hb => ?_)) <;> simp -implicitDefEqProofs (disch := omega) only [go_sem, results136, hb]) | ((with_reducible refine Jk9 ?_); refine Jaa (JaP _ _ _) ?_; try simp -implicitDefEqProofs (disch := omega) only [go_sem, results136]))
 . simp [validF, hb]
 . simp [validF]; intro _ e; omega
 . simp [validF, hb]
 . rename_i hb1 hb2
   have hk8 : k.length = 8 := by omega
   have hho : holdersF h = true := by simpa using hb1
   have hlg : inF lag 0 10 = true := by simpa using hb
   have hlen : 1 <= h.length /\ h.length <= 30 := by
    simp only [holdersF, L00, inF_iff] at hho; omega
   have hlag := (inF_iff _ _ _).1 hlg; clear hb hb1 hb2 hlg hl1 hl2 hk hh
   have hin : ∀ i, i < h.length -> -1 <= gd h i /\ gd h i <= 7 := fun i hi => by
    have := hho
    simp only [holdersF, L00] at this
    exact (inF_iff _ _ _).1 ((all_iff h _).1 this.2 i hi)
   refine Jaf (fun n E σ => ∃ c : Nat, c + n = 8 /\ E 0 = SL h /\ E 1 = SL k /\ E 2 = I lag /\ E 7 = I (h.length - 1) /\ E 8 = .ptr 287309952 8 0 0 /\ E 31 = I c /\
    ∃ l, σ 287309952 = some (LBlk l) /\ l.length = 8 /\ ∀ i, i < c -> gd l i = leastF h lag i 0) 8 ⟨0, by omega, ?_⟩ ?_
   . simp -implicitDefEqProofs (disch := omega) only [go_sem]
     refine ⟨by simp, List.replicate 8 0, rfl, rfl, fun i hi => by omega⟩
   . rintro n E σ ⟨c, hc, h0, h1, h2, h7, h8, h31, l, hs, hll, hl⟩
     simp -implicitDefEqProofs (disch := omega) only [go_sem, h0, h1, h2, h7, h8, h31]
     refine Jab (fun hd => ?_) (fun hd => ?_)
     . simp -implicitDefEqProofs (disch := omega) only [go_sem, h0, h1, h2, h7, h8, h31, hs, LBlk]
       refine Jad (n - 1) (by omega) ⟨c + 1, by omega, ?_⟩
       simp -implicitDefEqProofs (disch := omega) only [go_sem, h0, h1, h2, h7, h8, h31]
       refine ⟨by simp, _, rfl, by simpa using hll, fun i hi => ?_⟩
       rw [Jfs _ _ _ _ (by omega)]
       split
       . simp only [leastF]
       . rw [hl i (by omega)]
     . simp -implicitDefEqProofs (disch := omega) only [go_sem, h0, h1, h2, h7, h8, h31, hs]; clear h31
       have hc8 : c = 8 := by omega
       subst hc8
       refine Jaf (fun n E σ => ∃ v : Nat, 1 <= v /\ v + n = h.length /\ E 0 = SL h /\ E 1 = SL k /\ E 2 = I lag /\ E 7 = I (h.length - 1) /\ E 8 = .ptr 287309952 8 0 0 /\ E 10 = I v /\
        ∃ l, σ 287309952 = some (LBlk l) /\ l.length = 8 /\ ∀ i, i < 8 -> gd l i = leastF h lag i (v - 1)) (h.length - 1) ⟨1, by omega, by omega, ?_⟩ ?_
       . simp -implicitDefEqProofs (disch := omega) only [go_sem, h0, h1, h2, h7, h8]
         refine ⟨by simp, l, hs, hll, hl⟩
       . clear h0 h1 h2 h7 h8 hs hll hl l n σ E hd hc
         rintro n E σ ⟨v, hv1, hv, h0, h1, h2, h7, h8, h10, l, hs, hll, hl⟩
         simp -implicitDefEqProofs (disch := omega) only [go_sem, h0, h1, h2, h7, h8, h10]
         refine Jab (fun hd => ?_) (fun hd => ?_)
         . simp -implicitDefEqProofs (disch := omega) only [go_sem, h0, h1, h2, h7, h8, h10]
           have ev1 : ((v : Int) - 1).toNat = v - 1 := by omega
           have ev2 : ((v : Int) + 1).toNat - (v - 1) = 2 := by omega
           obtain ⟨m, hm, hm2, hm0, hm1⟩ : ∃ m : List Int, (h.drop (v - 1)).take 2 = m /\ m.length = 2 /\ gd m 0 = gd h (v - 1) /\ gd m 1 = gd h v := by
            refine ⟨_, rfl, by simp; omega, ?_, ?_⟩
            . rw [Jic _ _ _ (by omega), Jkn]; rfl
            . rw [Jic _ _ _ (by omega), Jkn, show v - 1 + 1 = v from by omega]
           refine Jaf (fun n E σ => ∃ i : Nat, i + n = 2 /\ E 0 = SL h /\ E 1 = SL k /\ E 2 = I lag /\ E 7 = I (h.length - 1) /\ E 8 = .ptr 287309952 8 0 0 /\ E 10 = I v /\ E 51 = SL m /\ E 52 = I 2 /\ E 53 = I i /\
            ∃ l, σ 287309952 = some (LBlk l) /\ l.length = 8 /\ ∀ c, c < 8 -> gd l c = partF h c (leastF h lag c (v - 1)) v i) 2 ⟨0, by omega, ?_⟩ ?_
           . simp -implicitDefEqProofs (disch := omega) only [go_sem, h0, h1, h2, h7, h8, h10, ev2, ev1, hm, hm2]
             refine ⟨by simp, by simp, l, hs, hll, fun c hc => ?_⟩
             rw [hl c hc]; simp [partF]
           . have hv0 := hin (v - 1) (by omega)
             have hv1 := hin v (by omega)
             clear h0 h1 h2 h7 h8 h10 hs hll hl l σ E ev2
             rintro n' E σ ⟨i, hi, h0, h1, h2, h7, h8, h10, h51, h52, h53, l, hs, hll, hl⟩
             simp -implicitDefEqProofs (disch := omega) only [go_sem, h0, h1, h2, h7, h8, h10, h51, h52, h53]
             refine Jab (fun hd => ?_) (fun hd => ?_)
             . have hmi : gd m i = if i = 0 then gd h (v - 1) else gd h v := by
                split
                . rename_i e; subst e; exact hm0
                . rw [show i = 1 from by omega]; exact hm1
               have hmr : -1 <= gd m i /\ gd m i <= 7 := by rw [hmi]; split <;> omega
               have same : ¬ (0 <= gd m i /\ gd h v ≠ gd h (v - 1)) -> ∀ c : Nat, c < 8 -> partF h c (leastF h lag c (v - 1)) v i = partF h c (leastF h lag c (v - 1)) v (i + 1) := by
                intro hn c hc
                unfold partF
                have : gd h v ≠ gd h (v - 1) -> ¬ (gd m i = c) := fun h1 h2 => hn ⟨by omega, h1⟩
                rw [hmi] at this
                congr 1
                refine propext ⟨fun ⟨h1, h2⟩ => ⟨h1, by omega⟩, fun ⟨h1, h2⟩ => ⟨h1, ?_⟩⟩
                have := this h1
                split at this <;> omega
               simp -implicitDefEqProofs (disch := omega) only [go_sem, h0, h1, h2, h7, h8, h10, h51, h52, h53]
               repeat' (first | ((with_reducible refine Jab (fun hb => ?_) (fun hb => ?_)) <;> simp -implicitDefEqProofs (disch := omega) only [go_sem, h0, h1, h2, h7, h8, h10, h51, h52, h53, hs, LBlk, ev1, hb]))
               all_goals (refine Jad (n' - 1) (by omega) ⟨i + 1, by omega, ?_⟩; simp -implicitDefEqProofs (disch := omega) only [go_sem, h0, h1, h2, h7, h8, h10, h51, h52, h53, hs])
               . rename_i hb0
                 refine ⟨by simp, _, rfl, by simpa using hll, fun c hc => ?_⟩
                 rw [Jfs _ _ _ _ (by omega), hl _ (by omega), hl _ hc]
                 by_cases e : c = (gd m i).toNat
                 . rw [if_pos e, <- e]
                   have e' : gd m i = c := by omega
                   rw [hmi] at e'
                   have h1 : gd h v ≠ gd h (v - 1) := hb
                   have hA : partF h c (leastF h lag c (v - 1)) v i = leastF h lag c (v - 1) := by
                    unfold partF; rw [if_neg]; rintro ⟨_, hx⟩
                    split at e' <;> omega
                   have hB : partF h c (leastF h lag c (v - 1)) v (i + 1) = max (leastF h lag c (v - 1)) v := by
                    unfold partF; rw [if_pos]; refine ⟨h1, ?_⟩
                    split at e'
                    . exact .inl ⟨by omega, e'⟩
                    . exact .inr ⟨by omega, e'⟩
                   rw [hA, hB]
                 . rw [if_neg e]
                   have e' : ¬ gd m i = c := by omega
                   rw [hmi] at e'; unfold partF
                   congr 1
                   refine propext ⟨fun ⟨h1, h2⟩ => ⟨h1, by omega⟩, fun ⟨h1, h2⟩ => ⟨h1, ?_⟩⟩
                   split at e' <;> omega
               . rename_i hb0
                 exact ⟨by simp, l, rfl, hll, fun c hc => by rw [hl c hc]; exact same (by omega) c hc⟩
               . exact ⟨by simp, l, rfl, hll, fun c hc => by rw [hl c hc]; exact same (by omega) c hc⟩
             . simp -implicitDefEqProofs (disch := omega) only [go_sem, h0, h1, h2, h7, h8, h10]
               refine Jad (n - 1) (by omega) ⟨v + 1, by omega, by omega, ?_⟩
               simp -implicitDefEqProofs (disch := omega) only [go_sem, h0, h1, h2, h7, h8, h10]
               refine ⟨by simp, l, hs, hll, fun c hc => ?_⟩
               rw [hl c hc, show v + 1 - 1 = (v - 1) + 1 from by omega]
               rw [leastF.eq_2, show v - 1 + 1 = v from by omega]
               unfold partF turnsF
               congr 1
               refine propext ⟨fun ⟨a, b⟩ => ⟨a, by omega⟩, fun ⟨a, b⟩ => ⟨a, by omega⟩⟩
         . simp -implicitDefEqProofs (disch := omega) only [go_sem, h0, h1, h2, h7, h8, h10]; clear h10
           have hl' : ∀ i : Nat, i < 8 -> gd l i = leastF h lag i (h.length - 1) := fun i hi => by rw [hl i hi]; congr 1; omega
           clear hl hv hv1 hd
           refine Jaf (fun n E σ => ∃ c : Nat, c + n = 8 /\ E 0 = SL h /\ E 1 = SL k /\ E 2 = I lag /\ E 7 = I (h.length - 1) /\ E 8 = .ptr 287309952 8 0 0 /\ E 79 = SL k /\ E 80 = I 8 /\ E 81 = I c /\ σ 287309952 = some (LBlk l) /\
            ∀ i : Nat, i < c -> (decide (gd k i = -1) || inF (gd k i) (leastF h lag i (h.length - 1)) ((h.length : Int) - 1)) = true) 8 ⟨0, by omega, ?_⟩ ?_
           . simp -implicitDefEqProofs (disch := omega) only [go_sem, h0, h1, h2, h7, h8]
             exact ⟨by simp [hk8], by simp, hs, fun i hi => by omega⟩
           . clear h0 h1 h2 h7 h8 hs σ E
             rintro n' E σ ⟨c, hc, h0, h1, h2, h7, h8, h79, h80, h81, hs, hall⟩
             simp -implicitDefEqProofs (disch := omega) only [go_sem, h0, h1, h2, h7, h8, h79, h80, h81]
             refine Jab (fun hd => ?_) (fun hd => ?_)
             . simp -implicitDefEqProofs (disch := omega) only [go_sem, h0, h1, h2, h7, h8, h79, h80, h81]
               have no : ¬ ((decide (gd k c = -1) || inF (gd k c) (leastF h lag c (h.length - 1)) ((h.length : Int) - 1)) = true) -> validF h k lag = false := fun hn => by
                cases hv : validF h k lag with
                | false => rfl
                | true =>
                 simp only [validF, L00] at hv
                 exact absurd (L0b.1 hv.2 c (L0O.2 (by omega))) hn
               have yes : (decide (gd k c = -1) || inF (gd k c) (leastF h lag c (h.length - 1)) ((h.length : Int) - 1)) = true -> ∀ i : Nat, i < c + 1 -> gd k i = -1 \/ inF (gd k i) (leastF h lag i (h.length - 1)) ((h.length : Int) - 1) = true := fun hy i hi => by
                by_cases e : i = c
                . subst e; simpa using hy
                . simpa using hall i (by omega)
               repeat' (first | ((with_reducible refine Jab (fun hb => ?_) (fun hb => ?_)) <;> simp -implicitDefEqProofs (disch := omega) only [go_sem, h0, h1, h2, h7, h8, h79, h80, h81, hs, LBlk, results136, hb]) | ((with_reducible refine Jk9 ?_); refine Jaa (JaP _ _ _) ?_; try simp -implicitDefEqProofs (disch := omega) only [go_sem, h0, h1, h2, h7, h8, h79, h80, h81, hs, LBlk, results136]))
               . rename_i hb0
                 rw [hl' c (by omega)] at hb
                 rw [no (by simp [hb, hb0])]
               . rename_i hb0
                 rw [hl' c (by omega)] at hb
                 refine Jad (n' - 1) (by omega) ⟨c + 1, by omega, ?_⟩
                 simp -implicitDefEqProofs (disch := omega) only [go_sem, h0, h1, h2, h7, h8, h79, h80, h81, hs, LBlk]
                 exact ⟨by simp, yes (by simp at hb; simp [hb])⟩
               . refine Jad (n' - 1) (by omega) ⟨c + 1, by omega, ?_⟩
                 simp -implicitDefEqProofs (disch := omega) only [go_sem, h0, h1, h2, h7, h8, h79, h80, h81, hs, LBlk]
                 exact ⟨by simp, yes (by simp at hb; simp [hb])⟩
             . simp -implicitDefEqProofs (disch := omega) only [go_sem, h0, h1, h2, h7, h8, results136]
               have : validF h k lag = true := by
                simp only [validF, L00]
                refine ⟨⟨⟨hho, by simp [hk8]⟩, (inF_iff _ _ _).2 hlag⟩, L0b.2 fun i hi => hall i ?_⟩
                have := L0O.1 hi; omega
               rw [this]
theorem decideF_1 {h k : List Int} {c u : Int} (h1 : gd h (max (gd k c.toNat) u).toNat = c) : decideF h k c u = (max (gd k c.toNat) u, -1, 1) := by
 unfold decideF; rw [if_pos h1]
theorem decideF_2 {h k : List Int} {c u : Int} (h1 : ¬ gd h (max (gd k c.toNat) u).toNat = c) (b : gd h (max (gd k c.toNat) u).toNat < 0) : decideF h k c u = (max (gd k c.toNat) u, -1, 2) := by
 unfold decideF; rw [if_neg h1, if_pos b]
theorem decideF_3 {h k : List Int} {c u : Int} (h1 : ¬ gd h (max (gd k c.toNat) u).toNat = c) (b : ¬ gd h (max (gd k c.toNat) u).toNat < 0) (d : gd k (gd h (max (gd k c.toNat) u).toNat).toNat < 0) : decideF h k c u = (max (gd k c.toNat) u, -1, 3) := by
 unfold decideF; rw [if_neg h1, if_neg b, if_pos d]
theorem decideF_4 {h k : List Int} {c u : Int} (h1 : ¬ gd h (max (gd k c.toNat) u).toNat = c) (b : ¬ gd h (max (gd k c.toNat) u).toNat < 0) (d : ¬ gd k (gd h (max (gd k c.toNat) u).toNat).toNat < 0) : decideF h k c u = (max (gd k c.toNat) u, gd h (max (gd k c.toNat) u).toNat, 0) := by
 unfold decideF; rw [if_neg h1, if_neg b, if_neg d]
theorem decide_ev (h k : List Int) (c u : Int) (hc : 0 <= c /\ c < k.length) (hw : 0 <= max (gd k c.toNat) u /\ max (gd k c.toNat) u < h.length) (hx : gd h (max (gd k c.toNat) u).toNat < k.length) : Ev prog 139 [SL h, SL k, I c, I u] (T3 (decideF h k c u)) := by
 refine EV func139 ?_
 simp -implicitDefEqProofs (disch := omega) only [go_sem, ntmps139]
 repeat' (first | ((with_reducible refine Jab (fun hb => ?_) (fun hb => ?_)) <;> simp -implicitDefEqProofs (disch := omega) only [go_sem, results139, hb]))
 . rw [decideF_1 (by omega)]; rfl
 . rw [decideF_2 (by omega) (by omega)]; rfl
 . rw [decideF_3 (by omega) (by omega) (by omega)]; rfl
 . rw [decideF_4 (by omega) (by omega) (by omega)]; rfl
theorem canCall_ev (h k : List Int) (b c : Int) (g : h.length <= 9223372036854775807) (i : k.length <= 9223372036854775807) (j : R64 b) : Ev prog 89 [SL h, SL k, I b, I c] (B (canF h k b c)) := by
 refine EV func89 ?_
 simp -implicitDefEqProofs (disch := omega) only [go_sem, ntmps89]
 refine Jaa (JfV h k b g i j) ?_
 simp -implicitDefEqProofs (disch := omega) only [go_sem]
 refine Jab (fun f => ?_) (fun f => ?_)
 . have f := valid_holders f; simp -implicitDefEqProofs (disch := omega) only [go_sem]
   refine Jaa (JaP _ _ _) ?_
   simp -implicitDefEqProofs (disch := omega) only [go_sem]
   refine Jab (fun d => ?_) (fun d => ?_)
   . have d := (inF_iff _ _ _).1 d; simp -implicitDefEqProofs (disch := omega) only [go_sem, results89]
     simp_all [canF]
   . simp -implicitDefEqProofs (disch := omega) only [go_sem, results89]
     have d := (inF_not _ _ _).1 (by simpa using d)
     have : canF h k b c = false := by
      simp only [canF, Bool.and_eq_false_iff, decide_eq_false_iff_not]
      exact .inr (.inl d)
     rw [this]
 . simp -implicitDefEqProofs (disch := omega) only [go_sem, results89]
   simp_all [canF]
theorem least_ev (h : List Int) (lag c : Int) (h1 : 0 < h.length) (h2 : h.length < 1000000) (h3 : 0 <= lag) (h4 : lag < 1000000) : Ev prog 135 [SL h, I lag, I c] (I (leastF h lag c (h.length - 1))) := by
 refine EV func135 ?_
 simp -implicitDefEqProofs (disch := omega) only [go_sem, ntmps135]
 refine Jaf (fun n E σ => ∃ v : Nat, 1 <= v /\ v + n = h.length /\ E 0 = SL h /\ E 1 = I lag /\ E 2 = I c /\ E 7 = I (h.length - 1) /\ E 8 = I (leastF h lag c (v - 1)) /\ E 9 = I v /\ E 6 = I 0) (h.length - 1) ⟨1, by omega, by omega, ?_⟩ ?_
 . simp -implicitDefEqProofs (disch := omega) only [go_sem]
   simp [leastF]
 . rintro n E σ ⟨v, hv1, hvn, h0, h1, h2, h7, h8, h9, h6⟩
   simp -implicitDefEqProofs (disch := omega) only [go_sem, h0, h1, h2, h7, h8, h9]
   refine Jab (fun hc => ?_) (fun hc => ?_)
   . have ev1 : ((v : Int) - 1).toNat = v - 1 := by omega
     simp -implicitDefEqProofs (disch := omega) only [go_sem, h0, h1, h2, h7, h8, h9, ev1]
     have up : turnsF h c v -> leastF h lag c v = max (leastF h lag c (v - 1)) v := fun ht => by
      rw [show v = (v - 1) + 1 from by omega] at ht ⊢
      rw [leastF.eq_2, if_pos ht]; rfl
     have no : ¬ turnsF h c v -> leastF h lag c v = leastF h lag c (v - 1) := fun ht => by
      rw [show v = (v - 1) + 1 from by omega] at ht ⊢
      rw [leastF.eq_2, if_neg ht]; rfl
     repeat' (first | ((with_reducible refine Jab (fun hb => ?_) (fun hb => ?_)) <;> simp -implicitDefEqProofs (disch := omega) only [go_sem, h0, h1, h2, h7, h8, h9, h6, ev1, hb]))
     all_goals
      refine Jad (n - 1) (by omega) ⟨v + 1, by omega, by omega, ?_⟩
      simp -implicitDefEqProofs (disch := omega) only [go_sem, h0, h1, h2, h7, h8, h9, h6]
      refine ⟨?_, by simp⟩
      rw [show v + 1 - 1 = v from by omega]
      first
       | (rw [up (by unfold turnsF; simp only [ev1] at *; omega)]; done)
       | (rw [no (by unfold turnsF; simp only [ev1] at *; omega)]; done)
   . simp -implicitDefEqProofs (disch := omega) only [go_sem, h0, h1, h2, h7, h8, h9, results135]
     rw [show v - 1 = h.length - 1 from by omega]
theorem known_ev (h : List Int) (d : Int) (y : List Int) (h1 : 0 < h.length) (f : h.length < 1000000) (C : 0 <= d) (h4 : d < 1000000) (L : y.length <= 9223372036854775807) (z : ∀ a ∈ y, R64 a) : Ev prog 88 [SL h, I d, SL y] (.new 3 1 ((knownF h d y).map I)) := by
 refine EV func88 ?_
 simp -implicitDefEqProofs (disch := omega) only [go_sem, ntmps88]
 refine Jaf (fun n E B => ∃ c : Nat, c + n = 8 /\ E 0 = SL h /\ E 1 = I d /\ E 2 = SL y /\ E 8 = I c /\ E 7 = .own 186646640 1 0 c /\ ∃ l, B 186646640 = some ⟨3, 1, l.map I⟩ /\ l.length = c /\ ∀ i, i < c -> gd l i = knownF1 h d y i) 8 ⟨0, by omega, ?_⟩ ?_
 . simp -implicitDefEqProofs (disch := omega) only [go_sem]
   exact ⟨by simp, [], rfl, rfl, fun i u => by omega⟩
 . rintro n E B ⟨c, K, g, h1, f, j, k, l, q, b, A⟩
   simp -implicitDefEqProofs (disch := omega) only [go_sem, g, h1, f, j]
   refine Jab (fun D => ?_) (fun D => ?_)
   . simp -implicitDefEqProofs (disch := omega) only [go_sem, g, h1, f, j]
     refine Jaa (least_ev _ _ _ (by omega) (by omega) (by omega) (by omega)) ?_
     simp -implicitDefEqProofs (disch := omega) only [go_sem, g, h1, f, j, k]
     have G := leastF_lt (h := h) (by omega) d c C
     have F := leastF_nonneg h d c (h.length - 1)
     have H : R64 (gd y c) := by
      by_cases s : c < y.length
      . exact z _ (Jan y c s)
      . rw [Jib y c (by omega)]; exact ⟨by decide, by decide⟩
     have w := pickF_in (c := (gd y c).tdiv 16) (n := h.length - leastF h d c (h.length - 1)) (by omega)
     obtain ⟨m, o⟩ := H
     have p : ∀ x, x = knownF1 h d y c -> ∀ i, i < c + 1 -> gd (l ++ [x]) i = knownF1 h d y i := fun x J i u => by
      by_cases e : i = c
      . subst e; rw [Jay _ _ _ (by omega), b, L1n, Jar, J]
      . rw [Jbn _ _ _ (by omega), A i (by omega)]
     refine Jab (fun s => ?_) (fun s => ?_)
     . simp -implicitDefEqProofs (disch := omega) only [go_sem, g, h1, f, j, k]
       refine Jaa (pick_ev _ _ (Jdt (by omega) ⟨m, o⟩) (by omega)) ?_
       simp -implicitDefEqProofs (disch := omega) only [go_sem, g, h1, f, j, k]
       refine Jaa (pick_ev _ _ ⟨m, o⟩ (by omega)) ?_
       simp -implicitDefEqProofs (disch := omega) only [go_sem, g, h1, f, j, k]
       refine Jab (fun s => ?_) (fun s => ?_)
       . simp -implicitDefEqProofs (disch := omega) only [go_sem, g, h1, f, j, k, q, b]
         refine Jad (n - 1) (by omega) ⟨c + 1, by omega, ?_⟩
         simp -implicitDefEqProofs (disch := omega) only [go_sem, g, h1, f, j, k, q, b]
         exact ⟨by simp, _, rfl, by simp [b], p _ (by unfold knownF1; rw [if_pos (by omega)])⟩
       . simp -implicitDefEqProofs (disch := omega) only [go_sem, g, h1, f, j, k, q, b]
         refine Jad (n - 1) (by omega) ⟨c + 1, by omega, ?_⟩
         simp -implicitDefEqProofs (disch := omega) only [go_sem, g, h1, f, j, k, q, b]
         exact ⟨by simp, _, rfl, by simp [b], p _ (by unfold knownF1; rw [if_neg (by omega)])⟩
     . simp -implicitDefEqProofs (disch := omega) only [go_sem, g, h1, f, j, k]
       have t : gd y c = 0 := Jib y c (by omega)
       rw [t] at w m o
       refine Jaa (pick_ev _ _ (Jdt (by omega) ⟨m, o⟩) (by omega)) ?_
       simp -implicitDefEqProofs (disch := omega) only [go_sem, g, h1, f, j, k]
       refine Jaa (pick_ev _ _ ⟨m, o⟩ (by omega)) ?_
       simp -implicitDefEqProofs (disch := omega) only [go_sem, g, h1, f, j, k]
       refine Jab (fun s => ?_) (fun s => ?_)
       . simp -implicitDefEqProofs (disch := omega) only [go_sem, g, h1, f, j, k, q, b]
         refine Jad (n - 1) (by omega) ⟨c + 1, by omega, ?_⟩
         simp -implicitDefEqProofs (disch := omega) only [go_sem, g, h1, f, j, k, q, b]
         exact ⟨by simp, _, rfl, by simp [b], p _ (by unfold knownF1; rw [t, if_pos (by omega)])⟩
       . simp -implicitDefEqProofs (disch := omega) only [go_sem, g, h1, f, j, k, q, b]
         refine Jad (n - 1) (by omega) ⟨c + 1, by omega, ?_⟩
         simp -implicitDefEqProofs (disch := omega) only [go_sem, g, h1, f, j, k, q, b]
         exact ⟨by simp, _, rfl, by simp [b], p _ (by unfold knownF1; rw [t, if_neg (by omega)])⟩
   . simp -implicitDefEqProofs (disch := omega) only [go_sem, g, h1, f, j, k, q, results88]
     rw [show knownF h d y = l from Jfr (by rw [knownF_length]; omega) fun i u => by
      rw [knownF_length] at u
      rw [knownF_at _ _ _ _ u, A i (by omega)]]
theorem made_ev (x y : List Int) (lag : Int) (hx : x.length <= 9223372036854775807) (hy : y.length <= 9223372036854775807) (hxr : ∀ a ∈ x, R64 a) (hyr : ∀ a ∈ y, R64 a) (hl : R64 lag) :
 Ev prog 43 [SL x, SL y, I lag] (.tup [.new 3 1 ((madeH x).map I), .new 3 1 ((knownF (madeH x) (madeL lag) y).map I), I (madeL lag)]) := by
 refine EV func43 ?_
 simp -implicitDefEqProofs (disch := omega) only [go_sem, ntmps43]
 have hloop : ∀ (B : (Exit -> Env -> Jac -> Prop) -> Env -> Jac -> Prop) (Q : Exit -> Env -> Jac -> Prop) (E : Env) (σ : Jac) (l : List Int), l.length = 1 -> E 0 = SL x -> E 1 = SL y -> E 2 = I lag -> E 9 = .own 92274864 1 0 1 -> E 10 = I 1 -> σ 92274864 = some ⟨3, 1, l.map I⟩ -> (x = [] -> l = [0]) -> (x ≠ [] -> gd l 0 = Jcu (gd x 0) 9 - 1) ->
  (∀ n E σ, (∃ (v : Nat) (l : List Int), 1 <= v /\ v + n = 12 /\ E 0 = SL x /\ E 1 = SL y /\ E 2 = I lag /\ E 9 = .own 92274864 1 0 v /\ E 10 = I v /\ σ 92274864 = some ⟨3, 1, l.map I⟩ /\ l.length = v /\ (x = [] -> l = [0] /\ v = 1) /\ (x ≠ [] -> v <= x.length /\ ∀ i, i < v -> gd l i = Jcu (gd x i) 9 - 1)) -> B (Jcx (Jk4 (fun n E σ => ∃ (v : Nat) (l : List Int), 1 <= v /\ v + n = 12 /\ E 0 = SL x /\ E 1 = SL y /\ E 2 = I lag /\ E 9 = .own 92274864 1 0 v /\ E 10 = I v /\ σ 92274864 = some ⟨3, 1, l.map I⟩ /\ l.length = v /\ (x = [] -> l = [0] /\ v = 1) /\ (x ≠ [] -> v <= x.length /\ ∀ i, i < v -> gd l i = Jcu (gd x i) 9 - 1)) n) Q) E σ) -> JmC B Q E σ := by
  intro B Q E σ l h1 h2 h3 h4 h5 h6 h7 h8 h9 hB
  refine Jaf _ 11 ⟨1, l, by omega, by omega, h2, h3, h4, h5, h6, h7, h1, fun e => ⟨h8 e, rfl⟩, fun e => ⟨?_, fun i hi => ?_⟩⟩ hB
  . cases x with | nil => exact absurd rfl e | cons => simp
  . rw [show i = 0 from by omega]; exact h9 e
 have hend : ∀ (v : Nat) (l : List Int), 1 <= v -> v <= 12 -> l.length = v -> (x = [] -> l = [0] /\ v = 1) -> (x ≠ [] -> v <= x.length /\ ∀ i, i < v -> gd l i = Jcu (gd x i) 9 - 1) -> (x.length <= v \/ 12 <= v) -> l = madeH x := by
  intro v l h1 h2 h3 h4 h5 h6
  unfold madeH
  split
  . rename_i e; exact (h4 e).1
  . rename_i e
    obtain ⟨h7, h8⟩ := h5 e
    refine Jfr (by simp; omega) fun i hi => ?_
    rw [h8 i (by omega)]
    have : (List.map (fun a => Jcu a 9 - 1) (List.take 12 x))[i]? = some (Jcu (gd x i) 9 - 1) := by
     rw [L03, List.getElem?_take_of_lt (by omega), JaZ x i (by omega)]; rfl
    unfold gd; rw [L1a, L1a, this]
    rfl
 refine Jab (fun hb => ?_) (fun hb => ?_)
 have hp := pickF_in (c := gd x 0) (n := 9) (by omega)
 simp -implicitDefEqProofs (disch := omega) only [go_sem]
 refine Jaa (pick_ev _ _ (hxr _ (Jan x 0 (by omega))) (by omega)) ?_
 simp -implicitDefEqProofs (disch := omega) only [go_sem]
 refine hloop _ _ _ _ [Jcu (gd x 0) 9 - 1] rfl (by simp -implicitDefEqProofs (disch := omega) only [go_sem]) (by simp -implicitDefEqProofs (disch := omega) only [go_sem]) (by simp -implicitDefEqProofs (disch := omega) only [go_sem]) (by simp -implicitDefEqProofs (disch := omega) only [go_sem]) (by simp -implicitDefEqProofs (disch := omega) only [go_sem]) (by simp -implicitDefEqProofs (disch := omega) only [go_sem]) (fun e => by subst e; simp at hb) (fun e => rfl) ?_
 rotate_left
 simp -implicitDefEqProofs (disch := omega) only [go_sem]
 refine hloop _ _ _ _ [0] rfl (by simp -implicitDefEqProofs (disch := omega) only [go_sem]) (by simp -implicitDefEqProofs (disch := omega) only [go_sem]) (by simp -implicitDefEqProofs (disch := omega) only [go_sem]) (by simp -implicitDefEqProofs (disch := omega) only [go_sem]) (by simp -implicitDefEqProofs (disch := omega) only [go_sem]) (by simp -implicitDefEqProofs (disch := omega) only [go_sem]) (fun e => rfl) (fun e => absurd (List.length_eq_zero_iff.1 (by omega)) e) ?_
 all_goals
  clear hb hloop
  rintro n E σ ⟨v, l, hv1, hv, h0, h1, h2, h9, h10, hs, hll, he1, he2⟩
  have hp : ∀ i, 0 <= Jcu (gd x i) 9 /\ Jcu (gd x i) 9 < 9 := fun i => pickF_in (by omega)
  have hpv := hp v
  have hfin : (x.length <= v \/ 12 <= v) -> l = madeH x := hend v l hv1 (by omega) hll he1 he2
  have hml := madeL_in lag; have hmh := madeH_holders x; simp -implicitDefEqProofs (disch := omega) only [go_sem, h0, h1, h2, h9, h10]
  repeat' (first | ((with_reducible refine Jab (fun hb => ?_) (fun hb => ?_)) <;> simp -implicitDefEqProofs (disch := omega) only [go_sem, h0, h1, h2, h9, h10, hb]))
  . refine Jaa (pick_ev _ _ (hxr _ (Jan x v (by omega))) (by omega)) ?_
    simp -implicitDefEqProofs (disch := omega) only [go_sem, h0, h1, h2, h9, h10, hs, hll]
    refine Jad (n - 1) (by omega) ⟨v + 1, l ++ [Jcu (gd x v) 9 - 1], by omega, by omega, ?_⟩
    simp -implicitDefEqProofs (disch := omega) only [go_sem, h0, h1, h2, h9, h10, hs, hll]
    have hne : x ≠ [] := fun e => by subst e; simp at *; omega
    refine ⟨by simp, fun e => absurd e hne, fun _ => ⟨by omega, fun i hi => ?_⟩⟩
    by_cases e : i = v
    . subst e; rw [Jay _ _ _ (by omega), hll, L1n, Jar]
    . rw [Jbn _ _ _ (by omega)]; exact (he2 hne).2 i (by omega)
  all_goals
   have hl' := hfin (by omega)
   subst hl'
   refine Jaa (pick_ev _ _ hl (by omega)) ?_
   simp -implicitDefEqProofs (disch := omega) only [go_sem, h0, h1, h2, h9, h10, hs, hll]
   refine Jaa (known_ev (madeH x) (madeL lag) y (by omega) (by omega) (by omega) (by omega) hy hyr) ?_ (j := .inr (Jmp _))
   simp -implicitDefEqProofs (disch := omega) only [go_sem, h0, h1, h2, h9, h10, hs, hll, results43]
   rfl
@[go_sem] theorem append_hp (l : List (Int × Int)) (a b : Int) : l.map HP ++ [.agg [.v (.int .i64 a), .v (.int .i64 b)]] = (l ++ [(a, b)]).map HP := by simp
@[go_sem] theorem flatL_hps (l : List (Int × Int)) : AV.flatL (l.map HP) = true := Ja4 l HP fun _ => rfl
@[go_sem] theorem namesL_hps (p : Nat -> Bool) (l : List (Int × Int)) : AV.namesL p (l.map HP) = false := Jak p l HP fun _ => rfl
@[go_sem] theorem allOK_hps (l : List (Int × Int)) : Jbw 2 (l.map HP) = true := JaD 2 l HP fun _ => ⟨rfl, rfl⟩
theorem at_decide {h k : List Int} {b c u : Int} (d : validF h k b = true) (g : AtF h k c u) :
 (0 <= c /\ c < k.length) /\ (0 <= max (gd k c.toNat) u /\ max (gd k c.toNat) u < h.length) /\ (-1 <= gd h (max (gd k c.toNat) u).toNat /\ gd h (max (gd k c.toNat) u).toNat < k.length) := by
 obtain ⟨p, q, s, t, w, y⟩ := g
 obtain ⟨f, i, j, l, m, o⟩ := valid_holders d
 have z := valid_known' d c.toNat (by omega)
 have A := holders_at f (max (gd k c.toNat) u).toNat (by omega)
 omega
def stepsF (h k : List Int) : Nat -> Int -> Int -> List (Int × Int × Int)
 | 0, _, _ => []
 | n + 1, c, u =>
  if (decideF h k c u).2.2 = 0 then (c, (decideF h k c u).1, 0) :: stepsF h k n (decideF h k c u).2.1 (decideF h k c u).1
  else [(c, (decideF h k c u).1, (decideF h k c u).2.2)]
abbrev YP (x : Int × Int × Int) : List AV := [HP (x.1, x.2.1), I x.2.2]
@[go_sem] theorem namesL_steps (p : Nat -> Bool) (l : List (Int × Int × Int)) : AV.namesL p ((l.map YP).map .tup) = false := by
 rw [L19]; exact Jak p l _ fun _ => rfl
theorem hops_sok (h k : List Int) (G c : Int) (a b d : Nat) (σ : Jac) (o : canF h k G c = true) (i : σ a = some ⟨25, 1, [SL h]⟩) (j : σ b = some ⟨25, 1, [SL k]⟩) (p : σ d = some ⟨3, 1, [I c]⟩)
 (M : a ≠ b) (D : a ≠ d) (F : b ≠ d) (Q : a / 16 < 18219008 \/ 18319008 <= a / 16) (R : b / 16 < 18219008 \/ 18319008 <= b / 16) (S : d / 16 < 18219008 \/ 18319008 <= d / 16) :
 SOK prog 138 [.ptr a 1 0 0, .ptr b 1 0 0, .ptr d 1 0 0] σ ((stepsF h k (h.length + 1) c (-1)).map YP) := by
 refine JhL func138 rfl (by kernel_rfl) mo (nb rfl) ?_ rfl fun l => ?_
 . exact namesL_steps allB _
 . simp -implicitDefEqProofs (disch := omega) only [go_sem, ntmps138]
   obtain ⟨L, f⟩ := can_at o
   have A : (a / 16 = 18219022) = False := by simp; omega
   have B : (b / 16 = 18219022) = False := by simp; omega
   have C : (d / 16 = 18219022) = False := by simp; omega
   refine Jaf (fun n E σ => ∃ (c u : Int), AtF h k c u /\ (h.length : Int) - u <= n /\ E 0 = .yld l /\ E 1 = .ptr a 1 0 0 /\ E 2 = .ptr b 1 0 0 /\ E 3 = .ptr d 1 0 0 /\ E 5 = I u /\ E 31 = .tup (((stepsF h k n c u).map YP).map .tup) /\
    σ a = some ⟨25, 1, [SL h]⟩ /\ σ b = some ⟨25, 1, [SL k]⟩ /\ σ d = some ⟨3, 1, [I c]⟩) (h.length + 1) ⟨c, -1, f, by omega, ?_⟩ ?_
   . simp -implicitDefEqProofs (disch := omega) only [go_sem, i, j, p]
   . clear f i j p o c σ
     rintro n E σ ⟨c, u, f, T, s, t, w, y, z, g, i, j, p⟩
     obtain ⟨H, J, K⟩ := at_decide L f
     obtain ⟨U, V, W, X, N⟩ := at_step L f
     obtain ⟨m, rfl⟩ : ∃ m, n = m + 1 := ⟨n - 1, by have := f.2.2.2.2.1; omega⟩
     by_cases he : (decideF h k c u).2.2 = 0
     . have q : stepsF h k (m + 1) c u = (c, (decideF h k c u).1, 0) :: stepsF h k m (decideF h k c u).2.1 (decideF h k c u).1 := by rw [stepsF, if_pos he]
       rw [q] at g; simp -implicitDefEqProofs (disch := omega) only [go_sem, s, t, w, y, z, i, j, p]
       refine Jaa (decide_ev h k c u H J K.2) ?_
       simp -implicitDefEqProofs (disch := omega) only [go_sem, T3, s, t, w, y, z, g, i, j, p, A, B, C, he]
       rcases N with ⟨_, O, Y, P⟩ | ⟨_, O⟩
       . refine ⟨Jad m (by omega) ⟨_, _, P, by omega, ?_⟩, ?_⟩
         . simp -implicitDefEqProofs (disch := omega) only [go_sem, T3, s, t, w, y, z, g, i, j, p, A, B, C, he]
           exact ⟨by rw [if_neg D], by rw [if_neg F]⟩
         . exact .inr trivial
       . omega
     . have q : stepsF h k (m + 1) c u = [(c, (decideF h k c u).1, (decideF h k c u).2.2)] := by rw [stepsF, if_neg he]
       rw [q] at g; simp -implicitDefEqProofs (disch := omega) only [go_sem, s, t, w, y, z, i, j, p]
       refine Jaa (decide_ev h k c u H J K.2) ?_
       simp -implicitDefEqProofs (disch := omega) only [go_sem, T3, s, t, w, y, z, g, i, j, p, A, B, C, he]
       exact ⟨.inl trivial, .inr trivial⟩
theorem hops_ev (h k : List Int) (c : Int) : Ev prog 90 [SL h, SL k, I c] (.clo 138 [.nptr 25 1 [SL h], .nptr 25 1 [SL k], .nptr 3 1 [I c]]) := by
 refine EV func90 ?_
 simp -implicitDefEqProofs (disch := omega) only [go_sem, ntmps90, results90]
abbrev hopOf (x : Int × Int × Int) : Int × Int := (x.1, x.2.1)
def endF (d : List (Int × Int × Int)) : Int := if d = [] then 0 else (gd d (d.length - 1)).2.2
theorem endF_snoc (d : List (Int × Int × Int)) (x : Int × Int × Int) : endF (d ++ [x]) = x.2.2 := by
 unfold endF
 rw [if_neg (by simp), Jay _ _ _ (by simp)]; simp
theorem steps_walk (h k : List Int) : ∀ (n : Nat) (c u : Int), (stepsF h k n c u).map hopOf = (walkF h k n c u).1
 | 0, _, _ => rfl
 | n + 1, c, u => by
  rw [stepsF, walkF]
  split
  . simp only [L0p, steps_walk h k n]
  . rfl
theorem steps_ne (h k : List Int) (n : Nat) (c u : Int) : stepsF h k (n + 1) c u ≠ [] := by rw [stepsF]; split <;> simp
theorem steps_end {h k : List Int} {f : Int} (g : validF h k f = true) : ∀ (n : Nat) (c u : Int), AtF h k c u -> (h.length : Int) - u <= n -> endF (stepsF h k n c u) = (walkF h k n c u).2
 | 0, c, u, d, j => by have := d.2.2.2.2.1; omega
 | n + 1, c, u, d, j => by
  obtain ⟨t, w, y, z, p⟩ := at_step g d
  rw [stepsF, walkF]
  split
  . rename_i s
    rcases p with ⟨_, q, A, i⟩ | ⟨_, q⟩
    . have o := steps_end g n _ _ i (by omega)
      simp only
      rw [<- o]
      obtain ⟨m, rfl⟩ : ∃ m, n = m + 1 := ⟨n - 1, by have := i.2.2.2.2.1; omega⟩
      have b := steps_ne h k m (decideF h k c u).2.1 (decideF h k c u).1; generalize stepsF h k (m + 1) (decideF h k c u).2.1 (decideF h k c u).1 = l at *; unfold endF
      rw [if_neg (by simp), if_neg b]
      have := L17.2 b
      rw [L0f, show l.length + 1 - 1 = (l.length - 1) + 1 from by omega, Jam]
    . omega
  . rfl
theorem path_ev (h k : List Int) (j c : Int) (F : h.length <= 9223372036854775807) (G : k.length <= 9223372036854775807) (H : R64 j) : Ev prog 44 [SL h, SL k, I j, I c] (pathR h k j c) := by
 refine EV func44 ?_
 simp -implicitDefEqProofs (disch := omega) only [go_sem, ntmps44]
 refine Jaa (canCall_ev h k j c F G H) ?_
 simp -implicitDefEqProofs (disch := omega) only [go_sem]
 refine Jab (fun D => ?_) (fun D => ?_)
 . simp -implicitDefEqProofs (disch := omega) only [go_sem, results44]
   simp [pathR, D]
 . simp -implicitDefEqProofs (disch := omega) only [go_sem]
   have f : canF h k j c = true := by simpa using D
   refine Jaa (hops_ev h k c) ?_
   simp -implicitDefEqProofs (disch := omega) only [go_sem]
   refine JbI ?_
   refine Jc1 [94372224, 94372225, 94372226] [94372016, 94372032] 5898340 ((stepsF h k (h.length + 1) c (-1)).map YP)
    (fun M z => ∃ d r, stepsF h k (h.length + 1) c (-1) = d ++ r /\ M = r.map YP /\ z 94372032 = some ⟨3, 1, [I (endF d)]⟩ /\ z 94372016 = some ⟨41, 1, [.own 94372017 2 0 d.length]⟩ /\ z 94372017 = some ⟨88, 2, (d.map hopOf).map HP⟩)
    (g := 138) (caps := [.ptr 94372224 1 0 0, .ptr 94372225 1 0 0, .ptr 94372226 1 0 0]) ?_ ?_ ?_ ?_ ?_ ?_ ?_ ?_
   . simp -implicitDefEqProofs (disch := omega) only [go_sem]
   . refine hops_sok h k j c _ _ _ _ f ?_ ?_ ?_ (by decide) (by decide) (by decide) (by decide) (by decide) (by decide) <;> simp -implicitDefEqProofs (disch := omega) only [go_sem]
   . intro x L
     obtain ⟨y, _, rfl⟩ := L06.1 L
     rfl
   . simp -implicitDefEqProofs (disch := omega) only [go_sem]
   . simp -implicitDefEqProofs (disch := omega) only [go_sem]
   . simp -implicitDefEqProofs (disch := omega) only [go_sem]
     exact ⟨[], _, rfl, rfl, rfl, rfl, rfl⟩
   . rintro u b x w z ⟨d, r, s, i, q, o, p⟩
     have l : u 11 = .ptr 94372016 1 0 0 := by rw [b]; simp -implicitDefEqProofs (disch := omega) only [go_sem]
     have m : u 12 = .ptr 94372032 1 0 0 := by rw [b]; simp -implicitDefEqProofs (disch := omega) only [go_sem]
     obtain ⟨y, t, rfl, rfl, rfl⟩ : ∃ y t, r = y :: t /\ x = YP y /\ w = t.map YP := by
      cases r with
      | nil => cases i
      | cons y t => simp only [L0p, List.cons.injEq] at i; exact ⟨y, t, rfl, i.1, i.2⟩
     clear b
     have E : d.length <= 31 := by
      have A := congrArg List.length (steps_walk h k (h.length + 1) c (-1))
      have B := (walk_length (h := h) (k := k) (h.length + 1) c (-1)).2
      have N := (valid_holders (can_at f).1).2.2.2.2.2; rw [L05, s, L08] at A
      omega
     simp -implicitDefEqProofs (disch := omega) only [go_sem, l, m, q, o, p]
     refine ⟨inL [], fun _ _ => rfl, d ++ [y], t, by rw [s]; simp, rfl, ?_⟩
     simp -implicitDefEqProofs (disch := omega) only [go_sem, l, m, q, o, p]
     exact ⟨by rw [endF_snoc], by simp⟩
   . rintro u b z ⟨d, r, s, i, q, o, p⟩
     have l : u 11 = .ptr 94372016 1 0 0 := by rw [b]; simp -implicitDefEqProofs (disch := omega) only [go_sem]
     have m : u 12 = .ptr 94372032 1 0 0 := by rw [b]; simp -implicitDefEqProofs (disch := omega) only [go_sem]
     clear b; simp -implicitDefEqProofs (disch := omega) only [go_sem, l, m, q, o, p, results44]
     have J : r = [] := by simpa using i.symm
     subst J
     obtain ⟨K, C⟩ := can_at f
     have A := steps_walk h k (h.length + 1) c (-1)
     have B := steps_end K (h.length + 1) c (-1) C (by omega)
     rw [s, L0F] at A B; rw [pathR, if_pos f, A, B]
     rfl
structure Path24 (h k : List Int) (l d : Int) (p : List (Int × Int)) (e : Int) : Prop where
 ok : PathOK h k d (-1) p e
 here : ∀ x ∈ p, 0 <= x.1 /\ x.1 <= 7 /\ 0 <= gd k x.1.toNat /\ 0 <= x.2 /\ x.2 <= (h.length : Int) - 1
 short : (p.length : Int) <= l + 2
 once : ∀ m i, m < i -> i < p.length -> (gd p m).1 ≠ (gd p i).1
 least : (h.length : Int) - 1 - l <= gd k d.toNat
 known : 0 <= gd k d.toNat
theorem path24 {h k : List Int} {l d : Int} (b : canF h k l d = true) : Path24 h k l d (pathF h k d).1 (pathF h k d).2 :=
 ⟨path_ok b, path_in b, path_short b, fun m i f c => (path_ok b).once b (path_in b) m i f c, (path_least b).1, (path_least b).2⟩
theorem PathOK.last {h k : List Int} {c u : Int} {p : List (Int × Int)} {e : Int} (b : PathOK h k c u p e) (i : Nat) (hi : i < p.length) : (gd p i).2 <= (gd p (p.length - 1)).2 := by
 have := b.asc' i (p.length - 1 - i) (by omega)
 rwa [show i + (p.length - 1 - i) = p.length - 1 from by omega] at this
theorem can_iff {h k : List Int} {l d : Int} (b : validF h k l = true) (c : 0 <= d /\ d < 8) : canF h k l d = decide (0 <= gd k d.toNat) := by
 simp only [canF, b, L0k]
 rw [decide_eq_true (p := 0 <= d /\ d <= 7) (by omega), L0k]
end Go.Proofs.YtnpbhgeffapojaaGreatDoor.Rt
set_option maxRecDepth 100000
namespace Go.Proofs.YtnpbhgeffapojaaGreatDoor
open Go.Proofs.Tryz
open Go.Vai Go Go.Proofs
def legP (p : List (Int × Int)) (i : Nat) : Lg := ⟨(gd p i).1, (gd p (i + 1)).1, ⟨10, 70 + i⟩, ⟨10, 70 + i⟩⟩
def legsP (p : List (Int × Int)) : Nat -> List Lg
 | 0 => []
 | i + 1 => legsP p i ++ [legP p i]
theorem legsP_length (p : List (Int × Int)) : ∀ i, (legsP p i).length = i
 | 0 => rfl
 | i + 1 => by rw [legsP, L08, legsP_length p i]; rfl
theorem legsP_gd (p : List (Int × Int)) {v : Nat} : ∀ {i : Nat}, v < i -> gd (legsP p i) v = legP p v
 | 0, h => absurd h (Nat.not_lt_zero _)
 | i + 1, h => by
  rw [legsP]
  by_cases hv : v < i
  . rw [Jbn _ _ _ (by rw [legsP_length]; exact hv), legsP_gd p hv]
  . obtain rfl : v = i := by omega
    rw [Jay _ _ _ (by rw [legsP_length]; omega), legsP_length, L1n]; rfl
def rtTp (t : Tp) (n : Nat) (p : List (Int × Int)) : Tp := { t with hops := p, legs := legsP p (p.length - 1), ups := upsN n }
theorem rt_trip {t : Tp} (y : Jc4 t = true) {n : Nat} {p : List (Int × Int)} (h1 : 1 <= p.length) (s : p.length <= 12) (B : n <= 30)
 (b : ∀ x ∈ p, 0 <= x.1 /\ x.1 <= 7 /\ 0 <= x.2 /\ x.2 <= (n : Int) - 1)
 (c : ∀ i, i + 1 < p.length -> (gd p (i + 1)).1 ≠ (gd p i).1 /\ (gd p i).2 <= (gd p (i + 1)).2) : Jc4 (rtTp t n p) = true := by
 have C : (upsN n).length = n := Jbh n
 have a := JaR.1 y; have e := a.2.1; unfold Jc4; simp only [L00, decide_eq_true_iff, L0b]; have m := L0b.1 a.2.2.1; have o := L0b.1 a.2.2.2.1; have q := L0b.1 a.2.2.2.2.1
 refine ⟨a.1, ⟨⟨h1, s⟩, by simp only [rtTp]; exact legsP_length _ _, e.2.2.1, e.2.2.2.1, e.2.2.2.2.1, by simp only [rtTp]; omega⟩, m, o, q, ?_, ?_⟩
 . refine Jie _ _ _ (fun h u => ?_) (fun v z => ?_)
   . have k := b h u; simp only [rtTp]
     omega
   . have d : v < p.length := z
     show (gd ((-1, 0) :: p) (v + 1)).1 ≠ (gd ((-1, 0) :: p) v).1 /\ (gd ((-1, 0) :: p) v).2 <= (gd ((-1, 0) :: p) (v + 1)).2
     rw [Jam]
     cases v with
     | zero =>
      have k := b _ (Jan p 0 d); rw [Jar]
      simp only
      omega
     | succ v => rw [Jam]; exact c v d
 . refine Jik _ _ _ fun i w => ?_
   have f : i < p.length - 1 := by simpa [rtTp, legsP_length] using w
   have g : gd (rtTp t n p).legs i = legP p i := legsP_gd p f
   have j := b _ (Jan p i (by omega))
   have l := b _ (Jan p (i + 1) (by omega))
   have A := c i (by omega)
   rw [g]
   refine ⟨Jb1.2 ⟨⟨⟨j.1, j.2.1⟩, ⟨l.1, l.2.1⟩, fun h => A.1 h.symm⟩, ?_, ?_⟩, ?_, ?_⟩
   . exact Jcl.2 (show (0 : Int) <= 10 /\ (10 : Int) <= 70 + (i : Int) /\ 70 + (i : Int) <= 10000000 by omega)
   . exact Jcl.2 (show (0 : Int) <= 10 /\ (10 : Int) <= 70 + (i : Int) /\ 70 + (i : Int) <= 10000000 by omega)
   . show _ = (gd p (0 + i)).1
     rw [L0q]; rfl
   . show _ = (gd p (0 + i + 1)).1
     rw [L0q]; rfl
theorem rt_ok {t : Tp} (b : t.ok) {n : Nat} {p : List (Int × Int)} (c : p.length <= 12) (d : n <= 30) : (rtTp t n p).ok where
 part := b.part
 rds := b.rds
 good := b.good
 hops := by simp only [rtTp]; omega
 legs := by simp only [rtTp, legsP_length]; omega
 cks := b.cks
 tfs := b.tfs
 offs := b.offs
 ups := by simp only [rtTp, Jbh]; omega
end Go.Proofs.YtnpbhgeffapojaaGreatDoor
set_option maxRecDepth 100000
namespace Go.Proofs.YtnpbhgeffapojaaGreatDoor.Rt
open Go.Proofs.Tryz
open Go.Vai Go Go.Proofs Go.Proofs.YtnpbhgeffapojaaGreatDoor
def kN (n : Int) : Nat -> List Int -> List Int
 | 0, k => k
 | i + 1, k => if 0 <= gd (kN n i k) i then (kN n i k).set i n else kN n i k
theorem kN_length (n : Int) (k : List Int) : ∀ i, (kN n i k).length = k.length
 | 0 => rfl
 | i + 1 => by rw [kN]; split <;> simp [kN_length n k i]
theorem kN_at (n : Int) (k : List Int) (j : Nat) : ∀ i, i <= k.length -> gd (kN n i k) j = if j < i /\ 0 <= gd k j then n else gd k j
 | 0, _ => by simp [kN]
 | i + 1, d => by
  have b := kN_at n k j i (by omega)
  have c := kN_at n k i i (by omega)
  rw [if_neg (by omega)] at c
  rw [kN]
  by_cases e : j = i
  . subst e
    split
    . rw [Jfs _ _ _ _ (by rw [kN_length]; omega), if_pos rfl, if_pos (by omega)]
    . rw [c, if_neg (by omega)]
  . split
    . rw [Jfs _ _ _ _ (by rw [kN_length]; omega), if_neg e, b]
      by_cases q : j < i /\ 0 <= gd k j
      . rw [if_pos q, if_pos (by omega)]
      . rw [if_neg q, if_neg (by omega)]
    . rw [b]
      by_cases q : j < i /\ 0 <= gd k j
      . rw [if_pos q, if_pos (by omega)]
      . rw [if_neg q, if_neg (by omega)]
theorem kN_valid {h k : List Int} {d : Int} (g : validF h k d = true) : validF h (kN ((h.length : Int) - 1) 8 k) d = true := by
 have a := valid_holders g
 refine validF_of a.1 (by rw [kN_length]; exact a.2.1) ⟨a.2.2.1, a.2.2.2.1⟩ fun c f => ?_
 have b := valid_known' g c f
 rw [kN_at _ _ _ _ (by omega)]
 by_cases q : 0 <= gd k c
 . rw [if_pos ⟨f, q⟩]
   exact .inr ⟨by omega, by omega, by omega, fun i j l m => by omega⟩
 . rw [if_neg (by omega)]
   exact .inl (by omega)
theorem kN_path {h k : List Int} {j d : Int} (f : canF h k j d = true) :
 canF h (kN ((h.length : Int) - 1) 8 k) j d = true /\ ((pathF h (kN ((h.length : Int) - 1) 8 k) d).1 = [(d, (h.length : Int) - 1)] \/ ∃ x, (0 <= x /\ x <= 7) /\ x ≠ d /\ (pathF h (kN ((h.length : Int) - 1) 8 k) d).1 = [(d, (h.length : Int) - 1), (x, (h.length : Int) - 1)]) := by
 have l := (can_at f).1; have g := (can_at f).2; have a := valid_holders l
 have p : 0 <= d /\ d <= 7 := ⟨g.1, g.2.1⟩
 have u : 0 <= gd k d.toNat := g.2.2.1
 have i : gd (kN ((h.length : Int) - 1) 8 k) d.toNat = (h.length : Int) - 1 := by
  rw [kN_at _ _ _ _ (by omega), if_pos (by omega)]
 have w := holders_at a.1 ((h.length : Int) - 1).toNat (by omega)
 refine ⟨?_, ?_⟩
 . rw [can_iff (kN_valid l) (by omega), decide_eq_true_eq, i]; omega
 . have s := newest_path (k := kN ((h.length : Int) - 1) 8 k) a.1 (by rw [kN_length]; exact a.2.1) rfl (fun c m => by
    have b := valid_known' l c m
    rw [kN_at _ _ _ _ (by omega)]
    by_cases q : 0 <= gd k c
    . rw [if_pos ⟨m, q⟩]; exact .inr rfl
    . rw [if_neg (by omega)]; exact .inl (by omega)) p i
   rw [s]
   split
   . exact .inl rfl
   . rename_i t
     split
     . exact .inl rfl
     . split
       . exact .inl rfl
       . rename_i o
         exact .inr ⟨_, by omega, o, rfl⟩
end Go.Proofs.YtnpbhgeffapojaaGreatDoor.Rt
set_option maxRecDepth 100000
namespace Go.Proofs.YtnpbhgeffapojaaGreatDoor
open Go.Proofs.Tryz
open Go.Vai Go Go.Proofs
theorem path_sl {h k : List Int} {b d : Int} (c : Rt.canF h k b d = true) (f : R64 b) : Ev prog 44 [SL h, SL k, I b, I d] (.tup [HPS (Rt.pathF h k d).1, I (Rt.pathF h k d).2, I 0]) := by
 have a := Rt.valid_holders (Rt.can_at c).1
 have := Rt.path_ev h k b d (by omega) (by omega) f
 rw [Rt.pathR, if_pos c] at this
 exact JeV this _
theorem path_no {h k : List Int} {b d : Int} (g : Rt.validF h k b = true) (c : Rt.canF h k b d = false) (f : R64 b) : Ev prog 44 [SL h, SL k, I b, I d] (.tup [HPS [], I 0, I 240]) := by
 have a := Rt.valid_holders g
 have := Rt.path_ev h k b d (by omega) (by omega) f
 rw [Rt.pathR, if_neg (by rw [c]; simp)] at this
 exact JeV this _
theorem made24 (x y : List Int) (b : Int) (g : x.length <= 9223372036854775807) (h : y.length <= 9223372036854775807) (c : ∀ a ∈ x, R64 a) (d : ∀ a ∈ y, R64 a) (f : R64 b) :
 Ev prog 43 [SL x, SL y, I b] (.tup [SL (Rt.madeH x), SL (Rt.knownF (Rt.madeH x) (Rt.madeL b) y), I (Rt.madeL b)]) :=
 JeV (Rt.made_ev x y b g h c d f) _
theorem madeH_len (x : List Int) : (Rt.madeH x).length <= 12 := by
 unfold Rt.madeH
 split
 . decide
 . simp only [L05, L02]; omega
abbrev rtT (p : List (Int × Int)) (t : Tp) (G U : AV) : AV := .agg [HPS p, G, CKS t.cks, TFS t.tfs, SL t.offs, Str t.key, I t.part.h.c, I t.part.h.n, Str t.part.h.r, Str t.part.h.s, ITS t.part.l, Str t.call, U]
def rtI (H K : List Int) (L d : Int) (p : List (Int × Int)) (t : AV) (G : List Lg) (U : List ByteArray) (E : Env) (σ : Jac) : Prop :=
 E 2 = I L /\ E 3 = I d /\ E 11 = B true /\ E 12 = SL H /\ E 13 = SL K /\ E 14 = HPS p /\ E 17 = .ptr 25166096 13 0 0 /\ σ 25166096 = some ⟨52, 13, [t]⟩ /\
 σ 25166097 = some ⟨33, 6, G.map LGP⟩ /\ σ 25166098 = some ⟨9, 1, U.map Str⟩
set_option maxHeartbeats 16000000 in
theorem routes_ev (x y : List Int) (lag c : Int) (z : Nm) (hx : x.length <= 9223372036854775807) (hxr : ∀ a ∈ x, R64 a) (hy : y.length <= 9223372036854775807) (hyr : ∀ a ∈ y, R64 a) (hl : R64 lag) (hc : R64 c) (hz : z.ok) : Ev prog 11 [SL x, SL y, I lag, I c, NMP z] (B true) := by
 have d0 := Jt6; have d1 := made24 x y lag hx hy hxr hyr hl; have hv := Rt.made_valid x y lag; have hh12 := madeH_len x; generalize Rt.knownF (Rt.madeH x) (Rt.madeL lag) y = K at *; generalize Rt.madeH x = H at *; generalize Rt.madeL lag = L at *; have g := Rt.valid_holders hv
 have rL : R64 L := ⟨by omega, by omega⟩
 have d2 := Jq2 c 8 hc (by omega)
 have p2 := Jai (c := c) (n := 8) (by omega)
 generalize Jag c 8 = d at *; have hci := Rt.can_iff hv p2
 refine EW [13, 21, 36, 43] func11 ?_
 simp -implicitDefEqProofs (disch := omega) only [go_sem, ntmps11]
 refine Jaa d0 ?_
 simp -implicitDefEqProofs (disch := omega) only [go_sem]
 refine Jaa d1 ?_
 simp -implicitDefEqProofs (disch := omega) only [go_sem]
 refine Jaa d2 ?_
 simp -implicitDefEqProofs (disch := omega) only [go_sem]
 by_cases hcan : Rt.canF H K L d = true
 rotate_left
 . have hcan' : Rt.canF H K L d = false := by simpa using hcan
   refine Jaa (path_no hv hcan' rL) ?_
   have hk1 := (Rt.valid_known' hv d.toNat (by omega)).1
   rw [hci, decide_eq_true_eq] at hcan
   have hk : gd K d.toNat = -1 := by omega
   simp -implicitDefEqProofs (disch := omega) only [go_sem, hk, results11]
 have cp := path_sl hcan rL; have hP := Rt.path24 hcan
 obtain ⟨hcan2, hnew⟩ := Rt.kN_path hcan
 have cp2 := path_sl hcan2 rL; generalize (Rt.pathF H (Rt.kN ((H.length : Int) - 1) 8 K) d).2 = e2 at cp2; generalize hp2 : (Rt.pathF H (Rt.kN ((H.length : Int) - 1) 8 K) d).1 = p2' at cp2 hnew; generalize (Rt.pathF H K d).2 = e at cp hP; generalize (Rt.pathF H K d).1 = p at cp hP; have hpos := hP.ok.pos; have hshort := hP.short
 have hst : ∀ i, i + 1 < p.length -> (gd p (i + 1)).1 ≠ (gd p i).1 /\ (gd p i).2 <= (gd p (i + 1)).2 := fun i hi => ⟨(hP.ok.step i hi).2.1, hP.ok.asc i hi⟩
 have hin : ∀ q ∈ p, 0 <= q.1 /\ q.1 <= 7 /\ 0 <= q.2 /\ q.2 <= (H.length : Int) - 1 := fun q hq => by have := hP.here q hq; omega
 have d3 := Jgw z hz; have ht := Jgv z hz; have hb := Ja5 z; generalize Jav z = t at *
 have hb2 := rt_trip hb hpos (by omega) (n := H.length) (by omega) hin hst
 have d4 := JiV _ (rt_ok ht (n := H.length) (p := p) (by omega) (by omega)) hb2
 have hLl := Jb0 (rtTp t H.length p)
 rw [show (rtTp t H.length p).legs.length = p.length - 1 from legsP_length _ _] at hLl
 have htl := (JaR.1 hb).2.1; have hgood := L0b.1 (JaR.1 hb).2.2.2.1; have hZ := L0b.1 (JaR.1 hb).2.2.2.2.1
 have key : ∀ i, i < p.length - 1 -> ∃ q f u a : Int, gd (JbS (rtTp t H.length p)) i = ⟨payF (rtTp t H.length p) i, q, f, u, a⟩ /\ q = (gd p (i + 1)).1 /\ (0 <= q /\ q <= 7) /\ JdZ f u = true /\ a = amtF (gd t.tfs q.toNat) (gd t.offs q.toNat) f u := by
  intro i hi
  rw [Jen _ (by rw [show (rtTp t H.length p).legs = legsP p (p.length - 1) from rfl, legsP_length]; exact hi)]
  have g1 : gd (rtTp t H.length p).legs i = legP p i := legsP_gd p hi
  have g2 := hin _ (Jan p (i + 1) (by omega))
  refine ⟨_, _, _, _, rfl, by rw [g1]; rfl, by rw [g1]; exact ⟨g2.1, g2.2.1⟩, (Jnp _ _ _ _).1, rfl⟩
 generalize JbS (rtTp t H.length p) = BL at *
 have d5 : ∀ x, (0 <= x /\ x <= 7) -> x ≠ d -> Ev prog 26 [rtT [(d, (H.length : Int) - 1), (x, (H.length : Int) - 1)] t (LGS [⟨d, x, ⟨10, 70⟩, ⟨10, 70⟩⟩]) (SLs (upsN H.length)), I 0] (.tup [I d, I 0]) /\
  Ev prog 26 [rtT [(d, (H.length : Int) - 1), (x, (H.length : Int) - 1)] t (LGS [⟨d, x, ⟨10, 70⟩, ⟨10, 70⟩⟩]) (SLs (upsN H.length)), I 1] (.tup [I 0, I 380]) := by
  intro x hx hxd
  have hb3 := rt_trip hb (p := [(d, (H.length : Int) - 1), (x, (H.length : Int) - 1)]) (n := H.length) (by simp) (by simp) (by omega) (fun q hq => by
   simp only [L0i, L1W, or_false] at hq
   rcases hq with rfl | rfl <;> simp only <;> omega) (fun i hi => by
   have : i = 0 := by simp at hi; omega
   subst this
   exact ⟨hxd, L1H _⟩)
  have ok3 := rt_ok ht (n := H.length) (p := [(d, (H.length : Int) - 1), (x, (H.length : Int) - 1)]) (by simp) (by omega)
  have r0 := JgJ _ ok3 0; have r1 := JgJ _ ok3 1
  rw [payV, if_pos ⟨hb3, show (0 : Int) <= 0 /\ (0 : Int) <= ((1 : Nat) : Int) - 1 from by decide⟩] at r0
  rw [payV, if_neg (fun h => absurd (show (0 : Int) <= 1 /\ (1 : Int) <= ((1 : Nat) : Int) - 1 from h.2) (by decide))] at r1
  exact ⟨r0, r1⟩
 obtain ⟨hops, legs, cks, tfs, offs, ky, ⟨⟨pc, pn, pr, ps⟩, pl⟩, call, ups⟩ := t
 simp only [rtTp] at *
 refine Jaa cp ?_
 simp -implicitDefEqProofs (disch := omega) only [go_sem]
 refine Jaa d3 ?_
 simp -implicitDefEqProofs (disch := omega) only [go_sem, false_and, and_self]
 refine Ja0 25166096 25166097 0 1 33 6 (k := ⟨52, 13, [.agg [HPS p, .v (.slice none 0 0), CKS cks, TFS tfs, SL offs, Str ky, I pc, I pn, Str pr, Str ps, ITS pl, Str call, .v (.slice none 0 0)]]⟩) (el := .agg [HPS p, .v (.slice none 0 0), CKS cks, TFS tfs, SL offs, Str ky, I pc, I pn, Str pr, Str ps, ITS pl, Str call, .v (.slice none 0 0)]) (by simp -implicitDefEqProofs (disch := omega) only [go_sem, false_and]; try rfl) (by decide) rfl rfl (by simp) (by simp -implicitDefEqProofs (disch := omega) only [go_sem]) rfl ?_
 refine Ja0 25166096 25166098 0 12 9 1 (k := ⟨52, 13, [.agg [HPS p, .own 25166097 6 0 0, CKS cks, TFS tfs, SL offs, Str ky, I pc, I pn, Str pr, Str ps, ITS pl, Str call, .v (.slice none 0 0)]]⟩) (el := .agg [HPS p, .own 25166097 6 0 0, CKS cks, TFS tfs, SL offs, Str ky, I pc, I pn, Str pr, Str ps, ITS pl, Str call, .v (.slice none 0 0)]) (by simp -implicitDefEqProofs (disch := omega) only [go_sem, false_and]; try rfl) (by decide) rfl rfl (by simp) (by simp -implicitDefEqProofs (disch := omega) only [go_sem]) rfl ?_
 refine JdW Plain.mono ?_
 simp -implicitDefEqProofs (disch := omega) only [go_sem]
 have hu0 : upsN 0 = [] := rfl
 refine Jaf (fun k E σ => ∃ i : Nat, i + k = H.length /\ E 18 = I i /\ rtI H K L d p (.agg [HPS p, .own 25166097 6 0 0, CKS cks, TFS tfs, SL offs, Str ky, I pc, I pn, Str pr, Str ps, ITS pl, Str call, .own 25166098 1 0 i]) [] (upsN i) E σ) H.length ⟨0, by omega, ?_⟩ ?_
 . simp -implicitDefEqProofs (disch := omega) only [go_sem, rtI, hu0, false_and, and_self]
   try ((repeat' apply And.intro) <;> rfl)
 rintro k E σ ⟨i, hk, e18, e2, e3, e11, e12, e13, e14, e17, m1, m2, m3⟩
 simp -implicitDefEqProofs (disch := omega) only [go_sem, e18, e2, e3, e11, e12, e13, e14, e17, m1, m2, m3]
 refine Jab (fun hc => ?_) (fun hc => ?_)
 . have b1 := JjW i (by omega)
   have s1 := JjX i; have ul := Jbh i; generalize updS i = US at *; generalize hU' : upsN (i + 1) = U' at *; generalize upsN i = U at *
   have qt : U.take i = U := L09 (by omega)
   simp -implicitDefEqProofs (disch := omega) only [go_sem, e18, e2, e3, e11, e12, e13, e14, e17, m1, m2, m3, false_and, and_self]
   refine Jaa b1 ?_
   simp -implicitDefEqProofs (disch := omega) only [go_sem, e18, e2, e3, e11, e12, e13, e14, e17, m1, m2, m3, ul, qt, false_and, and_self]
   refine Jad (H.length - (i + 1)) (by omega) ⟨i + 1, by omega, ?_⟩
   rw [hU', s1]; simp -implicitDefEqProofs (disch := omega) only [go_sem, rtI, e18, e2, e3, e11, e12, e13, e14, e17, m1, m2, m3, ul, qt, L08, L0f, L0z, false_and, and_self]
   try simp [ul]
 obtain rfl : i = H.length := by omega
 have ul := Jbh H.length; generalize upsN H.length = U at *
 have qtu : U.take H.length = U := L09 (by omega)
 simp -implicitDefEqProofs (disch := omega) only [go_sem, e18, e2, e3, e11, e12, e13, e14, e17, m1, m2, m3]
 have hg0 : legsP p 0 = [] := rfl
 refine Jaf (fun k E σ => ∃ v : Nat, v + k = p.length - 1 /\ E 19 = I v /\ rtI H K L d p (.agg [HPS p, .own 25166097 6 0 v, CKS cks, TFS tfs, SL offs, Str ky, I pc, I pn, Str pr, Str ps, ITS pl, Str call, .own 25166098 1 0 H.length]) (legsP p v) U E σ) (p.length - 1) ⟨0, by omega, ?_⟩ ?_
 . simp -implicitDefEqProofs (disch := omega) only [go_sem, rtI, hg0, e2, e3, e11, e12, e13, e14, e17, m1, m2, m3, false_and, and_self]
   try ((repeat' apply And.intro) <;> rfl)
 clear e18 e2 e3 e11 e12 e13 e14 e17 m1 m2 m3 hk hc k E σ
 rintro k E σ ⟨v, hk, e19, e2, e3, e11, e12, e13, e14, e17, m1, m2, m3⟩
 have hvv : ((v : Int) + 1).toNat = v + 1 := by omega
 simp -implicitDefEqProofs (disch := omega) only [go_sem, e19, e2, e3, e11, e12, e13, e14, e17, m1, m2, m3]
 refine Jab (fun hc => ?_) (fun hc => ?_)
 . have hgl := legsP_length p v
   have s1 : legsP p (v + 1) = legsP p v ++ [⟨(gd p v).1, (gd p (v + 1)).1, ⟨10, 70 + v⟩, ⟨10, 70 + v⟩⟩] := rfl
   generalize hG' : legsP p (v + 1) = G' at *; generalize legsP p v = G at *
   have qg : G.take v = G := L09 (by omega)
   simp -implicitDefEqProofs (disch := omega) only [go_sem, e19, e2, e3, e11, e12, e13, e14, e17, m1, m2, m3, hvv, hgl, qg, false_and, and_self]
   refine Jad (p.length - 1 - (v + 1)) (by omega) ⟨v + 1, by omega, ?_⟩
   rw [hG', s1]; simp -implicitDefEqProofs (disch := omega) only [go_sem, rtI, e19, e2, e3, e11, e12, e13, e14, e17, m1, m2, m3, hvv, hgl, qg, L08, L0f, L0z, false_and, and_self]
   try simp [hgl]
 obtain rfl : v = p.length - 1 := by omega
 have hgl := legsP_length p (p.length - 1); generalize legsP p (p.length - 1) = G at *
 have qg : G.take (p.length - 1) = G := L09 (by omega)
 simp -implicitDefEqProofs (disch := omega) only [go_sem, e19, e2, e3, e11, e12, e13, e14, e17, m1, m2, m3]
 refine JaJ Plain.mono [25166097, 25166098] ?_
 simp -implicitDefEqProofs (disch := omega) only [go_sem, e2, e3, e11, e12, e13, e14, e17, m1, m2, m3, hgl, ul, qg, qtu, L05, false_and, and_self]
 refine Jaa d4 ?_
 simp -implicitDefEqProofs (disch := omega) only [go_sem, e2, e3, e11, e12, e13, e14, e17, m1, m2, m3, hLl]
 refine Jaq (by omega) ?_
 simp -implicitDefEqProofs (disch := omega) only [go_sem, e2, e3, e11, e12, e13, e14, e17, m1, m2, m3, hLl]
 refine Jaq (by omega) ?_
 simp -implicitDefEqProofs (disch := omega) only [go_sem, e2, e3, e11, e12, e13, e14, e17, m1, m2, m3, hLl]; have htl8 := htl.2.2.2.1; have hol8 := htl.2.2.2.2.1; clear e19 hk hc
 refine Jaf (fun k E σ => ∃ v : Nat, v + k = p.length - 1 /\ E 22 = I v /\ E 2 = I L /\ E 3 = I d /\ E 11 = B true /\ E 12 = SL H /\ E 13 = SL K /\ E 14 = HPS p /\ E 17 = .ptr 25166096 13 0 0 /\ E 20 = BLS BL /\ σ 25166096 = some ⟨52, 13, [.agg [HPS p, LGS G, CKS cks, TFS tfs, SL offs, Str ky, I pc, I pn, Str pr, Str ps, ITS pl, Str call, SLs U]]⟩) (p.length - 1) ⟨0, by omega, ?_⟩ ?_
 . simp -implicitDefEqProofs (disch := omega) only [go_sem, e2, e3, e11, e12, e13, e14, e17, m1, m2, m3, hLl, hgl, ul, qg, qtu, L05, false_and, and_self]
   try ((repeat' apply And.intro) <;> rfl)
 clear e2 e3 e11 e12 e13 e14 e17 m1 m2 m3 k E σ
 rintro k E σ ⟨v, hk, e22, e2, e3, e11, e12, e13, e14, e17, e20, m1⟩
 have hvv : ((v : Int) + 1).toNat = v + 1 := by omega
 simp -implicitDefEqProofs (disch := omega) only [go_sem, e22, e2, e3, e11, e12, e13, e14, e17, e20, m1, hLl]
 refine Jab (fun hc => ?_) (fun hc => ?_)
 . obtain ⟨q, f, u, a, g1, g2, g3, g4, g5⟩ := key v (by omega)
   subst g2
   have gT := hgood _ (Jan tfs (gd p (v + 1)).1.toNat (by omega))
   have gZ := hZ _ (Jan offs (gd p (v + 1)).1.toNat (by omega))
   have c2 := JiN (gd tfs (gd p (v + 1)).1.toNat) (gd offs (gd p (v + 1)).1.toNat) f u gT gZ g4; rw [<- g5] at c2
   have hqt : (gd p (v + 1)).1.toNat < tfs.length := by omega
   have hqo : (gd p (v + 1)).1.toNat < offs.length := by omega
   have hv1 : v < BL.length := by omega
   have hv2 : v + 1 < p.length := by omega
   clear g4 g5 gT gZ key; generalize payF _ v = py at g1; simp -implicitDefEqProofs (disch := omega) only [go_sem, e22, e2, e3, e11, e12, e13, e14, e17, e20, m1, hLl, hvv, g1]
   refine Jaa c2 ?_
   simp -implicitDefEqProofs (disch := omega) only [go_sem, e22, e2, e3, e11, e12, e13, e14, e17, e20, m1, hLl, hvv, g1, beq_self_eq_true, bne_self_eq_false]
   refine Jad (p.length - 1 - (v + 1)) (by omega) ⟨v + 1, by omega, ?_⟩
   simp -implicitDefEqProofs (disch := omega) only [go_sem, e22, e2, e3, e11, e12, e13, e14, e17, e20, m1, hLl, hvv, g1]; try rfl
 simp -implicitDefEqProofs (disch := omega) only [go_sem, e22, e2, e3, e11, e12, e13, e14, e17, e20, m1]; clear e22 hk hc key hLl hgl hgood hZ qg qtu; have g8 := g.2.1
 refine Jaf (fun k E σ => ∃ j : Nat, j + k = 8 /\ E 26 = I j /\ E 2 = I L /\ E 3 = I d /\ E 11 = B true /\ E 12 = SL H /\ E 17 = .ptr 25166096 13 0 0 /\ E 25 = .own 25168896 1 0 8 /\ σ 25168896 = some ⟨3, 1, (Rt.kN ((H.length : Int) - 1) j K).map I⟩ /\ σ 25166096 = some ⟨52, 13, [.agg [HPS p, LGS G, CKS cks, TFS tfs, SL offs, Str ky, I pc, I pn, Str pr, Str ps, ITS pl, Str call, SLs U]]⟩) 8 ⟨0, by omega, ?_⟩ ?_
 . simp -implicitDefEqProofs (disch := omega) only [go_sem, e2, e3, e11, e12, e13, e14, e17, m1, g8, Rt.kN, false_and, and_self]
   try ((repeat' apply And.intro) <;> rfl)
 clear e2 e3 e11 e12 e13 e14 e17 e20 m1 k E σ
 rintro k E σ ⟨j, hk, e26, e2, e3, e11, e12, e17, e25, ma, m1⟩
 have hkl := Rt.kN_length ((H.length : Int) - 1) K j
 rw [g8] at hkl; simp -implicitDefEqProofs (disch := omega) only [go_sem, e26, e2, e3, e11, e12, e17, e25, ma, m1, hkl]
 refine Jab (fun hc => ?_) (fun hc => ?_)
 . have s1 : Rt.kN ((H.length : Int) - 1) (j + 1) K = if 0 <= gd (Rt.kN ((H.length : Int) - 1) j K) j then (Rt.kN ((H.length : Int) - 1) j K).set j ((H.length : Int) - 1) else Rt.kN ((H.length : Int) - 1) j K := rfl
   generalize hK2 : Rt.kN ((H.length : Int) - 1) (j + 1) K = K2 at *; generalize Rt.kN ((H.length : Int) - 1) j K = K1 at *; simp -implicitDefEqProofs (disch := omega) only [go_sem, e26, e2, e3, e11, e12, e17, e25, ma, m1, hkl]
   refine Jab (fun hp => ?_) (fun hp => ?_)
   . rw [if_pos (by omega)] at s1
     simp -implicitDefEqProofs (disch := omega) only [go_sem, e26, e2, e3, e11, e12, e17, e25, ma, m1, hkl]
     refine Jad (8 - (j + 1)) (by omega) ⟨j + 1, by omega, ?_⟩
     rw [hK2, s1]; simp -implicitDefEqProofs (disch := omega) only [go_sem, e26, e2, e3, e11, e12, e17, e25, ma, m1, hkl, false_and, and_self]; try rfl
   . rw [if_neg (by omega)] at s1
     simp -implicitDefEqProofs (disch := omega) only [go_sem, e26, e2, e3, e11, e12, e17, e25, ma, m1, hkl]
     refine Jad (8 - (j + 1)) (by omega) ⟨j + 1, by omega, ?_⟩
     rw [hK2, s1]; simp -implicitDefEqProofs (disch := omega) only [go_sem, e26, e2, e3, e11, e12, e17, e25, ma, m1, hkl, false_and, and_self]; try rfl
 obtain rfl : j = 8 := by omega
 generalize Rt.kN ((H.length : Int) - 1) 8 K = K2 at *
 have qk : K2.take 8 = K2 := L09 (by omega)
 simp -implicitDefEqProofs (disch := omega) only [go_sem, e26, e2, e3, e11, e12, e17, e25, ma, m1, hkl]
 refine JaJ Plain.mono [25168896] ?_
 simp -implicitDefEqProofs (disch := omega) only [go_sem, e2, e3, e11, e12, e17, e25, ma, m1, hkl, qk, L05, false_and, and_self]
 refine Jaa cp2 ?_
 rcases hnew with rfl | ⟨x2, hx2, hxd, rfl⟩
 . simp -implicitDefEqProofs (disch := omega) only [go_sem, e2, e3, e11, e12, e17, e25, ma, m1, hkl, qk]
   refine Jaq (by omega) ?_
   simp -implicitDefEqProofs (disch := omega) only [go_sem, e2, e3, e11, e12, e17, e25, ma, m1, hkl, qk]
   refine Ja9 (by omega) ?_
   simp -implicitDefEqProofs (disch := omega) only [go_sem, e2, e3, e11, e12, e17, e25, ma, m1, hkl, qk, results11]
 obtain ⟨d6, d7⟩ := d5 x2 hx2 hxd
 simp -implicitDefEqProofs (disch := omega) only [go_sem, e2, e3, e11, e12, e17, e25, ma, m1, hkl, qk]
 refine Jaq (by omega) ?_
 simp -implicitDefEqProofs (disch := omega) only [go_sem, e2, e3, e11, e12, e17, e25, ma, m1, hkl, qk]
 refine Jaq (by omega) ?_
 simp -implicitDefEqProofs (disch := omega) only [go_sem, e2, e3, e11, e12, e17, e25, ma, m1, hkl, qk, Jar, Jam, false_and, and_self]
 refine JaJ Plain.mono [25169744] ?_
 simp -implicitDefEqProofs (disch := omega) only [go_sem, e2, e3, e11, e12, e17, e25, ma, m1, hkl, qk, false_and, and_self]
 refine Jaa d6 ?_
 simp -implicitDefEqProofs (disch := omega) only [go_sem, e2, e3, e11, e12, e17, e25, ma, m1, hkl, qk]
 refine Jaa d7 ?_
 simp -implicitDefEqProofs (disch := omega) only [go_sem, e2, e3, e11, e12, e17, e25, ma, m1, hkl, qk, beq_self_eq_true, results11]
theorem legRoutes_lifted (os : Os) (b : os.Started) (H : Type) (enc : TypeId × Value -> H) :
 ReturnsInHanded {} Tryz.checked os 11 .any (fun w args => (Rows.legRoutesSpec.pre enc prog Tryz.f11 [] false w args /\ laidMetH prog Jmx w) /\ sizedMet enc prog Tryz.f11 (OpenSpec.ofChange Rows.legRoutesSpec) false w args)
  (Rows.legRoutesSpec.post enc prog Tryz.f11 false true false false) :=
 JtD (C := Tryz.checked) (T := 4) (ps := [OSL, OSL, OI, OI, ON]) (X := fun w _ => laidMetH prog Jmx w) (fun _ _ _ s h => h.of_heap s) own3 b (by kernel_rfl) func11
  (ChangeSpec.witness_shaped (enc := enc) (C := Tryz.checked) (os := os) (X := fun w _ => laidMetH prog Jmx w) false (World.doorLaid prog 14 os) #[.slice none 0 0, .slice none 0 0, .int .i64 0, .int .i64 0, .agg #[.slice none 0 0, .slice none 0 0, .slice none 0 0, .slice none 0 0, .slice none 0 0, .slice none 0 0, .slice none 0 0]] 8 rfl (World.shaped_of_RefB (by kernel_rfl) (by kernel_rfl)) (by kernel_rfl) (by kernel_rfl) (by kernel_rfl) (Jqn os _))
  JqA (by kernel_rfl) (by kernel_rfl) (by kernel_rfl) rfl (JBE fun _ _ _ _ _ => rfl)
  (fun w => ⟨Jhw, Jhw, Jjv (by kernel_rfl), Jjv (by kernel_rfl), JoI, trivial⟩)
  (Jv8 fun B D E F G l m o p q => by
   obtain ⟨t, f, c, rfl⟩ := l; obtain ⟨u, g, d, rfl⟩ := m; obtain ⟨y, i, rfl⟩ := o; obtain ⟨z, j, rfl⟩ := p; obtain ⟨A, k, rfl⟩ := q
   exact routes_ev t u y z A f c g d i j k)
  (fun _ _ h => gok h)
theorem and2 {a b : Bool} (c : a = true) (d : b = true) : (a && b) = true := by rw [c, d]; rfl
set_option maxHeartbeats 16000000 in
theorem legRoutes_closed : joinedFacts Tryz.checked.prog 11 Tryz.f11 Rows.legRoutesSpec Rows.legRoutesRow = true := by
 unfold joinedFacts
 with_reducible repeat' refine and2 ?_ ?_
 all_goals as_aux_lemma => kernel_rfl
theorem legRoutes_row : Rows.LegRoutesSaid :=
 OpenClaim.holds_of_wide 11 Tryz.f11 rfl rfl rfl rfl rfl rfl rfl ⟨rfl, rfl, rfl, rfl, rfl⟩ rfl rfl rfl rfl rfl (by kernel_rfl) func11 legRoutes_closed
  (of_decide_eq_true (by kernel_rfl)) (by unfold Func.isWrapper; first | (rw [if_pos (by decide +kernel)]; kernel_rfl) | (rw [if_neg (by decide +kernel)]; exact ⟨rfl, rfl⟩))
  (fun d b H c _ => legRoutes_lifted d b H c)
theorem legRoutes_holds : Rows.LegRoutesCardSaid :=
 Claim7.holds_tied_plain_at .later [] [.data] true (true, "43ff5d6d438086e88ed6ccc25955440aba0cd482b19469407fb38ba16744b6d5") false
  legRoutes_row (fun _ h => by cases h) (by kernel_rfl) (fun _ h => by cases h) legRoutes_row_tie rfl ⟨rfl, rfl⟩ (by kernel_rfl) rfl
  (fun f fn hf hfn => by
   obtain rfl : f = 11 := Option.some.inj ((show prog.funcNamed "dialtone/dialtonelaw38.LegRoutes" = some 11 by kernel_rfl).symm.trans hf) |>.symm
   obtain rfl : fn = Tryz.f11 := (Option.some.inj (func11.symm.trans hfn)).symm
   exact ⟨by kernel_rfl, fun j t ht => by
    rw [Tryz.params11] at ht
    rcases j with _ | j
    . obtain rfl : t = 25 := by simpa using ht.symm
      exact (show prog.wantsStandIn 25 = false by kernel_rfl)
    rcases j with _ | j
    . obtain rfl : t = 25 := by simpa using ht.symm
      exact (show prog.wantsStandIn 25 = false by kernel_rfl)
    rcases j with _ | j
    . obtain rfl : t = 3 := by simpa using ht.symm
      exact (show prog.wantsStandIn 3 = false by kernel_rfl)
    rcases j with _ | j
    . obtain rfl : t = 3 := by simpa using ht.symm
      exact (show prog.wantsStandIn 3 = false by kernel_rfl)
    rcases j with _ | j
    . obtain rfl : t = 28 := by simpa using ht.symm
      exact (show prog.wantsStandIn 28 = false by kernel_rfl)
    simp at ht⟩)
  (by kernel_rfl)
#print axioms legRoutes_holds
end Go.Proofs.YtnpbhgeffapojaaGreatDoor

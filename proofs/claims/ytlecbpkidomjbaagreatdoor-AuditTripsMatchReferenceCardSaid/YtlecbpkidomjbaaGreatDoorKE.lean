/- A heap-free account of the walk, fifth part; facts about types -/
import Derived.Test.YtlecbpkidomjbaaGreatDoorKD
import Derived.Lib.UnsafeStr
import Derived.Laws.Externs
import Derived.DeepKeys
import Derived.Laws.IdiomRangeMap
import Derived.Sort.Grow
import Derived.Test.YtlecbpkidomjbaaGreatDoorProg
set_option linter.all false
namespace Go.Vai
open Go.RowKit
section
variable {S : Sp} {dst : Option Nat} {ty : TypeId} {K : Env -> Jac -> Prop} {E : Env} {σ : Jac}
theorem Jba {op : Op} (r : AV) (b : (dst.all (decide <| · < S.N) && Op.low S.N op) = true) (m : ∀ c, op ≠ .defer c)
 (h : ∀ (C : Fx) (w : World) (ρ : Nat -> Option Nat) (Im : Nat -> Prop) (M : Str) (a : Act), Holds S C -> Wit C E σ a w ρ Im M -> (∀ u ∈ op.operands, Rep w ρ Im (ev E u) (a.eval u)) ->
  ∃ y, (∀ pos after guard, (execOp a.eval ⟨dst, op, ty, pos, after, guard⟩).run S.P w = .ok (.value y) w) /\ Rep w ρ Im r y) (p : K (updO E dst r) σ) : semD S dst op ty K E σ := by
 intro pos after guard C H n a w z Q ⟨ρ, Im, M, k⟩ l
 simp only [L00] at b; obtain ⟨g, i⟩ := b
 have f : ∀ d, dst = some d -> d < C.N := λ d q => by subst q; rw [<- H.N]; simpa using g
 have o : ∀ u ∈ op.operands, Rep w ρ Im (ev E u) (a.eval u) := λ u t => Jb8 k.env (by rw [k.size, <- H.N]; exact JbP i t)
 obtain ⟨y, j, s⟩ := h C w ρ Im M a H k o
 exact JaN m (j pos after guard) (l _ _ _ _ p ⟨ρ, Im, M, k.put H.G f s⟩)
theorem JsK {t : TypeId} {g : Nat} (cs : List Value) (s : (g, cs) ∈ gtab) (r : AV) (z : Jcx S.P t (cs.map .v) 0 r) (q : K (updO E dst r) σ)
 (d : (dst.all (decide <| · < S.N) && Op.low S.N (.load t (.global g))) = true := by kernel_rfl) : semD S dst (.load t (.global g)) ty K E σ := by
 refine Jba r d (λ _ e => by cases e) (λ C w p m M a H B _ => ?_) q
 have f := (B.gok H) _ s
 obtain ⟨y, k, h⟩ := JfM (P := S.P) (w := w) (ρ := p) (Im := m) (b := g) (o := 0) (ys := cs) z ⟨by simp, λ j c y hc l => by
  rw [L07, l] at hc; simp at hc; subst hc; exact .im _ _ (.v _)⟩ (λ y l => by
   obtain ⟨i, u⟩ := L0s.1 l; exact (f.2 i y u).2) (λ i v A => by rw [L0p]; exact (f.2 i v A).1)
 exact ⟨y, λ _ _ _ => by simp [execOp, Act.eval, Instr.loadAt, Instr.sureAddr, k], h⟩
theorem Jdu {s t e : TypeId} {x : Operand} (l : List Int) (U : srcC σ (ev E x) = some (1, l.map Y)) (y : ∀ b, ev E x ≠ .v (.string b)) (A : S.P.underlying s = some (.slice e)) (q : S.P.underlying e = some (.int .u8)) (B : S.P.underlying t = some .string)
 (I : K (updO E dst (.v (.string (strOfNums l)))) σ) (g : (dst.all (decide <| · < S.N) && Op.low S.N (.convert s t x)) = true := by kernel_rfl) : semD S dst (.convert s t x) ty K E σ := by
 refine Jba _ g (λ _ e => by cases e) (λ C w W V M a H T D => ⟨_, λ _ _ _ => ?_, .im _ _ (.v (.string (strOfNums l)))⟩) I
 have Q := D x (by simp [Op.operands])
 obtain ⟨F, G, ⟨rfl, rfl⟩, h⟩ := Jfk T.inv (Jrt (K := λ F G => F = 1 /\ G = l.map Y) U ⟨rfl, rfl⟩) Q
 rcases h with ⟨m, f, k, _, c⟩ | ⟨b, J, _⟩
 . rw [L0c] at k
   cases m with
   | none =>
    rcases c with ⟨d, _⟩ | ⟨b, o, d, _⟩
    . have u : l = [] := by simpa using d
      subst u; simp only [execOp, k, Sem.run_bind, run_convert_bytes_nil w s e A q _ _ t B, Result.andThen_ok, Sem.run_pure]
      rfl
    . cases d
   | some m =>
    rcases c with ⟨d, _⟩ | ⟨b, o, d, _, p⟩
    . have u : l = [] := by simpa using d
      subst u
      have := run_convert_bytes_back w s t e m f [] A q B (λ j O => absurd O (by simp))
      simp only [L0r] at this k; simp only [execOp, k, Sem.run_bind, this, Result.andThen_ok, Sem.run_pure]
      rfl
    . cases d
      have p : ∀ i, i < l.length -> w.cell? ⟨b, o + i, none⟩ = some (.int .u8 (l.getD i 0)) := λ i L => by
       obtain ⟨v, R, _, z⟩ := p i (Y (l.getD i 0)) 0 (Y (l.getD i 0)) (by simp [L07, L0X, L]) rfl
       have := z.v_inv
       subst this
       simpa using R
      simp only [execOp, k, Sem.run_bind, run_convert_bytes_arg w s e A q b o l.length f l rfl p t B, Result.andThen_ok, Sem.run_pure]
 . exact absurd J (y b)
theorem JcA {t e : TypeId} {x : Operand} {lo hi : Option Operand} {c : AV} {j m : Nat} (l h : Nat) (hx : ev E x = .pt c j) (ht : tarr S.P t = some (m, e)) (hs : tsz S.P e = 1) (hm : j + m <= c.cells.length)
 (T : bound E hi m λ g => bound E lo 0 λ l' => l' = l /\ g = h /\ l <= h /\ h <= m) (Y : K (updO E dst (.sl 1 ((c.cells.drop (j + l)).take (h - l)))) σ)
 (A : ∀ a ∈ c.cells, a.cells = [a] := by simp) (B : (dst.all (decide <| · < S.N) && Op.low S.N (.slice t x lo hi none)) = true := by kernel_rfl) : semD S dst (.slice t x lo hi none) ty K E σ := by
 refine Jba _ B (λ _ e => by cases e) (λ C w O s M a H hw p => ?_) Y
 have J := p x (by simp [Op.operands])
 obtain ⟨g, T, hh⟩ := Ja1 (w := w) (ρ := O) (Im := s) T λ o y => p o (by subst y; simp [Op.operands])
 obtain ⟨l', ⟨rfl, rfl, F, D⟩, hl⟩ := Ja1 (w := w) (ρ := O) (Im := s) T λ o y => p o (by subst y; simp [Op.operands])
 rw [hx] at J
 cases J with
 | im _ _ J =>
  generalize R : a.eval x = ax at J
  cases J with
  | pt _ _ b o f Q Z L =>
   have V : (Instr.sliceBounds false m m (lo.map a.eval) (hi.map a.eval) none).run S.P w = .ok (l', g, m) w := by
    unfold Instr.sliceBounds
    rcases hh with ⟨rfl, rfl⟩ | ⟨o, k, rfl, y⟩ <;> rcases hl with ⟨rfl, rfl⟩ | ⟨o', k', rfl, G⟩
    . simp
    . simp [G, Jal F]
    . simp [y, Jal D]
    . simp [y, G, Jal D, Jal F]
   refine ⟨.slice (some (if m = l' then ⟨b, o + j, none⟩ else (⟨b, o + j, none⟩ : Addr).add (l' * 1))) (g - l') (m - l'), λ _ _ _ => ?_, ?_⟩
   . have W := Jat (P := S.P) (t := e) (by omega) w
     rw [hs] at W; simp only [execOp, R, Instr.sliceAt, Instr.sureAddr, L2f, Sem.run_bind, run_underlying (JdV ht) w, Result.andThen_ok, V, W, Sem.run_pure]
   . have d : ((c.cells.drop (j + l')).take (g - l')).length = g - l' := by rw [L01, L0g]; omega
     by_cases h0 : g - l' = 0
     . rw [h0]; simp only [L1G]; exact .im _ _ (.slnil ..)
     . have U : ¬ m = l' := by omega
       rw [if_neg U]
       have z : (⟨b, o + j, none⟩ : Addr).add (l' * 1) = ⟨b, o + j + l', none⟩ := by rw [Jbd, L0U]
       rw [z]
       have := IRep.sl (w := w) (Im := s) 1 ((c.cells.drop (j + l')).take (g - l')) b (o + j + l') (m - l') (λ i _ => f (j + l' + i)) Q (by rw [d]; omega)
        (λ a u => by rw [A a (L16 (L0J u))]; rfl) (λ i q hi I => by
         have : q = 0 := by omega
         subst this; rw [d] at hi
         have := Z (j + l' + i) (by omega)
         rw [show o + j + l' + i * 1 + 0 = o + (j + l' + i) from by omega]; exact this) (λ i a q c' u I => by
         have hi := (L0a.1 u).1; rw [d] at hi
         rw [L0j, if_pos (by omega), L0D] at u
         have X := A a (L02 u); rw [X] at I
         cases q with
         | succ q => simp at I
         | zero => simp at I; subst I; exact L _ _ u)
       rw [d] at this
       exact .im _ _ this
end
section
variable {S : Sp} {dst : Option Nat} {ty : TypeId} {K : Env -> Jac -> Prop} {E : Env} {σ : Jac}
theorem JoM {s t e d : Nat} {x : Operand} (b : ByteArray) (hx : ev E x = .v (.string b)) (hs : S.P.underlying s = some .string) (ht : S.P.underlying t = some (.slice e)) (L : S.P.underlying e = some (.int .u8)) (hb : b.size <= 4611686018427387904)
 (X : K (upd (JaU (isId (16 * (S.b + d))) E) d (.own (16 * (S.b + d)) 1 0 b.size)) (updS (Jao (isId (16 * (S.b + d))) σ) (16 * (S.b + d)) ⟨e, 1, (bI b).map Y⟩))
 (F : (Nat.blt d S.N && Nat.blt d 100000) = true := by kernel_rfl) (u : Op.low S.N (.convert s t x) = true := by kernel_rfl) : semD S (some d) (.convert s t x) ty K E σ := by
 intro aa A B C H n a w Kc Q ⟨ρ, Im, M, T⟩ D
 simp only [L00] at F
 have I : d < S.N := L0v F.1
 have J : d < 100000 := L0v F.2
 have W := Jb8 T.env (x := x) (by rw [T.size, <- H.N]; exact JbP u (by simp [Op.operands]))
 rw [hx] at W; have hy := W.v_inv
 have z := run_bytes_of_string (P := S.P) w s t e b hs ht L
 have h : b.size <= grownCap w b.size 0 e := grownCap_ge w _ 0 e
 have m : (bytesRow b (grownCap w b.size 0 e)).size = grownCap w b.size 0 e := by
  have : b.data.size = b.size := rfl
  simp only [bytesRow, Array.size_append, Array.size_map, L2q, this]; omega
 have V : (bI b).map (λ n => Value.int .u8 n) = b.data.toList.map λ c => Value.int .u8 c.toNat := by simp only [bI, L19]; rfl
 have y : (w.drew.alloc (.cells (bytesRow b (grownCap w b.size 0 e)) e ((bytesRow b (grownCap w b.size 0 e)).size, (bytesRow b (grownCap w b.size 0 e)).size + 1))).heap[w.heap.size]? = some (.cells (bytesRow b (grownCap w b.size 0 e)) e ((bytesRow b (grownCap w b.size 0 e)).size, (bytesRow b (grownCap w b.size 0 e)).size + 1)) := heap_alloc_new w.drew _
 have Z : ((⟨e, 1, (bI b).map Y⟩ : Blk).kill (isId (16 * (S.b + d)))) = ⟨e, 1, (bI b).map Y⟩ := by
  have : AV.namesL (isId (16 * (S.b + d))) ((bI b).map Y) = false := by
   generalize bI b = l
   induction l with
   | nil => rfl
   | cons x l ih => simp [AV.namesL, AV.namesB, ih]
  simp [Blk.kill, this]
 have U := T.renew H.G (id := 16 * (S.b + d)) (d := d) (by rw [<- H.N]; exact I) (k := ⟨e, 1, (bI b).map Y⟩) (g := w.heap.size) (cur := bytesRow b (grownCap w b.size 0 e)) (n := b.size) (cap := grownCap w b.size 0 e) (sz := 1)
  (w' := w.drew.alloc (.cells (bytesRow b (grownCap w b.size 0 e)) e ((bytesRow b (grownCap w b.size 0 e)).size, (bytesRow b (grownCap w b.size 0 e)).size + 1)))
  ⟨rfl, rfl, rfl, by simp, λ q R _ => Below.heap_alloc w.drew _ q R⟩ (.inr (L09 _)) (λ q _ R => Below.heap_alloc w.drew _ q R) ⟨_, y, .inr rfl⟩ (λ e L => by obtain ⟨x, _, rfl⟩ := L05.1 L; rfl)
  (by simp only [L0c, Jar, L0U]; rw [m]; exact h) (λ i e' j c f o => ?_) h (grownCap_le_maxLen w _ 0 e (by simp only [maxLen]; omega)) (by rw [m, L0U]) (by decide) L1Y (H.free J 0 (by omega))
 . rw [Z] at U
   refine JaN (λ _ e => by cases e) ?_ (D _ _ _ _ X ⟨_, _, _, U⟩)
   simp only [execOp, hy, Sem.run_bind, z, Result.andThen_ok, Sem.run_pure]
 . rw [L07] at f
   cases hn : (bI b)[i]? with
   | none => simp [hn] at f
   | some n =>
    simp [hn] at f; subst f
    cases j with
    | succ j => simp at o
    | zero =>
     simp at o; subst o
     refine ⟨.int .u8 n, ?_, rfl, .im _ _ (.v _)⟩
     have O : i < (bI b).length := (L0a.1 hn).1
     rw [Jar] at O
     have := bytesRow_at b (grownCap w b.size 0 e) i O
     simp only [L0U, L0R]; rw [this]; simp only [bI, L07, L0h] at hn; obtain ⟨c, o, rfl⟩ := hn
     have p : b.data[i]? = some c := by simpa using o
     rw [L0i O] at p
     cases p; rfl
theorem Jjz {t e : TypeId} {x : Operand} {es : List AV} {m : Nat} (F : ev E x = .sl 1 es) (D : tarr S.P t = some (m, e)) (J : m <= es.length) (z : es ≠ []) (l : ∀ a ∈ es, a.cells = [a])
 (A : K (updO E dst (.pt (.agg es) 0)) σ) (d : (dst.all (decide <| · < S.N) && Op.low S.N (.sliceToArrayPointer t x)) = true := by kernel_rfl) : semD S dst (.sliceToArrayPointer t x) ty K E σ := by
 refine Jba _ d (λ _ e => by cases e) (λ C w O s M a H L q => ?_) A
 have g := q x (by simp [Op.operands])
 rw [F] at g
 cases g with
 | im _ _ g =>
  generalize p : a.eval x = G at g
  cases g with
  | slnil => exact absurd rfl z
  | sl _ _ b o y f k u I B h =>
   refine ⟨.pointer (some ⟨b, o, none⟩), λ _ _ _ => ?_, ?_⟩
   . have : ¬ es.length < m := by omega
     simp only [execOp, p, Instr.arrayAt, Sem.run_bind, run_underlying (JdV D) w, Result.andThen_ok, this, if_false, Sem.run_pure]
   . have := IRep.pt (w := w) (Im := s) (.agg es) 0 b o (λ i => f i 0) k (λ i j => by
      have := B i 0 j (by omega)
      simpa using this) (λ i c j => h i c 0 c j (by rw [l c (L02 j)]; rfl))
     exact .im _ _ this
theorem JkS {t e : TypeId} {x p : Operand} {lo hi : Option Operand} {sz : Nat} {es : List AV} (l h : Nat) {km : IntKind} (hx : ev E x = .sl sz es) (ht : tel S.P t = some e) (hz : tsz S.P e = sz) (h0 : 0 < sz) (hm : ev E p = .v (.int km h)) (Q : hi ≠ none)
 (O : bound E hi es.length λ d => bound E lo 0 λ l' => l' = l /\ d = h /\ l <= h /\ h <= es.length) (hK : K (updO E dst (.sl sz ((es.drop l).take (h - l)))) σ)
 (u : (dst.all (decide <| · < S.N) && Op.low S.N (.slice t x lo hi (some p))) = true := by kernel_rfl) : semD S dst (.slice t x lo hi (some p)) ty K E σ := by
 refine Jba _ u (λ _ e => by cases e) (λ C w G D M a H hw i => ?_) hK
 have F := i x (by simp [Op.operands])
 have z := i p (by simp [Op.operands])
 rw [hm] at z; have U := z.v_inv
 obtain ⟨d, O, hh⟩ := Ja1 (w := w) (ρ := G) (Im := D) O λ o s => i o (by subst s; simp [Op.operands])
 obtain ⟨l', ⟨rfl, rfl, y, R⟩, hl⟩ := Ja1 (w := w) (ρ := G) (Im := D) O λ o s => i o (by subst s; simp [Op.operands])
 rw [hx] at F
 obtain ⟨I, n', j, hy, A, h1, h2, h3, _, g⟩ := JeI (P := S.P) (e := e) (lo := l') (hi := d) (r := .sl sz ((es.drop l').take (d - l'))) (x := .sl sz es) ⟨h0, hz, y, R, rfl⟩ F
 simp only [lenV, Option.some.injEq] at A; subst A
 have ab : p ∈ (Op.slice t x lo hi (some p)).operands := by simp [Op.operands]
 have B : (Instr.sliceBounds true es.length j (lo.map a.eval) (hi.map a.eval) (some (a.eval p))).run S.P w = .ok (l', d, d) w := by
  unfold Instr.sliceBounds
  have Z := λ c => Jal (P := S.P) (w := w) (k := km) (code := c) (show d <= j by omega)
  have r2 := λ k c => Jal (P := S.P) (w := w) (k := k) (code := c) (L09 d)
  have r3 := λ k c => Jal (P := S.P) (w := w) (k := k) (code := c) y
  rw [U]
  rcases hh with ⟨rfl, rfl⟩ | ⟨o, k, rfl, s⟩
  . exact absurd rfl Q
  . rcases hl with ⟨rfl, rfl⟩ | ⟨o', k', rfl, V⟩
    . simp [s, Z, r2]
    . simp [s, V, Z, r2, r3]
 have W := Jat (P := S.P) (t := e) (by omega) w
 refine ⟨.slice (if d = l' then I else I.map (·.add (l' * tsz S.P e))) (d - l') (d - l'), λ _ _ _ => ?_, ?_⟩
 . simp only [execOp, hy, L0I, Instr.sliceAt, Instr.slice, Sem.run_bind, run_underlying (JbJ ht) w, Result.andThen_ok, B, W, Sem.run_pure]
 . have hL : ((es.drop l').take (d - l')).length = d - l' := by rw [L01, L0g]; omega
   by_cases e0 : d - l' = 0
   . have : (es.drop l').take (d - l') = [] := by rw [e0]; rfl
     rw [this, e0]; exact .im _ _ (.slnil ..)
   . rw [if_neg (by omega)]
     rw [if_neg (by omega)] at g
     generalize I.map (·.add (l' * tsz S.P e)) = aa at g; generalize (es.drop l').take (d - l') = L at *; generalize d - l' = q at *; generalize j - l' = c at *; clear B
     cases g with
     | im _ _ F =>
      cases F with
      | slnil => simp at hL; omega
      | sl _ _ b o X f J Y T hc m => exact .im _ _ (.sl _ _ b o _ f J (L09 _) T hc m)
theorem Jcd {t te : TypeId} {op : BinOp} {x : Operand} {z : TypeId} (q : Bool) (g : (ev E x = .v (.pointer none) /\ q = true) \/ ((∃ id sz i j, ev E x = .ptr id sz i j) /\ q = false) \/ ((∃ e j, ev E x = .pt e j) /\ q = false)) (B : S.P.underlying t = some (.pointer te))
 (r : Bool) (m : (op = .eql /\ r = q) \/ (op = .neq /\ r = !q)) (A : K (updO E dst (.v (.bool r))) σ) (l : (dst.all (decide <| · < S.N) && Op.low S.N (.binOp op t x (.const (.pointer none)) z)) = true := by kernel_rfl) : semD S dst (.binOp op t x (.const (.pointer none)) z) ty K E σ := by
 refine Jba _ l (λ _ e => by cases e) (λ C w G D M a H F s => ⟨_, λ _ _ _ => ?_, .im _ _ (.v _)⟩) A
 have h := s x (by simp [Op.operands])
 have c : ∃ f : Option Addr, a.eval x = .pointer f /\ q = f.isNone := by
  rcases g with ⟨g, rfl⟩ | ⟨⟨id, sz, i, j, g⟩, rfl⟩ | ⟨⟨e, j, g⟩, rfl⟩
  . rw [g] at h; exact ⟨none, h.v_inv, rfl⟩
  . rw [g] at h; obtain ⟨b, p, _⟩ := h.ptr_inv; exact ⟨_, p, rfl⟩
  . rw [g] at h; obtain ⟨b, o, p, _⟩ := h.pt_inv; exact ⟨_, p, rfl⟩
 obtain ⟨f, c, rfl⟩ := c
 have u : ∀ d, (Op.equalIn (d + 1) t (.pointer f) (.pointer none)).run S.P w = .ok f.isNone w := λ d => by cases f <;> simp [Op.equalIn, run_underlying B]
 have y : ∀ w, (eqGuard op t x (.const (.pointer none)) (.pointer f) (.pointer none)).run S.P w = .ok () w := λ w => by unfold eqGuard; cases op <;> rfl
 have k : a.eval (.const (.pointer none)) = .pointer none := rfl
 rcases m with ⟨rfl, rfl⟩ | ⟨rfl, rfl⟩
 . simp only [execOp, c, k, Sem.run_bind, y, Result.andThen_ok, binOp, Op.equal, Op.maxDepth, u 9999, Sem.run_pure]
 . simp only [execOp, c, k, Sem.run_bind, y, Result.andThen_ok, binOp, Op.equal, Op.maxDepth, u 9999, Sem.run_pure]
theorem Jd8 {t te : TypeId} {op : BinOp} {x y : Operand} {z : TypeId} {id sz i j : Nat} {q : TypeInfo} (D : ev E x = .ptr id sz i j) (F : ev E y = .ptr id sz i j) (u : S.P.underlying t = some (.pointer te)) (hi : S.P.info? te = some q)
 (r : Bool) (o : (op = .eql /\ r = true) \/ (op = .neq /\ r = false)) (A : K (updO E dst (.v (.bool r))) σ) (l : (dst.all (decide <| · < S.N) && Op.low S.N (.binOp op t x y z)) = true := by kernel_rfl) : semD S dst (.binOp op t x y z) ty K E σ := by
 refine Jba _ l (λ _ e => by cases e) (λ C w T I M a H Q m => ⟨_, λ _ _ _ => ?_, .im _ _ (.v _)⟩) A
 have d := m x (by simp [Op.operands])
 have f := m y (by simp [Op.operands])
 rw [D] at d; rw [F] at f
 have B : ∃ b, a.eval x = .pointer (some ⟨b, i * sz + j, none⟩) /\ a.eval y = .pointer (some ⟨b, i * sz + j, none⟩) := by
  generalize a.eval x = J at d; generalize a.eval y = L at f
  cases d with
  | im _ _ h => cases h
  | ptr _ _ _ _ b p R =>
   cases f with
   | im _ _ h => cases h
   | ptr _ _ _ _ O c G => rw [p] at c; cases c; exact ⟨b, rfl, rfl⟩
 obtain ⟨b, g, k⟩ := B
 have s : ∀ w v, (eqGuard op t x y (.pointer v) (.pointer v)).run S.P w = .ok () w := λ w v => by unfold eqGuard; cases op <;> rfl
 rcases o with ⟨rfl, rfl⟩ | ⟨rfl, rfl⟩
 . simp only [execOp, g, k, Sem.run_bind, s, Result.andThen_ok, run_eql_ptr_same w _ u hi, Sem.run_pure]
 . simp only [execOp, g, k, Sem.run_bind, s, Result.andThen_ok, Lib.run_neq_ptr_same w _ u hi, Sem.run_pure]
theorem Joy {P : Program} {b : TypeId -> Bool} {d : Nat} {e : TypeId} {c g f n : Nat} (l : c <= g) (h : rowAt P b d e c f n = true) : rowAt P b d e g f n = true := by
 cases d with
 | zero => simp [rowAt] at h
 | succ d =>
  simp only [rowAt] at h ⊢
  by_cases h0 : P.cellsOf e = 0
  . simp [h0] at h
  . simp only [h0, if_false, L0O, L00, decide_eq_true_eq] at h ⊢
    rcases h with ⟨⟨i, j⟩, k⟩ | ⟨i, j⟩
    . exact .inl ⟨⟨i, by omega⟩, k⟩
    . exact .inr ⟨by omega, j⟩
theorem Jhi {P : Program} : ∀ {d : Nat} {e : TypeId} {c f b : Nat} {u : TypeId} {n : Nat}, c <= f -> liesAt P d e c b u n = true -> liesAt P d e f b u n = true
 | 0, _, _, _, _, _, _, _, h => by simp [liesAt] at h
 | d + 1, e, c, f, b, u, n, g, h => by
  simp only [liesAt, L0O] at h ⊢
  rcases h with h | h
  . exact .inl (Joy g h)
  . refine .inr ?_
    split at h
    . rename_i m j i; exact Jhi g h
    . cases h
theorem Jdv {t te u : TypeId} {x : Operand} {id sz j : Nat} {k : Blk} {f : TypeInfo} (G : ev E x = .ptr id sz 0 j) (z : σ id = some k) (l : k.sz = sz) (Q : sz ≠ 0) (R : j < k.es.length * sz) (B : S.P.underlying t = some (.pointer te)) (D : S.P.underlying u = some .unsafePointer)
 (hi : S.P.info? te = some f) (I : f.size ≠ 0) (s : K (updO E dst (.ptr id sz 0 j)) σ) (c : (dst.all (decide <| · < S.N) && Op.low S.N (.convert t u x)) = true := by kernel_rfl) : semD S dst (.convert t u x) ty K E σ := by
 refine Jba _ c (λ _ e => by cases e) (λ C w T J M a H F q => ?_) s
 have m := q x (by simp [Op.operands])
 rw [G] at m; generalize i : a.eval x = L at m
 cases m with
 | im _ _ h => cases h
 | ptr _ _ _ _ b d p =>
  obtain ⟨g, ⟨O, y, _⟩, _, A, _⟩ := F.inv.blk id k b z d (by omega)
  refine ⟨_, λ _ _ _ => ?_, .ptr id sz 0 j b d p⟩
  have o : w.shape? b = some (k.e, g.size) := by simp [World.shape?, y]
  have := Lib.run_to_unsafe (P := S.P) w ⟨b, 0 * sz + j, none⟩ B D hi I o (by rw [l] at A; simp; omega)
  simp only [execOp, i, Sem.run_bind, this, Result.andThen_ok, Sem.run_pure]
theorem Jdm {t te u : TypeId} {x : Operand} {id sz j : Nat} {k : Blk} {q : TypeInfo} (J : ev E x = .ptr id sz 0 j) (A : σ id = some k) (B : k.sz = sz) (R : sz ≠ 0) (l : k.es ≠ []) (F : S.P.underlying t = some .unsafePointer) (G : S.P.underlying u = some (.pointer te))
 (hi : S.P.info? te = some q) (T : S.P.cellsOf k.e ≠ 0 /\ S.P.cellsOf k.e <= sz) (D : liesAt S.P S.P.depth k.e 1 j te 1 = true) (y : K (updO E dst (.ptr id sz 0 j)) σ) (d : (dst.all (decide <| · < S.N) && Op.low S.N (.convert t u x)) = true := by kernel_rfl) : semD S dst (.convert t u x) ty K E σ := by
 refine Jba _ d (λ _ e => by cases e) (λ C w V L M a H I s => ?_) y
 have m := s x (by simp [Op.operands])
 rw [J] at m; generalize i : a.eval x = O at m
 cases m with
 | im _ _ h => cases h
 | ptr _ _ _ _ b g p =>
  obtain ⟨c, ⟨Q, z, _⟩, _, U, _⟩ := I.inv.blk id k b A g (by omega)
  refine ⟨_, λ _ _ _ => ?_, .ptr id sz 0 j b g p⟩
  have o : w.shape? b = some (k.e, c.size) := by simp [World.shape?, z]
  have f : 1 <= c.size / S.P.cellsOf k.e := by
   rw [Nat.le_div_iff_mul_le (by omega), Nat.one_mul]
   have : 1 <= k.es.length := L1h.2 l
   have := L0y k.sz this
   omega
  have := Lib.run_from_unsafe (P := S.P) w (a := ⟨b, 0 * sz + j, none⟩) F G hi o (by simp only [Nat.zero_mul, L0p]; exact Jhi f D)
  simp only [execOp, i, Sem.run_bind, this, Result.andThen_ok, Sem.run_pure]
end
section
variable {S : Sp} {dst : Option Nat} {ty : TypeId} {K : Env -> Jac -> Prop} {E : Env} {σ : Jac}
theorem Jdl {g : FuncId} {fn : Func} {x : Operand} {ats : Array TypeId} (v : AV) (hx : ev E x = v) (hfn : S.P.funcs[g]? = some fn) (hname : (fn.name == "runtime.NumGoroutine") = false) (hb : fn.body.isNone = true) (hn : Extern.findNext fn = none) (he : Extern.find fn = some Extern.AbiNoEscape.same)
 (hK : K (updO E dst v) σ) (hfit : (dst.all (decide <| · < S.N) && Op.low S.N (.call { callee := .value (.func g), args := #[x], argTypes := ats })) = true := by kernel_rfl) :
 semD S dst (.call { callee := .value (.func g), args := #[x], argTypes := ats }) ty K E σ := by
 refine Jba _ hfit (fun _ e => by cases e) (fun C w ρ Im M a H hw rep => ⟨a.eval x, fun _ _ _ => ?_, ?_⟩) hK
 . have : a.eval (.func g) = .func (.func g) #[] #[] := rfl
   simp [execOp, resolve, this, Deferred.ofValue, invoke, run_callFunc_extern hfn hname hb hn he, Lib.run_noEscape]
 . have := rep x (by simp [Op.operands, Call.operands])
   rw [hx] at this; exact this
theorem JcQ {tp ti e d : Nat} {x y : Operand} {id : Nat} (s : ByteArray) (hx : ev E x = .ptr id 1 0 0) (hy : ev E y = .v (.int .i64 s.size)) (hs : σ id = some ⟨e, 1, (bI s).map Y⟩) (h0 : s.size ≠ 0) (htp : S.P.underlying tp = some (.pointer e)) (hce : S.P.cellsOf e = 1) (hpin : S.pin id = false)
 (h63 : s.size <= 9223372036854775807)
 (hK : K (upd (JaU (isId id) E) d (.v (.string s))) (updS (Jao (isId id) σ) id ⟨e, 1, []⟩)) (hd : Nat.blt d S.N = true := by kernel_rfl)
 (hlow : Op.low S.N (.call { callee := .builtin .unsafeString, args := #[x, y], argTypes := #[tp, ti] }) = true := by kernel_rfl) :
 semD S (some d) (.call { callee := .builtin .unsafeString, args := #[x, y], argTypes := #[tp, ti] }) ty K E σ := by
 intro pos after guard C H n a w Kc Q ⟨ρ, Im, M, h⟩ hKc
 have hd1 : d < S.N := L0v hd
 have rep : ∀ u ∈ (Op.call { callee := .builtin .unsafeString, args := #[x, y], argTypes := #[tp, ti] }).operands, Rep w ρ Im (ev E u) (a.eval u) := λ u hu => Jb8 h.env (by rw [h.size, <- H.N]; exact JbP hlow hu)
 have hrx := rep x (by simp [Op.operands, Call.operands])
 have hry := rep y (by simp [Op.operands, Call.operands])
 rw [hx] at hrx; rw [hy] at hry
 have hyv := hry.v_inv; generalize hax : a.eval x = ax at hrx
 cases hrx with
 | im _ _ h => cases h
 | ptr _ _ _ _ g hρ hz =>
  obtain ⟨cur, hb, hl, hsz, hc⟩ := h.inv.blk id _ g hs hρ L1Y
  have hpc : C.pin id = none := by
   cases hp : C.pin id with
   | none => rfl
   | some b => rw [H.pin id b hp] at hpin; cases hpin
  simp only [L0c, Jar, L0U] at hsz
  have hcells : ∀ j x, s.data.toList[j]? = some x -> w.cell? ((⟨g, 0, none⟩ : Addr).add j) = some (.int .u8 x.toNat) := λ j x hj => by
   obtain ⟨v, hv, _, hr⟩ := hc j (Y x.toNat) 0 (Y x.toNat) (by simp [bI, hj]) rfl
   have := hr.v_inv
   subst this
   rw [Jbd, Jbs hb]; simpa using hv
  obtain ⟨fr, hb0, _⟩ := hb
  have hlen : s.data.toList.length = s.size := by rw [L0z]; rfl
  have hrun := Lib.run_unsafeString_row (P := S.P) w tp ti ty e htp hce g cur.size (by simp [World.shape?, hb0]) s.data.toList (by intro e; rw [e] at hlen; simp at hlen; exact h0 hlen.symm) (by rw [hlen]; exact hsz) (by rw [hlen]; exact h63) hcells
  rw [hlen] at hrun
  have hstr : (⟨s.data.toList.toArray⟩ : ByteArray) = s := by simp
  rw [hstr] at hrun
  have hoth : ∀ k, k ≠ g -> (w.freeze ⟨g, 0, none⟩ s.size).heap[k]? = w.heap[k]? := λ k hk => by
   unfold World.freeze
   split
   . rfl
   . simp only [L1C]; rw [if_neg (λ e => hk e.symm)]
  have hsame : (w.freeze ⟨g, 0, none⟩ s.size).heap.size = w.heap.size := by unfold World.freeze; split <;> simp
  have hos : (w.freeze ⟨g, 0, none⟩ s.size).os = w.os /\ (w.freeze ⟨g, 0, none⟩ s.size).tape = w.tape /\ (w.freeze ⟨g, 0, none⟩ s.size).output = w.output := by unfold World.freeze; split <;> exact ⟨rfl, rfl, rfl⟩
  have h1 := h.kill H.G (isId id) (Jjf hpc)
  have hng : ∀ k, ((∃ i, killR (isId id) ρ i = some k) \/ Im k \/ M.m k \/ C.book a k) -> k ≠ g := λ k hk e => by
   subst e
   rcases hk with ⟨i, hi⟩ | hk | hk | hk
   . obtain ⟨hp, hi⟩ := Jae hi
     have := h.inv.inj i id k hi hρ
     subst this; simp [isId] at hp
   . exact h.inv.apart id k hρ hk
   . exact (h.ms k hk).2.1 id hρ
   . exact (h.bk k hk).1 id hρ
  have h2 := (h1.core.carry H.G (w' := w.freeze ⟨g, 0, none⟩ s.size) (λ k hk => hoth k (hng k hk)) (by rw [hsame]; exact L09 _) hos.1 hos.2.1 hos.2.2).wit
   (h.ext.trans (Y := λ k => k = g) ⟨hos.1, hos.2.1, hos.2.2, by rw [hsame]; exact L09 _, λ k _ hk => hoth k hk⟩ λ k hk => by
    subst hk
    rcases h.rng id _ hρ with h' | h'
    . exact .inl h'.1
    . exact .inr h')
  have h3 := h2.newNil H.G (d := id) hpc (JbZ (by simp [isId]) E σ) e 1 (dst := some d) (v := .v (.string s)) (y := .string s) (λ d' e => by cases e; rw [<- H.N]; exact hd1) (.im _ _ (.v _))
  refine JaN (λ _ e => by cases e) ?_ (hKc _ _ _ _ hK ⟨_, _, _, h3⟩)
  simp [execOp, resolve, invoke, builtin, hax, hyv, hrun]
theorem Wit.nilOwn {S : Sp} {C : Fx} (H : Holds S C) {E : Env} {σ : Jac} {a : Act} {w : World} {ρ : Nat -> Option Nat} {Im : Nat -> Prop} {M : Str} (hw : Wit C E σ a w ρ Im M) (id id' i j e sz : Nat) {k : Blk} {el : AV} (hk : σ id = some k) (hid : id' ≠ id) (he : k.es[i]? = some el) (hc : el.cells[j]? = some (.v (.slice none 0 0))) (hkz : k.sz ≠ 0) (hnk : AV.namesL (isId id') k.es = false) (hpin : S.pin id' = false) :
 Wit C (JaU (isId id') E) (updS (updS (Jao (isId id') σ) id' ⟨e, sz, []⟩) id ⟨k.e, k.sz, k.es.set i (setC el j (.own id' sz 0 0))⟩) a w (updR (killR (isId id') ρ) id' none) Im M := by
 have hpc : C.pin id' = none := by
  cases hp : C.pin id' with
  | none => rfl
  | some b => rw [H.pin id' b hp] at hpin; cases hpin
 have h1 := hw.kill H.G (isId id') (Jjf hpc)
 have h2 := h1.newNil H.G (d := id') hpc (JbZ (by simp [isId]) E σ) e sz (dst := none) (v := .any) (y := undef) (λ d' e => by cases e) (.im _ _ (.any _))
 have hkk : k.kill (isId id') = k := by simp [Blk.kill, hnk]
 have hk3 : (updS (Jao (isId id') σ) id' ⟨e, sz, []⟩) id = some k := by
  rw [JaI _ _ _ _ (Ne.symm hid)]; simp only [Jao]
  rw [if_neg (by simp [isId]; exact λ e => hid e.symm), hk]; simp [hkk]
 have hown : ∀ v : World, Rep v (updR (killR (isId id') ρ) id' none) Im (.own id' sz 0 0) (.slice none 0 0) := λ v => .ownNil _ _ (by simp)
 have h2' : Wit C (JaU (isId id') E) (updS (Jao (isId id') σ) id' ⟨e, sz, []⟩) a w (updR (killR (isId id') ρ) id' none) Im M := h2
 have hels : ∀ v ∈ (k.es.set i (setC el j (.own id' sz 0 0))), ∃ v0 ∈ k.es, v.cells.length = v0.cells.length := λ v hv => by
  rcases L2p hv with hv | rfl
  . exact ⟨v, hv, rfl⟩
  . refine ⟨el, L02 he, ?_⟩
    have hj := (L0a.1 hc).1
    rw [Jf2 (by simp; omega)]; simp; omega
 have hcell : ∀ (i' : Nat) (e' : AV) (j' : Nat) (c : AV), (k.es.set i (setC el j (.own id' sz 0 0)))[i']? = some e' -> e'.cells[j']? = some c -> (∃ e0, k.es[i']? = some e0 /\ e0.cells[j']? = some c) \/ (c = .own id' sz 0 0 /\ i' = i /\ j' = j) := λ i' e' j' c he' hc' => by
  rw [List.getElem?_set] at he'
  split at he'
  . rename_i hii; subst hii
    split at he'
    . cases he'
      have hj := (L0a.1 hc).1
      rw [Jf2 (by simp; omega)] at hc'
      simp only [AV.cells_own, L18] at hc'
      rcases Nat.lt_trichotomy j' j with hlt | rfl | hgt
      . rw [L0E, L0k (by simp; omega), L0j, if_pos hlt] at hc'
        exact .inl ⟨el, he, hc'⟩
      . rw [L0E, L0o (by simp; omega)] at hc'
        have : j' - (el.cells.take j').length = 0 := by simp; omega
        rw [this] at hc'; simp at hc'; exact .inr ⟨hc'.symm, rfl, rfl⟩
      . rw [L0o (by simp; omega), L0D] at hc'
        have : j + 1 + (j' - (el.cells.take j ++ [AV.own id' sz 0 0]).length) = j' := by simp; omega
        rw [this] at hc'
        exact .inl ⟨el, he, hc'⟩
    . cases he'
  . exact .inl ⟨e', he', hc'⟩
 refine h2'.step H.G (Ext.refl _ _) ?_ h2'.env rfl rfl rfl (λ _ _ hb => .inl hb) (λ _ hb => .inl hb) h2'.pin (λ _ h => h)
 have hi := h2'.inv
 refine ⟨λ q k2 hk2 hr => ?_, λ q k2 b hk2 hr hz => ?_, λ q k2 b hk2 hr hz => ?_, hi.inj, λ q b hr hs' => ?_, hi.apart, hi.low⟩
 . by_cases e : q = id
   . subst e; have h0 := hi.nil q k hk3 hr
     rw [h0] at he; simp at he
   . rw [JaI _ _ _ _ e] at hk2; exact hi.nil q k2 hk2 hr
 . by_cases e : q = id
   . subst e; simp at hk2; subst hk2; exact absurd hz hkz
   . rw [JaI _ _ _ _ e] at hk2; exact hi.map q k2 b hk2 hr hz
 . by_cases e : q = id
   . subst e; simp at hk2; subst hk2
     obtain ⟨cur, hb, hl, hs, hcc⟩ := hi.blk q k b hk3 hr hkz
     refine ⟨cur, hb, λ v hv => ?_, by simpa using hs, λ i' e' j' c he' hc' => ?_⟩
     . obtain ⟨v0, h0, h1⟩ := hels v hv
       rw [h1]; exact hl v0 h0
     . rcases hcell i' e' j' c he' hc' with ⟨e0, h0, h1⟩ | ⟨rfl, rfl, rfl⟩
       . exact hcc i' e0 j' c h0 h1
       . obtain ⟨x, hx, h1, hr'⟩ := hcc i' el j' _ he hc
         have := hr'.v_inv
         subst this
         exact ⟨_, hx, h1, hown w⟩
   . rw [JaI _ _ _ _ e] at hk2; exact hi.blk q k2 b hk2 hr hz
 . by_cases e : q = id
   . subst e; simp at hs'
   . rw [JaI _ _ _ _ e] at hs'; exact hi.live q b hr hs'
theorem Jd6 {op : Op} (id id' i j e sz : Nat) {k : Blk} {el : AV} (hk : σ id = some k) (hid : id' ≠ id) (he : k.es[i]? = some el) (hc : el.cells[j]? = some (.v (.slice none 0 0))) (hkz : k.sz ≠ 0) (hnk : AV.namesL (isId id') k.es = false) (hpin : S.pin id' = false)
 (h : semD S dst op ty K (JaU (isId id') E) (updS (updS (Jao (isId id') σ) id' ⟨e, sz, []⟩) id ⟨k.e, k.sz, k.es.set i (setC el j (.own id' sz 0 0))⟩)) : semD S dst op ty K E σ :=
 λ pos after guard C H n a w Kc Q ⟨_, Im, M, hw⟩ hKc => h pos after guard C H n a w Kc Q ⟨_, Im, M, hw.nilOwn H id id' i j e sz hk hid he hc hkz hnk hpin⟩ hKc
end
def spM (P : Program) (f : FuncId) (N : Nat) (d c : List Nat) : Sp := { P, N, b := 131072 * (f + 1), pin := inI d, yl := 0, Y := λ _ _ _ => False, bad := inI c, old := λ i => Nat.blt (i / 16) (131072 * (f + 1)) || Nat.ble (131072 * (f + 1) + 100000) (i / 16) }
instance (P : Program) (f N : Nat) (pins bad : List Nat) : Plain (spM P f N pins bad) := ⟨λ _ _ _ _ _ hk => (show False from hk).elim⟩
section
variable (P : Program) (f N : Nat) (pins bad : List Nat)
@[go_sem] theorem JCM : (spM P f N pins bad).P = P := rfl
@[go_sem] theorem spM_b : (spM P f N pins bad).b = 131072 * (f + 1) := rfl
@[go_sem] theorem JCN (id : Nat) : (spM P f N pins bad).bad id = bad.contains id := rfl
@[go_sem] theorem spM_N : (spM P f N pins bad).N = N := rfl
@[go_sem] theorem JCO (id : Nat) : (spM P f N pins bad).pin id = inI pins id := rfl
end
theorem Jbp (t : List Nat) {P : Program} {f : FuncId} {q : Func} {c : Code} {args : List AV} {l l' : List (Nat × Blk)} {r : AV} (g : List Nat) (hf : P.funcs[f]? = some q) (m : q.body = some c) (O : fnB P q t c = true) (Z : P.follows .mixedOrders = true)
 (L : args.length <= q.ntmps) (A : l.map (·.1) = l'.map (·.1)) (s : (g.all λ i => (l.map (·.1)).contains i && (Nat.blt (i / 16) (131072 * (f + 1)) || Nat.ble (131072 * (f + 1) + 100000) (i / 16))) = true)
 (Q : (l.all λ p => Nat.blt (p.1 / 16) (131072 * (f + 1)) || Nat.ble (131072 * (f + 1) + 100000) (p.1 / 16)) = true)
 (h : awpC (spM P f q.ntmps g t) c (retL (spM P f q.ntmps g t) q l' r) (Jct args) (stO l)) : LOK P f (inI g) args (stO l) r (stO l') := by
 simp only [fnB, L00, L0W] at O
 obtain ⟨⟨⟨W, h2⟩, h3⟩, X⟩ := O
 have X := L0v X; have W := JaS c W
 refine ⟨enters hf m h3, λ w T F vs j B y => ?_⟩
 let C : Fx := { w0 := w, X0 := λ b => ∃ id, F id = some b, Im0 := T, G := λ _ _ _ => True, N := q.ntmps, rd := none, pin := λ id => if inI g id then some (F id) else none, J0 := T, R0 := λ id b => F id = some b }
 simp only [L0f, L00, L0O] at s
 have K : ∀ id, inI g id = true -> id ∈ g := λ id u => L0A.1 u
 have H : Holds (spM P f q.ntmps g t) C := by
  refine ⟨rfl, Jgc, λ _ _ _ hY => hY.elim, Z, λ id b z => ?_, λ id z => ?_, X, λ _ => rfl, λ id b _ m => ?_, B, λ b m => ⟨λ ⟨id, u⟩ => j.apart id b u (B.im m), j.low b (B.im m)⟩, (λ h => by cases h)⟩
  . simp only [C] at z
    cases hn : inI g id with
    | true => exact hn
    | false => simp [hn] at z
  . rcases (s id (K id z)).2 with V | V
    . exact .inl (L0v V)
    . exact .inr (L0v V)
  . cases hs : stO l id with
    | none => exact absurd hs (j.live id b m)
    | some k => exact L0f.1 Q _ (Jb1 hs)
 have J := JbM (S := spM P f q.ntmps g t) (λ _ _ _ _ _ D => (show False from D).elim) c (Q' := retG P q λ vs _ σ => JlM (inI (l'.map (·.1))) l' r σ vs) (λ e E σ D => by
  cases e <;> first | exact D.elim | exact Jne _ _ D) h
 refine Jft (E0 := Jct args) (S := spM P f q.ntmps g t) (C := C) (ρ0 := F) (Im0 := T) (M0 := ⟨λ _ => False, λ _ => False⟩) H rfl hf m rfl W h2 ?_ J λ E σ tm w' ab I M us ys D o R => ?_
 . refine ⟨j, JiP y, ?_, Ext.refl _ _, λ i b hi => .inl ⟨⟨i, hi⟩, hi⟩, λ b m => .inl m, λ p => ?_, trivial, λ b m => m.elim, λ b m => m.elim, λ l r R => (by cases R), .nil, λ d Y => (by cases Y), λ b m => ?_, λ id ob z => ?_, λ b m => m⟩
   . simp only [Array.size_append, L0V, L2q]
     have := y.1
     show vs.length + (q.ntmps - vs.length) = q.ntmps
     omega
   . show AV.namesB p (Jct args q.ntmps) = false
     rw [Jkl args _ L]; rfl
   . rcases m with ⟨r, R⟩ | Y
     . cases R
     . cases Y
   . simp only [C] at z
     split at z
     . cases z; rfl
     . cases z
 . obtain ⟨aa, U, i2, a1, a2, a3, a4, a5⟩ := Jof (ρ0 := F) o j.low (λ id b h => h) (λ id b m => ⟨by
    rw [<- A]
    have := j.live id b m
    cases hs : stO l id with
    | none => exact absurd hs this
    | some k => exact L05.2 ⟨_, Jb1 hs, rfl⟩, j.lt m, j.apart id b m⟩) R D
   refine ⟨_, aa, U, rfl, o.ext, i2, λ b m => ?_, a2, a3, λ id u => ?_, a5⟩
   . exact a1 b (o.j0 b m)
   . rw [a4 id (by
      have := (s id (K id u)).1
      rw [A] at this; exact this)]
     exact o.pin id (F id) (by simp [C, u])
theorem Jtd {S : Sp} {id : Nat} {ops : Array Oper} {Q : Exit -> Env -> Jac -> Prop} {E : Env} {σ : Jac}
 (h : ∀ (C : Fx) (H : Holds S C) (n : Nat) (R : Exit -> Act -> World -> Prop), (∀ e E σ a w, Q e E σ -> St C E σ a w -> R e a w) -> ∀ a w, St C E σ a w ->
  ∃ V : (Nat -> Bool) -> Act -> World -> Prop, V (λ _ => false) a w /\ (∀ D a w, (∀ i, i < ops.size -> D i = true) -> V D a w -> R .normal a w) /\
   ∀ i o, ops[i]? = some o -> ∀ D, D i = false -> (∀ e ∈ o.after.toList, Region.binds .any e = true -> D e.on = true) -> ∀ a w, V D a w -> ∀ Kc : Act -> World -> Prop, (∀ a' w', V (insJ D i) a' w' -> Kc a' w') -> Jgp n S.P C.rdl ops o Kc R a w)
 (hedge : JeW 0 ops.toList = true := by kernel_rfl) : semC S (.region id ops true) Q E σ := by
 intro C H n R hR a w hs
 have hlist : ∀ (i : Nat) (o : Oper), ops[i]? = some o -> ops.toList[i]? = some o := λ i o ho => by rw [L0P]; exact ho
 obtain ⟨V, h0, hend, hsteps⟩ := h C H n R hR a _ (hs.drew H.G (w.drawn + 1))
 refine wpIn_region_any H.mo ?_
 have key : ∀ (fuel : Nat) (listed : Array Bool) (a : Act) (w : World), listed.size = ops.size -> (rem ops listed).length <= fuel ->
  V (λ i => listed.getD i false) a w -> wpAnyIn (FW C.rdl) n S.P .any ops R fuel listed a w := by
  intro fuel
  have full : ∀ (listed : Array Bool), listed.size = ops.size -> rem ops listed = [] -> ∀ i, i < ops.size -> listed.getD i false = true := λ listed hsz hr i hi => by
   cases hl : listed.getD i false with
   | true => rfl
   | false =>
    have : i ∈ rem ops listed := Ja5.2 ⟨hi, by
     simp only [L0M] at hl ⊢
     rw [L0i (by omega)] at hl ⊢; exact hl⟩
    rw [hr] at this; simp at this
  induction fuel with
  | zero =>
   intro listed a w hsz hle hv
   have h0 : rem ops listed = [] := L0T (by omega)
   refine ⟨?_, hend _ _ _ (full listed hsz h0) hv⟩
   cases hr : Region.ready .any ops listed with
   | nil => rfl
   | cons i l =>
    have hi : i ∈ Region.ready .any ops listed := by rw [hr]; simp
    obtain ⟨h1, o, ho, _⟩ := mem_ready.1 hi
    have : i ∈ rem ops listed := Ja5.2 ⟨(L0m.1 ho).1, h1⟩
    rw [h0] at this; simp at this
  | succ fuel ih =>
   intro listed a w hsz hle hv
   have getD_same : ∀ i, i < ops.size -> listed.getD i true = listed.getD i false := λ i hi => by
    simp only [L0M]; rw [L0i (by omega)]; rfl
   refine ⟨λ hr0 => ?_, λ i hi => ?_⟩
   . have hr : rem ops listed = [] := by
      cases hr : rem ops listed with
      | nil => rfl
      | cons i l =>
       exfalso
       have hm : i ∈ rem ops listed := by rw [hr]; simp
       obtain ⟨hlt, hun⟩ := Ja5.1 hm
       have : i ∈ Region.ready .any ops listed := mem_ready.2 ⟨hun, _, L0i hlt, λ e he hb => by
        have hei := JeX hedge (hlist i _ (L0i hlt)) e he hb
        cases hl : listed.getD e.on false with
        | true => rfl
        | false =>
         have hme : e.on ∈ rem ops listed := Ja5.2 ⟨by omega, by rw [getD_same _ (by omega)]; exact hl⟩
         have hsort := Jc3 (ops := ops) listed
         rw [hr] at hme hsort
         rcases L0q.1 hme with h | h
         . omega
         . have := (L1x.1 hsort).1 _ h; omega⟩
       rw [hr0] at this; simp at this
     exact hend _ _ _ (full listed hsz hr) hv
   . obtain ⟨hun, o, ho, hedges⟩ := mem_ready.1 hi
     have hlt : i < ops.size := (L0m.1 ho).1
     have hm : i ∈ rem ops listed := Ja5.2 ⟨hlt, hun⟩
     obtain ⟨pre, post, hsplit⟩ := L28 hm
     have hset := Jjm hsz hsplit
     have hD : (λ k => (listed.setIfInBounds i true).getD k false) = insJ (λ k => listed.getD k false) i := by
      funext k
      simp only [insJ, L0M]
      by_cases hk : k = i
      . subst hk; simp [hsz, hlt]
      . rw [L1n (Ne.symm hk)]; simp [hk]
     have hstep := hsteps i o ho (λ k => listed.getD k false) (by rw [<- getD_same i hlt]; exact hun) (λ e he hb => hedges e (L0x.1 he) hb) a w hv
     have next : ∀ a' w', V (insJ (λ k => listed.getD k false) i) a' w' -> wpAnyIn (FW C.rdl) n S.P .any ops R fuel (listed.setIfInBounds i true) a' w' := λ a' w' h1 => by
      refine ih (listed.setIfInBounds i true) a' w' (by simpa using hsz) ?_ (by rw [hD]; exact h1)
      rw [hset]; rw [hsplit] at hle; simp at hle ⊢; omega
     exact Jde ho (hstep _ next)
 exact key ops.size _ a _ (by simp) (by unfold rem; exact L0n (L1u _ _) (by simp)) (by
  have : (λ i => (Array.replicate ops.size false).getD i false) = λ _ => false := by
   funext i; simp only [L0M, L1V]; split <;> rfl
  rw [this]; exact h0)
theorem Jf4 {S : Sp} {C : Fx} {n : Nat} {ops : Array Oper} {o : Oper} {y : Value} {a : Act} {w w' : World} {Kc : Act -> World -> Prop} {R : Exit -> Act -> World -> Prop} (g : o.guard = none) (d : ∀ c, o.op ≠ .defer c)
 (b : (execOp a.eval o).run S.P w = .ok (.value y) w') (f : Kc (a.put o.dst y) w') : Jgp n S.P C.rdl ops o Kc R a w := by
 unfold Jgp
 rw [if_pos (by simp [Region.wanted, g])]
 exact JaN d b f
theorem Wit.forgetE {C : Fx} {E : Env} {σ : Jac} {a : Act} {w : World} {ρ : Nat -> Option Nat} {Im : Nat -> Prop} {M : Str} (h : Wit C E σ a w ρ Im M) {d : Nat} (c : d < C.N) : Wit C (upd E d .any) σ a w ρ Im M :=
 { h with
  env := λ t y b => by
   simp only [upd]; split
   . exact .im _ _ (.any _)
   . exact h.env t y b
  gh := λ p => by simp only [upd]; rw [if_neg (by omega)]; exact h.gh p
  g := by simp only [upd]; rw [if_neg (by omega)]; exact h.g }
theorem Jsm {S : Sp} {id t e t' ty1 ty2 ty3 : Nat} {p1 p2 p3 : String} {x d1 d2 d3 bid : Nat} {a1 a2 a3 : Array Edge} {Q : Exit -> Env -> Jac -> Prop} {E : Env} {σ : Jac} {te : TypeId} {cs : List AV} (ht : tarr S.P t = some (8, e)) (hs1 : tsz S.P e = 1) (htl : tel S.P t' = some e)
 (hx : E x = .ptr bid 8 0 0) (hk : σ bid = some ⟨te, 8, [.agg cs]⟩) (hcl : cs.length = 8) (hat : ∀ c ∈ cs, c.cells = [c]) (hne : d1 ≠ x /\ d2 ≠ x /\ d1 ≠ d2 /\ d3 ≠ x /\ d3 ≠ d1 /\ d3 ≠ d2) (hlt : x < S.N /\ d1 < S.N /\ d2 < S.N /\ d3 < S.N)
 (hdep : ((a3.toList.any λ e => Region.binds .any e && e.on == 0) && (a3.toList.any λ e => Region.binds .any e && e.on == 1)) = true)
 (cs' : List AV) (hcs : cs.take 1 ++ cs.take 7 = cs') (hQ : Q .normal (upd (upd (upd E d1 .any) d2 .any) d3 .any) (updS σ bid ⟨te, 8, [.agg cs']⟩))
 (hedge : JeW 0 [⟨some d1, .slice t (.tmp x) (some (.const (.int .i64 1))) none none, ty1, p1, a1, none⟩, ⟨some d2, .slice t (.tmp x) none (some (.const (.int .i64 7))) none, ty2, p2, a2, none⟩, ⟨some d3, .call { callee := .builtin .copy, args := #[.tmp d1, .tmp d2], argTypes := #[t', t'] }, ty3, p3, a3, none⟩] = true := by kernel_rfl) :
 semC S (.region id #[⟨some d1, .slice t (.tmp x) (some (.const (.int .i64 1))) none none, ty1, p1, a1, none⟩, ⟨some d2, .slice t (.tmp x) none (some (.const (.int .i64 7))) none, ty2, p2, a2, none⟩, ⟨some d3, .call { callee := .builtin .copy, args := #[.tmp d1, .tmp d2], argTypes := #[t', t'] }, ty3, p3, a3, none⟩] true) Q E σ := by
 subst hcs
 refine Jtd (λ C H n R hR a0 w0 hs => ?_) hedge
 obtain ⟨ρ, Im, M, hw⟩ := hs
 have hsz : a0.tmps.size = C.N := hw.size
 have hN := H.N
 have hb : ∃ b, a0.eval (.tmp x) = .pointer (some ⟨b, 0, none⟩) /\ ρ bid = some b := by
  have hlx : x < a0.tmps.size := by omega
  have hr := hw.env x a0.tmps[x] (L0i hlx); rw [hx] at hr
  have he : a0.eval (.tmp x) = a0.tmps[x] := by simp [Act.eval, hlx]
  rw [he]; generalize a0.tmps[x] = y at hr
  cases hr with
  | im _ _ h => cases h
  | ptr _ _ _ _ b hρ hz => exact ⟨b, by simp, hρ⟩
 obtain ⟨b, hxe, hρ⟩ := hb
 have hxt : a0.tmps[x]? = some (.pointer (some ⟨b, 0, none⟩)) := by
  have hlx : x < a0.tmps.size := by omega
  have he : a0.eval (.tmp x) = a0.tmps[x] := by simp [Act.eval, hlx]
  rw [L0i hlx, <- he, hxe]
 refine ⟨λ D a w => a.tmps.size = C.N /\ a.tmps[x]? = some (.pointer (some ⟨b, 0, none⟩)) /\ (D 0 = true -> a.tmps[d1]? = some (.slice (some ⟨b, 1, none⟩) 7 7)) /\ (D 1 = true -> a.tmps[d2]? = some (.slice (some ⟨b, 0, none⟩) 7 8)) /\
  Wit C (upd (upd (upd E d1 .any) d2 .any) d3 .any) (if D 2 = true then updS σ bid ⟨te, 8, [.agg (cs.take 1 ++ cs.take 7)]⟩ else σ) a w ρ Im M, ⟨hsz, hxt, λ h => (by cases h), λ h => (by cases h), ?_⟩, λ D a w hD hv => ?_, λ i o ho D hDi hdeps a w ⟨h1, h2, h3, h4, h5⟩ Kc hKc => ?_⟩
 . simp only [L0C, if_false]
   exact ((hw.forgetE (by omega)).forgetE (by omega)).forgetE (by omega)
 . have h5 := hv.2.2.2.2
   rw [if_pos (hD 2 (by show 2 < 3; omega))] at h5
   exact hR _ _ _ _ _ hQ ⟨ρ, Im, M, h5⟩
 . have same : ∀ d, d = d1 \/ d = d2 \/ d = d3 -> (upd (upd (upd E d1 .any) d2 .any) d3 .any) d = .any := λ d hd => by
    simp only [upd]; rcases hd with rfl | rfl | rfl <;> (repeat' split) <;> simp_all
   have hput : ∀ {d : Nat} {y v : Value} {t : Nat}, t ≠ d -> a.tmps[t]? = some v -> (a.put (some d) y).tmps[t]? = some v := λ {d y v t} hne hv => by
    simp only [Act.put]; rw [L1n (Ne.symm hne)]; exact hv
   have hput' : ∀ {d : Nat} {y : Value}, d < S.N -> (a.put (some d) y).tmps[d]? = some y := λ {d y} hd => by
    simp only [Act.put]; rw [L2m (by omega)]
   have hax : a.eval (.tmp x) = .pointer (some ⟨b, 0, none⟩) := by simp [Act.eval, h2]
   have hz := Jat (P := S.P) (t := e) (by omega) w
   rw [hs1] at hz
   match i, ho with
   | 0, ho =>
    cases ho
    have hrun : (execOp a.eval ⟨some d1, .slice t (.tmp x) (some (.const (.int .i64 1))) none none, ty1, p1, a1, none⟩).run S.P w = .ok (.value (.slice (some ⟨b, 1, none⟩) 7 7)) w := by
     have key : (Instr.sliceBounds false 8 8 (some (.int .i64 1)) none none).run S.P w = .ok (1, 8, 8) w := by
      unfold Instr.sliceBounds
      have := λ c => Jal (P := S.P) (w := w) (k := .i64) (code := c) (show 1 <= 8 by omega)
      simp at this
      simp [this]
     have hc : a.eval (.const (.int .i64 1)) = .int .i64 1 := rfl
     simp only [execOp, hax, L0I, L2f, hc, Instr.sliceAt, Instr.sureAddr, Sem.run_bind, run_underlying (JdV ht) w, Result.andThen_ok, key, hz, Sem.run_pure]
     rfl
    refine Jf4 rfl (λ _ e => by cases e) hrun (hKc _ _ ⟨by rw [JbR]; exact h1, hput (Ne.symm hne.1) h2, λ _ => hput' hlt.2.1, λ h => hput (Ne.symm hne.2.2.1) (h4 (by simpa [insJ] using h)), ?_⟩)
    have h6 := h5.put H.G (dst := some d1) (v := .any) (y := .slice (some ⟨b, 1, none⟩) 7 7) (λ d e => by cases e; omega) (.im _ _ (.any _))
    have e1 : updO (upd (upd (upd E d1 .any) d2 .any) d3 .any) (some d1) .any = upd (upd (upd E d1 .any) d2 .any) d3 .any := Jci _ _ _ (same d1 (.inl rfl))
    rw [e1] at h6
    simpa [insJ] using h6
   | 1, ho =>
    cases ho
    have hrun : (execOp a.eval ⟨some d2, .slice t (.tmp x) none (some (.const (.int .i64 7))) none, ty2, p2, a2, none⟩).run S.P w = .ok (.value (.slice (some ⟨b, 0, none⟩) 7 8)) w := by
     have key : (Instr.sliceBounds false 8 8 none (some (.int .i64 7)) none).run S.P w = .ok (0, 7, 8) w := by
      unfold Instr.sliceBounds
      have := λ c => Jal (P := S.P) (w := w) (k := .i64) (code := c) (show 7 <= 8 by omega)
      simp at this
      simp [this]
     have hc : a.eval (.const (.int .i64 7)) = .int .i64 7 := rfl
     simp only [execOp, hax, L0I, L2f, hc, Instr.sliceAt, Instr.sureAddr, Sem.run_bind, run_underlying (JdV ht) w, Result.andThen_ok, key, hz, Sem.run_pure]
     rfl
    refine Jf4 rfl (λ _ e => by cases e) hrun (hKc _ _ ⟨by rw [JbR]; exact h1, hput (Ne.symm hne.2.1) h2, λ h => hput hne.2.2.1 (h3 (by simpa [insJ] using h)), λ _ => hput' hlt.2.2.1, ?_⟩)
    have h6 := h5.put H.G (dst := some d2) (v := .any) (y := .slice (some ⟨b, 0, none⟩) 7 8) (λ d e => by cases e; omega) (.im _ _ (.any _))
    have e1 : updO (upd (upd (upd E d1 .any) d2 .any) d3 .any) (some d2) .any = upd (upd (upd E d1 .any) d2 .any) d3 .any := Jci _ _ _ (same d2 (.inr (.inl rfl)))
    rw [e1] at h6
    simpa [insJ] using h6
   | 2, ho =>
    cases ho
    simp only [L00, L1J, beq_iff_eq] at hdep
    obtain ⟨⟨g1, m1, b1, on1⟩, ⟨g2, m2, b2, on2⟩⟩ := hdep
    have hd0 := h3 (by have := hdeps g1 m1 b1; rwa [on1] at this)
    have hd1 := h4 (by have := hdeps g2 m2 b2; rwa [on2] at this)
    rw [if_neg (by simp [hDi])] at h5
    obtain ⟨cur, hbb, hl, hsz', hcc⟩ := h5.inv.blk bid _ b hk hρ (by simp)
    simp only [L18, Nat.one_mul] at hsz'
    have hvals : ∀ j, j < 8 -> ∃ v, cur[j]? = some v /\ v.oneCell' = true := λ j hj => by
     obtain ⟨v, hv, h1', _⟩ := hcc 0 (.agg cs) j cs[j] rfl (by simp)
     exact ⟨v, by simpa using hv, h1'⟩
    have hlen7 : (cur.toList.take 7).length = 7 := by simp; omega
    have hget : ∀ j v, (cur.toList.take 7)[j]? = some v -> j < 7 /\ cur[j]? = some v := λ j v hv => by
     rw [L0j] at hv
     split at hv
     . exact ⟨by assumption, by simpa using hv⟩
     . cases hv
    have hone : ∀ v ∈ cur.toList.take 7, v.oneCell' = true := λ v hv => by
     obtain ⟨j, hj⟩ := L0s.1 hv
     obtain ⟨hj7, hj⟩ := hget j v hj
     obtain ⟨v', hv', h1'⟩ := hvals j (by omega)
     rw [hj] at hv'; cases hv'; exact h1'
    obtain ⟨fr, hb0, hfr⟩ := hbb
    have hinfo : (S.P.info? e).map (·.size) = some 1 := by
     obtain ⟨inf, hi, hs, _⟩ := Jqf (P := S.P) (t := e) (by omega)
     rw [hi]; simp [hs, hs1]
    have hrun1 := run_copy_cells (P := S.P) w t' t' ty3 e b 1 7 7 ⟨b, 0, none⟩ 7 8 (cur.toList.take 7) (JbJ htl) hinfo (by rw [hlen7]; rfl) (λ j v hv => by rw [Jbd, Jbs ⟨fr, hb0, hfr⟩]; simpa using (hget j v hv).2)
     (λ j hj => by rw [hlen7] at hj; rw [Jbs ⟨fr, hb0, hfr⟩]; obtain ⟨v, hv, _⟩ := hvals (1 + j) (by omega); simp [hv]) (λ j hj => by rw [hlen7] at hj; exact Jhl hb0 hfr (by omega)) hone
    have hst1 := Jdr S.P b 1 te (cur.toList.take 7) 0 cur w ⟨fr, hb0, hfr⟩ (by rw [hlen7]; omega) hone
    have hst2 := run_storeCells_cells (P := S.P) b 1 (cur.toList.take 7) 0 w (λ j hj => by rw [hlen7] at hj; rw [Jbs ⟨fr, hb0, hfr⟩]; obtain ⟨v, hv, _⟩ := hvals (1 + 0 + j) (by omega); simp [hv]) (λ j hj => by rw [hlen7] at hj; exact Jhl hb0 hfr (by omega)) hone
    rw [hst1] at hst2
    have heq : w.setCells b 1 (cur.toList.take 7) = w.setRow b (cur.toList.take 1 ++ cur.toList.take 7 ++ cur.toList.drop 8).toArray := by
     simp only [L0R, hlen7] at hst2
     injection hst2 with _ h; exact h.symm
    rw [heq] at hrun1
    have ha1 : a.eval (.tmp d1) = .slice (some ⟨b, 1, none⟩) 7 7 := by simp [Act.eval, hd0]
    have ha2 : a.eval (.tmp d2) = .slice (some ⟨b, 0, none⟩) 7 8 := by simp [Act.eval, hd1]
    have hrun : (execOp a.eval ⟨some d3, .call { callee := .builtin .copy, args := #[.tmp d1, .tmp d2], argTypes := #[t', t'] }, ty3, p3, a3, none⟩).run S.P w = .ok (.value (goInt (cur.toList.take 7).length)) (w.setRow b (cur.toList.take 1 ++ cur.toList.take 7 ++ cur.toList.drop 8).toArray) := by
     simp [execOp, resolve, invoke, builtin, ha1, ha2, hrun1]
    have h7 := h5.turn H.G (k' := ⟨te, 8, [.agg (cs.take 1 ++ cs.take 7)]⟩) (cur' := (cur.toList.take 1 ++ cur.toList.take 7 ++ cur.toList.drop 8).toArray) hk hρ ⟨fr, hb0, hfr⟩ (by simp; omega) rfl (λ e he => by simp at he; subst he; simp; omega) (by simp; omega) (λ i e' j c he hc => by
     cases i with
     | succ i => simp at he
     | zero =>
      simp at he; subst he
      simp only [AV.cells_agg] at hc
      have hj : j < 8 := by have := (L0a.1 hc).1; simp at this; omega
      have hsrc : ∃ q, q < 8 /\ cs[q]? = some c /\ (cur.toList.take 1 ++ cur.toList.take 7 ++ cur.toList.drop 8)[j]? = cur.toList[q]? := by
       by_cases hj0 : j = 0
       . subst hj0
         refine ⟨0, by omega, ?_, ?_⟩
         . rw [L0k (by simp; omega), L0j] at hc; simpa using hc
         . rw [L0E, L0k (by simp; omega), L0j]; simp
       . refine ⟨j - 1, by omega, ?_, ?_⟩
         . rw [L0o (by simp; omega)] at hc
           have : j - (cs.take 1).length = j - 1 := by simp; omega
           rw [this, L0j, if_pos (by omega)] at hc; exact hc
         . rw [L0k (by simp; omega), L0o (by simp; omega)]
           have : j - (cur.toList.take 1).length = j - 1 := by simp; omega
           rw [this, L0j, if_pos (by omega)]
      obtain ⟨q, hq, hcq, hjq⟩ := hsrc
      obtain ⟨v, hv, h1', hr⟩ := hcc 0 (.agg cs) q c rfl hcq
      refine ⟨v, ?_, h1', hr⟩
      simp only [Nat.zero_mul, L0p, L1g]
      rw [hjq]; simpa using hv) (by simp)
    refine Jf4 rfl (λ _ e => by cases e) hrun (hKc _ _ ⟨by rw [JbR]; exact h1, hput (Ne.symm hne.2.2.2.1) h2, λ h => hput (Ne.symm hne.2.2.2.2.1) (h3 (by simpa [insJ] using h)), λ h => hput (Ne.symm hne.2.2.2.2.2) (h4 (by simpa [insJ] using h)), ?_⟩)
    have h8 := h7.put H.G (dst := some d3) (v := .any) (y := goInt (cur.toList.take 7).length) (λ d e => by cases e; omega) (.im _ _ (.any _))
    have e1 : updO (upd (upd (upd E d1 .any) d2 .any) d3 .any) (some d3) .any = upd (upd (upd E d1 .any) d2 .any) d3 .any := Jci _ _ _ (same d3 (.inr (.inr rfl)))
    rw [e1] at h8
    rw [if_pos (by simp [insJ])]
    exact h8
   | i + 3, ho => simp at ho
theorem Jcs {S : Sp} {dst : Option Nat} {op : Op} {ty : TypeId} {K : Env -> Jac -> Prop} {E : Env} {σ : Jac} (F : List Nat) (h : semD S dst op ty K (frE (inI F) σ E) (frS (inI F) σ))
 (k : (F.all λ i => !S.old i && !S.pin i) = true := by kernel_rfl) : semD S dst op ty K E σ := by
 intro m c d C H n a w p Q ⟨_, _, _, t⟩ l
 simp only [L0f, L00, L0W] at k
 have j : ∀ {id}, inI F id = true -> id ∈ F := λ h => L0A.1 h
 have o : ∀ {id} {b : Bool}, b = true -> (inI F id = true -> b = false) -> inI F id = false := λ {id b} q s => by
  cases g : inI F id with
  | false => rfl
  | true => have := s g; rw [q] at this; cases this
 exact h m c d C H n a w p Q ⟨_, _, _, t.freeze H (inI F) (λ id f => o f λ g => (k id (j g)).2) (λ id f => o f λ g => (k id (j g)).1)⟩ l
section
variable {P : Program} {S : Sp} {kd bi : Bool} {dst : Option Nat} {ty t : TypeId} {K Kb : Env -> Jac -> Prop} {E : Env} {σ : Jac} (aso : Array Operand) (ts : Array TypeId)
@[go_sem ↓] theorem JzO : aopC S kd bi dst (.call { callee := .builtin .unsafeString, args := aso, argTypes := ts }) ty K Kb E σ = semD S dst (.call { callee := .builtin .unsafeString, args := aso, argTypes := ts }) ty Kb E σ := rfl
@[go_sem ↓] theorem JzJ : aopC S kd bi dst (.call { callee := .builtin .copy, args := aso, argTypes := ts }) ty K Kb E σ = semD S dst (.call { callee := .builtin .copy, args := aso, argTypes := ts }) ty Kb E σ := rfl
@[go_sem ↓] theorem JBg : aopC S kd bi dst (.call { callee := .builtin .cap, args := aso, argTypes := ts }) ty K Kb E σ = semD S dst (.call { callee := .builtin .cap, args := aso, argTypes := ts }) ty Kb E σ := rfl
@[go_sem ↓] theorem JBk (x : Operand) : aopC S kd bi dst (.sliceToArrayPointer t x) ty K Kb E σ = semD S dst (.sliceToArrayPointer t x) ty Kb E σ := rfl
end
variable {P : Program} {C : Fx} {w : World} {ρ : Nat -> Option Nat} {Im : Nat -> Prop} {M : Str} {E : Env} {σ : Jac} {a : Act}
def spZ (P : Program) (f : FuncId) (N l : Nat) (c : List Nat) : Sp := { P, N, b := 131072 * (f + 1), pin := λ _ => false, yl := l, Y := seqY, bad := inI c, old := λ i => Nat.blt (i / 16) (131072 * (f + 1)) || Nat.ble (131072 * (f + 1) + 100000) (i / 16) }
theorem Jjt (P : Program) (f : FuncId) (N l : Nat) (b : List Nat) : JcV (spZ P f N l b) := λ _ _ _ _ c h => JkP c h
section
variable (P : Program) (f N l : Nat) (bad : List Nat)
@[go_sem] theorem spZ_P : (spZ P f N l bad).P = P := rfl
@[go_sem] theorem spZ_b : (spZ P f N l bad).b = 131072 * (f + 1) := rfl
@[go_sem] theorem JCT (id : Nat) : (spZ P f N l bad).bad id = bad.contains id := rfl
@[go_sem] theorem spZ_N : (spZ P f N l bad).N = N := rfl
@[go_sem] theorem JCU (id : Nat) : (spZ P f N l bad).pin id = false := rfl
@[go_sem] theorem spZ_yl : (spZ P f N l bad).yl = l := rfl
@[go_sem] theorem spZ_Y : (spZ P f N l bad).Y = seqY := rfl
end
theorem Jro {f : FuncId} {b : Func} {c : Code} {args : List AV} {xs : List (List AV)} {o : List (Nat × Blk)} (d : List Nat) (B : P.funcs[f]? = some b) (A : b.body = some c) (i : fnB P b d c = true) (t : P.follows .mixedOrders = true)
 (g : args.length < b.ntmps) (m : b.results = #[]) (u : AV.namesL allB (xs.map .tup) = false)
 (j : (o.all λ p => Nat.blt (p.1 / 16) (131072 * (f + 1)) || Nat.ble (131072 * (f + 1) + 100000) (p.1 / 16)) = true)
 (h : ∀ l, awpC (spZ P f b.ntmps l d) c (λ e => match e with | .normal => λ E _ => E b.ntmps = .tup [] \/ E b.ntmps = .any | .ret => λ E _ => E b.ntmps = .tup [] \/ E b.ntmps = .any | _ => λ _ _ => False) (upd (Jct (.yld l :: args)) b.ntmps (.tup (xs.map .tup))) (stO o)) : SOK P f args (stO o) xs := by
 simp only [fnB, L00, L0W] at i
 obtain ⟨⟨⟨q, y⟩, z⟩, s⟩ := i
 have s := L0v s; have q := JaS c q
 have h : ∀ l, awp (spZ P f b.ntmps l d) c (retG P b λ _ E _ => E b.ntmps = .tup [] \/ E b.ntmps = .any) (upd (Jct (.yld l :: args)) b.ntmps (encG xs false)) (stO o) := λ l =>
  JbM (Jjt P f b.ntmps l d) c (λ e E D w => by
   cases e <;> first | exact w.elim | (simp only [retG, m]; exact w)) (h l)
 exact Jnh B A q y z s t g u (by intro id k C; exact L0f.1 j _ (Jb1 C)) h
theorem Jap {S : Sp} (m : JcV S) {id : Nat} {ops : Array Oper} {c : Bool} {Q : Exit -> Env -> Jac -> Prop} {E : Env} {σ : Jac} (F : List Nat) (h : regC S c ops (Q .normal) (frE (inI F) σ E) (frS (inI F) σ))
 (k : (F.all λ i => !S.old i && !S.pin i) = true := by kernel_rfl) (f : Jcr S.P S.N JkA (.region id ops c) = true := by kernel_rfl) : semC S (.region id ops c) Q E σ := by
 simp only [L0f, L00, L0W] at k
 have j : ∀ {id}, inI F id = true -> id ∈ F := λ h => L0A.1 h
 have l : ∀ {id} {b : Bool}, b = true -> (inI F id = true -> b = false) -> inI F id = false := λ {id b} o p => by
  cases g : inI F id with
  | false => rfl
  | true => have := p g; rw [o] at this; cases this
 exact Jg9 m F h (λ id d => l d λ g => (k id (j g)).2) (λ id d => l d λ g => (k id (j g)).1) f
theorem JCe {S : Sp} [hY : Plain S] {dst : Option Nat} {op : Op} {ty : TypeId} {K : Env -> Jac -> Prop} {E : Env} {σ : Jac} (h : aopC S true true dst op ty K K E σ)
 (f : (dst.all (decide <| · < S.N) && Op.low S.N op && cls S.P op ty != 9) = true := by kernel_rfl) : semD S dst op ty K E σ := by
 intro g b c C H n a w k Q ⟨l, j, M, i⟩ d
 exact JeN H i (o := ⟨dst, op, ty, g, b, c⟩) f true true (λ h => by cases h) (JgR hY.mono (λ _ _ h => h) (λ _ _ h => h) h) (λ _ _ _ _ => d _ _ _ _) (λ _ _ _ _ => d _ _ _ _)
theorem Jst {c : AV} (h : AV.namesB allB c = false) (L p : Nat -> Bool) (σ : Jac) : frz L p σ c = c := by unfold frz; rw [if_pos (Je6 h _)]
@[go_sem] theorem JBR (L p : Nat -> Bool) (σ : Jac) (l : Nat) : frz L p σ (.yld l) = .yld l := rfl
def nnB : AV -> Bool
 | .new .. => false
 | .nptr .. => false
 | _ => true
theorem Jxd {w : World} {Im : Nat -> Prop} {r : AV} {y : Value} {b : Option Nat} (h : nnB r = true) : R1 w Im r y b ↔ (b = none /\ IRep w Im r y) := by
 cases r <;> first | exact Iff.rfl | cases h
theorem Jxe {w : World} {Im : Nat -> Prop} : ∀ {c d : List AV} {ys : List Value} {b : List (Option Nat)}, (c.all nnB) = true -> (d.all nnB) = true -> Jny c d -> RL w Im c ys b -> RL w Im d ys b
 | [], [], _, _, _, _, _, h => h
 | r :: c, s :: d, [], _, _, _, _, h => (h : False).elim
 | r :: c, s :: d, _ :: _, [], _, _, _, h => (h : False).elim
 | r :: c, s :: d, y :: ys, l :: b, f, g, i, h => by
  simp only [L1W, L00] at f g
  obtain ⟨j, k⟩ := (Jxd f.1).1 h.1
  exact ⟨(Jxd g.1).2 ⟨j, i.1 _ _ _ k⟩, Jxe f.2 g.2 i.2 h.2⟩
 | [], _ :: _, _, _, _, _, h, _ => h.elim
 | _ :: _, [], _, _, _, _, h, _ => h.elim
theorem Ev.resL {P : Program} {f : FuncId} {args : List AV} {d i : List AV} (h : Ev P f args (.tup d)) (m : Jny d i) (k : (d.all nnB) = true := by rfl) (l : (i.all nnB) = true := by rfl) : Ev P f args (.tup i) := by
 rintro p q ⟨rfl, rfl⟩
 obtain ⟨a, b⟩ := h p (.tup d) ⟨rfl, rfl⟩
 refine ⟨a, λ w j vs c g o => (b w j vs c g o).mono λ e s ⟨y, he, hx, Im1, g1, g2, ys, obs, g3, g4, g5⟩ => ⟨y, he, hx, Im1, g1, g2, ys, obs, g3, Jxe k l m g4, g5⟩⟩
theorem Jr6 {cs b : List AV} (h : Jny cs b) : (AV.agg cs).asIf (.agg b) := by
 intro w i y g
 cases g with
 | agg _ ys f c d =>
  have := Jfs h (vs := ys) ⟨f, d⟩
  exact .agg _ ys this.1 c this.2
def JhG (x : Nat) (S : Sp) (ops : Array Oper) (J : (Nat -> Bool) -> Env -> Jac -> Prop) : Nat -> List Oper -> Prop
 | _, [] => True
 | i, o :: l => (i ≠ x -> ∀ D, D i = false -> (∀ e ∈ o.after.toList, Region.binds .any e = true -> D e.on = true) -> ∀ E b, J D E b -> opsC S false ops i [o] (J (insJ D i)) E b) /\ JhG x S ops J (i + 1) l
theorem Jiz {x : Nat} {S : Sp} {ops : Array Oper} {J : (Nat -> Bool) -> Env -> Jac -> Prop} : ∀ {l : List Oper} {n i : Nat} {o : Oper}, JhG x S ops J n l -> l[i]? = some o -> n + i ≠ x ->
 ∀ D, D (n + i) = false -> (∀ e ∈ o.after.toList, Region.binds .any e = true -> D e.on = true) -> ∀ E σ, J D E σ -> gopC S true true ops.toList o (J (insJ D (n + i))) (J (insJ D (n + i))) E σ
 | [], _, _, _, _, h, _ => by simp at h
 | d :: l, n, i, o, b, h, c => by
  cases i with
  | zero => simp at h; subst h; exact b.1 c
  | succ i =>
   have := Jiz b.2 (by simpa using h) (by omega)
   rwa [show n + 1 + i = n + (i + 1) from by omega] at this
theorem JkH {S : Sp} (hY : JcV S) {id : Nat} {ops : Array Oper} {Q : Exit -> Env -> Jac -> Prop} {E : Env} {σ : Jac} (J : (Nat -> Bool) -> Env -> Jac -> Prop)
 (x : Nat) (h0 : J (λ _ => false) E σ) (hsteps : JhG x S ops J 0 ops.toList)
 (hx : ∀ o, ops[x]? = some o -> o.guard = none /\ ∀ D, D x = false -> (∀ e ∈ o.after.toList, Region.binds .any e = true -> D e.on = true) -> ∀ E σ, J D E σ -> semV S o (J (insJ D x)) E σ) (hend : ∀ D E σ, (∀ i, i < ops.size -> D i = true) -> J D E σ -> Q .normal E σ)
 (hfit : ops.toList.all (Oper.fits S.P S.N) = true := by kernel_rfl) (hedge : JeW 0 ops.toList = true := by kernel_rfl) : semC S (.region id ops true) Q E σ := by
 intro C H n R hR a w hs
 have hall : ∀ (i : Nat) (o : Oper), ops[i]? = some o -> Oper.fits S.P S.N o = true := λ i o ho => L0f.1 hfit o (L0x.2 (L1I ho))
 have hlist : ∀ (i : Nat) (o : Oper), ops[i]? = some o -> ops.toList[i]? = some o := λ i o ho => by rw [L0P]; exact ho
 refine wpIn_region_any H.mo ?_
 have key : ∀ (fuel : Nat) (listed : Array Bool) (E : Env) (σ : Jac) (a : Act) (w : World), listed.size = ops.size -> (rem ops listed).length <= fuel ->
  J (λ i => listed.getD i false) E σ -> St C E σ a w -> wpAnyIn (FW C.rdl) n S.P .any ops R fuel listed a w := by
  intro fuel
  have full : ∀ (listed : Array Bool), listed.size = ops.size -> rem ops listed = [] -> ∀ i, i < ops.size -> listed.getD i false = true := λ listed hsz hr i hi => by
   cases hl : listed.getD i false with
   | true => rfl
   | false =>
    have : i ∈ rem ops listed := Ja5.2 ⟨hi, by
     simp only [L0M] at hl ⊢
     rw [L0i (by omega)] at hl ⊢; exact hl⟩
    rw [hr] at this; simp at this
  induction fuel with
  | zero =>
   intro listed E σ a w hsz hle hv hs
   have h0 : rem ops listed = [] := L0T (by omega)
   refine ⟨?_, hR _ _ _ _ _ (hend _ _ _ (full listed hsz h0) hv) hs⟩
   cases hr : Region.ready .any ops listed with
   | nil => rfl
   | cons i l =>
    have hi : i ∈ Region.ready .any ops listed := by rw [hr]; simp
    obtain ⟨h1, o, ho, _⟩ := mem_ready.1 hi
    have : i ∈ rem ops listed := Ja5.2 ⟨(L0m.1 ho).1, h1⟩
    rw [h0] at this; simp at this
  | succ fuel ih =>
   intro listed E σ a w hsz hle hv hs
   have getD_same : ∀ i, i < ops.size -> listed.getD i true = listed.getD i false := λ i hi => by
    simp only [L0M]; rw [L0i (by omega)]; rfl
   refine ⟨λ hr0 => ?_, λ i hi => ?_⟩
   . have hr : rem ops listed = [] := by
      cases hr : rem ops listed with
      | nil => rfl
      | cons i l =>
       exfalso
       have hm : i ∈ rem ops listed := by rw [hr]; simp
       obtain ⟨hlt, hun⟩ := Ja5.1 hm
       have : i ∈ Region.ready .any ops listed := mem_ready.2 ⟨hun, _, L0i hlt, λ e he hb => by
        have hei := JeX hedge (hlist i _ (L0i hlt)) e he hb
        cases hl : listed.getD e.on false with
        | true => rfl
        | false =>
         have hme : e.on ∈ rem ops listed := Ja5.2 ⟨by omega, by rw [getD_same _ (by omega)]; exact hl⟩
         have hsort := Jc3 (ops := ops) listed
         rw [hr] at hme hsort
         rcases L0q.1 hme with h | h
         . omega
         . have := (L1x.1 hsort).1 _ h; omega⟩
       rw [hr0] at this; simp at this
     exact hR _ _ _ _ _ (hend _ _ _ (full listed hsz hr) hv) hs
   . obtain ⟨hun, o, ho, hedges⟩ := mem_ready.1 hi
     have hlt : i < ops.size := (L0m.1 ho).1
     have hm : i ∈ rem ops listed := Ja5.2 ⟨hlt, hun⟩
     obtain ⟨pre, post, hsplit⟩ := L28 hm
     have hset := Jjm hsz hsplit
     have hD : (λ k => (listed.setIfInBounds i true).getD k false) = insJ (λ k => listed.getD k false) i := by
      funext k
      simp only [insJ, L0M]
      by_cases hk : k = i
      . subst hk; simp [hsz, hlt]
      . rw [L1n (Ne.symm hk)]; simp [hk]
     have next : ∀ E' σ' a' w', J (insJ (λ k => listed.getD k false) i) E' σ' -> St C E' σ' a' w' -> wpAnyIn (FW C.rdl) n S.P .any ops R fuel (listed.setIfInBounds i true) a' w' := λ E' σ' a' w' h1 h3 => by
      refine ih (listed.setIfInBounds i true) E' σ' a' w' (by simpa using hsz) ?_ (by rw [hD]; exact h1) h3
      rw [hset]; rw [hsplit] at hle; simp at hle ⊢; omega
     by_cases hix : i = x
     . subst hix
       obtain ⟨hgn, hs1⟩ := hx o ho
       have hs2 := hs1 (λ k => listed.getD k false) (by rw [<- getD_same i hlt]; exact hun) (λ e he hb => hedges e (L0x.1 he) hb) E σ hv
       refine Jde ho ?_
       unfold Jgp
       rw [if_pos (by simp [Region.wanted, hgn])]
       exact hs2 C H n a w _ _ hs λ E' σ' a' w' h1 h2 => next E' σ' a' w' h1 h2
     have hstep := Jiz hsteps (hlist i o ho) (by omega) (λ k => listed.getD k false) (by rw [L0p, <- getD_same i hlt]; exact hun) (λ e he hb => hedges e (L0x.1 he) hb) E σ hv
     rw [L0p] at hstep
     have hg := JlF hY (K' := J (insJ (λ k => listed.getD k false) i)) (Kb' := J (insJ (λ k => listed.getD k false) i)) (λ _ _ h => h) (λ _ _ h => h) hstep
     obtain ⟨ρ, Im, M, hw⟩ := hs
     exact Jde ho (Je2 (Kc := wpAnyIn (FW C.rdl) n S.P .any ops R fuel (listed.setIfInBounds i true)) H hw hall (hall i o ho) true true (λ h => by cases h) hg (λ E' σ' a' w' h1 h2 => next E' σ' a' w' h1 h2) λ E' σ' a' w' h1 h2 => next E' σ' a' w' h1 h2)
 exact key ops.size _ E σ a _ (by simp) (by unfold rem; exact L0n (L1u _ _) (by simp)) (by
  have : (λ i => (Array.replicate ops.size false).getD i false) = λ _ => false := by
   funext i; simp only [L0M, L1V]; split <;> rfl
  rw [this]; exact h0) (hs.drew H.G (w.drawn + 1))
theorem JpO {S : Sp} {dst : Option Nat} {t ty Q : TypeId} {x y : Operand} {K : Env -> Jac -> Prop} {E : Env} {σ : Jac} {us vs : List Value} {L O : List Lit} (D m : Nat) (b : Bool)
 (hx : ev E x = .agg (us.map .v)) (hy : ev E y = .agg (vs.map .v)) (B : S.P.keyLits D t us = some L) (F : S.P.keyLits D t vs = some O) (A : S.P.keyTypeAt m t = true) (hm : m <= 10000)
 (s : (Value.agg us.toArray).formed S.P t = true) (u : (Value.agg vs.toArray).formed S.P t = true) (hu : S.P.underlying t = some (.struct (S.P.fieldsOf t))) (hg : S.P.eqGuardType S.P.depth t = false) (Z : b = true ↔ L = O)
 (Y : K (updO E dst (.v (.bool b))) σ) (c : (dst.all (decide <| · < S.N) && Op.low S.N (.binOp .eql t x y Q)) = true := by kernel_rfl) : semD S dst (.binOp .eql t x y Q) ty K E σ := by
 refine Jba _ c (λ _ e => by cases e) (λ C w ρ R M a H hw l => ?_) Y
 have g := l x (by simp [Op.operands])
 have h := l y (by simp [Op.operands])
 rw [hx] at g; rw [hy] at h
 have k : ∀ (zs : List Value) (z : Value), Rep w ρ R (.agg (zs.map .v)) z -> z = .agg zs.toArray := λ zs z o => by
  obtain ⟨xs, I, j, _, J⟩ := o.agg_inv; subst I
  congr 1; congr 1
  refine L2b λ i => ?_
  by_cases hi : i < zs.length
  . have X : (zs.map AV.v)[i]? = some (.v zs[i]) := by simp [hi]
    have d : i < xs.length := by simp at j; omega
    have := (J i _ _ X (L08 d)).v_inv
    rw [L08 hi, L08 d, this]
  . rw [L1b (by simp at j; omega), L1b (by omega)]
 have T := k _ _ g; have U := k _ _ h
 obtain ⟨r, o, f⟩ := run_equalIn_deep (P := S.P) (10000 - m) m t A w D D (.agg us.toArray) (.agg vs.toArray) L O s u (by simpa [Value.cells] using B) (by simpa [Value.cells] using F)
 rw [Nat.sub_add_cancel hm] at o
 have G : r = b := by rw [L0Y, f, Z]
 subst G
 refine ⟨.bool r, λ aa p q => ?_, .im _ _ (.v _)⟩
 have V := run_eqGuard_agg (P := S.P) w .eql t x y us.toArray vs.toArray hg
 have W : (binOp .eql t (.agg us.toArray) (.agg vs.toArray)).run S.P w = .ok (.bool r) w := by rw [run_eql_struct, o]; rfl
 simp only [execOp, T, U, Sem.run_bind, V, W, Result.andThen_ok, Sem.run_pure]
theorem JbD {S : Sp} {c0 : Code} {Q : Exit -> Env -> Jac -> Prop} {E : Env} {σ : Jac} (id id' i j e sz : Nat) {k : Blk} {el : AV} (hk : σ id = some k) (hid : id' ≠ id) (he : k.es[i]? = some el) (hc : el.cells[j]? = some (.v (.slice none 0 0))) (hkz : k.sz ≠ 0) (hnk : AV.namesL (isId id') k.es = false) (hpin : S.pin id' = false)
 (h : semC S c0 Q (JaU (isId id') E) (updS (updS (Jao (isId id') σ) id' ⟨e, sz, []⟩) id ⟨k.e, k.sz, k.es.set i (setC el j (.own id' sz 0 0))⟩)) : semC S c0 Q E σ :=
 λ C H n R hR a w ⟨_, Im, M, hw⟩ => h C H n R hR a w ⟨_, Im, M, hw.nilOwn H id id' i j e sz hk hid he hc hkz hnk hpin⟩
theorem Jfd {S : Sp} (m : JcV S) {id : Nat} {ops : Array Oper} {b : Bool} {Q : Exit -> Env -> Jac -> Prop} {E : Env} {σ : Jac} (h : regC S b ops (Q .normal) E σ)
 (g : Jcr S.P S.N JkA (.region id ops b) = true := by kernel_rfl) : semC S (.region id ops b) Q E σ := by
 intro C H n R l a w ⟨t, s, M, q⟩
 have c := JaS _ g; simp only [JaX, L00, L0O, L0W, L14, L1F, JkA, L0C, false_or] at c
 have f : ∀ (i : Nat) (o : Oper), ops[i]? = some o -> Oper.fits S.P S.N o = true := λ i o p => L0f.1 c.1 o (L0x.2 (L1I p))
 unfold regC at h; rw [Jcl] at h
 have k := Jb3 (λ _ _ j => JfS m _ 0 (λ _ _ h => h) j) _ _ h
 have d : St C E σ a w := ⟨_, _, _, q⟩
 cases b with
 | false =>
  simp only [struck, L0C, if_false] at k
  refine wpIn_region ?_
  have := JcG H f (n := n) (Q := R) (λ E σ a w j d => l .normal E σ a w j d) ops.toList 0 _ _ a w (by simp) k d
  rw [L0z, <- L1H] at this; exact this
 | true => exact Jcj H ops c.1 (by simpa using c.2) n (Q .normal) R _ _ a w (λ E σ a w j d => l .normal E σ a w j d) k d id
mutual
def AV.rn (b : Nat -> Nat) : AV -> AV
 | .own a s i n => .own (b a) s i n
 | .ptr a s i j => .ptr (b a) s i j
 | .mref a => .mref (b a)
 | .agg c => .agg (AV.rnL b c)
 | .tup c => .tup (AV.rnL b c)
 | .clo g c => .clo g (AV.rnL b c)
 | a => a
def AV.rnL (b : Nat -> Nat) : List AV -> List AV
 | [] => []
 | c :: d => AV.rn b c :: AV.rnL b d
end
theorem Jc6 (b : Nat -> Nat) : ∀ cs : List AV, AV.rnL b cs = cs.map (AV.rn b)
 | [] => rfl
 | c :: cs => by rw [AV.rnL, Jc6 b cs]; rfl
theorem Jnb (b : Nat -> Nat) (e : AV) : (AV.rn b e).cells = e.cells.map (AV.rn b) := by
 cases e <;> simp [AV.rn, AV.cells, Jc6]
mutual
theorem AV.rn_free (c : Nat -> Nat) : ∀ a : AV, AV.namesB allB a = false -> AV.rn c a = a
 | .own .., h => by simp [AV.namesB, allB] at h
 | .ptr .., h => by simp [AV.namesB, allB] at h
 | .mref .., h => by simp [AV.namesB, allB] at h
 | .agg b, h => by rw [AV.rn, AV.rnL_free c b h]
 | .tup b, h => by rw [AV.rn, AV.rnL_free c b h]
 | .clo g b, h => by rw [AV.rn, AV.rnL_free c b h]
 | .any, _ => rfl
 | .v .., _ => rfl
 | .sl .., _ => rfl
 | .cut .., _ => rfl
 | .pt .., _ => rfl
 | .new .., _ => rfl
 | .nptr .., _ => rfl
 | .yld .., _ => rfl
 | .mp .., _ => rfl
theorem AV.rnL_free (b : Nat -> Nat) : ∀ cs : List AV, AV.namesL allB cs = false -> AV.rnL b cs = cs
 | [], _ => rfl
 | c :: cs, h => by
  simp only [AV.namesL, L1y] at h; rw [AV.rnL, AV.rn_free b c h.1, AV.rnL_free b cs h.2]
end
def Blk.rn (b : Nat -> Nat) (k : Blk) : Blk := ⟨k.e, k.sz, AV.rnL b k.es⟩
section
variable {w : World} {ρ : Nat -> Option Nat} {Im : Nat -> Prop} {π : Nat -> Nat}
theorem IRep.rn {a : AV} {y : Value} (h : IRep w Im a y) : IRep w Im (AV.rn π a) y := by
 induction h with
 | any y => exact .any y
 | v x => exact .v x
 | agg K ys p J _ i =>
  rw [AV.rn, Jc6]
  refine .agg _ ys (by simpa using p) J λ j c y k C => ?_
  rw [L07] at k
  obtain ⟨q, z, rfl⟩ := L0h.1 k
  exact i j q y z C
 | slnil D a s => exact .slnil ..
 | cut D u a h i => exact .cut D u a h
 | sl D u b o s f d A H m B i => exact .sl D u b o s f d A H m B
 | pt e j b o f d m B i => exact .pt e j b o f d m B
 | tup vs ys p _ i =>
  rw [AV.rn, Jc6]
  refine .tup _ ys (by simpa using p) λ j c y k C => ?_
  rw [L07] at k
  obtain ⟨q, z, rfl⟩ := L0h.1 k
  exact i j q y z C
 | clo g I ys p _ i =>
  rw [AV.rn, Jc6]
  refine .clo g _ ys (by simpa using p) λ j c y k C => ?_
  rw [L07] at k
  obtain ⟨q, z, rfl⟩ := L0h.1 k
  exact i j q y z C
 | yld l => exact .yld l
 | mpnil => exact .mpnil
 | mp u b t E f d F p G B i => exact .mp u b t E f d F p G B
theorem Rep.rn (d : ∀ i, π (π i) = i) {a : AV} {y : Value} (h : Rep w ρ Im a y) : Rep w (λ i => ρ (π i)) Im (AV.rn π a) y := by
 induction h with
 | im a y h => exact .im _ y h.rn
 | agg D ys s E _ z =>
  rw [AV.rn, Jc6]
  refine .agg _ ys (by simpa using s) E λ j c y f t => ?_
  rw [L07] at f
  obtain ⟨o, p, rfl⟩ := L0h.1 f
  exact z j o y p t
 | tup D ys s _ z =>
  rw [AV.rn, Jc6]
  refine .tup _ ys (by simpa using s) λ j c y f t => ?_
  rw [L07] at f
  obtain ⟨o, p, rfl⟩ := L0h.1 f
  exact z j o y p t
 | clo g D ys s _ z =>
  rw [AV.rn, Jc6]
  refine .clo g _ ys (by simpa using s) λ j c y f t => ?_
  rw [L07] at f
  obtain ⟨o, p, rfl⟩ := L0h.1 f
  exact z j o y p t
 | ownNil id m h => exact .ownNil _ m (by simp only [d]; exact h)
 | own id m n b k A e l B q G C u => exact .own _ m n b k A e (by simp only [d]; exact l) B q G C u
 | ownAt id m i n b k a H l B F u => exact .ownAt _ m i n b k a H (by simp only [d]; exact l) B F u
 | ptr id m i j b l u => exact .ptr _ m i j b (by simp only [d]; exact l) u
 | mref id b l => exact .mref _ b (by simp only [d]; exact l)
theorem Inv.rn {σ : Jac} (f : ∀ i, π (π i) = i) (h : Inv w ρ Im σ) : Inv w (λ i => ρ (π i)) Im (λ i => (σ (π i)).map (Blk.rn π)) := by
 refine ⟨λ id k t d => ?_, λ id k b t d G => ?_, λ id k b t d G => ?_, λ i j b p C => ?_, λ id b d y => ?_, λ id b d => h.apart _ b d, h.low⟩
 . obtain ⟨u, o, rfl⟩ := L0h.1 t
   have := h.nil _ u o d
   simp [Blk.rn, this, AV.rnL]
 . obtain ⟨u, o, rfl⟩ := L0h.1 t
   obtain ⟨l, z, D, F, E⟩ := h.map _ u b o d G
   refine ⟨l, z, D, by simpa [Blk.rn, Jc6] using F, λ i m J => ?_⟩
   obtain ⟨v, K, g⟩ := E i m J
   refine ⟨AV.rn π v, ?_, g.rn f⟩
   simp only [Blk.rn, Jc6, L07, K, L0I, AV.rn, AV.rnL]; try rfl
 . obtain ⟨u, o, rfl⟩ := L0h.1 t
   obtain ⟨A, D, F, y, E⟩ := h.blk _ u b o d G
   refine ⟨A, D, λ e s => ?_, by simpa [Blk.rn, Jc6] using y, λ i e j c s q => ?_⟩
   . simp only [Blk.rn, Jc6] at s
     obtain ⟨B, p, rfl⟩ := L05.1 s
     rw [Jnb, L0c]; exact F B p
   . simp only [Blk.rn, Jc6, L07] at s
     obtain ⟨B, p, rfl⟩ := L0h.1 s
     rw [Jnb, L07] at q
     obtain ⟨H, C, rfl⟩ := L0h.1 q
     obtain ⟨x, L, I, g⟩ := E i B j H p C
     exact ⟨x, L, I, g.rn f⟩
 . have := h.inj _ _ b p C
   have e := congrArg π this
   rwa [f, f] at e
 . simp only [Option.map_eq_none_iff] at y
   exact h.live _ b d y
end
theorem Wit.rn {S : Sp} {C : Fx} {E : Env} {σ : Jac} {a : Act} {w : World} {ρ : Nat -> Option Nat} {Im : Nat -> Prop} {M : Str} (H : Holds S C) (h : Wit C E σ a w ρ Im M) (c : Nat -> Nat) (l : ∀ i, c (c i) = i) (u : ∀ i, c i ≠ i -> S.old i = false /\ S.pin i = false) :
 Wit C (λ t => AV.rn c (E t)) (λ i => (σ (c i)).map (Blk.rn c)) a w (λ i => ρ (c i)) Im M := by
 have d : AV.rn c (E C.N) = E C.N := AV.rn_free c _ (h.gh allB)
 refine ⟨h.inv.rn l, λ t y D => (h.env t y D).rn l, h.size, h.ext, λ id b m => ?_, h.im, λ p => ?_, ?_, h.js, λ b m => ?_, h.rd, h.nodup, h.df, λ b m => ?_, λ id s z => ?_, h.j0⟩
 . rcases h.rng _ b m with ⟨f, j⟩ | f
   . have B := H.fz _ b f j
     have k : c id = id := by
      by_cases e : c (c id) = c id
      . rwa [l, eq_comm] at e
      . have := (u _ e).1; rw [B] at this; cases this
     rw [k] at j
     exact .inl ⟨f, j⟩
   . exact .inr f
 . show AV.namesB p (AV.rn c (E C.N)) = false
   rw [d]; exact h.gh p
 . show C.G (AV.rn c (E C.N)) M w
   rw [d]; exact h.g
 . obtain ⟨f, j, o, A⟩ := h.ms b m
   exact ⟨f, λ id => j _, o, A⟩
 . obtain ⟨f, j, o⟩ := h.bk b m
   exact ⟨λ id => f _, j, o⟩
 . have q := H.pin id s z
   have k : c id = id := by
    by_cases e : c id = id
    . exact e
    . have := (u _ e).2; rw [q] at this; cases this
   show ρ (c id) = s
   rw [k]; exact h.pin id s z
@[go_sem] theorem JBL (L p : Nat -> Bool) (σ : Jac) (cs : List AV) : frz L p σ (.agg cs) = if AV.namesB (notI L) (.agg cs) = false then .agg cs else res (Jao p (Jao L σ)) (((AV.agg cs).kill L).kill p) := rfl
section
variable (π : Nat -> Nat)
attribute [go_sem] AV.rn
attribute [go_sem] AV.rnL
@[go_sem] theorem rn_blk (e : TypeId) (s : Nat) (es : List AV) : Blk.rn π ⟨e, s, es⟩ = ⟨e, s, AV.rnL π es⟩ := rfl
end
theorem JlC {S : Sp} {c : Code} {Q : Exit -> Env -> Jac -> Prop} {E : Env} {σ : Jac} (F : List Nat) (h : semC S c (λ e E σ => Q e (frE (inI F) σ E) (frS (inI F) σ)) E σ)
 (g : ∀ id, S.pin id = true -> inI F id = false := by intro id b; cases b) (d : ∀ id, S.old id = true -> inI F id = false := by intro id b; cases b) : semC S c Q E σ :=
 λ C H n R f a w j => h C H n R (λ e E σ a w i ⟨_, _, _, hs⟩ => f e _ _ a w i ⟨_, _, _, hs.freeze H (inI F) g d⟩) a w j
def depK (D : Nat -> Bool) : List Edge -> Prop
 | [] => True
 | e :: l => (Region.binds .any e = true -> D e.on = true) /\ depK D l
theorem JiM {D : Nat -> Bool} : ∀ {l : List Edge}, (∀ e ∈ l, Region.binds .any e = true -> D e.on = true) -> depK D l
 | [], _ => trivial
 | e :: l, h => ⟨h e (by simp), JiM λ x b => h x (by simp [b])⟩
def JhH (S : Sp) (ops : Array Oper) (J : (Nat -> Bool) -> Env -> Jac -> Prop) : Nat -> List Oper -> Prop
 | _, [] => True
 | i, o :: l => (∀ D E b, J D E b -> D i = false /\ depK D o.after.toList -> opsC S false ops i [o] (J (insJ D i)) E b) /\ JhH S ops J (i + 1) l
theorem JkV {S : Sp} {ops : Array Oper} {J : (Nat -> Bool) -> Env -> Jac -> Prop} : ∀ {l : List Oper} {i : Nat}, JhH S ops J i l -> Jiy S ops J i l
 | [], _, _ => trivial
 | _ :: _, _, ⟨b, c⟩ => ⟨λ D d g E h f => b D E h f ⟨d, JiM g⟩, JkV c⟩
theorem JgD {S : Sp} [hY : Plain S] {id : Nat} {ops : Array Oper} {Q : Exit -> Env -> Jac -> Prop} {E : Env} {σ : Jac} (J : (Nat -> Bool) -> Env -> Jac -> Prop)
 (g : J (λ _ => false) E σ) (b : JhH S ops J 0 ops.toList) (d : ∀ D E σ, (∀ i, i < ops.size -> D i = true) -> J D E σ -> Q .normal E σ)
 (f : ops.toList.all (Oper.fits S.P S.N) = true := by kernel_rfl) (c : JeW 0 ops.toList = true := by kernel_rfl) : semC S (.region id ops true) Q E σ :=
 Jjl hY.mono J g (JkV b) d f c
theorem cK {D : Nat -> Bool} {a b : Nat} (h : D a = true -> D b = true) : D b = false -> D a = false := λ c => by
 cases e : D a with
 | false => rfl
 | true => rw [h e] at c; cases c
section
variable {S : Sp} {C : Fx} {E : Env} {σ : Jac} {a : Act} {w : World} {ρ : Nat -> Option Nat} {Im : Nat -> Prop} {M : Str}
end
section
variable {S : Sp} {kd bi : Bool} {dst : Option Nat} {ty t : TypeId} {K Kb : Env -> Jac -> Prop} {E : Env} {σ : Jac}
@[go_sem ↓] theorem JxG (x : Operand) : aopC S kd bi dst (.range t x) ty K Kb E σ = semD S dst (.range t x) ty Kb E σ := rfl
@[go_sem ↓] theorem JzL (x : Operand) (c : Bool) : aopC S kd bi dst (.next x c) ty K Kb E σ = semD S dst (.next x c) ty Kb E σ := rfl
@[go_sem ↓] theorem JxD (x : Operand) : aopC S kd bi dst (.entry x) ty K Kb E σ = semD S dst (.entry x) ty Kb E σ := rfl
end
section
variable (P : Program) (f N : Nat) (bad : List Nat)
end
@[go_sem] theorem JBN (L p : Nat -> Bool) (σ : Jac) (g : Nat) (cs : List AV) : frz L p σ (.clo g cs) = if AV.namesB (notI L) (.clo g cs) = false then .clo g cs else res (Jao p (Jao L σ)) (((AV.clo g cs).kill L).kill p) := rfl
@[go_sem] theorem JqK : Value.nilFunc.oneCell' = true := rfl
variable {S : Sp} {dst : Option Nat} {ty : TypeId} {K : Env -> Jac -> Prop} {E : Env} {σ : Jac}
section
variable {p : Nat -> Bool} {nm q k : Nat -> Bool}
@[go_sem] theorem JAu (s : Nat) (es : List AV) : AV.kill p (.cut s es) = .cut s es := rfl
@[go_sem] theorem Jz5 (s : Nat) (es : List AV) : fade nm (.cut s es) = .cut s es := rfl
@[go_sem] theorem JCq (s : Nat) (es : List AV) : res σ (.cut s es) = .cut s es := rfl
@[go_sem] theorem JBO (L p : Nat -> Bool) (σ : Jac) (s : Nat) (es : List AV) : frz L p σ (.cut s es) = .cut s es := rfl
@[go_sem] theorem JAd (L p : Nat -> Bool) (σ : Jac) (s : Nat) (es : List AV) : frzE L p σ (.cut s es) = .cut s es := rfl
end
theorem JoD {t e : TypeId} {x u : Operand} {lo hi : Option Operand} {sz : Nat} {es : List AV} (l h : Nat) {km : IntKind} (hx : ev E x = .sl sz es) (ht : tel S.P t = some e) (hz : tsz S.P e = sz) (h0 : 0 < sz) (hm : ev E u = .v (.int km h)) (V : hi ≠ none)
 (T : bound E hi es.length λ d => bound E lo 0 λ l' => l' = l /\ d = h /\ l <= h /\ h <= es.length) (hK : K (updO E dst (.cut sz ((es.drop l).take (h - l)))) σ)
 (A : (dst.all (decide <| · < S.N) && Op.low S.N (.slice t x lo hi (some u))) = true := by kernel_rfl) : semD S dst (.slice t x lo hi (some u)) ty K E σ := by
 refine Jba _ A (λ _ e => by cases e) (λ C w I y M a H hw j => ?_) hK
 have J := j x (by simp [Op.operands])
 have D := j u (by simp [Op.operands])
 rw [hm] at D; have Y := D.v_inv
 obtain ⟨d, T, U⟩ := Ja1 (w := w) (ρ := I) (Im := y) T λ o z => j o (by subst z; simp [Op.operands])
 obtain ⟨l', ⟨rfl, rfl, B, W⟩, hl⟩ := Ja1 (w := w) (ρ := I) (Im := y) T λ o z => j o (by subst z; simp [Op.operands])
 rw [hx] at J
 obtain ⟨O, n', p, hy, F, h1, h2, h3, _, i⟩ := JeI (P := S.P) (e := e) (lo := l') (hi := d) (r := .sl sz ((es.drop l').take (d - l'))) (x := .sl sz es) ⟨h0, hz, B, W, rfl⟩ J
 simp only [lenV, Option.some.injEq] at F; subst F
 have ae : u ∈ (Op.slice t x lo hi (some u)).operands := by simp [Op.operands]
 have G : (Instr.sliceBounds true es.length p (lo.map a.eval) (hi.map a.eval) (some (a.eval u))).run S.P w = .ok (l', d, d) w := by
  unfold Instr.sliceBounds
  have r1 := λ c => Jal (P := S.P) (w := w) (k := km) (code := c) (show d <= p by omega)
  have r2 := λ k c => Jal (P := S.P) (w := w) (k := k) (code := c) (L09 d)
  have r3 := λ k c => Jal (P := S.P) (w := w) (k := k) (code := c) B
  rw [Y]
  rcases U with ⟨rfl, rfl⟩ | ⟨o, k, rfl, z⟩
  . exact absurd rfl V
  . rcases hl with ⟨rfl, rfl⟩ | ⟨o', k', rfl, Z⟩
    . simp [z, r1, r2]
    . simp [z, Z, r1, r2, r3]
 have aa := Jat (P := S.P) (t := e) (by omega) w
 have R : ((es.drop l').take (d - l')).length = d - l' := by rw [L01, L0g]; omega
 refine ⟨.slice (if d = l' then O else O.map (·.add (l' * tsz S.P e))) (d - l') (d - l'), λ _ _ _ => ?_, ?_⟩
 . simp only [execOp, hy, L0I, Instr.sliceAt, Instr.slice, Sem.run_bind, run_underlying (JbJ ht) w, Result.andThen_ok, G, aa, Sem.run_pure]
 . have m : ∀ g, IRep w y (.sl sz ((es.drop l').take (d - l'))) (.slice g (d - l') (d - l')) -> Rep w I y (.cut sz ((es.drop l').take (d - l'))) (.slice g (d - l') (d - l')) := λ g U => by
    have := IRep.cut sz ((es.drop l').take (d - l')) g (by rw [R]; exact U)
    rw [R] at this
    exact .im _ _ this
   refine m _ ?_
   by_cases e0 : d - l' = 0
   . have : (es.drop l').take (d - l') = [] := by rw [e0]; rfl
     rw [this, e0]; exact .slnil ..
   . rw [if_neg (by omega)]
     rw [if_neg (by omega)] at i
     generalize O.map (·.add (l' * tsz S.P e)) = g at i; clear m; generalize (es.drop l').take (d - l') = L at *; generalize d - l' = q at *; generalize p - l' = c at *; clear G
     cases i with
     | im _ _ J =>
      cases J with
      | slnil => simp at R; omega
      | sl _ _ b o ab f Q ac X hc s => exact .sl _ _ b o _ f Q (L09 _) X hc s
theorem JjI {t e d : TypeId} {x y : Operand} {sz : Nat} {es xs : List AV} (hx : ev E x = .cut sz es) (ht : tel S.P t = some e) (hz : tsz S.P e = sz) (h0 : 0 < sz)
 {z : Value} (hzv : tz S.P e = some z) (hzok : (ofC z).ok = true) (hzl : (ofC z).cells.length = tsz S.P e)
 (hstr : ∀ s, ev E y ≠ .v (.string s)) (hsrc : Jeq σ (ev E y) λ sz' xs' => sz' = sz /\ xs' = xs) (hpos : 0 < xs.length) (hxl : ∀ e ∈ xs, e.cells.length = sz)
 (hby : (es.length + xs.length) * tby S.P e <= 140737488355328) (h63 : es.length + xs.length <= 4611686018427387904)
 (hnn : AV.namesL (isId (16 * (S.b + d))) (es ++ xs) = false)
 (hK : K (upd (JaU (isId (16 * (S.b + d))) E) d (.own (16 * (S.b + d)) sz 0 (es.length + xs.length))) (updS (Jao (isId (16 * (S.b + d))) σ) (16 * (S.b + d)) ⟨e, sz, es ++ xs⟩))
 (hd : (Nat.blt d S.N && Nat.blt d 100000) = true := by kernel_rfl) (hlow : Op.low S.N (.call { callee := .builtin .append, args := #[x, y], argTypes := #[t, t] }) = true := by kernel_rfl) :
 semD S (some d) (.call { callee := .builtin .append, args := #[x, y], argTypes := #[t, t] }) ty K E σ := by
 intro pos after guard C H n a w Kc Q ⟨ρ, Im, M, hw⟩ hKc
 simp only [L00] at hd
 have hd1 : d < S.N := L0v hd.1
 have hd2 : d < 100000 := L0v hd.2
 have rep : ∀ o, o ∈ (Op.call { callee := .builtin .append, args := #[x, y], argTypes := #[t, t] }).operands -> Rep w ρ Im (ev E o) (a.eval o) := λ o ho => Jb8 hw.env (by rw [hw.size, <- H.N]; exact JbP hlow ho)
 have hrx := rep x (by simp [Op.operands, Call.operands])
 have hry := rep y (by simp [Op.operands, Call.operands])
 obtain ⟨i, hi, hiz, his, hib⟩ := Jtw hzv
 rw [hx] at hrx
 obtain ⟨ad, hax, hcut⟩ : ∃ ad, a.eval x = .slice ad es.length es.length /\ IRep w Im (.sl sz es) (.slice ad es.length es.length) := by
  generalize a.eval x = v at hrx
  cases hrx with | im _ _ h => cases h with | cut _ _ ad h => exact ⟨ad, rfl, h⟩
 have holds : ∃ olds : List Value, olds.length = es.length * sz /\ (∀ b, ad = some b -> ∀ (j : Nat) (v : Value), olds[j]? = some v -> w.cell? (b.add j) = some v) /\ (∀ v ∈ olds, v.oneCell' = true) /\ (∀ e ∈ es, e.cells.length = sz) /\ (ad = none -> es = []) /\
  ∀ (i : Nat) (e : AV) (j : Nat) (c : AV), es[i]? = some e -> e.cells[j]? = some c -> ∃ v, olds[i * sz + j]? = some v /\ Rep w ρ Im c v := by
  obtain ⟨sz1, xs1, ⟨rfl, rfl⟩, hs⟩ := Jfk hw.inv (x := .sl sz es) (K := λ s l => s = sz /\ l = es) ⟨rfl, rfl⟩ (.im _ _ hcut)
  rcases hs with ⟨ad', cap', hy', _, hm⟩ | ⟨s, hs, _⟩
  . simp only [Value.slice.injEq] at hy'; obtain ⟨rfl, _, rfl⟩ := hy'
    rcases hm with ⟨hnil, _⟩ | ⟨b', o', rfl, hl1, hc1⟩
    . subst hnil; exact ⟨[], by simp, by simp, by simp, by simp, λ _ => rfl, by simp⟩
    . obtain ⟨olds, q1, q2, q3, q4⟩ := Jfy hl1 hc1
      exact ⟨olds, q1, λ b hb => by cases hb; exact q2, q3, hl1, λ h => (by cases h), q4⟩
  . cases hs
 obtain ⟨olds, hol, hoc, ho1, hesl, hadn, hor⟩ := holds
 obtain ⟨sz2, xs2, ⟨h5, h6⟩, hs2⟩ := Jfk hw.inv hsrc hry
 rw [h5, h6] at hs2; clear h5 h6
 obtain ⟨ad2, cap2, hay, _, hm2⟩ := hs2.resolve_right λ ⟨s, hs, _⟩ => absurd hs (hstr s)
 rcases hm2 with ⟨hnil, _⟩ | ⟨b2, o2, rfl, hl2, hc2⟩
 . rw [hnil] at hpos; exact absurd hpos (L1A _)
 obtain ⟨news, hnl, hnc, hn1, hnr⟩ := Jfy hl2 hc2
 have hzc : z.cells.size = i.size := by
  obtain ⟨zs, h1, h2, _⟩ := Value.cells_ofC hzok
  rw [h1, his]; simp [<- h2, hzl]
 have hlen : ∀ v, (Builtin.lenOf (a.eval y)).run S.P v = .ok xs.length v := λ v => by rw [hay]; simp [Builtin.lenOf]
 have hfirst : (Builtin.firstCells i.size xs.length (a.eval y)).run S.P w.drew = .ok news.toArray w.drew := by
  rw [hay, his, hz]
  exact run_firstCells_some w.drew _ _ _ _ _ _ hnl λ j u hu => by rw [<- hnc j u hu]; rfl
 let cap := grownCap w (es.length + xs.length) es.length e
 have hcapg : es.length + xs.length <= cap := grownCap_ge w _ _ e
 have hcapm : cap <= maxLen := grownCap_le_maxLen w _ _ e (by simp only [maxLen]; omega)
 let cur : List Value := olds ++ news ++ (Builtin.zeroCells z.cells (cap - (es.length + xs.length))).toList
 have hrun : (Builtin.append_ #[t, t] ty #[a.eval x, a.eval y]).run S.P w = .ok (.slice (some ⟨w.heap.size, 0, none⟩) (es.length + xs.length) cap) (w.drew.alloc (.cells cur.toArray e)) := by
  rw [hax]
  have ecells : cur.toArray = olds.toArray ++ news.toArray ++ Builtin.zeroCells z.cells (cap - (es.length + xs.length)) := by
   apply L12.1; simp [cur]
  rw [ecells]
  cases had : ad with
  | some b =>
   exact Jek w t t ty e i z (JbJ ht) hi hiz (.inl ⟨_, JbJ ht⟩) b es.length es.length olds (by rw [his, hz]; exact hol) (hoc b had) (a.eval y) xs.length news hlen hfirst (by omega) (by omega) (growslice_fits (by omega) (by rw [hib]; exact hby))
  | none =>
   have he0 := hadn had
   have ho0 : olds = [] := L0T (by rw [hol, he0]; simp)
   have hr := JeO w t t ty e i z (JbJ ht) hi hiz (.inl ⟨_, JbJ ht⟩) (a.eval y) xs.length news hlen hfirst hpos (by omega) (by rw [hib]; rw [he0] at hby; simp only [L0r, L0p] at hby; omega)
   have hcap0 : cap = grownCap w xs.length 0 e := by simp only [cap, he0, L0r, L0p]
   rw [hcap0, he0, ho0]; simp only [L0r, L0p, L1T, Array.empty_append]
   simpa using hr
 have hsize : cur.toArray.size = cap * sz := by
  simp only [cur, L0V, L0b, hol, hnl, L0z, size_zeroCells, hzc, his, hz, <- L1r]
  congr 1; omega
 have hk : ((⟨e, sz, es ++ xs⟩ : Blk).kill (isId (16 * (S.b + d)))) = ⟨e, sz, es ++ xs⟩ := by simp [Blk.kill, hnn]
 have h2 := hw.renew H.G (id := 16 * (S.b + d)) (d := d) (by rw [<- H.N]; exact hd1) (k := ⟨e, sz, es ++ xs⟩) (g := w.heap.size) (cur := cur.toArray) (n := es.length + xs.length) (cap := cap) (sz := sz)
  (w' := w.drew.alloc (.cells cur.toArray e))
  ⟨rfl, rfl, rfl, by simp, λ q hq _ => Below.heap_alloc w.drew _ q hq⟩ (.inr (L09 _)) (λ q _ hq => Below.heap_alloc w.drew _ q hq) (JeT (World.alloc_heap_new w.drew _))
  (λ e he => (L0t.1 he).elim (hesl e) (hl2 e)) (by simp only [L0b]; rw [hsize]; exact L0y _ hcapg) (λ i e' j c he' hc => ?_) hcapg hcapm hsize (by omega) (by show sz ≠ 0; omega) (H.free hd2 0 (by omega))
 . rw [hk] at h2
   refine JaN (λ _ e => by cases e) ?_ (hKc _ _ _ _ hK ⟨_, _, _, h2⟩)
   simp [execOp, resolve, invoke, builtin, hrun]
 . show ∃ x, cur.toArray[i * sz + j]? = some x /\ x.oneCell' = true /\ Rep w ρ Im c x
   simp only at he'
   by_cases hin : i < es.length
   . rw [L0k hin] at he'
     obtain ⟨v, hv, hr⟩ := hor i e' j c he' hc
     refine ⟨v, ?_, ho1 v (L02 hv), hr⟩
     simp only [cur, L1g]
     rw [L0E, L0k (L0a.1 hv).1]; exact hv
   . rw [L0o (by omega)] at he'
     obtain ⟨v, hv, hr⟩ := hnr (i - es.length) e' j c he' hc
     refine ⟨v, ?_, hn1 v (L02 hv), hr⟩
     have hlt := (L0a.1 hv).1
     have hidx : i * sz + j - olds.length = (i - es.length) * sz + j := by
      rw [hol, Nat.sub_mul]; have := L0y sz (show es.length <= i by omega); omega
     have hge : olds.length <= i * sz + j := by rw [hol]; have := L0y sz (show es.length <= i by omega); omega
     simp only [cur, L1g]
     rw [L0E, L0o hge, hidx, L0k hlt]; exact hv
def Jjw (x : Nat) (S : Sp) (ops : Array Oper) (J : (Nat -> Bool) -> Env -> Jac -> Prop) : Nat -> List Oper -> Prop
 | _, [] => True
 | i, o :: l => (i ≠ x -> ∀ D E b, J D E b -> D i = false /\ depK D o.after.toList -> opsC S false ops i [o] (J (insJ D i)) E b) /\ Jjw x S ops J (i + 1) l
theorem JiA {x : Nat} {S : Sp} {ops : Array Oper} {J : (Nat -> Bool) -> Env -> Jac -> Prop} : ∀ {l : List Oper} {i : Nat}, Jjw x S ops J i l -> JhG x S ops J i l
 | [], _, _ => trivial
 | _ :: _, _, ⟨b, c⟩ => ⟨λ h D d g E j f => b h D E j f ⟨d, JiM g⟩, JiA c⟩
theorem Jq3 {S : Sp} [hY : Plain S] {id : Nat} {ops : Array Oper} {Q : Exit -> Env -> Jac -> Prop} {E : Env} {σ : Jac} (J : (Nat -> Bool) -> Env -> Jac -> Prop) (x : Nat)
 (j : J (λ _ => false) E σ) (b : Jjw x S ops J 0 ops.toList)
 (h : ∀ o, ops[x]? = some o -> o.guard = none /\ ∀ D E σ, J D E σ -> D x = false /\ depK D o.after.toList -> semD S o.dst o.op o.type (J (insJ D x)) E σ)
 (d : ∀ D E σ, (∀ i, i < ops.size -> D i = true) -> J D E σ -> Q .normal E σ)
 (f : ops.toList.all (Oper.fits S.P S.N) = true := by kernel_rfl) (c : JeW 0 ops.toList = true := by kernel_rfl) : semC S (.region id ops true) Q E σ :=
 JkH hY.mono J x j (JiA b) (λ o g => ⟨(h o g).1, λ D k m E σ l => ((h o g).2 D E σ l ⟨k, JiM m⟩) o.pos o.after o.guard⟩) d f c
def JdB (l : List Int) : List Int := l.mergeSort λ x y => decide (x <= y)
theorem JcP (l : List Int) : (JdB l).length = l.length := List.length_mergeSort _
theorem Jrp (l : List Int) (x : Int) : x ∈ JdB l ↔ x ∈ l := List.mem_mergeSort
def Jxf (P : Program) (f : FuncId) : Prop := ∀ (b c d : Nat) (zs : List Int) (w : World), Go.Sort.Holds (Value.int .i64) w b c zs.toArray -> b < w.heap.size -> zs.length < 4611686018427387904 ->
 Calls P f #[.slice (some ⟨b, c, none⟩) zs.length d] w λ e h => e = .returned (.tuple #[]) /\ ∃ n g, h = Go.Sort.grow (Go.Sort.putRow (Value.int .i64) (Go.Sort.ahead w n) b c (JdB zs).toArray) g
def Jxb (P : Program) (f : FuncId) (g : List Int -> List Int) : Prop := ∀ (b c d : Nat) (zs : List Int) (w : World), Go.Sort.Holds (Value.int .i64) w b c zs.toArray -> zs.length <= 9223372036854775807 -> zs.length <= d ->
 Calls P f #[.slice (some ⟨b, c, none⟩) zs.length d] w λ e h => e = .returned (.slice (some ⟨b, c, none⟩) (g zs).length d) /\ ∃ q, h = Go.Sort.putRow (Value.int .i64) (Go.Sort.ahead w q) b c (g zs ++ List.replicate (zs.length - (g zs).length) 0).toArray
def LOKy (P : Program) (f : FuncId) (X : Nat) (e : TypeId) (es R : List Int) (m : Nat) : Prop :=
 (∀ c w, (callFunc f c).run P w = .ok (.enter f c) w) /\
 ∀ (w : World) (h : Nat -> Prop) (g : Nat -> Option Nat) (vs : List Value), Inv w g h (stO [(X, ⟨e, 1, es.map λ x => .v (.int .i64 x)⟩)]) -> GOK w h -> Reps w g h [.own X 1 0 es.length] vs ->
  Calls P f vs.toArray w λ j i => ∃ b d, g X = some b /\ es.length <= d /\ j = .returned (.slice (some ⟨b, 0, none⟩) m d) /\ Ext w (λ b => ∃ id, g id = some b) i /\ Inv i g h (stO [(X, ⟨e, 1, R.map λ x => .v (.int .i64 x)⟩)])
theorem JpI {P : Program} {f : FuncId} {g : List Int -> List Int} (J : ∀ C w, (callFunc f C).run P w = .ok (.enter f C) w) (G : Jxb P f g) (X : Nat) (e : TypeId) (l : List Int) (ad : 0 < l.length) (hl : l.length <= 1000000) (ah : (g l).length <= l.length) :
 LOKy P f X e l (g l ++ List.replicate (l.length - (g l).length) 0) (g l).length := by
 obtain ⟨R, T⟩ : ∃ R, g l ++ List.replicate (l.length - (g l).length) 0 = R := ⟨_, rfl⟩
 have F : R.length = l.length := by rw [<- T]; simp; omega
 rw [T]
 refine ⟨J, λ w Im ρ vs d _ Z => ?_⟩
 obtain ⟨L, hv⟩ := Z
 obtain ⟨v, rfl⟩ : ∃ v, vs = [v] := by
  match vs, L with
  | [v], _ => exact ⟨v, rfl⟩
 have h1 := hv 0 _ v rfl rfl
 rcases h1.own0_inv with ⟨_, M, _⟩ | ⟨b, E, aa, e', rfl, m, N, ac, af, ae, ai⟩
 . omega
 obtain ⟨o, ⟨S, U, A⟩, ag, Q, u⟩ := d.blk X ⟨e, 1, l.map λ x => .v (.int .i64 x)⟩ b (by simp [stO]) m L1Y
 simp only [L0c, L0U] at Q
 have ab : b < w.heap.size := d.lt m
 have I : ∀ j, j < l.length -> o[j]? = some (.int .i64 l[j]!) := λ j W => by
  obtain ⟨x, s, _, q⟩ := u j (.v (.int .i64 l[j]!)) 0 (.v (.int .i64 l[j]!)) (by simp [W]) rfl
  rw [q.v_inv] at s
  simpa using s
 have hH : Go.Sort.Holds (Value.int .i64) w b 0 l.toArray := λ j W => by
  have K : j < l.length := by simpa using W
  refine ⟨?_, ?_⟩
  . rw [L0p, Jbs ⟨S, U, A⟩, I j K]; simp [K]
  . rw [L0p]; exact Jhl U A (by omega)
 refine (G b 0 E l w hH (by omega) N).mono ?_
 rintro e2 w' ⟨rfl, n, rfl⟩
 rw [T]
 have z : ∀ k, k < w.heap.size -> k ≠ b -> (Go.Sort.putRow (Value.int .i64) (Go.Sort.ahead w n) b 0 R.toArray).heap[k]? = w.heap[k]? := λ k t Y => by
  simp only [Go.Sort.putRow, Go.Sort.mapBlock, Go.Sort.ahead]; rw [L1C, if_neg (Ne.symm Y)]
 have O : (Go.Sort.putRow (Value.int .i64) (Go.Sort.ahead w n) b 0 R.toArray).heap[b]? = some (.cells (Go.Sort.putCells (Value.int .i64) 0 R.toArray o) e S) := by
  simp only [Go.Sort.putRow, Go.Sort.mapBlock, Go.Sort.ahead]
  rw [L1C, if_pos rfl, U]; rfl
 have p : w.heap.size <= (Go.Sort.putRow (Value.int .i64) (Go.Sort.ahead w n) b 0 R.toArray).heap.size := by simp [Go.Sort.putRow, Go.Sort.mapBlock, Go.Sort.ahead]
 have H : (Go.Sort.putCells (Value.int .i64) 0 R.toArray o).size = o.size := by simp [Go.Sort.putCells]
 have only : ∀ id k, stO [(X, (⟨e, 1, R.map λ x => .v (.int .i64 x)⟩ : Blk))] id = some k -> id = X /\ k = ⟨e, 1, R.map λ x => .v (.int .i64 x)⟩ := λ id k h => by
  have B := Jb1 h
  simpa using B
 refine ⟨b, E, m, N, rfl, ⟨rfl, rfl, rfl, p, λ k t B => z k t λ e => B ⟨X, e ▸ m⟩⟩, ?_⟩
 refine ⟨λ id k t q => ?_, λ id k D t q h0 => ?_, λ id k D t q h0 => ?_, d.inj, λ id D q => ?_, d.apart, λ D hI => L0Q (d.low D hI) p⟩
 . obtain ⟨rfl, rfl⟩ := only id k t
   rw [m] at q; cases q
 . obtain ⟨rfl, rfl⟩ := only id k t
   cases h0
 . obtain ⟨rfl, rfl⟩ := only id k t
   rw [m] at q; cases q
   refine ⟨_, ⟨S, O, by rw [H]; exact A⟩, λ x s => by obtain ⟨y, _, rfl⟩ := L05.1 s; rfl, by simp only [L0c, F, L0U]; rw [H]; exact Q, λ i x j c s G => ?_⟩
   rw [L07] at s
   cases M : R[i]? with
   | none => simp [M] at s
   | some y =>
    simp [M] at s; subst s
    cases j with
    | succ j => simp at G
    | zero =>
     simp at G; subst G
     have hi : i < R.length := (L0a.1 M).1
     have V : i < o.size := by rw [F] at hi; omega
     refine ⟨.int .i64 y, ?_, rfl, .im _ _ (.v _)⟩
     simp only [Go.Sort.putCells, L0U, L0R, Array.getElem?_mapIdx]; rw [L0i V]
     have : R[i] = y := (L0a.1 M).2
     simp [hi, this]
 . have : stO [(X, (⟨e, 1, l.map λ x => .v (.int .i64 x)⟩ : Blk))] id ≠ none := d.live id D q
   intro h
   apply this
   rw [Jef] at h ⊢
   by_cases B : X = id
   . rw [if_pos B] at h; cases h
   . rw [if_neg B]; rfl
theorem JsH {S : Sp} {E : Env} {σ : Jac} {K : Env -> Jac -> Prop} {d : Nat} {f : Operand} {args : Array Operand} {ats : Array TypeId} {ty : TypeId} {g : FuncId} (X : Nat) {es R : List Int} {e : TypeId} {m : Nat}
 (hL : LOKy S.P g X e es R m) (hfv : ev E f = .clo g []) (has : args.toList.map (ev E) = [.own X 1 0 es.length]) (hat : σ X = some ⟨e, 1, es.map λ x => .v (.int .i64 x)⟩) (hmR : m <= es.length) (hRl : R.length = es.length)
 (hK : K (upd (frE (inI [X]) (addS (Jao (own (S.b + d)) (fdS (inI [X]) (movI (inI [X]) (inI [X])) σ (stO [(X, ⟨e, 1, R.map λ x => .v (.int .i64 x)⟩)]))) (imp (16 * (S.b + d)) .any).2) (updO (JaU (own (S.b + d)) (fdE (inI [X]) (movI (inI [X]) (inI [X])) E)) (some d) (imp (16 * (S.b + d)) .any).1)) d (.sl 1 ((R.take m).map λ x => .v (.int .i64 x))))
  (frS (inI [X]) (addS (Jao (own (S.b + d)) (fdS (inI [X]) (movI (inI [X]) (inI [X])) σ (stO [(X, ⟨e, 1, R.map λ x => .v (.int .i64 x)⟩)]))) (imp (16 * (S.b + d)) .any).2)))
 (hX : (!S.pin X && !S.old X && !Nat.beq (X / 16) (S.b + d)) = true := by kernel_rfl)
 (hfit : ((some d).all (decide <| · < S.N) && Op.low S.N (.call { callee := .value f, args, argTypes := ats }) && decide (d < 100000)) = true := by kernel_rfl) :
 semD S (some d) (.call { callee := .value f, args, argTypes := ats }) ty K E σ := by
 simp only [L00, decide_eq_true_eq, L0W] at hfit hX
 obtain ⟨⟨hXp, hXo⟩, hXd⟩ := hX
 have hXd : X / 16 ≠ S.b + d := λ e => by rw [e, Nat.beq_refl] at hXd; cases hXd
 have hin : ∀ id, inI [X] id = true ↔ id = X := λ id => by simp [inI]
 have hnl : AV.namesL (notI (inI [X])) (es.map λ x => (.v (.int .i64 x) : AV)) = false := Jak _ _ _ λ _ => rfl
 have hnl2 : AV.namesL (notI (inI [X])) (R.map λ x => (.v (.int .i64 x) : AV)) = false := Jak _ _ _ λ _ => rfl
 have honly : only (inI [X]) σ = stO [(X, ⟨e, 1, es.map λ x => .v (.int .i64 x)⟩)] := JgB (l := [(X, ⟨e, 1, es.map λ x => .v (.int .i64 x)⟩)]) ⟨hat, trivial⟩
 intro pos after guard C H n a w Kc Q ⟨ρ, Im, M, h⟩ hKc
 obtain ⟨⟨hdst, hlow⟩, hdd⟩ := hfit
 have htN : d < S.N := by simpa using hdst
 refine ⟨λ _ _ => trivial, ?_⟩
 rw [Oper.semAt_eq _ _ _ (λ c e => by cases e)]
 obtain ⟨henter, hfn⟩ := hL
 obtain ⟨zs, hallq, hrun⟩ := Jlk H h (dst := some d) (ty := ty) (pos := pos) (after := after) (guard := guard) hfv [.own X 1 0 es.length] (.inl ⟨rfl, by rw [has, L0F]⟩) (inI [X]) (by simp [AV.namesL, AV.namesB, notI, inI]) hlow henter
 rw [hrun]
 refine ⟨λ h => by simp [FW] at h, JeR ?_⟩
 refine (hfn w Im (killR (notI (inI [X])) ρ) _ (honly ▸ h.inv.only λ id q hid hqq => by
  obtain rfl := (hin id).1 hqq
  rw [hat] at hid; cases hid; exact hnl) (h.gok H) hallq).mono λ ee w' ⟨b, cap, hb, hcap, he, hx, hi⟩ => ?_
 subst he
 have hrr : RR w w' (killR (notI (inI [X])) ρ) Im .any (.slice (some ⟨b, 0, none⟩) m cap) := ⟨none, ⟨rfl, .any _⟩, by simp [Jej]⟩
 obtain ⟨ρ3, Im3, hw, hρ3⟩ := h.lent (pin := inI [X]) H hx hi (λ _ h => h) (λ _ h => .inl h) (λ _ _ h => .inl h) (λ _ _ => rfl) (λ id q hid => by
  have := Jb1 hid
  simp only [L0u, Prod.mk.injEq] at this; obtain ⟨rfl, rfl⟩ := this
  exact ⟨(hin _).2 rfl, hnl2⟩) (λ id _ hq' => hq') hdd hrr (L0v rfl) (dst := some d) (λ d' hd' => by cases hd'; rw [<- H.N]; exact htN)
 have htC : d < C.N := by rw [<- H.N]; exact htN
 have hqX : inI [X] X = true := (hin X).2 rfl
 have hb' : killR (notI (inI [X])) ρ X = some b := hb
 have hb3 : ρ3 X = some b := by rw [hρ3 X hXd, if_pos hqX]; exact hb'
 have hf := hw.freeze H (inI [X]) (λ id hid => by
  cases hh : inI [X] id with
  | false => rfl
  | true => obtain rfl := (hin id).1 hh; rw [hid] at hXp; cases hXp) (λ id hid => by
  cases hh : inI [X] id with
  | false => rfl
  | true => obtain rfl := (hin id).1 hh; rw [hid] at hXo; cases hXo)
 have hN : ∀ (E : Env) v, upd E d v C.N = E C.N := λ E v => by unfold upd; rw [if_neg (by omega)]
 refine hKc _ _ _ _ hK ⟨_, _, M, ⟨hf.inv, λ t' y' hy' => ?_, hf.size, hf.ext, hf.rng, hf.im, by rw [hN]; exact hf.gh, by rw [hN]; exact hf.g, hf.js, hf.ms, hf.rd, hf.nodup, hf.df, hf.bk, hf.pin, hf.j0⟩⟩
 unfold upd
 split
 . rename_i ht'; subst ht'
   have hyy : y' = .slice (some ⟨b, 0, none⟩) m cap := by
    simp only [Act.put] at hy'
    rw [L2m (by rw [h.size]; exact htC)] at hy'
    exact (Option.some.inj hy').symm
   subst hyy
   obtain ⟨cur, ⟨fr, hc1, _⟩, hc2, hc3, hc4⟩ := hi.blk X ⟨e, 1, R.map λ x => .v (.int .i64 x)⟩ b (by simp [stO]) hb' L1Y
   have hlen : m = ((R.take m).map λ x => (.v (.int .i64 x) : AV)).length := by simp; omega
   have hcell : ∀ i, i < R.length -> cur[i]? = some (.int .i64 (R[i]?.getD 0)) := λ i hi' => by
    obtain ⟨x, g1, g2, g3⟩ := hc4 i (.v (.int .i64 R[i])) 0 (.v (.int .i64 R[i])) (by simp [hi']) rfl
    have := g3.v_inv
    subst this
    simpa [hi'] using g1
   conv => arg 5; rw [hlen]
   refine .im _ _ (.sl 1 _ b 0 cap (λ i _ => .int .i64 (R[i]?.getD 0)) ?_ (by rw [<- hlen]; omega) (λ e' he' => ?_) (λ i j hi' hj => ?_) (λ i e' j c he' hc' => ?_))
   . exact .inr ⟨X, by rw [JaF ρ3 (by simp [notI, hqX])]; exact hb3⟩
   . obtain ⟨x, _, rfl⟩ := L05.1 he'; rfl
   . obtain rfl : j = 0 := by omega
     have hi' : i < R.length := by rw [<- hlen] at hi'; omega
     exact ⟨by simp [World.cell?, hc1, hcell i hi'], rfl⟩
   . rw [L07] at he'
     cases hh : (R.take m)[i]? with
     | none => simp [hh] at he'
     | some x =>
      simp [hh] at he'; subst he'
      cases j with
      | zero =>
       simp at hc'; subst hc'
       rw [L0j] at hh
       split at hh
       . rw [hh]; exact .v _
       . cases hh
      | succ j => simp at hc'
 . exact hf.env t' y' hy'
def LOKs (P : Program) (f : FuncId) (X : Nat) (e : TypeId) (es R : List Int) : Prop :=
 (∀ c w, (callFunc f c).run P w = .ok (.enter f c) w) /\
 ∀ (w : World) (g : Nat -> Prop) (d : Nat -> Option Nat) (vs : List Value), Inv w d g (stO [(X, ⟨e, 1, es.map λ x => .v (.int .i64 x)⟩)]) -> GOK w g -> Reps w d g [.own X 1 0 es.length] vs ->
  Calls P f vs.toArray w λ i h => i = .returned (.tuple #[]) /\ Ext w (λ b => ∃ id, d id = some b) h /\ Inv h d g (stO [(X, ⟨e, 1, R.map λ x => .v (.int .i64 x)⟩)]) /\ ∀ b, d X = some b -> Juk w h b
theorem Jrq {P : Program} {f : FuncId} (K : ∀ E w, (callFunc f E).run P w = .ok (.enter f E) w) (I : Jxf P f) (X : Nat) (e : TypeId) (l : List Int) (ad : 0 < l.length) (hl : l.length <= 1000000) :
 LOKs P f X e l (JdB l) := by
 refine ⟨K, λ w Im ρ vs d _ Z => ?_⟩
 obtain ⟨M, hv⟩ := Z
 obtain ⟨v, rfl⟩ : ∃ v, vs = [v] := by
  match vs, M with
  | [v], _ => exact ⟨v, rfl⟩
 have h1 := hv 0 _ v rfl rfl
 rcases h1.own0_inv with ⟨_, N, _⟩ | ⟨b, S, aa, e', rfl, g, ai, ac, ag, ae, aj⟩
 . omega
 obtain ⟨m, ⟨Q, R, C⟩, ah, O, A⟩ := d.blk X ⟨e, 1, l.map λ x => .v (.int .i64 x)⟩ b (by simp [stO]) g L1Y
 simp only [L0c, L0U] at O
 have u : b < w.heap.size := d.lt g
 have J : ∀ j, j < l.length -> m[j]? = some (.int .i64 l[j]!) := λ j W => by
  obtain ⟨x, t, _, p⟩ := A j (.v (.int .i64 l[j]!)) 0 (.v (.int .i64 l[j]!)) (by simp [W]) rfl
  rw [p.v_inv] at t
  simpa using t
 have hH : Go.Sort.Holds (Value.int .i64) w b 0 l.toArray := λ j W => by
  have L : j < l.length := by simpa using W
  refine ⟨?_, ?_⟩
  . rw [L0p, Jbs ⟨Q, R, C⟩, J j L]; simp [L]
  . rw [L0p]; exact Jhl R C (by omega)
 refine (I b 0 S l w hH u (by omega)).mono ?_
 rintro e2 w' ⟨rfl, n, os, rfl⟩
 have B : ∀ k, k < w.heap.size -> k ≠ b -> (Go.Sort.grow (Go.Sort.putRow (Value.int .i64) (Go.Sort.ahead w n) b 0 (JdB l).toArray) os).heap[k]? = w.heap[k]? := λ k s Y => by
  simp only [Go.Sort.grow, Go.Sort.putRow, Go.Sort.mapBlock, Go.Sort.ahead]
  rw [Array.getElem?_append_left (by simpa using s), L1C, if_neg (Ne.symm Y)]
 have z : (Go.Sort.grow (Go.Sort.putRow (Value.int .i64) (Go.Sort.ahead w n) b 0 (JdB l).toArray) os).heap[b]? = some (.cells (Go.Sort.putCells (Value.int .i64) 0 (JdB l).toArray m) e Q) := by
  simp only [Go.Sort.grow, Go.Sort.putRow, Go.Sort.mapBlock, Go.Sort.ahead]
  rw [Array.getElem?_append_left (by simpa using u), L1C, if_pos rfl, R]; rfl
 have o : w.heap.size <= (Go.Sort.grow (Go.Sort.putRow (Value.int .i64) (Go.Sort.ahead w n) b 0 (JdB l).toArray) os).heap.size := by simp [Go.Sort.grow, Go.Sort.putRow, Go.Sort.mapBlock, Go.Sort.ahead]
 have q : (Go.Sort.putCells (Value.int .i64) 0 (JdB l).toArray m).size = m.size := by simp [Go.Sort.putCells]
 have only : ∀ id k, stO [(X, (⟨e, 1, (JdB l).map λ x => .v (.int .i64 x)⟩ : Blk))] id = some k -> id = X /\ k = ⟨e, 1, (JdB l).map λ x => .v (.int .i64 x)⟩ := λ id k h => by
  have D := Jb1 h
  simpa using D
 refine ⟨rfl, ⟨rfl, rfl, rfl, o, λ k s D => B k s λ e => D ⟨X, e ▸ g⟩⟩, ?_, λ b1 H ab e1 U => ?_⟩
 . refine ⟨λ id k s p => ?_, λ id k F s p h0 => ?_, λ id k F s p h0 => ?_, d.inj, λ id F p => ?_, d.apart, λ F hI => L0Q (d.low F hI) o⟩
   . obtain ⟨rfl, rfl⟩ := only id k s
     rw [g] at p; cases p
   . obtain ⟨rfl, rfl⟩ := only id k s
     cases h0
   . obtain ⟨rfl, rfl⟩ := only id k s
     rw [g] at p; cases p
     refine ⟨_, ⟨Q, z, by rw [q]; exact C⟩, λ x t => by obtain ⟨y, _, rfl⟩ := L05.1 t; rfl, by simp only [L0c, JcP, L0U]; rw [q]; exact O, λ i x j c t I => ?_⟩
     rw [L07] at t
     cases N : (JdB l)[i]? with
     | none => simp [N] at t
     | some y =>
      simp [N] at t; subst t
      cases j with
      | succ j => simp at I
      | zero =>
       simp at I; subst I
       have hi : i < (JdB l).length := (L0a.1 N).1
       have V : i < m.size := by rw [JcP] at hi; omega
       refine ⟨.int .i64 y, ?_, rfl, .im _ _ (.v _)⟩
       simp only [Go.Sort.putCells, L0U, L0R, Array.getElem?_mapIdx]; rw [L0i V]
       have : (JdB l)[i] = y := (L0a.1 N).2
       simp [hi, this]
   . have : stO [(X, (⟨e, 1, l.map λ x => .v (.int .i64 x)⟩ : Blk))] id ≠ none := d.live id F p
     intro h
     apply this
     rw [Jef] at h ⊢
     by_cases D : X = id
     . rw [if_pos D] at h; cases h
     . rw [if_neg D]; rfl
 . rw [g] at H; cases H
   obtain ⟨af, G, T⟩ := U
   rw [R] at G; cases G
   exact ⟨_, ⟨Q, z, by rw [q]; exact T⟩, q⟩
theorem JsG {S : Sp} {E : Env} {σ : Jac} {K : Env -> Jac -> Prop} {d : Nat} {f : Operand} {args : Array Operand} {ats : Array TypeId} {ty : TypeId} {g : FuncId} (X t : Nat) {es R : List Int} {e : TypeId}
 (hL : LOKs S.P g X e es R) (hfv : ev E f = .clo g []) (has : args.toList.map (ev E) = [.own X 1 0 es.length]) (hat : σ X = some ⟨e, 1, es.map λ x => .v (.int .i64 x)⟩) (hE : E t = .own X 1 0 es.length) (hn : 0 < es.length)
 (hK : K (upd (updO (JaU (own (S.b + d)) (fdE (inI [X]) (movI (inI [X]) (inI [X])) E)) (some d) (imp (16 * (S.b + d)) (.tup [])).1) t (.own X 1 0 es.length))
  (addS (Jao (own (S.b + d)) (fdS (inI [X]) (movI (inI [X]) (inI [X])) σ (stO [(X, ⟨e, 1, R.map λ x => .v (.int .i64 x)⟩)]))) (imp (16 * (S.b + d)) (.tup [])).2))
 (hX : (!Nat.beq (X / 16) (S.b + d) && Nat.blt t S.N && !Nat.beq d t) = true := by kernel_rfl)
 (hfit : ((some d).all (decide <| · < S.N) && Op.low S.N (.call { callee := .value f, args, argTypes := ats }) && decide (d < 100000)) = true := by kernel_rfl) :
 semD S (some d) (.call { callee := .value f, args, argTypes := ats }) ty K E σ := by
 simp only [L00, decide_eq_true_eq, L0W] at hfit hX
 obtain ⟨⟨hXd, htl⟩, htd⟩ := hX
 have htl : t < S.N := L0v htl
 have htd : d ≠ t := λ e => by rw [e, Nat.beq_refl] at htd; cases htd
 have hXd : X / 16 ≠ S.b + d := λ e => by rw [e, Nat.beq_refl] at hXd; cases hXd
 have hin : ∀ id, inI [X] id = true ↔ id = X := λ id => by simp [inI]
 have hnl : AV.namesL (notI (inI [X])) (es.map λ x => (.v (.int .i64 x) : AV)) = false := Jak _ _ _ λ _ => rfl
 have hnl2 : AV.namesL (notI (inI [X])) (R.map λ x => (.v (.int .i64 x) : AV)) = false := Jak _ _ _ λ _ => rfl
 have honly : only (inI [X]) σ = stO [(X, ⟨e, 1, es.map λ x => .v (.int .i64 x)⟩)] := JgB (l := [(X, ⟨e, 1, es.map λ x => .v (.int .i64 x)⟩)]) ⟨hat, trivial⟩
 intro pos after guard C H n a w Kc Q ⟨ρ, Im, M, h⟩ hKc
 obtain ⟨⟨hdst, hlow⟩, hdd⟩ := hfit
 have htN : d < S.N := by simpa using hdst
 refine ⟨λ _ _ => trivial, ?_⟩
 rw [Oper.semAt_eq _ _ _ (λ c e => by cases e)]
 obtain ⟨henter, hfn⟩ := hL
 obtain ⟨zs, hallq, hrun⟩ := Jlk H h (dst := some d) (ty := ty) (pos := pos) (after := after) (guard := guard) hfv [.own X 1 0 es.length] (.inl ⟨rfl, by rw [has, L0F]⟩) (inI [X]) (by simp [AV.namesL, AV.namesB, notI, inI]) hlow henter
 rw [hrun]
 refine ⟨λ h => by simp [FW] at h, JeR ?_⟩
 refine (hfn w Im (killR (notI (inI [X])) ρ) _ (honly ▸ h.inv.only λ id q hid hqq => by
  obtain rfl := (hin id).1 hqq
  rw [hat] at hid; cases hid; exact hnl) (h.gok H) hallq).mono λ ee w' ⟨he, hx, hi, hsh⟩ => ?_
 subst he
 have hrr : RR w w' (killR (notI (inI [X])) ρ) Im (.tup []) (.tuple #[]) := ⟨[], [], rfl, trivial, by simp [Jej]⟩
 obtain ⟨ρ3, Im3, hw, hρ3⟩ := h.lent (pin := inI [X]) H hx hi (λ _ h => h) (λ _ h => .inl h) (λ _ _ h => .inl h) (λ _ _ => rfl) (λ id q hid => by
  have := Jb1 hid
  simp only [L0u, Prod.mk.injEq] at this; obtain ⟨rfl, rfl⟩ := this
  exact ⟨(hin _).2 rfl, hnl2⟩) (λ id _ hq' => hq') hdd hrr (L0v rfl) (dst := some d) (λ d' hd' => by cases hd'; rw [<- H.N]; exact htN)
 have htC : d < C.N := by rw [<- H.N]; exact htN
 have hqX : inI [X] X = true := (hin X).2 rfl
 have htC2 : t < C.N := by rw [<- H.N]; exact htl
 have hN : ∀ (E : Env) v, upd E t v C.N = E C.N := λ E v => by unfold upd; rw [if_neg (by omega)]
 obtain ⟨y0, hy0⟩ : ∃ y0, a.tmps[t]? = some y0 := ⟨_, L0i (by rw [h.size]; exact htC2)⟩
 have hr0 := h.env t y0 hy0; rw [hE] at hr0
 refine hKc _ _ _ _ hK ⟨_, _, M, ⟨hw.inv, λ t' y' hy' => ?_, hw.size, hw.ext, hw.rng, hw.im, by rw [hN]; exact hw.gh, by rw [hN]; exact hw.g, hw.js, hw.ms, hw.rd, hw.nodup, hw.df, hw.bk, hw.pin, hw.j0⟩⟩
 unfold upd
 split
 . rename_i ht'; subst ht'
   have hyy : y' = y0 := by
    simp only [Act.put] at hy'; rw [L1n htd] at hy'
    rw [hy0] at hy'; exact (Option.some.inj hy').symm
   subst hyy
   rcases hr0.own0_inv with ⟨_, hz, _⟩ | ⟨b, cap, cur, e', rfl, hb, hnc, hcap, hb0, hsz, hnz⟩
   . omega
   have hb' : killR (notI (inI [X])) ρ X = some b := by rw [JaF ρ (by simp [notI, hqX])]; exact hb
   obtain ⟨cur', hc', hs'⟩ := hsh b hb' cur e' hb0
   have hb3 : ρ3 X = some b := by rw [hρ3 X hXd, if_pos hqX]; exact hb'
   exact .own X 1 _ b cap cur' e' hb3 hnc hcap hc' (by rw [hs']; exact hsz) hnz
 . exact hw.env t' y' hy'
abbrev entS (p : ByteArray × AV) : AV := .tup [.v (.string p.1), p.2]
def idxS (n : ByteArray) : List (ByteArray × AV) -> Option Nat
 | [] => none
 | p :: r => if p.1 = n then some 0 else (idxS n r).map (· + 1)
def JbL (n : ByteArray) : List (ByteArray × AV) -> Option AV
 | [] => none
 | p :: r => if p.1 = n then some p.2 else JbL n r
def JlR (l : List (ByteArray × AV)) (n : ByteArray) (v : AV) : List (ByteArray × AV) := match idxS n l with
 | none => l ++ [(n, v)]
 | some j => l.set j (n, v)
theorem Jkv {n : ByteArray} {v : AV} : ∀ {l : List (ByteArray × AV)}, JbL n l = some v -> (n, v) ∈ l
 | p :: r, h => by
  rw [JbL] at h
  split at h
  . rename_i e; cases h; subst e; simp
  . exact L1z _ (Jkv h)
def JrW (b : List MapEntry) (l : List (ByteArray × AV)) : Prop := b.length = l.length /\ ∀ (i : Nat) (m : MapEntry) (p : ByteArray × AV), b[i]? = some m -> l[i]? = some p -> m.key = .string p.1
theorem Je0 (n : ByteArray) : ∀ (b : List MapEntry) (l : List (ByteArray × AV)) (i : Nat), JrW b l ->
 (idxS n l = none /\ JbL n l = none /\ Instr.findNow .string (.string n) b i = some none) \/
 ∃ j p e, idxS n l = some j /\ l[j]? = some p /\ p.1 = n /\ b[j]? = some e /\ JbL n l = some p.2 /\ Instr.findNow .string (.string n) b i = some (some (i + j, e.val))
 | [], [], _, _ => .inl ⟨rfl, rfl, rfl⟩
 | [], _ :: _, _, h => by have := h.1; simp at this
 | _ :: _, [], _, h => by have := h.1; simp at this
 | e :: c, p :: l, i, h => by
  have o := h.2 0 e p rfl rfl
  have A : JrW c l := ⟨by simpa using h.1, λ j m q y z => h.2 (j + 1) m q (by simpa using y) (by simpa using z)⟩
  by_cases hp : p.1 = n
  . refine .inr ⟨0, p, e, by rw [idxS, if_pos hp], rfl, hp, rfl, by rw [JbL, if_pos hp], ?_⟩
    simp [Instr.findNow, Instr.sameNow, o, hp, (MapKept.bytes_beq n n).2 rfl]
  . have k : Instr.findNow .string (.string n) (e :: c) i = Instr.findNow .string (.string n) c (i + 1) := by
     have : (n == p.1) = false := Bool.eq_false_iff.2 λ e => hp ((MapKept.bytes_beq n p.1).1 e).symm
     simp [Instr.findNow, Instr.sameNow, o, this]
    rcases Je0 n c l (i + 1) A with ⟨d, f, g⟩ | ⟨j, q, s, d, f, g, t, u, w⟩
    . exact .inl ⟨by rw [idxS, if_neg hp, d]; rfl, by rw [JbL, if_neg hp, f], by rw [k, g]⟩
    . exact .inr ⟨j + 1, q, s, by rw [idxS, if_neg hp, d]; rfl, by simpa using f, g, by simpa using t, by rw [JbL, if_neg hp, u], by rw [k, w]; congr 3; omega⟩
section
variable {w : World} {ρ : Nat -> Option Nat} {Im : Nat -> Prop}
theorem JmA {l : List (ByteArray × AV)} {b : Nat} (h : JrY w ρ Im (l.map entS) b) : ∃ c d, w.heap[b]? = some (.map c d) /\ JrW c.toList l /\
 (∀ (i : Nat) (m : MapEntry) (p : ByteArray × AV), c.toList[i]? = some m -> l[i]? = some p -> Rep w ρ Im p.2 m.val) /\ Bn c d := by
 obtain ⟨c, d, t, o, u⟩ := h
 have j : ∀ (i : Nat) (m : MapEntry) (p : ByteArray × AV), c.toList[i]? = some m -> l[i]? = some p -> m.key = .string p.1 /\ Rep w ρ Im p.2 m.val := λ i m p f g => by
  obtain ⟨v, k, y⟩ := u i m (by rw [<- L0P]; exact f)
  rw [L07, g] at k; simp only [L0I, Option.some.injEq, AV.tup.injEq, List.cons.injEq, AV.v.injEq, and_true] at k; obtain ⟨q, s⟩ := k
  exact ⟨q.symm, s ▸ y⟩
 refine ⟨c, d, t, ⟨by simpa using o.1.symm, λ i m p f g => (j i m p f g).1⟩, λ i m p f g => (j i m p f g).2, o.2⟩
end
theorem Joe {S : Sp} {dst : Option Nat} {t ty kt et : TypeId} {x y : Operand} {K : Env -> Jac -> Prop} {E : Env} {σ : Jac} {id e : Nat} {l : List (ByteArray × AV)} {n : ByteArray} {z : Value}
 (hx : ev E x = .mref id) (h : ev E y = .v (.string n)) (hs : σ id = some ⟨e, 0, l.map entS⟩) (ht : S.P.underlying t = some (.map kt et)) (hk : S.P.underlying kt = some .string) (hz : tz S.P et = some z)
 (F : ∀ v, JbL n l = some v -> K (updO E dst (.tup [v, B true])) σ) (D : JbL n l = none -> K (updO E dst (.tup [ofC z, B false])) σ)
 (o : (dst.all (decide <| · < S.N) && Op.low S.N (.lookup t x y true)) = true := by kernel_rfl) : semD S dst (.lookup t x y true) ty K E σ := by
 intro ad s A C H nn a w Kc Q ⟨ρ, W, M, T⟩ I
 simp only [L00] at o; obtain ⟨J, L⟩ := o
 have g : ∀ d, dst = some d -> d < C.N := λ d hd => by subst hd; rw [<- H.N]; simpa using J
 have U : ∀ u, u ∈ (Op.lookup t x y true).operands -> Rep w ρ W (ev E u) (a.eval u) := λ u hu => Jb8 T.env (by rw [T.size, <- H.N]; exact JbP L hu)
 have O := U x (by simp [Op.operands])
 have R := U y (by simp [Op.operands])
 rw [hx] at O; rw [h] at R; obtain ⟨b, aa, ac⟩ := O.mref_inv; have ab := R.v_inv
 obtain ⟨f, ae, hb, he, hv, af⟩ := JmA (T.inv.map id _ b hs ac rfl)
 have Y := MapKept.run_checkKey (P := S.P) (w := w) hk (k := .string n) trivial f.isEmpty 9999
 have V : ∀ r, Instr.findNow .string (.string n) f.toList 0 = some r -> (execOp a.eval ⟨dst, .lookup t x y true, ty, ad, s, A⟩).run S.P w = .ok (.value (.tuple (match r with | some (_, v) => #[v, .bool true] | none => #[z, .bool false]))) w := λ r Z => by
  simp only [execOp, aa, ab, Instr.lookup, Sem.run_bind, run_underlying ht w, Result.andThen_ok, MapKept.run_getObj_map hb, Sem.run_pure, Y, MapKept.run_findKey hk Z]
  cases r with
  | none => simp [JcO hz w, Sem.run_bind, Result.andThen_ok]
  | some q => simp [Sem.run_bind, Result.andThen_ok]
 rcases Je0 n f.toList l 0 he with ⟨_, X, h3⟩ | ⟨j, p, m, _, X, _, h4, h5, h6⟩
 . exact JaN (λ _ e => by cases e) (V _ h3) (I _ _ _ _ (D X) ⟨ρ, W, M, T.put H.G g (.tup _ [z, .bool false] rfl λ j c y i h => by
    match j with
    | 0 => simp at i h; subst i; subst h; exact JeB z
    | 1 => simp at i h; subst i; subst h; exact .im _ _ (.v _))⟩)
 . have Z := hv j m p h4 X
   exact JaN (λ _ e => by cases e) (V _ h6) (I _ _ _ _ (F _ h5) ⟨ρ, W, M, T.put H.G g (.tup _ [m.val, .bool true] rfl λ j c y i h => by
    match j with
    | 0 => simp at i h; subst i; subst h; exact Z
    | 1 => simp at i h; subst i; subst h; exact .im _ _ (.v _))⟩)
theorem Ji6 {S : Sp} {t ty kt et : TypeId} {x y v : Operand} {K : Env -> Jac -> Prop} {E : Env} {σ : Jac} {id e : Nat} {l : List (ByteArray × AV)} {n : ByteArray}
 (hx : ev E x = .mref id) (hy : ev E y = .v (.string n)) (hs : σ id = some ⟨e, 0, l.map entS⟩) (ht : S.P.underlying t = some (.map kt et)) (hk : S.P.underlying kt = some .string)
 (h : K E (updS σ id ⟨e, 0, (JlR l n (ev E v)).map entS⟩))
 (T : Op.low S.N (.mapUpdate t x y v) = true := by kernel_rfl) : semD S none (.mapUpdate t x y v) ty K E σ := by
 intro ah aa ab C H nn a w Kc Q ⟨ρ, Im, M, X⟩ F
 have A : ∀ u, u ∈ (Op.mapUpdate t x y v).operands -> Rep w ρ Im (ev E u) (a.eval u) := λ u hu => Jb8 X.env (by rw [X.size, <- H.N]; exact JbP T hu)
 have V := A x (by simp [Op.operands])
 have W := A y (by simp [Op.operands])
 have U := A v (by simp [Op.operands])
 rw [hx] at V; rw [hy] at W; obtain ⟨b, Y, z⟩ := V.mref_inv; have Z := W.v_inv
 obtain ⟨c, s, B, L, hv, I⟩ := JmA (X.inv.map id _ b hs z rfl)
 have J := MapKept.run_checkKey (P := S.P) (w := w) hk (k := .string n) trivial false 9999
 have o := L.1; rw [L0z] at o
 rcases Je0 n c.toList l 0 L with ⟨D, h2, h3⟩ | ⟨j, p, m, D, h2, h0, h4, h5, h6⟩
 . refine Jf5 (λ _ e => by cases e) (w' := { w with heap := w.heap.setIfInBounds b (.map (c.push { key := .string n, val := a.eval v, born := s }) (s + 1)) }) ?_ (F _ _ _ _ h ⟨ρ, Im, M, ?_⟩)
   . simp [execOp, Y, Z, Instr.mapUpdate, Sem.run_bind, run_underlying ht w, Result.andThen_ok, MapKept.run_getObj_map B, J, MapKept.run_findKey hk h3, MapKept.run_setObj_map _ B, Result.andThen]
   . refine (X.turnMap H.G hs z B rfl ⟨?_, JuC I _ _⟩ λ i m f => ?_)
     . simp only [JlR, D]; simp; omega
     . simp only [JlR, D]; rw [Array.getElem?_push] at f
       split at f
       . rename_i hi
         cases f
         refine ⟨ev E v, ?_, U⟩
         rw [L07, hi, o, L0o (L09 _), L1v]; rfl
       . have ac : i < c.size := (L0m.1 f).1
         cases hp : l[i]? with
         | none => rw [L1X] at hp; omega
         | some p =>
          have g : c.toList[i]? = some m := by rw [L0P]; exact f
          refine ⟨p.2, ?_, hv i m p g hp⟩
          rw [L07, L0k (by omega), hp, L.2 i m p g hp]; rfl
 . rw [L0p] at h6
   have ae : m.key = .string n := by rw [L.2 j m p h4 h2, h0]
   have R : c[j]? = some m := by rw [<- L0P]; exact h4
   refine Jf5 (λ _ e => by cases e) (w' := { w with heap := w.heap.setIfInBounds b (.map (c.modify j λ e => { e with key := .string n, val := a.eval v }) s) }) ?_ (F _ _ _ _ h ⟨ρ, Im, M, ?_⟩)
   . have ag := MapKept.run_keyThatStays (P := S.P) (w := w) (d := .string) (k := .string n) trivial
     simp [execOp, Y, Z, Instr.mapUpdate, Sem.run_bind, run_underlying ht w, Result.andThen_ok, MapKept.run_getObj_map B, J, MapKept.run_findKey hk h6, R, ae, ag, MapKept.run_setObj_map _ B, Result.andThen]
   . refine (X.turnMap H.G hs z B rfl ⟨?_, Jpp I j _ _⟩ λ i q f => ?_)
     . simp only [JlR, D]; simp; omega
     . simp only [JlR, D]; rw [L1C] at f
       have ad : j < l.length := (L0a.1 h2).1
       split at f
       . rename_i e; subst e; rw [R] at f
         cases f
         exact ⟨ev E v, by rw [L07, List.getElem?_set_self ad]; rfl, U⟩
       . rename_i af
         have ac : i < c.size := (L0m.1 f).1
         cases hp : l[i]? with
         | none => rw [L1X] at hp; omega
         | some p =>
          have g : c.toList[i]? = some q := by rw [L0P]; exact f
          refine ⟨p.2, ?_, hv i q p g hp⟩
          rw [L07, List.getElem?_set_ne af, hp, L.2 i q p g hp]; rfl
theorem IRep.mp_inv {w : World} {Im : Nat -> Prop} {es : List AV} {y : Value} (h : IRep w Im (.mp es) y) : (es = [] /\ y = .map none) \/
 ∃ (b : Nat) (c : Array MapEntry) (d : Nat) (f : Nat -> AV), y = .map (some b) /\ w.heap[b]? = some (.map c d) /\ es.length = c.size /\ (∀ (i : Nat) (m : MapEntry), c[i]? = some m -> es[i]? = some (.tup [.v m.key, f i])) /\ ∀ (i : Nat) (m : MapEntry), c[i]? = some m -> IRep w Im (f i) m.val := by
 cases h with
 | mpnil => exact .inl ⟨rfl, rfl⟩
 | mp _ b c d f j k l g h => exact .inr ⟨b, c, d, f, rfl, k, l.1, g, h⟩
theorem Jod {S : Sp} {dst : Option Nat} {t ty kt et : TypeId} {x y : Operand} {K : Env -> Jac -> Prop} {E : Env} {σ : Jac} {l : List (ByteArray × AV)} {n : ByteArray} {z : Value}
 (hx : ev E x = .mp (l.map entS)) (hy : ev E y = .v (.string n)) (ht : S.P.underlying t = some (.map kt et)) (hk : S.P.underlying kt = some .string) (hz : tz S.P et = some z)
 (W : ∀ v, JbL n l = some v -> K (updO E dst (.tup [v, B true])) σ) (D : JbL n l = none -> K (updO E dst (.tup [ofC z, B false])) σ)
 (L : (dst.all (decide <| · < S.N) && Op.low S.N (.lookup t x y true)) = true := by kernel_rfl) : semD S dst (.lookup t x y true) ty K E σ := by
 intro ae s A C H nn a w Kc Q ⟨X, O, M, hw⟩ T
 simp only [L00] at L; obtain ⟨Y, Z⟩ := L
 have o : ∀ d, dst = some d -> d < C.N := λ d hd => by subst hd; rw [<- H.N]; simpa using Y
 have af : ∀ u, u ∈ (Op.lookup t x y true).operands -> Rep w X O (ev E u) (a.eval u) := λ u hu => Jb8 hw.env (by rw [hw.size, <- H.N]; exact JbP Z hu)
 have ab := af x (by simp [Op.operands])
 have ac := af y (by simp [Op.operands])
 rw [hx] at ab; rw [hy] at ac; have ad := ac.v_inv
 have F : ∀ {v : AV} {yv : Value}, Rep w X O v yv -> ∀ b : Bool, Rep w X O (.tup [v, B b]) (.tuple #[yv, .bool b]) := λ {v yv} hv b => .tup _ [yv, .bool b] rfl λ j c q hc hq => by
  match j with
  | 0 => simp at hc hq; subst hc; subst hq; exact hv
  | 1 => simp at hc hq; subst hc; subst hq; exact .im _ _ (.v _)
 cases ab with
 | im _ _ hi =>
  rcases hi.mp_inv with ⟨ag, V⟩ | ⟨b, g, ai, f, V, hb, hl, J, h⟩
  . have hl : l = [] := by simpa using ag
    subst hl
    have U := MapKept.run_checkKey (P := S.P) (w := w) hk (k := .string n) trivial true 9999
    have ah := MapKept.run_findKey (P := S.P) (w := w) hk (k := .string n) (l := []) (a := none) rfl
    have I : (execOp a.eval ⟨dst, .lookup t x y true, ty, ae, s, A⟩).run S.P w = .ok (.value (.tuple #[z, .bool false])) w := by
     simp only [execOp, V, ad, Instr.lookup, Sem.run_bind, run_underlying ht w, Result.andThen_ok, Sem.run_pure, Array.isEmpty_empty, U, ah]
     simp [JcO hz w, Sem.run_bind, Result.andThen_ok]
    exact JaN (λ _ e => by cases e) I (T _ _ _ _ (D rfl) ⟨X, O, M, hw.put H.G o (F (JeB z) false)⟩)
  . have he : JrW g.toList l := ⟨by simpa using hl.symm, λ i m p hm hp => by
     have R := J i m (by rw [<- L0P]; exact hm)
     rw [L07, hp] at R; simp only [L0I, Option.some.injEq, AV.tup.injEq, List.cons.injEq, AV.v.injEq, and_true] at R
     exact R.1.symm⟩
    have hv : ∀ (i : Nat) (m : MapEntry) (p : ByteArray × AV), g.toList[i]? = some m -> l[i]? = some p -> Rep w X O p.2 m.val := λ i m p hm hp => by
     have aa : g[i]? = some m := by rw [<- L0P]; exact hm
     have R := J i m aa; rw [L07, hp] at R; simp only [L0I, Option.some.injEq, AV.tup.injEq, List.cons.injEq, AV.v.injEq, and_true] at R
     rw [R.2]; exact .im _ _ (h i m aa)
    have U := MapKept.run_checkKey (P := S.P) (w := w) hk (k := .string n) trivial g.isEmpty 9999
    have I : ∀ r, Instr.findNow .string (.string n) g.toList 0 = some r -> (execOp a.eval ⟨dst, .lookup t x y true, ty, ae, s, A⟩).run S.P w = .ok (.value (.tuple (match r with | some (_, v) => #[v, .bool true] | none => #[z, .bool false]))) w := λ r hr => by
     simp only [execOp, V, ad, Instr.lookup, Sem.run_bind, run_underlying ht w, Result.andThen_ok, MapKept.run_getObj_map hb, Sem.run_pure, U, MapKept.run_findKey hk hr]
     cases r with
     | none => simp [JcO hz w, Sem.run_bind, Result.andThen_ok]
     | some q => simp [Sem.run_bind, Result.andThen_ok]
    rcases Je0 n g.toList l 0 he with ⟨_, h2, h3⟩ | ⟨j, p, m, _, h2, _, h4, h5, h6⟩
    . exact JaN (λ _ e => by cases e) (I _ h3) (T _ _ _ _ (D h2) ⟨X, O, M, hw.put H.G o (F (JeB z) false)⟩)
    . exact JaN (λ _ e => by cases e) (I _ h6) (T _ _ _ _ (W _ h5) ⟨X, O, M, hw.put H.G o (F (hv j m p h4 h2) true)⟩)
theorem Ji3 {S : Sp} {E : Env} {σ : Jac} {K : Env -> Jac -> Prop} {dst : Option Nat} {f : Operand} {args : Array Operand} {j : Array TypeId} {ty : TypeId} {g : FuncId} {xs bs : List AV} (d : List Nat) {l l' : List (Nat × Blk)} {r : AV}
 (C : LOK S.P g (inI d) (bs ++ xs) (stO l) r (stO l')) (w : ev E f = .clo g (.v (.tuple #[]) :: bs)) (t : args.toList.map (ev E) = xs) (o : atL σ l)
 (y : AV.namesL (notI (inI (l.map (·.1)))) (bs ++ xs) = false) (s : Jcq (inI (l.map (·.1))) l = true) (u : Jcq (inI (l.map (·.1))) l' = true)
 (B : K (updO (JaU (own (S.b + dst.getD 99999)) (fdE (inI (l.map (·.1))) (movI (inI (l.map (·.1))) (inI d)) E)) dst (imp (16 * (S.b + dst.getD 99999)) r).1)
  (addS (Jao (own (S.b + dst.getD 99999)) (fdS (inI (l.map (·.1))) (movI (inI (l.map (·.1))) (inI d)) σ (stO l'))) (imp (16 * (S.b + dst.getD 99999)) r).2))
 (p : l.map (·.1) = l'.map (·.1) := by rfl) (hsp : ∀ id, id ∈ l.map (·.1) -> S.pin id = true -> inI d id = true := by intro id D F; first | (cases F; done) | (simp_all [inI, spL, spR]; done))
 (h : (dst.all (decide <| · < S.N) && Op.low S.N (.call { callee := .value f, args, argTypes := j }) && decide (dst.getD 99999 < 100000)) = true := by kernel_rfl) (q : rlen r <= 16 := by exact L0v rfl) :
 semD S dst (.call { callee := .value f, args, argTypes := j }) ty K E σ := by
 simp only [L00, decide_eq_true_eq] at h
 have c : ∀ {m : List (Nat × Blk)}, Jcq (inI (l.map (·.1))) m = true -> ∀ id k, stO m id = some k -> AV.namesL (notI (inI (l.map (·.1)))) k.es = false := λ {m} s id k i => by
  simp only [Jcq, L0f] at s
  simpa using s (id, k) (Jb1 i)
 refine Jia w (bs ++ xs) (.inr ⟨bs, rfl, by rw [t]⟩) (inI (l.map (·.1))) (inI d) (by rw [JgB o]; exact C) y (λ id k i y => ?_) (λ id k i => ⟨?_, c u id k i⟩) (λ id z A => hsp id (Jqb A) z) (by simp [h.1]) q h.2 B
 . cases hs : stO l id with
   | none => exact absurd (L0A.1 y) (Jeg.1 hs)
   | some b =>
    have := Jmq o hs
    rw [i] at this; cases this
    exact c s id k hs
 . rw [p]; exact L0A.2 (L05.2 ⟨_, Jb1 i, rfl⟩)
theorem Jjj {S : Sp} (g : JcV S) {id : Nat} {ops : Array Oper} {Q : Exit -> Env -> Jac -> Prop} {E : Env} {σ : Jac} (h : regC S true ops (Q .normal) E σ)
 (b : (ops.toList.all (Oper.fits S.P S.N) && allQ S.P ops 0 ops.toList) = true := by kernel_rfl) : semC S (.region id ops true) Q E σ := by
 intro C H n R f a w ⟨m, l, M, k⟩
 simp only [L00] at b; have i := JjY b.2; unfold regC at h; rw [Jcl] at h
 have j := Jb3 (λ _ _ c => JfS g _ 0 (λ _ _ h => h) c) _ _ h
 have d : St C E σ a w := ⟨_, _, _, k⟩
 exact Jcj H ops b.1 i n (Q .normal) R _ _ a w (λ E σ a w c d => f .normal E σ a w c d) j d id
theorem JlB {S : Sp} [hY : Plain S] {id : Nat} {ops : Array Oper} {Q : Exit -> Env -> Jac -> Prop} {E : Env} {σ : Jac} (F : List Nat) (h : regC S true ops (Q .normal) (frE (inI F) σ E) (frS (inI F) σ))
 (f : ∀ id, S.pin id = true -> inI F id = false := by intro id b; cases b) (d : ∀ id, S.old id = true -> inI F id = false := by intro id b; cases b)
 (c : (ops.toList.all (Oper.fits S.P S.N) && allQ S.P ops 0 ops.toList) = true := by kernel_rfl) : semC S (.region id ops true) Q E σ :=
 Jh3 F (Jjj hY.mono h c) f d
end Go.Vai
set_option maxRecDepth 100000
namespace Go.Proofs.YtlecbpkidomjbaaGreatDoor
open Go.Vai Go Go.Proofs
open Go.Proofs.Tryz
theorem nb {n m : Nat} (h : n.ble m = true) : n <= m := L0v h
abbrev TyF (t : Nat) (d : Bool) (f : Nat) (g : Option TypeId) (h : Option (Nat × TypeId)) (i : Option (List (Nat × TypeId))) (j : Option IntKind) (k : Bool) (l : Option Bool) (m : Nat) (o : Option Nat) (b : Option (List Nat)) (c : Bool) : Prop := tund prog t = d /\ tsz prog t = f /\ tel prog t = g /\ tarr prog t = h /\ tfld prog t = i /\ tint prog t = j /\ tstr prog t = k /\ tagg prog t = l /\ tby prog t = m /\ tkind prog t = o /\ teq prog t = b /\ tpt prog t = c
theorem tyf {t : Nat} {d : Bool} {f : Nat} {g : Option TypeId} {i : Option (Nat × TypeId)} {j : Option (List (Nat × TypeId))} {k : Option IntKind} {l : Bool} {m : Option Bool} {o : Nat} {p : Option Nat} {b : Option (List Nat)} {c : Bool} (h : (tund prog t, tsz prog t, tel prog t, tarr prog t, tfld prog t, tint prog t, tstr prog t, tagg prog t, tby prog t, tkind prog t, teq prog t, tpt prog t) = (d, f, g, i, j, k, l, m, o, p, b, c)) : TyF t d f g i j k l m o p b c := by simpa only [TyF, Prod.mk.injEq] using h
abbrev TyA (t a k : Nat) : Prop := TyF t true a none none none none false (some false) k none none false
abbrev TyB (t a e k : Nat) : Prop := TyF t true a (some e) none none none false (some false) k none none false
abbrev zs : AV := AV.v (Value.slice none 0 0)
abbrev zu : AV := AV.v (Value.int IntKind.u32 0)
abbrev zb : AV := AV.v (Value.int IntKind.u8 0)
abbrev zi : AV := AV.v (Value.int IntKind.i64 (0))
abbrev TzA (t : Nat) (a : AV) : Prop := tzA prog t = (some a : Option AV)
theorem tza {t : Nat} {a : AV} (h : tzA prog t = some a) : TzA t a := h
@[go_sem] theorem tAll0 : TyA 0 1 0 /\ TzA 0 (AV.tup []) /\ TyF 2 true 1 none none none (some .i64) false (some false) 8 (some 0) none false /\ TzA 2 zi /\ TyF 3 true 1 none none none (some .i64) false (some false) 8 (some 0) none false /\ TzA 3 zi /\ TyF 4 true 1 none none none none false (some false) 1 (some 1) none false /\ TzA 4 (AV.v (Value.bool false)) /\ TyF 5 true 1 none none none (some .u8) false (some false) 1 (some 0) none false /\ TzA 5 zb /\ TyF 9 true 1 none none none none true (some false) 16 (some 2) none false /\ TzA 9 (AV.v (Value.string ByteArray.empty)) /\ TyA 20 1 16 /\ TzA 20 (AV.v Value.nilIface) /\ TyB 22 1 105 24 /\ TzA 22 zs /\ TyB 23 1 107 24 /\ TzA 23 zs /\ TyB 24 1 96 24 /\ TzA 24 zs /\ TyB 25 1 3 24 /\ TzA 25 zs /\ TyB 26 1 139 24 /\ TzA 26 zs /\ TyF 28 true 7 none none (some [(0, 22), (1, 23), (2, 24), (3, 25), (4, 26), (5, 25), (6, 25)]) none false (some true) 168 none none false /\ TzA 28 (AV.agg [zs, zs, zs, zs, zs, zs, zs]) /\ TyB 30 1 104 24 /\ TzA 30 zs /\ TyB 31 1 62 24 /\ TzA 31 zs := by repeat (first | refine ⟨tyf (by kernel_rfl), ?_⟩ | refine ⟨tza (by kernel_rfl), ?_⟩ | exact tyf (by kernel_rfl) | exact tza (by kernel_rfl))
@[go_sem] theorem tAll1 : TyB 32 1 93 24 /\ TzA 32 zs /\ TyB 33 1 100 24 /\ TzA 33 zs /\ TyF 35 true 4 none none (some [(0, 3), (1, 3), (2, 9), (3, 9)]) none false (some true) 48 none (some [0, 0, 2, 2]) false /\ TzA 35 (AV.agg [zi, zi, AV.v (Value.string ByteArray.empty), AV.v (Value.string ByteArray.empty)]) /\ TyB 36 1 199 24 /\ TzA 36 zs /\ TyF 37 true 5 none none (some [(0, 35), (4, 36)]) none false (some true) 72 none none false /\ TzA 37 (AV.agg [zi, zi, AV.v (Value.string ByteArray.empty), AV.v (Value.string ByteArray.empty), zs]) /\ TyF 38 true 5 none none (some [(0, 35), (4, 36)]) none false (some true) 72 none none false /\ TzA 38 (AV.agg [zi, zi, AV.v (Value.string ByteArray.empty), AV.v (Value.string ByteArray.empty), zs]) /\ TyB 39 1 9 24 /\ TzA 39 zs /\ TyF 41 true 13 none none (some [(0, 30), (1, 31), (2, 32), (3, 33), (4, 25), (5, 9), (6, 38), (11, 9), (12, 39)]) none false (some true) 248 none none false /\ TzA 41 (AV.agg [zs, zs, zs, zs, zs, AV.v (Value.string ByteArray.empty), zi, zi, AV.v (Value.string ByteArray.empty), AV.v (Value.string ByteArray.empty), zs, AV.v (Value.string ByteArray.empty), zs]) /\ TyB 44 1 41 24 /\ TzA 44 zs /\ TyB 46 1 84 24 /\ TzA 46 zs /\ TyF 47 true 1 none none none (some .i64) false (some false) 8 (some 0) none false /\ TzA 47 zi /\ TyA 48 1 0 /\ TzA 48 (AV.tup [zs, zi]) /\ TyB 52 1 58 24 /\ TzA 52 zs /\ TyA 53 1 0 /\ TzA 53 (AV.tup [zs, zi]) /\ TyF 56 true 2 none none (some [(0, 3), (1, 3)]) none false (some true) 16 none (some [0, 0]) false /\ TzA 56 (AV.agg [zi, zi]) := by repeat (first | refine ⟨tyf (by kernel_rfl), ?_⟩ | refine ⟨tza (by kernel_rfl), ?_⟩ | exact tyf (by kernel_rfl) | exact tza (by kernel_rfl))
@[go_sem] theorem tAll2 : TyF 58 true 5 none none (some [(0, 3), (1, 3), (2, 56), (4, 3)]) none false (some true) 40 none (some [0, 0, 0, 0, 0]) false /\ TzA 58 (AV.agg [zi, zi, zi, zi, zi]) /\ TyF 60 true 2 none none (some [(0, 3), (1, 3)]) none false (some true) 16 none (some [0, 0]) false /\ TzA 60 (AV.agg [zi, zi]) /\ TyF 62 true 6 none none (some [(0, 3), (1, 3), (2, 60), (4, 60)]) none false (some true) 48 none (some [0, 0, 0, 0, 0, 0]) false /\ TzA 62 (AV.agg [zi, zi, zi, zi, zi, zi]) /\ TyA 63 1 0 /\ TzA 63 (AV.tup [zs, zi]) /\ TyF 66 true 2 none none (some [(0, 25), (1, 9)]) none false (some true) 40 none none false /\ TzA 66 (AV.agg [zs, AV.v (Value.string ByteArray.empty)]) /\ TyA 67 1 0 /\ TzA 67 (AV.tup [AV.v (Value.agg { toList := [Value.slice none 0 0, Value.string ByteArray.empty] }), zi]) /\ TyB 69 1 5 24 /\ TzA 69 zs /\ TyF 70 true 2 none none (some [(0, 9), (1, 46)]) none false (some true) 40 none none false /\ TzA 70 (AV.agg [AV.v (Value.string ByteArray.empty), zs]) /\ TyF 71 true 2 none none (some [(0, 9), (1, 46)]) none false (some true) 40 none none false /\ TzA 71 (AV.agg [AV.v (Value.string ByteArray.empty), zs]) /\ TyB 75 1 66 24 /\ TzA 75 zs /\ TyF 76 true 4 none none (some [(0, 3), (1, 46), (2, 9), (3, 75)]) none false (some true) 72 none none false /\ TzA 76 (AV.agg [zi, zs, AV.v (Value.string ByteArray.empty), zs]) /\ TyF 77 true 4 none none (some [(0, 3), (1, 46), (2, 9), (3, 75)]) none false (some true) 72 none none false /\ TzA 77 (AV.agg [zi, zs, AV.v (Value.string ByteArray.empty), zs]) /\ TyA 78 1 0 /\ TzA 78 (AV.tup [AV.v (Value.agg { toList := [Value.int IntKind.i64 (0), Value.slice none 0 0, Value.string ByteArray.empty, Value.slice none 0 0] }), zi]) /\ TyB 80 1 88 24 /\ TzA 80 zs /\ TyA 81 1 0 /\ TzA 81 (AV.tup [zs, zi]) := by repeat (first | refine ⟨tyf (by kernel_rfl), ?_⟩ | refine ⟨tza (by kernel_rfl), ?_⟩ | exact tyf (by kernel_rfl) | exact tza (by kernel_rfl))
@[go_sem] theorem tAll3 : TyF 84 true 5 none none (some [(0, 3), (1, 3), (2, 3), (3, 3), (4, 9)]) none false (some true) 48 none (some [0, 0, 0, 0, 2]) false /\ TzA 84 (AV.agg [zi, zi, zi, zi, AV.v (Value.string ByteArray.empty)]) /\ TyF 88 true 3 none none (some [(0, 3), (1, 3), (2, 3)]) none false (some true) 24 none (some [0, 0, 0]) false /\ TzA 88 (AV.agg [zi, zi, zi]) /\ TyB 91 1 193 24 /\ TzA 91 zs /\ TyF 93 true 2 none none (some [(0, 3), (1, 91)]) none false (some true) 32 none none false /\ TzA 93 (AV.agg [zi, zs]) /\ TyF 96 true 4 none none (some [(0, 3), (1, 3), (2, 25), (3, 23)]) none false (some true) 64 none none false /\ TzA 96 (AV.agg [zi, zi, zs, zs]) /\ TyB 98 1 141 24 /\ TzA 98 zs /\ TyF 100 true 2 none none (some [(0, 98), (1, 3)]) none false (some true) 32 none none false /\ TzA 100 (AV.agg [zs, zi]) /\ TyF 104 true 2 none none (some [(0, 3), (1, 3)]) none false (some true) 16 none (some [0, 0]) false /\ TzA 104 (AV.agg [zi, zi]) /\ TyF 105 true 2 none (some (2, 3)) none none false (some true) 16 none none false /\ TzA 105 (AV.agg [zi, zi]) /\ TyF 107 true 3 none (some (3, 3)) none none false (some true) 24 none none false /\ TzA 107 (AV.agg [zi, zi, zi]) /\ TyF 110 true 1 none none none none false (some false) 8 none none true /\ TzA 110 (AV.v (Value.pointer none)) /\ TyF 111 true 1 none none none none false (some false) 8 none none true /\ TzA 111 (AV.v (Value.pointer none)) /\ TyF 114 true 1 none none none none false (some false) 8 none none true /\ TzA 114 (AV.v (Value.pointer none)) /\ TyA 115 1 0 /\ TzA 115 (AV.tup [AV.v (Value.pointer none), zi]) /\ TyF 122 true 8 none (some (8, 3)) none none false (some true) 64 none none false /\ TzA 122 (AV.agg [zi, zi, zi, zi, zi, zi, zi, zi]) := by repeat (first | refine ⟨tyf (by kernel_rfl), ?_⟩ | refine ⟨tza (by kernel_rfl), ?_⟩ | exact tyf (by kernel_rfl) | exact tza (by kernel_rfl))
@[go_sem] theorem tAll4 : TyF 125 true 9 none none (some [(0, 122), (8, 9)]) none false (some true) 80 none none false /\ TzA 125 (AV.agg [zi, zi, zi, zi, zi, zi, zi, zi, AV.v (Value.string ByteArray.empty)]) /\ TyB 129 1 125 24 /\ TzA 129 zs /\ TyA 135 1 0 /\ TzA 135 (AV.tup [AV.v (Value.agg { toList := [Value.int IntKind.i64 (0), Value.int IntKind.i64 (0), Value.int IntKind.i64 (0), Value.int IntKind.i64 (0), Value.int IntKind.i64 (0), Value.int IntKind.i64 (0), Value.int IntKind.i64 (0), Value.int IntKind.i64 (0), Value.string ByteArray.empty] }), AV.v (Value.bool false)]) /\ TyF 139 true 4 none (some (4, 3)) none none false (some true) 32 none none false /\ TzA 139 (AV.agg [zi, zi, zi, zi]) /\ TyF 141 true 4 none none (some [(0, 3), (1, 3), (2, 3), (3, 3)]) none false (some true) 32 none (some [0, 0, 0, 0]) false /\ TzA 141 (AV.agg [zi, zi, zi, zi]) /\ TyF 144 true 2 none none (some [(0, 3), (1, 39)]) none false (some true) 32 none none false /\ TzA 144 (AV.agg [zi, zs]) /\ TyA 145 1 0 /\ TzA 145 (AV.tup [AV.v (Value.string ByteArray.empty), zi]) /\ TyA 147 1 0 /\ TzA 147 (AV.tup [AV.v (Value.agg { toList := [Value.int IntKind.i64 (0), Value.int IntKind.i64 (0), Value.string ByteArray.empty, Value.string ByteArray.empty, Value.slice none 0 0] }), zi]) /\ TyA 150 1 0 /\ TzA 150 (AV.tup [AV.v (Value.agg { toList := [Value.int IntKind.i64 (0), Value.int IntKind.i64 (0)] }), zi, zi]) /\ TyA 152 1 0 /\ TzA 152 (AV.tup [zi, zi]) /\ TyA 156 1 8 /\ TzA 156 (AV.v (Value.map none)) /\ TyA 157 1 0 /\ TzA 157 (AV.tup [AV.v (Value.map none), AV.v (Value.bool false)]) /\ TyF 167 true 14 none none (some [(0, 41), (13, 156)]) none false (some true) 256 none none false /\ TzA 167 (AV.agg [zs, zs, zs, zs, zs, AV.v (Value.string ByteArray.empty), zi, zi, AV.v (Value.string ByteArray.empty), AV.v (Value.string ByteArray.empty), zs, AV.v (Value.string ByteArray.empty), zs, AV.v (Value.map none)]) /\ TyA 171 1 0 /\ TzA 171 (AV.tup [AV.v (Value.agg { toList := [Value.int IntKind.i64 (0), Value.int IntKind.i64 (0)] }), zi]) /\ TyF 180 true 1 none none none none false (some false) 8 none none true /\ TzA 180 (AV.v (Value.pointer none)) := by repeat (first | refine ⟨tyf (by kernel_rfl), ?_⟩ | refine ⟨tza (by kernel_rfl), ?_⟩ | exact tyf (by kernel_rfl) | exact tza (by kernel_rfl))
@[go_sem] theorem tAll5 : TyF 182 true 2 none none (some [(0, 180), (1, 69)]) none false (some true) 32 none none false /\ TzA 182 (AV.agg [AV.v (Value.pointer none), zs]) /\ TyF 183 true 2 none none (some [(0, 182)]) none false (some true) 32 none none false /\ TzA 183 (AV.agg [AV.v (Value.pointer none), zs]) /\ TyF 184 true 2 none none (some [(0, 182)]) none false (some true) 32 none none false /\ TzA 184 (AV.agg [AV.v (Value.pointer none), zs]) /\ TyA 188 1 16 /\ TzA 188 (AV.v Value.nilIface) /\ TyA 189 1 0 /\ TzA 189 (AV.tup [zi, AV.v Value.nilIface]) /\ TyF 193 true 3 none none (some [(0, 3), (1, 3), (2, 3)]) none false (some true) 24 none (some [0, 0, 0]) false /\ TzA 193 (AV.agg [zi, zi, zi]) /\ TyA 194 1 0 /\ TzA 194 (AV.tup [AV.v (Value.agg { toList := [Value.int IntKind.i64 (0), Value.int IntKind.i64 (0), Value.string ByteArray.empty, Value.string ByteArray.empty] }), zi]) /\ TyA 196 1 0 /\ TzA 196 (AV.tup [zs, zi]) /\ TyF 199 true 3 none none (some [(0, 3), (1, 9), (2, 39)]) none false (some true) 48 none none false /\ TzA 199 (AV.agg [zi, AV.v (Value.string ByteArray.empty), zs]) /\ TyF 202 true 2 none none (some [(0, 3), (1, 3)]) none false (some true) 16 none (some [0, 0]) false /\ TzA 202 (AV.agg [zi, zi]) /\ TyF 204 true 4 none none (some [(0, 202), (2, 202)]) none false (some true) 32 none (some [0, 0, 0, 0]) false /\ TzA 204 (AV.agg [zi, zi, zi, zi]) /\ TyA 205 1 0 /\ TzA 205 (AV.tup [AV.v (Value.agg { toList := [Value.int IntKind.i64 (0), Value.int IntKind.i64 (0), Value.int IntKind.i64 (0), Value.int IntKind.i64 (0)] }), AV.v (Value.bool false)]) /\ TyA 209 1 0 /\ TzA 209 (AV.tup [AV.v (Value.agg { toList := [Value.int IntKind.i64 (0), Value.int IntKind.i64 (0), Value.int IntKind.i64 (0), Value.int IntKind.i64 (0)] }), zi]) /\ TyA 213 1 0 /\ TzA 213 (AV.tup [zi, AV.v (Value.bool false)]) /\ TyF 224 true 1 none none none (some .u64) false (some false) 8 (some 0) none false /\ TzA 224 (AV.v (Value.int IntKind.u64 (0))) := by repeat (first | refine ⟨tyf (by kernel_rfl), ?_⟩ | refine ⟨tza (by kernel_rfl), ?_⟩ | exact tyf (by kernel_rfl) | exact tza (by kernel_rfl))
@[go_sem] theorem tAll6 : TyF 225 true 1 none none none (some .u64) false (some false) 8 (some 0) none false /\ TzA 225 (AV.v (Value.int IntKind.u64 (0))) /\ TyF 228 true 1 none none none none false (some false) 8 none none true /\ TzA 228 (AV.v (Value.pointer none)) /\ TyF 229 true 1 none none none none false (some false) 8 none none true /\ TzA 229 (AV.v (Value.pointer none)) /\ TyA 237 1 0 /\ TzA 237 (AV.tup [zi, zi, zi]) /\ TyB 240 1 243 24 /\ TzA 240 zs /\ TyF 243 true 3 none none (some [(0, 56), (2, 3)]) none false (some true) 24 none (some [0, 0, 0]) false /\ TzA 243 (AV.agg [zi, zi, zi]) /\ TyF 246 true 2 none none (some [(0, 202)]) none false (some true) 16 none (some [0, 0]) false /\ TzA 246 (AV.agg [zi, zi]) /\ TyB 248 1 60 24 /\ TzA 248 zs /\ TyA 250 1 0 /\ TzA 250 (AV.tup [AV.v (Value.agg { toList := [Value.int IntKind.i64 (0), Value.int IntKind.i64 (0)] }), AV.v (Value.bool false)]) /\ TyF 258 true 1 none none none none false (some false) 8 none none true /\ TzA 258 (AV.v (Value.pointer none)) /\ TyA 262 1 0 /\ TzA 262 (AV.tup [AV.v (Value.string ByteArray.empty), AV.v (Value.bool false)]) /\ TyA 264 1 0 /\ TzA 264 (AV.tup [zi, zi]) /\ TyB 269 1 273 24 /\ TzA 269 zs /\ TyA 270 1 0 /\ TzA 270 (AV.tup [AV.v (Value.string ByteArray.empty), zs, AV.v (Value.bool false)]) /\ TyF 273 true 2 none none (some [(0, 9), (1, 4)]) none false (some true) 24 none (some [2, 1]) false /\ TzA 273 (AV.agg [AV.v (Value.string ByteArray.empty), AV.v (Value.bool false)]) := by repeat (first | refine ⟨tyf (by kernel_rfl), ?_⟩ | refine ⟨tza (by kernel_rfl), ?_⟩ | exact tyf (by kernel_rfl) | exact tza (by kernel_rfl))
@[go_sem] theorem tAll7 : TyF 280 true 1 none none none (some .u32) false (some false) 4 (some 0) none false /\ TzA 280 zu /\ TyF 282 true 8 none (some (8, 280)) none none false (some true) 32 none none false /\ TzA 282 (AV.agg [zu, zu, zu, zu, zu, zu, zu, zu]) /\ TyB 288 1 280 24 /\ TzA 288 zs /\ TyF 292 true 2 none none (some [(0, 182)]) none false (some true) 32 none none false /\ TzA 292 (AV.agg [AV.v (Value.pointer none), zs]) /\ TyF 297 true 2 none none (some [(0, 3), (1, 3)]) none false (some true) 16 none (some [0, 0]) false /\ TzA 297 (AV.agg [zi, zi]) /\ TyF 302 true 1 none none none none false (some false) 8 none none true /\ TzA 302 (AV.v (Value.pointer none)) /\ TyF 303 true 64 none (some (64, 280)) none none false (some true) 256 none none false /\ TzA 303 (AV.agg [zu, zu, zu, zu, zu, zu, zu, zu, zu, zu, zu, zu, zu, zu, zu, zu, zu, zu, zu, zu, zu, zu, zu, zu, zu, zu, zu, zu, zu, zu, zu, zu, zu, zu, zu, zu, zu, zu, zu, zu, zu, zu, zu, zu, zu, zu, zu, zu, zu, zu, zu, zu, zu, zu, zu, zu, zu, zu, zu, zu, zu, zu, zu, zu]) /\ TyF 306 true 32 none (some (32, 5)) none none false (some true) 32 none none false /\ TzA 306 (AV.agg [zb, zb, zb, zb, zb, zb, zb, zb, zb, zb, zb, zb, zb, zb, zb, zb, zb, zb, zb, zb, zb, zb, zb, zb, zb, zb, zb, zb, zb, zb, zb, zb]) /\ TyF 309 true 1 none none none none false (some false) 8 none none true /\ TzA 309 (AV.v (Value.pointer none)) /\ TyF 313 true 1 none none none none false (some false) 8 none none true /\ TzA 313 (AV.v (Value.pointer none)) /\ TyF 318 true 1 none none none (some .i64) false (some false) 8 (some 0) none false /\ TzA 318 zi /\ TyA 319 1 0 /\ TzA 319 (AV.tup [zi, zi]) /\ TyF 324 true 1 none none none (some .u64) false (some false) 8 (some 0) none false /\ TzA 324 (AV.v (Value.int IntKind.u64 (0))) /\ TyF 328 true 1 none none none none false (some false) 8 none none true /\ TzA 328 (AV.v (Value.pointer none)) /\ TyF 330 true 1 none none none none false (some false) 8 none none true /\ TzA 330 (AV.v (Value.pointer none)) := by repeat (first | refine ⟨tyf (by kernel_rfl), ?_⟩ | refine ⟨tza (by kernel_rfl), ?_⟩ | exact tyf (by kernel_rfl) | exact tza (by kernel_rfl))
abbrev TzS (t : Nat) : Prop := tz prog t = some (Value.slice none 0 0)
theorem tzS {t : Nat} (h : tz prog t = some (Value.slice none 0 0) := by kernel_rfl) : TzS t := h
@[go_sem] theorem tzs : TzS 22 /\ TzS 23 /\ TzS 24 /\ TzS 25 /\ TzS 26 /\ TzS 30 /\ TzS 31 /\ TzS 32 /\ TzS 33 /\ TzS 36 /\ TzS 39 /\ TzS 44 /\ TzS 46 /\ TzS 52 /\ TzS 69 /\ TzS 75 /\ TzS 80 /\ TzS 91 /\ TzS 98 /\ TzS 129 /\ TzS 240 /\ TzS 248 /\ TzS 269 /\ TzS 288 := ⟨tzS, tzS, tzS, tzS, tzS, tzS, tzS, tzS, tzS, tzS, tzS, tzS, tzS, tzS, tzS, tzS, tzS, tzS, tzS, tzS, tzS, tzS, tzS, tzS⟩
theorem Jtn : tagg prog 303 = (some true : Option Bool) := by kernel_rfl
theorem Jdt : tarr prog 122 = (some (8, 3) : Option (Nat × TypeId)) := by kernel_rfl
theorem Jto : tarr prog 282 = (some (8, 280) : Option (Nat × TypeId)) := by kernel_rfl
theorem Jtp : tarr prog 306 = (some (32, 5) : Option (Nat × TypeId)) := by kernel_rfl
theorem JvW : tel prog 129 = (some 125 : Option TypeId) := by kernel_rfl
theorem JvX : tel prog 288 = (some 280 : Option TypeId) := by kernel_rfl
theorem Jzq : tel prog 69 = (some 5 : Option TypeId) := by kernel_rfl
theorem Jv0 : tsz prog 125 = 9 := by kernel_rfl
theorem Jv1 : tsz prog 280 = 1 := by kernel_rfl
theorem Jtv : tsz prog 3 = 1 := by kernel_rfl
theorem Jv2 : tsz prog 303 = 64 := by kernel_rfl
theorem Jzv : tsz prog 5 = 1 := by kernel_rfl
attribute [go_sem] ne_eq not_true_eq_false not_false_eq_true decide_true decide_false List.length_map
end Go.Proofs.YtlecbpkidomjbaaGreatDoor
attribute [go_sem_proc ↓] reduceIte
attribute [go_sem_proc] Nat.reduceEqDiff Nat.reduceMul Nat.reduceAdd Nat.reduceDiv Nat.reduceBEq Nat.reduceLeDiff Int.reduceToNat Int.reduceNe Int.reduceEq Int.reduceLT Int.reduceLE Int.reduceBEq Int.reduceBNe

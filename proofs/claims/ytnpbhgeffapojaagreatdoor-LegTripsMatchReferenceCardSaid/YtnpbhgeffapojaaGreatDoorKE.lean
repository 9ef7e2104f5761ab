/- A heap-free account of the walk, fifth part; facts about types -/
import Derived.Test.YtnpbhgeffapojaaGreatDoorKD
import Derived.Lib.UnsafeStr
import Derived.Laws.Externs
import Derived.DeepKeys
import Derived.Laws.IdiomRangeMap
import Derived.Sort.Grow
import Derived.Test.YtnpbhgeffapojaaGreatDoorProg
set_option linter.all false
namespace Go.Vai
open Go.RowKit
section
variable {S : Sp} {dst : Option Nat} {ty : TypeId} {K : Env -> Jac -> Prop} {E : Env} {σ : Jac}
theorem Jbw {op : Op} (r : AV) (g : (dst.all (decide <| · < S.N) && Op.low S.N op) = true) (q : ∀ c, op ≠ .defer c)
 (h : ∀ (C : Fx) (w : World) (ρ : Nat -> Option Nat) (Im : Nat -> Prop) (M : Str) (a : Act), Holds S C -> Wit C E σ a w ρ Im M -> (∀ u ∈ op.operands, Rep w ρ Im (ev E u) (a.eval u)) ->
  ∃ y, (∀ j b f, (execOp a.eval ⟨dst, op, ty, j, b, f⟩).run S.P w = .ok (.value y) w) /\ Rep w ρ Im r y) (t : K (updO E dst r) σ) : semD S dst op ty K E σ := by
 intro j b f C H n a w D Q ⟨ρ, Im, M, o⟩ p
 simp only [L00] at g; obtain ⟨k, l⟩ := g
 have i : ∀ d, dst = some d -> d < C.N := fun d z => by subst z; rw [<- H.N]; simpa using k
 have s : ∀ u ∈ op.operands, Rep w ρ Im (ev E u) (a.eval u) := fun u B => JbD o.env (by rw [o.size, <- H.N]; exact Jbq l B)
 obtain ⟨y, m, A⟩ := h C w ρ Im M a H o s
 exact JaL q (m j b f) (p _ _ _ _ t ⟨ρ, Im, M, o.put H.G i A⟩)
theorem Jrf {t : TypeId} {g : Nat} (cs : List Value) (s : (g, cs) ∈ gtab) (r : AV) (z : Jcm S.P t (cs.map .v) 0 r) (q : K (updO E dst r) σ)
 (d : (dst.all (decide <| · < S.N) && Op.low S.N (.load t (.global g))) = true := by kernel_rfl) : semD S dst (.load t (.global g)) ty K E σ := by
 refine Jbw r d (fun _ e => by cases e) (fun C w p m M a H B _ => ?_) q
 have f := (B.gok H) _ s
 obtain ⟨y, k, h⟩ := Jfj (P := S.P) (w := w) (ρ := p) (Im := m) (b := g) (o := 0) (ys := cs) z ⟨by simp, fun j c y hc l => by
  rw [L03, l] at hc; simp at hc; subst hc; exact .im _ _ (.v _)⟩ (fun y l => by
   obtain ⟨i, u⟩ := L0v.1 l; exact (f.2 i y u).2) (fun i v A => by rw [L0n]; exact (f.2 i v A).1)
 exact ⟨y, fun _ _ _ => by simp [execOp, Act.eval, Instr.loadAt, Instr.sureAddr, k], h⟩
theorem JdX {s t e : TypeId} {x : Operand} (l : List Int) (U : srcC σ (ev E x) = some (1, l.map Y)) (y : ∀ b, ev E x ≠ .v (.string b)) (A : S.P.underlying s = some (.slice e)) (q : S.P.underlying e = some (.int .u8)) (B : S.P.underlying t = some .string)
 (I : K (updO E dst (.v (.string (strOfNums l)))) σ) (g : (dst.all (decide <| · < S.N) && Op.low S.N (.convert s t x)) = true := by kernel_rfl) : semD S dst (.convert s t x) ty K E σ := by
 refine Jbw _ g (fun _ e => by cases e) (fun C w W V M a H T D => ⟨_, fun _ _ _ => ?_, .im _ _ (.v (.string (strOfNums l)))⟩) I
 have Q := D x (by simp [Op.operands])
 obtain ⟨F, G, ⟨rfl, rfl⟩, h⟩ := JeY T.inv (JpY (K := fun F G => F = 1 /\ G = l.map Y) U ⟨rfl, rfl⟩) Q
 rcases h with ⟨m, f, k, _, c⟩ | ⟨b, J, _⟩
 . rw [L06] at k
   cases m with
   | none =>
    rcases c with ⟨d, _⟩ | ⟨b, o, d, _⟩
    . have u : l = [] := by simpa using d
      subst u; simp only [execOp, k, Sem.run_bind, run_convert_bytes_nil w s e A q _ _ t B, Result.andThen_ok, Sem.run_pure]
      rfl
    . cases d
   | some m =>
    rcases c with ⟨d, _⟩ | ⟨b, o, d, _, p⟩
    . have u : l = [] := by simpa using d
      subst u
      have := run_convert_bytes_back w s t e m f [] A q B (fun j O => absurd O (by simp))
      simp only [L0t] at this k; simp only [execOp, k, Sem.run_bind, this, Result.andThen_ok, Sem.run_pure]
      rfl
    . cases d
      have p : ∀ i, i < l.length -> w.cell? ⟨b, o + i, none⟩ = some (.int .u8 (l.getD i 0)) := fun i L => by
       obtain ⟨v, R, _, z⟩ := p i (Y (l.getD i 0)) 0 (Y (l.getD i 0)) (by simp [L03, L1e, L]) rfl
       have := z.v_inv
       subst this
       simpa using R
      simp only [execOp, k, Sem.run_bind, run_convert_bytes_arg w s e A q b o l.length f l rfl p t B, Result.andThen_ok, Sem.run_pure]
 . exact absurd J (y b)
theorem Jli {t e : TypeId} {x : Operand} {lo hi : Option Operand} {c : AV} {j m : Nat} (l h : Nat) (hx : ev E x = .pt c j) (ht : tarr S.P t = some (m, e)) (hs : tsz S.P e = 1) (hm : j + m <= c.cells.length)
 (T : bound E hi m fun g => bound E lo 0 fun l' => l' = l /\ g = h /\ l <= h /\ h <= m) (Y : K (updO E dst (.sl 1 ((c.cells.drop (j + l)).take (h - l)))) σ)
 (A : ∀ a ∈ c.cells, a.cells = [a] := by simp) (B : (dst.all (decide <| · < S.N) && Op.low S.N (.slice t x lo hi none)) = true := by kernel_rfl) : semD S dst (.slice t x lo hi none) ty K E σ := by
 refine Jbw _ B (fun _ e => by cases e) (fun C w O s M a H hw p => ?_) Y
 have J := p x (by simp [Op.operands])
 obtain ⟨g, T, hh⟩ := JaW (w := w) (ρ := O) (Im := s) T fun o y => p o (by subst y; simp [Op.operands])
 obtain ⟨l', ⟨rfl, rfl, F, D⟩, hl⟩ := JaW (w := w) (ρ := O) (Im := s) T fun o y => p o (by subst y; simp [Op.operands])
 rw [hx] at J
 cases J with
 | im _ _ J =>
  generalize R : a.eval x = ax at J
  cases J with
  | pt _ _ b o f Q Z L =>
   have V : (Instr.sliceBounds false m m (lo.map a.eval) (hi.map a.eval) none).run S.P w = .ok (l', g, m) w := by
    unfold Instr.sliceBounds
    rcases hh with ⟨rfl, rfl⟩ | ⟨o, k, rfl, y⟩ <;> rcases hl with ⟨rfl, rfl⟩ | ⟨o', k', rfl, G⟩
    . simp
    . simp [G, Jaj F]
    . simp [y, Jaj D]
    . simp [y, G, Jaj D, Jaj F]
   refine ⟨.slice (some (if m = l' then ⟨b, o + j, none⟩ else (⟨b, o + j, none⟩ : Addr).add (l' * 1))) (g - l') (m - l'), fun _ _ _ => ?_, ?_⟩
   . have W := Jas (P := S.P) (t := e) (by omega) w
     rw [hs] at W; simp only [execOp, R, Instr.sliceAt, Instr.sureAddr, L2f, Sem.run_bind, run_underlying (Jer ht) w, Result.andThen_ok, V, W, Sem.run_pure]
   . have d : ((c.cells.drop (j + l')).take (g - l')).length = g - l' := by rw [L02, L0f]; omega
     by_cases h0 : g - l' = 0
     . rw [h0]; simp only [L1Q]; exact .im _ _ (.slnil ..)
     . have U : ¬ m = l' := by omega
       rw [if_neg U]
       have z : (⟨b, o + j, none⟩ : Addr).add (l' * 1) = ⟨b, o + j + l', none⟩ := by rw [Jbc, L0Z]
       rw [z]
       have := IRep.sl (w := w) (Im := s) 1 ((c.cells.drop (j + l')).take (g - l')) b (o + j + l') (m - l') (fun i _ => f (j + l' + i)) Q (by rw [d]; omega)
        (fun a u => by rw [A a (L18 (L0G u))]; rfl) (fun i q hi I => by
         have : q = 0 := by omega
         subst this; rw [d] at hi
         have := Z (j + l' + i) (by omega)
         rw [show o + j + l' + i * 1 + 0 = o + (j + l' + i) from by omega]; exact this) (fun i a q c' u I => by
         have hi := (L05.1 u).1; rw [d] at hi
         rw [L0m, if_pos (by omega), L0E] at u
         have X := A a (L01 u); rw [X] at I
         cases q with
         | succ q => simp at I
         | zero => simp at I; subst I; exact L _ _ u)
       rw [d] at this
       exact .im _ _ this
end
section
variable {S : Sp} {dst : Option Nat} {ty : TypeId} {K : Env -> Jac -> Prop} {E : Env} {σ : Jac}
theorem Jnv {s t e d : Nat} {x : Operand} (b : ByteArray) (hx : ev E x = .v (.string b)) (hs : S.P.underlying s = some .string) (ht : S.P.underlying t = some (.slice e)) (L : S.P.underlying e = some (.int .u8)) (hb : b.size <= 4611686018427387904)
 (X : K (upd (JaR (isId (16 * (S.b + d))) E) d (.own (16 * (S.b + d)) 1 0 b.size)) (updS (Jak (isId (16 * (S.b + d))) σ) (16 * (S.b + d)) ⟨e, 1, (bI b).map Y⟩))
 (F : (Nat.blt d S.N && Nat.blt d 100000) = true := by kernel_rfl) (u : Op.low S.N (.convert s t x) = true := by kernel_rfl) : semD S (some d) (.convert s t x) ty K E σ := by
 intro aa A B C H n a w Kc Q ⟨ρ, Im, M, T⟩ D
 simp only [L00] at F
 have I : d < S.N := L0u F.1
 have J : d < 100000 := L0u F.2
 have W := JbD T.env (x := x) (by rw [T.size, <- H.N]; exact Jbq u (by simp [Op.operands]))
 rw [hx] at W; have hy := W.v_inv
 have z := run_bytes_of_string (P := S.P) w s t e b hs ht L
 have h : b.size <= grownCap w b.size 0 e := grownCap_ge w _ 0 e
 have m : (bytesRow b (grownCap w b.size 0 e)).size = grownCap w b.size 0 e := by
  have : b.data.size = b.size := rfl
  simp only [bytesRow, L28, Array.size_map, L29, this]; omega
 have V : (bI b).map (fun n => Value.int .u8 n) = b.data.toList.map fun c => Value.int .u8 c.toNat := by simp only [bI, L1d]; rfl
 have y : (w.drew.alloc (.cells (bytesRow b (grownCap w b.size 0 e)) e ((bytesRow b (grownCap w b.size 0 e)).size, (bytesRow b (grownCap w b.size 0 e)).size + 1))).heap[w.heap.size]? = some (.cells (bytesRow b (grownCap w b.size 0 e)) e ((bytesRow b (grownCap w b.size 0 e)).size, (bytesRow b (grownCap w b.size 0 e)).size + 1)) := heap_alloc_new w.drew _
 have Z : ((⟨e, 1, (bI b).map Y⟩ : Blk).kill (isId (16 * (S.b + d)))) = ⟨e, 1, (bI b).map Y⟩ := by
  have : AV.namesL (isId (16 * (S.b + d))) ((bI b).map Y) = false := by
   generalize bI b = l
   induction l with
   | nil => rfl
   | cons x l ih => simp [AV.namesL, AV.namesB, ih]
  simp [Blk.kill, this]
 have U := T.renew H.G (id := 16 * (S.b + d)) (d := d) (by rw [<- H.N]; exact I) (k := ⟨e, 1, (bI b).map Y⟩) (g := w.heap.size) (cur := bytesRow b (grownCap w b.size 0 e)) (n := b.size) (cap := grownCap w b.size 0 e) (sz := 1)
  (w' := w.drew.alloc (.cells (bytesRow b (grownCap w b.size 0 e)) e ((bytesRow b (grownCap w b.size 0 e)).size, (bytesRow b (grownCap w b.size 0 e)).size + 1)))
  ⟨rfl, rfl, rfl, by simp, fun q R _ => Below.heap_alloc w.drew _ q R⟩ (.inr (L0a _)) (fun q _ R => Below.heap_alloc w.drew _ q R) ⟨_, y, .inr rfl⟩ (fun e L => by obtain ⟨x, _, rfl⟩ := L08.1 L; rfl)
  (by simp only [L06, JaI, L0Z]; rw [m]; exact h) (fun i e' j c f o => ?_) h (grownCap_le_maxLen w _ 0 e (by simp only [maxLen]; omega)) (by rw [m, L0Z]) (by decide) L1I (H.free J 0 (by omega))
 . rw [Z] at U
   refine JaL (fun _ e => by cases e) ?_ (D _ _ _ _ X ⟨_, _, _, U⟩)
   simp only [execOp, hy, Sem.run_bind, z, Result.andThen_ok, Sem.run_pure]
 . rw [L03] at f
   cases hn : (bI b)[i]? with
   | none => simp [hn] at f
   | some n =>
    simp [hn] at f; subst f
    cases j with
    | succ j => simp at o
    | zero =>
     simp at o; subst o
     refine ⟨.int .u8 n, ?_, rfl, .im _ _ (.v _)⟩
     have O : i < (bI b).length := (L05.1 hn).1
     rw [JaI] at O
     have := bytesRow_at b (grownCap w b.size 0 e) i O
     simp only [L0Z, L0X]; rw [this]; simp only [bI, L03, L0j] at hn; obtain ⟨c, o, rfl⟩ := hn
     have p : b.data[i]? = some c := by simpa using o
     rw [L0g O] at p
     cases p; rfl
theorem JpS {t e : TypeId} {x p : Operand} {lo hi : Option Operand} {sz : Nat} {es : List AV} (l h : Nat) {km : IntKind} (hx : ev E x = .sl sz es) (ht : tel S.P t = some e) (hz : tsz S.P e = sz) (h0 : 0 < sz) (hm : ev E p = .v (.int km h)) (Q : hi ≠ none)
 (O : bound E hi es.length fun d => bound E lo 0 fun l' => l' = l /\ d = h /\ l <= h /\ h <= es.length) (hK : K (updO E dst (.sl sz ((es.drop l).take (h - l)))) σ)
 (u : (dst.all (decide <| · < S.N) && Op.low S.N (.slice t x lo hi (some p))) = true := by kernel_rfl) : semD S dst (.slice t x lo hi (some p)) ty K E σ := by
 refine Jbw _ u (fun _ e => by cases e) (fun C w G D M a H hw i => ?_) hK
 have F := i x (by simp [Op.operands])
 have z := i p (by simp [Op.operands])
 rw [hm] at z; have U := z.v_inv
 obtain ⟨d, O, hh⟩ := JaW (w := w) (ρ := G) (Im := D) O fun o s => i o (by subst s; simp [Op.operands])
 obtain ⟨l', ⟨rfl, rfl, y, R⟩, hl⟩ := JaW (w := w) (ρ := G) (Im := D) O fun o s => i o (by subst s; simp [Op.operands])
 rw [hx] at F
 obtain ⟨I, n', j, hy, A, h1, h2, h3, _, g⟩ := Jep (P := S.P) (e := e) (lo := l') (hi := d) (r := .sl sz ((es.drop l').take (d - l'))) (x := .sl sz es) ⟨h0, hz, y, R, rfl⟩ F
 simp only [lenV, Option.some.injEq] at A; subst A
 have ab : p ∈ (Op.slice t x lo hi (some p)).operands := by simp [Op.operands]
 have B : (Instr.sliceBounds true es.length j (lo.map a.eval) (hi.map a.eval) (some (a.eval p))).run S.P w = .ok (l', d, d) w := by
  unfold Instr.sliceBounds
  have Z := fun c => Jaj (P := S.P) (w := w) (k := km) (code := c) (show d <= j by omega)
  have r2 := fun k c => Jaj (P := S.P) (w := w) (k := k) (code := c) (L0a d)
  have r3 := fun k c => Jaj (P := S.P) (w := w) (k := k) (code := c) y
  rw [U]
  rcases hh with ⟨rfl, rfl⟩ | ⟨o, k, rfl, s⟩
  . exact absurd rfl Q
  . rcases hl with ⟨rfl, rfl⟩ | ⟨o', k', rfl, V⟩
    . simp [s, Z, r2]
    . simp [s, V, Z, r2, r3]
 have W := Jas (P := S.P) (t := e) (by omega) w
 refine ⟨.slice (if d = l' then I else I.map (·.add (l' * tsz S.P e))) (d - l') (d - l'), fun _ _ _ => ?_, ?_⟩
 . simp only [execOp, hy, L0N, Instr.sliceAt, Instr.slice, Sem.run_bind, run_underlying (JbF ht) w, Result.andThen_ok, B, W, Sem.run_pure]
 . have hL : ((es.drop l').take (d - l')).length = d - l' := by rw [L02, L0f]; omega
   by_cases e0 : d - l' = 0
   . have : (es.drop l').take (d - l') = [] := by rw [e0]; rfl
     rw [this, e0]; exact .im _ _ (.slnil ..)
   . rw [if_neg (by omega)]
     rw [if_neg (by omega)] at g
     generalize I.map (·.add (l' * tsz S.P e)) = aa at g; generalize (es.drop l').take (d - l') = L at *; generalize d - l' = q at *; generalize j - l' = c at *; clear B
     cases g with
     | im _ _ F =>
      cases F with
      | slnil => simp at hL; omega
      | sl _ _ b o X f J Y T hc m => exact .im _ _ (.sl _ _ b o _ f J (L0a _) T hc m)
theorem JeP {t te : TypeId} {op : BinOp} {x : Operand} {z : TypeId} (q : Bool) (g : (ev E x = .v (.pointer none) /\ q = true) \/ ((∃ id sz i j, ev E x = .ptr id sz i j) /\ q = false) \/ ((∃ e j, ev E x = .pt e j) /\ q = false)) (B : S.P.underlying t = some (.pointer te))
 (r : Bool) (m : (op = .eql /\ r = q) \/ (op = .neq /\ r = !q)) (A : K (updO E dst (.v (.bool r))) σ) (l : (dst.all (decide <| · < S.N) && Op.low S.N (.binOp op t x (.const (.pointer none)) z)) = true := by kernel_rfl) : semD S dst (.binOp op t x (.const (.pointer none)) z) ty K E σ := by
 refine Jbw _ l (fun _ e => by cases e) (fun C w G D M a H F s => ⟨_, fun _ _ _ => ?_, .im _ _ (.v _)⟩) A
 have h := s x (by simp [Op.operands])
 have c : ∃ f : Option Addr, a.eval x = .pointer f /\ q = f.isNone := by
  rcases g with ⟨g, rfl⟩ | ⟨⟨id, sz, i, j, g⟩, rfl⟩ | ⟨⟨e, j, g⟩, rfl⟩
  . rw [g] at h; exact ⟨none, h.v_inv, rfl⟩
  . rw [g] at h; obtain ⟨b, p, _⟩ := h.ptr_inv; exact ⟨_, p, rfl⟩
  . rw [g] at h; obtain ⟨b, o, p, _⟩ := h.pt_inv; exact ⟨_, p, rfl⟩
 obtain ⟨f, c, rfl⟩ := c
 have u : ∀ d, (Op.equalIn (d + 1) t (.pointer f) (.pointer none)).run S.P w = .ok f.isNone w := fun d => by cases f <;> simp [Op.equalIn, run_underlying B]
 have y : ∀ w, (eqGuard op t x (.const (.pointer none)) (.pointer f) (.pointer none)).run S.P w = .ok () w := fun w => by unfold eqGuard; cases op <;> rfl
 have k : a.eval (.const (.pointer none)) = .pointer none := rfl
 rcases m with ⟨rfl, rfl⟩ | ⟨rfl, rfl⟩
 . simp only [execOp, c, k, Sem.run_bind, y, Result.andThen_ok, binOp, Op.equal, Op.maxDepth, u 9999, Sem.run_pure]
 . simp only [execOp, c, k, Sem.run_bind, y, Result.andThen_ok, binOp, Op.equal, Op.maxDepth, u 9999, Sem.run_pure]
theorem JhQ {t te : TypeId} {op : BinOp} {x y : Operand} {z : TypeId} {id sz i j : Nat} {q : TypeInfo} (D : ev E x = .ptr id sz i j) (F : ev E y = .ptr id sz i j) (u : S.P.underlying t = some (.pointer te)) (hi : S.P.info? te = some q)
 (r : Bool) (o : (op = .eql /\ r = true) \/ (op = .neq /\ r = false)) (A : K (updO E dst (.v (.bool r))) σ) (l : (dst.all (decide <| · < S.N) && Op.low S.N (.binOp op t x y z)) = true := by kernel_rfl) : semD S dst (.binOp op t x y z) ty K E σ := by
 refine Jbw _ l (fun _ e => by cases e) (fun C w T I M a H Q m => ⟨_, fun _ _ _ => ?_, .im _ _ (.v _)⟩) A
 have d := m x (by simp [Op.operands])
 have f := m y (by simp [Op.operands])
 rw [D] at d; rw [F] at f
 have B : ∃ b, a.eval x = .pointer (some ⟨b, i * sz + j, none⟩) /\ a.eval y = .pointer (some ⟨b, i * sz + j, none⟩) := by
  generalize a.eval x = J at d; generalize a.eval y = L at f
  cases d with
  | im _ _ h => cases h
  | ptr _ _ _ _ b p R =>
   cases f with
   | im _ _ h => cases h
   | ptr _ _ _ _ O c G => rw [p] at c; cases c; exact ⟨b, rfl, rfl⟩
 obtain ⟨b, g, k⟩ := B
 have s : ∀ w v, (eqGuard op t x y (.pointer v) (.pointer v)).run S.P w = .ok () w := fun w v => by unfold eqGuard; cases op <;> rfl
 rcases o with ⟨rfl, rfl⟩ | ⟨rfl, rfl⟩
 . simp only [execOp, g, k, Sem.run_bind, s, Result.andThen_ok, run_eql_ptr_same w _ u hi, Sem.run_pure]
 . simp only [execOp, g, k, Sem.run_bind, s, Result.andThen_ok, Lib.run_neq_ptr_same w _ u hi, Sem.run_pure]
theorem Jnj {P : Program} {b : TypeId -> Bool} {d : Nat} {e : TypeId} {c g f n : Nat} (l : c <= g) (h : rowAt P b d e c f n = true) : rowAt P b d e g f n = true := by
 cases d with
 | zero => simp [rowAt] at h
 | succ d =>
  simp only [rowAt] at h ⊢
  by_cases h0 : P.cellsOf e = 0
  . simp [h0] at h
  . simp only [h0, if_false, L0z, L00, decide_eq_true_eq] at h ⊢
    rcases h with ⟨⟨i, j⟩, k⟩ | ⟨i, j⟩
    . exact .inl ⟨⟨i, by omega⟩, k⟩
    . exact .inr ⟨by omega, j⟩
theorem JgH {P : Program} : ∀ {d : Nat} {e : TypeId} {c f b : Nat} {u : TypeId} {n : Nat}, c <= f -> liesAt P d e c b u n = true -> liesAt P d e f b u n = true
 | 0, _, _, _, _, _, _, _, h => by simp [liesAt] at h
 | d + 1, e, c, f, b, u, n, g, h => by
  simp only [liesAt, L0z] at h ⊢
  rcases h with h | h
  . exact .inl (Jnj g h)
  . refine .inr ?_
    split at h
    . rename_i m j i; exact JgH g h
    . cases h
theorem Jhd {t te u : TypeId} {x : Operand} {id sz j : Nat} {k : Blk} {f : TypeInfo} (G : ev E x = .ptr id sz 0 j) (z : σ id = some k) (l : k.sz = sz) (Q : sz ≠ 0) (R : j < k.es.length * sz) (B : S.P.underlying t = some (.pointer te)) (D : S.P.underlying u = some .unsafePointer)
 (hi : S.P.info? te = some f) (I : f.size ≠ 0) (s : K (updO E dst (.ptr id sz 0 j)) σ) (c : (dst.all (decide <| · < S.N) && Op.low S.N (.convert t u x)) = true := by kernel_rfl) : semD S dst (.convert t u x) ty K E σ := by
 refine Jbw _ c (fun _ e => by cases e) (fun C w T J M a H F q => ?_) s
 have m := q x (by simp [Op.operands])
 rw [G] at m; generalize i : a.eval x = L at m
 cases m with
 | im _ _ h => cases h
 | ptr _ _ _ _ b d p =>
  obtain ⟨g, ⟨O, y, _⟩, _, A, _⟩ := F.inv.blk id k b z d (by omega)
  refine ⟨_, fun _ _ _ => ?_, .ptr id sz 0 j b d p⟩
  have o : w.shape? b = some (k.e, g.size) := by simp [World.shape?, y]
  have := Lib.run_to_unsafe (P := S.P) w ⟨b, 0 * sz + j, none⟩ B D hi I o (by rw [l] at A; simp; omega)
  simp only [execOp, i, Sem.run_bind, this, Result.andThen_ok, Sem.run_pure]
theorem JgW {t te u : TypeId} {x : Operand} {id sz j : Nat} {k : Blk} {q : TypeInfo} (J : ev E x = .ptr id sz 0 j) (A : σ id = some k) (B : k.sz = sz) (R : sz ≠ 0) (l : k.es ≠ []) (F : S.P.underlying t = some .unsafePointer) (G : S.P.underlying u = some (.pointer te))
 (hi : S.P.info? te = some q) (T : S.P.cellsOf k.e ≠ 0 /\ S.P.cellsOf k.e <= sz) (D : liesAt S.P S.P.depth k.e 1 j te 1 = true) (y : K (updO E dst (.ptr id sz 0 j)) σ) (d : (dst.all (decide <| · < S.N) && Op.low S.N (.convert t u x)) = true := by kernel_rfl) : semD S dst (.convert t u x) ty K E σ := by
 refine Jbw _ d (fun _ e => by cases e) (fun C w V L M a H I s => ?_) y
 have m := s x (by simp [Op.operands])
 rw [J] at m; generalize i : a.eval x = O at m
 cases m with
 | im _ _ h => cases h
 | ptr _ _ _ _ b g p =>
  obtain ⟨c, ⟨Q, z, _⟩, _, U, _⟩ := I.inv.blk id k b A g (by omega)
  refine ⟨_, fun _ _ _ => ?_, .ptr id sz 0 j b g p⟩
  have o : w.shape? b = some (k.e, c.size) := by simp [World.shape?, z]
  have f : 1 <= c.size / S.P.cellsOf k.e := by
   rw [Nat.le_div_iff_mul_le (by omega), Nat.one_mul]
   have : 1 <= k.es.length := L19.2 l
   have := L0A k.sz this
   omega
  have := Lib.run_from_unsafe (P := S.P) w (a := ⟨b, 0 * sz + j, none⟩) F G hi o (by simp only [Nat.zero_mul, L0n]; exact JgH f D)
  simp only [execOp, i, Sem.run_bind, this, Result.andThen_ok, Sem.run_pure]
end
section
variable {S : Sp} {dst : Option Nat} {ty : TypeId} {K : Env -> Jac -> Prop} {E : Env} {σ : Jac}
theorem JgT {g : FuncId} {fn : Func} {x : Operand} {ats : Array TypeId} (v : AV) (hx : ev E x = v) (hfn : S.P.funcs[g]? = some fn) (hname : (fn.name == "runtime.NumGoroutine") = false) (hb : fn.body.isNone = true) (hn : Extern.findNext fn = none) (he : Extern.find fn = some Extern.AbiNoEscape.same)
 (hK : K (updO E dst v) σ) (hfit : (dst.all (decide <| · < S.N) && Op.low S.N (.call { callee := .value (.func g), args := #[x], argTypes := ats })) = true := by kernel_rfl) :
 semD S dst (.call { callee := .value (.func g), args := #[x], argTypes := ats }) ty K E σ := by
 refine Jbw _ hfit (fun _ e => by cases e) (fun C w ρ Im M a H hw rep => ⟨a.eval x, fun _ _ _ => ?_, ?_⟩) hK
 . have : a.eval (.func g) = .func (.func g) #[] #[] := rfl
   simp [execOp, resolve, this, Deferred.ofValue, invoke, run_callFunc_extern hfn hname hb hn he, Lib.run_noEscape]
 . have := rep x (by simp [Op.operands, Call.operands])
   rw [hx] at this; exact this
theorem JfS {tp ti e d : Nat} {x y : Operand} {id : Nat} (s : ByteArray) (hx : ev E x = .ptr id 1 0 0) (hy : ev E y = .v (.int .i64 s.size)) (hs : σ id = some ⟨e, 1, (bI s).map Y⟩) (h0 : s.size ≠ 0) (htp : S.P.underlying tp = some (.pointer e)) (hce : S.P.cellsOf e = 1) (hpin : S.pin id = false)
    (h63 : s.size <= 9223372036854775807)
    (hK : K (upd (JaR (isId id) E) d (.v (.string s))) (updS (Jak (isId id) σ) id ⟨e, 1, []⟩)) (hd : Nat.blt d S.N = true := by kernel_rfl)
    (hlow : Op.low S.N (.call { callee := .builtin .unsafeString, args := #[x, y], argTypes := #[tp, ti] }) = true := by kernel_rfl) :
    semD S (some d) (.call { callee := .builtin .unsafeString, args := #[x, y], argTypes := #[tp, ti] }) ty K E σ := by
  intro pos after guard C H n a w Kc Q ⟨ρ, Im, M, h⟩ hKc
  have hd1 : d < S.N := L0u hd
  have rep : ∀ u ∈ (Op.call { callee := .builtin .unsafeString, args := #[x, y], argTypes := #[tp, ti] }).operands, Rep w ρ Im (ev E u) (a.eval u) := fun u hu => JbD h.env (by rw [h.size, <- H.N]; exact Jbq hlow hu)
  have hrx := rep x (by simp [Op.operands, Call.operands])
  have hry := rep y (by simp [Op.operands, Call.operands])
  rw [hx] at hrx; rw [hy] at hry
  have hyv := hry.v_inv; generalize hax : a.eval x = ax at hrx
  cases hrx with
  | im _ _ h => cases h
  | ptr _ _ _ _ g hρ hz =>
    obtain ⟨cur, hb, hl, hsz, hc⟩ := h.inv.blk id _ g hs hρ L1I
    have hpc : C.pin id = none := by
      cases hp : C.pin id with
      | none => rfl
      | some b => rw [H.pin id b hp] at hpin; cases hpin
    simp only [L06, JaI, L0Z] at hsz
    have hcells : ∀ j x, s.data.toList[j]? = some x -> w.cell? ((⟨g, 0, none⟩ : Addr).add j) = some (.int .u8 x.toNat) := fun j x hj => by
      obtain ⟨v, hv, _, hr⟩ := hc j (Y x.toNat) 0 (Y x.toNat) (by simp [bI, hj]) rfl
      have := hr.v_inv
      subst this
      rw [Jbc, Jbn hb]; simpa using hv
    obtain ⟨fr, hb0, _⟩ := hb
    have hlen : s.data.toList.length = s.size := by rw [L0x]; rfl
    have hrun := Lib.run_unsafeString_row (P := S.P) w tp ti ty e htp hce g cur.size (by simp [World.shape?, hb0]) s.data.toList (by intro e; rw [e] at hlen; simp at hlen; exact h0 hlen.symm) (by rw [hlen]; exact hsz) (by rw [hlen]; exact h63) hcells
    rw [hlen] at hrun
    have hstr : (⟨s.data.toList.toArray⟩ : ByteArray) = s := by simp
    rw [hstr] at hrun
    have hoth : ∀ k, k ≠ g -> (w.freeze ⟨g, 0, none⟩ s.size).heap[k]? = w.heap[k]? := fun k hk => by
      unfold World.freeze
      split
      . rfl
      . simp only [L1x]; rw [if_neg (fun e => hk e.symm)]
    have hsame : (w.freeze ⟨g, 0, none⟩ s.size).heap.size = w.heap.size := by unfold World.freeze; split <;> simp
    have hos : (w.freeze ⟨g, 0, none⟩ s.size).os = w.os /\ (w.freeze ⟨g, 0, none⟩ s.size).tape = w.tape /\ (w.freeze ⟨g, 0, none⟩ s.size).output = w.output := by unfold World.freeze; split <;> exact ⟨rfl, rfl, rfl⟩
    have h1 := h.kill H.G (isId id) (JgZ hpc)
    have hng : ∀ k, ((∃ i, killR (isId id) ρ i = some k) \/ Im k \/ M.m k \/ C.book a k) -> k ≠ g := fun k hk e => by
      subst e
      rcases hk with ⟨i, hi⟩ | hk | hk | hk
      . obtain ⟨hp, hi⟩ := Jae hi
        have := h.inv.inj i id k hi hρ
        subst this; simp [isId] at hp
      . exact h.inv.apart id k hρ hk
      . exact (h.ms k hk).2.1 id hρ
      . exact (h.bk k hk).1 id hρ
    have h2 := (h1.core.carry H.G (w' := w.freeze ⟨g, 0, none⟩ s.size) (fun k hk => hoth k (hng k hk)) (by rw [hsame]; exact L0a _) hos.1 hos.2.1 hos.2.2).wit
      (h.ext.trans (Y := fun k => k = g) ⟨hos.1, hos.2.1, hos.2.2, by rw [hsame]; exact L0a _, fun k _ hk => hoth k hk⟩ fun k hk => by
        subst hk
        rcases h.rng id _ hρ with h' | h'
        . exact .inl h'.1
        . exact .inr h')
    have h3 := h2.newNil H.G (d := id) hpc (JbC (by simp [isId]) E σ) e 1 (dst := some d) (v := .v (.string s)) (y := .string s) (fun d' e => by cases e; rw [<- H.N]; exact hd1) (.im _ _ (.v _))
    refine JaL (fun _ e => by cases e) ?_ (hKc _ _ _ _ hK ⟨_, _, _, h3⟩)
    simp [execOp, resolve, invoke, builtin, hax, hyv, hrun]
theorem Jm9 {op : Op} (id id' i j e sz : Nat) {k : Blk} {el : AV} (hk : σ id = some k) (hid : id' ≠ id) (he : k.es[i]? = some el) (hc : el.cells[j]? = some (.v (.slice none 0 0))) (hkz : k.sz ≠ 0) (hnk : AV.namesL (isId id') k.es = false) (hpin : S.pin id' = false)
    (h : semD S dst op ty K (JaR (isId id') E) (updS (updS (Jak (isId id') σ) id' ⟨e, sz, []⟩) id ⟨k.e, k.sz, k.es.set i (setC el j (.own id' sz 0 0))⟩)) : semD S dst op ty K E σ := by
  intro pos after guard C H n a w Kc Q ⟨ρ, Im, M, hw⟩ hKc
  have hpc : C.pin id' = none := by
    cases hp : C.pin id' with
    | none => rfl
    | some b => rw [H.pin id' b hp] at hpin; cases hpin
  have h1 := hw.kill H.G (isId id') (JgZ hpc)
  have h2 := h1.newNil H.G (d := id') hpc (JbC (by simp [isId]) E σ) e sz (dst := none) (v := .any) (y := undef) (fun d' e => by cases e) (.im _ _ (.any _))
  have hkk : k.kill (isId id') = k := by simp [Blk.kill, hnk]
  have hk3 : (updS (Jak (isId id') σ) id' ⟨e, sz, []⟩) id = some k := by
    rw [Jax _ _ _ _ (Ne.symm hid)]; simp only [Jak]
    rw [if_neg (by simp [isId]; exact fun e => hid e.symm), hk]; simp [hkk]
  refine h pos after guard C H n a w Kc Q ⟨updR (killR (isId id') ρ) id' none, Im, M, ?_⟩ hKc
  have hown : ∀ v : World, Rep v (updR (killR (isId id') ρ) id' none) Im (.own id' sz 0 0) (.slice none 0 0) := fun v => .ownNil _ _ (by simp)
  have h2' : Wit C (JaR (isId id') E) (updS (Jak (isId id') σ) id' ⟨e, sz, []⟩) a w (updR (killR (isId id') ρ) id' none) Im M := h2
  have hels : ∀ v ∈ (k.es.set i (setC el j (.own id' sz 0 0))), ∃ v0 ∈ k.es, v.cells.length = v0.cells.length := fun v hv => by
    rcases L23 hv with hv | rfl
    . exact ⟨v, hv, rfl⟩
    . refine ⟨el, L01 he, ?_⟩
      have hj := (L05.1 hc).1
      rw [JcS (by simp; omega)]; simp; omega
  have hcell : ∀ (i' : Nat) (e' : AV) (j' : Nat) (c : AV), (k.es.set i (setC el j (.own id' sz 0 0)))[i']? = some e' -> e'.cells[j']? = some c -> (∃ e0, k.es[i']? = some e0 /\ e0.cells[j']? = some c) \/ (c = .own id' sz 0 0 /\ i' = i /\ j' = j) := fun i' e' j' c he' hc' => by
    rw [L25] at he'
    split at he'
    . rename_i hii; subst hii
      split at he'
      . cases he'
        have hj := (L05.1 hc).1
        rw [JcS (by simp; omega)] at hc'
        simp only [AV.cells_own, L1g] at hc'
        rcases Nat.lt_trichotomy j' j with hlt | rfl | hgt
        . rw [L0I, L0l (by simp; omega), L0m, if_pos hlt] at hc'
          exact .inl ⟨el, he, hc'⟩
        . rw [L0I, L0o (by simp; omega)] at hc'
          have : j' - (el.cells.take j').length = 0 := by simp; omega
          rw [this] at hc'; simp at hc'; exact .inr ⟨hc'.symm, rfl, rfl⟩
        . rw [L0o (by simp; omega), L0E] at hc'
          have : j + 1 + (j' - (el.cells.take j ++ [AV.own id' sz 0 0]).length) = j' := by simp; omega
          rw [this] at hc'
          exact .inl ⟨el, he, hc'⟩
      . cases he'
    . exact .inl ⟨e', he', hc'⟩
  refine h2'.step H.G (Ext.refl _ _) ?_ h2'.env rfl rfl rfl (fun _ _ hb => .inl hb) (fun _ hb => .inl hb) h2'.pin (fun _ h => h)
  have hi := h2'.inv
  refine ⟨fun q k2 hk2 hr => ?_, fun q k2 b hk2 hr hz => ?_, fun q k2 b hk2 hr hz => ?_, hi.inj, fun q b hr hs' => ?_, hi.apart, hi.low⟩
  . by_cases e : q = id
    . subst e; have h0 := hi.nil q k hk3 hr
      rw [h0] at he; simp at he
    . rw [Jax _ _ _ _ e] at hk2; exact hi.nil q k2 hk2 hr
  . by_cases e : q = id
    . subst e; simp at hk2; subst hk2; exact absurd hz hkz
    . rw [Jax _ _ _ _ e] at hk2; exact hi.map q k2 b hk2 hr hz
  . by_cases e : q = id
    . subst e; simp at hk2; subst hk2
      obtain ⟨cur, hb, hl, hs, hcc⟩ := hi.blk q k b hk3 hr hkz
      refine ⟨cur, hb, fun v hv => ?_, by simpa using hs, fun i' e' j' c he' hc' => ?_⟩
      . obtain ⟨v0, h0, h1⟩ := hels v hv
        rw [h1]; exact hl v0 h0
      . rcases hcell i' e' j' c he' hc' with ⟨e0, h0, h1⟩ | ⟨rfl, rfl, rfl⟩
        . exact hcc i' e0 j' c h0 h1
        . obtain ⟨x, hx, h1, hr'⟩ := hcc i' el j' _ he hc
          have := hr'.v_inv
          subst this
          exact ⟨_, hx, h1, hown w⟩
    . rw [Jax _ _ _ _ e] at hk2; exact hi.blk q k2 b hk2 hr hz
  . by_cases e : q = id
    . subst e; simp at hs'
    . rw [Jax _ _ _ _ e] at hs'; exact hi.live q b hr hs'
end
def spM (P : Program) (f : FuncId) (N : Nat) (d c : List Nat) : Sp := { P, N, b := 131072 * (f + 1), pin := inI d, yl := 0, Y := fun _ _ _ => False, bad := inI c, old := fun i => Nat.blt (i / 16) (131072 * (f + 1)) || Nat.ble (131072 * (f + 1) + 100000) (i / 16) }
instance (P : Program) (f N : Nat) (pins bad : List Nat) : Plain (spM P f N pins bad) := ⟨fun _ _ _ _ _ hk => (show False from hk).elim⟩
section
variable (P : Program) (f N : Nat) (pins bad : List Nat)
@[go_sem] theorem JCR : (spM P f N pins bad).P = P := rfl
@[go_sem] theorem spM_b : (spM P f N pins bad).b = 131072 * (f + 1) := rfl
@[go_sem] theorem JCS (id : Nat) : (spM P f N pins bad).bad id = bad.contains id := rfl
@[go_sem] theorem spM_N : (spM P f N pins bad).N = N := rfl
@[go_sem] theorem JCT (id : Nat) : (spM P f N pins bad).pin id = inI pins id := rfl
end
theorem JcC (t : List Nat) {P : Program} {f : FuncId} {q : Func} {c : Code} {args : List AV} {l l' : List (Nat × Blk)} {r : AV} (g : List Nat) (hf : P.funcs[f]? = some q) (m : q.body = some c) (O : fnB P q t c = true) (Z : P.follows .mixedOrders = true)
 (L : args.length <= q.ntmps) (A : l.map (·.1) = l'.map (·.1)) (s : (g.all fun i => (l.map (·.1)).contains i && (Nat.blt (i / 16) (131072 * (f + 1)) || Nat.ble (131072 * (f + 1) + 100000) (i / 16))) = true)
 (Q : (l.all fun p => Nat.blt (p.1 / 16) (131072 * (f + 1)) || Nat.ble (131072 * (f + 1) + 100000) (p.1 / 16)) = true)
 (h : awpC (spM P f q.ntmps g t) c (retL (spM P f q.ntmps g t) q l' r) (JbX args) (stO l)) : LOK P f (inI g) args (stO l) r (stO l') := by
 simp only [fnB, L00, L0U] at O
 obtain ⟨⟨⟨W, h2⟩, h3⟩, X⟩ := O
 have X := L0u X; have W := JaS c W
 refine ⟨enters hf m h3, fun w T F vs j B y => ?_⟩
 let C : Fx := { w0 := w, X0 := fun b => ∃ id, F id = some b, Im0 := T, G := fun _ _ _ => True, N := q.ntmps, rd := none, pin := fun id => if inI g id then some (F id) else none, J0 := T, R0 := fun id b => F id = some b }
 simp only [L0c, L00, L0z] at s
 have K : ∀ id, inI g id = true -> id ∈ g := fun id u => L0K.1 u
 have H : Holds (spM P f q.ntmps g t) C := by
  refine ⟨rfl, Jdn, fun _ _ _ hY => hY.elim, Z, fun id b z => ?_, fun id z => ?_, X, fun _ => rfl, fun id b _ m => ?_, B, fun b m => ⟨fun ⟨id, u⟩ => j.apart id b u (B.im m), j.low b (B.im m)⟩, (fun h => by cases h)⟩
  . simp only [C] at z
    cases hn : inI g id with
    | true => exact hn
    | false => simp [hn] at z
  . rcases (s id (K id z)).2 with V | V
    . exact .inl (L0u V)
    . exact .inr (L0u V)
  . cases hs : stO l id with
    | none => exact absurd hs (j.live id b m)
    | some k => exact L0c.1 Q _ (JbQ hs)
 have J := JbJ (S := spM P f q.ntmps g t) (fun _ _ _ _ _ D => (show False from D).elim) c (Q' := retG P q fun vs _ σ => JkS (inI (l'.map (·.1))) l' r σ vs) (fun e E σ D => by
  cases e <;> first | exact D.elim | exact Jmg _ _ D) h
 refine JcG (E0 := JbX args) (S := spM P f q.ntmps g t) (C := C) (ρ0 := F) (Im0 := T) (M0 := ⟨fun _ => False, fun _ => False⟩) H rfl hf m rfl W h2 ?_ J fun E σ tm w' ab I M us ys D o R => ?_
 . refine ⟨j, JeC y, ?_, Ext.refl _ _, fun i b hi => .inl ⟨⟨i, hi⟩, hi⟩, fun b m => .inl m, fun p => ?_, trivial, fun b m => m.elim, fun b m => m.elim, fun l r R => (by cases R), .nil, fun d Y => (by cases Y), fun b m => ?_, fun id ob z => ?_, fun b m => m⟩
   . simp only [L28, L0T, L29]
     have := y.1
     show vs.length + (q.ntmps - vs.length) = q.ntmps
     omega
   . show AV.namesB p (JbX args q.ntmps) = false
     rw [JgD args _ L]; rfl
   . rcases m with ⟨r, R⟩ | Y
     . cases R
     . cases Y
   . simp only [C] at z
     split at z
     . cases z; rfl
     . cases z
 . obtain ⟨aa, U, i2, a1, a2, a3, a4, a5⟩ := Jm4 (ρ0 := F) o j.low (fun id b h => h) (fun id b m => ⟨by
    rw [<- A]
    have := j.live id b m
    cases hs : stO l id with
    | none => exact absurd hs this
    | some k => exact L08.2 ⟨_, JbQ hs, rfl⟩, j.lt m, j.apart id b m⟩) R D
   refine ⟨_, aa, U, rfl, o.ext, i2, fun b m => ?_, a2, a3, fun id u => ?_, a5⟩
   . exact a1 b (o.j0 b m)
   . rw [a4 id (by
      have := (s id (K id u)).1
      rw [A] at this; exact this)]
     exact o.pin id (F id) (by simp [C, u])
theorem JrI {S : Sp} {id : Nat} {ops : Array Oper} {Q : Exit -> Env -> Jac -> Prop} {E : Env} {σ : Jac}
    (h : ∀ (C : Fx) (H : Holds S C) (n : Nat) (R : Exit -> Act -> World -> Prop), (∀ e E σ a w, Q e E σ -> St C E σ a w -> R e a w) -> ∀ a w, St C E σ a w ->
      ∃ V : (Nat -> Bool) -> Act -> World -> Prop, V (fun _ => false) a w /\ (∀ D a w, (∀ i, i < ops.size -> D i = true) -> V D a w -> R .normal a w) /\
        ∀ i o, ops[i]? = some o -> ∀ D, D i = false -> (∀ e ∈ o.after.toList, Region.binds .any e = true -> D e.on = true) -> ∀ a w, V D a w -> ∀ Kc : Act -> World -> Prop, (∀ a' w', V (insJ D i) a' w' -> Kc a' w') -> JfT n S.P C.rdl ops o Kc R a w)
    (hedge : JeA 0 ops.toList = true := by kernel_rfl) : semC S (.region id ops true) Q E σ := by
  intro C H n R hR a w hs
  have hlist : ∀ (i : Nat) (o : Oper), ops[i]? = some o -> ops.toList[i]? = some o := fun i o ho => by rw [L0L]; exact ho
  obtain ⟨V, h0, hend, hsteps⟩ := h C H n R hR a _ (hs.drew H.G (w.drawn + 1))
  refine wpIn_region_any H.mo ?_
  have key : ∀ (fuel : Nat) (listed : Array Bool) (a : Act) (w : World), listed.size = ops.size -> (rem ops listed).length <= fuel ->
      V (fun i => listed.getD i false) a w -> wpAnyIn (FW C.rdl) n S.P .any ops R fuel listed a w := by
    intro fuel
    have full : ∀ (listed : Array Bool), listed.size = ops.size -> rem ops listed = [] -> ∀ i, i < ops.size -> listed.getD i false = true := fun listed hsz hr i hi => by
      cases hl : listed.getD i false with
      | true => rfl
      | false =>
        have : i ∈ rem ops listed := JaM.2 ⟨hi, by
          simp only [L0B] at hl ⊢
          rw [L0g (by omega)] at hl ⊢; exact hl⟩
        rw [hr] at this; simp at this
    induction fuel with
    | zero =>
      intro listed a w hsz hle hv
      have h0 : rem ops listed = [] := L0M (by omega)
      refine ⟨?_, hend _ _ _ (full listed hsz h0) hv⟩
      cases hr : Region.ready .any ops listed with
      | nil => rfl
      | cons i l =>
        have hi : i ∈ Region.ready .any ops listed := by rw [hr]; simp
        obtain ⟨h1, o, ho, _⟩ := mem_ready.1 hi
        have : i ∈ rem ops listed := JaM.2 ⟨(L0k.1 ho).1, h1⟩
        rw [h0] at this; simp at this
    | succ fuel ih =>
      intro listed a w hsz hle hv
      have getD_same : ∀ i, i < ops.size -> listed.getD i true = listed.getD i false := fun i hi => by
        simp only [L0B]; rw [L0g (by omega)]; rfl
      refine ⟨fun hr0 => ?_, fun i hi => ?_⟩
      . have hr : rem ops listed = [] := by
          cases hr : rem ops listed with
          | nil => rfl
          | cons i l =>
            exfalso
            have hm : i ∈ rem ops listed := by rw [hr]; simp
            obtain ⟨hlt, hun⟩ := JaM.1 hm
            have : i ∈ Region.ready .any ops listed := mem_ready.2 ⟨hun, _, L0g hlt, fun e he hb => by
              have hei := JeB hedge (hlist i _ (L0g hlt)) e he hb
              cases hl : listed.getD e.on false with
              | true => rfl
              | false =>
                have hme : e.on ∈ rem ops listed := JaM.2 ⟨by omega, by rw [getD_same _ (by omega)]; exact hl⟩
                have hsort := JbZ (ops := ops) listed
                rw [hr] at hme hsort
                rcases L0i.1 hme with h | h
                . omega
                . have := (L1p.1 hsort).1 _ h; omega⟩
            rw [hr0] at this; simp at this
        exact hend _ _ _ (full listed hsz hr) hv
      . obtain ⟨hun, o, ho, hedges⟩ := mem_ready.1 hi
        have hlt : i < ops.size := (L0k.1 ho).1
        have hm : i ∈ rem ops listed := JaM.2 ⟨hlt, hun⟩
        obtain ⟨pre, post, hsplit⟩ := L1T hm
        have hset := Jg2 hsz hsplit
        have hD : (fun k => (listed.setIfInBounds i true).getD k false) = insJ (fun k => listed.getD k false) i := by
          funext k
          simp only [insJ, L0B]
          by_cases hk : k = i
          . subst hk; simp [hsz, hlt]
          . rw [L14 (Ne.symm hk)]; simp [hk]
        have hstep := hsteps i o ho (fun k => listed.getD k false) (by rw [<- getD_same i hlt]; exact hun) (fun e he hb => hedges e (L0s.1 he) hb) a w hv
        have next : ∀ a' w', V (insJ (fun k => listed.getD k false) i) a' w' -> wpAnyIn (FW C.rdl) n S.P .any ops R fuel (listed.setIfInBounds i true) a' w' := fun a' w' h1 => by
          refine ih (listed.setIfInBounds i true) a' w' (by simpa using hsz) ?_ (by rw [hD]; exact h1)
          rw [hset]; rw [hsplit] at hle; simp at hle ⊢; omega
        exact Jcq ho (hstep _ next)
  exact key ops.size _ a _ (by simp) (by unfold rem; exact L0r (L1U _ _) (by simp)) (by
    have : (fun i => (Array.replicate ops.size false).getD i false) = fun _ => false := by
      funext i; simp only [L0B, L1G]; split <;> rfl
    rw [this]; exact h0)
theorem Jfy {S : Sp} {C : Fx} {n : Nat} {ops : Array Oper} {o : Oper} {y : Value} {a : Act} {w w' : World} {Kc : Act -> World -> Prop} {R : Exit -> Act -> World -> Prop} (g : o.guard = none) (d : ∀ c, o.op ≠ .defer c)
 (b : (execOp a.eval o).run S.P w = .ok (.value y) w') (f : Kc (a.put o.dst y) w') : JfT n S.P C.rdl ops o Kc R a w := by
 unfold JfT
 rw [if_pos (by simp [Region.wanted, g])]
 exact JaL d b f
theorem Wit.forgetE {C : Fx} {E : Env} {σ : Jac} {a : Act} {w : World} {ρ : Nat -> Option Nat} {Im : Nat -> Prop} {M : Str} (h : Wit C E σ a w ρ Im M) {d : Nat} (c : d < C.N) : Wit C (upd E d .any) σ a w ρ Im M :=
 { h with
  env := fun t y b => by
   simp only [upd]; split
   . exact .im _ _ (.any _)
   . exact h.env t y b
  gh := fun p => by simp only [upd]; rw [if_neg (by omega)]; exact h.gh p
  g := by simp only [upd]; rw [if_neg (by omega)]; exact h.g }
theorem JqU {S : Sp} {id t e t' ty1 ty2 ty3 : Nat} {p1 p2 p3 : String} {x d1 d2 d3 bid : Nat} {a1 a2 a3 : Array Edge} {Q : Exit -> Env -> Jac -> Prop} {E : Env} {σ : Jac} {te : TypeId} {cs : List AV} (ht : tarr S.P t = some (8, e)) (hs1 : tsz S.P e = 1) (htl : tel S.P t' = some e)
    (hx : E x = .ptr bid 8 0 0) (hk : σ bid = some ⟨te, 8, [.agg cs]⟩) (hcl : cs.length = 8) (hat : ∀ c ∈ cs, c.cells = [c]) (hne : d1 ≠ x /\ d2 ≠ x /\ d1 ≠ d2 /\ d3 ≠ x /\ d3 ≠ d1 /\ d3 ≠ d2) (hlt : x < S.N /\ d1 < S.N /\ d2 < S.N /\ d3 < S.N)
    (hdep : ((a3.toList.any fun e => Region.binds .any e && e.on == 0) && (a3.toList.any fun e => Region.binds .any e && e.on == 1)) = true)
    (cs' : List AV) (hcs : cs.take 1 ++ cs.take 7 = cs') (hQ : Q .normal (upd (upd (upd E d1 .any) d2 .any) d3 .any) (updS σ bid ⟨te, 8, [.agg cs']⟩))
    (hedge : JeA 0 [⟨some d1, .slice t (.tmp x) (some (.const (.int .i64 1))) none none, ty1, p1, a1, none⟩, ⟨some d2, .slice t (.tmp x) none (some (.const (.int .i64 7))) none, ty2, p2, a2, none⟩, ⟨some d3, .call { callee := .builtin .copy, args := #[.tmp d1, .tmp d2], argTypes := #[t', t'] }, ty3, p3, a3, none⟩] = true := by kernel_rfl) :
    semC S (.region id #[⟨some d1, .slice t (.tmp x) (some (.const (.int .i64 1))) none none, ty1, p1, a1, none⟩, ⟨some d2, .slice t (.tmp x) none (some (.const (.int .i64 7))) none, ty2, p2, a2, none⟩, ⟨some d3, .call { callee := .builtin .copy, args := #[.tmp d1, .tmp d2], argTypes := #[t', t'] }, ty3, p3, a3, none⟩] true) Q E σ := by
  subst hcs
  refine JrI (fun C H n R hR a0 w0 hs => ?_) hedge
  obtain ⟨ρ, Im, M, hw⟩ := hs
  have hsz : a0.tmps.size = C.N := hw.size
  have hN := H.N
  have hb : ∃ b, a0.eval (.tmp x) = .pointer (some ⟨b, 0, none⟩) /\ ρ bid = some b := by
    have hlx : x < a0.tmps.size := by omega
    have hr := hw.env x a0.tmps[x] (L0g hlx); rw [hx] at hr
    have he : a0.eval (.tmp x) = a0.tmps[x] := by simp [Act.eval, hlx]
    rw [he]; generalize a0.tmps[x] = y at hr
    cases hr with
    | im _ _ h => cases h
    | ptr _ _ _ _ b hρ hz => exact ⟨b, by simp, hρ⟩
  obtain ⟨b, hxe, hρ⟩ := hb
  have hxt : a0.tmps[x]? = some (.pointer (some ⟨b, 0, none⟩)) := by
    have hlx : x < a0.tmps.size := by omega
    have he : a0.eval (.tmp x) = a0.tmps[x] := by simp [Act.eval, hlx]
    rw [L0g hlx, <- he, hxe]
  refine ⟨fun D a w => a.tmps.size = C.N /\ a.tmps[x]? = some (.pointer (some ⟨b, 0, none⟩)) /\ (D 0 = true -> a.tmps[d1]? = some (.slice (some ⟨b, 1, none⟩) 7 7)) /\ (D 1 = true -> a.tmps[d2]? = some (.slice (some ⟨b, 0, none⟩) 7 8)) /\
    Wit C (upd (upd (upd E d1 .any) d2 .any) d3 .any) (if D 2 = true then updS σ bid ⟨te, 8, [.agg (cs.take 1 ++ cs.take 7)]⟩ else σ) a w ρ Im M, ⟨hsz, hxt, fun h => (by cases h), fun h => (by cases h), ?_⟩, fun D a w hD hv => ?_, fun i o ho D hDi hdeps a w ⟨h1, h2, h3, h4, h5⟩ Kc hKc => ?_⟩
  . simp only [L0D, if_false]
    exact ((hw.forgetE (by omega)).forgetE (by omega)).forgetE (by omega)
  . have h5 := hv.2.2.2.2
    rw [if_pos (hD 2 (by show 2 < 3; omega))] at h5
    exact hR _ _ _ _ _ hQ ⟨ρ, Im, M, h5⟩
  . have same : ∀ d, d = d1 \/ d = d2 \/ d = d3 -> (upd (upd (upd E d1 .any) d2 .any) d3 .any) d = .any := fun d hd => by
      simp only [upd]; rcases hd with rfl | rfl | rfl <;> (repeat' split) <;> simp_all
    have hput : ∀ {d : Nat} {y v : Value} {t : Nat}, t ≠ d -> a.tmps[t]? = some v -> (a.put (some d) y).tmps[t]? = some v := fun {d y v t} hne hv => by
      simp only [Act.put]; rw [L14 (Ne.symm hne)]; exact hv
    have hput' : ∀ {d : Nat} {y : Value}, d < S.N -> (a.put (some d) y).tmps[d]? = some y := fun {d y} hd => by
      simp only [Act.put]; rw [L2i (by omega)]
    have hax : a.eval (.tmp x) = .pointer (some ⟨b, 0, none⟩) := by simp [Act.eval, h2]
    have hz := Jas (P := S.P) (t := e) (by omega) w
    rw [hs1] at hz
    match i, ho with
    | 0, ho =>
      cases ho
      have hrun : (execOp a.eval ⟨some d1, .slice t (.tmp x) (some (.const (.int .i64 1))) none none, ty1, p1, a1, none⟩).run S.P w = .ok (.value (.slice (some ⟨b, 1, none⟩) 7 7)) w := by
        have key : (Instr.sliceBounds false 8 8 (some (.int .i64 1)) none none).run S.P w = .ok (1, 8, 8) w := by
          unfold Instr.sliceBounds
          have := fun c => Jaj (P := S.P) (w := w) (k := .i64) (code := c) (show 1 <= 8 by omega)
          simp at this
          simp [this]
        have hc : a.eval (.const (.int .i64 1)) = .int .i64 1 := rfl
        simp only [execOp, hax, L0N, L2f, hc, Instr.sliceAt, Instr.sureAddr, Sem.run_bind, run_underlying (Jer ht) w, Result.andThen_ok, key, hz, Sem.run_pure]
        rfl
      refine Jfy rfl (fun _ e => by cases e) hrun (hKc _ _ ⟨by rw [JbN]; exact h1, hput (Ne.symm hne.1) h2, fun _ => hput' hlt.2.1, fun h => hput (Ne.symm hne.2.2.1) (h4 (by simpa [insJ] using h)), ?_⟩)
      have h6 := h5.put H.G (dst := some d1) (v := .any) (y := .slice (some ⟨b, 1, none⟩) 7 7) (fun d e => by cases e; omega) (.im _ _ (.any _))
      have e1 : updO (upd (upd (upd E d1 .any) d2 .any) d3 .any) (some d1) .any = upd (upd (upd E d1 .any) d2 .any) d3 .any := Jb9 _ _ _ (same d1 (.inl rfl))
      rw [e1] at h6
      simpa [insJ] using h6
    | 1, ho =>
      cases ho
      have hrun : (execOp a.eval ⟨some d2, .slice t (.tmp x) none (some (.const (.int .i64 7))) none, ty2, p2, a2, none⟩).run S.P w = .ok (.value (.slice (some ⟨b, 0, none⟩) 7 8)) w := by
        have key : (Instr.sliceBounds false 8 8 none (some (.int .i64 7)) none).run S.P w = .ok (0, 7, 8) w := by
          unfold Instr.sliceBounds
          have := fun c => Jaj (P := S.P) (w := w) (k := .i64) (code := c) (show 7 <= 8 by omega)
          simp at this
          simp [this]
        have hc : a.eval (.const (.int .i64 7)) = .int .i64 7 := rfl
        simp only [execOp, hax, L0N, L2f, hc, Instr.sliceAt, Instr.sureAddr, Sem.run_bind, run_underlying (Jer ht) w, Result.andThen_ok, key, hz, Sem.run_pure]
        rfl
      refine Jfy rfl (fun _ e => by cases e) hrun (hKc _ _ ⟨by rw [JbN]; exact h1, hput (Ne.symm hne.2.1) h2, fun h => hput hne.2.2.1 (h3 (by simpa [insJ] using h)), fun _ => hput' hlt.2.2.1, ?_⟩)
      have h6 := h5.put H.G (dst := some d2) (v := .any) (y := .slice (some ⟨b, 0, none⟩) 7 8) (fun d e => by cases e; omega) (.im _ _ (.any _))
      have e1 : updO (upd (upd (upd E d1 .any) d2 .any) d3 .any) (some d2) .any = upd (upd (upd E d1 .any) d2 .any) d3 .any := Jb9 _ _ _ (same d2 (.inr (.inl rfl)))
      rw [e1] at h6
      simpa [insJ] using h6
    | 2, ho =>
      cases ho
      simp only [L00, L1F, beq_iff_eq] at hdep
      obtain ⟨⟨g1, m1, b1, on1⟩, ⟨g2, m2, b2, on2⟩⟩ := hdep
      have hd0 := h3 (by have := hdeps g1 m1 b1; rwa [on1] at this)
      have hd1 := h4 (by have := hdeps g2 m2 b2; rwa [on2] at this)
      rw [if_neg (by simp [hDi])] at h5
      obtain ⟨cur, hbb, hl, hsz', hcc⟩ := h5.inv.blk bid _ b hk hρ (by simp)
      simp only [L1g, Nat.one_mul] at hsz'
      have hvals : ∀ j, j < 8 -> ∃ v, cur[j]? = some v /\ v.oneCell' = true := fun j hj => by
        obtain ⟨v, hv, h1', _⟩ := hcc 0 (.agg cs) j cs[j] rfl (by simp)
        exact ⟨v, by simpa using hv, h1'⟩
      have hlen7 : (cur.toList.take 7).length = 7 := by simp; omega
      have hget : ∀ j v, (cur.toList.take 7)[j]? = some v -> j < 7 /\ cur[j]? = some v := fun j v hv => by
        rw [L0m] at hv
        split at hv
        . exact ⟨by assumption, by simpa using hv⟩
        . cases hv
      have hone : ∀ v ∈ cur.toList.take 7, v.oneCell' = true := fun v hv => by
        obtain ⟨j, hj⟩ := L0v.1 hv
        obtain ⟨hj7, hj⟩ := hget j v hj
        obtain ⟨v', hv', h1'⟩ := hvals j (by omega)
        rw [hj] at hv'; cases hv'; exact h1'
      obtain ⟨fr, hb0, hfr⟩ := hbb
      have hinfo : (S.P.info? e).map (·.size) = some 1 := by
        obtain ⟨inf, hi, hs, _⟩ := JoQ (P := S.P) (t := e) (by omega)
        rw [hi]; simp [hs, hs1]
      have hrun1 := run_copy_cells (P := S.P) w t' t' ty3 e b 1 7 7 ⟨b, 0, none⟩ 7 8 (cur.toList.take 7) (JbF htl) hinfo (by rw [hlen7]; rfl) (fun j v hv => by rw [Jbc, Jbn ⟨fr, hb0, hfr⟩]; simpa using (hget j v hv).2)
        (fun j hj => by rw [hlen7] at hj; rw [Jbn ⟨fr, hb0, hfr⟩]; obtain ⟨v, hv, _⟩ := hvals (1 + j) (by omega); simp [hv]) (fun j hj => by rw [hlen7] at hj; exact JgN hb0 hfr (by omega)) hone
      have hst1 := Jc8 S.P b 1 te (cur.toList.take 7) 0 cur w ⟨fr, hb0, hfr⟩ (by rw [hlen7]; omega) hone
      have hst2 := run_storeCells_cells (P := S.P) b 1 (cur.toList.take 7) 0 w (fun j hj => by rw [hlen7] at hj; rw [Jbn ⟨fr, hb0, hfr⟩]; obtain ⟨v, hv, _⟩ := hvals (1 + 0 + j) (by omega); simp [hv]) (fun j hj => by rw [hlen7] at hj; exact JgN hb0 hfr (by omega)) hone
      rw [hst1] at hst2
      have heq : w.setCells b 1 (cur.toList.take 7) = w.setRow b (cur.toList.take 1 ++ cur.toList.take 7 ++ cur.toList.drop 8).toArray := by
        simp only [L0X, hlen7] at hst2
        injection hst2 with _ h; exact h.symm
      rw [heq] at hrun1
      have ha1 : a.eval (.tmp d1) = .slice (some ⟨b, 1, none⟩) 7 7 := by simp [Act.eval, hd0]
      have ha2 : a.eval (.tmp d2) = .slice (some ⟨b, 0, none⟩) 7 8 := by simp [Act.eval, hd1]
      have hrun : (execOp a.eval ⟨some d3, .call { callee := .builtin .copy, args := #[.tmp d1, .tmp d2], argTypes := #[t', t'] }, ty3, p3, a3, none⟩).run S.P w = .ok (.value (goInt (cur.toList.take 7).length)) (w.setRow b (cur.toList.take 1 ++ cur.toList.take 7 ++ cur.toList.drop 8).toArray) := by
        simp [execOp, resolve, invoke, builtin, ha1, ha2, hrun1]
      have h7 := h5.turn H.G (k' := ⟨te, 8, [.agg (cs.take 1 ++ cs.take 7)]⟩) (cur' := (cur.toList.take 1 ++ cur.toList.take 7 ++ cur.toList.drop 8).toArray) hk hρ ⟨fr, hb0, hfr⟩ (by simp; omega) rfl (fun e he => by simp at he; subst he; simp; omega) (by simp; omega) (fun i e' j c he hc => by
        cases i with
        | succ i => simp at he
        | zero =>
          simp at he; subst he
          simp only [AV.cells_agg] at hc
          have hj : j < 8 := by have := (L05.1 hc).1; simp at this; omega
          have hsrc : ∃ q, q < 8 /\ cs[q]? = some c /\ (cur.toList.take 1 ++ cur.toList.take 7 ++ cur.toList.drop 8)[j]? = cur.toList[q]? := by
            by_cases hj0 : j = 0
            . subst hj0
              refine ⟨0, by omega, ?_, ?_⟩
              . rw [L0l (by simp; omega), L0m] at hc; simpa using hc
              . rw [L0I, L0l (by simp; omega), L0m]; simp
            . refine ⟨j - 1, by omega, ?_, ?_⟩
              . rw [L0o (by simp; omega)] at hc
                have : j - (cs.take 1).length = j - 1 := by simp; omega
                rw [this, L0m, if_pos (by omega)] at hc; exact hc
              . rw [L0l (by simp; omega), L0o (by simp; omega)]
                have : j - (cur.toList.take 1).length = j - 1 := by simp; omega
                rw [this, L0m, if_pos (by omega)]
          obtain ⟨q, hq, hcq, hjq⟩ := hsrc
          obtain ⟨v, hv, h1', hr⟩ := hcc 0 (.agg cs) q c rfl hcq
          refine ⟨v, ?_, h1', hr⟩
          simp only [Nat.zero_mul, L0n, L1c]
          rw [hjq]; simpa using hv) (by simp)
      refine Jfy rfl (fun _ e => by cases e) hrun (hKc _ _ ⟨by rw [JbN]; exact h1, hput (Ne.symm hne.2.2.2.1) h2, fun h => hput (Ne.symm hne.2.2.2.2.1) (h3 (by simpa [insJ] using h)), fun h => hput (Ne.symm hne.2.2.2.2.2) (h4 (by simpa [insJ] using h)), ?_⟩)
      have h8 := h7.put H.G (dst := some d3) (v := .any) (y := goInt (cur.toList.take 7).length) (fun d e => by cases e; omega) (.im _ _ (.any _))
      have e1 : updO (upd (upd (upd E d1 .any) d2 .any) d3 .any) (some d3) .any = upd (upd (upd E d1 .any) d2 .any) d3 .any := Jb9 _ _ _ (same d3 (.inr (.inr rfl)))
      rw [e1] at h8
      rw [if_pos (by simp [insJ])]
      exact h8
    | i + 3, ho => simp at ho
theorem JkI {S : Sp} {dst : Option Nat} {op : Op} {ty : TypeId} {K : Env -> Jac -> Prop} {E : Env} {σ : Jac} (F : List Nat) (h : semD S dst op ty K (frE (inI F) σ E) (frS (inI F) σ))
 (k : (F.all fun i => !S.old i && !S.pin i) = true := by kernel_rfl) : semD S dst op ty K E σ := by
 intro m c d C H n a w p Q ⟨_, _, _, t⟩ l
 simp only [L0c, L00, L0U] at k
 have j : ∀ {id}, inI F id = true -> id ∈ F := fun h => L0K.1 h
 have o : ∀ {id} {b : Bool}, b = true -> (inI F id = true -> b = false) -> inI F id = false := fun {id b} q s => by
  cases g : inI F id with
  | false => rfl
  | true => have := s g; rw [q] at this; cases this
 exact h m c d C H n a w p Q ⟨_, _, _, t.freeze H (inI F) (fun id f => o f fun g => (k id (j g)).2) (fun id f => o f fun g => (k id (j g)).1)⟩ l
section
variable {P : Program} {S : Sp} {kd bi : Bool} {dst : Option Nat} {ty t : TypeId} {K Kb : Env -> Jac -> Prop} {E : Env} {σ : Jac} (aso : Array Operand) (ts : Array TypeId)
@[go_sem] theorem Jzm : cls P (.call { callee := .builtin .unsafeString, args := aso, argTypes := ts }) ty = 5 := rfl
@[go_sem] theorem Jzh : cls P (.call { callee := .builtin .copy, args := aso, argTypes := ts }) ty = 5 := rfl
@[go_sem] theorem JBg : cls P (.call { callee := .builtin .cap, args := aso, argTypes := ts }) ty = 5 := rfl
@[go_sem] theorem JBk (x : Operand) : cls P (.sliceToArrayPointer t x) ty = 5 := rfl
@[go_sem ↓] theorem Jy2 : aopC S kd bi dst (.call { callee := .builtin .unsafeString, args := aso, argTypes := ts }) ty K Kb E σ = semD S dst (.call { callee := .builtin .unsafeString, args := aso, argTypes := ts }) ty Kb E σ := rfl
@[go_sem ↓] theorem JyX : aopC S kd bi dst (.call { callee := .builtin .copy, args := aso, argTypes := ts }) ty K Kb E σ = semD S dst (.call { callee := .builtin .copy, args := aso, argTypes := ts }) ty Kb E σ := rfl
@[go_sem ↓] theorem JA3 : aopC S kd bi dst (.call { callee := .builtin .cap, args := aso, argTypes := ts }) ty K Kb E σ = semD S dst (.call { callee := .builtin .cap, args := aso, argTypes := ts }) ty Kb E σ := rfl
@[go_sem ↓] theorem JA7 (x : Operand) : aopC S kd bi dst (.sliceToArrayPointer t x) ty K Kb E σ = semD S dst (.sliceToArrayPointer t x) ty Kb E σ := rfl
end
variable {P : Program} {C : Fx} {w : World} {ρ : Nat -> Option Nat} {Im : Nat -> Prop} {M : Str} {E : Env} {σ : Jac} {a : Act}
def spZ (P : Program) (f : FuncId) (N l : Nat) (c : List Nat) : Sp := { P, N, b := 131072 * (f + 1), pin := fun _ => false, yl := l, Y := seqY, bad := inI c, old := fun i => Nat.blt (i / 16) (131072 * (f + 1)) || Nat.ble (131072 * (f + 1) + 100000) (i / 16) }
theorem Jml (P : Program) (f : FuncId) (N l : Nat) (b : List Nat) : JcF (spZ P f N l b) := fun _ _ _ _ c h => Jj0 c h
section
variable (P : Program) (f N l : Nat) (bad : List Nat)
@[go_sem] theorem spZ_P : (spZ P f N l bad).P = P := rfl
@[go_sem] theorem spZ_b : (spZ P f N l bad).b = 131072 * (f + 1) := rfl
@[go_sem] theorem JCY (id : Nat) : (spZ P f N l bad).bad id = bad.contains id := rfl
@[go_sem] theorem spZ_N : (spZ P f N l bad).N = N := rfl
@[go_sem] theorem JCZ (id : Nat) : (spZ P f N l bad).pin id = false := rfl
@[go_sem] theorem spZ_yl : (spZ P f N l bad).yl = l := rfl
@[go_sem] theorem spZ_Y : (spZ P f N l bad).Y = seqY := rfl
end
theorem JuC {f : FuncId} {fn : Func} {c : Code} {args : List AV} {xs : List (List AV)} {l0 : List (Nat × Blk)} (bad : List Nat) (hf : P.funcs[f]? = some fn) (hb : fn.body = some c) (hok : fnB P fn bad c = true) (hmo : P.follows .mixedOrders = true)
    (hlen : args.length < fn.ntmps) (hres : fn.results = #[]) (hxs : AV.namesL allB (xs.map .tup) = false)
    (hold : (l0.all fun p => Nat.blt (p.1 / 16) (131072 * (f + 1)) || Nat.ble (131072 * (f + 1) + 100000) (p.1 / 16)) = true)
    (h : ∀ l, awpC (spZ P f fn.ntmps l bad) c (fun e => match e with | .normal => fun E _ => E fn.ntmps = .tup [] \/ E fn.ntmps = .any | .ret => fun E _ => E fn.ntmps = .tup [] \/ E fn.ntmps = .any | _ => fun _ _ => False) (upd (JbX (.yld l :: args)) fn.ntmps (.tup (xs.map .tup))) (stO l0)) : SOK P f args (stO l0) xs := by
  simp only [fnB, L00, L0U] at hok
  obtain ⟨⟨⟨h1, h2⟩, h3⟩, h4⟩ := hok
  have h4 := L0u h4; have h1 := JaS c h1
  have h : ∀ l, awp (spZ P f fn.ntmps l bad) c (retG P fn fun _ E _ => E fn.ntmps = .tup [] \/ E fn.ntmps = .any) (upd (JbX (.yld l :: args)) fn.ntmps (encG xs false)) (stO l0) := fun l =>
    JbJ (Jml P f fn.ntmps l bad) c (fun e E σ hk => by
      cases e <;> first | exact hk.elim | (simp only [retG, hres]; exact hk)) (h l)
  refine ⟨enters hf hb h3, fun w Im ρ vs l G M0 hG hinv hgk hargs hM hJ hans hG0 => ?_⟩
  let C : Fx := { w0 := w, X0 := fun b => (∃ id, ρ id = some b) \/ M0.m b, Im0 := Im, G := fun g M w => ∃ ys s, g = encG ys s /\ AV.namesL allB (ys.map .tup) = false /\ G ys s M w, N := fn.ntmps, rd := none, pin := fun _ => none, J0 := Im, R0 := fun id b => ρ id = some b }
  have H : Holds (spZ P f fn.ntmps l bad) C := by
    refine ⟨rfl, ?_, ?_, hmo, fun _ _ hp => (by cases hp), fun _ hp => (by cases hp), h4, fun _ => rfl, fun id b _ hb => ?_, hgk, fun b hb => ⟨fun hx => ?_, hinv.low b (hgk.im hb)⟩, (fun h => by cases h)⟩
    rotate_left 2
    . cases hs : stO l0 id with
      | none => exact absurd hs (hinv.live id b hb)
      | some k => exact L0c.1 hold _ (JbQ hs)
    . rcases hx with ⟨id, hid⟩ | hx
      . exact hinv.apart id b hid (hgk.im hb)
      . exact (hM b hx).2.2 (hgk.im hb)
    . rintro g M w w' ⟨ys, s, e, hn, hg⟩ hb hs ho ht hout
      exact ⟨ys, s, e, hn, hG ys s (.v undef) M w w' hg hb hs ho ht hout⟩
    . intro aso g K hY w1 Im1 M1 vs1 hI hM1 hJ1 hL hvs ⟨ys, s, e, hn, hg⟩ n
      subst e
      cases s with
      | true => exact hY.elim
      | false =>
        cases ys with
        | nil => exact hY.elim
        | cons x rest =>
          obtain ⟨rfl, hK1, hK2⟩ := hY
          obtain ⟨hnx, hnr⟩ := JgP hn
          obtain ⟨fn', tmps, assign, body, hr, hround⟩ := hans aso rest M1 w1 Im1 vs1 hg hI hM1 hJ1 hL hvs n
          refine ⟨fn', tmps, assign, body, hr, hround.mono ?_⟩
          rintro e w' ⟨b, M', rfl, hg', hm, hj, hx⟩
          cases b with
          | true => exact ⟨_, .tup (rest.map .tup), M', rfl, ⟨true, rfl⟩, hK1, fun p => JeI (a := .tup (rest.map .tup)) hnr p, ⟨rest, false, rfl, hnr, hg'⟩, hm, hj, hx⟩
          | false => exact ⟨_, .any, M', rfl, ⟨false, rfl⟩, hK2, fun p => rfl, ⟨rest, true, rfl, hnr, hg'⟩, hm, hj, hx⟩
  have hyl : Reps w ρ Im (.yld l :: args) (.func (.yield l) #[] #[] :: vs) := by
    refine ⟨by simp [hargs.1], fun j c y hc hy => ?_⟩
    cases j with
    | zero => simp at hc hy; subst hc; subst hy; exact .im _ _ (.yld l)
    | succ j => exact hargs.2 j c y (by simpa using hc) (by simpa using hy)
  have henv : JaG w ρ Im (upd (JbX (.yld l :: args)) fn.ntmps (encG xs false)) ((.func (.yield l) #[] #[] :: vs).toArray ++ Array.replicate (fn.ntmps - (.func (.yield l) #[] #[] :: vs).toArray.size) undef) := fun t y hy => by
    have hlt := (L0k.1 hy).1
    have hsz : ((Value.func (.yield l) #[] #[] :: vs).toArray ++ Array.replicate (fn.ntmps - (.func (.yield l) #[] #[] :: vs).toArray.size) undef).size = fn.ntmps := by
      have := hargs.1; simp; omega
    rw [hsz] at hlt
    simp only [upd]; rw [if_neg (by omega)]
    exact JeC hyl t y hy
  refine JcG (E0 := upd (JbX (.yld l :: args)) fn.ntmps (encG xs false)) (S := spZ P f fn.ntmps l bad) (C := C) (vs := .func (.yield l) #[] #[] :: vs) (σ0 := stO l0) (ρ0 := ρ) (Im0 := Im) (M0 := M0) H rfl hf hb rfl h1 h2 ?_ (h l) fun E σ' tm w' ρ' I M us ys hk hrest hr => ?_
  . refine ⟨hinv, henv, (?_ : _ = fn.ntmps), Ext.refl _ _, fun i b hi => .inl ⟨.inl ⟨i, hi⟩, hi⟩, fun b hb => .inl hb, fun p => ?_, ?_, hJ, fun b hb => ⟨(hM b hb).1, (hM b hb).2.1, (hM b hb).2.2, .inl (.inr hb)⟩, fun l r hr => (by cases hr), .nil, fun d hd => (by cases hd), fun b hb => ?_, fun id b hb => (by cases hb), fun b hb => hb⟩
    . have := hargs.1; simp; omega
    . show AV.namesB p (upd (JbX (.yld l :: args)) fn.ntmps (encG xs false) fn.ntmps) = false
      rw [Jga]; exact JeI (a := .tup (xs.map .tup)) hxs p
    . show ∃ ys s, upd (JbX (.yld l :: args)) fn.ntmps (encG xs false) fn.ntmps = encG ys s /\ _
      rw [Jga]; exact ⟨xs, false, rfl, hxs, hG0⟩
    . rcases hb with ⟨r, hr⟩ | hd
      . cases hr
      . cases hd
  . obtain ⟨zs, s, e, _, hg⟩ := hrest.g
    refine ⟨_, zs, s, M, rfl, ?_, hg, hrest.ext⟩
    have e : E fn.ntmps = encG zs s := e
    rw [e] at hk
    cases s with
    | true => exact .inr rfl
    | false =>
      rcases hk with hk | hk
      . refine .inl ?_
        simp only [encG, AV.tup.injEq, L2l] at hk; exact hk
      . cases hk
theorem Jap {S : Sp} (m : JcF S) {id : Nat} {ops : Array Oper} {c : Bool} {Q : Exit -> Env -> Jac -> Prop} {E : Env} {σ : Jac} (F : List Nat) (h : regC S c ops (Q .normal) (frE (inI F) σ E) (frS (inI F) σ))
 (k : (F.all fun i => !S.old i && !S.pin i) = true := by kernel_rfl) (f : Jcg S.P S.N JjM (.region id ops c) = true := by kernel_rfl) : semC S (.region id ops c) Q E σ := by
 simp only [L0c, L00, L0U] at k
 have j : ∀ {id}, inI F id = true -> id ∈ F := fun h => L0K.1 h
 have l : ∀ {id} {b : Bool}, b = true -> (inI F id = true -> b = false) -> inI F id = false := fun {id b} o p => by
  cases g : inI F id with
  | false => rfl
  | true => have := p g; rw [o] at this; cases this
 exact JgA m F h (fun id d => l d fun g => (k id (j g)).2) (fun id d => l d fun g => (k id (j g)).1) f
@[go_sem] theorem JBR (L p : Nat -> Bool) (σ : Jac) (l : Nat) : frz L p σ (.yld l) = .yld l := rfl
def nnB : AV -> Bool
 | .new .. => false
 | .nptr .. => false
 | _ => true
theorem Jwh {w : World} {Im : Nat -> Prop} {r : AV} {y : Value} {b : Option Nat} (h : nnB r = true) : R1 w Im r y b ↔ (b = none /\ IRep w Im r y) := by
 cases r <;> first | exact Iff.rfl | cases h
theorem Jwi {w : World} {Im : Nat -> Prop} : ∀ {c d : List AV} {ys : List Value} {b : List (Option Nat)}, (c.all nnB) = true -> (d.all nnB) = true -> Jmy c d -> RL w Im c ys b -> RL w Im d ys b
 | [], [], _, _, _, _, _, h => h
 | r :: c, s :: d, [], _, _, _, _, h => (h : False).elim
 | r :: c, s :: d, _ :: _, [], _, _, _, h => (h : False).elim
 | r :: c, s :: d, y :: ys, l :: b, f, g, i, h => by
  simp only [L1V, L00] at f g
  obtain ⟨j, k⟩ := (Jwh f.1).1 h.1
  exact ⟨(Jwh g.1).2 ⟨j, i.1 _ _ _ k⟩, Jwi f.2 g.2 i.2 h.2⟩
 | [], _ :: _, _, _, _, _, h, _ => h.elim
 | _ :: _, [], _, _, _, _, h, _ => h.elim
theorem Ev.resL {P : Program} {f : FuncId} {args : List AV} {d i : List AV} (h : Ev P f args (.tup d)) (m : Jmy d i) (k : (d.all nnB) = true := by rfl) (l : (i.all nnB) = true := by rfl) : Ev P f args (.tup i) := by
 rintro p q ⟨rfl, rfl⟩
 obtain ⟨a, b⟩ := h p (.tup d) ⟨rfl, rfl⟩
 refine ⟨a, fun w j vs c g o => (b w j vs c g o).mono fun e s ⟨y, he, hx, Im1, g1, g2, ys, obs, g3, g4, g5⟩ => ⟨y, he, hx, Im1, g1, g2, ys, obs, g3, Jwi k l m g4, g5⟩⟩
theorem Jqy {cs b : List AV} (h : Jmy cs b) : (AV.agg cs).asIf (.agg b) := by
 intro w i y g
 cases g with
 | agg _ ys f c d =>
  have := Je3 h (vs := ys) ⟨f, d⟩
  exact .agg _ ys this.1 c this.2
def JiR (x : Nat) (S : Sp) (ops : Array Oper) (J : (Nat -> Bool) -> Env -> Jac -> Prop) : Nat -> List Oper -> Prop
 | _, [] => True
 | i, o :: l => (i ≠ x -> ∀ D, D i = false -> (∀ e ∈ o.after.toList, Region.binds .any e = true -> D e.on = true) -> ∀ E b, J D E b -> opsC S false ops i [o] (J (insJ D i)) E b) /\ JiR x S ops J (i + 1) l
theorem Jh1 {x : Nat} {S : Sp} {ops : Array Oper} {J : (Nat -> Bool) -> Env -> Jac -> Prop} : ∀ {l : List Oper} {n i : Nat} {o : Oper}, JiR x S ops J n l -> l[i]? = some o -> n + i ≠ x ->
 ∀ D, D (n + i) = false -> (∀ e ∈ o.after.toList, Region.binds .any e = true -> D e.on = true) -> ∀ E σ, J D E σ -> gopC S true true ops.toList o (J (insJ D (n + i))) (J (insJ D (n + i))) E σ
 | [], _, _, _, _, h, _ => by simp at h
 | d :: l, n, i, o, b, h, c => by
  cases i with
  | zero => simp at h; subst h; exact b.1 c
  | succ i =>
   have := Jh1 b.2 (by simpa using h) (by omega)
   rwa [show n + 1 + i = n + (i + 1) from by omega] at this
theorem JpB {S : Sp} (hY : JcF S) {id : Nat} {ops : Array Oper} {Q : Exit -> Env -> Jac -> Prop} {E : Env} {σ : Jac} (J : (Nat -> Bool) -> Env -> Jac -> Prop)
 (x : Nat) (h0 : J (fun _ => false) E σ) (hsteps : JiR x S ops J 0 ops.toList)
 (hx : ∀ o, ops[x]? = some o -> o.guard = none /\ ∀ D, D x = false -> (∀ e ∈ o.after.toList, Region.binds .any e = true -> D e.on = true) -> ∀ E σ, J D E σ -> semV S o (J (insJ D x)) E σ) (hend : ∀ D E σ, (∀ i, i < ops.size -> D i = true) -> J D E σ -> Q .normal E σ)
 (hfit : ops.toList.all (Oper.fits S.P S.N) = true := by kernel_rfl) (hedge : JeA 0 ops.toList = true := by kernel_rfl) : semC S (.region id ops true) Q E σ := by
 intro C H n R hR a w hs
 have hall : ∀ (i : Nat) (o : Oper), ops[i]? = some o -> Oper.fits S.P S.N o = true := fun i o ho => L0c.1 hfit o (L0s.2 (L1v ho))
 have hlist : ∀ (i : Nat) (o : Oper), ops[i]? = some o -> ops.toList[i]? = some o := fun i o ho => by rw [L0L]; exact ho
 refine wpIn_region_any H.mo ?_
 have key : ∀ (fuel : Nat) (listed : Array Bool) (E : Env) (σ : Jac) (a : Act) (w : World), listed.size = ops.size -> (rem ops listed).length <= fuel ->
  J (fun i => listed.getD i false) E σ -> St C E σ a w -> wpAnyIn (FW C.rdl) n S.P .any ops R fuel listed a w := by
  intro fuel
  have full : ∀ (listed : Array Bool), listed.size = ops.size -> rem ops listed = [] -> ∀ i, i < ops.size -> listed.getD i false = true := fun listed hsz hr i hi => by
   cases hl : listed.getD i false with
   | true => rfl
   | false =>
    have : i ∈ rem ops listed := JaM.2 ⟨hi, by
     simp only [L0B] at hl ⊢
     rw [L0g (by omega)] at hl ⊢; exact hl⟩
    rw [hr] at this; simp at this
  induction fuel with
  | zero =>
   intro listed E σ a w hsz hle hv hs
   have h0 : rem ops listed = [] := L0M (by omega)
   refine ⟨?_, hR _ _ _ _ _ (hend _ _ _ (full listed hsz h0) hv) hs⟩
   cases hr : Region.ready .any ops listed with
   | nil => rfl
   | cons i l =>
    have hi : i ∈ Region.ready .any ops listed := by rw [hr]; simp
    obtain ⟨h1, o, ho, _⟩ := mem_ready.1 hi
    have : i ∈ rem ops listed := JaM.2 ⟨(L0k.1 ho).1, h1⟩
    rw [h0] at this; simp at this
  | succ fuel ih =>
   intro listed E σ a w hsz hle hv hs
   have getD_same : ∀ i, i < ops.size -> listed.getD i true = listed.getD i false := fun i hi => by
    simp only [L0B]; rw [L0g (by omega)]; rfl
   refine ⟨fun hr0 => ?_, fun i hi => ?_⟩
   . have hr : rem ops listed = [] := by
      cases hr : rem ops listed with
      | nil => rfl
      | cons i l =>
       exfalso
       have hm : i ∈ rem ops listed := by rw [hr]; simp
       obtain ⟨hlt, hun⟩ := JaM.1 hm
       have : i ∈ Region.ready .any ops listed := mem_ready.2 ⟨hun, _, L0g hlt, fun e he hb => by
        have hei := JeB hedge (hlist i _ (L0g hlt)) e he hb
        cases hl : listed.getD e.on false with
        | true => rfl
        | false =>
         have hme : e.on ∈ rem ops listed := JaM.2 ⟨by omega, by rw [getD_same _ (by omega)]; exact hl⟩
         have hsort := JbZ (ops := ops) listed
         rw [hr] at hme hsort
         rcases L0i.1 hme with h | h
         . omega
         . have := (L1p.1 hsort).1 _ h; omega⟩
       rw [hr0] at this; simp at this
     exact hR _ _ _ _ _ (hend _ _ _ (full listed hsz hr) hv) hs
   . obtain ⟨hun, o, ho, hedges⟩ := mem_ready.1 hi
     have hlt : i < ops.size := (L0k.1 ho).1
     have hm : i ∈ rem ops listed := JaM.2 ⟨hlt, hun⟩
     obtain ⟨pre, post, hsplit⟩ := L1T hm
     have hset := Jg2 hsz hsplit
     have hD : (fun k => (listed.setIfInBounds i true).getD k false) = insJ (fun k => listed.getD k false) i := by
      funext k
      simp only [insJ, L0B]
      by_cases hk : k = i
      . subst hk; simp [hsz, hlt]
      . rw [L14 (Ne.symm hk)]; simp [hk]
     have next : ∀ E' σ' a' w', J (insJ (fun k => listed.getD k false) i) E' σ' -> St C E' σ' a' w' -> wpAnyIn (FW C.rdl) n S.P .any ops R fuel (listed.setIfInBounds i true) a' w' := fun E' σ' a' w' h1 h3 => by
      refine ih (listed.setIfInBounds i true) E' σ' a' w' (by simpa using hsz) ?_ (by rw [hD]; exact h1) h3
      rw [hset]; rw [hsplit] at hle; simp at hle ⊢; omega
     by_cases hix : i = x
     . subst hix
       obtain ⟨hgn, hs1⟩ := hx o ho
       have hs2 := hs1 (fun k => listed.getD k false) (by rw [<- getD_same i hlt]; exact hun) (fun e he hb => hedges e (L0s.1 he) hb) E σ hv
       refine Jcq ho ?_
       unfold JfT
       rw [if_pos (by simp [Region.wanted, hgn])]
       exact hs2 C H n a w _ _ hs fun E' σ' a' w' h1 h2 => next E' σ' a' w' h1 h2
     have hstep := Jh1 hsteps (hlist i o ho) (by omega) (fun k => listed.getD k false) (by rw [L0n, <- getD_same i hlt]; exact hun) (fun e he hb => hedges e (L0s.1 he) hb) E σ hv
     rw [L0n] at hstep
     have hg := JkK hY (K' := J (insJ (fun k => listed.getD k false) i)) (Kb' := J (insJ (fun k => listed.getD k false) i)) (fun _ _ h => h) (fun _ _ h => h) hstep
     obtain ⟨ρ, Im, M, hw⟩ := hs
     exact Jcq ho (Jdm (Kc := wpAnyIn (FW C.rdl) n S.P .any ops R fuel (listed.setIfInBounds i true)) H hw hall (hall i o ho) true true (fun h => by cases h) hg (fun E' σ' a' w' h1 h2 => next E' σ' a' w' h1 h2) fun E' σ' a' w' h1 h2 => next E' σ' a' w' h1 h2)
 exact key ops.size _ E σ a _ (by simp) (by unfold rem; exact L0r (L1U _ _) (by simp)) (by
  have : (fun i => (Array.replicate ops.size false).getD i false) = fun _ => false := by
   funext i; simp only [L0B, L1G]; split <;> rfl
  rw [this]; exact h0) (hs.drew H.G (w.drawn + 1))
theorem Jbo {S : Sp} {c0 : Code} {Q : Exit -> Env -> Jac -> Prop} {E : Env} {σ : Jac} (id id' i j e sz : Nat) {k : Blk} {el : AV} (hk : σ id = some k) (hid : id' ≠ id) (he : k.es[i]? = some el) (hc : el.cells[j]? = some (.v (.slice none 0 0))) (hkz : k.sz ≠ 0) (hnk : AV.namesL (isId id') k.es = false) (hpin : S.pin id' = false)
    (h : semC S c0 Q (JaR (isId id') E) (updS (updS (Jak (isId id') σ) id' ⟨e, sz, []⟩) id ⟨k.e, k.sz, k.es.set i (setC el j (.own id' sz 0 0))⟩)) : semC S c0 Q E σ := by
  intro C H n R hR a w ⟨ρ, Im, M, hw⟩
  have hpc : C.pin id' = none := by
    cases hp : C.pin id' with
    | none => rfl
    | some b => rw [H.pin id' b hp] at hpin; cases hpin
  have h1 := hw.kill H.G (isId id') (JgZ hpc)
  have h2 := h1.newNil H.G (d := id') hpc (JbC (by simp [isId]) E σ) e sz (dst := none) (v := .any) (y := undef) (fun d' e => by cases e) (.im _ _ (.any _))
  have hkk : k.kill (isId id') = k := by simp [Blk.kill, hnk]
  have hk3 : (updS (Jak (isId id') σ) id' ⟨e, sz, []⟩) id = some k := by
    rw [Jax _ _ _ _ (Ne.symm hid)]; simp only [Jak]
    rw [if_neg (by simp [isId]; exact fun e => hid e.symm), hk]; simp [hkk]
  refine h C H n R hR a w ⟨updR (killR (isId id') ρ) id' none, Im, M, ?_⟩
  have hown : ∀ v : World, Rep v (updR (killR (isId id') ρ) id' none) Im (.own id' sz 0 0) (.slice none 0 0) := fun v => .ownNil _ _ (by simp)
  have h2' : Wit C (JaR (isId id') E) (updS (Jak (isId id') σ) id' ⟨e, sz, []⟩) a w (updR (killR (isId id') ρ) id' none) Im M := h2
  have hels : ∀ v ∈ (k.es.set i (setC el j (.own id' sz 0 0))), ∃ v0 ∈ k.es, v.cells.length = v0.cells.length := fun v hv => by
    rcases L23 hv with hv | rfl
    . exact ⟨v, hv, rfl⟩
    . refine ⟨el, L01 he, ?_⟩
      have hj := (L05.1 hc).1
      rw [JcS (by simp; omega)]; simp; omega
  have hcell : ∀ (i' : Nat) (e' : AV) (j' : Nat) (c : AV), (k.es.set i (setC el j (.own id' sz 0 0)))[i']? = some e' -> e'.cells[j']? = some c -> (∃ e0, k.es[i']? = some e0 /\ e0.cells[j']? = some c) \/ (c = .own id' sz 0 0 /\ i' = i /\ j' = j) := fun i' e' j' c he' hc' => by
    rw [L25] at he'
    split at he'
    . rename_i hii; subst hii
      split at he'
      . cases he'
        have hj := (L05.1 hc).1
        rw [JcS (by simp; omega)] at hc'
        simp only [AV.cells_own, L1g] at hc'
        rcases Nat.lt_trichotomy j' j with hlt | rfl | hgt
        . rw [L0I, L0l (by simp; omega), L0m, if_pos hlt] at hc'
          exact .inl ⟨el, he, hc'⟩
        . rw [L0I, L0o (by simp; omega)] at hc'
          have : j' - (el.cells.take j').length = 0 := by simp; omega
          rw [this] at hc'; simp at hc'; exact .inr ⟨hc'.symm, rfl, rfl⟩
        . rw [L0o (by simp; omega), L0E] at hc'
          have : j + 1 + (j' - (el.cells.take j ++ [AV.own id' sz 0 0]).length) = j' := by simp; omega
          rw [this] at hc'
          exact .inl ⟨el, he, hc'⟩
      . cases he'
    . exact .inl ⟨e', he', hc'⟩
  refine h2'.step H.G (Ext.refl _ _) ?_ h2'.env rfl rfl rfl (fun _ _ hb => .inl hb) (fun _ hb => .inl hb) h2'.pin (fun _ h => h)
  have hi := h2'.inv
  refine ⟨fun q k2 hk2 hr => ?_, fun q k2 b hk2 hr hz => ?_, fun q k2 b hk2 hr hz => ?_, hi.inj, fun q b hr hs' => ?_, hi.apart, hi.low⟩
  . by_cases e : q = id
    . subst e; have h0 := hi.nil q k hk3 hr
      rw [h0] at he; simp at he
    . rw [Jax _ _ _ _ e] at hk2; exact hi.nil q k2 hk2 hr
  . by_cases e : q = id
    . subst e; simp at hk2; subst hk2; exact absurd hz hkz
    . rw [Jax _ _ _ _ e] at hk2; exact hi.map q k2 b hk2 hr hz
  . by_cases e : q = id
    . subst e; simp at hk2; subst hk2
      obtain ⟨cur, hb, hl, hs, hcc⟩ := hi.blk q k b hk3 hr hkz
      refine ⟨cur, hb, fun v hv => ?_, by simpa using hs, fun i' e' j' c he' hc' => ?_⟩
      . obtain ⟨v0, h0, h1⟩ := hels v hv
        rw [h1]; exact hl v0 h0
      . rcases hcell i' e' j' c he' hc' with ⟨e0, h0, h1⟩ | ⟨rfl, rfl, rfl⟩
        . exact hcc i' e0 j' c h0 h1
        . obtain ⟨x, hx, h1, hr'⟩ := hcc i' el j' _ he hc
          have := hr'.v_inv
          subst this
          exact ⟨_, hx, h1, hown w⟩
    . rw [Jax _ _ _ _ e] at hk2; exact hi.blk q k2 b hk2 hr hz
  . by_cases e : q = id
    . subst e; simp at hs'
    . rw [Jax _ _ _ _ e] at hs'; exact hi.live q b hr hs'
theorem JeQ {S : Sp} (m : JcF S) {id : Nat} {ops : Array Oper} {b : Bool} {Q : Exit -> Env -> Jac -> Prop} {E : Env} {σ : Jac} (h : regC S b ops (Q .normal) E σ)
 (g : Jcg S.P S.N JjM (.region id ops b) = true := by kernel_rfl) : semC S (.region id ops b) Q E σ := by
 intro C H n R l a w ⟨t, s, M, q⟩
 have c := JaS _ g; simp only [JaZ, L00, L0z, L0U, L15, L1O, JjM, L0D, false_or] at c
 have f : ∀ (i : Nat) (o : Oper), ops[i]? = some o -> Oper.fits S.P S.N o = true := fun i o p => L0c.1 c.1 o (L0s.2 (L1v p))
 unfold regC at h; rw [Jcd] at h
 have k := Jb1 (fun _ _ j => Jfo m _ 0 (fun _ _ h => h) j) _ _ h
 have d : St C E σ a w := ⟨_, _, _, q⟩
 cases b with
 | false =>
  simp only [struck, L0D, if_false] at k
  refine wpIn_region ?_
  have := Jcs H f (n := n) (Q := R) (fun E σ a w j d => l .normal E σ a w j d) ops.toList 0 _ _ a w (by simp) k d
  rw [L0x, <- L1B] at this; exact this
 | true => exact JcK H ops c.1 (by simpa using c.2) n (Q .normal) R _ _ a w (fun E σ a w j d => l .normal E σ a w j d) k d id
mutual
def AV.rn (b : Nat -> Nat) : AV -> AV
 | .own a s i n => .own (b a) s i n
 | .ptr a s i j => .ptr (b a) s i j
 | .mref a => .mref (b a)
 | .agg c => .agg (AV.rnL b c)
 | .tup c => .tup (AV.rnL b c)
 | .clo g c => .clo g (AV.rnL b c)
 | a => a
def AV.rnL (b : Nat -> Nat) : List AV -> List AV
 | [] => []
 | c :: d => AV.rn b c :: AV.rnL b d
end
theorem JcR (b : Nat -> Nat) : ∀ cs : List AV, AV.rnL b cs = cs.map (AV.rn b)
 | [] => rfl
 | c :: cs => by rw [AV.rnL, JcR b cs]; rfl
theorem Jme (b : Nat -> Nat) (e : AV) : (AV.rn b e).cells = e.cells.map (AV.rn b) := by
 cases e <;> simp [AV.rn, AV.cells, JcR]
mutual
theorem AV.rn_free (c : Nat -> Nat) : ∀ a : AV, AV.namesB allB a = false -> AV.rn c a = a
 | .own .., h => by simp [AV.namesB, allB] at h
 | .ptr .., h => by simp [AV.namesB, allB] at h
 | .mref .., h => by simp [AV.namesB, allB] at h
 | .agg b, h => by rw [AV.rn, AV.rnL_free c b h]
 | .tup b, h => by rw [AV.rn, AV.rnL_free c b h]
 | .clo g b, h => by rw [AV.rn, AV.rnL_free c b h]
 | .any, _ => rfl
 | .v .., _ => rfl
 | .sl .., _ => rfl
 | .cut .., _ => rfl
 | .pt .., _ => rfl
 | .new .., _ => rfl
 | .nptr .., _ => rfl
 | .yld .., _ => rfl
 | .mp .., _ => rfl
theorem AV.rnL_free (b : Nat -> Nat) : ∀ cs : List AV, AV.namesL allB cs = false -> AV.rnL b cs = cs
 | [], _ => rfl
 | c :: cs, h => by
  simp only [AV.namesL, L1D] at h; rw [AV.rnL, AV.rn_free b c h.1, AV.rnL_free b cs h.2]
end
def Blk.rn (b : Nat -> Nat) (k : Blk) : Blk := ⟨k.e, k.sz, AV.rnL b k.es⟩
section
variable {w : World} {ρ : Nat -> Option Nat} {Im : Nat -> Prop} {π : Nat -> Nat}
theorem IRep.rn {a : AV} {y : Value} (h : IRep w Im a y) : IRep w Im (AV.rn π a) y := by
 induction h with
 | any y => exact .any y
 | v x => exact .v x
 | agg K ys p J _ i =>
  rw [AV.rn, JcR]
  refine .agg _ ys (by simpa using p) J fun j c y k C => ?_
  rw [L03] at k
  obtain ⟨q, z, rfl⟩ := L0j.1 k
  exact i j q y z C
 | slnil D a s => exact .slnil ..
 | cut D u a h i => exact .cut D u a h
 | sl D u b o s f d A H m B i => exact .sl D u b o s f d A H m B
 | pt e j b o f d m B i => exact .pt e j b o f d m B
 | tup vs ys p _ i =>
  rw [AV.rn, JcR]
  refine .tup _ ys (by simpa using p) fun j c y k C => ?_
  rw [L03] at k
  obtain ⟨q, z, rfl⟩ := L0j.1 k
  exact i j q y z C
 | clo g I ys p _ i =>
  rw [AV.rn, JcR]
  refine .clo g _ ys (by simpa using p) fun j c y k C => ?_
  rw [L03] at k
  obtain ⟨q, z, rfl⟩ := L0j.1 k
  exact i j q y z C
 | yld l => exact .yld l
 | mpnil => exact .mpnil
 | mp u b t E f d F p G B i => exact .mp u b t E f d F p G B
theorem Rep.rn (d : ∀ i, π (π i) = i) {a : AV} {y : Value} (h : Rep w ρ Im a y) : Rep w (fun i => ρ (π i)) Im (AV.rn π a) y := by
 induction h with
 | im a y h => exact .im _ y h.rn
 | agg D ys s E _ z =>
  rw [AV.rn, JcR]
  refine .agg _ ys (by simpa using s) E fun j c y f t => ?_
  rw [L03] at f
  obtain ⟨o, p, rfl⟩ := L0j.1 f
  exact z j o y p t
 | tup D ys s _ z =>
  rw [AV.rn, JcR]
  refine .tup _ ys (by simpa using s) fun j c y f t => ?_
  rw [L03] at f
  obtain ⟨o, p, rfl⟩ := L0j.1 f
  exact z j o y p t
 | clo g D ys s _ z =>
  rw [AV.rn, JcR]
  refine .clo g _ ys (by simpa using s) fun j c y f t => ?_
  rw [L03] at f
  obtain ⟨o, p, rfl⟩ := L0j.1 f
  exact z j o y p t
 | ownNil id m h => exact .ownNil _ m (by simp only [d]; exact h)
 | own id m n b k A e l B q G C u => exact .own _ m n b k A e (by simp only [d]; exact l) B q G C u
 | ownAt id m i n b k a H l B F u => exact .ownAt _ m i n b k a H (by simp only [d]; exact l) B F u
 | ptr id m i j b l u => exact .ptr _ m i j b (by simp only [d]; exact l) u
 | mref id b l => exact .mref _ b (by simp only [d]; exact l)
theorem Inv.rn {σ : Jac} (f : ∀ i, π (π i) = i) (h : Inv w ρ Im σ) : Inv w (fun i => ρ (π i)) Im (fun i => (σ (π i)).map (Blk.rn π)) := by
 refine ⟨fun id k t d => ?_, fun id k b t d G => ?_, fun id k b t d G => ?_, fun i j b p C => ?_, fun id b d y => ?_, fun id b d => h.apart _ b d, h.low⟩
 . obtain ⟨u, o, rfl⟩ := L0j.1 t
   have := h.nil _ u o d
   simp [Blk.rn, this, AV.rnL]
 . obtain ⟨u, o, rfl⟩ := L0j.1 t
   obtain ⟨l, z, D, F, E⟩ := h.map _ u b o d G
   refine ⟨l, z, D, by simpa [Blk.rn, JcR] using F, fun i m J => ?_⟩
   obtain ⟨v, K, g⟩ := E i m J
   refine ⟨AV.rn π v, ?_, g.rn f⟩
   simp only [Blk.rn, JcR, L03, K, L0N, AV.rn, AV.rnL]; try rfl
 . obtain ⟨u, o, rfl⟩ := L0j.1 t
   obtain ⟨A, D, F, y, E⟩ := h.blk _ u b o d G
   refine ⟨A, D, fun e s => ?_, by simpa [Blk.rn, JcR] using y, fun i e j c s q => ?_⟩
   . simp only [Blk.rn, JcR] at s
     obtain ⟨B, p, rfl⟩ := L08.1 s
     rw [Jme, L06]; exact F B p
   . simp only [Blk.rn, JcR, L03] at s
     obtain ⟨B, p, rfl⟩ := L0j.1 s
     rw [Jme, L03] at q
     obtain ⟨H, C, rfl⟩ := L0j.1 q
     obtain ⟨x, L, I, g⟩ := E i B j H p C
     exact ⟨x, L, I, g.rn f⟩
 . have := h.inj _ _ b p C
   have e := congrArg π this
   rwa [f, f] at e
 . simp only [Option.map_eq_none_iff] at y
   exact h.live _ b d y
end
theorem Wit.rn {S : Sp} {C : Fx} {E : Env} {σ : Jac} {a : Act} {w : World} {ρ : Nat -> Option Nat} {Im : Nat -> Prop} {M : Str} (H : Holds S C) (h : Wit C E σ a w ρ Im M) (c : Nat -> Nat) (l : ∀ i, c (c i) = i) (u : ∀ i, c i ≠ i -> S.old i = false /\ S.pin i = false) :
 Wit C (fun t => AV.rn c (E t)) (fun i => (σ (c i)).map (Blk.rn c)) a w (fun i => ρ (c i)) Im M := by
 have d : AV.rn c (E C.N) = E C.N := AV.rn_free c _ (h.gh allB)
 refine ⟨h.inv.rn l, fun t y D => (h.env t y D).rn l, h.size, h.ext, fun id b m => ?_, h.im, fun p => ?_, ?_, h.js, fun b m => ?_, h.rd, h.nodup, h.df, fun b m => ?_, fun id s z => ?_, h.j0⟩
 . rcases h.rng _ b m with ⟨f, j⟩ | f
   . have B := H.fz _ b f j
     have k : c id = id := by
      by_cases e : c (c id) = c id
      . rwa [l, eq_comm] at e
      . have := (u _ e).1; rw [B] at this; cases this
     rw [k] at j
     exact .inl ⟨f, j⟩
   . exact .inr f
 . show AV.namesB p (AV.rn c (E C.N)) = false
   rw [d]; exact h.gh p
 . show C.G (AV.rn c (E C.N)) M w
   rw [d]; exact h.g
 . obtain ⟨f, j, o, A⟩ := h.ms b m
   exact ⟨f, fun id => j _, o, A⟩
 . obtain ⟨f, j, o⟩ := h.bk b m
   exact ⟨fun id => f _, j, o⟩
 . have q := H.pin id s z
   have k : c id = id := by
    by_cases e : c id = id
    . exact e
    . have := (u _ e).2; rw [q] at this; cases this
   show ρ (c id) = s
   rw [k]; exact h.pin id s z
@[go_sem] theorem JBL (L p : Nat -> Bool) (σ : Jac) (cs : List AV) : frz L p σ (.agg cs) = if AV.namesB (notI L) (.agg cs) = false then .agg cs else res (Jak p (Jak L σ)) (((AV.agg cs).kill L).kill p) := rfl
section
variable (π : Nat -> Nat)
@[go_sem] theorem rn_v (x : Value) : AV.rn π (.v x) = .v x := rfl
@[go_sem] theorem rn_sl (s : Nat) (es : List AV) : AV.rn π (.sl s es) = .sl s es := rfl
@[go_sem] theorem rn_pt (e : AV) (j : Nat) : AV.rn π (.pt e j) = .pt e j := rfl
@[go_sem] theorem rn_any : AV.rn π .any = .any := rfl
@[go_sem] theorem rn_own (a s i n : Nat) : AV.rn π (.own a s i n) = .own (π a) s i n := rfl
@[go_sem] theorem rn_ptr (a s i j : Nat) : AV.rn π (.ptr a s i j) = .ptr (π a) s i j := rfl
@[go_sem] theorem rn_agg (cs : List AV) : AV.rn π (.agg cs) = .agg (AV.rnL π cs) := rfl
@[go_sem] theorem JCD : AV.rnL π [] = [] := rfl
@[go_sem] theorem JAO (c : AV) (cs : List AV) : AV.rnL π (c :: cs) = AV.rn π c :: AV.rnL π cs := rfl
@[go_sem] theorem rn_blk (e : TypeId) (s : Nat) (es : List AV) : Blk.rn π ⟨e, s, es⟩ = ⟨e, s, AV.rnL π es⟩ := rfl
end
theorem JkH {S : Sp} {c : Code} {Q : Exit -> Env -> Jac -> Prop} {E : Env} {σ : Jac} (F : List Nat) (h : semC S c (fun e E σ => Q e (frE (inI F) σ E) (frS (inI F) σ)) E σ)
 (g : ∀ id, S.pin id = true -> inI F id = false := by intro id b; cases b) (d : ∀ id, S.old id = true -> inI F id = false := by intro id b; cases b) : semC S c Q E σ :=
 fun C H n R f a w j => h C H n R (fun e E σ a w i ⟨_, _, _, hs⟩ => f e _ _ a w i ⟨_, _, _, hs.freeze H (inI F) g d⟩) a w j
def depK (D : Nat -> Bool) : List Edge -> Prop
 | [] => True
 | e :: l => (Region.binds .any e = true -> D e.on = true) /\ depK D l
theorem Jih {D : Nat -> Bool} : ∀ {l : List Edge}, (∀ e ∈ l, Region.binds .any e = true -> D e.on = true) -> depK D l
 | [], _ => trivial
 | e :: l, h => ⟨h e (by simp), Jih fun x b => h x (by simp [b])⟩
def JfQ (S : Sp) (ops : Array Oper) (J : (Nat -> Bool) -> Env -> Jac -> Prop) : Nat -> List Oper -> Prop
 | _, [] => True
 | i, o :: l => (∀ D E b, J D E b -> D i = false /\ depK D o.after.toList -> opsC S false ops i [o] (J (insJ D i)) E b) /\ JfQ S ops J (i + 1) l
theorem Jj6 {S : Sp} {ops : Array Oper} {J : (Nat -> Bool) -> Env -> Jac -> Prop} : ∀ {l : List Oper} {i : Nat}, JfQ S ops J i l -> Jmm S ops J i l
 | [], _, _ => trivial
 | _ :: _, _, ⟨b, c⟩ => ⟨fun D d g E h f => b D E h f ⟨d, Jih g⟩, Jj6 c⟩
theorem JeR {S : Sp} [hY : Plain S] {id : Nat} {ops : Array Oper} {Q : Exit -> Env -> Jac -> Prop} {E : Env} {σ : Jac} (J : (Nat -> Bool) -> Env -> Jac -> Prop)
 (g : J (fun _ => false) E σ) (b : JfQ S ops J 0 ops.toList) (d : ∀ D E σ, (∀ i, i < ops.size -> D i = true) -> J D E σ -> Q .normal E σ)
 (f : ops.toList.all (Oper.fits S.P S.N) = true := by kernel_rfl) (c : JeA 0 ops.toList = true := by kernel_rfl) : semC S (.region id ops true) Q E σ :=
 JrH hY.mono J g (Jj6 b) d f c
theorem cK {D : Nat -> Bool} {a b : Nat} (h : D a = true -> D b = true) : D b = false -> D a = false := fun c => by
 cases e : D a with
 | false => rfl
 | true => rw [h e] at c; cases c
section
variable {S : Sp} {C : Fx} {E : Env} {σ : Jac} {a : Act} {w : World} {ρ : Nat -> Option Nat} {Im : Nat -> Prop} {M : Str}
end
section
variable {S : Sp} {kd bi : Bool} {dst : Option Nat} {ty t : TypeId} {K Kb : Env -> Jac -> Prop} {E : Env} {σ : Jac}
@[go_sem ↓] theorem JwL (x : Operand) : aopC S kd bi dst (.range t x) ty K Kb E σ = semD S dst (.range t x) ty Kb E σ := rfl
@[go_sem ↓] theorem JyZ (x : Operand) (c : Bool) : aopC S kd bi dst (.next x c) ty K Kb E σ = semD S dst (.next x c) ty Kb E σ := rfl
@[go_sem ↓] theorem JwI (x : Operand) : aopC S kd bi dst (.entry x) ty K Kb E σ = semD S dst (.entry x) ty Kb E σ := rfl
@[go_sem] theorem Jw9 (P : Program) (x : Operand) : cls P (.range t x) ty = 5 := rfl
@[go_sem] theorem Jzj (P : Program) (x : Operand) (c : Bool) : cls P (.next x c) ty = 5 := rfl
@[go_sem] theorem Jw6 (P : Program) (x : Operand) : cls P (.entry x) ty = 5 := rfl
end
section
variable (P : Program) (f N : Nat) (bad : List Nat)
end
@[go_sem] theorem JBN (L p : Nat -> Bool) (σ : Jac) (g : Nat) (cs : List AV) : frz L p σ (.clo g cs) = if AV.namesB (notI L) (.clo g cs) = false then .clo g cs else res (Jak p (Jak L σ)) (((AV.clo g cs).kill L).kill p) := rfl
@[go_sem] theorem Jpg : Value.nilFunc.oneCell' = true := rfl
variable {S : Sp} {dst : Option Nat} {ty : TypeId} {K : Env -> Jac -> Prop} {E : Env} {σ : Jac}
section
variable {p : Nat -> Bool} {nm q k : Nat -> Bool}
@[go_sem] theorem Jz8 (s : Nat) (es : List AV) : AV.kill p (.cut s es) = .cut s es := rfl
@[go_sem] theorem JzC (s : Nat) (es : List AV) : fade nm (.cut s es) = .cut s es := rfl
@[go_sem] theorem fd_cut (s : Nat) (es : List AV) : AV.fd q k (.cut s es) = .cut s es := rfl
@[go_sem] theorem JCv (s : Nat) (es : List AV) : res σ (.cut s es) = .cut s es := rfl
@[go_sem] theorem JBO (L p : Nat -> Bool) (σ : Jac) (s : Nat) (es : List AV) : frz L p σ (.cut s es) = .cut s es := rfl
@[go_sem] theorem JzN (L p : Nat -> Bool) (σ : Jac) (s : Nat) (es : List AV) : frzE L p σ (.cut s es) = .cut s es := rfl
end
theorem Jno {t e : TypeId} {x u : Operand} {lo hi : Option Operand} {sz : Nat} {es : List AV} (l h : Nat) {km : IntKind} (hx : ev E x = .sl sz es) (ht : tel S.P t = some e) (hz : tsz S.P e = sz) (h0 : 0 < sz) (hm : ev E u = .v (.int km h)) (V : hi ≠ none)
 (T : bound E hi es.length fun d => bound E lo 0 fun l' => l' = l /\ d = h /\ l <= h /\ h <= es.length) (hK : K (updO E dst (.cut sz ((es.drop l).take (h - l)))) σ)
 (A : (dst.all (decide <| · < S.N) && Op.low S.N (.slice t x lo hi (some u))) = true := by kernel_rfl) : semD S dst (.slice t x lo hi (some u)) ty K E σ := by
 refine Jbw _ A (fun _ e => by cases e) (fun C w I y M a H hw j => ?_) hK
 have J := j x (by simp [Op.operands])
 have D := j u (by simp [Op.operands])
 rw [hm] at D; have Y := D.v_inv
 obtain ⟨d, T, U⟩ := JaW (w := w) (ρ := I) (Im := y) T fun o z => j o (by subst z; simp [Op.operands])
 obtain ⟨l', ⟨rfl, rfl, B, W⟩, hl⟩ := JaW (w := w) (ρ := I) (Im := y) T fun o z => j o (by subst z; simp [Op.operands])
 rw [hx] at J
 obtain ⟨O, n', p, hy, F, h1, h2, h3, _, i⟩ := Jep (P := S.P) (e := e) (lo := l') (hi := d) (r := .sl sz ((es.drop l').take (d - l'))) (x := .sl sz es) ⟨h0, hz, B, W, rfl⟩ J
 simp only [lenV, Option.some.injEq] at F; subst F
 have ae : u ∈ (Op.slice t x lo hi (some u)).operands := by simp [Op.operands]
 have G : (Instr.sliceBounds true es.length p (lo.map a.eval) (hi.map a.eval) (some (a.eval u))).run S.P w = .ok (l', d, d) w := by
  unfold Instr.sliceBounds
  have r1 := fun c => Jaj (P := S.P) (w := w) (k := km) (code := c) (show d <= p by omega)
  have r2 := fun k c => Jaj (P := S.P) (w := w) (k := k) (code := c) (L0a d)
  have r3 := fun k c => Jaj (P := S.P) (w := w) (k := k) (code := c) B
  rw [Y]
  rcases U with ⟨rfl, rfl⟩ | ⟨o, k, rfl, z⟩
  . exact absurd rfl V
  . rcases hl with ⟨rfl, rfl⟩ | ⟨o', k', rfl, Z⟩
    . simp [z, r1, r2]
    . simp [z, Z, r1, r2, r3]
 have aa := Jas (P := S.P) (t := e) (by omega) w
 have R : ((es.drop l').take (d - l')).length = d - l' := by rw [L02, L0f]; omega
 refine ⟨.slice (if d = l' then O else O.map (·.add (l' * tsz S.P e))) (d - l') (d - l'), fun _ _ _ => ?_, ?_⟩
 . simp only [execOp, hy, L0N, Instr.sliceAt, Instr.slice, Sem.run_bind, run_underlying (JbF ht) w, Result.andThen_ok, G, aa, Sem.run_pure]
 . have m : ∀ g, IRep w y (.sl sz ((es.drop l').take (d - l'))) (.slice g (d - l') (d - l')) -> Rep w I y (.cut sz ((es.drop l').take (d - l'))) (.slice g (d - l') (d - l')) := fun g U => by
    have := IRep.cut sz ((es.drop l').take (d - l')) g (by rw [R]; exact U)
    rw [R] at this
    exact .im _ _ this
   refine m _ ?_
   by_cases e0 : d - l' = 0
   . have : (es.drop l').take (d - l') = [] := by rw [e0]; rfl
     rw [this, e0]; exact .slnil ..
   . rw [if_neg (by omega)]
     rw [if_neg (by omega)] at i
     generalize O.map (·.add (l' * tsz S.P e)) = g at i; clear m; generalize (es.drop l').take (d - l') = L at *; generalize d - l' = q at *; generalize p - l' = c at *; clear G
     cases i with
     | im _ _ J =>
      cases J with
      | slnil => simp at R; omega
      | sl _ _ b o ab f Q ac X hc s => exact .sl _ _ b o _ f Q (L0a _) X hc s
theorem Ji6 {t e d : TypeId} {x y : Operand} {sz : Nat} {es xs : List AV} (hx : ev E x = .cut sz es) (ht : tel S.P t = some e) (hz : tsz S.P e = sz) (h0 : 0 < sz)
 {z : Value} (hzv : tz S.P e = some z) (hzok : (ofC z).ok = true) (hzl : (ofC z).cells.length = tsz S.P e)
 (hstr : ∀ s, ev E y ≠ .v (.string s)) (hsrc : Jd8 σ (ev E y) fun sz' xs' => sz' = sz /\ xs' = xs) (hpos : 0 < xs.length) (hxl : ∀ e ∈ xs, e.cells.length = sz)
 (hby : (es.length + xs.length) * tby S.P e <= 140737488355328) (h63 : es.length + xs.length <= 4611686018427387904)
 (hnn : AV.namesL (isId (16 * (S.b + d))) (es ++ xs) = false)
 (hK : K (upd (JaR (isId (16 * (S.b + d))) E) d (.own (16 * (S.b + d)) sz 0 (es.length + xs.length))) (updS (Jak (isId (16 * (S.b + d))) σ) (16 * (S.b + d)) ⟨e, sz, es ++ xs⟩))
 (hd : (Nat.blt d S.N && Nat.blt d 100000) = true := by kernel_rfl) (hlow : Op.low S.N (.call { callee := .builtin .append, args := #[x, y], argTypes := #[t, t] }) = true := by kernel_rfl) :
 semD S (some d) (.call { callee := .builtin .append, args := #[x, y], argTypes := #[t, t] }) ty K E σ := by
 intro pos after guard C H n a w Kc Q ⟨ρ, Im, M, hw⟩ hKc
 simp only [L00] at hd
 have hd1 : d < S.N := L0u hd.1
 have hd2 : d < 100000 := L0u hd.2
 have rep : ∀ o, o ∈ (Op.call { callee := .builtin .append, args := #[x, y], argTypes := #[t, t] }).operands -> Rep w ρ Im (ev E o) (a.eval o) := fun o ho => JbD hw.env (by rw [hw.size, <- H.N]; exact Jbq hlow ho)
 have hrx := rep x (by simp [Op.operands, Call.operands])
 have hry := rep y (by simp [Op.operands, Call.operands])
 obtain ⟨i, hi, hiz, his, hib⟩ := Jr0 hzv
 rw [hx] at hrx
 obtain ⟨ad, hax, hcut⟩ : ∃ ad, a.eval x = .slice ad es.length es.length /\ IRep w Im (.sl sz es) (.slice ad es.length es.length) := by
  generalize a.eval x = v at hrx
  cases hrx with | im _ _ h => cases h with | cut _ _ ad h => exact ⟨ad, rfl, h⟩
 have holds : ∃ olds : List Value, olds.length = es.length * sz /\ (∀ b, ad = some b -> ∀ (j : Nat) (v : Value), olds[j]? = some v -> w.cell? (b.add j) = some v) /\ (∀ v ∈ olds, v.oneCell' = true) /\ (∀ e ∈ es, e.cells.length = sz) /\ (ad = none -> es = []) /\
  ∀ (i : Nat) (e : AV) (j : Nat) (c : AV), es[i]? = some e -> e.cells[j]? = some c -> ∃ v, olds[i * sz + j]? = some v /\ Rep w ρ Im c v := by
  obtain ⟨sz1, xs1, ⟨rfl, rfl⟩, hs⟩ := JeY hw.inv (x := .sl sz es) (K := fun s l => s = sz /\ l = es) ⟨rfl, rfl⟩ (.im _ _ hcut)
  rcases hs with ⟨ad', cap', hy', _, hm⟩ | ⟨s, hs, _⟩
  . simp only [Value.slice.injEq] at hy'; obtain ⟨rfl, _, rfl⟩ := hy'
    rcases hm with ⟨hnil, _⟩ | ⟨b', o', rfl, hl1, hc1⟩
    . subst hnil; exact ⟨[], by simp, by simp, by simp, by simp, fun _ => rfl, by simp⟩
    . obtain ⟨olds, q1, q2, q3, q4⟩ := Je8 hl1 hc1
      exact ⟨olds, q1, fun b hb => by cases hb; exact q2, q3, hl1, fun h => (by cases h), q4⟩
  . cases hs
 obtain ⟨olds, hol, hoc, ho1, hesl, hadn, hor⟩ := holds
 obtain ⟨sz2, xs2, ⟨h5, h6⟩, hs2⟩ := JeY hw.inv hsrc hry
 rw [h5, h6] at hs2; clear h5 h6
 obtain ⟨ad2, cap2, hay, _, hm2⟩ := hs2.resolve_right fun ⟨s, hs, _⟩ => absurd hs (hstr s)
 rcases hm2 with ⟨hnil, _⟩ | ⟨b2, o2, rfl, hl2, hc2⟩
 . rw [hnil] at hpos; exact absurd hpos (L1w _)
 obtain ⟨news, hnl, hnc, hn1, hnr⟩ := Je8 hl2 hc2
 have hzc : z.cells.size = i.size := by
  obtain ⟨zs, h1, h2, _⟩ := Value.cells_ofC hzok
  rw [h1, his]; simp [<- h2, hzl]
 have hlen : ∀ v, (Builtin.lenOf (a.eval y)).run S.P v = .ok xs.length v := fun v => by rw [hay]; simp [Builtin.lenOf]
 have hfirst : (Builtin.firstCells i.size xs.length (a.eval y)).run S.P w.drew = .ok news.toArray w.drew := by
  rw [hay, his, hz]
  exact run_firstCells_some w.drew _ _ _ _ _ _ hnl fun j u hu => by rw [<- hnc j u hu]; rfl
 let cap := grownCap w (es.length + xs.length) es.length e
 have hcapg : es.length + xs.length <= cap := grownCap_ge w _ _ e
 have hcapm : cap <= maxLen := grownCap_le_maxLen w _ _ e (by simp only [maxLen]; omega)
 let cur : List Value := olds ++ news ++ (Builtin.zeroCells z.cells (cap - (es.length + xs.length))).toList
 have hrun : (Builtin.append_ #[t, t] ty #[a.eval x, a.eval y]).run S.P w = .ok (.slice (some ⟨w.heap.size, 0, none⟩) (es.length + xs.length) cap) (w.drew.alloc (.cells cur.toArray e)) := by
  rw [hax]
  have ecells : cur.toArray = olds.toArray ++ news.toArray ++ Builtin.zeroCells z.cells (cap - (es.length + xs.length)) := by
   apply L0S.1; simp [cur]
  rw [ecells]
  cases had : ad with
  | some b =>
   exact Jd0 w t t ty e i z (JbF ht) hi hiz (.inl ⟨_, JbF ht⟩) b es.length es.length olds (by rw [his, hz]; exact hol) (hoc b had) (a.eval y) xs.length news hlen hfirst (by omega) (by omega) (growslice_fits (by omega) (by rw [hib]; exact hby))
  | none =>
   have he0 := hadn had
   have ho0 : olds = [] := L0M (by rw [hol, he0]; simp)
   have hr := Jeu w t t ty e i z (JbF ht) hi hiz (.inl ⟨_, JbF ht⟩) (a.eval y) xs.length news hlen hfirst hpos (by omega) (by rw [hib]; rw [he0] at hby; simp only [L0t, L0n] at hby; omega)
   have hcap0 : cap = grownCap w xs.length 0 e := by simp only [cap, he0, L0t, L0n]
   rw [hcap0, he0, ho0]; simp only [L0t, L0n, L1C, Array.empty_append]
   simpa using hr
 have hsize : cur.toArray.size = cap * sz := by
  simp only [cur, L0T, L07, hol, hnl, L0x, size_zeroCells, hzc, his, hz, <- L1n]
  congr 1; omega
 have hk : ((⟨e, sz, es ++ xs⟩ : Blk).kill (isId (16 * (S.b + d)))) = ⟨e, sz, es ++ xs⟩ := by simp [Blk.kill, hnn]
 have h2 := hw.renew H.G (id := 16 * (S.b + d)) (d := d) (by rw [<- H.N]; exact hd1) (k := ⟨e, sz, es ++ xs⟩) (g := w.heap.size) (cur := cur.toArray) (n := es.length + xs.length) (cap := cap) (sz := sz)
  (w' := w.drew.alloc (.cells cur.toArray e))
  ⟨rfl, rfl, rfl, by simp, fun q hq _ => Below.heap_alloc w.drew _ q hq⟩ (.inr (L0a _)) (fun q _ hq => Below.heap_alloc w.drew _ q hq) (Jez (World.alloc_heap_new w.drew _))
  (fun e he => (L0w.1 he).elim (hesl e) (hl2 e)) (by simp only [L07]; rw [hsize]; exact L0A _ hcapg) (fun i e' j c he' hc => ?_) hcapg hcapm hsize (by omega) (by show sz ≠ 0; omega) (H.free hd2 0 (by omega))
 . rw [hk] at h2
   refine JaL (fun _ e => by cases e) ?_ (hKc _ _ _ _ hK ⟨_, _, _, h2⟩)
   simp [execOp, resolve, invoke, builtin, hrun]
 . show ∃ x, cur.toArray[i * sz + j]? = some x /\ x.oneCell' = true /\ Rep w ρ Im c x
   simp only at he'
   by_cases hin : i < es.length
   . rw [L0l hin] at he'
     obtain ⟨v, hv, hr⟩ := hor i e' j c he' hc
     refine ⟨v, ?_, ho1 v (L01 hv), hr⟩
     simp only [cur, L1c]
     rw [L0I, L0l (L05.1 hv).1]; exact hv
   . rw [L0o (by omega)] at he'
     obtain ⟨v, hv, hr⟩ := hnr (i - es.length) e' j c he' hc
     refine ⟨v, ?_, hn1 v (L01 hv), hr⟩
     have hlt := (L05.1 hv).1
     have hidx : i * sz + j - olds.length = (i - es.length) * sz + j := by
      rw [hol, Nat.sub_mul]; have := L0A sz (show es.length <= i by omega); omega
     have hge : olds.length <= i * sz + j := by rw [hol]; have := L0A sz (show es.length <= i by omega); omega
     simp only [cur, L1c]
     rw [L0I, L0o hge, hidx, L0l hlt]; exact hv
def JiS (x : Nat) (S : Sp) (ops : Array Oper) (J : (Nat -> Bool) -> Env -> Jac -> Prop) : Nat -> List Oper -> Prop
 | _, [] => True
 | i, o :: l => (i ≠ x -> ∀ D E b, J D E b -> D i = false /\ depK D o.after.toList -> opsC S false ops i [o] (J (insJ D i)) E b) /\ JiS x S ops J (i + 1) l
theorem Jh2 {x : Nat} {S : Sp} {ops : Array Oper} {J : (Nat -> Bool) -> Env -> Jac -> Prop} : ∀ {l : List Oper} {i : Nat}, JiS x S ops J i l -> JiR x S ops J i l
 | [], _, _ => trivial
 | _ :: _, _, ⟨b, c⟩ => ⟨fun h D d g E j f => b h D E j f ⟨d, Jih g⟩, Jh2 c⟩
theorem JpC {S : Sp} [hY : Plain S] {id : Nat} {ops : Array Oper} {Q : Exit -> Env -> Jac -> Prop} {E : Env} {σ : Jac} (J : (Nat -> Bool) -> Env -> Jac -> Prop) (x : Nat)
 (j : J (fun _ => false) E σ) (b : JiS x S ops J 0 ops.toList)
 (h : ∀ o, ops[x]? = some o -> o.guard = none /\ ∀ D E σ, J D E σ -> D x = false /\ depK D o.after.toList -> semD S o.dst o.op o.type (J (insJ D x)) E σ)
 (d : ∀ D E σ, (∀ i, i < ops.size -> D i = true) -> J D E σ -> Q .normal E σ)
 (f : ops.toList.all (Oper.fits S.P S.N) = true := by kernel_rfl) (c : JeA 0 ops.toList = true := by kernel_rfl) : semC S (.region id ops true) Q E σ :=
 JpB hY.mono J x j (Jh2 b) (fun o g => ⟨(h o g).1, fun D k m E σ l => ((h o g).2 D E σ l ⟨k, Jih m⟩) o.pos o.after o.guard⟩) d f c
def Jdd (l : List Int) : List Int := l.mergeSort fun x y => decide (x <= y)
theorem Jcz (l : List Int) : (Jdd l).length = l.length := List.length_mergeSort _
theorem JpU (l : List Int) (x : Int) : x ∈ Jdd l ↔ x ∈ l := List.mem_mergeSort
def Jwj (P : Program) (f : FuncId) : Prop := ∀ (b c d : Nat) (zs : List Int) (w : World), Go.Sort.Holds (Value.int .i64) w b c zs.toArray -> b < w.heap.size -> zs.length < 4611686018427387904 ->
 Calls P f #[.slice (some ⟨b, c, none⟩) zs.length d] w fun e h => e = .returned (.tuple #[]) /\ ∃ n g, h = Go.Sort.grow (Go.Sort.putRow (Value.int .i64) (Go.Sort.ahead w n) b c (Jdd zs).toArray) g
def Jwf (P : Program) (f : FuncId) (g : List Int -> List Int) : Prop := ∀ (b c d : Nat) (zs : List Int) (w : World), Go.Sort.Holds (Value.int .i64) w b c zs.toArray -> zs.length <= 9223372036854775807 -> zs.length <= d ->
 Calls P f #[.slice (some ⟨b, c, none⟩) zs.length d] w fun e h => e = .returned (.slice (some ⟨b, c, none⟩) (g zs).length d) /\ ∃ q, h = Go.Sort.putRow (Value.int .i64) (Go.Sort.ahead w q) b c (g zs ++ List.replicate (zs.length - (g zs).length) 0).toArray
def LOKy (P : Program) (f : FuncId) (X : Nat) (e : TypeId) (es R : List Int) (m : Nat) : Prop :=
 (∀ c w, (callFunc f c).run P w = .ok (.enter f c) w) /\
 ∀ (w : World) (h : Nat -> Prop) (g : Nat -> Option Nat) (vs : List Value), Inv w g h (stO [(X, ⟨e, 1, es.map fun x => .v (.int .i64 x)⟩)]) -> GOK w h -> Reps w g h [.own X 1 0 es.length] vs ->
  Calls P f vs.toArray w fun j i => ∃ b d, g X = some b /\ es.length <= d /\ j = .returned (.slice (some ⟨b, 0, none⟩) m d) /\ Ext w (fun b => ∃ id, g id = some b) i /\ Inv i g h (stO [(X, ⟨e, 1, R.map fun x => .v (.int .i64 x)⟩)])
theorem Jog {P : Program} {f : FuncId} {g : List Int -> List Int} (J : ∀ C w, (callFunc f C).run P w = .ok (.enter f C) w) (G : Jwf P f g) (X : Nat) (e : TypeId) (l : List Int) (ad : 0 < l.length) (hl : l.length <= 1000000) (ah : (g l).length <= l.length) :
 LOKy P f X e l (g l ++ List.replicate (l.length - (g l).length) 0) (g l).length := by
 obtain ⟨R, T⟩ : ∃ R, g l ++ List.replicate (l.length - (g l).length) 0 = R := ⟨_, rfl⟩
 have F : R.length = l.length := by rw [<- T]; simp; omega
 rw [T]
 refine ⟨J, fun w Im ρ vs d _ Z => ?_⟩
 obtain ⟨L, hv⟩ := Z
 obtain ⟨v, rfl⟩ : ∃ v, vs = [v] := by
  match vs, L with
  | [v], _ => exact ⟨v, rfl⟩
 have h1 := hv 0 _ v rfl rfl
 rcases h1.own0_inv with ⟨_, M, _⟩ | ⟨b, E, aa, e', rfl, m, N, ac, af, ae, ai⟩
 . omega
 obtain ⟨o, ⟨S, U, A⟩, ag, Q, u⟩ := d.blk X ⟨e, 1, l.map fun x => .v (.int .i64 x)⟩ b (by simp [stO]) m L1I
 simp only [L06, L0Z] at Q
 have ab : b < w.heap.size := d.lt m
 have I : ∀ j, j < l.length -> o[j]? = some (.int .i64 l[j]!) := fun j W => by
  obtain ⟨x, s, _, q⟩ := u j (.v (.int .i64 l[j]!)) 0 (.v (.int .i64 l[j]!)) (by simp [W]) rfl
  rw [q.v_inv] at s
  simpa using s
 have hH : Go.Sort.Holds (Value.int .i64) w b 0 l.toArray := fun j W => by
  have K : j < l.length := by simpa using W
  refine ⟨?_, ?_⟩
  . rw [L0n, Jbn ⟨S, U, A⟩, I j K]; simp [K]
  . rw [L0n]; exact JgN U A (by omega)
 refine (G b 0 E l w hH (by omega) N).mono ?_
 rintro e2 w' ⟨rfl, n, rfl⟩
 rw [T]
 have z : ∀ k, k < w.heap.size -> k ≠ b -> (Go.Sort.putRow (Value.int .i64) (Go.Sort.ahead w n) b 0 R.toArray).heap[k]? = w.heap[k]? := fun k t Y => by
  simp only [Go.Sort.putRow, Go.Sort.mapBlock, Go.Sort.ahead]; rw [L1x, if_neg (Ne.symm Y)]
 have O : (Go.Sort.putRow (Value.int .i64) (Go.Sort.ahead w n) b 0 R.toArray).heap[b]? = some (.cells (Go.Sort.putCells (Value.int .i64) 0 R.toArray o) e S) := by
  simp only [Go.Sort.putRow, Go.Sort.mapBlock, Go.Sort.ahead]
  rw [L1x, if_pos rfl, U]; rfl
 have p : w.heap.size <= (Go.Sort.putRow (Value.int .i64) (Go.Sort.ahead w n) b 0 R.toArray).heap.size := by simp [Go.Sort.putRow, Go.Sort.mapBlock, Go.Sort.ahead]
 have H : (Go.Sort.putCells (Value.int .i64) 0 R.toArray o).size = o.size := by simp [Go.Sort.putCells]
 have only : ∀ id k, stO [(X, (⟨e, 1, R.map fun x => .v (.int .i64 x)⟩ : Blk))] id = some k -> id = X /\ k = ⟨e, 1, R.map fun x => .v (.int .i64 x)⟩ := fun id k h => by
  have B := JbQ h
  simpa using B
 refine ⟨b, E, m, N, rfl, ⟨rfl, rfl, rfl, p, fun k t B => z k t fun e => B ⟨X, e ▸ m⟩⟩, ?_⟩
 refine ⟨fun id k t q => ?_, fun id k D t q h0 => ?_, fun id k D t q h0 => ?_, d.inj, fun id D q => ?_, d.apart, fun D hI => L0R (d.low D hI) p⟩
 . obtain ⟨rfl, rfl⟩ := only id k t
   rw [m] at q; cases q
 . obtain ⟨rfl, rfl⟩ := only id k t
   cases h0
 . obtain ⟨rfl, rfl⟩ := only id k t
   rw [m] at q; cases q
   refine ⟨_, ⟨S, O, by rw [H]; exact A⟩, fun x s => by obtain ⟨y, _, rfl⟩ := L08.1 s; rfl, by simp only [L06, F, L0Z]; rw [H]; exact Q, fun i x j c s G => ?_⟩
   rw [L03] at s
   cases M : R[i]? with
   | none => simp [M] at s
   | some y =>
    simp [M] at s; subst s
    cases j with
    | succ j => simp at G
    | zero =>
     simp at G; subst G
     have hi : i < R.length := (L05.1 M).1
     have V : i < o.size := by rw [F] at hi; omega
     refine ⟨.int .i64 y, ?_, rfl, .im _ _ (.v _)⟩
     simp only [Go.Sort.putCells, L0Z, L0X, Array.getElem?_mapIdx]; rw [L0g V]
     have : R[i] = y := (L05.1 M).2
     simp [hi, this]
 . have : stO [(X, (⟨e, 1, l.map fun x => .v (.int .i64 x)⟩ : Blk))] id ≠ none := d.live id D q
   intro h
   apply this
   rw [JdV] at h ⊢
   by_cases B : X = id
   . rw [if_pos B] at h; cases h
   . rw [if_neg B]; rfl
theorem Jrc {S : Sp} {E : Env} {σ : Jac} {K : Env -> Jac -> Prop} {d : Nat} {f : Operand} {args : Array Operand} {ats : Array TypeId} {ty : TypeId} {g : FuncId} (X : Nat) {es R : List Int} {e : TypeId} {m : Nat}
    (hL : LOKy S.P g X e es R m) (hfv : ev E f = .clo g []) (has : args.toList.map (ev E) = [.own X 1 0 es.length]) (hat : σ X = some ⟨e, 1, es.map fun x => .v (.int .i64 x)⟩) (hmR : m <= es.length) (hRl : R.length = es.length)
    (hK : K (upd (frE (inI [X]) (addS (Jak (own (S.b + d)) (fdS (inI [X]) (movI (inI [X]) (inI [X])) σ (stO [(X, ⟨e, 1, R.map fun x => .v (.int .i64 x)⟩)]))) (imp (16 * (S.b + d)) .any).2) (updO (JaR (own (S.b + d)) (fdE (inI [X]) (movI (inI [X]) (inI [X])) E)) (some d) (imp (16 * (S.b + d)) .any).1)) d (.sl 1 ((R.take m).map fun x => .v (.int .i64 x))))
      (frS (inI [X]) (addS (Jak (own (S.b + d)) (fdS (inI [X]) (movI (inI [X]) (inI [X])) σ (stO [(X, ⟨e, 1, R.map fun x => .v (.int .i64 x)⟩)]))) (imp (16 * (S.b + d)) .any).2)))
    (hX : (!S.pin X && !S.old X && !Nat.beq (X / 16) (S.b + d)) = true := by kernel_rfl)
    (hfit : ((some d).all (decide <| · < S.N) && Op.low S.N (.call { callee := .value f, args, argTypes := ats }) && decide (d < 100000)) = true := by kernel_rfl) :
    semD S (some d) (.call { callee := .value f, args, argTypes := ats }) ty K E σ := by
  simp only [L00, decide_eq_true_eq, L0U] at hfit hX
  obtain ⟨⟨hXp, hXo⟩, hXd⟩ := hX
  have hXd : X / 16 ≠ S.b + d := fun e => by rw [e, Nat.beq_refl] at hXd; cases hXd
  have hin : ∀ id, inI [X] id = true ↔ id = X := fun id => by simp [inI]
  have hnl : AV.namesL (notI (inI [X])) (es.map fun x => (.v (.int .i64 x) : AV)) = false := Jam _ _ _ fun _ => rfl
  have hnl2 : AV.namesL (notI (inI [X])) (R.map fun x => (.v (.int .i64 x) : AV)) = false := Jam _ _ _ fun _ => rfl
  have honly : only (inI [X]) σ = stO [(X, ⟨e, 1, es.map fun x => .v (.int .i64 x)⟩)] := JeM (l := [(X, ⟨e, 1, es.map fun x => .v (.int .i64 x)⟩)]) ⟨hat, trivial⟩
  intro pos after guard C H n a w Kc Q ⟨ρ, Im, M, h⟩ hKc
  obtain ⟨⟨hdst, hlow⟩, hdd⟩ := hfit
  have htN : d < S.N := by simpa using hdst
  have rep : ∀ x, x ∈ (Op.call { callee := .value f, args, argTypes := ats }).operands -> Rep w ρ Im (ev E x) (a.eval x) := fun x hx => JbD h.env (by rw [h.size, <- H.N]; exact Jbq hlow hx)
  refine ⟨fun _ _ => trivial, ?_⟩
  rw [Oper.semAt_eq _ _ _ (fun c e => by cases e)]
  have hfr := rep f (by simp [Op.operands, Call.operands])
  rw [hfv] at hfr
  obtain ⟨cys, hfy, hcl', hcr⟩ := hfr.clo_plain rfl
  have hargs : ∀ x ∈ args.toList, Rep w ρ Im (ev E x) (a.eval x) := fun x hx => rep x (by simp [Op.operands, Call.operands]; exact Or.inr (L0s.1 hx))
  have hcy : cys = [] := L0M hcl'.symm
  subst hcy
  have hall : Reps w ρ Im (args.toList.map (ev E)) (args.toList.map a.eval) := by
    refine ⟨by simp, fun j c y hc hy => ?_⟩
    have hj : j < args.toList.length := by
      have := (L05.1 hc).1; simpa using this
    rw [L03] at hc hy; rw [L09 hj] at hc hy
    simp at hc hy; subst hc; subst hy
    exact hargs _ (by simp)
  have hallq : Reps w (killR (notI (inI [X])) ρ) Im [.own X 1 0 es.length] (args.toList.map a.eval) := has ▸ ⟨hall.1, fun j c y hc hy => (hall.2 j c y hc hy).killR fun id hid => by
    cases hp : notI (inI [X]) id with
    | false => rfl
    | true =>
      have := (AV.namesL_iff (notI (inI [X])) _).2 ⟨c, L01 hc, AV.namesB_of _ hid hp⟩
      rw [has] at this; simp [AV.namesL, AV.namesB, notI, inI] at this⟩
  obtain ⟨henter, hfn⟩ := hL
  have hrun : (execOp a.eval { dst := some d, op := .call { callee := .value f, args, argTypes := ats }, type := ty, pos, after, guard }).run S.P w = .ok (.enter g (args.toList.map a.eval).toArray) w := by
    simp only [execOp, resolve, hfy, Deferred.ofValue, Sem.run_bind, Sem.run_pure, Result.andThen_ok, invoke]
    have e1 : (#[] ++ args.map a.eval ++ ([] : List Value).toArray : Array Value) = (args.toList.map a.eval).toArray := by apply L0S.1; simp
    rw [e1]; exact henter _ w
  rw [hrun]
  refine ⟨fun h => by simp [FW] at h, JdB ?_⟩
  refine (hfn w Im (killR (notI (inI [X])) ρ) _ (honly ▸ h.inv.only fun id q hid hqq => by
    obtain rfl := (hin id).1 hqq
    rw [hat] at hid; cases hid; exact hnl) (h.gok H) hallq).mono fun ee w' ⟨b, cap, hb, hcap, he, hx, hi⟩ => ?_
  subst he
  have hrr : RR w w' (killR (notI (inI [X])) ρ) Im .any (.slice (some ⟨b, 0, none⟩) m cap) := ⟨none, ⟨rfl, .any _⟩, by simp [JdZ]⟩
  obtain ⟨ρ3, Im3, hw, hρ3⟩ := h.lent (pin := inI [X]) H hx hi (fun _ h => h) (fun _ h => .inl h) (fun _ _ h => .inl h) (fun _ _ => rfl) (fun id q hid => by
    have := JbQ hid
    simp only [L0p, Prod.mk.injEq] at this; obtain ⟨rfl, rfl⟩ := this
    exact ⟨(hin _).2 rfl, hnl2⟩) (fun id _ hq' => hq') hdd hrr (L0u rfl) (dst := some d) (fun d' hd' => by cases hd'; rw [<- H.N]; exact htN)
  have htC : d < C.N := by rw [<- H.N]; exact htN
  have hqX : inI [X] X = true := (hin X).2 rfl
  have hb' : killR (notI (inI [X])) ρ X = some b := hb
  have hb3 : ρ3 X = some b := by rw [hρ3 X hXd, if_pos hqX]; exact hb'
  have hf := hw.freeze H (inI [X]) (fun id hid => by
    cases hh : inI [X] id with
    | false => rfl
    | true => obtain rfl := (hin id).1 hh; rw [hid] at hXp; cases hXp) (fun id hid => by
    cases hh : inI [X] id with
    | false => rfl
    | true => obtain rfl := (hin id).1 hh; rw [hid] at hXo; cases hXo)
  have hN : ∀ (E : Env) v, upd E d v C.N = E C.N := fun E v => by unfold upd; rw [if_neg (by omega)]
  refine hKc _ _ _ _ hK ⟨_, _, M, ⟨hf.inv, fun t' y' hy' => ?_, hf.size, hf.ext, hf.rng, hf.im, by rw [hN]; exact hf.gh, by rw [hN]; exact hf.g, hf.js, hf.ms, hf.rd, hf.nodup, hf.df, hf.bk, hf.pin, hf.j0⟩⟩
  unfold upd
  split
  . rename_i ht'; subst ht'
    have hyy : y' = .slice (some ⟨b, 0, none⟩) m cap := by
      simp only [Act.put] at hy'
      rw [L2i (by rw [h.size]; exact htC)] at hy'
      exact (Option.some.inj hy').symm
    subst hyy
    obtain ⟨cur, ⟨fr, hc1, _⟩, hc2, hc3, hc4⟩ := hi.blk X ⟨e, 1, R.map fun x => .v (.int .i64 x)⟩ b (by simp [stO]) hb' L1I
    have hlen : m = ((R.take m).map fun x => (.v (.int .i64 x) : AV)).length := by simp; omega
    have hcell : ∀ i, i < R.length -> cur[i]? = some (.int .i64 (R[i]?.getD 0)) := fun i hi' => by
      obtain ⟨x, g1, g2, g3⟩ := hc4 i (.v (.int .i64 R[i])) 0 (.v (.int .i64 R[i])) (by simp [hi']) rfl
      have := g3.v_inv
      subst this
      simpa [hi'] using g1
    conv => arg 5; rw [hlen]
    refine .im _ _ (.sl 1 _ b 0 cap (fun i _ => .int .i64 (R[i]?.getD 0)) ?_ (by rw [<- hlen]; omega) (fun e' he' => ?_) (fun i j hi' hj => ?_) (fun i e' j c he' hc' => ?_))
    . exact .inr ⟨X, by rw [JaA ρ3 (by simp [notI, hqX])]; exact hb3⟩
    . obtain ⟨x, _, rfl⟩ := L08.1 he'; rfl
    . obtain rfl : j = 0 := by omega
      have hi' : i < R.length := by rw [<- hlen] at hi'; omega
      exact ⟨by simp [World.cell?, hc1, hcell i hi'], rfl⟩
    . rw [L03] at he'
      cases hh : (R.take m)[i]? with
      | none => simp [hh] at he'
      | some x =>
        simp [hh] at he'; subst he'
        cases j with
        | zero =>
          simp at hc'; subst hc'
          rw [L0m] at hh
          split at hh
          . rw [hh]; exact .v _
          . cases hh
        | succ j => simp at hc'
  . exact hf.env t' y' hy'
def LOKs (P : Program) (f : FuncId) (X : Nat) (e : TypeId) (es R : List Int) : Prop :=
 (∀ c w, (callFunc f c).run P w = .ok (.enter f c) w) /\
 ∀ (w : World) (g : Nat -> Prop) (d : Nat -> Option Nat) (vs : List Value), Inv w d g (stO [(X, ⟨e, 1, es.map fun x => .v (.int .i64 x)⟩)]) -> GOK w g -> Reps w d g [.own X 1 0 es.length] vs ->
  Calls P f vs.toArray w fun i h => i = .returned (.tuple #[]) /\ Ext w (fun b => ∃ id, d id = some b) h /\ Inv h d g (stO [(X, ⟨e, 1, R.map fun x => .v (.int .i64 x)⟩)]) /\ ∀ b, d X = some b -> JsT w h b
theorem JpV {P : Program} {f : FuncId} (K : ∀ E w, (callFunc f E).run P w = .ok (.enter f E) w) (I : Jwj P f) (X : Nat) (e : TypeId) (l : List Int) (ad : 0 < l.length) (hl : l.length <= 1000000) :
 LOKs P f X e l (Jdd l) := by
 refine ⟨K, fun w Im ρ vs d _ Z => ?_⟩
 obtain ⟨M, hv⟩ := Z
 obtain ⟨v, rfl⟩ : ∃ v, vs = [v] := by
  match vs, M with
  | [v], _ => exact ⟨v, rfl⟩
 have h1 := hv 0 _ v rfl rfl
 rcases h1.own0_inv with ⟨_, N, _⟩ | ⟨b, S, aa, e', rfl, g, ai, ac, ag, ae, aj⟩
 . omega
 obtain ⟨m, ⟨Q, R, C⟩, ah, O, A⟩ := d.blk X ⟨e, 1, l.map fun x => .v (.int .i64 x)⟩ b (by simp [stO]) g L1I
 simp only [L06, L0Z] at O
 have u : b < w.heap.size := d.lt g
 have J : ∀ j, j < l.length -> m[j]? = some (.int .i64 l[j]!) := fun j W => by
  obtain ⟨x, t, _, p⟩ := A j (.v (.int .i64 l[j]!)) 0 (.v (.int .i64 l[j]!)) (by simp [W]) rfl
  rw [p.v_inv] at t
  simpa using t
 have hH : Go.Sort.Holds (Value.int .i64) w b 0 l.toArray := fun j W => by
  have L : j < l.length := by simpa using W
  refine ⟨?_, ?_⟩
  . rw [L0n, Jbn ⟨Q, R, C⟩, J j L]; simp [L]
  . rw [L0n]; exact JgN R C (by omega)
 refine (I b 0 S l w hH u (by omega)).mono ?_
 rintro e2 w' ⟨rfl, n, os, rfl⟩
 have B : ∀ k, k < w.heap.size -> k ≠ b -> (Go.Sort.grow (Go.Sort.putRow (Value.int .i64) (Go.Sort.ahead w n) b 0 (Jdd l).toArray) os).heap[k]? = w.heap[k]? := fun k s Y => by
  simp only [Go.Sort.grow, Go.Sort.putRow, Go.Sort.mapBlock, Go.Sort.ahead]
  rw [Array.getElem?_append_left (by simpa using s), L1x, if_neg (Ne.symm Y)]
 have z : (Go.Sort.grow (Go.Sort.putRow (Value.int .i64) (Go.Sort.ahead w n) b 0 (Jdd l).toArray) os).heap[b]? = some (.cells (Go.Sort.putCells (Value.int .i64) 0 (Jdd l).toArray m) e Q) := by
  simp only [Go.Sort.grow, Go.Sort.putRow, Go.Sort.mapBlock, Go.Sort.ahead]
  rw [Array.getElem?_append_left (by simpa using u), L1x, if_pos rfl, R]; rfl
 have o : w.heap.size <= (Go.Sort.grow (Go.Sort.putRow (Value.int .i64) (Go.Sort.ahead w n) b 0 (Jdd l).toArray) os).heap.size := by simp [Go.Sort.grow, Go.Sort.putRow, Go.Sort.mapBlock, Go.Sort.ahead]
 have q : (Go.Sort.putCells (Value.int .i64) 0 (Jdd l).toArray m).size = m.size := by simp [Go.Sort.putCells]
 have only : ∀ id k, stO [(X, (⟨e, 1, (Jdd l).map fun x => .v (.int .i64 x)⟩ : Blk))] id = some k -> id = X /\ k = ⟨e, 1, (Jdd l).map fun x => .v (.int .i64 x)⟩ := fun id k h => by
  have D := JbQ h
  simpa using D
 refine ⟨rfl, ⟨rfl, rfl, rfl, o, fun k s D => B k s fun e => D ⟨X, e ▸ g⟩⟩, ?_, fun b1 H ab e1 U => ?_⟩
 . refine ⟨fun id k s p => ?_, fun id k F s p h0 => ?_, fun id k F s p h0 => ?_, d.inj, fun id F p => ?_, d.apart, fun F hI => L0R (d.low F hI) o⟩
   . obtain ⟨rfl, rfl⟩ := only id k s
     rw [g] at p; cases p
   . obtain ⟨rfl, rfl⟩ := only id k s
     cases h0
   . obtain ⟨rfl, rfl⟩ := only id k s
     rw [g] at p; cases p
     refine ⟨_, ⟨Q, z, by rw [q]; exact C⟩, fun x t => by obtain ⟨y, _, rfl⟩ := L08.1 t; rfl, by simp only [L06, Jcz, L0Z]; rw [q]; exact O, fun i x j c t I => ?_⟩
     rw [L03] at t
     cases N : (Jdd l)[i]? with
     | none => simp [N] at t
     | some y =>
      simp [N] at t; subst t
      cases j with
      | succ j => simp at I
      | zero =>
       simp at I; subst I
       have hi : i < (Jdd l).length := (L05.1 N).1
       have V : i < m.size := by rw [Jcz] at hi; omega
       refine ⟨.int .i64 y, ?_, rfl, .im _ _ (.v _)⟩
       simp only [Go.Sort.putCells, L0Z, L0X, Array.getElem?_mapIdx]; rw [L0g V]
       have : (Jdd l)[i] = y := (L05.1 N).2
       simp [hi, this]
   . have : stO [(X, (⟨e, 1, l.map fun x => .v (.int .i64 x)⟩ : Blk))] id ≠ none := d.live id F p
     intro h
     apply this
     rw [JdV] at h ⊢
     by_cases D : X = id
     . rw [if_pos D] at h; cases h
     . rw [if_neg D]; rfl
 . rw [g] at H; cases H
   obtain ⟨af, G, T⟩ := U
   rw [R] at G; cases G
   exact ⟨_, ⟨Q, z, by rw [q]; exact T⟩, q⟩
theorem Jra {S : Sp} {E : Env} {σ : Jac} {K : Env -> Jac -> Prop} {d : Nat} {f : Operand} {args : Array Operand} {ats : Array TypeId} {ty : TypeId} {g : FuncId} (X t : Nat) {es R : List Int} {e : TypeId}
    (hL : LOKs S.P g X e es R) (hfv : ev E f = .clo g []) (has : args.toList.map (ev E) = [.own X 1 0 es.length]) (hat : σ X = some ⟨e, 1, es.map fun x => .v (.int .i64 x)⟩) (hE : E t = .own X 1 0 es.length) (hn : 0 < es.length)
    (hK : K (upd (updO (JaR (own (S.b + d)) (fdE (inI [X]) (movI (inI [X]) (inI [X])) E)) (some d) (imp (16 * (S.b + d)) (.tup [])).1) t (.own X 1 0 es.length))
      (addS (Jak (own (S.b + d)) (fdS (inI [X]) (movI (inI [X]) (inI [X])) σ (stO [(X, ⟨e, 1, R.map fun x => .v (.int .i64 x)⟩)]))) (imp (16 * (S.b + d)) (.tup [])).2))
    (hX : (!Nat.beq (X / 16) (S.b + d) && Nat.blt t S.N && !Nat.beq d t) = true := by kernel_rfl)
    (hfit : ((some d).all (decide <| · < S.N) && Op.low S.N (.call { callee := .value f, args, argTypes := ats }) && decide (d < 100000)) = true := by kernel_rfl) :
    semD S (some d) (.call { callee := .value f, args, argTypes := ats }) ty K E σ := by
  simp only [L00, decide_eq_true_eq, L0U] at hfit hX
  obtain ⟨⟨hXd, htl⟩, htd⟩ := hX
  have htl : t < S.N := L0u htl
  have htd : d ≠ t := fun e => by rw [e, Nat.beq_refl] at htd; cases htd
  have hXd : X / 16 ≠ S.b + d := fun e => by rw [e, Nat.beq_refl] at hXd; cases hXd
  have hin : ∀ id, inI [X] id = true ↔ id = X := fun id => by simp [inI]
  have hnl : AV.namesL (notI (inI [X])) (es.map fun x => (.v (.int .i64 x) : AV)) = false := Jam _ _ _ fun _ => rfl
  have hnl2 : AV.namesL (notI (inI [X])) (R.map fun x => (.v (.int .i64 x) : AV)) = false := Jam _ _ _ fun _ => rfl
  have honly : only (inI [X]) σ = stO [(X, ⟨e, 1, es.map fun x => .v (.int .i64 x)⟩)] := JeM (l := [(X, ⟨e, 1, es.map fun x => .v (.int .i64 x)⟩)]) ⟨hat, trivial⟩
  intro pos after guard C H n a w Kc Q ⟨ρ, Im, M, h⟩ hKc
  obtain ⟨⟨hdst, hlow⟩, hdd⟩ := hfit
  have htN : d < S.N := by simpa using hdst
  have rep : ∀ x, x ∈ (Op.call { callee := .value f, args, argTypes := ats }).operands -> Rep w ρ Im (ev E x) (a.eval x) := fun x hx => JbD h.env (by rw [h.size, <- H.N]; exact Jbq hlow hx)
  refine ⟨fun _ _ => trivial, ?_⟩
  rw [Oper.semAt_eq _ _ _ (fun c e => by cases e)]
  have hfr := rep f (by simp [Op.operands, Call.operands])
  rw [hfv] at hfr
  obtain ⟨cys, hfy, hcl', hcr⟩ := hfr.clo_plain rfl
  have hargs : ∀ x ∈ args.toList, Rep w ρ Im (ev E x) (a.eval x) := fun x hx => rep x (by simp [Op.operands, Call.operands]; exact Or.inr (L0s.1 hx))
  have hcy : cys = [] := L0M hcl'.symm
  subst hcy
  have hall : Reps w ρ Im (args.toList.map (ev E)) (args.toList.map a.eval) := by
    refine ⟨by simp, fun j c y hc hy => ?_⟩
    have hj : j < args.toList.length := by
      have := (L05.1 hc).1; simpa using this
    rw [L03] at hc hy; rw [L09 hj] at hc hy
    simp at hc hy; subst hc; subst hy
    exact hargs _ (by simp)
  have hallq : Reps w (killR (notI (inI [X])) ρ) Im [.own X 1 0 es.length] (args.toList.map a.eval) := has ▸ ⟨hall.1, fun j c y hc hy => (hall.2 j c y hc hy).killR fun id hid => by
    cases hp : notI (inI [X]) id with
    | false => rfl
    | true =>
      have := (AV.namesL_iff (notI (inI [X])) _).2 ⟨c, L01 hc, AV.namesB_of _ hid hp⟩
      rw [has] at this; simp [AV.namesL, AV.namesB, notI, inI] at this⟩
  obtain ⟨henter, hfn⟩ := hL
  have hrun : (execOp a.eval { dst := some d, op := .call { callee := .value f, args, argTypes := ats }, type := ty, pos, after, guard }).run S.P w = .ok (.enter g (args.toList.map a.eval).toArray) w := by
    simp only [execOp, resolve, hfy, Deferred.ofValue, Sem.run_bind, Sem.run_pure, Result.andThen_ok, invoke]
    have e1 : (#[] ++ args.map a.eval ++ ([] : List Value).toArray : Array Value) = (args.toList.map a.eval).toArray := by apply L0S.1; simp
    rw [e1]; exact henter _ w
  rw [hrun]
  refine ⟨fun h => by simp [FW] at h, JdB ?_⟩
  refine (hfn w Im (killR (notI (inI [X])) ρ) _ (honly ▸ h.inv.only fun id q hid hqq => by
    obtain rfl := (hin id).1 hqq
    rw [hat] at hid; cases hid; exact hnl) (h.gok H) hallq).mono fun ee w' ⟨he, hx, hi, hsh⟩ => ?_
  subst he
  have hrr : RR w w' (killR (notI (inI [X])) ρ) Im (.tup []) (.tuple #[]) := ⟨[], [], rfl, trivial, by simp [JdZ]⟩
  obtain ⟨ρ3, Im3, hw, hρ3⟩ := h.lent (pin := inI [X]) H hx hi (fun _ h => h) (fun _ h => .inl h) (fun _ _ h => .inl h) (fun _ _ => rfl) (fun id q hid => by
    have := JbQ hid
    simp only [L0p, Prod.mk.injEq] at this; obtain ⟨rfl, rfl⟩ := this
    exact ⟨(hin _).2 rfl, hnl2⟩) (fun id _ hq' => hq') hdd hrr (L0u rfl) (dst := some d) (fun d' hd' => by cases hd'; rw [<- H.N]; exact htN)
  have htC : d < C.N := by rw [<- H.N]; exact htN
  have hqX : inI [X] X = true := (hin X).2 rfl
  have htC2 : t < C.N := by rw [<- H.N]; exact htl
  have hN : ∀ (E : Env) v, upd E t v C.N = E C.N := fun E v => by unfold upd; rw [if_neg (by omega)]
  obtain ⟨y0, hy0⟩ : ∃ y0, a.tmps[t]? = some y0 := ⟨_, L0g (by rw [h.size]; exact htC2)⟩
  have hr0 := h.env t y0 hy0; rw [hE] at hr0
  refine hKc _ _ _ _ hK ⟨_, _, M, ⟨hw.inv, fun t' y' hy' => ?_, hw.size, hw.ext, hw.rng, hw.im, by rw [hN]; exact hw.gh, by rw [hN]; exact hw.g, hw.js, hw.ms, hw.rd, hw.nodup, hw.df, hw.bk, hw.pin, hw.j0⟩⟩
  unfold upd
  split
  . rename_i ht'; subst ht'
    have hyy : y' = y0 := by
      simp only [Act.put] at hy'; rw [L14 htd] at hy'
      rw [hy0] at hy'; exact (Option.some.inj hy').symm
    subst hyy
    rcases hr0.own0_inv with ⟨_, hz, _⟩ | ⟨b, cap, cur, e', rfl, hb, hnc, hcap, hb0, hsz, hnz⟩
    . omega
    have hb' : killR (notI (inI [X])) ρ X = some b := by rw [JaA ρ (by simp [notI, hqX])]; exact hb
    obtain ⟨cur', hc', hs'⟩ := hsh b hb' cur e' hb0
    have hb3 : ρ3 X = some b := by rw [hρ3 X hXd, if_pos hqX]; exact hb'
    exact .own X 1 _ b cap cur' e' hb3 hnc hcap hc' (by rw [hs']; exact hsz) hnz
  . exact hw.env t' y' hy'
abbrev entS (p : ByteArray × AV) : AV := .tup [.v (.string p.1), p.2]
def idxS (n : ByteArray) : List (ByteArray × AV) -> Option Nat
 | [] => none
 | p :: r => if p.1 = n then some 0 else (idxS n r).map (· + 1)
def JbI (n : ByteArray) : List (ByteArray × AV) -> Option AV
 | [] => none
 | p :: r => if p.1 = n then some p.2 else JbI n r
def JkW (l : List (ByteArray × AV)) (n : ByteArray) (v : AV) : List (ByteArray × AV) := match idxS n l with
 | none => l ++ [(n, v)]
 | some j => l.set j (n, v)
theorem JjG {n : ByteArray} {v : AV} : ∀ {l : List (ByteArray × AV)}, JbI n l = some v -> (n, v) ∈ l
 | p :: r, h => by
  rw [JbI] at h
  split at h
  . rename_i e; cases h; subst e; simp
  . exact L1y _ (JjG h)
def Jqp (b : List MapEntry) (l : List (ByteArray × AV)) : Prop := b.length = l.length /\ ∀ (i : Nat) (m : MapEntry) (p : ByteArray × AV), b[i]? = some m -> l[i]? = some p -> m.key = .string p.1
theorem JeG (n : ByteArray) : ∀ (b : List MapEntry) (l : List (ByteArray × AV)) (i : Nat), Jqp b l ->
 (idxS n l = none /\ JbI n l = none /\ Instr.findNow .string (.string n) b i = some none) \/
 ∃ j p e, idxS n l = some j /\ l[j]? = some p /\ p.1 = n /\ b[j]? = some e /\ JbI n l = some p.2 /\ Instr.findNow .string (.string n) b i = some (some (i + j, e.val))
 | [], [], _, _ => .inl ⟨rfl, rfl, rfl⟩
 | [], _ :: _, _, h => by have := h.1; simp at this
 | _ :: _, [], _, h => by have := h.1; simp at this
 | e :: c, p :: l, i, h => by
  have o := h.2 0 e p rfl rfl
  have A : Jqp c l := ⟨by simpa using h.1, fun j m q y z => h.2 (j + 1) m q (by simpa using y) (by simpa using z)⟩
  by_cases hp : p.1 = n
  . refine .inr ⟨0, p, e, by rw [idxS, if_pos hp], rfl, hp, rfl, by rw [JbI, if_pos hp], ?_⟩
    simp [Instr.findNow, Instr.sameNow, o, hp, (MapKept.bytes_beq n n).2 rfl]
  . have k : Instr.findNow .string (.string n) (e :: c) i = Instr.findNow .string (.string n) c (i + 1) := by
     have : (n == p.1) = false := Bool.eq_false_iff.2 fun e => hp ((MapKept.bytes_beq n p.1).1 e).symm
     simp [Instr.findNow, Instr.sameNow, o, this]
    rcases JeG n c l (i + 1) A with ⟨d, f, g⟩ | ⟨j, q, s, d, f, g, t, u, w⟩
    . exact .inl ⟨by rw [idxS, if_neg hp, d]; rfl, by rw [JbI, if_neg hp, f], by rw [k, g]⟩
    . exact .inr ⟨j + 1, q, s, by rw [idxS, if_neg hp, d]; rfl, by simpa using f, g, by simpa using t, by rw [JbI, if_neg hp, u], by rw [k, w]; congr 3; omega⟩
section
variable {w : World} {ρ : Nat -> Option Nat} {Im : Nat -> Prop}
theorem JlF {l : List (ByteArray × AV)} {b : Nat} (h : Jqr w ρ Im (l.map entS) b) : ∃ c d, w.heap[b]? = some (.map c d) /\ Jqp c.toList l /\
 (∀ (i : Nat) (m : MapEntry) (p : ByteArray × AV), c.toList[i]? = some m -> l[i]? = some p -> Rep w ρ Im p.2 m.val) /\ Bn c d := by
 obtain ⟨c, d, t, o, u⟩ := h
 have j : ∀ (i : Nat) (m : MapEntry) (p : ByteArray × AV), c.toList[i]? = some m -> l[i]? = some p -> m.key = .string p.1 /\ Rep w ρ Im p.2 m.val := fun i m p f g => by
  obtain ⟨v, k, y⟩ := u i m (by rw [<- L0L]; exact f)
  rw [L03, g] at k; simp only [L0N, Option.some.injEq, AV.tup.injEq, List.cons.injEq, AV.v.injEq, and_true] at k; obtain ⟨q, s⟩ := k
  exact ⟨q.symm, s ▸ y⟩
 refine ⟨c, d, t, ⟨by simpa using o.1.symm, fun i m p f g => (j i m p f g).1⟩, fun i m p f g => (j i m p f g).2, o.2⟩
end
theorem Jm3 {S : Sp} {dst : Option Nat} {t ty kt et : TypeId} {x y : Operand} {K : Env -> Jac -> Prop} {E : Env} {σ : Jac} {id e : Nat} {l : List (ByteArray × AV)} {n : ByteArray} {z : Value}
 (hx : ev E x = .mref id) (h : ev E y = .v (.string n)) (hs : σ id = some ⟨e, 0, l.map entS⟩) (ht : S.P.underlying t = some (.map kt et)) (hk : S.P.underlying kt = some .string) (hz : tz S.P et = some z)
 (F : ∀ v, JbI n l = some v -> K (updO E dst (.tup [v, B true])) σ) (D : JbI n l = none -> K (updO E dst (.tup [ofC z, B false])) σ)
 (o : (dst.all (decide <| · < S.N) && Op.low S.N (.lookup t x y true)) = true := by kernel_rfl) : semD S dst (.lookup t x y true) ty K E σ := by
 intro ad s A C H nn a w Kc Q ⟨ρ, W, M, T⟩ I
 simp only [L00] at o; obtain ⟨J, L⟩ := o
 have g : ∀ d, dst = some d -> d < C.N := fun d hd => by subst hd; rw [<- H.N]; simpa using J
 have U : ∀ u, u ∈ (Op.lookup t x y true).operands -> Rep w ρ W (ev E u) (a.eval u) := fun u hu => JbD T.env (by rw [T.size, <- H.N]; exact Jbq L hu)
 have O := U x (by simp [Op.operands])
 have R := U y (by simp [Op.operands])
 rw [hx] at O; rw [h] at R; obtain ⟨b, aa, ac⟩ := O.mref_inv; have ab := R.v_inv
 obtain ⟨f, ae, hb, he, hv, af⟩ := JlF (T.inv.map id _ b hs ac rfl)
 have Y := MapKept.run_checkKey (P := S.P) (w := w) hk (k := .string n) trivial f.isEmpty 9999
 have V : ∀ r, Instr.findNow .string (.string n) f.toList 0 = some r -> (execOp a.eval ⟨dst, .lookup t x y true, ty, ad, s, A⟩).run S.P w = .ok (.value (.tuple (match r with | some (_, v) => #[v, .bool true] | none => #[z, .bool false]))) w := fun r Z => by
  simp only [execOp, aa, ab, Instr.lookup, Sem.run_bind, run_underlying ht w, Result.andThen_ok, MapKept.run_getObj_map hb, Sem.run_pure, Y, MapKept.run_findKey hk Z]
  cases r with
  | none => simp [Jcy hz w, Sem.run_bind, Result.andThen_ok]
  | some q => simp [Sem.run_bind, Result.andThen_ok]
 rcases JeG n f.toList l 0 he with ⟨_, X, h3⟩ | ⟨j, p, m, _, X, _, h4, h5, h6⟩
 . exact JaL (fun _ e => by cases e) (V _ h3) (I _ _ _ _ (D X) ⟨ρ, W, M, T.put H.G g (.tup _ [z, .bool false] rfl fun j c y i h => by
    match j with
    | 0 => simp at i h; subst i; subst h; exact Jeh z
    | 1 => simp at i h; subst i; subst h; exact .im _ _ (.v _))⟩)
 . have Z := hv j m p h4 X
   exact JaL (fun _ e => by cases e) (V _ h6) (I _ _ _ _ (F _ h5) ⟨ρ, W, M, T.put H.G g (.tup _ [m.val, .bool true] rfl fun j c y i h => by
    match j with
    | 0 => simp at i h; subst i; subst h; exact Z
    | 1 => simp at i h; subst i; subst h; exact .im _ _ (.v _))⟩)
theorem JiA {S : Sp} {t ty kt et : TypeId} {x y v : Operand} {K : Env -> Jac -> Prop} {E : Env} {σ : Jac} {id e : Nat} {l : List (ByteArray × AV)} {n : ByteArray}
 (hx : ev E x = .mref id) (hy : ev E y = .v (.string n)) (hs : σ id = some ⟨e, 0, l.map entS⟩) (ht : S.P.underlying t = some (.map kt et)) (hk : S.P.underlying kt = some .string)
 (h : K E (updS σ id ⟨e, 0, (JkW l n (ev E v)).map entS⟩))
 (T : Op.low S.N (.mapUpdate t x y v) = true := by kernel_rfl) : semD S none (.mapUpdate t x y v) ty K E σ := by
 intro ah aa ab C H nn a w Kc Q ⟨ρ, Im, M, X⟩ F
 have A : ∀ u, u ∈ (Op.mapUpdate t x y v).operands -> Rep w ρ Im (ev E u) (a.eval u) := fun u hu => JbD X.env (by rw [X.size, <- H.N]; exact Jbq T hu)
 have V := A x (by simp [Op.operands])
 have W := A y (by simp [Op.operands])
 have U := A v (by simp [Op.operands])
 rw [hx] at V; rw [hy] at W; obtain ⟨b, Y, z⟩ := V.mref_inv; have Z := W.v_inv
 obtain ⟨c, s, B, L, hv, I⟩ := JlF (X.inv.map id _ b hs z rfl)
 have J := MapKept.run_checkKey (P := S.P) (w := w) hk (k := .string n) trivial false 9999
 have o := L.1; rw [L0x] at o
 rcases JeG n c.toList l 0 L with ⟨D, h2, h3⟩ | ⟨j, p, m, D, h2, h0, h4, h5, h6⟩
 . refine Jfz (fun _ e => by cases e) (w' := { w with heap := w.heap.setIfInBounds b (.map (c.push { key := .string n, val := a.eval v, born := s }) (s + 1)) }) ?_ (F _ _ _ _ h ⟨ρ, Im, M, ?_⟩)
   . simp [execOp, Y, Z, Instr.mapUpdate, Sem.run_bind, run_underlying ht w, Result.andThen_ok, MapKept.run_getObj_map B, J, MapKept.run_findKey hk h3, MapKept.run_setObj_map _ B, Result.andThen]
   . refine (X.turnMap H.G hs z B rfl ⟨?_, Jte I _ _⟩ fun i m f => ?_)
     . simp only [JkW, D]; simp; omega
     . simp only [JkW, D]; rw [Array.getElem?_push] at f
       split at f
       . rename_i hi
         cases f
         refine ⟨ev E v, ?_, U⟩
         rw [L03, hi, o, L0o (L0a _), L1l]; rfl
       . have ac : i < c.size := (L0k.1 f).1
         cases hp : l[i]? with
         | none => rw [L1W] at hp; omega
         | some p =>
          have g : c.toList[i]? = some m := by rw [L0L]; exact f
          refine ⟨p.2, ?_, hv i m p g hp⟩
          rw [L03, L0l (by omega), hp, L.2 i m p g hp]; rfl
 . rw [L0n] at h6
   have ae : m.key = .string n := by rw [L.2 j m p h4 h2, h0]
   have R : c[j]? = some m := by rw [<- L0L]; exact h4
   refine Jfz (fun _ e => by cases e) (w' := { w with heap := w.heap.setIfInBounds b (.map (c.modify j fun e => { e with key := .string n, val := a.eval v }) s) }) ?_ (F _ _ _ _ h ⟨ρ, Im, M, ?_⟩)
   . have ag := MapKept.run_keyThatStays (P := S.P) (w := w) (d := .string) (k := .string n) trivial
     simp [execOp, Y, Z, Instr.mapUpdate, Sem.run_bind, run_underlying ht w, Result.andThen_ok, MapKept.run_getObj_map B, J, MapKept.run_findKey hk h6, R, ae, ag, MapKept.run_setObj_map _ B, Result.andThen]
   . refine (X.turnMap H.G hs z B rfl ⟨?_, Jn1 I j _ _⟩ fun i q f => ?_)
     . simp only [JkW, D]; simp; omega
     . simp only [JkW, D]; rw [L1x] at f
       have ad : j < l.length := (L05.1 h2).1
       split at f
       . rename_i e; subst e; rw [R] at f
         cases f
         exact ⟨ev E v, by rw [L03, List.getElem?_set_self ad]; rfl, U⟩
       . rename_i af
         have ac : i < c.size := (L0k.1 f).1
         cases hp : l[i]? with
         | none => rw [L1W] at hp; omega
         | some p =>
          have g : c.toList[i]? = some q := by rw [L0L]; exact f
          refine ⟨p.2, ?_, hv i q p g hp⟩
          rw [L03, List.getElem?_set_ne af, hp, L.2 i q p g hp]; rfl
theorem IRep.mp_inv {w : World} {Im : Nat -> Prop} {es : List AV} {y : Value} (h : IRep w Im (.mp es) y) : (es = [] /\ y = .map none) \/
 ∃ (b : Nat) (c : Array MapEntry) (d : Nat) (f : Nat -> AV), y = .map (some b) /\ w.heap[b]? = some (.map c d) /\ es.length = c.size /\ (∀ (i : Nat) (m : MapEntry), c[i]? = some m -> es[i]? = some (.tup [.v m.key, f i])) /\ ∀ (i : Nat) (m : MapEntry), c[i]? = some m -> IRep w Im (f i) m.val := by
 cases h with
 | mpnil => exact .inl ⟨rfl, rfl⟩
 | mp _ b c d f j k l g h => exact .inr ⟨b, c, d, f, rfl, k, l.1, g, h⟩
theorem Jm2 {S : Sp} {dst : Option Nat} {t ty kt et : TypeId} {x y : Operand} {K : Env -> Jac -> Prop} {E : Env} {σ : Jac} {l : List (ByteArray × AV)} {n : ByteArray} {z : Value}
 (hx : ev E x = .mp (l.map entS)) (hy : ev E y = .v (.string n)) (ht : S.P.underlying t = some (.map kt et)) (hk : S.P.underlying kt = some .string) (hz : tz S.P et = some z)
 (W : ∀ v, JbI n l = some v -> K (updO E dst (.tup [v, B true])) σ) (D : JbI n l = none -> K (updO E dst (.tup [ofC z, B false])) σ)
 (L : (dst.all (decide <| · < S.N) && Op.low S.N (.lookup t x y true)) = true := by kernel_rfl) : semD S dst (.lookup t x y true) ty K E σ := by
 intro ae s A C H nn a w Kc Q ⟨X, O, M, hw⟩ T
 simp only [L00] at L; obtain ⟨Y, Z⟩ := L
 have o : ∀ d, dst = some d -> d < C.N := fun d hd => by subst hd; rw [<- H.N]; simpa using Y
 have af : ∀ u, u ∈ (Op.lookup t x y true).operands -> Rep w X O (ev E u) (a.eval u) := fun u hu => JbD hw.env (by rw [hw.size, <- H.N]; exact Jbq Z hu)
 have ab := af x (by simp [Op.operands])
 have ac := af y (by simp [Op.operands])
 rw [hx] at ab; rw [hy] at ac; have ad := ac.v_inv
 have F : ∀ {v : AV} {yv : Value}, Rep w X O v yv -> ∀ b : Bool, Rep w X O (.tup [v, B b]) (.tuple #[yv, .bool b]) := fun {v yv} hv b => .tup _ [yv, .bool b] rfl fun j c q hc hq => by
  match j with
  | 0 => simp at hc hq; subst hc; subst hq; exact hv
  | 1 => simp at hc hq; subst hc; subst hq; exact .im _ _ (.v _)
 cases ab with
 | im _ _ hi =>
  rcases hi.mp_inv with ⟨ag, V⟩ | ⟨b, g, ai, f, V, hb, hl, J, h⟩
  . have hl : l = [] := by simpa using ag
    subst hl
    have U := MapKept.run_checkKey (P := S.P) (w := w) hk (k := .string n) trivial true 9999
    have ah := MapKept.run_findKey (P := S.P) (w := w) hk (k := .string n) (l := []) (a := none) rfl
    have I : (execOp a.eval ⟨dst, .lookup t x y true, ty, ae, s, A⟩).run S.P w = .ok (.value (.tuple #[z, .bool false])) w := by
     simp only [execOp, V, ad, Instr.lookup, Sem.run_bind, run_underlying ht w, Result.andThen_ok, Sem.run_pure, Array.isEmpty_empty, U, ah]
     simp [Jcy hz w, Sem.run_bind, Result.andThen_ok]
    exact JaL (fun _ e => by cases e) I (T _ _ _ _ (D rfl) ⟨X, O, M, hw.put H.G o (F (Jeh z) false)⟩)
  . have he : Jqp g.toList l := ⟨by simpa using hl.symm, fun i m p hm hp => by
     have R := J i m (by rw [<- L0L]; exact hm)
     rw [L03, hp] at R; simp only [L0N, Option.some.injEq, AV.tup.injEq, List.cons.injEq, AV.v.injEq, and_true] at R
     exact R.1.symm⟩
    have hv : ∀ (i : Nat) (m : MapEntry) (p : ByteArray × AV), g.toList[i]? = some m -> l[i]? = some p -> Rep w X O p.2 m.val := fun i m p hm hp => by
     have aa : g[i]? = some m := by rw [<- L0L]; exact hm
     have R := J i m aa; rw [L03, hp] at R; simp only [L0N, Option.some.injEq, AV.tup.injEq, List.cons.injEq, AV.v.injEq, and_true] at R
     rw [R.2]; exact .im _ _ (h i m aa)
    have U := MapKept.run_checkKey (P := S.P) (w := w) hk (k := .string n) trivial g.isEmpty 9999
    have I : ∀ r, Instr.findNow .string (.string n) g.toList 0 = some r -> (execOp a.eval ⟨dst, .lookup t x y true, ty, ae, s, A⟩).run S.P w = .ok (.value (.tuple (match r with | some (_, v) => #[v, .bool true] | none => #[z, .bool false]))) w := fun r hr => by
     simp only [execOp, V, ad, Instr.lookup, Sem.run_bind, run_underlying ht w, Result.andThen_ok, MapKept.run_getObj_map hb, Sem.run_pure, U, MapKept.run_findKey hk hr]
     cases r with
     | none => simp [Jcy hz w, Sem.run_bind, Result.andThen_ok]
     | some q => simp [Sem.run_bind, Result.andThen_ok]
    rcases JeG n g.toList l 0 he with ⟨_, h2, h3⟩ | ⟨j, p, m, _, h2, _, h4, h5, h6⟩
    . exact JaL (fun _ e => by cases e) (I _ h3) (T _ _ _ _ (D h2) ⟨X, O, M, hw.put H.G o (F (Jeh z) false)⟩)
    . exact JaL (fun _ e => by cases e) (I _ h6) (T _ _ _ _ (W _ h5) ⟨X, O, M, hw.put H.G o (F (hv j m p h4 h2) true)⟩)
theorem Jiz {S : Sp} {E : Env} {σ : Jac} {K : Env -> Jac -> Prop} {dst : Option Nat} {f : Operand} {args : Array Operand} {j : Array TypeId} {ty : TypeId} {g : FuncId} {xs bs : List AV} (d : List Nat) {l l' : List (Nat × Blk)} {r : AV}
 (C : LOK S.P g (inI d) (bs ++ xs) (stO l) r (stO l')) (w : ev E f = .clo g (.v (.tuple #[]) :: bs)) (t : args.toList.map (ev E) = xs) (o : atL σ l)
 (y : AV.namesL (notI (inI (l.map (·.1)))) (bs ++ xs) = false) (s : Jcf (inI (l.map (·.1))) l = true) (u : Jcf (inI (l.map (·.1))) l' = true)
 (B : K (updO (JaR (own (S.b + dst.getD 99999)) (fdE (inI (l.map (·.1))) (movI (inI (l.map (·.1))) (inI d)) E)) dst (imp (16 * (S.b + dst.getD 99999)) r).1)
  (addS (Jak (own (S.b + dst.getD 99999)) (fdS (inI (l.map (·.1))) (movI (inI (l.map (·.1))) (inI d)) σ (stO l'))) (imp (16 * (S.b + dst.getD 99999)) r).2))
 (p : l.map (·.1) = l'.map (·.1) := by rfl) (hsp : ∀ id, id ∈ l.map (·.1) -> S.pin id = true -> inI d id = true := by intro id D F; first | (cases F; done) | (simp_all [inI, spL, spR]; done))
 (h : (dst.all (decide <| · < S.N) && Op.low S.N (.call { callee := .value f, args, argTypes := j }) && decide (dst.getD 99999 < 100000)) = true := by kernel_rfl) (q : rlen r <= 16 := by exact L0u rfl) :
 semD S dst (.call { callee := .value f, args, argTypes := j }) ty K E σ := by
 simp only [L00, decide_eq_true_eq] at h
 have c : ∀ {m : List (Nat × Blk)}, Jcf (inI (l.map (·.1))) m = true -> ∀ id k, stO m id = some k -> AV.namesL (notI (inI (l.map (·.1)))) k.es = false := fun {m} s id k i => by
  simp only [Jcf, L0c] at s
  simpa using s (id, k) (JbQ i)
 refine JhB w (bs ++ xs) (.inr ⟨bs, rfl, by rw [t]⟩) (inI (l.map (·.1))) (inI d) (by rw [JeM o]; exact C) y (fun id k i y => ?_) (fun id k i => ⟨?_, c u id k i⟩) (fun id z A => hsp id (JoP A) z) (by simp [h.1]) q h.2 B
 . cases hs : stO l id with
   | none => exact absurd (L0K.1 y) (JdW.1 hs)
   | some b =>
    have := Jlx o hs
    rw [i] at this; cases this
    exact c s id k hs
 . rw [p]; exact L0K.2 (L08.2 ⟨_, JbQ i, rfl⟩)
theorem Jrb {S : Sp} {E : Env} {σ : Jac} {K : Env -> Jac -> Prop} {dst : Option Nat} {f : Operand} {args : Array Operand} {ats : Array TypeId} {ty : TypeId} {g : FuncId} {xs caps : List AV} (X t : Nat) {es R : List ByteArray} {e : TypeId}
    (hL : LOK S.P g (inI [X]) (xs ++ caps) (stO [(X, ⟨e, 1, es.map fun x => .v (.string x)⟩)]) (.tup []) (stO [(X, ⟨e, 1, R.map fun x => .v (.string x)⟩)])) (hfv : ev E f = .clo g caps) (has : args.toList.map (ev E) = xs) (hat : σ X = some ⟨e, 1, es.map fun x => .v (.string x)⟩)
    (hE : E t = .own X 1 0 R.length) (hn : 0 < R.length) (hq : AV.namesL (notI (inI [X])) (xs ++ caps) = false)
    (hK : K (upd (frE (inI [X]) (addS (Jak (own (S.b + dst.getD 99999)) (fdS (inI [X]) (movI (inI [X]) (inI [X])) σ (stO [(X, ⟨e, 1, R.map fun x => .v (.string x)⟩)]))) (imp (16 * (S.b + dst.getD 99999)) (.tup [])).2) (updO (JaR (own (S.b + dst.getD 99999)) (fdE (inI [X]) (movI (inI [X]) (inI [X])) E)) dst (imp (16 * (S.b + dst.getD 99999)) (.tup [])).1)) t (.sl 1 (R.map fun x => .v (.string x))))
      (frS (inI [X]) (addS (Jak (own (S.b + dst.getD 99999)) (fdS (inI [X]) (movI (inI [X]) (inI [X])) σ (stO [(X, ⟨e, 1, R.map fun x => .v (.string x)⟩)]))) (imp (16 * (S.b + dst.getD 99999)) (.tup [])).2)))
    (hhd : JaH caps = true := by rfl) (hX : (!S.pin X && !S.old X && !Nat.beq (X / 16) (S.b + dst.getD 99999) && Nat.blt t S.N && dst.all fun d => !Nat.beq d t) = true := by kernel_rfl)
    (hfit : (dst.all (decide <| · < S.N) && Op.low S.N (.call { callee := .value f, args, argTypes := ats }) && decide (dst.getD 99999 < 100000)) = true := by kernel_rfl) :
    semD S dst (.call { callee := .value f, args, argTypes := ats }) ty K E σ := by
  simp only [L00, decide_eq_true_eq, L0U] at hfit hX
  obtain ⟨⟨⟨⟨hXp, hXo⟩, hXd⟩, htN⟩, htd⟩ := hX
  have htN : t < S.N := L0u htN
  have hXd : X / 16 ≠ S.b + dst.getD 99999 := fun e => by rw [e, Nat.beq_refl] at hXd; cases hXd
  have hin : ∀ id, inI [X] id = true ↔ id = X := fun id => by simp [inI]
  have hnl : AV.namesL (notI (inI [X])) (es.map fun x => (.v (.string x) : AV)) = false := Jam _ _ _ fun _ => rfl
  have hnl2 : AV.namesL (notI (inI [X])) (R.map fun x => (.v (.string x) : AV)) = false := Jam _ _ _ fun _ => rfl
  have honly : only (inI [X]) σ = stO [(X, ⟨e, 1, es.map fun x => .v (.string x)⟩)] := JeM (l := [(X, ⟨e, 1, es.map fun x => .v (.string x)⟩)]) ⟨hat, trivial⟩
  subst has; rw [<- honly] at hL
  intro pos after guard C H n a w Kc Q ⟨ρ, Im, M, h⟩ hKc
  obtain ⟨⟨hdst, hlow⟩, hdd⟩ := hfit
  have hdst : ∀ d, dst = some d -> d < S.N := fun d hd => by subst hd; simpa using hdst
  have rep : ∀ x, x ∈ (Op.call { callee := .value f, args, argTypes := ats }).operands -> Rep w ρ Im (ev E x) (a.eval x) := fun x hx => JbD h.env (by rw [h.size, <- H.N]; exact Jbq hlow hx)
  refine ⟨fun _ _ => trivial, ?_⟩
  rw [Oper.semAt_eq _ _ _ (fun c e => by cases e)]
  have hfr := rep f (by simp [Op.operands, Call.operands])
  rw [hfv] at hfr
  obtain ⟨cys, hfy, hcl', hcr⟩ := hfr.clo_plain hhd
  have hargs : ∀ x ∈ args.toList, Rep w ρ Im (ev E x) (a.eval x) := fun x hx => rep x (by simp [Op.operands, Call.operands]; exact Or.inr (L0s.1 hx))
  have hall : Reps w ρ Im (args.toList.map (ev E) ++ caps) (args.toList.map a.eval ++ cys) := by
    refine ⟨by simp [hcl'], fun j c y hc hy => ?_⟩
    by_cases hj : j < args.toList.length
    . rw [L0l (by simpa using hj), L03] at hc hy
      rw [L09 hj] at hc hy
      simp at hc hy; subst hc; subst hy
      exact hargs _ (by simp)
    . rw [L0o (by simp at hj ⊢; omega)] at hc hy
      simp only [L06] at hc hy
      exact hcr _ c y hc hy
  have hallq : Reps w (killR (notI (inI [X])) ρ) Im (args.toList.map (ev E) ++ caps) (args.toList.map a.eval ++ cys) := ⟨hall.1, fun j c y hc hy => (hall.2 j c y hc hy).killR fun id hid => by
    cases hp : notI (inI [X]) id with
    | false => rfl
    | true =>
      have := (AV.namesL_iff (notI (inI [X])) _).2 ⟨c, L01 hc, AV.namesB_of _ hid hp⟩
      rw [hq] at this; cases this⟩
  obtain ⟨henter, hfn⟩ := hL
  have hrun : (execOp a.eval { dst, op := .call { callee := .value f, args, argTypes := ats }, type := ty, pos, after, guard }).run S.P w = .ok (.enter g (args.toList.map a.eval ++ cys).toArray) w := by
    simp only [execOp, resolve, hfy, Deferred.ofValue, Sem.run_bind, Sem.run_pure, Result.andThen_ok, invoke]
    have e1 : (#[] ++ args.map a.eval ++ cys.toArray : Array Value) = (args.toList.map a.eval ++ cys).toArray := by apply L0S.1; simp
    rw [e1]; exact henter _ w
  rw [hrun]
  refine ⟨fun h => by simp [FW] at h, JdB ?_⟩
  refine (hfn w Im (killR (notI (inI [X])) ρ) _ (h.inv.only fun id q hid hqq => by
    obtain rfl := (hin id).1 hqq
    rw [hat] at hid; cases hid; exact hnl) (h.gok H) hallq).mono fun ee w' ⟨y, ρ', Im', he, hx, hi, hI1, hI2, hρ, hpin, hrr⟩ => ?_
  subst he
  obtain ⟨ρ3, Im3, hw, hρ3⟩ := h.lent (pin := inI [X]) H hx hi hI1 hI2 hρ hpin (fun id q hid => by
    have := JbQ hid
    simp only [L0p, Prod.mk.injEq] at this; obtain ⟨rfl, rfl⟩ := this
    exact ⟨(hin _).2 rfl, hnl2⟩) (fun id _ hq' => hq') hdd hrr (L0u rfl) (dst := dst) (by rw [<- H.N]; exact hdst)
  -- the slice's value
  have htC : t < C.N := by rw [<- H.N]; exact htN
  obtain ⟨y0, hy0⟩ : ∃ y0, a.tmps[t]? = some y0 := ⟨_, L0g (by rw [h.size]; exact htC)⟩
  have hr0 := h.env t y0 hy0; rw [hE] at hr0
  have hy : ∃ b cap, y0 = .slice (some ⟨b, 0, none⟩) R.length cap /\ ρ X = some b /\ R.length <= cap := by
    generalize R.length = m at hr0 hn; generalize hav : AV.own X 1 0 m = av at hr0
    cases hr0 with
    | im _ _ hh => subst hav; cases hh
    | ownNil => cases hav; omega
    | own id sz n b cap cur e' hr hn' => cases hav; exact ⟨b, cap, rfl, hr, hn'⟩
    | ownAt id sz i n b cap a' hi' => cases hav; omega
    | _ => cases hav
  obtain ⟨b, cap, rfl, hb, hcap⟩ := hy
  have hqX : inI [X] X = true := (hin X).2 rfl
  have hb' : ρ' X = some b := by rw [hpin X hqX, JaA ρ (by simp [notI, hqX])]; exact hb
  have hb3 : ρ3 X = some b := by rw [hρ3 X hXd, if_pos hqX]; exact hb'
  have hf := hw.freeze H (inI [X]) (fun id hid => by
    cases hh : inI [X] id with
    | false => rfl
    | true => obtain rfl := (hin id).1 hh; rw [hid] at hXp; cases hXp) (fun id hid => by
    cases hh : inI [X] id with
    | false => rfl
    | true => obtain rfl := (hin id).1 hh; rw [hid] at hXo; cases hXo)
  have hN : ∀ (E : Env) v, upd E t v C.N = E C.N := fun E v => by unfold upd; rw [if_neg (by omega)]
  refine hKc _ _ _ _ hK ⟨_, _, M, ⟨hf.inv, fun t' y' hy' => ?_, hf.size, hf.ext, hf.rng, hf.im, by rw [hN]; exact hf.gh, by rw [hN]; exact hf.g, hf.js, hf.ms, hf.rd, hf.nodup, hf.df, hf.bk, hf.pin, hf.j0⟩⟩
  unfold upd
  split
  . rename_i ht'; subst ht'
    have hyy : y' = .slice (some ⟨b, 0, none⟩) R.length cap := by
      cases dst with
      | none => simp [Act.put] at hy'; rw [hy0] at hy'; exact (Option.some.inj hy').symm
      | some d =>
        have hdt : d ≠ t' := fun e => by subst e; simp at htd
        simp only [Act.put] at hy'; rw [L14 hdt] at hy'
        rw [hy0] at hy'; exact (Option.some.inj hy').symm
    subst hyy
    obtain ⟨cur, ⟨fr, hc1, _⟩, hc2, hc3, hc4⟩ := hi.blk X ⟨e, 1, R.map fun x => .v (.string x)⟩ b (by simp [stO]) hb' L1I
    have hlen : R.length = (R.map fun x => (.v (.string x) : AV)).length := by simp
    have hcell : ∀ i, i < R.length -> cur[i]? = some (.string (R[i]?.getD ⟨#[]⟩)) := fun i hi' => by
      obtain ⟨x, g1, g2, g3⟩ := hc4 i (.v (.string R[i])) 0 (.v (.string R[i])) (by simp [hi']) rfl
      have := g3.v_inv
      subst this
      simpa [hi'] using g1
    rw [hlen]
    refine .im _ _ (.sl 1 _ b 0 cap (fun i _ => .string (R[i]?.getD ⟨#[]⟩)) ?_ (by simpa using hcap) (fun e' he' => ?_) (fun i j hi' hj => ?_) (fun i e' j c he' hc' => ?_))
    . exact .inr ⟨X, by rw [JaA ρ3 (by simp [notI, hqX])]; exact hb3⟩
    . obtain ⟨x, _, rfl⟩ := L08.1 he'; rfl
    . obtain rfl : j = 0 := by omega
      have hi' : i < R.length := by simpa using hi'
      exact ⟨by simp [World.cell?, hc1, hcell i hi'], rfl⟩
    . rw [L03] at he'
      cases hh : R[i]? with
      | none => simp [hh] at he'
      | some x =>
        simp [hh] at he'; subst he'
        cases j with
        | zero => simp at hc'; subst hc'; simp; exact .v _
        | succ j => simp at hc'
  . exact hf.env t' y' hy'
section
variable {P : Program} {S : Sp} {C : Fx} {E E' : Env} {σ σ' : Jac} {a : Act} {w : World} {ρ : Nat -> Option Nat} {Im : Nat -> Prop} {M : Str} {ops : Array Oper}
def Je9 (P : Program) (o : Oper) : Bool := o.guard.isNone && cls P o.op o.type == 0 && match o.op with
 | .extract _ _ => true
 | .move _ => true
 | .assign _ => true
 | _ => false
def stoO (o : Oper) : Bool := o.guard.isNone && o.dst.isNone && match o.op with
 | .store _ _ _ => true
 | _ => false
def JcX (P : Program) (ops : Array Oper) : Bool :=
 (List.range ops.size).all fun i => match ops[i]? with
  | none => false
  | some b => b.after.all (fun e => !Region.binds .any e || decide (e.on < i)) && (match b.guard with | some (g, _) => decide (g < i) | none => true) &&
   ((List.range ops.size).all fun j => decide (j <= i) || match ops[j]? with
    | none => false
    | some c => (waits ops ops.size j i || (b.apart ops c && (decide (cls P b.op b.type <= 2) && decide (cls P c.op c.type <= 2) || Je9 P b && stoO c || stoO b && Je9 P c))) &&
     (!isNm P b || !isNm P c || (b.dst.getD 99999 != c.dst.getD 99999)))
theorem Jiq {o : Oper} (h : Je9 P o = true) : cls P o.op o.type = 0 := by
 simp only [Je9, L00, beq_iff_eq] at h; exact h.1.2
theorem JmU {o : Oper} (h : Je9 P o = true) : o.guard = none := by
 simp only [Je9, L00, Option.isNone_iff_eq_none] at h; exact h.1.1
theorem JfY {o : Oper} (h : Je9 S.P o = true) {v : AV} {b : List (Nat × Blk)} : gval S ops o E σ v b ↔ JaE S.P o.op E σ v /\ b = [] := by
 unfold gval val; rw [JmU h, Jiq h]; exact Iff.rfl
theorem Jjs {o : Oper} (h : Je9 P o = true) {v : AV} (f : JaE P o.op E σ v) : JaE P o.op E σ' v := by
 simp only [Je9, L00] at h; obtain ⟨d, op, i, g, b, c⟩ := o
 simp only at *
 cases op <;> first | (exact f) | (simp at h)
def stoR (P : Program) (op : Op) (E : Env) (σ : Jac) (id : Nat) (k' : Blk) : Prop := Jd9 P op E σ fun a b => a = id /\ b = k'
theorem JuF {op : Op} {K : Nat -> Blk -> Prop} : Jd9 P op E σ K ↔ ∃ id k', stoR P op E σ id k' /\ K id k' := by
 unfold stoR Jd9
 constructor
 . intro h
   split at h
   . split at h
     . rename_i id s i j q; obtain ⟨k, b, c, e, d, f, g, l, m, o⟩ := h
       refine ⟨_, _, ?_, o⟩
       simp only [q]
       exact ⟨k, b, c, e, d, f, g, l, m, trivial, rfl⟩
     . exact h.elim
   . exact h.elim
 . rintro ⟨id, k', h, p⟩
   split at h
   . split at h
     . obtain ⟨k, b, c, e, d, f, g, l, m, rfl, rfl⟩ := h
       exact ⟨k, b, c, e, d, f, g, l, m, p⟩
     . exact h.elim
   . exact h.elim
theorem Jh3 {op : Op} (b : ∀ x ∈ op.operands, ev E x = ev E' x) {id : Nat} {k' : Blk} (h : stoR P op E σ id k') : stoR P op E' σ id k' := by
 unfold stoR Jd9 at *
 split at h
 . rename_i t x y
   simp only
   rw [<- b x (by simp [Op.operands]), <- b y (by simp [Op.operands])]
   exact h
 . exact h.elim
theorem Juz {e v : AV} {j d : Nat} (h : DN (setC e j v) d) : DN e d \/ DN v d := by
  unfold setC at h
  split at h
  . exact .inr h
  . cases h with
    | agg _ c _ hc hn =>
      rcases L0w.1 hc with hc | hc
      . rcases L0w.1 hc with hc | hc
        . exact .inl (hn.cells (L0G hc))
        . exact .inr (hn.cells hc)
      . exact .inl (hn.cells (L18 hc))
theorem JuE {op : Op} {N nm : Nat} (hlow : ∀ x ∈ op.operands, Operand.low N x = true) (hdc : DC N nm E σ) {id : Nat} {k' : Blk} (h : stoR P op E σ id k') : DC N nm E (updS σ id k') := by
  intro d hd
  obtain ⟨⟨c1, c2, c3⟩, c4, c5⟩ := hdc d hd
  have hval : ∀ e ∈ k'.es, ¬ DN e d := by
    unfold stoR Jd9 at h
    split at h
    . rename_i t x y
      split at h
      . obtain ⟨k, h1, h2, e, h3, h4, h5, h6, h7, rfl, rfl⟩ := h
        intro q hq hn
        rcases L23 hq with hq | rfl
        . exact c5 _ _ h1 q hq hn
        . rcases Juz hn with hn | hn
          . exact c5 _ _ h1 e (L01 h3) hn
          . exact JtA (hlow y (by simp [Op.operands])) c4 hn
      . exact h.elim
    . exact h.elim
  have hid : id ≠ d := by
    unfold stoR Jd9 at h
    split at h
    . split at h
      . obtain ⟨k, h1, h2, e, h3, h4, h5, h6, h7, rfl, rfl⟩ := h
        intro e; rw [e, c1] at h1; cases h1
      . exact h.elim
    . exact h.elim
  refine ⟨⟨?_, c2, fun q k hk e he hn => ?_⟩, c4, fun q k hk e he => ?_⟩
  . rw [Jax _ _ _ _ (Ne.symm hid)]; exact c1
  . by_cases hq : q = id
    . subst hq; rw [Jkf] at hk; cases hk; exact hval e he (DN.of hn)
    . rw [Jax _ _ _ _ hq] at hk; exact c3 q k hk e he hn
  . by_cases hq : q = id
    . subst hq; rw [Jkf] at hk; cases hk; exact hval e he
    . rw [Jax _ _ _ _ hq] at hk; exact c5 q k hk e he
theorem Jba.sto {o : Oper} (c : Oper.fits S.P S.N o = true) {l : List Nat} (h : Jba S ops l E σ) {id : Nat} {k' : Blk} (g : stoR S.P o.op E σ id k') : Jba S ops l E (updS σ id k') := fun k d j f b =>
 JuE (fun x i => Jbq (JcY c).2.1 i) (h k d j f b) g
theorem JiT {f : Bool} {o : Oper} {K d : Env -> Jac -> Prop} (h : stoO o = true) : gop S false f ops o K d E σ ↔ ∃ id k', stoR S.P o.op E σ id k' /\ d E (updS σ id k') := by
 simp only [stoO, L00, Option.isNone_iff_eq_none] at h; obtain ⟨g, op, j, i, b, c⟩ := o
 simp only at *
 obtain ⟨⟨rfl, rfl⟩, h⟩ := h
 cases op with
 | store t x y =>
  rw [<- JuF]; exact Iff.rfl
 | _ => simp at h
theorem JjH (p : Nat -> Bool) : ∀ (n : Nat) (a : AV), SizeOf.sizeOf a < n -> AV.namesB p a = true -> ∃ id, Names a id /\ p id = true := by
 intro n
 induction n with
 | zero => intro a h; omega
 | succ n y =>
  intro a u j
  have k : ∀ b : List AV, (∀ c ∈ b, SizeOf.sizeOf c < n) -> AV.namesL p b = true -> ∃ c ∈ b, ∃ id, Names c id /\ p id = true := fun b t w => by
   obtain ⟨c, d, q⟩ := (AV.namesL_iff p b).1 w
   exact ⟨c, d, y c (t c d) q⟩
  cases a with
  | own i s o m => exact ⟨i, .own .., j⟩
  | ptr i s o m => exact ⟨i, .ptr .., j⟩
  | mref i => exact ⟨i, .mref .., j⟩
  | agg b =>
   obtain ⟨c, d, id, f, l⟩ := k b (fun c d => by have := L1i d; simp at u; omega) j
   exact ⟨id, .agg b c id d f, l⟩
  | tup b =>
   obtain ⟨c, d, id, f, l⟩ := k b (fun c d => by have := L1i d; simp at u; omega) j
   exact ⟨id, .tup b c id d f, l⟩
  | clo g b =>
   obtain ⟨c, d, id, f, l⟩ := k b (fun c d => by have := L1i d; simp at u; omega) j
   exact ⟨id, .clo g b c id d f, l⟩
  | _ => simp [AV.namesB] at j
theorem Jt1 {p : Nat -> Bool} (h : ∀ d, p d = true -> Jbh d E σ) : JaR p E = E /\ Jak p σ = σ := by
 refine ⟨funext fun t => ?_, funext fun t => ?_⟩
 . refine Jcj ?_
   cases i : AV.namesB p (E t) with
   | false => rfl
   | true =>
    obtain ⟨id, b, f⟩ := JjH p _ _ (L2a _) i
    exact absurd b ((h id f).2.1 t)
 . simp only [Jak]
   split
   . rename_i l; exact ((h t l).1).symm
   . cases hk : σ t with
     | none => rfl
     | some k =>
      simp only [L0N, Blk.kill]; rw [if_neg]
      intro i
      obtain ⟨c, j, g⟩ := (AV.namesL_iff p k.es).1 i
      obtain ⟨id, b, f⟩ := JjH p _ _ (L2a _) g
      exact (h id f).2.2 t k hk c j b
theorem JeZ {l : List Nat} {K : Env -> Jac -> Prop} (h : Jba S ops l E σ) : struck S true (Jej ops l) K E σ = K E σ := by
 have := Jt1 (p := regP S (Jej ops l)) (E := E) (σ := σ) fun d f => by
  obtain ⟨o, i, b, e⟩ := JiM.1 f
  obtain ⟨k, g, c⟩ := L1E.1 i
  exact (h k g o c b d e).1
 simp only [struck, if_true]; rw [this.1, this.2]
theorem JcJ {P : Program} (s : JcX P ops = true) {i : Nat} {c : Oper} (hi : ops[i]? = some c) :
 (∀ e ∈ c.after, Region.binds .any e = true -> e.on < i) /\ (∀ j d, i < j -> ops[j]? = some d -> (waits ops ops.size j i = true \/ (c.apart ops d = true /\ (cls P c.op c.type <= 2 /\ cls P d.op d.type <= 2 \/ Je9 P c = true /\ stoO d = true \/ stoO c = true /\ Je9 P d = true))) /\
  (isNm P c = true -> isNm P d = true -> c.dst.getD 99999 ≠ d.dst.getD 99999)) := by
 have k : i < ops.size := (L0k.1 hi).1
 have h := L0c.1 s i (L0Q.2 k); simp only [hi, L00, Array.all_eq_true_iff_forall_mem] at h
 obtain ⟨⟨m, _⟩, o⟩ := h
 refine ⟨fun e t g => ?_, fun j d u l => ?_⟩
 . have := m e t; simpa [g] using this
 . have f : j < ops.size := (L0k.1 l).1
   have := L0c.1 o j (L0Q.2 f)
   simp only [l, L0z, decide_eq_true_eq, L00, L0U, bne_iff_ne, ne_eq] at this
   rcases this with this | ⟨p, b⟩
   . omega
   . refine ⟨p.imp_right fun h => ⟨h.1, by rcases h.2 with (h | h) | h; exact .inl h; exact .inr (.inl h); exact .inr (.inr h)⟩, fun q g => ?_⟩
     rcases b with (b | b) | b
     . rw [q] at b; cases b
     . rw [g] at b; cases b
     . exact b
theorem Jkh {P : Program} (c : JcX P ops = true) : ∀ (n j i : Nat), waits ops n j i = true -> i < j
 | 0, _, _, h => by simp [waits] at h
 | n + 1, j, i, h => by
  simp only [waits] at h
  split at h
  . rename_i o f
    obtain ⟨e, d, b⟩ := Jkm h
    simp only [L00, L0z, beq_iff_eq] at b; have g := (JcJ c f).1 e d b.1
    rcases b.2 with b | b
    . omega
    . have := Jkh c n e.on i b; omega
  . cases h
theorem Jmz {P : Program} (c : JcX P ops = true) {i j : Nat} (d : j < i) (hi : i < ops.size) (h : waits ops ops.size i j = false) : bar ops i = false /\ bar ops j = false := by
 have b : waits ops ops.size j i = false := by
  cases hw : waits ops ops.size j i with
  | false => rfl
  | true => have := Jkh c _ _ _ hw; omega
 constructor
 . cases hb : bar ops i with
   | false => rfl
   | true =>
    have := L0c.1 hb j (L0Q.2 (by omega))
    simp [h, b] at this; omega
 . cases hb : bar ops j with
   | false => rfl
   | true =>
    have := L0c.1 hb i (L0Q.2 hi)
    simp [h, b] at this; omega
theorem JsK (g : JcX S.P ops = true) {i j : Nat} {b c : Oper} (hi : ops[i]? = some b) (k : ops[j]? = some c) (l : i ≠ j) (d : isNm S.P b = true) (f : isNm S.P c = true) : nmO S b ≠ nmO S c := by
 unfold nmO
 rcases Nat.lt_or_ge i j with h | h
 . exact fun e => ((JcJ g hi).2 j c h k).2 d f (L26 e)
 . exact fun e => ((JcJ g k).2 i b (by omega) hi).2 f d (L26 e.symm)
theorem Jba.step2 (b : ∀ (i : Nat) (o : Oper), ops[i]? = some o -> Oper.fits S.P S.N o = true) (p : JcX S.P ops = true) {i : Nat} {d : Oper} (hi : ops[i]? = some d) {l : List Nat} (q : i ∉ l) (h : Jba S ops l E σ) {v : AV} {f : List (Nat × Blk)}
 (s : gval S ops d E σ v f) : Jba S ops l (updO E d.dst v) (addS σ f) := fun k g o j c =>
 (h k g o j c).step (b i d hi) s fun m => JsK p j hi (fun e => q (e ▸ g)) c m
theorem Jib (hall : ∀ (i : Nat) (o : Oper), ops[i]? = some o -> Oper.fits S.P S.N o = true) (hd : JcX S.P ops = true) {i : Nat} {oi : Oper} (hi : ops[i]? = some oi) {post : List Nat} {K : Env -> Jac -> Prop} :
    ∀ (pre : List Nat), (∀ j ∈ pre, j < i /\ waits ops ops.size i j = false) -> (pre ++ i :: post).Nodup -> ∀ (E : Env) (σ : Jac), Jba S ops (pre ++ i :: post) E σ -> Jbt S ops (pre ++ i :: post) K E σ -> Jbt S ops (i :: (pre ++ post)) K E σ
  | [], _, _, E, σ, _, h => h
  | j :: pre, hp, hnd, E, σ, hdc, h => by
    obtain ⟨hji, hw⟩ := hp j (by simp)
    have hilt : i < ops.size := (L0k.1 hi).1
    obtain ⟨oj, hj⟩ : ∃ oj, ops[j]? = some oj := ⟨_, L0g (by omega)⟩
    obtain ⟨hbi, hbj⟩ := Jmz hd hji hilt hw
    have hcom := (((JcJ hd hj).2 i oi hji hi).1).resolve_left (by rw [hw]; simp)
    obtain ⟨hap, hcom⟩ := hcom
    obtain ⟨a1, a2, a3⟩ := Oper.apart_spec hap
    rw [L0y, L1q] at hnd
    have hin : ∀ k, k ∈ pre ++ post -> k ∈ pre ++ i :: post := fun k hk => by rcases L0w.1 hk with h | h <;> simp [h]
    rcases hcom with ⟨hcj, hci⟩ | ⟨hfj, hsi⟩ | ⟨hsj, hfi⟩
    rotate_left
    . -- what is free comes later
      have hcj := Jiq hfj; simp only [L0y, Jbt, hj, hbj] at h
      obtain ⟨vj, blj, hvj, h⟩ := (Jb6 (by omega)).1 h
      obtain ⟨hpj, rfl⟩ := (JfY hfj).1 hvj
      have hdc1 : Jba S ops (pre ++ i :: post) (updO E oj.dst vj) σ := Jba.step2 hall hd hj hnd.1 (fun k hk => hdc k (by simp only [L0y, L0i]; exact .inr hk)) hvj
      have h := Jib hall hd hi pre (fun k hk => hp k (by simp [hk])) hnd.2 _ _ hdc1 h
      simp only [Jbt, hi, hbi] at h
      obtain ⟨id, k', hs, h⟩ := (JiT hsi).1 h
      have hs0 : stoR S.P oi.op E σ id k' := Jh3 (fun x hx => Joq a1 hx) hs
      rw [JeZ (Jba.sto (hall i oi hi) (fun k hk => hdc1 k (hin k hk) : Jba S ops (pre ++ post) (updO E oj.dst vj) σ) hs)] at h
      simp only [Jbt, hi, hbi]
      refine (JiT hsi).2 ⟨id, k', hs0, ?_⟩
      rw [L0y, JeZ (Jba.sto (hall i oi hi) (fun k hk => hdc k (by rcases L0i.1 hk with rfl | hk; simp; exact L1y _ (hin k hk)) : Jba S ops (j :: (pre ++ post)) E σ) hs0)]
      simp only [Jbt, hj, hbj]
      exact (Jb6 (by omega)).2 ⟨vj, [], (JfY hfj).2 ⟨Jjs hfj hpj, rfl⟩, h⟩
    . -- what is free comes earlier
      have hci := Jiq hfi; simp only [L0y, Jbt, hj, hbj] at h
      obtain ⟨id, k', hs, h⟩ := (JiT hsj).1 h
      have hdc1 : Jba S ops (pre ++ i :: post) E (updS σ id k') := Jba.sto (hall j oj hj) (fun k hk => hdc k (by simp only [L0y, L0i]; exact .inr hk)) hs
      rw [JeZ hdc1] at h
      have h := Jib hall hd hi pre (fun k hk => hp k (by simp [hk])) hnd.2 _ _ hdc1 h
      simp only [Jbt, hi, hbi] at h
      obtain ⟨vi, bli, hvi, h⟩ := (Jb6 (by omega)).1 h
      obtain ⟨hpi, rfl⟩ := (JfY hfi).1 hvi
      have hvi0 : gval S ops oi E σ vi [] := (JfY hfi).2 ⟨Jjs hfi hpi, rfl⟩
      simp only [Jbt, hi, hbi]
      refine (Jb6 (by omega)).2 ⟨vi, [], hvi0, ?_⟩
      simp only [L0y, Jbt, hj, hbj]
      have hs1 : stoR S.P oj.op (updO E oi.dst vi) σ id k' := Jh3 (fun x hx => (Joq a3 hx).symm) hs
      refine (JiT hsj).2 ⟨id, k', hs1, ?_⟩
      have hdc2 : Jba S ops (pre ++ post) (updO E oi.dst vi) σ := Jba.step2 hall hd hi (fun hk => by
        rw [L1S] at hnd; obtain ⟨_, _, h2, h3⟩ := hnd; rw [L1q] at h2
        rcases L0w.1 hk with hk | hk
        . exact h3 i hk i (by simp) rfl
        . exact h2.1 hk) (fun k hk => hdc k (L1y _ (hin k hk))) hvi0
      show struck S true (Jej ops (pre ++ post)) (Jbt S ops (pre ++ post) K) (updO E oi.dst vi) (updS σ id k')
      rw [JeZ (hdc2.sto (hall j oj hj) hs1)]; exact h
    simp only [L0y, Jbt, hj, hbj] at h
    obtain ⟨vj, blj, hvj, h⟩ := (Jb6 hcj).1 h
    have hdc1 : Jba S ops (pre ++ i :: post) (updO E oj.dst vj) (addS σ blj) := Jba.step2 hall hd hj hnd.1 (fun k hk => hdc k (by simp only [L0y, L0i]; exact .inr hk)) hvj
    have h := Jib hall hd hi pre (fun k hk => hp k (by simp [hk])) hnd.2 _ _ hdc1 h
    simp only [Jbt, hi, hbi] at h
    obtain ⟨vi, bli, hvi, h⟩ := (Jb6 hci).1 h
    have ownj : ∀ p ∈ blj, p.1 / 16 = nmO S oj /\ isNm S.P oj = true := by
      rcases JcM hvj with hv | ⟨_, rfl⟩
      . exact JiZ hv
      . intro p hp; simp at hp
    have dcj : blj = [] \/ (DC S.N (nmO S oj) E σ /\ ∀ p ∈ blj, p.1 / 16 = nmO S oj) := by
      cases hb : blj with
      | nil => exact .inl rfl
      | cons p l => exact .inr ⟨hdc j (by simp) oj hj (ownj p (by rw [hb]; simp)).2, fun q hq => (ownj q (by rw [hb]; exact hq)).1⟩
    have hvi0 : gval S ops oi E σ vi bli := (JdH (hall i oi hi) a1 dcj).1 hvi
    have owni : ∀ p ∈ bli, p.1 / 16 = nmO S oi /\ isNm S.P oi = true := by
      rcases JcM hvi0 with hv | ⟨_, rfl⟩
      . exact JiZ hv
      . intro p hp; simp at hp
    have dci : bli = [] \/ (DC S.N (nmO S oi) E σ /\ ∀ p ∈ bli, p.1 / 16 = nmO S oi) := by
      cases hb : bli with
      | nil => exact .inl rfl
      | cons p l => exact .inr ⟨hdc i (by simp) oi hi (owni p (by rw [hb]; simp)).2, fun q hq => (owni q (by rw [hb]; exact hq)).1⟩
    have hvj0 : gval S ops oj (updO E oi.dst vi) (addS σ bli) vj blj := (JdH (hall j oj hj) a3 dci).2 hvj
    have e1 : updO (updO E oj.dst vj) oi.dst vi = updO (updO E oi.dst vi) oj.dst vj := Jke a2
    have e2 : addS (addS σ blj) bli = addS (addS σ bli) blj := by
      by_cases hb : isNm S.P oi = true /\ isNm S.P oj = true
      . have hne := JsK (S := S) hd hi hj (by omega) hb.1 hb.2
        exact Jgd (L := fun id => id / 16 = nmO S oj) (L' := fun _ => True) blj bli σ (fun p hp => (ownj p hp).1) fun p hp h => hne ((owni p hp).1.symm.trans h)
      . have : blj = [] \/ bli = [] := by
          cases hb1 : blj with
          | nil => exact .inl rfl
          | cons p l => cases hb2 : bli with
            | nil => exact .inr rfl
            | cons q m => exact absurd ⟨(owni q (by rw [hb2]; simp)).2, (ownj p (by rw [hb1]; simp)).2⟩ hb
        rcases this with h' | h' <;> rw [h'] <;> rfl
    rw [e1, e2] at h; simp only [Jbt, hi, hbi]
    refine (Jb6 hci).2 ⟨vi, bli, hvi0, ?_⟩
    simp only [L0y, Jbt, hj, hbj]
    exact (Jb6 hcj).2 ⟨vj, blj, hvj0, h⟩
theorem JkB (H : Holds S C) : ∀ (ops : Array Oper), ops.toList.all (Oper.fits S.P S.N) = true -> JcX S.P ops = true -> ∀ (n : Nat) (K : Env -> Jac -> Prop) (Q : Exit -> Act -> World -> Prop) (E : Env) (σ : Jac) (a : Act) (w : World),
    (∀ E σ a w, K E σ -> St C E σ a w -> Q .normal a w) -> struck S true ops.toList (Jd1 S true ops 0 ops.toList K) E σ -> St C E σ a w ->
    ∀ id, (Code.region id ops true).wpIn (FW C.rdl) n S.P Q a w := by
  intro ops hfits hd n K Q E σ a w hK hv hs id
  have hall : ∀ (i : Nat) (o : Oper), ops[i]? = some o -> Oper.fits S.P S.N o = true := fun i o ho => L0c.1 hfits o (L0s.2 (L1v ho))
  have hat : ∀ l, ∀ o ∈ Jej ops l, Oper.fits S.P S.N o = true := fun l o ho => by
    obtain ⟨i, _, hi⟩ := L1E.1 ho; exact hall i o hi
  have hfull : Jej ops (List.range' 0 ops.toList.length) = ops.toList := Jc3 ops.toList 0 fun j _ => by simp
  refine wpIn_region_any H.mo ?_
  obtain ⟨E1, σ1, hv1, hdc1, hs1⟩ := Je0 (l := List.range' 0 ops.toList.length) H (hat _) (by rw [hfull]; exact hv) (hs.drew H.G (w.drawn + 1))
  rw [Jgj ops.toList 0 K fun j _ => by simp] at hv1
  have key : ∀ (fuel : Nat) (listed : Array Bool) (E : Env) (σ : Jac) (a : Act) (w : World), listed.size = ops.size -> (rem ops listed).length <= fuel ->
      (∀ i o, ops[i]? = some o -> listed.getD i false = true -> ∀ e ∈ o.after, Region.binds .any e = true -> listed.getD e.on false = true) ->
      Jbt S ops (rem ops listed) K E σ -> Jba S ops (rem ops listed) E σ -> St C E σ a w -> wpAnyIn (FW C.rdl) n S.P .any ops Q fuel listed a w := by
    intro fuel
    induction fuel with
    | zero =>
      intro listed E σ a w hsz hle hcl hv hdc hs
      have h0 : rem ops listed = [] := L0M (by omega)
      rw [h0] at hv
      refine ⟨?_, hK _ _ _ _ hv hs⟩
      cases hr : Region.ready .any ops listed with
      | nil => rfl
      | cons i l =>
        have hi : i ∈ Region.ready .any ops listed := by rw [hr]; simp
        obtain ⟨h1, o, ho, _⟩ := mem_ready.1 hi
        have : i ∈ rem ops listed := JaM.2 ⟨(L0k.1 ho).1, h1⟩
        rw [h0] at this; simp at this
    | succ fuel ih =>
      intro listed E σ a w hsz hle hcl hv hdc hs
      have getD_same : ∀ i, i < ops.size -> listed.getD i true = listed.getD i false := fun i hi => by
        simp only [L0B]; rw [L0g (by omega)]; rfl
      refine ⟨fun h0 => ?_, fun i hi => ?_⟩
      . -- nothing is ready: nothing is left
        have hr : rem ops listed = [] := by
          cases hr : rem ops listed with
          | nil => rfl
          | cons i l =>
            exfalso
            have hm : i ∈ rem ops listed := by rw [hr]; simp
            obtain ⟨hlt, hun⟩ := JaM.1 hm
            have : i ∈ Region.ready .any ops listed := mem_ready.2 ⟨hun, _, L0g hlt, fun e he hb => by
              have hei := (JcJ hd (L0g hlt)).1 e he hb
              cases hl : listed.getD e.on false with
              | true => rfl
              | false =>
                have hme : e.on ∈ rem ops listed := JaM.2 ⟨by omega, by rw [getD_same _ (by omega)]; exact hl⟩
                have hsort := JbZ (ops := ops) listed
                rw [hr] at hme hsort
                rcases L0i.1 hme with h | h
                . omega
                . have := (L1p.1 hsort).1 _ h; omega⟩
            rw [h0] at this; simp at this
        rw [hr] at hv
        exact hK _ _ _ _ hv hs
      . obtain ⟨hun, o, ho, hedges⟩ := mem_ready.1 hi
        have hlt : i < ops.size := (L0k.1 ho).1
        have hm : i ∈ rem ops listed := JaM.2 ⟨hlt, hun⟩
        obtain ⟨pre, post, hsplit⟩ := L1T hm
        have hsort := JbZ (ops := ops) listed
        have hnd := Jg1 (ops := ops) listed
        have hset := Jg2 hsz hsplit; rw [hsplit] at hv hdc hsort hnd
        have hpre : ∀ j ∈ pre, j < i /\ waits ops ops.size i j = false := fun j hj => by
          refine ⟨(List.pairwise_append.1 hsort).2.2 j hj i (by simp), ?_⟩
          cases hw : waits ops ops.size i j with
          | false => rfl
          | true =>
            have h1 := Jdz hcl ops.size i j o ho hedges hw
            have h2 := JaM.1 (show j ∈ rem ops listed by rw [hsplit]; simp [hj])
            rw [getD_same j h2.1, h1] at h2; simp at h2
        have hv := Jib hall hd ho pre hpre hnd E σ hdc hv
        have hnd' : i ∉ pre ++ post := by
          rw [L1S] at hnd; obtain ⟨h1, h2, h3⟩ := hnd; rw [L1q] at h2
          intro h; rcases L0w.1 h with h | h
          . exact h3 i h i (by simp) rfl
          . exact h2.1 h
        have hdc' : Jba S ops (pre ++ post) E σ := fun k hk => hdc k (by rcases L0w.1 hk with h | h <;> simp [h])
        simp only [Jbt, ho] at hv
        have next : ∀ E' σ' a' w', Jbt S ops (pre ++ post) K E' σ' -> Jba S ops (pre ++ post) E' σ' -> St C E' σ' a' w' -> wpAnyIn (FW C.rdl) n S.P .any ops Q fuel (listed.setIfInBounds i true) a' w' := fun E' σ' a' w' h1 h2 h3 => by
          refine ih (listed.setIfInBounds i true) E' σ' a' w' (by simpa using hsz) ?_ ?_ (by rw [hset]; exact h1) (by rw [hset]; exact h2) h3
          . rw [hset]; rw [hsplit] at hle; simp at hle ⊢; omega
          . intro k ok hk hl e he hb
            have mono : ∀ q, listed.getD q false = true -> (listed.setIfInBounds i true).getD q false = true := fun q hq => by
              simp only [L0B] at hq ⊢
              by_cases hqi : q = i
              . subst hqi; simp [hsz, hlt]
              . rw [L14 (Ne.symm hqi)]; exact hq
            refine mono _ ?_
            by_cases hki : k = i
            . subst hki; rw [ho] at hk; cases hk; exact hedges e he hb
            . refine hcl k ok hk ?_ e he hb
              simp only [L0B] at hl ⊢
              rw [L14 (Ne.symm hki)] at hl; exact hl
        obtain ⟨ρ, Im, M, hw⟩ := hs
        have clean : cls S.P o.op o.type = 1 \/ cls S.P o.op o.type = 2 -> ∀ k, k < 16 -> Jbh (16 * (S.b + o.dst.getD 99999) + k) E σ := fun hc k hk =>
          (hdc i (by simp) o ho (by rcases hc with h | h <;> simp [isNm, h]) (16 * (S.b + o.dst.getD 99999) + k) (by unfold nmO; omega)).1
        refine Jcq ho (Jdm (Kc := wpAnyIn (FW C.rdl) n S.P .any ops Q fuel (listed.setIfInBounds i true)) H hw hall (hall i o ho) false (bar ops i) (fun _ => clean)
          (Jhx (X := Jba S ops (pre ++ post)) (fun v bl hv => Jba.step2 hall hd ho hnd' hdc' hv) hv) (fun E' σ' a' w' h1 h2 => next E' σ' a' w' h1.1 h1.2 h2) fun E' σ' a' w' h1 h2 => ?_)
        obtain ⟨E'', σ'', h3, h4, h5⟩ := Je0 (l := pre ++ post) H (hat _) h1 h2
        exact next E'' σ'' a' w' h3 h4 h5
  have hrem0 : rem ops (Array.replicate ops.size false) = List.range' 0 ops.toList.length := by
    unfold rem; rw [<- L1B, L0x, L27]
    intro i hi; simp [L0Q.1 hi]
  exact key ops.size _ E1 σ1 a _ (by simp) (by unfold rem; exact L0r (L1U _ _) (by simp)) (fun i o ho h => by
      simp only [L0B, L1G] at h; split at h <;> simp at h) (by rw [hrem0]; exact hv1) (by rw [hrem0]; exact hdc1) hs1
end
def Jma (P : Program) (ops : Array Oper) (i : Nat) (b : Oper) (j : Nat) (c : Oper) : Bool :=
 ((b.apart ops c && (Nat.ble (cls P b.op b.type) 2 && Nat.ble (cls P c.op c.type) 2 || Je9 P b && stoO c || stoO b && Je9 P c)) || Jh4 ops ops.size j i) && (!isNm P b || !isNm P c || (b.dst.getD 99999 != c.dst.getD 99999))
def JrK (P : Program) (ops : Array Oper) (i : Nat) (b : Oper) : Nat -> List Oper -> Bool
 | _, [] => true
 | j, c :: l => Jma P ops i b j c && JrK P ops i b (j + 1) l
def Jmw (P : Program) (ops : Array Oper) : Nat -> List Oper -> Bool
 | _, [] => true
 | i, b :: l => Jnl i b && JrK P ops i b (i + 1) l && Jmw P ops (i + 1) l
section
variable {P : Program} {ops : Array Oper}
theorem Jmf {i : Nat} {c : Oper} : ∀ (l : List Oper) (j : Nat), JrK P ops i c j l = true -> ∀ (k : Nat) (o : Oper), l[k]? = some o -> Jma P ops i c (j + k) o = true
 | [], _, _, k, o, h => by simp at h
 | d :: l, j, h, k, o, b => by
  simp only [JrK, L00] at h
  cases k with
  | zero => simp at b; subst b; exact h.1
  | succ k =>
   have := Jmf l (j + 1) h.2 k o (by simpa using b)
   rw [show j + (k + 1) = j + 1 + k from by omega]; exact this
theorem Jlv : ∀ (l : List Oper) (i : Nat), Jmw P ops i l = true -> ∀ (a : Nat) (d : Oper), l[a]? = some d -> Jnl (i + a) d = true /\ ∀ (b : Nat) (f : Oper), a < b -> l[b]? = some f -> Jma P ops (i + a) d (i + b) f = true
 | [], _, _, a, d, h => by simp at h
 | o :: l, i, h, a, d, g => by
  simp only [Jmw, L00] at h
  cases a with
  | zero =>
   simp at g; subst g
   refine ⟨h.1.1, fun b f m c => ?_⟩
   cases b with
   | zero => omega
   | succ b =>
    have := Jmf l (i + 1) h.1.2 b f (by simpa using c)
    rw [show i + (b + 1) = i + 1 + b from by omega]; exact this
  | succ a =>
   obtain ⟨j, k⟩ := Jlv l (i + 1) h.2 a d (by simpa using g)
   rw [show i + (a + 1) = i + 1 + a from by omega]
   refine ⟨j, fun b f m c => ?_⟩
   cases b with
   | zero => omega
   | succ b =>
    have := k b f (by omega) (by simpa using c)
    rw [show i + (b + 1) = i + 1 + b from by omega]; exact this
theorem JmP (h : Jmw P ops 0 ops.toList = true) : JcX P ops = true := by
 unfold JcX
 refine L0c.2 fun i g => ?_
 have g := L0Q.1 g; rw [L0g g]
 have m : ops.toList[i]? = some ops[i] := by rw [L0L, L0g g]
 obtain ⟨f, p⟩ := Jlv ops.toList 0 h i ops[i] m
 rw [L0n] at f p; simp only [Jnl, L00] at f
 have d : ∀ a b, Nat.blt a b = true ↔ a < b := fun a b => by simp [Nat.blt]; omega
 simp only [L00]
 refine ⟨⟨?_, ?_⟩, L0c.2 fun j k => ?_⟩
 . have := f.1
   rw [<- Array.all_toList] at this ⊢
   refine L0c.2 fun e q => ?_
   have := L0c.1 this e q
   simp only [L0z, d, decide_eq_true_eq] at this ⊢; exact this
 . have := f.2
   split at this
   . rename_i l; rw [l]; simp only [d] at this; simpa using this
   . rename_i l; rw [l]
 . have k := L0Q.1 k
   by_cases hji : j <= i
   . simp [hji]
   . rw [L0g k]
     have o : ops.toList[j]? = some ops[j] := by rw [L0L, L0g k]
     have := p j ops[j] (by omega) o
     rw [L0n] at this; simp only [Jma, L00] at this; simp only [L0z, L00]
     refine .inr ⟨?_, by simpa using this.2⟩
     rcases this.1 with c
     simp only [L0z, L00] at c
     rcases c with c | c
     . refine .inr ⟨c.1, ?_⟩
       rcases c.2 with (c | c) | c
       . exact .inl (.inl ⟨by simpa using c.1, by simpa using c.2⟩)
       . exact .inl (.inr c)
       . exact .inr c
     . exact .inl (Jhf _ _ _ c)
end
theorem Jco {S : Sp} (g : JcF S) {id : Nat} {ops : Array Oper} {Q : Exit -> Env -> Jac -> Prop} {E : Env} {σ : Jac} (h : regC S true ops (Q .normal) E σ)
 (b : (ops.toList.all (Oper.fits S.P S.N) && Jmw S.P ops 0 ops.toList) = true := by kernel_rfl) : semC S (.region id ops true) Q E σ := by
 intro C H n R f a w ⟨m, l, M, k⟩
 simp only [L00] at b; have i := JmP b.2; unfold regC at h; rw [Jcd] at h
 have j := Jb1 (fun _ _ c => Jfo g _ 0 (fun _ _ h => h) c) _ _ h
 have d : St C E σ a w := ⟨_, _, _, k⟩
 exact JkB H ops b.1 i n (Q .normal) R _ _ a w (fun E σ a w c d => f .normal E σ a w c d) j d id
theorem JkG {S : Sp} [hY : Plain S] {id : Nat} {ops : Array Oper} {Q : Exit -> Env -> Jac -> Prop} {E : Env} {σ : Jac} (F : List Nat) (h : regC S true ops (Q .normal) (frE (inI F) σ E) (frS (inI F) σ))
 (f : ∀ id, S.pin id = true -> inI F id = false := by intro id b; cases b) (d : ∀ id, S.old id = true -> inI F id = false := by intro id b; cases b)
 (c : (ops.toList.all (Oper.fits S.P S.N) && Jmw S.P ops 0 ops.toList) = true := by kernel_rfl) : semC S (.region id ops true) Q E σ :=
 JmV F (Jco hY.mono h c) f d
end Go.Vai
set_option maxRecDepth 100000
namespace Go.Proofs.YtnpbhgeffapojaaGreatDoor
open Go.Vai Go Go.Proofs
open Go.Proofs.Tryz
theorem nb {n m : Nat} (h : n.ble m = true) : n <= m := L0u h
abbrev TyF (t : Nat) (d : Bool) (f : Nat) (g : Option TypeId) (h : Option (Nat × TypeId)) (i : Option (List (Nat × TypeId))) (j : Option IntKind) (k : Bool) (l : Option Bool) (m : Nat) (o : Option Nat) (b : Option (List Nat)) (c : Bool) : Prop := tund prog t = d /\ tsz prog t = f /\ tel prog t = g /\ tarr prog t = h /\ tfld prog t = i /\ tint prog t = j /\ tstr prog t = k /\ tagg prog t = l /\ tby prog t = m /\ tkind prog t = o /\ teq prog t = b /\ tpt prog t = c
theorem tyf {t : Nat} {d : Bool} {f : Nat} {g : Option TypeId} {i : Option (Nat × TypeId)} {j : Option (List (Nat × TypeId))} {k : Option IntKind} {l : Bool} {m : Option Bool} {o : Nat} {p : Option Nat} {b : Option (List Nat)} {c : Bool} (h : (tund prog t, tsz prog t, tel prog t, tarr prog t, tfld prog t, tint prog t, tstr prog t, tagg prog t, tby prog t, tkind prog t, teq prog t, tpt prog t) = (d, f, g, i, j, k, l, m, o, p, b, c)) : TyF t d f g i j k l m o p b c := by simpa only [TyF, Prod.mk.injEq] using h
abbrev TyA (t a k : Nat) : Prop := TyF t true a none none none none false (some false) k none none false
abbrev TyB (t a e k : Nat) : Prop := TyF t true a (some e) none none none false (some false) k none none false
abbrev zs : AV := AV.v (Value.slice none 0 0)
abbrev zi : AV := AV.v (Value.int IntKind.i64 (0))
abbrev TzA (t : Nat) (a : AV) : Prop := tzA prog t = (some a : Option AV)
theorem tza {t : Nat} {a : AV} (h : tzA prog t = some a) : TzA t a := h
@[go_sem] theorem tAll0 : TyA 0 1 0 /\ TzA 0 (AV.tup []) /\ TyF 2 true 1 none none none (some .i64) false (some false) 8 (some 0) none false /\ TzA 2 (zi) /\ TyF 3 true 1 none none none (some .i64) false (some false) 8 (some 0) none false /\ TzA 3 (zi) /\ TyF 4 true 1 none none none none false (some false) 1 (some 1) none false /\ TzA 4 (AV.v (Value.bool false)) /\ TyF 5 true 1 none none none (some .u8) false (some false) 1 (some 0) none false /\ TzA 5 (AV.v (Value.int IntKind.u8 (0))) /\ TyF 9 true 1 none none none none true (some false) 16 (some 2) none false /\ TzA 9 (AV.v (Value.string ByteArray.empty)) /\ TyA 20 1 16 /\ TzA 20 (AV.v Value.nilIface) /\ TyB 22 1 104 24 /\ TzA 22 (zs) /\ TyB 23 1 29 24 /\ TzA 23 (zs) /\ TyB 24 1 35 24 /\ TzA 24 (zs) /\ TyB 25 1 3 24 /\ TzA 25 (zs) /\ TyB 26 1 157 24 /\ TzA 26 (zs) /\ TyF 28 true 7 none none (some [(0, 22), (1, 23), (2, 24), (3, 25), (4, 26), (5, 25), (6, 25)]) none false (some true) 168 none none false /\ TzA 28 (AV.agg [zs, zs, zs, zs, zs, zs, zs]) /\ TyF 29 true 3 none (some (3, 3)) none none false (some true) 24 none none false /\ TzA 29 (AV.agg [zi, zi, zi]) /\ TyF 31 true 2 none none (some [(0, 3), (1, 3)]) none false (some true) 16 none (some [0, 0]) false /\ TzA 31 (AV.agg [zi, zi]) := by repeat (first | refine ⟨tyf (by kernel_rfl), ?_⟩ | refine ⟨tza (by kernel_rfl), ?_⟩ | exact tyf (by kernel_rfl) | exact tza (by kernel_rfl))
@[go_sem] theorem tAll1 : TyF 33 true 6 none none (some [(0, 3), (1, 3), (2, 31), (4, 31)]) none false (some true) 48 none (some [0, 0, 0, 0, 0, 0]) false /\ TzA 33 (AV.agg [zi, zi, zi, zi, zi, zi]) /\ TyF 35 true 4 none none (some [(0, 3), (1, 3), (2, 25), (3, 23)]) none false (some true) 64 none none false /\ TzA 35 (AV.agg [zi, zi, zs, zs]) /\ TyF 37 true 2 none none (some [(0, 3), (1, 3)]) none false (some true) 16 none (some [0, 0]) false /\ TzA 37 (AV.agg [zi, zi]) /\ TyF 39 true 4 none none (some [(0, 37), (2, 37)]) none false (some true) 32 none (some [0, 0, 0, 0]) false /\ TzA 39 (AV.agg [zi, zi, zi, zi]) /\ TyB 41 1 88 24 /\ TzA 41 (zs) /\ TyB 42 1 33 24 /\ TzA 42 (zs) /\ TyB 43 1 58 24 /\ TzA 43 (zs) /\ TyB 44 1 96 24 /\ TzA 44 (zs) /\ TyF 46 true 4 none none (some [(0, 3), (1, 3), (2, 9), (3, 9)]) none false (some true) 48 none (some [0, 0, 2, 2]) false /\ TzA 46 (AV.agg [zi, zi, AV.v (Value.string ByteArray.empty), AV.v (Value.string ByteArray.empty)]) /\ TyB 47 1 134 24 /\ TzA 47 (zs) /\ TyF 49 true 5 none none (some [(0, 46), (4, 47)]) none false (some true) 72 none none false /\ TzA 49 (AV.agg [zi, zi, AV.v (Value.string ByteArray.empty), AV.v (Value.string ByteArray.empty), zs]) /\ TyB 50 1 9 24 /\ TzA 50 (zs) /\ TyF 51 true 13 none none (some [(0, 41), (1, 42), (2, 43), (3, 44), (4, 25), (5, 9), (6, 49), (11, 9), (12, 50)]) none false (some true) 248 none none false /\ TzA 51 (AV.agg [zs, zs, zs, zs, zs, AV.v (Value.string ByteArray.empty), zi, zi, AV.v (Value.string ByteArray.empty), AV.v (Value.string ByteArray.empty), zs, AV.v (Value.string ByteArray.empty), zs]) /\ TyF 52 true 13 none none (some [(0, 41), (1, 42), (2, 43), (3, 44), (4, 25), (5, 9), (6, 49), (11, 9), (12, 50)]) none false (some true) 248 none none false /\ TzA 52 (AV.agg [zs, zs, zs, zs, zs, AV.v (Value.string ByteArray.empty), zi, zi, AV.v (Value.string ByteArray.empty), AV.v (Value.string ByteArray.empty), zs, AV.v (Value.string ByteArray.empty), zs]) /\ TyB 56 1 152 24 /\ TzA 56 (zs) := by repeat (first | refine ⟨tyf (by kernel_rfl), ?_⟩ | refine ⟨tza (by kernel_rfl), ?_⟩ | exact tyf (by kernel_rfl) | exact tza (by kernel_rfl))
@[go_sem] theorem tAll2 : TyF 58 true 2 none none (some [(0, 3), (1, 56)]) none false (some true) 32 none none false /\ TzA 58 (AV.agg [zi, zs]) /\ TyF 61 true 1 none none none (some .i64) false (some false) 8 (some 0) none false /\ TzA 61 (zi) /\ TyA 62 1 0 /\ TzA 62 (AV.tup [AV.v (Value.string ByteArray.empty), zi]) /\ TyF 66 true 2 none none (some [(0, 3), (1, 3)]) none false (some true) 16 none (some [0, 0]) false /\ TzA 66 (AV.agg [zi, zi]) /\ TyB 69 1 52 24 /\ TzA 69 (zs) /\ TyB 70 1 86 24 /\ TzA 70 (zs) /\ TyA 71 1 0 /\ TzA 71 (AV.tup [zs, zi]) /\ TyA 74 1 0 /\ TzA 74 (AV.tup [zi, zi]) /\ TyA 78 1 0 /\ TzA 78 (AV.tup [AV.v (Value.agg { toList := [Value.int IntKind.i64 (0), Value.int IntKind.i64 (0), Value.int IntKind.i64 (0), Value.int IntKind.i64 (0)] }), AV.v (Value.bool false)]) /\ TyA 80 1 0 /\ TzA 80 (AV.tup [AV.v (Value.agg { toList := [Value.int IntKind.i64 (0), Value.int IntKind.i64 (0)] }), zi, zi]) /\ TyF 86 true 5 none none (some [(0, 3), (1, 3), (2, 66), (4, 3)]) none false (some true) 40 none (some [0, 0, 0, 0, 0]) false /\ TzA 86 (AV.agg [zi, zi, zi, zi, zi]) /\ TyF 88 true 2 none none (some [(0, 3), (1, 3)]) none false (some true) 16 none (some [0, 0]) false /\ TzA 88 (AV.agg [zi, zi]) /\ TyF 90 true 2 none none (some [(0, 3), (1, 50)]) none false (some true) 32 none none false /\ TzA 90 (AV.agg [zi, zs]) /\ TyA 91 1 0 /\ TzA 91 (AV.tup [AV.v (Value.agg { toList := [Value.int IntKind.i64 (0), Value.int IntKind.i64 (0), Value.string ByteArray.empty, Value.string ByteArray.empty, Value.slice none 0 0] }), zi]) /\ TyB 94 1 159 24 /\ TzA 94 (zs) := by repeat (first | refine ⟨tyf (by kernel_rfl), ?_⟩ | refine ⟨tza (by kernel_rfl), ?_⟩ | exact tyf (by kernel_rfl) | exact tza (by kernel_rfl))
@[go_sem] theorem tAll3 : TyF 96 true 2 none none (some [(0, 94), (1, 3)]) none false (some true) 32 none none false /\ TzA 96 (AV.agg [zs, zi]) /\ TyA 101 1 0 /\ TzA 101 (AV.tup [AV.v (Value.agg { toList := [Value.int IntKind.i64 (0), Value.int IntKind.i64 (0), Value.int IntKind.i64 (0), Value.int IntKind.i64 (0)] }), zi]) /\ TyF 104 true 2 none (some (2, 3)) none none false (some true) 16 none none false /\ TzA 104 (AV.agg [zi, zi]) /\ TyF 121 true 1 none none none none false (some false) 8 none none true /\ TzA 121 (AV.v (Value.pointer none)) /\ TyF 122 true 1 none none none none false (some false) 8 none none true /\ TzA 122 (AV.v (Value.pointer none)) /\ TyA 127 1 8 /\ TzA 127 (AV.v (Value.map none)) /\ TyA 128 1 8 /\ TzA 128 (AV.v (Value.map none)) /\ TyA 129 1 0 /\ TzA 129 (AV.tup [AV.v (Value.map none), AV.v (Value.bool false)]) /\ TyF 134 true 3 none none (some [(0, 3), (1, 9), (2, 50)]) none false (some true) 48 none none false /\ TzA 134 (AV.agg [zi, AV.v (Value.string ByteArray.empty), zs]) /\ TyF 135 true 1 none none none none false (some false) 8 none none true /\ TzA 135 (AV.v (Value.pointer none)) /\ TyA 136 1 0 /\ TzA 136 (AV.tup [AV.v (Value.pointer none), zi]) /\ TyF 147 true 2 none none (some [(0, 37)]) none false (some true) 16 none (some [0, 0]) false /\ TzA 147 (AV.agg [zi, zi]) /\ TyA 149 1 0 /\ TzA 149 (AV.tup [AV.v (Value.agg { toList := [Value.int IntKind.i64 (0), Value.int IntKind.i64 (0)] }), zi]) /\ TyF 152 true 3 none none (some [(0, 3), (1, 3), (2, 3)]) none false (some true) 24 none (some [0, 0, 0]) false /\ TzA 152 (AV.agg [zi, zi, zi]) /\ TyA 153 1 0 /\ TzA 153 (AV.tup [AV.v (Value.agg { toList := [Value.int IntKind.i64 (0), Value.int IntKind.i64 (0), Value.string ByteArray.empty, Value.string ByteArray.empty] }), zi]) := by repeat (first | refine ⟨tyf (by kernel_rfl), ?_⟩ | refine ⟨tza (by kernel_rfl), ?_⟩ | exact tyf (by kernel_rfl) | exact tza (by kernel_rfl))
@[go_sem] theorem tAll4 : TyA 155 1 0 /\ TzA 155 (AV.tup [zs, zi]) /\ TyF 157 true 4 none (some (4, 3)) none none false (some true) 32 none none false /\ TzA 157 (AV.agg [zi, zi, zi, zi]) /\ TyF 159 true 4 none none (some [(0, 3), (1, 3), (2, 3), (3, 3)]) none false (some true) 32 none (some [0, 0, 0, 0]) false /\ TzA 159 (AV.agg [zi, zi, zi, zi]) /\ TyB 162 1 31 24 /\ TzA 162 (zs) /\ TyB 164 1 5 24 /\ TzA 164 (zs) /\ TyA 165 1 0 /\ TzA 165 (AV.tup [AV.v (Value.agg { toList := [Value.int IntKind.i64 (0), Value.int IntKind.i64 (0)] }), AV.v (Value.bool false)]) /\ TyA 175 1 0 /\ TzA 175 (AV.tup [zi, zi, zi]) /\ TyF 178 true 1 none none none (some .u64) false (some false) 8 (some 0) none false /\ TzA 178 (AV.v (Value.int IntKind.u64 (0))) /\ TyA 180 1 0 /\ TzA 180 (AV.tup [zi, AV.v (Value.bool false)]) /\ TyF 190 true 14 none none (some [(0, 52), (13, 128)]) none false (some true) 256 none none false /\ TzA 190 (AV.agg [zs, zs, zs, zs, zs, AV.v (Value.string ByteArray.empty), zi, zi, AV.v (Value.string ByteArray.empty), AV.v (Value.string ByteArray.empty), zs, AV.v (Value.string ByteArray.empty), zs, AV.v (Value.map none)]) /\ TyF 203 true 3 none none (some [(0, 66), (2, 3)]) none false (some true) 24 none (some [0, 0, 0]) false /\ TzA 203 (AV.agg [zi, zi, zi]) /\ TyF 205 true 1 none none none none false (some false) 8 none none true /\ TzA 205 (AV.v (Value.pointer none)) /\ TyF 207 true 2 none none (some [(0, 205), (1, 164)]) none false (some true) 32 none none false /\ TzA 207 (AV.agg [AV.v (Value.pointer none), zs]) /\ TyA 209 1 16 /\ TzA 209 (AV.v Value.nilIface) /\ TyA 210 1 0 /\ TzA 210 (AV.tup [zi, AV.v Value.nilIface]) := by repeat (first | refine ⟨tyf (by kernel_rfl), ?_⟩ | refine ⟨tza (by kernel_rfl), ?_⟩ | exact tyf (by kernel_rfl) | exact tza (by kernel_rfl))
@[go_sem] theorem tAll5 : TyA 214 1 0 /\ TzA 214 (AV.tup [AV.v (Value.string ByteArray.empty), AV.v (Value.bool false)]) /\ TyA 222 1 0 /\ TzA 222 (AV.tup [zi, zi]) /\ TyB 231 1 203 24 /\ TzA 231 (zs) /\ TyF 240 true 2 none none (some [(0, 207)]) none false (some true) 32 none none false /\ TzA 240 (AV.agg [AV.v (Value.pointer none), zs]) /\ TyF 243 true 1 none none none (some .u64) false (some false) 8 (some 0) none false /\ TzA 243 (AV.v (Value.int IntKind.u64 (0))) /\ TyF 251 true 1 none none none none false (some false) 8 none none true /\ TzA 251 (AV.v (Value.pointer none)) /\ TyF 253 true 2 none none (some [(0, 3), (1, 3)]) none false (some true) 16 none (some [0, 0]) false /\ TzA 253 (AV.agg [zi, zi]) /\ TyB 255 1 259 24 /\ TzA 255 (zs) /\ TyA 256 1 0 /\ TzA 256 (AV.tup [AV.v (Value.string ByteArray.empty), zs, AV.v (Value.bool false)]) /\ TyF 259 true 2 none none (some [(0, 9), (1, 4)]) none false (some true) 24 none (some [2, 1]) false /\ TzA 259 (AV.agg [AV.v (Value.string ByteArray.empty), AV.v (Value.bool false)]) /\ TyF 273 true 1 none none none (some .u32) false (some false) 4 (some 0) none false /\ TzA 273 (AV.v (Value.int IntKind.u32 (0))) /\ TyF 275 true 8 none (some (8, 273)) none none false (some true) 32 none none false /\ TzA 275 (AV.agg [AV.v (Value.int IntKind.u32 (0)), AV.v (Value.int IntKind.u32 (0)), AV.v (Value.int IntKind.u32 (0)), AV.v (Value.int IntKind.u32 (0)), AV.v (Value.int IntKind.u32 (0)), AV.v (Value.int IntKind.u32 (0)), AV.v (Value.int IntKind.u32 (0)), AV.v (Value.int IntKind.u32 (0))]) /\ TyF 281 true 1 none none none none false (some false) 8 none none true /\ TzA 281 (AV.v (Value.pointer none)) /\ TyF 288 true 1 none none none none false (some false) 8 none none true /\ TzA 288 (AV.v (Value.pointer none)) /\ TyF 290 true 1 none none none none false (some false) 8 none none true /\ TzA 290 (AV.v (Value.pointer none)) := by repeat (first | refine ⟨tyf (by kernel_rfl), ?_⟩ | refine ⟨tza (by kernel_rfl), ?_⟩ | exact tyf (by kernel_rfl) | exact tza (by kernel_rfl))
@[go_sem] theorem tAll6 : TyF 295 true 1 none none none none false (some false) 8 none none true /\ TzA 295 (AV.v (Value.pointer none)) /\ TyF 296 true 64 none (some (64, 273)) none none false (some true) 256 none none false /\ TzA 296 (AV.agg [AV.v (Value.int IntKind.u32 (0)), AV.v (Value.int IntKind.u32 (0)), AV.v (Value.int IntKind.u32 (0)), AV.v (Value.int IntKind.u32 (0)), AV.v (Value.int IntKind.u32 (0)), AV.v (Value.int IntKind.u32 (0)), AV.v (Value.int IntKind.u32 (0)), AV.v (Value.int IntKind.u32 (0)), AV.v (Value.int IntKind.u32 (0)), AV.v (Value.int IntKind.u32 (0)), AV.v (Value.int IntKind.u32 (0)), AV.v (Value.int IntKind.u32 (0)), AV.v (Value.int IntKind.u32 (0)), AV.v (Value.int IntKind.u32 (0)), AV.v (Value.int IntKind.u32 (0)), AV.v (Value.int IntKind.u32 (0)), AV.v (Value.int IntKind.u32 (0)), AV.v (Value.int IntKind.u32 (0)), AV.v (Value.int IntKind.u32 (0)), AV.v (Value.int IntKind.u32 (0)), AV.v (Value.int IntKind.u32 (0)), AV.v (Value.int IntKind.u32 (0)), AV.v (Value.int IntKind.u32 (0)), AV.v (Value.int IntKind.u32 (0)), AV.v (Value.int IntKind.u32 (0)), AV.v (Value.int IntKind.u32 (0)), AV.v (Value.int IntKind.u32 (0)), AV.v (Value.int IntKind.u32 (0)), AV.v (Value.int IntKind.u32 (0)), AV.v (Value.int IntKind.u32 (0)), AV.v (Value.int IntKind.u32 (0)), AV.v (Value.int IntKind.u32 (0)), AV.v (Value.int IntKind.u32 (0)), AV.v (Value.int IntKind.u32 (0)), AV.v (Value.int IntKind.u32 (0)), AV.v (Value.int IntKind.u32 (0)), AV.v (Value.int IntKind.u32 (0)), AV.v (Value.int IntKind.u32 (0)), AV.v (Value.int IntKind.u32 (0)), AV.v (Value.int IntKind.u32 (0)), AV.v (Value.int IntKind.u32 (0)), AV.v (Value.int IntKind.u32 (0)), AV.v (Value.int IntKind.u32 (0)), AV.v (Value.int IntKind.u32 (0)), AV.v (Value.int IntKind.u32 (0)), AV.v (Value.int IntKind.u32 (0)), AV.v (Value.int IntKind.u32 (0)), AV.v (Value.int IntKind.u32 (0)), AV.v (Value.int IntKind.u32 (0)), AV.v (Value.int IntKind.u32 (0)), AV.v (Value.int IntKind.u32 (0)), AV.v (Value.int IntKind.u32 (0)), AV.v (Value.int IntKind.u32 (0)), AV.v (Value.int IntKind.u32 (0)), AV.v (Value.int IntKind.u32 (0)), AV.v (Value.int IntKind.u32 (0)), AV.v (Value.int IntKind.u32 (0)), AV.v (Value.int IntKind.u32 (0)), AV.v (Value.int IntKind.u32 (0)), AV.v (Value.int IntKind.u32 (0)), AV.v (Value.int IntKind.u32 (0)), AV.v (Value.int IntKind.u32 (0)), AV.v (Value.int IntKind.u32 (0)), AV.v (Value.int IntKind.u32 (0))]) /\ TyB 299 1 273 24 /\ TzA 299 (zs) /\ TyF 300 true 32 none (some (32, 5)) none none false (some true) 32 none none false /\ TzA 300 (AV.agg [AV.v (Value.int IntKind.u8 (0)), AV.v (Value.int IntKind.u8 (0)), AV.v (Value.int IntKind.u8 (0)), AV.v (Value.int IntKind.u8 (0)), AV.v (Value.int IntKind.u8 (0)), AV.v (Value.int IntKind.u8 (0)), AV.v (Value.int IntKind.u8 (0)), AV.v (Value.int IntKind.u8 (0)), AV.v (Value.int IntKind.u8 (0)), AV.v (Value.int IntKind.u8 (0)), AV.v (Value.int IntKind.u8 (0)), AV.v (Value.int IntKind.u8 (0)), AV.v (Value.int IntKind.u8 (0)), AV.v (Value.int IntKind.u8 (0)), AV.v (Value.int IntKind.u8 (0)), AV.v (Value.int IntKind.u8 (0)), AV.v (Value.int IntKind.u8 (0)), AV.v (Value.int IntKind.u8 (0)), AV.v (Value.int IntKind.u8 (0)), AV.v (Value.int IntKind.u8 (0)), AV.v (Value.int IntKind.u8 (0)), AV.v (Value.int IntKind.u8 (0)), AV.v (Value.int IntKind.u8 (0)), AV.v (Value.int IntKind.u8 (0)), AV.v (Value.int IntKind.u8 (0)), AV.v (Value.int IntKind.u8 (0)), AV.v (Value.int IntKind.u8 (0)), AV.v (Value.int IntKind.u8 (0)), AV.v (Value.int IntKind.u8 (0)), AV.v (Value.int IntKind.u8 (0)), AV.v (Value.int IntKind.u8 (0)), AV.v (Value.int IntKind.u8 (0))]) /\ TyF 306 true 1 none none none (some .i64) false (some false) 8 (some 0) none false /\ TzA 306 (zi) /\ TyA 307 1 0 /\ TzA 307 (AV.tup [zi, zi]) /\ TyF 313 true 1 none none none (some .u64) false (some false) 8 (some 0) none false /\ TzA 313 (AV.v (Value.int IntKind.u64 (0))) /\ TyF 317 true 1 none none none none false (some false) 8 none none true /\ TzA 317 (AV.v (Value.pointer none)) /\ TyF 320 true 1 none none none none false (some false) 8 none none true /\ TzA 320 (AV.v (Value.pointer none)) := by repeat (first | refine ⟨tyf (by kernel_rfl), ?_⟩ | refine ⟨tza (by kernel_rfl), ?_⟩ | exact tyf (by kernel_rfl) | exact tza (by kernel_rfl))
@[go_sem] theorem tz_22 : tz prog 22 = some (Value.slice none 0 0) := by kernel_rfl
@[go_sem] theorem tz_23 : tz prog 23 = some (Value.slice none 0 0) := by kernel_rfl
@[go_sem] theorem tz_24 : tz prog 24 = some (Value.slice none 0 0) := by kernel_rfl
@[go_sem] theorem tz_25 : tz prog 25 = some (Value.slice none 0 0) := by kernel_rfl
@[go_sem] theorem tz_26 : tz prog 26 = some (Value.slice none 0 0) := by kernel_rfl
@[go_sem] theorem tz_41 : tz prog 41 = some (Value.slice none 0 0) := by kernel_rfl
@[go_sem] theorem tz_42 : tz prog 42 = some (Value.slice none 0 0) := by kernel_rfl
@[go_sem] theorem tz_43 : tz prog 43 = some (Value.slice none 0 0) := by kernel_rfl
@[go_sem] theorem tz_44 : tz prog 44 = some (Value.slice none 0 0) := by kernel_rfl
@[go_sem] theorem tz_47 : tz prog 47 = some (Value.slice none 0 0) := by kernel_rfl
@[go_sem] theorem tz_50 : tz prog 50 = some (Value.slice none 0 0) := by kernel_rfl
@[go_sem] theorem tz_56 : tz prog 56 = some (Value.slice none 0 0) := by kernel_rfl
@[go_sem] theorem tz_69 : tz prog 69 = some (Value.slice none 0 0) := by kernel_rfl
@[go_sem] theorem tz_70 : tz prog 70 = some (Value.slice none 0 0) := by kernel_rfl
@[go_sem] theorem tz_94 : tz prog 94 = some (Value.slice none 0 0) := by kernel_rfl
@[go_sem] theorem tz_162 : tz prog 162 = some (Value.slice none 0 0) := by kernel_rfl
@[go_sem] theorem tz_164 : tz prog 164 = some (Value.slice none 0 0) := by kernel_rfl
@[go_sem] theorem tz_231 : tz prog 231 = some (Value.slice none 0 0) := by kernel_rfl
@[go_sem] theorem tz_255 : tz prog 255 = some (Value.slice none 0 0) := by kernel_rfl
@[go_sem] theorem tz_299 : tz prog 299 = some (Value.slice none 0 0) := by kernel_rfl
theorem JrU : tagg prog 296 = (some true : Option Bool) := by kernel_rfl
theorem JrV : tarr prog 275 = (some (8, 273) : Option (Nat × TypeId)) := by kernel_rfl
theorem JrW : tarr prog 300 = (some (32, 5) : Option (Nat × TypeId)) := by kernel_rfl
theorem JuI : tel prog 164 = (some 5 : Option TypeId) := by kernel_rfl
theorem JuJ : tel prog 299 = (some 273 : Option TypeId) := by kernel_rfl
theorem JuM : tsz prog 273 = 1 := by kernel_rfl
theorem JuN : tsz prog 296 = 64 := by kernel_rfl
theorem JyL : tsz prog 5 = 1 := by kernel_rfl
attribute [go_sem] ne_eq not_true_eq_false not_false_eq_true decide_true decide_false List.length_map
end Go.Proofs.YtnpbhgeffapojaaGreatDoor
attribute [go_sem_proc ↓] reduceIte
attribute [go_sem_proc] Nat.reduceEqDiff Nat.reduceMul Nat.reduceAdd Nat.reduceDiv Nat.reduceBEq Nat.reduceLeDiff Int.reduceToNat Int.reduceNe Int.reduceEq Int.reduceLT Int.reduceLE Int.reduceBEq Int.reduceBNe

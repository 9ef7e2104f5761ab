/- A heap-free account of the walk, second part -/
import Derived.Test.YtnpbhgeffapojaaGreatDoorKA
import Derived.RangeFuncIn
import Derived.RangeFuncLeaves
set_option linter.all false
namespace Go.Vai
open Go.RowKit
variable {P : Program} {C : Fx} {w : World} {ρ : Nat -> Option Nat} {Im : Nat -> Prop} {M : Str} {E : Env} {σ : Jac} {a : Act}
def allB : Nat -> Bool := fun _ => true
def resL (f : AV -> AV) (es : List AV) : List AV := if AV.namesL allB es = true then es.map f else es
def JfO (f : AV -> AV) (b : Option Blk) (sz i m : Nat) : AV := match b with
 | some k => if i + m <= k.es.length /\ k.sz = sz then .sl sz (((resL f k.es).drop i).take m) else .any
 | none => .any
def resE (f : AV -> AV) (o : Option AV) (j : Nat) : AV := match o with
 | some e => .pt (f e) j
 | none => .any
def JfP (f : AV -> AV) (b : Option Blk) (sz i j : Nat) : AV := match b with
 | some k => if k.sz = sz then resE f k.es[i]? j else .any
 | none => .any
def JfN (f : AV -> AV) (b : Option Blk) : AV := match b with
 | some k => if k.sz = 0 then .mp (resL f k.es) else .any
 | none => .any
def resF : Nat -> Jac -> AV -> AV
 | 0, _, x => x.kill allB
 | n + 1, c, x => match x with
  | .own id f i m => JfO (resF n c) (c id) f i m
  | .ptr id f i j => JfP (resF n c) (c id) f i j
  | .mref id => JfN (resF n c) (c id)
  | .agg d => .agg (resL (resF n c) d)
  | .tup d => .tup (resL (resF n c) d)
  | .clo g d => .clo g (resL (resF n c) d)
  | x => x
def res (σ : Jac) (x : AV) : AV := resF 8 σ x
theorem Jbx {x : AV} {y : Value} (h : Rep w ρ Im x y) (k : ∀ id, ¬ Names x id) : IRep w Im x y := by
 induction h with
 | im _ _ h => exact h
 | agg f ys l p _ o => exact .agg f ys l p fun j c y i m => o j c y i m fun id d => k id (.agg f c id (L01 i) d)
 | tup f ys l _ o => exact .tup f ys l fun j c y i m => o j c y i m fun id d => k id (.tup f c id (L01 i) d)
 | clo g f ys l _ o => exact .clo g f ys l fun j c y i m => o j c y i m fun id d => k id (.clo g f c id (L01 i) d)
 | ownNil id => exact absurd (.own ..) (k id)
 | own id => exact absurd (.own ..) (k id)
 | ownAt id => exact absurd (.own ..) (k id)
 | ptr id => exact absurd (.ptr ..) (k id)
 | mref id => exact absurd (.mref ..) (k id)
theorem Jfi (x : AV) (id : Nat) : ¬ Names (x.kill allB) id := fun h => by
 have := (AV.kill_names allB x id h).2; simp [allB] at this
def Seen (Im : Nat -> Prop) (ρ : Nat -> Option Nat) : Nat -> Prop := fun b => Im b \/ ∃ id, ρ id = some b
theorem Jf6 {f : AV -> AV} {es : List AV} {i : Nat} {c : AV} (h : (resL f es)[i]? = some c) : ∃ e, es[i]? = some e /\ (c = f e \/ (c = e /\ ∀ id, ¬ Names e id)) := by
 unfold resL at h
 split at h
 . rw [L03] at h
   cases he : es[i]? with
   | none => simp [he] at h
   | some e => simp [he] at h; exact ⟨e, rfl, .inl h.symm⟩
 . rename_i j
   exact ⟨c, h, .inr ⟨rfl, fun id d => j ((AV.namesL_iff _ _).2 ⟨c, L01 h, AV.namesB_of allB d rfl⟩)⟩⟩
theorem JaY (f : AV -> AV) (es : List AV) : (resL f es).length = es.length := by unfold resL; split <;> simp
def AV.isAgg : AV -> Bool | .agg _ => true | _ => false
theorem JcH {e : AV} (h : e.isAgg = false) : e.cells = [e] := by cases e <;> first | rfl | cases h
theorem JlE (p : Nat -> Bool) {e : AV} (h : e.isAgg = false) : (AV.dk p e).isAgg = false := by
 cases e with
 | agg c => cases h
 | own a s i n => simp only [AV.dk]; split <;> rfl
 | ptr a s i n => simp only [AV.dk]; split <;> rfl
 | mref a => simp only [AV.dk]; split <;> rfl
 | _ => rfl
theorem Jft (n : Nat) (σ : Jac) {e : AV} (h : e.isAgg = false) : (resF n σ e).isAgg = false := by
 cases n with
 | zero => simp only [resF, AV.kill]; split; exact JlE _ h; exact h
 | succ n => cases e with
  | agg c => cases h
  | own a s i n => simp only [resF, JfO]; split <;> (try split) <;> rfl
  | ptr a s i n => simp only [resF, JfP, resE]; split <;> (try split) <;> (try split) <;> rfl
  | mref a => simp only [resF, JfN]; split <;> (try split) <;> rfl
  | _ => rfl
theorem Jf5 (n : Nat) (σ : Jac) (e : AV) : (resF n σ e).cells.length = e.cells.length := by
 cases he : e.isAgg with
 | false => rw [JcH he, JcH (Jft n σ he)]; rfl
 | true => cases e with
  | agg c => cases n with
   | zero => simp only [resF, AV.kill]; split <;> simp [AV.dk, AV.dkL_eq]
   | succ n => simp [resF, JaY]
  | _ => cases he
theorem JjU (S : Inv w ρ Im σ) : ∀ n : Nat, (∀ x y, Rep w ρ Im x y -> IRep w (Seen Im ρ) (resF n σ x) y) /\
 ∀ (e : AV) (j : Nat) (c : AV) (x : Value), (resF n σ e).cells[j]? = some c -> (∀ B, e.cells[j]? = some B -> Rep w ρ Im B x) -> IRep w (Seen Im ρ) c x := by
 have ae : ∀ {x y}, IRep w Im x y -> IRep w (Seen Im ρ) x y := fun h => h.mono (fun b hb => .inl hb) (fun _ _ => rfl)
 have nameless : ∀ {x y}, Rep w ρ Im x y -> (∀ id, ¬ Names x id) -> IRep w (Seen Im ρ) x y := fun h J => ae (Jbx h J)
 have ag : ∀ {x y}, Rep w ρ Im x y -> IRep w (Seen Im ρ) (x.kill allB) y := fun {x y} h => nameless (h.kill allB) (Jfi x)
 intro n
 induction n with
 | zero =>
  refine ⟨fun x y h => ag h, fun e j c x f h => ?_⟩
  simp only [resF, AV.kill] at f
  split at f
  . rw [AV.dk_cells, L03] at f
    cases hcs : e.cells[j]? with
    | none => simp [hcs] at f
    | some B => simp [hcs] at f; subst f; exact nameless ((h B hcs).dk allB) fun id d => by have := (AV.dk_names allB B id d).2; simp [allB] at this
  . rename_i J
    exact nameless (h c f) fun id d => J (AV.namesB_of allB (Jbj (L01 f) d) rfl)
 | succ n ih =>
  obtain ⟨aq, aj⟩ := ih
  -- a member of a list that is handed on
  have z : ∀ {es : List AV} {j : Nat} {c : AV} {x : Value}, (resL (resF n σ) es)[j]? = some c -> (∀ e, es[j]? = some e -> Rep w ρ Im e x) -> IRep w (Seen Im ρ) c x := fun f h => by
   obtain ⟨e, o, s⟩ := Jf6 f
   rcases s with rfl | ⟨rfl, J⟩
   . exact aq e _ (h e o)
   . exact nameless (h _ o) J
  have aa : ∀ x y, Rep w ρ Im x y -> IRep w (Seen Im ρ) (resF (n + 1) σ x) y := by
   intro x y h
   cases x with
   | own id sz i m =>
    simp only [resF]; unfold JfO
    split
    . rename_i k hk
      split
      . rename_i ac; obtain ⟨as, rfl⟩ := ac
        have u : (((resL (resF n σ) k.es).drop i).take m).length = m := by rw [L02, L0f, JaY]; omega
        have go : ∀ b t (ad : Option Addr), ρ id = some b -> k.sz ≠ 0 -> (m ≠ 0 -> ad = some ⟨b, i * k.sz, none⟩) -> m <= t -> y = .slice ad m t -> IRep w (Seen Im ρ) (.sl k.sz (((resL (resF n σ) k.es).drop i).take m)) y := by
         rintro b t ad p X al J rfl
         by_cases h0 : m = 0
         . subst h0; simp only [L1Q]; exact .slnil ..
         . rw [al h0]
           obtain ⟨H, hb, E, hs, f⟩ := S.blk id k b hk p X
           have C : ∀ q : Nat, q < m -> ∃ e A : AV, (((resL (resF n σ) k.es).drop i).take m)[q]? = some e /\ k.es[i + q]? = some A /\ (e = resF n σ A \/ (e = A /\ ∀ id, ¬ Names A id)) := fun q K => by
            have I : i + q < (resL (resF n σ) k.es).length := by rw [JaY]; omega
            obtain ⟨A, am, s⟩ := Jf6 (L09 I)
            exact ⟨_, A, by rw [L0m, if_pos K, L0E]; exact L09 I, am, s⟩
           have ah : ∀ (q : Nat) (e : AV), (((resL (resF n σ) k.es).drop i).take m)[q]? = some e -> e.cells.length = k.sz := fun q e o => by
            have K : q < m := by rw [<- u]; exact (L05.1 o).1
            obtain ⟨e', A, L, h2, s⟩ := C q K
            rw [o] at L; cases L
            rcases s with rfl | ⟨rfl, _⟩
            . rw [Jf5]; exact E A (L01 h2)
            . exact E _ (L01 h2)
           have := IRep.sl (w := w) (Im := Seen Im ρ) k.sz (((resL (resF n σ) k.es).drop i).take m) b (i * k.sz) t (fun q j => (H[(i + q) * k.sz + j]?).getD undef) (.inr ⟨id, p⟩) (by rw [u]; exact J)
            (fun e o => by obtain ⟨q, K⟩ := L0v.1 o; exact ah q e K) (fun q j K hj => by
             rw [u] at K
             obtain ⟨e', A, L, h2, s⟩ := C q K
             have an : j < A.cells.length := by rw [E A (L01 h2)]; exact hj
             obtain ⟨v, U, L, _⟩ := f (i + q) A j _ h2 (L09 an)
             have e1 : i * k.sz + q * k.sz + j = (i + q) * k.sz + j := by rw [L1n]
             rw [e1, Jbn hb, U]
             exact ⟨rfl, L⟩)
            (fun q e j c o Q => by
             have K : q < m := by rw [<- u]; exact (L05.1 o).1
             obtain ⟨e', A, L, h2, s⟩ := C q K
             rw [o] at L; cases L
             have F : ∀ B, A.cells[j]? = some B -> Rep w ρ Im B ((H[(i + q) * k.sz + j]?).getD undef) := fun B ab => by
              obtain ⟨v, U, _, T⟩ := f (i + q) A j B h2 ab
              simpa [U] using T
             rcases s with rfl | ⟨rfl, J⟩
             . exact aj A j c _ Q F
             . exact nameless (F c Q) fun id d => J id (Jbj (L01 Q) d))
           rw [u] at this; exact this
        cases h with
        | im _ _ h => cases h
        | ownNil _ _ p => simp only [L1Q]; exact .slnil ..
        | own _ _ _ b t H e p J ar hb hs X => exact go b t _ p X (by simp) J rfl
        | ownAt _ _ _ _ b t ad hi p J ha X => exact go b t ad p X ha J rfl
      . exact .any _
    . exact .any _
   | ptr id sz i j =>
    simp only [resF]; unfold JfP
    split
    . rename_i k hk
      split
      . rename_i ao; subst ao; unfold resE
        split
        . rename_i e o
          cases h with
          | im _ _ h => cases h
          | ptr _ _ _ _ b p X =>
           obtain ⟨H, hb, E, hs, f⟩ := S.blk id k b hk p X
           have F : ∀ q B, e.cells[q]? = some B -> Rep w ρ Im B ((H[i * k.sz + q]?).getD undef) := fun q B ab => by
            obtain ⟨v, U, _, T⟩ := f i e q B o ab
            simpa [U] using T
           refine .pt (resF n σ e) j b (i * k.sz) (fun q => (H[i * k.sz + q]?).getD undef) (.inr ⟨id, p⟩) (fun q K => ?_) (fun q c Q => aj e q c _ Q (F q))
           rw [Jf5] at K
           obtain ⟨v, U, L, _⟩ := f i e q _ o (L09 K)
           rw [Jbn hb, U]; exact ⟨rfl, L⟩
        . exact .any _
      . exact .any _
    . exact .any _
   | mref id =>
    simp only [resF]; unfold JfN
    split
    . rename_i k hk
      split
      . rename_i X
        cases h with
        | im _ _ h => cases h
        | mref _ b p =>
         obtain ⟨O, ak, hb, E, f⟩ := S.map id k b hk p X
         have Z : ∀ (i : Nat) (m : MapEntry), O[i]? = some m -> ∃ v : AV, (resL (resF n σ) k.es)[i]? = some (.tup [.v m.key, v]) /\ IRep w (Seen Im ρ) v m.val := fun i m M => by
          obtain ⟨v0, ai, T⟩ := f i m M
          have I : i < (resL (resF n σ) k.es).length := by rw [JaY, E.1]; exact (L0k.1 M).1
          obtain ⟨e, o, s⟩ := Jf6 (L09 I)
          rw [ai] at o; cases o
          have D := z (x := .tuple #[m.key, m.val]) (L09 I) (fun e o => by
           rw [ai] at o; cases o
           refine .tup [.v m.key, v0] [m.key, m.val] rfl fun j c y R W => ?_
           cases j with
           | zero => simp at R W; subst R; subst W; exact .im _ _ (.v _)
           | succ j => cases j with
            | zero => simp at R W; subst R; subst W; exact T
            | succ j => simp at R)
          have V : ∃ v, (resL (resF n σ) k.es)[i] = AV.tup [.v m.key, v] := by
           rcases s with h | ⟨h, _⟩
           . rw [h]
             cases n with
             | zero => simp only [resF, AV.kill]; split <;> simp [AV.dk, AV.dkL]
             | succ n => simp only [resF]; unfold resL; split
                         . simp only [L0q, L0F]
                           cases n with
                           | zero => exact ⟨_, by simp [resF, AV.kill, AV.namesB]; rfl⟩
                           | succ n => exact ⟨_, by simp [resF]; rfl⟩
                         . exact ⟨_, rfl⟩
           . exact ⟨_, h⟩
          obtain ⟨v, U⟩ := V; rw [U] at D
          refine ⟨v, (L09 I).trans (congrArg some U), ?_⟩
          generalize af : Value.tuple #[m.key, m.val] = yy at D
          cases D with
          | tup _ ys au ap =>
           injection af with af
           have : ys = [m.key, m.val] := by simpa using congrArg Array.toList af.symm
           subst this
           exact ap 1 v m.val rfl rfl
         classical
         exact .mp _ b O ak (fun i => match O[i]? with | some m => if M : ∃ v, (resL (resF n σ) k.es)[i]? = some (.tup [.v m.key, v]) /\ IRep w (Seen Im ρ) v m.val then Classical.choose M else .any | none => .any) (.inr ⟨id, p⟩) hb ⟨by rw [JaY, E.1], E.2⟩
          (fun i m M => by
           simp only [M]; rw [dif_pos (Z i m M)]
           exact (Classical.choose_spec (Z i m M)).1)
          (fun i m M => by
           simp only [M]; rw [dif_pos (Z i m M)]
           exact (Classical.choose_spec (Z i m M)).2)
      . exact .any _
    . exact .any _
   | agg cs =>
    simp only [resF]; obtain ⟨ys, rfl, E, L, T⟩ := h.agg_inv
    exact .agg _ ys (by rw [JaY, E]) L fun j c y f hy => z f fun e o => T j e y o hy
   | tup cs =>
    simp only [resF]; obtain ⟨ys, rfl, E, T⟩ := h.tup_inv
    exact .tup _ ys (by rw [JaY, E]) fun j c y f hy => z f fun e o => T j e y o hy
   | clo g cs =>
    simp only [resF]; obtain ⟨ys, rfl, E, T⟩ := h.clo_inv
    exact .clo g _ ys (by rw [JaY, E]) fun j c y f hy => z f fun e o => T j e y o hy
   | any => exact nameless h fun id d => by cases d
   | v x => exact nameless h fun id d => by cases d
   | sl a b => exact nameless h fun id d => by cases d
   | pt a b => exact nameless h fun id d => by cases d
   | new a b c => exact nameless h fun id d => by cases d
   | nptr a b c => exact nameless h fun id d => by cases d
   | yld l => exact nameless h fun id d => by cases d
   | mp es => exact nameless h fun id d => by cases d
   | cut a b => exact nameless h fun id d => by cases d
  refine ⟨aa, fun e j c x f h => ?_⟩
  cases o : e.isAgg with
  | false =>
   rw [JcH (Jft (n + 1) σ o)] at f; rw [JcH o] at h
   cases j with
   | zero => simp at f; subst f; exact aa e x (h e rfl)
   | succ j => simp at f
  | true => cases e with
   | agg cs => simp only [resF, AV.cells_agg] at f; exact z f h
   | _ => cases o
theorem Jng (c : Inv w ρ Im σ) (n : Nat) {x : AV} {y : Value} (h : Rep w ρ Im x y) : IRep w (Seen Im ρ) (resF n σ x) y := (JjU c n).1 x y h
theorem JpD (d : Inv w ρ Im σ) (n : Nat) {e : AV} {j : Nat} {c : AV} {x : Value} (i : (resF n σ e).cells[j]? = some c) (h : ∀ f, e.cells[j]? = some f -> Rep w ρ Im f x) : IRep w (Seen Im ρ) c x := (JjU d n).2 e j c x i h
theorem Jg3 (c : Inv w ρ Im σ) {x : AV} {y : Value} (h : Rep w ρ Im x y) : IRep w (Seen Im ρ) (res σ x) y := Jng c 8 h
theorem JjV {x : AV} (c : AV.namesB allB x = false) : res σ x = x := by
 unfold res
 cases x with
 | own => simp [AV.namesB, allB] at c
 | ptr => simp [AV.namesB, allB] at c
 | mref => simp [AV.namesB, allB] at c
 | agg d => simp only [AV.namesB] at c; simp [resF, resL, c]
 | tup d => simp only [AV.namesB] at c; simp [resF, resL, c]
 | clo g d => simp only [AV.namesB] at c; simp [resF, resL, c]
 | _ => rfl
def JbT (w : World) (Im : Nat -> Prop) (e sz : Nat) (es : List AV) (b : Nat) : Prop :=
 ∃ d, (∃ f, w.heap[b]? = some (.cells d e f) /\ Mk f d.size) /\ (∀ x ∈ es, x.cells.length = sz) /\ es.length * sz <= d.size /\
  ∀ (i : Nat) (x : AV) (j : Nat) (c : AV), es[i]? = some x -> x.cells[j]? = some c -> ∃ v, d[i * sz + j]? = some v /\ v.oneCell' = true /\ IRep w Im c v
def R1 (w : World) (Im : Nat -> Prop) (r : AV) (y : Value) (i : Option Nat) : Prop :=
 match r with
 | .new e h f => (i = none /\ f = [] /\ y = .slice none 0 0) \/
  ∃ b c, h ≠ 0 /\ i = some b /\ y = .slice (some ⟨b, 0, none⟩) f.length c /\ f.length <= c /\ c <= maxLen /\ (∃ d, (∃ j, w.heap[b]? = some (.cells d e j) /\ Mk j d.size) /\ d.size = c * h) /\ JbT w Im e h f b
 | .nptr e h f => ∃ b, h ≠ 0 /\ i = some b /\ y = .pointer (some ⟨b, 0, none⟩) /\ JbT w Im e h f b
 | r => i = none /\ IRep w Im r y
def RL (w : World) (Im : Nat -> Prop) : List AV -> List Value -> List (Option Nat) -> Prop
 | [], [], [] => True
 | r :: f, y :: ys, d :: c => R1 w Im r y d /\ RL w Im f ys c
 | _, _, _ => False
def Jde (lo : Nat) (Im : Nat -> Prop) (c : List (Option Nat)) : Prop :=
 (∀ b, some b ∈ c -> lo <= b /\ ¬ Im b) /\ c.Pairwise fun x y => x = none \/ x ≠ y
def RRep (w w' : World) (Im : Nat -> Prop) (r : AV) (y : Value) : Prop :=
 ∃ c : Nat -> Prop, (∀ b, Im b -> c b) /\ (∀ b, c b -> Im b \/ (w.heap.size <= b /\ b < w'.heap.size)) /\
  match r with
  | .tup f => ∃ ys d, y = .tuple ys.toArray /\ RL w' c f ys d /\ Jde w.heap.size c d
  | .clo g f => ∃ ys d, y = mkF g ys /\ RL w' c f ys d /\ Jde w.heap.size c d
  | r => ∃ h, R1 w' c r y h /\ Jde w.heap.size c [h]
def Jh7 (w : World) (Im : Nat -> Prop) (cs : List AV) (ys : List Value) : Prop :=
 cs.length = ys.length /\ ∀ (j : Nat) (c : AV) (y : Value), cs[j]? = some c -> ys[j]? = some y -> IRep w Im c y
def FnOK (P : Program) (f : FuncId) (R : List AV -> AV -> Prop) : Prop :=
 ∀ c r, R c r -> (∀ h w, (callFunc f h).run P w = .ok (.enter f h) w) /\
  ∀ (w : World) (d : Nat -> Prop) (vs : List Value), (∀ b, d b -> b < w.heap.size) -> GOK w d -> Jh7 w d c vs ->
   Calls P f vs.toArray w fun e i => ∃ y, e = .returned y /\ Ext w (fun _ => False) i /\ RRep w i d r y
def imp1 (id : Nat) (r : AV) : AV × List (Nat × Blk) :=
 match r with
 | .new e c d => (.own id c 0 d.length, [(id, ⟨e, c, d⟩)])
 | .nptr e c d => (.ptr id c 0 0, [(id, ⟨e, c, d⟩)])
 | r => (r, [])
def impL : Nat -> List AV -> List AV × List (Nat × Blk)
 | _, [] => ([], [])
 | id, r :: c => ((imp1 id r).1 :: (impL (id + 1) c).1, (imp1 id r).2 ++ (impL (id + 1) c).2)
def imp (id : Nat) (r : AV) : AV × List (Nat × Blk) :=
 match r with
 | .tup c => (.tup (impL id c).1, (impL id c).2)
 | .clo g c => (.clo g (impL id c).1, (impL id c).2)
 | r => imp1 id r
variable {P : Program} {C : Fx} {w : World} {ρ : Nat -> Option Nat} {Im : Nat -> Prop} {M : Str} {E : Env} {σ : Jac} {a : Act}
mutual
def AV.flat : AV -> Bool
 | .any => true
 | .v _ => true
 | .agg c => AV.flatL c
 | .sl _ d => d.isEmpty
 | .new _ _ d => AV.flatL d
 | .nptr _ _ d => AV.flatL d
 | .tup c => AV.flatL c
 | .clo _ c => AV.flatL c
 | _ => false
def AV.flatL : List AV -> Bool
 | [] => true
 | c :: d => AV.flat c && AV.flatL d
end
theorem AV.flatL_iff (cs : List AV) : AV.flatL cs = true ↔ ∀ c ∈ cs, AV.flat c = true := by
 induction cs with
 | nil => simp [AV.flatL]
 | cons c cs d => simp [AV.flatL, d]
theorem IRep.flat {x : AV} {y : Value} (h : IRep w Im x y) (k : x.flat = true) (w' : World) (t : Nat -> Prop) : IRep w' t x y := by
 induction h with
 | any y => exact .any y
 | v x => exact .v x
 | agg u ys p C _ s => exact .agg u ys p C fun j c y i q => s j c y i q ((AV.flatL_iff u).1 k c (L01 i))
 | slnil A a m => exact .slnil A a m
 | sl A B b o m f D z F E _ _ =>
  have : B = [] := by simpa [AV.flat] using k
  subst this; exact .slnil ..
 | pt => simp [AV.flat] at k
 | tup vs ys p _ s => exact .tup vs ys p fun j c y i q => s j c y i q ((AV.flatL_iff vs).1 k c (L01 i))
 | clo g d ys p _ s => exact .clo g d ys p fun j c y i q => s j c y i q ((AV.flatL_iff d).1 k c (L01 i))
 | yld l => exact .yld l
 | mpnil => exact .mpnil
 | mp => simp [AV.flat] at k
 | cut => simp [AV.flat] at k
theorem IRep.nameless {x : AV} {y : Value} (h : IRep w Im x y) (id : Nat) : ¬ Names x id := by
 induction h with
 | agg o ys l _ _ m => intro d; cases d with | agg _ c _ k d =>
  obtain ⟨j, i⟩ := L0v.1 k
  have f := (L05.1 i).1
  exact m j c _ i (L09 (l ▸ f)) d
 | tup o ys l _ m => intro d; cases d with | tup _ c _ k d =>
  obtain ⟨j, i⟩ := L0v.1 k
  have f := (L05.1 i).1
  exact m j c _ i (L09 (l ▸ f)) d
 | clo g o ys l _ m => intro d; cases d with | clo _ _ c _ k d =>
  obtain ⟨j, i⟩ := L0v.1 k
  have f := (L05.1 i).1
  exact m j c _ i (L09 (l ▸ f)) d
 | _ => intro d; cases d
theorem JkX {v : AV} {id : Nat} (h : Names v id) : ∃ c ∈ v.cells, Names c id := by
 cases v with
 | agg f => cases h with | agg _ c _ d h => exact ⟨c, d, h⟩
 | _ => exact ⟨_, by simp [AV.cells], h⟩
theorem JbT.nameless {e sz b : Nat} {es : List AV} (h : JbT w Im e sz es b) (id : Nat) : ∀ x ∈ es, ¬ Names x id := by
 obtain ⟨k, _, _, _, l⟩ := h
 intro x q f
 obtain ⟨c, d, f⟩ := JkX f
 obtain ⟨i, m⟩ := L0v.1 q
 obtain ⟨j, o⟩ := L0v.1 d
 obtain ⟨v, _, _, p⟩ := l i x j c m o
 exact p.nameless id f
theorem JkF {x c : AV} (h : x.flat = true) (d : c ∈ x.cells) : c.flat = true := by
 cases x with
 | agg f => exact (AV.flatL_iff f).1 h c d
 | _ => simp only [AV.cells, L0p] at d; subst d; exact h
theorem JbT.flat {f : Nat -> Prop} {e sz b : Nat} {es : List AV} (h : JbT w Im e sz es b) (s : AV.flatL es = true) : JbT w f e sz es b := by
 obtain ⟨k, m, o, p, q⟩ := h
 exact ⟨k, m, o, p, fun i x j c l d => by
  obtain ⟨v, y, t, u⟩ := q i x j c l d
  exact ⟨v, y, t, u.flat (JkF ((AV.flatL_iff es).1 s x (L01 l)) (L01 d)) _ _⟩⟩
theorem R1.flat {c : Nat -> Prop} {r : AV} {y : Value} {m : Option Nat} (h : R1 w Im r y m) (l : r.flat = true) : R1 w c r y m := by
 unfold R1 at h ⊢
 split
 . rcases h with h | ⟨b, d, f, i, j, k, o, p, q⟩
   . exact .inl h
   . exact .inr ⟨b, d, f, i, j, k, o, p, q.flat (by simpa [AV.flat] using l)⟩
 . obtain ⟨b, f, i, j, k⟩ := h
   exact ⟨b, f, i, j, k.flat (by simpa [AV.flat] using l)⟩
 . split at h
   . simp_all
   . simp_all
   . exact ⟨h.1, h.2.flat l _ _⟩
theorem RL.flat {f : Nat -> Prop} : ∀ {d : List AV} {ys : List Value} {c : List (Option Nat)}, RL w Im d ys c -> AV.flatL d = true -> RL w f d ys c
 | [], [], [], _, _ => trivial
 | r :: d, y :: ys, j :: c, h, i => by
  simp only [AV.flatL, L00] at i
  exact ⟨h.1.flat i.1, RL.flat h.2 i.2⟩
theorem Jde.im {lo : Nat} {c : Nat -> Prop} {d : List (Option Nat)} (h : Jde lo Im d) (i : ∀ b, lo <= b -> c b -> Im b) : Jde lo c d :=
 ⟨fun b f => ⟨(h.1 b f).1, fun j => (h.1 b f).2 (i b (h.1 b f).1 j)⟩, h.2⟩
theorem RRep.flat {w' : World} {d : Nat -> Prop} {r : AV} {y : Value} (h : RRep w w' Im r y) (q : r.flat = true) (l : ∀ b, d b -> b < w.heap.size) : RRep w w' d r y := by
 obtain ⟨m, _, s, j⟩ := h
 refine ⟨fun b => d b \/ (w.heap.size <= b /\ m b /\ b < w'.heap.size), fun b c => .inl c, fun b c => ?_, ?_⟩
 . rcases c with c | ⟨f, _, s⟩
   . exact .inl c
   . exact .inr ⟨f, s⟩
 have p : ∀ b, w.heap.size <= b -> (d b \/ (w.heap.size <= b /\ m b /\ b < w'.heap.size)) -> m b := fun b t c => by
  rcases c with c | ⟨_, c, _⟩
  . have := l b c; omega
  . exact c
 revert j
 split <;> intro j
 . obtain ⟨ys, i, f, o, k⟩ := j
   exact ⟨ys, i, f, o.flat (by simpa [AV.flat] using q), k.im p⟩
 . obtain ⟨ys, i, f, o, k⟩ := j
   exact ⟨ys, i, f, o.flat (by simpa [AV.flat] using q), k.im p⟩
 . obtain ⟨u, f, k⟩ := j
   exact ⟨u, f.flat q, k.im p⟩
theorem Jkl (σ : Jac) (l l' : List (Nat × Blk)) : addS σ (l ++ l') = addS (addS σ l) l' := by
 induction l generalizing σ with
 | nil => rfl
 | cons x l c => simp [addS, c]
theorem Jd3 {e sz b : Nat} {es : List AV} (h : JbT w Im e sz es b) : ∃ cur, (∃ f, w.heap[b]? = some (.cells cur e f) /\ Mk f cur.size) /\ ∀ ρ, Jgc w ρ Im ⟨e, sz, es⟩ cur := by
 obtain ⟨cur, k, l, m, o⟩ := h
 exact ⟨cur, k, fun ρ => ⟨l, m, fun i x j c t d => by obtain ⟨v, s, p, q⟩ := o i x j c t d; exact ⟨v, s, p, .im _ _ q⟩⟩⟩
theorem Jfe {tm : Array Value} (k : Inv w ρ Im σ) (q : JaG w ρ Im E tm) {id : Nat} (o : Jbh id E σ) {r : AV} {y : Value} {j : Option Nat} (h : R1 w Im r y j)
 (F : ∀ b, j = some b -> (∀ i, ρ i ≠ some b) /\ ¬ Im b) :
 ∃ m, Inv w m Im (addS σ (imp1 id r).2) /\ JaG w m Im E tm /\ Rep w m Im (imp1 id r).1 y /\ (∀ i b, m i = some b -> ρ i = some b \/ j = some b) /\ (∀ v z, Rep w ρ Im v z -> ¬ Names v id -> Rep w m Im v z) /\
  (∀ d, d ≠ id -> Jbh d E σ -> Jbh d E (addS σ (imp1 id r).2)) /\ (∀ d, Names (imp1 id r).1 d -> d = id) /\ ∀ i, i ≠ id -> m i = ρ i := by
 have f : ∀ j v z, Rep w ρ Im v z -> ¬ Names v id -> Rep w (updR ρ id j) Im v z := fun j v z B V => B.carry (fun _ _ => rfl) V
 have env : ∀ j, JaG w (updR ρ id j) Im E tm := fun j t y X => f j _ _ (q t y X) (o.2.1 t)
 have p : ∀ j i, i ≠ id -> updR ρ id j i = ρ i := fun j i e => JaF _ _ _ _ e
 have rng : ∀ j i b, updR ρ id j i = some b -> ρ i = some b \/ j = some b := fun j i b A => by
  by_cases e : i = id
  . subst e; rw [Jb5] at A; exact .inr A
  . rw [JaF _ _ _ _ e] at A; exact .inl A
 cases r with
 | new e I T =>
  rcases h with ⟨rfl, rfl, rfl⟩ | ⟨b, J, H, rfl, rfl, Q, D, ⟨K, U, R⟩, c⟩
  . exact ⟨updR ρ id none, k.fresh (L0a _) (fun _ _ => rfl) o.1 o.2.2 (fun _ h => h) (fun _ h => .inl h) rfl, env none, .ownNil id I (by simp), rng none, f none, fun d l u => u.add l.symm (by simp), fun d l => by cases l; rfl, p _⟩
  . obtain ⟨C, s, O⟩ := Jd3 c
    obtain ⟨L, M⟩ := F b rfl
    exact ⟨updR ρ id (some b), k.adopt (L0a _) (fun _ _ => rfl) o L M H s (O _), env _, .own id I T.length b J K e (by simp) Q D U R H, rng _, f _,
     fun d l u => u.add l.symm (fun x S => c.nameless d x S), fun d l => by cases l; rfl, p _⟩
 | nptr e I T =>
  obtain ⟨b, H, rfl, rfl, c⟩ := h
  obtain ⟨C, s, O⟩ := Jd3 c
  obtain ⟨L, M⟩ := F b rfl
  have W : Rep w (updR ρ id (some b)) Im (.ptr id I 0 0) (.pointer (some ⟨b, 0, none⟩)) := by
   have := Rep.ptr (w := w) (ρ := updR ρ id (some b)) (Im := Im) id I 0 0 b (by simp) H
   simpa using this
  exact ⟨updR ρ id (some b), k.adopt (L0a _) (fun _ _ => rfl) o L M H s (O _), env _, W, rng _, f _,
   fun d l u => u.add l.symm (fun x S => c.nameless d x S), fun d l => by cases l; rfl, p _⟩
 | _ =>
  obtain ⟨rfl, B⟩ := h
  exact ⟨ρ, k, q, .im _ _ B, fun i b A => .inl A, fun _ _ B _ => B, fun d _ u => u, fun d l => absurd l (B.nameless d), fun _ _ => rfl⟩
theorem JdJ {tm : Array Value} : ∀ (q : List AV) (ys : List Value) (d : List (Option Nat)) (id : Nat) (ρ : Nat -> Option Nat) (σ : Jac), Inv w ρ Im σ -> JaG w ρ Im E tm ->
 (∀ k, k < q.length -> Jbh (id + k) E σ) -> RL w Im q ys d -> (∀ b, some b ∈ d -> (∀ i, ρ i ≠ some b) /\ ¬ Im b) -> d.Pairwise (fun x y => x = none \/ x ≠ y) ->
 ∃ f, Inv w f Im (addS σ (impL id q).2) /\ JaG w f Im E tm /\ Reps w f Im (impL id q).1 ys /\ (∀ i b, f i = some b -> ρ i = some b \/ some b ∈ d) /\
  (∀ v z, Rep w ρ Im v z -> (∀ k, k < q.length -> ¬ Names v (id + k)) -> Rep w f Im v z) /\ ∀ i, (∀ k, k < q.length -> i ≠ id + k) -> f i = ρ i
 | [], [], [], id, ρ, σ, o, m, _, _, _, _ => ⟨ρ, o, m, ⟨rfl, fun j c y u => by simp [impL] at u⟩, fun i b p => .inl p, fun _ _ I _ => I, fun _ _ => rfl⟩
 | r :: q, y :: ys, ob :: d, id, ρ, σ, o, m, B, h, t, H => by
  rw [L1p] at H
  obtain ⟨K, V, S, r1, O, R, X, Z, p1⟩ := Jfe o m (id := id) (B 0 (by simp)) h.1 (fun b A => t b (by simp [A]))
  obtain ⟨L, W, T, Q, U, M, p2⟩ := JdJ q ys d (id + 1) K _ V S (fun k D => by
   have := B (k + 1) (by simp; omega)
   rw [show id + 1 + k = id + (k + 1) from by omega]
   exact X _ (by omega) this) h.2 (fun b A => ⟨fun i p => by
    rcases O i b p with l | l
    . exact (t b (by simp [A])).1 i l
    . subst l
      rcases H.1 (some b) A with l | l
      . cases l
      . exact l rfl, (t b (by simp [A])).2⟩) H.2
  refine ⟨L, ?_, T, ⟨?_, fun j c z u J => ?_⟩, fun i b p => ?_, fun v z I C => ?_, fun i p => (p2 i fun k D => by have := p (k + 1) (by simp; omega); omega).trans (p1 i (by have := p 0 (by simp); omega))⟩
  . simp only [impL, Jkl]; exact W
  . simp only [impL, L0h, Q.1]
  . simp only [impL] at u
    cases j with
    | zero =>
     simp at u J; subst u; subst J
     exact M _ _ r1 fun k D C => by have := Z _ C; omega
    | succ j => exact Q.2 j c z (by simpa using u) (by simpa using J)
  . rcases U i b p with l | l
    . rcases O i b l with s | s
      . exact .inl s
      . exact .inr (by simp [s])
    . exact .inr (by simp [l])
  . exact M v z (R v z I (C 0 (by simp))) fun k D F => C (k + 1) (by simp; omega) (by rw [show id + (k + 1) = id + 1 + k from by omega]; exact F)
def rlen : AV -> Nat
 | .tup c => c.length
 | .clo _ c => c.length
 | _ => 1
theorem Wit.back (hG : JaN C.G) (h : Wit C E σ a w ρ Im M) {w' : World} {r : AV} {y : Value} {id : Nat} (H : ∀ k, k < rlen r -> C.pin (id + k) = none) (T : ∀ k, k < rlen r -> Jbh (id + k) E σ) (hx : Ext w (fun _ => False) w') (I : RRep w w' Im r y)
 {dst : Option Nat} (hd : ∀ d, dst = some d -> d < C.N) :
 ∃ o f, Wit C (updO E dst (imp id r).1) (addS σ (imp id r).2) (a.put dst y) w' o f M := by
 obtain ⟨f, ac, R, I⟩ := I
 have ad : ∀ i b, ρ i = some b -> ¬ f b := fun i b q s => by
  rcases R b s with B | ⟨B, _⟩
  . exact h.inv.apart i b q B
  . have := h.inv.lt q; omega
 have aa : ∀ {v : AV} {z : Value}, Rep w ρ Im v z -> Rep w' ρ f v z := fun {v z} hv =>
  Rep.mono (w := w) (w' := w') ac (fun b s => hx.block b (h.inv.low b s) _root_.id) hv fun i _ => ⟨rfl, fun b q K e S => ⟨K, by rw [hx.block b (h.inv.lt q) _root_.id]; exact S, rfl⟩⟩
 have F : Inv w' ρ f σ := ⟨h.inv.nil, fun i k b U q hz => by
  obtain ⟨ab, ae, s, hl, S⟩ := h.inv.map i k b U q hz
  exact ⟨ab, ae, by rw [hx.block b (h.inv.lt q) _root_.id]; exact s, hl, fun i m hm => by obtain ⟨v, hv, I⟩ := S i m hm; exact ⟨v, hv, aa I⟩⟩, fun i k b U q hz => by
  obtain ⟨K, s, hl, hs, S⟩ := h.inv.blk i k b U q hz
  exact ⟨K, by rw [hx.block b (h.inv.lt q) _root_.id]; exact s, hl, hs, fun i e j c he af => by obtain ⟨v, hv, h1, I⟩ := S i e j c he af; exact ⟨v, hv, h1, aa I⟩⟩,
  h.inv.inj, h.inv.live, ad, fun b s => by
   rcases R b s with B | ⟨_, B⟩
   . exact L0R (h.inv.low b B) hx.size
   . exact B⟩
 have D : JaG w' ρ f E a.tmps := fun t z hz => aa (h.env t z hz)
 have O : ∀ (v : AV) (l : List (Nat × Blk)) (o : Nat -> Option Nat) (p : List (Option Nat)), Jde w.heap.size f p -> Inv w' o f (addS σ l) -> JaG w' o f E a.tmps -> Rep w' o f v y ->
  (∀ i b, o i = some b -> ρ i = some b \/ some b ∈ p) -> (∀ i, C.pin i ≠ none -> o i = ρ i) -> Wit C (updO E dst v) (addS σ l) (a.put dst y) w' o f M := fun v l o p u X L J Q p2 =>
  h.step hG (hx.mono fun _ _ h => h.elim) X (L.put J) (JbN ..) (Ja9 ..) (Jdy hd) (fun i b q => by
   rcases Q i b q with B | B
   . exact .inl B
   . exact .inr (u.1 b B).1) (fun b s => (R b s).imp_right fun h => h.1) (fun i b s => (p2 i (by rw [s]; simp)).trans (h.pin i b s)) ac
 have A : ∀ p, Jde w.heap.size f p -> ∀ b, some b ∈ p -> (∀ i, ρ i ≠ some b) /\ ¬ f b := fun p u b s => ⟨fun i q => by have := h.inv.lt q; have := (u.1 b s).1; omega, (u.1 b s).2⟩
 have ag : ∀ Z, R1 w' f r y Z -> Jde w.heap.size f [Z] -> Jbh id E σ -> C.pin id = none -> imp id r = imp1 id r -> ∃ o f, Wit C (updO E dst (imp id r).1) (addS σ (imp id r).2) (a.put dst y) w' o f M := fun Z V u S H he => by
  obtain ⟨o, X, L, J, Q, _, _, _, p2⟩ := Jfe F D (id := id) S V (fun b s => A [Z] u b (by simp [s]))
  rw [he]
  exact ⟨o, f, O _ _ o [Z] u X L J (fun i b q => by rcases Q i b q with B | B; exact .inl B; exact .inr (by simp [B])) (fun i q => p2 i fun e => q (by rw [e]; exact H))⟩
 cases r with
 | tup rs =>
  obtain ⟨ys, p, rfl, W, u⟩ := I
  obtain ⟨o, X, L, J, Q, _, p2⟩ := JdJ rs ys p id ρ σ F D T W (A p u) u.2
  exact ⟨o, f, O _ _ o p u X L (.tup _ ys J.1 J.2) Q (fun i q => p2 i fun k U e => q (by rw [e]; exact H k U))⟩
 | clo g rs =>
  obtain ⟨ys, p, rfl, W, u⟩ := I
  obtain ⟨o, X, L, J, Q, _, p2⟩ := JdJ rs ys p id ρ σ F D T W (A p u) u.2
  exact ⟨o, f, O _ _ o p u X L (.clo g _ ys J.1 J.2) Q (fun i q => p2 i fun k U e => q (by rw [e]; exact H k U))⟩
 | _ =>
  obtain ⟨Z, V, u⟩ := I
  exact ag Z V u (by simpa using T 0 (by simp [rlen])) (by simpa using H 0 (by simp [rlen])) rfl
def Ev (P : Program) (f : FuncId) (args : List AV) (r : AV) : Prop := FnOK P f fun a b => a = args /\ b = r
structure Sp where
 P : Program
 N : Nat
 b : Nat
 pin : Nat -> Bool
 rd : Bool := false
 yl : Nat
 Y : List AV -> AV -> (AV -> AV -> Prop) -> Prop
 bad : Nat -> Bool := fun _ => false
 old : Nat -> Bool := fun _ => true
 itf : Bool := false
abbrev JjM : Nat -> Bool := fun _ => false
def tpt (P : Program) (t : TypeId) : Bool := match P.underlying t with | some (.pointer _) => true | some .unsafePointer => true | _ => false
def cls (P : Program) (op : Op) (ty : TypeId) : Nat :=
 match op with
 | .move (.const (.slice none 0 0)) => if (tel P ty).isSome then 1 else 0
 | .assign (.const (.slice none 0 0)) => if (tel P ty).isSome then 1 else 0
 | .load _ (.global _) => 5
 | .binOp _ t _ _ _ => if tpt P t then 5 else 0
 | .slice _ _ _ _ (some _) => 5
 | .slice t _ _ _ none => if (tarr P t).isSome then 5 else 0
 | .move _ | .assign _ | .pick _ _ _ | .load _ _ | .nilCheck _ | .build _ _ | .unOp _ _ _ | .makeFunc _ _ _ | .fieldAddr _ _ _ | .field _ _ _ | .indexAddr _ _ _ | .index _ _ _
 | .extract _ _ => 0
 | .convert _ t _ => if (tint P t).isSome then 0 else 5
 | .alloc _ => 1
 | .box _ _ => 1
 | .buildSlice _ _ _ => 1
 | .makeSlice _ _ _ => 1
 | .call { callee := .value _, .. } => 2
 | .call { callee := .builtin .append, .. } => 3
 | .call { callee := .builtin .len, .. } => 0
 | .call { callee := .builtin .max, .. } => 0
 | .call { callee := .builtin .min, .. } => 0
 | .call { callee := .builtin .unsafeSliceData, .. } => 0
 | .store _ _ _ => 4
 | .go _ => 9
 | .defer _ => 9
 | .select _ _ => 9
 | .panic _ => 9
 | .send _ _ => 9
 | .recv _ _ _ => 9
 | _ => 5
def own (d : Nat) : Nat -> Bool := fun i => i / 16 == d
def kE (c : Bool) (d : Nat) (E : Env) : Env := if c then JaR (own d) E else E
def kS (c : Bool) (d : Nat) (σ : Jac) : Jac := if c then Jak (own d) σ else σ
mutual
def AV.dn : AV -> Bool
 | .any => false
 | .v _ => false
 | .yld _ => false
 | .own _ _ _ _ => true
 | .ptr _ _ _ _ => true
 | .mref _ => true
 | .agg c => AV.dnL c
 | .tup c => AV.dnL c
 | .clo _ c => AV.dnL c
 | .sl _ c => AV.dnL c
 | .cut _ c => AV.dnL c
 | .mp c => AV.dnL c
 | .pt e _ => AV.dn e
 | .new _ _ d => AV.dnL d
 | .nptr _ _ d => AV.dnL d
def AV.dnL : List AV -> Bool
 | [] => false
 | c :: d => AV.dn c || AV.dnL d
end
def Jex (S : Sp) (j : Bool) (h : Nat) (op : Op) (E : Env) (σ : Jac) (v : AV) (i : List (Nat × Blk)) : Prop :=
 match op with
 | .call { callee := .value f, args, argTypes := _ } => match ev E f with
  | .clo g c => JaH c = true /\ ∃ r, Ev S.P g ((args.toList.map (ev E) ++ c).map (res σ)) r /\ (AV.namesL allB (args.toList.map (ev E) ++ c) = false \/ r.flat = true) /\ rlen r <= 16 /\ (j = true \/ r.dn = false) /\
   v = (imp (16 * h) r).1 /\ i = (imp (16 * h) r).2
  | _ => False
 | _ => False
def Jmt (S : Sp) (op : Op) (E : Env) (d : Jac) (K : AV -> AV -> Prop) : Prop :=
 match op with
 | .call { callee := .value f, args, argTypes := _ } => match ev E f with
  | .yld l => l = S.yl /\ AV.namesL allB (args.toList.map (ev E)) = false /\ S.Y (args.toList.map (ev E)) (E S.N) K
  | _ => False
 | _ => False
def FW (r : Option Nat) : Fence := { fn := fun _ => True, depth := none, alive := false, round := r }
theorem Jqq (l : Nat) : (FW none).inRound l = FW (some l) := rfl
theorem JdB {r : Option Nat} {n : Nat} {P : Program} {f : FuncId} {c : Array Value} {w : World} {R : Ending -> World -> Prop} (h : Calls P f c w R) : CallsIn (FW r) n P f c w R := by
 have d : CallsIn Fence.wide n P f c w R := callsIn_wide.2 h
 exact d
def Fx.rdl (C : Fx) : Option Nat := C.rd.map (·.1)
def YOK (S : Sp) (C : Fx) : Prop :=
 ∀ d g K, S.Y d g K -> ∀ (w : World) (i : Nat -> Prop) (M : Str) (vs : List Value), (∀ b, i b -> b < w.heap.size /\ ¬ M.m b) -> (∀ b, M.m b -> b < w.heap.size) -> (∀ b, M.j b -> i b) -> (∀ b, i b -> C.Im0 b \/ C.w0.heap.size <= b) -> Jh7 w i d vs -> C.G g M w -> ∀ n,
  ∃ q h c f, (Instr.yield S.yl vs.toArray).run S.P w = .ok (.round S.yl q h c f) w /\ RoundIn (FW C.rdl) n S.P S.yl q h c f w fun e o =>
   ∃ v l k, e = .returned v /\ (∃ b, v = .bool b) /\ K (.v v) l /\ (∀ p, AV.namesB p l = false) /\ C.G l k o /\ (∀ b, k.m b -> b < o.heap.size /\ (M.m b \/ w.heap.size <= b)) /\ (∀ b, k.j b -> i b) /\ Ext w M.m o
def itA (r : Nat) (d : List AV) (c : AV) : AV := .tup [.v (.pointer (some ⟨r, 0, none⟩)), .sl 1 d, c]
def JB3 (ents : Array MapEntry) (seen : Array Nat) : List MapEntry := ents.toList.filter fun e => !seen.contains e.born
def itG (g : AV) (M : Str) (w : World) : Prop := ∀ r l h, g = itA r l h -> M.m r /\ ∃ i d f c, M.j i /\ w.heap[r]? = some (.mapIter (some i) f d f) /\ w.heap[i]? = some (.map c f) /\ Bn c f /\
 l = (JB3 c d).map (fun m => .v m.key) /\ ∀ k, h = .v k -> ∃ m ∈ c.toList, d.back? = some m.born /\ m.key = k
structure Holds (S : Sp) (C : Fx) : Prop where
 N : S.N = C.N
 G : JaN C.G
 Y : YOK S C
 mo : S.P.follows .mixedOrders = true
 pin : ∀ id b, C.pin id = some b -> S.pin id = true
 low : ∀ id, S.pin id = true -> id / 16 < S.b \/ S.b + 100000 <= id / 16
 big : S.N <= 99999
 rdn : S.rd = false -> C.rd = none
 fz : ∀ id b, C.X0 b -> C.R0 id b -> S.old id = true
 gk : GOK C.w0 C.J0
 gx : ∀ b, GIs b -> ¬ C.X0 b /\ b < C.w0.heap.size
 it : S.itf = true -> C.G = itG := by intro h; cases h
theorem Wit.gok {S : Sp} {C : Fx} {E : Env} {σ : Jac} {a : Act} {w : World} {ρ : Nat -> Option Nat} {Im : Nat -> Prop} {M : Str} (H : Holds S C) (h : Wit C E σ a w ρ Im M) : GOK w Im :=
 H.gk.mono h.j0 fun b c => h.ext.block b (H.gx b c).2 (H.gx b c).1
def semV (S : Sp) (o : Oper) (K : Env -> Jac -> Prop) (E : Env) (σ : Jac) : Prop :=
 ∀ (C : Fx), Holds S C -> ∀ (n : Nat) (a : Act) (w : World) (f : Act -> World -> Prop) (Q : Exit -> Act -> World -> Prop), St C E σ a w ->
  (∀ d c h i, K d c -> St C d c h i -> f h i) -> o.wpIn (FW C.rdl) n S.P a w f Q
def aop (S : Sp) (c i : Bool) (o : Oper) (K f : Env -> Jac -> Prop) (E : Env) (σ : Jac) : Prop :=
 match cls S.P o.op o.type with
 | 0 => ∃ v, JaE S.P o.op E σ v /\ K (updO E o.dst v) σ
 | 1 => ∃ d, o.dst = some d /\ ∃ v h, newV S.P (S.b + d) o.op o.type (kE c (S.b + d) E) v h /\ K (upd (kE c (S.b + d) E) d v) (addS (kS c (S.b + d) σ) h)
 | 2 => (∃ v h, Jex S c (S.b + o.dst.getD 99999) o.op (kE c (S.b + o.dst.getD 99999) E) (kS c (S.b + o.dst.getD 99999) σ) v h /\
  K (updO (kE c (S.b + o.dst.getD 99999) E) o.dst v) (addS (kS c (S.b + o.dst.getD 99999) σ) h)) \/
  (i = true /\ Jmt S o.op E σ fun v g => f (updO (upd E S.N g) o.dst v) σ) \/ (i = true /\ semV S o f E σ)
 | 3 => ∃ d, o.dst = some d /\ appV S.P o.op E σ fun id j n k => S.pin id = false /\ f (upd (JaR (isId id) E) d (.own id j 0 n)) (updS (Jak (isId id) σ) id (k.kill (isId id)))
 | 4 => Jd9 S.P o.op E σ fun id k => f (updO E o.dst (.v undef)) (updS σ id k)
 | 5 => semV S o f E σ
 | _ => False
def gop (S : Sp) (kd bi : Bool) (ops : Array Oper) (o : Oper) (K Kb : Env -> Jac -> Prop) (E : Env) (σ : Jac) : Prop :=
 match o.guard with
 | none => aop S kd bi o K Kb E σ
 | some (j, want) => match (ops[j]?).bind (·.dst) with
  | none => False
  | some t => match E t with
   | .v (.bool b) => (b = want -> aop S kd bi o K Kb (upd E t (.v (.bool want))) σ) /\ (b = !want -> K (updO (upd E t (.v (.bool !want))) o.dst (.v undef)) σ)
   | .v (.tuple _) => K (updO E o.dst (.v undef)) σ
   | _ => False
def waits (ops : Array Oper) : Nat -> Nat -> Nat -> Bool
 | 0, _, _ => false
 | n + 1, j, i => match ops[j]? with
  | some o => o.after.any fun e => Region.binds .any e && (e.on == i || waits ops n e.on i)
  | none => false
def bar (ops : Array Oper) (i : Nat) : Bool := (List.range ops.size).all fun j => j == i || waits ops ops.size i j || waits ops ops.size j i
def regP (S : Sp) (l : List Oper) : Nat -> Bool := fun i => (l.filterMap fun o => if cls S.P o.op o.type == 1 || cls S.P o.op o.type == 2 then some (S.b + o.dst.getD 99999) else none).contains (i / 16)
def struck (S : Sp) (c : Bool) (l : List Oper) (K : Env -> Jac -> Prop) (E : Env) (σ : Jac) : Prop := if c then K (JaR (regP S l) E) (Jak (regP S l) σ) else K E σ
def Jd1 (S : Sp) (dr : Bool) (ops : Array Oper) : Nat -> List Oper -> (Env -> Jac -> Prop) -> Env -> Jac -> Prop
 | _, [], K => K
 | i, o :: rest, K => gop S (!dr) (!dr || bar ops i) ops o (Jd1 S dr ops (i + 1) rest K) (struck S dr rest (Jd1 S dr ops (i + 1) rest K))
def JcV (K : Env -> Jac -> Prop) (Q : Exit -> Env -> Jac -> Prop) : Exit -> Env -> Jac -> Prop
 | .normal => K
 | e => Q e
def Jdh (id : Nat) (Q : Exit -> Env -> Jac -> Prop) : Exit -> Env -> Jac -> Prop
 | .exit c => if c = id then Q .normal else Q (.exit c)
 | e => Q e
def JeU (Q : Exit -> Env -> Jac -> Prop) : Exit -> Env -> Jac -> Prop
 | .goto _ => fun _ _ => False
 | e => Q e
def semC (S : Sp) (c : Code) (Q : Exit -> Env -> Jac -> Prop) (E : Env) (σ : Jac) : Prop :=
 ∀ (C : Fx), Holds S C -> ∀ (n : Nat) (R : Exit -> Act -> World -> Prop), (∀ e E σ a w, Q e E σ -> St C E σ a w -> R e a w) -> ∀ a w, St C E σ a w -> c.wpIn (FW C.rdl) n S.P R a w
def awp (S : Sp) : Code -> (Exit -> Env -> Jac -> Prop) -> Env -> Jac -> Prop
 | .skip, Q => Q .normal
 | .label _, Q => Q .normal
 | .seq a b, Q => awp S a (JcV (awp S b Q) Q)
 | .region id i d, Q => fun E h => if S.bad id = true then semC S (.region id i d) Q E h else struck S d i.toList (Jd1 S d i 0 i.toList (Q .normal)) E h
 | .cond c x y, Q => fun E h => match ev E c with
  | .v (.bool b) => (b = true -> awp S x Q E h) /\ (b = false -> awp S y Q E h)
  | _ => False
 | .block id c, Q => awp S c (Jdh id Q)
 | .scope c, Q => awp S c (JeU Q)
 | .loop c, Q => fun E h => ∃ (I : Env -> Jac -> Prop) (m : Env -> Jac -> Nat), I E h /\ ∀ E h, I E h -> awp S c (JcV (fun l k => I l k /\ m l k < m E h) Q) E h
 | .exit id, Q => Q (.exit id)
 | .ret, Q => Q .ret
 | .rangeFunc f p o j, Q => semC S (.rangeFunc f p o j) Q
 | _, _ => fun _ _ => False
def Oper.fits (P : Program) (N : Nat) (o : Oper) : Bool := o.dst.all (decide <| · < N) && Op.low N o.op && cls P o.op o.type != 9
def isNm (P : Program) (o : Oper) : Bool := cls P o.op o.type == 1 || cls P o.op o.type == 2
def Jd2 (P : Program) (ops : Array Oper) : Bool :=
 (List.range ops.size).all fun i => match ops[i]? with
  | none => false
  | some c => c.after.all (fun e => !Region.binds .any e || decide (e.on < i)) && (match c.guard with | some (g, _) => decide (g < i) | none => true) &&
   ((List.range ops.size).all fun j => decide (j <= i) || match ops[j]? with
    | none => false
    | some d => (waits ops ops.size j i || (c.apart ops d && decide (cls P c.op c.type <= 2) && decide (cls P d.op d.type <= 2))) &&
     (!isNm P c || !isNm P d || (c.dst.getD 99999 != d.dst.getD 99999)))
def JaZ (P : Program) (N : Nat) (bad : Nat -> Bool) : Code -> Bool
 | .skip => true
 | .label _ => true
 | .seq a b => JaZ P N bad a && JaZ P N bad b
 | .region id ops draw => (bad id || ops.toList.all (Oper.fits P N)) && (!draw || bad id || Jd2 P ops)
 | .cond c x y => Operand.low N c && JaZ P N bad x && JaZ P N bad y
 | .block _ c => JaZ P N bad c
 | .scope c => JaZ P N bad c
 | .loop c => JaZ P N bad c
 | .exit _ => true
 | .ret => true
 | .rangeFunc _ _ _ _ => true
 | .refuse _ => true
 | _ => false
section
variable {S : Sp} {C : Fx} {E : Env} {σ : Jac} {a : Act} {w : World} {ρ : Nat -> Option Nat} {Im : Nat -> Prop} {M : Str}
theorem Holds.own (H : Holds S C) {d : Nat} (f : d < 100000) : ∀ id b, C.pin id = some b -> Vai.own (S.b + d) id = false := fun id b c => by
 have := H.low id (H.pin id b c)
 simp only [Vai.own, beq_eq_false_iff_ne]; omega
theorem Holds.free (H : Holds S C) {d : Nat} (c : d < 100000) : ∀ k, k < 16 -> C.pin (16 * (S.b + d) + k) = none := fun k f => by
 cases hp : C.pin (16 * (S.b + d) + k) with
 | none => rfl
 | some b =>
  have := H.own c _ b hp
  simp only [Vai.own, beq_eq_false_iff_ne] at this; omega
theorem JaL {o : Oper} {y : Value} {w' : World} {n : Nat} {K : Act -> World -> Prop} {Q : Exit -> Act -> World -> Prop} (d : ∀ c, o.op ≠ .defer c)
 (f : (execOp a.eval o).run S.P w = .ok (.value y) w') (h : K (a.put o.dst y) w') : o.wpIn (FW C.rdl) n S.P a w K Q := by
 refine ⟨fun _ _ => trivial, ?_⟩
 rw [Oper.semAt_eq _ _ _ d, f]; exact h
theorem Jfz {o : Oper} {w' : World} {n : Nat} {K : Act -> World -> Prop} {Q : Exit -> Act -> World -> Prop} (d : ∀ c, o.op ≠ .defer c)
 (f : (execOp a.eval o).run S.P w = .ok .skip w') (h : K (a.put o.dst undef) w') : o.wpIn (FW C.rdl) n S.P a w K Q := by
 refine ⟨fun _ _ => trivial, ?_⟩
 rw [Oper.semAt_eq _ _ _ d, f]; exact h
theorem JcY {o : Oper} {N : Nat} (h : Oper.fits S.P N o = true) : (∀ d, o.dst = some d -> d < N) /\ Op.low N o.op = true /\ cls S.P o.op o.type ≠ 9 := by
 simp only [Oper.fits, L00, bne_iff_ne, ne_eq] at h
 refine ⟨fun d c => ?_, h.1.2, h.2⟩
 have := h.1.1; rw [c] at this; simpa using this
theorem Jgs {P : Program} {op : Op} {ty : TypeId} (h : cls P op ty ≠ 9) : ∀ c, op ≠ .defer c := fun c e => by subst e; exact h rfl
theorem Jks (H : Holds S C) (h : Wit C E σ a w ρ Im M) {o : Oper} (hf : Oper.fits S.P S.N o = true) {d : Nat} (hpn : ∀ k, k < 16 -> C.pin (16 * d + k) = none) (hcl : ∀ k, k < 16 -> Jbh (16 * d + k) E σ) {v : AV} {bl : List (Nat × Blk)} {kd : Bool}
 (hv : Jex S kd d o.op E σ v bl) {n : Nat} {K : Act -> World -> Prop} {Q : Exit -> Act -> World -> Prop} (hK : ∀ y w' ρ' Im', Wit C (updO E o.dst v) (addS σ bl) (a.put o.dst y) w' ρ' Im' M -> K (a.put o.dst y) w') :
 o.wpIn (FW C.rdl) n S.P a w K Q := by
 obtain ⟨hdst, hlow, hc9⟩ := JcY hf
 have rep : ∀ x, x ∈ o.op.operands -> Rep w ρ Im (ev E x) (a.eval x) := fun x hx => JbD h.env (by rw [h.size, <- H.N]; exact Jbq hlow hx)
 have hdf := Jgs hc9
 refine ⟨fun _ _ => trivial, ?_⟩
 rw [Oper.semAt_eq _ _ _ hdf]; obtain ⟨dst, op, ty, pos, after, guard⟩ := o
 simp only at hdst hlow hv hK rep
 unfold Jex at hv
 split at hv
 . rename_i f args ats
   split at hv
   . rename_i g caps hfv; obtain ⟨hhd, r, hΓ, hor, hrl, _, rfl, rfl⟩ := hv
     have hfr := rep f (by simp [Op.operands, Call.operands])
     rw [hfv] at hfr
     obtain ⟨cys, hfy, hcl', hcr⟩ := hfr.clo_plain hhd
     have hargs : ∀ x ∈ args.toList, Rep w ρ Im (ev E x) (a.eval x) := fun x hx => rep x (by simp [Op.operands, Call.operands]; exact Or.inr (L0s.1 hx))
     -- the arguments and what was captured
     have hall : Reps w ρ Im (args.toList.map (ev E) ++ caps) (args.toList.map a.eval ++ cys) := by
      refine ⟨by simp [hcl'], fun j c y hc hy => ?_⟩
      by_cases hj : j < args.toList.length
      . rw [L0l (by simpa using hj), L03] at hc hy
        rw [L09 hj] at hc hy
        simp at hc hy; subst hc; subst hy
        exact hargs _ (by simp)
      . rw [L0o (by simp at hj ⊢; omega)] at hc hy
        simp only [L06] at hc hy
        exact hcr _ c y hc hy
     obtain ⟨henter, hfn⟩ := hΓ _ r ⟨rfl, rfl⟩
     have hrun : (execOp a.eval { dst, op := .call { callee := .value f, args, argTypes := ats }, type := ty, pos, after, guard }).run S.P w = .ok (.enter g (args.toList.map a.eval ++ cys).toArray) w := by
      simp only [execOp, resolve, hfy, Deferred.ofValue, Sem.run_bind, Sem.run_pure, Result.andThen_ok, invoke]
      have e1 : (#[] ++ args.map a.eval ++ cys.toArray : Array Value) = (args.toList.map a.eval ++ cys).toArray := by apply L0S.1; simp
      rw [e1]; exact henter _ w
     rw [hrun]
     refine ⟨fun h => by simp [FW] at h, JdB ?_⟩
     have back : ∀ y w', Ext w (fun _ => False) w' -> RRep w w' Im r y -> K (a.put dst y) w' := fun y w' hx hr => by
      obtain ⟨ρ', Im', hw⟩ := h.back H.G (id := 16 * d) (fun k hk => hpn k (by omega)) (fun k hk => hcl k (by omega)) hx hr (dst := dst) (by rw [<- H.N]; exact hdst)
      exact hK y w' ρ' Im' hw
     rcases hor with hn | hflat
     . have hres : (args.toList.map (ev E) ++ caps).map (res σ) = args.toList.map (ev E) ++ caps := by
        rw [L0Y (g := id)]
        . simp
        . intro x hx
          refine JjV ?_
          cases hb : AV.namesB allB x with
          | false => rfl
          | true => have := (AV.namesL_iff allB _).2 ⟨x, hx, hb⟩; rw [hn] at this; cases this
       rw [hres] at hfn
       refine (hfn w Im _ h.inv.low (h.gok H) ⟨hall.1, fun j c y hc hy => Jbx (hall.2 j c y hc hy) fun id hid => ?_⟩).mono fun e w' ⟨y, he, hx, hr⟩ => by subst he; exact back y w' hx hr
       have := (AV.namesL_iff allB _).2 ⟨c, L01 hc, AV.namesB_of allB hid rfl⟩
       rw [hn] at this; cases this
     . refine (hfn w (Seen Im ρ) _ (fun b hb => by
        rcases hb with hb | ⟨id, hb⟩
        . exact h.inv.low b hb
        . exact h.inv.lt hb) ((h.gok H).mono (fun _ h => .inl h) fun _ _ => rfl) ⟨by simpa using hall.1, fun j c y hc hy => ?_⟩).mono fun e w' ⟨y, he, hx, hr⟩ => by subst he; exact back y w' hx (hr.flat hflat h.inv.low)
       rw [L03] at hc
       cases hcj : (args.toList.map (ev E) ++ caps)[j]? with
       | none => simp [hcj] at hc
       | some c0 => simp [hcj] at hc; subst hc; exact Jg3 h.inv (hall.2 j c0 y hcj hy)
   . exact hv.elim
 . exact hv.elim
theorem Rep.yld_inv {l : Nat} {y : Value} (h : Rep w ρ Im (.yld l) y) : y = .func (.yield l) #[] #[] := by
 cases h with | im _ _ h => cases h; rfl
theorem Jkk (H : Holds S C) (h : Wit C E σ a w ρ Im M) {o : Oper} (hf : Oper.fits S.P S.N o = true) {A : AV -> AV -> Prop}
 (hv : Jmt S o.op E σ A) {n : Nat} {K : Act -> World -> Prop} {Q : Exit -> Act -> World -> Prop} (hK : ∀ v g y w' M', A v g -> Wit C (updO (upd E S.N g) o.dst v) σ (a.put o.dst y) w' ρ Im M' -> K (a.put o.dst y) w') :
 o.wpIn (FW C.rdl) n S.P a w K Q := by
 obtain ⟨hdst, hlow, hc9⟩ := JcY hf
 have rep : ∀ x, x ∈ o.op.operands -> Rep w ρ Im (ev E x) (a.eval x) := fun x hx => JbD h.env (by rw [h.size, <- H.N]; exact Jbq hlow hx)
 have hdf := Jgs hc9
 refine ⟨fun _ _ => trivial, ?_⟩
 rw [Oper.semAt_eq _ _ _ hdf]; obtain ⟨dst, op, ty, pos, after, guard⟩ := o
 simp only at hdst hlow hv hK rep
 unfold Jmt at hv
 split at hv
 . rename_i f args ats
   split at hv
   . rename_i l hfv; obtain ⟨rfl, hn, hY⟩ := hv
     have hfr := rep f (by simp [Op.operands, Call.operands])
     rw [hfv] at hfr
     have hfy : a.eval f = .func (.yield S.yl) #[] #[] := hfr.yld_inv
     have hargs : Jh7 w Im (args.toList.map (ev E)) (args.toList.map a.eval) := by
      refine ⟨by simp, fun j c y hc hy => ?_⟩
      rw [L03] at hc hy
      cases hx : args.toList[j]? with
      | none => simp [hx] at hc
      | some x =>
       simp only [hx, L0N, Option.some.injEq] at hc hy
       subst hc; subst hy
       have hmem := L01 hx
       refine Jbx (rep x (by simp [Op.operands, Call.operands]; exact Or.inr (L0s.1 hmem))) fun id hid => ?_
       have := (AV.namesL_iff allB _).2 ⟨ev E x, L08.2 ⟨x, hmem, rfl⟩, AV.namesB_of allB hid rfl⟩
       rw [hn] at this; cases this
     rw [H.N] at hY
     obtain ⟨fn, tmps, assign, body, hyr, hround⟩ := H.Y _ _ _ hY w Im M _ (fun b hb => ⟨h.inv.low b hb, fun hm => (h.ms b hm).2.2.1 hb⟩) (fun b hb => (h.ms b hb).1) h.js h.im hargs h.g (n - 1)
     have hrun : (execOp a.eval { dst, op := .call { callee := .value f, args, argTypes := ats }, type := ty, pos, after, guard }).run S.P w = .ok (.round S.yl fn tmps assign body) w := by
      simp only [execOp, resolve, hfy, Deferred.ofValue, Sem.run_bind, Sem.run_pure, Result.andThen_ok, invoke]
      have e1 : (#[] ++ args.map a.eval : Array Value) = (args.toList.map a.eval).toArray := by apply L0S.1; simp
      rw [e1]; exact hyr
     rw [hrun]
     refine ⟨fun h => by simp [FW] at h, hround.mono ?_⟩
     rintro e w' ⟨v, g', M', rfl, ⟨b, rfl⟩, hA, hgn, hG', hM', hJ', hx⟩
     refine hK _ g' _ w' M' hA ?_
     have hIm : ∀ b, Im b -> ¬ M.m b := fun b hb hm => (h.ms b hm).2.2.1 hb
     have hrho : ∀ i b, ρ i = some b -> ¬ M.m b := fun i b hi hm => (h.ms b hm).2.1 i hi
     have rep' : ∀ {v : AV} {z : Value}, Rep w ρ Im v z -> Rep w' ρ Im v z := fun {v z} hv =>
      Rep.mono (w := w) (w' := w') (fun _ h => h) (fun b hb => hx.block b (h.inv.low b hb) (hIm b hb)) hv fun i _ => ⟨rfl, fun b hi cur e hc => ⟨cur, by rw [hx.block b (h.inv.lt hi) (hrho i b hi)]; exact hc, rfl⟩⟩
     have hNne : S.N = C.N := H.N
     refine {
      inv := ⟨h.inv.nil, fun i k b hk hi hz => by
       obtain ⟨ents, clk, hb, hl, hc⟩ := h.inv.map i k b hk hi hz
       exact ⟨ents, clk, by rw [hx.block b (h.inv.lt hi) (hrho i b hi)]; exact hb, hl, fun i m hm => by obtain ⟨v, hv, hr⟩ := hc i m hm; exact ⟨v, hv, rep' hr⟩⟩, fun i k b hk hi hz => by
       obtain ⟨cur, hb, hl, hs, hc⟩ := h.inv.blk i k b hk hi hz
       exact ⟨cur, by rw [hx.block b (h.inv.lt hi) (hrho i b hi)]; exact hb, hl, hs, fun i e j c he hcc => by obtain ⟨v, hv, h1, hr⟩ := hc i e j c he hcc; exact ⟨v, hv, h1, rep' hr⟩⟩,
       h.inv.inj, h.inv.live, h.inv.apart, fun b hb => L0R (h.inv.low b hb) hx.size⟩
      env := ?_, size := (JbN ..).trans h.size
      ext := h.ext.trans hx fun b hb => (h.ms b hb).2.2.2
      rng := h.rng, im := h.im, pin := h.pin, js := hJ', j0 := h.j0
      gh := ?_, g := ?_
      ms := fun b hb => ?_
      rd := fun l r hr => by
       have hb : C.book a l := .inl ⟨r, hr⟩
       rw [hx.block l (h.bklt hb) (h.bk l hb).2.2]; exact h.rd l r hr
      nodup := by rw [Ja9]; exact h.nodup
      df := fun dd hdd => by
       rw [Ja9] at hdd
       obtain ⟨D, e, hD, hl⟩ := h.df dd hdd
       have hb : C.book a D := .inr (e ▸ hdd)
       exact ⟨D, e, by rw [hx.block D (h.bklt hb) (h.bk D hb).2.2]; exact hD, hl⟩
      bk := fun b hb => ?_ }
     . refine JaG.put (dst := dst) (tm := a) (E := upd E S.N g') (fun t y hy => ?_) (.im _ _ (.v _))
       simp only [upd]
       rw [if_neg (fun e => by
        have hlt := (L0k.1 hy).1
        rw [h.size] at hlt; omega)]
       exact rep' (h.env t y hy)
     . intro p
       rw [Jdy (E := upd E S.N g') (N := C.N) (by rw [<- H.N]; exact hdst)]
       simp only [upd, hNne, if_true]; exact hgn p
     . rw [Jdy (E := upd E S.N g') (N := C.N) (by rw [<- H.N]; exact hdst)]
       simp only [upd, hNne, if_true]; exact hG'
     . obtain ⟨h1, h2⟩ := hM' b hb
       refine ⟨h1, fun i hi => ?_, fun hi => ?_, ?_⟩
       . rcases h2 with h2 | h2
         . exact hrho i b hi h2
         . have := h.inv.lt hi; omega
       . rcases h2 with h2 | h2
         . exact hIm b hi h2
         . have := h.inv.low b hi; omega
       . rcases h2 with h2 | h2
         . exact (h.ms b h2).2.2.2
         . exact .inr (L0r h.ext.size h2)
     . have hb : C.book a b := by unfold Fx.book at *; rwa [Ja9] at hb
       obtain ⟨h1, h2, h3⟩ := h.bk b hb
       refine ⟨h1, h2, fun hm => ?_⟩
       rcases (hM' b hm).2 with h4 | h4
       . exact h3 h4
       . have := h.bklt hb; omega
   . exact hv.elim
 . exact hv.elim
end
section
variable {S : Sp} {C : Fx} {E : Env} {σ : Jac} {a : Act} {w : World} {ρ : Nat -> Option Nat} {Im : Nat -> Prop} {M : Str}
theorem Jx7 (d k : Nat) (h : k < 16) : own d (16 * d + k) = true := by
 simp only [own, beq_iff_eq]; omega
theorem JjC (d : Nat) (E : Env) (σ : Jac) : ∀ k, k < 16 -> Jbh (16 * d + k) (JaR (own d) E) (Jak (own d) σ) := fun k c => JbC (Jx7 d k c) E σ
theorem Jix (H : Holds S C) (h : Wit C E σ a w ρ Im M) (c : Bool) (d : Nat) (j : ∀ id b, C.pin id = some b -> own d id = false) (f : c = false -> ∀ k, k < 16 -> Jbh (16 * d + k) E σ) :
 ∃ i, Wit C (kE c d E) (kS c d σ) a w i Im M /\ ∀ k, k < 16 -> Jbh (16 * d + k) (kE c d E) (kS c d σ) := by
 cases c with
 | true => exact ⟨_, h.kill H.G (own d) j, JjC d E σ⟩
 | false => exact ⟨ρ, h, f rfl⟩
theorem Jrz (H : Holds S C) {id : Nat} (h : S.pin id = false) : C.pin id = none := by
 cases hc : C.pin id with
 | none => rfl
 | some b => have := H.pin id b hc; rw [h] at this; cases this
theorem Jlj {x : AV} {K K' : Nat -> List AV -> Prop} (f : ∀ a b, K a b -> K' a b) (h : Jd8 σ x K) : Jd8 σ x K' := by
 unfold Jd8 at *
 split at h
 . exact f _ _ h
 . exact f _ _ h
 . obtain ⟨k, a, b, c, d⟩ := h; exact ⟨k, a, b, c, f _ _ d⟩
 . exact h
theorem Ji5 {P : Program} {op : Op} {K K' : Nat -> Nat -> Nat -> Blk -> Prop} (y : ∀ a b c d, K a b c d -> K' a b c d) (h : appV P op E σ K) : appV P op E σ K' := by
 unfold appV at *
 split at h
 . split at h
   . obtain ⟨m, e, o, p, q, l⟩ := h
     refine ⟨m, e, o, p, q, ?_⟩
     split at l
     . obtain ⟨s, k, t, u, w, i, j⟩ := l
       exact ⟨s, k, t, u, w, i, Jlj (fun _ _ f => ⟨f.1, f.2.1, f.2.2.1, f.2.2.2.1, y _ _ _ _ f.2.2.2.2⟩) j⟩
     . exact l
   . exact h
 . exact h
theorem Jgh (H : Holds S C) (h : Wit C E σ a w ρ Im M) {o : Oper} (Z : Oper.fits S.P S.N o = true) (R bi : Bool)
 (J : R = false -> (cls S.P o.op o.type = 1 \/ cls S.P o.op o.type = 2) -> ∀ k, k < 16 -> Jbh (16 * (S.b + o.dst.getD 99999) + k) E σ) {K Kb : Env -> Jac -> Prop} (z : aop S R bi o K Kb E σ)
 {n : Nat} {Kc : Act -> World -> Prop} {Q : Exit -> Act -> World -> Prop} (V : ∀ E' p F w', K E' p -> St C E' p F w' -> Kc F w') (j : ∀ E' p F w', Kb E' p -> St C E' p F w' -> Kc F w') : o.wpIn (FW C.rdl) n S.P a w Kc Q := by
 obtain ⟨f, i, X⟩ := JcY Z
 have t := Jgs X
 have c : ∀ d, o.dst = some d -> d < C.N := by rw [<- H.N]; exact f
 have L : o.dst.getD 99999 < 100000 := by
  cases q : o.dst with
  | none => simp
  | some d => exact L0R (f d q) (L0r H.big (by decide))
 unfold aop at z
 split at z
 . obtain ⟨v, hp, u⟩ := z
   obtain ⟨y, D, O⟩ := Jk2 h.inv h.env (by rw [h.size, <- H.N]; exact i) hp
   exact JaL t D (V _ _ _ _ u ⟨ρ, Im, M, h.put H.G c O⟩)
 . rename_i W; obtain ⟨d, q, v, bl, hn, u⟩ := z
   obtain ⟨aa, U, s⟩ := Jix H h R (S.b + d) (H.own (L0R (f d q) (L0r H.big (by decide)))) (fun e => by have := J e (.inl W); rw [q] at this; exact this)
   obtain ⟨y, w', l, D, A⟩ := Jm8 H.G U (H.free (L0R (f d q) (L0r H.big (by decide)))) (by simpa using s 0 (by omega)) (s 1 (by omega)) (c d q) q (by rw [<- H.N]; exact i) hn
   exact JaL t D (V _ _ _ _ u ⟨l, Im, M, A⟩)
 . rename_i W
   rcases z with ⟨v, bl, B, u⟩ | ⟨_, hy⟩ | ⟨_, hs⟩
   . obtain ⟨aa, U, s⟩ := Jix H h R (S.b + o.dst.getD 99999) (H.own L) (fun e => J e (.inr W))
     exact Jks H U Z (H.free L) s B fun y w' l T A => V _ _ _ _ u ⟨l, T, M, A⟩
   . exact Jkk H h Z hy fun v g y w' M' hA A => j _ _ _ _ hA ⟨ρ, Im, M', A⟩
   . exact hs C H n a w Kc Q ⟨ρ, Im, M, h⟩ j
 . obtain ⟨d, q, I⟩ := z
   obtain ⟨id, sz, m, k, y, w', l, u, D, A⟩ := JnR H.G h (c d q) q (by rw [<- H.N]; exact i) (Ji5 (fun _ _ _ _ hh => ⟨Jrz H hh.1, hh.2⟩) I)
   exact JaL t D (j _ _ _ _ u ⟨l, Im, M, A⟩)
 . obtain ⟨id, k, w', u, D, A⟩ := Jll H.G h (by rw [<- H.N]; exact i) z
   exact Jfz t D (j _ _ _ _ u ⟨ρ, Im, M, A.put H.G c (.im _ _ (.v _))⟩)
 . exact z C H n a w Kc Q ⟨ρ, Im, M, h⟩ j
 . exact z.elim
theorem Jh5 (h : Wit C E σ a w ρ Im M) {ops : Array Oper} {j t : Nat} (i : (ops[j]?).bind (·.dst) = some t) (d : t < C.N) {x : Value} (k : E t = .v x) :
 yielded ops a.tmps j = match x with | .bool b => some b | _ => none := by
 have f : t < a.tmps.size := by rw [h.size]; exact d
 have c := h.env t a.tmps[t] (L0g f); rw [k] at c; have c := c.v_inv; unfold yielded; rw [i]; simp only [Option.bind_some, L0g f, c]
 cases x <;> rfl
def JfT (n : Nat) (P : Program) (r : Option Nat) (ops : Array Oper) (o : Oper) (K : Act -> World -> Prop) (Q : Exit -> Act -> World -> Prop) (a : Act) (w : World) : Prop :=
 if Region.wanted o (yielded ops a.tmps) then o.wpIn (FW r) n P a w K Q else K (a.put o.dst undef) w
theorem Jcq {n : Nat} {P : Program} {r : Option Nat} {ops : Array Oper} {i : Nat} {o : Oper} (d : ops[i]? = some o) {K : Act -> World -> Prop} {Q : Exit -> Act -> World -> Prop} {a : Act} {w : World}
 (h : JfT n P r ops o K Q a w) : wpOpIn (FW r) n P ops Q i K a w := by
 unfold wpOpIn JfT at *; simp only [d]
 split
 . rename_i c; rw [if_pos c] at h; exact h
 . rename_i c; rw [if_neg c] at h; exact ⟨fun _ _ => trivial, h⟩
theorem Jdm (H : Holds S C) (h : Wit C E σ a w ρ Im M) {ops : Array Oper} (hall : ∀ (i : Nat) (o : Oper), ops[i]? = some o -> Oper.fits S.P S.N o = true) {o : Oper} (hf : Oper.fits S.P S.N o = true) (kd bi : Bool)
 (hcl : kd = false -> (cls S.P o.op o.type = 1 \/ cls S.P o.op o.type = 2) -> ∀ k, k < 16 -> Jbh (16 * (S.b + o.dst.getD 99999) + k) E σ) {K Kb : Env -> Jac -> Prop} (hv : gop S kd bi ops o K Kb E σ)
 {n : Nat} {Kc : Act -> World -> Prop} {Q : Exit -> Act -> World -> Prop} (hK : ∀ E' σ' a' w', K E' σ' -> St C E' σ' a' w' -> Kc a' w') (hKb : ∀ E' σ' a' w', Kb E' σ' -> St C E' σ' a' w' -> Kc a' w') : JfT n S.P C.rdl ops o Kc Q a w := by
 obtain ⟨hdst, _, _⟩ := JcY hf
 have hdst' : ∀ d, o.dst = some d -> d < C.N := by rw [<- H.N]; exact hdst
 unfold gop at hv; unfold JfT
 split at hv
 . rename_i hg
   rw [if_pos (by simp [Region.wanted, hg])]
   exact Jgh H h hf kd bi hcl hv hK hKb
 . rename_i j want hg
   split at hv
   . exact hv.elim
   . rename_i t ht
     have htN : t < C.N := by
      cases hj : ops[j]? with
      | none => simp [hj] at ht
      | some oj => simp [hj] at ht; rw [<- H.N]; exact (JcY (hall j oj hj)).1 t ht
     split at hv
     . rename_i b hb; have hy := Jh5 h ht htN hb
       simp only at hy
       by_cases hbw : b = want
       . subst hbw
         rw [if_pos (by simp [Region.wanted, hg, hy])]
         have hv1 := hv.1 rfl; rw [Jb9 E t _ hb] at hv1
         exact Jgh H h hf kd bi hcl hv1 hK hKb
       . rw [if_neg (by simp [Region.wanted, hg, hy, hbw])]
         have hv2 := hv.2 (by cases b <;> cases want <;> simp_all)
         have hb' : E t = .v (.bool !want) := by rw [hb]; cases b <;> cases want <;> simp_all
         rw [Jb9 E t _ hb'] at hv2
         exact hK _ _ _ _ hv2 ⟨ρ, Im, M, h.put H.G hdst' (.im _ _ (.v _))⟩
     . rename_i vs hb; have hy := Jh5 h ht htN hb
       simp only at hy
       rw [if_neg (by simp [Region.wanted, hg, hy])]
       exact hK _ _ _ _ hv ⟨ρ, Im, M, h.put H.G hdst' (.im _ _ (.v _))⟩
     . exact hv.elim
theorem Jcs (H : Holds S C) {ops : Array Oper} (hall : ∀ (i : Nat) (o : Oper), ops[i]? = some o -> Oper.fits S.P S.N o = true) {n : Nat} {K : Env -> Jac -> Prop} {Q : Exit -> Act -> World -> Prop}
 (hK : ∀ E σ a w, K E σ -> St C E σ a w -> Q .normal a w) : ∀ (l : List Oper) (i : Nat) (E : Env) (σ : Jac) (a : Act) (w : World), (∀ j, l[j]? = ops[i + j]?) -> Jd1 S false ops i l K E σ -> St C E σ a w ->
 wpOpsIn (FW C.rdl) n S.P ops Q (List.range' i l.length) a w
 | [], i, E, σ, a, w, _, hv, hs => hK E σ a w hv hs
 | o :: l, i, E, σ, a, w, hl, hv, hs => by
  have ho : ops[i]? = some o := by simpa using (hl 0).symm
  obtain ⟨ρ, Im, M, h⟩ := hs; rw [L0h, L22, wpOpsIn_cons]
  have go : ∀ E' σ' a' w', Jd1 S false ops (i + 1) l K E' σ' -> St C E' σ' a' w' -> wpOpsIn (FW C.rdl) n S.P ops Q (List.range' (i + 1) l.length) a' w' := fun E' σ' a' w' hk hs' =>
   Jcs H hall hK l (i + 1) E' σ' a' w' (fun j => by have := hl (j + 1); simpa [L0O, Nat.add_comm 1 j] using this) hk hs'
  exact Jcq ho (Jdm H h hall (hall i o ho) true _ (fun e => by cases e) hv go fun E' σ' a' w' hk hs' => go E' σ' a' w' (by simpa [struck] using hk) hs')
theorem St.kill (d : JaN C.G) (h : St C E σ a w) (p : Nat -> Bool) (f : ∀ id b, C.pin id = some b -> p id = false) : St C (JaR p E) (Jak p σ) a w := by
 obtain ⟨i, c, M, h⟩ := h
 exact ⟨_, c, M, h.kill d p f⟩
theorem St.drew (f : JaN C.G) (h : St C E σ a w) (n : Nat) : St C E σ a { w with drawn := n } := by
 obtain ⟨i, d, M, h⟩ := h
 exact ⟨_, d, M, h.drew f n⟩
def Ji2 (S : Sp) (C : Fx) : Prop :=
 ∀ (c : Array Oper), c.toList.all (Oper.fits S.P S.N) = true -> Jd2 S.P c = true -> ∀ (n : Nat) (K : Env -> Jac -> Prop) (Q : Exit -> Act -> World -> Prop) (E : Env) (d : Jac) (a : Act) (w : World),
  (∀ E d a w, K E d -> St C E d a w -> Q .normal a w) -> struck S true c.toList (Jd1 S true c 0 c.toList K) E d -> St C E d a w ->
  ∀ id, (Code.region id c true).wpIn (FW C.rdl) n S.P Q a w
theorem Jb0 {P : Program} {b : Frame} {a : Act} {k : List Item} {cs : List Frame} {w : World} {c : Code} : step P (lone (b.atR a (.code (.scope c) :: k)) cs w) = .next (lone (b.atR a (.code c :: .inScope c :: k)) cs w) :=
 step_lone_go (by simp [stepG, stepG.exec, Frame.atR])
theorem JiQ {P : Program} {b : Frame} {a : Act} {k : List Item} {cs : List Frame} {w : World} {c : Code} : step P (lone (b.atR a (.inScope c :: k)) cs w) = .next (lone (b.atR a k) cs w) :=
 step_lone_go (by simp [stepG, stepG.exec, Frame.atR])
theorem Jes {F : Fence} {n : Nat} {P : Program} {Q : Exit -> Act -> World -> Prop} {a : Act} {w : World} {c : Code} (h : c.wpIn F n P (Exit.noGoto Q) a w) : (Code.scope c).wpIn F n P Q a w := by
 intro b k u t o q
 have j : (lone (b.atR a (.code (.scope c) :: k)) u w).fenced P F := fenced_calm o q rfl
 obtain ⟨e, f, i, m, d⟩ := h b (.inScope c :: k) u t o q
 cases e with
 | normal => exact ⟨.normal, f, i, m, .head j Jb0 (StepsIn.trans d (.one (fenced_calm o q rfl) JiQ))⟩
 | exit id =>
  have y : exitTo id (.inScope c :: k) = exitTo id k := by simp [exitTo]
  exact ⟨.exit id, f, i, m, fun z p => .head j Jb0 (d.1 z (by rw [y]; exact p)),
   fun s p => let ⟨k₁, h1, h2⟩ := d.2 s (by rw [y]; exact p); ⟨k₁, h1, .head j Jb0 h2⟩⟩
 | goto l => exact m.elim
 | ret => exact ⟨_, f, i, m, .of_steps (.one j Jb0) d⟩
 | panic A => exact ⟨_, f, i, m, .of_steps (.one j Jb0) d⟩
 | outgrown => exact ⟨_, f, i, m, .of_steps (.one j Jb0) d⟩
theorem Jgk (H : Holds S C) (HD : Ji2 S C) {n : Nat} : ∀ (c : Code) (Q : Exit -> Env -> Jac -> Prop) (E : Env) (σ : Jac), JaZ S.P S.N S.bad c = true -> awp S c Q E σ ->
 ∀ (R : Exit -> Act -> World -> Prop), (∀ e E σ a w, Q e E σ -> St C E σ a w -> R e a w) -> ∀ a w, St C E σ a w -> c.wpIn (FW C.rdl) n S.P R a w := by
 intro c
 induction c with
 | skip => intro Q E σ _ s R j a w t; exact wpIn_skip (j _ _ _ _ _ s t)
 | label l => intro Q E σ _ s R j a w t; exact wpIn_label (j _ _ _ _ _ s t)
 | seq x y V W =>
  intro Q E σ p s R j a w t
  simp only [JaZ, L00] at p
  refine wpIn_seq (V _ E σ p.1 s _ (fun e D u F J q d => ?_) a w t)
  cases e with
  | normal => exact W Q D u p.2 q R j F J d
  | exit id => exact j _ _ _ _ _ q d
  | goto l => exact j _ _ _ _ _ q d
  | ret => exact j _ _ _ _ _ q d
  | panic ch => exact j _ _ _ _ _ q d
  | outgrown => exact j _ _ _ _ _ q d
 | region id O ab =>
  intro Q E σ p s R j a w t
  simp only [JaZ, L00, L0z, L0U] at p; simp only [awp] at s
  by_cases hbad : S.bad id = true
  . rw [if_pos hbad] at s
    exact s C H n R j a w t
  rw [if_neg hbad] at s
  have T : O.toList.all (Oper.fits S.P S.N) = true := p.1.resolve_left hbad
  have ad : ∀ (i : Nat) (o : Oper), O[i]? = some o -> Oper.fits S.P S.N o = true := fun i o ho => L0c.1 T o (L0s.2 (L1v ho))
  cases ab with
  | false =>
   simp only [struck, L0D, if_false] at s
   refine wpIn_region ?_
   have := Jcs H ad (n := n) (Q := R) (fun E σ a w hk t => j .normal E σ a w hk t) O.toList 0 E σ a w (by simp) s t
   rw [L0x, <- L1B] at this; exact this
  | true =>
   exact HD O T (by have h := p.2; simp [hbad] at h; exact h) n (Q .normal) R E σ a w (fun E σ a w hk t => j .normal E σ a w hk t) s t id
 | cond c x y V W =>
  intro Q E σ p s R j a w t
  simp only [JaZ, L00] at p; simp only [awp] at s
  split at s
  . rename_i b hb
    have hc : a.eval c = .bool b := by
     obtain ⟨ρ, Im, M, h⟩ := t
     have X := JbD h.env (x := c) (by rw [h.size, <- H.N]; exact p.1.1)
     rw [hb] at X; exact X.v_inv
    exact wpIn_cond_split hc (fun e => V Q E σ p.1.2 (s.1 e) R j a w t) (fun e => W Q E σ p.2 (s.2 e) R j a w t)
  . exact s.elim
 | block id c ih =>
  intro Q E σ p s R j a w t
  refine wpIn_block (ih _ E σ p s _ (fun e D u F J q d => ?_) a w t)
  cases e with
  | exit al =>
   simp only [Jdh] at q; simp only [Exit.inBlock]
   split
   . rename_i he; rw [if_pos he] at q; exact j _ _ _ _ _ q d
   . rename_i he; rw [if_neg he] at q; exact j _ _ _ _ _ q d
  | normal => exact j _ _ _ _ _ q d
  | goto l => exact j _ _ _ _ _ q d
  | ret => exact j _ _ _ _ _ q d
  | panic ch => exact j _ _ _ _ _ q d
  | outgrown => exact j _ _ _ _ _ q d
 | loop c ih =>
  intro Q E σ p s R j a w t
  obtain ⟨I, Z, h0, L⟩ := s
  -- the loop's relation on real states: some abstract state that it stands for; the measure bounds the rounds to come
  intro b k cs ah hb X
  have aj : ∀ m E σ a w, Z E σ = m -> I E σ -> St C E σ a w ->
   ∃ e F J, R e F J /\ ArrivesIn (Machine.fenced S.P (FW C.rdl)) S.P (lone (b.atR a (.code c :: .inLoop c :: k)) cs w) b k cs e F J := by
   intro m
   induction m using Nat.strongRecOn with
   | _ m ai =>
    intro E σ a w hm hI t
    have hw := ih (JcV (fun D u => I D u /\ Z D u < Z E σ) Q) E σ p (L E σ hI)
     (fun e F J => match e with | .normal => ∃ D u, (I D u /\ Z D u < Z E σ) /\ St C D u F J | e => R e F J)
     (fun e D u F J q d => by
      cases e with
      | normal => exact ⟨D, u, q, d⟩
      | exit id => exact j _ _ _ _ _ q d
      | goto l => exact j _ _ _ _ _ q d
      | ret => exact j _ _ _ _ _ q d
      | panic ch => exact j _ _ _ _ _ q d
      | outgrown => exact j _ _ _ _ _ q d) a w t
    obtain ⟨e, A, B, q, z⟩ := hw b (.inLoop c :: k) cs ah hb X
    cases e with
    | normal =>
     obtain ⟨D, u, ⟨af, ag⟩, d⟩ := q
     obtain ⟨ac, aa, ae, U, K⟩ := ai (Z D u) (hm ▸ ag) D u A B rfl af d
     exact ⟨ac, aa, ae, U, .of_steps (StepsIn.trans z (.one (fenced_calm hb X rfl) stepR_inLoop)) K⟩
    | exit id => exact ⟨_, A, B, q, .pass (x := .inLoop c) rfl (fun _ _ => .inl (by simp)) z⟩
    | goto l => exact ⟨_, A, B, q, .pass (x := .inLoop c) rfl (fun _ _ => .inl (by simp)) z⟩
    | ret => exact ⟨_, A, B, q, .pass (x := .inLoop c) rfl (fun _ _ => .inl (by simp)) z⟩
    | panic ch => exact ⟨_, A, B, q, .pass (x := .inLoop c) rfl (fun _ _ => .inl (by simp)) z⟩
    | outgrown => exact ⟨_, A, B, q, .pass (x := .inLoop c) rfl (fun _ _ => .inl (by simp)) z⟩
  obtain ⟨e, F, J, q, z⟩ := aj _ E σ a w rfl h0 t
  exact ⟨e, F, J, q, .of_steps (.one (fenced_calm hb X rfl) stepR_loop) z⟩
 | rangeFunc f ps as ak am an => intro Q E σ _ s R j a w t; exact s C H n R j a w t
 | exit id => intro Q E σ _ s R j a w t; exact wpIn_exit (j _ _ _ _ _ s t)
 | scope c ih =>
  intro Q E σ p s R j a w t
  refine Jes (ih (JeU Q) E σ p s _ (fun e D u F J q d => ?_) a w t)
  cases e with
  | goto l => exact q
  | normal => exact j _ _ _ _ _ q d
  | exit id => exact j _ _ _ _ _ q d
  | ret => exact j _ _ _ _ _ q d
  | panic ch => exact j _ _ _ _ _ q d
  | outgrown => exact j _ _ _ _ _ q d
 | goto l => intro Q E σ p; simp [JaZ] at p
 | ret => intro Q E σ _ s R j a w t; exact wpIn_ret (j _ _ _ _ _ s t)
 | refuse ao => intro Q E σ p s; exact s.elim
end
section
variable {P : Program} {S : Sp} {C : Fx} {E E' : Env} {σ σ' : Jac} {a : Act} {w : World} {ρ : Nat -> Option Nat} {Im : Nat -> Prop} {M : Str}
theorem Jic {x : AV} {K : List AV -> Nat -> Prop} (c : ∀ id, Names x id -> σ' id = σ id) (h : JbW σ x K) : JbW σ' x K := by
 unfold JbW at *
 split at h
 . exact h
 . rename_i id f i j; obtain ⟨k, d, r⟩ := h
   exact ⟨k, by rw [c id (.ptr ..)]; exact d, r⟩
 . exact h
theorem Jgm {x : Option Operand} {d : Nat} {K : Nat -> Prop} (h : ∀ y, x = some y -> ev E y = ev E' y) (c : bound E x d K) : bound E' x d K := by
 unfold bound at *
 split at c
 . exact c
 . rename_i y; rw [<- h y rfl]; exact c
theorem JmF {x : Option Operand} {d : Nat} {K K' : Nat -> Prop} (f : ∀ n, K n -> K' n) (c : bound E x d K) : bound E x d K' := by
 cases x with
 | none => exact f _ c
 | some y =>
  unfold bound at *
  simp only at *
  split at c
  . rename_i h; first | (rw [h]; exact ⟨c.1, f _ c.2⟩) | exact ⟨c.1, f _ c.2⟩
  . exact c.elim
theorem Jc6 {op : Op} {r : AV} (h : ∀ x ∈ op.operands, ev E x = ev E' x) (T : ∀ x ∈ op.operands, ∀ id, Names (ev E x) id -> σ' id = σ id) (j : JaE P op E σ r) : JaE P op E' σ' r := by
 have A : ∀ k : Array (Nat × Operand), (∀ p ∈ k.toList, ev E p.2 = ev E' p.2) -> (k.toList.map fun p => (p.1, ev E p.2)) = k.toList.map fun p => (p.1, ev E' p.2) := fun k I =>
  L0Y fun p H => by rw [I p H]
 unfold JaE at j
 split at j
 . rename_i x; simp only [JaE]; rw [<- h x (by simp [Op.operands])]; exact j
 . rename_i x; simp only [JaE]; rw [<- h x (by simp [Op.operands])]; exact j
 . rename_i c x y; simp only [JaE]; rw [<- h x (by simp [Op.operands]), <- h y (by simp [Op.operands]), <- h c (by simp [Op.operands])]; exact j
 . rename_i t x; simp only [JaE]; rw [<- h x (by simp [Op.operands])]; exact Jic (T x (by simp [Op.operands])) j
 . rename_i x; simp only [JaE]; rw [<- h x (by simp [Op.operands])]; exact j
 . rename_i o t x y _; simp only [JaE]; rw [<- h x (by simp [Op.operands]), <- h y (by simp [Op.operands])]; exact j
 . rename_i t k; simp only [JaE]; rw [<- A k fun p I => h p.2 (by simp [Op.operands]; exact ⟨p.1, by simpa using I⟩)]; exact j
 . rename_i o _ x; simp only [JaE]; rw [<- h x (by simp [Op.operands])]; exact j
 . rename_i s t x; simp only [JaE]; rw [<- h x (by simp [Op.operands])]; exact j
 . rename_i f first M; simp only [JaE]
   have w : M.toList.map (ev E) = M.toList.map (ev E') := L0Y fun x m => h x (by simp [Op.operands]; exact .inr (by simpa using m))
   have z : first.toList.map (ev E) = first.toList.map (ev E') := L0Y fun x m => h x (by simp [Op.operands]; exact .inl (by simpa using m))
   first | (rw [<- w, <- z]; exact j) | (rw [w, z]; exact j) | (rw [w, z] at j; exact j)
 . rename_i s x f; simp only [JaE]; rw [<- h x (by simp [Op.operands])]; exact j
 . rename_i s x f; simp only [JaE]; rw [<- h x (by simp [Op.operands])]; exact j
 . rename_i t x i; simp only [JaE]; rw [<- h x (by simp [Op.operands]), <- h i (by simp [Op.operands])]; exact j
 . rename_i t x i; simp only [JaE]; rw [<- h x (by simp [Op.operands]), <- h i (by simp [Op.operands])]; exact j
 . rename_i x i; simp only [JaE]; rw [<- h x (by simp [Op.operands])]; exact j
 . rename_i t x R Q
   have q : ∀ {d K}, bound E Q d K -> bound E' Q d K := fun q => Jgm (fun y J => h y (by subst J; simp [Op.operands])) q
   have B : ∀ {d K}, bound E R d K -> bound E' R d K := fun q => Jgm (fun y J => h y (by subst J; simp [Op.operands])) q
   have mono : ∀ {x : Option Operand} {d : Nat} {K L : Nat -> Prop}, (∀ n, K n -> L n) -> bound E x d K -> bound E x d L := fun S q => JmF S q
   simp only [JaE]; rw [<- h x (by simp [Op.operands])]
   rcases j with ⟨e, C, n, D, F⟩ | ⟨C, n, D, F⟩
   . exact .inl ⟨e, C, n, D, q (mono (fun _ => B) F)⟩
   . exact .inr ⟨C, n, D, q (mono (fun _ => B) F)⟩
 . rename_i l u; simp only [JaE]
   split at j
   . rename_i x t O U
     have H : x ∈ l := L0s.1 (by rw [O]; simp)
     have m := h x (by simp [Op.operands, Call.operands, H])
     simp only [O, U, <- m]; exact j
   . exact j.elim
 . rename_i l u; simp only [JaE]
   rw [<- L0Y (f := ev E) (g := ev E') fun x m => h x (by simp [Op.operands, Call.operands]; simpa using m)]; exact j
 . rename_i l u; simp only [JaE]
   rw [<- L0Y (f := ev E) (g := ev E') fun x m => h x (by simp [Op.operands, Call.operands]; simpa using m)]; exact j
 . rename_i l u; simp only [JaE]
   rw [<- L0Y (f := ev E) (g := ev E') fun x m => h x (by simp [Op.operands, Call.operands]; simpa using m)]; exact j
 . exact j.elim
inductive DN : AV -> Nat -> Prop
 | own (id sz i n : Nat) : DN (.own id sz i n) id
 | ptr (id sz i j : Nat) : DN (.ptr id sz i j) id
 | mref (id : Nat) : DN (.mref id) id
 | agg (cs : List AV) (c : AV) (id : Nat) (hc : c ∈ cs) (h : DN c id) : DN (.agg cs) id
 | tup (cs : List AV) (c : AV) (id : Nat) (hc : c ∈ cs) (h : DN c id) : DN (.tup cs) id
 | clo (g : Nat) (cs : List AV) (c : AV) (id : Nat) (hc : c ∈ cs) (h : DN c id) : DN (.clo g cs) id
 | sl (g : Nat) (cs : List AV) (c : AV) (id : Nat) (hc : c ∈ cs) (h : DN c id) : DN (.sl g cs) id
 | cut (g : Nat) (cs : List AV) (c : AV) (id : Nat) (hc : c ∈ cs) (h : DN c id) : DN (.cut g cs) id
 | mp (cs : List AV) (c : AV) (id : Nat) (hc : c ∈ cs) (h : DN c id) : DN (.mp cs) id
 | pt (e : AV) (j id : Nat) (h : DN e id) : DN (.pt e j) id
 | new (g s : Nat) (cs : List AV) (c : AV) (id : Nat) (hc : c ∈ cs) (h : DN c id) : DN (.new g s cs) id
 | nptr (g s : Nat) (cs : List AV) (c : AV) (id : Nat) (hc : c ∈ cs) (h : DN c id) : DN (.nptr g s cs) id
theorem DN.of {a : AV} {d : Nat} (h : Names a d) : DN a d := by
 induction h with
 | own => exact .own ..
 | ptr => exact .ptr ..
 | mref => exact .mref ..
 | agg f c id i _ j => exact .agg f c id i j
 | tup f c id i _ j => exact .tup f c id i j
 | clo g f c id i _ j => exact .clo g f c id i j
theorem Jij (cs : List AV) : AV.dnL cs = true ↔ ∃ c ∈ cs, c.dn = true := by
 induction cs with
 | nil => simp [AV.dnL]
 | cons c cs d => simp [AV.dnL, d]
theorem DN.dn {a : AV} {d : Nat} (h : DN a d) : a.dn = true := by
 induction h with
 | own => rfl
 | ptr => rfl
 | mref => rfl
 | pt e j id _ c => exact c
 | _ => simp only [AV.dn]; exact (Jij _).2 ⟨_, by assumption, by assumption⟩
theorem DN.cells {v c : AV} {id : Nat} (d : c ∈ v.cells) (h : DN c id) : DN v id := by
 cases v with
 | agg f => exact .agg f c id d h
 | _ => simp only [AV.cells, L0p] at d; subst d; exact h
theorem DN.cell {v : AV} {id : Nat} (h : DN v id) : ∃ c ∈ v.cells, DN c id := by
 cases v with
 | agg f => cases h with | agg _ c _ d h => exact ⟨c, d, h⟩
 | _ => exact ⟨_, by simp [AV.cells], h⟩
theorem IRep.dnless {x : AV} {y : Value} (h : IRep w Im x y) (id : Nat) : ¬ DN x id := by
 induction h with
 | agg D ys s _ _ l => intro d; cases d with | agg _ c _ m d =>
  obtain ⟨j, p⟩ := L0v.1 m
  have k := (L05.1 p).1
  exact l j c _ p (L09 (s ▸ k)) d
 | tup D ys s _ l => intro d; cases d with | tup _ c _ m d =>
  obtain ⟨j, p⟩ := L0v.1 m
  have k := (L05.1 p).1
  exact l j c _ p (L09 (s ▸ k)) d
 | clo g D ys s _ l => intro d; cases d with | clo _ _ c _ m d =>
  obtain ⟨j, p⟩ := L0v.1 m
  have k := (L05.1 p).1
  exact l j c _ p (L09 (s ▸ k)) d
 | sl I E b o A f u H K B _ l => intro d; cases d with | sl _ _ e _ q d =>
  obtain ⟨c, m, d⟩ := d.cell
  obtain ⟨i, z⟩ := L0v.1 q
  obtain ⟨j, p⟩ := L0v.1 m
  exact l i e j c z p d
 | slnil I a A => intro d; cases d with | sl _ _ e _ q d => simp at q
 | cut I E a _ l => intro d; cases d with | cut _ _ e _ q d => exact l (.sl _ _ e _ q d)
 | mpnil => intro d; cases d with | mp _ e _ q d => simp at q
 | mp E b t J f u L s C _ l => intro d; cases d with | mp _ e _ q d =>
  obtain ⟨i, z⟩ := L0v.1 q
  have k : i < t.size := by rw [<- s.1]; exact (L05.1 z).1
  have F := C i _ (L0g k)
  rw [z] at F; cases F
  cases d with | tup _ c _ m d =>
   simp at m
   rcases m with rfl | rfl
   . cases d
   . exact l i _ (L0g k) d
 | pt e j b o f u B _ l => intro d; cases d with | pt _ _ _ d =>
  obtain ⟨c, m, d⟩ := d.cell
  obtain ⟨j, p⟩ := L0v.1 m
  exact l j c p d
 | _ => intro d; cases d
theorem Rep.dn {x : AV} {y : Value} {d : Nat} (h : Rep w ρ Im x y) (f : DN x d) : Names x d := by
 induction h with
 | im a y h => exact absurd f (h.dnless d)
 | agg m ys o _ _ p => cases f with | agg _ c _ k f =>
  obtain ⟨j, l⟩ := L0v.1 k
  have i := (L05.1 l).1
  exact .agg m c d k (p j c _ l (L09 (o ▸ i)) f)
 | tup m ys o _ p => cases f with | tup _ c _ k f =>
  obtain ⟨j, l⟩ := L0v.1 k
  have i := (L05.1 l).1
  exact .tup m c d k (p j c _ l (L09 (o ▸ i)) f)
 | clo g m ys o _ p => cases f with | clo _ _ c _ k f =>
  obtain ⟨j, l⟩ := L0v.1 k
  have i := (L05.1 l).1
  exact .clo g m c d k (p j c _ l (L09 (o ▸ i)) f)
 | ownNil => cases f; exact .own ..
 | own => cases f; exact .own ..
 | ownAt => cases f; exact .own ..
 | ptr => cases f; exact .ptr ..
 | mref => cases f; exact .mref ..
theorem Jcv {t : TypeId} {cs : List AV} {i d : Nat} {r : AV} (h : Jcm P t cs i r) (f : DN r d) : ∃ c ∈ cs, DN c d := by
 unfold Jcm at h
 split at h
 . obtain ⟨_, _, rfl⟩ := h
   cases f with | agg _ c _ j f => exact ⟨c, L18 (L0G j), f⟩
 . exact ⟨r, L01 h, f⟩
 . exact h.elim
theorem Jlg {e : TypeId} {x r : AV} {n : Int} {d : Nat} (h : JpQ P e x n r) (f : DN r d) : DN x d := by
 unfold JpQ at h
 split at h
 . obtain ⟨_, _, _, c, i, rfl⟩ := h; cases f with | pt _ _ _ f => exact .sl _ _ c d (L01 i) f
 . obtain ⟨_, _, _, _, rfl⟩ := h; cases f; exact .own ..
 . exact h.elim
theorem Jlf {e : TypeId} {x r : AV} {l m : Nat} {d : Nat} (h : Jnn P e x l m r) (f : DN r d) : DN x d := by
 unfold Jnn at h
 split at h
 . obtain ⟨_, _, _, _, rfl⟩ := h; cases f with | sl _ _ c _ i f => exact .sl _ _ c d (L18 (L0G i)) f
 . obtain ⟨_, _, _, _, rfl⟩ := h; cases f; exact .own ..
 . exact h.elim
theorem JdA {x : Option Operand} {d : Nat} {K : Nat -> Prop} (h : bound E x d K) : ∃ n, K n := by
 unfold bound at h
 split at h
 . exact ⟨_, h⟩
 . split at h
   . exact ⟨_, h.2⟩
   . exact h.elim
theorem Jl7 {x : Value} {id : Nat} (h : DN (ofC x) id) : False := by
 unfold ofC at h
 split at h
 . split at h
   . cases h with | agg _ c _ d h => obtain ⟨y, _, rfl⟩ := L08.1 d; cases h
   . cases h
 . cases h with | tup _ c _ d h => obtain ⟨y, _, rfl⟩ := L08.1 d; cases h
 . cases h
theorem Jgz {m : Nat -> Option (Nat × Nat)} {d : Nat} : ∀ (l : List (Nat × AV)) (cs j : List AV), JcL m cs l = some j -> ∀ c ∈ j, DN c d -> (∃ c ∈ cs, DN c d) \/ ∃ p ∈ l, DN p.2 d
 | [], cs, j, h, c, o, q => by simp [JcL] at h; subst h; exact .inl ⟨c, o, q⟩
 | (i, v) :: l, cs, j, h, c, o, q => by
  simp only [JcL] at h
  split at h
  . cases h
  . split at h
    . rcases Jgz l _ j h c o q with ⟨s, f, k⟩ | ⟨p, t, k⟩
      . simp only [L0w] at f
        rcases f with (f | f) | f
        . exact .inl ⟨s, L0G f, k⟩
        . exact .inr ⟨(i, v), by simp, DN.cells f k⟩
        . exact .inl ⟨s, L18 f, k⟩
      . exact .inr ⟨p, by simp [t], k⟩
    . cases h
theorem Jk1 {op : Op} {r : AV} {d : Nat} (hev : ∀ x ∈ op.operands, ¬ DN (ev E x) d) (hst : ∀ id k, σ id = some k -> ∀ e ∈ k.es, ¬ DN e d) (hv : JaE P op E σ r) : ¬ DN r d := fun hn => by
 have bi : ∀ {op k m k' n r}, binI op k m k' n r -> ¬ DN r d := fun {op k m k' n r} h hn => by
  unfold binI at h; split at h <;> (first | (obtain ⟨_, rfl⟩ := h) | (obtain ⟨_, _, rfl⟩ := h)) <;> cases hn
 have bs : ∀ {op m n r}, binS op m n r -> ¬ DN r d := fun {op m n r} h hn => by
  unfold binS at h; split at h <;> first | exact h.elim | (subst h; cases hn) | (obtain ⟨_, rfl⟩ := h; cases hn)
 unfold JaE at hv
 split at hv
 . subst hv; exact hev _ (by simp [Op.operands]) hn
 . subst hv; exact hev _ (by simp [Op.operands]) hn
 . split at hv
   . subst hv; split at hn <;> exact hev _ (by simp [Op.operands]) hn
   . exact hv.elim
 . rename_i t x; unfold JbW at hv
   split at hv
   . rename_i e j hx
     obtain ⟨c, hc, hcn⟩ := Jcv hv hn
     exact hev x (by simp [Op.operands]) (by rw [hx]; exact .pt e j d (hcn.cells hc))
   . obtain ⟨k, hk, _, e, he, hp⟩ := hv
     obtain ⟨c, hc, hcn⟩ := Jcv hp hn
     exact hst _ k hk e (L01 he) (DN.cells hc hcn)
   . exact hv.elim
 . rename_i x
   split at hv
   . rename_i hx; subst hv; exact hev x (by simp [Op.operands]) (hx ▸ hn)
   . rename_i hx; subst hv; exact hev x (by simp [Op.operands]) (hx ▸ hn)
   . rename_i hx; subst hv; exact hev x (by simp [Op.operands]) (hx ▸ hn)
   . exact hv.elim
 . split at hv
   . exact bi hv hn
   . exact bs hv hn
   . obtain ⟨_, ⟨_, rfl⟩ | ⟨_, rfl⟩⟩ := hv <;> cases hn
   . obtain ⟨_, _, _, _, ⟨_, rfl⟩ | ⟨_, rfl⟩⟩ := hv <;> cases hn
   . obtain ⟨_, _, ⟨_, rfl⟩ | ⟨_, rfl⟩⟩ := hv <;> cases hn
   . exact hv.elim
 . rename_i t parts
   obtain ⟨z, hz, _, ⟨fs, _, _, cs, hf, rfl⟩ | ⟨m, e, _, _, cs, hf, rfl⟩⟩ := hv
   all_goals
    cases hn with | agg _ c _ hc hn =>
     rcases Jgz _ _ _ hf c hc hn with ⟨c', hc', hn'⟩ | ⟨p, hp, hn'⟩
     . exact Jl7 (DN.cells hc' hn')
     . obtain ⟨q, hq, rfl⟩ := L08.1 hp; exact hev _ (by simp [Op.operands]; exact ⟨q.1, by simpa using hq⟩) hn'
 . split at hv
   . subst hv; cases hn
   . subst hv; cases hn
   . subst hv; cases hn
   . exact hv.elim
 . split at hv
   . obtain ⟨_, rfl⟩ := hv; cases hn
   . exact hv.elim
 . rcases hv with ⟨_, _, rfl⟩ | ⟨_, rfl⟩
   . cases hn with | clo _ _ c _ hc hn => obtain ⟨x, hx, rfl⟩ := L08.1 hc; exact hev _ (by simp [Op.operands]; exact .inr (by simpa using hx)) hn
   . cases hn with | clo _ _ c _ hc hn =>
      rcases L0i.1 hc with rfl | hc
      . cases hn
      . obtain ⟨x, hx, rfl⟩ := L08.1 hc; exact hev _ (by simp [Op.operands]; exact .inl (by simpa using hx)) hn
 . rename_i s x f; obtain ⟨_, _, off, t, _, _, hv⟩ := hv
   split at hv
   . rename_i hx; subst hv; cases hn with | pt _ _ _ hn => exact hev x (by simp [Op.operands]) (hx ▸ .pt _ _ _ hn)
   . rename_i hx; subst hv; cases hn; exact hev x (by simp [Op.operands]) (hx ▸ .ptr ..)
   . exact hv.elim
 . rename_i s x f; obtain ⟨_, _, off, t, _, hv⟩ := hv
   split at hv
   . rename_i hx
     obtain ⟨c, hc, hcn⟩ := Jcv hv hn
     exact hev x (by simp [Op.operands]) (hx ▸ .agg _ c _ hc hcn)
   . exact hv.elim
 . rename_i t x i
   split at hv
   . rcases hv with ⟨e, _, hv⟩ | ⟨m, e, _, _, _, _, hv⟩
     . exact hev x (by simp [Op.operands]) (Jlg hv hn)
     . split at hv
       . rename_i hx; subst hv; cases hn with | pt _ _ _ hn => exact hev x (by simp [Op.operands]) (hx ▸ .pt _ _ _ hn)
       . rename_i hx; subst hv; cases hn; exact hev x (by simp [Op.operands]) (hx ▸ .ptr ..)
       . exact hv.elim
   . exact hv.elim
 . rename_i t x i
   split at hv
   . obtain ⟨_, _, c, _, rfl⟩ := hv; cases hn
   . rename_i hx; obtain ⟨m, e, _, _, _, _, hv⟩ := hv
     obtain ⟨c, hc, hcn⟩ := Jcv hv hn
     exact hev x (by simp [Op.operands]) (hx ▸ .agg _ c _ hc hcn)
   . exact hv.elim
 . rename_i x i
   split at hv
   . rename_i vs hx; exact hev x (by simp [Op.operands]) (hx ▸ .tup _ r _ (L01 hv) hn)
   . exact hv.elim
 . rename_i t x lo hi
   rcases hv with ⟨e, h1, n, h2, h3⟩ | ⟨h1, n, h2, h3⟩
   . obtain ⟨_, h3⟩ := JdA h3
     obtain ⟨_, h3⟩ := JdA h3
     exact hev x (by simp [Op.operands]) (Jlf h3 hn)
   . obtain ⟨_, h3⟩ := JdA h3
     obtain ⟨_, h3⟩ := JdA h3
     unfold Jmn at h3
     split at h3
     . obtain ⟨_, _, rfl⟩ := h3; cases hn
     . exact h3.elim
 . split at hv
   . rcases hv with ⟨_, hv⟩ | ⟨_, hv⟩ | ⟨_, _, _, rfl⟩
     . split at hv <;> first | exact hv.elim | (subst hv; cases hn)
     . split at hv <;> first | exact hv.elim | (subst hv; cases hn)
     . cases hn
   . exact hv.elim
 . split at hv <;> first | exact hv.elim | (subst hv; cases hn)
 . split at hv <;> first | exact hv.elim | (subst hv; cases hn)
 . rename_i args ats
   split at hv
   . rename_i id sz n hx; obtain ⟨_, rfl⟩ := hv
     cases hn
     obtain ⟨l⟩ := args
     rcases l with _ | ⟨x, _ | ⟨y, l⟩⟩
     . simp at hx
     . simp only [L0q, L0F, List.cons.injEq, and_true] at hx
       exact hev x (by simp [Op.operands, Call.operands]) (hx ▸ .own ..)
     . simp at hx
   . exact hv.elim
 . exact hv.elim
end
section
variable {P : Program} {S : Sp} {C : Fx} {E E' : Env} {σ σ' : Jac} {a : Act} {w : World} {ρ : Nat -> Option Nat} {Im : Nat -> Prop} {M : Str}
theorem JdK {m : Nat} {op : Op} {ty : TypeId} {r : AV} {j : List (Nat × Blk)} (h : ∀ x ∈ op.operands, ev E x = ev E' x) (f : newV P m op ty E r j) : newV P m op ty E' r j := by
 unfold newV at f
 split at f
 . exact f
 . exact f
 . exact f
 . rename_i t x; simp only [newV]; rw [<- h x (by simp [Op.operands])]; exact f
 . rename_i t C d
   have k : ∀ p ∈ d.toList, ev E p.2 = ev E' p.2 := fun p i => h p.2 (by simp [Op.operands]; exact ⟨p.1, by simpa using i⟩)
   have o : (d.toList.map fun p => ev E p.2) = d.toList.map fun p => ev E' p.2 := L0Y k
   obtain ⟨e, q, s, u, w, y, z, A, B⟩ := f
   exact ⟨e, q, s, u, w, y, fun p i => by rw [<- k p i]; exact z p i, A, by rw [B, o]⟩
 . rename_i t l c; simp only [newV]; rw [<- h l (by simp [Op.operands]), <- h c (by simp [Op.operands])]; exact f
 . exact f.elim
theorem Jm7 {m d : Nat} {op : Op} {ty : TypeId} {r : AV} {u : List (Nat × Blk)} (l : ∀ x ∈ op.operands, ¬ DN (ev E x) d) (w : d / 16 ≠ m) (j : newV P m op ty E r u) :
 ¬ DN r d /\ ∀ p ∈ u, p.1 / 16 = m /\ ∀ e ∈ p.2.es, ¬ DN e d := by
 have own : ∀ id o i n, id / 16 = m -> ¬ DN (.own id o i n) d := fun id o i n h k => by cases k; exact w h
 have ptr : ∀ id o i n, id / 16 = m -> ¬ DN (.ptr id o i n) d := fun id o i n h k => by cases k; exact w h
 unfold newV at j
 split at j
 . obtain ⟨e, _, rfl, rfl⟩ := j
   exact ⟨own _ _ _ _ (by omega), fun p c => by simp at c; subst c; exact ⟨by omega, by simp⟩⟩
 . obtain ⟨e, _, rfl, rfl⟩ := j
   exact ⟨own _ _ _ _ (by omega), fun p c => by simp at c; subst c; exact ⟨by omega, by simp⟩⟩
 . split at j
   . obtain ⟨_, _, rfl, rfl⟩ := j
     refine ⟨ptr _ _ _ _ (by omega), fun p c => ?_⟩
     simp at c
     rcases c with rfl | rfl
     . exact ⟨by simp; omega, by simp⟩
     . exact ⟨by simp, fun e f => by simp at f; subst f; exact own _ _ _ _ (by omega)⟩
   . obtain ⟨z, _, _, _, _, rfl, rfl⟩ := j
     refine ⟨ptr _ _ _ _ (by omega), fun p c => ?_⟩
     simp at c; subst c
     exact ⟨by simp, fun e f k => by simp at f; subst f; exact Jl7 k⟩
 . rename_i t x; obtain ⟨_, _, _, rfl, rfl⟩ := j
   refine ⟨ptr _ _ _ _ (by omega), fun p c => ?_⟩
   simp at c; subst c
   exact ⟨by simp, fun e f k => by simp at f; subst f; exact l x (by simp [Op.operands]) k⟩
 . rename_i t A s; obtain ⟨e, _, _, _, _, _, _, rfl, rfl⟩ := j
   refine ⟨own _ _ _ _ (by omega), fun p c => ?_⟩
   simp only [L0p] at c; subst c
   refine ⟨by simp, fun e f k => ?_⟩
   obtain ⟨q, y, rfl⟩ := L08.1 f
   exact l q.2 (by simp [Op.operands]; exact ⟨q.1, by simpa using y⟩) k
 . split at j
   . obtain ⟨e, _, _, z, _, _, _, _, _, _, _, rfl, rfl⟩ := j
     refine ⟨own _ _ _ _ (by omega), fun p c => ?_⟩
     simp only [L0p] at c; subst c
     exact ⟨by simp, fun e f k => by simp only [List.mem_replicate] at f; rw [f.2] at k; exact Jl7 k⟩
   . exact j.elim
 . exact j.elim
theorem JcQ {f g : AV -> AV} {es : List AV} (h : ∀ e ∈ es, f e = g e) : resL f es = resL g es := by
 unfold resL; split
 . exact L0Y h
 . rfl
theorem JhT {L : Nat -> Prop} (w : ∀ id, ¬ L id -> σ' id = σ id) (z : ∀ id k, σ id = some k -> ∀ e ∈ k.es, ∀ d, L d -> ¬ DN e d) :
 ∀ (n : Nat) (x : AV), (∀ d, L d -> ¬ DN x d) -> resF n σ' x = resF n σ x := by
 intro n
 induction n with
 | zero => intro x _; rfl
 | succ n u =>
  intro x l
  have f : ∀ id, ¬ L id -> σ' id = σ id /\ ∀ k, σ id = some k -> ∀ e ∈ k.es, resF n σ' e = resF n σ e := fun id y =>
   ⟨w id y, fun k h e c => u e (z id k h e c)⟩
  cases x with
  | own id A i m =>
   obtain ⟨p, q⟩ := f id fun hl => l id hl (.own ..)
   simp only [resF, p]
   cases h : σ id with
   | none => rfl
   | some k => simp only [JfO]; rw [JcQ (q k h)]
  | ptr id A i j =>
   obtain ⟨p, q⟩ := f id fun hl => l id hl (.ptr ..)
   simp only [resF, p]
   cases h : σ id with
   | none => rfl
   | some k =>
    simp only [JfP]
    split
    . cases c : k.es[i]? with
      | none => rfl
      | some e => simp only [resE]; rw [q k h e (L01 c)]
    . rfl
  | mref id =>
   obtain ⟨p, q⟩ := f id fun hl => l id hl (.mref ..)
   simp only [resF, p]
   cases h : σ id with
   | none => rfl
   | some k => simp only [JfN]; rw [JcQ (q k h)]
  | agg o => simp only [resF]; rw [JcQ fun e c => u e fun d s t => l d s (.agg o e d c t)]
  | tup o => simp only [resF]; rw [JcQ fun e c => u e fun d s t => l d s (.tup o e d c t)]
  | clo g o => simp only [resF]; rw [JcQ fun e c => u e fun d s t => l d s (.clo g o e d c t)]
  | _ => rfl
theorem JcW {kd : Bool} {nm : Nat} {op : Op} {v : AV} {bl : List (Nat × Blk)} {L : Nat -> Prop} (h : ∀ x ∈ op.operands, ev E x = ev E' x) (hL : ∀ x ∈ op.operands, ∀ d, L d -> ¬ DN (ev E x) d)
 (hag : ∀ id, ¬ L id -> σ' id = σ id) (hst : ∀ id k, σ id = some k -> ∀ e ∈ k.es, ∀ d, L d -> ¬ DN e d) (hv : Jex S kd nm op E σ v bl) : Jex S kd nm op E' σ' v bl := by
 unfold Jex at hv
 split at hv
 . rename_i f args ats
   split at hv
   . rename_i g caps hf; obtain ⟨h0, r, h1, h2, h3, h4, h5, h6⟩ := hv
     have hfm : f ∈ (Op.call { callee := .value f, args := args, argTypes := ats }).operands := by simp [Op.operands, Call.operands]
     have ham : ∀ x ∈ args.toList, x ∈ (Op.call { callee := .value f, args := args, argTypes := ats }).operands := fun x hx => by simp [Op.operands, Call.operands]; exact .inr (by simpa using hx)
     have e1 : args.toList.map (ev E) = args.toList.map (ev E') := L0Y fun x hx => h x (ham x hx)
     have e2 : (args.toList.map (ev E) ++ caps).map (res σ') = (args.toList.map (ev E) ++ caps).map (res σ) := L0Y fun x hx => by
      refine JhT hag hst 8 x fun d hd hn => ?_
      rcases L0w.1 hx with hx | hx
      . obtain ⟨y, hy, rfl⟩ := L08.1 hx; exact hL y (ham y hy) d hd hn
      . exact hL f hfm d hd (by rw [hf]; exact .clo g caps x d hx hn)
     simp only [Jex]; rw [<- h f hfm, hf]
     exact ⟨h0, r, by rw [<- e1, e2]; exact h1, by rw [<- e1]; exact h2, h3, h4, h5, h6⟩
   . exact hv.elim
 . exact hv.elim
theorem JoO {id d : Nat} {r : AV} (h : r.dn = false) (k : d ≠ id) : ¬ DN (imp1 id r).1 d /\ ∀ p ∈ (imp1 id r).2, p.1 = id /\ ∀ e ∈ p.2.es, ¬ DN e d := by
 cases r with
 | new e l i =>
  simp only [AV.dn] at h
  refine ⟨fun c => by cases c; exact k rfl, fun p f => ?_⟩
  simp [imp1] at f; subst f
  exact ⟨rfl, fun e j c => by have := (Jij i).2 ⟨e, j, c.dn⟩; rw [h] at this; cases this⟩
 | nptr e l i =>
  simp only [AV.dn] at h
  refine ⟨fun c => by cases c; exact k rfl, fun p f => ?_⟩
  simp [imp1] at f; subst f
  exact ⟨rfl, fun e j c => by have := (Jij i).2 ⟨e, j, c.dn⟩; rw [h] at this; cases this⟩
 | _ => exact ⟨fun c => Bool.noConfusion ((DN.dn c).symm.trans h), fun p f => by simp [imp1] at f⟩
theorem JkN {d : Nat} : ∀ (f : List AV) (id : Nat), AV.dnL f = false -> (d < id \/ id + f.length <= d) ->
 (∀ r ∈ (impL id f).1, ¬ DN r d) /\ ∀ p ∈ (impL id f).2, id <= p.1 /\ p.1 < id + f.length /\ ∀ e ∈ p.2.es, ¬ DN e d
 | [], id, _, _ => ⟨fun r h => by simp [impL] at h, fun p c => by simp [impL] at c⟩
 | r :: f, id, h, t => by
  simp only [AV.dnL, L1D] at h; simp only [L0h] at t ⊢
  obtain ⟨k, l⟩ := JoO (id := id) h.1 (show d ≠ id by omega)
  obtain ⟨m, o⟩ := JkN (d := d) f (id + 1) h.2 (by omega)
  refine ⟨fun x i => ?_, fun p c => ?_⟩
  . simp only [impL, L0i] at i
    rcases i with rfl | i
    . exact k
    . exact m x i
  . simp only [impL, L0w] at c
    rcases c with c | c
    . obtain ⟨q, j⟩ := l p c; exact ⟨by omega, by omega, j⟩
    . obtain ⟨q, j, s⟩ := o p c; exact ⟨by omega, by omega, s⟩
theorem Jgp {i d : Nat} {op : Op} {v : AV} {u : List (Nat × Blk)} (z : d / 16 ≠ i) (h : Jex S false i op E σ v u) : ¬ DN v d /\ ∀ p ∈ u, p.1 / 16 = i /\ ∀ e ∈ p.2.es, ¬ DN e d := by
 unfold Jex at h
 split at h
 . split at h
   . obtain ⟨_, r, _, _, y, m, rfl, rfl⟩ := h
     have m : r.dn = false := by simpa using m
     cases r with
     | tup t =>
      simp only [rlen] at y
      obtain ⟨j, k⟩ := JkN (d := d) t (16 * i) m (by omega)
      exact ⟨fun f => (by cases f with | tup _ c _ s f => exact j c s f), fun p l => by obtain ⟨w, o, q⟩ := k p l; exact ⟨by omega, q⟩⟩
     | clo g t =>
      simp only [rlen] at y
      obtain ⟨j, k⟩ := JkN (d := d) t (16 * i) m (by omega)
      exact ⟨fun f => (by cases f with | clo _ _ c _ s f => exact j c s f), fun p l => by obtain ⟨w, o, q⟩ := k p l; exact ⟨by omega, q⟩⟩
     | _ => obtain ⟨j, k⟩ := JoO (d := d) (id := 16 * i) m (by omega); exact ⟨j, fun p l => by obtain ⟨w, o⟩ := k p l; exact ⟨by omega, o⟩⟩
   . exact h.elim
 . exact h.elim
def nmO (S : Sp) (o : Oper) : Nat := S.b + o.dst.getD 99999
def val (S : Sp) (o : Oper) (E : Env) (σ : Jac) (v : AV) (c : List (Nat × Blk)) : Prop :=
 match cls S.P o.op o.type with
 | 0 => JaE S.P o.op E σ v /\ c = []
 | 1 => o.dst.isSome = true /\ newV S.P (nmO S o) o.op o.type E v c
 | 2 => Jex S false (nmO S o) o.op E σ v c
 | _ => False
def gval (S : Sp) (ops : Array Oper) (o : Oper) (E : Env) (σ : Jac) (v : AV) (bl : List (Nat × Blk)) : Prop :=
 match o.guard with
 | none => val S o E σ v bl
 | some (j, want) => match (ops[j]?).bind (·.dst) with
  | none => False
  | some t => match E t with
   | .v (.bool b) => (b = want /\ val S o E σ v bl) \/ (b = !want /\ v = .v undef /\ bl = [])
   | .v (.tuple _) => v = .v undef /\ bl = []
   | _ => False
theorem Jko {o : Oper} {K k : Env -> Jac -> Prop} (m : cls S.P o.op o.type <= 2) : aop S false false o K k E σ ↔ ∃ v c, val S o E σ v c /\ K (updO E o.dst v) (addS σ c) := by
 unfold aop val nmO
 have : cls S.P o.op o.type = 0 \/ cls S.P o.op o.type = 1 \/ cls S.P o.op o.type = 2 := by omega
 rcases this with h | h | h <;> rw [h]
 . simp only
   constructor
   . rintro ⟨v, f, i⟩; exact ⟨v, [], ⟨f, rfl⟩, i⟩
   . rintro ⟨v, c, ⟨f, rfl⟩, i⟩; exact ⟨v, f, i⟩
 . simp only [kE, kS, L0D, if_false]
   constructor
   . rintro ⟨d, j, v, c, f, i⟩; exact ⟨v, c, ⟨by simp [j], by simpa [j] using f⟩, by simpa [j] using i⟩
   . rintro ⟨v, c, ⟨l, f⟩, i⟩
     obtain ⟨d, j⟩ := L2k.1 l
     exact ⟨d, j, v, c, by simpa [j] using f, by simpa [j] using i⟩
 . simp only [kE, kS, L0D, if_false, false_and, or_false]
theorem Jb6 {ops : Array Oper} {o : Oper} {K Kb : Env -> Jac -> Prop} (hc : cls S.P o.op o.type <= 2) : gop S false false ops o K Kb E σ ↔ ∃ v bl, gval S ops o E σ v bl /\ K (updO E o.dst v) (addS σ bl) := by
 unfold gop gval
 cases hg : o.guard with
 | none => exact Jko hc
 | some p =>
  obtain ⟨j, want⟩ := p
  simp only
  cases ht : (ops[j]?).bind (·.dst) with
  | none => simp
  | some t =>
   simp only
   have other : (∀ b, E t ≠ .v (.bool b)) -> (∀ vs, E t ≠ .v (.tuple vs)) -> ((match E t with
    | .v (.bool b) => (b = want -> aop S false false o K Kb (upd E t (.v (.bool want))) σ) /\ (b = !want -> K (updO (upd E t (.v (.bool !want))) o.dst (.v undef)) σ)
    | .v (.tuple _) => K (updO E o.dst (.v undef)) σ
    | _ => False) ↔ ∃ v bl, (match E t with
     | .v (.bool b) => (b = want /\ val S o E σ v bl) \/ (b = !want /\ v = .v undef /\ bl = [])
     | .v (.tuple _) => v = .v undef /\ bl = []
     | _ => False) /\ K (updO E o.dst v) (addS σ bl)) := fun h1 h2 => by
    split
    . rename_i h; exact absurd h (h1 _)
    . rename_i h; exact absurd h (h2 _)
    . simp
   by_cases hb : ∃ b, E t = .v (.bool b)
   . obtain ⟨b, hb⟩ := hb; simp only [hb]
     have h1 : b = want -> upd E t (.v (.bool want)) = E := fun e => Jb9 E t _ (by rw [hb, e])
     have h2 : b = (!want) -> upd E t (.v (.bool !want)) = E := fun e => Jb9 E t _ (by rw [hb, e])
     by_cases e : b = want
     . have e2 : ¬ b = !want := by subst e; cases b <;> simp
       constructor
       . rintro ⟨h3, _⟩
         have h3 := h3 e; rw [h1 e, Jko hc] at h3
         obtain ⟨v, bl, h3, h4⟩ := h3
         exact ⟨v, bl, .inl ⟨e, h3⟩, h4⟩
       . rintro ⟨v, bl, h3, h4⟩
         refine ⟨fun _ => ?_, fun h => absurd h e2⟩
         rw [h1 e, Jko hc]
         rcases h3 with ⟨_, h3⟩ | ⟨h3, _⟩
         . exact ⟨v, bl, h3, h4⟩
         . exact absurd h3 e2
     . have e2 : b = !want := by cases b <;> cases want <;> simp_all
       constructor
       . rintro ⟨_, h4⟩
         have h4 := h4 e2; rw [h2 e2] at h4
         exact ⟨_, [], .inr ⟨e2, rfl, rfl⟩, h4⟩
       . rintro ⟨v, bl, h3, h4⟩
         refine ⟨fun h => absurd h e, fun _ => ?_⟩
         rw [h2 e2]
         rcases h3 with ⟨h3, _⟩ | ⟨_, rfl, rfl⟩
         . exact absurd h3 e
         . exact h4
   . by_cases hb2 : ∃ vs, E t = .v (.tuple vs)
     . obtain ⟨vs, hb2⟩ := hb2; simp only [hb2]
       constructor
       . intro h; exact ⟨_, [], ⟨rfl, rfl⟩, h⟩
       . rintro ⟨v, bl, ⟨rfl, rfl⟩, h⟩; exact h
     . exact other (fun b h => hb ⟨b, h⟩) (fun vs h => hb2 ⟨vs, h⟩)
end
section
variable {P : Program} {S : Sp} {C : Fx} {E E' : Env} {σ σ' : Jac} {a : Act} {w : World} {ρ : Nat -> Option Nat} {Im : Nat -> Prop} {M : Str}
def DC (N c : Nat) (E : Env) (σ : Jac) : Prop :=
 ∀ d, d / 16 = c -> Jbh d E σ /\ (∀ t, t < N -> ¬ DN (E t) d) /\ ∀ id k, σ id = some k -> ∀ e ∈ k.es, ¬ DN e d
theorem Jh8 {L : Nat -> Prop} : ∀ (c : List (Nat × Blk)) (σ : Jac), (∀ p ∈ c, L p.1) -> ∀ id, ¬ L id -> addS σ c id = σ id
 | [], σ, _, id, _ => rfl
 | (i, k) :: c, σ, h, id, d => by
  simp only [addS]
  rw [Jh8 c _ (fun p f => h p (by simp [f])) id d, Jax _ _ _ _ (fun e => d (by rw [e]; exact h (i, k) (by simp)))]
theorem Jlt : ∀ (d : List (Nat × Blk)) (σ : Jac) (id : Nat) (k : Blk), addS σ d id = some k -> σ id = some k \/ (id, k) ∈ d
 | [], σ, id, k, h => .inl h
 | (i, f) :: d, σ, id, k, h => by
  simp only [addS] at h
  rcases Jlt d _ id k h with c | c
  . by_cases e : id = i
    . subst e; simp at c; subst c; exact .inr (by simp)
    . rw [Jax _ _ _ _ e] at c; exact .inl c
  . exact .inr (by simp [c])
theorem Jo4 {ops : Array Oper} {o : Oper} {t : Nat} (h : Operand.tmp t ∈ o.op.operands) : t ∈ o.looksAt ops :=
 List.mem_append_left _ (L1E.2 ⟨.tmp t, by simpa using h, rfl⟩)
theorem JkR {ops : Array Oper} {o : Oper} {g t : Nat} {c : Bool} (d : o.guard = some (g, c)) (f : (ops[g]?).bind (·.dst) = some t) : t ∈ o.looksAt ops := by
 refine List.mem_append_right _ ?_
 rw [d]; simp [f]
theorem Joq {ops : Array Oper} {o : Oper} {c : Option Nat} {u : AV} (f : ∀ d, c = some d -> d ∉ o.looksAt ops) {x : Operand} (h : x ∈ o.op.operands) : ev (updO E c u) x = ev E x := by
 cases c with
 | none => rfl
 | some d =>
  cases x with
  | tmp t => simp only [ev, updO, upd]; rw [if_neg (fun e => f d rfl (by subst e; exact Jo4 h))]
  | _ => rfl
theorem JtA {N d : Nat} {x : Operand} (k : Operand.low N x = true) (h : ∀ t, t < N -> ¬ DN (E t) d) : ¬ DN (ev E x) d := fun i => by
 cases x with
 | tmp t => exact h t (by simpa [Operand.low] using k) i
 | const v => exact Jl7 i
 | global g => cases i
 | func f => cases i with | clo _ _ c _ j i => simp at j
theorem JdH {ops : Array Oper} {o : Oper} (hf : Oper.fits S.P S.N o = true) {d0 : Option Nat} {u : AV} (hd : ∀ d, d0 = some d -> d ∉ o.looksAt ops) {nm : Nat} {bl0 : List (Nat × Blk)}
 (hdc : bl0 = [] \/ (DC S.N nm E σ /\ ∀ p ∈ bl0, p.1 / 16 = nm)) {v : AV} {bl : List (Nat × Blk)} : gval S ops o (updO E d0 u) (addS σ bl0) v bl ↔ gval S ops o E σ v bl := by
 obtain ⟨_, hlow, _⟩ := JcY hf
 have hev : ∀ x ∈ o.op.operands, ev (updO E d0 u) x = ev E x := fun x hx => Joq hd hx
 have key : val S o (updO E d0 u) (addS σ bl0) v bl ↔ val S o E σ v bl := by
  rcases hdc with rfl | ⟨hdc, hb⟩
  . simp only [addS]; unfold val
    split
    . exact and_congr_left fun _ => ⟨Jc6 hev fun _ _ _ _ => rfl, Jc6 (fun x hx => (hev x hx).symm) fun _ _ _ _ => rfl⟩
    . exact and_congr_right fun _ => ⟨JdK hev, JdK fun x hx => (hev x hx).symm⟩
    . exact ⟨JcW (L := fun _ => False) hev (fun _ _ _ h => h.elim) (fun _ _ => rfl) (fun _ _ _ _ _ _ h => h.elim), JcW (L := fun _ => False) (fun x hx => (hev x hx).symm) (fun _ _ _ h => h.elim) (fun _ _ => rfl) (fun _ _ _ _ _ _ h => h.elim)⟩
    . rfl
  . have hag : ∀ id, ¬ id / 16 = nm -> addS σ bl0 id = σ id := Jh8 bl0 σ hb
    have hnd : ∀ x ∈ o.op.operands, ∀ d, d / 16 = nm -> ¬ DN (ev E x) d := fun x hx d hd => JtA (Jbq hlow hx) (hdc d hd).2.1
    have hst : ∀ id k, σ id = some k -> ∀ e ∈ k.es, ∀ d, d / 16 = nm -> ¬ DN e d := fun id k hk e he d hd => (hdc d hd).2.2 id k hk e he
    have hag' : ∀ x ∈ o.op.operands, ∀ id, Names (ev E x) id -> addS σ bl0 id = σ id := fun x hx id hn => hag id fun h => hnd x hx id h (DN.of hn)
    -- the way back: what is not of 'nm' is the same in both
    unfold val
    split
    . refine and_congr_left fun _ => ⟨fun h => ?_, fun h => Jc6 (fun x hx => (hev x hx).symm) hag' h⟩
      exact Jc6 (E' := E) hev (fun x hx id hn => by rw [hev x hx] at hn; exact (hag' x hx id hn).symm) h
    . exact and_congr_right fun _ => ⟨JdK hev, JdK fun x hx => (hev x hx).symm⟩
    . refine ⟨fun h => ?_, fun h => JcW (L := fun d => d / 16 = nm) (fun x hx => (hev x hx).symm) hnd hag hst h⟩
      have h1 : Jex S false (nmO S o) o.op E (addS σ bl0) v bl := JcW (L := fun _ => False) hev (fun _ _ _ h => h.elim) (fun _ _ => rfl) (fun _ _ _ _ _ _ h => h.elim) h
      -- without the new blocks
      unfold Jex at h1 ⊢
      split at h1
      . rename_i f args ats ho
        split at h1
        . rename_i g caps hfv; obtain ⟨h0, r, h2, h3⟩ := h1
          refine ⟨h0, r, ?_, h3⟩
          have : (args.toList.map (ev E) ++ caps).map (res (addS σ bl0)) = (args.toList.map (ev E) ++ caps).map (res σ) := L0Y fun x hx => by
           refine JhT hag hst 8 x fun d hd hn => ?_
           rcases L0w.1 hx with hx | hx
           . obtain ⟨y, hy, rfl⟩ := L08.1 hx
             exact hnd y (by rw [ho]; simp [Op.operands, Call.operands]; exact .inr (by simpa using hy)) d hd hn
           . exact hnd f (by rw [ho]; simp [Op.operands, Call.operands]) d hd (by rw [hfv]; exact .clo g caps x d hx hn)
          rw [<- this]; exact h2
        . exact h1.elim
      . exact h1.elim
    . rfl
 unfold gval
 split
 . exact key
 . rename_i j want hg
   split
   . rfl
   . rename_i t ht
     have he : updO E d0 u t = E t := by
      cases d0 with
      | none => rfl
      | some d => simp only [updO, upd]; rw [if_neg (fun e => hd d rfl (by subst e; exact JkR hg ht))]
     rw [he]
     split
     . rw [key]
     . rfl
     . rfl
theorem Jqd {o : Oper} (y : Oper.fits S.P S.N o = true) {d : Nat} (w : ∀ t, t < S.N -> ¬ DN (E t) d) (s : ∀ id k, σ id = some k -> ∀ e ∈ k.es, ¬ DN e d) {v : AV} {u : List (Nat × Blk)}
 (h : val S o E σ v u) (c : isNm S.P o = true -> d / 16 ≠ nmO S o) : ¬ DN v d /\ ∀ p ∈ u, p.1 / 16 ≠ d / 16 /\ ∀ e ∈ p.2.es, ¬ DN e d := by
 obtain ⟨_, m, _⟩ := JcY y
 have l : ∀ x ∈ o.op.operands, ¬ DN (ev E x) d := fun x z => JtA (Jbq m z) w
 unfold val at h
 split at h
 . obtain ⟨i, rfl⟩ := h; exact ⟨Jk1 l s i, fun p f => by simp at f⟩
 . rename_i q
   have c := c (by simp [isNm, q])
   obtain ⟨i, j⟩ := Jm7 l c h.2
   exact ⟨i, fun p f => ⟨by rw [(j p f).1]; exact c.symm, (j p f).2⟩⟩
 . rename_i q
   have c := c (by simp [isNm, q])
   obtain ⟨i, j⟩ := Jgp c h
   exact ⟨i, fun p f => ⟨by rw [(j p f).1]; exact c.symm, (j p f).2⟩⟩
 . exact h.elim
theorem JcM {ops : Array Oper} {o : Oper} {v : AV} {c : List (Nat × Blk)} (h : gval S ops o E σ v c) : val S o E σ v c \/ (v = .v undef /\ c = []) := by
 unfold gval at h
 split at h
 . exact .inl h
 . split at h
   . exact h.elim
   . split at h
     . rcases h with ⟨_, h⟩ | ⟨_, h⟩
       . exact .inl h
       . exact .inr h
     . exact .inr h
     . exact h.elim
theorem JiZ {o : Oper} {v : AV} {i : List (Nat × Blk)} (f : val S o E σ v i) : ∀ p ∈ i, p.1 / 16 = nmO S o /\ isNm S.P o = true := by
 unfold val at f
 split at f
 . obtain ⟨_, rfl⟩ := f; intro p c; simp at c
 . rename_i h
   intro p c
   -- by any name apart
   refine ⟨?_, by simp [isNm, h]⟩
   have := f.2
   unfold newV at this
   split at this
   . obtain ⟨e, _, _, rfl⟩ := this; simp at c; subst c; simp
   . obtain ⟨e, _, _, rfl⟩ := this; simp at c; subst c; simp
   . split at this
     . obtain ⟨_, _, _, rfl⟩ := this; simp at c; rcases c with rfl | rfl <;> simp <;> omega
     . obtain ⟨z, _, _, _, _, _, rfl⟩ := this; simp at c; subst c; simp
   . obtain ⟨_, _, _, _, rfl⟩ := this; simp at c; subst c; simp
   . obtain ⟨e, _, _, _, _, _, _, _, rfl⟩ := this; simp at c; subst c; simp
   . split at this
     . obtain ⟨e, _, _, z, _, _, _, _, _, _, _, _, rfl⟩ := this; simp at c; subst c; simp
     . exact this.elim
   . exact this.elim
 . rename_i h
   intro p c
   exact ⟨((Jgp (d := 16 * (nmO S o) + 16) (by omega) f).2 p c).1, by simp [isNm, h]⟩
 . exact f.elim
theorem DC.step {C : Nat} {ops : Array Oper} {o : Oper} (J : Oper.fits S.P S.N o = true) (w : DC S.N C E σ) {v : AV} {f : List (Nat × Blk)} (B : gval S ops o E σ v f) (z : isNm S.P o = true -> C ≠ nmO S o) :
 DC S.N C (updO E o.dst v) (addS σ f) := by
 intro d H
 obtain ⟨u, D, F⟩ := w d H
 have m : ¬ DN v d /\ ∀ p ∈ f, p.1 / 16 ≠ d / 16 /\ ∀ e ∈ p.2.es, ¬ DN e d := by
  rcases JcM B with B | ⟨rfl, rfl⟩
  . exact Jqd J D F B fun K => by rw [H]; exact z K
  . exact ⟨fun h => (by cases h), fun p A => by simp at A⟩
 have j : ∀ id k, addS σ f id = some k -> ∀ e ∈ k.es, ¬ DN e d := fun id k y e l => by
  rcases Jlt f σ id k y with s | s
  . exact F id k s e l
  . exact (m.2 _ s).2 e l
 have I : ∀ t, (∀ x, E t = x -> ¬ DN x d) -> ¬ DN (updO E o.dst v t) d := fun t q => by
  cases hdst : o.dst with
  | none => exact q _ rfl
  | some x => simp only [updO, upd]; split; exact m.1; exact q _ rfl
 refine ⟨⟨?_, fun t c => ?_, fun id k y e l c => j id k y e l (DN.of c)⟩, fun t q => I t fun x M => by rw [<- M]; exact D t q, j⟩
 . rw [Jh8 (L := fun i => i / 16 ≠ d / 16) f σ (fun p A => (m.2 p A).1) d (by simp)]; exact u.1
 . cases hdst : o.dst with
   | none => rw [hdst] at c; exact u.2.1 t c
   | some x =>
    rw [hdst] at c; simp only [updO, upd] at c
    split at c
    . exact m.1 (DN.of c)
    . exact u.2.1 t c
theorem Jke {d c : Option Nat} {v f : AV} (h : ∀ x, d = some x -> c ≠ some x) : updO (updO E d v) c f = updO (updO E c f) d v := by
 cases d with
 | none => cases c <;> rfl
 | some x => cases c with
  | none => rfl
  | some y => simp only [updO]; exact Jr3 E x y v f fun e => h x rfl (by rw [e])
theorem Jgd {L L' : Nat -> Prop} : ∀ (d c : List (Nat × Blk)) (σ : Jac), (∀ p ∈ d, L p.1) -> (∀ p ∈ c, ¬ L p.1) -> addS (addS σ d) c = addS (addS σ c) d
 | [], _, _, _, _ => rfl
 | (i, k) :: d, c, σ, h, m => by
  simp only [addS]
  rw [Jgd (L := L) (L' := L') d c _ (fun p f => h p (by simp [f])) m]
  congr 1
  have : ∀ (l : List (Nat × Blk)) (σ : Jac), (∀ p ∈ l, p.1 ≠ i) -> addS (updS σ i k) l = updS (addS σ l) i k := by
   intro l
   induction l with
   | nil => intro σ _; rfl
   | cons x l q =>
    obtain ⟨j, s⟩ := x
    intro σ o
    simp only [addS]
    rw [<- q _ fun p f => o p (by simp [f])]
    congr 1
    funext t
    have := o (j, s) (by simp)
    simp only [updS]
    split <;> split <;> simp_all
  exact this c σ fun p f e => m p f (by rw [e]; exact h (i, k) (by simp))
end
section
variable {S : Sp} {C : Fx} {E E' : Env} {σ σ' : Jac} {a : Act} {w : World} {ρ : Nat -> Option Nat} {Im : Nat -> Prop} {M : Str} {ops : Array Oper}
def Jej (ops : Array Oper) (l : List Nat) : List Oper := l.filterMap fun i => ops[i]?
def Jbt (S : Sp) (ops : Array Oper) : List Nat -> (Env -> Jac -> Prop) -> Env -> Jac -> Prop
 | [], K => K
 | i :: l, K => match ops[i]? with
  | some o => gop S false (bar ops i) ops o (Jbt S ops l K) (struck S true (Jej ops l) (Jbt S ops l K))
  | none => Jbt S ops l K
theorem Jc3 : ∀ (l : List Oper) (i : Nat), (∀ j, j < l.length -> l[j]? = ops[i + j]?) -> Jej ops (List.range' i l.length) = l
 | [], i, _ => rfl
 | o :: l, i, h => by
  have c : ops[i]? = some o := by simpa using (h 0 (by simp)).symm
  rw [L0h, L22]; simp only [Jej, List.filterMap_cons, c]
  congr 1
  exact Jc3 l (i + 1) fun j d => by have := h (j + 1) (by simpa using d); simpa [L0O, Nat.add_comm 1 j] using this
theorem Jgj : ∀ (l : List Oper) (i : Nat) (K : Env -> Jac -> Prop), (∀ j, j < l.length -> l[j]? = ops[i + j]?) -> Jd1 S true ops i l K = Jbt S ops (List.range' i l.length) K
 | [], i, K, _ => rfl
 | o :: l, i, K, h => by
  have h0 : ops[i]? = some o := by simpa using (h 0 (by simp)).symm
  have h' : ∀ j, j < l.length -> l[j]? = ops[i + 1 + j]? := fun j hj => by have := h (j + 1) (by simpa using hj); simpa [L0O, Nat.add_comm 1 j] using this
  rw [L0h, L22]; simp only [Jd1, Jbt, h0, Bool.not_true, L1O]; rw [Jgj l (i + 1) K h', Jc3 l (i + 1) h']
theorem Jdk {P : Program} (u : Jd2 P ops = true) {i : Nat} {d : Oper} (hi : ops[i]? = some d) :
 (∀ e ∈ d.after, Region.binds .any e = true -> e.on < i) /\ (∀ j f, i < j -> ops[j]? = some f -> (waits ops ops.size j i = true \/ (d.apart ops f = true /\ cls P d.op d.type <= 2 /\ cls P f.op f.type <= 2)) /\
  (isNm P d = true -> isNm P f = true -> d.dst.getD 99999 ≠ f.dst.getD 99999)) := by
 have m : i < ops.size := (L0k.1 hi).1
 have h := L0c.1 u i (L0Q.2 m); simp only [hi, L00, Array.all_eq_true_iff_forall_mem] at h
 obtain ⟨⟨p, _⟩, q⟩ := h
 refine ⟨fun e w l => ?_, fun j f y o => ?_⟩
 . have := p e w; simpa [l] using this
 . have k : j < ops.size := (L0k.1 o).1
   have := L0c.1 q j (L0Q.2 k)
   simp only [o, L0z, decide_eq_true_eq, L00, L0U, bne_iff_ne, ne_eq] at this
   rcases this with this | ⟨s, c⟩
   . omega
   . refine ⟨s.imp_right fun h => ⟨h.1.1, h.1.2, h.2⟩, fun t l => ?_⟩
     rcases c with (c | c) | c
     . rw [t] at c; cases c
     . rw [l] at c; cases c
     . exact c
theorem Jkm {c : Type} {xs : Array c} {p : c -> Bool} (h : xs.any p = true) : ∃ e ∈ xs, p e = true := by
 rw [<- Array.any_toList] at h
 obtain ⟨e, d, f⟩ := L1F.1 h
 exact ⟨e, L0s.1 d, f⟩
theorem Jmr {P : Program} (d : Jd2 P ops = true) : ∀ (n j i : Nat), waits ops n j i = true -> i < j
 | 0, _, _, h => by simp [waits] at h
 | n + 1, j, i, h => by
  simp only [waits] at h
  split at h
  . rename_i o k
    obtain ⟨e, f, c⟩ := Jkm h
    simp only [L00, L0z, beq_iff_eq] at c; have l := (Jdk d k).1 e f c.1
    rcases c.2 with c | c
    . omega
    . have := Jmr d n e.on i c; omega
  . cases h
theorem Jdz {c : Array Bool} (k : ∀ i o, ops[i]? = some o -> c.getD i false = true -> ∀ e ∈ o.after, Region.binds .any e = true -> c.getD e.on false = true) :
 ∀ (n i j : Nat) (o : Oper), ops[i]? = some o -> (∀ e ∈ o.after, Region.binds .any e = true -> c.getD e.on false = true) -> waits ops n i j = true -> c.getD j false = true
 | 0, _, _, _, _, _, h => by simp [waits] at h
 | n + 1, i, j, o, s, f, h => by
  simp only [waits, s] at h
  obtain ⟨e, q, l⟩ := Jkm h
  simp only [L00, L0z, beq_iff_eq] at l; have m := f e q l.1
  rcases l.2 with d | d
  . rw [<- d]; exact m
  . cases n with
    | zero => simp [waits] at d
    | succ n =>
     cases hoe : ops[e.on]? with
     | none => simp [waits, hoe] at d
     | some p => exact Jdz k (n + 1) e.on j p hoe (k e.on p hoe m) d
theorem JnV {P : Program} (d : Jd2 P ops = true) {i j : Nat} (f : j < i) (hi : i < ops.size) (h : waits ops ops.size i j = false) : bar ops i = false /\ bar ops j = false := by
 have c : waits ops ops.size j i = false := by
  cases hw : waits ops ops.size j i with
  | false => rfl
  | true => have := Jmr d _ _ _ hw; omega
 constructor
 . cases hb : bar ops i with
   | false => rfl
   | true =>
    have := L0c.1 hb j (L0Q.2 (by omega))
    simp [h, c] at this; omega
 . cases hb : bar ops j with
   | false => rfl
   | true =>
    have := L0c.1 hb i (L0Q.2 hi)
    simp [h, c] at this; omega
def Jba (S : Sp) (ops : Array Oper) (l : List Nat) (E : Env) (σ : Jac) : Prop := ∀ k ∈ l, ∀ o, ops[k]? = some o -> isNm S.P o = true -> DC S.N (nmO S o) E σ
theorem JxX (l : Jd2 S.P ops = true) {i j : Nat} {c d : Oper} (hi : ops[i]? = some c) (m : ops[j]? = some d) (o : i ≠ j) (f : isNm S.P c = true) (k : isNm S.P d = true) : nmO S c ≠ nmO S d := by
 unfold nmO
 rcases Nat.lt_or_ge i j with h | h
 . exact fun e => ((Jdk l hi).2 j d h m).2 f k (L26 e)
 . exact fun e => ((Jdk l m).2 i c (by omega) hi).2 k f (L26 e.symm)
theorem Jba.step (c : ∀ (i : Nat) (o : Oper), ops[i]? = some o -> Oper.fits S.P S.N o = true) (s : Jd2 S.P ops = true) {i : Nat} {f : Oper} (hi : ops[i]? = some f) {l : List Nat} (t : i ∉ l) (h : Jba S ops l E σ) {v : AV} {j : List (Nat × Blk)}
 (u : gval S ops f E σ v j) : Jba S ops l (updO E f.dst v) (addS σ j) := fun k m o p d =>
 (h k m o p d).step (c i f hi) u fun q => JxX s p hi (fun e => t (e ▸ m)) d q
theorem bubble (t : ∀ (i : Nat) (o : Oper), ops[i]? = some o -> Oper.fits S.P S.N o = true) (R : Jd2 S.P ops = true) {i : Nat} {z : Oper} (hi : ops[i]? = some z) {f : List Nat} {K : Env -> Jac -> Prop} :
 ∀ (s : List Nat), (∀ j ∈ s, j < i /\ waits ops ops.size i j = false) -> (s ++ i :: f).Nodup -> ∀ (E : Env) (σ : Jac), Jba S ops (s ++ i :: f) E σ -> Jbt S ops (s ++ i :: f) K E σ -> Jbt S ops (i :: (s ++ f)) K E σ
 | [], _, _, E, σ, _, h => h
 | j :: s, A, F, E, σ, C, h => by
  obtain ⟨V, hw⟩ := A j (by simp)
  have U : i < ops.size := (L0k.1 hi).1
  obtain ⟨u, D⟩ : ∃ u, ops[j]? = some u := ⟨_, L0g (by omega)⟩
  obtain ⟨I, J⟩ := JnV R V U hw
  have Q := (((Jdk R D).2 i z V hi).1).resolve_left (by rw [hw]; simp)
  obtain ⟨ac, O, M⟩ := Q
  obtain ⟨a1, a2, a3⟩ := Oper.apart_spec ac
  rw [L0y, L1q] at F; simp only [L0y, Jbt, D, J] at h
  obtain ⟨Z, d, H, h⟩ := (Jb6 O).1 h
  have T : Jba S ops (s ++ i :: f) (updO E u.dst Z) (addS σ d) := Jba.step t R D F.1 (fun k hk => C k (by simp only [L0y, L0i]; exact .inr hk)) H
  have h := bubble t R hi s (fun k hk => A k (by simp [hk])) F.2 _ _ T h
  simp only [Jbt, hi, I] at h
  obtain ⟨X, c, ae, h⟩ := (Jb6 M).1 h
  have y : ∀ p ∈ d, p.1 / 16 = nmO S u /\ isNm S.P u = true := by
   rcases JcM H with hv | ⟨_, rfl⟩
   . exact JiZ hv
   . intro p A; simp at A
  have ab : d = [] \/ (DC S.N (nmO S u) E σ /\ ∀ p ∈ d, p.1 / 16 = nmO S u) := by
   cases hb : d with
   | nil => exact .inl rfl
   | cons p l => exact .inr ⟨C j (by simp) u D (y p (by rw [hb]; simp)).2, fun q hq => (y q (by rw [hb]; exact hq)).1⟩
  have B : gval S ops z E σ X c := (JdH (t i z hi) a1 ab).1 ae
  have w : ∀ p ∈ c, p.1 / 16 = nmO S z /\ isNm S.P z = true := by
   rcases JcM B with hv | ⟨_, rfl⟩
   . exact JiZ hv
   . intro p A; simp at A
  have aa : c = [] \/ (DC S.N (nmO S z) E σ /\ ∀ p ∈ c, p.1 / 16 = nmO S z) := by
   cases hb : c with
   | nil => exact .inl rfl
   | cons p l => exact .inr ⟨C i (by simp) z hi (w p (by rw [hb]; simp)).2, fun q hq => (w q (by rw [hb]; exact hq)).1⟩
  have W : gval S ops u (updO E z.dst X) (addS σ c) Z d := (JdH (t j u D) a3 aa).2 H
  have e1 : updO (updO E u.dst Z) z.dst X = updO (updO E z.dst X) u.dst Z := Jke a2
  have e2 : addS (addS σ d) c = addS (addS σ c) d := by
   by_cases hb : isNm S.P z = true /\ isNm S.P u = true
   . have ad := JxX (S := S) R hi D (by omega) hb.1 hb.2
     exact Jgd (L := fun id => id / 16 = nmO S u) (L' := fun _ => True) d c σ (fun p A => (y p A).1) fun p A h => ad ((w p A).1.symm.trans h)
   . have : d = [] \/ c = [] := by
      cases hb1 : d with
      | nil => exact .inl rfl
      | cons p l => cases hb2 : c with
       | nil => exact .inr rfl
       | cons q m => exact absurd ⟨(w q (by rw [hb2]; simp)).2, (y p (by rw [hb1]; simp)).2⟩ hb
     rcases this with h' | h' <;> rw [h'] <;> rfl
  rw [e1, e2] at h; simp only [Jbt, hi, I]
  refine (Jb6 M).2 ⟨X, c, B, ?_⟩
  simp only [L0y, Jbt, D, J]
  exact (Jb6 O).2 ⟨Z, d, W, h⟩
def rem (ops : Array Oper) (listed : Array Bool) : List Nat := (List.range ops.size).filter fun i => !listed.getD i true
theorem JaM {listed : Array Bool} {i : Nat} : i ∈ rem ops listed ↔ i < ops.size /\ listed.getD i true = false := by simp [rem]
theorem Jg1 (c : Array Bool) : (rem ops c).Nodup := List.Pairwise.filter _ List.nodup_range
theorem JbZ (c : Array Bool) : (rem ops c).Pairwise (· < ·) := List.Pairwise.filter _ List.pairwise_lt_range
theorem Jg2 {listed : Array Bool} (hs : listed.size = ops.size) {i : Nat} {pre post : List Nat} (h : rem ops listed = pre ++ i :: post) : rem ops (listed.setIfInBounds i true) = pre ++ post := by
 have hnd := Jg1 (ops := ops) listed
 have e : rem ops (listed.setIfInBounds i true) = (rem ops listed).filter fun k => k != i := by
  unfold rem; rw [List.filter_filter]
  apply List.filter_congr
  intro k hk
  have hk : k < listed.size := by rw [hs]; exact L0Q.1 hk
  by_cases hki : k = i
  . subst hki; simp [hk]
  . have : ∀ d, (listed.setIfInBounds i true).getD k d = listed.getD k d := fun d => by
     simp only [L0B]; rw [L14 (Ne.symm hki)]
    rw [this]; simp [hki]
 rw [e, h]; rw [h] at hnd; simp only [List.filter_append, List.filter_cons, bne_self_eq_false, L0D, if_false]; rw [L1S] at hnd; obtain ⟨h1, h2, h3⟩ := hnd; rw [L1q] at h2
 congr 1
 . rw [L27]; intro k hk; have := h3 k hk i (by simp); simpa using this
 . rw [L27]; intro k hk; simp; rintro rfl; exact h2.1 hk
theorem JqL (H : Holds S C) (L : St C E σ a w) {B : Nat} (h : ∀ d, d / 16 = B -> Jbh d E σ) : DC S.N B E σ := by
 obtain ⟨Q, R, M, s⟩ := L
 intro d I
 have l := h d I
 refine ⟨l, fun t O m => ?_, fun id k y e q m => ?_⟩
 . have o : t < a.tmps.size := by rw [s.size, <- H.N]; exact O
   exact l.2.1 t ((s.env t _ (L0g o)).dn m)
 . refine l.2.2 id k y e q ?_
   cases hρ : Q id with
   | none => rw [s.inv.nil id k y hρ] at q; simp at q
   | some b =>
    by_cases hz : k.sz = 0
    . obtain ⟨p, D, _, K, f⟩ := s.inv.map id k b y hρ hz
      obtain ⟨i, u⟩ := L0v.1 q
      have o : i < p.size := by rw [<- K.1]; exact (L05.1 u).1
      obtain ⟨v, A, z⟩ := f i _ (L0g o)
      rw [u] at A; cases A
      cases m with | tup _ c _ l m =>
       simp at l
       rcases l with rfl | rfl
       . cases m
       . exact .tup _ _ d (by simp) (z.dn m)
    . obtain ⟨F, _, _, _, f⟩ := s.inv.blk id k b y hρ hz
      obtain ⟨c, l, m⟩ := m.cell
      obtain ⟨i, u⟩ := L0v.1 q
      obtain ⟨j, J⟩ := L0v.1 l
      obtain ⟨x, _, _, z⟩ := f i e j c u J
      exact Jbj l (z.dn m)
theorem JiM {l : List Oper} {i : Nat} : regP S l i = true ↔ ∃ o ∈ l, isNm S.P o = true /\ i / 16 = nmO S o := by
 simp only [regP, L0K, L1E, isNm, nmO]
 constructor
 . rintro ⟨o, d, h⟩
   split at h
   . rename_i c; exact ⟨o, d, c, (Option.some.inj h).symm⟩
   . cases h
 . rintro ⟨o, d, c, e⟩
   exact ⟨o, d, by rw [if_pos c, e]⟩
theorem Je0 {l : List Nat} (H : Holds S C) (f : ∀ o ∈ Jej ops l, Oper.fits S.P S.N o = true) {K : Env -> Jac -> Prop} (h : struck S true (Jej ops l) K E σ) (u : St C E σ a w) :
 ∃ E' c, K E' c /\ Jba S ops l E' c /\ St C E' c a w := by
 simp only [struck, if_true] at h
 have j : St C (JaR (regP S (Jej ops l)) E) (Jak (regP S (Jej ops l)) σ) a w := u.kill H.G _ fun id b s => by
  cases hr : regP S (Jej ops l) id with
  | false => rfl
  | true =>
   obtain ⟨o, q, i, e⟩ := JiM.1 hr
   have p : o.dst.getD 99999 < 100000 := by
    cases m : o.dst with
    | none => simp
    | some d => exact L0R ((JcY (f o q)).1 d m) (L0r H.big (by decide))
   have := H.own p id b s
   simp [own] at this
   exact absurd e this
 refine ⟨_, _, h, fun k t o q i => JqL H j fun d m => ?_, j⟩
 exact JbC (JiM.2 ⟨o, L1E.2 ⟨k, t, q⟩, i, m⟩) E σ
theorem Jho {q : Bool} {o : Oper} {K p X : Env -> Jac -> Prop} (c : ∀ v i, val S o E σ v i -> X (updO E o.dst v) (addS σ i)) (h : aop S false q o K p E σ) :
 aop S false q o (fun E' l => K E' l /\ X E' l) p E σ := by
 unfold aop at *; unfold val nmO at c
 split at h
 . rename_i k; simp only [k] at c
   obtain ⟨v, f, j⟩ := h; exact ⟨v, f, j, c v [] ⟨f, rfl⟩⟩
 . rename_i k; simp only [k] at c
   obtain ⟨d, m, v, i, f, j⟩ := h; simp only [kE, kS, L0D, if_false] at f j ⊢
   exact ⟨d, m, v, i, f, j, by have := c v i ⟨by simp [m], by simpa [m] using f⟩; simpa [m] using this⟩
 . rename_i k; simp only [k] at c
   simp only [kE, kS, L0D, if_false] at h ⊢
   rcases h with ⟨v, i, f, j⟩ | h
   . exact .inl ⟨v, i, f, j, c v i f⟩
   . exact .inr h
 . exact h
 . exact h
 . exact h
 . exact h
theorem Jhx {bi : Bool} {o : Oper} {K Kb X : Env -> Jac -> Prop} (hstep : ∀ v bl, gval S ops o E σ v bl -> X (updO E o.dst v) (addS σ bl)) (h : gop S false bi ops o K Kb E σ) :
 gop S false bi ops o (fun E' σ' => K E' σ' /\ X E' σ') Kb E σ := by
 unfold gop at *; unfold gval at hstep
 cases hg : o.guard with
 | none => simp only [hg] at h hstep ⊢; exact Jho hstep h
 | some p =>
  obtain ⟨j, want⟩ := p; simp only [hg] at h hstep ⊢
  cases ht : (ops[j]?).bind (·.dst) with
  | none => simp [ht] at h
  | some t =>
   simp only [ht] at h hstep ⊢
   split at h
   . rename_i b hb; simp only [hb] at hstep
     have h1 : b = want -> upd E t (.v (.bool want)) = E := fun e => Jb9 E t _ (by rw [hb, e])
     have h2 : b = (!want) -> upd E t (.v (.bool !want)) = E := fun e => Jb9 E t _ (by rw [hb, e])
     refine ⟨fun e => ?_, fun e => ?_⟩
     . have h := h.1 e; rw [h1 e] at h ⊢
       exact Jho (fun v bl hv => hstep v bl (.inl ⟨e, hv⟩)) h
     . refine ⟨h.2 e, ?_⟩
       rw [h2 e]; exact hstep _ [] (.inr ⟨e, rfl, rfl⟩)
   . rename_i hb; simp only [hb] at hstep
     exact ⟨h, hstep _ [] ⟨rfl, rfl⟩⟩
   . exact h.elim
theorem JcK (H : Holds S C) : Ji2 S C := by
 intro ops hfits hd n K Q E σ a w hK hv hs id
 have hall : ∀ (i : Nat) (o : Oper), ops[i]? = some o -> Oper.fits S.P S.N o = true := fun i o ho => L0c.1 hfits o (L0s.2 (L1v ho))
 have hat : ∀ l, ∀ o ∈ Jej ops l, Oper.fits S.P S.N o = true := fun l o ho => by
  obtain ⟨i, _, hi⟩ := L1E.1 ho; exact hall i o hi
 have hfull : Jej ops (List.range' 0 ops.toList.length) = ops.toList := Jc3 ops.toList 0 fun j _ => by simp
 refine wpIn_region_any H.mo ?_
 obtain ⟨E1, σ1, hv1, hdc1, hs1⟩ := Je0 (l := List.range' 0 ops.toList.length) H (hat _) (by rw [hfull]; exact hv) (hs.drew H.G (w.drawn + 1))
 rw [Jgj ops.toList 0 K fun j _ => by simp] at hv1
 have key : ∀ (fuel : Nat) (listed : Array Bool) (E : Env) (σ : Jac) (a : Act) (w : World), listed.size = ops.size -> (rem ops listed).length <= fuel ->
  (∀ i o, ops[i]? = some o -> listed.getD i false = true -> ∀ e ∈ o.after, Region.binds .any e = true -> listed.getD e.on false = true) ->
  Jbt S ops (rem ops listed) K E σ -> Jba S ops (rem ops listed) E σ -> St C E σ a w -> wpAnyIn (FW C.rdl) n S.P .any ops Q fuel listed a w := by
  intro fuel
  induction fuel with
  | zero =>
   intro listed E σ a w hsz hle hcl hv hdc hs
   have h0 : rem ops listed = [] := L0M (by omega)
   rw [h0] at hv
   refine ⟨?_, hK _ _ _ _ hv hs⟩
   cases hr : Region.ready .any ops listed with
   | nil => rfl
   | cons i l =>
    have hi : i ∈ Region.ready .any ops listed := by rw [hr]; simp
    obtain ⟨h1, o, ho, _⟩ := mem_ready.1 hi
    have : i ∈ rem ops listed := JaM.2 ⟨(L0k.1 ho).1, h1⟩
    rw [h0] at this; simp at this
  | succ fuel ih =>
   intro listed E σ a w hsz hle hcl hv hdc hs
   have getD_same : ∀ i, i < ops.size -> listed.getD i true = listed.getD i false := fun i hi => by
    simp only [L0B]; rw [L0g (by omega)]; rfl
   refine ⟨fun h0 => ?_, fun i hi => ?_⟩
   . -- nothing is ready: nothing is left
     have hr : rem ops listed = [] := by
      cases hr : rem ops listed with
      | nil => rfl
      | cons i l =>
       exfalso
       have hm : i ∈ rem ops listed := by rw [hr]; simp
       obtain ⟨hlt, hun⟩ := JaM.1 hm
       have : i ∈ Region.ready .any ops listed := mem_ready.2 ⟨hun, _, L0g hlt, fun e he hb => by
        have hei := (Jdk hd (L0g hlt)).1 e he hb
        cases hl : listed.getD e.on false with
        | true => rfl
        | false =>
         have hme : e.on ∈ rem ops listed := JaM.2 ⟨by omega, by rw [getD_same _ (by omega)]; exact hl⟩
         have hsort := JbZ (ops := ops) listed
         rw [hr] at hme hsort
         rcases L0i.1 hme with h | h
         . omega
         . have := (L1p.1 hsort).1 _ h; omega⟩
       rw [h0] at this; simp at this
     rw [hr] at hv
     exact hK _ _ _ _ hv hs
   . obtain ⟨hun, o, ho, hedges⟩ := mem_ready.1 hi
     have hlt : i < ops.size := (L0k.1 ho).1
     have hm : i ∈ rem ops listed := JaM.2 ⟨hlt, hun⟩
     obtain ⟨pre, post, hsplit⟩ := L1T hm
     have hsort := JbZ (ops := ops) listed
     have hnd := Jg1 (ops := ops) listed
     have hset := Jg2 hsz hsplit; rw [hsplit] at hv hdc hsort hnd
     have hpre : ∀ j ∈ pre, j < i /\ waits ops ops.size i j = false := fun j hj => by
      refine ⟨(List.pairwise_append.1 hsort).2.2 j hj i (by simp), ?_⟩
      cases hw : waits ops ops.size i j with
      | false => rfl
      | true =>
       have h1 := Jdz hcl ops.size i j o ho hedges hw
       have h2 := JaM.1 (show j ∈ rem ops listed by rw [hsplit]; simp [hj])
       rw [getD_same j h2.1, h1] at h2; simp at h2
     have hv := bubble hall hd ho pre hpre hnd E σ hdc hv
     have hnd' : i ∉ pre ++ post := by
      rw [L1S] at hnd; obtain ⟨h1, h2, h3⟩ := hnd; rw [L1q] at h2
      intro h; rcases L0w.1 h with h | h
      . exact h3 i h i (by simp) rfl
      . exact h2.1 h
     have hdc' : Jba S ops (pre ++ post) E σ := fun k hk => hdc k (by rcases L0w.1 hk with h | h <;> simp [h])
     simp only [Jbt, ho] at hv
     have next : ∀ E' σ' a' w', Jbt S ops (pre ++ post) K E' σ' -> Jba S ops (pre ++ post) E' σ' -> St C E' σ' a' w' -> wpAnyIn (FW C.rdl) n S.P .any ops Q fuel (listed.setIfInBounds i true) a' w' := fun E' σ' a' w' h1 h2 h3 => by
      refine ih (listed.setIfInBounds i true) E' σ' a' w' (by simpa using hsz) ?_ ?_ (by rw [hset]; exact h1) (by rw [hset]; exact h2) h3
      . rw [hset]; rw [hsplit] at hle; simp at hle ⊢; omega
      . intro k ok hk hl e he hb
        have mono : ∀ q, listed.getD q false = true -> (listed.setIfInBounds i true).getD q false = true := fun q hq => by
         simp only [L0B] at hq ⊢
         by_cases hqi : q = i
         . subst hqi; simp [hsz, hlt]
         . rw [L14 (Ne.symm hqi)]; exact hq
        refine mono _ ?_
        by_cases hki : k = i
        . subst hki; rw [ho] at hk; cases hk; exact hedges e he hb
        . refine hcl k ok hk ?_ e he hb
          simp only [L0B] at hl ⊢
          rw [L14 (Ne.symm hki)] at hl; exact hl
     obtain ⟨ρ, Im, M, hw⟩ := hs
     have clean : cls S.P o.op o.type = 1 \/ cls S.P o.op o.type = 2 -> ∀ k, k < 16 -> Jbh (16 * (S.b + o.dst.getD 99999) + k) E σ := fun hc k hk =>
      (hdc i (by simp) o ho (by rcases hc with h | h <;> simp [isNm, h]) (16 * (S.b + o.dst.getD 99999) + k) (by unfold nmO; omega)).1
     refine Jcq ho (Jdm (Kc := wpAnyIn (FW C.rdl) n S.P .any ops Q fuel (listed.setIfInBounds i true)) H hw hall (hall i o ho) false (bar ops i) (fun _ => clean)
      (Jhx (X := Jba S ops (pre ++ post)) (fun v bl hv => Jba.step hall hd ho hnd' hdc' hv) hv) (fun E' σ' a' w' h1 h2 => next E' σ' a' w' h1.1 h1.2 h2) fun E' σ' a' w' h1 h2 => ?_)
     obtain ⟨E'', σ'', h3, h4, h5⟩ := Je0 (l := pre ++ post) H (hat _) h1 h2
     exact next E'' σ'' a' w' h3 h4 h5
 have hrem0 : rem ops (Array.replicate ops.size false) = List.range' 0 ops.toList.length := by
  unfold rem; rw [<- L1B, L0x, L27]
  intro i hi; simp [L0Q.1 hi]
 exact key ops.size _ E1 σ1 a _ (by simp) (by unfold rem; exact L0r (L1U _ _) (by simp)) (fun i o ho h => by
  simp only [L0B, L1G] at h; split at h <;> simp at h) (by rw [hrem0]; exact hv1) (by rw [hrem0]; exact hdc1) hs1
end
variable {P : Program} {C : Fx} {w : World} {ρ : Nat -> Option Nat} {Im : Nat -> Prop} {M : Str} {E : Env} {σ : Jac} {a : Act}
def Jat : List AV -> List Nat
 | [] => []
 | .own id _ 0 _ :: r => id :: Jat r
 | .ptr id _ 0 0 :: r => id :: Jat r
 | _ :: r => Jat r
def topP (vs : List AV) : Nat -> Bool := fun i => (Jat vs).contains i
def expo (σ : Jac) (p : Nat -> Bool) (v : AV) : AV :=
 match v with
 | .own id c 0 n => match σ id with
  | some k => .new k.e c (resL (res (Jak p σ)) (k.es.take n))
  | none => .any
 | .ptr id c 0 0 => match σ id with
  | some k => .nptr k.e c (resL (res (Jak p σ)) k.es)
  | none => .any
 | v => res (Jak p σ) v
def JbM (σ : Jac) (p : Nat -> Bool) (v : AV) : Prop :=
 match v with
 | .own id c 0 n => ∃ k, σ id = some k /\ k.sz = c /\ n <= k.es.length /\ AV.namesL p k.es = false
 | .ptr id c 0 0 => ∃ k, σ id = some k /\ k.sz = c /\ AV.namesL p k.es = false
 | v => AV.namesB p v = false
def JeF (σ : Jac) (vs : List AV) : Prop := (Jat vs).Nodup /\ ∀ v ∈ vs, JbM σ (topP vs) v
theorem Jhr (m : Inv w ρ Im σ) {p : Nat -> Bool} {id b : Nat} {k : Blk} (M : σ id = some k) (E : ρ id = some b) (T : k.sz ≠ 0) (O : AV.namesL p k.es = false) (n : Nat) :
 JbT w (Seen Im (killR p ρ)) k.e k.sz (resL (res (Jak p σ)) (k.es.take n)) b := by
 obtain ⟨A, B, I, R, H⟩ := m.blk id k b M E T
 have s : ∀ {i x}, (resL (res (Jak p σ)) (k.es.take n))[i]? = some x -> ∃ e, k.es[i]? = some e /\ (x = res (Jak p σ) e \/ (x = e /\ ∀ id, ¬ Names e id)) := fun {i x} h => by
  obtain ⟨e, f, d⟩ := Jf6 h
  rw [L0m] at f
  split at f
  . exact ⟨e, f, d⟩
  . cases f
 refine ⟨A, B, fun x S => ?_, ?_, fun i x j c C l => ?_⟩
 . obtain ⟨i, C⟩ := L0v.1 S
   obtain ⟨e, f, d⟩ := s C
   rcases d with rfl | ⟨rfl, _⟩
   . rw [show (res (Jak p σ) e).cells.length = e.cells.length from Jf5 8 _ e]; exact I e (L01 f)
   . exact I _ (L01 f)
 . rw [JaY]; simp only [L02]
   exact L0r (L0A _ (Nat.min_le_right _ _)) R
 . obtain ⟨e, f, d⟩ := s C
   have u : x.cells.length = e.cells.length := by
    rcases d with rfl | ⟨rfl, _⟩
    . exact Jf5 8 _ e
    . rfl
   have L : j < e.cells.length := by rw [<- u]; exact (L05.1 l).1
   obtain ⟨v, J, K, _⟩ := H i e j _ f (L09 L)
   refine ⟨v, J, K, ?_⟩
   have o : ∀ z, e.cells[j]? = some z -> Rep w (killR p ρ) Im z v := fun z t => by
    obtain ⟨U, y, _, Q⟩ := H i e j z f t
    rw [J] at y; cases y
    refine Q.killR fun F q => ?_
    cases hp : p F with
    | false => rfl
    | true =>
     have := (AV.namesL_iff p k.es).2 ⟨e, L01 f, AV.namesB_of p (Jbj (L01 t) q) hp⟩
     rw [O] at this; cases this
   rcases d with rfl | ⟨rfl, D⟩
   . exact JpD (m.kill p) 8 l o
   . exact (Jbx (o c l) fun id q => D id (Jbj (L01 l) q)).mono (fun b B => .inl B) (fun _ _ => rfl)
theorem JmR (l : Inv w ρ Im σ) {p : Nat -> Bool} {v : AV} {y : Value} (C : Rep w ρ Im v y) (m : JbM σ p v) : ∃ D, R1 w (Seen Im (killR p ρ)) (expo σ p v) y D /\ ∀ b, D = some b -> ∃ id, id ∈ Jat [v] /\ ρ id = some b := by
 have c : (∀ id E n, v ≠ .own id E 0 n) -> (∀ id E, v ≠ .ptr id E 0 0) -> AV.namesB p v = false -> expo σ p v = res (Jak p σ) v -> ∃ D, R1 w (Seen Im (killR p ρ)) (expo σ p v) y D /\ ∀ b, D = some b -> ∃ id, id ∈ Jat [v] /\ ρ id = some b := by
  intro S T B R
  have d := Jg3 (l.kill p) (C.killR (p := p) fun id J => by
   cases hp : p id with
   | false => rfl
   | true => have := AV.namesB_of p J hp; rw [B] at this; cases this)
  refine ⟨none, ?_, fun b t => by cases t⟩
  rw [R]; unfold R1
  split
  . rename_i e; rw [e] at d; cases d
  . rename_i e; rw [e] at d; cases d
  . exact ⟨rfl, d⟩
 cases v with
 | own id E i n =>
  cases i with
  | succ i => exact c (fun _ _ _ h => by cases h) (fun _ _ h => by cases h) m rfl
  | zero =>
   obtain ⟨k, u, rfl, K, B⟩ := m
   have s : expo σ p (.own id k.sz 0 n) = .new k.e k.sz (resL (res (Jak p σ)) (k.es.take n)) := by simp only [expo, u]
   rw [s]
   have o : (resL (res (Jak p σ)) (k.es.take n)).length = n := by rw [JaY]; simp [L0P K]
   rcases C.own0_inv with ⟨rfl, rfl, f⟩ | ⟨b, F, H, e, rfl, f, L, A, t, M, z⟩
   . exact ⟨none, .inl ⟨rfl, by simp [resL], rfl⟩, fun b t => by cases t⟩
   . refine ⟨some b, .inr ⟨b, F, z, rfl, by rw [o], by rw [o]; exact L, A, ⟨H, ?_, M⟩, Jhr l u f z B n⟩, fun Q q => by cases q; exact ⟨id, by simp [Jat], f⟩⟩
     obtain ⟨O, I, _⟩ := l.blk id k b u f z
     obtain ⟨rfl, rfl⟩ := JcI t I; exact t
 | ptr id E i j =>
  cases i with
  | succ i => exact c (fun _ _ _ h => by cases h) (fun _ _ h => by cases h) m rfl
  | zero =>
   cases j with
   | succ j => exact c (fun _ _ _ h => by cases h) (fun _ _ h => by cases h) m rfl
   | zero =>
    obtain ⟨k, u, rfl, B⟩ := m
    have s : expo σ p (.ptr id k.sz 0 0) = .nptr k.e k.sz (resL (res (Jak p σ)) k.es) := by simp only [expo, u]
    rw [s]
    cases C with
    | im _ _ C => cases C
    | ptr _ _ _ _ b f z =>
     have := Jhr l u f z B k.es.length
     rw [L0e] at this
     exact ⟨some b, ⟨b, z, rfl, by simp, this⟩, fun Q q => by cases q; exact ⟨id, by simp [Jat], f⟩⟩
 | _ => exact c (fun _ _ _ h => by cases h) (fun _ _ h => by cases h) m rfl
theorem Jed (hinv : Inv w ρ Im σ) {p : Nat -> Bool} : ∀ (vs : List AV) (ys : List Value), Reps w ρ Im vs ys -> (∀ v ∈ vs, JbM σ p v) -> (Jat vs).Nodup ->
 ∃ obs, RL w (Seen Im (killR p ρ)) (vs.map (expo σ p)) ys obs /\ (∀ b, some b ∈ obs -> ∃ id ∈ Jat vs, ρ id = some b) /\ obs.Pairwise fun x y => x = none \/ x ≠ y
 | [], [], _, _, _ => ⟨[], trivial, fun b hb => by simp at hb, .nil⟩
 | [], y :: ys, h, _, _ => by simp [Reps] at h
 | v :: vs, [], h, _, _ => by simp [Reps] at h
 | v :: vs, y :: ys, h, hok, hnd => by
  obtain ⟨ob, h1, h2⟩ := JmR hinv (h.2 0 v y rfl rfl) (hok v (by simp))
  have htop : ∀ id, id ∈ Jat (v :: vs) ↔ id ∈ Jat [v] \/ id ∈ Jat vs := fun id => by
   cases v with
   | own i s o n => cases o <;> simp [Jat]
   | ptr i s o j => cases o <;> cases j <;> simp [Jat]
   | _ => simp [Jat]
  have hnd' : (Jat vs).Nodup /\ ∀ id, id ∈ Jat [v] -> id ∉ Jat vs := by
   cases v with
   | own i s o n => cases o <;> simp_all [Jat]
   | ptr i s o j => cases o <;> cases j <;> simp_all [Jat]
   | _ => simp_all [Jat]
  obtain ⟨obs, h3, h4, h5⟩ := Jed hinv vs ys ⟨by simpa using h.1, fun j c z hc hz => h.2 (j + 1) c z (by simpa using hc) (by simpa using hz)⟩ (fun x hx => hok x (by simp [hx])) hnd'.1
  refine ⟨ob :: obs, ⟨h1, h3⟩, fun b hb => ?_, L1p.2 ⟨fun x hx => ?_, h5⟩⟩
  . rcases L0i.1 hb with hb | hb
    . obtain ⟨id, hid, hρ⟩ := h2 b hb.symm; exact ⟨id, (htop id).2 (.inl hid), hρ⟩
    . obtain ⟨id, hid, hρ⟩ := h4 b hb; exact ⟨id, (htop id).2 (.inr hid), hρ⟩
  . cases ob with
    | none => exact .inl rfl
    | some b =>
     refine .inr fun e => ?_
     subst e
     obtain ⟨id, hid, hρ⟩ := h2 b rfl
     obtain ⟨id', hid', hρ'⟩ := h4 b hx
     have := hinv.inj id id' b hρ hρ'
     subst this
     exact hnd'.2 id hid hid'
def rvals (P : Program) (E : Env) (σ : Jac) : List ResultVar -> (List AV -> Prop) -> Prop
 | [], K => K []
 | .tmp t :: r, K => rvals P E σ r fun vs => K (E t :: vs)
 | .cell t d :: r, K => JbW σ (E t) fun c j => ∃ v, Jcm P d c j v /\ rvals P E σ r fun vs => K (v :: vs)
def AV.single : AV -> Bool
 | .tup _ => false
 | .clo _ _ => false
 | _ => true
def retK (σ : Jac) (R : AV -> Prop) (vs : List AV) : Prop :=
 match vs with
 | [.clo g c] => JeF σ c /\ R (.clo g (c.map (expo σ (topP c))))
 | [v] => v.single = true /\ JeF σ [v] /\ R (expo σ (topP [v]) v)
 | vs => JeF σ vs /\ R (.tup (vs.map (expo σ (topP vs))))
def ResultVar.low (N : Nat) : ResultVar -> Bool
 | .tmp t => decide (t < N)
 | .cell t _ => decide (t < N)
def JfV (tm : Array Value) : ResultVar -> Sem Value
 | .tmp t => pure (tm.getD t undef)
 | .cell t c => do loadVar c (<- asAddr (tm.getD t undef))
theorem Jeo (f : Inv w ρ Im σ) {tm : Array Value} (d : JaG w ρ Im E tm) : ∀ (l : List ResultVar) (K : List AV -> Prop), (l.all (ResultVar.low tm.size)) = true -> rvals P E σ l K ->
 ∃ vs ys, K vs /\ Reps w ρ Im vs ys /\ (l.mapM (JfV tm)).run P w = .ok ys w
 | [], K, _, h => ⟨[], [], h, ⟨rfl, fun j c y k => by simp at k⟩, by simp⟩
 | .tmp t :: r, K, m, h => by
  simp only [L1V, L00, ResultVar.low, decide_eq_true_eq] at m
  obtain ⟨vs, ys, A, q, i⟩ := Jeo f d r _ m.2 h
  refine ⟨E t :: vs, tm.getD t undef :: ys, A, ⟨by simp [q.1], fun j c y k u => ?_⟩, by simp [Sem.run_bind, JfV, i]⟩
  cases j with
  | zero => simp at k u; subst k; rw [<- u]; exact d t _ (by simp [m.1])
  | succ j => exact q.2 j c y (by simpa using k) (by simpa using u)
 | .cell t L :: r, K, m, h => by
  simp only [L1V, L00, ResultVar.low, decide_eq_true_eq] at m
  have I := d t (tm.getD t undef) (by simp [m.1])
  obtain ⟨J, j, b, o, M, ⟨v, H, h⟩, u, F, C, D⟩ := Jey f h I
  obtain ⟨y, p, s⟩ := Jfj (P := P) H F C D
  obtain ⟨vs, ys, A, q, i⟩ := Jeo f d r _ m.2 h
  refine ⟨v :: vs, y :: ys, A, ⟨by simp [q.1], fun j c z k B => ?_⟩, by simp [JfV, u, asAddr, p, i]⟩
  cases j with
  | zero => simp at k B; subst k; subst B; exact s
  | succ j => exact q.2 j c z (by simpa using k) (by simpa using B)
def JbX (args : List AV) : Env := fun t => args.getD t (.v undef)
structure Rest (C : Fx) (E : Env) (σ : Jac) (tm : Array Value) (w : World) (ρ : Nat -> Option Nat) (Im : Nat -> Prop) (M : Str) : Prop where
 inv : Inv w ρ Im σ
 env : JaG w ρ Im E tm
 size : tm.size = C.N
 ext : Ext C.w0 C.X0 w
 rng : ∀ id b, ρ id = some b -> (C.X0 b /\ C.R0 id b) \/ C.w0.heap.size <= b
 im : ∀ b, Im b -> C.Im0 b \/ C.w0.heap.size <= b
 g : C.G (E C.N) M w
 gh : ∀ p, AV.namesB p (E C.N) = false
 js : ∀ b, M.j b -> Im b
 ms : ∀ b, M.m b -> b < w.heap.size /\ (∀ id, ρ id ≠ some b) /\ ¬ Im b /\ (C.X0 b \/ C.w0.heap.size <= b)
 pin : ∀ id ob, C.pin id = some ob -> ρ id = ob
 j0 : ∀ b, C.J0 b -> Im b
theorem Jg5 {S : Sp} (hG : JaN C.G) {fn : Func} {n : Nat} {R : Ending -> World -> Prop} {tm : Array Value} : ∀ (A : List Deferred) (w : World), Rest C E σ tm w ρ Im M -> A.Nodup ->
 (∀ d ∈ A, ∃ D, d = stamp D /\ w.heap[D]? = some (.deferred (some [])) /\ C.w0.heap.size <= D /\ (∀ id, ρ id ≠ some D) /\ ¬ Im D /\ ¬ M.m D) ->
 (∀ w', Rest C E σ tm w' ρ Im M -> ∃ v, (results fn tm).run S.P w' = .ok v w' /\ R (.returned v) w') -> LeavesInM (FW none) n S.P fn tm R A .returning w
 | [], w, h, _, _, O => O w h
 | d :: A, w, h, s, hd, O => by
  obtain ⟨D, rfl, hD, U, u, hI, hM⟩ := hd d (by simp)
  rw [L1q] at s
  refine ⟨by simp, .inl ⟨D, _, rfl, run_takeDeferred hD, ?_⟩⟩
  have f : ∀ k, k ≠ D -> (w.putObj D (.deferred none)).heap[k]? = w.heap[k]? := fun k o => World.putObj_heap_other o
  have z : ∀ {v : AV} {y : Value}, Rep w ρ Im v y -> Rep (w.putObj D (.deferred none)) ρ Im v y := fun {v y} I =>
   Rep.mono (w := w) (w' := w.putObj D (.deferred none)) (fun _ h => h) (fun b l => f b fun e => hI (e ▸ l)) I fun i _ => ⟨rfl, fun b l p e F => ⟨p, by rw [f b fun e => u i (e ▸ l)]; exact F, rfl⟩⟩
  refine Jg5 hG A _ ⟨⟨h.inv.nil, fun i k b o l W => ?_, fun i k b o l W => ?_, h.inv.inj, h.inv.live, h.inv.apart, fun b l => by simpa using h.inv.low b l⟩, fun t y hy => z (h.env t y hy), h.size,
   h.ext.trans ⟨rfl, rfl, rfl, by simp, fun k _ o => f k o⟩ (fun b l => .inr (by subst l; exact U)), h.rng, h.im, hG _ _ _ _ h.g (fun k o => f k fun e => by
    rcases o with o | o
    . exact hM (e ▸ o)
    . exact hI (e ▸ h.js k o)) (by simp) rfl rfl rfl, h.gh, h.js, fun b l => by simpa using h.ms b l, h.pin, h.j0⟩ s.2 (fun d' H => ?_) O
  . obtain ⟨B, K, q, T, F⟩ := h.inv.map i k b o l W
    exact ⟨B, K, by rw [f b fun e => u i (e ▸ l)]; exact q, T, fun i m hm => by obtain ⟨v, V, I⟩ := F i m hm; exact ⟨v, V, z I⟩⟩
  . obtain ⟨p, q, T, hs, F⟩ := h.inv.blk i k b o l W
    exact ⟨p, by rw [f b fun e => u i (e ▸ l)]; exact q, T, hs, fun i e j c he Q => by obtain ⟨v, V, h1, I⟩ := F i e j c he Q; exact ⟨v, V, h1, z I⟩⟩
  . obtain ⟨X, Z, L, J⟩ := hd d' (by simp [H])
    refine ⟨X, Z, ?_, J⟩
    rw [f X fun e => by subst e; subst Z; exact s.1 H]; exact L
variable {P : Program} {C : Fx} {w : World} {ρ : Nat -> Option Nat} {Im : Nat -> Prop} {M : Str} {E : Env} {σ : Jac} {a : Act}
theorem JbT.mono {d : Nat -> Prop} {e sz b : Nat} {es : List AV} (h : JbT w Im e sz es b) (p : ∀ b, Im b -> d b) : JbT w d e sz es b := by
 obtain ⟨f, l, m, o, q⟩ := h
 exact ⟨f, l, m, o, fun i x j c y k => by obtain ⟨v, u, s, t⟩ := q i x j c y k; exact ⟨v, u, s, t.mono p (fun _ _ => rfl)⟩⟩
theorem R1.mono {c : Nat -> Prop} {r : AV} {y : Value} {m : Option Nat} (h : R1 w Im r y m) (l : ∀ b, Im b -> c b) : R1 w c r y m := by
 cases r with
 | new e t o =>
  rcases h with h | ⟨b, d, f, i, j, k, p, q, s⟩
  . exact .inl h
  . exact .inr ⟨b, d, f, i, j, k, p, q, s.mono l⟩
 | nptr e t o => obtain ⟨b, f, i, j, k⟩ := h; exact ⟨b, f, i, j, k.mono l⟩
 | _ => exact ⟨h.1, h.2.mono l (fun _ _ => rfl)⟩
theorem RL.mono {c : Nat -> Prop} (f : ∀ b, Im b -> c b) : ∀ {i : List AV} {ys : List Value} {d : List (Option Nat)}, RL w Im i ys d -> RL w c i ys d
 | [], [], [], _ => trivial
 | _ :: _, _ :: _, _ :: _, h => ⟨h.1.mono f, RL.mono f h.2⟩
theorem Jk6 (n : Nat) (σ : Jac) {v : AV} (h : v.single = true) : (resF n σ v).single = true := by
 cases n with
 | zero =>
  simp only [resF, AV.kill]
  split
  . cases v with
    | tup => cases h
    | clo => cases h
    | own a s i n => simp only [AV.dk]; split <;> rfl
    | ptr a s i n => simp only [AV.dk]; split <;> rfl
    | mref a => simp only [AV.dk]; split <;> rfl
    | _ => rfl
  . exact h
 | succ n => cases v with
  | tup => cases h
  | clo => cases h
  | own a s i n => simp only [resF, JfO]; split <;> (try split) <;> rfl
  | ptr a s i n => simp only [resF, JfP, resE]; split <;> (try split) <;> (try split) <;> rfl
  | mref a => simp only [resF, JfN]; split <;> (try split) <;> rfl
  | _ => rfl
theorem Jgy {p : Nat -> Bool} {v : AV} (h : v.single = true) : (expo σ p v).single = true := by
 unfold expo
 split
 . split <;> rfl
 . split <;> rfl
 . exact Jk6 8 _ h
theorem JjW {tm : Array Value} (h : Rest C E σ tm w ρ Im M) (W : ∀ b, ¬ C.X0 b) (t : ∀ b, C.Im0 b -> b < C.w0.heap.size) {vs : List AV} {ys : List Value} (B : Reps w ρ Im vs ys) {R : AV -> Prop} (H : retK σ R vs) :
 ∃ r, R r /\ RRep C.w0 w C.Im0 r (if h : ys.toArray.size = 1 then ys.toArray[0] else .tuple ys.toArray) := by
 have low : ∀ p b, Seen Im (killR p ρ) b -> C.Im0 b \/ (C.w0.heap.size <= b /\ b < w.heap.size) := fun p b d => by
  rcases d with d | ⟨id, d⟩
  . rcases h.im b d with j | j
    . exact .inl j
    . exact .inr ⟨j, h.inv.low b d⟩
  . have d := (Jae d).2
    rcases h.rng id b d with j | j
    . exact absurd j.1 (W b)
    . exact .inr ⟨j, h.inv.lt d⟩
 have s : ∀ (us : List AV) (c : List (Option Nat)), (∀ b, some b ∈ c -> ∃ id ∈ Jat us, ρ id = some b) -> c.Pairwise (fun x y => x = none \/ x ≠ y) ->
  Jde C.w0.heap.size (fun b => C.Im0 b \/ Seen Im (killR (topP us) ρ) b) c := fun us c i l => by
  refine ⟨fun b d => ?_, l⟩
  obtain ⟨id, S, z⟩ := i b d
  have Q : C.w0.heap.size <= b := by
   rcases h.rng id b z with j | j
   . exact absurd j.1 (W b)
   . exact j
  refine ⟨Q, fun m => ?_⟩
  rcases m with m | m | ⟨V, m⟩
  . have := t b m; omega
  . exact h.inv.apart id b z m
  . obtain ⟨hp, m⟩ := Jae m
    have := h.inv.inj id V b z m
    subst this
    simp [topP, S] at hp
 have aa : ∀ p, ∃ K : Nat -> Prop, K = fun b => C.Im0 b \/ Seen Im (killR p ρ) b := fun p => ⟨_, rfl⟩
 have A : ∀ (us : List AV) b, (C.Im0 b \/ Seen Im (killR (topP us) ρ) b) -> C.Im0 b \/ (C.w0.heap.size <= b /\ b < w.heap.size) := fun us b d => by
  rcases d with d | d
  . exact .inl d
  . exact low _ b d
 have k : ∀ us : List AV, JeF σ us -> ∀ J, Reps w ρ Im us J -> ∃ c, RL w (fun b => C.Im0 b \/ Seen Im (killR (topP us) ρ) b) (us.map (expo σ (topP us))) J c /\ Jde C.w0.heap.size (fun b => C.Im0 b \/ Seen Im (killR (topP us) ρ) b) c := fun us f J hz => by
  obtain ⟨c, i, l, X⟩ := Jed h.inv (p := topP us) us J hz f.2 f.1
  exact ⟨c, i.mono fun b d => .inr d, s us c l X⟩
 unfold retK at H
 split at H
 . rename_i g o; obtain ⟨f, F⟩ := H
   obtain ⟨y, rfl⟩ : ∃ y, ys = [y] := by
    have := B.1; match ys, this with | [y], _ => exact ⟨y, rfl⟩
   obtain ⟨D, rfl, L, O⟩ := (B.2 0 _ y rfl rfl).clo_inv
   obtain ⟨c, i, l⟩ := k o f D ⟨L, O⟩
   exact ⟨_, F, _, fun b d => .inl d, A o, D, c, by simp, i, l⟩
 . rename_i v hv; obtain ⟨U, f, F⟩ := H
   obtain ⟨y, rfl⟩ : ∃ y, ys = [y] := by
    have := B.1; match ys, this with | [y], _ => exact ⟨y, rfl⟩
   obtain ⟨c, i, l⟩ := k [v] f [y] B
   obtain ⟨I, rfl⟩ : ∃ I, c = [I] := by
    match c, i with | [I], _ => exact ⟨I, rfl⟩
   have q := Jgy (σ := σ) (p := topP [v]) U
   refine ⟨_, F, _, fun b d => .inl d, A [v], ?_⟩
   have i := i.1; simp only [L0T, L0h, L0t, L0n, dite_true]; generalize expo σ (topP [v]) v = r at *
   cases r with
   | tup => cases q
   | clo => cases q
   | _ => exact ⟨I, by simpa using i, l⟩
 . rename_i ab u; obtain ⟨f, F⟩ := H
   obtain ⟨c, i, l⟩ := k vs f ys B
   have T : ys.toArray.size ≠ 1 := by
    simp only [L0T, <- B.1]
    intro Z
    match vs, Z, u with | [v], _, u => exact u v rfl
   rw [dif_neg T]
   exact ⟨_, F, _, fun b d => .inl d, A vs, ys, c, rfl, i, l⟩
theorem Jk7 {c : Func} {tm : Array Value} {ys : List Value} (h : (c.results.toList.mapM (JfV tm)).run P w = .ok ys w) :
 (results c tm).run P w = .ok (if h : ys.toArray.size = 1 then ys.toArray[0] else .tuple ys.toArray) w := by
 have : results c tm = (do let vs <- c.results.mapM (JfV tm); pure (if h : vs.size = 1 then vs[0] else .tuple vs)) := by
  unfold results JfV; congr 1
 rw [this, Array.mapM_eq_mapM_toList]; simp only [map_eq_pure_bind, Sem.run_bind, h, Result.andThen_ok, Sem.run_pure]
theorem Jdn : JaN (fun _ _ _ => True) := fun _ _ _ _ _ _ _ _ _ _ => trivial
def retG (P : Program) (d : Func) (K : List AV -> Env -> Jac -> Prop) : Exit -> Env -> Jac -> Prop
 | .normal => fun E c => rvals P E c d.results.toList fun vs => K vs E c
 | .ret => fun E c => rvals P E c d.results.toList fun vs => K vs E c
 | _ => fun _ _ => False
def handed (ys : List Value) : Value := if h : ys.toArray.size = 1 then ys.toArray[0] else .tuple ys.toArray
theorem JcG {S : Sp} {f : FuncId} {j : Func} {c : Code} {E0 : Env} {vs : List Value} {σ0 : Jac} {ρ0 : Nat -> Option Nat} {Im0 : Nat -> Prop} {M0 : Str} {K : List AV -> Env -> Jac -> Prop} {R : Ending -> World -> Prop}
 (H : Holds S C) (B : C.rd = none) (Q : S.P.funcs[f]? = some j) (O : j.body = some c) (F : C.N = j.ntmps) (A : JaZ S.P j.ntmps S.bad c = true)
 (t : j.results.toList.all (ResultVar.low j.ntmps) = true)
 (i : Wit C E0 σ0 { tmps := vs.toArray ++ Array.replicate (j.ntmps - vs.toArray.size) undef, defers := [] } w ρ0 Im0 M0)
 (q : awp S c (retG S.P j K) E0 σ0)
 (o : ∀ E σ tm w' ρ Im M us ys, K us E σ -> Rest C E σ tm w' ρ Im M -> Reps w' ρ Im us ys -> R (.returned (handed ys)) w') : Calls S.P f vs.toArray w R := by
 have m : CallsIn (FW none) 0 S.P f vs.toArray w R := by
  refine callsIn_of_wp_marks Q O trivial ?_ rfl
  have s : C.rdl = none := by unfold Fx.rdl; rw [B]; rfl
  have := Jgk H (JcK H) (n := 0) c _ _ _ (by rw [H.N, F]; exact A) q (bodyPostM (FW none) 0 S.P j R) (fun e E σ a w' k V => ?_) _ w ⟨ρ0, Im0, M0, i⟩
  . rw [s] at this; exact this
  . have p : (rvals S.P E σ j.results.toList fun vs => K vs E σ) -> LeavesInM (FW none) 0 S.P j a.tmps R a.defers .returning w' := fun k => by
     obtain ⟨ρ, I, M, i⟩ := V
     refine Jg5 (C := C) (E := E) (σ := σ) (ρ := ρ) (Im := I) (M := M) H.G a.defers w' ⟨i.inv, i.env, i.size, i.ext, i.rng, i.im, i.g, i.gh, i.js, i.ms, i.pin, i.j0⟩ i.nodup (fun d J => ?_) (fun W h => ?_)
     . obtain ⟨D, e, L, z⟩ := i.df d J
       have y := i.bk D (.inr (e ▸ J))
       exact ⟨D, e, L, z, y⟩
     . obtain ⟨us, ys, T, U, u⟩ := Jeo (P := S.P) h.inv h.env j.results.toList _ (by rw [h.size, F]; exact t) k
       exact ⟨_, Jk7 u, o E σ _ W ρ I M us ys T h U⟩
    cases e with
    | normal => exact p k
    | ret => exact p k
    | exit id => exact k.elim
    | goto l => exact k.elim
    | panic X => exact k.elim
    | outgrown => exact k.elim
 have : CallsIn Fence.wide 0 S.P f vs.toArray w R := m
 exact callsIn_wide.1 this
theorem JeC {args : List AV} {vs : List Value} {N : Nat} (h : Reps w ρ Im args vs) : JaG w ρ Im (JbX args) (vs.toArray ++ Array.replicate (N - vs.toArray.size) undef) := by
 intro t y c
 have j : vs.length = args.length := h.1.symm
 rw [Array.getElem?_append] at c; simp only [L0T, L1c] at c; simp only [JbX]
 split at c
 . rename_i i
   have d : t < args.length := by omega
   have := h.2 t args[t] y (L09 d) c
   rw [L1e, L09 d]; exact this
 . rename_i f; rw [L1G] at c
   split at c
   . simp at c; subst c
     rw [L1e, L1r (by omega)]
     exact .im _ _ (.v _)
   . cases c
theorem JgD (args : List AV) (N : Nat) (h : args.length <= N) : JbX args N = .v undef := by
 simp only [JbX]; rw [L1e, L1r (by omega)]; rfl
theorem enters {P : Program} {f : FuncId} {fn : Func} {c : Code} (hf : P.funcs[f]? = some fn) (hb : fn.body = some c) (hn : (fn.name == "runtime.NumGoroutine") = false) (as : Array Value) (w : World) :
 (callFunc f as).run P w = .ok (.enter f as) w := by
 have hn' : ¬ fn.name = "runtime.NumGoroutine" := by simpa using hn
 simp [callFunc, program, Sem.run, Sem.run_bind, hf, hb, hn', Result.andThen]
def fnOK (P : Program) (fn : Func) (c : Code) : Bool :=
 JaZ P fn.ntmps JjM c && fn.results.toList.all (ResultVar.low fn.ntmps) && !(fn.name == "runtime.NumGoroutine") && decide (fn.ntmps <= 99999)
def spOf (P : Program) (f : FuncId) (N : Nat) : Sp := { P, N, b := 131072 * (f + 1), pin := fun _ => false, yl := 0, Y := fun _ _ _ => False, old := fun _ => false }
theorem Jjr {P : Program} {fn : Func} {c : Code} (h : fnOK P fn c = true) : JaZ P fn.ntmps JjM c = true /\ fn.results.toList.all (ResultVar.low fn.ntmps) = true /\ (fn.name == "runtime.NumGoroutine") = false /\ fn.ntmps <= 99999 := by
 simp only [fnOK, L00, L0U, decide_eq_true_eq] at h
 exact ⟨h.1.1.1, h.1.1.2, h.1.2, h.2⟩
theorem Jop {P : Program} {f : FuncId} {q : Func} {c : Code} {args : List AV} {r : AV} (V : P.funcs[f]? = some q) (m : q.body = some c) (Q : fnOK P q c = true) (O : P.follows .mixedOrders = true)
 (D : args.length <= q.ntmps) (h : awp (spOf P f q.ntmps) c (retG P q fun vs _ σ => retK σ (· = r) vs) (JbX args) fun _ => none) : Ev P f args r := by
 obtain ⟨W, X, Z, h4⟩ := Jjr Q
 intro K r0 U
 rw [U.1, U.2]
 refine ⟨enters V m Z, fun w J vs s B o => ?_⟩
 let C : Fx := { w0 := w, X0 := fun _ => False, Im0 := J, G := fun _ _ _ => True, N := q.ntmps, rd := none, pin := fun _ => none, J0 := J }
 have H : Holds (spOf P f q.ntmps) C := ⟨rfl, Jdn, fun _ _ _ hY => hY.elim, O, fun _ _ R => (by cases R), fun _ R => (by cases R), h4, fun _ => rfl, fun _ _ h _ => h.elim, B, fun b m => ⟨fun h => h, s b (B.im m)⟩, (fun h => by cases h)⟩
 have A : Reps w (fun _ => none) J args vs := ⟨o.1, fun j c y hc hy => .im _ _ (o.2 j c y hc hy)⟩
 refine JcG (E0 := JbX args) (S := spOf P f q.ntmps) (C := C) (ρ0 := fun _ => none) (Im0 := J) (M0 := ⟨fun _ => False, fun _ => False⟩) H rfl V m rfl W X ?_ h fun E σ tm w' ρ I M us ys z t F => ?_
 . refine ⟨⟨fun id k z => (by cases z), fun id k b z => (by cases z), fun id k b z => (by cases z), fun i j b u => (by cases u), fun i b u => (by cases u), fun i b u => (by cases u), s⟩, JeC A, ?_, Ext.refl _ _, fun i b u => (by cases u), fun b m => .inl m, fun p => ?_, trivial, fun b m => m.elim, fun b m => m.elim, fun l r F => (by cases F), .nil, fun d L => (by cases L), fun b m => ?_, fun id b m => (by cases m), fun b m => m⟩
   . simp only [L28, L0T, L29]
     have := o.1
     show vs.length + (q.ntmps - vs.length) = q.ntmps
     omega
   . show AV.namesB p (JbX args q.ntmps) = false
     rw [JgD args _ D]; rfl
   . rcases m with ⟨r, F⟩ | L
     . cases F
     . cases L
 . obtain ⟨r', rfl, T⟩ := JjW t (fun _ h => h) s F z
   exact ⟨_, rfl, t.ext, T⟩
end Go.Vai

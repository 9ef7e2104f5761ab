/- A heap-free account of the walk, second part -/
import Derived.Test.YtlecbpkidomjbaaGreatDoorKA
import Derived.RangeFuncIn
import Derived.RangeFuncLeaves
set_option linter.all false
namespace Go.Vai
open Go.RowKit
variable {P : Program} {C : Fx} {w : World} {ρ : Nat -> Option Nat} {Im : Nat -> Prop} {M : Str} {E : Env} {σ : Jac} {a : Act}
def allB : Nat -> Bool := λ _ => true
def resL (f : AV -> AV) (es : List AV) : List AV := if AV.namesL allB es = true then es.map f else es
def Jgl (f : AV -> AV) (b : Option Blk) (sz i m : Nat) : AV := match b with
 | some k => if i + m <= k.es.length /\ k.sz = sz then .sl sz (((resL f k.es).drop i).take m) else .any
 | none => .any
def resE (f : AV -> AV) (o : Option AV) (j : Nat) : AV := match o with
 | some e => .pt (f e) j
 | none => .any
def Jgm (f : AV -> AV) (b : Option Blk) (sz i j : Nat) : AV := match b with
 | some k => if k.sz = sz then resE f k.es[i]? j else .any
 | none => .any
def Jgk (f : AV -> AV) (b : Option Blk) : AV := match b with
 | some k => if k.sz = 0 then .mp (resL f k.es) else .any
 | none => .any
def resF : Nat -> Jac -> AV -> AV
 | 0, _, x => x.kill allB
 | n + 1, c, x => match x with
  | .own id f i m => Jgl (resF n c) (c id) f i m
  | .ptr id f i j => Jgm (resF n c) (c id) f i j
  | .mref id => Jgk (resF n c) (c id)
  | .agg d => .agg (resL (resF n c) d)
  | .tup d => .tup (resL (resF n c) d)
  | .clo g d => .clo g (resL (resF n c) d)
  | x => x
def res (σ : Jac) (x : AV) : AV := resF 8 σ x
theorem JbB {x : AV} {y : Value} (h : Rep w ρ Im x y) (k : ∀ id, ¬ Names x id) : IRep w Im x y := by
 induction h with
 | im _ _ h => exact h
 | agg f ys l p _ o => exact .agg f ys l p λ j c y i m => o j c y i m λ id d => k id (.agg f c id (L02 i) d)
 | tup f ys l _ o => exact .tup f ys l λ j c y i m => o j c y i m λ id d => k id (.tup f c id (L02 i) d)
 | clo g f ys l _ o => exact .clo g f ys l λ j c y i m => o j c y i m λ id d => k id (.clo g f c id (L02 i) d)
 | ownNil id => exact absurd (.own ..) (k id)
 | own id => exact absurd (.own ..) (k id)
 | ownAt id => exact absurd (.own ..) (k id)
 | ptr id => exact absurd (.ptr ..) (k id)
 | mref id => exact absurd (.mref ..) (k id)
theorem JfK (x : AV) (id : Nat) : ¬ Names (x.kill allB) id := λ h => by
 have := (AV.kill_names allB x id h).2; simp [allB] at this
def Seen (Im : Nat -> Prop) (ρ : Nat -> Option Nat) : Nat -> Prop := λ b => Im b \/ ∃ id, ρ id = some b
theorem JgF {f : AV -> AV} {es : List AV} {i : Nat} {c : AV} (h : (resL f es)[i]? = some c) : ∃ e, es[i]? = some e /\ (c = f e \/ (c = e /\ ∀ id, ¬ Names e id)) := by
 unfold resL at h
 split at h
 . rw [L07] at h
   cases he : es[i]? with
   | none => simp [he] at h
   | some e => simp [he] at h; exact ⟨e, rfl, .inl h.symm⟩
 . rename_i j
   exact ⟨c, h, .inr ⟨rfl, λ id d => j ((AV.namesL_iff _ _).2 ⟨c, L02 h, AV.namesB_of allB d rfl⟩)⟩⟩
theorem Ja3 (f : AV -> AV) (es : List AV) : (resL f es).length = es.length := by unfold resL; split <;> simp
def AV.isAgg : AV -> Bool | .agg _ => true | _ => false
theorem JcW {e : AV} (h : e.isAgg = false) : e.cells = [e] := by cases e <;> first | rfl | cases h
theorem Jmz (p : Nat -> Bool) {e : AV} (h : e.isAgg = false) : (AV.dk p e).isAgg = false := by
 cases e with
 | agg c => cases h
 | own a s i n => simp only [AV.dk]; split <;> rfl
 | ptr a s i n => simp only [AV.dk]; split <;> rfl
 | mref a => simp only [AV.dk]; split <;> rfl
 | _ => rfl
theorem JfZ (n : Nat) (σ : Jac) {e : AV} (h : e.isAgg = false) : (resF n σ e).isAgg = false := by
 cases n with
 | zero => simp only [resF, AV.kill]; split; exact Jmz _ h; exact h
 | succ n => cases e with
  | agg c => cases h
  | own a s i n => simp only [resF, Jgl]; split <;> (try split) <;> rfl
  | ptr a s i n => simp only [resF, Jgm, resE]; split <;> (try split) <;> (try split) <;> rfl
  | mref a => simp only [resF, Jgk]; split <;> (try split) <;> rfl
  | _ => rfl
theorem JgE (n : Nat) (σ : Jac) (e : AV) : (resF n σ e).cells.length = e.cells.length := by
 cases he : e.isAgg with
 | false => rw [JcW he, JcW (JfZ n σ he)]; rfl
 | true => cases e with
  | agg c => cases n with
   | zero => simp only [resF, AV.kill]; split <;> simp [AV.dk, AV.dkL_eq]
   | succ n => simp [resF, Ja3]
  | _ => cases he
theorem JkJ (S : Inv w ρ Im σ) : ∀ n : Nat, (∀ x y, Rep w ρ Im x y -> IRep w (Seen Im ρ) (resF n σ x) y) /\
 ∀ (e : AV) (j : Nat) (c : AV) (x : Value), (resF n σ e).cells[j]? = some c -> (∀ B, e.cells[j]? = some B -> Rep w ρ Im B x) -> IRep w (Seen Im ρ) c x := by
 have ae : ∀ {x y}, IRep w Im x y -> IRep w (Seen Im ρ) x y := λ h => h.mono (λ b hb => .inl hb) (λ _ _ => rfl)
 have nameless : ∀ {x y}, Rep w ρ Im x y -> (∀ id, ¬ Names x id) -> IRep w (Seen Im ρ) x y := λ h J => ae (JbB h J)
 have ag : ∀ {x y}, Rep w ρ Im x y -> IRep w (Seen Im ρ) (x.kill allB) y := λ {x y} h => nameless (h.kill allB) (JfK x)
 intro n
 induction n with
 | zero =>
  refine ⟨λ x y h => ag h, λ e j c x f h => ?_⟩
  simp only [resF, AV.kill] at f
  split at f
  . rw [AV.dk_cells, L07] at f
    cases hcs : e.cells[j]? with
    | none => simp [hcs] at f
    | some B => simp [hcs] at f; subst f; exact nameless ((h B hcs).dk allB) λ id d => by have := (AV.dk_names allB B id d).2; simp [allB] at this
  . rename_i J
    exact nameless (h c f) λ id d => J (AV.namesB_of allB (Jbk (L02 f) d) rfl)
 | succ n ih =>
  obtain ⟨aq, aj⟩ := ih
  -- a member of a list that is handed on
  have z : ∀ {es : List AV} {j : Nat} {c : AV} {x : Value}, (resL (resF n σ) es)[j]? = some c -> (∀ e, es[j]? = some e -> Rep w ρ Im e x) -> IRep w (Seen Im ρ) c x := λ f h => by
   obtain ⟨e, o, s⟩ := JgF f
   rcases s with rfl | ⟨rfl, J⟩
   . exact aq e _ (h e o)
   . exact nameless (h _ o) J
  have aa : ∀ x y, Rep w ρ Im x y -> IRep w (Seen Im ρ) (resF (n + 1) σ x) y := by
   intro x y h
   cases x with
   | own id sz i m =>
    simp only [resF]; unfold Jgl
    split
    . rename_i k hk
      split
      . rename_i ac; obtain ⟨as, rfl⟩ := ac
        have u : (((resL (resF n σ) k.es).drop i).take m).length = m := by rw [L01, L0g, Ja3]; omega
        have go : ∀ b t (ad : Option Addr), ρ id = some b -> k.sz ≠ 0 -> (m ≠ 0 -> ad = some ⟨b, i * k.sz, none⟩) -> m <= t -> y = .slice ad m t -> IRep w (Seen Im ρ) (.sl k.sz (((resL (resF n σ) k.es).drop i).take m)) y := by
         rintro b t ad p X al J rfl
         by_cases h0 : m = 0
         . subst h0; simp only [L1G]; exact .slnil ..
         . rw [al h0]
           obtain ⟨H, hb, E, hs, f⟩ := S.blk id k b hk p X
           have C : ∀ q : Nat, q < m -> ∃ e A : AV, (((resL (resF n σ) k.es).drop i).take m)[q]? = some e /\ k.es[i + q]? = some A /\ (e = resF n σ A \/ (e = A /\ ∀ id, ¬ Names A id)) := λ q K => by
            have I : i + q < (resL (resF n σ) k.es).length := by rw [Ja3]; omega
            obtain ⟨A, am, s⟩ := JgF (L08 I)
            exact ⟨_, A, by rw [L0j, if_pos K, L0D]; exact L08 I, am, s⟩
           have ah : ∀ (q : Nat) (e : AV), (((resL (resF n σ) k.es).drop i).take m)[q]? = some e -> e.cells.length = k.sz := λ q e o => by
            have K : q < m := by rw [<- u]; exact (L0a.1 o).1
            obtain ⟨e', A, L, h2, s⟩ := C q K
            rw [o] at L; cases L
            rcases s with rfl | ⟨rfl, _⟩
            . rw [JgE]; exact E A (L02 h2)
            . exact E _ (L02 h2)
           have := IRep.sl (w := w) (Im := Seen Im ρ) k.sz (((resL (resF n σ) k.es).drop i).take m) b (i * k.sz) t (λ q j => (H[(i + q) * k.sz + j]?).getD undef) (.inr ⟨id, p⟩) (by rw [u]; exact J)
            (λ e o => by obtain ⟨q, K⟩ := L0s.1 o; exact ah q e K) (λ q j K hj => by
             rw [u] at K
             obtain ⟨e', A, L, h2, s⟩ := C q K
             have an : j < A.cells.length := by rw [E A (L02 h2)]; exact hj
             obtain ⟨v, U, L, _⟩ := f (i + q) A j _ h2 (L08 an)
             have e1 : i * k.sz + q * k.sz + j = (i + q) * k.sz + j := by rw [L1r]
             rw [e1, Jbs hb, U]
             exact ⟨rfl, L⟩)
            (λ q e j c o Q => by
             have K : q < m := by rw [<- u]; exact (L0a.1 o).1
             obtain ⟨e', A, L, h2, s⟩ := C q K
             rw [o] at L; cases L
             have F : ∀ B, A.cells[j]? = some B -> Rep w ρ Im B ((H[(i + q) * k.sz + j]?).getD undef) := λ B ab => by
              obtain ⟨v, U, _, T⟩ := f (i + q) A j B h2 ab
              simpa [U] using T
             rcases s with rfl | ⟨rfl, J⟩
             . exact aj A j c _ Q F
             . exact nameless (F c Q) λ id d => J id (Jbk (L02 Q) d))
           rw [u] at this; exact this
        cases h with
        | im _ _ h => cases h
        | ownNil _ _ p => simp only [L1G]; exact .slnil ..
        | own _ _ _ b t H e p J ar hb hs X => exact go b t _ p X (by simp) J rfl
        | ownAt _ _ _ _ b t ad hi p J ha X => exact go b t ad p X ha J rfl
      . exact .any _
    . exact .any _
   | ptr id sz i j =>
    simp only [resF]; unfold Jgm
    split
    . rename_i k hk
      split
      . rename_i ao; subst ao; unfold resE
        split
        . rename_i e o
          cases h with
          | im _ _ h => cases h
          | ptr _ _ _ _ b p X =>
           obtain ⟨H, hb, E, hs, f⟩ := S.blk id k b hk p X
           have F : ∀ q B, e.cells[q]? = some B -> Rep w ρ Im B ((H[i * k.sz + q]?).getD undef) := λ q B ab => by
            obtain ⟨v, U, _, T⟩ := f i e q B o ab
            simpa [U] using T
           refine .pt (resF n σ e) j b (i * k.sz) (λ q => (H[i * k.sz + q]?).getD undef) (.inr ⟨id, p⟩) (λ q K => ?_) (λ q c Q => aj e q c _ Q (F q))
           rw [JgE] at K
           obtain ⟨v, U, L, _⟩ := f i e q _ o (L08 K)
           rw [Jbs hb, U]; exact ⟨rfl, L⟩
        . exact .any _
      . exact .any _
    . exact .any _
   | mref id =>
    simp only [resF]; unfold Jgk
    split
    . rename_i k hk
      split
      . rename_i X
        cases h with
        | im _ _ h => cases h
        | mref _ b p =>
         obtain ⟨O, ak, hb, E, f⟩ := S.map id k b hk p X
         have Z : ∀ (i : Nat) (m : MapEntry), O[i]? = some m -> ∃ v : AV, (resL (resF n σ) k.es)[i]? = some (.tup [.v m.key, v]) /\ IRep w (Seen Im ρ) v m.val := λ i m M => by
          obtain ⟨v0, ai, T⟩ := f i m M
          have I : i < (resL (resF n σ) k.es).length := by rw [Ja3, E.1]; exact (L0m.1 M).1
          obtain ⟨e, o, s⟩ := JgF (L08 I)
          rw [ai] at o; cases o
          have D := z (x := .tuple #[m.key, m.val]) (L08 I) (λ e o => by
           rw [ai] at o; cases o
           refine .tup [.v m.key, v0] [m.key, m.val] rfl λ j c y R W => ?_
           cases j with
           | zero => simp at R W; subst R; subst W; exact .im _ _ (.v _)
           | succ j => cases j with
            | zero => simp at R W; subst R; subst W; exact T
            | succ j => simp at R)
          have V : ∃ v, (resL (resF n σ) k.es)[i] = AV.tup [.v m.key, v] := by
           rcases s with h | ⟨h, _⟩
           . rw [h]
             cases n with
             | zero => simp only [resF, AV.kill]; split <;> simp [AV.dk, AV.dkL]
             | succ n => simp only [resF]; unfold resL; split
                         . simp only [L0l, L0G]
                           cases n with
                           | zero => exact ⟨_, by simp [resF, AV.kill, AV.namesB]; rfl⟩
                           | succ n => exact ⟨_, by simp [resF]; rfl⟩
                         . exact ⟨_, rfl⟩
           . exact ⟨_, h⟩
          obtain ⟨v, U⟩ := V; rw [U] at D
          refine ⟨v, (L08 I).trans (congrArg some U), ?_⟩
          generalize af : Value.tuple #[m.key, m.val] = yy at D
          cases D with
          | tup _ ys au ap =>
           injection af with af
           have : ys = [m.key, m.val] := by simpa using congrArg Array.toList af.symm
           subst this
           exact ap 1 v m.val rfl rfl
         classical
         exact .mp _ b O ak (λ i => match O[i]? with | some m => if M : ∃ v, (resL (resF n σ) k.es)[i]? = some (.tup [.v m.key, v]) /\ IRep w (Seen Im ρ) v m.val then Classical.choose M else .any | none => .any) (.inr ⟨id, p⟩) hb ⟨by rw [Ja3, E.1], E.2⟩
          (λ i m M => by
           simp only [M]; rw [dif_pos (Z i m M)]
           exact (Classical.choose_spec (Z i m M)).1)
          (λ i m M => by
           simp only [M]; rw [dif_pos (Z i m M)]
           exact (Classical.choose_spec (Z i m M)).2)
      . exact .any _
    . exact .any _
   | agg cs =>
    simp only [resF]; obtain ⟨ys, rfl, E, L, T⟩ := h.agg_inv
    exact .agg _ ys (by rw [Ja3, E]) L λ j c y f hy => z f λ e o => T j e y o hy
   | tup cs =>
    simp only [resF]; obtain ⟨ys, rfl, E, T⟩ := h.tup_inv
    exact .tup _ ys (by rw [Ja3, E]) λ j c y f hy => z f λ e o => T j e y o hy
   | clo g cs =>
    simp only [resF]; obtain ⟨ys, rfl, E, T⟩ := h.clo_inv
    exact .clo g _ ys (by rw [Ja3, E]) λ j c y f hy => z f λ e o => T j e y o hy
   | any => exact nameless h λ id d => by cases d
   | v x => exact nameless h λ id d => by cases d
   | sl a b => exact nameless h λ id d => by cases d
   | pt a b => exact nameless h λ id d => by cases d
   | new a b c => exact nameless h λ id d => by cases d
   | nptr a b c => exact nameless h λ id d => by cases d
   | yld l => exact nameless h λ id d => by cases d
   | mp es => exact nameless h λ id d => by cases d
   | cut a b => exact nameless h λ id d => by cases d
  refine ⟨aa, λ e j c x f h => ?_⟩
  cases o : e.isAgg with
  | false =>
   rw [JcW (JfZ (n + 1) σ o)] at f; rw [JcW o] at h
   cases j with
   | zero => simp at f; subst f; exact aa e x (h e rfl)
   | succ j => simp at f
  | true => cases e with
   | agg cs => simp only [resF, AV.cells_agg] at f; exact z f h
   | _ => cases o
theorem Jou (c : Inv w ρ Im σ) (n : Nat) {x : AV} {y : Value} (h : Rep w ρ Im x y) : IRep w (Seen Im ρ) (resF n σ x) y := (JkJ c n).1 x y h
theorem Jq4 (d : Inv w ρ Im σ) (n : Nat) {e : AV} {j : Nat} {c : AV} {x : Value} (i : (resF n σ e).cells[j]? = some c) (h : ∀ f, e.cells[j]? = some f -> Rep w ρ Im f x) : IRep w (Seen Im ρ) c x := (JkJ d n).2 e j c x i h
theorem Jhw (c : Inv w ρ Im σ) {x : AV} {y : Value} (h : Rep w ρ Im x y) : IRep w (Seen Im ρ) (res σ x) y := Jou c 8 h
theorem JkK {x : AV} (c : AV.namesB allB x = false) : res σ x = x := by
 unfold res
 cases x with
 | own => simp [AV.namesB, allB] at c
 | ptr => simp [AV.namesB, allB] at c
 | mref => simp [AV.namesB, allB] at c
 | agg d => simp only [AV.namesB] at c; simp [resF, resL, c]
 | tup d => simp only [AV.namesB] at c; simp [resF, resL, c]
 | clo g d => simp only [AV.namesB] at c; simp [resF, resL, c]
 | _ => rfl
def JbV (w : World) (Im : Nat -> Prop) (e sz : Nat) (es : List AV) (b : Nat) : Prop :=
 ∃ d, (∃ f, w.heap[b]? = some (.cells d e f) /\ Mk f d.size) /\ (∀ x ∈ es, x.cells.length = sz) /\ es.length * sz <= d.size /\
  ∀ (i : Nat) (x : AV) (j : Nat) (c : AV), es[i]? = some x -> x.cells[j]? = some c -> ∃ v, d[i * sz + j]? = some v /\ v.oneCell' = true /\ IRep w Im c v
def R1 (w : World) (Im : Nat -> Prop) (r : AV) (y : Value) (i : Option Nat) : Prop :=
 match r with
 | .new e h f => (i = none /\ f = [] /\ y = .slice none 0 0) \/
  ∃ b c, h ≠ 0 /\ i = some b /\ y = .slice (some ⟨b, 0, none⟩) f.length c /\ f.length <= c /\ c <= maxLen /\ (∃ d, (∃ j, w.heap[b]? = some (.cells d e j) /\ Mk j d.size) /\ d.size = c * h) /\ JbV w Im e h f b
 | .nptr e h f => ∃ b, h ≠ 0 /\ i = some b /\ y = .pointer (some ⟨b, 0, none⟩) /\ JbV w Im e h f b
 | r => i = none /\ IRep w Im r y
def RL (w : World) (Im : Nat -> Prop) : List AV -> List Value -> List (Option Nat) -> Prop
 | [], [], [] => True
 | r :: f, y :: ys, d :: c => R1 w Im r y d /\ RL w Im f ys c
 | _, _, _ => False
def JdC (lo : Nat) (Im : Nat -> Prop) (c : List (Option Nat)) : Prop :=
 (∀ b, some b ∈ c -> lo <= b /\ ¬ Im b) /\ c.Pairwise λ x y => x = none \/ x ≠ y
def RRep (w w' : World) (Im : Nat -> Prop) (r : AV) (y : Value) : Prop :=
 ∃ c : Nat -> Prop, (∀ b, Im b -> c b) /\ (∀ b, c b -> Im b \/ (w.heap.size <= b /\ b < w'.heap.size)) /\
  match r with
  | .tup f => ∃ ys d, y = .tuple ys.toArray /\ RL w' c f ys d /\ JdC w.heap.size c d
  | .clo g f => ∃ ys d, y = mkF g ys /\ RL w' c f ys d /\ JdC w.heap.size c d
  | r => ∃ h, R1 w' c r y h /\ JdC w.heap.size c [h]
def JiF (w : World) (Im : Nat -> Prop) (cs : List AV) (ys : List Value) : Prop :=
 cs.length = ys.length /\ ∀ (j : Nat) (c : AV) (y : Value), cs[j]? = some c -> ys[j]? = some y -> IRep w Im c y
def FnOK (P : Program) (f : FuncId) (R : List AV -> AV -> Prop) : Prop :=
 ∀ c r, R c r -> (∀ h w, (callFunc f h).run P w = .ok (.enter f h) w) /\
  ∀ (w : World) (d : Nat -> Prop) (vs : List Value), (∀ b, d b -> b < w.heap.size) -> GOK w d -> JiF w d c vs ->
   Calls P f vs.toArray w λ e i => ∃ y, e = .returned y /\ Ext w (λ _ => False) i /\ RRep w i d r y
def imp1 (id : Nat) (r : AV) : AV × List (Nat × Blk) :=
 match r with
 | .new e c d => (.own id c 0 d.length, [(id, ⟨e, c, d⟩)])
 | .nptr e c d => (.ptr id c 0 0, [(id, ⟨e, c, d⟩)])
 | r => (r, [])
def impL : Nat -> List AV -> List AV × List (Nat × Blk)
 | _, [] => ([], [])
 | id, r :: c => ((imp1 id r).1 :: (impL (id + 1) c).1, (imp1 id r).2 ++ (impL (id + 1) c).2)
def imp (id : Nat) (r : AV) : AV × List (Nat × Blk) :=
 match r with
 | .tup c => (.tup (impL id c).1, (impL id c).2)
 | .clo g c => (.clo g (impL id c).1, (impL id c).2)
 | r => imp1 id r
variable {P : Program} {C : Fx} {w : World} {ρ : Nat -> Option Nat} {Im : Nat -> Prop} {M : Str} {E : Env} {σ : Jac} {a : Act}
mutual
def AV.flat : AV -> Bool
 | .any => true
 | .v _ => true
 | .agg c => AV.flatL c
 | .sl _ d => d.isEmpty
 | .new _ _ d => AV.flatL d
 | .nptr _ _ d => AV.flatL d
 | .tup c => AV.flatL c
 | .clo _ c => AV.flatL c
 | _ => false
def AV.flatL : List AV -> Bool
 | [] => true
 | c :: d => AV.flat c && AV.flatL d
end
theorem AV.flatL_iff (cs : List AV) : AV.flatL cs = true ↔ ∀ c ∈ cs, AV.flat c = true := by
 induction cs with
 | nil => simp [AV.flatL]
 | cons c cs d => simp [AV.flatL, d]
theorem IRep.flat {x : AV} {y : Value} (h : IRep w Im x y) (k : x.flat = true) (w' : World) (t : Nat -> Prop) : IRep w' t x y := by
 induction h with
 | any y => exact .any y
 | v x => exact .v x
 | agg u ys p C _ s => exact .agg u ys p C λ j c y i q => s j c y i q ((AV.flatL_iff u).1 k c (L02 i))
 | slnil A a m => exact .slnil A a m
 | sl A B b o m f D z F E _ _ =>
  have : B = [] := by simpa [AV.flat] using k
  subst this; exact .slnil ..
 | pt => simp [AV.flat] at k
 | tup vs ys p _ s => exact .tup vs ys p λ j c y i q => s j c y i q ((AV.flatL_iff vs).1 k c (L02 i))
 | clo g d ys p _ s => exact .clo g d ys p λ j c y i q => s j c y i q ((AV.flatL_iff d).1 k c (L02 i))
 | yld l => exact .yld l
 | mpnil => exact .mpnil
 | mp => simp [AV.flat] at k
 | cut => simp [AV.flat] at k
theorem IRep.nameless {x : AV} {y : Value} (h : IRep w Im x y) (id : Nat) : ¬ Names x id := by
 induction h with
 | agg o ys l _ _ m => intro d; cases d with | agg _ c _ k d =>
  obtain ⟨j, i⟩ := L0s.1 k
  have f := (L0a.1 i).1
  exact m j c _ i (L08 (l ▸ f)) d
 | tup o ys l _ m => intro d; cases d with | tup _ c _ k d =>
  obtain ⟨j, i⟩ := L0s.1 k
  have f := (L0a.1 i).1
  exact m j c _ i (L08 (l ▸ f)) d
 | clo g o ys l _ m => intro d; cases d with | clo _ _ c _ k d =>
  obtain ⟨j, i⟩ := L0s.1 k
  have f := (L0a.1 i).1
  exact m j c _ i (L08 (l ▸ f)) d
 | _ => intro d; cases d
theorem JlT {v : AV} {id : Nat} (h : Names v id) : ∃ c ∈ v.cells, Names c id := by
 cases v with
 | agg f => cases h with | agg _ c _ d h => exact ⟨c, d, h⟩
 | _ => exact ⟨_, by simp [AV.cells], h⟩
theorem JbV.nameless {e sz b : Nat} {es : List AV} (h : JbV w Im e sz es b) (id : Nat) : ∀ x ∈ es, ¬ Names x id := by
 obtain ⟨k, _, _, _, l⟩ := h
 intro x q f
 obtain ⟨c, d, f⟩ := JlT f
 obtain ⟨i, m⟩ := L0s.1 q
 obtain ⟨j, o⟩ := L0s.1 d
 obtain ⟨v, _, _, p⟩ := l i x j c m o
 exact p.nameless id f
theorem JlA {x c : AV} (h : x.flat = true) (d : c ∈ x.cells) : c.flat = true := by
 cases x with
 | agg f => exact (AV.flatL_iff f).1 h c d
 | _ => simp only [AV.cells, L0u] at d; subst d; exact h
theorem JbV.flat {f : Nat -> Prop} {e sz b : Nat} {es : List AV} (h : JbV w Im e sz es b) (s : AV.flatL es = true) : JbV w f e sz es b := by
 obtain ⟨k, m, o, p, q⟩ := h
 exact ⟨k, m, o, p, λ i x j c l d => by
  obtain ⟨v, y, t, u⟩ := q i x j c l d
  exact ⟨v, y, t, u.flat (JlA ((AV.flatL_iff es).1 s x (L02 l)) (L02 d)) _ _⟩⟩
theorem R1.flat {c : Nat -> Prop} {r : AV} {y : Value} {m : Option Nat} (h : R1 w Im r y m) (l : r.flat = true) : R1 w c r y m := by
 unfold R1 at h ⊢
 split
 . rcases h with h | ⟨b, d, f, i, j, k, o, p, q⟩
   . exact .inl h
   . exact .inr ⟨b, d, f, i, j, k, o, p, q.flat (by simpa [AV.flat] using l)⟩
 . obtain ⟨b, f, i, j, k⟩ := h
   exact ⟨b, f, i, j, k.flat (by simpa [AV.flat] using l)⟩
 . split at h
   . simp_all
   . simp_all
   . exact ⟨h.1, h.2.flat l _ _⟩
theorem RL.flat {f : Nat -> Prop} : ∀ {d : List AV} {ys : List Value} {c : List (Option Nat)}, RL w Im d ys c -> AV.flatL d = true -> RL w f d ys c
 | [], [], [], _, _ => trivial
 | r :: d, y :: ys, j :: c, h, i => by
  simp only [AV.flatL, L00] at i
  exact ⟨h.1.flat i.1, RL.flat h.2 i.2⟩
theorem JdC.im {lo : Nat} {c : Nat -> Prop} {d : List (Option Nat)} (h : JdC lo Im d) (i : ∀ b, lo <= b -> c b -> Im b) : JdC lo c d :=
 ⟨λ b f => ⟨(h.1 b f).1, λ j => (h.1 b f).2 (i b (h.1 b f).1 j)⟩, h.2⟩
theorem RRep.flat {w' : World} {d : Nat -> Prop} {r : AV} {y : Value} (h : RRep w w' Im r y) (q : r.flat = true) (l : ∀ b, d b -> b < w.heap.size) : RRep w w' d r y := by
 obtain ⟨m, _, s, j⟩ := h
 refine ⟨λ b => d b \/ (w.heap.size <= b /\ m b /\ b < w'.heap.size), λ b c => .inl c, λ b c => ?_, ?_⟩
 . rcases c with c | ⟨f, _, s⟩
   . exact .inl c
   . exact .inr ⟨f, s⟩
 have p : ∀ b, w.heap.size <= b -> (d b \/ (w.heap.size <= b /\ m b /\ b < w'.heap.size)) -> m b := λ b t c => by
  rcases c with c | ⟨_, c, _⟩
  . have := l b c; omega
  . exact c
 revert j
 split <;> intro j
 . obtain ⟨ys, i, f, o, k⟩ := j
   exact ⟨ys, i, f, o.flat (by simpa [AV.flat] using q), k.im p⟩
 . obtain ⟨ys, i, f, o, k⟩ := j
   exact ⟨ys, i, f, o.flat (by simpa [AV.flat] using q), k.im p⟩
 . obtain ⟨u, f, k⟩ := j
   exact ⟨u, f.flat q, k.im p⟩
theorem Jlc (σ : Jac) (l l' : List (Nat × Blk)) : addS σ (l ++ l') = addS (addS σ l) l' := by
 induction l generalizing σ with
 | nil => rfl
 | cons x l c => simp [addS, c]
theorem Jem {e sz b : Nat} {es : List AV} (h : JbV w Im e sz es b) : ∃ cur, (∃ f, w.heap[b]? = some (.cells cur e f) /\ Mk f cur.size) /\ ∀ ρ, JgN w ρ Im ⟨e, sz, es⟩ cur := by
 obtain ⟨cur, k, l, m, o⟩ := h
 exact ⟨cur, k, λ ρ => ⟨l, m, λ i x j c t d => by obtain ⟨v, s, p, q⟩ := o i x j c t d; exact ⟨v, s, p, .im _ _ q⟩⟩⟩
theorem JfF {tm : Array Value} (k : Inv w ρ Im σ) (q : JaK w ρ Im E tm) {id : Nat} (o : Jbh id E σ) {r : AV} {y : Value} {j : Option Nat} (h : R1 w Im r y j)
 (F : ∀ b, j = some b -> (∀ i, ρ i ≠ some b) /\ ¬ Im b) :
 ∃ m, Inv w m Im (addS σ (imp1 id r).2) /\ JaK w m Im E tm /\ Rep w m Im (imp1 id r).1 y /\ (∀ i b, m i = some b -> ρ i = some b \/ j = some b) /\ (∀ v z, Rep w ρ Im v z -> ¬ Names v id -> Rep w m Im v z) /\
  (∀ d, d ≠ id -> Jbh d E σ -> Jbh d E (addS σ (imp1 id r).2)) /\ (∀ d, Names (imp1 id r).1 d -> d = id) /\ ∀ i, i ≠ id -> m i = ρ i := by
 have f : ∀ j v z, Rep w ρ Im v z -> ¬ Names v id -> Rep w (updR ρ id j) Im v z := λ j v z B V => B.carry (λ _ _ => rfl) V
 have env : ∀ j, JaK w (updR ρ id j) Im E tm := λ j t y X => f j _ _ (q t y X) (o.2.1 t)
 have p : ∀ j i, i ≠ id -> updR ρ id j i = ρ i := λ j i e => JaJ _ _ _ _ e
 have rng : ∀ j i b, updR ρ id j i = some b -> ρ i = some b \/ j = some b := λ j i b A => by
  by_cases e : i = id
  . subst e; rw [Jce] at A; exact .inr A
  . rw [JaJ _ _ _ _ e] at A; exact .inl A
 cases r with
 | new e I T =>
  rcases h with ⟨rfl, rfl, rfl⟩ | ⟨b, J, H, rfl, rfl, Q, D, ⟨K, U, R⟩, c⟩
  . exact ⟨updR ρ id none, k.fresh (L09 _) (λ _ _ => rfl) o.1 o.2.2 (λ _ h => h) (λ _ h => .inl h) rfl, env none, .ownNil id I (by simp), rng none, f none, λ d l u => u.add l.symm (by simp), λ d l => by cases l; rfl, p _⟩
  . obtain ⟨C, s, O⟩ := Jem c
    obtain ⟨L, M⟩ := F b rfl
    exact ⟨updR ρ id (some b), k.adopt (L09 _) (λ _ _ => rfl) o L M H s (O _), env _, .own id I T.length b J K e (by simp) Q D U R H, rng _, f _,
     λ d l u => u.add l.symm (λ x S => c.nameless d x S), λ d l => by cases l; rfl, p _⟩
 | nptr e I T =>
  obtain ⟨b, H, rfl, rfl, c⟩ := h
  obtain ⟨C, s, O⟩ := Jem c
  obtain ⟨L, M⟩ := F b rfl
  have W : Rep w (updR ρ id (some b)) Im (.ptr id I 0 0) (.pointer (some ⟨b, 0, none⟩)) := by
   have := Rep.ptr (w := w) (ρ := updR ρ id (some b)) (Im := Im) id I 0 0 b (by simp) H
   simpa using this
  exact ⟨updR ρ id (some b), k.adopt (L09 _) (λ _ _ => rfl) o L M H s (O _), env _, W, rng _, f _,
   λ d l u => u.add l.symm (λ x S => c.nameless d x S), λ d l => by cases l; rfl, p _⟩
 | _ =>
  obtain ⟨rfl, B⟩ := h
  exact ⟨ρ, k, q, .im _ _ B, λ i b A => .inl A, λ _ _ B _ => B, λ d _ u => u, λ d l => absurd l (B.nameless d), λ _ _ => rfl⟩
theorem Jd3 {tm : Array Value} : ∀ (q : List AV) (ys : List Value) (d : List (Option Nat)) (id : Nat) (ρ : Nat -> Option Nat) (σ : Jac), Inv w ρ Im σ -> JaK w ρ Im E tm ->
 (∀ k, k < q.length -> Jbh (id + k) E σ) -> RL w Im q ys d -> (∀ b, some b ∈ d -> (∀ i, ρ i ≠ some b) /\ ¬ Im b) -> d.Pairwise (λ x y => x = none \/ x ≠ y) ->
 ∃ f, Inv w f Im (addS σ (impL id q).2) /\ JaK w f Im E tm /\ Reps w f Im (impL id q).1 ys /\ (∀ i b, f i = some b -> ρ i = some b \/ some b ∈ d) /\
  (∀ v z, Rep w ρ Im v z -> (∀ k, k < q.length -> ¬ Names v (id + k)) -> Rep w f Im v z) /\ ∀ i, (∀ k, k < q.length -> i ≠ id + k) -> f i = ρ i
 | [], [], [], id, ρ, σ, o, m, _, _, _, _ => ⟨ρ, o, m, ⟨rfl, λ j c y u => by simp [impL] at u⟩, λ i b p => .inl p, λ _ _ I _ => I, λ _ _ => rfl⟩
 | r :: q, y :: ys, ob :: d, id, ρ, σ, o, m, B, h, t, H => by
  rw [L1x] at H
  obtain ⟨K, V, S, r1, O, R, X, Z, p1⟩ := JfF o m (id := id) (B 0 (by simp)) h.1 (λ b A => t b (by simp [A]))
  obtain ⟨L, W, T, Q, U, M, p2⟩ := Jd3 q ys d (id + 1) K _ V S (λ k D => by
   have := B (k + 1) (by simp; omega)
   rw [show id + 1 + k = id + (k + 1) from by omega]
   exact X _ (by omega) this) h.2 (λ b A => ⟨λ i p => by
    rcases O i b p with l | l
    . exact (t b (by simp [A])).1 i l
    . subst l
      rcases H.1 (some b) A with l | l
      . cases l
      . exact l rfl, (t b (by simp [A])).2⟩) H.2
  refine ⟨L, ?_, T, ⟨?_, λ j c z u J => ?_⟩, λ i b p => ?_, λ v z I C => ?_, λ i p => (p2 i λ k D => by have := p (k + 1) (by simp; omega); omega).trans (p1 i (by have := p 0 (by simp); omega))⟩
  . simp only [impL, Jlc]; exact W
  . simp only [impL, L0e, Q.1]
  . simp only [impL] at u
    cases j with
    | zero =>
     simp at u J; subst u; subst J
     exact M _ _ r1 λ k D C => by have := Z _ C; omega
    | succ j => exact Q.2 j c z (by simpa using u) (by simpa using J)
  . rcases U i b p with l | l
    . rcases O i b l with s | s
      . exact .inl s
      . exact .inr (by simp [s])
    . exact .inr (by simp [l])
  . exact M v z (R v z I (C 0 (by simp))) λ k D F => C (k + 1) (by simp; omega) (by rw [show id + (k + 1) = id + 1 + k from by omega]; exact F)
def rlen : AV -> Nat
 | .tup c => c.length
 | .clo _ c => c.length
 | _ => 1
theorem Wit.back (hG : JaQ C.G) (h : Wit C E σ a w ρ Im M) {w' : World} {r : AV} {y : Value} {id : Nat} (H : ∀ k, k < rlen r -> C.pin (id + k) = none) (T : ∀ k, k < rlen r -> Jbh (id + k) E σ) (hx : Ext w (λ _ => False) w') (I : RRep w w' Im r y)
 {dst : Option Nat} (hd : ∀ d, dst = some d -> d < C.N) :
 ∃ o f, Wit C (updO E dst (imp id r).1) (addS σ (imp id r).2) (a.put dst y) w' o f M := by
 obtain ⟨f, ac, R, I⟩ := I
 have ad : ∀ i b, ρ i = some b -> ¬ f b := λ i b q s => by
  rcases R b s with B | ⟨B, _⟩
  . exact h.inv.apart i b q B
  . have := h.inv.lt q; omega
 have aa : ∀ {v : AV} {z : Value}, Rep w ρ Im v z -> Rep w' ρ f v z := λ {v z} hv =>
  Rep.mono (w := w) (w' := w') ac (λ b s => hx.block b (h.inv.low b s) _root_.id) hv λ i _ => ⟨rfl, λ b q K e S => ⟨K, by rw [hx.block b (h.inv.lt q) _root_.id]; exact S, rfl⟩⟩
 have F : Inv w' ρ f σ := ⟨h.inv.nil, λ i k b U q hz => by
  obtain ⟨ab, ae, s, hl, S⟩ := h.inv.map i k b U q hz
  exact ⟨ab, ae, by rw [hx.block b (h.inv.lt q) _root_.id]; exact s, hl, λ i m hm => by obtain ⟨v, hv, I⟩ := S i m hm; exact ⟨v, hv, aa I⟩⟩, λ i k b U q hz => by
  obtain ⟨K, s, hl, hs, S⟩ := h.inv.blk i k b U q hz
  exact ⟨K, by rw [hx.block b (h.inv.lt q) _root_.id]; exact s, hl, hs, λ i e j c he af => by obtain ⟨v, hv, h1, I⟩ := S i e j c he af; exact ⟨v, hv, h1, aa I⟩⟩,
  h.inv.inj, h.inv.live, ad, λ b s => by
   rcases R b s with B | ⟨_, B⟩
   . exact L0Q (h.inv.low b B) hx.size
   . exact B⟩
 have D : JaK w' ρ f E a.tmps := λ t z hz => aa (h.env t z hz)
 have O : ∀ (v : AV) (l : List (Nat × Blk)) (o : Nat -> Option Nat) (p : List (Option Nat)), JdC w.heap.size f p -> Inv w' o f (addS σ l) -> JaK w' o f E a.tmps -> Rep w' o f v y ->
  (∀ i b, o i = some b -> ρ i = some b \/ some b ∈ p) -> (∀ i, C.pin i ≠ none -> o i = ρ i) -> Wit C (updO E dst v) (addS σ l) (a.put dst y) w' o f M := λ v l o p u X L J Q p2 =>
  h.step hG (hx.mono λ _ _ h => h.elim) X (L.put J) (JbR ..) (Jbb ..) (JdX hd) (λ i b q => by
   rcases Q i b q with B | B
   . exact .inl B
   . exact .inr (u.1 b B).1) (λ b s => (R b s).imp_right λ h => h.1) (λ i b s => (p2 i (by rw [s]; simp)).trans (h.pin i b s)) ac
 have A : ∀ p, JdC w.heap.size f p -> ∀ b, some b ∈ p -> (∀ i, ρ i ≠ some b) /\ ¬ f b := λ p u b s => ⟨λ i q => by have := h.inv.lt q; have := (u.1 b s).1; omega, (u.1 b s).2⟩
 have ag : ∀ Z, R1 w' f r y Z -> JdC w.heap.size f [Z] -> Jbh id E σ -> C.pin id = none -> imp id r = imp1 id r -> ∃ o f, Wit C (updO E dst (imp id r).1) (addS σ (imp id r).2) (a.put dst y) w' o f M := λ Z V u S H he => by
  obtain ⟨o, X, L, J, Q, _, _, _, p2⟩ := JfF F D (id := id) S V (λ b s => A [Z] u b (by simp [s]))
  rw [he]
  exact ⟨o, f, O _ _ o [Z] u X L J (λ i b q => by rcases Q i b q with B | B; exact .inl B; exact .inr (by simp [B])) (λ i q => p2 i λ e => q (by rw [e]; exact H))⟩
 cases r with
 | tup rs =>
  obtain ⟨ys, p, rfl, W, u⟩ := I
  obtain ⟨o, X, L, J, Q, _, p2⟩ := Jd3 rs ys p id ρ σ F D T W (A p u) u.2
  exact ⟨o, f, O _ _ o p u X L (.tup _ ys J.1 J.2) Q (λ i q => p2 i λ k U e => q (by rw [e]; exact H k U))⟩
 | clo g rs =>
  obtain ⟨ys, p, rfl, W, u⟩ := I
  obtain ⟨o, X, L, J, Q, _, p2⟩ := Jd3 rs ys p id ρ σ F D T W (A p u) u.2
  exact ⟨o, f, O _ _ o p u X L (.clo g _ ys J.1 J.2) Q (λ i q => p2 i λ k U e => q (by rw [e]; exact H k U))⟩
 | _ =>
  obtain ⟨Z, V, u⟩ := I
  exact ag Z V u (by simpa using T 0 (by simp [rlen])) (by simpa using H 0 (by simp [rlen])) rfl
def Ev (P : Program) (f : FuncId) (args : List AV) (r : AV) : Prop := FnOK P f λ a b => a = args /\ b = r
structure Sp where
 P : Program
 N : Nat
 b : Nat
 pin : Nat -> Bool
 rd : Bool := false
 yl : Nat
 Y : List AV -> AV -> (AV -> AV -> Prop) -> Prop
 bad : Nat -> Bool := λ _ => false
 old : Nat -> Bool := λ _ => true
 itf : Bool := false
abbrev JkA : Nat -> Bool := λ _ => false
def tpt (P : Program) (t : TypeId) : Bool := match P.underlying t with | some (.pointer _) => true | some .unsafePointer => true | _ => false
def cls (P : Program) (op : Op) (ty : TypeId) : Nat :=
 match op with
 | .move (.const (.slice none 0 0)) => if (tel P ty).isSome then 1 else 0
 | .assign (.const (.slice none 0 0)) => if (tel P ty).isSome then 1 else 0
 | .load _ (.global _) => 5
 | .binOp _ t _ _ _ => if tpt P t then 5 else 0
 | .slice _ _ _ _ (some _) => 5
 | .slice t _ _ _ none => if (tarr P t).isSome then 5 else 0
 | .move _ | .assign _ | .pick _ _ _ | .load _ _ | .nilCheck _ | .build _ _ | .unOp _ _ _ | .makeFunc _ _ _ | .fieldAddr _ _ _ | .field _ _ _ | .indexAddr _ _ _ | .index _ _ _
 | .extract _ _ => 0
 | .convert _ t _ => if (tint P t).isSome then 0 else 5
 | .alloc _ => 1
 | .box _ _ => 1
 | .buildSlice _ _ _ => 1
 | .makeSlice _ _ _ => 1
 | .call { callee := .value _, .. } => 2
 | .call { callee := .builtin .append, .. } => 3
 | .call { callee := .builtin .len, .. } => 0
 | .call { callee := .builtin .max, .. } => 0
 | .call { callee := .builtin .min, .. } => 0
 | .call { callee := .builtin .unsafeSliceData, .. } => 0
 | .store _ _ _ => 4
 | .go _ => 9
 | .defer _ => 9
 | .select _ _ => 9
 | .panic _ => 9
 | .send _ _ => 9
 | .recv _ _ _ => 9
 | _ => 5
def own (d : Nat) : Nat -> Bool := λ i => i / 16 == d
def kE (c : Bool) (d : Nat) (E : Env) : Env := if c then JaU (own d) E else E
def kS (c : Bool) (d : Nat) (σ : Jac) : Jac := if c then Jao (own d) σ else σ
mutual
def AV.dn : AV -> Bool
 | .any => false
 | .v _ => false
 | .yld _ => false
 | .own _ _ _ _ => true
 | .ptr _ _ _ _ => true
 | .mref _ => true
 | .agg c => AV.dnL c
 | .tup c => AV.dnL c
 | .clo _ c => AV.dnL c
 | .sl _ c => AV.dnL c
 | .cut _ c => AV.dnL c
 | .mp c => AV.dnL c
 | .pt e _ => AV.dn e
 | .new _ _ d => AV.dnL d
 | .nptr _ _ d => AV.dnL d
def AV.dnL : List AV -> Bool
 | [] => false
 | c :: d => AV.dn c || AV.dnL d
end
def JeQ (S : Sp) (j : Bool) (h : Nat) (op : Op) (E : Env) (σ : Jac) (v : AV) (i : List (Nat × Blk)) : Prop :=
 match op with
 | .call { callee := .value f, args, argTypes := _ } => match ev E f with
  | .clo g c => JaM c = true /\ ∃ r, Ev S.P g ((args.toList.map (ev E) ++ c).map (res σ)) r /\ (AV.namesL allB (args.toList.map (ev E) ++ c) = false \/ r.flat = true) /\ rlen r <= 16 /\ (j = true \/ r.dn = false) /\
   v = (imp (16 * h) r).1 /\ i = (imp (16 * h) r).2
  | _ => False
 | _ => False
def Jns (S : Sp) (op : Op) (E : Env) (d : Jac) (K : AV -> AV -> Prop) : Prop :=
 match op with
 | .call { callee := .value f, args, argTypes := _ } => match ev E f with
  | .yld l => l = S.yl /\ AV.namesL allB (args.toList.map (ev E)) = false /\ S.Y (args.toList.map (ev E)) (E S.N) K
  | _ => False
 | _ => False
def FW (r : Option Nat) : Fence := { fn := λ _ => True, depth := none, alive := false, round := r }
theorem JrX (l : Nat) : (FW none).inRound l = FW (some l) := rfl
theorem JeR {r : Option Nat} {n : Nat} {P : Program} {f : FuncId} {c : Array Value} {w : World} {R : Ending -> World -> Prop} (h : Calls P f c w R) : CallsIn (FW r) n P f c w R := by
 have d : CallsIn Fence.wide n P f c w R := callsIn_wide.2 h
 exact d
def Fx.rdl (C : Fx) : Option Nat := C.rd.map (·.1)
def YOK (S : Sp) (C : Fx) : Prop :=
 ∀ d g K, S.Y d g K -> ∀ (w : World) (i : Nat -> Prop) (M : Str) (vs : List Value), (∀ b, i b -> b < w.heap.size /\ ¬ M.m b) -> (∀ b, M.m b -> b < w.heap.size) -> (∀ b, M.j b -> i b) -> (∀ b, i b -> C.Im0 b \/ C.w0.heap.size <= b) -> JiF w i d vs -> C.G g M w -> ∀ n,
  ∃ q h c f, (Instr.yield S.yl vs.toArray).run S.P w = .ok (.round S.yl q h c f) w /\ RoundIn (FW C.rdl) n S.P S.yl q h c f w λ e o =>
   ∃ v l k, e = .returned v /\ (∃ b, v = .bool b) /\ K (.v v) l /\ (∀ p, AV.namesB p l = false) /\ C.G l k o /\ (∀ b, k.m b -> b < o.heap.size /\ (M.m b \/ w.heap.size <= b)) /\ (∀ b, k.j b -> i b) /\ Ext w M.m o
def itA (r : Nat) (d : List AV) (c : AV) : AV := .tup [.v (.pointer (some ⟨r, 0, none⟩)), .sl 1 d, c]
def JB1 (ents : Array MapEntry) (seen : Array Nat) : List MapEntry := ents.toList.filter λ e => !seen.contains e.born
def itG (g : AV) (M : Str) (w : World) : Prop := ∀ r l h, g = itA r l h -> M.m r /\ ∃ i d f c, M.j i /\ w.heap[r]? = some (.mapIter (some i) f d f) /\ w.heap[i]? = some (.map c f) /\ Bn c f /\
 l = (JB1 c d).map (λ m => .v m.key) /\ ∀ k, h = .v k -> ∃ m ∈ c.toList, d.back? = some m.born /\ m.key = k
structure Holds (S : Sp) (C : Fx) : Prop where
 N : S.N = C.N
 G : JaQ C.G
 Y : YOK S C
 mo : S.P.follows .mixedOrders = true
 pin : ∀ id b, C.pin id = some b -> S.pin id = true
 low : ∀ id, S.pin id = true -> id / 16 < S.b \/ S.b + 100000 <= id / 16
 big : S.N <= 99999
 rdn : S.rd = false -> C.rd = none
 fz : ∀ id b, C.X0 b -> C.R0 id b -> S.old id = true
 gk : GOK C.w0 C.J0
 gx : ∀ b, GIs b -> ¬ C.X0 b /\ b < C.w0.heap.size
 it : S.itf = true -> C.G = itG := by intro h; cases h
theorem Wit.gok {S : Sp} {C : Fx} {E : Env} {σ : Jac} {a : Act} {w : World} {ρ : Nat -> Option Nat} {Im : Nat -> Prop} {M : Str} (H : Holds S C) (h : Wit C E σ a w ρ Im M) : GOK w Im :=
 H.gk.mono h.j0 λ b c => h.ext.block b (H.gx b c).2 (H.gx b c).1
def semV (S : Sp) (o : Oper) (K : Env -> Jac -> Prop) (E : Env) (σ : Jac) : Prop :=
 ∀ (C : Fx), Holds S C -> ∀ (n : Nat) (a : Act) (w : World) (f : Act -> World -> Prop) (Q : Exit -> Act -> World -> Prop), St C E σ a w ->
  (∀ d c h i, K d c -> St C d c h i -> f h i) -> o.wpIn (FW C.rdl) n S.P a w f Q
def aop (S : Sp) (c i : Bool) (o : Oper) (K f : Env -> Jac -> Prop) (E : Env) (σ : Jac) : Prop :=
 match cls S.P o.op o.type with
 | 0 => ∃ v, JaH S.P o.op E σ v /\ K (updO E o.dst v) σ
 | 1 => ∃ d, o.dst = some d /\ ∃ v h, newV S.P (S.b + d) o.op o.type (kE c (S.b + d) E) v h /\ K (upd (kE c (S.b + d) E) d v) (addS (kS c (S.b + d) σ) h)
 | 2 => (∃ v h, JeQ S c (S.b + o.dst.getD 99999) o.op (kE c (S.b + o.dst.getD 99999) E) (kS c (S.b + o.dst.getD 99999) σ) v h /\
  K (updO (kE c (S.b + o.dst.getD 99999) E) o.dst v) (addS (kS c (S.b + o.dst.getD 99999) σ) h)) \/
  (i = true /\ Jns S o.op E σ λ v g => f (updO (upd E S.N g) o.dst v) σ) \/ (i = true /\ semV S o f E σ)
 | 3 => ∃ d, o.dst = some d /\ appV S.P o.op E σ λ id j n k => S.pin id = false /\ f (upd (JaU (isId id) E) d (.own id j 0 n)) (updS (Jao (isId id) σ) id (k.kill (isId id)))
 | 4 => Jer S.P o.op E σ λ id k => f (updO E o.dst (.v undef)) (updS σ id k)
 | 5 => semV S o f E σ
 | _ => False
def gop (S : Sp) (kd bi : Bool) (ops : Array Oper) (o : Oper) (K Kb : Env -> Jac -> Prop) (E : Env) (σ : Jac) : Prop :=
 match o.guard with
 | none => aop S kd bi o K Kb E σ
 | some (j, want) => match (ops[j]?).bind (·.dst) with
  | none => False
  | some t => match E t with
   | .v (.bool b) => (b = want -> aop S kd bi o K Kb (upd E t (.v (.bool want))) σ) /\ (b = !want -> K (updO (upd E t (.v (.bool !want))) o.dst (.v undef)) σ)
   | .v (.tuple _) => K (updO E o.dst (.v undef)) σ
   | _ => False
def waits (ops : Array Oper) : Nat -> Nat -> Nat -> Bool
 | 0, _, _ => false
 | n + 1, j, i => match ops[j]? with
  | some o => o.after.any λ e => Region.binds .any e && (e.on == i || waits ops n e.on i)
  | none => false
def bar (ops : Array Oper) (i : Nat) : Bool := (List.range ops.size).all λ j => j == i || waits ops ops.size i j || waits ops ops.size j i
def regP (S : Sp) (l : List Oper) : Nat -> Bool := λ i => (l.filterMap λ o => if cls S.P o.op o.type == 1 || cls S.P o.op o.type == 2 then some (S.b + o.dst.getD 99999) else none).contains (i / 16)
def struck (S : Sp) (c : Bool) (l : List Oper) (K : Env -> Jac -> Prop) (E : Env) (σ : Jac) : Prop := if c then K (JaU (regP S l) E) (Jao (regP S l) σ) else K E σ
def Jel (S : Sp) (dr : Bool) (ops : Array Oper) : Nat -> List Oper -> (Env -> Jac -> Prop) -> Env -> Jac -> Prop
 | _, [], K => K
 | i, o :: rest, K => gop S (!dr) (!dr || bar ops i) ops o (Jel S dr ops (i + 1) rest K) (struck S dr rest (Jel S dr ops (i + 1) rest K))
def Jdd (K : Env -> Jac -> Prop) (Q : Exit -> Env -> Jac -> Prop) : Exit -> Env -> Jac -> Prop
 | .normal => K
 | e => Q e
def JdE (id : Nat) (Q : Exit -> Env -> Jac -> Prop) : Exit -> Env -> Jac -> Prop
 | .exit c => if c = id then Q .normal else Q (.exit c)
 | e => Q e
def Jfg (Q : Exit -> Env -> Jac -> Prop) : Exit -> Env -> Jac -> Prop
 | .goto _ => λ _ _ => False
 | e => Q e
def semC (S : Sp) (c : Code) (Q : Exit -> Env -> Jac -> Prop) (E : Env) (σ : Jac) : Prop :=
 ∀ (C : Fx), Holds S C -> ∀ (n : Nat) (R : Exit -> Act -> World -> Prop), (∀ e E σ a w, Q e E σ -> St C E σ a w -> R e a w) -> ∀ a w, St C E σ a w -> c.wpIn (FW C.rdl) n S.P R a w
def awp (S : Sp) : Code -> (Exit -> Env -> Jac -> Prop) -> Env -> Jac -> Prop
 | .skip, Q => Q .normal
 | .label _, Q => Q .normal
 | .seq a b, Q => awp S a (Jdd (awp S b Q) Q)
 | .region id i d, Q => λ E h => if S.bad id = true then semC S (.region id i d) Q E h else struck S d i.toList (Jel S d i 0 i.toList (Q .normal)) E h
 | .cond c x y, Q => λ E h => match ev E c with
  | .v (.bool b) => (b = true -> awp S x Q E h) /\ (b = false -> awp S y Q E h)
  | _ => False
 | .block id c, Q => awp S c (JdE id Q)
 | .scope c, Q => awp S c (Jfg Q)
 | .loop c, Q => λ E h => ∃ (I : Env -> Jac -> Prop) (m : Env -> Jac -> Nat), I E h /\ ∀ E h, I E h -> awp S c (Jdd (λ l k => I l k /\ m l k < m E h) Q) E h
 | .exit id, Q => Q (.exit id)
 | .ret, Q => Q .ret
 | .rangeFunc f p o j, Q => semC S (.rangeFunc f p o j) Q
 | _, _ => λ _ _ => False
def Oper.fits (P : Program) (N : Nat) (o : Oper) : Bool := o.dst.all (decide <| · < N) && Op.low N o.op && cls P o.op o.type != 9
def isNm (P : Program) (o : Oper) : Bool := cls P o.op o.type == 1 || cls P o.op o.type == 2
def Jfz (P : Program) (o : Oper) : Bool := o.guard.isNone && cls P o.op o.type == 0 && match o.op with
 | .extract _ _ => true
 | .move _ => true
 | .assign _ => true
 | _ => false
def stoO (o : Oper) : Bool := o.guard.isNone && o.dst.isNone && match o.op with
 | .store _ _ _ => true
 | _ => false
def JdH (P : Program) (ops : Array Oper) : Bool :=
 (List.range ops.size).all λ i => match ops[i]? with
  | none => false
  | some c => c.after.all (λ e => !Region.binds .any e || decide (e.on < i)) && (match c.guard with | some (g, _) => decide (g < i) | none => true) &&
   ((List.range ops.size).all λ j => decide (j <= i) || match ops[j]? with
    | none => false
    | some d => (waits ops ops.size j i || (c.apart ops d && (decide (cls P c.op c.type <= 2) && decide (cls P d.op d.type <= 2) || Jfz P c && stoO d || stoO c && Jfz P d))) &&
     (!isNm P c || !isNm P d || (c.dst.getD 99999 != d.dst.getD 99999)))
def JaX (P : Program) (N : Nat) (bad : Nat -> Bool) : Code -> Bool
 | .skip => true
 | .label _ => true
 | .seq a b => JaX P N bad a && JaX P N bad b
 | .region id ops draw => (bad id || ops.toList.all (Oper.fits P N)) && (!draw || bad id || JdH P ops)
 | .cond c x y => Operand.low N c && JaX P N bad x && JaX P N bad y
 | .block _ c => JaX P N bad c
 | .scope c => JaX P N bad c
 | .loop c => JaX P N bad c
 | .exit _ => true
 | .ret => true
 | .rangeFunc _ _ _ _ => true
 | .refuse _ => true
 | _ => false
section
variable {S : Sp} {C : Fx} {E : Env} {σ : Jac} {a : Act} {w : World} {ρ : Nat -> Option Nat} {Im : Nat -> Prop} {M : Str}
theorem Holds.own (H : Holds S C) {d : Nat} (f : d < 100000) : ∀ id b, C.pin id = some b -> Vai.own (S.b + d) id = false := λ id b c => by
 have := H.low id (H.pin id b c)
 simp only [Vai.own, beq_eq_false_iff_ne]; omega
theorem Holds.free (H : Holds S C) {d : Nat} (c : d < 100000) : ∀ k, k < 16 -> C.pin (16 * (S.b + d) + k) = none := λ k f => by
 cases hp : C.pin (16 * (S.b + d) + k) with
 | none => rfl
 | some b =>
  have := H.own c _ b hp
  simp only [Vai.own, beq_eq_false_iff_ne] at this; omega
theorem JaN {o : Oper} {y : Value} {w' : World} {n : Nat} {K : Act -> World -> Prop} {Q : Exit -> Act -> World -> Prop} (d : ∀ c, o.op ≠ .defer c)
 (f : (execOp a.eval o).run S.P w = .ok (.value y) w') (h : K (a.put o.dst y) w') : o.wpIn (FW C.rdl) n S.P a w K Q := by
 refine ⟨λ _ _ => trivial, ?_⟩
 rw [Oper.semAt_eq _ _ _ d, f]; exact h
theorem Jf5 {o : Oper} {w' : World} {n : Nat} {K : Act -> World -> Prop} {Q : Exit -> Act -> World -> Prop} (d : ∀ c, o.op ≠ .defer c)
 (f : (execOp a.eval o).run S.P w = .ok .skip w') (h : K (a.put o.dst undef) w') : o.wpIn (FW C.rdl) n S.P a w K Q := by
 refine ⟨λ _ _ => trivial, ?_⟩
 rw [Oper.semAt_eq _ _ _ d, f]; exact h
theorem Jdg {o : Oper} {N : Nat} (h : Oper.fits S.P N o = true) : (∀ d, o.dst = some d -> d < N) /\ Op.low N o.op = true /\ cls S.P o.op o.type ≠ 9 := by
 simp only [Oper.fits, L00, bne_iff_ne, ne_eq] at h
 refine ⟨λ d c => ?_, h.1.2, h.2⟩
 have := h.1.1; rw [c] at this; simpa using this
theorem Jg0 {P : Program} {op : Op} {ty : TypeId} (h : cls P op ty ≠ 9) : ∀ c, op ≠ .defer c := λ c e => by subst e; exact h rfl
theorem Jlj (H : Holds S C) (h : Wit C E σ a w ρ Im M) {o : Oper} (hf : Oper.fits S.P S.N o = true) {d : Nat} (hpn : ∀ k, k < 16 -> C.pin (16 * d + k) = none) (hcl : ∀ k, k < 16 -> Jbh (16 * d + k) E σ) {v : AV} {bl : List (Nat × Blk)} {kd : Bool}
 (hv : JeQ S kd d o.op E σ v bl) {n : Nat} {K : Act -> World -> Prop} {Q : Exit -> Act -> World -> Prop} (hK : ∀ y w' ρ' Im', Wit C (updO E o.dst v) (addS σ bl) (a.put o.dst y) w' ρ' Im' M -> K (a.put o.dst y) w') :
 o.wpIn (FW C.rdl) n S.P a w K Q := by
 obtain ⟨hdst, hlow, hc9⟩ := Jdg hf
 have rep : ∀ x, x ∈ o.op.operands -> Rep w ρ Im (ev E x) (a.eval x) := λ x hx => Jb8 h.env (by rw [h.size, <- H.N]; exact JbP hlow hx)
 have hdf := Jg0 hc9
 refine ⟨λ _ _ => trivial, ?_⟩
 rw [Oper.semAt_eq _ _ _ hdf]; obtain ⟨dst, op, ty, pos, after, guard⟩ := o
 simp only at hdst hlow hv hK rep
 unfold JeQ at hv
 split at hv
 . rename_i f args ats
   split at hv
   . rename_i g caps hfv; obtain ⟨hhd, r, hΓ, hor, hrl, _, rfl, rfl⟩ := hv
     have hfr := rep f (by simp [Op.operands, Call.operands])
     rw [hfv] at hfr
     obtain ⟨cys, hfy, hcl', hcr⟩ := hfr.clo_plain hhd
     have hargs : ∀ x ∈ args.toList, Rep w ρ Im (ev E x) (a.eval x) := λ x hx => rep x (by simp [Op.operands, Call.operands]; exact Or.inr (L0x.1 hx))
     -- the arguments and what was captured
     have hall : Reps w ρ Im (args.toList.map (ev E) ++ caps) (args.toList.map a.eval ++ cys) := by
      refine ⟨by simp [hcl'], λ j c y hc hy => ?_⟩
      by_cases hj : j < args.toList.length
      . rw [L0k (by simpa using hj), L07] at hc hy
        rw [L08 hj] at hc hy
        simp at hc hy; subst hc; subst hy
        exact hargs _ (by simp)
      . rw [L0o (by simp at hj ⊢; omega)] at hc hy
        simp only [L0c] at hc hy
        exact hcr _ c y hc hy
     obtain ⟨henter, hfn⟩ := hΓ _ r ⟨rfl, rfl⟩
     have hrun : (execOp a.eval { dst, op := .call { callee := .value f, args, argTypes := ats }, type := ty, pos, after, guard }).run S.P w = .ok (.enter g (args.toList.map a.eval ++ cys).toArray) w := by
      simp only [execOp, resolve, hfy, Deferred.ofValue, Sem.run_bind, Sem.run_pure, Result.andThen_ok, invoke]
      have e1 : (#[] ++ args.map a.eval ++ cys.toArray : Array Value) = (args.toList.map a.eval ++ cys).toArray := by apply L12.1; simp
      rw [e1]; exact henter _ w
     rw [hrun]
     refine ⟨λ h => by simp [FW] at h, JeR ?_⟩
     have back : ∀ y w', Ext w (λ _ => False) w' -> RRep w w' Im r y -> K (a.put dst y) w' := λ y w' hx hr => by
      obtain ⟨ρ', Im', hw⟩ := h.back H.G (id := 16 * d) (λ k hk => hpn k (by omega)) (λ k hk => hcl k (by omega)) hx hr (dst := dst) (by rw [<- H.N]; exact hdst)
      exact hK y w' ρ' Im' hw
     rcases hor with hn | hflat
     . have hres : (args.toList.map (ev E) ++ caps).map (res σ) = args.toList.map (ev E) ++ caps := by
        rw [L0S (g := id)]
        . simp
        . intro x hx
          refine JkK ?_
          cases hb : AV.namesB allB x with
          | false => rfl
          | true => have := (AV.namesL_iff allB _).2 ⟨x, hx, hb⟩; rw [hn] at this; cases this
       rw [hres] at hfn
       refine (hfn w Im _ h.inv.low (h.gok H) ⟨hall.1, λ j c y hc hy => JbB (hall.2 j c y hc hy) λ id hid => ?_⟩).mono λ e w' ⟨y, he, hx, hr⟩ => by subst he; exact back y w' hx hr
       have := (AV.namesL_iff allB _).2 ⟨c, L02 hc, AV.namesB_of allB hid rfl⟩
       rw [hn] at this; cases this
     . refine (hfn w (Seen Im ρ) _ (λ b hb => by
        rcases hb with hb | ⟨id, hb⟩
        . exact h.inv.low b hb
        . exact h.inv.lt hb) ((h.gok H).mono (λ _ h => .inl h) λ _ _ => rfl) ⟨by simpa using hall.1, λ j c y hc hy => ?_⟩).mono λ e w' ⟨y, he, hx, hr⟩ => by subst he; exact back y w' hx (hr.flat hflat h.inv.low)
       rw [L07] at hc
       cases hcj : (args.toList.map (ev E) ++ caps)[j]? with
       | none => simp [hcj] at hc
       | some c0 => simp [hcj] at hc; subst hc; exact Jhw h.inv (hall.2 j c0 y hcj hy)
   . exact hv.elim
 . exact hv.elim
theorem Rep.yld_inv {l : Nat} {y : Value} (h : Rep w ρ Im (.yld l) y) : y = .func (.yield l) #[] #[] := by
 cases h with | im _ _ h => cases h; rfl
theorem Jlb (H : Holds S C) (h : Wit C E σ a w ρ Im M) {o : Oper} (hf : Oper.fits S.P S.N o = true) {A : AV -> AV -> Prop}
 (hv : Jns S o.op E σ A) {n : Nat} {K : Act -> World -> Prop} {Q : Exit -> Act -> World -> Prop} (hK : ∀ v g y w' M', A v g -> Wit C (updO (upd E S.N g) o.dst v) σ (a.put o.dst y) w' ρ Im M' -> K (a.put o.dst y) w') :
 o.wpIn (FW C.rdl) n S.P a w K Q := by
 obtain ⟨hdst, hlow, hc9⟩ := Jdg hf
 have rep : ∀ x, x ∈ o.op.operands -> Rep w ρ Im (ev E x) (a.eval x) := λ x hx => Jb8 h.env (by rw [h.size, <- H.N]; exact JbP hlow hx)
 have hdf := Jg0 hc9
 refine ⟨λ _ _ => trivial, ?_⟩
 rw [Oper.semAt_eq _ _ _ hdf]; obtain ⟨dst, op, ty, pos, after, guard⟩ := o
 simp only at hdst hlow hv hK rep
 unfold Jns at hv
 split at hv
 . rename_i f args ats
   split at hv
   . rename_i l hfv; obtain ⟨rfl, hn, hY⟩ := hv
     have hfr := rep f (by simp [Op.operands, Call.operands])
     rw [hfv] at hfr
     have hfy : a.eval f = .func (.yield S.yl) #[] #[] := hfr.yld_inv
     have hargs : JiF w Im (args.toList.map (ev E)) (args.toList.map a.eval) := by
      refine ⟨by simp, λ j c y hc hy => ?_⟩
      rw [L07] at hc hy
      cases hx : args.toList[j]? with
      | none => simp [hx] at hc
      | some x =>
       simp only [hx, L0I, Option.some.injEq] at hc hy
       subst hc; subst hy
       have hmem := L02 hx
       refine JbB (rep x (by simp [Op.operands, Call.operands]; exact Or.inr (L0x.1 hmem))) λ id hid => ?_
       have := (AV.namesL_iff allB _).2 ⟨ev E x, L05.2 ⟨x, hmem, rfl⟩, AV.namesB_of allB hid rfl⟩
       rw [hn] at this; cases this
     rw [H.N] at hY
     obtain ⟨fn, tmps, assign, body, hyr, hround⟩ := H.Y _ _ _ hY w Im M _ (λ b hb => ⟨h.inv.low b hb, λ hm => (h.ms b hm).2.2.1 hb⟩) (λ b hb => (h.ms b hb).1) h.js h.im hargs h.g (n - 1)
     have hrun : (execOp a.eval { dst, op := .call { callee := .value f, args, argTypes := ats }, type := ty, pos, after, guard }).run S.P w = .ok (.round S.yl fn tmps assign body) w := by
      simp only [execOp, resolve, hfy, Deferred.ofValue, Sem.run_bind, Sem.run_pure, Result.andThen_ok, invoke]
      have e1 : (#[] ++ args.map a.eval : Array Value) = (args.toList.map a.eval).toArray := by apply L12.1; simp
      rw [e1]; exact hyr
     rw [hrun]
     refine ⟨λ h => by simp [FW] at h, hround.mono ?_⟩
     rintro e w' ⟨v, g', M', rfl, ⟨b, rfl⟩, hA, hgn, hG', hM', hJ', hx⟩
     refine hK _ g' _ w' M' hA ?_
     have hIm : ∀ b, Im b -> ¬ M.m b := λ b hb hm => (h.ms b hm).2.2.1 hb
     have hrho : ∀ i b, ρ i = some b -> ¬ M.m b := λ i b hi hm => (h.ms b hm).2.1 i hi
     have rep' : ∀ {v : AV} {z : Value}, Rep w ρ Im v z -> Rep w' ρ Im v z := λ {v z} hv =>
      Rep.mono (w := w) (w' := w') (λ _ h => h) (λ b hb => hx.block b (h.inv.low b hb) (hIm b hb)) hv λ i _ => ⟨rfl, λ b hi cur e hc => ⟨cur, by rw [hx.block b (h.inv.lt hi) (hrho i b hi)]; exact hc, rfl⟩⟩
     have hNne : S.N = C.N := H.N
     refine {
      inv := ⟨h.inv.nil, λ i k b hk hi hz => by
       obtain ⟨ents, clk, hb, hl, hc⟩ := h.inv.map i k b hk hi hz
       exact ⟨ents, clk, by rw [hx.block b (h.inv.lt hi) (hrho i b hi)]; exact hb, hl, λ i m hm => by obtain ⟨v, hv, hr⟩ := hc i m hm; exact ⟨v, hv, rep' hr⟩⟩, λ i k b hk hi hz => by
       obtain ⟨cur, hb, hl, hs, hc⟩ := h.inv.blk i k b hk hi hz
       exact ⟨cur, by rw [hx.block b (h.inv.lt hi) (hrho i b hi)]; exact hb, hl, hs, λ i e j c he hcc => by obtain ⟨v, hv, h1, hr⟩ := hc i e j c he hcc; exact ⟨v, hv, h1, rep' hr⟩⟩,
       h.inv.inj, h.inv.live, h.inv.apart, λ b hb => L0Q (h.inv.low b hb) hx.size⟩
      env := ?_, size := (JbR ..).trans h.size
      ext := h.ext.trans hx λ b hb => (h.ms b hb).2.2.2
      rng := h.rng, im := h.im, pin := h.pin, js := hJ', j0 := h.j0
      gh := ?_, g := ?_
      ms := λ b hb => ?_
      rd := λ l r hr => by
       have hb : C.book a l := .inl ⟨r, hr⟩
       rw [hx.block l (h.bklt hb) (h.bk l hb).2.2]; exact h.rd l r hr
      nodup := by rw [Jbb]; exact h.nodup
      df := λ dd hdd => by
       rw [Jbb] at hdd
       obtain ⟨D, e, hD, hl⟩ := h.df dd hdd
       have hb : C.book a D := .inr (e ▸ hdd)
       exact ⟨D, e, by rw [hx.block D (h.bklt hb) (h.bk D hb).2.2]; exact hD, hl⟩
      bk := λ b hb => ?_ }
     . refine JaK.put (dst := dst) (tm := a) (E := upd E S.N g') (λ t y hy => ?_) (.im _ _ (.v _))
       simp only [upd]
       rw [if_neg (λ e => by
        have hlt := (L0m.1 hy).1
        rw [h.size] at hlt; omega)]
       exact rep' (h.env t y hy)
     . intro p
       rw [JdX (E := upd E S.N g') (N := C.N) (by rw [<- H.N]; exact hdst)]
       simp only [upd, hNne, if_true]; exact hgn p
     . rw [JdX (E := upd E S.N g') (N := C.N) (by rw [<- H.N]; exact hdst)]
       simp only [upd, hNne, if_true]; exact hG'
     . obtain ⟨h1, h2⟩ := hM' b hb
       refine ⟨h1, λ i hi => ?_, λ hi => ?_, ?_⟩
       . rcases h2 with h2 | h2
         . exact hrho i b hi h2
         . have := h.inv.lt hi; omega
       . rcases h2 with h2 | h2
         . exact hIm b hi h2
         . have := h.inv.low b hi; omega
       . rcases h2 with h2 | h2
         . exact (h.ms b h2).2.2.2
         . exact .inr (L0n h.ext.size h2)
     . have hb : C.book a b := by unfold Fx.book at *; rwa [Jbb] at hb
       obtain ⟨h1, h2, h3⟩ := h.bk b hb
       refine ⟨h1, h2, λ hm => ?_⟩
       rcases (hM' b hm).2 with h4 | h4
       . exact h3 h4
       . have := h.bklt hb; omega
   . exact hv.elim
 . exact hv.elim
end
section
variable {S : Sp} {C : Fx} {E : Env} {σ : Jac} {a : Act} {w : World} {ρ : Nat -> Option Nat} {Im : Nat -> Prop} {M : Str}
theorem JyS (d k : Nat) (h : k < 16) : own d (16 * d + k) = true := by
 simp only [own, beq_iff_eq]; omega
theorem Jkp (d : Nat) (E : Env) (σ : Jac) : ∀ k, k < 16 -> Jbh (16 * d + k) (JaU (own d) E) (Jao (own d) σ) := λ k c => JbZ (JyS d k c) E σ
theorem Ji0 (H : Holds S C) (h : Wit C E σ a w ρ Im M) (c : Bool) (d : Nat) (j : ∀ id b, C.pin id = some b -> own d id = false) (f : c = false -> ∀ k, k < 16 -> Jbh (16 * d + k) E σ) :
 ∃ i, Wit C (kE c d E) (kS c d σ) a w i Im M /\ ∀ k, k < 16 -> Jbh (16 * d + k) (kE c d E) (kS c d σ) := by
 cases c with
 | true => exact ⟨_, h.kill H.G (own d) j, Jkp d E σ⟩
 | false => exact ⟨ρ, h, f rfl⟩
theorem Js6 (H : Holds S C) {id : Nat} (h : S.pin id = false) : C.pin id = none := by
 cases hc : C.pin id with
 | none => rfl
 | some b => have := H.pin id b hc; rw [h] at this; cases this
theorem Jmc {x : AV} {K K' : Nat -> List AV -> Prop} (f : ∀ a b, K a b -> K' a b) (h : Jeq σ x K) : Jeq σ x K' := by
 unfold Jeq at *
 split at h
 . exact f _ _ h
 . exact f _ _ h
 . obtain ⟨k, a, b, c, d⟩ := h; exact ⟨k, a, b, c, f _ _ d⟩
 . exact h
theorem JjH {P : Program} {op : Op} {K K' : Nat -> Nat -> Nat -> Blk -> Prop} (y : ∀ a b c d, K a b c d -> K' a b c d) (h : appV P op E σ K) : appV P op E σ K' := by
 unfold appV at *
 split at h
 . split at h
   . obtain ⟨m, e, o, p, q, l⟩ := h
     refine ⟨m, e, o, p, q, ?_⟩
     split at l
     . obtain ⟨s, k, t, u, w, i, j⟩ := l
       exact ⟨s, k, t, u, w, i, Jmc (λ _ _ f => ⟨f.1, f.2.1, f.2.2.1, f.2.2.2.1, y _ _ _ _ f.2.2.2.2⟩) j⟩
     . exact l
   . exact h
 . exact h
theorem JeN (H : Holds S C) (h : Wit C E σ a w ρ Im M) {o : Oper} (Z : Oper.fits S.P S.N o = true) (R bi : Bool)
 (J : R = false -> (cls S.P o.op o.type = 1 \/ cls S.P o.op o.type = 2) -> ∀ k, k < 16 -> Jbh (16 * (S.b + o.dst.getD 99999) + k) E σ) {K Kb : Env -> Jac -> Prop} (z : aop S R bi o K Kb E σ)
 {n : Nat} {Kc : Act -> World -> Prop} {Q : Exit -> Act -> World -> Prop} (V : ∀ E' p F w', K E' p -> St C E' p F w' -> Kc F w') (j : ∀ E' p F w', Kb E' p -> St C E' p F w' -> Kc F w') : o.wpIn (FW C.rdl) n S.P a w Kc Q := by
 obtain ⟨f, i, X⟩ := Jdg Z
 have t := Jg0 X
 have c : ∀ d, o.dst = some d -> d < C.N := by rw [<- H.N]; exact f
 have L : o.dst.getD 99999 < 100000 := by
  cases q : o.dst with
  | none => simp
  | some d => exact L0Q (f d q) (L0n H.big (by decide))
 unfold aop at z
 split at z
 . obtain ⟨v, hp, u⟩ := z
   obtain ⟨y, D, O⟩ := Jl0 h.inv h.env (by rw [h.size, <- H.N]; exact i) hp
   exact JaN t D (V _ _ _ _ u ⟨ρ, Im, M, h.put H.G c O⟩)
 . rename_i W; obtain ⟨d, q, v, bl, hn, u⟩ := z
   obtain ⟨aa, U, s⟩ := Ji0 H h R (S.b + d) (H.own (L0Q (f d q) (L0n H.big (by decide)))) (λ e => by have := J e (.inl W); rw [q] at this; exact this)
   obtain ⟨y, w', l, D, A⟩ := Jok H.G U (H.free (L0Q (f d q) (L0n H.big (by decide)))) (by simpa using s 0 (by omega)) (s 1 (by omega)) (c d q) q (by rw [<- H.N]; exact i) hn
   exact JaN t D (V _ _ _ _ u ⟨l, Im, M, A⟩)
 . rename_i W
   rcases z with ⟨v, bl, B, u⟩ | ⟨_, hy⟩ | ⟨_, hs⟩
   . obtain ⟨aa, U, s⟩ := Ji0 H h R (S.b + o.dst.getD 99999) (H.own L) (λ e => J e (.inr W))
     exact Jlj H U Z (H.free L) s B λ y w' l T A => V _ _ _ _ u ⟨l, T, M, A⟩
   . exact Jlb H h Z hy λ v g y w' M' hA A => j _ _ _ _ hA ⟨ρ, Im, M', A⟩
   . exact hs C H n a w Kc Q ⟨ρ, Im, M, h⟩ j
 . obtain ⟨d, q, I⟩ := z
   obtain ⟨id, sz, m, k, y, w', l, u, D, A⟩ := Jpd H.G h (c d q) q (by rw [<- H.N]; exact i) (JjH (λ _ _ _ _ hh => ⟨Js6 H hh.1, hh.2⟩) I)
   exact JaN t D (j _ _ _ _ u ⟨l, Im, M, A⟩)
 . obtain ⟨id, k, w', u, D, A⟩ := Jme H.G h (by rw [<- H.N]; exact i) z
   exact Jf5 t D (j _ _ _ _ u ⟨ρ, Im, M, A.put H.G c (.im _ _ (.v _))⟩)
 . exact z C H n a w Kc Q ⟨ρ, Im, M, h⟩ j
 . exact z.elim
theorem JiD (h : Wit C E σ a w ρ Im M) {ops : Array Oper} {j t : Nat} (i : (ops[j]?).bind (·.dst) = some t) (d : t < C.N) {x : Value} (k : E t = .v x) :
 yielded ops a.tmps j = match x with | .bool b => some b | _ => none := by
 have f : t < a.tmps.size := by rw [h.size]; exact d
 have c := h.env t a.tmps[t] (L0i f); rw [k] at c; have c := c.v_inv; unfold yielded; rw [i]; simp only [Option.bind_some, L0i f, c]
 cases x <;> rfl
def Jgp (n : Nat) (P : Program) (r : Option Nat) (ops : Array Oper) (o : Oper) (K : Act -> World -> Prop) (Q : Exit -> Act -> World -> Prop) (a : Act) (w : World) : Prop :=
 if Region.wanted o (yielded ops a.tmps) then o.wpIn (FW r) n P a w K Q else K (a.put o.dst undef) w
theorem Jde {n : Nat} {P : Program} {r : Option Nat} {ops : Array Oper} {i : Nat} {o : Oper} (d : ops[i]? = some o) {K : Act -> World -> Prop} {Q : Exit -> Act -> World -> Prop} {a : Act} {w : World}
 (h : Jgp n P r ops o K Q a w) : wpOpIn (FW r) n P ops Q i K a w := by
 unfold wpOpIn Jgp at *; simp only [d]
 split
 . rename_i c; rw [if_pos c] at h; exact h
 . rename_i c; rw [if_neg c] at h; exact ⟨λ _ _ => trivial, h⟩
theorem Je2 (H : Holds S C) (h : Wit C E σ a w ρ Im M) {ops : Array Oper} (hall : ∀ (i : Nat) (o : Oper), ops[i]? = some o -> Oper.fits S.P S.N o = true) {o : Oper} (hf : Oper.fits S.P S.N o = true) (kd bi : Bool)
 (hcl : kd = false -> (cls S.P o.op o.type = 1 \/ cls S.P o.op o.type = 2) -> ∀ k, k < 16 -> Jbh (16 * (S.b + o.dst.getD 99999) + k) E σ) {K Kb : Env -> Jac -> Prop} (hv : gop S kd bi ops o K Kb E σ)
 {n : Nat} {Kc : Act -> World -> Prop} {Q : Exit -> Act -> World -> Prop} (hK : ∀ E' σ' a' w', K E' σ' -> St C E' σ' a' w' -> Kc a' w') (hKb : ∀ E' σ' a' w', Kb E' σ' -> St C E' σ' a' w' -> Kc a' w') : Jgp n S.P C.rdl ops o Kc Q a w := by
 obtain ⟨hdst, _, _⟩ := Jdg hf
 have hdst' : ∀ d, o.dst = some d -> d < C.N := by rw [<- H.N]; exact hdst
 unfold gop at hv; unfold Jgp
 split at hv
 . rename_i hg
   rw [if_pos (by simp [Region.wanted, hg])]
   exact JeN H h hf kd bi hcl hv hK hKb
 . rename_i j want hg
   split at hv
   . exact hv.elim
   . rename_i t ht
     have htN : t < C.N := by
      cases hj : ops[j]? with
      | none => simp [hj] at ht
      | some oj => simp [hj] at ht; rw [<- H.N]; exact (Jdg (hall j oj hj)).1 t ht
     split at hv
     . rename_i b hb; have hy := JiD h ht htN hb
       simp only at hy
       by_cases hbw : b = want
       . subst hbw
         rw [if_pos (by simp [Region.wanted, hg, hy])]
         have hv1 := hv.1 rfl; rw [Jci E t _ hb] at hv1
         exact JeN H h hf kd bi hcl hv1 hK hKb
       . rw [if_neg (by simp [Region.wanted, hg, hy, hbw])]
         have hv2 := hv.2 (by cases b <;> cases want <;> simp_all)
         have hb' : E t = .v (.bool !want) := by rw [hb]; cases b <;> cases want <;> simp_all
         rw [Jci E t _ hb'] at hv2
         exact hK _ _ _ _ hv2 ⟨ρ, Im, M, h.put H.G hdst' (.im _ _ (.v _))⟩
     . rename_i vs hb; have hy := JiD h ht htN hb
       simp only at hy
       rw [if_neg (by simp [Region.wanted, hg, hy])]
       exact hK _ _ _ _ hv ⟨ρ, Im, M, h.put H.G hdst' (.im _ _ (.v _))⟩
     . exact hv.elim
theorem JcG (H : Holds S C) {ops : Array Oper} (hall : ∀ (i : Nat) (o : Oper), ops[i]? = some o -> Oper.fits S.P S.N o = true) {n : Nat} {K : Env -> Jac -> Prop} {Q : Exit -> Act -> World -> Prop}
 (hK : ∀ E σ a w, K E σ -> St C E σ a w -> Q .normal a w) : ∀ (l : List Oper) (i : Nat) (E : Env) (σ : Jac) (a : Act) (w : World), (∀ j, l[j]? = ops[i + j]?) -> Jel S false ops i l K E σ -> St C E σ a w ->
 wpOpsIn (FW C.rdl) n S.P ops Q (List.range' i l.length) a w
 | [], i, E, σ, a, w, _, hv, hs => hK E σ a w hv hs
 | o :: l, i, E, σ, a, w, hl, hv, hs => by
  have ho : ops[i]? = some o := by simpa using (hl 0).symm
  obtain ⟨ρ, Im, M, h⟩ := hs; rw [L0e, L1R, wpOpsIn_cons]
  have go : ∀ E' σ' a' w', Jel S false ops (i + 1) l K E' σ' -> St C E' σ' a' w' -> wpOpsIn (FW C.rdl) n S.P ops Q (List.range' (i + 1) l.length) a' w' := λ E' σ' a' w' hk hs' =>
   JcG H hall hK l (i + 1) E' σ' a' w' (λ j => by have := hl (j + 1); simpa [L0K, Nat.add_comm 1 j] using this) hk hs'
  exact Jde ho (Je2 H h hall (hall i o ho) true _ (λ e => by cases e) hv go λ E' σ' a' w' hk hs' => go E' σ' a' w' (by simpa [struck] using hk) hs')
theorem St.kill (d : JaQ C.G) (h : St C E σ a w) (p : Nat -> Bool) (f : ∀ id b, C.pin id = some b -> p id = false) : St C (JaU p E) (Jao p σ) a w := by
 obtain ⟨i, c, M, h⟩ := h
 exact ⟨_, c, M, h.kill d p f⟩
theorem St.drew (f : JaQ C.G) (h : St C E σ a w) (n : Nat) : St C E σ a { w with drawn := n } := by
 obtain ⟨i, d, M, h⟩ := h
 exact ⟨_, d, M, h.drew f n⟩
def JoS (S : Sp) (C : Fx) : Prop :=
 ∀ (c : Array Oper), c.toList.all (Oper.fits S.P S.N) = true -> JdH S.P c = true -> ∀ (n : Nat) (K : Env -> Jac -> Prop) (Q : Exit -> Act -> World -> Prop) (E : Env) (d : Jac) (a : Act) (w : World),
  (∀ E d a w, K E d -> St C E d a w -> Q .normal a w) -> struck S true c.toList (Jel S true c 0 c.toList K) E d -> St C E d a w ->
  ∀ id, (Code.region id c true).wpIn (FW C.rdl) n S.P Q a w
theorem Jb2 {P : Program} {b : Frame} {a : Act} {k : List Item} {cs : List Frame} {w : World} {c : Code} : step P (lone (b.atR a (.code (.scope c) :: k)) cs w) = .next (lone (b.atR a (.code c :: .inScope c :: k)) cs w) :=
 step_lone_go (by simp [stepG, stepG.exec, Frame.atR])
theorem Jjv {P : Program} {b : Frame} {a : Act} {k : List Item} {cs : List Frame} {w : World} {c : Code} : step P (lone (b.atR a (.inScope c :: k)) cs w) = .next (lone (b.atR a k) cs w) :=
 step_lone_go (by simp [stepG, stepG.exec, Frame.atR])
theorem JeK {F : Fence} {n : Nat} {P : Program} {Q : Exit -> Act -> World -> Prop} {a : Act} {w : World} {c : Code} (h : c.wpIn F n P (Exit.noGoto Q) a w) : (Code.scope c).wpIn F n P Q a w := by
 intro b k u t o q
 have j : (lone (b.atR a (.code (.scope c) :: k)) u w).fenced P F := fenced_calm o q rfl
 obtain ⟨e, f, i, m, d⟩ := h b (.inScope c :: k) u t o q
 cases e with
 | normal => exact ⟨.normal, f, i, m, .head j Jb2 (StepsIn.trans d (.one (fenced_calm o q rfl) Jjv))⟩
 | exit id =>
  have y : exitTo id (.inScope c :: k) = exitTo id k := by simp [exitTo]
  exact ⟨.exit id, f, i, m, λ z p => .head j Jb2 (d.1 z (by rw [y]; exact p)),
   λ s p => let ⟨k₁, h1, h2⟩ := d.2 s (by rw [y]; exact p); ⟨k₁, h1, .head j Jb2 h2⟩⟩
 | goto l => exact m.elim
 | ret => exact ⟨_, f, i, m, .of_steps (.one j Jb2) d⟩
 | panic A => exact ⟨_, f, i, m, .of_steps (.one j Jb2) d⟩
 | outgrown => exact ⟨_, f, i, m, .of_steps (.one j Jb2) d⟩
theorem JgS (H : Holds S C) (HD : JoS S C) {n : Nat} : ∀ (c : Code) (Q : Exit -> Env -> Jac -> Prop) (E : Env) (σ : Jac), JaX S.P S.N S.bad c = true -> awp S c Q E σ ->
 ∀ (R : Exit -> Act -> World -> Prop), (∀ e E σ a w, Q e E σ -> St C E σ a w -> R e a w) -> ∀ a w, St C E σ a w -> c.wpIn (FW C.rdl) n S.P R a w := by
 intro c
 induction c with
 | skip => intro Q E σ _ s R j a w t; exact wpIn_skip (j _ _ _ _ _ s t)
 | label l => intro Q E σ _ s R j a w t; exact wpIn_label (j _ _ _ _ _ s t)
 | seq x y V W =>
  intro Q E σ p s R j a w t
  simp only [JaX, L00] at p
  refine wpIn_seq (V _ E σ p.1 s _ (λ e D u F J q d => ?_) a w t)
  cases e with
  | normal => exact W Q D u p.2 q R j F J d
  | exit id => exact j _ _ _ _ _ q d
  | goto l => exact j _ _ _ _ _ q d
  | ret => exact j _ _ _ _ _ q d
  | panic ch => exact j _ _ _ _ _ q d
  | outgrown => exact j _ _ _ _ _ q d
 | region id O ab =>
  intro Q E σ p s R j a w t
  simp only [JaX, L00, L0O, L0W] at p; simp only [awp] at s
  by_cases hbad : S.bad id = true
  . rw [if_pos hbad] at s
    exact s C H n R j a w t
  rw [if_neg hbad] at s
  have T : O.toList.all (Oper.fits S.P S.N) = true := p.1.resolve_left hbad
  have ad : ∀ (i : Nat) (o : Oper), O[i]? = some o -> Oper.fits S.P S.N o = true := λ i o ho => L0f.1 T o (L0x.2 (L1I ho))
  cases ab with
  | false =>
   simp only [struck, L0C, if_false] at s
   refine wpIn_region ?_
   have := JcG H ad (n := n) (Q := R) (λ E σ a w hk t => j .normal E σ a w hk t) O.toList 0 E σ a w (by simp) s t
   rw [L0z, <- L1H] at this; exact this
  | true =>
   exact HD O T (by have h := p.2; simp [hbad] at h; exact h) n (Q .normal) R E σ a w (λ E σ a w hk t => j .normal E σ a w hk t) s t id
 | cond c x y V W =>
  intro Q E σ p s R j a w t
  simp only [JaX, L00] at p; simp only [awp] at s
  split at s
  . rename_i b hb
    have hc : a.eval c = .bool b := by
     obtain ⟨ρ, Im, M, h⟩ := t
     have X := Jb8 h.env (x := c) (by rw [h.size, <- H.N]; exact p.1.1)
     rw [hb] at X; exact X.v_inv
    exact wpIn_cond_split hc (λ e => V Q E σ p.1.2 (s.1 e) R j a w t) (λ e => W Q E σ p.2 (s.2 e) R j a w t)
  . exact s.elim
 | block id c ih =>
  intro Q E σ p s R j a w t
  refine wpIn_block (ih _ E σ p s _ (λ e D u F J q d => ?_) a w t)
  cases e with
  | exit al =>
   simp only [JdE] at q; simp only [Exit.inBlock]
   split
   . rename_i he; rw [if_pos he] at q; exact j _ _ _ _ _ q d
   . rename_i he; rw [if_neg he] at q; exact j _ _ _ _ _ q d
  | normal => exact j _ _ _ _ _ q d
  | goto l => exact j _ _ _ _ _ q d
  | ret => exact j _ _ _ _ _ q d
  | panic ch => exact j _ _ _ _ _ q d
  | outgrown => exact j _ _ _ _ _ q d
 | loop c ih =>
  intro Q E σ p s R j a w t
  obtain ⟨I, Z, h0, L⟩ := s
  -- the loop's relation on real states: some abstract state that it stands for; the measure bounds the rounds to come
  intro b k cs ah hb X
  have aj : ∀ m E σ a w, Z E σ = m -> I E σ -> St C E σ a w ->
   ∃ e F J, R e F J /\ ArrivesIn (Machine.fenced S.P (FW C.rdl)) S.P (lone (b.atR a (.code c :: .inLoop c :: k)) cs w) b k cs e F J := by
   intro m
   induction m using Nat.strongRecOn with
   | _ m ai =>
    intro E σ a w hm hI t
    have hw := ih (Jdd (λ D u => I D u /\ Z D u < Z E σ) Q) E σ p (L E σ hI)
     (λ e F J => match e with | .normal => ∃ D u, (I D u /\ Z D u < Z E σ) /\ St C D u F J | e => R e F J)
     (λ e D u F J q d => by
      cases e with
      | normal => exact ⟨D, u, q, d⟩
      | exit id => exact j _ _ _ _ _ q d
      | goto l => exact j _ _ _ _ _ q d
      | ret => exact j _ _ _ _ _ q d
      | panic ch => exact j _ _ _ _ _ q d
      | outgrown => exact j _ _ _ _ _ q d) a w t
    obtain ⟨e, A, B, q, z⟩ := hw b (.inLoop c :: k) cs ah hb X
    cases e with
    | normal =>
     obtain ⟨D, u, ⟨af, ag⟩, d⟩ := q
     obtain ⟨ac, aa, ae, U, K⟩ := ai (Z D u) (hm ▸ ag) D u A B rfl af d
     exact ⟨ac, aa, ae, U, .of_steps (StepsIn.trans z (.one (fenced_calm hb X rfl) stepR_inLoop)) K⟩
    | exit id => exact ⟨_, A, B, q, .pass (x := .inLoop c) rfl (λ _ _ => .inl (by simp)) z⟩
    | goto l => exact ⟨_, A, B, q, .pass (x := .inLoop c) rfl (λ _ _ => .inl (by simp)) z⟩
    | ret => exact ⟨_, A, B, q, .pass (x := .inLoop c) rfl (λ _ _ => .inl (by simp)) z⟩
    | panic ch => exact ⟨_, A, B, q, .pass (x := .inLoop c) rfl (λ _ _ => .inl (by simp)) z⟩
    | outgrown => exact ⟨_, A, B, q, .pass (x := .inLoop c) rfl (λ _ _ => .inl (by simp)) z⟩
  obtain ⟨e, F, J, q, z⟩ := aj _ E σ a w rfl h0 t
  exact ⟨e, F, J, q, .of_steps (.one (fenced_calm hb X rfl) stepR_loop) z⟩
 | rangeFunc f ps as ak am an => intro Q E σ _ s R j a w t; exact s C H n R j a w t
 | exit id => intro Q E σ _ s R j a w t; exact wpIn_exit (j _ _ _ _ _ s t)
 | scope c ih =>
  intro Q E σ p s R j a w t
  refine JeK (ih (Jfg Q) E σ p s _ (λ e D u F J q d => ?_) a w t)
  cases e with
  | goto l => exact q
  | normal => exact j _ _ _ _ _ q d
  | exit id => exact j _ _ _ _ _ q d
  | ret => exact j _ _ _ _ _ q d
  | panic ch => exact j _ _ _ _ _ q d
  | outgrown => exact j _ _ _ _ _ q d
 | goto l => intro Q E σ p; simp [JaX] at p
 | ret => intro Q E σ _ s R j a w t; exact wpIn_ret (j _ _ _ _ _ s t)
 | refuse ao => intro Q E σ p s; exact s.elim
end
section
variable {P : Program} {S : Sp} {C : Fx} {E E' : Env} {σ σ' : Jac} {a : Act} {w : World} {ρ : Nat -> Option Nat} {Im : Nat -> Prop} {M : Str}
theorem JiI {x : AV} {K : List AV -> Nat -> Prop} (c : ∀ id, Names x id -> σ' id = σ id) (h : JbY σ x K) : JbY σ' x K := by
 unfold JbY at *
 split at h
 . exact h
 . rename_i id f i j; obtain ⟨k, d, r⟩ := h
   exact ⟨k, by rw [c id (.ptr ..)]; exact d, r⟩
 . exact h
theorem JgU {x : Option Operand} {d : Nat} {K : Nat -> Prop} (h : ∀ y, x = some y -> ev E y = ev E' y) (c : bound E x d K) : bound E' x d K := by
 unfold bound at *
 split at c
 . exact c
 . rename_i y; rw [<- h y rfl]; exact c
theorem JnE {x : Option Operand} {d : Nat} {K K' : Nat -> Prop} (f : ∀ n, K n -> K' n) (c : bound E x d K) : bound E x d K' := by
 cases x with
 | none => exact f _ c
 | some y =>
  unfold bound at *
  simp only at *
  split at c
  . rename_i h; first | (rw [h]; exact ⟨c.1, f _ c.2⟩) | exact ⟨c.1, f _ c.2⟩
  . exact c.elim
theorem Jdp {op : Op} {r : AV} (h : ∀ x ∈ op.operands, ev E x = ev E' x) (T : ∀ x ∈ op.operands, ∀ id, Names (ev E x) id -> σ' id = σ id) (j : JaH P op E σ r) : JaH P op E' σ' r := by
 have A : ∀ k : Array (Nat × Operand), (∀ p ∈ k.toList, ev E p.2 = ev E' p.2) -> (k.toList.map λ p => (p.1, ev E p.2)) = k.toList.map λ p => (p.1, ev E' p.2) := λ k I =>
  L0S λ p H => by rw [I p H]
 unfold JaH at j
 split at j
 . rename_i x; simp only [JaH]; rw [<- h x (by simp [Op.operands])]; exact j
 . rename_i x; simp only [JaH]; rw [<- h x (by simp [Op.operands])]; exact j
 . rename_i c x y; simp only [JaH]; rw [<- h x (by simp [Op.operands]), <- h y (by simp [Op.operands]), <- h c (by simp [Op.operands])]; exact j
 . rename_i t x; simp only [JaH]; rw [<- h x (by simp [Op.operands])]; exact JiI (T x (by simp [Op.operands])) j
 . rename_i x; simp only [JaH]; rw [<- h x (by simp [Op.operands])]; exact j
 . rename_i o t x y _; simp only [JaH]; rw [<- h x (by simp [Op.operands]), <- h y (by simp [Op.operands])]; exact j
 . rename_i t k; simp only [JaH]; rw [<- A k λ p I => h p.2 (by simp [Op.operands]; exact ⟨p.1, by simpa using I⟩)]; exact j
 . rename_i o _ x; simp only [JaH]; rw [<- h x (by simp [Op.operands])]; exact j
 . rename_i s t x; simp only [JaH]; rw [<- h x (by simp [Op.operands])]; exact j
 . rename_i f first M; simp only [JaH]
   have w : M.toList.map (ev E) = M.toList.map (ev E') := L0S λ x m => h x (by simp [Op.operands]; exact .inr (by simpa using m))
   have z : first.toList.map (ev E) = first.toList.map (ev E') := L0S λ x m => h x (by simp [Op.operands]; exact .inl (by simpa using m))
   first | (rw [<- w, <- z]; exact j) | (rw [w, z]; exact j) | (rw [w, z] at j; exact j)
 . rename_i s x f; simp only [JaH]; rw [<- h x (by simp [Op.operands])]; exact j
 . rename_i s x f; simp only [JaH]; rw [<- h x (by simp [Op.operands])]; exact j
 . rename_i t x i; simp only [JaH]; rw [<- h x (by simp [Op.operands]), <- h i (by simp [Op.operands])]; exact j
 . rename_i t x i; simp only [JaH]; rw [<- h x (by simp [Op.operands]), <- h i (by simp [Op.operands])]; exact j
 . rename_i x i; simp only [JaH]; rw [<- h x (by simp [Op.operands])]; exact j
 . rename_i t x R Q
   have q : ∀ {d K}, bound E Q d K -> bound E' Q d K := λ q => JgU (λ y J => h y (by subst J; simp [Op.operands])) q
   have B : ∀ {d K}, bound E R d K -> bound E' R d K := λ q => JgU (λ y J => h y (by subst J; simp [Op.operands])) q
   have mono : ∀ {x : Option Operand} {d : Nat} {K L : Nat -> Prop}, (∀ n, K n -> L n) -> bound E x d K -> bound E x d L := λ S q => JnE S q
   simp only [JaH]; rw [<- h x (by simp [Op.operands])]
   rcases j with ⟨e, C, n, D, F⟩ | ⟨C, n, D, F⟩
   . exact .inl ⟨e, C, n, D, q (mono (λ _ => B) F)⟩
   . exact .inr ⟨C, n, D, q (mono (λ _ => B) F)⟩
 . rename_i l u; simp only [JaH]
   split at j
   . rename_i x t O U
     have H : x ∈ l := L0x.1 (by rw [O]; simp)
     have m := h x (by simp [Op.operands, Call.operands, H])
     simp only [O, U, <- m]; exact j
   . exact j.elim
 . rename_i l u; simp only [JaH]
   rw [<- L0S (f := ev E) (g := ev E') λ x m => h x (by simp [Op.operands, Call.operands]; simpa using m)]; exact j
 . rename_i l u; simp only [JaH]
   rw [<- L0S (f := ev E) (g := ev E') λ x m => h x (by simp [Op.operands, Call.operands]; simpa using m)]; exact j
 . rename_i l u; simp only [JaH]
   rw [<- L0S (f := ev E) (g := ev E') λ x m => h x (by simp [Op.operands, Call.operands]; simpa using m)]; exact j
 . exact j.elim
inductive DN : AV -> Nat -> Prop
 | own (id sz i n : Nat) : DN (.own id sz i n) id
 | ptr (id sz i j : Nat) : DN (.ptr id sz i j) id
 | mref (id : Nat) : DN (.mref id) id
 | agg (cs : List AV) (c : AV) (id : Nat) (hc : c ∈ cs) (h : DN c id) : DN (.agg cs) id
 | tup (cs : List AV) (c : AV) (id : Nat) (hc : c ∈ cs) (h : DN c id) : DN (.tup cs) id
 | clo (g : Nat) (cs : List AV) (c : AV) (id : Nat) (hc : c ∈ cs) (h : DN c id) : DN (.clo g cs) id
 | sl (g : Nat) (cs : List AV) (c : AV) (id : Nat) (hc : c ∈ cs) (h : DN c id) : DN (.sl g cs) id
 | cut (g : Nat) (cs : List AV) (c : AV) (id : Nat) (hc : c ∈ cs) (h : DN c id) : DN (.cut g cs) id
 | mp (cs : List AV) (c : AV) (id : Nat) (hc : c ∈ cs) (h : DN c id) : DN (.mp cs) id
 | pt (e : AV) (j id : Nat) (h : DN e id) : DN (.pt e j) id
 | new (g s : Nat) (cs : List AV) (c : AV) (id : Nat) (hc : c ∈ cs) (h : DN c id) : DN (.new g s cs) id
 | nptr (g s : Nat) (cs : List AV) (c : AV) (id : Nat) (hc : c ∈ cs) (h : DN c id) : DN (.nptr g s cs) id
theorem DN.of {a : AV} {d : Nat} (h : Names a d) : DN a d := by
 induction h with
 | own => exact .own ..
 | ptr => exact .ptr ..
 | mref => exact .mref ..
 | agg f c id i _ j => exact .agg f c id i j
 | tup f c id i _ j => exact .tup f c id i j
 | clo g f c id i _ j => exact .clo g f c id i j
theorem Jfw (cs : List AV) : AV.dnL cs = true ↔ ∃ c ∈ cs, c.dn = true := by
 induction cs with
 | nil => simp [AV.dnL]
 | cons c cs d => simp [AV.dnL, d]
theorem DN.dn {a : AV} {d : Nat} (h : DN a d) : a.dn = true := by
 induction h with
 | own => rfl
 | ptr => rfl
 | mref => rfl
 | pt e j id _ c => exact c
 | _ => simp only [AV.dn]; exact (Jfw _).2 ⟨_, by assumption, by assumption⟩
theorem DN.cells {v c : AV} {id : Nat} (d : c ∈ v.cells) (h : DN c id) : DN v id := by
 cases v with
 | agg f => exact .agg f c id d h
 | _ => simp only [AV.cells, L0u] at d; subst d; exact h
theorem DN.cell {v : AV} {id : Nat} (h : DN v id) : ∃ c ∈ v.cells, DN c id := by
 cases v with
 | agg f => cases h with | agg _ c _ d h => exact ⟨c, d, h⟩
 | _ => exact ⟨_, by simp [AV.cells], h⟩
theorem IRep.dnless {x : AV} {y : Value} (h : IRep w Im x y) (id : Nat) : ¬ DN x id := by
 induction h with
 | agg D ys s _ _ l => intro d; cases d with | agg _ c _ m d =>
  obtain ⟨j, p⟩ := L0s.1 m
  have k := (L0a.1 p).1
  exact l j c _ p (L08 (s ▸ k)) d
 | tup D ys s _ l => intro d; cases d with | tup _ c _ m d =>
  obtain ⟨j, p⟩ := L0s.1 m
  have k := (L0a.1 p).1
  exact l j c _ p (L08 (s ▸ k)) d
 | clo g D ys s _ l => intro d; cases d with | clo _ _ c _ m d =>
  obtain ⟨j, p⟩ := L0s.1 m
  have k := (L0a.1 p).1
  exact l j c _ p (L08 (s ▸ k)) d
 | sl I E b o A f u H K B _ l => intro d; cases d with | sl _ _ e _ q d =>
  obtain ⟨c, m, d⟩ := d.cell
  obtain ⟨i, z⟩ := L0s.1 q
  obtain ⟨j, p⟩ := L0s.1 m
  exact l i e j c z p d
 | slnil I a A => intro d; cases d with | sl _ _ e _ q d => simp at q
 | cut I E a _ l => intro d; cases d with | cut _ _ e _ q d => exact l (.sl _ _ e _ q d)
 | mpnil => intro d; cases d with | mp _ e _ q d => simp at q
 | mp E b t J f u L s C _ l => intro d; cases d with | mp _ e _ q d =>
  obtain ⟨i, z⟩ := L0s.1 q
  have k : i < t.size := by rw [<- s.1]; exact (L0a.1 z).1
  have F := C i _ (L0i k)
  rw [z] at F; cases F
  cases d with | tup _ c _ m d =>
   simp at m
   rcases m with rfl | rfl
   . cases d
   . exact l i _ (L0i k) d
 | pt e j b o f u B _ l => intro d; cases d with | pt _ _ _ d =>
  obtain ⟨c, m, d⟩ := d.cell
  obtain ⟨j, p⟩ := L0s.1 m
  exact l j c p d
 | _ => intro d; cases d
theorem Rep.dn {x : AV} {y : Value} {d : Nat} (h : Rep w ρ Im x y) (f : DN x d) : Names x d := by
 induction h with
 | im a y h => exact absurd f (h.dnless d)
 | agg m ys o _ _ p => cases f with | agg _ c _ k f =>
  obtain ⟨j, l⟩ := L0s.1 k
  have i := (L0a.1 l).1
  exact .agg m c d k (p j c _ l (L08 (o ▸ i)) f)
 | tup m ys o _ p => cases f with | tup _ c _ k f =>
  obtain ⟨j, l⟩ := L0s.1 k
  have i := (L0a.1 l).1
  exact .tup m c d k (p j c _ l (L08 (o ▸ i)) f)
 | clo g m ys o _ p => cases f with | clo _ _ c _ k f =>
  obtain ⟨j, l⟩ := L0s.1 k
  have i := (L0a.1 l).1
  exact .clo g m c d k (p j c _ l (L08 (o ▸ i)) f)
 | ownNil => cases f; exact .own ..
 | own => cases f; exact .own ..
 | ownAt => cases f; exact .own ..
 | ptr => cases f; exact .ptr ..
 | mref => cases f; exact .mref ..
theorem JcL {t : TypeId} {cs : List AV} {i d : Nat} {r : AV} (h : Jcx P t cs i r) (f : DN r d) : ∃ c ∈ cs, DN c d := by
 unfold Jcx at h
 split at h
 . obtain ⟨_, _, rfl⟩ := h
   cases f with | agg _ c _ j f => exact ⟨c, L16 (L0J j), f⟩
 . exact ⟨r, L02 h, f⟩
 . exact h.elim
theorem Jma {e : TypeId} {x r : AV} {n : Int} {d : Nat} (h : Jrl P e x n r) (f : DN r d) : DN x d := by
 unfold Jrl at h
 split at h
 . obtain ⟨_, _, _, c, i, rfl⟩ := h; cases f with | pt _ _ _ f => exact .sl _ _ c d (L02 i) f
 . obtain ⟨_, _, _, _, rfl⟩ := h; cases f; exact .own ..
 . exact h.elim
theorem Jl9 {e : TypeId} {x r : AV} {l m : Nat} {d : Nat} (h : JoC P e x l m r) (f : DN r d) : DN x d := by
 unfold JoC at h
 split at h
 . obtain ⟨_, _, _, _, rfl⟩ := h; cases f with | sl _ _ c _ i f => exact .sl _ _ c d (L16 (L0J i)) f
 . obtain ⟨_, _, _, _, rfl⟩ := h; cases f; exact .own ..
 . exact h.elim
theorem JdY {x : Option Operand} {d : Nat} {K : Nat -> Prop} (h : bound E x d K) : ∃ n, K n := by
 unfold bound at h
 split at h
 . exact ⟨_, h⟩
 . split at h
   . exact ⟨_, h.2⟩
   . exact h.elim
theorem Jm6 {x : Value} {id : Nat} (h : DN (ofC x) id) : False := by
 unfold ofC at h
 split at h
 . split at h
   . cases h with | agg _ c _ d h => obtain ⟨y, _, rfl⟩ := L05.1 d; cases h
   . cases h
 . cases h with | tup _ c _ d h => obtain ⟨y, _, rfl⟩ := L05.1 d; cases h
 . cases h
theorem Jg6 {m : Nat -> Option (Nat × Nat)} {d : Nat} : ∀ (l : List (Nat × AV)) (cs j : List AV), Jdy m cs l = some j -> ∀ c ∈ j, DN c d -> (∃ c ∈ cs, DN c d) \/ ∃ p ∈ l, DN p.2 d
 | [], cs, j, h, c, o, q => by simp [Jdy] at h; subst h; exact .inl ⟨c, o, q⟩
 | (i, v) :: l, cs, j, h, c, o, q => by
  simp only [Jdy] at h
  split at h
  . cases h
  . split at h
    . rcases Jg6 l _ j h c o q with ⟨s, f, k⟩ | ⟨p, t, k⟩
      . simp only [L0t] at f
        rcases f with (f | f) | f
        . exact .inl ⟨s, L0J f, k⟩
        . exact .inr ⟨(i, v), by simp, DN.cells f k⟩
        . exact .inl ⟨s, L16 f, k⟩
      . exact .inr ⟨p, by simp [t], k⟩
    . cases h
theorem JlZ {op : Op} {r : AV} {d : Nat} (hev : ∀ x ∈ op.operands, ¬ DN (ev E x) d) (hst : ∀ id k, σ id = some k -> ∀ e ∈ k.es, ¬ DN e d) (hv : JaH P op E σ r) : ¬ DN r d := λ hn => by
 have bi : ∀ {op k m k' n r}, binI op k m k' n r -> ¬ DN r d := λ {op k m k' n r} h hn => by
  unfold binI at h; split at h <;> (first | (obtain ⟨_, rfl⟩ := h) | (obtain ⟨_, _, rfl⟩ := h)) <;> cases hn
 have bs : ∀ {op m n r}, binS op m n r -> ¬ DN r d := λ {op m n r} h hn => by
  unfold binS at h; split at h <;> first | exact h.elim | (subst h; cases hn) | (obtain ⟨_, rfl⟩ := h; cases hn)
 unfold JaH at hv
 split at hv
 . subst hv; exact hev _ (by simp [Op.operands]) hn
 . subst hv; exact hev _ (by simp [Op.operands]) hn
 . split at hv
   . subst hv; split at hn <;> exact hev _ (by simp [Op.operands]) hn
   . exact hv.elim
 . rename_i t x; unfold JbY at hv
   split at hv
   . rename_i e j hx
     obtain ⟨c, hc, hcn⟩ := JcL hv hn
     exact hev x (by simp [Op.operands]) (by rw [hx]; exact .pt e j d (hcn.cells hc))
   . obtain ⟨k, hk, _, e, he, hp⟩ := hv
     obtain ⟨c, hc, hcn⟩ := JcL hp hn
     exact hst _ k hk e (L02 he) (DN.cells hc hcn)
   . exact hv.elim
 . rename_i x
   split at hv
   . rename_i hx; subst hv; exact hev x (by simp [Op.operands]) (hx ▸ hn)
   . rename_i hx; subst hv; exact hev x (by simp [Op.operands]) (hx ▸ hn)
   . rename_i hx; subst hv; exact hev x (by simp [Op.operands]) (hx ▸ hn)
   . exact hv.elim
 . split at hv
   . exact bi hv hn
   . exact bs hv hn
   . obtain ⟨_, ⟨_, rfl⟩ | ⟨_, rfl⟩⟩ := hv <;> cases hn
   . obtain ⟨_, _, _, _, ⟨_, rfl⟩ | ⟨_, rfl⟩⟩ := hv <;> cases hn
   . obtain ⟨_, _, ⟨_, rfl⟩ | ⟨_, rfl⟩⟩ := hv <;> cases hn
   . exact hv.elim
 . rename_i t parts
   obtain ⟨z, hz, _, ⟨fs, _, _, cs, hf, rfl⟩ | ⟨m, e, _, _, cs, hf, rfl⟩⟩ := hv
   all_goals
    cases hn with | agg _ c _ hc hn =>
     rcases Jg6 _ _ _ hf c hc hn with ⟨c', hc', hn'⟩ | ⟨p, hp, hn'⟩
     . exact Jm6 (DN.cells hc' hn')
     . obtain ⟨q, hq, rfl⟩ := L05.1 hp; exact hev _ (by simp [Op.operands]; exact ⟨q.1, by simpa using hq⟩) hn'
 . split at hv
   . subst hv; cases hn
   . subst hv; cases hn
   . subst hv; cases hn
   . exact hv.elim
 . split at hv
   . obtain ⟨_, rfl⟩ := hv; cases hn
   . exact hv.elim
 . rcases hv with ⟨_, _, rfl⟩ | ⟨_, rfl⟩
   . cases hn with | clo _ _ c _ hc hn => obtain ⟨x, hx, rfl⟩ := L05.1 hc; exact hev _ (by simp [Op.operands]; exact .inr (by simpa using hx)) hn
   . cases hn with | clo _ _ c _ hc hn =>
      rcases L0q.1 hc with rfl | hc
      . cases hn
      . obtain ⟨x, hx, rfl⟩ := L05.1 hc; exact hev _ (by simp [Op.operands]; exact .inl (by simpa using hx)) hn
 . rename_i s x f; obtain ⟨_, _, off, t, _, _, hv⟩ := hv
   split at hv
   . rename_i hx; subst hv; cases hn with | pt _ _ _ hn => exact hev x (by simp [Op.operands]) (hx ▸ .pt _ _ _ hn)
   . rename_i hx; subst hv; cases hn; exact hev x (by simp [Op.operands]) (hx ▸ .ptr ..)
   . exact hv.elim
 . rename_i s x f; obtain ⟨_, _, off, t, _, hv⟩ := hv
   split at hv
   . rename_i hx
     obtain ⟨c, hc, hcn⟩ := JcL hv hn
     exact hev x (by simp [Op.operands]) (hx ▸ .agg _ c _ hc hcn)
   . exact hv.elim
 . rename_i t x i
   split at hv
   . rcases hv with ⟨e, _, hv⟩ | ⟨m, e, _, _, _, _, hv⟩
     . exact hev x (by simp [Op.operands]) (Jma hv hn)
     . split at hv
       . rename_i hx; subst hv; cases hn with | pt _ _ _ hn => exact hev x (by simp [Op.operands]) (hx ▸ .pt _ _ _ hn)
       . rename_i hx; subst hv; cases hn; exact hev x (by simp [Op.operands]) (hx ▸ .ptr ..)
       . exact hv.elim
   . exact hv.elim
 . rename_i t x i
   split at hv
   . obtain ⟨_, _, c, _, rfl⟩ := hv; cases hn
   . rename_i hx; obtain ⟨m, e, _, _, _, _, hv⟩ := hv
     obtain ⟨c, hc, hcn⟩ := JcL hv hn
     exact hev x (by simp [Op.operands]) (hx ▸ .agg _ c _ hc hcn)
   . exact hv.elim
 . rename_i x i
   split at hv
   . rename_i vs hx; exact hev x (by simp [Op.operands]) (hx ▸ .tup _ r _ (L02 hv) hn)
   . exact hv.elim
 . rename_i t x lo hi
   rcases hv with ⟨e, h1, n, h2, h3⟩ | ⟨h1, n, h2, h3⟩
   . obtain ⟨_, h3⟩ := JdY h3
     obtain ⟨_, h3⟩ := JdY h3
     exact hev x (by simp [Op.operands]) (Jl9 h3 hn)
   . obtain ⟨_, h3⟩ := JdY h3
     obtain ⟨_, h3⟩ := JdY h3
     unfold Jnk at h3
     split at h3
     . obtain ⟨_, _, rfl⟩ := h3; cases hn
     . exact h3.elim
 . split at hv
   . rcases hv with ⟨_, hv⟩ | ⟨_, hv⟩ | ⟨_, _, _, rfl⟩
     . split at hv <;> first | exact hv.elim | (subst hv; cases hn)
     . split at hv <;> first | exact hv.elim | (subst hv; cases hn)
     . cases hn
   . exact hv.elim
 . split at hv <;> first | exact hv.elim | (subst hv; cases hn)
 . split at hv <;> first | exact hv.elim | (subst hv; cases hn)
 . rename_i args ats
   split at hv
   . rename_i id sz n hx; obtain ⟨_, rfl⟩ := hv
     cases hn
     obtain ⟨l⟩ := args
     rcases l with _ | ⟨x, _ | ⟨y, l⟩⟩
     . simp at hx
     . simp only [L0l, L0G, List.cons.injEq, and_true] at hx
       exact hev x (by simp [Op.operands, Call.operands]) (hx ▸ .own ..)
     . simp at hx
   . exact hv.elim
 . exact hv.elim
end
section
variable {P : Program} {S : Sp} {C : Fx} {E E' : Env} {σ σ' : Jac} {a : Act} {w : World} {ρ : Nat -> Option Nat} {Im : Nat -> Prop} {M : Str}
theorem Jd5 {m : Nat} {op : Op} {ty : TypeId} {r : AV} {j : List (Nat × Blk)} (h : ∀ x ∈ op.operands, ev E x = ev E' x) (f : newV P m op ty E r j) : newV P m op ty E' r j := by
 unfold newV at f
 split at f
 . exact f
 . exact f
 . exact f
 . rename_i t x; simp only [newV]; rw [<- h x (by simp [Op.operands])]; exact f
 . rename_i t C d
   have k : ∀ p ∈ d.toList, ev E p.2 = ev E' p.2 := λ p i => h p.2 (by simp [Op.operands]; exact ⟨p.1, by simpa using i⟩)
   have o : (d.toList.map λ p => ev E p.2) = d.toList.map λ p => ev E' p.2 := L0S k
   obtain ⟨e, q, s, u, w, y, z, A, B⟩ := f
   exact ⟨e, q, s, u, w, y, λ p i => by rw [<- k p i]; exact z p i, A, by rw [B, o]⟩
 . rename_i t l c; simp only [newV]; rw [<- h l (by simp [Op.operands]), <- h c (by simp [Op.operands])]; exact f
 . exact f.elim
theorem Joj {m d : Nat} {op : Op} {ty : TypeId} {r : AV} {u : List (Nat × Blk)} (l : ∀ x ∈ op.operands, ¬ DN (ev E x) d) (w : d / 16 ≠ m) (j : newV P m op ty E r u) :
 ¬ DN r d /\ ∀ p ∈ u, p.1 / 16 = m /\ ∀ e ∈ p.2.es, ¬ DN e d := by
 have own : ∀ id o i n, id / 16 = m -> ¬ DN (.own id o i n) d := λ id o i n h k => by cases k; exact w h
 have ptr : ∀ id o i n, id / 16 = m -> ¬ DN (.ptr id o i n) d := λ id o i n h k => by cases k; exact w h
 unfold newV at j
 split at j
 . obtain ⟨e, _, rfl, rfl⟩ := j
   exact ⟨own _ _ _ _ (by omega), λ p c => by simp at c; subst c; exact ⟨by omega, by simp⟩⟩
 . obtain ⟨e, _, rfl, rfl⟩ := j
   exact ⟨own _ _ _ _ (by omega), λ p c => by simp at c; subst c; exact ⟨by omega, by simp⟩⟩
 . split at j
   . obtain ⟨_, _, rfl, rfl⟩ := j
     refine ⟨ptr _ _ _ _ (by omega), λ p c => ?_⟩
     simp at c
     rcases c with rfl | rfl
     . exact ⟨by simp; omega, by simp⟩
     . exact ⟨by simp, λ e f => by simp at f; subst f; exact own _ _ _ _ (by omega)⟩
   . obtain ⟨z, _, _, _, _, rfl, rfl⟩ := j
     refine ⟨ptr _ _ _ _ (by omega), λ p c => ?_⟩
     simp at c; subst c
     exact ⟨by simp, λ e f k => by simp at f; subst f; exact Jm6 k⟩
 . rename_i t x; obtain ⟨_, _, _, rfl, rfl⟩ := j
   refine ⟨ptr _ _ _ _ (by omega), λ p c => ?_⟩
   simp at c; subst c
   exact ⟨by simp, λ e f k => by simp at f; subst f; exact l x (by simp [Op.operands]) k⟩
 . rename_i t A s; obtain ⟨e, _, _, _, _, _, _, rfl, rfl⟩ := j
   refine ⟨own _ _ _ _ (by omega), λ p c => ?_⟩
   simp only [L0u] at c; subst c
   refine ⟨by simp, λ e f k => ?_⟩
   obtain ⟨q, y, rfl⟩ := L05.1 f
   exact l q.2 (by simp [Op.operands]; exact ⟨q.1, by simpa using y⟩) k
 . split at j
   . obtain ⟨e, _, _, z, _, _, _, _, _, _, _, rfl, rfl⟩ := j
     refine ⟨own _ _ _ _ (by omega), λ p c => ?_⟩
     simp only [L0u] at c; subst c
     exact ⟨by simp, λ e f k => by simp only [List.mem_replicate] at f; rw [f.2] at k; exact Jm6 k⟩
   . exact j.elim
 . exact j.elim
theorem Jc4 {f g : AV -> AV} {es : List AV} (h : ∀ e ∈ es, f e = g e) : resL f es = resL g es := by
 unfold resL; split
 . exact L0S h
 . rfl
theorem Jiq {L : Nat -> Prop} (w : ∀ id, ¬ L id -> σ' id = σ id) (z : ∀ id k, σ id = some k -> ∀ e ∈ k.es, ∀ d, L d -> ¬ DN e d) :
 ∀ (n : Nat) (x : AV), (∀ d, L d -> ¬ DN x d) -> resF n σ' x = resF n σ x := by
 intro n
 induction n with
 | zero => intro x _; rfl
 | succ n u =>
  intro x l
  have f : ∀ id, ¬ L id -> σ' id = σ id /\ ∀ k, σ id = some k -> ∀ e ∈ k.es, resF n σ' e = resF n σ e := λ id y =>
   ⟨w id y, λ k h e c => u e (z id k h e c)⟩
  cases x with
  | own id A i m =>
   obtain ⟨p, q⟩ := f id λ hl => l id hl (.own ..)
   simp only [resF, p]
   cases h : σ id with
   | none => rfl
   | some k => simp only [Jgl]; rw [Jc4 (q k h)]
  | ptr id A i j =>
   obtain ⟨p, q⟩ := f id λ hl => l id hl (.ptr ..)
   simp only [resF, p]
   cases h : σ id with
   | none => rfl
   | some k =>
    simp only [Jgm]
    split
    . cases c : k.es[i]? with
      | none => rfl
      | some e => simp only [resE]; rw [q k h e (L02 c)]
    . rfl
  | mref id =>
   obtain ⟨p, q⟩ := f id λ hl => l id hl (.mref ..)
   simp only [resF, p]
   cases h : σ id with
   | none => rfl
   | some k => simp only [Jgk]; rw [Jc4 (q k h)]
  | agg o => simp only [resF]; rw [Jc4 λ e c => u e λ d s t => l d s (.agg o e d c t)]
  | tup o => simp only [resF]; rw [Jc4 λ e c => u e λ d s t => l d s (.tup o e d c t)]
  | clo g o => simp only [resF]; rw [Jc4 λ e c => u e λ d s t => l d s (.clo g o e d c t)]
  | _ => rfl
theorem Jdf {kd : Bool} {nm : Nat} {op : Op} {v : AV} {bl : List (Nat × Blk)} {L : Nat -> Prop} (h : ∀ x ∈ op.operands, ev E x = ev E' x) (hL : ∀ x ∈ op.operands, ∀ d, L d -> ¬ DN (ev E x) d)
 (hag : ∀ id, ¬ L id -> σ' id = σ id) (hst : ∀ id k, σ id = some k -> ∀ e ∈ k.es, ∀ d, L d -> ¬ DN e d) (hv : JeQ S kd nm op E σ v bl) : JeQ S kd nm op E' σ' v bl := by
 unfold JeQ at hv
 split at hv
 . rename_i f args ats
   split at hv
   . rename_i g caps hf; obtain ⟨h0, r, h1, h2, h3, h4, h5, h6⟩ := hv
     have hfm : f ∈ (Op.call { callee := .value f, args := args, argTypes := ats }).operands := by simp [Op.operands, Call.operands]
     have ham : ∀ x ∈ args.toList, x ∈ (Op.call { callee := .value f, args := args, argTypes := ats }).operands := λ x hx => by simp [Op.operands, Call.operands]; exact .inr (by simpa using hx)
     have e1 : args.toList.map (ev E) = args.toList.map (ev E') := L0S λ x hx => h x (ham x hx)
     have e2 : (args.toList.map (ev E) ++ caps).map (res σ') = (args.toList.map (ev E) ++ caps).map (res σ) := L0S λ x hx => by
      refine Jiq hag hst 8 x λ d hd hn => ?_
      rcases L0t.1 hx with hx | hx
      . obtain ⟨y, hy, rfl⟩ := L05.1 hx; exact hL y (ham y hy) d hd hn
      . exact hL f hfm d hd (by rw [hf]; exact .clo g caps x d hx hn)
     simp only [JeQ]; rw [<- h f hfm, hf]
     exact ⟨h0, r, by rw [<- e1, e2]; exact h1, by rw [<- e1]; exact h2, h3, h4, h5, h6⟩
   . exact hv.elim
 . exact hv.elim
theorem Jqa {id d : Nat} {r : AV} (h : r.dn = false) (k : d ≠ id) : ¬ DN (imp1 id r).1 d /\ ∀ p ∈ (imp1 id r).2, p.1 = id /\ ∀ e ∈ p.2.es, ¬ DN e d := by
 cases r with
 | new e l i =>
  simp only [AV.dn] at h
  refine ⟨λ c => by cases c; exact k rfl, λ p f => ?_⟩
  simp [imp1] at f; subst f
  exact ⟨rfl, λ e j c => by have := (Jfw i).2 ⟨e, j, c.dn⟩; rw [h] at this; cases this⟩
 | nptr e l i =>
  simp only [AV.dn] at h
  refine ⟨λ c => by cases c; exact k rfl, λ p f => ?_⟩
  simp [imp1] at f; subst f
  exact ⟨rfl, λ e j c => by have := (Jfw i).2 ⟨e, j, c.dn⟩; rw [h] at this; cases this⟩
 | _ => exact ⟨λ c => Bool.noConfusion ((DN.dn c).symm.trans h), λ p f => by simp [imp1] at f⟩
theorem JlI {d : Nat} : ∀ (f : List AV) (id : Nat), AV.dnL f = false -> (d < id \/ id + f.length <= d) ->
 (∀ r ∈ (impL id f).1, ¬ DN r d) /\ ∀ p ∈ (impL id f).2, id <= p.1 /\ p.1 < id + f.length /\ ∀ e ∈ p.2.es, ¬ DN e d
 | [], id, _, _ => ⟨λ r h => by simp [impL] at h, λ p c => by simp [impL] at c⟩
 | r :: f, id, h, t => by
  simp only [AV.dnL, L1y] at h; simp only [L0e] at t ⊢
  obtain ⟨k, l⟩ := Jqa (id := id) h.1 (show d ≠ id by omega)
  obtain ⟨m, o⟩ := JlI (d := d) f (id + 1) h.2 (by omega)
  refine ⟨λ x i => ?_, λ p c => ?_⟩
  . simp only [impL, L0q] at i
    rcases i with rfl | i
    . exact k
    . exact m x i
  . simp only [impL, L0t] at c
    rcases c with c | c
    . obtain ⟨q, j⟩ := l p c; exact ⟨by omega, by omega, j⟩
    . obtain ⟨q, j, s⟩ := o p c; exact ⟨by omega, by omega, s⟩
theorem JgX {i d : Nat} {op : Op} {v : AV} {u : List (Nat × Blk)} (z : d / 16 ≠ i) (h : JeQ S false i op E σ v u) : ¬ DN v d /\ ∀ p ∈ u, p.1 / 16 = i /\ ∀ e ∈ p.2.es, ¬ DN e d := by
 unfold JeQ at h
 split at h
 . split at h
   . obtain ⟨_, r, _, _, y, m, rfl, rfl⟩ := h
     have m : r.dn = false := by simpa using m
     cases r with
     | tup t =>
      simp only [rlen] at y
      obtain ⟨j, k⟩ := JlI (d := d) t (16 * i) m (by omega)
      exact ⟨λ f => (by cases f with | tup _ c _ s f => exact j c s f), λ p l => by obtain ⟨w, o, q⟩ := k p l; exact ⟨by omega, q⟩⟩
     | clo g t =>
      simp only [rlen] at y
      obtain ⟨j, k⟩ := JlI (d := d) t (16 * i) m (by omega)
      exact ⟨λ f => (by cases f with | clo _ _ c _ s f => exact j c s f), λ p l => by obtain ⟨w, o, q⟩ := k p l; exact ⟨by omega, q⟩⟩
     | _ => obtain ⟨j, k⟩ := Jqa (d := d) (id := 16 * i) m (by omega); exact ⟨j, λ p l => by obtain ⟨w, o⟩ := k p l; exact ⟨by omega, o⟩⟩
   . exact h.elim
 . exact h.elim
def nmO (S : Sp) (o : Oper) : Nat := S.b + o.dst.getD 99999
def val (S : Sp) (o : Oper) (E : Env) (σ : Jac) (v : AV) (c : List (Nat × Blk)) : Prop :=
 match cls S.P o.op o.type with
 | 0 => JaH S.P o.op E σ v /\ c = []
 | 1 => o.dst.isSome = true /\ newV S.P (nmO S o) o.op o.type E v c
 | 2 => JeQ S false (nmO S o) o.op E σ v c
 | _ => False
def gval (S : Sp) (ops : Array Oper) (o : Oper) (E : Env) (σ : Jac) (v : AV) (bl : List (Nat × Blk)) : Prop :=
 match o.guard with
 | none => val S o E σ v bl
 | some (j, want) => match (ops[j]?).bind (·.dst) with
  | none => False
  | some t => match E t with
   | .v (.bool b) => (b = want /\ val S o E σ v bl) \/ (b = !want /\ v = .v undef /\ bl = [])
   | .v (.tuple _) => v = .v undef /\ bl = []
   | _ => False
theorem Jld {o : Oper} {K k : Env -> Jac -> Prop} (m : cls S.P o.op o.type <= 2) : aop S false false o K k E σ ↔ ∃ v c, val S o E σ v c /\ K (updO E o.dst v) (addS σ c) := by
 unfold aop val nmO
 have : cls S.P o.op o.type = 0 \/ cls S.P o.op o.type = 1 \/ cls S.P o.op o.type = 2 := by omega
 rcases this with h | h | h <;> rw [h]
 . simp only
   constructor
   . rintro ⟨v, f, i⟩; exact ⟨v, [], ⟨f, rfl⟩, i⟩
   . rintro ⟨v, c, ⟨f, rfl⟩, i⟩; exact ⟨v, f, i⟩
 . simp only [kE, kS, L0C, if_false]
   constructor
   . rintro ⟨d, j, v, c, f, i⟩; exact ⟨v, c, ⟨by simp [j], by simpa [j] using f⟩, by simpa [j] using i⟩
   . rintro ⟨v, c, ⟨l, f⟩, i⟩
     obtain ⟨d, j⟩ := L2n.1 l
     exact ⟨d, j, v, c, by simpa [j] using f, by simpa [j] using i⟩
 . simp only [kE, kS, L0C, if_false, false_and, or_false]
theorem JdJ {ops : Array Oper} {o : Oper} {K Kb : Env -> Jac -> Prop} (hc : cls S.P o.op o.type <= 2) : gop S false false ops o K Kb E σ ↔ ∃ v bl, gval S ops o E σ v bl /\ K (updO E o.dst v) (addS σ bl) := by
 unfold gop gval
 cases hg : o.guard with
 | none => exact Jld hc
 | some p =>
  obtain ⟨j, want⟩ := p
  simp only
  cases ht : (ops[j]?).bind (·.dst) with
  | none => simp
  | some t =>
   simp only
   have other : (∀ b, E t ≠ .v (.bool b)) -> (∀ vs, E t ≠ .v (.tuple vs)) -> ((match E t with
    | .v (.bool b) => (b = want -> aop S false false o K Kb (upd E t (.v (.bool want))) σ) /\ (b = !want -> K (updO (upd E t (.v (.bool !want))) o.dst (.v undef)) σ)
    | .v (.tuple _) => K (updO E o.dst (.v undef)) σ
    | _ => False) ↔ ∃ v bl, (match E t with
     | .v (.bool b) => (b = want /\ val S o E σ v bl) \/ (b = !want /\ v = .v undef /\ bl = [])
     | .v (.tuple _) => v = .v undef /\ bl = []
     | _ => False) /\ K (updO E o.dst v) (addS σ bl)) := λ h1 h2 => by
    split
    . rename_i h; exact absurd h (h1 _)
    . rename_i h; exact absurd h (h2 _)
    . simp
   by_cases hb : ∃ b, E t = .v (.bool b)
   . obtain ⟨b, hb⟩ := hb; simp only [hb]
     have h1 : b = want -> upd E t (.v (.bool want)) = E := λ e => Jci E t _ (by rw [hb, e])
     have h2 : b = (!want) -> upd E t (.v (.bool !want)) = E := λ e => Jci E t _ (by rw [hb, e])
     by_cases e : b = want
     . have e2 : ¬ b = !want := by subst e; cases b <;> simp
       constructor
       . rintro ⟨h3, _⟩
         have h3 := h3 e; rw [h1 e, Jld hc] at h3
         obtain ⟨v, bl, h3, h4⟩ := h3
         exact ⟨v, bl, .inl ⟨e, h3⟩, h4⟩
       . rintro ⟨v, bl, h3, h4⟩
         refine ⟨λ _ => ?_, λ h => absurd h e2⟩
         rw [h1 e, Jld hc]
         rcases h3 with ⟨_, h3⟩ | ⟨h3, _⟩
         . exact ⟨v, bl, h3, h4⟩
         . exact absurd h3 e2
     . have e2 : b = !want := by cases b <;> cases want <;> simp_all
       constructor
       . rintro ⟨_, h4⟩
         have h4 := h4 e2; rw [h2 e2] at h4
         exact ⟨_, [], .inr ⟨e2, rfl, rfl⟩, h4⟩
       . rintro ⟨v, bl, h3, h4⟩
         refine ⟨λ h => absurd h e, λ _ => ?_⟩
         rw [h2 e2]
         rcases h3 with ⟨h3, _⟩ | ⟨_, rfl, rfl⟩
         . exact absurd h3 e
         . exact h4
   . by_cases hb2 : ∃ vs, E t = .v (.tuple vs)
     . obtain ⟨vs, hb2⟩ := hb2; simp only [hb2]
       constructor
       . intro h; exact ⟨_, [], ⟨rfl, rfl⟩, h⟩
       . rintro ⟨v, bl, ⟨rfl, rfl⟩, h⟩; exact h
     . exact other (λ b h => hb ⟨b, h⟩) (λ vs h => hb2 ⟨vs, h⟩)
end
section
variable {P : Program} {S : Sp} {C : Fx} {E E' : Env} {σ σ' : Jac} {a : Act} {w : World} {ρ : Nat -> Option Nat} {Im : Nat -> Prop} {M : Str}
def DC (N c : Nat) (E : Env) (σ : Jac) : Prop :=
 ∀ d, d / 16 = c -> Jbh d E σ /\ (∀ t, t < N -> ¬ DN (E t) d) /\ ∀ id k, σ id = some k -> ∀ e ∈ k.es, ¬ DN e d
theorem JiG {L : Nat -> Prop} : ∀ (c : List (Nat × Blk)) (σ : Jac), (∀ p ∈ c, L p.1) -> ∀ id, ¬ L id -> addS σ c id = σ id
 | [], σ, _, id, _ => rfl
 | (i, k) :: c, σ, h, id, d => by
  simp only [addS]
  rw [JiG c _ (λ p f => h p (by simp [f])) id d, JaI _ _ _ _ (λ e => d (by rw [e]; exact h (i, k) (by simp)))]
theorem Jmm : ∀ (d : List (Nat × Blk)) (σ : Jac) (id : Nat) (k : Blk), addS σ d id = some k -> σ id = some k \/ (id, k) ∈ d
 | [], σ, id, k, h => .inl h
 | (i, f) :: d, σ, id, k, h => by
  simp only [addS] at h
  rcases Jmm d _ id k h with c | c
  . by_cases e : id = i
    . subst e; simp at c; subst c; exact .inr (by simp)
    . rw [JaI _ _ _ _ e] at c; exact .inl c
  . exact .inr (by simp [c])
theorem Jqv {ops : Array Oper} {o : Oper} {t : Nat} (h : Operand.tmp t ∈ o.op.operands) : t ∈ o.looksAt ops :=
 List.mem_append_left _ (L1U.2 ⟨.tmp t, by simpa using h, rfl⟩)
theorem JlL {ops : Array Oper} {o : Oper} {g t : Nat} {c : Bool} (d : o.guard = some (g, c)) (f : (ops[g]?).bind (·.dst) = some t) : t ∈ o.looksAt ops := by
 refine List.mem_append_right _ ?_
 rw [d]; simp [f]
theorem JpS {ops : Array Oper} {o : Oper} {c : Option Nat} {u : AV} (f : ∀ d, c = some d -> d ∉ o.looksAt ops) {x : Operand} (h : x ∈ o.op.operands) : ev (updO E c u) x = ev E x := by
 cases c with
 | none => rfl
 | some d =>
  cases x with
  | tmp t => simp only [ev, updO, upd]; rw [if_neg (λ e => f d rfl (by subst e; exact Jqv h))]
  | _ => rfl
theorem JuM {N d : Nat} {x : Operand} (k : Operand.low N x = true) (h : ∀ t, t < N -> ¬ DN (E t) d) : ¬ DN (ev E x) d := λ i => by
 cases x with
 | tmp t => exact h t (by simpa [Operand.low] using k) i
 | const v => exact Jm6 i
 | global g => cases i
 | func f => cases i with | clo _ _ c _ j i => simp at j
theorem Jh6 {ops : Array Oper} {o : Oper} (hf : Oper.fits S.P S.N o = true) {d0 : Option Nat} {u : AV} (hd : ∀ d, d0 = some d -> d ∉ o.looksAt ops) {nm : Nat} {bl0 : List (Nat × Blk)}
 (hdc : bl0 = [] \/ (DC S.N nm E σ /\ ∀ p ∈ bl0, p.1 / 16 = nm)) {v : AV} {bl : List (Nat × Blk)} : gval S ops o (updO E d0 u) (addS σ bl0) v bl ↔ gval S ops o E σ v bl := by
 obtain ⟨_, hlow, _⟩ := Jdg hf
 have hev : ∀ x ∈ o.op.operands, ev (updO E d0 u) x = ev E x := λ x hx => JpS hd hx
 have key : val S o (updO E d0 u) (addS σ bl0) v bl ↔ val S o E σ v bl := by
  rcases hdc with rfl | ⟨hdc, hb⟩
  . simp only [addS]; unfold val
    split
    . exact and_congr_left λ _ => ⟨Jdp hev λ _ _ _ _ => rfl, Jdp (λ x hx => (hev x hx).symm) λ _ _ _ _ => rfl⟩
    . exact and_congr_right λ _ => ⟨Jd5 hev, Jd5 λ x hx => (hev x hx).symm⟩
    . exact ⟨Jdf (L := λ _ => False) hev (λ _ _ _ h => h.elim) (λ _ _ => rfl) (λ _ _ _ _ _ _ h => h.elim), Jdf (L := λ _ => False) (λ x hx => (hev x hx).symm) (λ _ _ _ h => h.elim) (λ _ _ => rfl) (λ _ _ _ _ _ _ h => h.elim)⟩
    . rfl
  . have hag : ∀ id, ¬ id / 16 = nm -> addS σ bl0 id = σ id := JiG bl0 σ hb
    have hnd : ∀ x ∈ o.op.operands, ∀ d, d / 16 = nm -> ¬ DN (ev E x) d := λ x hx d hd => JuM (JbP hlow hx) (hdc d hd).2.1
    have hst : ∀ id k, σ id = some k -> ∀ e ∈ k.es, ∀ d, d / 16 = nm -> ¬ DN e d := λ id k hk e he d hd => (hdc d hd).2.2 id k hk e he
    have hag' : ∀ x ∈ o.op.operands, ∀ id, Names (ev E x) id -> addS σ bl0 id = σ id := λ x hx id hn => hag id λ h => hnd x hx id h (DN.of hn)
    -- the way back: what is not of 'nm' is the same in both
    unfold val
    split
    . refine and_congr_left λ _ => ⟨λ h => ?_, λ h => Jdp (λ x hx => (hev x hx).symm) hag' h⟩
      exact Jdp (E' := E) hev (λ x hx id hn => by rw [hev x hx] at hn; exact (hag' x hx id hn).symm) h
    . exact and_congr_right λ _ => ⟨Jd5 hev, Jd5 λ x hx => (hev x hx).symm⟩
    . refine ⟨λ h => ?_, λ h => Jdf (L := λ d => d / 16 = nm) (λ x hx => (hev x hx).symm) hnd hag hst h⟩
      have h1 : JeQ S false (nmO S o) o.op E (addS σ bl0) v bl := Jdf (L := λ _ => False) hev (λ _ _ _ h => h.elim) (λ _ _ => rfl) (λ _ _ _ _ _ _ h => h.elim) h
      -- without the new blocks
      unfold JeQ at h1 ⊢
      split at h1
      . rename_i f args ats ho
        split at h1
        . rename_i g caps hfv; obtain ⟨h0, r, h2, h3⟩ := h1
          refine ⟨h0, r, ?_, h3⟩
          have : (args.toList.map (ev E) ++ caps).map (res (addS σ bl0)) = (args.toList.map (ev E) ++ caps).map (res σ) := L0S λ x hx => by
           refine Jiq hag hst 8 x λ d hd hn => ?_
           rcases L0t.1 hx with hx | hx
           . obtain ⟨y, hy, rfl⟩ := L05.1 hx
             exact hnd y (by rw [ho]; simp [Op.operands, Call.operands]; exact .inr (by simpa using hy)) d hd hn
           . exact hnd f (by rw [ho]; simp [Op.operands, Call.operands]) d hd (by rw [hfv]; exact .clo g caps x d hx hn)
          rw [<- this]; exact h2
        . exact h1.elim
      . exact h1.elim
    . rfl
 unfold gval
 split
 . exact key
 . rename_i j want hg
   split
   . rfl
   . rename_i t ht
     have he : updO E d0 u t = E t := by
      cases d0 with
      | none => rfl
      | some d => simp only [updO, upd]; rw [if_neg (λ e => hd d rfl (by subst e; exact JlL hg ht))]
     rw [he]
     split
     . rw [key]
     . rfl
     . rfl
theorem JrM {o : Oper} (y : Oper.fits S.P S.N o = true) {d : Nat} (w : ∀ t, t < S.N -> ¬ DN (E t) d) (s : ∀ id k, σ id = some k -> ∀ e ∈ k.es, ¬ DN e d) {v : AV} {u : List (Nat × Blk)}
 (h : val S o E σ v u) (c : isNm S.P o = true -> d / 16 ≠ nmO S o) : ¬ DN v d /\ ∀ p ∈ u, p.1 / 16 ≠ d / 16 /\ ∀ e ∈ p.2.es, ¬ DN e d := by
 obtain ⟨_, m, _⟩ := Jdg y
 have l : ∀ x ∈ o.op.operands, ¬ DN (ev E x) d := λ x z => JuM (JbP m z) w
 unfold val at h
 split at h
 . obtain ⟨i, rfl⟩ := h; exact ⟨JlZ l s i, λ p f => by simp at f⟩
 . rename_i q
   have c := c (by simp [isNm, q])
   obtain ⟨i, j⟩ := Joj l c h.2
   exact ⟨i, λ p f => ⟨by rw [(j p f).1]; exact c.symm, (j p f).2⟩⟩
 . rename_i q
   have c := c (by simp [isNm, q])
   obtain ⟨i, j⟩ := JgX c h
   exact ⟨i, λ p f => ⟨by rw [(j p f).1]; exact c.symm, (j p f).2⟩⟩
 . exact h.elim
theorem JfD {ops : Array Oper} {o : Oper} {v : AV} {c : List (Nat × Blk)} (h : gval S ops o E σ v c) : val S o E σ v c \/ (v = .v undef /\ c = []) := by
 unfold gval at h
 split at h
 . exact .inl h
 . split at h
   . exact h.elim
   . split at h
     . rcases h with ⟨_, h⟩ | ⟨_, h⟩
       . exact .inl h
       . exact .inr h
     . exact .inr h
     . exact h.elim
theorem JrN {o : Oper} {v : AV} {i : List (Nat × Blk)} (f : val S o E σ v i) : ∀ p ∈ i, p.1 / 16 = nmO S o /\ isNm S.P o = true := by
 unfold val at f
 split at f
 . obtain ⟨_, rfl⟩ := f; intro p c; simp at c
 . rename_i h
   intro p c
   -- by any name apart
   refine ⟨?_, by simp [isNm, h]⟩
   have := f.2
   unfold newV at this
   split at this
   . obtain ⟨e, _, _, rfl⟩ := this; simp at c; subst c; simp
   . obtain ⟨e, _, _, rfl⟩ := this; simp at c; subst c; simp
   . split at this
     . obtain ⟨_, _, _, rfl⟩ := this; simp at c; rcases c with rfl | rfl <;> simp <;> omega
     . obtain ⟨z, _, _, _, _, _, rfl⟩ := this; simp at c; subst c; simp
   . obtain ⟨_, _, _, _, rfl⟩ := this; simp at c; subst c; simp
   . obtain ⟨e, _, _, _, _, _, _, _, rfl⟩ := this; simp at c; subst c; simp
   . split at this
     . obtain ⟨e, _, _, z, _, _, _, _, _, _, _, _, rfl⟩ := this; simp at c; subst c; simp
     . exact this.elim
   . exact this.elim
 . rename_i h
   intro p c
   exact ⟨((JgX (d := 16 * (nmO S o) + 16) (by omega) f).2 p c).1, by simp [isNm, h]⟩
 . exact f.elim
theorem DC.step {C : Nat} {ops : Array Oper} {o : Oper} (J : Oper.fits S.P S.N o = true) (w : DC S.N C E σ) {v : AV} {f : List (Nat × Blk)} (B : gval S ops o E σ v f) (z : isNm S.P o = true -> C ≠ nmO S o) :
 DC S.N C (updO E o.dst v) (addS σ f) := by
 intro d H
 obtain ⟨u, D, F⟩ := w d H
 have m : ¬ DN v d /\ ∀ p ∈ f, p.1 / 16 ≠ d / 16 /\ ∀ e ∈ p.2.es, ¬ DN e d := by
  rcases JfD B with B | ⟨rfl, rfl⟩
  . exact JrM J D F B λ K => by rw [H]; exact z K
  . exact ⟨λ h => (by cases h), λ p A => by simp at A⟩
 have j : ∀ id k, addS σ f id = some k -> ∀ e ∈ k.es, ¬ DN e d := λ id k y e l => by
  rcases Jmm f σ id k y with s | s
  . exact F id k s e l
  . exact (m.2 _ s).2 e l
 have I : ∀ t, (∀ x, E t = x -> ¬ DN x d) -> ¬ DN (updO E o.dst v t) d := λ t q => by
  cases hdst : o.dst with
  | none => exact q _ rfl
  | some x => simp only [updO, upd]; split; exact m.1; exact q _ rfl
 refine ⟨⟨?_, λ t c => ?_, λ id k y e l c => j id k y e l (DN.of c)⟩, λ t q => I t λ x M => by rw [<- M]; exact D t q, j⟩
 . rw [JiG (L := λ i => i / 16 ≠ d / 16) f σ (λ p A => (m.2 p A).1) d (by simp)]; exact u.1
 . cases hdst : o.dst with
   | none => rw [hdst] at c; exact u.2.1 t c
   | some x =>
    rw [hdst] at c; simp only [updO, upd] at c
    split at c
    . exact m.1 (DN.of c)
    . exact u.2.1 t c
theorem JrG {d c : Option Nat} {v f : AV} (h : ∀ x, d = some x -> c ≠ some x) : updO (updO E d v) c f = updO (updO E c f) d v := by
 cases d with
 | none => cases c <;> rfl
 | some x => cases c with
  | none => rfl
  | some y => simp only [updO]; exact Jtz E x y v f λ e => h x rfl (by rw [e])
theorem JjE {L L' : Nat -> Prop} : ∀ (d c : List (Nat × Blk)) (σ : Jac), (∀ p ∈ d, L p.1) -> (∀ p ∈ c, ¬ L p.1) -> addS (addS σ d) c = addS (addS σ c) d
 | [], _, _, _, _ => rfl
 | (i, k) :: d, c, σ, h, m => by
  simp only [addS]
  rw [JjE (L := L) (L' := L') d c _ (λ p f => h p (by simp [f])) m]
  congr 1
  have : ∀ (l : List (Nat × Blk)) (σ : Jac), (∀ p ∈ l, p.1 ≠ i) -> addS (updS σ i k) l = updS (addS σ l) i k := by
   intro l
   induction l with
   | nil => intro σ _; rfl
   | cons x l q =>
    obtain ⟨j, s⟩ := x
    intro σ o
    simp only [addS]
    rw [<- q _ λ p f => o p (by simp [f])]
    congr 1
    funext t
    have := o (j, s) (by simp)
    simp only [updS]
    split <;> split <;> simp_all
  exact this c σ λ p f e => m p f (by rw [e]; exact h (i, k) (by simp))
end
section
variable {P : Program} {S : Sp} {C : Fx} {E E' : Env} {σ σ' : Jac} {a : Act} {w : World} {ρ : Nat -> Option Nat} {Im : Nat -> Prop} {M : Str} {ops : Array Oper}
def JfR (ops : Array Oper) (l : List Nat) : List Oper := l.filterMap λ i => ops[i]?
def Jco (S : Sp) (ops : Array Oper) : List Nat -> (Env -> Jac -> Prop) -> Env -> Jac -> Prop
 | [], K => K
 | i :: l, K => match ops[i]? with
  | some o => gop S false (bar ops i) ops o (Jco S ops l K) (struck S true (JfR ops l) (Jco S ops l K))
  | none => Jco S ops l K
theorem JeD : ∀ (l : List Oper) (i : Nat), (∀ j, j < l.length -> l[j]? = ops[i + j]?) -> JfR ops (List.range' i l.length) = l
 | [], i, _ => rfl
 | o :: l, i, h => by
  have c : ops[i]? = some o := by simpa using (h 0 (by simp)).symm
  rw [L0e, L1R]; simp only [JfR, List.filterMap_cons, c]
  congr 1
  exact JeD l (i + 1) λ j d => by have := h (j + 1) (by simpa using d); simpa [L0K, Nat.add_comm 1 j] using this
theorem JjN : ∀ (l : List Oper) (i : Nat) (K : Env -> Jac -> Prop), (∀ j, j < l.length -> l[j]? = ops[i + j]?) -> Jel S true ops i l K = Jco S ops (List.range' i l.length) K
 | [], i, K, _ => rfl
 | o :: l, i, K, h => by
  have h0 : ops[i]? = some o := by simpa using (h 0 (by simp)).symm
  have h' : ∀ j, j < l.length -> l[j]? = ops[i + 1 + j]? := λ j hj => by have := h (j + 1) (by simpa using hj); simpa [L0K, Nat.add_comm 1 j] using this
  rw [L0e, L1R]; simp only [Jel, Jco, h0, Bool.not_true, L1F]; rw [JjN l (i + 1) K h', JeD l (i + 1) h']
theorem JdI {P : Program} (u : JdH P ops = true) {i : Nat} {d : Oper} (hi : ops[i]? = some d) :
 (∀ e ∈ d.after, Region.binds .any e = true -> e.on < i) /\ (∀ j f, i < j -> ops[j]? = some f -> (waits ops ops.size j i = true \/ (d.apart ops f = true /\ (cls P d.op d.type <= 2 /\ cls P f.op f.type <= 2 \/ Jfz P d = true /\ stoO f = true \/ stoO d = true /\ Jfz P f = true))) /\
  (isNm P d = true -> isNm P f = true -> d.dst.getD 99999 ≠ f.dst.getD 99999)) := by
 have m : i < ops.size := (L0m.1 hi).1
 have h := L0f.1 u i (L1a.2 m); simp only [hi, L00, Array.all_eq_true_iff_forall_mem] at h
 obtain ⟨⟨p, _⟩, q⟩ := h
 refine ⟨λ e w l => ?_, λ j f y o => ?_⟩
 . have := p e w; simpa [l] using this
 . have k : j < ops.size := (L0m.1 o).1
   have := L0f.1 q j (L1a.2 k)
   simp only [o, L0O, decide_eq_true_eq, L00, L0W, bne_iff_ne, ne_eq] at this
   rcases this with this | ⟨s, c⟩
   . omega
   . refine ⟨s.imp_right λ h => ⟨h.1, by rcases h.2 with (h | h) | h; exact .inl h; exact .inr (.inl h); exact .inr (.inr h)⟩, λ t l => ?_⟩
     rcases c with (c | c) | c
     . rw [t] at c; cases c
     . rw [l] at c; cases c
     . exact c
theorem Jo8 {c : Type} {xs : Array c} {p : c -> Bool} (h : xs.any p = true) : ∃ e ∈ xs, p e = true := by
 rw [<- Array.any_toList] at h
 obtain ⟨e, d, f⟩ := L1J.1 h
 exact ⟨e, L0x.1 d, f⟩
theorem Jnp {P : Program} (d : JdH P ops = true) : ∀ (n j i : Nat), waits ops n j i = true -> i < j
 | 0, _, _, h => by simp [waits] at h
 | n + 1, j, i, h => by
  simp only [waits] at h
  split at h
  . rename_i o k
    obtain ⟨e, f, c⟩ := Jo8 h
    simp only [L00, L0O, beq_iff_eq] at c; have l := (JdI d k).1 e f c.1
    rcases c.2 with c | c
    . omega
    . have := Jnp d n e.on i c; omega
  . cases h
theorem Jgo {c : Array Bool} (k : ∀ i o, ops[i]? = some o -> c.getD i false = true -> ∀ e ∈ o.after, Region.binds .any e = true -> c.getD e.on false = true) :
 ∀ (n i j : Nat) (o : Oper), ops[i]? = some o -> (∀ e ∈ o.after, Region.binds .any e = true -> c.getD e.on false = true) -> waits ops n i j = true -> c.getD j false = true
 | 0, _, _, _, _, _, h => by simp [waits] at h
 | n + 1, i, j, o, s, f, h => by
  simp only [waits, s] at h
  obtain ⟨e, q, l⟩ := Jo8 h
  simp only [L00, L0O, beq_iff_eq] at l; have m := f e q l.1
  rcases l.2 with d | d
  . rw [<- d]; exact m
  . cases n with
    | zero => simp [waits] at d
    | succ n =>
     cases hoe : ops[e.on]? with
     | none => simp [waits, hoe] at d
     | some p => exact Jgo k (n + 1) e.on j p hoe (k e.on p hoe m) d
theorem Jpj {P : Program} (d : JdH P ops = true) {i j : Nat} (f : j < i) (hi : i < ops.size) (h : waits ops ops.size i j = false) : bar ops i = false /\ bar ops j = false := by
 have c : waits ops ops.size j i = false := by
  cases hw : waits ops ops.size j i with
  | false => rfl
  | true => have := Jnp d _ _ _ hw; omega
 constructor
 . cases hb : bar ops i with
   | false => rfl
   | true =>
    have := L0f.1 hb j (L1a.2 (by omega))
    simp [h, c] at this; omega
 . cases hb : bar ops j with
   | false => rfl
   | true =>
    have := L0f.1 hb i (L1a.2 hi)
    simp [h, c] at this; omega
def Jb5 (S : Sp) (ops : Array Oper) (l : List Nat) (E : Env) (σ : Jac) : Prop := ∀ k ∈ l, ∀ o, ops[k]? = some o -> isNm S.P o = true -> DC S.N (nmO S o) E σ
theorem JyI (hd : JdH S.P ops = true) {i j : Nat} {oi oj : Oper} (hi : ops[i]? = some oi) (hj : ops[j]? = some oj) (hne : i ≠ j) (h1 : isNm S.P oi = true) (h2 : isNm S.P oj = true) : nmO S oi ≠ nmO S oj := by
 unfold nmO
 rcases L1t i j with h | h
 . exact λ e => ((JdI hd hi).2 j oj h hj).2 h1 h2 (Nat.add_left_cancel e)
 . exact λ e => ((JdI hd hj).2 i oi (by omega) hi).2 h2 h1 (Nat.add_left_cancel e.symm)
theorem Jb5.step (c : ∀ (i : Nat) (o : Oper), ops[i]? = some o -> Oper.fits S.P S.N o = true) (s : JdH S.P ops = true) {i : Nat} {f : Oper} (hi : ops[i]? = some f) {l : List Nat} (t : i ∉ l) (h : Jb5 S ops l E σ) {v : AV} {j : List (Nat × Blk)}
 (u : gval S ops f E σ v j) : Jb5 S ops l (updO E f.dst v) (addS σ j) := λ k m o p d =>
 (h k m o p d).step (c i f hi) u λ q => JyI s p hi (λ e => t (e ▸ m)) d q
def rem (ops : Array Oper) (listed : Array Bool) : List Nat := (List.range ops.size).filter λ i => !listed.getD i true
theorem Ja5 {listed : Array Bool} {i : Nat} : i ∈ rem ops listed ↔ i < ops.size /\ listed.getD i true = false := by simp [rem]
theorem JkI (c : Array Bool) : (rem ops c).Nodup := List.Pairwise.filter _ List.nodup_range
theorem Jc3 (c : Array Bool) : (rem ops c).Pairwise (· < ·) := List.Pairwise.filter _ List.pairwise_lt_range
theorem Jjm {listed : Array Bool} (hs : listed.size = ops.size) {i : Nat} {pre post : List Nat} (h : rem ops listed = pre ++ i :: post) : rem ops (listed.setIfInBounds i true) = pre ++ post := by
 have hnd := JkI (ops := ops) listed
 have e : rem ops (listed.setIfInBounds i true) = (rem ops listed).filter λ k => k != i := by
  unfold rem; rw [List.filter_filter]
  apply List.filter_congr
  intro k hk
  have hk : k < listed.size := by rw [hs]; exact L1a.1 hk
  by_cases hki : k = i
  . subst hki; simp [hk]
  . have : ∀ d, (listed.setIfInBounds i true).getD k d = listed.getD k d := λ d => by
     simp only [L0M]; rw [L1n (Ne.symm hki)]
    rw [this]; simp [hki]
 rw [e, h]; rw [h] at hnd; simp only [List.filter_append, List.filter_cons, bne_self_eq_false, L0C, if_false]; rw [L25] at hnd; obtain ⟨h1, h2, h3⟩ := hnd; rw [L1K] at h2
 congr 1
 . rw [L26]; intro k hk; have := h3 k hk i (by simp); simpa using this
 . rw [L26]; intro k hk; simp; rintro rfl; exact h2.1 hk
theorem Jsi (H : Holds S C) (L : St C E σ a w) {B : Nat} (h : ∀ d, d / 16 = B -> Jbh d E σ) : DC S.N B E σ := by
 obtain ⟨Q, R, M, s⟩ := L
 intro d I
 have l := h d I
 refine ⟨l, λ t O m => ?_, λ id k y e q m => ?_⟩
 . have o : t < a.tmps.size := by rw [s.size, <- H.N]; exact O
   exact l.2.1 t ((s.env t _ (L0i o)).dn m)
 . refine l.2.2 id k y e q ?_
   cases hρ : Q id with
   | none => rw [s.inv.nil id k y hρ] at q; simp at q
   | some b =>
    by_cases hz : k.sz = 0
    . obtain ⟨p, D, _, K, f⟩ := s.inv.map id k b y hρ hz
      obtain ⟨i, u⟩ := L0s.1 q
      have o : i < p.size := by rw [<- K.1]; exact (L0a.1 u).1
      obtain ⟨v, A, z⟩ := f i _ (L0i o)
      rw [u] at A; cases A
      cases m with | tup _ c _ l m =>
       simp at l
       rcases l with rfl | rfl
       . cases m
       . exact .tup _ _ d (by simp) (z.dn m)
    . obtain ⟨F, _, _, _, f⟩ := s.inv.blk id k b y hρ hz
      obtain ⟨c, l, m⟩ := m.cell
      obtain ⟨i, u⟩ := L0s.1 q
      obtain ⟨j, J⟩ := L0s.1 l
      obtain ⟨x, _, _, z⟩ := f i e j c u J
      exact Jbk l (z.dn m)
theorem Jjk {l : List Oper} {i : Nat} : regP S l i = true ↔ ∃ o ∈ l, isNm S.P o = true /\ i / 16 = nmO S o := by
 simp only [regP, L0A, L1U, isNm, nmO]
 constructor
 . rintro ⟨o, d, h⟩
   split at h
   . rename_i c; exact ⟨o, d, c, (Option.some.inj h).symm⟩
   . cases h
 . rintro ⟨o, d, c, e⟩
   exact ⟨o, d, by rw [if_pos c, e]⟩
theorem JkZ {l : List Nat} (H : Holds S C) (f : ∀ o ∈ JfR ops l, Oper.fits S.P S.N o = true) {K : Env -> Jac -> Prop} (h : struck S true (JfR ops l) K E σ) (u : St C E σ a w) :
 ∃ E' c, K E' c /\ Jb5 S ops l E' c /\ St C E' c a w := by
 simp only [struck, if_true] at h
 have j : St C (JaU (regP S (JfR ops l)) E) (Jao (regP S (JfR ops l)) σ) a w := u.kill H.G _ λ id b s => by
  cases hr : regP S (JfR ops l) id with
  | false => rfl
  | true =>
   obtain ⟨o, q, i, e⟩ := Jjk.1 hr
   have p : o.dst.getD 99999 < 100000 := by
    cases m : o.dst with
    | none => simp
    | some d => exact L0Q ((Jdg (f o q)).1 d m) (L0n H.big (by decide))
   have := H.own p id b s
   simp [own] at this
   exact absurd e this
 refine ⟨_, _, h, λ k t o q i => Jsi H j λ d m => ?_, j⟩
 exact JbZ (Jjk.2 ⟨o, L1U.2 ⟨k, t, q⟩, i, m⟩) E σ
theorem JhT {q : Bool} {o : Oper} {K p X : Env -> Jac -> Prop} (c : ∀ v i, val S o E σ v i -> X (updO E o.dst v) (addS σ i)) (h : aop S false q o K p E σ) :
 aop S false q o (λ E' l => K E' l /\ X E' l) p E σ := by
 unfold aop at *; unfold val nmO at c
 split at h
 . rename_i k; simp only [k] at c
   obtain ⟨v, f, j⟩ := h; exact ⟨v, f, j, c v [] ⟨f, rfl⟩⟩
 . rename_i k; simp only [k] at c
   obtain ⟨d, m, v, i, f, j⟩ := h; simp only [kE, kS, L0C, if_false] at f j ⊢
   exact ⟨d, m, v, i, f, j, by have := c v i ⟨by simp [m], by simpa [m] using f⟩; simpa [m] using this⟩
 . rename_i k; simp only [k] at c
   simp only [kE, kS, L0C, if_false] at h ⊢
   rcases h with ⟨v, i, f, j⟩ | h
   . exact .inl ⟨v, i, f, j, c v i f⟩
   . exact .inr h
 . exact h
 . exact h
 . exact h
 . exact h
theorem Jn3 {bi : Bool} {o : Oper} {K Kb X : Env -> Jac -> Prop} (hstep : ∀ v bl, gval S ops o E σ v bl -> X (updO E o.dst v) (addS σ bl)) (h : gop S false bi ops o K Kb E σ) :
 gop S false bi ops o (λ E' σ' => K E' σ' /\ X E' σ') Kb E σ := by
 unfold gop at *; unfold gval at hstep
 cases hg : o.guard with
 | none => simp only [hg] at h hstep ⊢; exact JhT hstep h
 | some p =>
  obtain ⟨j, want⟩ := p; simp only [hg] at h hstep ⊢
  cases ht : (ops[j]?).bind (·.dst) with
  | none => simp [ht] at h
  | some t =>
   simp only [ht] at h hstep ⊢
   split at h
   . rename_i b hb; simp only [hb] at hstep
     have h1 : b = want -> upd E t (.v (.bool want)) = E := λ e => Jci E t _ (by rw [hb, e])
     have h2 : b = (!want) -> upd E t (.v (.bool !want)) = E := λ e => Jci E t _ (by rw [hb, e])
     refine ⟨λ e => ?_, λ e => ?_⟩
     . have h := h.1 e; rw [h1 e] at h ⊢
       exact JhT (λ v bl hv => hstep v bl (.inl ⟨e, hv⟩)) h
     . refine ⟨h.2 e, ?_⟩
       rw [h2 e]; exact hstep _ [] (.inr ⟨e, rfl, rfl⟩)
   . rename_i hb; simp only [hb] at hstep
     exact ⟨h, hstep _ [] ⟨rfl, rfl⟩⟩
   . exact h.elim
theorem JiR {o : Oper} (h : Jfz P o = true) : cls P o.op o.type = 0 := by
 simp only [Jfz, L00, beq_iff_eq] at h; exact h.1.2
theorem Jn1 {o : Oper} (h : Jfz P o = true) : o.guard = none := by
 simp only [Jfz, L00, Option.isNone_iff_eq_none] at h; exact h.1.1
theorem Jgy {o : Oper} (h : Jfz S.P o = true) {v : AV} {c : List (Nat × Blk)} : gval S ops o E σ v c ↔ JaH S.P o.op E σ v /\ c = [] := by
 unfold gval val; rw [Jn1 h, JiR h]; exact Iff.rfl
theorem Jkc {o : Oper} (h : Jfz P o = true) {v : AV} (i : JaH P o.op E σ v) : JaH P o.op E σ' v := by
 simp only [Jfz, L00] at h; obtain ⟨f, op, k, j, c, d⟩ := o
 simp only at *
 cases op <;> first | (exact i) | (simp at h)
def stoR (P : Program) (op : Op) (E : Env) (σ : Jac) (id : Nat) (k' : Blk) : Prop := Jer P op E σ λ a b => a = id /\ b = k'
theorem JvR {op : Op} {K : Nat -> Blk -> Prop} : Jer P op E σ K ↔ ∃ id k', stoR P op E σ id k' /\ K id k' := by
 unfold stoR Jer
 constructor
 . intro h
   split at h
   . split at h
     . rename_i id u i j t; obtain ⟨k, c, d, e, f, l, m, o, p, q⟩ := h
       refine ⟨_, _, ?_, q⟩
       simp only [t]
       exact ⟨k, c, d, e, f, l, m, o, p, trivial, rfl⟩
     . exact h.elim
   . exact h.elim
 . rintro ⟨id, k', h, s⟩
   split at h
   . split at h
     . obtain ⟨k, c, d, e, f, l, m, o, p, rfl, rfl⟩ := h
       exact ⟨k, c, d, e, f, l, m, o, p, s⟩
     . exact h.elim
   . exact h.elim
theorem JiB {op : Op} (c : ∀ x ∈ op.operands, ev E x = ev E' x) {id : Nat} {k' : Blk} (h : stoR P op E σ id k') : stoR P op E' σ id k' := by
 unfold stoR Jer at *
 split at h
 . rename_i t x y
   simp only
   rw [<- c x (by simp [Op.operands]), <- c y (by simp [Op.operands])]
   exact h
 . exact h.elim
theorem JvL {e v : AV} {j d : Nat} (h : DN (setC e j v) d) : DN e d \/ DN v d := by
 unfold setC at h
 split at h
 . exact .inr h
 . cases h with
   | agg _ c _ hc hn =>
    rcases L0t.1 hc with hc | hc
    . rcases L0t.1 hc with hc | hc
      . exact .inl (hn.cells (L0J hc))
      . exact .inr (hn.cells hc)
    . exact .inl (hn.cells (L16 hc))
theorem JvQ {op : Op} {N nm : Nat} (hlow : ∀ x ∈ op.operands, Operand.low N x = true) (hdc : DC N nm E σ) {id : Nat} {k' : Blk} (h : stoR P op E σ id k') : DC N nm E (updS σ id k') := by
 intro d hd
 obtain ⟨⟨c1, c2, c3⟩, c4, c5⟩ := hdc d hd
 have hval : ∀ e ∈ k'.es, ¬ DN e d := by
  unfold stoR Jer at h
  split at h
  . rename_i t x y
    split at h
    . obtain ⟨k, h1, h2, e, h3, h4, h5, h6, h7, rfl, rfl⟩ := h
      intro q hq hn
      rcases L2p hq with hq | rfl
      . exact c5 _ _ h1 q hq hn
      . rcases JvL hn with hn | hn
        . exact c5 _ _ h1 e (L02 h3) hn
        . exact JuM (hlow y (by simp [Op.operands])) c4 hn
    . exact h.elim
  . exact h.elim
 have hid : id ≠ d := by
  unfold stoR Jer at h
  split at h
  . split at h
    . obtain ⟨k, h1, h2, e, h3, h4, h5, h6, h7, rfl, rfl⟩ := h
      intro e; rw [e, c1] at h1; cases h1
    . exact h.elim
  . exact h.elim
 refine ⟨⟨?_, c2, λ q k hk e he hn => ?_⟩, c4, λ q k hk e he => ?_⟩
 . rw [JaI _ _ _ _ (Ne.symm hid)]; exact c1
 . by_cases hq : q = id
   . subst hq; rw [Jk3] at hk; cases hk; exact hval e he (DN.of hn)
   . rw [JaI _ _ _ _ hq] at hk; exact c3 q k hk e he hn
 . by_cases hq : q = id
   . subst hq; rw [Jk3] at hk; cases hk; exact hval e he
   . rw [JaI _ _ _ _ hq] at hk; exact c5 q k hk e he
theorem Jb5.sto {o : Oper} (d : Oper.fits S.P S.N o = true) {l : List Nat} (h : Jb5 S ops l E σ) {id : Nat} {k' : Blk} (j : stoR S.P o.op E σ id k') : Jb5 S ops l E (updS σ id k') := λ k f p i c =>
 JvQ (λ x m => JbP (Jdg d).2.1 m) (h k f p i c) j
theorem Jjx {i : Bool} {o : Oper} {K f : Env -> Jac -> Prop} (h : stoO o = true) : gop S false i ops o K f E σ ↔ ∃ id k', stoR S.P o.op E σ id k' /\ f E (updS σ id k') := by
 simp only [stoO, L00, Option.isNone_iff_eq_none] at h; obtain ⟨j, op, l, k, c, d⟩ := o
 simp only at *
 obtain ⟨⟨rfl, rfl⟩, h⟩ := h
 cases op with
 | store t x y =>
  rw [<- JvR]; exact Iff.rfl
 | _ => simp at h
theorem Jkw (p : Nat -> Bool) : ∀ (n : Nat) (a : AV), SizeOf.sizeOf a < n -> AV.namesB p a = true -> ∃ id, Names a id /\ p id = true := by
 intro n
 induction n with
 | zero => intro a h; omega
 | succ n z =>
  intro a w k
  have l : ∀ d : List AV, (∀ c ∈ d, SizeOf.sizeOf c < n) -> AV.namesL p d = true -> ∃ c ∈ d, ∃ id, Names c id /\ p id = true := λ d u y => by
   obtain ⟨c, f, t⟩ := (AV.namesL_iff p d).1 y
   exact ⟨c, f, z c (u c f) t⟩
  cases a with
  | own i s o m => exact ⟨i, .own .., k⟩
  | ptr i s o m => exact ⟨i, .ptr .., k⟩
  | mref i => exact ⟨i, .mref .., k⟩
  | agg d =>
   obtain ⟨c, f, id, j, q⟩ := l d (λ c f => by have := L1q f; simp at w; omega) k
   exact ⟨id, .agg d c id f j, q⟩
  | tup d =>
   obtain ⟨c, f, id, j, q⟩ := l d (λ c f => by have := L1q f; simp at w; omega) k
   exact ⟨id, .tup d c id f j, q⟩
  | clo g d =>
   obtain ⟨c, f, id, j, q⟩ := l d (λ c f => by have := L1q f; simp at w; omega) k
   exact ⟨id, .clo g d c id f j, q⟩
  | _ => simp [AV.namesB] at k
theorem Jvg {p : Nat -> Bool} (h : ∀ d, p d = true -> Jbh d E σ) : JaU p E = E /\ Jao p σ = σ := by
 refine ⟨funext λ t => ?_, funext λ t => ?_⟩
 . refine Jcv ?_
   cases l : AV.namesB p (E t) with
   | false => rfl
   | true =>
    obtain ⟨id, f, i⟩ := Jkw p _ _ (L27 _) l
    exact absurd f ((h id i).2.1 t)
 . simp only [Jao]
   split
   . rename_i o; exact ((h t o).1).symm
   . cases hk : σ t with
     | none => rfl
     | some k =>
      simp only [L0I, Blk.kill]; rw [if_neg]
      intro l
      obtain ⟨c, m, j⟩ := (AV.namesL_iff p k.es).1 l
      obtain ⟨id, f, i⟩ := Jkw p _ _ (L27 _) j
      exact (h id i).2.2 t k hk c m f
theorem Jfl {l : List Nat} {K : Env -> Jac -> Prop} (h : Jb5 S ops l E σ) : struck S true (JfR ops l) K E σ = K E σ := by
 have := Jvg (p := regP S (JfR ops l)) (E := E) (σ := σ) λ d i => by
  obtain ⟨o, m, c, e⟩ := Jjk.1 i
  obtain ⟨k, j, f⟩ := L1U.1 m
  exact (h k j o f c d e).1
 simp only [struck, if_true]; rw [this.1, this.2]
theorem bubble (hall : ∀ (i : Nat) (o : Oper), ops[i]? = some o -> Oper.fits S.P S.N o = true) (hd : JdH S.P ops = true) {i : Nat} {oi : Oper} (hi : ops[i]? = some oi) {post : List Nat} {K : Env -> Jac -> Prop} :
 ∀ (pre : List Nat), (∀ j ∈ pre, j < i /\ waits ops ops.size i j = false) -> (pre ++ i :: post).Nodup -> ∀ (E : Env) (σ : Jac), Jb5 S ops (pre ++ i :: post) E σ -> Jco S ops (pre ++ i :: post) K E σ -> Jco S ops (i :: (pre ++ post)) K E σ
 | [], _, _, E, σ, _, h => h
 | j :: pre, hp, hnd, E, σ, hdc, h => by
  obtain ⟨hji, hw⟩ := hp j (by simp)
  have hilt : i < ops.size := (L0m.1 hi).1
  obtain ⟨oj, hj⟩ : ∃ oj, ops[j]? = some oj := ⟨_, L0i (by omega)⟩
  obtain ⟨hbi, hbj⟩ := Jpj hd hji hilt hw
  have hcom := (((JdI hd hj).2 i oi hji hi).1).resolve_left (by rw [hw]; simp)
  obtain ⟨hap, hcom⟩ := hcom
  obtain ⟨a1, a2, a3⟩ := Oper.apart_spec hap
  rw [L0L, L1K] at hnd
  have hin : ∀ k, k ∈ pre ++ post -> k ∈ pre ++ i :: post := λ k hk => by rcases L0t.1 hk with h | h <;> simp [h]
  rcases hcom with ⟨hcj, hci⟩ | ⟨hfj, hsi⟩ | ⟨hsj, hfi⟩
  rotate_left
  . -- what is free comes later
    have hcj := JiR hfj; simp only [L0L, Jco, hj, hbj] at h
    obtain ⟨vj, blj, hvj, h⟩ := (JdJ (by omega)).1 h
    obtain ⟨hpj, rfl⟩ := (Jgy hfj).1 hvj
    have hdc1 : Jb5 S ops (pre ++ i :: post) (updO E oj.dst vj) σ := Jb5.step hall hd hj hnd.1 (λ k hk => hdc k (by simp only [L0L, L0q]; exact .inr hk)) hvj
    have h := bubble hall hd hi pre (λ k hk => hp k (by simp [hk])) hnd.2 _ _ hdc1 h
    simp only [Jco, hi, hbi] at h
    obtain ⟨id, k', hs, h⟩ := (Jjx hsi).1 h
    have hs0 : stoR S.P oi.op E σ id k' := JiB (λ x hx => JpS a1 hx) hs
    rw [Jfl (Jb5.sto (hall i oi hi) (λ k hk => hdc1 k (hin k hk) : Jb5 S ops (pre ++ post) (updO E oj.dst vj) σ) hs)] at h
    simp only [Jco, hi, hbi]
    refine (Jjx hsi).2 ⟨id, k', hs0, ?_⟩
    rw [L0L, Jfl (Jb5.sto (hall i oi hi) (λ k hk => hdc k (by rcases L0q.1 hk with rfl | hk; simp; exact L1z _ (hin k hk)) : Jb5 S ops (j :: (pre ++ post)) E σ) hs0)]
    simp only [Jco, hj, hbj]
    exact (JdJ (by omega)).2 ⟨vj, [], (Jgy hfj).2 ⟨Jkc hfj hpj, rfl⟩, h⟩
  . -- what is free comes earlier
    have hci := JiR hfi; simp only [L0L, Jco, hj, hbj] at h
    obtain ⟨id, k', hs, h⟩ := (Jjx hsj).1 h
    have hdc1 : Jb5 S ops (pre ++ i :: post) E (updS σ id k') := Jb5.sto (hall j oj hj) (λ k hk => hdc k (by simp only [L0L, L0q]; exact .inr hk)) hs
    rw [Jfl hdc1] at h
    have h := bubble hall hd hi pre (λ k hk => hp k (by simp [hk])) hnd.2 _ _ hdc1 h
    simp only [Jco, hi, hbi] at h
    obtain ⟨vi, bli, hvi, h⟩ := (JdJ (by omega)).1 h
    obtain ⟨hpi, rfl⟩ := (Jgy hfi).1 hvi
    have hvi0 : gval S ops oi E σ vi [] := (Jgy hfi).2 ⟨Jkc hfi hpi, rfl⟩
    simp only [Jco, hi, hbi]
    refine (JdJ (by omega)).2 ⟨vi, [], hvi0, ?_⟩
    simp only [L0L, Jco, hj, hbj]
    have hs1 : stoR S.P oj.op (updO E oi.dst vi) σ id k' := JiB (λ x hx => (JpS a3 hx).symm) hs
    refine (Jjx hsj).2 ⟨id, k', hs1, ?_⟩
    have hdc2 : Jb5 S ops (pre ++ post) (updO E oi.dst vi) σ := Jb5.step hall hd hi (λ hk => by
     rw [L25] at hnd; obtain ⟨_, _, h2, h3⟩ := hnd; rw [L1K] at h2
     rcases L0t.1 hk with hk | hk
     . exact h3 i hk i (by simp) rfl
     . exact h2.1 hk) (λ k hk => hdc k (L1z _ (hin k hk))) hvi0
    show struck S true (JfR ops (pre ++ post)) (Jco S ops (pre ++ post) K) (updO E oi.dst vi) (updS σ id k')
    rw [Jfl (hdc2.sto (hall j oj hj) hs1)]; exact h
  simp only [L0L, Jco, hj, hbj] at h
  obtain ⟨vj, blj, hvj, h⟩ := (JdJ hcj).1 h
  have hdc1 : Jb5 S ops (pre ++ i :: post) (updO E oj.dst vj) (addS σ blj) := Jb5.step hall hd hj hnd.1 (λ k hk => hdc k (by simp only [L0L, L0q]; exact .inr hk)) hvj
  have h := bubble hall hd hi pre (λ k hk => hp k (by simp [hk])) hnd.2 _ _ hdc1 h
  simp only [Jco, hi, hbi] at h
  obtain ⟨vi, bli, hvi, h⟩ := (JdJ hci).1 h
  have ownj : ∀ p ∈ blj, p.1 / 16 = nmO S oj /\ isNm S.P oj = true := by
   rcases JfD hvj with hv | ⟨_, rfl⟩
   . exact JrN hv
   . intro p hp; simp at hp
  have dcj : blj = [] \/ (DC S.N (nmO S oj) E σ /\ ∀ p ∈ blj, p.1 / 16 = nmO S oj) := by
   cases hb : blj with
   | nil => exact .inl rfl
   | cons p l => exact .inr ⟨hdc j (by simp) oj hj (ownj p (by rw [hb]; simp)).2, λ q hq => (ownj q (by rw [hb]; exact hq)).1⟩
  have hvi0 : gval S ops oi E σ vi bli := (Jh6 (hall i oi hi) a1 dcj).1 hvi
  have owni : ∀ p ∈ bli, p.1 / 16 = nmO S oi /\ isNm S.P oi = true := by
   rcases JfD hvi0 with hv | ⟨_, rfl⟩
   . exact JrN hv
   . intro p hp; simp at hp
  have dci : bli = [] \/ (DC S.N (nmO S oi) E σ /\ ∀ p ∈ bli, p.1 / 16 = nmO S oi) := by
   cases hb : bli with
   | nil => exact .inl rfl
   | cons p l => exact .inr ⟨hdc i (by simp) oi hi (owni p (by rw [hb]; simp)).2, λ q hq => (owni q (by rw [hb]; exact hq)).1⟩
  have hvj0 : gval S ops oj (updO E oi.dst vi) (addS σ bli) vj blj := (Jh6 (hall j oj hj) a3 dci).2 hvj
  have e1 : updO (updO E oj.dst vj) oi.dst vi = updO (updO E oi.dst vi) oj.dst vj := JrG a2
  have e2 : addS (addS σ blj) bli = addS (addS σ bli) blj := by
   by_cases hb : isNm S.P oi = true /\ isNm S.P oj = true
   . have hne := JyI (S := S) hd hi hj (by omega) hb.1 hb.2
     exact JjE (L := λ id => id / 16 = nmO S oj) (L' := λ _ => True) blj bli σ (λ p hp => (ownj p hp).1) λ p hp h => hne ((owni p hp).1.symm.trans h)
   . have : blj = [] \/ bli = [] := by
      cases hb1 : blj with
      | nil => exact .inl rfl
      | cons p l => cases hb2 : bli with
       | nil => exact .inr rfl
       | cons q m => exact absurd ⟨(owni q (by rw [hb2]; simp)).2, (ownj p (by rw [hb1]; simp)).2⟩ hb
     rcases this with h' | h' <;> rw [h'] <;> rfl
  rw [e1, e2] at h; simp only [Jco, hi, hbi]
  refine (JdJ hci).2 ⟨vi, bli, hvi0, ?_⟩
  simp only [L0L, Jco, hj, hbj]
  exact (JdJ hcj).2 ⟨vj, blj, hvj0, h⟩
theorem Jcj (H : Holds S C) : ∀ (ops : Array Oper), ops.toList.all (Oper.fits S.P S.N) = true -> JdH S.P ops = true -> ∀ (n : Nat) (K : Env -> Jac -> Prop) (Q : Exit -> Act -> World -> Prop) (E : Env) (σ : Jac) (a : Act) (w : World),
 (∀ E σ a w, K E σ -> St C E σ a w -> Q .normal a w) -> struck S true ops.toList (Jel S true ops 0 ops.toList K) E σ -> St C E σ a w ->
 ∀ id, (Code.region id ops true).wpIn (FW C.rdl) n S.P Q a w := by
 intro ops hfits hd n K Q E σ a w hK hv hs id
 have hall : ∀ (i : Nat) (o : Oper), ops[i]? = some o -> Oper.fits S.P S.N o = true := λ i o ho => L0f.1 hfits o (L0x.2 (L1I ho))
 have hat : ∀ l, ∀ o ∈ JfR ops l, Oper.fits S.P S.N o = true := λ l o ho => by
  obtain ⟨i, _, hi⟩ := L1U.1 ho; exact hall i o hi
 have hfull : JfR ops (List.range' 0 ops.toList.length) = ops.toList := JeD ops.toList 0 λ j _ => by simp
 refine wpIn_region_any H.mo ?_
 obtain ⟨E1, σ1, hv1, hdc1, hs1⟩ := JkZ (l := List.range' 0 ops.toList.length) H (hat _) (by rw [hfull]; exact hv) (hs.drew H.G (w.drawn + 1))
 rw [JjN ops.toList 0 K λ j _ => by simp] at hv1
 have key : ∀ (fuel : Nat) (listed : Array Bool) (E : Env) (σ : Jac) (a : Act) (w : World), listed.size = ops.size -> (rem ops listed).length <= fuel ->
  (∀ i o, ops[i]? = some o -> listed.getD i false = true -> ∀ e ∈ o.after, Region.binds .any e = true -> listed.getD e.on false = true) ->
  Jco S ops (rem ops listed) K E σ -> Jb5 S ops (rem ops listed) E σ -> St C E σ a w -> wpAnyIn (FW C.rdl) n S.P .any ops Q fuel listed a w := by
  intro fuel
  induction fuel with
  | zero =>
   intro listed E σ a w hsz hle hcl hv hdc hs
   have h0 : rem ops listed = [] := L0T (by omega)
   rw [h0] at hv
   refine ⟨?_, hK _ _ _ _ hv hs⟩
   cases hr : Region.ready .any ops listed with
   | nil => rfl
   | cons i l =>
    have hi : i ∈ Region.ready .any ops listed := by rw [hr]; simp
    obtain ⟨h1, o, ho, _⟩ := mem_ready.1 hi
    have : i ∈ rem ops listed := Ja5.2 ⟨(L0m.1 ho).1, h1⟩
    rw [h0] at this; simp at this
  | succ fuel ih =>
   intro listed E σ a w hsz hle hcl hv hdc hs
   have getD_same : ∀ i, i < ops.size -> listed.getD i true = listed.getD i false := λ i hi => by
    simp only [L0M]; rw [L0i (by omega)]; rfl
   refine ⟨λ h0 => ?_, λ i hi => ?_⟩
   . -- nothing is ready: nothing is left
     have hr : rem ops listed = [] := by
      cases hr : rem ops listed with
      | nil => rfl
      | cons i l =>
       exfalso
       have hm : i ∈ rem ops listed := by rw [hr]; simp
       obtain ⟨hlt, hun⟩ := Ja5.1 hm
       have : i ∈ Region.ready .any ops listed := mem_ready.2 ⟨hun, _, L0i hlt, λ e he hb => by
        have hei := (JdI hd (L0i hlt)).1 e he hb
        cases hl : listed.getD e.on false with
        | true => rfl
        | false =>
         have hme : e.on ∈ rem ops listed := Ja5.2 ⟨by omega, by rw [getD_same _ (by omega)]; exact hl⟩
         have hsort := Jc3 (ops := ops) listed
         rw [hr] at hme hsort
         rcases L0q.1 hme with h | h
         . omega
         . have := (L1x.1 hsort).1 _ h; omega⟩
       rw [h0] at this; simp at this
     rw [hr] at hv
     exact hK _ _ _ _ hv hs
   . obtain ⟨hun, o, ho, hedges⟩ := mem_ready.1 hi
     have hlt : i < ops.size := (L0m.1 ho).1
     have hm : i ∈ rem ops listed := Ja5.2 ⟨hlt, hun⟩
     obtain ⟨pre, post, hsplit⟩ := L28 hm
     have hsort := Jc3 (ops := ops) listed
     have hnd := JkI (ops := ops) listed
     have hset := Jjm hsz hsplit; rw [hsplit] at hv hdc hsort hnd
     have hpre : ∀ j ∈ pre, j < i /\ waits ops ops.size i j = false := λ j hj => by
      refine ⟨(List.pairwise_append.1 hsort).2.2 j hj i (by simp), ?_⟩
      cases hw : waits ops ops.size i j with
      | false => rfl
      | true =>
       have h1 := Jgo hcl ops.size i j o ho hedges hw
       have h2 := Ja5.1 (show j ∈ rem ops listed by rw [hsplit]; simp [hj])
       rw [getD_same j h2.1, h1] at h2; simp at h2
     have hv := bubble hall hd ho pre hpre hnd E σ hdc hv
     have hnd' : i ∉ pre ++ post := by
      rw [L25] at hnd; obtain ⟨h1, h2, h3⟩ := hnd; rw [L1K] at h2
      intro h; rcases L0t.1 h with h | h
      . exact h3 i h i (by simp) rfl
      . exact h2.1 h
     have hdc' : Jb5 S ops (pre ++ post) E σ := λ k hk => hdc k (by rcases L0t.1 hk with h | h <;> simp [h])
     simp only [Jco, ho] at hv
     have next : ∀ E' σ' a' w', Jco S ops (pre ++ post) K E' σ' -> Jb5 S ops (pre ++ post) E' σ' -> St C E' σ' a' w' -> wpAnyIn (FW C.rdl) n S.P .any ops Q fuel (listed.setIfInBounds i true) a' w' := λ E' σ' a' w' h1 h2 h3 => by
      refine ih (listed.setIfInBounds i true) E' σ' a' w' (by simpa using hsz) ?_ ?_ (by rw [hset]; exact h1) (by rw [hset]; exact h2) h3
      . rw [hset]; rw [hsplit] at hle; simp at hle ⊢; omega
      . intro k ok hk hl e he hb
        have mono : ∀ q, listed.getD q false = true -> (listed.setIfInBounds i true).getD q false = true := λ q hq => by
         simp only [L0M] at hq ⊢
         by_cases hqi : q = i
         . subst hqi; simp [hsz, hlt]
         . rw [L1n (Ne.symm hqi)]; exact hq
        refine mono _ ?_
        by_cases hki : k = i
        . subst hki; rw [ho] at hk; cases hk; exact hedges e he hb
        . refine hcl k ok hk ?_ e he hb
          simp only [L0M] at hl ⊢
          rw [L1n (Ne.symm hki)] at hl; exact hl
     obtain ⟨ρ, Im, M, hw⟩ := hs
     have clean : cls S.P o.op o.type = 1 \/ cls S.P o.op o.type = 2 -> ∀ k, k < 16 -> Jbh (16 * (S.b + o.dst.getD 99999) + k) E σ := λ hc k hk =>
      (hdc i (by simp) o ho (by rcases hc with h | h <;> simp [isNm, h]) (16 * (S.b + o.dst.getD 99999) + k) (by unfold nmO; omega)).1
     refine Jde ho (Je2 (Kc := wpAnyIn (FW C.rdl) n S.P .any ops Q fuel (listed.setIfInBounds i true)) H hw hall (hall i o ho) false (bar ops i) (λ _ => clean)
      (Jn3 (X := Jb5 S ops (pre ++ post)) (λ v bl hv => Jb5.step hall hd ho hnd' hdc' hv) hv) (λ E' σ' a' w' h1 h2 => next E' σ' a' w' h1.1 h1.2 h2) λ E' σ' a' w' h1 h2 => ?_)
     obtain ⟨E'', σ'', h3, h4, h5⟩ := JkZ (l := pre ++ post) H (hat _) h1 h2
     exact next E'' σ'' a' w' h3 h4 h5
 have hrem0 : rem ops (Array.replicate ops.size false) = List.range' 0 ops.toList.length := by
  unfold rem; rw [<- L1H, L0z, L26]
  intro i hi; simp [L1a.1 hi]
 exact key ops.size _ E1 σ1 a _ (by simp) (by unfold rem; exact L0n (L1u _ _) (by simp)) (λ i o ho h => by
  simp only [L0M, L1V] at h; split at h <;> simp at h) (by rw [hrem0]; exact hv1) (by rw [hrem0]; exact hdc1) hs1
end
variable {P : Program} {C : Fx} {w : World} {ρ : Nat -> Option Nat} {Im : Nat -> Prop} {M : Str} {E : Env} {σ : Jac} {a : Act}
def Jav : List AV -> List Nat
 | [] => []
 | .own id _ 0 _ :: r => id :: Jav r
 | .ptr id _ 0 0 :: r => id :: Jav r
 | _ :: r => Jav r
def topP (vs : List AV) : Nat -> Bool := λ i => (Jav vs).contains i
def expo (σ : Jac) (p : Nat -> Bool) (v : AV) : AV :=
 match v with
 | .own id c 0 n => match σ id with
  | some k => .new k.e c (resL (res (Jao p σ)) (k.es.take n))
  | none => .any
 | .ptr id c 0 0 => match σ id with
  | some k => .nptr k.e c (resL (res (Jao p σ)) k.es)
  | none => .any
 | v => res (Jao p σ) v
def JbN (σ : Jac) (p : Nat -> Bool) (v : AV) : Prop :=
 match v with
 | .own id c 0 n => ∃ k, σ id = some k /\ k.sz = c /\ n <= k.es.length /\ AV.namesL p k.es = false
 | .ptr id c 0 0 => ∃ k, σ id = some k /\ k.sz = c /\ AV.namesL p k.es = false
 | v => AV.namesB p v = false
def JeY (σ : Jac) (vs : List AV) : Prop := (Jav vs).Nodup /\ ∀ v ∈ vs, JbN σ (topP vs) v
theorem JhX (m : Inv w ρ Im σ) {p : Nat -> Bool} {id b : Nat} {k : Blk} (M : σ id = some k) (E : ρ id = some b) (T : k.sz ≠ 0) (O : AV.namesL p k.es = false) (n : Nat) :
 JbV w (Seen Im (killR p ρ)) k.e k.sz (resL (res (Jao p σ)) (k.es.take n)) b := by
 obtain ⟨A, B, I, R, H⟩ := m.blk id k b M E T
 have s : ∀ {i x}, (resL (res (Jao p σ)) (k.es.take n))[i]? = some x -> ∃ e, k.es[i]? = some e /\ (x = res (Jao p σ) e \/ (x = e /\ ∀ id, ¬ Names e id)) := λ {i x} h => by
  obtain ⟨e, f, d⟩ := JgF h
  rw [L0j] at f
  split at f
  . exact ⟨e, f, d⟩
  . cases f
 refine ⟨A, B, λ x S => ?_, ?_, λ i x j c C l => ?_⟩
 . obtain ⟨i, C⟩ := L0s.1 S
   obtain ⟨e, f, d⟩ := s C
   rcases d with rfl | ⟨rfl, _⟩
   . rw [show (res (Jao p σ) e).cells.length = e.cells.length from JgE 8 _ e]; exact I e (L02 f)
   . exact I _ (L02 f)
 . rw [Ja3]; simp only [L01]
   exact L0n (L0y _ (Nat.min_le_right _ _)) R
 . obtain ⟨e, f, d⟩ := s C
   have u : x.cells.length = e.cells.length := by
    rcases d with rfl | ⟨rfl, _⟩
    . exact JgE 8 _ e
    . rfl
   have L : j < e.cells.length := by rw [<- u]; exact (L0a.1 l).1
   obtain ⟨v, J, K, _⟩ := H i e j _ f (L08 L)
   refine ⟨v, J, K, ?_⟩
   have o : ∀ z, e.cells[j]? = some z -> Rep w (killR p ρ) Im z v := λ z t => by
    obtain ⟨U, y, _, Q⟩ := H i e j z f t
    rw [J] at y; cases y
    refine Q.killR λ F q => ?_
    cases hp : p F with
    | false => rfl
    | true =>
     have := (AV.namesL_iff p k.es).2 ⟨e, L02 f, AV.namesB_of p (Jbk (L02 t) q) hp⟩
     rw [O] at this; cases this
   rcases d with rfl | ⟨rfl, D⟩
   . exact Jq4 (m.kill p) 8 l o
   . exact (JbB (o c l) λ id q => D id (Jbk (L02 l) q)).mono (λ b B => .inl B) (λ _ _ => rfl)
theorem JnY (l : Inv w ρ Im σ) {p : Nat -> Bool} {v : AV} {y : Value} (C : Rep w ρ Im v y) (m : JbN σ p v) : ∃ D, R1 w (Seen Im (killR p ρ)) (expo σ p v) y D /\ ∀ b, D = some b -> ∃ id, id ∈ Jav [v] /\ ρ id = some b := by
 have c : (∀ id E n, v ≠ .own id E 0 n) -> (∀ id E, v ≠ .ptr id E 0 0) -> AV.namesB p v = false -> expo σ p v = res (Jao p σ) v -> ∃ D, R1 w (Seen Im (killR p ρ)) (expo σ p v) y D /\ ∀ b, D = some b -> ∃ id, id ∈ Jav [v] /\ ρ id = some b := by
  intro S T B R
  have d := Jhw (l.kill p) (C.killR (p := p) λ id J => by
   cases hp : p id with
   | false => rfl
   | true => have := AV.namesB_of p J hp; rw [B] at this; cases this)
  refine ⟨none, ?_, λ b t => by cases t⟩
  rw [R]; unfold R1
  split
  . rename_i e; rw [e] at d; cases d
  . rename_i e; rw [e] at d; cases d
  . exact ⟨rfl, d⟩
 cases v with
 | own id E i n =>
  cases i with
  | succ i => exact c (λ _ _ _ h => by cases h) (λ _ _ h => by cases h) m rfl
  | zero =>
   obtain ⟨k, u, rfl, K, B⟩ := m
   have s : expo σ p (.own id k.sz 0 n) = .new k.e k.sz (resL (res (Jao p σ)) (k.es.take n)) := by simp only [expo, u]
   rw [s]
   have o : (resL (res (Jao p σ)) (k.es.take n)).length = n := by rw [Ja3]; simp [L0N K]
   rcases C.own0_inv with ⟨rfl, rfl, f⟩ | ⟨b, F, H, e, rfl, f, L, A, t, M, z⟩
   . exact ⟨none, .inl ⟨rfl, by simp [resL], rfl⟩, λ b t => by cases t⟩
   . refine ⟨some b, .inr ⟨b, F, z, rfl, by rw [o], by rw [o]; exact L, A, ⟨H, ?_, M⟩, JhX l u f z B n⟩, λ Q q => by cases q; exact ⟨id, by simp [Jav], f⟩⟩
     obtain ⟨O, I, _⟩ := l.blk id k b u f z
     obtain ⟨rfl, rfl⟩ := JcX t I; exact t
 | ptr id E i j =>
  cases i with
  | succ i => exact c (λ _ _ _ h => by cases h) (λ _ _ h => by cases h) m rfl
  | zero =>
   cases j with
   | succ j => exact c (λ _ _ _ h => by cases h) (λ _ _ h => by cases h) m rfl
   | zero =>
    obtain ⟨k, u, rfl, B⟩ := m
    have s : expo σ p (.ptr id k.sz 0 0) = .nptr k.e k.sz (resL (res (Jao p σ)) k.es) := by simp only [expo, u]
    rw [s]
    cases C with
    | im _ _ C => cases C
    | ptr _ _ _ _ b f z =>
     have := JhX l u f z B k.es.length
     rw [L04] at this
     exact ⟨some b, ⟨b, z, rfl, by simp, this⟩, λ Q q => by cases q; exact ⟨id, by simp [Jav], f⟩⟩
 | _ => exact c (λ _ _ _ h => by cases h) (λ _ _ h => by cases h) m rfl
theorem Jeu (hinv : Inv w ρ Im σ) {p : Nat -> Bool} : ∀ (vs : List AV) (ys : List Value), Reps w ρ Im vs ys -> (∀ v ∈ vs, JbN σ p v) -> (Jav vs).Nodup ->
 ∃ obs, RL w (Seen Im (killR p ρ)) (vs.map (expo σ p)) ys obs /\ (∀ b, some b ∈ obs -> ∃ id ∈ Jav vs, ρ id = some b) /\ obs.Pairwise λ x y => x = none \/ x ≠ y
 | [], [], _, _, _ => ⟨[], trivial, λ b hb => by simp at hb, .nil⟩
 | [], y :: ys, h, _, _ => by simp [Reps] at h
 | v :: vs, [], h, _, _ => by simp [Reps] at h
 | v :: vs, y :: ys, h, hok, hnd => by
  obtain ⟨ob, h1, h2⟩ := JnY hinv (h.2 0 v y rfl rfl) (hok v (by simp))
  have htop : ∀ id, id ∈ Jav (v :: vs) ↔ id ∈ Jav [v] \/ id ∈ Jav vs := λ id => by
   cases v with
   | own i s o n => cases o <;> simp [Jav]
   | ptr i s o j => cases o <;> cases j <;> simp [Jav]
   | _ => simp [Jav]
  have hnd' : (Jav vs).Nodup /\ ∀ id, id ∈ Jav [v] -> id ∉ Jav vs := by
   cases v with
   | own i s o n => cases o <;> simp_all [Jav]
   | ptr i s o j => cases o <;> cases j <;> simp_all [Jav]
   | _ => simp_all [Jav]
  obtain ⟨obs, h3, h4, h5⟩ := Jeu hinv vs ys ⟨by simpa using h.1, λ j c z hc hz => h.2 (j + 1) c z (by simpa using hc) (by simpa using hz)⟩ (λ x hx => hok x (by simp [hx])) hnd'.1
  refine ⟨ob :: obs, ⟨h1, h3⟩, λ b hb => ?_, L1x.2 ⟨λ x hx => ?_, h5⟩⟩
  . rcases L0q.1 hb with hb | hb
    . obtain ⟨id, hid, hρ⟩ := h2 b hb.symm; exact ⟨id, (htop id).2 (.inl hid), hρ⟩
    . obtain ⟨id, hid, hρ⟩ := h4 b hb; exact ⟨id, (htop id).2 (.inr hid), hρ⟩
  . cases ob with
    | none => exact .inl rfl
    | some b =>
     refine .inr λ e => ?_
     subst e
     obtain ⟨id, hid, hρ⟩ := h2 b rfl
     obtain ⟨id', hid', hρ'⟩ := h4 b hx
     have := hinv.inj id id' b hρ hρ'
     subst this
     exact hnd'.2 id hid hid'
def rvals (P : Program) (E : Env) (σ : Jac) : List ResultVar -> (List AV -> Prop) -> Prop
 | [], K => K []
 | .tmp t :: r, K => rvals P E σ r λ vs => K (E t :: vs)
 | .cell t d :: r, K => JbY σ (E t) λ c j => ∃ v, Jcx P d c j v /\ rvals P E σ r λ vs => K (v :: vs)
def AV.single : AV -> Bool
 | .tup _ => false
 | .clo _ _ => false
 | _ => true
def retK (σ : Jac) (R : AV -> Prop) (vs : List AV) : Prop :=
 match vs with
 | [.clo g c] => JeY σ c /\ R (.clo g (c.map (expo σ (topP c))))
 | [v] => v.single = true /\ JeY σ [v] /\ R (expo σ (topP [v]) v)
 | vs => JeY σ vs /\ R (.tup (vs.map (expo σ (topP vs))))
def ResultVar.low (N : Nat) : ResultVar -> Bool
 | .tmp t => decide (t < N)
 | .cell t _ => decide (t < N)
def Jgt (tm : Array Value) : ResultVar -> Sem Value
 | .tmp t => pure (tm.getD t undef)
 | .cell t c => do loadVar c (<- asAddr (tm.getD t undef))
theorem JeH (f : Inv w ρ Im σ) {tm : Array Value} (d : JaK w ρ Im E tm) : ∀ (l : List ResultVar) (K : List AV -> Prop), (l.all (ResultVar.low tm.size)) = true -> rvals P E σ l K ->
 ∃ vs ys, K vs /\ Reps w ρ Im vs ys /\ (l.mapM (Jgt tm)).run P w = .ok ys w
 | [], K, _, h => ⟨[], [], h, ⟨rfl, λ j c y k => by simp at k⟩, by simp⟩
 | .tmp t :: r, K, m, h => by
  simp only [L1W, L00, ResultVar.low, decide_eq_true_eq] at m
  obtain ⟨vs, ys, A, q, i⟩ := JeH f d r _ m.2 h
  refine ⟨E t :: vs, tm.getD t undef :: ys, A, ⟨by simp [q.1], λ j c y k u => ?_⟩, by simp [Sem.run_bind, Jgt, i]⟩
  cases j with
  | zero => simp at k u; subst k; rw [<- u]; exact d t _ (by simp [m.1])
  | succ j => exact q.2 j c y (by simpa using k) (by simpa using u)
 | .cell t L :: r, K, m, h => by
  simp only [L1W, L00, ResultVar.low, decide_eq_true_eq] at m
  have I := d t (tm.getD t undef) (by simp [m.1])
  obtain ⟨J, j, b, o, M, ⟨v, H, h⟩, u, F, C, D⟩ := JeS f h I
  obtain ⟨y, p, s⟩ := JfM (P := P) H F C D
  obtain ⟨vs, ys, A, q, i⟩ := JeH f d r _ m.2 h
  refine ⟨v :: vs, y :: ys, A, ⟨by simp [q.1], λ j c z k B => ?_⟩, by simp [Jgt, u, asAddr, p, i]⟩
  cases j with
  | zero => simp at k B; subst k; subst B; exact s
  | succ j => exact q.2 j c z (by simpa using k) (by simpa using B)
def Jct (args : List AV) : Env := λ t => args.getD t (.v undef)
structure Rest (C : Fx) (E : Env) (σ : Jac) (tm : Array Value) (w : World) (ρ : Nat -> Option Nat) (Im : Nat -> Prop) (M : Str) : Prop where
 inv : Inv w ρ Im σ
 env : JaK w ρ Im E tm
 size : tm.size = C.N
 ext : Ext C.w0 C.X0 w
 rng : ∀ id b, ρ id = some b -> (C.X0 b /\ C.R0 id b) \/ C.w0.heap.size <= b
 im : ∀ b, Im b -> C.Im0 b \/ C.w0.heap.size <= b
 g : C.G (E C.N) M w
 gh : ∀ p, AV.namesB p (E C.N) = false
 js : ∀ b, M.j b -> Im b
 ms : ∀ b, M.m b -> b < w.heap.size /\ (∀ id, ρ id ≠ some b) /\ ¬ Im b /\ (C.X0 b \/ C.w0.heap.size <= b)
 pin : ∀ id ob, C.pin id = some ob -> ρ id = ob
 j0 : ∀ b, C.J0 b -> Im b
theorem Jhz {S : Sp} (hG : JaQ C.G) {fn : Func} {n : Nat} {R : Ending -> World -> Prop} {tm : Array Value} : ∀ (A : List Deferred) (w : World), Rest C E σ tm w ρ Im M -> A.Nodup ->
 (∀ d ∈ A, ∃ D, d = stamp D /\ w.heap[D]? = some (.deferred (some [])) /\ C.w0.heap.size <= D /\ (∀ id, ρ id ≠ some D) /\ ¬ Im D /\ ¬ M.m D) ->
 (∀ w', Rest C E σ tm w' ρ Im M -> ∃ v, (results fn tm).run S.P w' = .ok v w' /\ R (.returned v) w') -> LeavesInM (FW none) n S.P fn tm R A .returning w
 | [], w, h, _, _, O => O w h
 | d :: A, w, h, s, hd, O => by
  obtain ⟨D, rfl, hD, U, u, hI, hM⟩ := hd d (by simp)
  rw [L1K] at s
  refine ⟨by simp, .inl ⟨D, _, rfl, run_takeDeferred hD, ?_⟩⟩
  have f : ∀ k, k ≠ D -> (w.putObj D (.deferred none)).heap[k]? = w.heap[k]? := λ k o => World.putObj_heap_other o
  have z : ∀ {v : AV} {y : Value}, Rep w ρ Im v y -> Rep (w.putObj D (.deferred none)) ρ Im v y := λ {v y} I =>
   Rep.mono (w := w) (w' := w.putObj D (.deferred none)) (λ _ h => h) (λ b l => f b λ e => hI (e ▸ l)) I λ i _ => ⟨rfl, λ b l p e F => ⟨p, by rw [f b λ e => u i (e ▸ l)]; exact F, rfl⟩⟩
  refine Jhz hG A _ ⟨⟨h.inv.nil, λ i k b o l W => ?_, λ i k b o l W => ?_, h.inv.inj, h.inv.live, h.inv.apart, λ b l => by simpa using h.inv.low b l⟩, λ t y hy => z (h.env t y hy), h.size,
   h.ext.trans ⟨rfl, rfl, rfl, by simp, λ k _ o => f k o⟩ (λ b l => .inr (by subst l; exact U)), h.rng, h.im, hG _ _ _ _ h.g (λ k o => f k λ e => by
    rcases o with o | o
    . exact hM (e ▸ o)
    . exact hI (e ▸ h.js k o)) (by simp) rfl rfl rfl, h.gh, h.js, λ b l => by simpa using h.ms b l, h.pin, h.j0⟩ s.2 (λ d' H => ?_) O
  . obtain ⟨B, K, q, T, F⟩ := h.inv.map i k b o l W
    exact ⟨B, K, by rw [f b λ e => u i (e ▸ l)]; exact q, T, λ i m hm => by obtain ⟨v, V, I⟩ := F i m hm; exact ⟨v, V, z I⟩⟩
  . obtain ⟨p, q, T, hs, F⟩ := h.inv.blk i k b o l W
    exact ⟨p, by rw [f b λ e => u i (e ▸ l)]; exact q, T, hs, λ i e j c he Q => by obtain ⟨v, V, h1, I⟩ := F i e j c he Q; exact ⟨v, V, h1, z I⟩⟩
  . obtain ⟨X, Z, L, J⟩ := hd d' (by simp [H])
    refine ⟨X, Z, ?_, J⟩
    rw [f X λ e => by subst e; subst Z; exact s.1 H]; exact L
variable {P : Program} {C : Fx} {w : World} {ρ : Nat -> Option Nat} {Im : Nat -> Prop} {M : Str} {E : Env} {σ : Jac} {a : Act}
theorem JbV.mono {d : Nat -> Prop} {e sz b : Nat} {es : List AV} (h : JbV w Im e sz es b) (p : ∀ b, Im b -> d b) : JbV w d e sz es b := by
 obtain ⟨f, l, m, o, q⟩ := h
 exact ⟨f, l, m, o, λ i x j c y k => by obtain ⟨v, u, s, t⟩ := q i x j c y k; exact ⟨v, u, s, t.mono p (λ _ _ => rfl)⟩⟩
theorem R1.mono {c : Nat -> Prop} {r : AV} {y : Value} {m : Option Nat} (h : R1 w Im r y m) (l : ∀ b, Im b -> c b) : R1 w c r y m := by
 cases r with
 | new e t o =>
  rcases h with h | ⟨b, d, f, i, j, k, p, q, s⟩
  . exact .inl h
  . exact .inr ⟨b, d, f, i, j, k, p, q, s.mono l⟩
 | nptr e t o => obtain ⟨b, f, i, j, k⟩ := h; exact ⟨b, f, i, j, k.mono l⟩
 | _ => exact ⟨h.1, h.2.mono l (λ _ _ => rfl)⟩
theorem RL.mono {c : Nat -> Prop} (f : ∀ b, Im b -> c b) : ∀ {i : List AV} {ys : List Value} {d : List (Option Nat)}, RL w Im i ys d -> RL w c i ys d
 | [], [], [], _ => trivial
 | _ :: _, _ :: _, _ :: _, h => ⟨h.1.mono f, RL.mono f h.2⟩
theorem Jl3 (n : Nat) (σ : Jac) {v : AV} (h : v.single = true) : (resF n σ v).single = true := by
 cases n with
 | zero =>
  simp only [resF, AV.kill]
  split
  . cases v with
    | tup => cases h
    | clo => cases h
    | own a s i n => simp only [AV.dk]; split <;> rfl
    | ptr a s i n => simp only [AV.dk]; split <;> rfl
    | mref a => simp only [AV.dk]; split <;> rfl
    | _ => rfl
  . exact h
 | succ n => cases v with
  | tup => cases h
  | clo => cases h
  | own a s i n => simp only [resF, Jgl]; split <;> (try split) <;> rfl
  | ptr a s i n => simp only [resF, Jgm, resE]; split <;> (try split) <;> (try split) <;> rfl
  | mref a => simp only [resF, Jgk]; split <;> (try split) <;> rfl
  | _ => rfl
theorem Jg5 {p : Nat -> Bool} {v : AV} (h : v.single = true) : (expo σ p v).single = true := by
 unfold expo
 split
 . split <;> rfl
 . split <;> rfl
 . exact Jl3 8 _ h
theorem Jq8 {tm : Array Value} (h : Rest C E σ tm w ρ Im M) (W : ∀ b, ¬ C.X0 b) (t : ∀ b, C.Im0 b -> b < C.w0.heap.size) {vs : List AV} {ys : List Value} (B : Reps w ρ Im vs ys) {R : AV -> Prop} (H : retK σ R vs) :
 ∃ r, R r /\ RRep C.w0 w C.Im0 r (if h : ys.toArray.size = 1 then ys.toArray[0] else .tuple ys.toArray) := by
 have low : ∀ p b, Seen Im (killR p ρ) b -> C.Im0 b \/ (C.w0.heap.size <= b /\ b < w.heap.size) := λ p b d => by
  rcases d with d | ⟨id, d⟩
  . rcases h.im b d with j | j
    . exact .inl j
    . exact .inr ⟨j, h.inv.low b d⟩
  . have d := (Jae d).2
    rcases h.rng id b d with j | j
    . exact absurd j.1 (W b)
    . exact .inr ⟨j, h.inv.lt d⟩
 have s : ∀ (us : List AV) (c : List (Option Nat)), (∀ b, some b ∈ c -> ∃ id ∈ Jav us, ρ id = some b) -> c.Pairwise (λ x y => x = none \/ x ≠ y) ->
  JdC C.w0.heap.size (λ b => C.Im0 b \/ Seen Im (killR (topP us) ρ) b) c := λ us c i l => by
  refine ⟨λ b d => ?_, l⟩
  obtain ⟨id, S, z⟩ := i b d
  have Q : C.w0.heap.size <= b := by
   rcases h.rng id b z with j | j
   . exact absurd j.1 (W b)
   . exact j
  refine ⟨Q, λ m => ?_⟩
  rcases m with m | m | ⟨V, m⟩
  . have := t b m; omega
  . exact h.inv.apart id b z m
  . obtain ⟨hp, m⟩ := Jae m
    have := h.inv.inj id V b z m
    subst this
    simp [topP, S] at hp
 have aa : ∀ p, ∃ K : Nat -> Prop, K = λ b => C.Im0 b \/ Seen Im (killR p ρ) b := λ p => ⟨_, rfl⟩
 have A : ∀ (us : List AV) b, (C.Im0 b \/ Seen Im (killR (topP us) ρ) b) -> C.Im0 b \/ (C.w0.heap.size <= b /\ b < w.heap.size) := λ us b d => by
  rcases d with d | d
  . exact .inl d
  . exact low _ b d
 have k : ∀ us : List AV, JeY σ us -> ∀ J, Reps w ρ Im us J -> ∃ c, RL w (λ b => C.Im0 b \/ Seen Im (killR (topP us) ρ) b) (us.map (expo σ (topP us))) J c /\ JdC C.w0.heap.size (λ b => C.Im0 b \/ Seen Im (killR (topP us) ρ) b) c := λ us f J hz => by
  obtain ⟨c, i, l, X⟩ := Jeu h.inv (p := topP us) us J hz f.2 f.1
  exact ⟨c, i.mono λ b d => .inr d, s us c l X⟩
 unfold retK at H
 split at H
 . rename_i g o; obtain ⟨f, F⟩ := H
   obtain ⟨y, rfl⟩ : ∃ y, ys = [y] := by
    have := B.1; match ys, this with | [y], _ => exact ⟨y, rfl⟩
   obtain ⟨D, rfl, L, O⟩ := (B.2 0 _ y rfl rfl).clo_inv
   obtain ⟨c, i, l⟩ := k o f D ⟨L, O⟩
   exact ⟨_, F, _, λ b d => .inl d, A o, D, c, by simp, i, l⟩
 . rename_i v hv; obtain ⟨U, f, F⟩ := H
   obtain ⟨y, rfl⟩ : ∃ y, ys = [y] := by
    have := B.1; match ys, this with | [y], _ => exact ⟨y, rfl⟩
   obtain ⟨c, i, l⟩ := k [v] f [y] B
   obtain ⟨I, rfl⟩ : ∃ I, c = [I] := by
    match c, i with | [I], _ => exact ⟨I, rfl⟩
   have q := Jg5 (σ := σ) (p := topP [v]) U
   refine ⟨_, F, _, λ b d => .inl d, A [v], ?_⟩
   have i := i.1; simp only [L0V, L0e, L0r, L0p, dite_true]; generalize expo σ (topP [v]) v = r at *
   cases r with
   | tup => cases q
   | clo => cases q
   | _ => exact ⟨I, by simpa using i, l⟩
 . rename_i ab u; obtain ⟨f, F⟩ := H
   obtain ⟨c, i, l⟩ := k vs f ys B
   have T : ys.toArray.size ≠ 1 := by
    simp only [L0V, <- B.1]
    intro Z
    match vs, Z, u with | [v], _, u => exact u v rfl
   rw [dif_neg T]
   exact ⟨_, F, _, λ b d => .inl d, A vs, ys, c, rfl, i, l⟩
theorem Jl4 {c : Func} {tm : Array Value} {ys : List Value} (h : (c.results.toList.mapM (Jgt tm)).run P w = .ok ys w) :
 (results c tm).run P w = .ok (if h : ys.toArray.size = 1 then ys.toArray[0] else .tuple ys.toArray) w := by
 have : results c tm = (do let vs <- c.results.mapM (Jgt tm); pure (if h : vs.size = 1 then vs[0] else .tuple vs)) := by
  unfold results Jgt; congr 1
 rw [this, Array.mapM_eq_mapM_toList]; simp only [map_eq_pure_bind, Sem.run_bind, h, Result.andThen_ok, Sem.run_pure]
theorem Jgc : JaQ (λ _ _ _ => True) := λ _ _ _ _ _ _ _ _ _ _ => trivial
def retG (P : Program) (d : Func) (K : List AV -> Env -> Jac -> Prop) : Exit -> Env -> Jac -> Prop
 | .normal => λ E c => rvals P E c d.results.toList λ vs => K vs E c
 | .ret => λ E c => rvals P E c d.results.toList λ vs => K vs E c
 | _ => λ _ _ => False
def handed (ys : List Value) : Value := if h : ys.toArray.size = 1 then ys.toArray[0] else .tuple ys.toArray
theorem Jft {S : Sp} {f : FuncId} {j : Func} {c : Code} {E0 : Env} {vs : List Value} {σ0 : Jac} {ρ0 : Nat -> Option Nat} {Im0 : Nat -> Prop} {M0 : Str} {K : List AV -> Env -> Jac -> Prop} {R : Ending -> World -> Prop}
 (H : Holds S C) (B : C.rd = none) (Q : S.P.funcs[f]? = some j) (O : j.body = some c) (F : C.N = j.ntmps) (A : JaX S.P j.ntmps S.bad c = true)
 (t : j.results.toList.all (ResultVar.low j.ntmps) = true)
 (i : Wit C E0 σ0 { tmps := vs.toArray ++ Array.replicate (j.ntmps - vs.toArray.size) undef, defers := [] } w ρ0 Im0 M0)
 (q : awp S c (retG S.P j K) E0 σ0)
 (o : ∀ E σ tm w' ρ Im M us ys, K us E σ -> Rest C E σ tm w' ρ Im M -> Reps w' ρ Im us ys -> R (.returned (handed ys)) w') : Calls S.P f vs.toArray w R := by
 have m : CallsIn (FW none) 0 S.P f vs.toArray w R := by
  refine callsIn_of_wp_marks Q O trivial ?_ rfl
  have s : C.rdl = none := by unfold Fx.rdl; rw [B]; rfl
  have := JgS H (Jcj H) (n := 0) c _ _ _ (by rw [H.N, F]; exact A) q (bodyPostM (FW none) 0 S.P j R) (λ e E σ a w' k V => ?_) _ w ⟨ρ0, Im0, M0, i⟩
  . rw [s] at this; exact this
  . have p : (rvals S.P E σ j.results.toList λ vs => K vs E σ) -> LeavesInM (FW none) 0 S.P j a.tmps R a.defers .returning w' := λ k => by
     obtain ⟨ρ, I, M, i⟩ := V
     refine Jhz (C := C) (E := E) (σ := σ) (ρ := ρ) (Im := I) (M := M) H.G a.defers w' ⟨i.inv, i.env, i.size, i.ext, i.rng, i.im, i.g, i.gh, i.js, i.ms, i.pin, i.j0⟩ i.nodup (λ d J => ?_) (λ W h => ?_)
     . obtain ⟨D, e, L, z⟩ := i.df d J
       have y := i.bk D (.inr (e ▸ J))
       exact ⟨D, e, L, z, y⟩
     . obtain ⟨us, ys, T, U, u⟩ := JeH (P := S.P) h.inv h.env j.results.toList _ (by rw [h.size, F]; exact t) k
       exact ⟨_, Jl4 u, o E σ _ W ρ I M us ys T h U⟩
    cases e with
    | normal => exact p k
    | ret => exact p k
    | exit id => exact k.elim
    | goto l => exact k.elim
    | panic X => exact k.elim
    | outgrown => exact k.elim
 have : CallsIn Fence.wide 0 S.P f vs.toArray w R := m
 exact callsIn_wide.1 this
theorem JiP {args : List AV} {vs : List Value} {N : Nat} (h : Reps w ρ Im args vs) : JaK w ρ Im (Jct args) (vs.toArray ++ Array.replicate (N - vs.toArray.size) undef) := by
 intro t y c
 have j : vs.length = args.length := h.1.symm
 rw [Array.getElem?_append] at c; simp only [L0V, L1g] at c; simp only [Jct]
 split at c
 . rename_i i
   have d : t < args.length := by omega
   have := h.2 t args[t] y (L08 d) c
   rw [L0X, L08 d]; exact this
 . rename_i f; rw [L1V] at c
   split at c
   . simp at c; subst c
     rw [L0X, L1b (by omega)]
     exact .im _ _ (.v _)
   . cases c
theorem Jkl (args : List AV) (N : Nat) (h : args.length <= N) : Jct args N = .v undef := by
 simp only [Jct]; rw [L0X, L1b (by omega)]; rfl
theorem enters {P : Program} {f : FuncId} {fn : Func} {c : Code} (hf : P.funcs[f]? = some fn) (hb : fn.body = some c) (hn : (fn.name == "runtime.NumGoroutine") = false) (as : Array Value) (w : World) :
 (callFunc f as).run P w = .ok (.enter f as) w := by
 have hn' : ¬ fn.name = "runtime.NumGoroutine" := by simpa using hn
 simp [callFunc, program, Sem.run, Sem.run_bind, hf, hb, hn', Result.andThen]
def fnOK (P : Program) (fn : Func) (c : Code) : Bool :=
 JaX P fn.ntmps JkA c && fn.results.toList.all (ResultVar.low fn.ntmps) && !(fn.name == "runtime.NumGoroutine") && decide (fn.ntmps <= 99999)
def spOf (P : Program) (f : FuncId) (N : Nat) : Sp := { P, N, b := 131072 * (f + 1), pin := λ _ => false, yl := 0, Y := λ _ _ _ => False, old := λ _ => false }
theorem Jkb {P : Program} {fn : Func} {c : Code} (h : fnOK P fn c = true) : JaX P fn.ntmps JkA c = true /\ fn.results.toList.all (ResultVar.low fn.ntmps) = true /\ (fn.name == "runtime.NumGoroutine") = false /\ fn.ntmps <= 99999 := by
 simp only [fnOK, L00, L0W, decide_eq_true_eq] at h
 exact ⟨h.1.1.1, h.1.1.2, h.1.2, h.2⟩
theorem JpP {P : Program} {f : FuncId} {fn : Func} {c : Code} {args : List AV} {r : AV} {B : Nat -> Bool} (hf : P.funcs[f]? = some fn) (hb : fn.body = some c) (h1 : JaX P fn.ntmps B c = true) (h2 : fn.results.toList.all (ResultVar.low fn.ntmps) = true) (h3 : (fn.name == "runtime.NumGoroutine") = false) (h4 : fn.ntmps <= 99999) (hmo : P.follows .mixedOrders = true)
 (hlen : args.length <= fn.ntmps) (h : awp { spOf P f fn.ntmps with bad := B } c (retG P fn fun vs _ σ => retK σ (· = r) vs) (Jct args) fun _ => none) : Ev P f args r := by
 intro args' r0 he
 rw [he.1, he.2]
 refine ⟨enters hf hb h3, fun w Im vs hlow hgk hargs => ?_⟩
 let C : Fx := { w0 := w, X0 := fun _ => False, Im0 := Im, G := fun _ _ _ => True, N := fn.ntmps, rd := none, pin := fun _ => none, J0 := Im }
 have H : Holds ({ spOf P f fn.ntmps with bad := B }) C := ⟨rfl, Jgc, fun _ _ _ hY => hY.elim, hmo, fun _ _ hp => (by cases hp), fun _ hp => (by cases hp), h4, fun _ => rfl, fun _ _ h _ => h.elim, hgk, fun b hb => ⟨fun h => h, hlow b (hgk.im hb)⟩, (fun h => by cases h)⟩
 have hreps : Reps w (fun _ => none) Im args vs := ⟨hargs.1, fun j c y hc hy => .im _ _ (hargs.2 j c y hc hy)⟩
 refine Jft (E0 := Jct args) (S := { spOf P f fn.ntmps with bad := B }) (C := C) (ρ0 := fun _ => none) (Im0 := Im) (M0 := ⟨fun _ => False, fun _ => False⟩) H rfl hf hb rfl h1 h2 ?_ h fun E σ tm w' ρ I M us ys hk hrest hr => ?_
 . refine ⟨⟨fun id k hk => (by cases hk), fun id k b hk => (by cases hk), fun id k b hk => (by cases hk), fun i j b hi => (by cases hi), fun i b hi => (by cases hi), fun i b hi => (by cases hi), hlow⟩, JiP hreps, ?_, Ext.refl _ _, fun i b hi => (by cases hi), fun b hb => .inl hb, fun p => ?_, trivial, fun b hb => hb.elim, fun b hb => hb.elim, fun l r hr => (by cases hr), .nil, fun d hd => (by cases hd), fun b hb => ?_, fun id b hb => (by cases hb), fun b hb => hb⟩
   . simp only [Array.size_append, L0V, L2q]
     have := hargs.1
     show vs.length + (fn.ntmps - vs.length) = fn.ntmps
     omega
   . show AV.namesB p (Jct args fn.ntmps) = false
     rw [Jkl args _ hlen]; rfl
   . rcases hb with ⟨r, hr⟩ | hd
     . cases hr
     . cases hd
 . obtain ⟨r', rfl, hrr⟩ := Jq8 hrest (fun _ h => h) hlow hr hk
   exact ⟨_, rfl, hrest.ext, hrr⟩
theorem JpR {P : Program} {f : FuncId} {d : Func} {c : Code} {args : List AV} {r : AV} (s : P.funcs[f]? = some d) (q : d.body = some c) (k : fnOK P d c = true) (j : P.follows .mixedOrders = true)
 (i : args.length <= d.ntmps) (h : awp (spOf P f d.ntmps) c (retG P d λ vs _ σ => retK σ (· = r) vs) (Jct args) λ _ => none) : Ev P f args r := by
 obtain ⟨l, m, o, p⟩ := Jkb k
 exact JpP s q l m o p j i h
end Go.Vai

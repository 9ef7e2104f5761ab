/- A heap-free account of the walk, second part -/
import Derived.Test.YtnpbhgeffapojaaGreatDoorKA
import Derived.RangeFuncIn
import Derived.RangeFuncLeaves
set_option linter.all false
namespace Go.Vai
open Go.RowKit
variable {P : Program} {C : Fx} {w : World} {ρ : Nat -> Option Nat} {Im : Nat -> Prop} {M : Str} {E : Env} {σ : Jac} {a : Act}
def allB : Nat -> Bool := fun _ => true
def resL (f : AV -> AV) (es : List AV) : List AV := if AV.namesL allB es = true then es.map f else es
def JfZ (f : AV -> AV) (b : Option Blk) (sz i m : Nat) : AV := match b with
  | some k => if i + m <= k.es.length /\ k.sz = sz then .sl sz (((resL f k.es).drop i).take m) else .any
  | none => .any
def resE (f : AV -> AV) (o : Option AV) (j : Nat) : AV := match o with
  | some e => .pt (f e) j
  | none => .any
def Jf0 (f : AV -> AV) (b : Option Blk) (sz i j : Nat) : AV := match b with
  | some k => if k.sz = sz then resE f k.es[i]? j else .any
  | none => .any
def JfY (f : AV -> AV) (b : Option Blk) : AV := match b with
  | some k => if k.sz = 0 then .mp (resL f k.es) else .any
  | none => .any
def resF : Nat -> Jac -> AV -> AV
  | 0, _, x => x.kill allB
  | n + 1, σ, x => match x with
    | .own id sz i m => JfZ (resF n σ) (σ id) sz i m
    | .ptr id sz i j => Jf0 (resF n σ) (σ id) sz i j
    | .mref id => JfY (resF n σ) (σ id)
    | .agg cs => .agg (resL (resF n σ) cs)
    | .tup cs => .tup (resL (resF n σ) cs)
    | .clo g cs => .clo g (resL (resF n σ) cs)
    | x => x
def res (σ : Jac) (x : AV) : AV := resF 8 σ x
theorem Jby {x : AV} {y : Value} (h : Rep w ρ Im x y) (hn : ∀ id, ¬ Names x id) : IRep w Im x y := by
  induction h with
  | im _ _ h => exact h
  | agg cs ys hl h1 _ ih => exact .agg cs ys hl h1 fun j c y hc hy => ih j c y hc hy fun id hid => hn id (.agg cs c id (L01 hc) hid)
  | tup cs ys hl _ ih => exact .tup cs ys hl fun j c y hc hy => ih j c y hc hy fun id hid => hn id (.tup cs c id (L01 hc) hid)
  | clo g cs ys hl _ ih => exact .clo g cs ys hl fun j c y hc hy => ih j c y hc hy fun id hid => hn id (.clo g cs c id (L01 hc) hid)
  | ownNil id => exact absurd (.own ..) (hn id)
  | own id => exact absurd (.own ..) (hn id)
  | ownAt id => exact absurd (.own ..) (hn id)
  | ptr id => exact absurd (.ptr ..) (hn id)
  | mref id => exact absurd (.mref ..) (hn id)
theorem Jfu (x : AV) (id : Nat) : ¬ Names (x.kill allB) id := fun h => by
  have := (AV.kill_names allB x id h).2; simp [allB] at this
def Seen (Im : Nat -> Prop) (ρ : Nat -> Option Nat) : Nat -> Prop := fun b => Im b \/ ∃ id, ρ id = some b
theorem Jgf {f : AV -> AV} {es : List AV} {i : Nat} {c : AV} (h : (resL f es)[i]? = some c) : ∃ e, es[i]? = some e /\ (c = f e \/ (c = e /\ ∀ id, ¬ Names e id)) := by
  unfold resL at h
  split at h
  . rw [L03] at h
    cases he : es[i]? with
    | none => simp [he] at h
    | some e => simp [he] at h; exact ⟨e, rfl, .inl h.symm⟩
  . rename_i hn
    exact ⟨c, h, .inr ⟨rfl, fun id hid => hn ((AV.namesL_iff _ _).2 ⟨c, L01 h, AV.namesB_of allB hid rfl⟩)⟩⟩
theorem JaX (f : AV -> AV) (es : List AV) : (resL f es).length = es.length := by unfold resL; split <;> simp
def AV.isAgg : AV -> Bool | .agg _ => true | _ => false
theorem JcO {e : AV} (h : e.isAgg = false) : e.cells = [e] := by cases e <;> first | rfl | cases h
theorem JlB (p : Nat -> Bool) {e : AV} (h : e.isAgg = false) : (AV.dk p e).isAgg = false := by
  cases e with
  | agg cs => cases h
  | own a s i n => simp only [AV.dk]; split <;> rfl
  | ptr a s i n => simp only [AV.dk]; split <;> rfl
  | mref a => simp only [AV.dk]; split <;> rfl
  | _ => rfl
theorem JfF (n : Nat) (σ : Jac) {e : AV} (h : e.isAgg = false) : (resF n σ e).isAgg = false := by
  cases n with
  | zero => simp only [resF, AV.kill]; split; exact JlB _ h; exact h
  | succ n => cases e with
    | agg cs => cases h
    | own a s i n => simp only [resF, JfZ]; split <;> (try split) <;> rfl
    | ptr a s i n => simp only [resF, Jf0, resE]; split <;> (try split) <;> (try split) <;> rfl
    | mref a => simp only [resF, JfY]; split <;> (try split) <;> rfl
    | _ => rfl
theorem Jge (n : Nat) (σ : Jac) (e : AV) : (resF n σ e).cells.length = e.cells.length := by
  cases he : e.isAgg with
  | false => rw [JcO he, JcO (JfF n σ he)]; rfl
  | true => cases e with
    | agg cs => cases n with
      | zero => simp only [resF, AV.kill]; split <;> simp [AV.dk, AV.dkL_eq]
      | succ n => simp [resF, JaX]
    | _ => cases he
theorem JjW (hinv : Inv w ρ Im σ) : ∀ n : Nat, (∀ x y, Rep w ρ Im x y -> IRep w (Seen Im ρ) (resF n σ x) y) /\
    ∀ (e : AV) (j : Nat) (c : AV) (x : Value), (resF n σ e).cells[j]? = some c -> (∀ c0, e.cells[j]? = some c0 -> Rep w ρ Im c0 x) -> IRep w (Seen Im ρ) c x := by
  have hmono : ∀ {x y}, IRep w Im x y -> IRep w (Seen Im ρ) x y := fun h => h.mono (fun b hb => .inl hb) (fun _ _ => rfl)
  have nameless : ∀ {x y}, Rep w ρ Im x y -> (∀ id, ¬ Names x id) -> IRep w (Seen Im ρ) x y := fun h hn => hmono (Jby h hn)
  have plain : ∀ {x y}, Rep w ρ Im x y -> IRep w (Seen Im ρ) (x.kill allB) y := fun {x y} h => nameless (h.kill allB) (Jfu x)
  intro n
  induction n with
  | zero =>
    refine ⟨fun x y h => plain h, fun e j c x hc h => ?_⟩
    simp only [resF, AV.kill] at hc
    split at hc
    . rw [AV.dk_cells, L03] at hc
      cases hcs : e.cells[j]? with
      | none => simp [hcs] at hc
      | some c0 => simp [hcs] at hc; subst hc; exact nameless ((h c0 hcs).dk allB) fun id hid => by have := (AV.dk_names allB c0 id hid).2; simp [allB] at this
    . rename_i hn
      exact nameless (h c hc) fun id hid => hn (AV.namesB_of allB (Jbh (L01 hc) hid) rfl)
  | succ n ih =>
    obtain ⟨ih1, ih2⟩ := ih
    -- a member of a list that is handed on
    have memb : ∀ {es : List AV} {j : Nat} {c : AV} {x : Value}, (resL (resF n σ) es)[j]? = some c -> (∀ e, es[j]? = some e -> Rep w ρ Im e x) -> IRep w (Seen Im ρ) c x := fun hc h => by
      obtain ⟨e, he, hor⟩ := Jgf hc
      rcases hor with rfl | ⟨rfl, hn⟩
      . exact ih1 e _ (h e he)
      . exact nameless (h _ he) hn
    have main : ∀ x y, Rep w ρ Im x y -> IRep w (Seen Im ρ) (resF (n + 1) σ x) y := by
      intro x y h
      cases x with
      | own id sz i m =>
        simp only [resF]; unfold JfZ
        split
        . rename_i k hk
          split
          . rename_i hcond; obtain ⟨hle, rfl⟩ := hcond
            have hlen : (((resL (resF n σ) k.es).drop i).take m).length = m := by rw [L02, L0e, JaX]; omega
            have go : ∀ b cap (ad : Option Addr), ρ id = some b -> k.sz ≠ 0 -> (m ≠ 0 -> ad = some ⟨b, i * k.sz, none⟩) -> m <= cap -> y = .slice ad m cap -> IRep w (Seen Im ρ) (.sl k.sz (((resL (resF n σ) k.es).drop i).take m)) y := by
              rintro b cap ad hρ hz had hn rfl
              by_cases h0 : m = 0
              . subst h0; simp only [L1N]; exact .slnil ..
              . rw [had h0]
                obtain ⟨cur, hb, hl, hs, hc⟩ := hinv.blk id k b hk hρ hz
                have elems : ∀ q : Nat, q < m -> ∃ e e0 : AV, (((resL (resF n σ) k.es).drop i).take m)[q]? = some e /\ k.es[i + q]? = some e0 /\ (e = resF n σ e0 \/ (e = e0 /\ ∀ id, ¬ Names e0 id)) := fun q hq => by
                  have hlt : i + q < (resL (resF n σ) k.es).length := by rw [JaX]; omega
                  obtain ⟨e0, he0, hor⟩ := Jgf (L07 hlt)
                  exact ⟨_, e0, by rw [L0l, if_pos hq, L0B]; exact L07 hlt, he0, hor⟩
                have elen : ∀ (q : Nat) (e : AV), (((resL (resF n σ) k.es).drop i).take m)[q]? = some e -> e.cells.length = k.sz := fun q e he => by
                  have hq : q < m := by rw [<- hlen]; exact (L04.1 he).1
                  obtain ⟨e', e0, h1, h2, hor⟩ := elems q hq
                  rw [he] at h1; cases h1
                  rcases hor with rfl | ⟨rfl, _⟩
                  . rw [Jge]; exact hl e0 (L01 h2)
                  . exact hl _ (L01 h2)
                have := IRep.sl (w := w) (Im := Seen Im ρ) k.sz (((resL (resF n σ) k.es).drop i).take m) b (i * k.sz) cap (fun q j => (cur[(i + q) * k.sz + j]?).getD undef) (.inr ⟨id, hρ⟩) (by rw [hlen]; exact hn)
                  (fun e he => by obtain ⟨q, hq⟩ := L0s.1 he; exact elen q e hq) (fun q j hq hj => by
                    rw [hlen] at hq
                    obtain ⟨e', e0, h1, h2, hor⟩ := elems q hq
                    have hj' : j < e0.cells.length := by rw [hl e0 (L01 h2)]; exact hj
                    obtain ⟨v, hv, h1, _⟩ := hc (i + q) e0 j _ h2 (L07 hj')
                    have e1 : i * k.sz + q * k.sz + j = (i + q) * k.sz + j := by rw [L1q]
                    rw [e1, Jbm hb, hv]
                    exact ⟨rfl, h1⟩)
                  (fun q e j c he hcc => by
                    have hq : q < m := by rw [<- hlen]; exact (L04.1 he).1
                    obtain ⟨e', e0, h1, h2, hor⟩ := elems q hq
                    rw [he] at h1; cases h1
                    have hval : ∀ c0, e0.cells[j]? = some c0 -> Rep w ρ Im c0 ((cur[(i + q) * k.sz + j]?).getD undef) := fun c0 hc0 => by
                      obtain ⟨v, hv, _, hr⟩ := hc (i + q) e0 j c0 h2 hc0
                      simpa [hv] using hr
                    rcases hor with rfl | ⟨rfl, hn⟩
                    . exact ih2 e0 j c _ hcc hval
                    . exact nameless (hval c hcc) fun id hid => hn id (Jbh (L01 hcc) hid))
                rw [hlen] at this; exact this
            cases h with
            | im _ _ h => cases h
            | ownNil _ _ hρ => simp only [L1N]; exact .slnil ..
            | own _ _ _ b cap cur e hρ hn hcap hb hs hz => exact go b cap _ hρ hz (by simp) hn rfl
            | ownAt _ _ _ _ b cap ad hi hρ hn ha hz => exact go b cap ad hρ hz ha hn rfl
          . exact .any _
        . exact .any _
      | ptr id sz i j =>
        simp only [resF]; unfold Jf0
        split
        . rename_i k hk
          split
          . rename_i hsz; subst hsz; unfold resE
            split
            . rename_i e he
              cases h with
              | im _ _ h => cases h
              | ptr _ _ _ _ b hρ hz =>
                obtain ⟨cur, hb, hl, hs, hc⟩ := hinv.blk id k b hk hρ hz
                have hval : ∀ q c0, e.cells[q]? = some c0 -> Rep w ρ Im c0 ((cur[i * k.sz + q]?).getD undef) := fun q c0 hc0 => by
                  obtain ⟨v, hv, _, hr⟩ := hc i e q c0 he hc0
                  simpa [hv] using hr
                refine .pt (resF n σ e) j b (i * k.sz) (fun q => (cur[i * k.sz + q]?).getD undef) (.inr ⟨id, hρ⟩) (fun q hq => ?_) (fun q c hcc => ih2 e q c _ hcc (hval q))
                rw [Jge] at hq
                obtain ⟨v, hv, h1, _⟩ := hc i e q _ he (L07 hq)
                rw [Jbm hb, hv]; exact ⟨rfl, h1⟩
            . exact .any _
          . exact .any _
        . exact .any _
      | mref id =>
        simp only [resF]; unfold JfY
        split
        . rename_i k hk
          split
          . rename_i hz
            cases h with
            | im _ _ h => cases h
            | mref _ b hρ =>
              obtain ⟨ents, clk, hb, hl, hc⟩ := hinv.map id k b hk hρ hz
              have key : ∀ (i : Nat) (m : MapEntry), ents[i]? = some m -> ∃ v : AV, (resL (resF n σ) k.es)[i]? = some (.tup [.v m.key, v]) /\ IRep w (Seen Im ρ) v m.val := fun i m hm => by
                obtain ⟨v0, hv0, hr⟩ := hc i m hm
                have hlt : i < (resL (resF n σ) k.es).length := by rw [JaX, hl.1]; exact (L0j.1 hm).1
                obtain ⟨e, he, hor⟩ := Jgf (L07 hlt)
                rw [hv0] at he; cases he
                have hirep := memb (x := .tuple #[m.key, m.val]) (L07 hlt) (fun e he => by
                  rw [hv0] at he; cases he
                  refine .tup [.v m.key, v0] [m.key, m.val] rfl fun j c y hcj hyj => ?_
                  cases j with
                  | zero => simp at hcj hyj; subst hcj; subst hyj; exact .im _ _ (.v _)
                  | succ j => cases j with
                    | zero => simp at hcj hyj; subst hcj; subst hyj; exact hr
                    | succ j => simp at hcj)
                have hshape : ∃ v, (resL (resF n σ) k.es)[i] = AV.tup [.v m.key, v] := by
                  rcases hor with h | ⟨h, _⟩
                  . rw [h]
                    cases n with
                    | zero => simp only [resF, AV.kill]; split <;> simp [AV.dk, AV.dkL]
                    | succ n => simp only [resF]; unfold resL; split
                                . simp only [L0n, L0C]
                                  cases n with
                                  | zero => exact ⟨_, by simp [resF, AV.kill, AV.namesB]; rfl⟩
                                  | succ n => exact ⟨_, by simp [resF]; rfl⟩
                                . exact ⟨_, rfl⟩
                  . exact ⟨_, h⟩
                obtain ⟨v, hv⟩ := hshape; rw [hv] at hirep
                refine ⟨v, (L07 hlt).trans (congrArg some hv), ?_⟩
                generalize hyy : Value.tuple #[m.key, m.val] = yy at hirep
                cases hirep with
                | tup _ ys hyl hyr =>
                  injection hyy with hyy
                  have : ys = [m.key, m.val] := by simpa using congrArg Array.toList hyy.symm
                  subst this
                  exact hyr 1 v m.val rfl rfl
              classical
              exact .mp _ b ents clk (fun i => match ents[i]? with | some m => if hm : ∃ v, (resL (resF n σ) k.es)[i]? = some (.tup [.v m.key, v]) /\ IRep w (Seen Im ρ) v m.val then Classical.choose hm else .any | none => .any) (.inr ⟨id, hρ⟩) hb ⟨by rw [JaX, hl.1], hl.2⟩
                (fun i m hm => by
                  simp only [hm]; rw [dif_pos (key i m hm)]
                  exact (Classical.choose_spec (key i m hm)).1)
                (fun i m hm => by
                  simp only [hm]; rw [dif_pos (key i m hm)]
                  exact (Classical.choose_spec (key i m hm)).2)
          . exact .any _
        . exact .any _
      | agg cs =>
        simp only [resF]; obtain ⟨ys, rfl, hl, h1, hr⟩ := h.agg_inv
        exact .agg _ ys (by rw [JaX, hl]) h1 fun j c y hc hy => memb hc fun e he => hr j e y he hy
      | tup cs =>
        simp only [resF]; obtain ⟨ys, rfl, hl, hr⟩ := h.tup_inv
        exact .tup _ ys (by rw [JaX, hl]) fun j c y hc hy => memb hc fun e he => hr j e y he hy
      | clo g cs =>
        simp only [resF]; obtain ⟨ys, rfl, hl, hr⟩ := h.clo_inv
        exact .clo g _ ys (by rw [JaX, hl]) fun j c y hc hy => memb hc fun e he => hr j e y he hy
      | any => exact nameless h fun id hid => by cases hid
      | v x => exact nameless h fun id hid => by cases hid
      | sl a b => exact nameless h fun id hid => by cases hid
      | pt a b => exact nameless h fun id hid => by cases hid
      | new a b c => exact nameless h fun id hid => by cases hid
      | nptr a b c => exact nameless h fun id hid => by cases hid
      | yld l => exact nameless h fun id hid => by cases hid
      | mp es => exact nameless h fun id hid => by cases hid
      | cut a b => exact nameless h fun id hid => by cases hid
    refine ⟨main, fun e j c x hc h => ?_⟩
    cases he : e.isAgg with
    | false =>
      rw [JcO (JfF (n + 1) σ he)] at hc; rw [JcO he] at h
      cases j with
      | zero => simp at hc; subst hc; exact main e x (h e rfl)
      | succ j => simp at hc
    | true => cases e with
      | agg cs => simp only [resF, AV.cells_agg] at hc; exact memb hc h
      | _ => cases he
theorem Jng (hinv : Inv w ρ Im σ) (n : Nat) {x : AV} {y : Value} (h : Rep w ρ Im x y) : IRep w (Seen Im ρ) (resF n σ x) y := (JjW hinv n).1 x y h
theorem JpC (hinv : Inv w ρ Im σ) (n : Nat) {e : AV} {j : Nat} {c : AV} {x : Value} (hc : (resF n σ e).cells[j]? = some c) (h : ∀ c0, e.cells[j]? = some c0 -> Rep w ρ Im c0 x) : IRep w (Seen Im ρ) c x := (JjW hinv n).2 e j c x hc h
theorem Jg8 (hinv : Inv w ρ Im σ) {x : AV} {y : Value} (h : Rep w ρ Im x y) : IRep w (Seen Im ρ) (res σ x) y := Jng hinv 8 h
theorem JjX {x : AV} (hn : AV.namesB allB x = false) : res σ x = x := by
  unfold res
  cases x with
  | own => simp [AV.namesB, allB] at hn
  | ptr => simp [AV.namesB, allB] at hn
  | mref => simp [AV.namesB, allB] at hn
  | agg cs => simp only [AV.namesB] at hn; simp [resF, resL, hn]
  | tup cs => simp only [AV.namesB] at hn; simp [resF, resL, hn]
  | clo g cs => simp only [AV.namesB] at hn; simp [resF, resL, hn]
  | _ => rfl
def JbT (w : World) (Im : Nat -> Prop) (e sz : Nat) (es : List AV) (b : Nat) : Prop :=
  ∃ cur, (∃ fr, w.heap[b]? = some (.cells cur e fr) /\ Mk fr cur.size) /\ (∀ x ∈ es, x.cells.length = sz) /\ es.length * sz <= cur.size /\
    ∀ (i : Nat) (x : AV) (j : Nat) (c : AV), es[i]? = some x -> x.cells[j]? = some c -> ∃ v, cur[i * sz + j]? = some v /\ v.oneCell' = true /\ IRep w Im c v
def R1 (w : World) (Im : Nat -> Prop) (r : AV) (y : Value) (ob : Option Nat) : Prop :=
  match r with
  | .new e sz es => (ob = none /\ es = [] /\ y = .slice none 0 0) \/
      ∃ b cap, sz ≠ 0 /\ ob = some b /\ y = .slice (some ⟨b, 0, none⟩) es.length cap /\ es.length <= cap /\ cap <= maxLen /\ (∃ cur, (∃ fr, w.heap[b]? = some (.cells cur e fr) /\ Mk fr cur.size) /\ cur.size = cap * sz) /\ JbT w Im e sz es b
  | .nptr e sz es => ∃ b, sz ≠ 0 /\ ob = some b /\ y = .pointer (some ⟨b, 0, none⟩) /\ JbT w Im e sz es b
  | r => ob = none /\ IRep w Im r y
def RL (w : World) (Im : Nat -> Prop) : List AV -> List Value -> List (Option Nat) -> Prop
  | [], [], [] => True
  | r :: rs, y :: ys, ob :: obs => R1 w Im r y ob /\ RL w Im rs ys obs
  | _, _, _ => False
def Jdv (lo : Nat) (Im : Nat -> Prop) (obs : List (Option Nat)) : Prop :=
  (∀ b, some b ∈ obs -> lo <= b /\ ¬ Im b) /\ obs.Pairwise fun x y => x = none \/ x ≠ y
def RRep (w w' : World) (Im : Nat -> Prop) (r : AV) (y : Value) : Prop :=
  ∃ Im' : Nat -> Prop, (∀ b, Im b -> Im' b) /\ (∀ b, Im' b -> Im b \/ (w.heap.size <= b /\ b < w'.heap.size)) /\
    match r with
    | .tup rs => ∃ ys obs, y = .tuple ys.toArray /\ RL w' Im' rs ys obs /\ Jdv w.heap.size Im' obs
    | .clo g rs => ∃ ys obs, y = mkF g ys /\ RL w' Im' rs ys obs /\ Jdv w.heap.size Im' obs
    | r => ∃ ob, R1 w' Im' r y ob /\ Jdv w.heap.size Im' [ob]
def Jid (w : World) (Im : Nat -> Prop) (cs : List AV) (ys : List Value) : Prop :=
  cs.length = ys.length /\ ∀ (j : Nat) (c : AV) (y : Value), cs[j]? = some c -> ys[j]? = some y -> IRep w Im c y
def FnOK (P : Program) (f : FuncId) (R : List AV -> AV -> Prop) : Prop :=
  ∀ args r, R args r -> (∀ as w, (callFunc f as).run P w = .ok (.enter f as) w) /\
    ∀ (w : World) (Im : Nat -> Prop) (vs : List Value), (∀ b, Im b -> b < w.heap.size) -> GOK w Im -> Jid w Im args vs ->
      Calls P f vs.toArray w fun e w' => ∃ y, e = .returned y /\ Ext w (fun _ => False) w' /\ RRep w w' Im r y
def imp1 (id : Nat) (r : AV) : AV × List (Nat × Blk) :=
  match r with
  | .new e sz es => (.own id sz 0 es.length, [(id, ⟨e, sz, es⟩)])
  | .nptr e sz es => (.ptr id sz 0 0, [(id, ⟨e, sz, es⟩)])
  | r => (r, [])
def impL : Nat -> List AV -> List AV × List (Nat × Blk)
  | _, [] => ([], [])
  | id, r :: rs => ((imp1 id r).1 :: (impL (id + 1) rs).1, (imp1 id r).2 ++ (impL (id + 1) rs).2)
def imp (id : Nat) (r : AV) : AV × List (Nat × Blk) :=
  match r with
  | .tup rs => (.tup (impL id rs).1, (impL id rs).2)
  | .clo g rs => (.clo g (impL id rs).1, (impL id rs).2)
  | r => imp1 id r
variable {P : Program} {C : Fx} {w : World} {ρ : Nat -> Option Nat} {Im : Nat -> Prop} {M : Str} {E : Env} {σ : Jac} {a : Act}
mutual
def AV.flat : AV -> Bool
  | .any => true
  | .v _ => true
  | .agg cs => AV.flatL cs
  | .sl _ es => es.isEmpty
  | .new _ _ es => AV.flatL es
  | .nptr _ _ es => AV.flatL es
  | .tup cs => AV.flatL cs
  | .clo _ cs => AV.flatL cs
  | _ => false
def AV.flatL : List AV -> Bool
  | [] => true
  | c :: cs => AV.flat c && AV.flatL cs
end
theorem AV.flatL_iff (cs : List AV) : AV.flatL cs = true ↔ ∀ c ∈ cs, AV.flat c = true := by
  induction cs with
  | nil => simp [AV.flatL]
  | cons c cs ih => simp [AV.flatL, ih]
theorem IRep.flat {x : AV} {y : Value} (h : IRep w Im x y) (hf : x.flat = true) (w' : World) (Im' : Nat -> Prop) : IRep w' Im' x y := by
  induction h with
  | any y => exact .any y
  | v x => exact .v x
  | agg cs ys hl h1 _ ih => exact .agg cs ys hl h1 fun j c y hc hy => ih j c y hc hy ((AV.flatL_iff cs).1 hf c (L01 hc))
  | slnil sz a cap => exact .slnil sz a cap
  | sl sz es b o cap f hIm hcap hsz hcc _ _ =>
    have : es = [] := by simpa [AV.flat] using hf
    subst this; exact .slnil ..
  | pt => simp [AV.flat] at hf
  | tup vs ys hl _ ih => exact .tup vs ys hl fun j c y hc hy => ih j c y hc hy ((AV.flatL_iff vs).1 hf c (L01 hc))
  | clo g caps ys hl _ ih => exact .clo g caps ys hl fun j c y hc hy => ih j c y hc hy ((AV.flatL_iff caps).1 hf c (L01 hc))
  | yld l => exact .yld l
  | mpnil => exact .mpnil
  | mp => simp [AV.flat] at hf
  | cut => simp [AV.flat] at hf
theorem IRep.nameless {x : AV} {y : Value} (h : IRep w Im x y) (id : Nat) : ¬ Names x id := by
  induction h with
  | agg cs ys hl _ _ ih => intro hn; cases hn with | agg _ c _ hc hn =>
      obtain ⟨j, hj⟩ := L0s.1 hc
      have hlt := (L04.1 hj).1
      exact ih j c _ hj (L07 (hl ▸ hlt)) hn
  | tup cs ys hl _ ih => intro hn; cases hn with | tup _ c _ hc hn =>
      obtain ⟨j, hj⟩ := L0s.1 hc
      have hlt := (L04.1 hj).1
      exact ih j c _ hj (L07 (hl ▸ hlt)) hn
  | clo g cs ys hl _ ih => intro hn; cases hn with | clo _ _ c _ hc hn =>
      obtain ⟨j, hj⟩ := L0s.1 hc
      have hlt := (L04.1 hj).1
      exact ih j c _ hj (L07 (hl ▸ hlt)) hn
  | _ => intro hn; cases hn
theorem JkY {v : AV} {id : Nat} (h : Names v id) : ∃ c ∈ v.cells, Names c id := by
  cases v with
  | agg cs => cases h with | agg _ c _ hc h => exact ⟨c, hc, h⟩
  | _ => exact ⟨_, by simp [AV.cells], h⟩
theorem JbT.nameless {e sz b : Nat} {es : List AV} (h : JbT w Im e sz es b) (id : Nat) : ∀ x ∈ es, ¬ Names x id := by
  obtain ⟨cur, _, _, _, hc⟩ := h
  intro x hx hn
  obtain ⟨c, hcx, hn⟩ := JkY hn
  obtain ⟨i, hi⟩ := L0s.1 hx
  obtain ⟨j, hj⟩ := L0s.1 hcx
  obtain ⟨v, _, _, hr⟩ := hc i x j c hi hj
  exact hr.nameless id hn
theorem JkH {x c : AV} (h : x.flat = true) (hc : c ∈ x.cells) : c.flat = true := by
  cases x with
  | agg cs => exact (AV.flatL_iff cs).1 h c hc
  | _ => simp only [AV.cells, L0p] at hc; subst hc; exact h
theorem JbT.flat {Im' : Nat -> Prop} {e sz b : Nat} {es : List AV} (h : JbT w Im e sz es b) (hf : AV.flatL es = true) : JbT w Im' e sz es b := by
  obtain ⟨cur, h1, h2, h3, hc⟩ := h
  exact ⟨cur, h1, h2, h3, fun i x j c hx hcx => by
    obtain ⟨v, hv, ho, hr⟩ := hc i x j c hx hcx
    exact ⟨v, hv, ho, hr.flat (JkH ((AV.flatL_iff es).1 hf x (L01 hx)) (L01 hcx)) _ _⟩⟩
theorem R1.flat {Im' : Nat -> Prop} {r : AV} {y : Value} {ob : Option Nat} (h : R1 w Im r y ob) (hf : r.flat = true) : R1 w Im' r y ob := by
  unfold R1 at h ⊢
  split
  . rcases h with h | ⟨b, cap, h0, h1, h2, h3, h4, h5, h6⟩
    . exact .inl h
    . exact .inr ⟨b, cap, h0, h1, h2, h3, h4, h5, h6.flat (by simpa [AV.flat] using hf)⟩
  . obtain ⟨b, h0, h1, h2, h3⟩ := h
    exact ⟨b, h0, h1, h2, h3.flat (by simpa [AV.flat] using hf)⟩
  . split at h
    . simp_all
    . simp_all
    . exact ⟨h.1, h.2.flat hf _ _⟩
theorem RL.flat {Im' : Nat -> Prop} : ∀ {rs : List AV} {ys : List Value} {obs : List (Option Nat)}, RL w Im rs ys obs -> AV.flatL rs = true -> RL w Im' rs ys obs
  | [], [], [], _, _ => trivial
  | r :: rs, y :: ys, ob :: obs, h, hf => by
    simp only [AV.flatL, L00] at hf
    exact ⟨h.1.flat hf.1, RL.flat h.2 hf.2⟩
theorem Jdv.im {lo : Nat} {Im' : Nat -> Prop} {obs : List (Option Nat)} (h : Jdv lo Im obs) (hI : ∀ b, lo <= b -> Im' b -> Im b) : Jdv lo Im' obs :=
  ⟨fun b hb => ⟨(h.1 b hb).1, fun hi => (h.1 b hb).2 (hI b (h.1 b hb).1 hi)⟩, h.2⟩
theorem RRep.flat {w' : World} {Im' : Nat -> Prop} {r : AV} {y : Value} (h : RRep w w' Im r y) (hf : r.flat = true) (hlow : ∀ b, Im' b -> b < w.heap.size) : RRep w w' Im' r y := by
  obtain ⟨I1, _, h2, h3⟩ := h
  refine ⟨fun b => Im' b \/ (w.heap.size <= b /\ I1 b /\ b < w'.heap.size), fun b hb => .inl hb, fun b hb => ?_, ?_⟩
  . rcases hb with hb | ⟨h1, _, h2⟩
    . exact .inl hb
    . exact .inr ⟨h1, h2⟩
  have hI : ∀ b, w.heap.size <= b -> (Im' b \/ (w.heap.size <= b /\ I1 b /\ b < w'.heap.size)) -> I1 b := fun b hle hb => by
    rcases hb with hb | ⟨_, hb, _⟩
    . have := hlow b hb; omega
    . exact hb
  revert h3
  split <;> intro h3
  . obtain ⟨ys, obs, h1, h4, h5⟩ := h3
    exact ⟨ys, obs, h1, h4.flat (by simpa [AV.flat] using hf), h5.im hI⟩
  . obtain ⟨ys, obs, h1, h4, h5⟩ := h3
    exact ⟨ys, obs, h1, h4.flat (by simpa [AV.flat] using hf), h5.im hI⟩
  . obtain ⟨ob, h1, h5⟩ := h3
    exact ⟨ob, h1.flat hf, h5.im hI⟩
theorem Jko (σ : Jac) (l l' : List (Nat × Blk)) : addS σ (l ++ l') = addS (addS σ l) l' := by
  induction l generalizing σ with
  | nil => rfl
  | cons x l ih => simp [addS, ih]
theorem Jeh {e sz b : Nat} {es : List AV} (h : JbT w Im e sz es b) : ∃ cur, (∃ fr, w.heap[b]? = some (.cells cur e fr) /\ Mk fr cur.size) /\ ∀ ρ, Jgk w ρ Im ⟨e, sz, es⟩ cur := by
  obtain ⟨cur, h1, h2, h3, hc⟩ := h
  exact ⟨cur, h1, fun ρ => ⟨h2, h3, fun i x j c hx hcx => by obtain ⟨v, hv, ho, hr⟩ := hc i x j c hx hcx; exact ⟨v, hv, ho, .im _ _ hr⟩⟩⟩
theorem Jfr {tm : Array Value} (hinv : Inv w ρ Im σ) (henv : JaG w ρ Im E tm) {id : Nat} (hcl : Jbd id E σ) {r : AV} {y : Value} {ob : Option Nat} (h : R1 w Im r y ob)
    (hob : ∀ b, ob = some b -> (∀ i, ρ i ≠ some b) /\ ¬ Im b) :
    ∃ ρ', Inv w ρ' Im (addS σ (imp1 id r).2) /\ JaG w ρ' Im E tm /\ Rep w ρ' Im (imp1 id r).1 y /\ (∀ i b, ρ' i = some b -> ρ i = some b \/ ob = some b) /\ (∀ v z, Rep w ρ Im v z -> ¬ Names v id -> Rep w ρ' Im v z) /\
      (∀ d, d ≠ id -> Jbd d E σ -> Jbd d E (addS σ (imp1 id r).2)) /\ (∀ d, Names (imp1 id r).1 d -> d = id) /\ ∀ i, i ≠ id -> ρ' i = ρ i := by
  have carry : ∀ ob v z, Rep w ρ Im v z -> ¬ Names v id -> Rep w (updR ρ id ob) Im v z := fun ob v z hr hn => hr.carry (fun _ _ => rfl) hn
  have env : ∀ ob, JaG w (updR ρ id ob) Im E tm := fun ob t y hy => carry ob _ _ (henv t y hy) (hcl.2.1 t)
  have keep : ∀ ob i, i ≠ id -> updR ρ id ob i = ρ i := fun ob i e => JaF _ _ _ _ e
  have rng : ∀ ob i b, updR ρ id ob i = some b -> ρ i = some b \/ ob = some b := fun ob i b hi => by
    by_cases e : i = id
    . subst e; rw [Jb7] at hi; exact .inr hi
    . rw [JaF _ _ _ _ e] at hi; exact .inl hi
  cases r with
  | new e sz es =>
    rcases h with ⟨rfl, rfl, rfl⟩ | ⟨b, cap, hz, rfl, rfl, hle, hcap, ⟨cur, hb, hsz⟩, hcont⟩
    . exact ⟨updR ρ id none, hinv.fresh (L0a _) (fun _ _ => rfl) hcl.1 hcl.2.2 (fun _ h => h) (fun _ h => .inl h) rfl, env none, .ownNil id sz (by simp), rng none, carry none, fun d hd hc => hc.add hd.symm (by simp), fun d hd => by cases hd; rfl, keep _⟩
    . obtain ⟨cur', hb', hf⟩ := Jeh hcont
      obtain ⟨h1, h2⟩ := hob b rfl
      exact ⟨updR ρ id (some b), hinv.adopt (L0a _) (fun _ _ => rfl) hcl h1 h2 hz hb' (hf _), env _, .own id sz es.length b cap cur e (by simp) hle hcap hb hsz hz, rng _, carry _,
        fun d hd hc => hc.add hd.symm (fun x hx => hcont.nameless d x hx), fun d hd => by cases hd; rfl, keep _⟩
  | nptr e sz es =>
    obtain ⟨b, hz, rfl, rfl, hcont⟩ := h
    obtain ⟨cur', hb', hf⟩ := Jeh hcont
    obtain ⟨h1, h2⟩ := hob b rfl
    have hp : Rep w (updR ρ id (some b)) Im (.ptr id sz 0 0) (.pointer (some ⟨b, 0, none⟩)) := by
      have := Rep.ptr (w := w) (ρ := updR ρ id (some b)) (Im := Im) id sz 0 0 b (by simp) hz
      simpa using this
    exact ⟨updR ρ id (some b), hinv.adopt (L0a _) (fun _ _ => rfl) hcl h1 h2 hz hb' (hf _), env _, hp, rng _, carry _,
        fun d hd hc => hc.add hd.symm (fun x hx => hcont.nameless d x hx), fun d hd => by cases hd; rfl, keep _⟩
  | _ =>
    obtain ⟨rfl, hr⟩ := h
    exact ⟨ρ, hinv, henv, .im _ _ hr, fun i b hi => .inl hi, fun _ _ hr _ => hr, fun d _ hc => hc, fun d hd => absurd hd (hr.nameless d), fun _ _ => rfl⟩
theorem JdX {tm : Array Value} : ∀ (rs : List AV) (ys : List Value) (obs : List (Option Nat)) (id : Nat) (ρ : Nat -> Option Nat) (σ : Jac), Inv w ρ Im σ -> JaG w ρ Im E tm ->
    (∀ k, k < rs.length -> Jbd (id + k) E σ) -> RL w Im rs ys obs -> (∀ b, some b ∈ obs -> (∀ i, ρ i ≠ some b) /\ ¬ Im b) -> obs.Pairwise (fun x y => x = none \/ x ≠ y) ->
    ∃ ρ', Inv w ρ' Im (addS σ (impL id rs).2) /\ JaG w ρ' Im E tm /\ Reps w ρ' Im (impL id rs).1 ys /\ (∀ i b, ρ' i = some b -> ρ i = some b \/ some b ∈ obs) /\
      (∀ v z, Rep w ρ Im v z -> (∀ k, k < rs.length -> ¬ Names v (id + k)) -> Rep w ρ' Im v z) /\ ∀ i, (∀ k, k < rs.length -> i ≠ id + k) -> ρ' i = ρ i
  | [], [], [], id, ρ, σ, hinv, henv, _, _, _, _ => ⟨ρ, hinv, henv, ⟨rfl, fun j c y hc => by simp [impL] at hc⟩, fun i b hi => .inl hi, fun _ _ hr _ => hr, fun _ _ => rfl⟩
  | r :: rs, y :: ys, ob :: obs, id, ρ, σ, hinv, henv, hcl, h, hob, hp => by
    rw [L1t] at hp
    obtain ⟨ρ1, i1, e1, r1, g1, c1, k1, n1, p1⟩ := Jfr hinv henv (id := id) (hcl 0 (by simp)) h.1 (fun b hb => hob b (by simp [hb]))
    obtain ⟨ρ2, i2, e2, r2, g2, c2, p2⟩ := JdX rs ys obs (id + 1) ρ1 _ i1 e1 (fun k hk => by
        have := hcl (k + 1) (by simp; omega)
        rw [show id + 1 + k = id + (k + 1) from by omega]
        exact k1 _ (by omega) this) h.2 (fun b hb => ⟨fun i hi => by
          rcases g1 i b hi with h' | h'
          . exact (hob b (by simp [hb])).1 i h'
          . subst h'
            rcases hp.1 (some b) hb with h' | h'
            . cases h'
            . exact h' rfl, (hob b (by simp [hb])).2⟩) hp.2
    refine ⟨ρ2, ?_, e2, ⟨?_, fun j c z hc hz => ?_⟩, fun i b hi => ?_, fun v z hr hn => ?_, fun i hi => (p2 i fun k hk => by have := hi (k + 1) (by simp; omega); omega).trans (p1 i (by have := hi 0 (by simp); omega))⟩
    . simp only [impL, Jko]; exact i2
    . simp only [impL, L0f, r2.1]
    . simp only [impL] at hc
      cases j with
      | zero =>
        simp at hc hz; subst hc; subst hz
        exact c2 _ _ r1 fun k hk hn => by have := n1 _ hn; omega
      | succ j => exact r2.2 j c z (by simpa using hc) (by simpa using hz)
    . rcases g2 i b hi with h' | h'
      . rcases g1 i b h' with h'' | h''
        . exact .inl h''
        . exact .inr (by simp [h''])
      . exact .inr (by simp [h'])
    . exact c2 v z (c1 v z hr (hn 0 (by simp))) fun k hk hnn => hn (k + 1) (by simp; omega) (by rw [show id + (k + 1) = id + 1 + k from by omega]; exact hnn)
def rlen : AV -> Nat
  | .tup rs => rs.length
  | .clo _ rs => rs.length
  | _ => 1
theorem Wit.back (hG : JaM C.G) (h : Wit C E σ a w ρ Im M) {w' : World} {r : AV} {y : Value} {id : Nat} (hpn : ∀ k, k < rlen r -> C.pin (id + k) = none) (hcl : ∀ k, k < rlen r -> Jbd (id + k) E σ) (hx : Ext w (fun _ => False) w') (hr : RRep w w' Im r y)
    {dst : Option Nat} (hd : ∀ d, dst = some d -> d < C.N) :
    ∃ ρ' Im', Wit C (updO E dst (imp id r).1) (addS σ (imp id r).2) (a.put dst y) w' ρ' Im' M := by
  obtain ⟨Im', hI1, hI2, hr⟩ := hr
  have hrho : ∀ i b, ρ i = some b -> ¬ Im' b := fun i b hi hb => by
    rcases hI2 b hb with h' | ⟨h', _⟩
    . exact h.inv.apart i b hi h'
    . have := h.inv.lt hi; omega
  have rep : ∀ {v : AV} {z : Value}, Rep w ρ Im v z -> Rep w' ρ Im' v z := fun {v z} hv =>
    Rep.mono (w := w) (w' := w') hI1 (fun b hb => hx.block b (h.inv.low b hb) _root_.id) hv fun i _ => ⟨rfl, fun b hi cur e hc => ⟨cur, by rw [hx.block b (h.inv.lt hi) _root_.id]; exact hc, rfl⟩⟩
  have hinv : Inv w' ρ Im' σ := ⟨h.inv.nil, fun i k b hk hi hz => by
      obtain ⟨ents, clk, hb, hl, hc⟩ := h.inv.map i k b hk hi hz
      exact ⟨ents, clk, by rw [hx.block b (h.inv.lt hi) _root_.id]; exact hb, hl, fun i m hm => by obtain ⟨v, hv, hr⟩ := hc i m hm; exact ⟨v, hv, rep hr⟩⟩, fun i k b hk hi hz => by
      obtain ⟨cur, hb, hl, hs, hc⟩ := h.inv.blk i k b hk hi hz
      exact ⟨cur, by rw [hx.block b (h.inv.lt hi) _root_.id]; exact hb, hl, hs, fun i e j c he hcc => by obtain ⟨v, hv, h1, hr⟩ := hc i e j c he hcc; exact ⟨v, hv, h1, rep hr⟩⟩,
    h.inv.inj, h.inv.live, hrho, fun b hb => by
      rcases hI2 b hb with h' | ⟨_, h'⟩
      . exact L0Q (h.inv.low b h') hx.size
      . exact h'⟩
  have henv : JaG w' ρ Im' E a.tmps := fun t z hz => rep (h.env t z hz)
  have fin : ∀ (v : AV) (l : List (Nat × Blk)) (ρ' : Nat -> Option Nat) (obs : List (Option Nat)), Jdv w.heap.size Im' obs -> Inv w' ρ' Im' (addS σ l) -> JaG w' ρ' Im' E a.tmps -> Rep w' ρ' Im' v y ->
      (∀ i b, ρ' i = some b -> ρ i = some b \/ some b ∈ obs) -> (∀ i, C.pin i ≠ none -> ρ' i = ρ i) -> Wit C (updO E dst v) (addS σ l) (a.put dst y) w' ρ' Im' M := fun v l ρ' obs hf i2 e2 r2 g2 p2 =>
    h.step hG (hx.mono fun _ _ h => h.elim) i2 (e2.put r2) (JbO ..) (Ja8 ..) (JdN hd) (fun i b hi => by
      rcases g2 i b hi with h' | h'
      . exact .inl h'
      . exact .inr (hf.1 b h').1) (fun b hb => (hI2 b hb).imp_right fun h => h.1) (fun i b hb => (p2 i (by rw [hb]; simp)).trans (h.pin i b hb)) hI1
  have fresh : ∀ obs, Jdv w.heap.size Im' obs -> ∀ b, some b ∈ obs -> (∀ i, ρ i ≠ some b) /\ ¬ Im' b := fun obs hf b hb => ⟨fun i hi => by have := h.inv.lt hi; have := (hf.1 b hb).1; omega, (hf.1 b hb).2⟩
  have one : ∀ ob, R1 w' Im' r y ob -> Jdv w.heap.size Im' [ob] -> Jbd id E σ -> C.pin id = none -> imp id r = imp1 id r -> ∃ ρ' Im', Wit C (updO E dst (imp id r).1) (addS σ (imp id r).2) (a.put dst y) w' ρ' Im' M := fun ob hr1 hf hc hpn he => by
    obtain ⟨ρ', i2, e2, r2, g2, _, _, _, p2⟩ := Jfr hinv henv (id := id) hc hr1 (fun b hb => fresh [ob] hf b (by simp [hb]))
    rw [he]
    exact ⟨ρ', Im', fin _ _ ρ' [ob] hf i2 e2 r2 (fun i b hi => by rcases g2 i b hi with h' | h'; exact .inl h'; exact .inr (by simp [h'])) (fun i hi => p2 i fun e => hi (by rw [e]; exact hpn))⟩
  cases r with
  | tup rs =>
    obtain ⟨ys, obs, rfl, hrl, hf⟩ := hr
    obtain ⟨ρ', i2, e2, r2, g2, _, p2⟩ := JdX rs ys obs id ρ σ hinv henv hcl hrl (fresh obs hf) hf.2
    exact ⟨ρ', Im', fin _ _ ρ' obs hf i2 e2 (.tup _ ys r2.1 r2.2) g2 (fun i hi => p2 i fun k hk e => hi (by rw [e]; exact hpn k hk))⟩
  | clo g rs =>
    obtain ⟨ys, obs, rfl, hrl, hf⟩ := hr
    obtain ⟨ρ', i2, e2, r2, g2, _, p2⟩ := JdX rs ys obs id ρ σ hinv henv hcl hrl (fresh obs hf) hf.2
    exact ⟨ρ', Im', fin _ _ ρ' obs hf i2 e2 (.clo g _ ys r2.1 r2.2) g2 (fun i hi => p2 i fun k hk e => hi (by rw [e]; exact hpn k hk))⟩
  | _ =>
    obtain ⟨ob, hr1, hf⟩ := hr
    exact one ob hr1 hf (by simpa using hcl 0 (by simp [rlen])) (by simpa using hpn 0 (by simp [rlen])) rfl
def Ev (P : Program) (f : FuncId) (args : List AV) (r : AV) : Prop := FnOK P f fun a b => a = args /\ b = r
structure Sp where
  P : Program
  N : Nat
  b : Nat
  pin : Nat -> Bool
  rd : Bool := false
  yl : Nat
  Y : List AV -> AV -> (AV -> AV -> Prop) -> Prop
  bad : Nat -> Bool := fun _ => false
  old : Nat -> Bool := fun _ => true
  itf : Bool := false
abbrev JjO : Nat -> Bool := fun _ => false
def tpt (P : Program) (t : TypeId) : Bool := match P.underlying t with | some (.pointer _) => true | some .unsafePointer => true | _ => false
def cls (P : Program) (op : Op) (ty : TypeId) : Nat :=
  match op with
  | .move (.const (.slice none 0 0)) => if (tel P ty).isSome then 1 else 0
  | .assign (.const (.slice none 0 0)) => if (tel P ty).isSome then 1 else 0
  | .load _ (.global _) => 5
  | .binOp _ t _ _ _ => if tpt P t then 5 else 0
  | .slice _ _ _ _ (some _) => 5
  | .slice t _ _ _ none => if (tarr P t).isSome then 5 else 0
  | .move _ | .assign _ | .pick _ _ _ | .load _ _ | .nilCheck _ | .build _ _ | .unOp _ _ _ | .makeFunc _ _ _ | .fieldAddr _ _ _ | .field _ _ _ | .indexAddr _ _ _ | .index _ _ _
  | .extract _ _ => 0
  | .convert _ t _ => if (tint P t).isSome then 0 else 5
  | .alloc _ => 1
  | .box _ _ => 1
  | .buildSlice _ _ _ => 1
  | .makeSlice _ _ _ => 1
  | .call { callee := .value _, .. } => 2
  | .call { callee := .builtin .append, .. } => 3
  | .call { callee := .builtin .len, .. } => 0
  | .call { callee := .builtin .max, .. } => 0
  | .call { callee := .builtin .min, .. } => 0
  | .call { callee := .builtin .unsafeSliceData, .. } => 0
  | .store _ _ _ => 4
  | .go _ => 9
  | .defer _ => 9
  | .select _ _ => 9
  | .panic _ => 9
  | .send _ _ => 9
  | .recv _ _ _ => 9
  | _ => 5
def own (d : Nat) : Nat -> Bool := fun i => i / 16 == d
def kE (kd : Bool) (d : Nat) (E : Env) : Env := if kd then JaT (own d) E else E
def kS (kd : Bool) (d : Nat) (σ : Jac) : Jac := if kd then Jaj (own d) σ else σ
mutual
def AV.dn : AV -> Bool
  | .any => false
  | .v _ => false
  | .yld _ => false
  | .own _ _ _ _ => true
  | .ptr _ _ _ _ => true
  | .mref _ => true
  | .agg cs => AV.dnL cs
  | .tup cs => AV.dnL cs
  | .clo _ cs => AV.dnL cs
  | .sl _ cs => AV.dnL cs
  | .cut _ cs => AV.dnL cs
  | .mp cs => AV.dnL cs
  | .pt e _ => AV.dn e
  | .new _ _ es => AV.dnL es
  | .nptr _ _ es => AV.dnL es
def AV.dnL : List AV -> Bool
  | [] => false
  | c :: cs => AV.dn c || AV.dnL cs
end
def JeK (S : Sp) (kd : Bool) (nm : Nat) (op : Op) (E : Env) (σ : Jac) (v : AV) (bl : List (Nat × Blk)) : Prop :=
  match op with
  | .call { callee := .value f, args, argTypes := _ } => match ev E f with
    | .clo g caps => JaH caps = true /\ ∃ r, Ev S.P g ((args.toList.map (ev E) ++ caps).map (res σ)) r /\ (AV.namesL allB (args.toList.map (ev E) ++ caps) = false \/ r.flat = true) /\ rlen r <= 16 /\ (kd = true \/ r.dn = false) /\
        v = (imp (16 * nm) r).1 /\ bl = (imp (16 * nm) r).2
    | _ => False
  | _ => False
def Jmt (S : Sp) (op : Op) (E : Env) (_σ : Jac) (K : AV -> AV -> Prop) : Prop :=
  match op with
  | .call { callee := .value f, args, argTypes := _ } => match ev E f with
    | .yld l => l = S.yl /\ AV.namesL allB (args.toList.map (ev E)) = false /\ S.Y (args.toList.map (ev E)) (E S.N) K
    | _ => False
  | _ => False
def FW (r : Option Nat) : Fence := { fn := fun _ => True, depth := none, alive := false, round := r }
theorem Jqn (l : Nat) : (FW none).inRound l = FW (some l) := rfl
theorem JdS {r : Option Nat} {n : Nat} {P : Program} {f : FuncId} {as : Array Value} {w : World} {R : Ending -> World -> Prop} (h : Calls P f as w R) : CallsIn (FW r) n P f as w R := by
  have h' : CallsIn Fence.wide n P f as w R := callsIn_wide.2 h
  exact h'
def Fx.rdl (C : Fx) : Option Nat := C.rd.map (·.1)
def YOK (S : Sp) (C : Fx) : Prop :=
  ∀ args g K, S.Y args g K -> ∀ (w : World) (Im : Nat -> Prop) (M : Str) (vs : List Value), (∀ b, Im b -> b < w.heap.size /\ ¬ M.m b) -> (∀ b, M.m b -> b < w.heap.size) -> (∀ b, M.j b -> Im b) -> (∀ b, Im b -> C.Im0 b \/ C.w0.heap.size <= b) -> Jid w Im args vs -> C.G g M w -> ∀ n,
    ∃ fn tmps assign body, (Instr.yield S.yl vs.toArray).run S.P w = .ok (.round S.yl fn tmps assign body) w /\ RoundIn (FW C.rdl) n S.P S.yl fn tmps assign body w fun e w' =>
      ∃ v g' M', e = .returned v /\ (∃ b, v = .bool b) /\ K (.v v) g' /\ (∀ p, AV.namesB p g' = false) /\ C.G g' M' w' /\ (∀ b, M'.m b -> b < w'.heap.size /\ (M.m b \/ w.heap.size <= b)) /\ (∀ b, M'.j b -> Im b) /\ Ext w M.m w'
def itA (r : Nat) (ks : List AV) (last : AV) : AV := .tup [.v (.pointer (some ⟨r, 0, none⟩)), .sl 1 ks, last]
def JCa (ents : Array MapEntry) (seen : Array Nat) : List MapEntry := ents.toList.filter fun e => !seen.contains e.born
def itG (g : AV) (M : Str) (w : World) : Prop := ∀ r ks last, g = itA r ks last -> M.m r /\ ∃ bm seen clk ents, M.j bm /\ w.heap[r]? = some (.mapIter (some bm) clk seen clk) /\ w.heap[bm]? = some (.map ents clk) /\ Bn ents clk /\
  ks = (JCa ents seen).map (fun m => .v m.key) /\ ∀ k, last = .v k -> ∃ m ∈ ents.toList, seen.back? = some m.born /\ m.key = k
structure Holds (S : Sp) (C : Fx) : Prop where
  N : S.N = C.N
  G : JaM C.G
  Y : YOK S C
  mo : S.P.follows .mixedOrders = true
  pin : ∀ id b, C.pin id = some b -> S.pin id = true
  low : ∀ id, S.pin id = true -> id / 16 < S.b \/ S.b + 100000 <= id / 16
  big : S.N <= 99999
  rdn : S.rd = false -> C.rd = none
  fz : ∀ id b, C.X0 b -> C.R0 id b -> S.old id = true
  gk : GOK C.w0 C.J0
  gx : ∀ b, GIs b -> ¬ C.X0 b /\ b < C.w0.heap.size
  it : S.itf = true -> C.G = itG := by intro h; cases h
theorem Wit.gok {S : Sp} {C : Fx} {E : Env} {σ : Jac} {a : Act} {w : World} {ρ : Nat -> Option Nat} {Im : Nat -> Prop} {M : Str} (H : Holds S C) (h : Wit C E σ a w ρ Im M) : GOK w Im :=
  H.gk.mono h.j0 fun b hb => h.ext.block b (H.gx b hb).2 (H.gx b hb).1
def semV (S : Sp) (o : Oper) (K : Env -> Jac -> Prop) (E : Env) (σ : Jac) : Prop :=
  ∀ (C : Fx), Holds S C -> ∀ (n : Nat) (a : Act) (w : World) (Kc : Act -> World -> Prop) (Q : Exit -> Act -> World -> Prop), St C E σ a w ->
    (∀ E' σ' a' w', K E' σ' -> St C E' σ' a' w' -> Kc a' w') -> o.wpIn (FW C.rdl) n S.P a w Kc Q
def aop (S : Sp) (kd bi : Bool) (o : Oper) (K Kb : Env -> Jac -> Prop) (E : Env) (σ : Jac) : Prop :=
  match cls S.P o.op o.type with
  | 0 => ∃ v, JaB S.P o.op E σ v /\ K (updO E o.dst v) σ
  | 1 => ∃ d, o.dst = some d /\ ∃ v bl, newV S.P (S.b + d) o.op o.type (kE kd (S.b + d) E) v bl /\ K (upd (kE kd (S.b + d) E) d v) (addS (kS kd (S.b + d) σ) bl)
  | 2 => (∃ v bl, JeK S kd (S.b + o.dst.getD 99999) o.op (kE kd (S.b + o.dst.getD 99999) E) (kS kd (S.b + o.dst.getD 99999) σ) v bl /\
        K (updO (kE kd (S.b + o.dst.getD 99999) E) o.dst v) (addS (kS kd (S.b + o.dst.getD 99999) σ) bl)) \/
      (bi = true /\ Jmt S o.op E σ fun v g => Kb (updO (upd E S.N g) o.dst v) σ) \/ (bi = true /\ semV S o Kb E σ)
  | 3 => ∃ d, o.dst = some d /\ appV S.P o.op E σ fun id sz n k => S.pin id = false /\ Kb (upd (JaT (isId id) E) d (.own id sz 0 n)) (updS (Jaj (isId id) σ) id (k.kill (isId id)))
  | 4 => Jem S.P o.op E σ fun id k => Kb (updO E o.dst (.v undef)) (updS σ id k)
  | 5 => semV S o Kb E σ
  | _ => False
def gop (S : Sp) (kd bi : Bool) (ops : Array Oper) (o : Oper) (K Kb : Env -> Jac -> Prop) (E : Env) (σ : Jac) : Prop :=
  match o.guard with
  | none => aop S kd bi o K Kb E σ
  | some (j, want) => match (ops[j]?).bind (·.dst) with
    | none => False
    | some t => match E t with
      | .v (.bool b) => (b = want -> aop S kd bi o K Kb (upd E t (.v (.bool want))) σ) /\ (b = !want -> K (updO (upd E t (.v (.bool !want))) o.dst (.v undef)) σ)
      | .v (.tuple _) => K (updO E o.dst (.v undef)) σ
      | _ => False
def waits (ops : Array Oper) : Nat -> Nat -> Nat -> Bool
  | 0, _, _ => false
  | n + 1, j, i => match ops[j]? with
    | some o => o.after.any fun e => Region.binds .any e && (e.on == i || waits ops n e.on i)
    | none => false
def bar (ops : Array Oper) (i : Nat) : Bool := (List.range ops.size).all fun j => j == i || waits ops ops.size i j || waits ops ops.size j i
def regP (S : Sp) (l : List Oper) : Nat -> Bool := fun i => (l.filterMap fun o => if cls S.P o.op o.type == 1 || cls S.P o.op o.type == 2 then some (S.b + o.dst.getD 99999) else none).contains (i / 16)
def struck (S : Sp) (dr : Bool) (l : List Oper) (K : Env -> Jac -> Prop) (E : Env) (σ : Jac) : Prop := if dr then K (JaT (regP S l) E) (Jaj (regP S l) σ) else K E σ
def Jef (S : Sp) (dr : Bool) (ops : Array Oper) : Nat -> List Oper -> (Env -> Jac -> Prop) -> Env -> Jac -> Prop
  | _, [], K => K
  | i, o :: rest, K => gop S (!dr) (!dr || bar ops i) ops o (Jef S dr ops (i + 1) rest K) (struck S dr rest (Jef S dr ops (i + 1) rest K))
def Jc4 (K : Env -> Jac -> Prop) (Q : Exit -> Env -> Jac -> Prop) : Exit -> Env -> Jac -> Prop
  | .normal => K
  | e => Q e
def Jdy (id : Nat) (Q : Exit -> Env -> Jac -> Prop) : Exit -> Env -> Jac -> Prop
  | .exit id' => if id' = id then Q .normal else Q (.exit id')
  | e => Q e
def Je9 (Q : Exit -> Env -> Jac -> Prop) : Exit -> Env -> Jac -> Prop
  | .goto _ => fun _ _ => False
  | e => Q e
def semC (S : Sp) (c : Code) (Q : Exit -> Env -> Jac -> Prop) (E : Env) (σ : Jac) : Prop :=
  ∀ (C : Fx), Holds S C -> ∀ (n : Nat) (R : Exit -> Act -> World -> Prop), (∀ e E σ a w, Q e E σ -> St C E σ a w -> R e a w) -> ∀ a w, St C E σ a w -> c.wpIn (FW C.rdl) n S.P R a w
def awp (S : Sp) : Code -> (Exit -> Env -> Jac -> Prop) -> Env -> Jac -> Prop
  | .skip, Q => Q .normal
  | .label _, Q => Q .normal
  | .seq a b, Q => awp S a (Jc4 (awp S b Q) Q)
  | .region id ops draw, Q => fun E σ => if S.bad id = true then semC S (.region id ops draw) Q E σ else struck S draw ops.toList (Jef S draw ops 0 ops.toList (Q .normal)) E σ
  | .cond c x y, Q => fun E σ => match ev E c with
    | .v (.bool b) => (b = true -> awp S x Q E σ) /\ (b = false -> awp S y Q E σ)
    | _ => False
  | .block id c, Q => awp S c (Jdy id Q)
  | .scope c, Q => awp S c (Je9 Q)
  | .loop c, Q => fun E σ => ∃ (I : Env -> Jac -> Prop) (μ : Env -> Jac -> Nat), I E σ /\ ∀ E σ, I E σ -> awp S c (Jc4 (fun E' σ' => I E' σ' /\ μ E' σ' < μ E σ) Q) E σ
  | .exit id, Q => Q (.exit id)
  | .ret, Q => Q .ret
  | .rangeFunc f ps as body, Q => semC S (.rangeFunc f ps as body) Q
  | _, _ => fun _ _ => False
def Oper.fits (P : Program) (N : Nat) (o : Oper) : Bool := o.dst.all (decide <| · < N) && Op.low N o.op && cls P o.op o.type != 9
def isNm (P : Program) (o : Oper) : Bool := cls P o.op o.type == 1 || cls P o.op o.type == 2
def Jeg (P : Program) (ops : Array Oper) : Bool :=
  (List.range ops.size).all fun i => match ops[i]? with
    | none => false
    | some oi => oi.after.all (fun e => !Region.binds .any e || decide (e.on < i)) && (match oi.guard with | some (g, _) => decide (g < i) | none => true) &&
      ((List.range ops.size).all fun j => decide (j <= i) || match ops[j]? with
        | none => false
        | some oj => (waits ops ops.size j i || (oi.apart ops oj && decide (cls P oi.op oi.type <= 2) && decide (cls P oj.op oj.type <= 2))) &&
            (!isNm P oi || !isNm P oj || (oi.dst.getD 99999 != oj.dst.getD 99999)))
def JaY (P : Program) (N : Nat) (bad : Nat -> Bool) : Code -> Bool
  | .skip => true
  | .label _ => true
  | .seq a b => JaY P N bad a && JaY P N bad b
  | .region id ops draw => (bad id || ops.toList.all (Oper.fits P N)) && (!draw || bad id || Jeg P ops)
  | .cond c x y => Operand.low N c && JaY P N bad x && JaY P N bad y
  | .block _ c => JaY P N bad c
  | .scope c => JaY P N bad c
  | .loop c => JaY P N bad c
  | .exit _ => true
  | .ret => true
  | .rangeFunc _ _ _ _ => true
  | .refuse _ => true
  | _ => false
section
variable {S : Sp} {C : Fx} {E : Env} {σ : Jac} {a : Act} {w : World} {ρ : Nat -> Option Nat} {Im : Nat -> Prop} {M : Str}
theorem Holds.own (H : Holds S C) {d : Nat} (hd : d < 100000) : ∀ id b, C.pin id = some b -> Vai.own (S.b + d) id = false := fun id b hb => by
  have := H.low id (H.pin id b hb)
  simp only [Vai.own, beq_eq_false_iff_ne]; omega
theorem Holds.free (H : Holds S C) {d : Nat} (hd : d < 100000) : ∀ k, k < 16 -> C.pin (16 * (S.b + d) + k) = none := fun k hk => by
  cases hp : C.pin (16 * (S.b + d) + k) with
  | none => rfl
  | some b =>
    have := H.own hd _ b hp
    simp only [Vai.own, beq_eq_false_iff_ne] at this; omega
theorem JaQ {o : Oper} {y : Value} {w' : World} {n : Nat} {K : Act -> World -> Prop} {Q : Exit -> Act -> World -> Prop} (hop : ∀ c, o.op ≠ .defer c)
    (hr : (execOp a.eval o).run S.P w = .ok (.value y) w') (h : K (a.put o.dst y) w') : o.wpIn (FW C.rdl) n S.P a w K Q := by
  refine ⟨fun _ _ => trivial, ?_⟩
  rw [Oper.semAt_eq _ _ _ hop, hr]; exact h
theorem JfL {o : Oper} {w' : World} {n : Nat} {K : Act -> World -> Prop} {Q : Exit -> Act -> World -> Prop} (hop : ∀ c, o.op ≠ .defer c)
    (hr : (execOp a.eval o).run S.P w = .ok .skip w') (h : K (a.put o.dst undef) w') : o.wpIn (FW C.rdl) n S.P a w K Q := by
  refine ⟨fun _ _ => trivial, ?_⟩
  rw [Oper.semAt_eq _ _ _ hop, hr]; exact h
theorem Jda {o : Oper} {N : Nat} (h : Oper.fits S.P N o = true) : (∀ d, o.dst = some d -> d < N) /\ Op.low N o.op = true /\ cls S.P o.op o.type ≠ 9 := by
  simp only [Oper.fits, L00, bne_iff_ne, ne_eq] at h
  refine ⟨fun d hd => ?_, h.1.2, h.2⟩
  have := h.1.1; rw [hd] at this; simpa using this
theorem Jgy {P : Program} {op : Op} {ty : TypeId} (h : cls P op ty ≠ 9) : ∀ c, op ≠ .defer c := fun c e => by subst e; exact h rfl
theorem Jku (H : Holds S C) (h : Wit C E σ a w ρ Im M) {o : Oper} (hf : Oper.fits S.P S.N o = true) {d : Nat} (hpn : ∀ k, k < 16 -> C.pin (16 * d + k) = none) (hcl : ∀ k, k < 16 -> Jbd (16 * d + k) E σ) {v : AV} {bl : List (Nat × Blk)} {kd : Bool}
    (hv : JeK S kd d o.op E σ v bl) {n : Nat} {K : Act -> World -> Prop} {Q : Exit -> Act -> World -> Prop} (hK : ∀ y w' ρ' Im', Wit C (updO E o.dst v) (addS σ bl) (a.put o.dst y) w' ρ' Im' M -> K (a.put o.dst y) w') :
    o.wpIn (FW C.rdl) n S.P a w K Q := by
  obtain ⟨hdst, hlow, hc9⟩ := Jda hf
  have rep : ∀ x, x ∈ o.op.operands -> Rep w ρ Im (ev E x) (a.eval x) := fun x hx => JbL h.env (by rw [h.size, <- H.N]; exact Jbw hlow hx)
  have hdf := Jgy hc9
  refine ⟨fun _ _ => trivial, ?_⟩
  rw [Oper.semAt_eq _ _ _ hdf]; obtain ⟨dst, op, ty, pos, after, guard⟩ := o
  simp only at hdst hlow hv hK rep
  unfold JeK at hv
  split at hv
  . rename_i f args ats
    split at hv
    . rename_i g caps hfv; obtain ⟨hhd, r, hΓ, hor, hrl, _, rfl, rfl⟩ := hv
      have hfr := rep f (by simp [Op.operands, Call.operands])
      rw [hfv] at hfr
      obtain ⟨cys, hfy, hcl', hcr⟩ := hfr.clo_plain hhd
      have hargs : ∀ x ∈ args.toList, Rep w ρ Im (ev E x) (a.eval x) := fun x hx => rep x (by simp [Op.operands, Call.operands]; exact Or.inr (L0t.1 hx))
      -- the arguments and what was captured
      have hall : Reps w ρ Im (args.toList.map (ev E) ++ caps) (args.toList.map a.eval ++ cys) := by
        refine ⟨by simp [hcl'], fun j c y hc hy => ?_⟩
        by_cases hj : j < args.toList.length
        . rw [L0m (by simpa using hj), L03] at hc hy
          rw [L07 hj] at hc hy
          simp at hc hy; subst hc; subst hy
          exact hargs _ (by simp)
        . rw [L0o (by simp at hj ⊢; omega)] at hc hy
          simp only [L05] at hc hy
          exact hcr _ c y hc hy
      obtain ⟨henter, hfn⟩ := hΓ _ r ⟨rfl, rfl⟩
      have hrun : (execOp a.eval { dst, op := .call { callee := .value f, args, argTypes := ats }, type := ty, pos, after, guard }).run S.P w = .ok (.enter g (args.toList.map a.eval ++ cys).toArray) w := by
        simp only [execOp, resolve, hfy, Deferred.ofValue, Sem.run_bind, Sem.run_pure, Result.andThen_ok, invoke]
        have e1 : (#[] ++ args.map a.eval ++ cys.toArray : Array Value) = (args.toList.map a.eval ++ cys).toArray := by apply L0V.1; simp
        rw [e1]; exact henter _ w
      rw [hrun]
      refine ⟨fun h => by simp [FW] at h, JdS ?_⟩
      have back : ∀ y w', Ext w (fun _ => False) w' -> RRep w w' Im r y -> K (a.put dst y) w' := fun y w' hx hr => by
        obtain ⟨ρ', Im', hw⟩ := h.back H.G (id := 16 * d) (fun k hk => hpn k (by omega)) (fun k hk => hcl k (by omega)) hx hr (dst := dst) (by rw [<- H.N]; exact hdst)
        exact hK y w' ρ' Im' hw
      rcases hor with hn | hflat
      . have hres : (args.toList.map (ev E) ++ caps).map (res σ) = args.toList.map (ev E) ++ caps := by
          rw [L0W (g := id)]
          . simp
          . intro x hx
            refine JjX ?_
            cases hb : AV.namesB allB x with
            | false => rfl
            | true => have := (AV.namesL_iff allB _).2 ⟨x, hx, hb⟩; rw [hn] at this; cases this
        rw [hres] at hfn
        refine (hfn w Im _ h.inv.low (h.gok H) ⟨hall.1, fun j c y hc hy => Jby (hall.2 j c y hc hy) fun id hid => ?_⟩).mono fun e w' ⟨y, he, hx, hr⟩ => by subst he; exact back y w' hx hr
        have := (AV.namesL_iff allB _).2 ⟨c, L01 hc, AV.namesB_of allB hid rfl⟩
        rw [hn] at this; cases this
      . refine (hfn w (Seen Im ρ) _ (fun b hb => by
          rcases hb with hb | ⟨id, hb⟩
          . exact h.inv.low b hb
          . exact h.inv.lt hb) ((h.gok H).mono (fun _ h => .inl h) fun _ _ => rfl) ⟨by simpa using hall.1, fun j c y hc hy => ?_⟩).mono fun e w' ⟨y, he, hx, hr⟩ => by subst he; exact back y w' hx (hr.flat hflat h.inv.low)
        rw [L03] at hc
        cases hcj : (args.toList.map (ev E) ++ caps)[j]? with
        | none => simp [hcj] at hc
        | some c0 => simp [hcj] at hc; subst hc; exact Jg8 h.inv (hall.2 j c0 y hcj hy)
    . exact hv.elim
  . exact hv.elim
theorem Rep.yld_inv {l : Nat} {y : Value} (h : Rep w ρ Im (.yld l) y) : y = .func (.yield l) #[] #[] := by
  cases h with | im _ _ h => cases h; rfl
theorem Jkn (H : Holds S C) (h : Wit C E σ a w ρ Im M) {o : Oper} (hf : Oper.fits S.P S.N o = true) {A : AV -> AV -> Prop}
    (hv : Jmt S o.op E σ A) {n : Nat} {K : Act -> World -> Prop} {Q : Exit -> Act -> World -> Prop} (hK : ∀ v g y w' M', A v g -> Wit C (updO (upd E S.N g) o.dst v) σ (a.put o.dst y) w' ρ Im M' -> K (a.put o.dst y) w') :
    o.wpIn (FW C.rdl) n S.P a w K Q := by
  obtain ⟨hdst, hlow, hc9⟩ := Jda hf
  have rep : ∀ x, x ∈ o.op.operands -> Rep w ρ Im (ev E x) (a.eval x) := fun x hx => JbL h.env (by rw [h.size, <- H.N]; exact Jbw hlow hx)
  have hdf := Jgy hc9
  refine ⟨fun _ _ => trivial, ?_⟩
  rw [Oper.semAt_eq _ _ _ hdf]; obtain ⟨dst, op, ty, pos, after, guard⟩ := o
  simp only at hdst hlow hv hK rep
  unfold Jmt at hv
  split at hv
  . rename_i f args ats
    split at hv
    . rename_i l hfv; obtain ⟨rfl, hn, hY⟩ := hv
      have hfr := rep f (by simp [Op.operands, Call.operands])
      rw [hfv] at hfr
      have hfy : a.eval f = .func (.yield S.yl) #[] #[] := hfr.yld_inv
      have hargs : Jid w Im (args.toList.map (ev E)) (args.toList.map a.eval) := by
        refine ⟨by simp, fun j c y hc hy => ?_⟩
        rw [L03] at hc hy
        cases hx : args.toList[j]? with
        | none => simp [hx] at hc
        | some x =>
          simp only [hx, L0K, Option.some.injEq] at hc hy
          subst hc; subst hy
          have hmem := L01 hx
          refine Jby (rep x (by simp [Op.operands, Call.operands]; exact Or.inr (L0t.1 hmem))) fun id hid => ?_
          have := (AV.namesL_iff allB _).2 ⟨ev E x, L06.2 ⟨x, hmem, rfl⟩, AV.namesB_of allB hid rfl⟩
          rw [hn] at this; cases this
      rw [H.N] at hY
      obtain ⟨fn, tmps, assign, body, hyr, hround⟩ := H.Y _ _ _ hY w Im M _ (fun b hb => ⟨h.inv.low b hb, fun hm => (h.ms b hm).2.2.1 hb⟩) (fun b hb => (h.ms b hb).1) h.js h.im hargs h.g (n - 1)
      have hrun : (execOp a.eval { dst, op := .call { callee := .value f, args, argTypes := ats }, type := ty, pos, after, guard }).run S.P w = .ok (.round S.yl fn tmps assign body) w := by
        simp only [execOp, resolve, hfy, Deferred.ofValue, Sem.run_bind, Sem.run_pure, Result.andThen_ok, invoke]
        have e1 : (#[] ++ args.map a.eval : Array Value) = (args.toList.map a.eval).toArray := by apply L0V.1; simp
        rw [e1]; exact hyr
      rw [hrun]
      refine ⟨fun h => by simp [FW] at h, hround.mono ?_⟩
      rintro e w' ⟨v, g', M', rfl, ⟨b, rfl⟩, hA, hgn, hG', hM', hJ', hx⟩
      refine hK _ g' _ w' M' hA ?_
      have hIm : ∀ b, Im b -> ¬ M.m b := fun b hb hm => (h.ms b hm).2.2.1 hb
      have hrho : ∀ i b, ρ i = some b -> ¬ M.m b := fun i b hi hm => (h.ms b hm).2.1 i hi
      have rep' : ∀ {v : AV} {z : Value}, Rep w ρ Im v z -> Rep w' ρ Im v z := fun {v z} hv =>
        Rep.mono (w := w) (w' := w') (fun _ h => h) (fun b hb => hx.block b (h.inv.low b hb) (hIm b hb)) hv fun i _ => ⟨rfl, fun b hi cur e hc => ⟨cur, by rw [hx.block b (h.inv.lt hi) (hrho i b hi)]; exact hc, rfl⟩⟩
      have hNne : S.N = C.N := H.N
      refine {
        inv := ⟨h.inv.nil, fun i k b hk hi hz => by
            obtain ⟨ents, clk, hb, hl, hc⟩ := h.inv.map i k b hk hi hz
            exact ⟨ents, clk, by rw [hx.block b (h.inv.lt hi) (hrho i b hi)]; exact hb, hl, fun i m hm => by obtain ⟨v, hv, hr⟩ := hc i m hm; exact ⟨v, hv, rep' hr⟩⟩, fun i k b hk hi hz => by
            obtain ⟨cur, hb, hl, hs, hc⟩ := h.inv.blk i k b hk hi hz
            exact ⟨cur, by rw [hx.block b (h.inv.lt hi) (hrho i b hi)]; exact hb, hl, hs, fun i e j c he hcc => by obtain ⟨v, hv, h1, hr⟩ := hc i e j c he hcc; exact ⟨v, hv, h1, rep' hr⟩⟩,
          h.inv.inj, h.inv.live, h.inv.apart, fun b hb => L0Q (h.inv.low b hb) hx.size⟩
        env := ?_, size := (JbO ..).trans h.size
        ext := h.ext.trans hx fun b hb => (h.ms b hb).2.2.2
        rng := h.rng, im := h.im, pin := h.pin, js := hJ', j0 := h.j0
        gh := ?_, g := ?_
        ms := fun b hb => ?_
        rd := fun l r hr => by
          have hb : C.book a l := .inl ⟨r, hr⟩
          rw [hx.block l (h.bklt hb) (h.bk l hb).2.2]; exact h.rd l r hr
        nodup := by rw [Ja8]; exact h.nodup
        df := fun dd hdd => by
          rw [Ja8] at hdd
          obtain ⟨D, e, hD, hl⟩ := h.df dd hdd
          have hb : C.book a D := .inr (e ▸ hdd)
          exact ⟨D, e, by rw [hx.block D (h.bklt hb) (h.bk D hb).2.2]; exact hD, hl⟩
        bk := fun b hb => ?_ }
      . refine JaG.put (dst := dst) (tm := a) (E := upd E S.N g') (fun t y hy => ?_) (.im _ _ (.v _))
        simp only [upd]
        rw [if_neg (fun e => by
          have hlt := (L0j.1 hy).1
          rw [h.size] at hlt; omega)]
        exact rep' (h.env t y hy)
      . intro p
        rw [JdN (E := upd E S.N g') (N := C.N) (by rw [<- H.N]; exact hdst)]
        simp only [upd, hNne, if_true]; exact hgn p
      . rw [JdN (E := upd E S.N g') (N := C.N) (by rw [<- H.N]; exact hdst)]
        simp only [upd, hNne, if_true]; exact hG'
      . obtain ⟨h1, h2⟩ := hM' b hb
        refine ⟨h1, fun i hi => ?_, fun hi => ?_, ?_⟩
        . rcases h2 with h2 | h2
          . exact hrho i b hi h2
          . have := h.inv.lt hi; omega
        . rcases h2 with h2 | h2
          . exact hIm b hi h2
          . have := h.inv.low b hi; omega
        . rcases h2 with h2 | h2
          . exact (h.ms b h2).2.2.2
          . exact .inr (L0r h.ext.size h2)
      . have hb : C.book a b := by unfold Fx.book at *; rwa [Ja8] at hb
        obtain ⟨h1, h2, h3⟩ := h.bk b hb
        refine ⟨h1, h2, fun hm => ?_⟩
        rcases (hM' b hm).2 with h4 | h4
        . exact h3 h4
        . have := h.bklt hb; omega
    . exact hv.elim
  . exact hv.elim
end
section
variable {S : Sp} {C : Fx} {E : Env} {σ : Jac} {a : Act} {w : World} {ρ : Nat -> Option Nat} {Im : Nat -> Prop} {M : Str}
theorem Jye (d k : Nat) (h : k < 16) : own d (16 * d + k) = true := by
  simp only [own, beq_iff_eq]; omega
theorem JjD (d : Nat) (E : Env) (σ : Jac) : ∀ k, k < 16 -> Jbd (16 * d + k) (JaT (own d) E) (Jaj (own d) σ) := fun k hk => JbC (Jye d k hk) E σ
theorem JiB (H : Holds S C) (h : Wit C E σ a w ρ Im M) (kd : Bool) (d : Nat) (hp : ∀ id b, C.pin id = some b -> own d id = false) (hcl : kd = false -> ∀ k, k < 16 -> Jbd (16 * d + k) E σ) :
    ∃ ρ', Wit C (kE kd d E) (kS kd d σ) a w ρ' Im M /\ ∀ k, k < 16 -> Jbd (16 * d + k) (kE kd d E) (kS kd d σ) := by
  cases kd with
  | true => exact ⟨_, h.kill H.G (own d) hp, JjD d E σ⟩
  | false => exact ⟨ρ, h, hcl rfl⟩
theorem Jrw (H : Holds S C) {id : Nat} (h : S.pin id = false) : C.pin id = none := by
  cases hc : C.pin id with
  | none => rfl
  | some b => have := H.pin id b hc; rw [h] at this; cases this
theorem Jlh {x : AV} {K K' : Nat -> List AV -> Prop} (hK : ∀ a b, K a b -> K' a b) (h : Jf1 σ x K) : Jf1 σ x K' := by
  unfold Jf1 at *
  split at h
  . exact hK _ _ h
  . exact hK _ _ h
  . obtain ⟨k, a, b, c, d⟩ := h; exact ⟨k, a, b, c, hK _ _ d⟩
  . exact h
theorem Ji8 {P : Program} {op : Op} {K K' : Nat -> Nat -> Nat -> Blk -> Prop} (hK : ∀ a b c d, K a b c d -> K' a b c d) (h : appV P op E σ K) : appV P op E σ K' := by
  unfold appV at *
  split at h
  . split at h
    . obtain ⟨h1, e, h2, h3, h4, h5⟩ := h
      refine ⟨h1, e, h2, h3, h4, ?_⟩
      split at h5
      . obtain ⟨h6, k, h7, h8, h9, h10, h11⟩ := h5
        exact ⟨h6, k, h7, h8, h9, h10, Jlh (fun _ _ hh => ⟨hh.1, hh.2.1, hh.2.2.1, hh.2.2.2.1, hK _ _ _ _ hh.2.2.2.2⟩) h11⟩
      . exact h5
    . exact h
  . exact h
theorem Jgp (H : Holds S C) (h : Wit C E σ a w ρ Im M) {o : Oper} (hf : Oper.fits S.P S.N o = true) (kd bi : Bool)
    (hcl : kd = false -> (cls S.P o.op o.type = 1 \/ cls S.P o.op o.type = 2) -> ∀ k, k < 16 -> Jbd (16 * (S.b + o.dst.getD 99999) + k) E σ) {K Kb : Env -> Jac -> Prop} (hv : aop S kd bi o K Kb E σ)
    {n : Nat} {Kc : Act -> World -> Prop} {Q : Exit -> Act -> World -> Prop} (hK : ∀ E' σ' a' w', K E' σ' -> St C E' σ' a' w' -> Kc a' w') (hKb : ∀ E' σ' a' w', Kb E' σ' -> St C E' σ' a' w' -> Kc a' w') : o.wpIn (FW C.rdl) n S.P a w Kc Q := by
  obtain ⟨hdst, hlow, hc9⟩ := Jda hf
  have hdf := Jgy hc9
  have hdst' : ∀ d, o.dst = some d -> d < C.N := by rw [<- H.N]; exact hdst
  have hdm : o.dst.getD 99999 < 100000 := by
    cases hd : o.dst with
    | none => simp
    | some d => exact L0Q (hdst d hd) (L0r H.big (by decide))
  unfold aop at hv
  split at hv
  . obtain ⟨v, hp, hk⟩ := hv
    obtain ⟨y, hr, hrep⟩ := Jk2 h.inv h.env (by rw [h.size, <- H.N]; exact hlow) hp
    exact JaQ hdf hr (hK _ _ _ _ hk ⟨ρ, Im, M, h.put H.G hdst' hrep⟩)
  . rename_i hc; obtain ⟨d, hd, v, bl, hn, hk⟩ := hv
    obtain ⟨ρ1, h1, hc1⟩ := JiB H h kd (S.b + d) (H.own (L0Q (hdst d hd) (L0r H.big (by decide)))) (fun e => by have := hcl e (.inl hc); rw [hd] at this; exact this)
    obtain ⟨y, w', ρ', hr, hw⟩ := Jm8 H.G h1 (H.free (L0Q (hdst d hd) (L0r H.big (by decide)))) (by simpa using hc1 0 (by omega)) (hc1 1 (by omega)) (hdst' d hd) hd (by rw [<- H.N]; exact hlow) hn
    exact JaQ hdf hr (hK _ _ _ _ hk ⟨ρ', Im, M, hw⟩)
  . rename_i hc
    rcases hv with ⟨v, bl, hcall, hk⟩ | ⟨_, hy⟩ | ⟨_, hs⟩
    . obtain ⟨ρ1, h1, hc1⟩ := JiB H h kd (S.b + o.dst.getD 99999) (H.own hdm) (fun e => hcl e (.inr hc))
      exact Jku H h1 hf (H.free hdm) hc1 hcall fun y w' ρ' Im' hw => hK _ _ _ _ hk ⟨ρ', Im', M, hw⟩
    . exact Jkn H h hf hy fun v g y w' M' hA hw => hKb _ _ _ _ hA ⟨ρ, Im, M', hw⟩
    . exact hs C H n a w Kc Q ⟨ρ, Im, M, h⟩ hKb
  . obtain ⟨d, hd, happ⟩ := hv
    obtain ⟨id, sz, m, k, y, w', ρ', hk, hr, hw⟩ := JnN H.G h (hdst' d hd) hd (by rw [<- H.N]; exact hlow) (Ji8 (fun _ _ _ _ hh => ⟨Jrw H hh.1, hh.2⟩) happ)
    exact JaQ hdf hr (hKb _ _ _ _ hk ⟨ρ', Im, M, hw⟩)
  . obtain ⟨id, k, w', hk, hr, hw⟩ := Jlj H.G h (by rw [<- H.N]; exact hlow) hv
    exact JfL hdf hr (hKb _ _ _ _ hk ⟨ρ, Im, M, hw.put H.G hdst' (.im _ _ (.v _))⟩)
  . exact hv C H n a w Kc Q ⟨ρ, Im, M, h⟩ hKb
  . exact hv.elim
theorem Jib (h : Wit C E σ a w ρ Im M) {ops : Array Oper} {j t : Nat} (ht : (ops[j]?).bind (·.dst) = some t) (hlt : t < C.N) {x : Value} (hx : E t = .v x) :
    yielded ops a.tmps j = match x with | .bool b => some b | _ => none := by
  have hs : t < a.tmps.size := by rw [h.size]; exact hlt
  have hv := h.env t a.tmps[t] (L0g hs); rw [hx] at hv; have hv := hv.v_inv; unfold yielded; rw [ht]; simp only [Option.bind_some, L0g hs, hv]
  cases x <;> rfl
def Jho (n : Nat) (P : Program) (r : Option Nat) (ops : Array Oper) (o : Oper) (K : Act -> World -> Prop) (Q : Exit -> Act -> World -> Prop) (a : Act) (w : World) : Prop :=
  if Region.wanted o (yielded ops a.tmps) then o.wpIn (FW r) n P a w K Q else K (a.put o.dst undef) w
theorem JdP {n : Nat} {P : Program} {r : Option Nat} {ops : Array Oper} {i : Nat} {o : Oper} (ho : ops[i]? = some o) {K : Act -> World -> Prop} {Q : Exit -> Act -> World -> Prop} {a : Act} {w : World}
    (h : Jho n P r ops o K Q a w) : wpOpIn (FW r) n P ops Q i K a w := by
  unfold wpOpIn Jho at *; simp only [ho]
  split
  . rename_i hw; rw [if_pos hw] at h; exact h
  . rename_i hw; rw [if_neg hw] at h; exact ⟨fun _ _ => trivial, h⟩
theorem JeS (H : Holds S C) (h : Wit C E σ a w ρ Im M) {ops : Array Oper} (hall : ∀ (i : Nat) (o : Oper), ops[i]? = some o -> Oper.fits S.P S.N o = true) {o : Oper} (hf : Oper.fits S.P S.N o = true) (kd bi : Bool)
    (hcl : kd = false -> (cls S.P o.op o.type = 1 \/ cls S.P o.op o.type = 2) -> ∀ k, k < 16 -> Jbd (16 * (S.b + o.dst.getD 99999) + k) E σ) {K Kb : Env -> Jac -> Prop} (hv : gop S kd bi ops o K Kb E σ)
    {n : Nat} {Kc : Act -> World -> Prop} {Q : Exit -> Act -> World -> Prop} (hK : ∀ E' σ' a' w', K E' σ' -> St C E' σ' a' w' -> Kc a' w') (hKb : ∀ E' σ' a' w', Kb E' σ' -> St C E' σ' a' w' -> Kc a' w') : Jho n S.P C.rdl ops o Kc Q a w := by
  obtain ⟨hdst, _, _⟩ := Jda hf
  have hdst' : ∀ d, o.dst = some d -> d < C.N := by rw [<- H.N]; exact hdst
  unfold gop at hv; unfold Jho
  split at hv
  . rename_i hg
    rw [if_pos (by simp [Region.wanted, hg])]
    exact Jgp H h hf kd bi hcl hv hK hKb
  . rename_i j want hg
    split at hv
    . exact hv.elim
    . rename_i t ht
      have htN : t < C.N := by
        cases hj : ops[j]? with
        | none => simp [hj] at ht
        | some oj => simp [hj] at ht; rw [<- H.N]; exact (Jda (hall j oj hj)).1 t ht
      split at hv
      . rename_i b hb; have hy := Jib h ht htN hb
        simp only at hy
        by_cases hbw : b = want
        . subst hbw
          rw [if_pos (by simp [Region.wanted, hg, hy])]
          have hv1 := hv.1 rfl; rw [Jca E t _ hb] at hv1
          exact Jgp H h hf kd bi hcl hv1 hK hKb
        . rw [if_neg (by simp [Region.wanted, hg, hy, hbw])]
          have hv2 := hv.2 (by cases b <;> cases want <;> simp_all)
          have hb' : E t = .v (.bool !want) := by rw [hb]; cases b <;> cases want <;> simp_all
          rw [Jca E t _ hb'] at hv2
          exact hK _ _ _ _ hv2 ⟨ρ, Im, M, h.put H.G hdst' (.im _ _ (.v _))⟩
      . rename_i vs hb; have hy := Jib h ht htN hb
        simp only at hy
        rw [if_neg (by simp [Region.wanted, hg, hy])]
        exact hK _ _ _ _ hv ⟨ρ, Im, M, h.put H.G hdst' (.im _ _ (.v _))⟩
      . exact hv.elim
theorem JcA (H : Holds S C) {ops : Array Oper} (hall : ∀ (i : Nat) (o : Oper), ops[i]? = some o -> Oper.fits S.P S.N o = true) {n : Nat} {K : Env -> Jac -> Prop} {Q : Exit -> Act -> World -> Prop}
    (hK : ∀ E σ a w, K E σ -> St C E σ a w -> Q .normal a w) : ∀ (l : List Oper) (i : Nat) (E : Env) (σ : Jac) (a : Act) (w : World), (∀ j, l[j]? = ops[i + j]?) -> Jef S false ops i l K E σ -> St C E σ a w ->
    wpOpsIn (FW C.rdl) n S.P ops Q (List.range' i l.length) a w
  | [], i, E, σ, a, w, _, hv, hs => hK E σ a w hv hs
  | o :: l, i, E, σ, a, w, hl, hv, hs => by
    have ho : ops[i]? = some o := by simpa using (hl 0).symm
    obtain ⟨ρ, Im, M, h⟩ := hs; rw [L0f, L1P, wpOpsIn_cons]
    have go : ∀ E' σ' a' w', Jef S false ops (i + 1) l K E' σ' -> St C E' σ' a' w' -> wpOpsIn (FW C.rdl) n S.P ops Q (List.range' (i + 1) l.length) a' w' := fun E' σ' a' w' hk hs' =>
      JcA H hall hK l (i + 1) E' σ' a' w' (fun j => by have := hl (j + 1); simpa [L0L, Nat.add_comm 1 j] using this) hk hs'
    exact JdP ho (JeS H h hall (hall i o ho) true _ (fun e => by cases e) hv go fun E' σ' a' w' hk hs' => go E' σ' a' w' (by simpa [struck] using hk) hs')
theorem St.kill (hG : JaM C.G) (h : St C E σ a w) (p : Nat -> Bool) (hp : ∀ id b, C.pin id = some b -> p id = false) : St C (JaT p E) (Jaj p σ) a w := by
  obtain ⟨ρ, Im, M, h⟩ := h
  exact ⟨_, Im, M, h.kill hG p hp⟩
theorem St.drew (hG : JaM C.G) (h : St C E σ a w) (n : Nat) : St C E σ a { w with drawn := n } := by
  obtain ⟨ρ, Im, M, h⟩ := h
  exact ⟨_, Im, M, h.drew hG n⟩
def Ji5 (S : Sp) (C : Fx) : Prop :=
  ∀ (ops : Array Oper), ops.toList.all (Oper.fits S.P S.N) = true -> Jeg S.P ops = true -> ∀ (n : Nat) (K : Env -> Jac -> Prop) (Q : Exit -> Act -> World -> Prop) (E : Env) (σ : Jac) (a : Act) (w : World),
    (∀ E σ a w, K E σ -> St C E σ a w -> Q .normal a w) -> struck S true ops.toList (Jef S true ops 0 ops.toList K) E σ -> St C E σ a w ->
    ∀ id, (Code.region id ops true).wpIn (FW C.rdl) n S.P Q a w
theorem JbX {P : Program} {b : Frame} {a : Act} {k : List Item} {cs : List Frame} {w : World} {c : Code} : step P (lone (b.atR a (.code (.scope c) :: k)) cs w) = .next (lone (b.atR a (.code c :: .inScope c :: k)) cs w) :=
  step_lone_go (by simp [stepG, stepG.exec, Frame.atR])
theorem JiV {P : Program} {b : Frame} {a : Act} {k : List Item} {cs : List Frame} {w : World} {c : Code} : step P (lone (b.atR a (.inScope c :: k)) cs w) = .next (lone (b.atR a k) cs w) :=
  step_lone_go (by simp [stepG, stepG.exec, Frame.atR])
theorem JeF {F : Fence} {n : Nat} {P : Program} {Q : Exit -> Act -> World -> Prop} {a : Act} {w : World} {c : Code} (h : c.wpIn F n P (Exit.noGoto Q) a w) : (Code.scope c).wpIn F n P Q a w := by
  intro b k cs hro hb hr
  have h0 : (lone (b.atR a (.code (.scope c) :: k)) cs w).fenced P F := fenced_calm hb hr rfl
  obtain ⟨e, a₁, w₁, hq, harr⟩ := h b (.inScope c :: k) cs hro hb hr
  cases e with
  | normal => exact ⟨.normal, a₁, w₁, hq, .head h0 JbX (StepsIn.trans harr (.one (fenced_calm hb hr rfl) JiV))⟩
  | exit id =>
    have hx : exitTo id (.inScope c :: k) = exitTo id k := by simp [exitTo]
    exact ⟨.exit id, a₁, w₁, hq, fun k' hk => .head h0 JbX (harr.1 k' (by rw [hx]; exact hk)),
      fun hr' hk => let ⟨k₁, h1, h2⟩ := harr.2 hr' (by rw [hx]; exact hk); ⟨k₁, h1, .head h0 JbX h2⟩⟩
  | goto l => exact hq.elim
  | ret => exact ⟨_, a₁, w₁, hq, .of_steps (.one h0 JbX) harr⟩
  | panic ch => exact ⟨_, a₁, w₁, hq, .of_steps (.one h0 JbX) harr⟩
  | outgrown => exact ⟨_, a₁, w₁, hq, .of_steps (.one h0 JbX) harr⟩
theorem Jgr (H : Holds S C) (HD : Ji5 S C) {n : Nat} : ∀ (c : Code) (Q : Exit -> Env -> Jac -> Prop) (E : Env) (σ : Jac), JaY S.P S.N S.bad c = true -> awp S c Q E σ ->
    ∀ (R : Exit -> Act -> World -> Prop), (∀ e E σ a w, Q e E σ -> St C E σ a w -> R e a w) -> ∀ a w, St C E σ a w -> c.wpIn (FW C.rdl) n S.P R a w := by
  intro c
  induction c with
  | skip => intro Q E σ _ hv R hR a w hs; exact wpIn_skip (hR _ _ _ _ _ hv hs)
  | label l => intro Q E σ _ hv R hR a w hs; exact wpIn_label (hR _ _ _ _ _ hv hs)
  | seq x y ihx ihy =>
    intro Q E σ hok hv R hR a w hs
    simp only [JaY, L00] at hok
    refine wpIn_seq (ihx _ E σ hok.1 hv _ (fun e E' σ' a' w' hq hs' => ?_) a w hs)
    cases e with
    | normal => exact ihy Q E' σ' hok.2 hq R hR a' w' hs'
    | exit id => exact hR _ _ _ _ _ hq hs'
    | goto l => exact hR _ _ _ _ _ hq hs'
    | ret => exact hR _ _ _ _ _ hq hs'
    | panic ch => exact hR _ _ _ _ _ hq hs'
    | outgrown => exact hR _ _ _ _ _ hq hs'
  | region id ops draw =>
    intro Q E σ hok hv R hR a w hs
    simp only [JaY, L00, L0x, L0S] at hok; simp only [awp] at hv
    by_cases hbad : S.bad id = true
    . rw [if_pos hbad] at hv
      exact hv C H n R hR a w hs
    rw [if_neg hbad] at hv
    have hfit : ops.toList.all (Oper.fits S.P S.N) = true := hok.1.resolve_left hbad
    have hall : ∀ (i : Nat) (o : Oper), ops[i]? = some o -> Oper.fits S.P S.N o = true := fun i o ho => L0b.1 hfit o (L0t.2 (L1A ho))
    cases draw with
    | false =>
      simp only [struck, L0A, if_false] at hv
      refine wpIn_region ?_
      have := JcA H hall (n := n) (Q := R) (fun E σ a w hk hs => hR .normal E σ a w hk hs) ops.toList 0 E σ a w (by simp) hv hs
      rw [L0y, <- L1z] at this; exact this
    | true =>
      exact HD ops hfit (by have h := hok.2; simp [hbad] at h; exact h) n (Q .normal) R E σ a w (fun E σ a w hk hs => hR .normal E σ a w hk hs) hv hs id
  | cond c x y ihx ihy =>
    intro Q E σ hok hv R hR a w hs
    simp only [JaY, L00] at hok; simp only [awp] at hv
    split at hv
    . rename_i b hb
      have hc : a.eval c = .bool b := by
        obtain ⟨ρ, Im, M, h⟩ := hs
        have hr := JbL h.env (x := c) (by rw [h.size, <- H.N]; exact hok.1.1)
        rw [hb] at hr; exact hr.v_inv
      exact wpIn_cond_split hc (fun e => ihx Q E σ hok.1.2 (hv.1 e) R hR a w hs) (fun e => ihy Q E σ hok.2 (hv.2 e) R hR a w hs)
    . exact hv.elim
  | block id c ih =>
    intro Q E σ hok hv R hR a w hs
    refine wpIn_block (ih _ E σ hok hv _ (fun e E' σ' a' w' hq hs' => ?_) a w hs)
    cases e with
    | exit id' =>
      simp only [Jdy] at hq; simp only [Exit.inBlock]
      split
      . rename_i he; rw [if_pos he] at hq; exact hR _ _ _ _ _ hq hs'
      . rename_i he; rw [if_neg he] at hq; exact hR _ _ _ _ _ hq hs'
    | normal => exact hR _ _ _ _ _ hq hs'
    | goto l => exact hR _ _ _ _ _ hq hs'
    | ret => exact hR _ _ _ _ _ hq hs'
    | panic ch => exact hR _ _ _ _ _ hq hs'
    | outgrown => exact hR _ _ _ _ _ hq hs'
  | loop c ih =>
    intro Q E σ hok hv R hR a w hs
    obtain ⟨I, μ, h0, hround⟩ := hv
    -- the loop's relation on real states: some abstract state that it stands for; the measure bounds the rounds to come
    intro b k cs hro hb hr
    have key : ∀ m E σ a w, μ E σ = m -> I E σ -> St C E σ a w ->
        ∃ e a' w', R e a' w' /\ ArrivesIn (Machine.fenced S.P (FW C.rdl)) S.P (lone (b.atR a (.code c :: .inLoop c :: k)) cs w) b k cs e a' w' := by
      intro m
      induction m using Nat.strongRecOn with
      | _ m ihm =>
        intro E σ a w hm hI hs
        have hw := ih (Jc4 (fun E' σ' => I E' σ' /\ μ E' σ' < μ E σ) Q) E σ hok (hround E σ hI)
          (fun e a' w' => match e with | .normal => ∃ E' σ', (I E' σ' /\ μ E' σ' < μ E σ) /\ St C E' σ' a' w' | e => R e a' w')
          (fun e E' σ' a' w' hq hs' => by
            cases e with
            | normal => exact ⟨E', σ', hq, hs'⟩
            | exit id => exact hR _ _ _ _ _ hq hs'
            | goto l => exact hR _ _ _ _ _ hq hs'
            | ret => exact hR _ _ _ _ _ hq hs'
            | panic ch => exact hR _ _ _ _ _ hq hs'
            | outgrown => exact hR _ _ _ _ _ hq hs') a w hs
        obtain ⟨e, a₁, w₁, hq, harr⟩ := hw b (.inLoop c :: k) cs hro hb hr
        cases e with
        | normal =>
          obtain ⟨E', σ', ⟨hI', hlt⟩, hs'⟩ := hq
          obtain ⟨e₂, a₂, w₂, hq₂, harr₂⟩ := ihm (μ E' σ') (hm ▸ hlt) E' σ' a₁ w₁ rfl hI' hs'
          exact ⟨e₂, a₂, w₂, hq₂, .of_steps (StepsIn.trans harr (.one (fenced_calm hb hr rfl) stepR_inLoop)) harr₂⟩
        | exit id => exact ⟨_, a₁, w₁, hq, .pass (x := .inLoop c) rfl (fun _ _ => .inl (by simp)) harr⟩
        | goto l => exact ⟨_, a₁, w₁, hq, .pass (x := .inLoop c) rfl (fun _ _ => .inl (by simp)) harr⟩
        | ret => exact ⟨_, a₁, w₁, hq, .pass (x := .inLoop c) rfl (fun _ _ => .inl (by simp)) harr⟩
        | panic ch => exact ⟨_, a₁, w₁, hq, .pass (x := .inLoop c) rfl (fun _ _ => .inl (by simp)) harr⟩
        | outgrown => exact ⟨_, a₁, w₁, hq, .pass (x := .inLoop c) rfl (fun _ _ => .inl (by simp)) harr⟩
    obtain ⟨e, a', w', hq, harr⟩ := key _ E σ a w rfl h0 hs
    exact ⟨e, a', w', hq, .of_steps (.one (fenced_calm hb hr rfl) stepR_loop) harr⟩
  | rangeFunc f ps as body iha ihb => intro Q E σ _ hv R hR a w hs; exact hv C H n R hR a w hs
  | exit id => intro Q E σ _ hv R hR a w hs; exact wpIn_exit (hR _ _ _ _ _ hv hs)
  | scope c ih =>
    intro Q E σ hok hv R hR a w hs
    refine JeF (ih (Je9 Q) E σ hok hv _ (fun e E' σ' a' w' hq hs' => ?_) a w hs)
    cases e with
    | goto l => exact hq
    | normal => exact hR _ _ _ _ _ hq hs'
    | exit id => exact hR _ _ _ _ _ hq hs'
    | ret => exact hR _ _ _ _ _ hq hs'
    | panic ch => exact hR _ _ _ _ _ hq hs'
    | outgrown => exact hR _ _ _ _ _ hq hs'
  | goto l => intro Q E σ hok; simp [JaY] at hok
  | ret => intro Q E σ _ hv R hR a w hs; exact wpIn_ret (hR _ _ _ _ _ hv hs)
  | refuse why => intro Q E σ hok hv; exact hv.elim
end
section
variable {P : Program} {S : Sp} {C : Fx} {E E' : Env} {σ σ' : Jac} {a : Act} {w : World} {ρ : Nat -> Option Nat} {Im : Nat -> Prop} {M : Str}
theorem Jii {x : AV} {K : List AV -> Nat -> Prop} (hc : ∀ id, Names x id -> σ' id = σ id) (h : JbV σ x K) : JbV σ' x K := by
  unfold JbV at *
  split at h
  . exact h
  . rename_i id sz i j; obtain ⟨k, hk, r⟩ := h
    exact ⟨k, by rw [hc id (.ptr ..)]; exact hk, r⟩
  . exact h
theorem Jgt {x : Option Operand} {d : Nat} {K : Nat -> Prop} (h : ∀ y, x = some y -> ev E y = ev E' y) (hb : bound E x d K) : bound E' x d K := by
  unfold bound at *
  split at hb
  . exact hb
  . rename_i y; rw [<- h y rfl]; exact hb
theorem JmD {x : Option Operand} {d : Nat} {K K' : Nat -> Prop} (hK : ∀ n, K n -> K' n) (hb : bound E x d K) : bound E x d K' := by
  cases x with
  | none => exact hK _ hb
  | some y =>
    unfold bound at *
    simp only at *
    split at hb
    . rename_i h; first | (rw [h]; exact ⟨hb.1, hK _ hb.2⟩) | exact ⟨hb.1, hK _ hb.2⟩
    . exact hb.elim
theorem Jdl {op : Op} {r : AV} (h : ∀ x ∈ op.operands, ev E x = ev E' x) (hc : ∀ x ∈ op.operands, ∀ id, Names (ev E x) id -> σ' id = σ id) (hv : JaB P op E σ r) : JaB P op E' σ' r := by
  have pairs : ∀ parts : Array (Nat × Operand), (∀ p ∈ parts.toList, ev E p.2 = ev E' p.2) -> (parts.toList.map fun p => (p.1, ev E p.2)) = parts.toList.map fun p => (p.1, ev E' p.2) := fun parts hp =>
    L0W fun p hm => by rw [hp p hm]
  unfold JaB at hv
  split at hv
  . rename_i x; simp only [JaB]; rw [<- h x (by simp [Op.operands])]; exact hv
  . rename_i x; simp only [JaB]; rw [<- h x (by simp [Op.operands])]; exact hv
  . rename_i c x y; simp only [JaB]; rw [<- h x (by simp [Op.operands]), <- h y (by simp [Op.operands]), <- h c (by simp [Op.operands])]; exact hv
  . rename_i t x; simp only [JaB]; rw [<- h x (by simp [Op.operands])]; exact Jii (hc x (by simp [Op.operands])) hv
  . rename_i x; simp only [JaB]; rw [<- h x (by simp [Op.operands])]; exact hv
  . rename_i o t x y _; simp only [JaB]; rw [<- h x (by simp [Op.operands]), <- h y (by simp [Op.operands])]; exact hv
  . rename_i t parts; simp only [JaB]; rw [<- pairs parts fun p hp => h p.2 (by simp [Op.operands]; exact ⟨p.1, by simpa using hp⟩)]; exact hv
  . rename_i o _ x; simp only [JaB]; rw [<- h x (by simp [Op.operands])]; exact hv
  . rename_i s t x; simp only [JaB]; rw [<- h x (by simp [Op.operands])]; exact hv
  . rename_i f first cs; simp only [JaB]
    have hm1 : cs.toList.map (ev E) = cs.toList.map (ev E') := L0W fun x hx => h x (by simp [Op.operands]; exact .inr (by simpa using hx))
    have hm2 : first.toList.map (ev E) = first.toList.map (ev E') := L0W fun x hx => h x (by simp [Op.operands]; exact .inl (by simpa using hx))
    first | (rw [<- hm1, <- hm2]; exact hv) | (rw [hm1, hm2]; exact hv) | (rw [hm1, hm2] at hv; exact hv)
  . rename_i s x f; simp only [JaB]; rw [<- h x (by simp [Op.operands])]; exact hv
  . rename_i s x f; simp only [JaB]; rw [<- h x (by simp [Op.operands])]; exact hv
  . rename_i t x i; simp only [JaB]; rw [<- h x (by simp [Op.operands]), <- h i (by simp [Op.operands])]; exact hv
  . rename_i t x i; simp only [JaB]; rw [<- h x (by simp [Op.operands]), <- h i (by simp [Op.operands])]; exact hv
  . rename_i x i; simp only [JaB]; rw [<- h x (by simp [Op.operands])]; exact hv
  . rename_i t x lo hi
    have hb : ∀ {d K}, bound E hi d K -> bound E' hi d K := fun hb => Jgt (fun y hy => h y (by subst hy; simp [Op.operands])) hb
    have hb' : ∀ {d K}, bound E lo d K -> bound E' lo d K := fun hb => Jgt (fun y hy => h y (by subst hy; simp [Op.operands])) hb
    have mono : ∀ {x : Option Operand} {d : Nat} {K K' : Nat -> Prop}, (∀ n, K n -> K' n) -> bound E x d K -> bound E x d K' := fun hK hb => JmD hK hb
    simp only [JaB]; rw [<- h x (by simp [Op.operands])]
    rcases hv with ⟨e, h1, n, h2, h3⟩ | ⟨h1, n, h2, h3⟩
    . exact .inl ⟨e, h1, n, h2, hb (mono (fun _ => hb') h3)⟩
    . exact .inr ⟨h1, n, h2, hb (mono (fun _ => hb') h3)⟩
  . rename_i args ats; simp only [JaB]
    split at hv
    . rename_i x t ha ht
      have hm : x ∈ args := L0t.1 (by rw [ha]; simp)
      have hx := h x (by simp [Op.operands, Call.operands, hm])
      simp only [ha, ht, <- hx]; exact hv
    . exact hv.elim
  . rename_i args ats; simp only [JaB]
    rw [<- L0W (f := ev E) (g := ev E') fun x hx => h x (by simp [Op.operands, Call.operands]; simpa using hx)]; exact hv
  . rename_i args ats; simp only [JaB]
    rw [<- L0W (f := ev E) (g := ev E') fun x hx => h x (by simp [Op.operands, Call.operands]; simpa using hx)]; exact hv
  . rename_i args ats; simp only [JaB]
    rw [<- L0W (f := ev E) (g := ev E') fun x hx => h x (by simp [Op.operands, Call.operands]; simpa using hx)]; exact hv
  . exact hv.elim
inductive DN : AV -> Nat -> Prop
  | own (id sz i n : Nat) : DN (.own id sz i n) id
  | ptr (id sz i j : Nat) : DN (.ptr id sz i j) id
  | mref (id : Nat) : DN (.mref id) id
  | agg (cs : List AV) (c : AV) (id : Nat) (hc : c ∈ cs) (h : DN c id) : DN (.agg cs) id
  | tup (cs : List AV) (c : AV) (id : Nat) (hc : c ∈ cs) (h : DN c id) : DN (.tup cs) id
  | clo (g : Nat) (cs : List AV) (c : AV) (id : Nat) (hc : c ∈ cs) (h : DN c id) : DN (.clo g cs) id
  | sl (g : Nat) (cs : List AV) (c : AV) (id : Nat) (hc : c ∈ cs) (h : DN c id) : DN (.sl g cs) id
  | cut (g : Nat) (cs : List AV) (c : AV) (id : Nat) (hc : c ∈ cs) (h : DN c id) : DN (.cut g cs) id
  | mp (cs : List AV) (c : AV) (id : Nat) (hc : c ∈ cs) (h : DN c id) : DN (.mp cs) id
  | pt (e : AV) (j id : Nat) (h : DN e id) : DN (.pt e j) id
  | new (g s : Nat) (cs : List AV) (c : AV) (id : Nat) (hc : c ∈ cs) (h : DN c id) : DN (.new g s cs) id
  | nptr (g s : Nat) (cs : List AV) (c : AV) (id : Nat) (hc : c ∈ cs) (h : DN c id) : DN (.nptr g s cs) id
theorem DN.of {a : AV} {d : Nat} (h : Names a d) : DN a d := by
  induction h with
  | own => exact .own ..
  | ptr => exact .ptr ..
  | mref => exact .mref ..
  | agg cs c id hc _ ih => exact .agg cs c id hc ih
  | tup cs c id hc _ ih => exact .tup cs c id hc ih
  | clo g cs c id hc _ ih => exact .clo g cs c id hc ih
theorem Jin (cs : List AV) : AV.dnL cs = true ↔ ∃ c ∈ cs, c.dn = true := by
  induction cs with
  | nil => simp [AV.dnL]
  | cons c cs ih => simp [AV.dnL, ih]
theorem DN.dn {a : AV} {d : Nat} (h : DN a d) : a.dn = true := by
  induction h with
  | own => rfl
  | ptr => rfl
  | mref => rfl
  | pt e j id _ ih => exact ih
  | _ => simp only [AV.dn]; exact (Jin _).2 ⟨_, by assumption, by assumption⟩
theorem DN.cells {v c : AV} {id : Nat} (hc : c ∈ v.cells) (h : DN c id) : DN v id := by
  cases v with
  | agg cs => exact .agg cs c id hc h
  | _ => simp only [AV.cells, L0p] at hc; subst hc; exact h
theorem DN.cell {v : AV} {id : Nat} (h : DN v id) : ∃ c ∈ v.cells, DN c id := by
  cases v with
  | agg cs => cases h with | agg _ c _ hc h => exact ⟨c, hc, h⟩
  | _ => exact ⟨_, by simp [AV.cells], h⟩
theorem IRep.dnless {x : AV} {y : Value} (h : IRep w Im x y) (id : Nat) : ¬ DN x id := by
  induction h with
  | agg cs ys hl _ _ ih => intro hn; cases hn with | agg _ c _ hc hn =>
      obtain ⟨j, hj⟩ := L0s.1 hc
      have hlt := (L04.1 hj).1
      exact ih j c _ hj (L07 (hl ▸ hlt)) hn
  | tup cs ys hl _ ih => intro hn; cases hn with | tup _ c _ hc hn =>
      obtain ⟨j, hj⟩ := L0s.1 hc
      have hlt := (L04.1 hj).1
      exact ih j c _ hj (L07 (hl ▸ hlt)) hn
  | clo g cs ys hl _ ih => intro hn; cases hn with | clo _ _ c _ hc hn =>
      obtain ⟨j, hj⟩ := L0s.1 hc
      have hlt := (L04.1 hj).1
      exact ih j c _ hj (L07 (hl ▸ hlt)) hn
  | sl sz es b o cap f hIm hcap hsz hcc _ ih => intro hn; cases hn with | sl _ _ e _ he hn =>
      obtain ⟨c, hc, hn⟩ := hn.cell
      obtain ⟨i, hi⟩ := L0s.1 he
      obtain ⟨j, hj⟩ := L0s.1 hc
      exact ih i e j c hi hj hn
  | slnil sz a cap => intro hn; cases hn with | sl _ _ e _ he hn => simp at he
  | cut sz es a _ ih => intro hn; cases hn with | cut _ _ e _ he hn => exact ih (.sl _ _ e _ he hn)
  | mpnil => intro hn; cases hn with | mp _ e _ he hn => simp at he
  | mp es b ents clk f hIm hb hl hes _ ih => intro hn; cases hn with | mp _ e _ he hn =>
      obtain ⟨i, hi⟩ := L0s.1 he
      have hlt : i < ents.size := by rw [<- hl.1]; exact (L04.1 hi).1
      have h1 := hes i _ (L0g hlt)
      rw [hi] at h1; cases h1
      cases hn with | tup _ c _ hc hn =>
        simp at hc
        rcases hc with rfl | rfl
        . cases hn
        . exact ih i _ (L0g hlt) hn
  | pt e j b o f hIm hcc _ ih => intro hn; cases hn with | pt _ _ _ hn =>
      obtain ⟨c, hc, hn⟩ := hn.cell
      obtain ⟨j, hj⟩ := L0s.1 hc
      exact ih j c hj hn
  | _ => intro hn; cases hn
theorem Rep.dn {x : AV} {y : Value} {d : Nat} (h : Rep w ρ Im x y) (hn : DN x d) : Names x d := by
  induction h with
  | im a y h => exact absurd hn (h.dnless d)
  | agg cs ys hl _ _ ih => cases hn with | agg _ c _ hc hn =>
      obtain ⟨j, hj⟩ := L0s.1 hc
      have hlt := (L04.1 hj).1
      exact .agg cs c d hc (ih j c _ hj (L07 (hl ▸ hlt)) hn)
  | tup cs ys hl _ ih => cases hn with | tup _ c _ hc hn =>
      obtain ⟨j, hj⟩ := L0s.1 hc
      have hlt := (L04.1 hj).1
      exact .tup cs c d hc (ih j c _ hj (L07 (hl ▸ hlt)) hn)
  | clo g cs ys hl _ ih => cases hn with | clo _ _ c _ hc hn =>
      obtain ⟨j, hj⟩ := L0s.1 hc
      have hlt := (L04.1 hj).1
      exact .clo g cs c d hc (ih j c _ hj (L07 (hl ▸ hlt)) hn)
  | ownNil => cases hn; exact .own ..
  | own => cases hn; exact .own ..
  | ownAt => cases hn; exact .own ..
  | ptr => cases hn; exact .ptr ..
  | mref => cases hn; exact .mref ..
theorem JcD {t : TypeId} {cs : List AV} {off d : Nat} {r : AV} (h : Jcs P t cs off r) (hn : DN r d) : ∃ c ∈ cs, DN c d := by
  unfold Jcs at h
  split at h
  . obtain ⟨_, _, rfl⟩ := h
    cases hn with | agg _ c _ hc hn => exact ⟨c, L15 (L0D hc), hn⟩
  . exact ⟨r, L01 h, hn⟩
  . exact h.elim
theorem Jle {e : TypeId} {x r : AV} {n : Int} {d : Nat} (h : JpN P e x n r) (hn : DN r d) : DN x d := by
  unfold JpN at h
  split at h
  . obtain ⟨_, _, _, c, hc, rfl⟩ := h; cases hn with | pt _ _ _ hn => exact .sl _ _ c d (L01 hc) hn
  . obtain ⟨_, _, _, _, rfl⟩ := h; cases hn; exact .own ..
  . exact h.elim
theorem Jld {e : TypeId} {x r : AV} {l m : Nat} {d : Nat} (h : Jnm P e x l m r) (hn : DN r d) : DN x d := by
  unfold Jnm at h
  split at h
  . obtain ⟨_, _, _, _, rfl⟩ := h; cases hn with | sl _ _ c _ hc hn => exact .sl _ _ c d (L15 (L0D hc)) hn
  . obtain ⟨_, _, _, _, rfl⟩ := h; cases hn; exact .own ..
  . exact h.elim
theorem JdR {x : Option Operand} {d : Nat} {K : Nat -> Prop} (h : bound E x d K) : ∃ n, K n := by
  unfold bound at h
  split at h
  . exact ⟨_, h⟩
  . split at h
    . exact ⟨_, h.2⟩
    . exact h.elim
theorem Jl5 {x : Value} {id : Nat} (h : DN (ofC x) id) : False := by
  unfold ofC at h
  split at h
  . split at h
    . cases h with | agg _ c _ hc h => obtain ⟨y, _, rfl⟩ := L06.1 hc; cases h
    . cases h
  . cases h with | tup _ c _ hc h => obtain ⟨y, _, rfl⟩ := L06.1 hc; cases h
  . cases h
theorem JgG {place : Nat -> Option (Nat × Nat)} {d : Nat} : ∀ (l : List (Nat × AV)) (cs cs' : List AV), JcS place cs l = some cs' -> ∀ c ∈ cs', DN c d -> (∃ c ∈ cs, DN c d) \/ ∃ p ∈ l, DN p.2 d
  | [], cs, cs', h, c, hc, hn => by simp [JcS] at h; subst h; exact .inl ⟨c, hc, hn⟩
  | (i, v) :: l, cs, cs', h, c, hc, hn => by
    simp only [JcS] at h
    split at h
    . cases h
    . split at h
      . rcases JgG l _ cs' h c hc hn with ⟨c', hc', hn'⟩ | ⟨p, hp, hn'⟩
        . simp only [L0v] at hc'
          rcases hc' with (hc' | hc') | hc'
          . exact .inl ⟨c', L0D hc', hn'⟩
          . exact .inr ⟨(i, v), by simp, DN.cells hc' hn'⟩
          . exact .inl ⟨c', L15 hc', hn'⟩
        . exact .inr ⟨p, by simp [hp], hn'⟩
      . cases h
theorem Jk1 {op : Op} {r : AV} {d : Nat} (hev : ∀ x ∈ op.operands, ¬ DN (ev E x) d) (hst : ∀ id k, σ id = some k -> ∀ e ∈ k.es, ¬ DN e d) (hv : JaB P op E σ r) : ¬ DN r d := fun hn => by
  have bi : ∀ {op k m k' n r}, binI op k m k' n r -> ¬ DN r d := fun {op k m k' n r} h hn => by
    unfold binI at h; split at h <;> (first | (obtain ⟨_, rfl⟩ := h) | (obtain ⟨_, _, rfl⟩ := h)) <;> cases hn
  have bs : ∀ {op m n r}, binS op m n r -> ¬ DN r d := fun {op m n r} h hn => by
    unfold binS at h; split at h <;> first | exact h.elim | (subst h; cases hn) | (obtain ⟨_, rfl⟩ := h; cases hn)
  unfold JaB at hv
  split at hv
  . subst hv; exact hev _ (by simp [Op.operands]) hn
  . subst hv; exact hev _ (by simp [Op.operands]) hn
  . split at hv
    . subst hv; split at hn <;> exact hev _ (by simp [Op.operands]) hn
    . exact hv.elim
  . rename_i t x; unfold JbV at hv
    split at hv
    . rename_i e j hx
      obtain ⟨c, hc, hcn⟩ := JcD hv hn
      exact hev x (by simp [Op.operands]) (by rw [hx]; exact .pt e j d (hcn.cells hc))
    . obtain ⟨k, hk, _, e, he, hp⟩ := hv
      obtain ⟨c, hc, hcn⟩ := JcD hp hn
      exact hst _ k hk e (L01 he) (DN.cells hc hcn)
    . exact hv.elim
  . rename_i x
    split at hv
    . rename_i hx; subst hv; exact hev x (by simp [Op.operands]) (hx ▸ hn)
    . rename_i hx; subst hv; exact hev x (by simp [Op.operands]) (hx ▸ hn)
    . rename_i hx; subst hv; exact hev x (by simp [Op.operands]) (hx ▸ hn)
    . exact hv.elim
  . split at hv
    . exact bi hv hn
    . exact bs hv hn
    . obtain ⟨_, ⟨_, rfl⟩ | ⟨_, rfl⟩⟩ := hv <;> cases hn
    . obtain ⟨_, _, _, _, ⟨_, rfl⟩ | ⟨_, rfl⟩⟩ := hv <;> cases hn
    . obtain ⟨_, _, ⟨_, rfl⟩ | ⟨_, rfl⟩⟩ := hv <;> cases hn
    . exact hv.elim
  . rename_i t parts
    obtain ⟨z, hz, _, ⟨fs, _, _, cs, hf, rfl⟩ | ⟨m, e, _, _, cs, hf, rfl⟩⟩ := hv
    all_goals
      cases hn with | agg _ c _ hc hn =>
        rcases JgG _ _ _ hf c hc hn with ⟨c', hc', hn'⟩ | ⟨p, hp, hn'⟩
        . exact Jl5 (DN.cells hc' hn')
        . obtain ⟨q, hq, rfl⟩ := L06.1 hp; exact hev _ (by simp [Op.operands]; exact ⟨q.1, by simpa using hq⟩) hn'
  . split at hv
    . subst hv; cases hn
    . subst hv; cases hn
    . subst hv; cases hn
    . exact hv.elim
  . split at hv
    . obtain ⟨_, rfl⟩ := hv; cases hn
    . exact hv.elim
  . rcases hv with ⟨_, _, rfl⟩ | ⟨_, rfl⟩
    . cases hn with | clo _ _ c _ hc hn => obtain ⟨x, hx, rfl⟩ := L06.1 hc; exact hev _ (by simp [Op.operands]; exact .inr (by simpa using hx)) hn
    . cases hn with | clo _ _ c _ hc hn =>
        rcases L0h.1 hc with rfl | hc
        . cases hn
        . obtain ⟨x, hx, rfl⟩ := L06.1 hc; exact hev _ (by simp [Op.operands]; exact .inl (by simpa using hx)) hn
  . rename_i s x f; obtain ⟨_, _, off, t, _, _, hv⟩ := hv
    split at hv
    . rename_i hx; subst hv; cases hn with | pt _ _ _ hn => exact hev x (by simp [Op.operands]) (hx ▸ .pt _ _ _ hn)
    . rename_i hx; subst hv; cases hn; exact hev x (by simp [Op.operands]) (hx ▸ .ptr ..)
    . exact hv.elim
  . rename_i s x f; obtain ⟨_, _, off, t, _, hv⟩ := hv
    split at hv
    . rename_i hx
      obtain ⟨c, hc, hcn⟩ := JcD hv hn
      exact hev x (by simp [Op.operands]) (hx ▸ .agg _ c _ hc hcn)
    . exact hv.elim
  . rename_i t x i
    split at hv
    . rcases hv with ⟨e, _, hv⟩ | ⟨m, e, _, _, _, _, hv⟩
      . exact hev x (by simp [Op.operands]) (Jle hv hn)
      . split at hv
        . rename_i hx; subst hv; cases hn with | pt _ _ _ hn => exact hev x (by simp [Op.operands]) (hx ▸ .pt _ _ _ hn)
        . rename_i hx; subst hv; cases hn; exact hev x (by simp [Op.operands]) (hx ▸ .ptr ..)
        . exact hv.elim
    . exact hv.elim
  . rename_i t x i
    split at hv
    . obtain ⟨_, _, c, _, rfl⟩ := hv; cases hn
    . rename_i hx; obtain ⟨m, e, _, _, _, _, hv⟩ := hv
      obtain ⟨c, hc, hcn⟩ := JcD hv hn
      exact hev x (by simp [Op.operands]) (hx ▸ .agg _ c _ hc hcn)
    . exact hv.elim
  . rename_i x i
    split at hv
    . rename_i vs hx; exact hev x (by simp [Op.operands]) (hx ▸ .tup _ r _ (L01 hv) hn)
    . exact hv.elim
  . rename_i t x lo hi
    rcases hv with ⟨e, h1, n, h2, h3⟩ | ⟨h1, n, h2, h3⟩
    . obtain ⟨_, h3⟩ := JdR h3
      obtain ⟨_, h3⟩ := JdR h3
      exact hev x (by simp [Op.operands]) (Jld h3 hn)
    . obtain ⟨_, h3⟩ := JdR h3
      obtain ⟨_, h3⟩ := JdR h3
      unfold Jmm at h3
      split at h3
      . obtain ⟨_, _, rfl⟩ := h3; cases hn
      . exact h3.elim
  . split at hv
    . rcases hv with ⟨_, hv⟩ | ⟨_, hv⟩ | ⟨_, _, _, rfl⟩
      . split at hv <;> first | exact hv.elim | (subst hv; cases hn)
      . split at hv <;> first | exact hv.elim | (subst hv; cases hn)
      . cases hn
    . exact hv.elim
  . split at hv <;> first | exact hv.elim | (subst hv; cases hn)
  . split at hv <;> first | exact hv.elim | (subst hv; cases hn)
  . rename_i args ats
    split at hv
    . rename_i id sz n hx; obtain ⟨_, rfl⟩ := hv
      cases hn
      obtain ⟨l⟩ := args
      rcases l with _ | ⟨x, _ | ⟨y, l⟩⟩
      . simp at hx
      . simp only [L0n, L0C, List.cons.injEq, and_true] at hx
        exact hev x (by simp [Op.operands, Call.operands]) (hx ▸ .own ..)
      . simp at hx
    . exact hv.elim
  . exact hv.elim
end
section
variable {P : Program} {S : Sp} {C : Fx} {E E' : Env} {σ σ' : Jac} {a : Act} {w : World} {ρ : Nat -> Option Nat} {Im : Nat -> Prop} {M : Str}
theorem JdY {nm : Nat} {op : Op} {ty : TypeId} {r : AV} {bl : List (Nat × Blk)} (h : ∀ x ∈ op.operands, ev E x = ev E' x) (hv : newV P nm op ty E r bl) : newV P nm op ty E' r bl := by
  unfold newV at hv
  split at hv
  . exact hv
  . exact hv
  . exact hv
  . rename_i t x; simp only [newV]; rw [<- h x (by simp [Op.operands])]; exact hv
  . rename_i t len parts
    have hm : ∀ p ∈ parts.toList, ev E p.2 = ev E' p.2 := fun p hp => h p.2 (by simp [Op.operands]; exact ⟨p.1, by simpa using hp⟩)
    have e1 : (parts.toList.map fun p => ev E p.2) = parts.toList.map fun p => ev E' p.2 := L0W hm
    obtain ⟨e, h1, h2, h3, h4, h5, h6, h7, h8⟩ := hv
    exact ⟨e, h1, h2, h3, h4, h5, fun p hp => by rw [<- hm p hp]; exact h6 p hp, h7, by rw [h8, e1]⟩
  . rename_i t l c; simp only [newV]; rw [<- h l (by simp [Op.operands]), <- h c (by simp [Op.operands])]; exact hv
  . exact hv.elim
theorem Jm7 {nm d : Nat} {op : Op} {ty : TypeId} {r : AV} {bl : List (Nat × Blk)} (hev : ∀ x ∈ op.operands, ¬ DN (ev E x) d) (hd : d / 16 ≠ nm) (hv : newV P nm op ty E r bl) :
    ¬ DN r d /\ ∀ p ∈ bl, p.1 / 16 = nm /\ ∀ e ∈ p.2.es, ¬ DN e d := by
  have own : ∀ id sz i n, id / 16 = nm -> ¬ DN (.own id sz i n) d := fun id sz i n h hn => by cases hn; exact hd h
  have ptr : ∀ id sz i n, id / 16 = nm -> ¬ DN (.ptr id sz i n) d := fun id sz i n h hn => by cases hn; exact hd h
  unfold newV at hv
  split at hv
  . obtain ⟨e, _, rfl, rfl⟩ := hv
    exact ⟨own _ _ _ _ (by omega), fun p hp => by simp at hp; subst hp; exact ⟨by omega, by simp⟩⟩
  . obtain ⟨e, _, rfl, rfl⟩ := hv
    exact ⟨own _ _ _ _ (by omega), fun p hp => by simp at hp; subst hp; exact ⟨by omega, by simp⟩⟩
  . split at hv
    . obtain ⟨_, _, rfl, rfl⟩ := hv
      refine ⟨ptr _ _ _ _ (by omega), fun p hp => ?_⟩
      simp at hp
      rcases hp with rfl | rfl
      . exact ⟨by simp; omega, by simp⟩
      . exact ⟨by simp, fun e he => by simp at he; subst he; exact own _ _ _ _ (by omega)⟩
    . obtain ⟨z, _, _, _, _, rfl, rfl⟩ := hv
      refine ⟨ptr _ _ _ _ (by omega), fun p hp => ?_⟩
      simp at hp; subst hp
      exact ⟨by simp, fun e he hn => by simp at he; subst he; exact Jl5 hn⟩
  . rename_i t x; obtain ⟨_, _, _, rfl, rfl⟩ := hv
    refine ⟨ptr _ _ _ _ (by omega), fun p hp => ?_⟩
    simp at hp; subst hp
    exact ⟨by simp, fun e he hn => by simp at he; subst he; exact hev x (by simp [Op.operands]) hn⟩
  . rename_i t len parts; obtain ⟨e, _, _, _, _, _, _, rfl, rfl⟩ := hv
    refine ⟨own _ _ _ _ (by omega), fun p hp => ?_⟩
    simp only [L0p] at hp; subst hp
    refine ⟨by simp, fun e he hn => ?_⟩
    obtain ⟨q, hq, rfl⟩ := L06.1 he
    exact hev q.2 (by simp [Op.operands]; exact ⟨q.1, by simpa using hq⟩) hn
  . split at hv
    . obtain ⟨e, _, _, z, _, _, _, _, _, _, _, rfl, rfl⟩ := hv
      refine ⟨own _ _ _ _ (by omega), fun p hp => ?_⟩
      simp only [L0p] at hp; subst hp
      exact ⟨by simp, fun e he hn => by simp only [List.mem_replicate] at he; rw [he.2] at hn; exact Jl5 hn⟩
    . exact hv.elim
  . exact hv.elim
theorem JcY {f g : AV -> AV} {es : List AV} (h : ∀ e ∈ es, f e = g e) : resL f es = resL g es := by
  unfold resL; split
  . exact L0W h
  . rfl
theorem Jh2 {L : Nat -> Prop} (hag : ∀ id, ¬ L id -> σ' id = σ id) (hst : ∀ id k, σ id = some k -> ∀ e ∈ k.es, ∀ d, L d -> ¬ DN e d) :
    ∀ (n : Nat) (x : AV), (∀ d, L d -> ¬ DN x d) -> resF n σ' x = resF n σ x := by
  intro n
  induction n with
  | zero => intro x _; rfl
  | succ n ih =>
    intro x hx
    have blk : ∀ id, ¬ L id -> σ' id = σ id /\ ∀ k, σ id = some k -> ∀ e ∈ k.es, resF n σ' e = resF n σ e := fun id hid =>
      ⟨hag id hid, fun k hk e he => ih e (hst id k hk e he)⟩
    cases x with
    | own id sz i m =>
      obtain ⟨h1, h2⟩ := blk id fun hl => hx id hl (.own ..)
      simp only [resF, h1]
      cases hk : σ id with
      | none => rfl
      | some k => simp only [JfZ]; rw [JcY (h2 k hk)]
    | ptr id sz i j =>
      obtain ⟨h1, h2⟩ := blk id fun hl => hx id hl (.ptr ..)
      simp only [resF, h1]
      cases hk : σ id with
      | none => rfl
      | some k =>
        simp only [Jf0]
        split
        . cases he : k.es[i]? with
          | none => rfl
          | some e => simp only [resE]; rw [h2 k hk e (L01 he)]
        . rfl
    | mref id =>
      obtain ⟨h1, h2⟩ := blk id fun hl => hx id hl (.mref ..)
      simp only [resF, h1]
      cases hk : σ id with
      | none => rfl
      | some k => simp only [JfY]; rw [JcY (h2 k hk)]
    | agg cs => simp only [resF]; rw [JcY fun e he => ih e fun d hd hn => hx d hd (.agg cs e d he hn)]
    | tup cs => simp only [resF]; rw [JcY fun e he => ih e fun d hd hn => hx d hd (.tup cs e d he hn)]
    | clo g cs => simp only [resF]; rw [JcY fun e he => ih e fun d hd hn => hx d hd (.clo g cs e d he hn)]
    | _ => rfl
theorem Jc8 {kd : Bool} {nm : Nat} {op : Op} {v : AV} {bl : List (Nat × Blk)} {L : Nat -> Prop} (h : ∀ x ∈ op.operands, ev E x = ev E' x) (hL : ∀ x ∈ op.operands, ∀ d, L d -> ¬ DN (ev E x) d)
    (hag : ∀ id, ¬ L id -> σ' id = σ id) (hst : ∀ id k, σ id = some k -> ∀ e ∈ k.es, ∀ d, L d -> ¬ DN e d) (hv : JeK S kd nm op E σ v bl) : JeK S kd nm op E' σ' v bl := by
  unfold JeK at hv
  split at hv
  . rename_i f args ats
    split at hv
    . rename_i g caps hf; obtain ⟨h0, r, h1, h2, h3, h4, h5, h6⟩ := hv
      have hfm : f ∈ (Op.call { callee := .value f, args := args, argTypes := ats }).operands := by simp [Op.operands, Call.operands]
      have ham : ∀ x ∈ args.toList, x ∈ (Op.call { callee := .value f, args := args, argTypes := ats }).operands := fun x hx => by simp [Op.operands, Call.operands]; exact .inr (by simpa using hx)
      have e1 : args.toList.map (ev E) = args.toList.map (ev E') := L0W fun x hx => h x (ham x hx)
      have e2 : (args.toList.map (ev E) ++ caps).map (res σ') = (args.toList.map (ev E) ++ caps).map (res σ) := L0W fun x hx => by
        refine Jh2 hag hst 8 x fun d hd hn => ?_
        rcases L0v.1 hx with hx | hx
        . obtain ⟨y, hy, rfl⟩ := L06.1 hx; exact hL y (ham y hy) d hd hn
        . exact hL f hfm d hd (by rw [hf]; exact .clo g caps x d hx hn)
      simp only [JeK]; rw [<- h f hfm, hf]
      exact ⟨h0, r, by rw [<- e1, e2]; exact h1, by rw [<- e1]; exact h2, h3, h4, h5, h6⟩
    . exact hv.elim
  . exact hv.elim
theorem JoL {id d : Nat} {r : AV} (hr : r.dn = false) (hd : d ≠ id) : ¬ DN (imp1 id r).1 d /\ ∀ p ∈ (imp1 id r).2, p.1 = id /\ ∀ e ∈ p.2.es, ¬ DN e d := by
  cases r with
  | new e sz es =>
    simp only [AV.dn] at hr
    refine ⟨fun hn => by cases hn; exact hd rfl, fun p hp => ?_⟩
    simp [imp1] at hp; subst hp
    exact ⟨rfl, fun e he hn => by have := (Jin es).2 ⟨e, he, hn.dn⟩; rw [hr] at this; cases this⟩
  | nptr e sz es =>
    simp only [AV.dn] at hr
    refine ⟨fun hn => by cases hn; exact hd rfl, fun p hp => ?_⟩
    simp [imp1] at hp; subst hp
    exact ⟨rfl, fun e he hn => by have := (Jin es).2 ⟨e, he, hn.dn⟩; rw [hr] at this; cases this⟩
  | _ => exact ⟨fun hn => Bool.noConfusion ((DN.dn hn).symm.trans hr), fun p hp => by simp [imp1] at hp⟩
theorem JkO {d : Nat} : ∀ (rs : List AV) (id : Nat), AV.dnL rs = false -> (d < id \/ id + rs.length <= d) ->
    (∀ r ∈ (impL id rs).1, ¬ DN r d) /\ ∀ p ∈ (impL id rs).2, id <= p.1 /\ p.1 < id + rs.length /\ ∀ e ∈ p.2.es, ¬ DN e d
  | [], id, _, _ => ⟨fun r hr => by simp [impL] at hr, fun p hp => by simp [impL] at hp⟩
  | r :: rs, id, hr, hd => by
    simp only [AV.dnL, L1B] at hr; simp only [L0f] at hd ⊢
    obtain ⟨h1, h2⟩ := JoL (id := id) hr.1 (show d ≠ id by omega)
    obtain ⟨h3, h4⟩ := JkO (d := d) rs (id + 1) hr.2 (by omega)
    refine ⟨fun x hx => ?_, fun p hp => ?_⟩
    . simp only [impL, L0h] at hx
      rcases hx with rfl | hx
      . exact h1
      . exact h3 x hx
    . simp only [impL, L0v] at hp
      rcases hp with hp | hp
      . obtain ⟨h5, h6⟩ := h2 p hp; exact ⟨by omega, by omega, h6⟩
      . obtain ⟨h5, h6, h7⟩ := h4 p hp; exact ⟨by omega, by omega, h7⟩
theorem Jgw {nm d : Nat} {op : Op} {v : AV} {bl : List (Nat × Blk)} (hd : d / 16 ≠ nm) (hv : JeK S false nm op E σ v bl) : ¬ DN v d /\ ∀ p ∈ bl, p.1 / 16 = nm /\ ∀ e ∈ p.2.es, ¬ DN e d := by
  unfold JeK at hv
  split at hv
  . split at hv
    . obtain ⟨_, r, _, _, hl, hr, rfl, rfl⟩ := hv
      have hr : r.dn = false := by simpa using hr
      cases r with
      | tup rs =>
        simp only [rlen] at hl
        obtain ⟨h1, h2⟩ := JkO (d := d) rs (16 * nm) hr (by omega)
        exact ⟨fun hn => (by cases hn with | tup _ c _ hc hn => exact h1 c hc hn), fun p hp => by obtain ⟨h3, h4, h5⟩ := h2 p hp; exact ⟨by omega, h5⟩⟩
      | clo g rs =>
        simp only [rlen] at hl
        obtain ⟨h1, h2⟩ := JkO (d := d) rs (16 * nm) hr (by omega)
        exact ⟨fun hn => (by cases hn with | clo _ _ c _ hc hn => exact h1 c hc hn), fun p hp => by obtain ⟨h3, h4, h5⟩ := h2 p hp; exact ⟨by omega, h5⟩⟩
      | _ => obtain ⟨h1, h2⟩ := JoL (d := d) (id := 16 * nm) hr (by omega); exact ⟨h1, fun p hp => by obtain ⟨h3, h4⟩ := h2 p hp; exact ⟨by omega, h4⟩⟩
    . exact hv.elim
  . exact hv.elim
def nmO (S : Sp) (o : Oper) : Nat := S.b + o.dst.getD 99999
def val (S : Sp) (o : Oper) (E : Env) (σ : Jac) (v : AV) (bl : List (Nat × Blk)) : Prop :=
  match cls S.P o.op o.type with
  | 0 => JaB S.P o.op E σ v /\ bl = []
  | 1 => o.dst.isSome = true /\ newV S.P (nmO S o) o.op o.type E v bl
  | 2 => JeK S false (nmO S o) o.op E σ v bl
  | _ => False
def gval (S : Sp) (ops : Array Oper) (o : Oper) (E : Env) (σ : Jac) (v : AV) (bl : List (Nat × Blk)) : Prop :=
  match o.guard with
  | none => val S o E σ v bl
  | some (j, want) => match (ops[j]?).bind (·.dst) with
    | none => False
    | some t => match E t with
      | .v (.bool b) => (b = want /\ val S o E σ v bl) \/ (b = !want /\ v = .v undef /\ bl = [])
      | .v (.tuple _) => v = .v undef /\ bl = []
      | _ => False
theorem Jkr {o : Oper} {K Kb : Env -> Jac -> Prop} (hc : cls S.P o.op o.type <= 2) : aop S false false o K Kb E σ ↔ ∃ v bl, val S o E σ v bl /\ K (updO E o.dst v) (addS σ bl) := by
  unfold aop val nmO
  have : cls S.P o.op o.type = 0 \/ cls S.P o.op o.type = 1 \/ cls S.P o.op o.type = 2 := by omega
  rcases this with h | h | h <;> rw [h]
  . simp only
    constructor
    . rintro ⟨v, h1, h2⟩; exact ⟨v, [], ⟨h1, rfl⟩, h2⟩
    . rintro ⟨v, bl, ⟨h1, rfl⟩, h2⟩; exact ⟨v, h1, h2⟩
  . simp only [kE, kS, L0A, if_false]
    constructor
    . rintro ⟨d, hd, v, bl, h1, h2⟩; exact ⟨v, bl, ⟨by simp [hd], by simpa [hd] using h1⟩, by simpa [hd] using h2⟩
    . rintro ⟨v, bl, ⟨hs, h1⟩, h2⟩
      obtain ⟨d, hd⟩ := L2h.1 hs
      exact ⟨d, hd, v, bl, by simpa [hd] using h1, by simpa [hd] using h2⟩
  . simp only [kE, kS, L0A, if_false, false_and, or_false]
theorem Jb8 {ops : Array Oper} {o : Oper} {K Kb : Env -> Jac -> Prop} (hc : cls S.P o.op o.type <= 2) : gop S false false ops o K Kb E σ ↔ ∃ v bl, gval S ops o E σ v bl /\ K (updO E o.dst v) (addS σ bl) := by
  unfold gop gval
  cases hg : o.guard with
  | none => exact Jkr hc
  | some p =>
    obtain ⟨j, want⟩ := p
    simp only
    cases ht : (ops[j]?).bind (·.dst) with
    | none => simp
    | some t =>
      simp only
      have other : (∀ b, E t ≠ .v (.bool b)) -> (∀ vs, E t ≠ .v (.tuple vs)) -> ((match E t with
          | .v (.bool b) => (b = want -> aop S false false o K Kb (upd E t (.v (.bool want))) σ) /\ (b = !want -> K (updO (upd E t (.v (.bool !want))) o.dst (.v undef)) σ)
          | .v (.tuple _) => K (updO E o.dst (.v undef)) σ
          | _ => False) ↔ ∃ v bl, (match E t with
            | .v (.bool b) => (b = want /\ val S o E σ v bl) \/ (b = !want /\ v = .v undef /\ bl = [])
            | .v (.tuple _) => v = .v undef /\ bl = []
            | _ => False) /\ K (updO E o.dst v) (addS σ bl)) := fun h1 h2 => by
        split
        . rename_i h; exact absurd h (h1 _)
        . rename_i h; exact absurd h (h2 _)
        . simp
      by_cases hb : ∃ b, E t = .v (.bool b)
      . obtain ⟨b, hb⟩ := hb; simp only [hb]
        have h1 : b = want -> upd E t (.v (.bool want)) = E := fun e => Jca E t _ (by rw [hb, e])
        have h2 : b = (!want) -> upd E t (.v (.bool !want)) = E := fun e => Jca E t _ (by rw [hb, e])
        by_cases e : b = want
        . have e2 : ¬ b = !want := by subst e; cases b <;> simp
          constructor
          . rintro ⟨h3, _⟩
            have h3 := h3 e; rw [h1 e, Jkr hc] at h3
            obtain ⟨v, bl, h3, h4⟩ := h3
            exact ⟨v, bl, .inl ⟨e, h3⟩, h4⟩
          . rintro ⟨v, bl, h3, h4⟩
            refine ⟨fun _ => ?_, fun h => absurd h e2⟩
            rw [h1 e, Jkr hc]
            rcases h3 with ⟨_, h3⟩ | ⟨h3, _⟩
            . exact ⟨v, bl, h3, h4⟩
            . exact absurd h3 e2
        . have e2 : b = !want := by cases b <;> cases want <;> simp_all
          constructor
          . rintro ⟨_, h4⟩
            have h4 := h4 e2; rw [h2 e2] at h4
            exact ⟨_, [], .inr ⟨e2, rfl, rfl⟩, h4⟩
          . rintro ⟨v, bl, h3, h4⟩
            refine ⟨fun h => absurd h e, fun _ => ?_⟩
            rw [h2 e2]
            rcases h3 with ⟨h3, _⟩ | ⟨_, rfl, rfl⟩
            . exact absurd h3 e
            . exact h4
      . by_cases hb2 : ∃ vs, E t = .v (.tuple vs)
        . obtain ⟨vs, hb2⟩ := hb2; simp only [hb2]
          constructor
          . intro h; exact ⟨_, [], ⟨rfl, rfl⟩, h⟩
          . rintro ⟨v, bl, ⟨rfl, rfl⟩, h⟩; exact h
        . exact other (fun b h => hb ⟨b, h⟩) (fun vs h => hb2 ⟨vs, h⟩)
end
section
variable {P : Program} {S : Sp} {C : Fx} {E E' : Env} {σ σ' : Jac} {a : Act} {w : World} {ρ : Nat -> Option Nat} {Im : Nat -> Prop} {M : Str}
def DC (N nm : Nat) (E : Env) (σ : Jac) : Prop :=
  ∀ d, d / 16 = nm -> Jbd d E σ /\ (∀ t, t < N -> ¬ DN (E t) d) /\ ∀ id k, σ id = some k -> ∀ e ∈ k.es, ¬ DN e d
theorem Jie {L : Nat -> Prop} : ∀ (bl : List (Nat × Blk)) (σ : Jac), (∀ p ∈ bl, L p.1) -> ∀ id, ¬ L id -> addS σ bl id = σ id
  | [], σ, _, id, _ => rfl
  | (i, k) :: bl, σ, h, id, hn => by
    simp only [addS]
    rw [Jie bl _ (fun p hp => h p (by simp [hp])) id hn, Jav _ _ _ _ (fun e => hn (by rw [e]; exact h (i, k) (by simp)))]
theorem Jlq : ∀ (bl : List (Nat × Blk)) (σ : Jac) (id : Nat) (k : Blk), addS σ bl id = some k -> σ id = some k \/ (id, k) ∈ bl
  | [], σ, id, k, h => .inl h
  | (i, k') :: bl, σ, id, k, h => by
    simp only [addS] at h
    rcases Jlq bl _ id k h with h' | h'
    . by_cases e : id = i
      . subst e; simp at h'; subst h'; exact .inr (by simp)
      . rw [Jav _ _ _ _ e] at h'; exact .inl h'
    . exact .inr (by simp [h'])
theorem Jo5 {ops : Array Oper} {o : Oper} {t : Nat} (h : Operand.tmp t ∈ o.op.operands) : t ∈ o.looksAt ops :=
  List.mem_append_left _ (L1C.2 ⟨.tmp t, by simpa using h, rfl⟩)
theorem JkS {ops : Array Oper} {o : Oper} {g t : Nat} {want : Bool} (hg : o.guard = some (g, want)) (ht : (ops[g]?).bind (·.dst) = some t) : t ∈ o.looksAt ops := by
  refine List.mem_append_right _ ?_
  rw [hg]; simp [ht]
theorem Jom {ops : Array Oper} {o : Oper} {d0 : Option Nat} {u : AV} (hd : ∀ d, d0 = some d -> d ∉ o.looksAt ops) {x : Operand} (hx : x ∈ o.op.operands) : ev (updO E d0 u) x = ev E x := by
  cases d0 with
  | none => rfl
  | some d =>
    cases x with
    | tmp t => simp only [ev, updO, upd]; rw [if_neg (fun e => hd d rfl (by subst e; exact Jo5 hx))]
    | _ => rfl
theorem JtF {N d : Nat} {x : Operand} (hx : Operand.low N x = true) (h : ∀ t, t < N -> ¬ DN (E t) d) : ¬ DN (ev E x) d := fun hn => by
  cases x with
  | tmp t => exact h t (by simpa [Operand.low] using hx) hn
  | const v => exact Jl5 hn
  | global g => cases hn
  | func f => cases hn with | clo _ _ c _ hc hn => simp at hc
theorem JdW {ops : Array Oper} {o : Oper} (hf : Oper.fits S.P S.N o = true) {d0 : Option Nat} {u : AV} (hd : ∀ d, d0 = some d -> d ∉ o.looksAt ops) {nm : Nat} {bl0 : List (Nat × Blk)}
    (hdc : bl0 = [] \/ (DC S.N nm E σ /\ ∀ p ∈ bl0, p.1 / 16 = nm)) {v : AV} {bl : List (Nat × Blk)} : gval S ops o (updO E d0 u) (addS σ bl0) v bl ↔ gval S ops o E σ v bl := by
  obtain ⟨_, hlow, _⟩ := Jda hf
  have hev : ∀ x ∈ o.op.operands, ev (updO E d0 u) x = ev E x := fun x hx => Jom hd hx
  have key : val S o (updO E d0 u) (addS σ bl0) v bl ↔ val S o E σ v bl := by
    rcases hdc with rfl | ⟨hdc, hb⟩
    . simp only [addS]; unfold val
      split
      . exact and_congr_left fun _ => ⟨Jdl hev fun _ _ _ _ => rfl, Jdl (fun x hx => (hev x hx).symm) fun _ _ _ _ => rfl⟩
      . exact and_congr_right fun _ => ⟨JdY hev, JdY fun x hx => (hev x hx).symm⟩
      . exact ⟨Jc8 (L := fun _ => False) hev (fun _ _ _ h => h.elim) (fun _ _ => rfl) (fun _ _ _ _ _ _ h => h.elim), Jc8 (L := fun _ => False) (fun x hx => (hev x hx).symm) (fun _ _ _ h => h.elim) (fun _ _ => rfl) (fun _ _ _ _ _ _ h => h.elim)⟩
      . rfl
    . have hag : ∀ id, ¬ id / 16 = nm -> addS σ bl0 id = σ id := Jie bl0 σ hb
      have hnd : ∀ x ∈ o.op.operands, ∀ d, d / 16 = nm -> ¬ DN (ev E x) d := fun x hx d hd => JtF (Jbw hlow hx) (hdc d hd).2.1
      have hst : ∀ id k, σ id = some k -> ∀ e ∈ k.es, ∀ d, d / 16 = nm -> ¬ DN e d := fun id k hk e he d hd => (hdc d hd).2.2 id k hk e he
      have hag' : ∀ x ∈ o.op.operands, ∀ id, Names (ev E x) id -> addS σ bl0 id = σ id := fun x hx id hn => hag id fun h => hnd x hx id h (DN.of hn)
      -- the way back: what is not of 'nm' is the same in both
      unfold val
      split
      . refine and_congr_left fun _ => ⟨fun h => ?_, fun h => Jdl (fun x hx => (hev x hx).symm) hag' h⟩
        exact Jdl (E' := E) hev (fun x hx id hn => by rw [hev x hx] at hn; exact (hag' x hx id hn).symm) h
      . exact and_congr_right fun _ => ⟨JdY hev, JdY fun x hx => (hev x hx).symm⟩
      . refine ⟨fun h => ?_, fun h => Jc8 (L := fun d => d / 16 = nm) (fun x hx => (hev x hx).symm) hnd hag hst h⟩
        have h1 : JeK S false (nmO S o) o.op E (addS σ bl0) v bl := Jc8 (L := fun _ => False) hev (fun _ _ _ h => h.elim) (fun _ _ => rfl) (fun _ _ _ _ _ _ h => h.elim) h
        -- without the new blocks
        unfold JeK at h1 ⊢
        split at h1
        . rename_i f args ats ho
          split at h1
          . rename_i g caps hfv; obtain ⟨h0, r, h2, h3⟩ := h1
            refine ⟨h0, r, ?_, h3⟩
            have : (args.toList.map (ev E) ++ caps).map (res (addS σ bl0)) = (args.toList.map (ev E) ++ caps).map (res σ) := L0W fun x hx => by
              refine Jh2 hag hst 8 x fun d hd hn => ?_
              rcases L0v.1 hx with hx | hx
              . obtain ⟨y, hy, rfl⟩ := L06.1 hx
                exact hnd y (by rw [ho]; simp [Op.operands, Call.operands]; exact .inr (by simpa using hy)) d hd hn
              . exact hnd f (by rw [ho]; simp [Op.operands, Call.operands]) d hd (by rw [hfv]; exact .clo g caps x d hx hn)
            rw [<- this]; exact h2
          . exact h1.elim
        . exact h1.elim
      . rfl
  unfold gval
  split
  . exact key
  . rename_i j want hg
    split
    . rfl
    . rename_i t ht
      have he : updO E d0 u t = E t := by
        cases d0 with
        | none => rfl
        | some d => simp only [updO, upd]; rw [if_neg (fun e => hd d rfl (by subst e; exact JkS hg ht))]
      rw [he]
      split
      . rw [key]
      . rfl
      . rfl
theorem Jqa {o : Oper} (hf : Oper.fits S.P S.N o = true) {d : Nat} (hE : ∀ t, t < S.N -> ¬ DN (E t) d) (hst : ∀ id k, σ id = some k -> ∀ e ∈ k.es, ¬ DN e d) {v : AV} {bl : List (Nat × Blk)}
    (hv : val S o E σ v bl) (hd : isNm S.P o = true -> d / 16 ≠ nmO S o) : ¬ DN v d /\ ∀ p ∈ bl, p.1 / 16 ≠ d / 16 /\ ∀ e ∈ p.2.es, ¬ DN e d := by
  obtain ⟨_, hlow, _⟩ := Jda hf
  have hev : ∀ x ∈ o.op.operands, ¬ DN (ev E x) d := fun x hx => JtF (Jbw hlow hx) hE
  unfold val at hv
  split at hv
  . obtain ⟨h1, rfl⟩ := hv; exact ⟨Jk1 hev hst h1, fun p hp => by simp at hp⟩
  . rename_i hc
    have hd := hd (by simp [isNm, hc])
    obtain ⟨h1, h2⟩ := Jm7 hev hd hv.2
    exact ⟨h1, fun p hp => ⟨by rw [(h2 p hp).1]; exact hd.symm, (h2 p hp).2⟩⟩
  . rename_i hc
    have hd := hd (by simp [isNm, hc])
    obtain ⟨h1, h2⟩ := Jgw hd hv
    exact ⟨h1, fun p hp => ⟨by rw [(h2 p hp).1]; exact hd.symm, (h2 p hp).2⟩⟩
  . exact hv.elim
theorem JcU {ops : Array Oper} {o : Oper} {v : AV} {bl : List (Nat × Blk)} (h : gval S ops o E σ v bl) : val S o E σ v bl \/ (v = .v undef /\ bl = []) := by
  unfold gval at h
  split at h
  . exact .inl h
  . split at h
    . exact h.elim
    . split at h
      . rcases h with ⟨_, h⟩ | ⟨_, h⟩
        . exact .inl h
        . exact .inr h
      . exact .inr h
      . exact h.elim
theorem Ji2 {o : Oper} {v : AV} {bl : List (Nat × Blk)} (hv : val S o E σ v bl) : ∀ p ∈ bl, p.1 / 16 = nmO S o /\ isNm S.P o = true := by
  unfold val at hv
  split at hv
  . obtain ⟨_, rfl⟩ := hv; intro p hp; simp at hp
  . rename_i hc
    intro p hp
    -- by any name apart
    refine ⟨?_, by simp [isNm, hc]⟩
    have := hv.2
    unfold newV at this
    split at this
    . obtain ⟨e, _, _, rfl⟩ := this; simp at hp; subst hp; simp
    . obtain ⟨e, _, _, rfl⟩ := this; simp at hp; subst hp; simp
    . split at this
      . obtain ⟨_, _, _, rfl⟩ := this; simp at hp; rcases hp with rfl | rfl <;> simp <;> omega
      . obtain ⟨z, _, _, _, _, _, rfl⟩ := this; simp at hp; subst hp; simp
    . obtain ⟨_, _, _, _, rfl⟩ := this; simp at hp; subst hp; simp
    . obtain ⟨e, _, _, _, _, _, _, _, rfl⟩ := this; simp at hp; subst hp; simp
    . split at this
      . obtain ⟨e, _, _, z, _, _, _, _, _, _, _, _, rfl⟩ := this; simp at hp; subst hp; simp
      . exact this.elim
    . exact this.elim
  . rename_i hc
    intro p hp
    exact ⟨((Jgw (d := 16 * (nmO S o) + 16) (by omega) hv).2 p hp).1, by simp [isNm, hc]⟩
  . exact hv.elim
theorem DC.step {nm : Nat} {ops : Array Oper} {o : Oper} (hf : Oper.fits S.P S.N o = true) (hdc : DC S.N nm E σ) {v : AV} {bl : List (Nat × Blk)} (hv : gval S ops o E σ v bl) (hne : isNm S.P o = true -> nm ≠ nmO S o) :
    DC S.N nm (updO E o.dst v) (addS σ bl) := by
  intro d hd
  obtain ⟨h1, h2, h3⟩ := hdc d hd
  have hn : ¬ DN v d /\ ∀ p ∈ bl, p.1 / 16 ≠ d / 16 /\ ∀ e ∈ p.2.es, ¬ DN e d := by
    rcases JcU hv with hv | ⟨rfl, rfl⟩
    . exact Jqa hf h2 h3 hv fun hi => by rw [hd]; exact hne hi
    . exact ⟨fun h => (by cases h), fun p hp => by simp at hp⟩
  have hst : ∀ id k, addS σ bl id = some k -> ∀ e ∈ k.es, ¬ DN e d := fun id k hk e he => by
    rcases Jlq bl σ id k hk with h' | h'
    . exact h3 id k h' e he
    . exact (hn.2 _ h').2 e he
  have hE : ∀ t, (∀ x, E t = x -> ¬ DN x d) -> ¬ DN (updO E o.dst v t) d := fun t ht => by
    cases hdst : o.dst with
    | none => exact ht _ rfl
    | some x => simp only [updO, upd]; split; exact hn.1; exact ht _ rfl
  refine ⟨⟨?_, fun t hnn => ?_, fun id k hk e he hnn => hst id k hk e he (DN.of hnn)⟩, fun t ht => hE t fun x hx => by rw [<- hx]; exact h2 t ht, hst⟩
  . rw [Jie (L := fun i => i / 16 ≠ d / 16) bl σ (fun p hp => (hn.2 p hp).1) d (by simp)]; exact h1.1
  . cases hdst : o.dst with
    | none => rw [hdst] at hnn; exact h1.2.1 t hnn
    | some x =>
      rw [hdst] at hnn; simp only [updO, upd] at hnn
      split at hnn
      . exact hn.1 (DN.of hnn)
      . exact h1.2.1 t hnn
theorem Jki {d d' : Option Nat} {v v' : AV} (h : ∀ x, d = some x -> d' ≠ some x) : updO (updO E d v) d' v' = updO (updO E d' v') d v := by
  cases d with
  | none => cases d' <;> rfl
  | some x => cases d' with
    | none => rfl
    | some y => simp only [updO]; exact JrZ E x y v v' fun e => h x rfl (by rw [e])
theorem Jgl {L L' : Nat -> Prop} : ∀ (bl bl' : List (Nat × Blk)) (σ : Jac), (∀ p ∈ bl, L p.1) -> (∀ p ∈ bl', ¬ L p.1) -> addS (addS σ bl) bl' = addS (addS σ bl') bl
  | [], _, _, _, _ => rfl
  | (i, k) :: bl, bl', σ, h, h' => by
    simp only [addS]
    rw [Jgl (L := L) (L' := L') bl bl' _ (fun p hp => h p (by simp [hp])) h']
    congr 1
    have : ∀ (l : List (Nat × Blk)) (σ : Jac), (∀ p ∈ l, p.1 ≠ i) -> addS (updS σ i k) l = updS (addS σ l) i k := by
      intro l
      induction l with
      | nil => intro σ _; rfl
      | cons x l ih =>
        obtain ⟨j, k'⟩ := x
        intro σ hl
        simp only [addS]
        rw [<- ih _ fun p hp => hl p (by simp [hp])]
        congr 1
        funext t
        have := hl (j, k') (by simp)
        simp only [updS]
        split <;> split <;> simp_all
    exact this bl' σ fun p hp e => h' p hp (by rw [e]; exact h (i, k) (by simp))
end
section
variable {S : Sp} {C : Fx} {E E' : Env} {σ σ' : Jac} {a : Act} {w : World} {ρ : Nat -> Option Nat} {Im : Nat -> Prop} {M : Str} {ops : Array Oper}
def Jex (ops : Array Oper) (l : List Nat) : List Oper := l.filterMap fun i => ops[i]?
def Jbu (S : Sp) (ops : Array Oper) : List Nat -> (Env -> Jac -> Prop) -> Env -> Jac -> Prop
  | [], K => K
  | i :: l, K => match ops[i]? with
    | some o => gop S false (bar ops i) ops o (Jbu S ops l K) (struck S true (Jex ops l) (Jbu S ops l K))
    | none => Jbu S ops l K
theorem Jdi : ∀ (l : List Oper) (i : Nat), (∀ j, j < l.length -> l[j]? = ops[i + j]?) -> Jex ops (List.range' i l.length) = l
  | [], i, _ => rfl
  | o :: l, i, h => by
    have h0 : ops[i]? = some o := by simpa using (h 0 (by simp)).symm
    rw [L0f, L1P]; simp only [Jex, List.filterMap_cons, h0]
    congr 1
    exact Jdi l (i + 1) fun j hj => by have := h (j + 1) (by simpa using hj); simpa [L0L, Nat.add_comm 1 j] using this
theorem Jgq : ∀ (l : List Oper) (i : Nat) (K : Env -> Jac -> Prop), (∀ j, j < l.length -> l[j]? = ops[i + j]?) -> Jef S true ops i l K = Jbu S ops (List.range' i l.length) K
  | [], i, K, _ => rfl
  | o :: l, i, K, h => by
    have h0 : ops[i]? = some o := by simpa using (h 0 (by simp)).symm
    have h' : ∀ j, j < l.length -> l[j]? = ops[i + 1 + j]? := fun j hj => by have := h (j + 1) (by simpa using hj); simpa [L0L, Nat.add_comm 1 j] using this
    rw [L0f, L1P]; simp only [Jef, Jbu, h0, Bool.not_true, L1y]; rw [Jgq l (i + 1) K h', Jdi l (i + 1) h']
theorem JdC {P : Program} (hd : Jeg P ops = true) {i : Nat} {oi : Oper} (hi : ops[i]? = some oi) :
    (∀ e ∈ oi.after, Region.binds .any e = true -> e.on < i) /\ (∀ j oj, i < j -> ops[j]? = some oj -> (waits ops ops.size j i = true \/ (oi.apart ops oj = true /\ cls P oi.op oi.type <= 2 /\ cls P oj.op oj.type <= 2)) /\
      (isNm P oi = true -> isNm P oj = true -> oi.dst.getD 99999 ≠ oj.dst.getD 99999)) := by
  have hlt : i < ops.size := (L0j.1 hi).1
  have h := L0b.1 hd i (L0P.2 hlt); simp only [hi, L00, Array.all_eq_true_iff_forall_mem] at h
  obtain ⟨⟨h1, _⟩, h2⟩ := h
  refine ⟨fun e he hb => ?_, fun j oj hij hj => ?_⟩
  . have := h1 e he; simpa [hb] using this
  . have hjlt : j < ops.size := (L0j.1 hj).1
    have := L0b.1 h2 j (L0P.2 hjlt)
    simp only [hj, L0x, decide_eq_true_eq, L00, L0S, bne_iff_ne, ne_eq] at this
    rcases this with this | ⟨h3, h4⟩
    . omega
    . refine ⟨h3.imp_right fun h => ⟨h.1.1, h.1.2, h.2⟩, fun ha hb => ?_⟩
      rcases h4 with (h4 | h4) | h4
      . rw [ha] at h4; cases h4
      . rw [hb] at h4; cases h4
      . exact h4
theorem Jkp {α : Type} {xs : Array α} {p : α -> Bool} (h : xs.any p = true) : ∃ e ∈ xs, p e = true := by
  rw [<- Array.any_toList] at h
  obtain ⟨e, he, hp⟩ := L1u.1 h
  exact ⟨e, L0t.1 he, hp⟩
theorem Jmr {P : Program} (hd : Jeg P ops = true) : ∀ (n j i : Nat), waits ops n j i = true -> i < j
  | 0, _, _, h => by simp [waits] at h
  | n + 1, j, i, h => by
    simp only [waits] at h
    split at h
    . rename_i o ho
      obtain ⟨e, he, hb⟩ := Jkp h
      simp only [L00, L0x, beq_iff_eq] at hb; have h1 := (JdC hd ho).1 e he hb.1
      rcases hb.2 with hb | hb
      . omega
      . have := Jmr hd n e.on i hb; omega
    . cases h
theorem JdO {listed : Array Bool} (hcl : ∀ i o, ops[i]? = some o -> listed.getD i false = true -> ∀ e ∈ o.after, Region.binds .any e = true -> listed.getD e.on false = true) :
    ∀ (n i j : Nat) (o : Oper), ops[i]? = some o -> (∀ e ∈ o.after, Region.binds .any e = true -> listed.getD e.on false = true) -> waits ops n i j = true -> listed.getD j false = true
  | 0, _, _, _, _, _, h => by simp [waits] at h
  | n + 1, i, j, o, ho, hall, h => by
    simp only [waits, ho] at h
    obtain ⟨e, he, hb⟩ := Jkp h
    simp only [L00, L0x, beq_iff_eq] at hb; have h1 := hall e he hb.1
    rcases hb.2 with hb2 | hb2
    . rw [<- hb2]; exact h1
    . cases n with
      | zero => simp [waits] at hb2
      | succ n =>
        cases hoe : ops[e.on]? with
        | none => simp [waits, hoe] at hb2
        | some oe => exact JdO hcl (n + 1) e.on j oe hoe (hcl e.on oe hoe h1) hb2
theorem JnR {P : Program} (hd : Jeg P ops = true) {i j : Nat} (hj : j < i) (hi : i < ops.size) (h : waits ops ops.size i j = false) : bar ops i = false /\ bar ops j = false := by
  have hno : waits ops ops.size j i = false := by
    cases hw : waits ops ops.size j i with
    | false => rfl
    | true => have := Jmr hd _ _ _ hw; omega
  constructor
  . cases hb : bar ops i with
    | false => rfl
    | true =>
      have := L0b.1 hb j (L0P.2 (by omega))
      simp [h, hno] at this; omega
  . cases hb : bar ops j with
    | false => rfl
    | true =>
      have := L0b.1 hb i (L0P.2 hi)
      simp [h, hno] at this; omega
def Ja9 (S : Sp) (ops : Array Oper) (l : List Nat) (E : Env) (σ : Jac) : Prop := ∀ k ∈ l, ∀ o, ops[k]? = some o -> isNm S.P o = true -> DC S.N (nmO S o) E σ
theorem Jx4 (hd : Jeg S.P ops = true) {i j : Nat} {oi oj : Oper} (hi : ops[i]? = some oi) (hj : ops[j]? = some oj) (hne : i ≠ j) (h1 : isNm S.P oi = true) (h2 : isNm S.P oj = true) : nmO S oi ≠ nmO S oj := by
  unfold nmO
  rcases Nat.lt_or_ge i j with h | h
  . exact fun e => ((JdC hd hi).2 j oj h hj).2 h1 h2 (L22 e)
  . exact fun e => ((JdC hd hj).2 i oi (by omega) hi).2 h2 h1 (L22 e.symm)
theorem Ja9.step (hall : ∀ (i : Nat) (o : Oper), ops[i]? = some o -> Oper.fits S.P S.N o = true) (hd : Jeg S.P ops = true) {i : Nat} {oi : Oper} (hi : ops[i]? = some oi) {l : List Nat} (hn : i ∉ l) (h : Ja9 S ops l E σ) {v : AV} {bl : List (Nat × Blk)}
    (hv : gval S ops oi E σ v bl) : Ja9 S ops l (updO E oi.dst v) (addS σ bl) := fun k hk o ho hnm =>
  (h k hk o ho hnm).step (hall i oi hi) hv fun h1 => Jx4 hd ho hi (fun e => hn (e ▸ hk)) hnm h1
theorem bubble (hall : ∀ (i : Nat) (o : Oper), ops[i]? = some o -> Oper.fits S.P S.N o = true) (hd : Jeg S.P ops = true) {i : Nat} {oi : Oper} (hi : ops[i]? = some oi) {post : List Nat} {K : Env -> Jac -> Prop} :
    ∀ (pre : List Nat), (∀ j ∈ pre, j < i /\ waits ops ops.size i j = false) -> (pre ++ i :: post).Nodup -> ∀ (E : Env) (σ : Jac), Ja9 S ops (pre ++ i :: post) E σ -> Jbu S ops (pre ++ i :: post) K E σ -> Jbu S ops (i :: (pre ++ post)) K E σ
  | [], _, _, E, σ, _, h => h
  | j :: pre, hp, hnd, E, σ, hdc, h => by
    obtain ⟨hji, hw⟩ := hp j (by simp)
    have hilt : i < ops.size := (L0j.1 hi).1
    obtain ⟨oj, hj⟩ : ∃ oj, ops[j]? = some oj := ⟨_, L0g (by omega)⟩
    obtain ⟨hbi, hbj⟩ := JnR hd hji hilt hw
    have hcom := (((JdC hd hj).2 i oi hji hi).1).resolve_left (by rw [hw]; simp)
    obtain ⟨hap, hcj, hci⟩ := hcom
    obtain ⟨a1, a2, a3⟩ := Oper.apart_spec hap
    rw [L0w, L1n] at hnd; simp only [L0w, Jbu, hj, hbj] at h
    obtain ⟨vj, blj, hvj, h⟩ := (Jb8 hcj).1 h
    have hdc1 : Ja9 S ops (pre ++ i :: post) (updO E oj.dst vj) (addS σ blj) := Ja9.step hall hd hj hnd.1 (fun k hk => hdc k (by simp only [L0w, L0h]; exact .inr hk)) hvj
    have h := bubble hall hd hi pre (fun k hk => hp k (by simp [hk])) hnd.2 _ _ hdc1 h
    simp only [Jbu, hi, hbi] at h
    obtain ⟨vi, bli, hvi, h⟩ := (Jb8 hci).1 h
    have ownj : ∀ p ∈ blj, p.1 / 16 = nmO S oj /\ isNm S.P oj = true := by
      rcases JcU hvj with hv | ⟨_, rfl⟩
      . exact Ji2 hv
      . intro p hp; simp at hp
    have dcj : blj = [] \/ (DC S.N (nmO S oj) E σ /\ ∀ p ∈ blj, p.1 / 16 = nmO S oj) := by
      cases hb : blj with
      | nil => exact .inl rfl
      | cons p l => exact .inr ⟨hdc j (by simp) oj hj (ownj p (by rw [hb]; simp)).2, fun q hq => (ownj q (by rw [hb]; exact hq)).1⟩
    have hvi0 : gval S ops oi E σ vi bli := (JdW (hall i oi hi) a1 dcj).1 hvi
    have owni : ∀ p ∈ bli, p.1 / 16 = nmO S oi /\ isNm S.P oi = true := by
      rcases JcU hvi0 with hv | ⟨_, rfl⟩
      . exact Ji2 hv
      . intro p hp; simp at hp
    have dci : bli = [] \/ (DC S.N (nmO S oi) E σ /\ ∀ p ∈ bli, p.1 / 16 = nmO S oi) := by
      cases hb : bli with
      | nil => exact .inl rfl
      | cons p l => exact .inr ⟨hdc i (by simp) oi hi (owni p (by rw [hb]; simp)).2, fun q hq => (owni q (by rw [hb]; exact hq)).1⟩
    have hvj0 : gval S ops oj (updO E oi.dst vi) (addS σ bli) vj blj := (JdW (hall j oj hj) a3 dci).2 hvj
    have e1 : updO (updO E oj.dst vj) oi.dst vi = updO (updO E oi.dst vi) oj.dst vj := Jki a2
    have e2 : addS (addS σ blj) bli = addS (addS σ bli) blj := by
      by_cases hb : isNm S.P oi = true /\ isNm S.P oj = true
      . have hne := Jx4 (S := S) hd hi hj (by omega) hb.1 hb.2
        exact Jgl (L := fun id => id / 16 = nmO S oj) (L' := fun _ => True) blj bli σ (fun p hp => (ownj p hp).1) fun p hp h => hne ((owni p hp).1.symm.trans h)
      . have : blj = [] \/ bli = [] := by
          cases hb1 : blj with
          | nil => exact .inl rfl
          | cons p l => cases hb2 : bli with
            | nil => exact .inr rfl
            | cons q m => exact absurd ⟨(owni q (by rw [hb2]; simp)).2, (ownj p (by rw [hb1]; simp)).2⟩ hb
        rcases this with h' | h' <;> rw [h'] <;> rfl
    rw [e1, e2] at h; simp only [Jbu, hi, hbi]
    refine (Jb8 hci).2 ⟨vi, bli, hvi0, ?_⟩
    simp only [L0w, Jbu, hj, hbj]
    exact (Jb8 hcj).2 ⟨vj, blj, hvj0, h⟩
def rem (ops : Array Oper) (listed : Array Bool) : List Nat := (List.range ops.size).filter fun i => !listed.getD i true
theorem Ja2 {listed : Array Bool} {i : Nat} : i ∈ rem ops listed ↔ i < ops.size /\ listed.getD i true = false := by simp [rem]
theorem Jg7 (listed : Array Bool) : (rem ops listed).Nodup := List.Pairwise.filter _ List.nodup_range
theorem Jce (listed : Array Bool) : (rem ops listed).Pairwise (· < ·) := List.Pairwise.filter _ List.pairwise_lt_range
theorem JiR {listed : Array Bool} (hs : listed.size = ops.size) {i : Nat} {pre post : List Nat} (h : rem ops listed = pre ++ i :: post) : rem ops (listed.setIfInBounds i true) = pre ++ post := by
  have hnd := Jg7 (ops := ops) listed
  have e : rem ops (listed.setIfInBounds i true) = (rem ops listed).filter fun k => k != i := by
    unfold rem; rw [List.filter_filter]
    apply List.filter_congr
    intro k hk
    have hk : k < listed.size := by rw [hs]; exact L0P.1 hk
    by_cases hki : k = i
    . subst hki; simp [hk]
    . have : ∀ d, (listed.setIfInBounds i true).getD k d = listed.getD k d := fun d => by
        simp only [L0I]; rw [L16 (Ne.symm hki)]
      rw [this]; simp [hki]
  rw [e, h]; rw [h] at hnd; simp only [List.filter_append, List.filter_cons, bne_self_eq_false, L0A, if_false]; rw [L1R] at hnd; obtain ⟨h1, h2, h3⟩ := hnd; rw [L1n] at h2
  congr 1
  . rw [L23]; intro k hk; have := h3 k hk i (by simp); simpa using this
  . rw [L23]; intro k hk; simp; rintro rfl; exact h2.1 hk
theorem JqL (H : Holds S C) (hs : St C E σ a w) {nm : Nat} (h : ∀ d, d / 16 = nm -> Jbd d E σ) : DC S.N nm E σ := by
  obtain ⟨ρ, Im, M, hw⟩ := hs
  intro d hd
  have hc := h d hd
  refine ⟨hc, fun t ht hn => ?_, fun id k hk e he hn => ?_⟩
  . have hlt : t < a.tmps.size := by rw [hw.size, <- H.N]; exact ht
    exact hc.2.1 t ((hw.env t _ (L0g hlt)).dn hn)
  . refine hc.2.2 id k hk e he ?_
    cases hρ : ρ id with
    | none => rw [hw.inv.nil id k hk hρ] at he; simp at he
    | some b =>
      by_cases hz : k.sz = 0
      . obtain ⟨ents, clk, _, hl, hall⟩ := hw.inv.map id k b hk hρ hz
        obtain ⟨i, hi⟩ := L0s.1 he
        have hlt : i < ents.size := by rw [<- hl.1]; exact (L04.1 hi).1
        obtain ⟨v, hv, hr⟩ := hall i _ (L0g hlt)
        rw [hi] at hv; cases hv
        cases hn with | tup _ c _ hc hn =>
          simp at hc
          rcases hc with rfl | rfl
          . cases hn
          . exact .tup _ _ d (by simp) (hr.dn hn)
      . obtain ⟨cur, _, _, _, hall⟩ := hw.inv.blk id k b hk hρ hz
        obtain ⟨c, hc, hn⟩ := hn.cell
        obtain ⟨i, hi⟩ := L0s.1 he
        obtain ⟨j, hj⟩ := L0s.1 hc
        obtain ⟨x, _, _, hr⟩ := hall i e j c hi hj
        exact Jbh hc (hr.dn hn)
theorem JiQ {l : List Oper} {i : Nat} : regP S l i = true ↔ ∃ o ∈ l, isNm S.P o = true /\ i / 16 = nmO S o := by
  simp only [regP, L0G, L1C, isNm, nmO]
  constructor
  . rintro ⟨o, ho, h⟩
    split at h
    . rename_i hc; exact ⟨o, ho, hc, (Option.some.inj h).symm⟩
    . cases h
  . rintro ⟨o, ho, hc, e⟩
    exact ⟨o, ho, by rw [if_pos hc, e]⟩
theorem Jff {l : List Nat} (H : Holds S C) (hall : ∀ o ∈ Jex ops l, Oper.fits S.P S.N o = true) {K : Env -> Jac -> Prop} (h : struck S true (Jex ops l) K E σ) (hs : St C E σ a w) :
    ∃ E' σ', K E' σ' /\ Ja9 S ops l E' σ' /\ St C E' σ' a w := by
  simp only [struck, if_true] at h
  have hs' : St C (JaT (regP S (Jex ops l)) E) (Jaj (regP S (Jex ops l)) σ) a w := hs.kill H.G _ fun id b hb => by
    cases hr : regP S (Jex ops l) id with
    | false => rfl
    | true =>
      obtain ⟨o, ho, hnm, e⟩ := JiQ.1 hr
      have hdm : o.dst.getD 99999 < 100000 := by
        cases hd : o.dst with
        | none => simp
        | some d => exact L0Q ((Jda (hall o ho)).1 d hd) (L0r H.big (by decide))
      have := H.own hdm id b hb
      simp [own] at this
      exact absurd e this
  refine ⟨_, _, h, fun k hk o ho hnm => JqL H hs' fun d hd => ?_, hs'⟩
  exact JbC (JiQ.2 ⟨o, L1C.2 ⟨k, hk, ho⟩, hnm, hd⟩) E σ
theorem JhA {bi : Bool} {o : Oper} {K Kb X : Env -> Jac -> Prop} (hstep : ∀ v bl, val S o E σ v bl -> X (updO E o.dst v) (addS σ bl)) (h : aop S false bi o K Kb E σ) :
    aop S false bi o (fun E' σ' => K E' σ' /\ X E' σ') Kb E σ := by
  unfold aop at *; unfold val nmO at hstep
  split at h
  . rename_i hc; simp only [hc] at hstep
    obtain ⟨v, h1, h2⟩ := h; exact ⟨v, h1, h2, hstep v [] ⟨h1, rfl⟩⟩
  . rename_i hc; simp only [hc] at hstep
    obtain ⟨d, hd, v, bl, h1, h2⟩ := h; simp only [kE, kS, L0A, if_false] at h1 h2 ⊢
    exact ⟨d, hd, v, bl, h1, h2, by have := hstep v bl ⟨by simp [hd], by simpa [hd] using h1⟩; simpa [hd] using this⟩
  . rename_i hc; simp only [hc] at hstep
    simp only [kE, kS, L0A, if_false] at h ⊢
    rcases h with ⟨v, bl, h1, h2⟩ | h
    . exact .inl ⟨v, bl, h1, h2, hstep v bl h1⟩
    . exact .inr h
  . exact h
  . exact h
  . exact h
  . exact h
theorem JhI {bi : Bool} {o : Oper} {K Kb X : Env -> Jac -> Prop} (hstep : ∀ v bl, gval S ops o E σ v bl -> X (updO E o.dst v) (addS σ bl)) (h : gop S false bi ops o K Kb E σ) :
    gop S false bi ops o (fun E' σ' => K E' σ' /\ X E' σ') Kb E σ := by
  unfold gop at *; unfold gval at hstep
  cases hg : o.guard with
  | none => simp only [hg] at h hstep ⊢; exact JhA hstep h
  | some p =>
    obtain ⟨j, want⟩ := p; simp only [hg] at h hstep ⊢
    cases ht : (ops[j]?).bind (·.dst) with
    | none => simp [ht] at h
    | some t =>
      simp only [ht] at h hstep ⊢
      split at h
      . rename_i b hb; simp only [hb] at hstep
        have h1 : b = want -> upd E t (.v (.bool want)) = E := fun e => Jca E t _ (by rw [hb, e])
        have h2 : b = (!want) -> upd E t (.v (.bool !want)) = E := fun e => Jca E t _ (by rw [hb, e])
        refine ⟨fun e => ?_, fun e => ?_⟩
        . have h := h.1 e; rw [h1 e] at h ⊢
          exact JhA (fun v bl hv => hstep v bl (.inl ⟨e, hv⟩)) h
        . refine ⟨h.2 e, ?_⟩
          rw [h2 e]; exact hstep _ [] (.inr ⟨e, rfl, rfl⟩)
      . rename_i hb; simp only [hb] at hstep
        exact ⟨h, hstep _ [] ⟨rfl, rfl⟩⟩
      . exact h.elim
theorem JcR (H : Holds S C) : Ji5 S C := by
  intro ops hfits hd n K Q E σ a w hK hv hs id
  have hall : ∀ (i : Nat) (o : Oper), ops[i]? = some o -> Oper.fits S.P S.N o = true := fun i o ho => L0b.1 hfits o (L0t.2 (L1A ho))
  have hat : ∀ l, ∀ o ∈ Jex ops l, Oper.fits S.P S.N o = true := fun l o ho => by
    obtain ⟨i, _, hi⟩ := L1C.1 ho; exact hall i o hi
  have hfull : Jex ops (List.range' 0 ops.toList.length) = ops.toList := Jdi ops.toList 0 fun j _ => by simp
  refine wpIn_region_any H.mo ?_
  obtain ⟨E1, σ1, hv1, hdc1, hs1⟩ := Jff (l := List.range' 0 ops.toList.length) H (hat _) (by rw [hfull]; exact hv) (hs.drew H.G (w.drawn + 1))
  rw [Jgq ops.toList 0 K fun j _ => by simp] at hv1
  have key : ∀ (fuel : Nat) (listed : Array Bool) (E : Env) (σ : Jac) (a : Act) (w : World), listed.size = ops.size -> (rem ops listed).length <= fuel ->
      (∀ i o, ops[i]? = some o -> listed.getD i false = true -> ∀ e ∈ o.after, Region.binds .any e = true -> listed.getD e.on false = true) ->
      Jbu S ops (rem ops listed) K E σ -> Ja9 S ops (rem ops listed) E σ -> St C E σ a w -> wpAnyIn (FW C.rdl) n S.P .any ops Q fuel listed a w := by
    intro fuel
    induction fuel with
    | zero =>
      intro listed E σ a w hsz hle hcl hv hdc hs
      have h0 : rem ops listed = [] := L0R (by omega)
      rw [h0] at hv
      refine ⟨?_, hK _ _ _ _ hv hs⟩
      cases hr : Region.ready .any ops listed with
      | nil => rfl
      | cons i l =>
        have hi : i ∈ Region.ready .any ops listed := by rw [hr]; simp
        obtain ⟨h1, o, ho, _⟩ := mem_ready.1 hi
        have : i ∈ rem ops listed := Ja2.2 ⟨(L0j.1 ho).1, h1⟩
        rw [h0] at this; simp at this
    | succ fuel ih =>
      intro listed E σ a w hsz hle hcl hv hdc hs
      have getD_same : ∀ i, i < ops.size -> listed.getD i true = listed.getD i false := fun i hi => by
        simp only [L0I]; rw [L0g (by omega)]; rfl
      refine ⟨fun h0 => ?_, fun i hi => ?_⟩
      . -- nothing is ready: nothing is left
        have hr : rem ops listed = [] := by
          cases hr : rem ops listed with
          | nil => rfl
          | cons i l =>
            exfalso
            have hm : i ∈ rem ops listed := by rw [hr]; simp
            obtain ⟨hlt, hun⟩ := Ja2.1 hm
            have : i ∈ Region.ready .any ops listed := mem_ready.2 ⟨hun, _, L0g hlt, fun e he hb => by
              have hei := (JdC hd (L0g hlt)).1 e he hb
              cases hl : listed.getD e.on false with
              | true => rfl
              | false =>
                have hme : e.on ∈ rem ops listed := Ja2.2 ⟨by omega, by rw [getD_same _ (by omega)]; exact hl⟩
                have hsort := Jce (ops := ops) listed
                rw [hr] at hme hsort
                rcases L0h.1 hme with h | h
                . omega
                . have := (L1t.1 hsort).1 _ h; omega⟩
            rw [h0] at this; simp at this
        rw [hr] at hv
        exact hK _ _ _ _ hv hs
      . obtain ⟨hun, o, ho, hedges⟩ := mem_ready.1 hi
        have hlt : i < ops.size := (L0j.1 ho).1
        have hm : i ∈ rem ops listed := Ja2.2 ⟨hlt, hun⟩
        obtain ⟨pre, post, hsplit⟩ := L24 hm
        have hsort := Jce (ops := ops) listed
        have hnd := Jg7 (ops := ops) listed
        have hset := JiR hsz hsplit; rw [hsplit] at hv hdc hsort hnd
        have hpre : ∀ j ∈ pre, j < i /\ waits ops ops.size i j = false := fun j hj => by
          refine ⟨(List.pairwise_append.1 hsort).2.2 j hj i (by simp), ?_⟩
          cases hw : waits ops ops.size i j with
          | false => rfl
          | true =>
            have h1 := JdO hcl ops.size i j o ho hedges hw
            have h2 := Ja2.1 (show j ∈ rem ops listed by rw [hsplit]; simp [hj])
            rw [getD_same j h2.1, h1] at h2; simp at h2
        have hv := bubble hall hd ho pre hpre hnd E σ hdc hv
        have hnd' : i ∉ pre ++ post := by
          rw [L1R] at hnd; obtain ⟨h1, h2, h3⟩ := hnd; rw [L1n] at h2
          intro h; rcases L0v.1 h with h | h
          . exact h3 i h i (by simp) rfl
          . exact h2.1 h
        have hdc' : Ja9 S ops (pre ++ post) E σ := fun k hk => hdc k (by rcases L0v.1 hk with h | h <;> simp [h])
        simp only [Jbu, ho] at hv
        have next : ∀ E' σ' a' w', Jbu S ops (pre ++ post) K E' σ' -> Ja9 S ops (pre ++ post) E' σ' -> St C E' σ' a' w' -> wpAnyIn (FW C.rdl) n S.P .any ops Q fuel (listed.setIfInBounds i true) a' w' := fun E' σ' a' w' h1 h2 h3 => by
          refine ih (listed.setIfInBounds i true) E' σ' a' w' (by simpa using hsz) ?_ ?_ (by rw [hset]; exact h1) (by rw [hset]; exact h2) h3
          . rw [hset]; rw [hsplit] at hle; simp at hle ⊢; omega
          . intro k ok hk hl e he hb
            have mono : ∀ q, listed.getD q false = true -> (listed.setIfInBounds i true).getD q false = true := fun q hq => by
              simp only [L0I] at hq ⊢
              by_cases hqi : q = i
              . subst hqi; simp [hsz, hlt]
              . rw [L16 (Ne.symm hqi)]; exact hq
            refine mono _ ?_
            by_cases hki : k = i
            . subst hki; rw [ho] at hk; cases hk; exact hedges e he hb
            . refine hcl k ok hk ?_ e he hb
              simp only [L0I] at hl ⊢
              rw [L16 (Ne.symm hki)] at hl; exact hl
        obtain ⟨ρ, Im, M, hw⟩ := hs
        have clean : cls S.P o.op o.type = 1 \/ cls S.P o.op o.type = 2 -> ∀ k, k < 16 -> Jbd (16 * (S.b + o.dst.getD 99999) + k) E σ := fun hc k hk =>
          (hdc i (by simp) o ho (by rcases hc with h | h <;> simp [isNm, h]) (16 * (S.b + o.dst.getD 99999) + k) (by unfold nmO; omega)).1
        refine JdP ho (JeS (Kc := wpAnyIn (FW C.rdl) n S.P .any ops Q fuel (listed.setIfInBounds i true)) H hw hall (hall i o ho) false (bar ops i) (fun _ => clean)
          (JhI (X := Ja9 S ops (pre ++ post)) (fun v bl hv => Ja9.step hall hd ho hnd' hdc' hv) hv) (fun E' σ' a' w' h1 h2 => next E' σ' a' w' h1.1 h1.2 h2) fun E' σ' a' w' h1 h2 => ?_)
        obtain ⟨E'', σ'', h3, h4, h5⟩ := Jff (l := pre ++ post) H (hat _) h1 h2
        exact next E'' σ'' a' w' h3 h4 h5
  have hrem0 : rem ops (Array.replicate ops.size false) = List.range' 0 ops.toList.length := by
    unfold rem; rw [<- L1z, L0y, L23]
    intro i hi; simp [L0P.1 hi]
  exact key ops.size _ E1 σ1 a _ (by simp) (by unfold rem; exact L0r (L25 _ _) (by simp)) (fun i o ho h => by
      simp only [L0I, L1S] at h; split at h <;> simp at h) (by rw [hrem0]; exact hv1) (by rw [hrem0]; exact hdc1) hs1
end
variable {P : Program} {C : Fx} {w : World} {ρ : Nat -> Option Nat} {Im : Nat -> Prop} {M : Str} {E : Env} {σ : Jac} {a : Act}
def Jaq : List AV -> List Nat
  | [] => []
  | .own id _ 0 _ :: r => id :: Jaq r
  | .ptr id _ 0 0 :: r => id :: Jaq r
  | _ :: r => Jaq r
def topP (vs : List AV) : Nat -> Bool := fun i => (Jaq vs).contains i
def expo (σ : Jac) (p : Nat -> Bool) (v : AV) : AV :=
  match v with
  | .own id sz 0 n => match σ id with
    | some k => .new k.e sz (resL (res (Jaj p σ)) (k.es.take n))
    | none => .any
  | .ptr id sz 0 0 => match σ id with
    | some k => .nptr k.e sz (resL (res (Jaj p σ)) k.es)
    | none => .any
  | v => res (Jaj p σ) v
def JbM (σ : Jac) (p : Nat -> Bool) (v : AV) : Prop :=
  match v with
  | .own id sz 0 n => ∃ k, σ id = some k /\ k.sz = sz /\ n <= k.es.length /\ AV.namesL p k.es = false
  | .ptr id sz 0 0 => ∃ k, σ id = some k /\ k.sz = sz /\ AV.namesL p k.es = false
  | v => AV.namesB p v = false
def JeQ (σ : Jac) (vs : List AV) : Prop := (Jaq vs).Nodup /\ ∀ v ∈ vs, JbM σ (topP vs) v
theorem JhD (hinv : Inv w ρ Im σ) {p : Nat -> Bool} {id b : Nat} {k : Blk} (hk : σ id = some k) (hρ : ρ id = some b) (hz : k.sz ≠ 0) (hn : AV.namesL p k.es = false) (n : Nat) :
    JbT w (Seen Im (killR p ρ)) k.e k.sz (resL (res (Jaj p σ)) (k.es.take n)) b := by
  obtain ⟨cur, hb, hl, hs, hc⟩ := hinv.blk id k b hk hρ hz
  have get : ∀ {i x}, (resL (res (Jaj p σ)) (k.es.take n))[i]? = some x -> ∃ e, k.es[i]? = some e /\ (x = res (Jaj p σ) e \/ (x = e /\ ∀ id, ¬ Names e id)) := fun {i x} h => by
    obtain ⟨e, he, hor⟩ := Jgf h
    rw [L0l] at he
    split at he
    . exact ⟨e, he, hor⟩
    . cases he
  refine ⟨cur, hb, fun x hx => ?_, ?_, fun i x j c hi hcj => ?_⟩
  . obtain ⟨i, hi⟩ := L0s.1 hx
    obtain ⟨e, he, hor⟩ := get hi
    rcases hor with rfl | ⟨rfl, _⟩
    . rw [show (res (Jaj p σ) e).cells.length = e.cells.length from Jge 8 _ e]; exact hl e (L01 he)
    . exact hl _ (L01 he)
  . rw [JaX]; simp only [L02]
    exact L0r (L0E _ (Nat.min_le_right _ _)) hs
  . obtain ⟨e, he, hor⟩ := get hi
    have hlen : x.cells.length = e.cells.length := by
      rcases hor with rfl | ⟨rfl, _⟩
      . exact Jge 8 _ e
      . rfl
    have hj : j < e.cells.length := by rw [<- hlen]; exact (L04.1 hcj).1
    obtain ⟨v, hv, h1, _⟩ := hc i e j _ he (L07 hj)
    refine ⟨v, hv, h1, ?_⟩
    have hrep : ∀ c0, e.cells[j]? = some c0 -> Rep w (killR p ρ) Im c0 v := fun c0 hc0 => by
      obtain ⟨v', hv', _, hr⟩ := hc i e j c0 he hc0
      rw [hv] at hv'; cases hv'
      refine hr.killR fun id' hid => ?_
      cases hp : p id' with
      | false => rfl
      | true =>
        have := (AV.namesL_iff p k.es).2 ⟨e, L01 he, AV.namesB_of p (Jbh (L01 hc0) hid) hp⟩
        rw [hn] at this; cases this
    rcases hor with rfl | ⟨rfl, hnn⟩
    . exact JpC (hinv.kill p) 8 hcj hrep
    . exact (Jby (hrep c hcj) fun id hid => hnn id (Jbh (L01 hcj) hid)).mono (fun b hb => .inl hb) (fun _ _ => rfl)
theorem JmO (hinv : Inv w ρ Im σ) {p : Nat -> Bool} {v : AV} {y : Value} (hr : Rep w ρ Im v y) (hok : JbM σ p v) : ∃ ob, R1 w (Seen Im (killR p ρ)) (expo σ p v) y ob /\ ∀ b, ob = some b -> ∃ id, id ∈ Jaq [v] /\ ρ id = some b := by
  have other : (∀ id sz n, v ≠ .own id sz 0 n) -> (∀ id sz, v ≠ .ptr id sz 0 0) -> AV.namesB p v = false -> expo σ p v = res (Jaj p σ) v -> ∃ ob, R1 w (Seen Im (killR p ρ)) (expo σ p v) y ob /\ ∀ b, ob = some b -> ∃ id, id ∈ Jaq [v] /\ ρ id = some b := by
    intro h1 h2 hn he
    have hres := Jg8 (hinv.kill p) (hr.killR (p := p) fun id hid => by
      cases hp : p id with
      | false => rfl
      | true => have := AV.namesB_of p hid hp; rw [hn] at this; cases this)
    refine ⟨none, ?_, fun b hb => by cases hb⟩
    rw [he]; unfold R1
    split
    . rename_i e; rw [e] at hres; cases hres
    . rename_i e; rw [e] at hres; cases hres
    . exact ⟨rfl, hres⟩
  cases v with
  | own id sz i n =>
    cases i with
    | succ i => exact other (fun _ _ _ h => by cases h) (fun _ _ h => by cases h) hok rfl
    | zero =>
      obtain ⟨k, hk, rfl, hle, hn⟩ := hok
      have hex : expo σ p (.own id k.sz 0 n) = .new k.e k.sz (resL (res (Jaj p σ)) (k.es.take n)) := by simp only [expo, hk]
      rw [hex]
      have hlen : (resL (res (Jaj p σ)) (k.es.take n)).length = n := by rw [JaX]; simp [L0N hle]
      rcases hr.own0_inv with ⟨rfl, rfl, hρ⟩ | ⟨b, cap, cur, e, rfl, hρ, hnc, hcap, hb, hsz, hz⟩
      . exact ⟨none, .inl ⟨rfl, by simp [resL], rfl⟩, fun b hb => by cases hb⟩
      . refine ⟨some b, .inr ⟨b, cap, hz, rfl, by rw [hlen], by rw [hlen]; exact hnc, hcap, ⟨cur, ?_, hsz⟩, JhD hinv hk hρ hz hn n⟩, fun b' hb' => by cases hb'; exact ⟨id, by simp [Jaq], hρ⟩⟩
        obtain ⟨cur2, hb2, _⟩ := hinv.blk id k b hk hρ hz
        obtain ⟨rfl, rfl⟩ := JcP hb hb2; exact hb
  | ptr id sz i j =>
    cases i with
    | succ i => exact other (fun _ _ _ h => by cases h) (fun _ _ h => by cases h) hok rfl
    | zero =>
      cases j with
      | succ j => exact other (fun _ _ _ h => by cases h) (fun _ _ h => by cases h) hok rfl
      | zero =>
        obtain ⟨k, hk, rfl, hn⟩ := hok
        have hex : expo σ p (.ptr id k.sz 0 0) = .nptr k.e k.sz (resL (res (Jaj p σ)) k.es) := by simp only [expo, hk]
        rw [hex]
        cases hr with
        | im _ _ hr => cases hr
        | ptr _ _ _ _ b hρ hz =>
          have := JhD hinv hk hρ hz hn k.es.length
          rw [L0d] at this
          exact ⟨some b, ⟨b, hz, rfl, by simp, this⟩, fun b' hb' => by cases hb'; exact ⟨id, by simp [Jaq], hρ⟩⟩
  | _ => exact other (fun _ _ _ h => by cases h) (fun _ _ h => by cases h) hok rfl
theorem Jep (hinv : Inv w ρ Im σ) {p : Nat -> Bool} : ∀ (vs : List AV) (ys : List Value), Reps w ρ Im vs ys -> (∀ v ∈ vs, JbM σ p v) -> (Jaq vs).Nodup ->
    ∃ obs, RL w (Seen Im (killR p ρ)) (vs.map (expo σ p)) ys obs /\ (∀ b, some b ∈ obs -> ∃ id ∈ Jaq vs, ρ id = some b) /\ obs.Pairwise fun x y => x = none \/ x ≠ y
  | [], [], _, _, _ => ⟨[], trivial, fun b hb => by simp at hb, .nil⟩
  | [], y :: ys, h, _, _ => by simp [Reps] at h
  | v :: vs, [], h, _, _ => by simp [Reps] at h
  | v :: vs, y :: ys, h, hok, hnd => by
    obtain ⟨ob, h1, h2⟩ := JmO hinv (h.2 0 v y rfl rfl) (hok v (by simp))
    have htop : ∀ id, id ∈ Jaq (v :: vs) ↔ id ∈ Jaq [v] \/ id ∈ Jaq vs := fun id => by
      cases v with
      | own i s o n => cases o <;> simp [Jaq]
      | ptr i s o j => cases o <;> cases j <;> simp [Jaq]
      | _ => simp [Jaq]
    have hnd' : (Jaq vs).Nodup /\ ∀ id, id ∈ Jaq [v] -> id ∉ Jaq vs := by
      cases v with
      | own i s o n => cases o <;> simp_all [Jaq]
      | ptr i s o j => cases o <;> cases j <;> simp_all [Jaq]
      | _ => simp_all [Jaq]
    obtain ⟨obs, h3, h4, h5⟩ := Jep hinv vs ys ⟨by simpa using h.1, fun j c z hc hz => h.2 (j + 1) c z (by simpa using hc) (by simpa using hz)⟩ (fun x hx => hok x (by simp [hx])) hnd'.1
    refine ⟨ob :: obs, ⟨h1, h3⟩, fun b hb => ?_, L1t.2 ⟨fun x hx => ?_, h5⟩⟩
    . rcases L0h.1 hb with hb | hb
      . obtain ⟨id, hid, hρ⟩ := h2 b hb.symm; exact ⟨id, (htop id).2 (.inl hid), hρ⟩
      . obtain ⟨id, hid, hρ⟩ := h4 b hb; exact ⟨id, (htop id).2 (.inr hid), hρ⟩
    . cases ob with
      | none => exact .inl rfl
      | some b =>
        refine .inr fun e => ?_
        subst e
        obtain ⟨id, hid, hρ⟩ := h2 b rfl
        obtain ⟨id', hid', hρ'⟩ := h4 b hx
        have := hinv.inj id id' b hρ hρ'
        subst this
        exact hnd'.2 id hid hid'
def rvals (P : Program) (E : Env) (σ : Jac) : List ResultVar -> (List AV -> Prop) -> Prop
  | [], K => K []
  | .tmp t :: r, K => rvals P E σ r fun vs => K (E t :: vs)
  | .cell t ty :: r, K => JbV σ (E t) fun cs j => ∃ v, Jcs P ty cs j v /\ rvals P E σ r fun vs => K (v :: vs)
def AV.single : AV -> Bool
  | .tup _ => false
  | .clo _ _ => false
  | _ => true
def retK (σ : Jac) (R : AV -> Prop) (vs : List AV) : Prop :=
  match vs with
  | [.clo g caps] => JeQ σ caps /\ R (.clo g (caps.map (expo σ (topP caps))))
  | [v] => v.single = true /\ JeQ σ [v] /\ R (expo σ (topP [v]) v)
  | vs => JeQ σ vs /\ R (.tup (vs.map (expo σ (topP vs))))
def ResultVar.low (N : Nat) : ResultVar -> Bool
  | .tmp t => decide (t < N)
  | .cell t _ => decide (t < N)
def Je5 (tm : Array Value) : ResultVar -> Sem Value
  | .tmp t => pure (tm.getD t undef)
  | .cell t ty => do loadVar ty (<- asAddr (tm.getD t undef))
theorem JeC (hinv : Inv w ρ Im σ) {tm : Array Value} (henv : JaG w ρ Im E tm) : ∀ (l : List ResultVar) (K : List AV -> Prop), (l.all (ResultVar.low tm.size)) = true -> rvals P E σ l K ->
    ∃ vs ys, K vs /\ Reps w ρ Im vs ys /\ (l.mapM (Je5 tm)).run P w = .ok ys w
  | [], K, _, h => ⟨[], [], h, ⟨rfl, fun j c y hc => by simp at hc⟩, by simp⟩
  | .tmp t :: r, K, hl, h => by
    simp only [L1D, L00, ResultVar.low, decide_eq_true_eq] at hl
    obtain ⟨vs, ys, hK, hr, hrun⟩ := JeC hinv henv r _ hl.2 h
    refine ⟨E t :: vs, tm.getD t undef :: ys, hK, ⟨by simp [hr.1], fun j c y hc hy => ?_⟩, by simp [Sem.run_bind, Je5, hrun]⟩
    cases j with
    | zero => simp at hc hy; subst hc; rw [<- hy]; exact henv t _ (by simp [hl.1])
    | succ j => exact hr.2 j c y (by simpa using hc) (by simpa using hy)
  | .cell t ty :: r, K, hl, h => by
    simp only [L1D, L00, ResultVar.low, decide_eq_true_eq] at hl
    have ht := henv t (tm.getD t undef) (by simp [hl.1])
    obtain ⟨cs, j, b, o, zs, ⟨v, hp, h⟩, hy, hzr, hz1, hzc⟩ := JeL hinv h ht
    obtain ⟨y, hload, hrep⟩ := Jfw (P := P) hp hzr hz1 hzc
    obtain ⟨vs, ys, hK, hr, hrun⟩ := JeC hinv henv r _ hl.2 h
    refine ⟨v :: vs, y :: ys, hK, ⟨by simp [hr.1], fun j c z hc hz => ?_⟩, by simp [Je5, hy, asAddr, hload, hrun]⟩
    cases j with
    | zero => simp at hc hz; subst hc; subst hz; exact hrep
    | succ j => exact hr.2 j c z (by simpa using hc) (by simpa using hz)
def JbW (args : List AV) : Env := fun t => args.getD t (.v undef)
structure Rest (C : Fx) (E : Env) (σ : Jac) (tm : Array Value) (w : World) (ρ : Nat -> Option Nat) (Im : Nat -> Prop) (M : Str) : Prop where
  inv : Inv w ρ Im σ
  env : JaG w ρ Im E tm
  size : tm.size = C.N
  ext : Ext C.w0 C.X0 w
  rng : ∀ id b, ρ id = some b -> (C.X0 b /\ C.R0 id b) \/ C.w0.heap.size <= b
  im : ∀ b, Im b -> C.Im0 b \/ C.w0.heap.size <= b
  g : C.G (E C.N) M w
  gh : ∀ p, AV.namesB p (E C.N) = false
  js : ∀ b, M.j b -> Im b
  ms : ∀ b, M.m b -> b < w.heap.size /\ (∀ id, ρ id ≠ some b) /\ ¬ Im b /\ (C.X0 b \/ C.w0.heap.size <= b)
  pin : ∀ id ob, C.pin id = some ob -> ρ id = ob
  j0 : ∀ b, C.J0 b -> Im b
theorem Jha {S : Sp} (hG : JaM C.G) {fn : Func} {n : Nat} {R : Ending -> World -> Prop} {tm : Array Value} : ∀ (ds : List Deferred) (w : World), Rest C E σ tm w ρ Im M -> ds.Nodup ->
    (∀ d ∈ ds, ∃ D, d = stamp D /\ w.heap[D]? = some (.deferred (some [])) /\ C.w0.heap.size <= D /\ (∀ id, ρ id ≠ some D) /\ ¬ Im D /\ ¬ M.m D) ->
    (∀ w', Rest C E σ tm w' ρ Im M -> ∃ v, (results fn tm).run S.P w' = .ok v w' /\ R (.returned v) w') -> LeavesInM (FW none) n S.P fn tm R ds .returning w
  | [], w, h, _, _, hR => hR w h
  | d :: ds, w, h, hnd, hd, hR => by
    obtain ⟨D, rfl, hD, hle, hρ, hI, hM⟩ := hd d (by simp)
    rw [L1n] at hnd
    refine ⟨by simp, .inl ⟨D, _, rfl, run_takeDeferred hD, ?_⟩⟩
    have hoth : ∀ k, k ≠ D -> (w.putObj D (.deferred none)).heap[k]? = w.heap[k]? := fun k hk => World.putObj_heap_other hk
    have rep : ∀ {v : AV} {y : Value}, Rep w ρ Im v y -> Rep (w.putObj D (.deferred none)) ρ Im v y := fun {v y} hr =>
      Rep.mono (w := w) (w' := w.putObj D (.deferred none)) (fun _ h => h) (fun b hb => hoth b fun e => hI (e ▸ hb)) hr fun i _ => ⟨rfl, fun b hb cur e hc => ⟨cur, by rw [hoth b fun e => hρ i (e ▸ hb)]; exact hc, rfl⟩⟩
    refine Jha hG ds _ ⟨⟨h.inv.nil, fun i k b hk hb hz => ?_, fun i k b hk hb hz => ?_, h.inv.inj, h.inv.live, h.inv.apart, fun b hb => by simpa using h.inv.low b hb⟩, fun t y hy => rep (h.env t y hy), h.size,
      h.ext.trans ⟨rfl, rfl, rfl, by simp, fun k _ hk => hoth k hk⟩ (fun b hb => .inr (by subst hb; exact hle)), h.rng, h.im, hG _ _ _ _ h.g (fun k hk => hoth k fun e => by
        rcases hk with hk | hk
        . exact hM (e ▸ hk)
        . exact hI (e ▸ h.js k hk)) (by simp) rfl rfl rfl, h.gh, h.js, fun b hb => by simpa using h.ms b hb, h.pin, h.j0⟩ hnd.2 (fun d' hd' => ?_) hR
    . obtain ⟨ents, clk, hbb, hl, hc⟩ := h.inv.map i k b hk hb hz
      exact ⟨ents, clk, by rw [hoth b fun e => hρ i (e ▸ hb)]; exact hbb, hl, fun i m hm => by obtain ⟨v, hv, hr⟩ := hc i m hm; exact ⟨v, hv, rep hr⟩⟩
    . obtain ⟨cur, hbb, hl, hs, hc⟩ := h.inv.blk i k b hk hb hz
      exact ⟨cur, by rw [hoth b fun e => hρ i (e ▸ hb)]; exact hbb, hl, hs, fun i e j c he hcc => by obtain ⟨v, hv, h1, hr⟩ := hc i e j c he hcc; exact ⟨v, hv, h1, rep hr⟩⟩
    . obtain ⟨D', e', hD', rest⟩ := hd d' (by simp [hd'])
      refine ⟨D', e', ?_, rest⟩
      rw [hoth D' fun e => by subst e; subst e'; exact hnd.1 hd']; exact hD'
variable {P : Program} {C : Fx} {w : World} {ρ : Nat -> Option Nat} {Im : Nat -> Prop} {M : Str} {E : Env} {σ : Jac} {a : Act}
theorem JbT.mono {Im' : Nat -> Prop} {e sz b : Nat} {es : List AV} (h : JbT w Im e sz es b) (hI : ∀ b, Im b -> Im' b) : JbT w Im' e sz es b := by
  obtain ⟨cur, h1, h2, h3, hc⟩ := h
  exact ⟨cur, h1, h2, h3, fun i x j c hx hcx => by obtain ⟨v, hv, ho, hr⟩ := hc i x j c hx hcx; exact ⟨v, hv, ho, hr.mono hI (fun _ _ => rfl)⟩⟩
theorem R1.mono {Im' : Nat -> Prop} {r : AV} {y : Value} {ob : Option Nat} (h : R1 w Im r y ob) (hI : ∀ b, Im b -> Im' b) : R1 w Im' r y ob := by
  cases r with
  | new e sz es =>
    rcases h with h | ⟨b, cap, h0, h1, h2, h3, h4, h5, h6⟩
    . exact .inl h
    . exact .inr ⟨b, cap, h0, h1, h2, h3, h4, h5, h6.mono hI⟩
  | nptr e sz es => obtain ⟨b, h0, h1, h2, h3⟩ := h; exact ⟨b, h0, h1, h2, h3.mono hI⟩
  | _ => exact ⟨h.1, h.2.mono hI (fun _ _ => rfl)⟩
theorem RL.mono {Im' : Nat -> Prop} (hI : ∀ b, Im b -> Im' b) : ∀ {rs : List AV} {ys : List Value} {obs : List (Option Nat)}, RL w Im rs ys obs -> RL w Im' rs ys obs
  | [], [], [], _ => trivial
  | _ :: _, _ :: _, _ :: _, h => ⟨h.1.mono hI, RL.mono hI h.2⟩
theorem Jk5 (n : Nat) (σ : Jac) {v : AV} (h : v.single = true) : (resF n σ v).single = true := by
  cases n with
  | zero =>
    simp only [resF, AV.kill]
    split
    . cases v with
      | tup => cases h
      | clo => cases h
      | own a s i n => simp only [AV.dk]; split <;> rfl
      | ptr a s i n => simp only [AV.dk]; split <;> rfl
      | mref a => simp only [AV.dk]; split <;> rfl
      | _ => rfl
    . exact h
  | succ n => cases v with
    | tup => cases h
    | clo => cases h
    | own a s i n => simp only [resF, JfZ]; split <;> (try split) <;> rfl
    | ptr a s i n => simp only [resF, Jf0, resE]; split <;> (try split) <;> (try split) <;> rfl
    | mref a => simp only [resF, JfY]; split <;> (try split) <;> rfl
    | _ => rfl
theorem JgF {p : Nat -> Bool} {v : AV} (h : v.single = true) : (expo σ p v).single = true := by
  unfold expo
  split
  . split <;> rfl
  . split <;> rfl
  . exact Jk5 8 _ h
theorem JjY {tm : Array Value} (h : Rest C E σ tm w ρ Im M) (hX : ∀ b, ¬ C.X0 b) (hlow0 : ∀ b, C.Im0 b -> b < C.w0.heap.size) {vs : List AV} {ys : List Value} (hr : Reps w ρ Im vs ys) {R : AV -> Prop} (hk : retK σ R vs) :
    ∃ r, R r /\ RRep C.w0 w C.Im0 r (if h : ys.toArray.size = 1 then ys.toArray[0] else .tuple ys.toArray) := by
  have low : ∀ p b, Seen Im (killR p ρ) b -> C.Im0 b \/ (C.w0.heap.size <= b /\ b < w.heap.size) := fun p b hb => by
    rcases hb with hb | ⟨id, hb⟩
    . rcases h.im b hb with h' | h'
      . exact .inl h'
      . exact .inr ⟨h', h.inv.low b hb⟩
    . have hb := (Jaf hb).2
      rcases h.rng id b hb with h' | h'
      . exact absurd h'.1 (hX b)
      . exact .inr ⟨h', h.inv.lt hb⟩
  have fresh : ∀ (us : List AV) (obs : List (Option Nat)), (∀ b, some b ∈ obs -> ∃ id ∈ Jaq us, ρ id = some b) -> obs.Pairwise (fun x y => x = none \/ x ≠ y) ->
      Jdv C.w0.heap.size (fun b => C.Im0 b \/ Seen Im (killR (topP us) ρ) b) obs := fun us obs h1 h2 => by
    refine ⟨fun b hb => ?_, h2⟩
    obtain ⟨id, hid, hρ⟩ := h1 b hb
    have hge : C.w0.heap.size <= b := by
      rcases h.rng id b hρ with h' | h'
      . exact absurd h'.1 (hX b)
      . exact h'
    refine ⟨hge, fun hI => ?_⟩
    rcases hI with hI | hI | ⟨id', hI⟩
    . have := hlow0 b hI; omega
    . exact h.inv.apart id b hρ hI
    . obtain ⟨hp, hI⟩ := Jaf hI
      have := h.inv.inj id id' b hρ hI
      subst this
      simp [topP, hid] at hp
  have hmk : ∀ p, ∃ Im' : Nat -> Prop, Im' = fun b => C.Im0 b \/ Seen Im (killR p ρ) b := fun p => ⟨_, rfl⟩
  have sub : ∀ (us : List AV) b, (C.Im0 b \/ Seen Im (killR (topP us) ρ) b) -> C.Im0 b \/ (C.w0.heap.size <= b /\ b < w.heap.size) := fun us b hb => by
    rcases hb with hb | hb
    . exact .inl hb
    . exact low _ b hb
  have many : ∀ us : List AV, JeQ σ us -> ∀ zs, Reps w ρ Im us zs -> ∃ obs, RL w (fun b => C.Im0 b \/ Seen Im (killR (topP us) ρ) b) (us.map (expo σ (topP us))) zs obs /\ Jdv C.w0.heap.size (fun b => C.Im0 b \/ Seen Im (killR (topP us) ρ) b) obs := fun us hok zs hz => by
    obtain ⟨obs, h1, h2, h3⟩ := Jep h.inv (p := topP us) us zs hz hok.2 hok.1
    exact ⟨obs, h1.mono fun b hb => .inr hb, fresh us obs h2 h3⟩
  unfold retK at hk
  split at hk
  . rename_i g caps; obtain ⟨hok, hR⟩ := hk
    obtain ⟨y, rfl⟩ : ∃ y, ys = [y] := by
      have := hr.1; match ys, this with | [y], _ => exact ⟨y, rfl⟩
    obtain ⟨cys, rfl, hcl, hcr⟩ := (hr.2 0 _ y rfl rfl).clo_inv
    obtain ⟨obs, h1, h2⟩ := many caps hok cys ⟨hcl, hcr⟩
    exact ⟨_, hR, _, fun b hb => .inl hb, sub caps, cys, obs, by simp, h1, h2⟩
  . rename_i v hv; obtain ⟨hsg, hok, hR⟩ := hk
    obtain ⟨y, rfl⟩ : ∃ y, ys = [y] := by
      have := hr.1; match ys, this with | [y], _ => exact ⟨y, rfl⟩
    obtain ⟨obs, h1, h2⟩ := many [v] hok [y] hr
    obtain ⟨ob, rfl⟩ : ∃ ob, obs = [ob] := by
      match obs, h1 with | [ob], _ => exact ⟨ob, rfl⟩
    have hsg' := JgF (σ := σ) (p := topP [v]) hsg
    refine ⟨_, hR, _, fun b hb => .inl hb, sub [v], ?_⟩
    have h1 := h1.1; simp only [L0Y, L0f, L0z, L0q, dite_true]; generalize expo σ (topP [v]) v = r at *
    cases r with
    | tup => cases hsg'
    | clo => cases hsg'
    | _ => exact ⟨ob, by simpa using h1, h2⟩
  . rename_i hn1 hn2; obtain ⟨hok, hR⟩ := hk
    obtain ⟨obs, h1, h2⟩ := many vs hok ys hr
    have hne : ys.toArray.size ≠ 1 := by
      simp only [L0Y, <- hr.1]
      intro hl
      match vs, hl, hn2 with | [v], _, hn2 => exact hn2 v rfl
    rw [dif_neg hne]
    exact ⟨_, hR, _, fun b hb => .inl hb, sub vs, ys, obs, rfl, h1, h2⟩
theorem Jk6 {fn : Func} {tm : Array Value} {ys : List Value} (h : (fn.results.toList.mapM (Je5 tm)).run P w = .ok ys w) :
    (results fn tm).run P w = .ok (if h : ys.toArray.size = 1 then ys.toArray[0] else .tuple ys.toArray) w := by
  have : results fn tm = (do let vs <- fn.results.mapM (Je5 tm); pure (if h : vs.size = 1 then vs[0] else .tuple vs)) := by
    unfold results Je5; congr 1
  rw [this, Array.mapM_eq_mapM_toList]; simp only [map_eq_pure_bind, Sem.run_bind, h, Result.andThen_ok, Sem.run_pure]
theorem JdD : JaM (fun _ _ _ => True) := fun _ _ _ _ _ _ _ _ _ _ => trivial
def retG (P : Program) (fn : Func) (K : List AV -> Env -> Jac -> Prop) : Exit -> Env -> Jac -> Prop
  | .normal => fun E σ => rvals P E σ fn.results.toList fun vs => K vs E σ
  | .ret => fun E σ => rvals P E σ fn.results.toList fun vs => K vs E σ
  | _ => fun _ _ => False
def handed (ys : List Value) : Value := if h : ys.toArray.size = 1 then ys.toArray[0] else .tuple ys.toArray
theorem JcN {S : Sp} {f : FuncId} {fn : Func} {c : Code} {E0 : Env} {vs : List Value} {σ0 : Jac} {ρ0 : Nat -> Option Nat} {Im0 : Nat -> Prop} {M0 : Str} {K : List AV -> Env -> Jac -> Prop} {R : Ending -> World -> Prop}
    (H : Holds S C) (hrd : C.rd = none) (hf : S.P.funcs[f]? = some fn) (hb : fn.body = some c) (hN : C.N = fn.ntmps) (hok : JaY S.P fn.ntmps S.bad c = true)
    (hres : fn.results.toList.all (ResultVar.low fn.ntmps) = true)
    (hw : Wit C E0 σ0 { tmps := vs.toArray ++ Array.replicate (fn.ntmps - vs.toArray.size) undef, defers := [] } w ρ0 Im0 M0)
    (hawp : awp S c (retG S.P fn K) E0 σ0)
    (hpost : ∀ E σ tm w' ρ Im M us ys, K us E σ -> Rest C E σ tm w' ρ Im M -> Reps w' ρ Im us ys -> R (.returned (handed ys)) w') : Calls S.P f vs.toArray w R := by
  have hcall : CallsIn (FW none) 0 S.P f vs.toArray w R := by
    refine callsIn_of_wp_marks hf hb trivial ?_ rfl
    have hrdl : C.rdl = none := by unfold Fx.rdl; rw [hrd]; rfl
    have := Jgr H (JcR H) (n := 0) c _ _ _ (by rw [H.N, hN]; exact hok) hawp (bodyPostM (FW none) 0 S.P fn R) (fun e E σ a w' hq hs => ?_) _ w ⟨ρ0, Im0, M0, hw⟩
    . rw [hrdl] at this; exact this
    . have fin : (rvals S.P E σ fn.results.toList fun vs => K vs E σ) -> LeavesInM (FW none) 0 S.P fn a.tmps R a.defers .returning w' := fun hq => by
        obtain ⟨ρ, I, M, hw⟩ := hs
        refine Jha (C := C) (E := E) (σ := σ) (ρ := ρ) (Im := I) (M := M) H.G a.defers w' ⟨hw.inv, hw.env, hw.size, hw.ext, hw.rng, hw.im, hw.g, hw.gh, hw.js, hw.ms, hw.pin, hw.j0⟩ hw.nodup (fun d hd => ?_) (fun w2 hrest => ?_)
        . obtain ⟨D, e, hD, hle⟩ := hw.df d hd
          have hbk := hw.bk D (.inr (e ▸ hd))
          exact ⟨D, e, hD, hle, hbk⟩
        . obtain ⟨us, ys, hk, hr, hrun⟩ := JeC (P := S.P) hrest.inv hrest.env fn.results.toList _ (by rw [hrest.size, hN]; exact hres) hq
          exact ⟨_, Jk6 hrun, hpost E σ _ w2 ρ I M us ys hk hrest hr⟩
      cases e with
      | normal => exact fin hq
      | ret => exact fin hq
      | exit id => exact hq.elim
      | goto l => exact hq.elim
      | panic ch => exact hq.elim
      | outgrown => exact hq.elim
  have : CallsIn Fence.wide 0 S.P f vs.toArray w R := hcall
  exact callsIn_wide.1 this
theorem JeO {args : List AV} {vs : List Value} {N : Nat} (h : Reps w ρ Im args vs) : JaG w ρ Im (JbW args) (vs.toArray ++ Array.replicate (N - vs.toArray.size) undef) := by
  intro t y hy
  have hsz : vs.length = args.length := h.1.symm
  rw [Array.getElem?_append] at hy; simp only [L0Y, L1l] at hy; simp only [JbW]
  split at hy
  . rename_i hlt
    have hlt' : t < args.length := by omega
    have := h.2 t args[t] y (L07 hlt') hy
    rw [L1a, L07 hlt']; exact this
  . rename_i hge; rw [L1S] at hy
    split at hy
    . simp at hy; subst hy
      rw [L1a, L1o (by omega)]
      exact .im _ _ (.v _)
    . cases hy
theorem JgL (args : List AV) (N : Nat) (h : args.length <= N) : JbW args N = .v undef := by
  simp only [JbW]; rw [L1a, L1o (by omega)]; rfl
theorem enters {P : Program} {f : FuncId} {fn : Func} {c : Code} (hf : P.funcs[f]? = some fn) (hb : fn.body = some c) (hn : (fn.name == "runtime.NumGoroutine") = false) (as : Array Value) (w : World) :
    (callFunc f as).run P w = .ok (.enter f as) w := by
  have hn' : ¬ fn.name = "runtime.NumGoroutine" := by simpa using hn
  simp [callFunc, program, Sem.run, Sem.run_bind, hf, hb, hn', Result.andThen]
def fnOK (P : Program) (fn : Func) (c : Code) : Bool :=
  JaY P fn.ntmps JjO c && fn.results.toList.all (ResultVar.low fn.ntmps) && !(fn.name == "runtime.NumGoroutine") && decide (fn.ntmps <= 99999)
def spOf (P : Program) (f : FuncId) (N : Nat) : Sp := { P, N, b := 131072 * (f + 1), pin := fun _ => false, yl := 0, Y := fun _ _ _ => False, old := fun _ => false }
theorem Jjs {P : Program} {fn : Func} {c : Code} (h : fnOK P fn c = true) : JaY P fn.ntmps JjO c = true /\ fn.results.toList.all (ResultVar.low fn.ntmps) = true /\ (fn.name == "runtime.NumGoroutine") = false /\ fn.ntmps <= 99999 := by
  simp only [fnOK, L00, L0S, decide_eq_true_eq] at h
  exact ⟨h.1.1.1, h.1.1.2, h.1.2, h.2⟩
theorem Jol {P : Program} {f : FuncId} {fn : Func} {c : Code} {args : List AV} {r : AV} (hf : P.funcs[f]? = some fn) (hb : fn.body = some c) (hok : fnOK P fn c = true) (hmo : P.follows .mixedOrders = true)
    (hlen : args.length <= fn.ntmps) (h : awp (spOf P f fn.ntmps) c (retG P fn fun vs _ σ => retK σ (· = r) vs) (JbW args) fun _ => none) : Ev P f args r := by
  obtain ⟨h1, h2, h3, h4⟩ := Jjs hok
  intro args' r0 he
  rw [he.1, he.2]
  refine ⟨enters hf hb h3, fun w Im vs hlow hgk hargs => ?_⟩
  let C : Fx := { w0 := w, X0 := fun _ => False, Im0 := Im, G := fun _ _ _ => True, N := fn.ntmps, rd := none, pin := fun _ => none, J0 := Im }
  have H : Holds (spOf P f fn.ntmps) C := ⟨rfl, JdD, fun _ _ _ hY => hY.elim, hmo, fun _ _ hp => (by cases hp), fun _ hp => (by cases hp), h4, fun _ => rfl, fun _ _ h _ => h.elim, hgk, fun b hb => ⟨fun h => h, hlow b (hgk.im hb)⟩, (fun h => by cases h)⟩
  have hreps : Reps w (fun _ => none) Im args vs := ⟨hargs.1, fun j c y hc hy => .im _ _ (hargs.2 j c y hc hy)⟩
  refine JcN (E0 := JbW args) (S := spOf P f fn.ntmps) (C := C) (ρ0 := fun _ => none) (Im0 := Im) (M0 := ⟨fun _ => False, fun _ => False⟩) H rfl hf hb rfl h1 h2 ?_ h fun E σ tm w' ρ I M us ys hk hrest hr => ?_
  . refine ⟨⟨fun id k hk => (by cases hk), fun id k b hk => (by cases hk), fun id k b hk => (by cases hk), fun i j b hi => (by cases hi), fun i b hi => (by cases hi), fun i b hi => (by cases hi), hlow⟩, JeO hreps, ?_, Ext.refl _ _, fun i b hi => (by cases hi), fun b hb => .inl hb, fun p => ?_, trivial, fun b hb => hb.elim, fun b hb => hb.elim, fun l r hr => (by cases hr), .nil, fun d hd => (by cases hd), fun b hb => ?_, fun id b hb => (by cases hb), fun b hb => hb⟩
    . simp only [L26, L0Y, L27]
      have := hargs.1
      show vs.length + (fn.ntmps - vs.length) = fn.ntmps
      omega
    . show AV.namesB p (JbW args fn.ntmps) = false
      rw [JgL args _ hlen]; rfl
    . rcases hb with ⟨r, hr⟩ | hd
      . cases hr
      . cases hd
  . obtain ⟨r', rfl, hrr⟩ := JjY hrest (fun _ h => h) hlow hr hk
    exact ⟨_, rfl, hrest.ext, hrr⟩
end Go.Vai

/- A heap-free account of the walk, second part -/
import Derived.Test.YtndhglacgiidbaaGreatDoorKA
import Derived.RangeFuncIn
import Derived.RangeFuncLeaves
set_option linter.unusedVariables false
set_option linter.unusedSimpArgs false
namespace Go.Vai
open Go.RowKit
variable {P : Program} {C : Fx} {w : World} {ρ : Nat → Option Nat} {Im : Nat → Prop} {M : Str} {E : Env} {σ : Store} {a : Act}
def allB : Nat → Bool := fun _ => true
def resL (f : AV → AV) (es : List AV) : List AV := if AV.namesL allB es = true then es.map f else es
def resOwn (f : AV → AV) (b : Option Blk) (sz i m : Nat) : AV := match b with
  | some k => if i + m ≤ k.es.length ∧ k.sz = sz then .sl sz (((resL f k.es).drop i).take m) else .any
  | none => .any
def resE (f : AV → AV) (o : Option AV) (j : Nat) : AV := match o with
  | some e => .pt (f e) j
  | none => .any
def resPtr (f : AV → AV) (b : Option Blk) (sz i j : Nat) : AV := match b with
  | some k => if k.sz = sz then resE f k.es[i]? j else .any
  | none => .any
def resMap (f : AV → AV) (b : Option Blk) : AV := match b with
  | some k => if k.sz = 0 then .mp (resL f k.es) else .any
  | none => .any
def resF : Nat → Store → AV → AV
  | 0, _, x => x.kill allB
  | n + 1, σ, x => match x with
    | .own id sz i m => resOwn (resF n σ) (σ id) sz i m
    | .ptr id sz i j => resPtr (resF n σ) (σ id) sz i j
    | .mref id => resMap (resF n σ) (σ id)
    | .agg cs => .agg (resL (resF n σ) cs)
    | .tup cs => .tup (resL (resF n σ) cs)
    | .clo g cs => .clo g (resL (resF n σ) cs)
    | x => x
def res (σ : Store) (x : AV) : AV := resF 8 σ x
theorem irep_of_nameless {x : AV} {y : Value} (h : Rep w ρ Im x y) (hn : ∀ id, ¬ Names x id) : IRep w Im x y := by
  induction h with
  | im _ _ h => exact h
  | agg cs ys hl h1 _ ih => exact .agg cs ys hl h1 fun j c y hc hy => ih j c y hc hy fun id hid => hn id (.agg cs c id (List.mem_of_getElem? hc) hid)
  | tup cs ys hl _ ih => exact .tup cs ys hl fun j c y hc hy => ih j c y hc hy fun id hid => hn id (.tup cs c id (List.mem_of_getElem? hc) hid)
  | clo g cs ys hl _ ih => exact .clo g cs ys hl fun j c y hc hy => ih j c y hc hy fun id hid => hn id (.clo g cs c id (List.mem_of_getElem? hc) hid)
  | ownNil id => exact absurd (.own ..) (hn id)
  | own id => exact absurd (.own ..) (hn id)
  | ownAt id => exact absurd (.own ..) (hn id)
  | ptr id => exact absurd (.ptr ..) (hn id)
  | mref id => exact absurd (.mref ..) (hn id)
theorem kill_all_nameless (x : AV) (id : Nat) : ¬ Names (x.kill allB) id := fun h => by
  have := (AV.kill_names allB x id h).2; simp [allB] at this
def Seen (Im : Nat → Prop) (ρ : Nat → Option Nat) : Nat → Prop := fun b => Im b ∨ ∃ id, ρ id = some b
theorem resL_get {f : AV → AV} {es : List AV} {i : Nat} {c : AV} (h : (resL f es)[i]? = some c) : ∃ e, es[i]? = some e ∧ (c = f e ∨ (c = e ∧ ∀ id, ¬ Names e id)) := by
  unfold resL at h
  split at h
  · rw [List.getElem?_map] at h
    cases he : es[i]? with
    | none => simp [he] at h
    | some e => simp [he] at h; exact ⟨e, rfl, .inl h.symm⟩
  · rename_i hn
    exact ⟨c, h, .inr ⟨rfl, fun id hid => hn ((AV.namesL_iff _ _).2 ⟨c, List.mem_of_getElem? h, AV.namesB_of allB hid rfl⟩)⟩⟩
theorem resL_length (f : AV → AV) (es : List AV) : (resL f es).length = es.length := by unfold resL; split <;> simp
def AV.isAgg : AV → Bool | .agg _ => true | _ => false
theorem cells_one {e : AV} (h : e.isAgg = false) : e.cells = [e] := by cases e <;> first | rfl | cases h
theorem dk_isAgg (p : Nat → Bool) {e : AV} (h : e.isAgg = false) : (AV.dk p e).isAgg = false := by
  cases e with
  | agg cs => cases h
  | own a s i n => simp only [AV.dk]; split <;> rfl
  | ptr a s i n => simp only [AV.dk]; split <;> rfl
  | mref a => simp only [AV.dk]; split <;> rfl
  | _ => rfl
theorem resF_isAgg (n : Nat) (σ : Store) {e : AV} (h : e.isAgg = false) : (resF n σ e).isAgg = false := by
  cases n with
  | zero => simp only [resF, AV.kill]; split; exact dk_isAgg _ h; exact h
  | succ n => cases e with
    | agg cs => cases h
    | own a s i n => simp only [resF, resOwn]; split <;> (try split) <;> rfl
    | ptr a s i n => simp only [resF, resPtr, resE]; split <;> (try split) <;> (try split) <;> rfl
    | mref a => simp only [resF, resMap]; split <;> (try split) <;> rfl
    | _ => rfl
theorem resF_len (n : Nat) (σ : Store) (e : AV) : (resF n σ e).cells.length = e.cells.length := by
  cases he : e.isAgg with
  | false => rw [cells_one he, cells_one (resF_isAgg n σ he)]; rfl
  | true => cases e with
    | agg cs => cases n with
      | zero => simp only [resF, AV.kill]; split <;> simp [AV.dk, AV.dkL_eq]
      | succ n => simp [resF, resL_length]
    | _ => cases he
theorem resF_both (hinv : Inv w ρ Im σ) : ∀ n : Nat, (∀ x y, Rep w ρ Im x y → IRep w (Seen Im ρ) (resF n σ x) y) ∧
    ∀ (e : AV) (j : Nat) (c : AV) (x : Value), (resF n σ e).cells[j]? = some c → (∀ c0, e.cells[j]? = some c0 → Rep w ρ Im c0 x) → IRep w (Seen Im ρ) c x := by
  have hmono : ∀ {x y}, IRep w Im x y → IRep w (Seen Im ρ) x y := fun h => h.mono (fun b hb => .inl hb) (fun _ _ => rfl)
  have nameless : ∀ {x y}, Rep w ρ Im x y → (∀ id, ¬ Names x id) → IRep w (Seen Im ρ) x y := fun h hn => hmono (irep_of_nameless h hn)
  have plain : ∀ {x y}, Rep w ρ Im x y → IRep w (Seen Im ρ) (x.kill allB) y := fun {x y} h => nameless (h.kill allB) (kill_all_nameless x)
  intro n
  induction n with
  | zero =>
    refine ⟨fun x y h => plain h, fun e j c x hc h => ?_⟩
    simp only [resF, AV.kill] at hc
    split at hc
    · rw [AV.dk_cells, List.getElem?_map] at hc
      cases hcs : e.cells[j]? with
      | none => simp [hcs] at hc
      | some c0 => simp [hcs] at hc; subst hc; exact nameless ((h c0 hcs).dk allB) fun id hid => by have := (AV.dk_names allB c0 id hid).2; simp [allB] at this
    · rename_i hn
      exact nameless (h c hc) fun id hid => hn (AV.namesB_of allB (cells_names (List.mem_of_getElem? hc) hid) rfl)
  | succ n ih =>
    obtain ⟨ih1, ih2⟩ := ih
    -- a member of a list that is handed on
    have memb : ∀ {es : List AV} {j : Nat} {c : AV} {x : Value}, (resL (resF n σ) es)[j]? = some c → (∀ e, es[j]? = some e → Rep w ρ Im e x) → IRep w (Seen Im ρ) c x := fun hc h => by
      obtain ⟨e, he, hor⟩ := resL_get hc
      rcases hor with rfl | ⟨rfl, hn⟩
      · exact ih1 e _ (h e he)
      · exact nameless (h _ he) hn
    have main : ∀ x y, Rep w ρ Im x y → IRep w (Seen Im ρ) (resF (n + 1) σ x) y := by
      intro x y h
      cases x with
      | own id sz i m =>
        simp only [resF]
        unfold resOwn
        split
        · rename_i k hk
          split
          · rename_i hcond
            obtain ⟨hle, rfl⟩ := hcond
            have hlen : (((resL (resF n σ) k.es).drop i).take m).length = m := by rw [List.length_take, List.length_drop, resL_length]; omega
            have go : ∀ b cap (ad : Option Addr), ρ id = some b → k.sz ≠ 0 → (m ≠ 0 → ad = some ⟨b, i * k.sz, none⟩) → m ≤ cap → y = .slice ad m cap → IRep w (Seen Im ρ) (.sl k.sz (((resL (resF n σ) k.es).drop i).take m)) y := by
              rintro b cap ad hρ hz had hn rfl
              by_cases h0 : m = 0
              · subst h0; simp only [List.take_zero]; exact .slnil ..
              · rw [had h0]
                obtain ⟨cur, hb, hl, hs, hc⟩ := hinv.blk id k b hk hρ hz
                have elems : ∀ q : Nat, q < m → ∃ e e0 : AV, (((resL (resF n σ) k.es).drop i).take m)[q]? = some e ∧ k.es[i + q]? = some e0 ∧ (e = resF n σ e0 ∨ (e = e0 ∧ ∀ id, ¬ Names e0 id)) := fun q hq => by
                  have hlt : i + q < (resL (resF n σ) k.es).length := by rw [resL_length]; omega
                  obtain ⟨e0, he0, hor⟩ := resL_get (List.getElem?_eq_getElem hlt)
                  exact ⟨_, e0, by rw [List.getElem?_take, if_pos hq, List.getElem?_drop]; exact List.getElem?_eq_getElem hlt, he0, hor⟩
                have elen : ∀ (q : Nat) (e : AV), (((resL (resF n σ) k.es).drop i).take m)[q]? = some e → e.cells.length = k.sz := fun q e he => by
                  have hq : q < m := by rw [← hlen]; exact (List.getElem?_eq_some_iff.1 he).1
                  obtain ⟨e', e0, h1, h2, hor⟩ := elems q hq
                  rw [he] at h1; cases h1
                  rcases hor with rfl | ⟨rfl, _⟩
                  · rw [resF_len]; exact hl e0 (List.mem_of_getElem? h2)
                  · exact hl _ (List.mem_of_getElem? h2)
                have := IRep.sl (w := w) (Im := Seen Im ρ) k.sz (((resL (resF n σ) k.es).drop i).take m) b (i * k.sz) cap (fun q j => (cur[(i + q) * k.sz + j]?).getD undef) (.inr ⟨id, hρ⟩) (by rw [hlen]; exact hn)
                  (fun e he => by obtain ⟨q, hq⟩ := List.mem_iff_getElem?.1 he; exact elen q e hq) (fun q j hq hj => by
                    rw [hlen] at hq
                    obtain ⟨e', e0, h1, h2, hor⟩ := elems q hq
                    have hj' : j < e0.cells.length := by rw [hl e0 (List.mem_of_getElem? h2)]; exact hj
                    obtain ⟨v, hv, h1, _⟩ := hc (i + q) e0 j _ h2 (List.getElem?_eq_getElem hj')
                    have e1 : i * k.sz + q * k.sz + j = (i + q) * k.sz + j := by rw [Nat.add_mul]
                    rw [e1, cells_at hb, hv]
                    exact ⟨rfl, h1⟩)
                  (fun q e j c he hcc => by
                    have hq : q < m := by rw [← hlen]; exact (List.getElem?_eq_some_iff.1 he).1
                    obtain ⟨e', e0, h1, h2, hor⟩ := elems q hq
                    rw [he] at h1; cases h1
                    have hval : ∀ c0, e0.cells[j]? = some c0 → Rep w ρ Im c0 ((cur[(i + q) * k.sz + j]?).getD undef) := fun c0 hc0 => by
                      obtain ⟨v, hv, _, hr⟩ := hc (i + q) e0 j c0 h2 hc0
                      simpa [hv] using hr
                    rcases hor with rfl | ⟨rfl, hn⟩
                    · exact ih2 e0 j c _ hcc hval
                    · exact nameless (hval c hcc) fun id hid => hn id (cells_names (List.mem_of_getElem? hcc) hid))
                rw [hlen] at this
                exact this
            cases h with
            | im _ _ h => cases h
            | ownNil _ _ hρ => simp only [List.take_zero]; exact .slnil ..
            | own _ _ _ b cap cur e hρ hn hcap hb hs hz => exact go b cap _ hρ hz (by simp) hn rfl
            | ownAt _ _ _ _ b cap ad hi hρ hn ha hz => exact go b cap ad hρ hz ha hn rfl
          · exact .any _
        · exact .any _
      | ptr id sz i j =>
        simp only [resF]
        unfold resPtr
        split
        · rename_i k hk
          split
          · rename_i hsz
            subst hsz
            unfold resE
            split
            · rename_i e he
              cases h with
              | im _ _ h => cases h
              | ptr _ _ _ _ b hρ hz =>
                obtain ⟨cur, hb, hl, hs, hc⟩ := hinv.blk id k b hk hρ hz
                have hval : ∀ q c0, e.cells[q]? = some c0 → Rep w ρ Im c0 ((cur[i * k.sz + q]?).getD undef) := fun q c0 hc0 => by
                  obtain ⟨v, hv, _, hr⟩ := hc i e q c0 he hc0
                  simpa [hv] using hr
                refine .pt (resF n σ e) j b (i * k.sz) (fun q => (cur[i * k.sz + q]?).getD undef) (.inr ⟨id, hρ⟩) (fun q hq => ?_) (fun q c hcc => ih2 e q c _ hcc (hval q))
                rw [resF_len] at hq
                obtain ⟨v, hv, h1, _⟩ := hc i e q _ he (List.getElem?_eq_getElem hq)
                rw [cells_at hb, hv]; exact ⟨rfl, h1⟩
            · exact .any _
          · exact .any _
        · exact .any _
      | mref id =>
        simp only [resF]
        unfold resMap
        split
        · rename_i k hk
          split
          · rename_i hz
            cases h with
            | im _ _ h => cases h
            | mref _ b hρ =>
              obtain ⟨ents, clk, hb, hl, hc⟩ := hinv.map id k b hk hρ hz
              have key : ∀ (i : Nat) (m : MapEntry), ents[i]? = some m → ∃ v : AV, (resL (resF n σ) k.es)[i]? = some (.tup [.v m.key, v]) ∧ IRep w (Seen Im ρ) v m.val := fun i m hm => by
                obtain ⟨v0, hv0, hr⟩ := hc i m hm
                have hlt : i < (resL (resF n σ) k.es).length := by rw [resL_length, hl.1]; exact (Array.getElem?_eq_some_iff.1 hm).1
                obtain ⟨e, he, hor⟩ := resL_get (List.getElem?_eq_getElem hlt)
                rw [hv0] at he; cases he
                have hirep := memb (x := .tuple #[m.key, m.val]) (List.getElem?_eq_getElem hlt) (fun e he => by
                  rw [hv0] at he; cases he
                  refine .tup [.v m.key, v0] [m.key, m.val] rfl fun j c y hcj hyj => ?_
                  cases j with
                  | zero => simp at hcj hyj; subst hcj; subst hyj; exact .im _ _ (.v _)
                  | succ j => cases j with
                    | zero => simp at hcj hyj; subst hcj; subst hyj; exact hr
                    | succ j => simp at hcj)
                have hshape : ∃ v, (resL (resF n σ) k.es)[i] = AV.tup [.v m.key, v] := by
                  rcases hor with h | ⟨h, _⟩
                  · rw [h]
                    cases n with
                    | zero => simp only [resF, AV.kill]; split <;> simp [AV.dk, AV.dkL]
                    | succ n => simp only [resF]; unfold resL; split
                                · simp only [List.map_cons, List.map_nil]
                                  cases n with
                                  | zero => exact ⟨_, by simp [resF, AV.kill, AV.namesB]; rfl⟩
                                  | succ n => exact ⟨_, by simp [resF]; rfl⟩
                                · exact ⟨_, rfl⟩
                  · exact ⟨_, h⟩
                obtain ⟨v, hv⟩ := hshape
                rw [hv] at hirep
                refine ⟨v, (List.getElem?_eq_getElem hlt).trans (congrArg some hv), ?_⟩
                generalize hyy : Value.tuple #[m.key, m.val] = yy at hirep
                cases hirep with
                | tup _ ys hyl hyr =>
                  injection hyy with hyy
                  have : ys = [m.key, m.val] := by simpa using congrArg Array.toList hyy.symm
                  subst this
                  exact hyr 1 v m.val rfl rfl
              classical
              exact .mp _ b ents clk (fun i => match ents[i]? with | some m => if hm : ∃ v, (resL (resF n σ) k.es)[i]? = some (.tup [.v m.key, v]) ∧ IRep w (Seen Im ρ) v m.val then Classical.choose hm else .any | none => .any) (.inr ⟨id, hρ⟩) hb ⟨by rw [resL_length, hl.1], hl.2⟩
                (fun i m hm => by
                  simp only [hm]
                  rw [dif_pos (key i m hm)]
                  exact (Classical.choose_spec (key i m hm)).1)
                (fun i m hm => by
                  simp only [hm]
                  rw [dif_pos (key i m hm)]
                  exact (Classical.choose_spec (key i m hm)).2)
          · exact .any _
        · exact .any _
      | agg cs =>
        simp only [resF]
        obtain ⟨ys, rfl, hl, h1, hr⟩ := h.agg_inv
        exact .agg _ ys (by rw [resL_length, hl]) h1 fun j c y hc hy => memb hc fun e he => hr j e y he hy
      | tup cs =>
        simp only [resF]
        obtain ⟨ys, rfl, hl, hr⟩ := h.tup_inv
        exact .tup _ ys (by rw [resL_length, hl]) fun j c y hc hy => memb hc fun e he => hr j e y he hy
      | clo g cs =>
        simp only [resF]
        obtain ⟨ys, rfl, hl, hr⟩ := h.clo_inv
        exact .clo g _ ys (by rw [resL_length, hl]) fun j c y hc hy => memb hc fun e he => hr j e y he hy
      | any => exact nameless h fun id hid => by cases hid
      | v x => exact nameless h fun id hid => by cases hid
      | sl a b => exact nameless h fun id hid => by cases hid
      | pt a b => exact nameless h fun id hid => by cases hid
      | new a b c => exact nameless h fun id hid => by cases hid
      | nptr a b c => exact nameless h fun id hid => by cases hid
      | yld l => exact nameless h fun id hid => by cases hid
      | mp es => exact nameless h fun id hid => by cases hid
      | cut a b => exact nameless h fun id hid => by cases hid
    refine ⟨main, fun e j c x hc h => ?_⟩
    cases he : e.isAgg with
    | false =>
      rw [cells_one (resF_isAgg (n + 1) σ he)] at hc
      rw [cells_one he] at h
      cases j with
      | zero => simp at hc; subst hc; exact main e x (h e rfl)
      | succ j => simp at hc
    | true => cases e with
      | agg cs => simp only [resF, AV.cells_agg] at hc; exact memb hc h
      | _ => cases he
theorem resF_sound (hinv : Inv w ρ Im σ) (n : Nat) {x : AV} {y : Value} (h : Rep w ρ Im x y) : IRep w (Seen Im ρ) (resF n σ x) y := (resF_both hinv n).1 x y h
theorem resF_cell (hinv : Inv w ρ Im σ) (n : Nat) {e : AV} {j : Nat} {c : AV} {x : Value} (hc : (resF n σ e).cells[j]? = some c) (h : ∀ c0, e.cells[j]? = some c0 → Rep w ρ Im c0 x) : IRep w (Seen Im ρ) c x := (resF_both hinv n).2 e j c x hc h
theorem res_sound (hinv : Inv w ρ Im σ) {x : AV} {y : Value} (h : Rep w ρ Im x y) : IRep w (Seen Im ρ) (res σ x) y := resF_sound hinv 8 h
theorem res_nameless {x : AV} (hn : AV.namesB allB x = false) : res σ x = x := by
  unfold res
  cases x with
  | own => simp [AV.namesB, allB] at hn
  | ptr => simp [AV.namesB, allB] at hn
  | mref => simp [AV.namesB, allB] at hn
  | agg cs => simp only [AV.namesB] at hn; simp [resF, resL, hn]
  | tup cs => simp only [AV.namesB] at hn; simp [resF, resL, hn]
  | clo g cs => simp only [AV.namesB] at hn; simp [resF, resL, hn]
  | _ => rfl
def Content (w : World) (Im : Nat → Prop) (e sz : Nat) (es : List AV) (b : Nat) : Prop :=
  ∃ cur, (∃ fr, w.heap[b]? = some (.cells cur e fr) ∧ Mk fr cur.size) ∧ (∀ x ∈ es, x.cells.length = sz) ∧ es.length * sz ≤ cur.size ∧
    ∀ (i : Nat) (x : AV) (j : Nat) (c : AV), es[i]? = some x → x.cells[j]? = some c → ∃ v, cur[i * sz + j]? = some v ∧ v.oneCell' = true ∧ IRep w Im c v
def R1 (w : World) (Im : Nat → Prop) (r : AV) (y : Value) (ob : Option Nat) : Prop :=
  match r with
  | .new e sz es => (ob = none ∧ es = [] ∧ y = .slice none 0 0) ∨
      ∃ b cap, sz ≠ 0 ∧ ob = some b ∧ y = .slice (some ⟨b, 0, none⟩) es.length cap ∧ es.length ≤ cap ∧ cap ≤ maxLen ∧ (∃ cur, (∃ fr, w.heap[b]? = some (.cells cur e fr) ∧ Mk fr cur.size) ∧ cur.size = cap * sz) ∧ Content w Im e sz es b
  | .nptr e sz es => ∃ b, sz ≠ 0 ∧ ob = some b ∧ y = .pointer (some ⟨b, 0, none⟩) ∧ Content w Im e sz es b
  | r => ob = none ∧ IRep w Im r y
def RL (w : World) (Im : Nat → Prop) : List AV → List Value → List (Option Nat) → Prop
  | [], [], [] => True
  | r :: rs, y :: ys, ob :: obs => R1 w Im r y ob ∧ RL w Im rs ys obs
  | _, _, _ => False
def Fresh (lo : Nat) (Im : Nat → Prop) (obs : List (Option Nat)) : Prop :=
  (∀ b, some b ∈ obs → lo ≤ b ∧ ¬ Im b) ∧ obs.Pairwise fun x y => x = none ∨ x ≠ y
def RRep (w w' : World) (Im : Nat → Prop) (r : AV) (y : Value) : Prop :=
  ∃ Im' : Nat → Prop, (∀ b, Im b → Im' b) ∧ (∀ b, Im' b → Im b ∨ (w.heap.size ≤ b ∧ b < w'.heap.size)) ∧
    match r with
    | .tup rs => ∃ ys obs, y = .tuple ys.toArray ∧ RL w' Im' rs ys obs ∧ Fresh w.heap.size Im' obs
    | .clo g rs => ∃ ys obs, y = mkF g ys ∧ RL w' Im' rs ys obs ∧ Fresh w.heap.size Im' obs
    | r => ∃ ob, R1 w' Im' r y ob ∧ Fresh w.heap.size Im' [ob]
def IReps (w : World) (Im : Nat → Prop) (cs : List AV) (ys : List Value) : Prop :=
  cs.length = ys.length ∧ ∀ (j : Nat) (c : AV) (y : Value), cs[j]? = some c → ys[j]? = some y → IRep w Im c y
def FnOK (P : Program) (f : FuncId) (R : List AV → AV → Prop) : Prop :=
  ∀ args r, R args r → (∀ as w, (callFunc f as).run P w = .ok (.enter f as) w) ∧
    ∀ (w : World) (Im : Nat → Prop) (vs : List Value), (∀ b, Im b → b < w.heap.size) → GOK w Im → IReps w Im args vs →
      Calls P f vs.toArray w fun e w' => ∃ y, e = .returned y ∧ Ext w (fun _ => False) w' ∧ RRep w w' Im r y
def imp1 (id : Nat) (r : AV) : AV × List (Nat × Blk) :=
  match r with
  | .new e sz es => (.own id sz 0 es.length, [(id, ⟨e, sz, es⟩)])
  | .nptr e sz es => (.ptr id sz 0 0, [(id, ⟨e, sz, es⟩)])
  | r => (r, [])
def impL : Nat → List AV → List AV × List (Nat × Blk)
  | _, [] => ([], [])
  | id, r :: rs => ((imp1 id r).1 :: (impL (id + 1) rs).1, (imp1 id r).2 ++ (impL (id + 1) rs).2)
def imp (id : Nat) (r : AV) : AV × List (Nat × Blk) :=
  match r with
  | .tup rs => (.tup (impL id rs).1, (impL id rs).2)
  | .clo g rs => (.clo g (impL id rs).1, (impL id rs).2)
  | r => imp1 id r
end Go.Vai
namespace Go.Vai
open Go.RowKit
variable {P : Program} {C : Fx} {w : World} {ρ : Nat → Option Nat} {Im : Nat → Prop} {M : Str} {E : Env} {σ : Store} {a : Act}
mutual
def AV.flat : AV → Bool
  | .any => true
  | .v _ => true
  | .agg cs => AV.flatL cs
  | .sl _ es => es.isEmpty
  | .new _ _ es => AV.flatL es
  | .nptr _ _ es => AV.flatL es
  | .tup cs => AV.flatL cs
  | .clo _ cs => AV.flatL cs
  | _ => false
def AV.flatL : List AV → Bool
  | [] => true
  | c :: cs => AV.flat c && AV.flatL cs
end
theorem AV.flatL_iff (cs : List AV) : AV.flatL cs = true ↔ ∀ c ∈ cs, AV.flat c = true := by
  induction cs with
  | nil => simp [AV.flatL]
  | cons c cs ih => simp [AV.flatL, ih]
theorem IRep.flat {x : AV} {y : Value} (h : IRep w Im x y) (hf : x.flat = true) (w' : World) (Im' : Nat → Prop) : IRep w' Im' x y := by
  induction h with
  | any y => exact .any y
  | v x => exact .v x
  | agg cs ys hl h1 _ ih => exact .agg cs ys hl h1 fun j c y hc hy => ih j c y hc hy ((AV.flatL_iff cs).1 hf c (List.mem_of_getElem? hc))
  | slnil sz a cap => exact .slnil sz a cap
  | sl sz es b o cap f hIm hcap hsz hcc _ _ =>
    have : es = [] := by simpa [AV.flat] using hf
    subst this; exact .slnil ..
  | pt => simp [AV.flat] at hf
  | tup vs ys hl _ ih => exact .tup vs ys hl fun j c y hc hy => ih j c y hc hy ((AV.flatL_iff vs).1 hf c (List.mem_of_getElem? hc))
  | clo g caps ys hl _ ih => exact .clo g caps ys hl fun j c y hc hy => ih j c y hc hy ((AV.flatL_iff caps).1 hf c (List.mem_of_getElem? hc))
  | yld l => exact .yld l
  | mpnil => exact .mpnil
  | mp => simp [AV.flat] at hf
  | cut => simp [AV.flat] at hf
theorem IRep.nameless {x : AV} {y : Value} (h : IRep w Im x y) (id : Nat) : ¬ Names x id := by
  induction h with
  | agg cs ys hl _ _ ih => intro hn; cases hn with | agg _ c _ hc hn =>
      obtain ⟨j, hj⟩ := List.mem_iff_getElem?.1 hc
      have hlt := (List.getElem?_eq_some_iff.1 hj).1
      exact ih j c _ hj (List.getElem?_eq_getElem (hl ▸ hlt)) hn
  | tup cs ys hl _ ih => intro hn; cases hn with | tup _ c _ hc hn =>
      obtain ⟨j, hj⟩ := List.mem_iff_getElem?.1 hc
      have hlt := (List.getElem?_eq_some_iff.1 hj).1
      exact ih j c _ hj (List.getElem?_eq_getElem (hl ▸ hlt)) hn
  | clo g cs ys hl _ ih => intro hn; cases hn with | clo _ _ c _ hc hn =>
      obtain ⟨j, hj⟩ := List.mem_iff_getElem?.1 hc
      have hlt := (List.getElem?_eq_some_iff.1 hj).1
      exact ih j c _ hj (List.getElem?_eq_getElem (hl ▸ hlt)) hn
  | _ => intro hn; cases hn
theorem names_cells {v : AV} {id : Nat} (h : Names v id) : ∃ c ∈ v.cells, Names c id := by
  cases v with
  | agg cs => cases h with | agg _ c _ hc h => exact ⟨c, hc, h⟩
  | _ => exact ⟨_, by simp [AV.cells], h⟩
theorem Content.nameless {e sz b : Nat} {es : List AV} (h : Content w Im e sz es b) (id : Nat) : ∀ x ∈ es, ¬ Names x id := by
  obtain ⟨cur, _, _, _, hc⟩ := h
  intro x hx hn
  obtain ⟨c, hcx, hn⟩ := names_cells hn
  obtain ⟨i, hi⟩ := List.mem_iff_getElem?.1 hx
  obtain ⟨j, hj⟩ := List.mem_iff_getElem?.1 hcx
  obtain ⟨v, _, _, hr⟩ := hc i x j c hi hj
  exact hr.nameless id hn
theorem flat_cells' {x c : AV} (h : x.flat = true) (hc : c ∈ x.cells) : c.flat = true := by
  cases x with
  | agg cs => exact (AV.flatL_iff cs).1 h c hc
  | _ => simp only [AV.cells, List.mem_singleton] at hc; subst hc; exact h
theorem Content.flat {Im' : Nat → Prop} {e sz b : Nat} {es : List AV} (h : Content w Im e sz es b) (hf : AV.flatL es = true) : Content w Im' e sz es b := by
  obtain ⟨cur, h1, h2, h3, hc⟩ := h
  exact ⟨cur, h1, h2, h3, fun i x j c hx hcx => by
    obtain ⟨v, hv, ho, hr⟩ := hc i x j c hx hcx
    exact ⟨v, hv, ho, hr.flat (flat_cells' ((AV.flatL_iff es).1 hf x (List.mem_of_getElem? hx)) (List.mem_of_getElem? hcx)) _ _⟩⟩
theorem R1.flat {Im' : Nat → Prop} {r : AV} {y : Value} {ob : Option Nat} (h : R1 w Im r y ob) (hf : r.flat = true) : R1 w Im' r y ob := by
  unfold R1 at h ⊢
  split
  · rcases h with h | ⟨b, cap, h0, h1, h2, h3, h4, h5, h6⟩
    · exact .inl h
    · exact .inr ⟨b, cap, h0, h1, h2, h3, h4, h5, h6.flat (by simpa [AV.flat] using hf)⟩
  · obtain ⟨b, h0, h1, h2, h3⟩ := h
    exact ⟨b, h0, h1, h2, h3.flat (by simpa [AV.flat] using hf)⟩
  · split at h
    · simp_all
    · simp_all
    · exact ⟨h.1, h.2.flat hf _ _⟩
theorem RL.flat {Im' : Nat → Prop} : ∀ {rs : List AV} {ys : List Value} {obs : List (Option Nat)}, RL w Im rs ys obs → AV.flatL rs = true → RL w Im' rs ys obs
  | [], [], [], _, _ => trivial
  | r :: rs, y :: ys, ob :: obs, h, hf => by
    simp only [AV.flatL, Bool.and_eq_true] at hf
    exact ⟨h.1.flat hf.1, RL.flat h.2 hf.2⟩
theorem Fresh.im {lo : Nat} {Im' : Nat → Prop} {obs : List (Option Nat)} (h : Fresh lo Im obs) (hI : ∀ b, lo ≤ b → Im' b → Im b) : Fresh lo Im' obs :=
  ⟨fun b hb => ⟨(h.1 b hb).1, fun hi => (h.1 b hb).2 (hI b (h.1 b hb).1 hi)⟩, h.2⟩
theorem RRep.flat {w' : World} {Im' : Nat → Prop} {r : AV} {y : Value} (h : RRep w w' Im r y) (hf : r.flat = true) (hlow : ∀ b, Im' b → b < w.heap.size) : RRep w w' Im' r y := by
  obtain ⟨I1, _, h2, h3⟩ := h
  refine ⟨fun b => Im' b ∨ (w.heap.size ≤ b ∧ I1 b ∧ b < w'.heap.size), fun b hb => .inl hb, fun b hb => ?_, ?_⟩
  · rcases hb with hb | ⟨h1, _, h2⟩
    · exact .inl hb
    · exact .inr ⟨h1, h2⟩
  have hI : ∀ b, w.heap.size ≤ b → (Im' b ∨ (w.heap.size ≤ b ∧ I1 b ∧ b < w'.heap.size)) → I1 b := fun b hle hb => by
    rcases hb with hb | ⟨_, hb, _⟩
    · have := hlow b hb; omega
    · exact hb
  revert h3
  split <;> intro h3
  · obtain ⟨ys, obs, h1, h4, h5⟩ := h3
    exact ⟨ys, obs, h1, h4.flat (by simpa [AV.flat] using hf), h5.im hI⟩
  · obtain ⟨ys, obs, h1, h4, h5⟩ := h3
    exact ⟨ys, obs, h1, h4.flat (by simpa [AV.flat] using hf), h5.im hI⟩
  · obtain ⟨ob, h1, h5⟩ := h3
    exact ⟨ob, h1.flat hf, h5.im hI⟩
theorem addS_append (σ : Store) (l l' : List (Nat × Blk)) : addS σ (l ++ l') = addS (addS σ l) l' := by
  induction l generalizing σ with
  | nil => rfl
  | cons x l ih => simp [addS, ih]
theorem filled_content {e sz b : Nat} {es : List AV} (h : Content w Im e sz es b) : ∃ cur, (∃ fr, w.heap[b]? = some (.cells cur e fr) ∧ Mk fr cur.size) ∧ ∀ ρ, Filled w ρ Im ⟨e, sz, es⟩ cur := by
  obtain ⟨cur, h1, h2, h3, hc⟩ := h
  exact ⟨cur, h1, fun ρ => ⟨h2, h3, fun i x j c hx hcx => by obtain ⟨v, hv, ho, hr⟩ := hc i x j c hx hcx; exact ⟨v, hv, ho, .im _ _ hr⟩⟩⟩
theorem imp1_sound {tm : Array Value} (hinv : Inv w ρ Im σ) (henv : EnvRep w ρ Im E tm) {id : Nat} (hcl : Clean id E σ) {r : AV} {y : Value} {ob : Option Nat} (h : R1 w Im r y ob)
    (hob : ∀ b, ob = some b → (∀ i, ρ i ≠ some b) ∧ ¬ Im b) :
    ∃ ρ', Inv w ρ' Im (addS σ (imp1 id r).2) ∧ EnvRep w ρ' Im E tm ∧ Rep w ρ' Im (imp1 id r).1 y ∧ (∀ i b, ρ' i = some b → ρ i = some b ∨ ob = some b) ∧ (∀ v z, Rep w ρ Im v z → ¬ Names v id → Rep w ρ' Im v z) ∧
      (∀ d, d ≠ id → Clean d E σ → Clean d E (addS σ (imp1 id r).2)) ∧ (∀ d, Names (imp1 id r).1 d → d = id) ∧ ∀ i, i ≠ id → ρ' i = ρ i := by
  have carry : ∀ ob v z, Rep w ρ Im v z → ¬ Names v id → Rep w (updR ρ id ob) Im v z := fun ob v z hr hn => hr.carry (fun _ _ => rfl) hn
  have env : ∀ ob, EnvRep w (updR ρ id ob) Im E tm := fun ob t y hy => carry ob _ _ (henv t y hy) (hcl.2.1 t)
  have keep : ∀ ob i, i ≠ id → updR ρ id ob i = ρ i := fun ob i e => updR_ne _ _ _ _ e
  have rng : ∀ ob i b, updR ρ id ob i = some b → ρ i = some b ∨ ob = some b := fun ob i b hi => by
    by_cases e : i = id
    · subst e; rw [updR_same] at hi; exact .inr hi
    · rw [updR_ne _ _ _ _ e] at hi; exact .inl hi
  cases r with
  | new e sz es =>
    rcases h with ⟨rfl, rfl, rfl⟩ | ⟨b, cap, hz, rfl, rfl, hle, hcap, ⟨cur, hb, hsz⟩, hcont⟩
    · exact ⟨updR ρ id none, hinv.fresh (Nat.le_refl _) (fun _ _ => rfl) hcl.1 hcl.2.2 (fun _ h => h) (fun _ h => .inl h) rfl, env none, .ownNil id sz (by simp), rng none, carry none, fun d hd hc => hc.add hd.symm (by simp), fun d hd => by cases hd; rfl, keep _⟩
    · obtain ⟨cur', hb', hf⟩ := filled_content hcont
      obtain ⟨h1, h2⟩ := hob b rfl
      exact ⟨updR ρ id (some b), hinv.adopt (Nat.le_refl _) (fun _ _ => rfl) hcl h1 h2 hz hb' (hf _), env _, .own id sz es.length b cap cur e (by simp) hle hcap hb hsz hz, rng _, carry _,
        fun d hd hc => hc.add hd.symm (fun x hx => hcont.nameless d x hx), fun d hd => by cases hd; rfl, keep _⟩
  | nptr e sz es =>
    obtain ⟨b, hz, rfl, rfl, hcont⟩ := h
    obtain ⟨cur', hb', hf⟩ := filled_content hcont
    obtain ⟨h1, h2⟩ := hob b rfl
    have hp : Rep w (updR ρ id (some b)) Im (.ptr id sz 0 0) (.pointer (some ⟨b, 0, none⟩)) := by
      have := Rep.ptr (w := w) (ρ := updR ρ id (some b)) (Im := Im) id sz 0 0 b (by simp) hz
      simpa using this
    exact ⟨updR ρ id (some b), hinv.adopt (Nat.le_refl _) (fun _ _ => rfl) hcl h1 h2 hz hb' (hf _), env _, hp, rng _, carry _,
        fun d hd hc => hc.add hd.symm (fun x hx => hcont.nameless d x hx), fun d hd => by cases hd; rfl, keep _⟩
  | _ =>
    obtain ⟨rfl, hr⟩ := h
    exact ⟨ρ, hinv, henv, .im _ _ hr, fun i b hi => .inl hi, fun _ _ hr _ => hr, fun d _ hc => hc, fun d hd => absurd hd (hr.nameless d), fun _ _ => rfl⟩
theorem impL_sound {tm : Array Value} : ∀ (rs : List AV) (ys : List Value) (obs : List (Option Nat)) (id : Nat) (ρ : Nat → Option Nat) (σ : Store), Inv w ρ Im σ → EnvRep w ρ Im E tm →
    (∀ k, k < rs.length → Clean (id + k) E σ) → RL w Im rs ys obs → (∀ b, some b ∈ obs → (∀ i, ρ i ≠ some b) ∧ ¬ Im b) → obs.Pairwise (fun x y => x = none ∨ x ≠ y) →
    ∃ ρ', Inv w ρ' Im (addS σ (impL id rs).2) ∧ EnvRep w ρ' Im E tm ∧ Reps w ρ' Im (impL id rs).1 ys ∧ (∀ i b, ρ' i = some b → ρ i = some b ∨ some b ∈ obs) ∧
      (∀ v z, Rep w ρ Im v z → (∀ k, k < rs.length → ¬ Names v (id + k)) → Rep w ρ' Im v z) ∧ ∀ i, (∀ k, k < rs.length → i ≠ id + k) → ρ' i = ρ i
  | [], [], [], id, ρ, σ, hinv, henv, _, _, _, _ => ⟨ρ, hinv, henv, ⟨rfl, fun j c y hc => by simp [impL] at hc⟩, fun i b hi => .inl hi, fun _ _ hr _ => hr, fun _ _ => rfl⟩
  | r :: rs, y :: ys, ob :: obs, id, ρ, σ, hinv, henv, hcl, h, hob, hp => by
    rw [List.pairwise_cons] at hp
    obtain ⟨ρ1, i1, e1, r1, g1, c1, k1, n1, p1⟩ := imp1_sound hinv henv (id := id) (hcl 0 (by simp)) h.1 (fun b hb => hob b (by simp [hb]))
    obtain ⟨ρ2, i2, e2, r2, g2, c2, p2⟩ := impL_sound rs ys obs (id + 1) ρ1 _ i1 e1 (fun k hk => by
        have := hcl (k + 1) (by simp; omega)
        rw [show id + 1 + k = id + (k + 1) from by omega]
        exact k1 _ (by omega) this) h.2 (fun b hb => ⟨fun i hi => by
          rcases g1 i b hi with h' | h'
          · exact (hob b (by simp [hb])).1 i h'
          · subst h'
            rcases hp.1 (some b) hb with h' | h'
            · cases h'
            · exact h' rfl, (hob b (by simp [hb])).2⟩) hp.2
    refine ⟨ρ2, ?_, e2, ⟨?_, fun j c z hc hz => ?_⟩, fun i b hi => ?_, fun v z hr hn => ?_, fun i hi => (p2 i fun k hk => by have := hi (k + 1) (by simp; omega); omega).trans (p1 i (by have := hi 0 (by simp); omega))⟩
    · simp only [impL, addS_append]; exact i2
    · simp only [impL, List.length_cons, r2.1]
    · simp only [impL] at hc
      cases j with
      | zero =>
        simp at hc hz; subst hc; subst hz
        exact c2 _ _ r1 fun k hk hn => by have := n1 _ hn; omega
      | succ j => exact r2.2 j c z (by simpa using hc) (by simpa using hz)
    · rcases g2 i b hi with h' | h'
      · rcases g1 i b h' with h'' | h''
        · exact .inl h''
        · exact .inr (by simp [h''])
      · exact .inr (by simp [h'])
    · exact c2 v z (c1 v z hr (hn 0 (by simp))) fun k hk hnn => hn (k + 1) (by simp; omega) (by rw [show id + (k + 1) = id + 1 + k from by omega]; exact hnn)
def rlen : AV → Nat
  | .tup rs => rs.length
  | .clo _ rs => rs.length
  | _ => 1
theorem Wit.back (hG : GStable C.G) (h : Wit C E σ a w ρ Im M) {w' : World} {r : AV} {y : Value} {id : Nat} (hpn : ∀ k, k < rlen r → C.pin (id + k) = none) (hcl : ∀ k, k < rlen r → Clean (id + k) E σ) (hx : Ext w (fun _ => False) w') (hr : RRep w w' Im r y)
    {dst : Option Nat} (hd : ∀ d, dst = some d → d < C.N) :
    ∃ ρ' Im', Wit C (updO E dst (imp id r).1) (addS σ (imp id r).2) (a.put dst y) w' ρ' Im' M := by
  obtain ⟨Im', hI1, hI2, hr⟩ := hr
  have hrho : ∀ i b, ρ i = some b → ¬ Im' b := fun i b hi hb => by
    rcases hI2 b hb with h' | ⟨h', _⟩
    · exact h.inv.apart i b hi h'
    · have := h.inv.lt hi; omega
  have rep : ∀ {v : AV} {z : Value}, Rep w ρ Im v z → Rep w' ρ Im' v z := fun {v z} hv =>
    Rep.mono (w := w) (w' := w') hI1 (fun b hb => hx.block b (h.inv.low b hb) _root_.id) hv fun i _ => ⟨rfl, fun b hi cur e hc => ⟨cur, by rw [hx.block b (h.inv.lt hi) _root_.id]; exact hc, rfl⟩⟩
  have hinv : Inv w' ρ Im' σ := ⟨h.inv.nil, fun i k b hk hi hz => by
      obtain ⟨ents, clk, hb, hl, hc⟩ := h.inv.map i k b hk hi hz
      exact ⟨ents, clk, by rw [hx.block b (h.inv.lt hi) _root_.id]; exact hb, hl, fun i m hm => by obtain ⟨v, hv, hr⟩ := hc i m hm; exact ⟨v, hv, rep hr⟩⟩, fun i k b hk hi hz => by
      obtain ⟨cur, hb, hl, hs, hc⟩ := h.inv.blk i k b hk hi hz
      exact ⟨cur, by rw [hx.block b (h.inv.lt hi) _root_.id]; exact hb, hl, hs, fun i e j c he hcc => by obtain ⟨v, hv, h1, hr⟩ := hc i e j c he hcc; exact ⟨v, hv, h1, rep hr⟩⟩,
    h.inv.inj, h.inv.live, hrho, fun b hb => by
      rcases hI2 b hb with h' | ⟨_, h'⟩
      · exact Nat.lt_of_lt_of_le (h.inv.low b h') hx.size
      · exact h'⟩
  have henv : EnvRep w' ρ Im' E a.tmps := fun t z hz => rep (h.env t z hz)
  have fin : ∀ (v : AV) (l : List (Nat × Blk)) (ρ' : Nat → Option Nat) (obs : List (Option Nat)), Fresh w.heap.size Im' obs → Inv w' ρ' Im' (addS σ l) → EnvRep w' ρ' Im' E a.tmps → Rep w' ρ' Im' v y →
      (∀ i b, ρ' i = some b → ρ i = some b ∨ some b ∈ obs) → (∀ i, C.pin i ≠ none → ρ' i = ρ i) → Wit C (updO E dst v) (addS σ l) (a.put dst y) w' ρ' Im' M := fun v l ρ' obs hf i2 e2 r2 g2 p2 =>
    h.step hG (hx.mono fun _ _ h => h.elim) i2 (e2.put r2) (put_size ..) (put_defers ..) (updO_ne hd) (fun i b hi => by
      rcases g2 i b hi with h' | h'
      · exact .inl h'
      · exact .inr (hf.1 b h').1) (fun b hb => (hI2 b hb).imp_right fun h => h.1) (fun i b hb => (p2 i (by rw [hb]; simp)).trans (h.pin i b hb)) hI1
  have fresh : ∀ obs, Fresh w.heap.size Im' obs → ∀ b, some b ∈ obs → (∀ i, ρ i ≠ some b) ∧ ¬ Im' b := fun obs hf b hb => ⟨fun i hi => by have := h.inv.lt hi; have := (hf.1 b hb).1; omega, (hf.1 b hb).2⟩
  have one : ∀ ob, R1 w' Im' r y ob → Fresh w.heap.size Im' [ob] → Clean id E σ → C.pin id = none → imp id r = imp1 id r → ∃ ρ' Im', Wit C (updO E dst (imp id r).1) (addS σ (imp id r).2) (a.put dst y) w' ρ' Im' M := fun ob hr1 hf hc hpn he => by
    obtain ⟨ρ', i2, e2, r2, g2, _, _, _, p2⟩ := imp1_sound hinv henv (id := id) hc hr1 (fun b hb => fresh [ob] hf b (by simp [hb]))
    rw [he]
    exact ⟨ρ', Im', fin _ _ ρ' [ob] hf i2 e2 r2 (fun i b hi => by rcases g2 i b hi with h' | h'; exact .inl h'; exact .inr (by simp [h'])) (fun i hi => p2 i fun e => hi (by rw [e]; exact hpn))⟩
  cases r with
  | tup rs =>
    obtain ⟨ys, obs, rfl, hrl, hf⟩ := hr
    obtain ⟨ρ', i2, e2, r2, g2, _, p2⟩ := impL_sound rs ys obs id ρ σ hinv henv hcl hrl (fresh obs hf) hf.2
    exact ⟨ρ', Im', fin _ _ ρ' obs hf i2 e2 (.tup _ ys r2.1 r2.2) g2 (fun i hi => p2 i fun k hk e => hi (by rw [e]; exact hpn k hk))⟩
  | clo g rs =>
    obtain ⟨ys, obs, rfl, hrl, hf⟩ := hr
    obtain ⟨ρ', i2, e2, r2, g2, _, p2⟩ := impL_sound rs ys obs id ρ σ hinv henv hcl hrl (fresh obs hf) hf.2
    exact ⟨ρ', Im', fin _ _ ρ' obs hf i2 e2 (.clo g _ ys r2.1 r2.2) g2 (fun i hi => p2 i fun k hk e => hi (by rw [e]; exact hpn k hk))⟩
  | _ =>
    obtain ⟨ob, hr1, hf⟩ := hr
    exact one ob hr1 hf (by simpa using hcl 0 (by simp [rlen])) (by simpa using hpn 0 (by simp [rlen])) rfl
end Go.Vai
namespace Go.Vai
open Go.RowKit
def Ev (P : Program) (f : FuncId) (args : List AV) (r : AV) : Prop := FnOK P f fun a b => a = args ∧ b = r
structure Sp where
  P : Program
  N : Nat
  b : Nat
  pin : Nat → Bool
  rd : Bool := false
  yl : Nat
  Y : List AV → AV → (AV → AV → Prop) → Prop
  bad : Nat → Bool := fun _ => false
  old : Nat → Bool := fun _ => true
  itf : Bool := false
abbrev noBad : Nat → Bool := fun _ => false
def tpt (P : Program) (t : TypeId) : Bool := match P.underlying t with | some (.pointer _) => true | some .unsafePointer => true | _ => false
def cls (P : Program) (op : Op) (ty : TypeId) : Nat :=
  match op with
  | .move (.const (.slice none 0 0)) => if (tel P ty).isSome then 1 else 0
  | .assign (.const (.slice none 0 0)) => if (tel P ty).isSome then 1 else 0
  | .load _ (.global _) => 5
  | .binOp _ t _ _ _ => if tpt P t then 5 else 0
  | .slice _ _ _ _ (some _) => 5
  | .slice t _ _ _ none => if (tarr P t).isSome then 5 else 0
  | .move _ | .assign _ | .pick _ _ _ | .load _ _ | .nilCheck _ | .build _ _ | .unOp _ _ _ | .makeFunc _ _ _ | .fieldAddr _ _ _ | .field _ _ _ | .indexAddr _ _ _ | .index _ _ _
  | .extract _ _ => 0
  | .convert _ t _ => if (tint P t).isSome then 0 else 5
  | .alloc _ => 1
  | .box _ _ => 1
  | .buildSlice _ _ _ => 1
  | .makeSlice _ _ _ => 1
  | .call { callee := .value _, .. } => 2
  | .call { callee := .builtin .append, .. } => 3
  | .call { callee := .builtin .len, .. } => 0
  | .call { callee := .builtin .max, .. } => 0
  | .call { callee := .builtin .min, .. } => 0
  | .call { callee := .builtin .unsafeSliceData, .. } => 0
  | .store _ _ _ => 4
  | .go _ => 9
  | .defer _ => 9
  | .select _ _ => 9
  | .panic _ => 9
  | .send _ _ => 9
  | .recv _ _ _ => 9
  | _ => 5
def own (d : Nat) : Nat → Bool := fun i => i / 16 == d
def kE (kd : Bool) (d : Nat) (E : Env) : Env := if kd then killE (own d) E else E
def kS (kd : Bool) (d : Nat) (σ : Store) : Store := if kd then killS (own d) σ else σ
mutual
def AV.dn : AV → Bool
  | .any => false
  | .v _ => false
  | .yld _ => false
  | .own _ _ _ _ => true
  | .ptr _ _ _ _ => true
  | .mref _ => true
  | .agg cs => AV.dnL cs
  | .tup cs => AV.dnL cs
  | .clo _ cs => AV.dnL cs
  | .sl _ cs => AV.dnL cs
  | .cut _ cs => AV.dnL cs
  | .mp cs => AV.dnL cs
  | .pt e _ => AV.dn e
  | .new _ _ es => AV.dnL es
  | .nptr _ _ es => AV.dnL es
def AV.dnL : List AV → Bool
  | [] => false
  | c :: cs => AV.dn c || AV.dnL cs
end
def callV (S : Sp) (kd : Bool) (nm : Nat) (op : Op) (E : Env) (σ : Store) (v : AV) (bl : List (Nat × Blk)) : Prop :=
  match op with
  | .call { callee := .value f, args, argTypes := _ } => match ev E f with
    | .clo g caps => headOK caps = true ∧ ∃ r, Ev S.P g ((args.toList.map (ev E) ++ caps).map (res σ)) r ∧ (AV.namesL allB (args.toList.map (ev E) ++ caps) = false ∨ r.flat = true) ∧ rlen r ≤ 16 ∧ (kd = true ∨ r.dn = false) ∧
        v = (imp (16 * nm) r).1 ∧ bl = (imp (16 * nm) r).2
    | _ => False
  | _ => False
def yieldV (S : Sp) (op : Op) (E : Env) (_σ : Store) (K : AV → AV → Prop) : Prop :=
  match op with
  | .call { callee := .value f, args, argTypes := _ } => match ev E f with
    | .yld l => l = S.yl ∧ AV.namesL allB (args.toList.map (ev E)) = false ∧ S.Y (args.toList.map (ev E)) (E S.N) K
    | _ => False
  | _ => False
def FW (r : Option Nat) : Fence := { fn := fun _ => True, depth := none, alive := false, round := r }
theorem FW_round (l : Nat) : (FW none).inRound l = FW (some l) := rfl
theorem calls_FW {r : Option Nat} {n : Nat} {P : Program} {f : FuncId} {as : Array Value} {w : World} {R : Ending → World → Prop} (h : Calls P f as w R) : CallsIn (FW r) n P f as w R := by
  have h' : CallsIn Fence.wide n P f as w R := callsIn_wide.2 h
  exact h'
def Fx.rdl (C : Fx) : Option Nat := C.rd.map (·.1)
def YOK (S : Sp) (C : Fx) : Prop :=
  ∀ args g K, S.Y args g K → ∀ (w : World) (Im : Nat → Prop) (M : Str) (vs : List Value), (∀ b, Im b → b < w.heap.size ∧ ¬ M.m b) → (∀ b, M.m b → b < w.heap.size) → (∀ b, M.j b → Im b) → (∀ b, Im b → C.Im0 b ∨ C.w0.heap.size ≤ b) → IReps w Im args vs → C.G g M w → ∀ n,
    ∃ fn tmps assign body, (Instr.yield S.yl vs.toArray).run S.P w = .ok (.round S.yl fn tmps assign body) w ∧ RoundIn (FW C.rdl) n S.P S.yl fn tmps assign body w fun e w' =>
      ∃ v g' M', e = .returned v ∧ (∃ b, v = .bool b) ∧ K (.v v) g' ∧ (∀ p, AV.namesB p g' = false) ∧ C.G g' M' w' ∧ (∀ b, M'.m b → b < w'.heap.size ∧ (M.m b ∨ w.heap.size ≤ b)) ∧ (∀ b, M'.j b → Im b) ∧ Ext w M.m w'
def itA (r : Nat) (ks : List AV) (last : AV) : AV := .tup [.v (.pointer (some ⟨r, 0, none⟩)), .sl 1 ks, last]
def leftE (ents : Array MapEntry) (seen : Array Nat) : List MapEntry := ents.toList.filter fun e => !seen.contains e.born
def itG (g : AV) (M : Str) (w : World) : Prop := ∀ r ks last, g = itA r ks last → M.m r ∧ ∃ bm seen clk ents, M.j bm ∧ w.heap[r]? = some (.mapIter (some bm) clk seen clk) ∧ w.heap[bm]? = some (.map ents clk) ∧ Bn ents clk ∧
  ks = (leftE ents seen).map (fun m => .v m.key) ∧ ∀ k, last = .v k → ∃ m ∈ ents.toList, seen.back? = some m.born ∧ m.key = k
theorem gstable_it : GStable itG := fun g M w w' h hk _ _ _ _ r ks last e => by
  obtain ⟨h1, bm, seen, clk, ents, h2, h3, h4, h5⟩ := h r ks last e
  exact ⟨h1, bm, seen, clk, ents, h2, by rw [hk r (.inl h1)]; exact h3, by rw [hk bm (.inr h2)]; exact h4, h5⟩
structure Holds (S : Sp) (C : Fx) : Prop where
  N : S.N = C.N
  G : GStable C.G
  Y : YOK S C
  mo : S.P.follows .mixedOrders = true
  pin : ∀ id b, C.pin id = some b → S.pin id = true
  low : ∀ id, S.pin id = true → id / 16 < S.b ∨ S.b + 100000 ≤ id / 16
  big : S.N ≤ 99999
  rdn : S.rd = false → C.rd = none
  fz : ∀ id b, C.X0 b → C.R0 id b → S.old id = true
  gk : GOK C.w0 C.J0
  gx : ∀ b, GIs b → ¬ C.X0 b ∧ b < C.w0.heap.size
  it : S.itf = true → C.G = itG := by intro h; cases h
theorem Wit.gok {S : Sp} {C : Fx} {E : Env} {σ : Store} {a : Act} {w : World} {ρ : Nat → Option Nat} {Im : Nat → Prop} {M : Str} (H : Holds S C) (h : Wit C E σ a w ρ Im M) : GOK w Im :=
  H.gk.mono h.j0 fun b hb => h.ext.block b (H.gx b hb).2 (H.gx b hb).1
def semV (S : Sp) (o : Oper) (K : Env → Store → Prop) (E : Env) (σ : Store) : Prop :=
  ∀ (C : Fx), Holds S C → ∀ (n : Nat) (a : Act) (w : World) (Kc : Act → World → Prop) (Q : Exit → Act → World → Prop), St C E σ a w →
    (∀ E' σ' a' w', K E' σ' → St C E' σ' a' w' → Kc a' w') → o.wpIn (FW C.rdl) n S.P a w Kc Q
def aop (S : Sp) (kd bi : Bool) (o : Oper) (K Kb : Env → Store → Prop) (E : Env) (σ : Store) : Prop :=
  match cls S.P o.op o.type with
  | 0 => ∃ v, pureV S.P o.op E σ v ∧ K (updO E o.dst v) σ
  | 1 => ∃ d, o.dst = some d ∧ ∃ v bl, newV S.P (S.b + d) o.op o.type (kE kd (S.b + d) E) v bl ∧ K (upd (kE kd (S.b + d) E) d v) (addS (kS kd (S.b + d) σ) bl)
  | 2 => (∃ v bl, callV S kd (S.b + o.dst.getD 99999) o.op (kE kd (S.b + o.dst.getD 99999) E) (kS kd (S.b + o.dst.getD 99999) σ) v bl ∧
        K (updO (kE kd (S.b + o.dst.getD 99999) E) o.dst v) (addS (kS kd (S.b + o.dst.getD 99999) σ) bl)) ∨
      (bi = true ∧ yieldV S o.op E σ fun v g => Kb (updO (upd E S.N g) o.dst v) σ) ∨ (bi = true ∧ semV S o Kb E σ)
  | 3 => ∃ d, o.dst = some d ∧ appV S.P o.op E σ fun id sz n k => S.pin id = false ∧ Kb (upd (killE (isId id) E) d (.own id sz 0 n)) (updS (killS (isId id) σ) id (k.kill (isId id)))
  | 4 => storeV S.P o.op E σ fun id k => Kb (updO E o.dst (.v undef)) (updS σ id k)
  | 5 => semV S o Kb E σ
  | _ => False
def gop (S : Sp) (kd bi : Bool) (ops : Array Oper) (o : Oper) (K Kb : Env → Store → Prop) (E : Env) (σ : Store) : Prop :=
  match o.guard with
  | none => aop S kd bi o K Kb E σ
  | some (j, want) => match (ops[j]?).bind (·.dst) with
    | none => False
    | some t => match E t with
      | .v (.bool b) => (b = want → aop S kd bi o K Kb (upd E t (.v (.bool want))) σ) ∧ (b = !want → K (updO (upd E t (.v (.bool !want))) o.dst (.v undef)) σ)
      | .v (.tuple _) => K (updO E o.dst (.v undef)) σ
      | _ => False
def waits (ops : Array Oper) : Nat → Nat → Nat → Bool
  | 0, _, _ => false
  | n + 1, j, i => match ops[j]? with
    | some o => o.after.any fun e => Region.binds .any e && (e.on == i || waits ops n e.on i)
    | none => false
def bar (ops : Array Oper) (i : Nat) : Bool := (List.range ops.size).all fun j => j == i || waits ops ops.size i j || waits ops ops.size j i
def regP (S : Sp) (l : List Oper) : Nat → Bool := fun i => (l.filterMap fun o => if cls S.P o.op o.type == 1 || cls S.P o.op o.type == 2 then some (S.b + o.dst.getD 99999) else none).contains (i / 16)
def struck (S : Sp) (dr : Bool) (l : List Oper) (K : Env → Store → Prop) (E : Env) (σ : Store) : Prop := if dr then K (killE (regP S l) E) (killS (regP S l) σ) else K E σ
def awpOps (S : Sp) (dr : Bool) (ops : Array Oper) : Nat → List Oper → (Env → Store → Prop) → Env → Store → Prop
  | _, [], K => K
  | i, o :: rest, K => gop S (!dr) (!dr || bar ops i) ops o (awpOps S dr ops (i + 1) rest K) (struck S dr rest (awpOps S dr ops (i + 1) rest K))
def thenQ (K : Env → Store → Prop) (Q : Exit → Env → Store → Prop) : Exit → Env → Store → Prop
  | .normal => K
  | e => Q e
def blockQ (id : Nat) (Q : Exit → Env → Store → Prop) : Exit → Env → Store → Prop
  | .exit id' => if id' = id then Q .normal else Q (.exit id')
  | e => Q e
def scopeQ (Q : Exit → Env → Store → Prop) : Exit → Env → Store → Prop
  | .goto _ => fun _ _ => False
  | e => Q e
def semC (S : Sp) (c : Code) (Q : Exit → Env → Store → Prop) (E : Env) (σ : Store) : Prop :=
  ∀ (C : Fx), Holds S C → ∀ (n : Nat) (R : Exit → Act → World → Prop), (∀ e E σ a w, Q e E σ → St C E σ a w → R e a w) → ∀ a w, St C E σ a w → c.wpIn (FW C.rdl) n S.P R a w
def awp (S : Sp) : Code → (Exit → Env → Store → Prop) → Env → Store → Prop
  | .skip, Q => Q .normal
  | .label _, Q => Q .normal
  | .seq a b, Q => awp S a (thenQ (awp S b Q) Q)
  | .region id ops draw, Q => fun E σ => if S.bad id = true then semC S (.region id ops draw) Q E σ else struck S draw ops.toList (awpOps S draw ops 0 ops.toList (Q .normal)) E σ
  | .cond c x y, Q => fun E σ => match ev E c with
    | .v (.bool b) => (b = true → awp S x Q E σ) ∧ (b = false → awp S y Q E σ)
    | _ => False
  | .block id c, Q => awp S c (blockQ id Q)
  | .scope c, Q => awp S c (scopeQ Q)
  | .loop c, Q => fun E σ => ∃ (I : Env → Store → Prop) (μ : Env → Store → Nat), I E σ ∧ ∀ E σ, I E σ → awp S c (thenQ (fun E' σ' => I E' σ' ∧ μ E' σ' < μ E σ) Q) E σ
  | .exit id, Q => Q (.exit id)
  | .ret, Q => Q .ret
  | .rangeFunc f ps as body, Q => semC S (.rangeFunc f ps as body) Q
  | _, _ => fun _ _ => False
def Oper.fits (P : Program) (N : Nat) (o : Oper) : Bool := o.dst.all (decide <| · < N) && Op.low N o.op && cls P o.op o.type != 9
def isNm (P : Program) (o : Oper) : Bool := cls P o.op o.type == 1 || cls P o.op o.type == 2
def freeO (P : Program) (o : Oper) : Bool := o.guard.isNone && cls P o.op o.type == 0 && match o.op with
  | .extract _ _ => true
  | .move _ => true
  | .assign _ => true
  | _ => false
def stoO (o : Oper) : Bool := o.guard.isNone && o.dst.isNone && match o.op with
  | .store _ _ _ => true
  | _ => false
def drawOK (P : Program) (ops : Array Oper) : Bool :=
  (List.range ops.size).all fun i => match ops[i]? with
    | none => false
    | some oi => oi.after.all (fun e => !Region.binds .any e || decide (e.on < i)) && (match oi.guard with | some (g, _) => decide (g < i) | none => true) &&
      ((List.range ops.size).all fun j => decide (j ≤ i) || match ops[j]? with
        | none => false
        | some oj => (waits ops ops.size j i || (oi.apart ops oj && (decide (cls P oi.op oi.type ≤ 2) && decide (cls P oj.op oj.type ≤ 2) || freeO P oi && stoO oj || stoO oi && freeO P oj))) &&
            (!isNm P oi || !isNm P oj || (oi.dst.getD 99999 != oj.dst.getD 99999)))
def codeOK (P : Program) (N : Nat) (bad : Nat → Bool) : Code → Bool
  | .skip => true
  | .label _ => true
  | .seq a b => codeOK P N bad a && codeOK P N bad b
  | .region id ops draw => (bad id || ops.toList.all (Oper.fits P N)) && (!draw || bad id || drawOK P ops)
  | .cond c x y => Operand.low N c && codeOK P N bad x && codeOK P N bad y
  | .block _ c => codeOK P N bad c
  | .scope c => codeOK P N bad c
  | .loop c => codeOK P N bad c
  | .exit _ => true
  | .ret => true
  | .rangeFunc _ _ _ _ => true
  | .refuse _ => true
  | _ => false
section
variable {S : Sp} {C : Fx} {E : Env} {σ : Store} {a : Act} {w : World} {ρ : Nat → Option Nat} {Im : Nat → Prop} {M : Str}
theorem Holds.own (H : Holds S C) {d : Nat} (hd : d < 100000) : ∀ id b, C.pin id = some b → Vai.own (S.b + d) id = false := fun id b hb => by
  have := H.low id (H.pin id b hb)
  simp only [Vai.own, beq_eq_false_iff_ne]; omega
theorem Holds.free (H : Holds S C) {d : Nat} (hd : d < 100000) : ∀ k, k < 16 → C.pin (16 * (S.b + d) + k) = none := fun k hk => by
  cases hp : C.pin (16 * (S.b + d) + k) with
  | none => rfl
  | some b =>
    have := H.own hd _ b hp
    simp only [Vai.own, beq_eq_false_iff_ne] at this; omega
theorem wpIn_value {o : Oper} {y : Value} {w' : World} {n : Nat} {K : Act → World → Prop} {Q : Exit → Act → World → Prop} (hop : ∀ c, o.op ≠ .defer c)
    (hr : (execOp a.eval o).run S.P w = .ok (.value y) w') (h : K (a.put o.dst y) w') : o.wpIn (FW C.rdl) n S.P a w K Q := by
  refine ⟨fun _ _ => trivial, ?_⟩
  rw [Oper.semAt_eq _ _ _ hop, hr]; exact h
theorem wpIn_skip' {o : Oper} {w' : World} {n : Nat} {K : Act → World → Prop} {Q : Exit → Act → World → Prop} (hop : ∀ c, o.op ≠ .defer c)
    (hr : (execOp a.eval o).run S.P w = .ok .skip w') (h : K (a.put o.dst undef) w') : o.wpIn (FW C.rdl) n S.P a w K Q := by
  refine ⟨fun _ _ => trivial, ?_⟩
  rw [Oper.semAt_eq _ _ _ hop, hr]; exact h
theorem fits_of {o : Oper} {N : Nat} (h : Oper.fits S.P N o = true) : (∀ d, o.dst = some d → d < N) ∧ Op.low N o.op = true ∧ cls S.P o.op o.type ≠ 9 := by
  simp only [Oper.fits, Bool.and_eq_true, bne_iff_ne, ne_eq] at h
  refine ⟨fun d hd => ?_, h.1.2, h.2⟩
  have := h.1.1; rw [hd] at this; simpa using this
theorem cls_defer {P : Program} {op : Op} {ty : TypeId} (h : cls P op ty ≠ 9) : ∀ c, op ≠ .defer c := fun c e => by subst e; exact h rfl
theorem callV_sound (H : Holds S C) (h : Wit C E σ a w ρ Im M) {o : Oper} (hf : Oper.fits S.P S.N o = true) {d : Nat} (hpn : ∀ k, k < 16 → C.pin (16 * d + k) = none) (hcl : ∀ k, k < 16 → Clean (16 * d + k) E σ) {v : AV} {bl : List (Nat × Blk)} {kd : Bool}
    (hv : callV S kd d o.op E σ v bl) {n : Nat} {K : Act → World → Prop} {Q : Exit → Act → World → Prop} (hK : ∀ y w' ρ' Im', Wit C (updO E o.dst v) (addS σ bl) (a.put o.dst y) w' ρ' Im' M → K (a.put o.dst y) w') :
    o.wpIn (FW C.rdl) n S.P a w K Q := by
  obtain ⟨hdst, hlow, hc9⟩ := fits_of hf
  have rep : ∀ x, x ∈ o.op.operands → Rep w ρ Im (ev E x) (a.eval x) := fun x hx => ev_rep h.env (by rw [h.size, ← H.N]; exact low_of hlow hx)
  have hdf := cls_defer hc9
  refine ⟨fun _ _ => trivial, ?_⟩
  rw [Oper.semAt_eq _ _ _ hdf]
  obtain ⟨dst, op, ty, pos, after, guard⟩ := o
  simp only at hdst hlow hv hK rep
  unfold callV at hv
  split at hv
  · rename_i f args ats
    split at hv
    · rename_i g caps hfv
      obtain ⟨hhd, r, hΓ, hor, hrl, _, rfl, rfl⟩ := hv
      have hfr := rep f (by simp [Op.operands, Call.operands])
      rw [hfv] at hfr
      obtain ⟨cys, hfy, hcl', hcr⟩ := hfr.clo_plain hhd
      have hargs : ∀ x ∈ args.toList, Rep w ρ Im (ev E x) (a.eval x) := fun x hx => rep x (by simp [Op.operands, Call.operands]; exact Or.inr (Array.mem_toList_iff.1 hx))
      -- the arguments and what was captured
      have hall : Reps w ρ Im (args.toList.map (ev E) ++ caps) (args.toList.map a.eval ++ cys) := by
        refine ⟨by simp [hcl'], fun j c y hc hy => ?_⟩
        by_cases hj : j < args.toList.length
        · rw [List.getElem?_append_left (by simpa using hj), List.getElem?_map] at hc hy
          rw [List.getElem?_eq_getElem hj] at hc hy
          simp at hc hy; subst hc; subst hy
          exact hargs _ (by simp)
        · rw [List.getElem?_append_right (by simp at hj ⊢; omega)] at hc hy
          simp only [List.length_map] at hc hy
          exact hcr _ c y hc hy
      obtain ⟨henter, hfn⟩ := hΓ _ r ⟨rfl, rfl⟩
      have hrun : (execOp a.eval { dst, op := .call { callee := .value f, args, argTypes := ats }, type := ty, pos, after, guard }).run S.P w = .ok (.enter g (args.toList.map a.eval ++ cys).toArray) w := by
        simp only [execOp, resolve, hfy, Deferred.ofValue, Sem.run_bind, Sem.run_pure, Result.andThen_ok, invoke]
        have e1 : (#[] ++ args.map a.eval ++ cys.toArray : Array Value) = (args.toList.map a.eval ++ cys).toArray := by apply Array.toList_inj.1; simp
        rw [e1]; exact henter _ w
      rw [hrun]
      refine ⟨fun h => by simp [FW] at h, calls_FW ?_⟩
      have back : ∀ y w', Ext w (fun _ => False) w' → RRep w w' Im r y → K (a.put dst y) w' := fun y w' hx hr => by
        obtain ⟨ρ', Im', hw⟩ := h.back H.G (id := 16 * d) (fun k hk => hpn k (by omega)) (fun k hk => hcl k (by omega)) hx hr (dst := dst) (by rw [← H.N]; exact hdst)
        exact hK y w' ρ' Im' hw
      rcases hor with hn | hflat
      · have hres : (args.toList.map (ev E) ++ caps).map (res σ) = args.toList.map (ev E) ++ caps := by
          rw [List.map_congr_left (g := id)]
          · simp
          · intro x hx
            refine res_nameless ?_
            cases hb : AV.namesB allB x with
            | false => rfl
            | true => have := (AV.namesL_iff allB _).2 ⟨x, hx, hb⟩; rw [hn] at this; cases this
        rw [hres] at hfn
        refine (hfn w Im _ h.inv.low (h.gok H) ⟨hall.1, fun j c y hc hy => irep_of_nameless (hall.2 j c y hc hy) fun id hid => ?_⟩).mono fun e w' ⟨y, he, hx, hr⟩ => by subst he; exact back y w' hx hr
        have := (AV.namesL_iff allB _).2 ⟨c, List.mem_of_getElem? hc, AV.namesB_of allB hid rfl⟩
        rw [hn] at this; cases this
      · refine (hfn w (Seen Im ρ) _ (fun b hb => by
          rcases hb with hb | ⟨id, hb⟩
          · exact h.inv.low b hb
          · exact h.inv.lt hb) ((h.gok H).mono (fun _ h => .inl h) fun _ _ => rfl) ⟨by simpa using hall.1, fun j c y hc hy => ?_⟩).mono fun e w' ⟨y, he, hx, hr⟩ => by subst he; exact back y w' hx (hr.flat hflat h.inv.low)
        rw [List.getElem?_map] at hc
        cases hcj : (args.toList.map (ev E) ++ caps)[j]? with
        | none => simp [hcj] at hc
        | some c0 => simp [hcj] at hc; subst hc; exact res_sound h.inv (hall.2 j c0 y hcj hy)
    · exact hv.elim
  · exact hv.elim
theorem Rep.yld_inv {l : Nat} {y : Value} (h : Rep w ρ Im (.yld l) y) : y = .func (.yield l) #[] #[] := by
  cases h with | im _ _ h => cases h; rfl
theorem yieldV_sound (H : Holds S C) (h : Wit C E σ a w ρ Im M) {o : Oper} (hf : Oper.fits S.P S.N o = true) {A : AV → AV → Prop}
    (hv : yieldV S o.op E σ A) {n : Nat} {K : Act → World → Prop} {Q : Exit → Act → World → Prop} (hK : ∀ v g y w' M', A v g → Wit C (updO (upd E S.N g) o.dst v) σ (a.put o.dst y) w' ρ Im M' → K (a.put o.dst y) w') :
    o.wpIn (FW C.rdl) n S.P a w K Q := by
  obtain ⟨hdst, hlow, hc9⟩ := fits_of hf
  have rep : ∀ x, x ∈ o.op.operands → Rep w ρ Im (ev E x) (a.eval x) := fun x hx => ev_rep h.env (by rw [h.size, ← H.N]; exact low_of hlow hx)
  have hdf := cls_defer hc9
  refine ⟨fun _ _ => trivial, ?_⟩
  rw [Oper.semAt_eq _ _ _ hdf]
  obtain ⟨dst, op, ty, pos, after, guard⟩ := o
  simp only at hdst hlow hv hK rep
  unfold yieldV at hv
  split at hv
  · rename_i f args ats
    split at hv
    · rename_i l hfv
      obtain ⟨rfl, hn, hY⟩ := hv
      have hfr := rep f (by simp [Op.operands, Call.operands])
      rw [hfv] at hfr
      have hfy : a.eval f = .func (.yield S.yl) #[] #[] := hfr.yld_inv
      have hargs : IReps w Im (args.toList.map (ev E)) (args.toList.map a.eval) := by
        refine ⟨by simp, fun j c y hc hy => ?_⟩
        rw [List.getElem?_map] at hc hy
        cases hx : args.toList[j]? with
        | none => simp [hx] at hc
        | some x =>
          simp only [hx, Option.map_some, Option.some.injEq] at hc hy
          subst hc; subst hy
          have hmem := List.mem_of_getElem? hx
          refine irep_of_nameless (rep x (by simp [Op.operands, Call.operands]; exact Or.inr (Array.mem_toList_iff.1 hmem))) fun id hid => ?_
          have := (AV.namesL_iff allB _).2 ⟨ev E x, List.mem_map.2 ⟨x, hmem, rfl⟩, AV.namesB_of allB hid rfl⟩
          rw [hn] at this; cases this
      rw [H.N] at hY
      obtain ⟨fn, tmps, assign, body, hyr, hround⟩ := H.Y _ _ _ hY w Im M _ (fun b hb => ⟨h.inv.low b hb, fun hm => (h.ms b hm).2.2.1 hb⟩) (fun b hb => (h.ms b hb).1) h.js h.im hargs h.g (n - 1)
      have hrun : (execOp a.eval { dst, op := .call { callee := .value f, args, argTypes := ats }, type := ty, pos, after, guard }).run S.P w = .ok (.round S.yl fn tmps assign body) w := by
        simp only [execOp, resolve, hfy, Deferred.ofValue, Sem.run_bind, Sem.run_pure, Result.andThen_ok, invoke]
        have e1 : (#[] ++ args.map a.eval : Array Value) = (args.toList.map a.eval).toArray := by apply Array.toList_inj.1; simp
        rw [e1]; exact hyr
      rw [hrun]
      refine ⟨fun h => by simp [FW] at h, hround.mono ?_⟩
      rintro e w' ⟨v, g', M', rfl, ⟨b, rfl⟩, hA, hgn, hG', hM', hJ', hx⟩
      refine hK _ g' _ w' M' hA ?_
      have hIm : ∀ b, Im b → ¬ M.m b := fun b hb hm => (h.ms b hm).2.2.1 hb
      have hrho : ∀ i b, ρ i = some b → ¬ M.m b := fun i b hi hm => (h.ms b hm).2.1 i hi
      have rep' : ∀ {v : AV} {z : Value}, Rep w ρ Im v z → Rep w' ρ Im v z := fun {v z} hv =>
        Rep.mono (w := w) (w' := w') (fun _ h => h) (fun b hb => hx.block b (h.inv.low b hb) (hIm b hb)) hv fun i _ => ⟨rfl, fun b hi cur e hc => ⟨cur, by rw [hx.block b (h.inv.lt hi) (hrho i b hi)]; exact hc, rfl⟩⟩
      have hNne : S.N = C.N := H.N
      refine {
        inv := ⟨h.inv.nil, fun i k b hk hi hz => by
            obtain ⟨ents, clk, hb, hl, hc⟩ := h.inv.map i k b hk hi hz
            exact ⟨ents, clk, by rw [hx.block b (h.inv.lt hi) (hrho i b hi)]; exact hb, hl, fun i m hm => by obtain ⟨v, hv, hr⟩ := hc i m hm; exact ⟨v, hv, rep' hr⟩⟩, fun i k b hk hi hz => by
            obtain ⟨cur, hb, hl, hs, hc⟩ := h.inv.blk i k b hk hi hz
            exact ⟨cur, by rw [hx.block b (h.inv.lt hi) (hrho i b hi)]; exact hb, hl, hs, fun i e j c he hcc => by obtain ⟨v, hv, h1, hr⟩ := hc i e j c he hcc; exact ⟨v, hv, h1, rep' hr⟩⟩,
          h.inv.inj, h.inv.live, h.inv.apart, fun b hb => Nat.lt_of_lt_of_le (h.inv.low b hb) hx.size⟩
        env := ?_, size := (put_size ..).trans h.size
        ext := h.ext.trans hx fun b hb => (h.ms b hb).2.2.2
        rng := h.rng, im := h.im, pin := h.pin, js := hJ', j0 := h.j0
        gh := ?_, g := ?_
        ms := fun b hb => ?_
        rd := fun l r hr => by
          have hb : C.book a l := .inl ⟨r, hr⟩
          rw [hx.block l (h.bklt hb) (h.bk l hb).2.2]; exact h.rd l r hr
        nodup := by rw [put_defers]; exact h.nodup
        df := fun dd hdd => by
          rw [put_defers] at hdd
          obtain ⟨D, e, hD, hl⟩ := h.df dd hdd
          have hb : C.book a D := .inr (e ▸ hdd)
          exact ⟨D, e, by rw [hx.block D (h.bklt hb) (h.bk D hb).2.2]; exact hD, hl⟩
        bk := fun b hb => ?_ }
      · refine EnvRep.put (dst := dst) (tm := a) (E := upd E S.N g') (fun t y hy => ?_) (.im _ _ (.v _))
        simp only [upd]
        rw [if_neg (fun e => by
          have hlt := (Array.getElem?_eq_some_iff.1 hy).1
          rw [h.size] at hlt; omega)]
        exact rep' (h.env t y hy)
      · intro p
        rw [updO_ne (E := upd E S.N g') (N := C.N) (by rw [← H.N]; exact hdst)]
        simp only [upd, hNne, if_true]; exact hgn p
      · rw [updO_ne (E := upd E S.N g') (N := C.N) (by rw [← H.N]; exact hdst)]
        simp only [upd, hNne, if_true]; exact hG'
      · obtain ⟨h1, h2⟩ := hM' b hb
        refine ⟨h1, fun i hi => ?_, fun hi => ?_, ?_⟩
        · rcases h2 with h2 | h2
          · exact hrho i b hi h2
          · have := h.inv.lt hi; omega
        · rcases h2 with h2 | h2
          · exact hIm b hi h2
          · have := h.inv.low b hi; omega
        · rcases h2 with h2 | h2
          · exact (h.ms b h2).2.2.2
          · exact .inr (Nat.le_trans h.ext.size h2)
      · have hb : C.book a b := by unfold Fx.book at *; rwa [put_defers] at hb
        obtain ⟨h1, h2, h3⟩ := h.bk b hb
        refine ⟨h1, h2, fun hm => ?_⟩
        rcases (hM' b hm).2 with h4 | h4
        · exact h3 h4
        · have := h.bklt hb; omega
    · exact hv.elim
  · exact hv.elim
end
end Go.Vai
namespace Go.Vai
open Go.RowKit
section
variable {S : Sp} {C : Fx} {E : Env} {σ : Store} {a : Act} {w : World} {ρ : Nat → Option Nat} {Im : Nat → Prop} {M : Str}
theorem own_of (d k : Nat) (h : k < 16) : own d (16 * d + k) = true := by
  simp only [own, beq_iff_eq]; omega
theorem killed_clean (d : Nat) (E : Env) (σ : Store) : ∀ k, k < 16 → Clean (16 * d + k) (killE (own d) E) (killS (own d) σ) := fun k hk => clean_kill (own_of d k hk) E σ
theorem kd_clean (H : Holds S C) (h : Wit C E σ a w ρ Im M) (kd : Bool) (d : Nat) (hp : ∀ id b, C.pin id = some b → own d id = false) (hcl : kd = false → ∀ k, k < 16 → Clean (16 * d + k) E σ) :
    ∃ ρ', Wit C (kE kd d E) (kS kd d σ) a w ρ' Im M ∧ ∀ k, k < 16 → Clean (16 * d + k) (kE kd d E) (kS kd d σ) := by
  cases kd with
  | true => exact ⟨_, h.kill H.G (own d) hp, killed_clean d E σ⟩
  | false => exact ⟨ρ, h, hcl rfl⟩
theorem pin_none (H : Holds S C) {id : Nat} (h : S.pin id = false) : C.pin id = none := by
  cases hc : C.pin id with
  | none => rfl
  | some b => have := H.pin id b hc; rw [h] at this; cases this
theorem srcEls_mono {x : AV} {K K' : Nat → List AV → Prop} (hK : ∀ a b, K a b → K' a b) (h : srcEls σ x K) : srcEls σ x K' := by
  unfold srcEls at *
  split at h
  · exact hK _ _ h
  · exact hK _ _ h
  · obtain ⟨k, a, b, c, d⟩ := h; exact ⟨k, a, b, c, hK _ _ d⟩
  · exact h
theorem appV_mono {P : Program} {op : Op} {K K' : Nat → Nat → Nat → Blk → Prop} (hK : ∀ a b c d, K a b c d → K' a b c d) (h : appV P op E σ K) : appV P op E σ K' := by
  unfold appV at *
  split at h
  · split at h
    · obtain ⟨h1, e, h2, h3, h4, h5⟩ := h
      refine ⟨h1, e, h2, h3, h4, ?_⟩
      split at h5
      · obtain ⟨h6, k, h7, h8, h9, h10, h11⟩ := h5
        exact ⟨h6, k, h7, h8, h9, h10, srcEls_mono (fun _ _ hh => ⟨hh.1, hh.2.1, hh.2.2.1, hh.2.2.2.1, hK _ _ _ _ hh.2.2.2.2⟩) h11⟩
      · exact h5
    · exact h
  · exact h
theorem aop_sound (H : Holds S C) (h : Wit C E σ a w ρ Im M) {o : Oper} (hf : Oper.fits S.P S.N o = true) (kd bi : Bool)
    (hcl : kd = false → (cls S.P o.op o.type = 1 ∨ cls S.P o.op o.type = 2) → ∀ k, k < 16 → Clean (16 * (S.b + o.dst.getD 99999) + k) E σ) {K Kb : Env → Store → Prop} (hv : aop S kd bi o K Kb E σ)
    {n : Nat} {Kc : Act → World → Prop} {Q : Exit → Act → World → Prop} (hK : ∀ E' σ' a' w', K E' σ' → St C E' σ' a' w' → Kc a' w') (hKb : ∀ E' σ' a' w', Kb E' σ' → St C E' σ' a' w' → Kc a' w') : o.wpIn (FW C.rdl) n S.P a w Kc Q := by
  obtain ⟨hdst, hlow, hc9⟩ := fits_of hf
  have hdf := cls_defer hc9
  have hdst' : ∀ d, o.dst = some d → d < C.N := by rw [← H.N]; exact hdst
  have hdm : o.dst.getD 99999 < 100000 := by
    cases hd : o.dst with
    | none => simp
    | some d => exact Nat.lt_of_lt_of_le (hdst d hd) (Nat.le_trans H.big (by decide))
  unfold aop at hv
  split at hv
  · obtain ⟨v, hp, hk⟩ := hv
    obtain ⟨y, hr, hrep⟩ := pureV_sound h.inv h.env (by rw [h.size, ← H.N]; exact hlow) hp
    exact wpIn_value hdf hr (hK _ _ _ _ hk ⟨ρ, Im, M, h.put H.G hdst' hrep⟩)
  · rename_i hc
    obtain ⟨d, hd, v, bl, hn, hk⟩ := hv
    obtain ⟨ρ1, h1, hc1⟩ := kd_clean H h kd (S.b + d) (H.own (Nat.lt_of_lt_of_le (hdst d hd) (Nat.le_trans H.big (by decide)))) (fun e => by have := hcl e (.inl hc); rw [hd] at this; exact this)
    obtain ⟨y, w', ρ', hr, hw⟩ := newV_sound H.G h1 (H.free (Nat.lt_of_lt_of_le (hdst d hd) (Nat.le_trans H.big (by decide)))) (by simpa using hc1 0 (by omega)) (hc1 1 (by omega)) (hdst' d hd) hd (by rw [← H.N]; exact hlow) hn
    exact wpIn_value hdf hr (hK _ _ _ _ hk ⟨ρ', Im, M, hw⟩)
  · rename_i hc
    rcases hv with ⟨v, bl, hcall, hk⟩ | ⟨_, hy⟩ | ⟨_, hs⟩
    · obtain ⟨ρ1, h1, hc1⟩ := kd_clean H h kd (S.b + o.dst.getD 99999) (H.own hdm) (fun e => hcl e (.inr hc))
      exact callV_sound H h1 hf (H.free hdm) hc1 hcall fun y w' ρ' Im' hw => hK _ _ _ _ hk ⟨ρ', Im', M, hw⟩
    · exact yieldV_sound H h hf hy fun v g y w' M' hA hw => hKb _ _ _ _ hA ⟨ρ, Im, M', hw⟩
    · exact hs C H n a w Kc Q ⟨ρ, Im, M, h⟩ hKb
  · obtain ⟨d, hd, happ⟩ := hv
    obtain ⟨id, sz, m, k, y, w', ρ', hk, hr, hw⟩ := app_sound H.G h (hdst' d hd) hd (by rw [← H.N]; exact hlow) (appV_mono (fun _ _ _ _ hh => ⟨pin_none H hh.1, hh.2⟩) happ)
    exact wpIn_value hdf hr (hKb _ _ _ _ hk ⟨ρ', Im, M, hw⟩)
  · obtain ⟨id, k, w', hk, hr, hw⟩ := store_sound H.G h (by rw [← H.N]; exact hlow) hv
    exact wpIn_skip' hdf hr (hKb _ _ _ _ hk ⟨ρ, Im, M, hw.put H.G hdst' (.im _ _ (.v _))⟩)
  · exact hv C H n a w Kc Q ⟨ρ, Im, M, h⟩ hKb
  · exact hv.elim
theorem yielded_of (h : Wit C E σ a w ρ Im M) {ops : Array Oper} {j t : Nat} (ht : (ops[j]?).bind (·.dst) = some t) (hlt : t < C.N) {x : Value} (hx : E t = .v x) :
    yielded ops a.tmps j = match x with | .bool b => some b | _ => none := by
  have hs : t < a.tmps.size := by rw [h.size]; exact hlt
  have hv := h.env t a.tmps[t] (Array.getElem?_eq_getElem hs)
  rw [hx] at hv
  have hv := hv.v_inv
  unfold yielded
  rw [ht]
  simp only [Option.bind_some, Array.getElem?_eq_getElem hs, hv]
  cases x <;> rfl
def wpTurn (n : Nat) (P : Program) (r : Option Nat) (ops : Array Oper) (o : Oper) (K : Act → World → Prop) (Q : Exit → Act → World → Prop) (a : Act) (w : World) : Prop :=
  if Region.wanted o (yielded ops a.tmps) then o.wpIn (FW r) n P a w K Q else K (a.put o.dst undef) w
theorem wpTurn_in {n : Nat} {P : Program} {r : Option Nat} {ops : Array Oper} {i : Nat} {o : Oper} (ho : ops[i]? = some o) {K : Act → World → Prop} {Q : Exit → Act → World → Prop} {a : Act} {w : World}
    (h : wpTurn n P r ops o K Q a w) : wpOpIn (FW r) n P ops Q i K a w := by
  unfold wpOpIn wpTurn at *
  simp only [ho]
  split
  · rename_i hw; rw [if_pos hw] at h; exact h
  · rename_i hw; rw [if_neg hw] at h; exact ⟨fun _ _ => trivial, h⟩
theorem gop_sound (H : Holds S C) (h : Wit C E σ a w ρ Im M) {ops : Array Oper} (hall : ∀ (i : Nat) (o : Oper), ops[i]? = some o → Oper.fits S.P S.N o = true) {o : Oper} (hf : Oper.fits S.P S.N o = true) (kd bi : Bool)
    (hcl : kd = false → (cls S.P o.op o.type = 1 ∨ cls S.P o.op o.type = 2) → ∀ k, k < 16 → Clean (16 * (S.b + o.dst.getD 99999) + k) E σ) {K Kb : Env → Store → Prop} (hv : gop S kd bi ops o K Kb E σ)
    {n : Nat} {Kc : Act → World → Prop} {Q : Exit → Act → World → Prop} (hK : ∀ E' σ' a' w', K E' σ' → St C E' σ' a' w' → Kc a' w') (hKb : ∀ E' σ' a' w', Kb E' σ' → St C E' σ' a' w' → Kc a' w') : wpTurn n S.P C.rdl ops o Kc Q a w := by
  obtain ⟨hdst, _, _⟩ := fits_of hf
  have hdst' : ∀ d, o.dst = some d → d < C.N := by rw [← H.N]; exact hdst
  unfold gop at hv
  unfold wpTurn
  split at hv
  · rename_i hg
    rw [if_pos (by simp [Region.wanted, hg])]
    exact aop_sound H h hf kd bi hcl hv hK hKb
  · rename_i j want hg
    split at hv
    · exact hv.elim
    · rename_i t ht
      have htN : t < C.N := by
        cases hj : ops[j]? with
        | none => simp [hj] at ht
        | some oj => simp [hj] at ht; rw [← H.N]; exact (fits_of (hall j oj hj)).1 t ht
      split at hv
      · rename_i b hb
        have hy := yielded_of h ht htN hb
        simp only at hy
        by_cases hbw : b = want
        · subst hbw
          rw [if_pos (by simp [Region.wanted, hg, hy])]
          have hv1 := hv.1 rfl
          rw [upd_self E t _ hb] at hv1
          exact aop_sound H h hf kd bi hcl hv1 hK hKb
        · rw [if_neg (by simp [Region.wanted, hg, hy, hbw])]
          have hv2 := hv.2 (by cases b <;> cases want <;> simp_all)
          have hb' : E t = .v (.bool !want) := by rw [hb]; cases b <;> cases want <;> simp_all
          rw [upd_self E t _ hb'] at hv2
          exact hK _ _ _ _ hv2 ⟨ρ, Im, M, h.put H.G hdst' (.im _ _ (.v _))⟩
      · rename_i vs hb
        have hy := yielded_of h ht htN hb
        simp only at hy
        rw [if_neg (by simp [Region.wanted, hg, hy])]
        exact hK _ _ _ _ hv ⟨ρ, Im, M, h.put H.G hdst' (.im _ _ (.v _))⟩
      · exact hv.elim
theorem awpOps_sound (H : Holds S C) {ops : Array Oper} (hall : ∀ (i : Nat) (o : Oper), ops[i]? = some o → Oper.fits S.P S.N o = true) {n : Nat} {K : Env → Store → Prop} {Q : Exit → Act → World → Prop}
    (hK : ∀ E σ a w, K E σ → St C E σ a w → Q .normal a w) : ∀ (l : List Oper) (i : Nat) (E : Env) (σ : Store) (a : Act) (w : World), (∀ j, l[j]? = ops[i + j]?) → awpOps S false ops i l K E σ → St C E σ a w →
    wpOpsIn (FW C.rdl) n S.P ops Q (List.range' i l.length) a w
  | [], i, E, σ, a, w, _, hv, hs => hK E σ a w hv hs
  | o :: l, i, E, σ, a, w, hl, hv, hs => by
    have ho : ops[i]? = some o := by simpa using (hl 0).symm
    obtain ⟨ρ, Im, M, h⟩ := hs
    rw [List.length_cons, List.range'_succ, wpOpsIn_cons]
    have go : ∀ E' σ' a' w', awpOps S false ops (i + 1) l K E' σ' → St C E' σ' a' w' → wpOpsIn (FW C.rdl) n S.P ops Q (List.range' (i + 1) l.length) a' w' := fun E' σ' a' w' hk hs' =>
      awpOps_sound H hall hK l (i + 1) E' σ' a' w' (fun j => by have := hl (j + 1); simpa [Nat.add_assoc, Nat.add_comm 1 j] using this) hk hs'
    exact wpTurn_in ho (gop_sound H h hall (hall i o ho) true _ (fun e => by cases e) hv go fun E' σ' a' w' hk hs' => go E' σ' a' w' (by simpa [struck] using hk) hs')
theorem St.kill (hG : GStable C.G) (h : St C E σ a w) (p : Nat → Bool) (hp : ∀ id b, C.pin id = some b → p id = false) : St C (killE p E) (killS p σ) a w := by
  obtain ⟨ρ, Im, M, h⟩ := h
  exact ⟨_, Im, M, h.kill hG p hp⟩
theorem St.drew (hG : GStable C.G) (h : St C E σ a w) (n : Nat) : St C E σ a { w with drawn := n } := by
  obtain ⟨ρ, Im, M, h⟩ := h
  exact ⟨_, Im, M, h.drew hG n⟩
def DrawSound (S : Sp) (C : Fx) : Prop :=
  ∀ (ops : Array Oper), ops.toList.all (Oper.fits S.P S.N) = true → drawOK S.P ops = true → ∀ (n : Nat) (K : Env → Store → Prop) (Q : Exit → Act → World → Prop) (E : Env) (σ : Store) (a : Act) (w : World),
    (∀ E σ a w, K E σ → St C E σ a w → Q .normal a w) → struck S true ops.toList (awpOps S true ops 0 ops.toList K) E σ → St C E σ a w →
    ∀ id, (Code.region id ops true).wpIn (FW C.rdl) n S.P Q a w
theorem stepR_scope {P : Program} {b : Frame} {a : Act} {k : List Item} {cs : List Frame} {w : World} {c : Code} : step P (lone (b.atR a (.code (.scope c) :: k)) cs w) = .next (lone (b.atR a (.code c :: .inScope c :: k)) cs w) :=
  step_lone_go (by simp [stepG, stepG.exec, Frame.atR])
theorem stepR_inScope {P : Program} {b : Frame} {a : Act} {k : List Item} {cs : List Frame} {w : World} {c : Code} : step P (lone (b.atR a (.inScope c :: k)) cs w) = .next (lone (b.atR a k) cs w) :=
  step_lone_go (by simp [stepG, stepG.exec, Frame.atR])
theorem wpIn_scope_straight {F : Fence} {n : Nat} {P : Program} {Q : Exit → Act → World → Prop} {a : Act} {w : World} {c : Code} (h : c.wpIn F n P (Exit.noGoto Q) a w) : (Code.scope c).wpIn F n P Q a w := by
  intro b k cs hro hb hr
  have h0 : (lone (b.atR a (.code (.scope c) :: k)) cs w).fenced P F := fenced_calm hb hr rfl
  obtain ⟨e, a₁, w₁, hq, harr⟩ := h b (.inScope c :: k) cs hro hb hr
  cases e with
  | normal => exact ⟨.normal, a₁, w₁, hq, .head h0 stepR_scope (StepsIn.trans harr (.one (fenced_calm hb hr rfl) stepR_inScope))⟩
  | exit id =>
    have hx : exitTo id (.inScope c :: k) = exitTo id k := by simp [exitTo]
    exact ⟨.exit id, a₁, w₁, hq, fun k' hk => .head h0 stepR_scope (harr.1 k' (by rw [hx]; exact hk)),
      fun hr' hk => let ⟨k₁, h1, h2⟩ := harr.2 hr' (by rw [hx]; exact hk); ⟨k₁, h1, .head h0 stepR_scope h2⟩⟩
  | goto l => exact hq.elim
  | ret => exact ⟨_, a₁, w₁, hq, .of_steps (.one h0 stepR_scope) harr⟩
  | panic ch => exact ⟨_, a₁, w₁, hq, .of_steps (.one h0 stepR_scope) harr⟩
  | outgrown => exact ⟨_, a₁, w₁, hq, .of_steps (.one h0 stepR_scope) harr⟩
theorem awp_sound (H : Holds S C) (HD : DrawSound S C) {n : Nat} : ∀ (c : Code) (Q : Exit → Env → Store → Prop) (E : Env) (σ : Store), codeOK S.P S.N S.bad c = true → awp S c Q E σ →
    ∀ (R : Exit → Act → World → Prop), (∀ e E σ a w, Q e E σ → St C E σ a w → R e a w) → ∀ a w, St C E σ a w → c.wpIn (FW C.rdl) n S.P R a w := by
  intro c
  induction c with
  | skip => intro Q E σ _ hv R hR a w hs; exact wpIn_skip (hR _ _ _ _ _ hv hs)
  | label l => intro Q E σ _ hv R hR a w hs; exact wpIn_label (hR _ _ _ _ _ hv hs)
  | seq x y ihx ihy =>
    intro Q E σ hok hv R hR a w hs
    simp only [codeOK, Bool.and_eq_true] at hok
    refine wpIn_seq (ihx _ E σ hok.1 hv _ (fun e E' σ' a' w' hq hs' => ?_) a w hs)
    cases e with
    | normal => exact ihy Q E' σ' hok.2 hq R hR a' w' hs'
    | exit id => exact hR _ _ _ _ _ hq hs'
    | goto l => exact hR _ _ _ _ _ hq hs'
    | ret => exact hR _ _ _ _ _ hq hs'
    | panic ch => exact hR _ _ _ _ _ hq hs'
    | outgrown => exact hR _ _ _ _ _ hq hs'
  | region id ops draw =>
    intro Q E σ hok hv R hR a w hs
    simp only [codeOK, Bool.and_eq_true, Bool.or_eq_true, Bool.not_eq_true'] at hok
    simp only [awp] at hv
    by_cases hbad : S.bad id = true
    · rw [if_pos hbad] at hv
      exact hv C H n R hR a w hs
    rw [if_neg hbad] at hv
    have hfit : ops.toList.all (Oper.fits S.P S.N) = true := hok.1.resolve_left hbad
    have hall : ∀ (i : Nat) (o : Oper), ops[i]? = some o → Oper.fits S.P S.N o = true := fun i o ho => List.all_eq_true.1 hfit o (Array.mem_toList_iff.2 (Array.mem_of_getElem? ho))
    cases draw with
    | false =>
      simp only [struck, Bool.false_eq_true, if_false] at hv
      refine wpIn_region ?_
      have := awpOps_sound H hall (n := n) (Q := R) (fun E σ a w hk hs => hR .normal E σ a w hk hs) ops.toList 0 E σ a w (by simp) hv hs
      rw [Array.length_toList, ← List.range_eq_range'] at this
      exact this
    | true =>
      exact HD ops hfit (by have h := hok.2; simp [hbad] at h; exact h) n (Q .normal) R E σ a w (fun E σ a w hk hs => hR .normal E σ a w hk hs) hv hs id
  | cond c x y ihx ihy =>
    intro Q E σ hok hv R hR a w hs
    simp only [codeOK, Bool.and_eq_true] at hok
    simp only [awp] at hv
    split at hv
    · rename_i b hb
      have hc : a.eval c = .bool b := by
        obtain ⟨ρ, Im, M, h⟩ := hs
        have hr := ev_rep h.env (x := c) (by rw [h.size, ← H.N]; exact hok.1.1)
        rw [hb] at hr; exact hr.v_inv
      exact wpIn_cond_split hc (fun e => ihx Q E σ hok.1.2 (hv.1 e) R hR a w hs) (fun e => ihy Q E σ hok.2 (hv.2 e) R hR a w hs)
    · exact hv.elim
  | block id c ih =>
    intro Q E σ hok hv R hR a w hs
    refine wpIn_block (ih _ E σ hok hv _ (fun e E' σ' a' w' hq hs' => ?_) a w hs)
    cases e with
    | exit id' =>
      simp only [blockQ] at hq
      simp only [Exit.inBlock]
      split
      · rename_i he; rw [if_pos he] at hq; exact hR _ _ _ _ _ hq hs'
      · rename_i he; rw [if_neg he] at hq; exact hR _ _ _ _ _ hq hs'
    | normal => exact hR _ _ _ _ _ hq hs'
    | goto l => exact hR _ _ _ _ _ hq hs'
    | ret => exact hR _ _ _ _ _ hq hs'
    | panic ch => exact hR _ _ _ _ _ hq hs'
    | outgrown => exact hR _ _ _ _ _ hq hs'
  | loop c ih =>
    intro Q E σ hok hv R hR a w hs
    obtain ⟨I, μ, h0, hround⟩ := hv
    -- the loop's relation on real states: some abstract state that it stands for; the measure bounds the rounds to come
    intro b k cs hro hb hr
    have key : ∀ m E σ a w, μ E σ = m → I E σ → St C E σ a w →
        ∃ e a' w', R e a' w' ∧ ArrivesIn (Machine.fenced S.P (FW C.rdl)) S.P (lone (b.atR a (.code c :: .inLoop c :: k)) cs w) b k cs e a' w' := by
      intro m
      induction m using Nat.strongRecOn with
      | _ m ihm =>
        intro E σ a w hm hI hs
        have hw := ih (thenQ (fun E' σ' => I E' σ' ∧ μ E' σ' < μ E σ) Q) E σ hok (hround E σ hI)
          (fun e a' w' => match e with | .normal => ∃ E' σ', (I E' σ' ∧ μ E' σ' < μ E σ) ∧ St C E' σ' a' w' | e => R e a' w')
          (fun e E' σ' a' w' hq hs' => by
            cases e with
            | normal => exact ⟨E', σ', hq, hs'⟩
            | exit id => exact hR _ _ _ _ _ hq hs'
            | goto l => exact hR _ _ _ _ _ hq hs'
            | ret => exact hR _ _ _ _ _ hq hs'
            | panic ch => exact hR _ _ _ _ _ hq hs'
            | outgrown => exact hR _ _ _ _ _ hq hs') a w hs
        obtain ⟨e, a₁, w₁, hq, harr⟩ := hw b (.inLoop c :: k) cs hro hb hr
        cases e with
        | normal =>
          obtain ⟨E', σ', ⟨hI', hlt⟩, hs'⟩ := hq
          obtain ⟨e₂, a₂, w₂, hq₂, harr₂⟩ := ihm (μ E' σ') (hm ▸ hlt) E' σ' a₁ w₁ rfl hI' hs'
          exact ⟨e₂, a₂, w₂, hq₂, .of_steps (StepsIn.trans harr (.one (fenced_calm hb hr rfl) stepR_inLoop)) harr₂⟩
        | exit id => exact ⟨_, a₁, w₁, hq, .pass (x := .inLoop c) rfl (fun _ _ => .inl (by simp)) harr⟩
        | goto l => exact ⟨_, a₁, w₁, hq, .pass (x := .inLoop c) rfl (fun _ _ => .inl (by simp)) harr⟩
        | ret => exact ⟨_, a₁, w₁, hq, .pass (x := .inLoop c) rfl (fun _ _ => .inl (by simp)) harr⟩
        | panic ch => exact ⟨_, a₁, w₁, hq, .pass (x := .inLoop c) rfl (fun _ _ => .inl (by simp)) harr⟩
        | outgrown => exact ⟨_, a₁, w₁, hq, .pass (x := .inLoop c) rfl (fun _ _ => .inl (by simp)) harr⟩
    obtain ⟨e, a', w', hq, harr⟩ := key _ E σ a w rfl h0 hs
    exact ⟨e, a', w', hq, .of_steps (.one (fenced_calm hb hr rfl) stepR_loop) harr⟩
  | rangeFunc f ps as body iha ihb => intro Q E σ _ hv R hR a w hs; exact hv C H n R hR a w hs
  | exit id => intro Q E σ _ hv R hR a w hs; exact wpIn_exit (hR _ _ _ _ _ hv hs)
  | scope c ih =>
    intro Q E σ hok hv R hR a w hs
    refine wpIn_scope_straight (ih (scopeQ Q) E σ hok hv _ (fun e E' σ' a' w' hq hs' => ?_) a w hs)
    cases e with
    | goto l => exact hq
    | normal => exact hR _ _ _ _ _ hq hs'
    | exit id => exact hR _ _ _ _ _ hq hs'
    | ret => exact hR _ _ _ _ _ hq hs'
    | panic ch => exact hR _ _ _ _ _ hq hs'
    | outgrown => exact hR _ _ _ _ _ hq hs'
  | goto l => intro Q E σ hok; simp [codeOK] at hok
  | ret => intro Q E σ _ hv R hR a w hs; exact wpIn_ret (hR _ _ _ _ _ hv hs)
  | refuse why => intro Q E σ hok hv; exact hv.elim
end
end Go.Vai
namespace Go.Vai
open Go.RowKit
section
variable {P : Program} {S : Sp} {C : Fx} {E E' : Env} {σ σ' : Store} {a : Act} {w : World} {ρ : Nat → Option Nat} {Im : Nat → Prop} {M : Str}
theorem cellsAt_congr {x : AV} {K : List AV → Nat → Prop} (hc : ∀ id, Names x id → σ' id = σ id) (h : cellsAt σ x K) : cellsAt σ' x K := by
  unfold cellsAt at *
  split at h
  · exact h
  · rename_i id sz i j
    obtain ⟨k, hk, r⟩ := h
    exact ⟨k, by rw [hc id (.ptr ..)]; exact hk, r⟩
  · exact h
theorem bound_congr {x : Option Operand} {d : Nat} {K : Nat → Prop} (h : ∀ y, x = some y → ev E y = ev E' y) (hb : bound E x d K) : bound E' x d K := by
  unfold bound at *
  split at hb
  · exact hb
  · rename_i y; rw [← h y rfl]; exact hb
theorem bound_mono {x : Option Operand} {d : Nat} {K K' : Nat → Prop} (hK : ∀ n, K n → K' n) (hb : bound E x d K) : bound E x d K' := by
  cases x with
  | none => exact hK _ hb
  | some y =>
    unfold bound at *
    simp only at *
    split at hb
    · rename_i h; first | (rw [h]; exact ⟨hb.1, hK _ hb.2⟩) | exact ⟨hb.1, hK _ hb.2⟩
    · exact hb.elim
theorem pureV_congr {op : Op} {r : AV} (h : ∀ x ∈ op.operands, ev E x = ev E' x) (hc : ∀ x ∈ op.operands, ∀ id, Names (ev E x) id → σ' id = σ id) (hv : pureV P op E σ r) : pureV P op E' σ' r := by
  have pairs : ∀ parts : Array (Nat × Operand), (∀ p ∈ parts.toList, ev E p.2 = ev E' p.2) → (parts.toList.map fun p => (p.1, ev E p.2)) = parts.toList.map fun p => (p.1, ev E' p.2) := fun parts hp =>
    List.map_congr_left fun p hm => by rw [hp p hm]
  unfold pureV at hv
  split at hv
  · rename_i x; simp only [pureV]; rw [← h x (by simp [Op.operands])]; exact hv
  · rename_i x; simp only [pureV]; rw [← h x (by simp [Op.operands])]; exact hv
  · rename_i c x y; simp only [pureV]; rw [← h x (by simp [Op.operands]), ← h y (by simp [Op.operands]), ← h c (by simp [Op.operands])]; exact hv
  · rename_i t x; simp only [pureV]; rw [← h x (by simp [Op.operands])]; exact cellsAt_congr (hc x (by simp [Op.operands])) hv
  · rename_i x; simp only [pureV]; rw [← h x (by simp [Op.operands])]; exact hv
  · rename_i o t x y _; simp only [pureV]; rw [← h x (by simp [Op.operands]), ← h y (by simp [Op.operands])]; exact hv
  · rename_i t parts; simp only [pureV]; rw [← pairs parts fun p hp => h p.2 (by simp [Op.operands]; exact ⟨p.1, by simpa using hp⟩)]; exact hv
  · rename_i o _ x; simp only [pureV]; rw [← h x (by simp [Op.operands])]; exact hv
  · rename_i s t x; simp only [pureV]; rw [← h x (by simp [Op.operands])]; exact hv
  · rename_i f first cs; simp only [pureV]
    have hm1 : cs.toList.map (ev E) = cs.toList.map (ev E') := List.map_congr_left fun x hx => h x (by simp [Op.operands]; exact .inr (by simpa using hx))
    have hm2 : first.toList.map (ev E) = first.toList.map (ev E') := List.map_congr_left fun x hx => h x (by simp [Op.operands]; exact .inl (by simpa using hx))
    first | (rw [← hm1, ← hm2]; exact hv) | (rw [hm1, hm2]; exact hv) | (rw [hm1, hm2] at hv; exact hv)
  · rename_i s x f; simp only [pureV]; rw [← h x (by simp [Op.operands])]; exact hv
  · rename_i s x f; simp only [pureV]; rw [← h x (by simp [Op.operands])]; exact hv
  · rename_i t x i; simp only [pureV]; rw [← h x (by simp [Op.operands]), ← h i (by simp [Op.operands])]; exact hv
  · rename_i t x i; simp only [pureV]; rw [← h x (by simp [Op.operands]), ← h i (by simp [Op.operands])]; exact hv
  · rename_i x i; simp only [pureV]; rw [← h x (by simp [Op.operands])]; exact hv
  · rename_i t x lo hi
    have hb : ∀ {d K}, bound E hi d K → bound E' hi d K := fun hb => bound_congr (fun y hy => h y (by subst hy; simp [Op.operands])) hb
    have hb' : ∀ {d K}, bound E lo d K → bound E' lo d K := fun hb => bound_congr (fun y hy => h y (by subst hy; simp [Op.operands])) hb
    have mono : ∀ {x : Option Operand} {d : Nat} {K K' : Nat → Prop}, (∀ n, K n → K' n) → bound E x d K → bound E x d K' := fun hK hb => bound_mono hK hb
    simp only [pureV]; rw [← h x (by simp [Op.operands])]
    rcases hv with ⟨e, h1, n, h2, h3⟩ | ⟨h1, n, h2, h3⟩
    · exact .inl ⟨e, h1, n, h2, hb (mono (fun _ => hb') h3)⟩
    · exact .inr ⟨h1, n, h2, hb (mono (fun _ => hb') h3)⟩
  · rename_i args ats
    simp only [pureV]
    split at hv
    · rename_i x t ha ht
      have hm : x ∈ args := Array.mem_toList_iff.1 (by rw [ha]; simp)
      have hx := h x (by simp [Op.operands, Call.operands, hm])
      simp only [ha, ht, ← hx]; exact hv
    · exact hv.elim
  · rename_i args ats
    simp only [pureV]
    rw [← List.map_congr_left (f := ev E) (g := ev E') fun x hx => h x (by simp [Op.operands, Call.operands]; simpa using hx)]; exact hv
  · rename_i args ats
    simp only [pureV]
    rw [← List.map_congr_left (f := ev E) (g := ev E') fun x hx => h x (by simp [Op.operands, Call.operands]; simpa using hx)]; exact hv
  · rename_i args ats
    simp only [pureV]
    rw [← List.map_congr_left (f := ev E) (g := ev E') fun x hx => h x (by simp [Op.operands, Call.operands]; simpa using hx)]; exact hv
  · exact hv.elim
inductive DN : AV → Nat → Prop
  | own (id sz i n : Nat) : DN (.own id sz i n) id
  | ptr (id sz i j : Nat) : DN (.ptr id sz i j) id
  | mref (id : Nat) : DN (.mref id) id
  | agg (cs : List AV) (c : AV) (id : Nat) (hc : c ∈ cs) (h : DN c id) : DN (.agg cs) id
  | tup (cs : List AV) (c : AV) (id : Nat) (hc : c ∈ cs) (h : DN c id) : DN (.tup cs) id
  | clo (g : Nat) (cs : List AV) (c : AV) (id : Nat) (hc : c ∈ cs) (h : DN c id) : DN (.clo g cs) id
  | sl (g : Nat) (cs : List AV) (c : AV) (id : Nat) (hc : c ∈ cs) (h : DN c id) : DN (.sl g cs) id
  | cut (g : Nat) (cs : List AV) (c : AV) (id : Nat) (hc : c ∈ cs) (h : DN c id) : DN (.cut g cs) id
  | mp (cs : List AV) (c : AV) (id : Nat) (hc : c ∈ cs) (h : DN c id) : DN (.mp cs) id
  | pt (e : AV) (j id : Nat) (h : DN e id) : DN (.pt e j) id
  | new (g s : Nat) (cs : List AV) (c : AV) (id : Nat) (hc : c ∈ cs) (h : DN c id) : DN (.new g s cs) id
  | nptr (g s : Nat) (cs : List AV) (c : AV) (id : Nat) (hc : c ∈ cs) (h : DN c id) : DN (.nptr g s cs) id
theorem DN.of {a : AV} {d : Nat} (h : Names a d) : DN a d := by
  induction h with
  | own => exact .own ..
  | ptr => exact .ptr ..
  | mref => exact .mref ..
  | agg cs c id hc _ ih => exact .agg cs c id hc ih
  | tup cs c id hc _ ih => exact .tup cs c id hc ih
  | clo g cs c id hc _ ih => exact .clo g cs c id hc ih
theorem dnL_iff (cs : List AV) : AV.dnL cs = true ↔ ∃ c ∈ cs, c.dn = true := by
  induction cs with
  | nil => simp [AV.dnL]
  | cons c cs ih => simp [AV.dnL, ih]
theorem DN.dn {a : AV} {d : Nat} (h : DN a d) : a.dn = true := by
  induction h with
  | own => rfl
  | ptr => rfl
  | mref => rfl
  | pt e j id _ ih => exact ih
  | _ => simp only [AV.dn]; exact (dnL_iff _).2 ⟨_, by assumption, by assumption⟩
theorem DN.cells {v c : AV} {id : Nat} (hc : c ∈ v.cells) (h : DN c id) : DN v id := by
  cases v with
  | agg cs => exact .agg cs c id hc h
  | _ => simp only [AV.cells, List.mem_singleton] at hc; subst hc; exact h
theorem DN.cell {v : AV} {id : Nat} (h : DN v id) : ∃ c ∈ v.cells, DN c id := by
  cases v with
  | agg cs => cases h with | agg _ c _ hc h => exact ⟨c, hc, h⟩
  | _ => exact ⟨_, by simp [AV.cells], h⟩
theorem IRep.dnless {x : AV} {y : Value} (h : IRep w Im x y) (id : Nat) : ¬ DN x id := by
  induction h with
  | agg cs ys hl _ _ ih => intro hn; cases hn with | agg _ c _ hc hn =>
      obtain ⟨j, hj⟩ := List.mem_iff_getElem?.1 hc
      have hlt := (List.getElem?_eq_some_iff.1 hj).1
      exact ih j c _ hj (List.getElem?_eq_getElem (hl ▸ hlt)) hn
  | tup cs ys hl _ ih => intro hn; cases hn with | tup _ c _ hc hn =>
      obtain ⟨j, hj⟩ := List.mem_iff_getElem?.1 hc
      have hlt := (List.getElem?_eq_some_iff.1 hj).1
      exact ih j c _ hj (List.getElem?_eq_getElem (hl ▸ hlt)) hn
  | clo g cs ys hl _ ih => intro hn; cases hn with | clo _ _ c _ hc hn =>
      obtain ⟨j, hj⟩ := List.mem_iff_getElem?.1 hc
      have hlt := (List.getElem?_eq_some_iff.1 hj).1
      exact ih j c _ hj (List.getElem?_eq_getElem (hl ▸ hlt)) hn
  | sl sz es b o cap f hIm hcap hsz hcc _ ih => intro hn; cases hn with | sl _ _ e _ he hn =>
      obtain ⟨c, hc, hn⟩ := hn.cell
      obtain ⟨i, hi⟩ := List.mem_iff_getElem?.1 he
      obtain ⟨j, hj⟩ := List.mem_iff_getElem?.1 hc
      exact ih i e j c hi hj hn
  | slnil sz a cap => intro hn; cases hn with | sl _ _ e _ he hn => simp at he
  | cut sz es a _ ih => intro hn; cases hn with | cut _ _ e _ he hn => exact ih (.sl _ _ e _ he hn)
  | mpnil => intro hn; cases hn with | mp _ e _ he hn => simp at he
  | mp es b ents clk f hIm hb hl hes _ ih => intro hn; cases hn with | mp _ e _ he hn =>
      obtain ⟨i, hi⟩ := List.mem_iff_getElem?.1 he
      have hlt : i < ents.size := by rw [← hl.1]; exact (List.getElem?_eq_some_iff.1 hi).1
      have h1 := hes i _ (Array.getElem?_eq_getElem hlt)
      rw [hi] at h1; cases h1
      cases hn with | tup _ c _ hc hn =>
        simp at hc
        rcases hc with rfl | rfl
        · cases hn
        · exact ih i _ (Array.getElem?_eq_getElem hlt) hn
  | pt e j b o f hIm hcc _ ih => intro hn; cases hn with | pt _ _ _ hn =>
      obtain ⟨c, hc, hn⟩ := hn.cell
      obtain ⟨j, hj⟩ := List.mem_iff_getElem?.1 hc
      exact ih j c hj hn
  | _ => intro hn; cases hn
theorem Rep.dn {x : AV} {y : Value} {d : Nat} (h : Rep w ρ Im x y) (hn : DN x d) : Names x d := by
  induction h with
  | im a y h => exact absurd hn (h.dnless d)
  | agg cs ys hl _ _ ih => cases hn with | agg _ c _ hc hn =>
      obtain ⟨j, hj⟩ := List.mem_iff_getElem?.1 hc
      have hlt := (List.getElem?_eq_some_iff.1 hj).1
      exact .agg cs c d hc (ih j c _ hj (List.getElem?_eq_getElem (hl ▸ hlt)) hn)
  | tup cs ys hl _ ih => cases hn with | tup _ c _ hc hn =>
      obtain ⟨j, hj⟩ := List.mem_iff_getElem?.1 hc
      have hlt := (List.getElem?_eq_some_iff.1 hj).1
      exact .tup cs c d hc (ih j c _ hj (List.getElem?_eq_getElem (hl ▸ hlt)) hn)
  | clo g cs ys hl _ ih => cases hn with | clo _ _ c _ hc hn =>
      obtain ⟨j, hj⟩ := List.mem_iff_getElem?.1 hc
      have hlt := (List.getElem?_eq_some_iff.1 hj).1
      exact .clo g cs c d hc (ih j c _ hj (List.getElem?_eq_getElem (hl ▸ hlt)) hn)
  | ownNil => cases hn; exact .own ..
  | own => cases hn; exact .own ..
  | ownAt => cases hn; exact .own ..
  | ptr => cases hn; exact .ptr ..
  | mref => cases hn; exact .mref ..
theorem partOf_names {t : TypeId} {cs : List AV} {off d : Nat} {r : AV} (h : partOf P t cs off r) (hn : DN r d) : ∃ c ∈ cs, DN c d := by
  unfold partOf at h
  split at h
  · obtain ⟨_, _, rfl⟩ := h
    cases hn with | agg _ c _ hc hn => exact ⟨c, List.mem_of_mem_drop (List.mem_of_mem_take hc), hn⟩
  · exact ⟨r, List.mem_of_getElem? h, hn⟩
  · exact h.elim
theorem slIdx_names {e : TypeId} {x r : AV} {n : Int} {d : Nat} (h : slIdx P e x n r) (hn : DN r d) : DN x d := by
  unfold slIdx at h
  split at h
  · obtain ⟨_, _, _, c, hc, rfl⟩ := h; cases hn with | pt _ _ _ hn => exact .sl _ _ c d (List.mem_of_getElem? hc) hn
  · obtain ⟨_, _, _, _, rfl⟩ := h; cases hn; exact .own ..
  · exact h.elim
theorem slCut_names {e : TypeId} {x r : AV} {l m : Nat} {d : Nat} (h : slCut P e x l m r) (hn : DN r d) : DN x d := by
  unfold slCut at h
  split at h
  · obtain ⟨_, _, _, _, rfl⟩ := h; cases hn with | sl _ _ c _ hc hn => exact .sl _ _ c d (List.mem_of_mem_drop (List.mem_of_mem_take hc)) hn
  · obtain ⟨_, _, _, _, rfl⟩ := h; cases hn; exact .own ..
  · exact h.elim
theorem bound_some {x : Option Operand} {d : Nat} {K : Nat → Prop} (h : bound E x d K) : ∃ n, K n := by
  unfold bound at h
  split at h
  · exact ⟨_, h⟩
  · split at h
    · exact ⟨_, h.2⟩
    · exact h.elim
theorem ofC_dn {x : Value} {id : Nat} (h : DN (ofC x) id) : False := by
  unfold ofC at h
  split at h
  · split at h
    · cases h with | agg _ c _ hc h => obtain ⟨y, _, rfl⟩ := List.mem_map.1 hc; cases h
    · cases h
  · cases h with | tup _ c _ hc h => obtain ⟨y, _, rfl⟩ := List.mem_map.1 hc; cases h
  · cases h
theorem fillA_names {place : Nat → Option (Nat × Nat)} {d : Nat} : ∀ (l : List (Nat × AV)) (cs cs' : List AV), fillA place cs l = some cs' → ∀ c ∈ cs', DN c d → (∃ c ∈ cs, DN c d) ∨ ∃ p ∈ l, DN p.2 d
  | [], cs, cs', h, c, hc, hn => by simp [fillA] at h; subst h; exact .inl ⟨c, hc, hn⟩
  | (i, v) :: l, cs, cs', h, c, hc, hn => by
    simp only [fillA] at h
    split at h
    · cases h
    · split at h
      · rcases fillA_names l _ cs' h c hc hn with ⟨c', hc', hn'⟩ | ⟨p, hp, hn'⟩
        · simp only [List.mem_append] at hc'
          rcases hc' with (hc' | hc') | hc'
          · exact .inl ⟨c', List.mem_of_mem_take hc', hn'⟩
          · exact .inr ⟨(i, v), by simp, DN.cells hc' hn'⟩
          · exact .inl ⟨c', List.mem_of_mem_drop hc', hn'⟩
        · exact .inr ⟨p, by simp [hp], hn'⟩
      · cases h
theorem pureV_names {op : Op} {r : AV} {d : Nat} (hev : ∀ x ∈ op.operands, ¬ DN (ev E x) d) (hst : ∀ id k, σ id = some k → ∀ e ∈ k.es, ¬ DN e d) (hv : pureV P op E σ r) : ¬ DN r d := fun hn => by
  have bi : ∀ {op k m k' n r}, binI op k m k' n r → ¬ DN r d := fun {op k m k' n r} h hn => by
    unfold binI at h; split at h <;> (first | (obtain ⟨_, rfl⟩ := h) | (obtain ⟨_, _, rfl⟩ := h)) <;> cases hn
  have bs : ∀ {op m n r}, binS op m n r → ¬ DN r d := fun {op m n r} h hn => by
    unfold binS at h; split at h <;> first | exact h.elim | (subst h; cases hn) | (obtain ⟨_, rfl⟩ := h; cases hn)
  unfold pureV at hv
  split at hv
  · subst hv; exact hev _ (by simp [Op.operands]) hn
  · subst hv; exact hev _ (by simp [Op.operands]) hn
  · split at hv
    · subst hv; split at hn <;> exact hev _ (by simp [Op.operands]) hn
    · exact hv.elim
  · rename_i t x
    unfold cellsAt at hv
    split at hv
    · rename_i e j hx
      obtain ⟨c, hc, hcn⟩ := partOf_names hv hn
      exact hev x (by simp [Op.operands]) (by rw [hx]; exact .pt e j d (hcn.cells hc))
    · obtain ⟨k, hk, _, e, he, hp⟩ := hv
      obtain ⟨c, hc, hcn⟩ := partOf_names hp hn
      exact hst _ k hk e (List.mem_of_getElem? he) (DN.cells hc hcn)
    · exact hv.elim
  · rename_i x
    split at hv
    · rename_i hx; subst hv; exact hev x (by simp [Op.operands]) (hx ▸ hn)
    · rename_i hx; subst hv; exact hev x (by simp [Op.operands]) (hx ▸ hn)
    · rename_i hx; subst hv; exact hev x (by simp [Op.operands]) (hx ▸ hn)
    · exact hv.elim
  · split at hv
    · exact bi hv hn
    · exact bs hv hn
    · obtain ⟨_, ⟨_, rfl⟩ | ⟨_, rfl⟩⟩ := hv <;> cases hn
    · obtain ⟨_, _, _, _, ⟨_, rfl⟩ | ⟨_, rfl⟩⟩ := hv <;> cases hn
    · obtain ⟨_, _, ⟨_, rfl⟩ | ⟨_, rfl⟩⟩ := hv <;> cases hn
    · exact hv.elim
  · rename_i t parts
    obtain ⟨z, hz, _, ⟨fs, _, _, cs, hf, rfl⟩ | ⟨m, e, _, _, cs, hf, rfl⟩⟩ := hv
    all_goals
      cases hn with | agg _ c _ hc hn =>
        rcases fillA_names _ _ _ hf c hc hn with ⟨c', hc', hn'⟩ | ⟨p, hp, hn'⟩
        · exact ofC_dn (DN.cells hc' hn')
        · obtain ⟨q, hq, rfl⟩ := List.mem_map.1 hp; exact hev _ (by simp [Op.operands]; exact ⟨q.1, by simpa using hq⟩) hn'
  · split at hv
    · subst hv; cases hn
    · subst hv; cases hn
    · subst hv; cases hn
    · exact hv.elim
  · split at hv
    · obtain ⟨_, rfl⟩ := hv; cases hn
    · exact hv.elim
  · rcases hv with ⟨_, _, rfl⟩ | ⟨_, rfl⟩
    · cases hn with | clo _ _ c _ hc hn => obtain ⟨x, hx, rfl⟩ := List.mem_map.1 hc; exact hev _ (by simp [Op.operands]; exact .inr (by simpa using hx)) hn
    · cases hn with | clo _ _ c _ hc hn =>
        rcases List.mem_cons.1 hc with rfl | hc
        · cases hn
        · obtain ⟨x, hx, rfl⟩ := List.mem_map.1 hc; exact hev _ (by simp [Op.operands]; exact .inl (by simpa using hx)) hn
  · rename_i s x f
    obtain ⟨_, _, off, t, _, _, hv⟩ := hv
    split at hv
    · rename_i hx; subst hv; cases hn with | pt _ _ _ hn => exact hev x (by simp [Op.operands]) (hx ▸ .pt _ _ _ hn)
    · rename_i hx; subst hv; cases hn; exact hev x (by simp [Op.operands]) (hx ▸ .ptr ..)
    · exact hv.elim
  · rename_i s x f
    obtain ⟨_, _, off, t, _, hv⟩ := hv
    split at hv
    · rename_i hx
      obtain ⟨c, hc, hcn⟩ := partOf_names hv hn
      exact hev x (by simp [Op.operands]) (hx ▸ .agg _ c _ hc hcn)
    · exact hv.elim
  · rename_i t x i
    split at hv
    · rcases hv with ⟨e, _, hv⟩ | ⟨m, e, _, _, _, _, hv⟩
      · exact hev x (by simp [Op.operands]) (slIdx_names hv hn)
      · split at hv
        · rename_i hx; subst hv; cases hn with | pt _ _ _ hn => exact hev x (by simp [Op.operands]) (hx ▸ .pt _ _ _ hn)
        · rename_i hx; subst hv; cases hn; exact hev x (by simp [Op.operands]) (hx ▸ .ptr ..)
        · exact hv.elim
    · exact hv.elim
  · rename_i t x i
    split at hv
    · obtain ⟨_, _, c, _, rfl⟩ := hv; cases hn
    · rename_i hx
      obtain ⟨m, e, _, _, _, _, hv⟩ := hv
      obtain ⟨c, hc, hcn⟩ := partOf_names hv hn
      exact hev x (by simp [Op.operands]) (hx ▸ .agg _ c _ hc hcn)
    · exact hv.elim
  · rename_i x i
    split at hv
    · rename_i vs hx; exact hev x (by simp [Op.operands]) (hx ▸ .tup _ r _ (List.mem_of_getElem? hv) hn)
    · exact hv.elim
  · rename_i t x lo hi
    rcases hv with ⟨e, h1, n, h2, h3⟩ | ⟨h1, n, h2, h3⟩
    · obtain ⟨_, h3⟩ := bound_some h3
      obtain ⟨_, h3⟩ := bound_some h3
      exact hev x (by simp [Op.operands]) (slCut_names h3 hn)
    · obtain ⟨_, h3⟩ := bound_some h3
      obtain ⟨_, h3⟩ := bound_some h3
      unfold strCut at h3
      split at h3
      · obtain ⟨_, _, rfl⟩ := h3; cases hn
      · exact h3.elim
  · split at hv
    · rcases hv with ⟨_, hv⟩ | ⟨_, hv⟩ | ⟨_, _, _, rfl⟩
      · split at hv <;> first | exact hv.elim | (subst hv; cases hn)
      · split at hv <;> first | exact hv.elim | (subst hv; cases hn)
      · cases hn
    · exact hv.elim
  · split at hv <;> first | exact hv.elim | (subst hv; cases hn)
  · split at hv <;> first | exact hv.elim | (subst hv; cases hn)
  · rename_i args ats
    split at hv
    · rename_i id sz n hx
      obtain ⟨_, rfl⟩ := hv
      cases hn
      obtain ⟨l⟩ := args
      rcases l with _ | ⟨x, _ | ⟨y, l⟩⟩
      · simp at hx
      · simp only [List.map_cons, List.map_nil, List.cons.injEq, and_true] at hx
        exact hev x (by simp [Op.operands, Call.operands]) (hx ▸ .own ..)
      · simp at hx
    · exact hv.elim
  · exact hv.elim
end
end Go.Vai
namespace Go.Vai
open Go.RowKit
section
variable {P : Program} {S : Sp} {C : Fx} {E E' : Env} {σ σ' : Store} {a : Act} {w : World} {ρ : Nat → Option Nat} {Im : Nat → Prop} {M : Str}
theorem newV_congr {nm : Nat} {op : Op} {ty : TypeId} {r : AV} {bl : List (Nat × Blk)} (h : ∀ x ∈ op.operands, ev E x = ev E' x) (hv : newV P nm op ty E r bl) : newV P nm op ty E' r bl := by
  unfold newV at hv
  split at hv
  · exact hv
  · exact hv
  · exact hv
  · rename_i t x; simp only [newV]; rw [← h x (by simp [Op.operands])]; exact hv
  · rename_i t len parts
    have hm : ∀ p ∈ parts.toList, ev E p.2 = ev E' p.2 := fun p hp => h p.2 (by simp [Op.operands]; exact ⟨p.1, by simpa using hp⟩)
    have e1 : (parts.toList.map fun p => ev E p.2) = parts.toList.map fun p => ev E' p.2 := List.map_congr_left hm
    obtain ⟨e, h1, h2, h3, h4, h5, h6, h7, h8⟩ := hv
    exact ⟨e, h1, h2, h3, h4, h5, fun p hp => by rw [← hm p hp]; exact h6 p hp, h7, by rw [h8, e1]⟩
  · rename_i t l c; simp only [newV]; rw [← h l (by simp [Op.operands]), ← h c (by simp [Op.operands])]; exact hv
  · exact hv.elim
theorem newV_names {nm d : Nat} {op : Op} {ty : TypeId} {r : AV} {bl : List (Nat × Blk)} (hev : ∀ x ∈ op.operands, ¬ DN (ev E x) d) (hd : d / 16 ≠ nm) (hv : newV P nm op ty E r bl) :
    ¬ DN r d ∧ ∀ p ∈ bl, p.1 / 16 = nm ∧ ∀ e ∈ p.2.es, ¬ DN e d := by
  have own : ∀ id sz i n, id / 16 = nm → ¬ DN (.own id sz i n) d := fun id sz i n h hn => by cases hn; exact hd h
  have ptr : ∀ id sz i n, id / 16 = nm → ¬ DN (.ptr id sz i n) d := fun id sz i n h hn => by cases hn; exact hd h
  unfold newV at hv
  split at hv
  · obtain ⟨e, _, rfl, rfl⟩ := hv
    exact ⟨own _ _ _ _ (by omega), fun p hp => by simp at hp; subst hp; exact ⟨by omega, by simp⟩⟩
  · obtain ⟨e, _, rfl, rfl⟩ := hv
    exact ⟨own _ _ _ _ (by omega), fun p hp => by simp at hp; subst hp; exact ⟨by omega, by simp⟩⟩
  · split at hv
    · obtain ⟨_, _, rfl, rfl⟩ := hv
      refine ⟨ptr _ _ _ _ (by omega), fun p hp => ?_⟩
      simp at hp
      rcases hp with rfl | rfl
      · exact ⟨by simp; omega, by simp⟩
      · exact ⟨by simp, fun e he => by simp at he; subst he; exact own _ _ _ _ (by omega)⟩
    · obtain ⟨z, _, _, _, _, rfl, rfl⟩ := hv
      refine ⟨ptr _ _ _ _ (by omega), fun p hp => ?_⟩
      simp at hp; subst hp
      exact ⟨by simp, fun e he hn => by simp at he; subst he; exact ofC_dn hn⟩
  · rename_i t x
    obtain ⟨_, _, _, rfl, rfl⟩ := hv
    refine ⟨ptr _ _ _ _ (by omega), fun p hp => ?_⟩
    simp at hp; subst hp
    exact ⟨by simp, fun e he hn => by simp at he; subst he; exact hev x (by simp [Op.operands]) hn⟩
  · rename_i t len parts
    obtain ⟨e, _, _, _, _, _, _, rfl, rfl⟩ := hv
    refine ⟨own _ _ _ _ (by omega), fun p hp => ?_⟩
    simp only [List.mem_singleton] at hp; subst hp
    refine ⟨by simp, fun e he hn => ?_⟩
    obtain ⟨q, hq, rfl⟩ := List.mem_map.1 he
    exact hev q.2 (by simp [Op.operands]; exact ⟨q.1, by simpa using hq⟩) hn
  · split at hv
    · obtain ⟨e, _, _, z, _, _, _, _, _, _, _, rfl, rfl⟩ := hv
      refine ⟨own _ _ _ _ (by omega), fun p hp => ?_⟩
      simp only [List.mem_singleton] at hp; subst hp
      exact ⟨by simp, fun e he hn => by simp only [List.mem_replicate] at he; rw [he.2] at hn; exact ofC_dn hn⟩
    · exact hv.elim
  · exact hv.elim
theorem resL_congr {f g : AV → AV} {es : List AV} (h : ∀ e ∈ es, f e = g e) : resL f es = resL g es := by
  unfold resL; split
  · exact List.map_congr_left h
  · rfl
theorem resF_congr {L : Nat → Prop} (hag : ∀ id, ¬ L id → σ' id = σ id) (hst : ∀ id k, σ id = some k → ∀ e ∈ k.es, ∀ d, L d → ¬ DN e d) :
    ∀ (n : Nat) (x : AV), (∀ d, L d → ¬ DN x d) → resF n σ' x = resF n σ x := by
  intro n
  induction n with
  | zero => intro x _; rfl
  | succ n ih =>
    intro x hx
    have blk : ∀ id, ¬ L id → σ' id = σ id ∧ ∀ k, σ id = some k → ∀ e ∈ k.es, resF n σ' e = resF n σ e := fun id hid =>
      ⟨hag id hid, fun k hk e he => ih e (hst id k hk e he)⟩
    cases x with
    | own id sz i m =>
      obtain ⟨h1, h2⟩ := blk id fun hl => hx id hl (.own ..)
      simp only [resF, h1]
      cases hk : σ id with
      | none => rfl
      | some k => simp only [resOwn]; rw [resL_congr (h2 k hk)]
    | ptr id sz i j =>
      obtain ⟨h1, h2⟩ := blk id fun hl => hx id hl (.ptr ..)
      simp only [resF, h1]
      cases hk : σ id with
      | none => rfl
      | some k =>
        simp only [resPtr]
        split
        · cases he : k.es[i]? with
          | none => rfl
          | some e => simp only [resE]; rw [h2 k hk e (List.mem_of_getElem? he)]
        · rfl
    | mref id =>
      obtain ⟨h1, h2⟩ := blk id fun hl => hx id hl (.mref ..)
      simp only [resF, h1]
      cases hk : σ id with
      | none => rfl
      | some k => simp only [resMap]; rw [resL_congr (h2 k hk)]
    | agg cs => simp only [resF]; rw [resL_congr fun e he => ih e fun d hd hn => hx d hd (.agg cs e d he hn)]
    | tup cs => simp only [resF]; rw [resL_congr fun e he => ih e fun d hd hn => hx d hd (.tup cs e d he hn)]
    | clo g cs => simp only [resF]; rw [resL_congr fun e he => ih e fun d hd hn => hx d hd (.clo g cs e d he hn)]
    | _ => rfl
theorem callV_congr {kd : Bool} {nm : Nat} {op : Op} {v : AV} {bl : List (Nat × Blk)} {L : Nat → Prop} (h : ∀ x ∈ op.operands, ev E x = ev E' x) (hL : ∀ x ∈ op.operands, ∀ d, L d → ¬ DN (ev E x) d)
    (hag : ∀ id, ¬ L id → σ' id = σ id) (hst : ∀ id k, σ id = some k → ∀ e ∈ k.es, ∀ d, L d → ¬ DN e d) (hv : callV S kd nm op E σ v bl) : callV S kd nm op E' σ' v bl := by
  unfold callV at hv
  split at hv
  · rename_i f args ats
    split at hv
    · rename_i g caps hf
      obtain ⟨h0, r, h1, h2, h3, h4, h5, h6⟩ := hv
      have hfm : f ∈ (Op.call { callee := .value f, args := args, argTypes := ats }).operands := by simp [Op.operands, Call.operands]
      have ham : ∀ x ∈ args.toList, x ∈ (Op.call { callee := .value f, args := args, argTypes := ats }).operands := fun x hx => by simp [Op.operands, Call.operands]; exact .inr (by simpa using hx)
      have e1 : args.toList.map (ev E) = args.toList.map (ev E') := List.map_congr_left fun x hx => h x (ham x hx)
      have e2 : (args.toList.map (ev E) ++ caps).map (res σ') = (args.toList.map (ev E) ++ caps).map (res σ) := List.map_congr_left fun x hx => by
        refine resF_congr hag hst 8 x fun d hd hn => ?_
        rcases List.mem_append.1 hx with hx | hx
        · obtain ⟨y, hy, rfl⟩ := List.mem_map.1 hx; exact hL y (ham y hy) d hd hn
        · exact hL f hfm d hd (by rw [hf]; exact .clo g caps x d hx hn)
      simp only [callV]
      rw [← h f hfm, hf]
      exact ⟨h0, r, by rw [← e1, e2]; exact h1, by rw [← e1]; exact h2, h3, h4, h5, h6⟩
    · exact hv.elim
  · exact hv.elim
theorem imp1_dn {id d : Nat} {r : AV} (hr : r.dn = false) (hd : d ≠ id) : ¬ DN (imp1 id r).1 d ∧ ∀ p ∈ (imp1 id r).2, p.1 = id ∧ ∀ e ∈ p.2.es, ¬ DN e d := by
  cases r with
  | new e sz es =>
    simp only [AV.dn] at hr
    refine ⟨fun hn => by cases hn; exact hd rfl, fun p hp => ?_⟩
    simp [imp1] at hp; subst hp
    exact ⟨rfl, fun e he hn => by have := (dnL_iff es).2 ⟨e, he, hn.dn⟩; rw [hr] at this; cases this⟩
  | nptr e sz es =>
    simp only [AV.dn] at hr
    refine ⟨fun hn => by cases hn; exact hd rfl, fun p hp => ?_⟩
    simp [imp1] at hp; subst hp
    exact ⟨rfl, fun e he hn => by have := (dnL_iff es).2 ⟨e, he, hn.dn⟩; rw [hr] at this; cases this⟩
  | _ => exact ⟨fun hn => Bool.noConfusion ((DN.dn hn).symm.trans hr), fun p hp => by simp [imp1] at hp⟩
theorem impL_dn {d : Nat} : ∀ (rs : List AV) (id : Nat), AV.dnL rs = false → (d < id ∨ id + rs.length ≤ d) →
    (∀ r ∈ (impL id rs).1, ¬ DN r d) ∧ ∀ p ∈ (impL id rs).2, id ≤ p.1 ∧ p.1 < id + rs.length ∧ ∀ e ∈ p.2.es, ¬ DN e d
  | [], id, _, _ => ⟨fun r hr => by simp [impL] at hr, fun p hp => by simp [impL] at hp⟩
  | r :: rs, id, hr, hd => by
    simp only [AV.dnL, Bool.or_eq_false_iff] at hr
    simp only [List.length_cons] at hd ⊢
    obtain ⟨h1, h2⟩ := imp1_dn (id := id) hr.1 (show d ≠ id by omega)
    obtain ⟨h3, h4⟩ := impL_dn (d := d) rs (id + 1) hr.2 (by omega)
    refine ⟨fun x hx => ?_, fun p hp => ?_⟩
    · simp only [impL, List.mem_cons] at hx
      rcases hx with rfl | hx
      · exact h1
      · exact h3 x hx
    · simp only [impL, List.mem_append] at hp
      rcases hp with hp | hp
      · obtain ⟨h5, h6⟩ := h2 p hp; exact ⟨by omega, by omega, h6⟩
      · obtain ⟨h5, h6, h7⟩ := h4 p hp; exact ⟨by omega, by omega, h7⟩
theorem callV_names {nm d : Nat} {op : Op} {v : AV} {bl : List (Nat × Blk)} (hd : d / 16 ≠ nm) (hv : callV S false nm op E σ v bl) : ¬ DN v d ∧ ∀ p ∈ bl, p.1 / 16 = nm ∧ ∀ e ∈ p.2.es, ¬ DN e d := by
  unfold callV at hv
  split at hv
  · split at hv
    · obtain ⟨_, r, _, _, hl, hr, rfl, rfl⟩ := hv
      have hr : r.dn = false := by simpa using hr
      cases r with
      | tup rs =>
        simp only [rlen] at hl
        obtain ⟨h1, h2⟩ := impL_dn (d := d) rs (16 * nm) hr (by omega)
        exact ⟨fun hn => (by cases hn with | tup _ c _ hc hn => exact h1 c hc hn), fun p hp => by obtain ⟨h3, h4, h5⟩ := h2 p hp; exact ⟨by omega, h5⟩⟩
      | clo g rs =>
        simp only [rlen] at hl
        obtain ⟨h1, h2⟩ := impL_dn (d := d) rs (16 * nm) hr (by omega)
        exact ⟨fun hn => (by cases hn with | clo _ _ c _ hc hn => exact h1 c hc hn), fun p hp => by obtain ⟨h3, h4, h5⟩ := h2 p hp; exact ⟨by omega, h5⟩⟩
      | _ => obtain ⟨h1, h2⟩ := imp1_dn (d := d) (id := 16 * nm) hr (by omega); exact ⟨h1, fun p hp => by obtain ⟨h3, h4⟩ := h2 p hp; exact ⟨by omega, h4⟩⟩
    · exact hv.elim
  · exact hv.elim
def nmO (S : Sp) (o : Oper) : Nat := S.b + o.dst.getD 99999
def val (S : Sp) (o : Oper) (E : Env) (σ : Store) (v : AV) (bl : List (Nat × Blk)) : Prop :=
  match cls S.P o.op o.type with
  | 0 => pureV S.P o.op E σ v ∧ bl = []
  | 1 => o.dst.isSome = true ∧ newV S.P (nmO S o) o.op o.type E v bl
  | 2 => callV S false (nmO S o) o.op E σ v bl
  | _ => False
def gval (S : Sp) (ops : Array Oper) (o : Oper) (E : Env) (σ : Store) (v : AV) (bl : List (Nat × Blk)) : Prop :=
  match o.guard with
  | none => val S o E σ v bl
  | some (j, want) => match (ops[j]?).bind (·.dst) with
    | none => False
    | some t => match E t with
      | .v (.bool b) => (b = want ∧ val S o E σ v bl) ∨ (b = !want ∧ v = .v undef ∧ bl = [])
      | .v (.tuple _) => v = .v undef ∧ bl = []
      | _ => False
theorem aop_val {o : Oper} {K Kb : Env → Store → Prop} (hc : cls S.P o.op o.type ≤ 2) : aop S false false o K Kb E σ ↔ ∃ v bl, val S o E σ v bl ∧ K (updO E o.dst v) (addS σ bl) := by
  unfold aop val nmO
  have : cls S.P o.op o.type = 0 ∨ cls S.P o.op o.type = 1 ∨ cls S.P o.op o.type = 2 := by omega
  rcases this with h | h | h <;> rw [h]
  · simp only
    constructor
    · rintro ⟨v, h1, h2⟩; exact ⟨v, [], ⟨h1, rfl⟩, h2⟩
    · rintro ⟨v, bl, ⟨h1, rfl⟩, h2⟩; exact ⟨v, h1, h2⟩
  · simp only [kE, kS, Bool.false_eq_true, if_false]
    constructor
    · rintro ⟨d, hd, v, bl, h1, h2⟩; exact ⟨v, bl, ⟨by simp [hd], by simpa [hd] using h1⟩, by simpa [hd] using h2⟩
    · rintro ⟨v, bl, ⟨hs, h1⟩, h2⟩
      obtain ⟨d, hd⟩ := Option.isSome_iff_exists.1 hs
      exact ⟨d, hd, v, bl, by simpa [hd] using h1, by simpa [hd] using h2⟩
  · simp only [kE, kS, Bool.false_eq_true, if_false, false_and, or_false]
theorem gop_val {ops : Array Oper} {o : Oper} {K Kb : Env → Store → Prop} (hc : cls S.P o.op o.type ≤ 2) : gop S false false ops o K Kb E σ ↔ ∃ v bl, gval S ops o E σ v bl ∧ K (updO E o.dst v) (addS σ bl) := by
  unfold gop gval
  cases hg : o.guard with
  | none => exact aop_val hc
  | some p =>
    obtain ⟨j, want⟩ := p
    simp only
    cases ht : (ops[j]?).bind (·.dst) with
    | none => simp
    | some t =>
      simp only
      have other : (∀ b, E t ≠ .v (.bool b)) → (∀ vs, E t ≠ .v (.tuple vs)) → ((match E t with
          | .v (.bool b) => (b = want → aop S false false o K Kb (upd E t (.v (.bool want))) σ) ∧ (b = !want → K (updO (upd E t (.v (.bool !want))) o.dst (.v undef)) σ)
          | .v (.tuple _) => K (updO E o.dst (.v undef)) σ
          | _ => False) ↔ ∃ v bl, (match E t with
            | .v (.bool b) => (b = want ∧ val S o E σ v bl) ∨ (b = !want ∧ v = .v undef ∧ bl = [])
            | .v (.tuple _) => v = .v undef ∧ bl = []
            | _ => False) ∧ K (updO E o.dst v) (addS σ bl)) := fun h1 h2 => by
        split
        · rename_i h; exact absurd h (h1 _)
        · rename_i h; exact absurd h (h2 _)
        · simp
      by_cases hb : ∃ b, E t = .v (.bool b)
      · obtain ⟨b, hb⟩ := hb
        simp only [hb]
        have h1 : b = want → upd E t (.v (.bool want)) = E := fun e => upd_self E t _ (by rw [hb, e])
        have h2 : b = (!want) → upd E t (.v (.bool !want)) = E := fun e => upd_self E t _ (by rw [hb, e])
        by_cases e : b = want
        · have e2 : ¬ b = !want := by subst e; cases b <;> simp
          constructor
          · rintro ⟨h3, _⟩
            have h3 := h3 e; rw [h1 e, aop_val hc] at h3
            obtain ⟨v, bl, h3, h4⟩ := h3
            exact ⟨v, bl, .inl ⟨e, h3⟩, h4⟩
          · rintro ⟨v, bl, h3, h4⟩
            refine ⟨fun _ => ?_, fun h => absurd h e2⟩
            rw [h1 e, aop_val hc]
            rcases h3 with ⟨_, h3⟩ | ⟨h3, _⟩
            · exact ⟨v, bl, h3, h4⟩
            · exact absurd h3 e2
        · have e2 : b = !want := by cases b <;> cases want <;> simp_all
          constructor
          · rintro ⟨_, h4⟩
            have h4 := h4 e2; rw [h2 e2] at h4
            exact ⟨_, [], .inr ⟨e2, rfl, rfl⟩, h4⟩
          · rintro ⟨v, bl, h3, h4⟩
            refine ⟨fun h => absurd h e, fun _ => ?_⟩
            rw [h2 e2]
            rcases h3 with ⟨h3, _⟩ | ⟨_, rfl, rfl⟩
            · exact absurd h3 e
            · exact h4
      · by_cases hb2 : ∃ vs, E t = .v (.tuple vs)
        · obtain ⟨vs, hb2⟩ := hb2
          simp only [hb2]
          constructor
          · intro h; exact ⟨_, [], ⟨rfl, rfl⟩, h⟩
          · rintro ⟨v, bl, ⟨rfl, rfl⟩, h⟩; exact h
        · exact other (fun b h => hb ⟨b, h⟩) (fun vs h => hb2 ⟨vs, h⟩)
end
end Go.Vai
namespace Go.Vai
open Go.RowKit
section
variable {P : Program} {S : Sp} {C : Fx} {E E' : Env} {σ σ' : Store} {a : Act} {w : World} {ρ : Nat → Option Nat} {Im : Nat → Prop} {M : Str}
def DC (N nm : Nat) (E : Env) (σ : Store) : Prop :=
  ∀ d, d / 16 = nm → Clean d E σ ∧ (∀ t, t < N → ¬ DN (E t) d) ∧ ∀ id k, σ id = some k → ∀ e ∈ k.es, ¬ DN e d
theorem addS_out {L : Nat → Prop} : ∀ (bl : List (Nat × Blk)) (σ : Store), (∀ p ∈ bl, L p.1) → ∀ id, ¬ L id → addS σ bl id = σ id
  | [], σ, _, id, _ => rfl
  | (i, k) :: bl, σ, h, id, hn => by
    simp only [addS]
    rw [addS_out bl _ (fun p hp => h p (by simp [hp])) id hn, updS_ne _ _ _ _ (fun e => hn (by rw [e]; exact h (i, k) (by simp)))]
theorem addS_mem : ∀ (bl : List (Nat × Blk)) (σ : Store) (id : Nat) (k : Blk), addS σ bl id = some k → σ id = some k ∨ (id, k) ∈ bl
  | [], σ, id, k, h => .inl h
  | (i, k') :: bl, σ, id, k, h => by
    simp only [addS] at h
    rcases addS_mem bl _ id k h with h' | h'
    · by_cases e : id = i
      · subst e; simp at h'; subst h'; exact .inr (by simp)
      · rw [updS_ne _ _ _ _ e] at h'; exact .inl h'
    · exact .inr (by simp [h'])
theorem looks_tmp {ops : Array Oper} {o : Oper} {t : Nat} (h : Operand.tmp t ∈ o.op.operands) : t ∈ o.looksAt ops :=
  List.mem_append_left _ (List.mem_filterMap.2 ⟨.tmp t, by simpa using h, rfl⟩)
theorem looks_guard {ops : Array Oper} {o : Oper} {g t : Nat} {want : Bool} (hg : o.guard = some (g, want)) (ht : (ops[g]?).bind (·.dst) = some t) : t ∈ o.looksAt ops := by
  refine List.mem_append_right _ ?_
  rw [hg]; simp [ht]
theorem ev_upd {ops : Array Oper} {o : Oper} {d0 : Option Nat} {u : AV} (hd : ∀ d, d0 = some d → d ∉ o.looksAt ops) {x : Operand} (hx : x ∈ o.op.operands) : ev (updO E d0 u) x = ev E x := by
  cases d0 with
  | none => rfl
  | some d =>
    cases x with
    | tmp t => simp only [ev, updO, upd]; rw [if_neg (fun e => hd d rfl (by subst e; exact looks_tmp hx))]
    | _ => rfl
theorem ev_dn {N d : Nat} {x : Operand} (hx : Operand.low N x = true) (h : ∀ t, t < N → ¬ DN (E t) d) : ¬ DN (ev E x) d := fun hn => by
  cases x with
  | tmp t => exact h t (by simpa [Operand.low] using hx) hn
  | const v => exact ofC_dn hn
  | global g => cases hn
  | func f => cases hn with | clo _ _ c _ hc hn => simp at hc
theorem gval_frame {ops : Array Oper} {o : Oper} (hf : Oper.fits S.P S.N o = true) {d0 : Option Nat} {u : AV} (hd : ∀ d, d0 = some d → d ∉ o.looksAt ops) {nm : Nat} {bl0 : List (Nat × Blk)}
    (hdc : bl0 = [] ∨ (DC S.N nm E σ ∧ ∀ p ∈ bl0, p.1 / 16 = nm)) {v : AV} {bl : List (Nat × Blk)} : gval S ops o (updO E d0 u) (addS σ bl0) v bl ↔ gval S ops o E σ v bl := by
  obtain ⟨_, hlow, _⟩ := fits_of hf
  have hev : ∀ x ∈ o.op.operands, ev (updO E d0 u) x = ev E x := fun x hx => ev_upd hd hx
  have key : val S o (updO E d0 u) (addS σ bl0) v bl ↔ val S o E σ v bl := by
    rcases hdc with rfl | ⟨hdc, hb⟩
    · simp only [addS]
      unfold val
      split
      · exact and_congr_left fun _ => ⟨pureV_congr hev fun _ _ _ _ => rfl, pureV_congr (fun x hx => (hev x hx).symm) fun _ _ _ _ => rfl⟩
      · exact and_congr_right fun _ => ⟨newV_congr hev, newV_congr fun x hx => (hev x hx).symm⟩
      · exact ⟨callV_congr (L := fun _ => False) hev (fun _ _ _ h => h.elim) (fun _ _ => rfl) (fun _ _ _ _ _ _ h => h.elim), callV_congr (L := fun _ => False) (fun x hx => (hev x hx).symm) (fun _ _ _ h => h.elim) (fun _ _ => rfl) (fun _ _ _ _ _ _ h => h.elim)⟩
      · rfl
    · have hag : ∀ id, ¬ id / 16 = nm → addS σ bl0 id = σ id := addS_out bl0 σ hb
      have hnd : ∀ x ∈ o.op.operands, ∀ d, d / 16 = nm → ¬ DN (ev E x) d := fun x hx d hd => ev_dn (low_of hlow hx) (hdc d hd).2.1
      have hst : ∀ id k, σ id = some k → ∀ e ∈ k.es, ∀ d, d / 16 = nm → ¬ DN e d := fun id k hk e he d hd => (hdc d hd).2.2 id k hk e he
      have hag' : ∀ x ∈ o.op.operands, ∀ id, Names (ev E x) id → addS σ bl0 id = σ id := fun x hx id hn => hag id fun h => hnd x hx id h (DN.of hn)
      -- the way back: what is not of 'nm' is the same in both
      unfold val
      split
      · refine and_congr_left fun _ => ⟨fun h => ?_, fun h => pureV_congr (fun x hx => (hev x hx).symm) hag' h⟩
        exact pureV_congr (E' := E) hev (fun x hx id hn => by rw [hev x hx] at hn; exact (hag' x hx id hn).symm) h
      · exact and_congr_right fun _ => ⟨newV_congr hev, newV_congr fun x hx => (hev x hx).symm⟩
      · refine ⟨fun h => ?_, fun h => callV_congr (L := fun d => d / 16 = nm) (fun x hx => (hev x hx).symm) hnd hag hst h⟩
        have h1 : callV S false (nmO S o) o.op E (addS σ bl0) v bl := callV_congr (L := fun _ => False) hev (fun _ _ _ h => h.elim) (fun _ _ => rfl) (fun _ _ _ _ _ _ h => h.elim) h
        -- without the new blocks
        unfold callV at h1 ⊢
        split at h1
        · rename_i f args ats ho
          split at h1
          · rename_i g caps hfv
            obtain ⟨h0, r, h2, h3⟩ := h1
            refine ⟨h0, r, ?_, h3⟩
            have : (args.toList.map (ev E) ++ caps).map (res (addS σ bl0)) = (args.toList.map (ev E) ++ caps).map (res σ) := List.map_congr_left fun x hx => by
              refine resF_congr hag hst 8 x fun d hd hn => ?_
              rcases List.mem_append.1 hx with hx | hx
              · obtain ⟨y, hy, rfl⟩ := List.mem_map.1 hx
                exact hnd y (by rw [ho]; simp [Op.operands, Call.operands]; exact .inr (by simpa using hy)) d hd hn
              · exact hnd f (by rw [ho]; simp [Op.operands, Call.operands]) d hd (by rw [hfv]; exact .clo g caps x d hx hn)
            rw [← this]; exact h2
          · exact h1.elim
        · exact h1.elim
      · rfl
  unfold gval
  split
  · exact key
  · rename_i j want hg
    split
    · rfl
    · rename_i t ht
      have he : updO E d0 u t = E t := by
        cases d0 with
        | none => rfl
        | some d => simp only [updO, upd]; rw [if_neg (fun e => hd d rfl (by subst e; exact looks_guard hg ht))]
      rw [he]
      split
      · rw [key]
      · rfl
      · rfl
theorem val_names {o : Oper} (hf : Oper.fits S.P S.N o = true) {d : Nat} (hE : ∀ t, t < S.N → ¬ DN (E t) d) (hst : ∀ id k, σ id = some k → ∀ e ∈ k.es, ¬ DN e d) {v : AV} {bl : List (Nat × Blk)}
    (hv : val S o E σ v bl) (hd : isNm S.P o = true → d / 16 ≠ nmO S o) : ¬ DN v d ∧ ∀ p ∈ bl, p.1 / 16 ≠ d / 16 ∧ ∀ e ∈ p.2.es, ¬ DN e d := by
  obtain ⟨_, hlow, _⟩ := fits_of hf
  have hev : ∀ x ∈ o.op.operands, ¬ DN (ev E x) d := fun x hx => ev_dn (low_of hlow hx) hE
  unfold val at hv
  split at hv
  · obtain ⟨h1, rfl⟩ := hv; exact ⟨pureV_names hev hst h1, fun p hp => by simp at hp⟩
  · rename_i hc
    have hd := hd (by simp [isNm, hc])
    obtain ⟨h1, h2⟩ := newV_names hev hd hv.2
    exact ⟨h1, fun p hp => ⟨by rw [(h2 p hp).1]; exact hd.symm, (h2 p hp).2⟩⟩
  · rename_i hc
    have hd := hd (by simp [isNm, hc])
    obtain ⟨h1, h2⟩ := callV_names hd hv
    exact ⟨h1, fun p hp => ⟨by rw [(h2 p hp).1]; exact hd.symm, (h2 p hp).2⟩⟩
  · exact hv.elim
theorem gval_cases {ops : Array Oper} {o : Oper} {v : AV} {bl : List (Nat × Blk)} (h : gval S ops o E σ v bl) : val S o E σ v bl ∨ (v = .v undef ∧ bl = []) := by
  unfold gval at h
  split at h
  · exact .inl h
  · split at h
    · exact h.elim
    · split at h
      · rcases h with ⟨_, h⟩ | ⟨_, h⟩
        · exact .inl h
        · exact .inr h
      · exact .inr h
      · exact h.elim
theorem val_own {o : Oper} {v : AV} {bl : List (Nat × Blk)} (hv : val S o E σ v bl) : ∀ p ∈ bl, p.1 / 16 = nmO S o ∧ isNm S.P o = true := by
  unfold val at hv
  split at hv
  · obtain ⟨_, rfl⟩ := hv; intro p hp; simp at hp
  · rename_i hc
    intro p hp
    -- by any name apart
    refine ⟨?_, by simp [isNm, hc]⟩
    have := hv.2
    unfold newV at this
    split at this
    · obtain ⟨e, _, _, rfl⟩ := this; simp at hp; subst hp; simp
    · obtain ⟨e, _, _, rfl⟩ := this; simp at hp; subst hp; simp
    · split at this
      · obtain ⟨_, _, _, rfl⟩ := this; simp at hp; rcases hp with rfl | rfl <;> simp <;> omega
      · obtain ⟨z, _, _, _, _, _, rfl⟩ := this; simp at hp; subst hp; simp
    · obtain ⟨_, _, _, _, rfl⟩ := this; simp at hp; subst hp; simp
    · obtain ⟨e, _, _, _, _, _, _, _, rfl⟩ := this; simp at hp; subst hp; simp
    · split at this
      · obtain ⟨e, _, _, z, _, _, _, _, _, _, _, _, rfl⟩ := this; simp at hp; subst hp; simp
      · exact this.elim
    · exact this.elim
  · rename_i hc
    intro p hp
    exact ⟨((callV_names (d := 16 * (nmO S o) + 16) (by omega) hv).2 p hp).1, by simp [isNm, hc]⟩
  · exact hv.elim
theorem DC.step {nm : Nat} {ops : Array Oper} {o : Oper} (hf : Oper.fits S.P S.N o = true) (hdc : DC S.N nm E σ) {v : AV} {bl : List (Nat × Blk)} (hv : gval S ops o E σ v bl) (hne : isNm S.P o = true → nm ≠ nmO S o) :
    DC S.N nm (updO E o.dst v) (addS σ bl) := by
  intro d hd
  obtain ⟨h1, h2, h3⟩ := hdc d hd
  have hn : ¬ DN v d ∧ ∀ p ∈ bl, p.1 / 16 ≠ d / 16 ∧ ∀ e ∈ p.2.es, ¬ DN e d := by
    rcases gval_cases hv with hv | ⟨rfl, rfl⟩
    · exact val_names hf h2 h3 hv fun hi => by rw [hd]; exact hne hi
    · exact ⟨fun h => (by cases h), fun p hp => by simp at hp⟩
  have hst : ∀ id k, addS σ bl id = some k → ∀ e ∈ k.es, ¬ DN e d := fun id k hk e he => by
    rcases addS_mem bl σ id k hk with h' | h'
    · exact h3 id k h' e he
    · exact (hn.2 _ h').2 e he
  have hE : ∀ t, (∀ x, E t = x → ¬ DN x d) → ¬ DN (updO E o.dst v t) d := fun t ht => by
    cases hdst : o.dst with
    | none => exact ht _ rfl
    | some x => simp only [updO, upd]; split; exact hn.1; exact ht _ rfl
  refine ⟨⟨?_, fun t hnn => ?_, fun id k hk e he hnn => hst id k hk e he (DN.of hnn)⟩, fun t ht => hE t fun x hx => by rw [← hx]; exact h2 t ht, hst⟩
  · rw [addS_out (L := fun i => i / 16 ≠ d / 16) bl σ (fun p hp => (hn.2 p hp).1) d (by simp)]; exact h1.1
  · cases hdst : o.dst with
    | none => rw [hdst] at hnn; exact h1.2.1 t hnn
    | some x =>
      rw [hdst] at hnn
      simp only [updO, upd] at hnn
      split at hnn
      · exact hn.1 (DN.of hnn)
      · exact h1.2.1 t hnn
theorem updO_comm {d d' : Option Nat} {v v' : AV} (h : ∀ x, d = some x → d' ≠ some x) : updO (updO E d v) d' v' = updO (updO E d' v') d v := by
  cases d with
  | none => cases d' <;> rfl
  | some x => cases d' with
    | none => rfl
    | some y => simp only [updO]; exact upd_comm E x y v v' fun e => h x rfl (by rw [e])
theorem addS_comm {L L' : Nat → Prop} : ∀ (bl bl' : List (Nat × Blk)) (σ : Store), (∀ p ∈ bl, L p.1) → (∀ p ∈ bl', ¬ L p.1) → addS (addS σ bl) bl' = addS (addS σ bl') bl
  | [], _, _, _, _ => rfl
  | (i, k) :: bl, bl', σ, h, h' => by
    simp only [addS]
    rw [addS_comm (L := L) (L' := L') bl bl' _ (fun p hp => h p (by simp [hp])) h']
    congr 1
    have : ∀ (l : List (Nat × Blk)) (σ : Store), (∀ p ∈ l, p.1 ≠ i) → addS (updS σ i k) l = updS (addS σ l) i k := by
      intro l
      induction l with
      | nil => intro σ _; rfl
      | cons x l ih =>
        obtain ⟨j, k'⟩ := x
        intro σ hl
        simp only [addS]
        rw [← ih _ fun p hp => hl p (by simp [hp])]
        congr 1
        funext t
        have := hl (j, k') (by simp)
        simp only [updS]
        split <;> split <;> simp_all
    exact this bl' σ fun p hp e => h' p hp (by rw [e]; exact h (i, k) (by simp))
end
end Go.Vai
namespace Go.Vai
open Go.RowKit
section
variable {P : Program} {S : Sp} {C : Fx} {E E' : Env} {σ σ' : Store} {a : Act} {w : World} {ρ : Nat → Option Nat} {Im : Nat → Prop} {M : Str} {ops : Array Oper}
def opsAt (ops : Array Oper) (l : List Nat) : List Oper := l.filterMap fun i => ops[i]?
def awpIx (S : Sp) (ops : Array Oper) : List Nat → (Env → Store → Prop) → Env → Store → Prop
  | [], K => K
  | i :: l, K => match ops[i]? with
    | some o => gop S false (bar ops i) ops o (awpIx S ops l K) (struck S true (opsAt ops l) (awpIx S ops l K))
    | none => awpIx S ops l K
theorem opsAt_range : ∀ (l : List Oper) (i : Nat), (∀ j, j < l.length → l[j]? = ops[i + j]?) → opsAt ops (List.range' i l.length) = l
  | [], i, _ => rfl
  | o :: l, i, h => by
    have h0 : ops[i]? = some o := by simpa using (h 0 (by simp)).symm
    rw [List.length_cons, List.range'_succ]
    simp only [opsAt, List.filterMap_cons, h0]
    congr 1
    exact opsAt_range l (i + 1) fun j hj => by have := h (j + 1) (by simpa using hj); simpa [Nat.add_assoc, Nat.add_comm 1 j] using this
theorem awpOps_ix : ∀ (l : List Oper) (i : Nat) (K : Env → Store → Prop), (∀ j, j < l.length → l[j]? = ops[i + j]?) → awpOps S true ops i l K = awpIx S ops (List.range' i l.length) K
  | [], i, K, _ => rfl
  | o :: l, i, K, h => by
    have h0 : ops[i]? = some o := by simpa using (h 0 (by simp)).symm
    have h' : ∀ j, j < l.length → l[j]? = ops[i + 1 + j]? := fun j hj => by have := h (j + 1) (by simpa using hj); simpa [Nat.add_assoc, Nat.add_comm 1 j] using this
    rw [List.length_cons, List.range'_succ]
    simp only [awpOps, awpIx, h0, Bool.not_true, Bool.false_or]
    rw [awpOps_ix l (i + 1) K h', opsAt_range l (i + 1) h']
theorem drawOK_at {P : Program} (hd : drawOK P ops = true) {i : Nat} {oi : Oper} (hi : ops[i]? = some oi) :
    (∀ e ∈ oi.after, Region.binds .any e = true → e.on < i) ∧ (∀ j oj, i < j → ops[j]? = some oj → (waits ops ops.size j i = true ∨ (oi.apart ops oj = true ∧ (cls P oi.op oi.type ≤ 2 ∧ cls P oj.op oj.type ≤ 2 ∨ freeO P oi = true ∧ stoO oj = true ∨ stoO oi = true ∧ freeO P oj = true))) ∧
      (isNm P oi = true → isNm P oj = true → oi.dst.getD 99999 ≠ oj.dst.getD 99999)) := by
  have hlt : i < ops.size := (Array.getElem?_eq_some_iff.1 hi).1
  have h := List.all_eq_true.1 hd i (List.mem_range.2 hlt)
  simp only [hi, Bool.and_eq_true, Array.all_eq_true_iff_forall_mem] at h
  obtain ⟨⟨h1, _⟩, h2⟩ := h
  refine ⟨fun e he hb => ?_, fun j oj hij hj => ?_⟩
  · have := h1 e he; simpa [hb] using this
  · have hjlt : j < ops.size := (Array.getElem?_eq_some_iff.1 hj).1
    have := List.all_eq_true.1 h2 j (List.mem_range.2 hjlt)
    simp only [hj, Bool.or_eq_true, decide_eq_true_eq, Bool.and_eq_true, Bool.not_eq_true', bne_iff_ne, ne_eq] at this
    rcases this with this | ⟨h3, h4⟩
    · omega
    · refine ⟨h3.imp_right fun h => ⟨h.1, by rcases h.2 with (h | h) | h; exact .inl h; exact .inr (.inl h); exact .inr (.inr h)⟩, fun ha hb => ?_⟩
      rcases h4 with (h4 | h4) | h4
      · rw [ha] at h4; cases h4
      · rw [hb] at h4; cases h4
      · exact h4
theorem any_mem {α : Type} {xs : Array α} {p : α → Bool} (h : xs.any p = true) : ∃ e ∈ xs, p e = true := by
  rw [← Array.any_toList] at h
  obtain ⟨e, he, hp⟩ := List.any_eq_true.1 h
  exact ⟨e, Array.mem_toList_iff.1 he, hp⟩
theorem waits_lt {P : Program} (hd : drawOK P ops = true) : ∀ (n j i : Nat), waits ops n j i = true → i < j
  | 0, _, _, h => by simp [waits] at h
  | n + 1, j, i, h => by
    simp only [waits] at h
    split at h
    · rename_i o ho
      obtain ⟨e, he, hb⟩ := any_mem h
      simp only [Bool.and_eq_true, Bool.or_eq_true, beq_iff_eq] at hb
      have h1 := (drawOK_at hd ho).1 e he hb.1
      rcases hb.2 with hb | hb
      · omega
      · have := waits_lt hd n e.on i hb; omega
    · cases h
theorem waits_listed {listed : Array Bool} (hcl : ∀ i o, ops[i]? = some o → listed.getD i false = true → ∀ e ∈ o.after, Region.binds .any e = true → listed.getD e.on false = true) :
    ∀ (n i j : Nat) (o : Oper), ops[i]? = some o → (∀ e ∈ o.after, Region.binds .any e = true → listed.getD e.on false = true) → waits ops n i j = true → listed.getD j false = true
  | 0, _, _, _, _, _, h => by simp [waits] at h
  | n + 1, i, j, o, ho, hall, h => by
    simp only [waits, ho] at h
    obtain ⟨e, he, hb⟩ := any_mem h
    simp only [Bool.and_eq_true, Bool.or_eq_true, beq_iff_eq] at hb
    have h1 := hall e he hb.1
    rcases hb.2 with hb2 | hb2
    · rw [← hb2]; exact h1
    · cases n with
      | zero => simp [waits] at hb2
      | succ n =>
        cases hoe : ops[e.on]? with
        | none => simp [waits, hoe] at hb2
        | some oe => exact waits_listed hcl (n + 1) e.on j oe hoe (hcl e.on oe hoe h1) hb2
theorem bar_false {P : Program} (hd : drawOK P ops = true) {i j : Nat} (hj : j < i) (hi : i < ops.size) (h : waits ops ops.size i j = false) : bar ops i = false ∧ bar ops j = false := by
  have hno : waits ops ops.size j i = false := by
    cases hw : waits ops ops.size j i with
    | false => rfl
    | true => have := waits_lt hd _ _ _ hw; omega
  constructor
  · cases hb : bar ops i with
    | false => rfl
    | true =>
      have := List.all_eq_true.1 hb j (List.mem_range.2 (by omega))
      simp [h, hno] at this; omega
  · cases hb : bar ops j with
    | false => rfl
    | true =>
      have := List.all_eq_true.1 hb i (List.mem_range.2 hi)
      simp [h, hno] at this; omega
def AllDC (S : Sp) (ops : Array Oper) (l : List Nat) (E : Env) (σ : Store) : Prop := ∀ k ∈ l, ∀ o, ops[k]? = some o → isNm S.P o = true → DC S.N (nmO S o) E σ
theorem nm_ne (hd : drawOK S.P ops = true) {i j : Nat} {oi oj : Oper} (hi : ops[i]? = some oi) (hj : ops[j]? = some oj) (hne : i ≠ j) (h1 : isNm S.P oi = true) (h2 : isNm S.P oj = true) : nmO S oi ≠ nmO S oj := by
  unfold nmO
  rcases Nat.lt_or_ge i j with h | h
  · exact fun e => ((drawOK_at hd hi).2 j oj h hj).2 h1 h2 (Nat.add_left_cancel e)
  · exact fun e => ((drawOK_at hd hj).2 i oi (by omega) hi).2 h2 h1 (Nat.add_left_cancel e.symm)
theorem AllDC.step (hall : ∀ (i : Nat) (o : Oper), ops[i]? = some o → Oper.fits S.P S.N o = true) (hd : drawOK S.P ops = true) {i : Nat} {oi : Oper} (hi : ops[i]? = some oi) {l : List Nat} (hn : i ∉ l) (h : AllDC S ops l E σ) {v : AV} {bl : List (Nat × Blk)}
    (hv : gval S ops oi E σ v bl) : AllDC S ops l (updO E oi.dst v) (addS σ bl) := fun k hk o ho hnm =>
  (h k hk o ho hnm).step (hall i oi hi) hv fun h1 => nm_ne hd ho hi (fun e => hn (e ▸ hk)) hnm h1
def rem (ops : Array Oper) (listed : Array Bool) : List Nat := (List.range ops.size).filter fun i => !listed.getD i true
theorem mem_rem {listed : Array Bool} {i : Nat} : i ∈ rem ops listed ↔ i < ops.size ∧ listed.getD i true = false := by simp [rem]
theorem rem_nodup (listed : Array Bool) : (rem ops listed).Nodup := List.Pairwise.filter _ List.nodup_range
theorem rem_sorted (listed : Array Bool) : (rem ops listed).Pairwise (· < ·) := List.Pairwise.filter _ List.pairwise_lt_range
theorem rem_set {listed : Array Bool} (hs : listed.size = ops.size) {i : Nat} {pre post : List Nat} (h : rem ops listed = pre ++ i :: post) : rem ops (listed.setIfInBounds i true) = pre ++ post := by
  have hnd := rem_nodup (ops := ops) listed
  have e : rem ops (listed.setIfInBounds i true) = (rem ops listed).filter fun k => k != i := by
    unfold rem
    rw [List.filter_filter]
    apply List.filter_congr
    intro k hk
    have hk : k < listed.size := by rw [hs]; exact List.mem_range.1 hk
    by_cases hki : k = i
    · subst hki; simp [hk]
    · have : ∀ d, (listed.setIfInBounds i true).getD k d = listed.getD k d := fun d => by
        simp only [Array.getD_eq_getD_getElem?]; rw [Array.getElem?_setIfInBounds_ne (Ne.symm hki)]
      rw [this]; simp [hki]
  rw [e, h]
  rw [h] at hnd
  simp only [List.filter_append, List.filter_cons, bne_self_eq_false, Bool.false_eq_true, if_false]
  rw [List.nodup_append] at hnd
  obtain ⟨h1, h2, h3⟩ := hnd
  rw [List.nodup_cons] at h2
  congr 1
  · rw [List.filter_eq_self]; intro k hk; have := h3 k hk i (by simp); simpa using this
  · rw [List.filter_eq_self]; intro k hk; simp; rintro rfl; exact h2.1 hk
theorem clean_DC (H : Holds S C) (hs : St C E σ a w) {nm : Nat} (h : ∀ d, d / 16 = nm → Clean d E σ) : DC S.N nm E σ := by
  obtain ⟨ρ, Im, M, hw⟩ := hs
  intro d hd
  have hc := h d hd
  refine ⟨hc, fun t ht hn => ?_, fun id k hk e he hn => ?_⟩
  · have hlt : t < a.tmps.size := by rw [hw.size, ← H.N]; exact ht
    exact hc.2.1 t ((hw.env t _ (Array.getElem?_eq_getElem hlt)).dn hn)
  · refine hc.2.2 id k hk e he ?_
    cases hρ : ρ id with
    | none => rw [hw.inv.nil id k hk hρ] at he; simp at he
    | some b =>
      by_cases hz : k.sz = 0
      · obtain ⟨ents, clk, _, hl, hall⟩ := hw.inv.map id k b hk hρ hz
        obtain ⟨i, hi⟩ := List.mem_iff_getElem?.1 he
        have hlt : i < ents.size := by rw [← hl.1]; exact (List.getElem?_eq_some_iff.1 hi).1
        obtain ⟨v, hv, hr⟩ := hall i _ (Array.getElem?_eq_getElem hlt)
        rw [hi] at hv; cases hv
        cases hn with | tup _ c _ hc hn =>
          simp at hc
          rcases hc with rfl | rfl
          · cases hn
          · exact .tup _ _ d (by simp) (hr.dn hn)
      · obtain ⟨cur, _, _, _, hall⟩ := hw.inv.blk id k b hk hρ hz
        obtain ⟨c, hc, hn⟩ := hn.cell
        obtain ⟨i, hi⟩ := List.mem_iff_getElem?.1 he
        obtain ⟨j, hj⟩ := List.mem_iff_getElem?.1 hc
        obtain ⟨x, _, _, hr⟩ := hall i e j c hi hj
        exact cells_names hc (hr.dn hn)
theorem regP_iff {l : List Oper} {i : Nat} : regP S l i = true ↔ ∃ o ∈ l, isNm S.P o = true ∧ i / 16 = nmO S o := by
  simp only [regP, List.contains_iff_mem, List.mem_filterMap, isNm, nmO]
  constructor
  · rintro ⟨o, ho, h⟩
    split at h
    · rename_i hc; exact ⟨o, ho, hc, (Option.some.inj h).symm⟩
    · cases h
  · rintro ⟨o, ho, hc, e⟩
    exact ⟨o, ho, by rw [if_pos hc, e]⟩
theorem struck_ok {l : List Nat} (H : Holds S C) (hall : ∀ o ∈ opsAt ops l, Oper.fits S.P S.N o = true) {K : Env → Store → Prop} (h : struck S true (opsAt ops l) K E σ) (hs : St C E σ a w) :
    ∃ E' σ', K E' σ' ∧ AllDC S ops l E' σ' ∧ St C E' σ' a w := by
  simp only [struck, if_true] at h
  have hs' : St C (killE (regP S (opsAt ops l)) E) (killS (regP S (opsAt ops l)) σ) a w := hs.kill H.G _ fun id b hb => by
    cases hr : regP S (opsAt ops l) id with
    | false => rfl
    | true =>
      obtain ⟨o, ho, hnm, e⟩ := regP_iff.1 hr
      have hdm : o.dst.getD 99999 < 100000 := by
        cases hd : o.dst with
        | none => simp
        | some d => exact Nat.lt_of_lt_of_le ((fits_of (hall o ho)).1 d hd) (Nat.le_trans H.big (by decide))
      have := H.own hdm id b hb
      simp [own] at this
      exact absurd e this
  refine ⟨_, _, h, fun k hk o ho hnm => clean_DC H hs' fun d hd => ?_, hs'⟩
  exact clean_kill (regP_iff.2 ⟨o, List.mem_filterMap.2 ⟨k, hk, ho⟩, hnm, hd⟩) E σ
theorem aop_strong {bi : Bool} {o : Oper} {K Kb X : Env → Store → Prop} (hstep : ∀ v bl, val S o E σ v bl → X (updO E o.dst v) (addS σ bl)) (h : aop S false bi o K Kb E σ) :
    aop S false bi o (fun E' σ' => K E' σ' ∧ X E' σ') Kb E σ := by
  unfold aop at *
  unfold val nmO at hstep
  split at h
  · rename_i hc; simp only [hc] at hstep
    obtain ⟨v, h1, h2⟩ := h; exact ⟨v, h1, h2, hstep v [] ⟨h1, rfl⟩⟩
  · rename_i hc; simp only [hc] at hstep
    obtain ⟨d, hd, v, bl, h1, h2⟩ := h
    simp only [kE, kS, Bool.false_eq_true, if_false] at h1 h2 ⊢
    exact ⟨d, hd, v, bl, h1, h2, by have := hstep v bl ⟨by simp [hd], by simpa [hd] using h1⟩; simpa [hd] using this⟩
  · rename_i hc; simp only [hc] at hstep
    simp only [kE, kS, Bool.false_eq_true, if_false] at h ⊢
    rcases h with ⟨v, bl, h1, h2⟩ | h
    · exact .inl ⟨v, bl, h1, h2, hstep v bl h1⟩
    · exact .inr h
  · exact h
  · exact h
  · exact h
  · exact h
theorem gop_strong {bi : Bool} {o : Oper} {K Kb X : Env → Store → Prop} (hstep : ∀ v bl, gval S ops o E σ v bl → X (updO E o.dst v) (addS σ bl)) (h : gop S false bi ops o K Kb E σ) :
    gop S false bi ops o (fun E' σ' => K E' σ' ∧ X E' σ') Kb E σ := by
  unfold gop at *
  unfold gval at hstep
  cases hg : o.guard with
  | none => simp only [hg] at h hstep ⊢; exact aop_strong hstep h
  | some p =>
    obtain ⟨j, want⟩ := p
    simp only [hg] at h hstep ⊢
    cases ht : (ops[j]?).bind (·.dst) with
    | none => simp [ht] at h
    | some t =>
      simp only [ht] at h hstep ⊢
      split at h
      · rename_i b hb
        simp only [hb] at hstep
        have h1 : b = want → upd E t (.v (.bool want)) = E := fun e => upd_self E t _ (by rw [hb, e])
        have h2 : b = (!want) → upd E t (.v (.bool !want)) = E := fun e => upd_self E t _ (by rw [hb, e])
        refine ⟨fun e => ?_, fun e => ?_⟩
        · have h := h.1 e
          rw [h1 e] at h ⊢
          exact aop_strong (fun v bl hv => hstep v bl (.inl ⟨e, hv⟩)) h
        · refine ⟨h.2 e, ?_⟩
          rw [h2 e]; exact hstep _ [] (.inr ⟨e, rfl, rfl⟩)
      · rename_i hb
        simp only [hb] at hstep
        exact ⟨h, hstep _ [] ⟨rfl, rfl⟩⟩
      · exact h.elim
theorem free_cls {o : Oper} (h : freeO P o = true) : cls P o.op o.type = 0 := by
  simp only [freeO, Bool.and_eq_true, beq_iff_eq] at h; exact h.1.2
theorem free_guard {o : Oper} (h : freeO P o = true) : o.guard = none := by
  simp only [freeO, Bool.and_eq_true, Option.isNone_iff_eq_none] at h; exact h.1.1
theorem free_val {o : Oper} (h : freeO S.P o = true) {v : AV} {bl : List (Nat × Blk)} : gval S ops o E σ v bl ↔ pureV S.P o.op E σ v ∧ bl = [] := by
  unfold gval val
  rw [free_guard h, free_cls h]
  exact Iff.rfl
theorem free_pure {o : Oper} (h : freeO P o = true) {v : AV} (hv : pureV P o.op E σ v) : pureV P o.op E σ' v := by
  simp only [freeO, Bool.and_eq_true] at h
  obtain ⟨dst, op, ty, pos, after, guard⟩ := o
  simp only at *
  cases op <;> first | (exact hv) | (simp at h)
def stoR (P : Program) (op : Op) (E : Env) (σ : Store) (id : Nat) (k' : Blk) : Prop := storeV P op E σ fun a b => a = id ∧ b = k'
theorem sto_iff {op : Op} {K : Nat → Blk → Prop} : storeV P op E σ K ↔ ∃ id k', stoR P op E σ id k' ∧ K id k' := by
  unfold stoR storeV
  constructor
  · intro h
    split at h
    · split at h
      · rename_i id sz i j hx
        obtain ⟨k, h1, h2, e, h3, h4, h5, h6, h7, h8⟩ := h
        refine ⟨_, _, ?_, h8⟩
        simp only [hx]
        exact ⟨k, h1, h2, e, h3, h4, h5, h6, h7, trivial, rfl⟩
      · exact h.elim
    · exact h.elim
  · rintro ⟨id, k', h, hk⟩
    split at h
    · split at h
      · obtain ⟨k, h1, h2, e, h3, h4, h5, h6, h7, rfl, rfl⟩ := h
        exact ⟨k, h1, h2, e, h3, h4, h5, h6, h7, hk⟩
      · exact h.elim
    · exact h.elim
theorem stoR_congr {op : Op} (hx : ∀ x ∈ op.operands, ev E x = ev E' x) {id : Nat} {k' : Blk} (h : stoR P op E σ id k') : stoR P op E' σ id k' := by
  unfold stoR storeV at *
  split at h
  · rename_i t x y
    simp only
    rw [← hx x (by simp [Op.operands]), ← hx y (by simp [Op.operands])]
    exact h
  · exact h.elim
theorem setC_dn {e v : AV} {j d : Nat} (h : DN (setC e j v) d) : DN e d ∨ DN v d := by
  unfold setC at h
  split at h
  · exact .inr h
  · cases h with
    | agg _ c _ hc hn =>
      rcases List.mem_append.1 hc with hc | hc
      · rcases List.mem_append.1 hc with hc | hc
        · exact .inl (hn.cells (List.mem_of_mem_take hc))
        · exact .inr (hn.cells hc)
      · exact .inl (hn.cells (List.mem_of_mem_drop hc))
theorem stoR_DC {op : Op} {N nm : Nat} (hlow : ∀ x ∈ op.operands, Operand.low N x = true) (hdc : DC N nm E σ) {id : Nat} {k' : Blk} (h : stoR P op E σ id k') : DC N nm E (updS σ id k') := by
  intro d hd
  obtain ⟨⟨c1, c2, c3⟩, c4, c5⟩ := hdc d hd
  have hval : ∀ e ∈ k'.es, ¬ DN e d := by
    unfold stoR storeV at h
    split at h
    · rename_i t x y
      split at h
      · obtain ⟨k, h1, h2, e, h3, h4, h5, h6, h7, rfl, rfl⟩ := h
        intro q hq hn
        rcases List.mem_or_eq_of_mem_set hq with hq | rfl
        · exact c5 _ _ h1 q hq hn
        · rcases setC_dn hn with hn | hn
          · exact c5 _ _ h1 e (List.mem_of_getElem? h3) hn
          · exact ev_dn (hlow y (by simp [Op.operands])) c4 hn
      · exact h.elim
    · exact h.elim
  have hid : id ≠ d := by
    unfold stoR storeV at h
    split at h
    · split at h
      · obtain ⟨k, h1, h2, e, h3, h4, h5, h6, h7, rfl, rfl⟩ := h
        intro e; rw [e, c1] at h1; cases h1
      · exact h.elim
    · exact h.elim
  refine ⟨⟨?_, c2, fun q k hk e he hn => ?_⟩, c4, fun q k hk e he => ?_⟩
  · rw [updS_ne _ _ _ _ (Ne.symm hid)]; exact c1
  · by_cases hq : q = id
    · subst hq; rw [updS_same] at hk; cases hk; exact hval e he (DN.of hn)
    · rw [updS_ne _ _ _ _ hq] at hk; exact c3 q k hk e he hn
  · by_cases hq : q = id
    · subst hq; rw [updS_same] at hk; cases hk; exact hval e he
    · rw [updS_ne _ _ _ _ hq] at hk; exact c5 q k hk e he
theorem AllDC.sto {o : Oper} (hf : Oper.fits S.P S.N o = true) {l : List Nat} (h : AllDC S ops l E σ) {id : Nat} {k' : Blk} (hs : stoR S.P o.op E σ id k') : AllDC S ops l E (updS σ id k') := fun k hk o' ho hnm =>
  stoR_DC (fun x hx => low_of (fits_of hf).2.1 hx) (h k hk o' ho hnm) hs
theorem sto_gop {bi : Bool} {o : Oper} {K Kb : Env → Store → Prop} (h : stoO o = true) : gop S false bi ops o K Kb E σ ↔ ∃ id k', stoR S.P o.op E σ id k' ∧ Kb E (updS σ id k') := by
  simp only [stoO, Bool.and_eq_true, Option.isNone_iff_eq_none] at h
  obtain ⟨dst, op, ty, pos, after, guard⟩ := o
  simp only at *
  obtain ⟨⟨rfl, rfl⟩, h⟩ := h
  cases op with
  | store t x y =>
    rw [← sto_iff]
    exact Iff.rfl
  | _ => simp at h
theorem namesB_ex (p : Nat → Bool) : ∀ (n : Nat) (a : AV), SizeOf.sizeOf a < n → AV.namesB p a = true → ∃ id, Names a id ∧ p id = true := by
  intro n
  induction n with
  | zero => intro a h; omega
  | succ n ih =>
    intro a hs hn
    have lst : ∀ cs : List AV, (∀ c ∈ cs, SizeOf.sizeOf c < n) → AV.namesL p cs = true → ∃ c ∈ cs, ∃ id, Names c id ∧ p id = true := fun cs hcs hl => by
      obtain ⟨c, hc, hcn⟩ := (AV.namesL_iff p cs).1 hl
      exact ⟨c, hc, ih c (hcs c hc) hcn⟩
    cases a with
    | own i s o m => exact ⟨i, .own .., hn⟩
    | ptr i s o m => exact ⟨i, .ptr .., hn⟩
    | mref i => exact ⟨i, .mref .., hn⟩
    | agg cs =>
      obtain ⟨c, hc, id, hid, hp⟩ := lst cs (fun c hc => by have := List.sizeOf_lt_of_mem hc; simp at hs; omega) hn
      exact ⟨id, .agg cs c id hc hid, hp⟩
    | tup cs =>
      obtain ⟨c, hc, id, hid, hp⟩ := lst cs (fun c hc => by have := List.sizeOf_lt_of_mem hc; simp at hs; omega) hn
      exact ⟨id, .tup cs c id hc hid, hp⟩
    | clo g cs =>
      obtain ⟨c, hc, id, hid, hp⟩ := lst cs (fun c hc => by have := List.sizeOf_lt_of_mem hc; simp at hs; omega) hn
      exact ⟨id, .clo g cs c id hc hid, hp⟩
    | _ => simp [AV.namesB] at hn
theorem kill_id {p : Nat → Bool} (h : ∀ d, p d = true → Clean d E σ) : killE p E = E ∧ killS p σ = σ := by
  refine ⟨funext fun t => ?_, funext fun t => ?_⟩
  · refine kill_of_not ?_
    cases hn : AV.namesB p (E t) with
    | false => rfl
    | true =>
      obtain ⟨id, h1, h2⟩ := namesB_ex p _ _ (Nat.lt_succ_self _) hn
      exact absurd h1 ((h id h2).2.1 t)
  · simp only [killS]
    split
    · rename_i hp; exact ((h t hp).1).symm
    · cases hk : σ t with
      | none => rfl
      | some k =>
        simp only [Option.map_some, Blk.kill]
        rw [if_neg]
        intro hn
        obtain ⟨c, hc, hcn⟩ := (AV.namesL_iff p k.es).1 hn
        obtain ⟨id, h1, h2⟩ := namesB_ex p _ _ (Nat.lt_succ_self _) hcn
        exact (h id h2).2.2 t k hk c hc h1
theorem struck_id {l : List Nat} {K : Env → Store → Prop} (h : AllDC S ops l E σ) : struck S true (opsAt ops l) K E σ = K E σ := by
  have := kill_id (p := regP S (opsAt ops l)) (E := E) (σ := σ) fun d hd => by
    obtain ⟨o, ho, hnm, e⟩ := regP_iff.1 hd
    obtain ⟨k, hk, hok⟩ := List.mem_filterMap.1 ho
    exact (h k hk o hok hnm d e).1
  simp only [struck, if_true]
  rw [this.1, this.2]
theorem bubble (hall : ∀ (i : Nat) (o : Oper), ops[i]? = some o → Oper.fits S.P S.N o = true) (hd : drawOK S.P ops = true) {i : Nat} {oi : Oper} (hi : ops[i]? = some oi) {post : List Nat} {K : Env → Store → Prop} :
    ∀ (pre : List Nat), (∀ j ∈ pre, j < i ∧ waits ops ops.size i j = false) → (pre ++ i :: post).Nodup → ∀ (E : Env) (σ : Store), AllDC S ops (pre ++ i :: post) E σ → awpIx S ops (pre ++ i :: post) K E σ → awpIx S ops (i :: (pre ++ post)) K E σ
  | [], _, _, E, σ, _, h => h
  | j :: pre, hp, hnd, E, σ, hdc, h => by
    obtain ⟨hji, hw⟩ := hp j (by simp)
    have hilt : i < ops.size := (Array.getElem?_eq_some_iff.1 hi).1
    obtain ⟨oj, hj⟩ : ∃ oj, ops[j]? = some oj := ⟨_, Array.getElem?_eq_getElem (by omega)⟩
    obtain ⟨hbi, hbj⟩ := bar_false hd hji hilt hw
    have hcom := (((drawOK_at hd hj).2 i oi hji hi).1).resolve_left (by rw [hw]; simp)
    obtain ⟨hap, hcom⟩ := hcom
    obtain ⟨a1, a2, a3⟩ := Oper.apart_spec hap
    rw [List.cons_append, List.nodup_cons] at hnd
    have hin : ∀ k, k ∈ pre ++ post → k ∈ pre ++ i :: post := fun k hk => by rcases List.mem_append.1 hk with h | h <;> simp [h]
    rcases hcom with ⟨hcj, hci⟩ | ⟨hfj, hsi⟩ | ⟨hsj, hfi⟩
    rotate_left
    · -- what is free comes later
      have hcj := free_cls hfj
      simp only [List.cons_append, awpIx, hj, hbj] at h
      obtain ⟨vj, blj, hvj, h⟩ := (gop_val (by omega)).1 h
      obtain ⟨hpj, rfl⟩ := (free_val hfj).1 hvj
      have hdc1 : AllDC S ops (pre ++ i :: post) (updO E oj.dst vj) σ := AllDC.step hall hd hj hnd.1 (fun k hk => hdc k (by simp only [List.cons_append, List.mem_cons]; exact .inr hk)) hvj
      have h := bubble hall hd hi pre (fun k hk => hp k (by simp [hk])) hnd.2 _ _ hdc1 h
      simp only [awpIx, hi, hbi] at h
      obtain ⟨id, k', hs, h⟩ := (sto_gop hsi).1 h
      have hs0 : stoR S.P oi.op E σ id k' := stoR_congr (fun x hx => ev_upd a1 hx) hs
      rw [struck_id (AllDC.sto (hall i oi hi) (fun k hk => hdc1 k (hin k hk) : AllDC S ops (pre ++ post) (updO E oj.dst vj) σ) hs)] at h
      simp only [awpIx, hi, hbi]
      refine (sto_gop hsi).2 ⟨id, k', hs0, ?_⟩
      rw [List.cons_append, struck_id (AllDC.sto (hall i oi hi) (fun k hk => hdc k (by rcases List.mem_cons.1 hk with rfl | hk; simp; exact List.mem_cons_of_mem _ (hin k hk)) : AllDC S ops (j :: (pre ++ post)) E σ) hs0)]
      simp only [awpIx, hj, hbj]
      exact (gop_val (by omega)).2 ⟨vj, [], (free_val hfj).2 ⟨free_pure hfj hpj, rfl⟩, h⟩
    · -- what is free comes earlier
      have hci := free_cls hfi
      simp only [List.cons_append, awpIx, hj, hbj] at h
      obtain ⟨id, k', hs, h⟩ := (sto_gop hsj).1 h
      have hdc1 : AllDC S ops (pre ++ i :: post) E (updS σ id k') := AllDC.sto (hall j oj hj) (fun k hk => hdc k (by simp only [List.cons_append, List.mem_cons]; exact .inr hk)) hs
      rw [struck_id hdc1] at h
      have h := bubble hall hd hi pre (fun k hk => hp k (by simp [hk])) hnd.2 _ _ hdc1 h
      simp only [awpIx, hi, hbi] at h
      obtain ⟨vi, bli, hvi, h⟩ := (gop_val (by omega)).1 h
      obtain ⟨hpi, rfl⟩ := (free_val hfi).1 hvi
      have hvi0 : gval S ops oi E σ vi [] := (free_val hfi).2 ⟨free_pure hfi hpi, rfl⟩
      simp only [awpIx, hi, hbi]
      refine (gop_val (by omega)).2 ⟨vi, [], hvi0, ?_⟩
      simp only [List.cons_append, awpIx, hj, hbj]
      have hs1 : stoR S.P oj.op (updO E oi.dst vi) σ id k' := stoR_congr (fun x hx => (ev_upd a3 hx).symm) hs
      refine (sto_gop hsj).2 ⟨id, k', hs1, ?_⟩
      have hdc2 : AllDC S ops (pre ++ post) (updO E oi.dst vi) σ := AllDC.step hall hd hi (fun hk => by
        rw [List.nodup_append] at hnd
        obtain ⟨_, _, h2, h3⟩ := hnd
        rw [List.nodup_cons] at h2
        rcases List.mem_append.1 hk with hk | hk
        · exact h3 i hk i (by simp) rfl
        · exact h2.1 hk) (fun k hk => hdc k (List.mem_cons_of_mem _ (hin k hk))) hvi0
      show struck S true (opsAt ops (pre ++ post)) (awpIx S ops (pre ++ post) K) (updO E oi.dst vi) (updS σ id k')
      rw [struck_id (hdc2.sto (hall j oj hj) hs1)]
      exact h
    simp only [List.cons_append, awpIx, hj, hbj] at h
    obtain ⟨vj, blj, hvj, h⟩ := (gop_val hcj).1 h
    have hdc1 : AllDC S ops (pre ++ i :: post) (updO E oj.dst vj) (addS σ blj) := AllDC.step hall hd hj hnd.1 (fun k hk => hdc k (by simp only [List.cons_append, List.mem_cons]; exact .inr hk)) hvj
    have h := bubble hall hd hi pre (fun k hk => hp k (by simp [hk])) hnd.2 _ _ hdc1 h
    simp only [awpIx, hi, hbi] at h
    obtain ⟨vi, bli, hvi, h⟩ := (gop_val hci).1 h
    have ownj : ∀ p ∈ blj, p.1 / 16 = nmO S oj ∧ isNm S.P oj = true := by
      rcases gval_cases hvj with hv | ⟨_, rfl⟩
      · exact val_own hv
      · intro p hp; simp at hp
    have dcj : blj = [] ∨ (DC S.N (nmO S oj) E σ ∧ ∀ p ∈ blj, p.1 / 16 = nmO S oj) := by
      cases hb : blj with
      | nil => exact .inl rfl
      | cons p l => exact .inr ⟨hdc j (by simp) oj hj (ownj p (by rw [hb]; simp)).2, fun q hq => (ownj q (by rw [hb]; exact hq)).1⟩
    have hvi0 : gval S ops oi E σ vi bli := (gval_frame (hall i oi hi) a1 dcj).1 hvi
    have owni : ∀ p ∈ bli, p.1 / 16 = nmO S oi ∧ isNm S.P oi = true := by
      rcases gval_cases hvi0 with hv | ⟨_, rfl⟩
      · exact val_own hv
      · intro p hp; simp at hp
    have dci : bli = [] ∨ (DC S.N (nmO S oi) E σ ∧ ∀ p ∈ bli, p.1 / 16 = nmO S oi) := by
      cases hb : bli with
      | nil => exact .inl rfl
      | cons p l => exact .inr ⟨hdc i (by simp) oi hi (owni p (by rw [hb]; simp)).2, fun q hq => (owni q (by rw [hb]; exact hq)).1⟩
    have hvj0 : gval S ops oj (updO E oi.dst vi) (addS σ bli) vj blj := (gval_frame (hall j oj hj) a3 dci).2 hvj
    have e1 : updO (updO E oj.dst vj) oi.dst vi = updO (updO E oi.dst vi) oj.dst vj := updO_comm a2
    have e2 : addS (addS σ blj) bli = addS (addS σ bli) blj := by
      by_cases hb : isNm S.P oi = true ∧ isNm S.P oj = true
      · have hne := nm_ne (S := S) hd hi hj (by omega) hb.1 hb.2
        exact addS_comm (L := fun id => id / 16 = nmO S oj) (L' := fun _ => True) blj bli σ (fun p hp => (ownj p hp).1) fun p hp h => hne ((owni p hp).1.symm.trans h)
      · have : blj = [] ∨ bli = [] := by
          cases hb1 : blj with
          | nil => exact .inl rfl
          | cons p l => cases hb2 : bli with
            | nil => exact .inr rfl
            | cons q m => exact absurd ⟨(owni q (by rw [hb2]; simp)).2, (ownj p (by rw [hb1]; simp)).2⟩ hb
        rcases this with h' | h' <;> rw [h'] <;> rfl
    rw [e1, e2] at h
    simp only [awpIx, hi, hbi]
    refine (gop_val hci).2 ⟨vi, bli, hvi0, ?_⟩
    simp only [List.cons_append, awpIx, hj, hbj]
    exact (gop_val hcj).2 ⟨vj, blj, hvj0, h⟩
theorem draw_sound (H : Holds S C) : ∀ (ops : Array Oper), ops.toList.all (Oper.fits S.P S.N) = true → drawOK S.P ops = true → ∀ (n : Nat) (K : Env → Store → Prop) (Q : Exit → Act → World → Prop) (E : Env) (σ : Store) (a : Act) (w : World),
    (∀ E σ a w, K E σ → St C E σ a w → Q .normal a w) → struck S true ops.toList (awpOps S true ops 0 ops.toList K) E σ → St C E σ a w →
    ∀ id, (Code.region id ops true).wpIn (FW C.rdl) n S.P Q a w := by
  intro ops hfits hd n K Q E σ a w hK hv hs id
  have hall : ∀ (i : Nat) (o : Oper), ops[i]? = some o → Oper.fits S.P S.N o = true := fun i o ho => List.all_eq_true.1 hfits o (Array.mem_toList_iff.2 (Array.mem_of_getElem? ho))
  have hat : ∀ l, ∀ o ∈ opsAt ops l, Oper.fits S.P S.N o = true := fun l o ho => by
    obtain ⟨i, _, hi⟩ := List.mem_filterMap.1 ho; exact hall i o hi
  have hfull : opsAt ops (List.range' 0 ops.toList.length) = ops.toList := opsAt_range ops.toList 0 fun j _ => by simp
  refine wpIn_region_any H.mo ?_
  obtain ⟨E1, σ1, hv1, hdc1, hs1⟩ := struck_ok (l := List.range' 0 ops.toList.length) H (hat _) (by rw [hfull]; exact hv) (hs.drew H.G (w.drawn + 1))
  rw [awpOps_ix ops.toList 0 K fun j _ => by simp] at hv1
  have key : ∀ (fuel : Nat) (listed : Array Bool) (E : Env) (σ : Store) (a : Act) (w : World), listed.size = ops.size → (rem ops listed).length ≤ fuel →
      (∀ i o, ops[i]? = some o → listed.getD i false = true → ∀ e ∈ o.after, Region.binds .any e = true → listed.getD e.on false = true) →
      awpIx S ops (rem ops listed) K E σ → AllDC S ops (rem ops listed) E σ → St C E σ a w → wpAnyIn (FW C.rdl) n S.P .any ops Q fuel listed a w := by
    intro fuel
    induction fuel with
    | zero =>
      intro listed E σ a w hsz hle hcl hv hdc hs
      have h0 : rem ops listed = [] := List.eq_nil_of_length_eq_zero (by omega)
      rw [h0] at hv
      refine ⟨?_, hK _ _ _ _ hv hs⟩
      cases hr : Region.ready .any ops listed with
      | nil => rfl
      | cons i l =>
        have hi : i ∈ Region.ready .any ops listed := by rw [hr]; simp
        obtain ⟨h1, o, ho, _⟩ := mem_ready.1 hi
        have : i ∈ rem ops listed := mem_rem.2 ⟨(Array.getElem?_eq_some_iff.1 ho).1, h1⟩
        rw [h0] at this; simp at this
    | succ fuel ih =>
      intro listed E σ a w hsz hle hcl hv hdc hs
      have getD_same : ∀ i, i < ops.size → listed.getD i true = listed.getD i false := fun i hi => by
        simp only [Array.getD_eq_getD_getElem?]; rw [Array.getElem?_eq_getElem (by omega)]; rfl
      refine ⟨fun h0 => ?_, fun i hi => ?_⟩
      · -- nothing is ready: nothing is left
        have hr : rem ops listed = [] := by
          cases hr : rem ops listed with
          | nil => rfl
          | cons i l =>
            exfalso
            have hm : i ∈ rem ops listed := by rw [hr]; simp
            obtain ⟨hlt, hun⟩ := mem_rem.1 hm
            have : i ∈ Region.ready .any ops listed := mem_ready.2 ⟨hun, _, Array.getElem?_eq_getElem hlt, fun e he hb => by
              have hei := (drawOK_at hd (Array.getElem?_eq_getElem hlt)).1 e he hb
              cases hl : listed.getD e.on false with
              | true => rfl
              | false =>
                have hme : e.on ∈ rem ops listed := mem_rem.2 ⟨by omega, by rw [getD_same _ (by omega)]; exact hl⟩
                have hsort := rem_sorted (ops := ops) listed
                rw [hr] at hme hsort
                rcases List.mem_cons.1 hme with h | h
                · omega
                · have := (List.pairwise_cons.1 hsort).1 _ h; omega⟩
            rw [h0] at this; simp at this
        rw [hr] at hv
        exact hK _ _ _ _ hv hs
      · obtain ⟨hun, o, ho, hedges⟩ := mem_ready.1 hi
        have hlt : i < ops.size := (Array.getElem?_eq_some_iff.1 ho).1
        have hm : i ∈ rem ops listed := mem_rem.2 ⟨hlt, hun⟩
        obtain ⟨pre, post, hsplit⟩ := List.append_of_mem hm
        have hsort := rem_sorted (ops := ops) listed
        have hnd := rem_nodup (ops := ops) listed
        have hset := rem_set hsz hsplit
        rw [hsplit] at hv hdc hsort hnd
        have hpre : ∀ j ∈ pre, j < i ∧ waits ops ops.size i j = false := fun j hj => by
          refine ⟨(List.pairwise_append.1 hsort).2.2 j hj i (by simp), ?_⟩
          cases hw : waits ops ops.size i j with
          | false => rfl
          | true =>
            have h1 := waits_listed hcl ops.size i j o ho hedges hw
            have h2 := mem_rem.1 (show j ∈ rem ops listed by rw [hsplit]; simp [hj])
            rw [getD_same j h2.1, h1] at h2; simp at h2
        have hv := bubble hall hd ho pre hpre hnd E σ hdc hv
        have hnd' : i ∉ pre ++ post := by
          rw [List.nodup_append] at hnd
          obtain ⟨h1, h2, h3⟩ := hnd
          rw [List.nodup_cons] at h2
          intro h; rcases List.mem_append.1 h with h | h
          · exact h3 i h i (by simp) rfl
          · exact h2.1 h
        have hdc' : AllDC S ops (pre ++ post) E σ := fun k hk => hdc k (by rcases List.mem_append.1 hk with h | h <;> simp [h])
        simp only [awpIx, ho] at hv
        have next : ∀ E' σ' a' w', awpIx S ops (pre ++ post) K E' σ' → AllDC S ops (pre ++ post) E' σ' → St C E' σ' a' w' → wpAnyIn (FW C.rdl) n S.P .any ops Q fuel (listed.setIfInBounds i true) a' w' := fun E' σ' a' w' h1 h2 h3 => by
          refine ih (listed.setIfInBounds i true) E' σ' a' w' (by simpa using hsz) ?_ ?_ (by rw [hset]; exact h1) (by rw [hset]; exact h2) h3
          · rw [hset]; rw [hsplit] at hle; simp at hle ⊢; omega
          · intro k ok hk hl e he hb
            have mono : ∀ q, listed.getD q false = true → (listed.setIfInBounds i true).getD q false = true := fun q hq => by
              simp only [Array.getD_eq_getD_getElem?] at hq ⊢
              by_cases hqi : q = i
              · subst hqi; simp [hsz, hlt]
              · rw [Array.getElem?_setIfInBounds_ne (Ne.symm hqi)]; exact hq
            refine mono _ ?_
            by_cases hki : k = i
            · subst hki; rw [ho] at hk; cases hk; exact hedges e he hb
            · refine hcl k ok hk ?_ e he hb
              simp only [Array.getD_eq_getD_getElem?] at hl ⊢
              rw [Array.getElem?_setIfInBounds_ne (Ne.symm hki)] at hl; exact hl
        obtain ⟨ρ, Im, M, hw⟩ := hs
        have clean : cls S.P o.op o.type = 1 ∨ cls S.P o.op o.type = 2 → ∀ k, k < 16 → Clean (16 * (S.b + o.dst.getD 99999) + k) E σ := fun hc k hk =>
          (hdc i (by simp) o ho (by rcases hc with h | h <;> simp [isNm, h]) (16 * (S.b + o.dst.getD 99999) + k) (by unfold nmO; omega)).1
        refine wpTurn_in ho (gop_sound (Kc := wpAnyIn (FW C.rdl) n S.P .any ops Q fuel (listed.setIfInBounds i true)) H hw hall (hall i o ho) false (bar ops i) (fun _ => clean)
          (gop_strong (X := AllDC S ops (pre ++ post)) (fun v bl hv => AllDC.step hall hd ho hnd' hdc' hv) hv) (fun E' σ' a' w' h1 h2 => next E' σ' a' w' h1.1 h1.2 h2) fun E' σ' a' w' h1 h2 => ?_)
        obtain ⟨E'', σ'', h3, h4, h5⟩ := struck_ok (l := pre ++ post) H (hat _) h1 h2
        exact next E'' σ'' a' w' h3 h4 h5
  have hrem0 : rem ops (Array.replicate ops.size false) = List.range' 0 ops.toList.length := by
    unfold rem
    rw [← List.range_eq_range', Array.length_toList, List.filter_eq_self]
    intro i hi; simp [List.mem_range.1 hi]
  exact key ops.size _ E1 σ1 a _ (by simp) (by unfold rem; exact Nat.le_trans (List.length_filter_le _ _) (by simp)) (fun i o ho h => by
      simp only [Array.getD_eq_getD_getElem?, Array.getElem?_replicate] at h; split at h <;> simp at h) (by rw [hrem0]; exact hv1) (by rw [hrem0]; exact hdc1) hs1
end
end Go.Vai
namespace Go.Vai
open Go.RowKit
variable {P : Program} {C : Fx} {w : World} {ρ : Nat → Option Nat} {Im : Nat → Prop} {M : Str} {E : Env} {σ : Store} {a : Act}
def topIds : List AV → List Nat
  | [] => []
  | .own id _ 0 _ :: r => id :: topIds r
  | .ptr id _ 0 0 :: r => id :: topIds r
  | _ :: r => topIds r
def topP (vs : List AV) : Nat → Bool := fun i => (topIds vs).contains i
def expo (σ : Store) (p : Nat → Bool) (v : AV) : AV :=
  match v with
  | .own id sz 0 n => match σ id with
    | some k => .new k.e sz (resL (res (killS p σ)) (k.es.take n))
    | none => .any
  | .ptr id sz 0 0 => match σ id with
    | some k => .nptr k.e sz (resL (res (killS p σ)) k.es)
    | none => .any
  | v => res (killS p σ) v
def expOK1 (σ : Store) (p : Nat → Bool) (v : AV) : Prop :=
  match v with
  | .own id sz 0 n => ∃ k, σ id = some k ∧ k.sz = sz ∧ n ≤ k.es.length ∧ AV.namesL p k.es = false
  | .ptr id sz 0 0 => ∃ k, σ id = some k ∧ k.sz = sz ∧ AV.namesL p k.es = false
  | v => AV.namesB p v = false
def expOK (σ : Store) (vs : List AV) : Prop := (topIds vs).Nodup ∧ ∀ v ∈ vs, expOK1 σ (topP vs) v
theorem content_of (hinv : Inv w ρ Im σ) {p : Nat → Bool} {id b : Nat} {k : Blk} (hk : σ id = some k) (hρ : ρ id = some b) (hz : k.sz ≠ 0) (hn : AV.namesL p k.es = false) (n : Nat) :
    Content w (Seen Im (killR p ρ)) k.e k.sz (resL (res (killS p σ)) (k.es.take n)) b := by
  obtain ⟨cur, hb, hl, hs, hc⟩ := hinv.blk id k b hk hρ hz
  have get : ∀ {i x}, (resL (res (killS p σ)) (k.es.take n))[i]? = some x → ∃ e, k.es[i]? = some e ∧ (x = res (killS p σ) e ∨ (x = e ∧ ∀ id, ¬ Names e id)) := fun {i x} h => by
    obtain ⟨e, he, hor⟩ := resL_get h
    rw [List.getElem?_take] at he
    split at he
    · exact ⟨e, he, hor⟩
    · cases he
  refine ⟨cur, hb, fun x hx => ?_, ?_, fun i x j c hi hcj => ?_⟩
  · obtain ⟨i, hi⟩ := List.mem_iff_getElem?.1 hx
    obtain ⟨e, he, hor⟩ := get hi
    rcases hor with rfl | ⟨rfl, _⟩
    · rw [show (res (killS p σ) e).cells.length = e.cells.length from resF_len 8 _ e]; exact hl e (List.mem_of_getElem? he)
    · exact hl _ (List.mem_of_getElem? he)
  · rw [resL_length]; simp only [List.length_take]
    exact Nat.le_trans (Nat.mul_le_mul_right _ (Nat.min_le_right _ _)) hs
  · obtain ⟨e, he, hor⟩ := get hi
    have hlen : x.cells.length = e.cells.length := by
      rcases hor with rfl | ⟨rfl, _⟩
      · exact resF_len 8 _ e
      · rfl
    have hj : j < e.cells.length := by rw [← hlen]; exact (List.getElem?_eq_some_iff.1 hcj).1
    obtain ⟨v, hv, h1, _⟩ := hc i e j _ he (List.getElem?_eq_getElem hj)
    refine ⟨v, hv, h1, ?_⟩
    have hrep : ∀ c0, e.cells[j]? = some c0 → Rep w (killR p ρ) Im c0 v := fun c0 hc0 => by
      obtain ⟨v', hv', _, hr⟩ := hc i e j c0 he hc0
      rw [hv] at hv'; cases hv'
      refine hr.killR fun id' hid => ?_
      cases hp : p id' with
      | false => rfl
      | true =>
        have := (AV.namesL_iff p k.es).2 ⟨e, List.mem_of_getElem? he, AV.namesB_of p (cells_names (List.mem_of_getElem? hc0) hid) hp⟩
        rw [hn] at this; cases this
    rcases hor with rfl | ⟨rfl, hnn⟩
    · exact resF_cell (hinv.kill p) 8 hcj hrep
    · exact (irep_of_nameless (hrep c hcj) fun id hid => hnn id (cells_names (List.mem_of_getElem? hcj) hid)).mono (fun b hb => .inl hb) (fun _ _ => rfl)
theorem expo_sound (hinv : Inv w ρ Im σ) {p : Nat → Bool} {v : AV} {y : Value} (hr : Rep w ρ Im v y) (hok : expOK1 σ p v) : ∃ ob, R1 w (Seen Im (killR p ρ)) (expo σ p v) y ob ∧ ∀ b, ob = some b → ∃ id, id ∈ topIds [v] ∧ ρ id = some b := by
  have other : (∀ id sz n, v ≠ .own id sz 0 n) → (∀ id sz, v ≠ .ptr id sz 0 0) → AV.namesB p v = false → expo σ p v = res (killS p σ) v → ∃ ob, R1 w (Seen Im (killR p ρ)) (expo σ p v) y ob ∧ ∀ b, ob = some b → ∃ id, id ∈ topIds [v] ∧ ρ id = some b := by
    intro h1 h2 hn he
    have hres := res_sound (hinv.kill p) (hr.killR (p := p) fun id hid => by
      cases hp : p id with
      | false => rfl
      | true => have := AV.namesB_of p hid hp; rw [hn] at this; cases this)
    refine ⟨none, ?_, fun b hb => by cases hb⟩
    rw [he]
    unfold R1
    split
    · rename_i e; rw [e] at hres; cases hres
    · rename_i e; rw [e] at hres; cases hres
    · exact ⟨rfl, hres⟩
  cases v with
  | own id sz i n =>
    cases i with
    | succ i => exact other (fun _ _ _ h => by cases h) (fun _ _ h => by cases h) hok rfl
    | zero =>
      obtain ⟨k, hk, rfl, hle, hn⟩ := hok
      have hex : expo σ p (.own id k.sz 0 n) = .new k.e k.sz (resL (res (killS p σ)) (k.es.take n)) := by simp only [expo, hk]
      rw [hex]
      have hlen : (resL (res (killS p σ)) (k.es.take n)).length = n := by rw [resL_length]; simp [Nat.min_eq_left hle]
      rcases hr.own0_inv with ⟨rfl, rfl, hρ⟩ | ⟨b, cap, cur, e, rfl, hρ, hnc, hcap, hb, hsz, hz⟩
      · exact ⟨none, .inl ⟨rfl, by simp [resL], rfl⟩, fun b hb => by cases hb⟩
      · refine ⟨some b, .inr ⟨b, cap, hz, rfl, by rw [hlen], by rw [hlen]; exact hnc, hcap, ⟨cur, ?_, hsz⟩, content_of hinv hk hρ hz hn n⟩, fun b' hb' => by cases hb'; exact ⟨id, by simp [topIds], hρ⟩⟩
        obtain ⟨cur2, hb2, _⟩ := hinv.blk id k b hk hρ hz
        obtain ⟨rfl, rfl⟩ := cells_uniq hb hb2; exact hb
  | ptr id sz i j =>
    cases i with
    | succ i => exact other (fun _ _ _ h => by cases h) (fun _ _ h => by cases h) hok rfl
    | zero =>
      cases j with
      | succ j => exact other (fun _ _ _ h => by cases h) (fun _ _ h => by cases h) hok rfl
      | zero =>
        obtain ⟨k, hk, rfl, hn⟩ := hok
        have hex : expo σ p (.ptr id k.sz 0 0) = .nptr k.e k.sz (resL (res (killS p σ)) k.es) := by simp only [expo, hk]
        rw [hex]
        cases hr with
        | im _ _ hr => cases hr
        | ptr _ _ _ _ b hρ hz =>
          have := content_of hinv hk hρ hz hn k.es.length
          rw [List.take_length] at this
          exact ⟨some b, ⟨b, hz, rfl, by simp, this⟩, fun b' hb' => by cases hb'; exact ⟨id, by simp [topIds], hρ⟩⟩
  | _ => exact other (fun _ _ _ h => by cases h) (fun _ _ h => by cases h) hok rfl
theorem expoL_sound (hinv : Inv w ρ Im σ) {p : Nat → Bool} : ∀ (vs : List AV) (ys : List Value), Reps w ρ Im vs ys → (∀ v ∈ vs, expOK1 σ p v) → (topIds vs).Nodup →
    ∃ obs, RL w (Seen Im (killR p ρ)) (vs.map (expo σ p)) ys obs ∧ (∀ b, some b ∈ obs → ∃ id ∈ topIds vs, ρ id = some b) ∧ obs.Pairwise fun x y => x = none ∨ x ≠ y
  | [], [], _, _, _ => ⟨[], trivial, fun b hb => by simp at hb, .nil⟩
  | [], y :: ys, h, _, _ => by simp [Reps] at h
  | v :: vs, [], h, _, _ => by simp [Reps] at h
  | v :: vs, y :: ys, h, hok, hnd => by
    obtain ⟨ob, h1, h2⟩ := expo_sound hinv (h.2 0 v y rfl rfl) (hok v (by simp))
    have htop : ∀ id, id ∈ topIds (v :: vs) ↔ id ∈ topIds [v] ∨ id ∈ topIds vs := fun id => by
      cases v with
      | own i s o n => cases o <;> simp [topIds]
      | ptr i s o j => cases o <;> cases j <;> simp [topIds]
      | _ => simp [topIds]
    have hnd' : (topIds vs).Nodup ∧ ∀ id, id ∈ topIds [v] → id ∉ topIds vs := by
      cases v with
      | own i s o n => cases o <;> simp_all [topIds]
      | ptr i s o j => cases o <;> cases j <;> simp_all [topIds]
      | _ => simp_all [topIds]
    obtain ⟨obs, h3, h4, h5⟩ := expoL_sound hinv vs ys ⟨by simpa using h.1, fun j c z hc hz => h.2 (j + 1) c z (by simpa using hc) (by simpa using hz)⟩ (fun x hx => hok x (by simp [hx])) hnd'.1
    refine ⟨ob :: obs, ⟨h1, h3⟩, fun b hb => ?_, List.pairwise_cons.2 ⟨fun x hx => ?_, h5⟩⟩
    · rcases List.mem_cons.1 hb with hb | hb
      · obtain ⟨id, hid, hρ⟩ := h2 b hb.symm; exact ⟨id, (htop id).2 (.inl hid), hρ⟩
      · obtain ⟨id, hid, hρ⟩ := h4 b hb; exact ⟨id, (htop id).2 (.inr hid), hρ⟩
    · cases ob with
      | none => exact .inl rfl
      | some b =>
        refine .inr fun e => ?_
        subst e
        obtain ⟨id, hid, hρ⟩ := h2 b rfl
        obtain ⟨id', hid', hρ'⟩ := h4 b hx
        have := hinv.inj id id' b hρ hρ'
        subst this
        exact hnd'.2 id hid hid'
def rvals (P : Program) (E : Env) (σ : Store) : List ResultVar → (List AV → Prop) → Prop
  | [], K => K []
  | .tmp t :: r, K => rvals P E σ r fun vs => K (E t :: vs)
  | .cell t ty :: r, K => cellsAt σ (E t) fun cs j => ∃ v, partOf P ty cs j v ∧ rvals P E σ r fun vs => K (v :: vs)
def AV.single : AV → Bool
  | .tup _ => false
  | .clo _ _ => false
  | _ => true
def retK (σ : Store) (R : AV → Prop) (vs : List AV) : Prop :=
  match vs with
  | [.clo g caps] => expOK σ caps ∧ R (.clo g (caps.map (expo σ (topP caps))))
  | [v] => v.single = true ∧ expOK σ [v] ∧ R (expo σ (topP [v]) v)
  | vs => expOK σ vs ∧ R (.tup (vs.map (expo σ (topP vs))))
def ResultVar.low (N : Nat) : ResultVar → Bool
  | .tmp t => decide (t < N)
  | .cell t _ => decide (t < N)
def readR (tm : Array Value) : ResultVar → Sem Value
  | .tmp t => pure (tm.getD t undef)
  | .cell t ty => do loadVar ty (← asAddr (tm.getD t undef))
theorem rvals_sound (hinv : Inv w ρ Im σ) {tm : Array Value} (henv : EnvRep w ρ Im E tm) : ∀ (l : List ResultVar) (K : List AV → Prop), (l.all (ResultVar.low tm.size)) = true → rvals P E σ l K →
    ∃ vs ys, K vs ∧ Reps w ρ Im vs ys ∧ (l.mapM (readR tm)).run P w = .ok ys w
  | [], K, _, h => ⟨[], [], h, ⟨rfl, fun j c y hc => by simp at hc⟩, by simp⟩
  | .tmp t :: r, K, hl, h => by
    simp only [List.all_cons, Bool.and_eq_true, ResultVar.low, decide_eq_true_eq] at hl
    obtain ⟨vs, ys, hK, hr, hrun⟩ := rvals_sound hinv henv r _ hl.2 h
    refine ⟨E t :: vs, tm.getD t undef :: ys, hK, ⟨by simp [hr.1], fun j c y hc hy => ?_⟩, by simp [Sem.run_bind, readR, hrun]⟩
    cases j with
    | zero => simp at hc hy; subst hc; rw [← hy]; exact henv t _ (by simp [hl.1])
    | succ j => exact hr.2 j c y (by simpa using hc) (by simpa using hy)
  | .cell t ty :: r, K, hl, h => by
    simp only [List.all_cons, Bool.and_eq_true, ResultVar.low, decide_eq_true_eq] at hl
    have ht := henv t (tm.getD t undef) (by simp [hl.1])
    obtain ⟨cs, j, b, o, zs, ⟨v, hp, h⟩, hy, hzr, hz1, hzc⟩ := cellsAt_sound hinv h ht
    obtain ⟨y, hload, hrep⟩ := load_sound (P := P) hp hzr hz1 hzc
    obtain ⟨vs, ys, hK, hr, hrun⟩ := rvals_sound hinv henv r _ hl.2 h
    refine ⟨v :: vs, y :: ys, hK, ⟨by simp [hr.1], fun j c z hc hz => ?_⟩, by simp [readR, hy, asAddr, hload, hrun]⟩
    cases j with
    | zero => simp at hc hz; subst hc; subst hz; exact hrep
    | succ j => exact hr.2 j c z (by simpa using hc) (by simpa using hz)
def initE (args : List AV) : Env := fun t => args.getD t (.v undef)
structure Rest (C : Fx) (E : Env) (σ : Store) (tm : Array Value) (w : World) (ρ : Nat → Option Nat) (Im : Nat → Prop) (M : Str) : Prop where
  inv : Inv w ρ Im σ
  env : EnvRep w ρ Im E tm
  size : tm.size = C.N
  ext : Ext C.w0 C.X0 w
  rng : ∀ id b, ρ id = some b → (C.X0 b ∧ C.R0 id b) ∨ C.w0.heap.size ≤ b
  im : ∀ b, Im b → C.Im0 b ∨ C.w0.heap.size ≤ b
  g : C.G (E C.N) M w
  gh : ∀ p, AV.namesB p (E C.N) = false
  js : ∀ b, M.j b → Im b
  ms : ∀ b, M.m b → b < w.heap.size ∧ (∀ id, ρ id ≠ some b) ∧ ¬ Im b ∧ (C.X0 b ∨ C.w0.heap.size ≤ b)
  pin : ∀ id ob, C.pin id = some ob → ρ id = ob
  j0 : ∀ b, C.J0 b → Im b
theorem rest_defers {S : Sp} (hG : GStable C.G) {fn : Func} {n : Nat} {R : Ending → World → Prop} {tm : Array Value} : ∀ (ds : List Deferred) (w : World), Rest C E σ tm w ρ Im M → ds.Nodup →
    (∀ d ∈ ds, ∃ D, d = stamp D ∧ w.heap[D]? = some (.deferred (some [])) ∧ C.w0.heap.size ≤ D ∧ (∀ id, ρ id ≠ some D) ∧ ¬ Im D ∧ ¬ M.m D) →
    (∀ w', Rest C E σ tm w' ρ Im M → ∃ v, (results fn tm).run S.P w' = .ok v w' ∧ R (.returned v) w') → LeavesInM (FW none) n S.P fn tm R ds .returning w
  | [], w, h, _, _, hR => hR w h
  | d :: ds, w, h, hnd, hd, hR => by
    obtain ⟨D, rfl, hD, hle, hρ, hI, hM⟩ := hd d (by simp)
    rw [List.nodup_cons] at hnd
    refine ⟨by simp, .inl ⟨D, _, rfl, run_takeDeferred hD, ?_⟩⟩
    have hoth : ∀ k, k ≠ D → (w.putObj D (.deferred none)).heap[k]? = w.heap[k]? := fun k hk => World.putObj_heap_other hk
    have rep : ∀ {v : AV} {y : Value}, Rep w ρ Im v y → Rep (w.putObj D (.deferred none)) ρ Im v y := fun {v y} hr =>
      Rep.mono (w := w) (w' := w.putObj D (.deferred none)) (fun _ h => h) (fun b hb => hoth b fun e => hI (e ▸ hb)) hr fun i _ => ⟨rfl, fun b hb cur e hc => ⟨cur, by rw [hoth b fun e => hρ i (e ▸ hb)]; exact hc, rfl⟩⟩
    refine rest_defers hG ds _ ⟨⟨h.inv.nil, fun i k b hk hb hz => ?_, fun i k b hk hb hz => ?_, h.inv.inj, h.inv.live, h.inv.apart, fun b hb => by simpa using h.inv.low b hb⟩, fun t y hy => rep (h.env t y hy), h.size,
      h.ext.trans ⟨rfl, rfl, rfl, by simp, fun k _ hk => hoth k hk⟩ (fun b hb => .inr (by subst hb; exact hle)), h.rng, h.im, hG _ _ _ _ h.g (fun k hk => hoth k fun e => by
        rcases hk with hk | hk
        · exact hM (e ▸ hk)
        · exact hI (e ▸ h.js k hk)) (by simp) rfl rfl rfl, h.gh, h.js, fun b hb => by simpa using h.ms b hb, h.pin, h.j0⟩ hnd.2 (fun d' hd' => ?_) hR
    · obtain ⟨ents, clk, hbb, hl, hc⟩ := h.inv.map i k b hk hb hz
      exact ⟨ents, clk, by rw [hoth b fun e => hρ i (e ▸ hb)]; exact hbb, hl, fun i m hm => by obtain ⟨v, hv, hr⟩ := hc i m hm; exact ⟨v, hv, rep hr⟩⟩
    · obtain ⟨cur, hbb, hl, hs, hc⟩ := h.inv.blk i k b hk hb hz
      exact ⟨cur, by rw [hoth b fun e => hρ i (e ▸ hb)]; exact hbb, hl, hs, fun i e j c he hcc => by obtain ⟨v, hv, h1, hr⟩ := hc i e j c he hcc; exact ⟨v, hv, h1, rep hr⟩⟩
    · obtain ⟨D', e', hD', rest⟩ := hd d' (by simp [hd'])
      refine ⟨D', e', ?_, rest⟩
      rw [hoth D' fun e => by subst e; subst e'; exact hnd.1 hd']; exact hD'
end Go.Vai
namespace Go.Vai
open Go.RowKit
variable {P : Program} {C : Fx} {w : World} {ρ : Nat → Option Nat} {Im : Nat → Prop} {M : Str} {E : Env} {σ : Store} {a : Act}
theorem Content.mono {Im' : Nat → Prop} {e sz b : Nat} {es : List AV} (h : Content w Im e sz es b) (hI : ∀ b, Im b → Im' b) : Content w Im' e sz es b := by
  obtain ⟨cur, h1, h2, h3, hc⟩ := h
  exact ⟨cur, h1, h2, h3, fun i x j c hx hcx => by obtain ⟨v, hv, ho, hr⟩ := hc i x j c hx hcx; exact ⟨v, hv, ho, hr.mono hI (fun _ _ => rfl)⟩⟩
theorem R1.mono {Im' : Nat → Prop} {r : AV} {y : Value} {ob : Option Nat} (h : R1 w Im r y ob) (hI : ∀ b, Im b → Im' b) : R1 w Im' r y ob := by
  cases r with
  | new e sz es =>
    rcases h with h | ⟨b, cap, h0, h1, h2, h3, h4, h5, h6⟩
    · exact .inl h
    · exact .inr ⟨b, cap, h0, h1, h2, h3, h4, h5, h6.mono hI⟩
  | nptr e sz es => obtain ⟨b, h0, h1, h2, h3⟩ := h; exact ⟨b, h0, h1, h2, h3.mono hI⟩
  | _ => exact ⟨h.1, h.2.mono hI (fun _ _ => rfl)⟩
theorem RL.mono {Im' : Nat → Prop} (hI : ∀ b, Im b → Im' b) : ∀ {rs : List AV} {ys : List Value} {obs : List (Option Nat)}, RL w Im rs ys obs → RL w Im' rs ys obs
  | [], [], [], _ => trivial
  | _ :: _, _ :: _, _ :: _, h => ⟨h.1.mono hI, RL.mono hI h.2⟩
theorem resF_single (n : Nat) (σ : Store) {v : AV} (h : v.single = true) : (resF n σ v).single = true := by
  cases n with
  | zero =>
    simp only [resF, AV.kill]
    split
    · cases v with
      | tup => cases h
      | clo => cases h
      | own a s i n => simp only [AV.dk]; split <;> rfl
      | ptr a s i n => simp only [AV.dk]; split <;> rfl
      | mref a => simp only [AV.dk]; split <;> rfl
      | _ => rfl
    · exact h
  | succ n => cases v with
    | tup => cases h
    | clo => cases h
    | own a s i n => simp only [resF, resOwn]; split <;> (try split) <;> rfl
    | ptr a s i n => simp only [resF, resPtr, resE]; split <;> (try split) <;> (try split) <;> rfl
    | mref a => simp only [resF, resMap]; split <;> (try split) <;> rfl
    | _ => rfl
theorem expo_single {p : Nat → Bool} {v : AV} (h : v.single = true) : (expo σ p v).single = true := by
  unfold expo
  split
  · split <;> rfl
  · split <;> rfl
  · exact resF_single 8 _ h
theorem ret_sound {tm : Array Value} (h : Rest C E σ tm w ρ Im M) (hX : ∀ b, ¬ C.X0 b) (hlow0 : ∀ b, C.Im0 b → b < C.w0.heap.size) {vs : List AV} {ys : List Value} (hr : Reps w ρ Im vs ys) {R : AV → Prop} (hk : retK σ R vs) :
    ∃ r, R r ∧ RRep C.w0 w C.Im0 r (if h : ys.toArray.size = 1 then ys.toArray[0] else .tuple ys.toArray) := by
  have low : ∀ p b, Seen Im (killR p ρ) b → C.Im0 b ∨ (C.w0.heap.size ≤ b ∧ b < w.heap.size) := fun p b hb => by
    rcases hb with hb | ⟨id, hb⟩
    · rcases h.im b hb with h' | h'
      · exact .inl h'
      · exact .inr ⟨h', h.inv.low b hb⟩
    · have hb := (killR_some hb).2
      rcases h.rng id b hb with h' | h'
      · exact absurd h'.1 (hX b)
      · exact .inr ⟨h', h.inv.lt hb⟩
  have fresh : ∀ (us : List AV) (obs : List (Option Nat)), (∀ b, some b ∈ obs → ∃ id ∈ topIds us, ρ id = some b) → obs.Pairwise (fun x y => x = none ∨ x ≠ y) →
      Fresh C.w0.heap.size (fun b => C.Im0 b ∨ Seen Im (killR (topP us) ρ) b) obs := fun us obs h1 h2 => by
    refine ⟨fun b hb => ?_, h2⟩
    obtain ⟨id, hid, hρ⟩ := h1 b hb
    have hge : C.w0.heap.size ≤ b := by
      rcases h.rng id b hρ with h' | h'
      · exact absurd h'.1 (hX b)
      · exact h'
    refine ⟨hge, fun hI => ?_⟩
    rcases hI with hI | hI | ⟨id', hI⟩
    · have := hlow0 b hI; omega
    · exact h.inv.apart id b hρ hI
    · obtain ⟨hp, hI⟩ := killR_some hI
      have := h.inv.inj id id' b hρ hI
      subst this
      simp [topP, hid] at hp
  have hmk : ∀ p, ∃ Im' : Nat → Prop, Im' = fun b => C.Im0 b ∨ Seen Im (killR p ρ) b := fun p => ⟨_, rfl⟩
  have sub : ∀ (us : List AV) b, (C.Im0 b ∨ Seen Im (killR (topP us) ρ) b) → C.Im0 b ∨ (C.w0.heap.size ≤ b ∧ b < w.heap.size) := fun us b hb => by
    rcases hb with hb | hb
    · exact .inl hb
    · exact low _ b hb
  have many : ∀ us : List AV, expOK σ us → ∀ zs, Reps w ρ Im us zs → ∃ obs, RL w (fun b => C.Im0 b ∨ Seen Im (killR (topP us) ρ) b) (us.map (expo σ (topP us))) zs obs ∧ Fresh C.w0.heap.size (fun b => C.Im0 b ∨ Seen Im (killR (topP us) ρ) b) obs := fun us hok zs hz => by
    obtain ⟨obs, h1, h2, h3⟩ := expoL_sound h.inv (p := topP us) us zs hz hok.2 hok.1
    exact ⟨obs, h1.mono fun b hb => .inr hb, fresh us obs h2 h3⟩
  unfold retK at hk
  split at hk
  · rename_i g caps
    obtain ⟨hok, hR⟩ := hk
    obtain ⟨y, rfl⟩ : ∃ y, ys = [y] := by
      have := hr.1; match ys, this with | [y], _ => exact ⟨y, rfl⟩
    obtain ⟨cys, rfl, hcl, hcr⟩ := (hr.2 0 _ y rfl rfl).clo_inv
    obtain ⟨obs, h1, h2⟩ := many caps hok cys ⟨hcl, hcr⟩
    exact ⟨_, hR, _, fun b hb => .inl hb, sub caps, cys, obs, by simp, h1, h2⟩
  · rename_i v hv
    obtain ⟨hsg, hok, hR⟩ := hk
    obtain ⟨y, rfl⟩ : ∃ y, ys = [y] := by
      have := hr.1; match ys, this with | [y], _ => exact ⟨y, rfl⟩
    obtain ⟨obs, h1, h2⟩ := many [v] hok [y] hr
    obtain ⟨ob, rfl⟩ : ∃ ob, obs = [ob] := by
      match obs, h1 with | [ob], _ => exact ⟨ob, rfl⟩
    have hsg' := expo_single (σ := σ) (p := topP [v]) hsg
    refine ⟨_, hR, _, fun b hb => .inl hb, sub [v], ?_⟩
    have h1 := h1.1
    simp only [List.size_toArray, List.length_cons, List.length_nil, Nat.zero_add, dite_true]
    generalize expo σ (topP [v]) v = r at *
    cases r with
    | tup => cases hsg'
    | clo => cases hsg'
    | _ => exact ⟨ob, by simpa using h1, h2⟩
  · rename_i hn1 hn2
    obtain ⟨hok, hR⟩ := hk
    obtain ⟨obs, h1, h2⟩ := many vs hok ys hr
    have hne : ys.toArray.size ≠ 1 := by
      simp only [List.size_toArray, ← hr.1]
      intro hl
      match vs, hl, hn2 with | [v], _, hn2 => exact hn2 v rfl
    rw [dif_neg hne]
    exact ⟨_, hR, _, fun b hb => .inl hb, sub vs, ys, obs, rfl, h1, h2⟩
theorem results_run {fn : Func} {tm : Array Value} {ys : List Value} (h : (fn.results.toList.mapM (readR tm)).run P w = .ok ys w) :
    (results fn tm).run P w = .ok (if h : ys.toArray.size = 1 then ys.toArray[0] else .tuple ys.toArray) w := by
  have : results fn tm = (do let vs ← fn.results.mapM (readR tm); pure (if h : vs.size = 1 then vs[0] else .tuple vs)) := by
    unfold results readR; congr 1
  rw [this, Array.mapM_eq_mapM_toList]
  simp only [map_eq_pure_bind, Sem.run_bind, h, Result.andThen_ok, Sem.run_pure]
theorem gstable_true : GStable (fun _ _ _ => True) := fun _ _ _ _ _ _ _ _ _ _ => trivial
def retG (P : Program) (fn : Func) (K : List AV → Env → Store → Prop) : Exit → Env → Store → Prop
  | .normal => fun E σ => rvals P E σ fn.results.toList fun vs => K vs E σ
  | .ret => fun E σ => rvals P E σ fn.results.toList fun vs => K vs E σ
  | _ => fun _ _ => False
def handed (ys : List Value) : Value := if h : ys.toArray.size = 1 then ys.toArray[0] else .tuple ys.toArray
theorem body_sound {S : Sp} {f : FuncId} {fn : Func} {c : Code} {E0 : Env} {vs : List Value} {σ0 : Store} {ρ0 : Nat → Option Nat} {Im0 : Nat → Prop} {M0 : Str} {K : List AV → Env → Store → Prop} {R : Ending → World → Prop}
    (H : Holds S C) (hrd : C.rd = none) (hf : S.P.funcs[f]? = some fn) (hb : fn.body = some c) (hN : C.N = fn.ntmps) (hok : codeOK S.P fn.ntmps S.bad c = true)
    (hres : fn.results.toList.all (ResultVar.low fn.ntmps) = true)
    (hw : Wit C E0 σ0 { tmps := vs.toArray ++ Array.replicate (fn.ntmps - vs.toArray.size) undef, defers := [] } w ρ0 Im0 M0)
    (hawp : awp S c (retG S.P fn K) E0 σ0)
    (hpost : ∀ E σ tm w' ρ Im M us ys, K us E σ → Rest C E σ tm w' ρ Im M → Reps w' ρ Im us ys → R (.returned (handed ys)) w') : Calls S.P f vs.toArray w R := by
  have hcall : CallsIn (FW none) 0 S.P f vs.toArray w R := by
    refine callsIn_of_wp_marks hf hb trivial ?_ rfl
    have hrdl : C.rdl = none := by unfold Fx.rdl; rw [hrd]; rfl
    have := awp_sound H (draw_sound H) (n := 0) c _ _ _ (by rw [H.N, hN]; exact hok) hawp (bodyPostM (FW none) 0 S.P fn R) (fun e E σ a w' hq hs => ?_) _ w ⟨ρ0, Im0, M0, hw⟩
    · rw [hrdl] at this; exact this
    · have fin : (rvals S.P E σ fn.results.toList fun vs => K vs E σ) → LeavesInM (FW none) 0 S.P fn a.tmps R a.defers .returning w' := fun hq => by
        obtain ⟨ρ, I, M, hw⟩ := hs
        refine rest_defers (C := C) (E := E) (σ := σ) (ρ := ρ) (Im := I) (M := M) H.G a.defers w' ⟨hw.inv, hw.env, hw.size, hw.ext, hw.rng, hw.im, hw.g, hw.gh, hw.js, hw.ms, hw.pin, hw.j0⟩ hw.nodup (fun d hd => ?_) (fun w2 hrest => ?_)
        · obtain ⟨D, e, hD, hle⟩ := hw.df d hd
          have hbk := hw.bk D (.inr (e ▸ hd))
          exact ⟨D, e, hD, hle, hbk⟩
        · obtain ⟨us, ys, hk, hr, hrun⟩ := rvals_sound (P := S.P) hrest.inv hrest.env fn.results.toList _ (by rw [hrest.size, hN]; exact hres) hq
          exact ⟨_, results_run hrun, hpost E σ _ w2 ρ I M us ys hk hrest hr⟩
      cases e with
      | normal => exact fin hq
      | ret => exact fin hq
      | exit id => exact hq.elim
      | goto l => exact hq.elim
      | panic ch => exact hq.elim
      | outgrown => exact hq.elim
  have : CallsIn Fence.wide 0 S.P f vs.toArray w R := hcall
  exact callsIn_wide.1 this
theorem env_init {args : List AV} {vs : List Value} {N : Nat} (h : Reps w ρ Im args vs) : EnvRep w ρ Im (initE args) (vs.toArray ++ Array.replicate (N - vs.toArray.size) undef) := by
  intro t y hy
  have hsz : vs.length = args.length := h.1.symm
  rw [Array.getElem?_append] at hy
  simp only [List.size_toArray, List.getElem?_toArray] at hy
  simp only [initE]
  split at hy
  · rename_i hlt
    have hlt' : t < args.length := by omega
    have := h.2 t args[t] y (List.getElem?_eq_getElem hlt') hy
    rw [List.getD_eq_getElem?_getD, List.getElem?_eq_getElem hlt']
    exact this
  · rename_i hge
    rw [Array.getElem?_replicate] at hy
    split at hy
    · simp at hy; subst hy
      rw [List.getD_eq_getElem?_getD, List.getElem?_eq_none (by omega)]
      exact .im _ _ (.v _)
    · cases hy
theorem initE_out (args : List AV) (N : Nat) (h : args.length ≤ N) : initE args N = .v undef := by
  simp only [initE]; rw [List.getD_eq_getElem?_getD, List.getElem?_eq_none (by omega)]; rfl
theorem enters {P : Program} {f : FuncId} {fn : Func} {c : Code} (hf : P.funcs[f]? = some fn) (hb : fn.body = some c) (hn : (fn.name == "runtime.NumGoroutine") = false) (as : Array Value) (w : World) :
    (callFunc f as).run P w = .ok (.enter f as) w := by
  have hn' : ¬ fn.name = "runtime.NumGoroutine" := by simpa using hn
  simp [callFunc, program, Sem.run, Sem.run_bind, hf, hb, hn', Result.andThen]
def fnOK (P : Program) (fn : Func) (c : Code) : Bool :=
  codeOK P fn.ntmps noBad c && fn.results.toList.all (ResultVar.low fn.ntmps) && !(fn.name == "runtime.NumGoroutine") && decide (fn.ntmps ≤ 99999)
def spOf (P : Program) (f : FuncId) (N : Nat) : Sp := { P, N, b := 131072 * (f + 1), pin := fun _ => false, yl := 0, Y := fun _ _ _ => False, old := fun _ => false }
theorem fnOK_spec {P : Program} {fn : Func} {c : Code} (h : fnOK P fn c = true) : codeOK P fn.ntmps noBad c = true ∧ fn.results.toList.all (ResultVar.low fn.ntmps) = true ∧ (fn.name == "runtime.NumGoroutine") = false ∧ fn.ntmps ≤ 99999 := by
  simp only [fnOK, Bool.and_eq_true, Bool.not_eq_true', decide_eq_true_eq] at h
  exact ⟨h.1.1.1, h.1.1.2, h.1.2, h.2⟩
theorem ev_core {P : Program} {f : FuncId} {fn : Func} {c : Code} {args : List AV} {r : AV} {B : Nat → Bool} (hf : P.funcs[f]? = some fn) (hb : fn.body = some c) (h1 : codeOK P fn.ntmps B c = true) (h2 : fn.results.toList.all (ResultVar.low fn.ntmps) = true) (h3 : (fn.name == "runtime.NumGoroutine") = false) (h4 : fn.ntmps ≤ 99999) (hmo : P.follows .mixedOrders = true)
    (hlen : args.length ≤ fn.ntmps) (h : awp { spOf P f fn.ntmps with bad := B } c (retG P fn fun vs _ σ => retK σ (· = r) vs) (initE args) fun _ => none) : Ev P f args r := by
  intro args' r0 he
  rw [he.1, he.2]
  refine ⟨enters hf hb h3, fun w Im vs hlow hgk hargs => ?_⟩
  let C : Fx := { w0 := w, X0 := fun _ => False, Im0 := Im, G := fun _ _ _ => True, N := fn.ntmps, rd := none, pin := fun _ => none, J0 := Im }
  have H : Holds ({ spOf P f fn.ntmps with bad := B }) C := ⟨rfl, gstable_true, fun _ _ _ hY => hY.elim, hmo, fun _ _ hp => (by cases hp), fun _ hp => (by cases hp), h4, fun _ => rfl, fun _ _ h _ => h.elim, hgk, fun b hb => ⟨fun h => h, hlow b (hgk.im hb)⟩, (fun h => by cases h)⟩
  have hreps : Reps w (fun _ => none) Im args vs := ⟨hargs.1, fun j c y hc hy => .im _ _ (hargs.2 j c y hc hy)⟩
  refine body_sound (E0 := initE args) (S := { spOf P f fn.ntmps with bad := B }) (C := C) (ρ0 := fun _ => none) (Im0 := Im) (M0 := ⟨fun _ => False, fun _ => False⟩) H rfl hf hb rfl h1 h2 ?_ h fun E σ tm w' ρ I M us ys hk hrest hr => ?_
  · refine ⟨⟨fun id k hk => (by cases hk), fun id k b hk => (by cases hk), fun id k b hk => (by cases hk), fun i j b hi => (by cases hi), fun i b hi => (by cases hi), fun i b hi => (by cases hi), hlow⟩, env_init hreps, ?_, Ext.refl _ _, fun i b hi => (by cases hi), fun b hb => .inl hb, fun p => ?_, trivial, fun b hb => hb.elim, fun b hb => hb.elim, fun l r hr => (by cases hr), .nil, fun d hd => (by cases hd), fun b hb => ?_, fun id b hb => (by cases hb), fun b hb => hb⟩
    · simp only [Array.size_append, List.size_toArray, Array.size_replicate]
      have := hargs.1
      show vs.length + (fn.ntmps - vs.length) = fn.ntmps
      omega
    · show AV.namesB p (initE args fn.ntmps) = false
      rw [initE_out args _ hlen]; rfl
    · rcases hb with ⟨r, hr⟩ | hd
      · cases hr
      · cases hd
  · obtain ⟨r', rfl, hrr⟩ := ret_sound hrest (fun _ h => h) hlow hr hk
    exact ⟨_, rfl, hrest.ext, hrr⟩
theorem ev_of_awp {P : Program} {f : FuncId} {fn : Func} {c : Code} {args : List AV} {r : AV} (hf : P.funcs[f]? = some fn) (hb : fn.body = some c) (hok : fnOK P fn c = true) (hmo : P.follows .mixedOrders = true)
    (hlen : args.length ≤ fn.ntmps) (h : awp (spOf P f fn.ntmps) c (retG P fn fun vs _ σ => retK σ (· = r) vs) (initE args) fun _ => none) : Ev P f args r := by
  obtain ⟨h1, h2, h3, h4⟩ := fnOK_spec hok
  exact ev_core hf hb h1 h2 h3 h4 hmo hlen h
end Go.Vai

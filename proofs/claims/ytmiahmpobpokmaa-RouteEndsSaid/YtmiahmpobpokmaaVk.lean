/- Contracts of functions, and calls. -/
import Derived.Test.YtmiahmpobpokmaaVj
namespace Go.Vai
open Go.RowKit

variable {P : Program} {C : Fx} {w : World} {ρ : Nat → Option Nat} {Im : Nat → Prop} {M : Str} {E : Env} {σ : Store} {a : Act}

def allB : Nat → Bool := fun _ => true

/-- A value as it may be handed on: what is written of now is seen as it stands. -/
def resL (f : AV → AV) (es : List AV) : List AV := if AV.namesL allB es = true then es.map f else es
def resOwn (f : AV → AV) (b : Option Blk) (sz i m : Nat) : AV := match b with
  | some k => if i + m ≤ k.es.length ∧ k.sz = sz then .sl sz (((resL f k.es).drop i).take m) else .any
  | none => .any
def resE (f : AV → AV) (o : Option AV) (j : Nat) : AV := match o with
  | some e => .pt (f e) j
  | none => .any
def resPtr (f : AV → AV) (b : Option Blk) (sz i j : Nat) : AV := match b with
  | some k => if k.sz = sz then resE f k.es[i]? j else .any
  | none => .any
def resMap (f : AV → AV) (b : Option Blk) : AV := match b with
  | some k => if k.sz = 0 then .mp (resL f k.es) else .any
  | none => .any
def resF : Nat → Store → AV → AV
  | 0, _, x => x.kill allB
  | n + 1, σ, x => match x with
    | .own id sz i m => resOwn (resF n σ) (σ id) sz i m
    | .ptr id sz i j => resPtr (resF n σ) (σ id) sz i j
    | .mref id => resMap (resF n σ) (σ id)
    | .agg cs => .agg (resL (resF n σ) cs)
    | .tup cs => .tup (resL (resF n σ) cs)
    | .clo g cs => .clo g (resL (resF n σ) cs)
    | x => x
def res (σ : Store) (x : AV) : AV := resF 8 σ x

theorem irep_of_nameless {x : AV} {y : Value} (h : Rep w ρ Im x y) (hn : ∀ id, ¬ Names x id) : IRep w Im x y := by
  induction h with
  | im _ _ h => exact h
  | agg cs ys hl h1 _ ih => exact .agg cs ys hl h1 fun j c y hc hy => ih j c y hc hy fun id hid => hn id (.agg cs c id (List.mem_of_getElem? hc) hid)
  | tup cs ys hl _ ih => exact .tup cs ys hl fun j c y hc hy => ih j c y hc hy fun id hid => hn id (.tup cs c id (List.mem_of_getElem? hc) hid)
  | clo g cs ys hl _ ih => exact .clo g cs ys hl fun j c y hc hy => ih j c y hc hy fun id hid => hn id (.clo g cs c id (List.mem_of_getElem? hc) hid)
  | ownNil id => exact absurd (.own ..) (hn id)
  | own id => exact absurd (.own ..) (hn id)
  | ownAt id => exact absurd (.own ..) (hn id)
  | ptr id => exact absurd (.ptr ..) (hn id)
  | mref id => exact absurd (.mref ..) (hn id)

theorem kill_all_nameless (x : AV) (id : Nat) : ¬ Names (x.kill allB) id := fun h => by
  have := (AV.kill_names allB x id h).2; simp [allB] at this

/-- All that is known, fixed or written. -/
def Seen (Im : Nat → Prop) (ρ : Nat → Option Nat) : Nat → Prop := fun b => Im b ∨ ∃ id, ρ id = some b


theorem resL_get {f : AV → AV} {es : List AV} {i : Nat} {c : AV} (h : (resL f es)[i]? = some c) : ∃ e, es[i]? = some e ∧ (c = f e ∨ (c = e ∧ ∀ id, ¬ Names e id)) := by
  unfold resL at h
  split at h
  · rw [List.getElem?_map] at h
    cases he : es[i]? with
    | none => simp [he] at h
    | some e => simp [he] at h; exact ⟨e, rfl, .inl h.symm⟩
  · rename_i hn
    exact ⟨c, h, .inr ⟨rfl, fun id hid => hn ((AV.namesL_iff _ _).2 ⟨c, List.mem_of_getElem? h, AV.namesB_of allB hid rfl⟩)⟩⟩

theorem resL_length (f : AV → AV) (es : List AV) : (resL f es).length = es.length := by unfold resL; split <;> simp

def AV.isAgg : AV → Bool | .agg _ => true | _ => false

theorem cells_one {e : AV} (h : e.isAgg = false) : e.cells = [e] := by cases e <;> first | rfl | cases h

theorem dk_isAgg (p : Nat → Bool) {e : AV} (h : e.isAgg = false) : (AV.dk p e).isAgg = false := by
  cases e with
  | agg cs => cases h
  | own a s i n => simp only [AV.dk]; split <;> rfl
  | ptr a s i n => simp only [AV.dk]; split <;> rfl
  | mref a => simp only [AV.dk]; split <;> rfl
  | _ => rfl

theorem resF_isAgg (n : Nat) (σ : Store) {e : AV} (h : e.isAgg = false) : (resF n σ e).isAgg = false := by
  cases n with
  | zero => simp only [resF, AV.kill]; split; exact dk_isAgg _ h; exact h
  | succ n => cases e with
    | agg cs => cases h
    | own a s i n => simp only [resF, resOwn]; split <;> (try split) <;> rfl
    | ptr a s i n => simp only [resF, resPtr, resE]; split <;> (try split) <;> (try split) <;> rfl
    | mref a => simp only [resF, resMap]; split <;> (try split) <;> rfl
    | _ => rfl

theorem resF_len (n : Nat) (σ : Store) (e : AV) : (resF n σ e).cells.length = e.cells.length := by
  cases he : e.isAgg with
  | false => rw [cells_one he, cells_one (resF_isAgg n σ he)]; rfl
  | true => cases e with
    | agg cs => cases n with
      | zero => simp only [resF, AV.kill]; split <;> simp [AV.dk, AV.dkL_eq]
      | succ n => simp [resF, resL_length]
    | _ => cases he

theorem resF_both (hinv : Inv w ρ Im σ) : ∀ n : Nat, (∀ x y, Rep w ρ Im x y → IRep w (Seen Im ρ) (resF n σ x) y) ∧
    ∀ (e : AV) (j : Nat) (c : AV) (x : Value), (resF n σ e).cells[j]? = some c → (∀ c0, e.cells[j]? = some c0 → Rep w ρ Im c0 x) → IRep w (Seen Im ρ) c x := by
  have hmono : ∀ {x y}, IRep w Im x y → IRep w (Seen Im ρ) x y := fun h => h.mono (fun b hb => .inl hb) (fun _ _ => rfl)
  have nameless : ∀ {x y}, Rep w ρ Im x y → (∀ id, ¬ Names x id) → IRep w (Seen Im ρ) x y := fun h hn => hmono (irep_of_nameless h hn)
  have plain : ∀ {x y}, Rep w ρ Im x y → IRep w (Seen Im ρ) (x.kill allB) y := fun {x y} h => nameless (h.kill allB) (kill_all_nameless x)
  intro n
  induction n with
  | zero =>
    refine ⟨fun x y h => plain h, fun e j c x hc h => ?_⟩
    simp only [resF, AV.kill] at hc
    split at hc
    · rw [AV.dk_cells, List.getElem?_map] at hc
      cases hcs : e.cells[j]? with
      | none => simp [hcs] at hc
      | some c0 => simp [hcs] at hc; subst hc; exact nameless ((h c0 hcs).dk allB) fun id hid => by have := (AV.dk_names allB c0 id hid).2; simp [allB] at this
    · rename_i hn
      exact nameless (h c hc) fun id hid => hn (AV.namesB_of allB (cells_names (List.mem_of_getElem? hc) hid) rfl)
  | succ n ih =>
    obtain ⟨ih1, ih2⟩ := ih
    -- a member of a list that is handed on
    have memb : ∀ {es : List AV} {j : Nat} {c : AV} {x : Value}, (resL (resF n σ) es)[j]? = some c → (∀ e, es[j]? = some e → Rep w ρ Im e x) → IRep w (Seen Im ρ) c x := fun hc h => by
      obtain ⟨e, he, hor⟩ := resL_get hc
      rcases hor with rfl | ⟨rfl, hn⟩
      · exact ih1 e _ (h e he)
      · exact nameless (h _ he) hn
    have main : ∀ x y, Rep w ρ Im x y → IRep w (Seen Im ρ) (resF (n + 1) σ x) y := by
      intro x y h
      cases x with
      | own id sz i m =>
        simp only [resF]
        unfold resOwn
        split
        · rename_i k hk
          split
          · rename_i hcond
            obtain ⟨hle, rfl⟩ := hcond
            have hlen : (((resL (resF n σ) k.es).drop i).take m).length = m := by rw [List.length_take, List.length_drop, resL_length]; omega
            have go : ∀ b cap (ad : Option Addr), ρ id = some b → k.sz ≠ 0 → (m ≠ 0 → ad = some ⟨b, i * k.sz, none⟩) → m ≤ cap → y = .slice ad m cap → IRep w (Seen Im ρ) (.sl k.sz (((resL (resF n σ) k.es).drop i).take m)) y := by
              rintro b cap ad hρ hz had hn rfl
              by_cases h0 : m = 0
              · subst h0; simp only [List.take_zero]; exact .slnil ..
              · rw [had h0]
                obtain ⟨cur, hb, hl, hs, hc⟩ := hinv.blk id k b hk hρ hz
                have elems : ∀ q : Nat, q < m → ∃ e e0 : AV, (((resL (resF n σ) k.es).drop i).take m)[q]? = some e ∧ k.es[i + q]? = some e0 ∧ (e = resF n σ e0 ∨ (e = e0 ∧ ∀ id, ¬ Names e0 id)) := fun q hq => by
                  have hlt : i + q < (resL (resF n σ) k.es).length := by rw [resL_length]; omega
                  obtain ⟨e0, he0, hor⟩ := resL_get (List.getElem?_eq_getElem hlt)
                  exact ⟨_, e0, by rw [List.getElem?_take, if_pos hq, List.getElem?_drop]; exact List.getElem?_eq_getElem hlt, he0, hor⟩
                have elen : ∀ (q : Nat) (e : AV), (((resL (resF n σ) k.es).drop i).take m)[q]? = some e → e.cells.length = k.sz := fun q e he => by
                  have hq : q < m := by rw [← hlen]; exact (List.getElem?_eq_some_iff.1 he).1
                  obtain ⟨e', e0, h1, h2, hor⟩ := elems q hq
                  rw [he] at h1; cases h1
                  rcases hor with rfl | ⟨rfl, _⟩
                  · rw [resF_len]; exact hl e0 (List.mem_of_getElem? h2)
                  · exact hl _ (List.mem_of_getElem? h2)
                have := IRep.sl (w := w) (Im := Seen Im ρ) k.sz (((resL (resF n σ) k.es).drop i).take m) b (i * k.sz) cap (fun q j => (cur[(i + q) * k.sz + j]?).getD undef) (.inr ⟨id, hρ⟩) (by rw [hlen]; exact hn)
                  (fun e he => by obtain ⟨q, hq⟩ := List.mem_iff_getElem?.1 he; exact elen q e hq) (fun q j hq hj => by
                    rw [hlen] at hq
                    obtain ⟨e', e0, h1, h2, hor⟩ := elems q hq
                    have hj' : j < e0.cells.length := by rw [hl e0 (List.mem_of_getElem? h2)]; exact hj
                    obtain ⟨v, hv, h1, _⟩ := hc (i + q) e0 j _ h2 (List.getElem?_eq_getElem hj')
                    have e1 : i * k.sz + q * k.sz + j = (i + q) * k.sz + j := by rw [Nat.add_mul]
                    rw [e1, cell_of_row w b _ cur k.e (0, 0) hb, hv]
                    exact ⟨rfl, h1⟩)
                  (fun q e j c he hcc => by
                    have hq : q < m := by rw [← hlen]; exact (List.getElem?_eq_some_iff.1 he).1
                    obtain ⟨e', e0, h1, h2, hor⟩ := elems q hq
                    rw [he] at h1; cases h1
                    have hval : ∀ c0, e0.cells[j]? = some c0 → Rep w ρ Im c0 ((cur[(i + q) * k.sz + j]?).getD undef) := fun c0 hc0 => by
                      obtain ⟨v, hv, _, hr⟩ := hc (i + q) e0 j c0 h2 hc0
                      simpa [hv] using hr
                    rcases hor with rfl | ⟨rfl, hn⟩
                    · exact ih2 e0 j c _ hcc hval
                    · exact nameless (hval c hcc) fun id hid => hn id (cells_names (List.mem_of_getElem? hcc) hid))
                rw [hlen] at this
                exact this
            cases h with
            | im _ _ h => cases h
            | ownNil _ _ hρ => simp only [List.take_zero]; exact .slnil ..
            | own _ _ _ b cap cur e hρ hn hcap hb hs hz => exact go b cap _ hρ hz (by simp) hn rfl
            | ownAt _ _ _ _ b cap ad hi hρ hn ha hz => exact go b cap ad hρ hz ha hn rfl
          · exact .any _
        · exact .any _
      | ptr id sz i j =>
        simp only [resF]
        unfold resPtr
        split
        · rename_i k hk
          split
          · rename_i hsz
            subst hsz
            unfold resE
            split
            · rename_i e he
              cases h with
              | im _ _ h => cases h
              | ptr _ _ _ _ b hρ hz =>
                obtain ⟨cur, hb, hl, hs, hc⟩ := hinv.blk id k b hk hρ hz
                have hval : ∀ q c0, e.cells[q]? = some c0 → Rep w ρ Im c0 ((cur[i * k.sz + q]?).getD undef) := fun q c0 hc0 => by
                  obtain ⟨v, hv, _, hr⟩ := hc i e q c0 he hc0
                  simpa [hv] using hr
                refine .pt (resF n σ e) j b (i * k.sz) (fun q => (cur[i * k.sz + q]?).getD undef) (.inr ⟨id, hρ⟩) (fun q hq => ?_) (fun q c hcc => ih2 e q c _ hcc (hval q))
                rw [resF_len] at hq
                obtain ⟨v, hv, h1, _⟩ := hc i e q _ he (List.getElem?_eq_getElem hq)
                rw [cell_of_row w b _ cur k.e (0, 0) hb, hv]; exact ⟨rfl, h1⟩
            · exact .any _
          · exact .any _
        · exact .any _
      | mref id =>
        simp only [resF]
        unfold resMap
        split
        · rename_i k hk
          split
          · rename_i hz
            cases h with
            | im _ _ h => cases h
            | mref _ b hρ =>
              obtain ⟨ents, clk, hb, hl, hc⟩ := hinv.map id k b hk hρ hz
              have key : ∀ (i : Nat) (m : MapEntry), ents[i]? = some m → ∃ v : AV, (resL (resF n σ) k.es)[i]? = some (.tup [.v m.key, v]) ∧ IRep w (Seen Im ρ) v m.val := fun i m hm => by
                obtain ⟨v0, hv0, hr⟩ := hc i m hm
                have hlt : i < (resL (resF n σ) k.es).length := by rw [resL_length, hl]; exact (Array.getElem?_eq_some_iff.1 hm).1
                obtain ⟨e, he, hor⟩ := resL_get (List.getElem?_eq_getElem hlt)
                rw [hv0] at he; cases he
                have hirep := memb (x := .tuple #[m.key, m.val]) (List.getElem?_eq_getElem hlt) (fun e he => by
                  rw [hv0] at he; cases he
                  refine .tup [.v m.key, v0] [m.key, m.val] rfl fun j c y hcj hyj => ?_
                  cases j with
                  | zero => simp at hcj hyj; subst hcj; subst hyj; exact .im _ _ (.v _)
                  | succ j => cases j with
                    | zero => simp at hcj hyj; subst hcj; subst hyj; exact hr
                    | succ j => simp at hcj)
                have hshape : ∃ v, (resL (resF n σ) k.es)[i] = AV.tup [.v m.key, v] := by
                  rcases hor with h | ⟨h, _⟩
                  · rw [h]
                    cases n with
                    | zero => simp only [resF, AV.kill]; split <;> simp [AV.dk, AV.dkL]
                    | succ n => simp only [resF]; unfold resL; split
                                · simp only [List.map_cons, List.map_nil]
                                  cases n with
                                  | zero => exact ⟨_, by simp [resF, AV.kill, AV.namesB]; rfl⟩
                                  | succ n => exact ⟨_, by simp [resF]; rfl⟩
                                · exact ⟨_, rfl⟩
                  · exact ⟨_, h⟩
                obtain ⟨v, hv⟩ := hshape
                rw [hv] at hirep
                refine ⟨v, (List.getElem?_eq_getElem hlt).trans (congrArg some hv), ?_⟩
                generalize hyy : Value.tuple #[m.key, m.val] = yy at hirep
                cases hirep with
                | tup _ ys hyl hyr =>
                  injection hyy with hyy
                  have : ys = [m.key, m.val] := by simpa using congrArg Array.toList hyy.symm
                  subst this
                  exact hyr 1 v m.val rfl rfl
              classical
              exact .mp _ b ents clk (fun i => match ents[i]? with | some m => if hm : ∃ v, (resL (resF n σ) k.es)[i]? = some (.tup [.v m.key, v]) ∧ IRep w (Seen Im ρ) v m.val then Classical.choose hm else .any | none => .any) (.inr ⟨id, hρ⟩) hb (by rw [resL_length, hl])
                (fun i m hm => by
                  simp only [hm]
                  rw [dif_pos (key i m hm)]
                  exact (Classical.choose_spec (key i m hm)).1)
                (fun i m hm => by
                  simp only [hm]
                  rw [dif_pos (key i m hm)]
                  exact (Classical.choose_spec (key i m hm)).2)
          · exact .any _
        · exact .any _
      | agg cs =>
        simp only [resF]
        obtain ⟨ys, rfl, hl, h1, hr⟩ := h.agg_inv
        exact .agg _ ys (by rw [resL_length, hl]) h1 fun j c y hc hy => memb hc fun e he => hr j e y he hy
      | tup cs =>
        simp only [resF]
        obtain ⟨ys, rfl, hl, hr⟩ := h.tup_inv
        exact .tup _ ys (by rw [resL_length, hl]) fun j c y hc hy => memb hc fun e he => hr j e y he hy
      | clo g cs =>
        simp only [resF]
        obtain ⟨ys, rfl, hl, hr⟩ := h.clo_inv
        exact .clo g _ ys (by rw [resL_length, hl]) fun j c y hc hy => memb hc fun e he => hr j e y he hy
      | any => exact nameless h fun id hid => by cases hid
      | v x => exact nameless h fun id hid => by cases hid
      | sl a b => exact nameless h fun id hid => by cases hid
      | pt a b => exact nameless h fun id hid => by cases hid
      | new a b c => exact nameless h fun id hid => by cases hid
      | nptr a b c => exact nameless h fun id hid => by cases hid
      | yld l => exact nameless h fun id hid => by cases hid
      | mp es => exact nameless h fun id hid => by cases hid
    refine ⟨main, fun e j c x hc h => ?_⟩
    cases he : e.isAgg with
    | false =>
      rw [cells_one (resF_isAgg (n + 1) σ he)] at hc
      rw [cells_one he] at h
      cases j with
      | zero => simp at hc; subst hc; exact main e x (h e rfl)
      | succ j => simp at hc
    | true => cases e with
      | agg cs => simp only [resF, AV.cells_agg] at hc; exact memb hc h
      | _ => cases he

theorem resF_sound (hinv : Inv w ρ Im σ) (n : Nat) {x : AV} {y : Value} (h : Rep w ρ Im x y) : IRep w (Seen Im ρ) (resF n σ x) y := (resF_both hinv n).1 x y h
theorem resF_cell (hinv : Inv w ρ Im σ) (n : Nat) {e : AV} {j : Nat} {c : AV} {x : Value} (hc : (resF n σ e).cells[j]? = some c) (h : ∀ c0, e.cells[j]? = some c0 → Rep w ρ Im c0 x) : IRep w (Seen Im ρ) c x := (resF_both hinv n).2 e j c x hc h
theorem res_sound (hinv : Inv w ρ Im σ) {x : AV} {y : Value} (h : Rep w ρ Im x y) : IRep w (Seen Im ρ) (res σ x) y := resF_sound hinv 8 h

/-- With no names in it a value is handed on as it is, and stands for what is fixed. -/
theorem res_nameless {x : AV} (hn : AV.namesB allB x = false) : res σ x = x := by
  unfold res
  cases x with
  | own => simp [AV.namesB, allB] at hn
  | ptr => simp [AV.namesB, allB] at hn
  | mref => simp [AV.namesB, allB] at hn
  | agg cs => simp only [AV.namesB] at hn; simp [resF, resL, hn]
  | tup cs => simp only [AV.namesB] at hn; simp [resF, resL, hn]
  | clo g cs => simp only [AV.namesB] at hn; simp [resF, resL, hn]
  | _ => rfl

/-! ### What a function hands back -/

def Content (w : World) (Im : Nat → Prop) (e sz : Nat) (es : List AV) (b : Nat) : Prop :=
  ∃ cur, w.heap[b]? = some (.cells cur e (0, 0)) ∧ (∀ x ∈ es, x.cells.length = sz) ∧ es.length * sz ≤ cur.size ∧
    ∀ (i : Nat) (x : AV) (j : Nat) (c : AV), es[i]? = some x → x.cells[j]? = some c → ∃ v, cur[i * sz + j]? = some v ∧ v.oneCell' = true ∧ IRep w Im c v

def R1 (w : World) (Im : Nat → Prop) (r : AV) (y : Value) (ob : Option Nat) : Prop :=
  match r with
  | .new e sz es => (ob = none ∧ es = [] ∧ y = .slice none 0 0) ∨
      ∃ b cap, sz ≠ 0 ∧ ob = some b ∧ y = .slice (some ⟨b, 0, none⟩) es.length cap ∧ es.length ≤ cap ∧ cap ≤ maxLen ∧ (∃ cur, w.heap[b]? = some (.cells cur e (0, 0)) ∧ cur.size = cap * sz) ∧ Content w Im e sz es b
  | .nptr e sz es => ∃ b, sz ≠ 0 ∧ ob = some b ∧ y = .pointer (some ⟨b, 0, none⟩) ∧ Content w Im e sz es b
  | r => ob = none ∧ IRep w Im r y

def RL (w : World) (Im : Nat → Prop) : List AV → List Value → List (Option Nat) → Prop
  | [], [], [] => True
  | r :: rs, y :: ys, ob :: obs => R1 w Im r y ob ∧ RL w Im rs ys obs
  | _, _, _ => False

/-- New blocks, each once. -/
def Fresh (lo : Nat) (Im : Nat → Prop) (obs : List (Option Nat)) : Prop :=
  (∀ b, some b ∈ obs → lo ≤ b ∧ ¬ Im b) ∧ obs.Pairwise fun x y => x = none ∨ x ≠ y

def RRep (w w' : World) (Im : Nat → Prop) (r : AV) (y : Value) : Prop :=
  ∃ Im' : Nat → Prop, (∀ b, Im b → Im' b) ∧ (∀ b, Im' b → Im b ∨ (w.heap.size ≤ b ∧ b < w'.heap.size)) ∧
    match r with
    | .tup rs => ∃ ys obs, y = .tuple ys.toArray ∧ RL w' Im' rs ys obs ∧ Fresh w.heap.size Im' obs
    | .clo g rs => ∃ ys obs, y = .func (.func g) #[] ys.toArray ∧ RL w' Im' rs ys obs ∧ Fresh w.heap.size Im' obs
    | r => ∃ ob, R1 w' Im' r y ob ∧ Fresh w.heap.size Im' [ob]

def IReps (w : World) (Im : Nat → Prop) (cs : List AV) (ys : List Value) : Prop :=
  cs.length = ys.length ∧ ∀ (j : Nat) (c : AV) (y : Value), cs[j]? = some c → ys[j]? = some y → IRep w Im c y

/-- **A function's contract**: handed what 'args' stand for, it hands back what 'r' stands for; what lay lies as it lay. -/
def FnOK (P : Program) (f : FuncId) (R : List AV → AV → Prop) : Prop :=
  ∀ args r, R args r → (∀ as w, (callFunc f as).run P w = .ok (.enter f as) w) ∧
    ∀ (w : World) (Im : Nat → Prop) (vs : List Value), (∀ b, Im b → b < w.heap.size) → IReps w Im args vs →
      Calls P f vs.toArray w fun e w' => ∃ y, e = .returned y ∧ Ext w (fun _ => False) w' ∧ RRep w w' Im r y

/-- Results are taken over: which values, which blocks. -/
def imp1 (id : Nat) (r : AV) : AV × List (Nat × Blk) :=
  match r with
  | .new e sz es => (.own id sz 0 es.length, [(id, ⟨e, sz, es⟩)])
  | .nptr e sz es => (.ptr id sz 0 0, [(id, ⟨e, sz, es⟩)])
  | r => (r, [])

def impL : Nat → List AV → List AV × List (Nat × Blk)
  | _, [] => ([], [])
  | id, r :: rs => ((imp1 id r).1 :: (impL (id + 1) rs).1, (imp1 id r).2 ++ (impL (id + 1) rs).2)

def imp (id : Nat) (r : AV) : AV × List (Nat × Blk) :=
  match r with
  | .tup rs => (.tup (impL id rs).1, (impL id rs).2)
  | .clo g rs => (.clo g (impL id rs).1, (impL id rs).2)
  | r => imp1 id r

end Go.Vai

/- The check on draws, quicker. -/
import Derived.Test.YtmiahmpobpokmaaVp
namespace Go.Vai
open Go.RowKit

variable {P : Program} {ops : Array Oper}

def waitsQ (ops : Array Oper) : Nat → Nat → Nat → Bool
  | 0, _, _ => false
  | n + 1, j, i => match ops[j]? with
    | some o => (o.after.any fun e => Region.binds .any e && e.on == i) || o.after.any fun e => Region.binds .any e && Nat.blt i e.on && waitsQ ops n e.on i
    | none => false

theorem waitsQ_le : ∀ (n j i : Nat), waitsQ ops n j i = true → waits ops n j i = true
  | 0, _, _, h => by simp [waitsQ] at h
  | n + 1, j, i, h => by
    simp only [waitsQ] at h
    simp only [waits]
    split at h
    · rename_i o ho
      simp only [ho]
      simp only [Bool.or_eq_true, ← Array.any_toList] at h
      rw [← Array.any_toList]
      rcases h with h | h
      · obtain ⟨e, he, hb⟩ := List.any_eq_true.1 h
        simp only [Bool.and_eq_true] at hb
        exact List.any_eq_true.2 ⟨e, he, by simp [hb.1, hb.2]⟩
      · obtain ⟨e, he, hb⟩ := List.any_eq_true.1 h
        simp only [Bool.and_eq_true] at hb
        exact List.any_eq_true.2 ⟨e, he, by simp [hb.1.1, waitsQ_le n e.on i hb.2]⟩
    · cases h

def pairQ (P : Program) (ops : Array Oper) (i : Nat) (oi : Oper) (j : Nat) (oj : Oper) : Bool :=
  ((oi.apart ops oj && Nat.ble (cls P oi.op oi.type) 2 && Nat.ble (cls P oj.op oj.type) 2) || waitsQ ops ops.size j i) && (!isNm P oi || !isNm P oj || (oi.dst.getD 99999 != oj.dst.getD 99999))
def rowQ (P : Program) (ops : Array Oper) (i : Nat) (oi : Oper) : Nat → List Oper → Bool
  | _, [] => true
  | j, oj :: l => pairQ P ops i oi j oj && rowQ P ops i oi (j + 1) l
def selfQ (i : Nat) (oi : Oper) : Bool := oi.after.all (fun e => !Region.binds .any e || Nat.blt e.on i) && (match oi.guard with | some (g, _) => Nat.blt g i | none => true)
def allQ (P : Program) (ops : Array Oper) : Nat → List Oper → Bool
  | _, [] => true
  | i, oi :: l => selfQ i oi && rowQ P ops i oi (i + 1) l && allQ P ops (i + 1) l

theorem rowQ_at {i : Nat} {oi : Oper} : ∀ (l : List Oper) (j : Nat), rowQ P ops i oi j l = true → ∀ (k : Nat) (o : Oper), l[k]? = some o → pairQ P ops i oi (j + k) o = true
  | [], _, _, k, o, h => by simp at h
  | oj :: l, j, h, k, o, hk => by
    simp only [rowQ, Bool.and_eq_true] at h
    cases k with
    | zero => simp at hk; subst hk; exact h.1
    | succ k =>
      have := rowQ_at l (j + 1) h.2 k o (by simpa using hk)
      rw [show j + (k + 1) = j + 1 + k from by omega]; exact this

theorem allQ_at : ∀ (l : List Oper) (i : Nat), allQ P ops i l = true → ∀ (a : Nat) (oa : Oper), l[a]? = some oa → selfQ (i + a) oa = true ∧ ∀ (b : Nat) (ob : Oper), a < b → l[b]? = some ob → pairQ P ops (i + a) oa (i + b) ob = true
  | [], _, _, a, oa, h => by simp at h
  | o :: l, i, h, a, oa, ha => by
    simp only [allQ, Bool.and_eq_true] at h
    cases a with
    | zero =>
      simp at ha; subst ha
      refine ⟨h.1.1, fun b ob hb hob => ?_⟩
      cases b with
      | zero => omega
      | succ b =>
        have := rowQ_at l (i + 1) h.1.2 b ob (by simpa using hob)
        rw [show i + (b + 1) = i + 1 + b from by omega]; exact this
    | succ a =>
      obtain ⟨h1, h2⟩ := allQ_at l (i + 1) h.2 a oa (by simpa using ha)
      rw [show i + (a + 1) = i + 1 + a from by omega]
      refine ⟨h1, fun b ob hb hob => ?_⟩
      cases b with
      | zero => omega
      | succ b =>
        have := h2 b ob (by omega) (by simpa using hob)
        rw [show i + (b + 1) = i + 1 + b from by omega]; exact this

theorem drawOK_of (h : allQ P ops 0 ops.toList = true) : drawOK P ops = true := by
  unfold drawOK
  refine List.all_eq_true.2 fun i hi => ?_
  have hi := List.mem_range.1 hi
  rw [Array.getElem?_eq_getElem hi]
  have hi' : ops.toList[i]? = some ops[i] := by rw [Array.getElem?_toList, Array.getElem?_eq_getElem hi]
  obtain ⟨h1, h2⟩ := allQ_at ops.toList 0 h i ops[i] hi'
  rw [Nat.zero_add] at h1 h2
  simp only [selfQ, Bool.and_eq_true] at h1
  have hlt : ∀ a b, Nat.blt a b = true ↔ a < b := fun a b => by simp [Nat.blt]; omega
  simp only [Bool.and_eq_true]
  refine ⟨⟨?_, ?_⟩, List.all_eq_true.2 fun j hj => ?_⟩
  · have := h1.1
    rw [← Array.all_toList] at this ⊢
    refine List.all_eq_true.2 fun e he => ?_
    have := List.all_eq_true.1 this e he
    simp only [Bool.or_eq_true, hlt, decide_eq_true_eq] at this ⊢; exact this
  · have := h1.2
    split at this
    · rename_i hg; rw [hg]; simp only [hlt] at this; simpa using this
    · rename_i hg; rw [hg]
  · have hj := List.mem_range.1 hj
    by_cases hji : j ≤ i
    · simp [hji]
    · rw [Array.getElem?_eq_getElem hj]
      have hj' : ops.toList[j]? = some ops[j] := by rw [Array.getElem?_toList, Array.getElem?_eq_getElem hj]
      have := h2 j ops[j] (by omega) hj'
      rw [Nat.zero_add] at this
      simp only [pairQ, Bool.and_eq_true] at this
      simp only [Bool.or_eq_true, Bool.and_eq_true]
      refine .inr ⟨?_, by simpa using this.2⟩
      rcases this.1 with hh
      simp only [Bool.or_eq_true, Bool.and_eq_true] at hh
      rcases hh with hh | hh
      · exact .inr ⟨⟨hh.1.1, by simpa using hh.1.2⟩, by simpa using hh.2⟩
      · exact .inl (waitsQ_le _ _ _ hh)

def codeQ (P : Program) (N : Nat) : Code → Bool
  | .skip => true
  | .label _ => true
  | .seq a b => codeQ P N a && codeQ P N b
  | .region _ ops draw => ops.toList.all (Oper.fits P N) && (!draw || allQ P ops 0 ops.toList)
  | .cond c x y => Operand.low N c && codeQ P N x && codeQ P N y
  | .block _ c => codeQ P N c
  | .scope c => codeQ P N c
  | .loop c => codeQ P N c
  | .exit _ => true
  | .ret => true
  | .rangeFunc _ _ _ _ => true
  | _ => false
theorem codeOK_of {N : Nat} : ∀ (c : Code), codeQ P N c = true → codeOK P N c = true
  | .skip, _ => rfl
  | .label _, _ => rfl
  | .seq a b, h => by
    simp only [codeQ, Bool.and_eq_true] at h
    simp only [codeOK, Bool.and_eq_true]; exact ⟨codeOK_of a h.1, codeOK_of b h.2⟩
  | .region _ ops draw, h => by
    simp only [codeQ, Bool.and_eq_true, Bool.or_eq_true] at h
    simp only [codeOK, Bool.and_eq_true, Bool.or_eq_true]
    exact ⟨h.1, h.2.imp_right drawOK_of⟩
  | .cond c x y, h => by
    simp only [codeQ, Bool.and_eq_true] at h
    simp only [codeOK, Bool.and_eq_true]; exact ⟨⟨h.1.1, codeOK_of x h.1.2⟩, codeOK_of y h.2⟩
  | .block _ c, h => by simp only [codeQ] at h; simp only [codeOK]; exact codeOK_of c h
  | .scope c, h => by simp only [codeQ] at h; simp only [codeOK]; exact codeOK_of c h
  | .loop c, h => by simp only [codeQ] at h; simp only [codeOK]; exact codeOK_of c h
  | .exit _, _ => rfl
  | .ret, _ => rfl
  | .rangeFunc _ _ _ _, _ => rfl
def fnQ (P : Program) (fn : Func) (c : Code) : Bool :=
  codeQ P fn.ntmps c && fn.results.toList.all (ResultVar.low fn.ntmps) && !(fn.name == "runtime.NumGoroutine") && Nat.ble fn.ntmps 99999
theorem fnOK_of {fn : Func} {c : Code} (h : fnQ P fn c = true) : fnOK P fn c = true := by
  simp only [fnQ, Bool.and_eq_true] at h
  simp only [fnOK, Bool.and_eq_true]
  exact ⟨⟨⟨codeOK_of c h.1.1.1, h.1.1.2⟩, h.1.2⟩, by simpa using h.2⟩
end Go.Vai

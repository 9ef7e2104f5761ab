/- Operations that turn nothing: they yield what their account says. -/
import Derived.Test.YtmiahmpobpokmaaVc
namespace Go.Vai
open Go.RowKit

variable {P : Program} {w : World} {ρ : Nat → Option Nat} {Im : Nat → Prop} {E : Env} {σ : Store} {a : Act}

def Op.low (N : Nat) (op : Op) : Bool := op.operands.toList.all (Operand.low N)

theorem low_of {N : Nat} {op : Op} (h : Op.low N op = true) {x : Operand} (hx : x ∈ op.operands) : Operand.low N x = true := by
  unfold Op.low at h
  exact List.all_eq_true.1 h x (Array.mem_toList_iff.2 hx)

theorem bitsI_run (op : BinOp) (hop : op = .and ∨ op = .or ∨ op = .xor ∨ op = .andNot) (k : IntKind) (x y : Int) (w : World) :
    (Op.intBits op k x y).run P w = .ok (.int k (bitsI op k x y)) w := by
  rcases hop with rfl | rfl | rfl | rfl <;> rfl

theorem binI_sound {op : BinOp} {t : TypeId} {k k' : IntKind} {m n : Int} {r : AV} (h : binI op k m k' n r) (w : World) :
    ∃ y, (binOp op t (.int k m) (.int k' n)).run P w = .ok y w ∧ r = .v y := by
  unfold binI at h
  split at h
  · obtain ⟨h0, rfl⟩ := h
    exact ⟨_, by simp only [binOp, Op.shift]; rw [if_neg (by omega)]; rfl, rfl⟩
  · obtain ⟨h0, rfl⟩ := h
    exact ⟨_, by simp only [binOp, Op.shift]; rw [if_neg (by omega)]; rfl, rfl⟩
  · obtain ⟨rfl, rfl⟩ := h; exact ⟨_, by simp [binOp, Op.intArith], rfl⟩
  · obtain ⟨rfl, rfl⟩ := h; exact ⟨_, by simp [binOp, Op.intArith], rfl⟩
  · obtain ⟨rfl, rfl⟩ := h; exact ⟨_, by simp [binOp, Op.intArith], rfl⟩
  · obtain ⟨rfl, h0, rfl⟩ := h; exact ⟨_, by simp [binOp, Op.intDiv, h0], rfl⟩
  · obtain ⟨rfl, h0, rfl⟩ := h; exact ⟨_, by simp [binOp, Op.intDiv, h0], rfl⟩
  · obtain ⟨rfl, rfl⟩ := h; exact ⟨_, by simp [binOp, Op.intCmp], rfl⟩
  · obtain ⟨rfl, rfl⟩ := h; exact ⟨_, by simp [binOp, Op.intCmp], rfl⟩
  · obtain ⟨rfl, rfl⟩ := h; exact ⟨_, by simp [binOp, Op.intCmp], rfl⟩
  · obtain ⟨rfl, rfl⟩ := h; exact ⟨_, by simp [binOp, Op.intCmp], rfl⟩
  · obtain ⟨rfl, rfl⟩ := h; exact ⟨_, by simp [binOp, Op.intCmp], rfl⟩
  · obtain ⟨rfl, rfl⟩ := h; exact ⟨_, by simp [binOp, Op.intCmp], rfl⟩
  · obtain ⟨rfl, rfl⟩ := h; exact ⟨_, by simp only [binOp, ne_eq, not_true_eq_false, if_false]; exact bitsI_run .and (by simp) k m n w, rfl⟩
  · obtain ⟨rfl, rfl⟩ := h; exact ⟨_, by simp only [binOp, ne_eq, not_true_eq_false, if_false]; exact bitsI_run .or (by simp) k m n w, rfl⟩
  · obtain ⟨rfl, rfl⟩ := h; exact ⟨_, by simp only [binOp, ne_eq, not_true_eq_false, if_false]; exact bitsI_run .xor (by simp) k m n w, rfl⟩
  · obtain ⟨rfl, rfl⟩ := h; exact ⟨_, by simp only [binOp, ne_eq, not_true_eq_false, if_false]; exact bitsI_run .andNot (by simp) k m n w, rfl⟩

theorem binS_sound {op : BinOp} {t : TypeId} {m n : ByteArray} {r : AV} (h : binS op m n r) (w : World) :
    ∃ y, (binOp op t (.string m) (.string n)).run P w = .ok y w ∧ r = .v y := by
  unfold binS at h
  split at h
  · obtain ⟨h0, rfl⟩ := h
    refine ⟨_, ?_, rfl⟩
    have : ¬ ((m.size + n.size : Nat) : Int) > IntKind.i64.max := by
      have : IntKind.i64.max = 9223372036854775807 := by decide
      rw [this]; omega
    simp only [binOp, Op.stringOp, this, if_false, Sem.run_pure]
  all_goals first
    | (subst h; exact ⟨_, by simp only [binOp, Op.stringOp, Sem.run_pure], rfl⟩)
    | exact h.elim

theorem eqGuard_int {op : BinOp} {t : TypeId} {x y : Operand} {k k' : IntKind} {m n : Int} (w : World) : (eqGuard op t x y (.int k m) (.int k' n)).run P w = .ok () w := by
  unfold eqGuard; cases op <;> rfl
theorem eqGuard_string {op : BinOp} {t : TypeId} {x y : Operand} {m n : ByteArray} (w : World) : (eqGuard op t x y (.string m) (.string n)).run P w = .ok () w := by
  unfold eqGuard; cases op <;> rfl

theorem Reps.of_agg {cs : List AV} {ys : List Value} (hl : cs.length = ys.length) (h : ∀ (j : Nat) (c : AV) (y : Value), cs[j]? = some c → ys[j]? = some y → Rep w ρ Im c y) : Reps w ρ Im cs ys := ⟨hl, h⟩

theorem run_fieldPlace {b o off : Nat} {f : Field} (h : 0 < tsz P f.type) (ho : f.offset = off) (w : World) : (fieldPlace ⟨b, o, none⟩ f).run P w = .ok ⟨b, o + off, none⟩ w := by
  unfold fieldPlace
  simp only [Sem.run_bind, run_sizeOf' h w, Result.andThen_ok]
  rw [if_neg (by omega), Sem.run_pure, add_none, ho]

theorem tfld_of {s : TypeId} {fs : List (Nat × TypeId)} (h : tfld P s = some fs) : ∃ fa : Array Field, P.underlying s = some (.struct fa) ∧ fs = fa.toList.map fun f => (f.offset, f.type) := by
  unfold tfld at h
  split at h
  · rename_i fa hu; exact ⟨fa, hu, by simpa using h.symm⟩
  · cases h

theorem tel_of {t e : TypeId} (h : tel P t = some e) : P.underlying t = some (.slice e) := by
  unfold tel at h; split at h
  · rename_i hu; simp at h; subst h; exact hu
  · cases h

theorem tarr_of {t e : TypeId} {n : Nat} (h : tarr P t = some (n, e)) : P.underlying t = some (.array n e) := by
  unfold tarr at h; split at h
  · rename_i hu; simp at h; obtain ⟨rfl, rfl⟩ := h; exact hu
  · cases h

theorem tint_of {t : TypeId} {k : IntKind} (h : tint P t = some k) : P.underlying t = some (.int k) := by
  unfold tint at h; split at h
  · rename_i hu; simp at h; subst h; exact hu
  · cases h

theorem tstr_of {t : TypeId} (h : tstr P t = true) : P.underlying t = some .string := by
  unfold tstr at h; split at h
  · rename_i hu; exact hu
  · cases h

/-- What an address stands for. -/
theorem Rep.pt_inv {e : AV} {j : Nat} {y : Value} (h : Rep w ρ Im (.pt e j) y) : ∃ b o, y = .pointer (some ⟨b, o + j, none⟩) ∧ ∀ j', Rep w ρ Im (.pt e j') (.pointer (some ⟨b, o + j', none⟩)) := by
  cases h with
  | im _ _ h => cases h with | pt _ _ b o f hIm hc hr => exact ⟨b, o, rfl, fun j' => .im _ _ (.pt e j' b o f hIm hc hr)⟩

theorem Rep.ptr_inv {id sz i j : Nat} {y : Value} (h : Rep w ρ Im (.ptr id sz i j) y) : ∃ b, y = .pointer (some ⟨b, i * sz + j, none⟩) ∧ ∀ i' j', Rep w ρ Im (.ptr id sz i' j') (.pointer (some ⟨b, i' * sz + j', none⟩)) := by
  cases h with
  | im _ _ h => cases h
  | ptr _ _ _ _ b hρ hz => exact ⟨b, rfl, fun i' j' => .ptr id sz i' j' b hρ hz⟩

theorem asInt_run {k : IntKind} {n : Int} (w : World) : (asIntOf (.int k n)).run P w = .ok (k, n) w := rfl

/-- A slice's element has its address. -/
theorem slIdx_sound {t e : TypeId} {x r : AV} {k : IntKind} {n : Int} {y : Value} (hu : tel P t = some e) (h : slIdx P e x n r) (hr : Rep w ρ Im x y) :
    ∃ z, (Instr.indexAt t y (.int k n)).run P w = .ok z w ∧ Rep w ρ Im r z := by
  have hu := tel_of hu
  unfold slIdx at h
  split at h
  · rename_i sz es
    obtain ⟨hp, hsz, h0, c, hc, rfl⟩ := h
    have hlt := (List.getElem?_eq_some_iff.1 hc).1
    cases hr with
    | im _ _ hr =>
      cases hr with
      | slnil => simp at hlt
      | sl _ _ b o cap f hIm hcap hl hcc hrep =>
        refine ⟨.pointer (some ⟨b, o + n.toNat * sz, none⟩), ?_, ?_⟩
        · simp only [Instr.indexAt, Sem.run_bind, asInt_run, Result.andThen_ok, run_underlying hu w, Sem.run_pure]
          rw [if_pos ⟨h0, by omega⟩]
          simp only [Sem.run_bind, run_sizeOf' (hsz ▸ hp : 0 < tsz P e) w, Result.andThen_ok, Sem.run_pure, add_none, hsz]
        · have hcl := hl c (List.mem_of_getElem? hc)
          exact .im _ _ (.pt c 0 b (o + n.toNat * sz) (f n.toNat) hIm (fun i hi => hcc _ _ hlt (by omega)) (fun i c' hc' => hrep _ c i c' hc hc'))
  · rename_i id sz o m
    obtain ⟨hp, hsz, h0, hlt, rfl⟩ := h
    have go : ∀ b cap (ad : Option Addr), ρ id = some b → ad = some ⟨b, o * sz, none⟩ → y = .slice ad m cap → ∃ z, (Instr.indexAt t y (.int k n)).run P w = .ok z w ∧ Rep w ρ Im (.ptr id sz (o + n.toNat) 0) z := by
      rintro b cap _ hρ rfl rfl
      refine ⟨.pointer (some ⟨b, (o + n.toNat) * sz + 0, none⟩), ?_, .ptr id sz _ _ b hρ (by omega)⟩
      simp only [Instr.indexAt, Sem.run_bind, asInt_run, Result.andThen_ok, run_underlying hu w, Sem.run_pure]
      rw [if_pos ⟨h0, by omega⟩]
      simp only [Sem.run_bind, run_sizeOf' (hsz ▸ hp : 0 < tsz P e) w, Result.andThen_ok, Sem.run_pure, add_none, hsz, Nat.add_mul, Nat.add_zero]
    cases hr with
    | im _ _ hr => cases hr
    | ownNil => omega
    | own _ _ _ b cap cur e' hρ hn hcap hb hs _ => exact go b cap _ hρ (by simp) rfl
    | ownAt _ _ _ _ b cap ad hi hρ hn ha _ => exact go b cap ad hρ (ha (by omega)) rfl
  · exact h.elim

theorem lenV_sound {x : AV} {n : Nat} {y : Value} (h : lenV x = some n) (hr : Rep w ρ Im x y) : (∃ ad cap, y = .slice ad n cap) ∨ ∃ s : ByteArray, y = .string s ∧ s.size = n ∧ x = .v (.string s) := by
  unfold lenV at h
  split at h
  · simp at h; subst h
    cases hr with
    | im _ _ hr =>
      cases hr with
      | slnil sz ad cap => exact .inl ⟨ad, cap, rfl⟩
      | sl => exact .inl ⟨_, _, rfl⟩
  · simp at h; subst h
    cases hr with
    | im _ _ hr => cases hr
    | ownNil => exact .inl ⟨_, _, rfl⟩
    | own => exact .inl ⟨_, _, rfl⟩
    | ownAt => exact .inl ⟨_, _, rfl⟩
  · rename_i s; simp at h; have := hr.v_inv; subst this; exact .inr ⟨s, rfl, h, rfl⟩
  · simp at h; subst h; have := hr.v_inv; subst this; exact .inl ⟨_, _, rfl⟩
  · cases h

theorem slCut_sound {e : TypeId} {x r : AV} {lo hi : Nat} {y : Value} (h : slCut P e x lo hi r) (hr : Rep w ρ Im x y) :
    ∃ ad n cap, y = .slice ad n cap ∧ lenV x = some n ∧ lo ≤ hi ∧ hi ≤ n ∧ n ≤ cap ∧ 0 < tsz P e ∧ Rep w ρ Im r (.slice (if cap = lo then ad else ad.map (·.add (lo * tsz P e))) (hi - lo) (cap - lo)) := by
  unfold slCut at h
  split at h
  · rename_i sz es
    obtain ⟨hp, hsz, h1, h2, rfl⟩ := h
    cases hr with
    | im _ _ hr =>
      cases hr with
      | slnil _ ad cap =>
        simp at h2; subst h2; simp at h1; subst h1
        exact ⟨ad, 0, cap, rfl, rfl, Nat.le_refl _, Nat.le_refl _, Nat.zero_le _, hsz ▸ hp, .im _ _ (.slnil ..)⟩
      | sl _ _ b o cap f hIm hcap hl hcc hrep =>
        refine ⟨_, es.length, cap, rfl, rfl, h1, h2, hcap, hsz ▸ hp, ?_⟩
        by_cases hh : hi = lo
        · subst hh; simp; exact .im _ _ (.slnil ..)
        · rw [if_neg (by omega)]
          have hlen : ((es.drop lo).take (hi - lo)).length = hi - lo := by rw [List.length_take, List.length_drop]; omega
          have := IRep.sl (w := w) (Im := Im) sz ((es.drop lo).take (hi - lo)) b (o + lo * sz) (cap - lo) (fun i j => f (lo + i) j) hIm (by rw [hlen]; omega) (fun e he => hl e (List.mem_of_mem_drop (List.mem_of_mem_take he)))
            (fun i j hi' hj => by
              rw [hlen] at hi'
              have := hcc (lo + i) j (by omega) hj
              rw [show o + lo * sz + i * sz + j = o + (lo + i) * sz + j from by rw [Nat.add_mul]; omega]
              exact this)
            (fun i e' j c he hc => by
              rw [List.getElem?_take] at he
              split at he
              · rw [List.getElem?_drop] at he; exact hrep _ e' j c he hc
              · cases he)
          rw [hlen] at this
          simpa [add_none, hsz] using Rep.im (ρ := ρ) _ _ this
  · rename_i id sz o n
    obtain ⟨hp, hsz, h1, h2, rfl⟩ := h
    cases hr with
    | im _ _ hr => cases hr
    | ownNil _ _ hρ =>
      have e1 : hi = 0 := by omega
      have e2 : lo = 0 := by omega
      subst e1; subst e2
      exact ⟨none, 0, 0, rfl, rfl, Nat.le_refl _, Nat.le_refl _, Nat.le_refl _, hsz ▸ hp, by simpa using Rep.ownNil id sz hρ⟩
    | own _ _ _ b cap cur e' hρ hn hcap hb hs =>
      refine ⟨_, n, cap, rfl, rfl, h1, h2, hn, hsz ▸ hp, ?_⟩
      by_cases hlo : lo = 0
      · subst hlo
        simp only [Nat.zero_mul, Nat.add_zero, Nat.sub_zero]
        have : (if cap = 0 then some (⟨b, 0, none⟩ : Addr) else (some (⟨b, 0, none⟩ : Addr)).map (·.add 0)) = some ⟨b, 0, none⟩ := by split <;> simp [Addr.add]
        rw [this]
        exact .own id sz hi b cap cur e' hρ (by omega) hcap hb hs (by omega)
      · refine .ownAt id sz (0 + lo) (hi - lo) b (cap - lo) _ (by omega) hρ (by omega) (fun hne => ?_) (by omega)
        rw [if_neg (by omega)]; simp [add_none, hsz]
    | ownAt _ _ _ _ b cap ad hi' hρ hn ha =>
      refine ⟨ad, n, cap, rfl, rfl, h1, h2, hn, hsz ▸ hp, .ownAt id sz (o + lo) (hi - lo) b (cap - lo) _ (by omega) hρ (by omega) (fun hne => ?_) (by omega)⟩
      rw [if_neg (by omega), ha (by omega)]; simp [add_none, hsz, Nat.add_mul]
  · exact h.elim

theorem bound_sound {x : Option Operand} {dflt : Nat} {K : Nat → Prop} (h : bound E x dflt K) (hx : ∀ o, x = some o → Rep w ρ Im (ev E o) (a.eval o)) :
    ∃ n, K n ∧ ((x = none ∧ n = dflt) ∨ ∃ o k, x = some o ∧ a.eval o = .int k (n : Int)) := by
  unfold bound at h
  split at h
  · exact ⟨dflt, h, .inl ⟨rfl, rfl⟩⟩
  · rename_i o
    split at h
    · rename_i k n he
      obtain ⟨h0, hK⟩ := h
      have := hx o rfl
      rw [he] at this
      exact ⟨n.toNat, hK, .inr ⟨o, k, rfl, by rw [this.v_inv, Int.toNat_of_nonneg h0]⟩⟩
    · exact h.elim

theorem run_sliceBound {k : IntKind} {n m : Nat} {code : BoundsCode} (h : n ≤ m) (w : World) : (Instr.sliceBound (.int k (n : Int)) m code).run P w = .ok n w := by
  simp only [Instr.sliceBound, Sem.run_bind, asInt_run, Result.andThen_ok]
  rw [if_pos ⟨by omega, by omega⟩]; simp

end Go.Vai

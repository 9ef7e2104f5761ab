/- The account of a text, step by step: regions and texts. -/
import Derived.Test.YtmiahmpobpokmaaVs
namespace Go.Vai
open Go.RowKit

def guardC (S : Sp) (kd bi : Bool) (a : AV) (want : Bool) (t : Nat) (dst : Option Nat) (op : Op) (ty : TypeId) (K Kb : Env → Store → Prop) (E : Env) (σ : Store) : Prop := match a, want with
  | .v (.bool b), true => branch (b = true) (aopC S kd bi dst op ty K Kb) (upd E t (.v (.bool true))) K (updO (upd E t (.v (.bool false))) dst (.v undef)) σ
  | .v (.bool b), false => branch (b = true) K (updO (upd E t (.v (.bool true))) dst (.v undef)) (aopC S kd bi dst op ty K Kb) (upd E t (.v (.bool false))) σ
  | .v (.tuple _), _ => K (updO E dst (.v undef)) σ
  | _, _ => False

def dstAt : List Oper → Nat → Option Nat
  | [], _ => none
  | o :: _, 0 => o.dst
  | _ :: l, n + 1 => dstAt l n

def guardD (S : Sp) (kd bi : Bool) (o : Option Nat) (want : Bool) (dst : Option Nat) (op : Op) (ty : TypeId) (K Kb : Env → Store → Prop) (E : Env) (σ : Store) : Prop := match o with
  | some t => guardC S kd bi (E t) want t dst op ty K Kb E σ
  | none => False

def gopC (S : Sp) (kd bi : Bool) (ops : List Oper) (o : Oper) (K Kb : Env → Store → Prop) (E : Env) (σ : Store) : Prop := match o.guard with
  | none => aopC S kd bi o.dst o.op o.type K Kb E σ
  | some (j, want) => guardD S kd bi (dstAt ops j) want o.dst o.op o.type K Kb E σ

def regN (b c : Nat) (dst : Option Nat) (l : List Nat) : List Nat := if c == 1 || c == 2 then (b + dst.getD 99999) :: l else l
def regL (S : Sp) : List Oper → List Nat
  | [] => []
  | o :: l => regN S.b (cls S.P o.op o.type) o.dst (regL S l)
def inL (l : List Nat) : Nat → Bool := fun i => l.contains (i / 16)

theorem regL_eq (S : Sp) (ops : List Oper) : (ops.filterMap fun o => if cls S.P o.op o.type == 1 || cls S.P o.op o.type == 2 then some (S.b + o.dst.getD 99999) else none) = regL S ops := by
  induction ops with
  | nil => rfl
  | cons o l ih =>
    simp only [List.filterMap_cons, regL, regN]
    split
    · rename_i h; split at h
      · cases h
      · rename_i hc; rw [if_neg hc]; exact ih
    · rename_i h; split at h
      · rename_i hc; cases h; rw [if_pos hc, ih]
      · cases h
theorem regP_eq (S : Sp) (ops : List Oper) : regP S ops = inL (regL S ops) := by
  unfold regP inL; rw [regL_eq]

/-- Names are struck. -/
def struckC (S : Sp) (dr : Bool) (l : List Oper) (K : Env → Store → Prop) (E : Env) (σ : Store) : Prop := match dr with
  | true => K (killE (inL (regL S l)) E) (killS (inL (regL S l)) σ)
  | false => K E σ

theorem struckC_eq (S : Sp) (dr : Bool) (l : List Oper) (K : Env → Store → Prop) : struckC S dr l K = struck S dr l K := by
  funext E σ; cases dr
  · simp [struckC, struck]
  · simp [struckC, struck, regP_eq]

def opsC (S : Sp) (dr : Bool) (ops : Array Oper) : Nat → List Oper → (Env → Store → Prop) → Env → Store → Prop
  | _, [], K => K
  | i, o :: rest, K => gopC S (!dr) (!dr || bar ops i) ops.toList o (opsC S dr ops (i + 1) rest K) (struckC S dr rest (opsC S dr ops (i + 1) rest K))

theorem AV.namesL_false (cs : List AV) (h : ∀ c ∈ cs, AV.namesB (fun _ => false) c = false) : AV.namesL (fun _ => false) cs = false := by
  induction cs with
  | nil => rfl
  | cons c cs ih => simp only [AV.namesL, Bool.or_eq_false_iff]; exact ⟨h c (by simp), ih fun c hc => h c (by simp [hc])⟩
mutual
theorem AV.namesB_none : ∀ a : AV, AV.namesB (fun _ => false) a = false
  | .own .. => rfl
  | .ptr .. => rfl
  | .agg cs => by simp only [AV.namesB]; exact AV.namesL_none cs
  | .tup cs => by simp only [AV.namesB]; exact AV.namesL_none cs
  | .clo _ cs => by simp only [AV.namesB]; exact AV.namesL_none cs
  | .any => rfl
  | .v _ => rfl
  | .sl .. => rfl
  | .pt .. => rfl
  | .new .. => rfl
  | .nptr .. => rfl
  | .yld _ => rfl
  | .mp _ => rfl
  | .mref _ => rfl
theorem AV.namesL_none : ∀ l : List AV, AV.namesL (fun _ => false) l = false
  | [] => rfl
  | c :: cs => by simp only [AV.namesL, AV.namesB_none c, AV.namesL_none cs]; rfl
end
theorem inL_nil : inL [] = fun _ => false := by funext i; simp [inL]
@[go_sem] theorem killE_nil (E : Env) : killE (inL []) E = E := by
  rw [inL_nil]; funext t; simp [killE, AV.kill, AV.namesB_none]
@[go_sem] theorem killS_nil (σ : Store) : killS (inL []) σ = σ := by
  rw [inL_nil]; funext t
  simp only [killS]
  cases σ t <;> simp [Blk.kill, AV.namesL_none]

def regC (S : Sp) (draw : Bool) (ops : Array Oper) (K : Env → Store → Prop) (E : Env) (σ : Store) : Prop := struckC S draw ops.toList (opsC S draw ops 0 ops.toList K) E σ

def condC (a : AV) (X Y : Env → Store → Prop) (E : Env) (σ : Store) : Prop := match a with
  | .v (.bool b) => branch (b = true) X E Y E σ
  | _ => False

/-- A loop stands here: what holds at its head, with what is left to do. -/
def loopC (B : (Exit → Env → Store → Prop) → Env → Store → Prop) (Q : Exit → Env → Store → Prop) (E : Env) (σ : Store) : Prop :=
  ∃ I : Nat → Env → Store → Prop, (∃ n, I n E σ) ∧ ∀ n E σ, I n E σ → B (thenQ (fun E' σ' => ∃ m, m < n ∧ I m E' σ') Q) E σ

def awpC (S : Sp) : Code → (Exit → Env → Store → Prop) → Env → Store → Prop
  | .skip, Q => Q .normal
  | .label _, Q => Q .normal
  | .seq a b, Q => awpC S a (thenQ (awpC S b Q) Q)
  | .region _ ops draw, Q => regC S draw ops (Q .normal)
  | .cond c x y, Q => fun E σ => condC (ev E c) (awpC S x Q) (awpC S y Q) E σ
  | .block id c, Q => awpC S c (blockQ id Q)
  | .scope c, Q => awpC S c (scopeQ Q)
  | .loop c, Q => loopC (awpC S c) Q
  | .exit id, Q => Q (.exit id)
  | .ret, Q => Q .ret
  | .rangeFunc f ps as body, Q => semC S (.rangeFunc f ps as body) Q
  | _, _ => fun _ _ => False

theorem dstAt_eq (ops : Array Oper) (j : Nat) : (ops[j]?).bind (·.dst) = dstAt ops.toList j := by
  have : ∀ (l : List Oper) (j : Nat), (l[j]?).bind (·.dst) = dstAt l j := by
    intro l
    induction l with
    | nil => intro j; rfl
    | cons o l ih => intro j; cases j with | zero => rfl | succ j => exact ih j
  rw [← this, Array.getElem?_toList]

theorem gopC_of {S : Sp} (hY : YMono S) {kd bi : Bool} {ops : Array Oper} {o : Oper} {K K' Kb Kb' : Env → Store → Prop} {E : Env} {σ : Store} (hK : ∀ E σ, K E σ → K' E σ) (hKb : ∀ E σ, Kb E σ → Kb' E σ)
    (h : gopC S kd bi ops.toList o K Kb E σ) : gop S kd bi ops o K' Kb' E σ := by
  unfold gopC at h
  unfold gop
  split at h
  · rename_i hg; rw [hg]; exact aopC_of hY hK hKb h
  · rename_i j want hg
    rw [hg]
    simp only [dstAt_eq]
    unfold guardD at h
    split at h
    · rename_i t ht
      rw [ht]
      simp only
      unfold guardC at h
      split at h
      · rename_i b hb
        rw [hb]
        exact ⟨fun e => aopC_of hY hK hKb (h.1 e), fun e => hK _ _ (h.2 (by subst e; simp))⟩
      · rename_i b hb
        rw [hb]
        exact ⟨fun e => aopC_of hY hK hKb (h.2 (by subst e; simp)), fun e => hK _ _ (h.1 e)⟩
      · rename_i hb; rw [hb]; exact hK _ _ h
      · exact h.elim
    · exact h.elim

theorem struck_mono {S : Sp} {dr : Bool} {l : List Oper} {K K' : Env → Store → Prop} (hK : ∀ E σ, K E σ → K' E σ) (E : Env) (σ : Store) (h : struck S dr l K E σ) : struck S dr l K' E σ := by
  unfold struck at *; split at h <;> simp_all

theorem opsC_of {S : Sp} (hY : YMono S) {dr : Bool} {ops : Array Oper} : ∀ (l : List Oper) (i : Nat) {K K' : Env → Store → Prop} {E : Env} {σ : Store}, (∀ E σ, K E σ → K' E σ) → opsC S dr ops i l K E σ → awpOps S dr ops i l K' E σ
  | [], _, _, _, _, _, hK, h => hK _ _ h
  | _ :: l, i, _, _, _, _, hK, h => gopC_of hY (fun _ _ hk => opsC_of hY l (i + 1) hK hk) (fun E σ hk => by rw [struckC_eq] at hk; exact struck_mono (fun _ _ hk => opsC_of hY l (i + 1) hK hk) E σ hk) h

theorem thenQ_mono {K K' : Env → Store → Prop} {Q Q' : Exit → Env → Store → Prop} (hK : ∀ E σ, K E σ → K' E σ) (hQ : ∀ e E σ, Q e E σ → Q' e E σ) (e : Exit) (E : Env) (σ : Store) (h : thenQ K Q e E σ) : thenQ K' Q' e E σ := by
  cases e <;> first | exact hK _ _ h | exact hQ _ _ _ h

theorem blockQ_mono {id : Nat} {Q Q' : Exit → Env → Store → Prop} (hQ : ∀ e E σ, Q e E σ → Q' e E σ) (e : Exit) (E : Env) (σ : Store) (h : blockQ id Q e E σ) : blockQ id Q' e E σ := by
  cases e <;> simp only [blockQ] at * <;> first | (split at h <;> simp_all) | exact hQ _ _ _ h

theorem scopeQ_mono {Q Q' : Exit → Env → Store → Prop} (hQ : ∀ e E σ, Q e E σ → Q' e E σ) (e : Exit) (E : Env) (σ : Store) (h : scopeQ Q e E σ) : scopeQ Q' e E σ := by
  cases e <;> first | exact h.elim | exact hQ _ _ _ h
theorem least {p : Nat → Prop} (h : ∃ n, p n) : ∃ m, p m ∧ ∀ k, p k → m ≤ k := by
  obtain ⟨n, hn⟩ := h
  induction n using Nat.strongRecOn with
  | ind n ih =>
    by_cases hk : ∃ k, k < n ∧ p k
    · obtain ⟨k, hk, hp⟩ := hk; exact ih k hk hp
    · exact ⟨n, hn, fun k hp => Nat.le_of_not_lt fun hlt => hk ⟨k, hlt, hp⟩⟩

theorem awpC_of {S : Sp} (hY : YMono S) : ∀ (c : Code) {Q Q' : Exit → Env → Store → Prop} {E : Env} {σ : Store}, (∀ e E σ, Q e E σ → Q' e E σ) → awpC S c Q E σ → awp S c Q' E σ
  | .skip, Q, Q', E, σ, hQ, h => hQ .normal E σ h
  | .label _, Q, Q', E, σ, hQ, h => hQ .normal E σ h
  | .seq a b, Q, Q', E, σ, hQ, h => by
    simp only [awpC] at h
    simp only [awp]
    exact awpC_of hY a (thenQ_mono (fun _ _ h => awpC_of hY b hQ h) hQ) h
  | .region _ ops draw, Q, Q', E, σ, hQ, h => by
    simp only [awpC] at h
    simp only [awp]
    unfold regC at h
    rw [struckC_eq] at h
    exact struck_mono (fun _ _ hk => opsC_of hY _ 0 (hQ .normal) hk) E σ h
  | .cond c x y, Q, Q', E, σ, hQ, h => by
    simp only [awpC] at h
    simp only [awp]
    unfold condC at h
    split at h
    · rename_i b hb
      rw [hb]
      exact ⟨fun e => awpC_of hY x hQ (h.1 e), fun e => awpC_of hY y hQ (h.2 (by subst e; simp))⟩
    · exact h.elim
  | .block id c, Q, Q', E, σ, hQ, h => by
    simp only [awpC] at h
    simp only [awp]
    exact awpC_of hY c (blockQ_mono hQ) h
  | .scope c, Q, Q', E, σ, hQ, h => by
    simp only [awpC] at h
    simp only [awp]
    exact awpC_of hY c (scopeQ_mono hQ) h
  | .loop c, Q, Q', E, σ, hQ, h => by
    simp only [awpC] at h
    simp only [awp]
    obtain ⟨I, ⟨n, hn⟩, hI⟩ := h
    classical
    -- the least that is left
    let μ : Env → Store → Nat := fun E σ => if h : ∃ n, I n E σ then Classical.choose (least h) else 0
    have hμ : ∀ m E σ, I m E σ → I (μ E σ) E σ ∧ μ E σ ≤ m := fun m E σ h => by
      have he : ∃ n, I n E σ := ⟨m, h⟩
      simp only [μ, dif_pos he]
      have hc := Classical.choose_spec (least he); exact ⟨hc.1, hc.2 m h⟩
    refine ⟨fun E σ => ∃ n, I n E σ, μ, ⟨n, hn⟩, fun E σ ⟨m, hm⟩ => ?_⟩
    refine awpC_of hY c (thenQ_mono (fun E' σ' ⟨k, hk, hi⟩ => ?_) hQ) (hI _ E σ (hμ m E σ hm).1)
    exact ⟨⟨k, hi⟩, Nat.lt_of_le_of_lt (hμ k E' σ' hi).2 hk⟩
  | .exit _, Q, Q', E, σ, hQ, h => hQ _ E σ h
  | .ret, Q, Q', E, σ, hQ, h => hQ .ret E σ h
  | .rangeFunc f ps as body, Q, Q', E, σ, hQ, h => fun C H n R hR a w hs => h C H n R (fun e E σ a w hq hs => hR e E σ a w (hQ _ _ _ hq) hs) a w hs

end Go.Vai

/- Ranges over functions, as they are reckoned. -/
import Derived.Test.YtmiahmpobpokmaaVy
import Derived.Test.YtmiahmpobpokmaaVv4
import Derived.KernelRfl
namespace Go.Vai
open Go.RowKit

theorem spR_mono (S : Sp) (b2 : Nat) (nm0 : Nat → Bool) : YMono (spR S b2 nm0) := fun _ _ _ _ _ h => h.elim
theorem seqY_mono {args : List AV} {g : AV} {K K' : AV → AV → Prop} (hK : ∀ v g, K v g → K' v g) (h : seqY args g K) : seqY args g K' := by
  unfold seqY at *
  split at h
  · exact ⟨h.1, hK _ _ h.2.1, hK _ _ h.2.2⟩
  · exact h.elim
theorem spY_mono (P : Program) (f : FuncId) (N l : Nat) : YMono (spY P f N l) := fun _ _ _ _ hK h => seqY_mono hK h

/-- A round, as it is reckoned. -/
def roundC (S : Sp) (as body : Code) (ps : List Nat) (R : Exit → Env → Store → Prop) (E : Env) (x : List AV) (σ : Store) : Prop :=
  awpC S as (thenQ (awpC S body R) failQ) (setPs E ps x) σ

theorem range_of {S : Sp} {f : Operand} {ps : Array Tmp} {as body : Code} {Q : Exit → Env → Store → Prop} {E : Env} {σ : Store} (hrd : S.rd = false) (hlow : Operand.low S.N f = true) (hoA : codeQ S.P S.N as = true) (hoB : codeQ S.P S.N body = true)
    (hps : (ps.toList.all fun p => Nat.blt p S.N) = true) {g : FuncId} {caps : List AV} (hf : ev E f = .clo g caps) (q nm0 : Nat → Bool) (b2 : Nat) (hqc : AV.namesL (fun i => !q i) caps = false)
    (hqs : ∀ id k, σ id = some k → q id = true → AV.namesL (fun i => !q i) k.es = false) (hqn : ∀ id, q id = true → nm0 id = false) (hnm : ∀ id, S.pin id = true → nm0 id = true)
    (hb2 : ∀ id, nm0 id = true → id / 16 < b2 ∨ b2 + 100000 ≤ id / 16) (xs : List (List AV)) (hlen : ∀ x ∈ xs, x.length = ps.size) (hs : SOK S.P g caps (only q σ) xs) (I : List (List AV) → Store → Prop) (h0 : I xs (killS q σ))
    (hround : ∀ x rest σ, I (x :: rest) σ → roundC (spR S b2 nm0) as body ps.toList (rQ nm0 Q (fadeE nm0 E) (I rest)) (fadeE nm0 E) x σ)
    (hend : ∀ σ, I [] σ → Q .normal (fadeE nm0 E) σ) : semC S (.rangeFunc f ps as body) Q E σ := by
  refine range_sound hrd hlow (codeOK_of _ hoA) (codeOK_of _ hoB) (fun p hp => ?_) hf q nm0 b2 hqc hqs hqn hnm hb2 xs hlen hs I h0 (fun x rest σ hI => ?_) hend
  · exact Nat.le_of_ble_eq_true (List.all_eq_true.1 hps p hp)
  · have := hround x rest σ hI
    exact awpC_of (spR_mono S b2 nm0) as (thenQ_mono (fun _ _ h => awpC_of (spR_mono S b2 nm0) body (fun _ _ _ h => h) h) fun _ _ _ h => h) this

/-- An iterator's contract, from what is reckoned of its text. -/
theorem sok_of {P : Program} {f : FuncId} {fn : Func} {c : Code} {args : List AV} {σ : Store} {xs : List (List AV)} (hf : P.funcs[f]? = some fn) (hb : fn.body = some c) (hok : fnQ P fn c = true) (hmo : P.follows .mixedOrders = true)
    (hlen : args.length < fn.ntmps) (hxs : AV.namesL allB (xs.map .tup) = false) (hres : fn.results = #[])
    (h : ∀ l, awpC (spY P f fn.ntmps l) c (fun e => match e with | .normal => fun E _ => E fn.ntmps = .tup [] ∨ E fn.ntmps = .any | .ret => fun E _ => E fn.ntmps = .tup [] ∨ E fn.ntmps = .any | _ => fun _ _ => False) (upd (initE (.yld l :: args)) fn.ntmps (.tup (xs.map .tup))) σ) : SOK P f args σ xs := by
  refine sok_of_awp hf hb (fnOK_of hok) hmo hlen hxs fun l => awpC_of (spY_mono P f fn.ntmps l) c (fun e E σ hk => ?_) (h l)
  cases e <;> first | exact hk.elim | (simp only [retG, hres]; exact hk)

section
variable (P : Program) (f N l : Nat) (S : Sp) (b2 : Nat) (nm0 : Nat → Bool)
@[go_sem] theorem spY_P : (spY P f N l).P = P := rfl
@[go_sem] theorem spY_b : (spY P f N l).b = 131072 * (f + 1) := rfl
@[go_sem] theorem spY_N : (spY P f N l).N = N := rfl
@[go_sem] theorem spY_pin (id : Nat) : (spY P f N l).pin id = false := rfl
@[go_sem] theorem spY_yl : (spY P f N l).yl = l := rfl
@[go_sem] theorem spY_Y : (spY P f N l).Y = seqY := rfl
@[go_sem] theorem spR_P : (spR S b2 nm0).P = S.P := rfl
@[go_sem] theorem spR_b : (spR S b2 nm0).b = b2 := rfl
@[go_sem] theorem spR_N : (spR S b2 nm0).N = S.N := rfl
@[go_sem] theorem spR_pin : (spR S b2 nm0).pin = nm0 := rfl
end
@[go_sem] theorem seqY_cons (args x rest : List AV) (K : AV → AV → Prop) : seqY args (.tup (.tup x :: rest)) K = (args = x ∧ K (.v (.bool true)) (.tup rest) ∧ K (.v (.bool false)) .any) := rfl

/-! ### Ranges, with lists of names -/
def inI (l : List Nat) : Nat → Bool := fun i => l.contains i
@[go_sem] theorem inI_at (l : List Nat) (i : Nat) : inI l i = l.contains i := rfl
def ofI (l : List Nat) : Nat → Bool := fun i => !inI l i
@[go_sem] theorem ofI_at (l : List Nat) (i : Nat) : ofI l i = !inI l i := rfl
def namesO (p : Nat → Bool) (o : Option Blk) : Bool := match o with | some k => AV.namesL p k.es | none => false
@[go_sem] theorem namesO_some (p : Nat → Bool) (k : Blk) : namesO p (some k) = AV.namesL p k.es := rfl
@[go_sem] theorem namesO_none (p : Nat → Bool) : namesO p none = false := rfl
def namesQ (p : Nat → Bool) (σ : Store) : List Nat → Prop
  | [] => True
  | id :: l => namesO p (σ id) = false ∧ namesQ p σ l
@[go_sem] theorem namesQ_nil (p : Nat → Bool) (σ : Store) : namesQ p σ [] = True := rfl
@[go_sem] theorem namesQ_cons (p : Nat → Bool) (σ : Store) (id : Nat) (l : List Nat) : namesQ p σ (id :: l) = (namesO p (σ id) = false ∧ namesQ p σ l) := rfl
theorem namesQ_at {p : Nat → Bool} {σ : Store} : ∀ {l : List Nat}, namesQ p σ l → ∀ id ∈ l, namesO p (σ id) = false
  | [], _, _, h => by cases h
  | a :: l, h, id, hm => by
    rcases List.mem_cons.1 hm with rfl | hm
    · exact h.1
    · exact namesQ_at h.2 id hm
def fits2 (qs ns : List Nat) (b2 : Nat) : Bool := (qs.all fun i => !ns.contains i) && ns.all fun i => Nat.blt (i / 16) b2
section
variable (nm : Nat → Bool)
@[go_sem] theorem fade_v (x : Value) : fade nm (.v x) = .v x := rfl
@[go_sem] theorem fade_sl (s : Nat) (es : List AV) : fade nm (.sl s es) = .sl s es := rfl
@[go_sem] theorem fade_pt (e : AV) (j : Nat) : fade nm (.pt e j) = .pt e j := rfl
@[go_sem] theorem fade_any : fade nm .any = .any := rfl
@[go_sem] theorem fade_mp (es : List AV) : fade nm (.mp es) = .mp es := rfl
@[go_sem] theorem fade_yld (l : Nat) : fade nm (.yld l) = .yld l := rfl
@[go_sem] theorem fade_ownA (id s i n : Nat) : fade nm (.own id s i n) = .any := by
  unfold fade; simp only [AV.kill, AV.namesB, AV.dk]; by_cases h : nm id = true <;> simp [h, AV.ownB]
@[go_sem] theorem fade_ptr (id s i j : Nat) : fade nm (.ptr id s i j) = if nm id = true then .ptr id s i j else .any := by
  unfold fade; simp only [AV.kill, AV.namesB, AV.dk]; by_cases h : nm id = true <;> simp [h, AV.ownB]
theorem fade_free {a : AV} (h : AV.namesB allB a = false) : fade nm a = a := fade_nameless fun p => names_all h p
@[go_sem] theorem fadeE_at (E : Env) (t : Nat) : fadeE nm E t = fade nm (E t) := rfl
end
@[go_sem] theorem setPs_nil (E : Env) (x : List AV) : setPs E [] x = E := by simp [setPs]
@[go_sem] theorem setPs_cons (E : Env) (p : Nat) (ps : List Nat) (a : AV) (x : List AV) : setPs E (p :: ps) (a :: x) = setPs (upd E p a) ps x := rfl
@[go_sem] theorem roundC_eq (S : Sp) (as body : Code) (ps : List Nat) (R : Exit → Env → Store → Prop) (E : Env) (x : List AV) (σ : Store) : roundC S as body ps R E x σ = awpC S as (thenQ (awpC S body R) failQ) (setPs E ps x) σ := rfl
/-- A round ends: what may be forgotten, is forgotten. -/
@[go_sem ↓] theorem rQ_normal (nm : Nat → Bool) (Q : Exit → Env → Store → Prop) (E0 : Env) (I : Store → Prop) (E : Env) (σ : Store) : rQ nm Q E0 I .normal E σ = ∃ p : Nat → Bool, (∀ id, nm id = true → p id = false) ∧ I (killS p σ) := rfl
theorem round_mk {nm : Nat → Bool} {I : Store → Prop} {σ : Store} (h : I σ) : ∃ p : Nat → Bool, (∀ id, nm id = true → p id = false) ∧ I (killS p σ) :=
  ⟨inL [], fun id _ => by simp [inL], by rw [killS_nil]; exact h⟩
@[go_sem ↓] theorem rQ_ret (nm : Nat → Bool) (Q : Exit → Env → Store → Prop) (E0 : Env) (I : Store → Prop) (E : Env) (σ : Store) : rQ nm Q E0 I .ret E σ = ∃ p : Nat → Bool, (∀ id, nm id = true → p id = false) ∧ Q .ret E0 (killS p σ) := rfl
@[go_sem ↓] theorem rQ_exit (nm : Nat → Bool) (Q : Exit → Env → Store → Prop) (E0 : Env) (I : Store → Prop) (i : Nat) (E : Env) (σ : Store) : rQ nm Q E0 I (.exit i) E σ = ∃ p : Nat → Bool, (∀ id, nm id = true → p id = false) ∧ Q (.exit i) E0 (killS p σ) := rfl

/-- **A range over a function whose iterator's contract is known.** 'qs': the blocks that the iterator takes; 'ns': the blocks whose names the rounds know. -/
theorem range_mk {S : Sp} {f : Operand} {ps : Array Tmp} {as body : Code} {Q : Exit → Env → Store → Prop} {E : Env} {σ : Store} {g : FuncId} {caps : List AV} (qs ns : List Nat) (b2 : Nat) (xs : List (List AV)) (I : List (List AV) → Store → Prop)
    (hf : ev E f = .clo g caps) (hs : SOK S.P g caps (only (inI qs) σ) xs) (hlen : ∀ x ∈ xs, x.length = ps.size)
    (hqc : AV.namesL (ofI qs) caps = false) (hqs : namesQ (ofI qs) σ qs)
    (h0 : I xs (killS (inI qs) σ))
    (hround : ∀ E0 : Env, (∀ t, E0 t = fade (inI ns) (E t)) → ∀ x rest σ, I (x :: rest) σ → roundC (spR S b2 (inI ns)) as body ps.toList (rQ (inI ns) Q E0 (I rest)) E0 x σ)
    (hend : ∀ E0 : Env, (∀ t, E0 t = fade (inI ns) (E t)) → ∀ σ, I [] σ → Q .normal E0 σ)
    (hfit : fits2 qs ns b2 = true := by kernel_rfl) (hpin : ∀ id, S.pin id = false := by intro id; rfl) (hrd : S.rd = false := by rfl) (hlow : Operand.low S.N f = true := by kernel_rfl)
    (hoA : codeQ S.P S.N as = true := by kernel_rfl) (hoB : codeQ S.P S.N body = true := by kernel_rfl) (hps : (ps.toList.all fun p => Nat.blt p S.N) = true := by kernel_rfl) : semC S (.rangeFunc f ps as body) Q E σ := by
  simp only [fits2, Bool.and_eq_true, List.all_eq_true] at hfit
  refine range_of hrd hlow hoA hoB hps hf (inI qs) (inI ns) b2 hqc (fun id k hk hq => ?_) (fun id hq => ?_) (fun id hp => ?_) (fun id hn => ?_) xs hlen hs I h0 (fun x rest σ hI => hround _ (fun _ => rfl) x rest σ hI) (hend _ fun _ => rfl)
  · have := namesQ_at hqs id (by simpa [inI] using hq)
    rw [hk] at this; exact this
  · have := hfit.1 id (by simpa [inI] using hq)
    simpa [inI] using this
  · rw [hpin] at hp; cases hp
  · exact .inl (Nat.le_of_ble_eq_true (hfit.2 id (by simpa [inI] using hn)))
theorem awpC_range {S : Sp} {f : Operand} {ps : Array Tmp} {as body : Code} {Q : Exit → Env → Store → Prop} {E : Env} {σ : Store} (h : semC S (.rangeFunc f ps as body) Q E σ) : awpC S (.rangeFunc f ps as body) Q E σ := by simpa only [awpC] using h
@[go_sem] theorem only_at (q : Nat → Bool) (σ : Store) (id : Nat) : only q σ id = if q id = true then σ id else none := rfl
end Go.Vai

/- Functions that hand what they find to yield. -/
import Derived.Test.YtmiahmpobpokmaaVp
namespace Go.Vai
open Go.RowKit

variable {P : Program} {C : Fx} {w : World} {ρ : Nat → Option Nat} {Im : Nat → Prop} {M : Str} {E : Env} {σ : Store} {a : Act}

/-- The word of a caller whose rounds are asked for: what is still to come, whether he has had enough. -/
abbrev Word := List (List AV) → Bool → Str → World → Prop

def SStable (G : Word) : Prop := ∀ xs s, GStable fun _ => G xs s

/-- How a round is answered. -/
def Answers (P : Program) (l : Nat) (L : Nat → Prop) (G : Word) : Prop :=
  ∀ x rest M (w : World) (Im : Nat → Prop) (vs : List Value), G (x :: rest) false M w → (∀ b, Im b → b < w.heap.size ∧ ¬ M.m b) → (∀ b, M.m b → b < w.heap.size) → (∀ b, M.j b → Im b) → (∀ b, Im b → L b) → IReps w Im x vs → ∀ n,
    ∃ fn tmps assign body, (Instr.yield l vs.toArray).run P w = .ok (.round l fn tmps assign body) w ∧ RoundIn (FW none) n P l fn tmps assign body w fun e w' =>
      ∃ b M', e = .returned (.bool b) ∧ G rest (!b) M' w' ∧ (∀ k, M'.m k → k < w'.heap.size ∧ (M.m k ∨ w.heap.size ≤ k)) ∧ (∀ k, M'.j k → Im k) ∧ Ext w M.m w'

/-- **A function that hands 'xs' to yield, one after the other, as long as yield says so.** -/
def SOK (P : Program) (g : FuncId) (args : List AV) (σ : Store) (xs : List (List AV)) : Prop :=
  (∀ as w, (callFunc g as).run P w = .ok (.enter g as) w) ∧
  ∀ (w : World) (Im : Nat → Prop) (ρ : Nat → Option Nat) (vs : List Value) (l : Nat) (G : Word) (M0 : Str), SStable G → Inv w ρ Im σ → Reps w ρ Im args vs →
    (∀ b, M0.m b → b < w.heap.size ∧ (∀ id, ρ id ≠ some b) ∧ ¬ Im b) → (∀ b, M0.j b → Im b) → Answers P l (fun b => Im b ∨ w.heap.size ≤ b) G → G xs false M0 w →
    Calls P g (.func (.yield l) #[] #[] :: vs).toArray w fun e w' => ∃ y rest s M', e = .returned y ∧ (rest = [] ∨ s = true) ∧ G rest s M' w' ∧ Ext w (fun b => (∃ id, ρ id = some b) ∨ M0.m b) w'

def encG (xs : List (List AV)) : Bool → AV
  | false => .tup (xs.map .tup)
  | true => .any

/-- What comes next, is handed on; yield says whether to go on. -/
def seqY (args : List AV) (g : AV) (K : AV → AV → Prop) : Prop := match g with
  | .tup (.tup x :: rest) => args = x ∧ K (.v (.bool true)) (.tup rest) ∧ K (.v (.bool false)) .any
  | _ => False

def spY (P : Program) (f : FuncId) (N l : Nat) : Sp := { P, N, b := 131072 * (f + 1), pin := fun _ => false, yl := l, Y := seqY }

theorem names_all {a : AV} (h : AV.namesB allB a = false) (p : Nat → Bool) : AV.namesB p a = false := by
  cases hp : AV.namesB p a with
  | false => rfl
  | true =>
    have key : ∀ a : AV, AV.namesB p a = true → ∃ id, Names a id := by
      intro a
      suffices h : ∀ n (a : AV), SizeOf.sizeOf a < n → AV.namesB p a = true → ∃ id, Names a id from h _ a (Nat.lt_succ_self _)
      intro n
      induction n with
      | zero => intro a h; omega
      | succ n ih =>
        intro a hs hn
        have lst : ∀ cs : List AV, (∀ c ∈ cs, SizeOf.sizeOf c < n) → AV.namesL p cs = true → ∃ c ∈ cs, ∃ id, Names c id := fun cs hcs hl => by
          obtain ⟨c, hc, hcn⟩ := (AV.namesL_iff p cs).1 hl
          exact ⟨c, hc, ih c (hcs c hc) hcn⟩
        cases a with
        | own i s o m => exact ⟨i, .own ..⟩
        | ptr i s o m => exact ⟨i, .ptr ..⟩
        | mref i => exact ⟨i, .mref ..⟩
        | agg cs =>
          obtain ⟨c, hc, id, hid⟩ := lst cs (fun c hc => by have := List.sizeOf_lt_of_mem hc; simp at hs; omega) hn
          exact ⟨id, .agg cs c id hc hid⟩
        | tup cs =>
          obtain ⟨c, hc, id, hid⟩ := lst cs (fun c hc => by have := List.sizeOf_lt_of_mem hc; simp at hs; omega) hn
          exact ⟨id, .tup cs c id hc hid⟩
        | clo g cs =>
          obtain ⟨c, hc, id, hid⟩ := lst cs (fun c hc => by have := List.sizeOf_lt_of_mem hc; simp at hs; omega) hn
          exact ⟨id, .clo g cs c id hc hid⟩
        | _ => simp [AV.namesB] at hn
    obtain ⟨id, hid⟩ := key a hp
    have := AV.namesB_of allB hid rfl
    rw [h] at this; cases this

theorem namesL_cons {x : AV} {l : List AV} (h : AV.namesL allB (x :: l) = false) : AV.namesB allB x = false ∧ AV.namesL allB l = false := by
  simpa [AV.namesL] using h

/-- **Such a function's contract, out of what its text is asked.** -/
theorem sok_of_awp {f : FuncId} {fn : Func} {c : Code} {args : List AV} {xs : List (List AV)} (hf : P.funcs[f]? = some fn) (hb : fn.body = some c) (hok : fnOK P fn c = true) (hmo : P.follows .mixedOrders = true)
    (hlen : args.length < fn.ntmps) (hxs : AV.namesL allB (xs.map .tup) = false)
    (h : ∀ l, awp (spY P f fn.ntmps l) c (retG P fn fun _ E _ => E fn.ntmps = .tup [] ∨ E fn.ntmps = .any) (upd (initE (.yld l :: args)) fn.ntmps (encG xs false)) σ) : SOK P f args σ xs := by
  obtain ⟨h1, h2, h3, h4⟩ := fnOK_spec hok
  refine ⟨enters hf hb h3, fun w Im ρ vs l G M0 hG hinv hargs hM hJ hans hG0 => ?_⟩
  let C : Fx := { w0 := w, X0 := fun b => (∃ id, ρ id = some b) ∨ M0.m b, Im0 := Im, G := fun g M w => ∃ ys s, g = encG ys s ∧ AV.namesL allB (ys.map .tup) = false ∧ G ys s M w, N := fn.ntmps, rd := none, pin := fun _ => none, J0 := fun _ => False }
  have H : Holds (spY P f fn.ntmps l) C := by
    refine ⟨rfl, ?_, ?_, hmo, fun _ _ hp => (by cases hp), fun _ hp => (by cases hp), h4, fun _ => rfl⟩
    · rintro g M w w' ⟨ys, s, e, hn, hg⟩ hb hs ho ht hout
      exact ⟨ys, s, e, hn, hG ys s (.v undef) M w w' hg hb hs ho ht hout⟩
    · intro as g K hY w1 Im1 M1 vs1 hI hM1 hJ1 hL hvs ⟨ys, s, e, hn, hg⟩ n
      subst e
      cases s with
      | true => exact hY.elim
      | false =>
        cases ys with
        | nil => exact hY.elim
        | cons x rest =>
          obtain ⟨rfl, hK1, hK2⟩ := hY
          obtain ⟨hnx, hnr⟩ := namesL_cons hn
          obtain ⟨fn', tmps, assign, body, hr, hround⟩ := hans as rest M1 w1 Im1 vs1 hg hI hM1 hJ1 hL hvs n
          refine ⟨fn', tmps, assign, body, hr, hround.mono ?_⟩
          rintro e w' ⟨b, M', rfl, hg', hm, hj, hx⟩
          cases b with
          | true => exact ⟨_, .tup (rest.map .tup), M', rfl, ⟨true, rfl⟩, hK1, fun p => names_all (a := .tup (rest.map .tup)) hnr p, ⟨rest, false, rfl, hnr, hg'⟩, hm, hj, hx⟩
          | false => exact ⟨_, .any, M', rfl, ⟨false, rfl⟩, hK2, fun p => rfl, ⟨rest, true, rfl, hnr, hg'⟩, hm, hj, hx⟩
  have hyl : Reps w ρ Im (.yld l :: args) (.func (.yield l) #[] #[] :: vs) := by
    refine ⟨by simp [hargs.1], fun j c y hc hy => ?_⟩
    cases j with
    | zero => simp at hc hy; subst hc; subst hy; exact .im _ _ (.yld l)
    | succ j => exact hargs.2 j c y (by simpa using hc) (by simpa using hy)
  have henv : EnvRep w ρ Im (upd (initE (.yld l :: args)) fn.ntmps (encG xs false)) ((.func (.yield l) #[] #[] :: vs).toArray ++ Array.replicate (fn.ntmps - (.func (.yield l) #[] #[] :: vs).toArray.size) undef) := fun t y hy => by
    have hlt := (Array.getElem?_eq_some_iff.1 hy).1
    have hsz : ((Value.func (.yield l) #[] #[] :: vs).toArray ++ Array.replicate (fn.ntmps - (.func (.yield l) #[] #[] :: vs).toArray.size) undef).size = fn.ntmps := by
      have := hargs.1; simp; omega
    rw [hsz] at hlt
    simp only [upd]; rw [if_neg (by omega)]
    exact env_init hyl t y hy
  refine body_sound (E0 := upd (initE (.yld l :: args)) fn.ntmps (encG xs false)) (S := spY P f fn.ntmps l) (C := C) (vs := .func (.yield l) #[] #[] :: vs) (σ0 := σ) (ρ0 := ρ) (Im0 := Im) (M0 := M0) H rfl hf hb rfl h1 h2 ?_ (h l) fun E σ' tm w' ρ' I M us ys hk hrest hr => ?_
  · refine ⟨hinv, henv, (?_ : _ = fn.ntmps), Ext.refl _ _, fun i b hi => .inl (.inl ⟨i, hi⟩), fun b hb => .inl hb, fun p => ?_, ?_, hJ, fun b hb => ⟨(hM b hb).1, (hM b hb).2.1, (hM b hb).2.2, .inl (.inr hb)⟩, fun l r hr => (by cases hr), .nil, fun d hd => (by cases hd), fun b hb => ?_, fun id b hb => (by cases hb), fun b hb => hb.elim⟩
    · have := hargs.1; simp; omega
    · show AV.namesB p (upd (initE (.yld l :: args)) fn.ntmps (encG xs false) fn.ntmps) = false
      rw [upd_same]; exact names_all (a := .tup (xs.map .tup)) hxs p
    · show ∃ ys s, upd (initE (.yld l :: args)) fn.ntmps (encG xs false) fn.ntmps = encG ys s ∧ _
      rw [upd_same]; exact ⟨xs, false, rfl, hxs, hG0⟩
    · rcases hb with ⟨r, hr⟩ | hd
      · cases hr
      · cases hd
  · obtain ⟨zs, s, e, _, hg⟩ := hrest.g
    refine ⟨_, zs, s, M, rfl, ?_, hg, hrest.ext⟩
    have e : E fn.ntmps = encG zs s := e
    rw [e] at hk
    cases s with
    | true => exact .inr rfl
    | false =>
      rcases hk with hk | hk
      · refine .inl ?_
        simp only [encG, AV.tup.injEq, List.map_eq_nil_iff] at hk; exact hk
      · cases hk

end Go.Vai

/- A heap-free account of the walk, third part -/
import Derived.Test.YtnpbhgeffapojaaGreatDoorKB
set_option linter.all false
namespace Go.Vai
open Go.RowKit
variable {P : Program} {C : Fx} {w : World} {ρ : Nat -> Option Nat} {Im : Nat -> Prop} {M : Str} {E : Env} {σ : Jac} {a : Act}
abbrev Word := List (List AV) -> Bool -> Str -> World -> Prop
def JnE (G : Word) : Prop := ∀ xs s, JaM fun _ => G xs s
def JnB (P : Program) (l : Nat) (L : Nat -> Prop) (G : Word) : Prop :=
  ∀ x rest M (w : World) (Im : Nat -> Prop) (vs : List Value), G (x :: rest) false M w -> (∀ b, Im b -> b < w.heap.size /\ ¬ M.m b) -> (∀ b, M.m b -> b < w.heap.size) -> (∀ b, M.j b -> Im b) -> (∀ b, Im b -> L b) -> Jid w Im x vs -> ∀ n,
    ∃ fn tmps assign body, (Instr.yield l vs.toArray).run P w = .ok (.round l fn tmps assign body) w /\ RoundIn (FW none) n P l fn tmps assign body w fun e w' =>
      ∃ b M', e = .returned (.bool b) /\ G rest (!b) M' w' /\ (∀ k, M'.m k -> k < w'.heap.size /\ (M.m k \/ w.heap.size <= k)) /\ (∀ k, M'.j k -> Im k) /\ Ext w M.m w'
def SOK (P : Program) (g : FuncId) (args : List AV) (σ : Jac) (xs : List (List AV)) : Prop :=
  (∀ as w, (callFunc g as).run P w = .ok (.enter g as) w) /\
  ∀ (w : World) (Im : Nat -> Prop) (ρ : Nat -> Option Nat) (vs : List Value) (l : Nat) (G : Word) (M0 : Str), JnE G -> Inv w ρ Im σ -> GOK w Im -> Reps w ρ Im args vs ->
    (∀ b, M0.m b -> b < w.heap.size /\ (∀ id, ρ id ≠ some b) /\ ¬ Im b) -> (∀ b, M0.j b -> Im b) -> JnB P l (fun b => Im b \/ w.heap.size <= b) G -> G xs false M0 w ->
    Calls P g (.func (.yield l) #[] #[] :: vs).toArray w fun e w' => ∃ y rest s M', e = .returned y /\ (rest = [] \/ s = true) /\ G rest s M' w' /\ Ext w (fun b => (∃ id, ρ id = some b) \/ M0.m b) w'
def encG (xs : List (List AV)) : Bool -> AV
  | false => .tup (xs.map .tup)
  | true => .any
def seqY (args : List AV) (g : AV) (K : AV -> AV -> Prop) : Prop := match g with
  | .tup (.tup x :: rest) => args = x /\ K (.v (.bool true)) (.tup rest) /\ K (.v (.bool false)) .any
  | _ => False
def spY (P : Program) (f : FuncId) (N l : Nat) : Sp := { P, N, b := 131072 * (f + 1), pin := fun _ => false, yl := l, Y := seqY }
theorem JeW {a : AV} (h : AV.namesB allB a = false) (p : Nat -> Bool) : AV.namesB p a = false := by
  cases hp : AV.namesB p a with
  | false => rfl
  | true =>
    have key : ∀ a : AV, AV.namesB p a = true -> ∃ id, Names a id := by
      intro a
      suffices h : ∀ n (a : AV), SizeOf.sizeOf a < n -> AV.namesB p a = true -> ∃ id, Names a id from h _ a (L28 _)
      intro n
      induction n with
      | zero => intro a h; omega
      | succ n ih =>
        intro a hs hn
        have lst : ∀ cs : List AV, (∀ c ∈ cs, SizeOf.sizeOf c < n) -> AV.namesL p cs = true -> ∃ c ∈ cs, ∃ id, Names c id := fun cs hcs hl => by
          obtain ⟨c, hc, hcn⟩ := (AV.namesL_iff p cs).1 hl
          exact ⟨c, hc, ih c (hcs c hc) hcn⟩
        cases a with
        | own i s o m => exact ⟨i, .own ..⟩
        | ptr i s o m => exact ⟨i, .ptr ..⟩
        | mref i => exact ⟨i, .mref ..⟩
        | agg cs =>
          obtain ⟨c, hc, id, hid⟩ := lst cs (fun c hc => by have := L1f hc; simp at hs; omega) hn
          exact ⟨id, .agg cs c id hc hid⟩
        | tup cs =>
          obtain ⟨c, hc, id, hid⟩ := lst cs (fun c hc => by have := L1f hc; simp at hs; omega) hn
          exact ⟨id, .tup cs c id hc hid⟩
        | clo g cs =>
          obtain ⟨c, hc, id, hid⟩ := lst cs (fun c hc => by have := L1f hc; simp at hs; omega) hn
          exact ⟨id, .clo g cs c id hc hid⟩
        | _ => simp [AV.namesB] at hn
    obtain ⟨id, hid⟩ := key a hp
    have := AV.namesB_of allB hid rfl
    rw [h] at this; cases this
theorem JgU {x : AV} {l : List AV} (h : AV.namesL allB (x :: l) = false) : AV.namesB allB x = false /\ AV.namesL allB l = false := by
  simpa [AV.namesL] using h
theorem Jno {f : FuncId} {fn : Func} {c : Code} {args : List AV} {xs : List (List AV)} (hf : P.funcs[f]? = some fn) (hb : fn.body = some c) (hok : fnOK P fn c = true) (hmo : P.follows .mixedOrders = true)
    (hlen : args.length < fn.ntmps) (hxs : AV.namesL allB (xs.map .tup) = false)
    (h : ∀ l, awp (spY P f fn.ntmps l) c (retG P fn fun _ E _ => E fn.ntmps = .tup [] \/ E fn.ntmps = .any) (upd (JbW (.yld l :: args)) fn.ntmps (encG xs false)) σ) : SOK P f args σ xs := by
  obtain ⟨h1, h2, h3, h4⟩ := Jjs hok
  refine ⟨enters hf hb h3, fun w Im ρ vs l G M0 hG hinv hgk hargs hM hJ hans hG0 => ?_⟩
  let C : Fx := { w0 := w, X0 := fun b => (∃ id, ρ id = some b) \/ M0.m b, Im0 := Im, G := fun g M w => ∃ ys s, g = encG ys s /\ AV.namesL allB (ys.map .tup) = false /\ G ys s M w, N := fn.ntmps, rd := none, pin := fun _ => none, J0 := Im }
  have H : Holds (spY P f fn.ntmps l) C := by
    refine ⟨rfl, ?_, ?_, hmo, fun _ _ hp => (by cases hp), fun _ hp => (by cases hp), h4, fun _ => rfl, fun _ _ _ _ => rfl, hgk, fun b hb => ⟨fun hx => ?_, hinv.low b (hgk.im hb)⟩, (fun h => by cases h)⟩
    rotate_left 2
    . rcases hx with ⟨id, hid⟩ | hx
      . exact hinv.apart id b hid (hgk.im hb)
      . exact (hM b hx).2.2 (hgk.im hb)
    . rintro g M w w' ⟨ys, s, e, hn, hg⟩ hb hs ho ht hout
      exact ⟨ys, s, e, hn, hG ys s (.v undef) M w w' hg hb hs ho ht hout⟩
    . intro as g K hY w1 Im1 M1 vs1 hI hM1 hJ1 hL hvs ⟨ys, s, e, hn, hg⟩ n
      subst e
      cases s with
      | true => exact hY.elim
      | false =>
        cases ys with
        | nil => exact hY.elim
        | cons x rest =>
          obtain ⟨rfl, hK1, hK2⟩ := hY
          obtain ⟨hnx, hnr⟩ := JgU hn
          obtain ⟨fn', tmps, assign, body, hr, hround⟩ := hans as rest M1 w1 Im1 vs1 hg hI hM1 hJ1 hL hvs n
          refine ⟨fn', tmps, assign, body, hr, hround.mono ?_⟩
          rintro e w' ⟨b, M', rfl, hg', hm, hj, hx⟩
          cases b with
          | true => exact ⟨_, .tup (rest.map .tup), M', rfl, ⟨true, rfl⟩, hK1, fun p => JeW (a := .tup (rest.map .tup)) hnr p, ⟨rest, false, rfl, hnr, hg'⟩, hm, hj, hx⟩
          | false => exact ⟨_, .any, M', rfl, ⟨false, rfl⟩, hK2, fun p => rfl, ⟨rest, true, rfl, hnr, hg'⟩, hm, hj, hx⟩
  have hyl : Reps w ρ Im (.yld l :: args) (.func (.yield l) #[] #[] :: vs) := by
    refine ⟨by simp [hargs.1], fun j c y hc hy => ?_⟩
    cases j with
    | zero => simp at hc hy; subst hc; subst hy; exact .im _ _ (.yld l)
    | succ j => exact hargs.2 j c y (by simpa using hc) (by simpa using hy)
  have henv : JaG w ρ Im (upd (JbW (.yld l :: args)) fn.ntmps (encG xs false)) ((.func (.yield l) #[] #[] :: vs).toArray ++ Array.replicate (fn.ntmps - (.func (.yield l) #[] #[] :: vs).toArray.size) undef) := fun t y hy => by
    have hlt := (L0j.1 hy).1
    have hsz : ((Value.func (.yield l) #[] #[] :: vs).toArray ++ Array.replicate (fn.ntmps - (.func (.yield l) #[] #[] :: vs).toArray.size) undef).size = fn.ntmps := by
      have := hargs.1; simp; omega
    rw [hsz] at hlt
    simp only [upd]; rw [if_neg (by omega)]
    exact JeO hyl t y hy
  refine JcN (E0 := upd (JbW (.yld l :: args)) fn.ntmps (encG xs false)) (S := spY P f fn.ntmps l) (C := C) (vs := .func (.yield l) #[] #[] :: vs) (σ0 := σ) (ρ0 := ρ) (Im0 := Im) (M0 := M0) H rfl hf hb rfl h1 h2 ?_ (h l) fun E σ' tm w' ρ' I M us ys hk hrest hr => ?_
  . refine ⟨hinv, henv, (?_ : _ = fn.ntmps), Ext.refl _ _, fun i b hi => .inl ⟨.inl ⟨i, hi⟩, trivial⟩, fun b hb => .inl hb, fun p => ?_, ?_, hJ, fun b hb => ⟨(hM b hb).1, (hM b hb).2.1, (hM b hb).2.2, .inl (.inr hb)⟩, fun l r hr => (by cases hr), .nil, fun d hd => (by cases hd), fun b hb => ?_, fun id b hb => (by cases hb), fun b hb => hb⟩
    . have := hargs.1; simp; omega
    . show AV.namesB p (upd (JbW (.yld l :: args)) fn.ntmps (encG xs false) fn.ntmps) = false
      rw [Jgi]; exact JeW (a := .tup (xs.map .tup)) hxs p
    . show ∃ ys s, upd (JbW (.yld l :: args)) fn.ntmps (encG xs false) fn.ntmps = encG ys s /\ _
      rw [Jgi]; exact ⟨xs, false, rfl, hxs, hG0⟩
    . rcases hb with ⟨r, hr⟩ | hd
      . cases hr
      . cases hd
  . obtain ⟨zs, s, e, _, hg⟩ := hrest.g
    refine ⟨_, zs, s, M, rfl, ?_, hg, hrest.ext⟩
    have e : E fn.ntmps = encG zs s := e
    rw [e] at hk
    cases s with
    | true => exact .inr rfl
    | false =>
      rcases hk with hk | hk
      . refine .inl ?_
        simp only [encG, AV.tup.injEq, L2i] at hk; exact hk
      . cases hk
variable {P : Program} {C : Fx} {w w' : World} {ρ : Nat -> Option Nat} {Im : Nat -> Prop} {M : Str} {E : Env} {σ : Jac} {a : Act}
structure Core (C : Fx) (E : Env) (σ : Jac) (a : Act) (w : World) (ρ : Nat -> Option Nat) (Im : Nat -> Prop) (M : Str) : Prop where
  inv : Inv w ρ Im σ
  env : JaG w ρ Im E a.tmps
  size : a.tmps.size = C.N
  rng : ∀ id b, ρ id = some b -> (C.X0 b /\ C.R0 id b) \/ C.w0.heap.size <= b
  im : ∀ b, Im b -> C.Im0 b \/ C.w0.heap.size <= b
  gh : ∀ p, AV.namesB p (E C.N) = false
  g : C.G (E C.N) M w
  js : ∀ b, M.j b -> Im b
  ms : ∀ b, M.m b -> b < w.heap.size /\ (∀ id, ρ id ≠ some b) /\ ¬ Im b /\ (C.X0 b \/ C.w0.heap.size <= b)
  rd : ∀ l r, C.rd = some (l, r) -> w.heap[l]? = some (.loop r)
  nodup : a.defers.Nodup
  df : ∀ d ∈ a.defers, ∃ D, d = stamp D /\ w.heap[D]? = some (.deferred (some [])) /\ C.w0.heap.size <= D
  bk : ∀ b, C.book a b -> (∀ id, ρ id ≠ some b) /\ ¬ Im b /\ ¬ M.m b
  pin : ∀ id ob, C.pin id = some ob -> ρ id = ob
  j0 : ∀ b, C.J0 b -> Im b
theorem Wit.core (h : Wit C E σ a w ρ Im M) : Core C E σ a w ρ Im M := ⟨h.inv, h.env, h.size, h.rng, h.im, h.gh, h.g, h.js, h.ms, h.rd, h.nodup, h.df, h.bk, h.pin, h.j0⟩
theorem Core.wit (h : Core C E σ a w ρ Im M) (hx : Ext C.w0 C.X0 w) : Wit C E σ a w ρ Im M := ⟨h.inv, h.env, h.size, hx, h.rng, h.im, h.gh, h.g, h.js, h.ms, h.rd, h.nodup, h.df, h.bk, h.pin, h.j0⟩
theorem Inv.carry (h : Inv w ρ Im σ) (hb : ∀ k, (∃ id, ρ id = some k) \/ Im k -> w'.heap[k]? = w.heap[k]?) (hs : w.heap.size <= w'.heap.size) : Inv w' ρ Im σ := by
  have rep : ∀ {v : AV} {y : Value}, Rep w ρ Im v y -> Rep w' ρ Im v y := fun {v y} hr =>
    Rep.mono (w := w) (w' := w') (fun _ h => h) (fun b hI => hb b (.inr hI)) hr fun i _ => ⟨rfl, fun b hi cur e hc => ⟨cur, by rw [hb b (.inl ⟨i, hi⟩)]; exact hc, rfl⟩⟩
  exact ⟨h.nil, fun i k b hk hi hz => by
      obtain ⟨ents, clk, hbb, hl, hc⟩ := h.map i k b hk hi hz
      exact ⟨ents, clk, by rw [hb b (.inl ⟨i, hi⟩)]; exact hbb, hl, fun i m hm => by obtain ⟨v, hv, hr⟩ := hc i m hm; exact ⟨v, hv, rep hr⟩⟩,
    fun i k b hk hi hz => by
      obtain ⟨cur, hbb, hl, hs, hc⟩ := h.blk i k b hk hi hz
      exact ⟨cur, by rw [hb b (.inl ⟨i, hi⟩)]; exact hbb, hl, hs, fun i e j c he hcc => by obtain ⟨v, hv, h1, hr⟩ := hc i e j c he hcc; exact ⟨v, hv, h1, rep hr⟩⟩,
    h.inj, h.live, h.apart, fun b hI => L0Q (h.low b hI) hs⟩
theorem Core.bklt (h : Core C E σ a w ρ Im M) {b : Nat} (hb : C.book a b) : b < w.heap.size := by
  rcases hb with ⟨r, hr⟩ | hd
  . exact (L0j.1 (h.rd b r hr)).1
  . obtain ⟨D, e, hD, _⟩ := h.df _ hd
    rw [JdK e]; exact (L0j.1 hD).1
theorem Core.carry (hG : JaM C.G) (h : Core C E σ a w ρ Im M) (hb : ∀ k, (∃ id, ρ id = some k) \/ Im k \/ M.m k \/ C.book a k -> w'.heap[k]? = w.heap[k]?) (hs : w.heap.size <= w'.heap.size)
    (ho : w'.os = w.os) (ht : w'.tape = w.tape) (hout : w'.output = w.output) : Core C E σ a w' ρ Im M where
  inv := h.inv.carry (fun k hk => hb k (by rcases hk with h | h <;> simp [h])) hs
  env := fun t y hy => Rep.mono (w := w) (w' := w') (fun _ h => h) (fun b hI => hb b (.inr (.inl hI))) (h.env t y hy) fun i _ => ⟨rfl, fun b hi cur e hc => ⟨cur, by rw [hb b (.inl ⟨i, hi⟩)]; exact hc, rfl⟩⟩
  size := h.size
  rng := h.rng
  im := h.im
  gh := h.gh
  g := hG _ _ _ _ h.g (fun k hk => hb k (by rcases hk with hk | hk; exact .inr (.inr (.inl hk)); exact .inr (.inl (h.js k hk)))) hs ho ht hout
  js := h.js
  ms := fun b hm => by obtain ⟨h1, h2⟩ := h.ms b hm; exact ⟨L0Q h1 hs, h2⟩
  rd := fun l r hr => by rw [hb l (.inr (.inr (.inr (.inl ⟨r, hr⟩))))]; exact h.rd l r hr
  nodup := h.nodup
  df := fun d hd => by
    obtain ⟨D, e, hD, hl⟩ := h.df d hd
    exact ⟨D, e, by rw [hb D (.inr (.inr (.inr (.inr (e ▸ hd)))))]; exact hD, hl⟩
  bk := h.bk
  pin := h.pin
  j0 := h.j0
mutual
def AV.ownB : AV -> Bool
  | .own _ _ _ _ => true
  | .agg cs => AV.ownL cs
  | .tup cs => AV.ownL cs
  | .clo _ cs => AV.ownL cs
  | _ => false
def AV.ownL : List AV -> Bool
  | [] => false
  | c :: cs => AV.ownB c || AV.ownL cs
end
theorem AV.ownL_mem {cs : List AV} (h : AV.ownL cs = false) : ∀ c ∈ cs, AV.ownB c = false := by
  induction cs with
  | nil => simp
  | cons x cs ih =>
    simp only [AV.ownL, L1B] at h
    intro c hc; rcases L0h.1 hc with rfl | hc
    . exact h.1
    . exact ih h.2 c hc
def fade (nm : Nat -> Bool) (a : AV) : AV := if (a.kill fun i => !nm i).ownB then .any else a.kill fun i => !nm i
def Jeq (nm : Nat -> Bool) (E : Env) : Env := fun t => fade nm (E t)
theorem JhF {nm : Nat -> Bool} {a : AV} {id : Nat} (h : Names (fade nm a) id) : nm id = true /\ Names a id := by
  unfold fade at h
  split at h
  . cases h
  . obtain ⟨h1, h2⟩ := AV.kill_names _ a id h; exact ⟨by simpa using h2, h1⟩
theorem JlE (nm : Nat -> Bool) (a : AV) : (fade nm a).ownB = false := by
  unfold fade; split
  . rfl
  . rename_i h; simpa using h
theorem Rep.fade {nm : Nat -> Bool} {a : AV} {y : Value} (h : Rep w ρ Im a y) : Rep w ρ Im (Vai.fade nm a) y := by
  unfold Vai.fade; split
  . exact .im _ _ (.any _)
  . exact h.kill _
theorem Jir {nm : Nat -> Bool} {a : AV} (h : ∀ p, AV.namesB p a = false) : fade nm a = a := by
  have hk : a.kill (fun i => !nm i) = a := Jcp (h _)
  unfold fade; rw [hk]
  have : a.ownB = false := by
    have h1 := h allB
    suffices hh : ∀ n (a : AV), SizeOf.sizeOf a < n -> AV.namesB allB a = false -> a.ownB = false from hh _ a (L28 _) h1
    intro n
    induction n with
    | zero => intro a h; omega
    | succ n ih =>
      intro a hs hn
      have lst : ∀ cs : List AV, (∀ c ∈ cs, SizeOf.sizeOf c < n) -> AV.namesL allB cs = false -> AV.ownL cs = false := by
        intro cs
        induction cs with
        | nil => intro _ _; rfl
        | cons c cs ihl =>
          intro hcs hl
          simp only [AV.namesL, L1B] at hl; simp only [AV.ownL, L1B]
          exact ⟨ih c (hcs c (by simp)) hl.1, ihl (fun c hc => hcs c (by simp [hc])) hl.2⟩
      cases a with
      | own i s o m => simp [AV.namesB, allB] at hn
      | agg cs => exact lst cs (fun c hc => by have := L1f hc; simp at hs; omega) hn
      | tup cs => exact lst cs (fun c hc => by have := L1f hc; simp at hs; omega) hn
      | clo g cs => exact lst cs (fun c hc => by have := L1f hc; simp at hs; omega) hn
      | _ => rfl
  rw [this]; rfl
theorem Rep.stay {ρ' : Nat -> Option Nat} {Im' : Nat -> Prop} (hI : ∀ b, Im b -> Im' b) (hc : ∀ b, Im b -> w'.heap[b]? = w.heap[b]?) {a : AV} {y : Value} (h : Rep w ρ Im a y) (ho : a.ownB = false) (hρ : ∀ id, Names a id -> ρ' id = ρ id) : Rep w' ρ' Im' a y := by
  induction h with
  | im a y h => exact .im a y (h.mono hI hc)
  | agg cs ys hl h1 _ ih => exact .agg cs ys hl h1 fun j c y hj hy => ih j c y hj hy (AV.ownL_mem ho c (L01 hj)) fun id hn => hρ id (.agg cs c id (L01 hj) hn)
  | tup cs ys hl _ ih => exact .tup cs ys hl fun j c y hj hy => ih j c y hj hy (AV.ownL_mem ho c (L01 hj)) fun id hn => hρ id (.tup cs c id (L01 hj) hn)
  | clo g cs ys hl _ ih => exact .clo g cs ys hl fun j c y hj hy => ih j c y hj hy (AV.ownL_mem ho c (L01 hj)) fun id hn => hρ id (.clo g cs c id (L01 hj) hn)
  | ownNil => cases ho
  | own => cases ho
  | ownAt => cases ho
  | ptr id sz i j b hr hz => exact .ptr id sz i j b (by rw [hρ id (.ptr ..)]; exact hr) hz
  | mref id b hr => exact .mref id b (by rw [hρ id (.mref ..)]; exact hr)
def Jdm (E : Env) (ps : List Nat) (x : List AV) : Env := (ps.zip x).foldl (fun E p => upd E p.1 p.2) E
theorem Jj4 {N : Nat} : ∀ (ps : List Nat) (x : List AV) (vs : List Value) (E : Env) (tm : Array Value), JaG w ρ Im E tm -> Jid w Im x vs -> tm.size = N -> 
    JaG w ρ Im (Jdm E ps x) ((ps.zip vs).foldl (fun tm (t, v) => tm.setIfInBounds t v) tm) /\ ((ps.zip vs).foldl (fun tm (t, v) => tm.setIfInBounds t v) tm).size = N
  | [], x, vs, E, tm, h, _, hs => ⟨by simpa [Jdm] using h, by simpa using hs⟩
  | p :: ps, [], vs, E, tm, h, hr, hs => by
    have : vs = [] := L0R (by have := hr.1; simpa using this.symm)
    subst this; exact ⟨by simpa [Jdm] using h, by simpa using hs⟩
  | p :: ps, c :: x, [], E, tm, h, hr, hs => by have := hr.1; simp at this
  | p :: ps, c :: x, v :: vs, E, tm, h, hr, hs => by
    have h1 : JaG w ρ Im (upd E p c) (tm.setIfInBounds p v) := JaG.put (dst := some p) (tm := { tmps := tm, defers := [] }) h (.im _ _ (hr.2 0 c v rfl rfl))
    exact Jj4 ps x vs (upd E p c) (tm.setIfInBounds p v) h1 ⟨by simpa using hr.1, fun j d y hd hy => hr.2 (j + 1) d y (by simpa using hd) (by simpa using hy)⟩ (by simpa using hs)
theorem Jj3 {N : Nat} : ∀ (ps : List Nat) (x : List AV) (E : Env), (∀ p ∈ ps, p < N) -> Jdm E ps x N = E N
  | [], x, E, _ => by simp [Jdm]
  | p :: ps, [], E, _ => by simp [Jdm]
  | p :: ps, c :: x, E, h => by
    have := Jj3 (N := N) ps x (upd E p c) fun q hq => h q (by simp [hq])
    simp only [Jdm, List.zip_cons_cons, L1k] at this ⊢
    rw [this]; simp only [upd]; rw [if_neg (by have := h p (by simp); omega)]
variable {P : Program} {C : Fx} {w w' : World} {ρ : Nat -> Option Nat} {Im : Nat -> Prop} {M : Str} {E : Env} {σ : Jac} {a : Act}
def spR (S : Sp) (b2 : Nat) (nm0 : Nat -> Bool) : Sp := { P := S.P, N := S.N, b := b2, pin := nm0, rd := true, yl := 0, Y := fun _ _ _ => False, bad := S.bad }
def rQ (nm0 : Nat -> Bool) (Q : Exit -> Env -> Jac -> Prop) (E0 : Env) (I : Jac -> Prop) : Exit -> Env -> Jac -> Prop
  | .normal => fun _ σ => ∃ p : Nat -> Bool, (∀ id, nm0 id = true -> p id = false) /\ I (Jaj p σ)
  | .ret => fun _ σ => ∃ p : Nat -> Bool, (∀ id, nm0 id = true -> p id = false) /\ Q .ret E0 (Jaj p σ)
  | .exit i => fun _ σ => ∃ p : Nat -> Bool, (∀ id, nm0 id = true -> p id = false) /\ Q (.exit i) E0 (Jaj p σ)
  | _ => fun _ _ => False
def JqY : Exit -> Env -> Jac -> Prop := fun _ _ _ => False
def only (q : Nat -> Bool) (σ : Jac) : Jac := fun id => if q id then σ id else none
theorem Inv.only {q : Nat -> Bool} (h : Inv w ρ Im σ) (hq : ∀ id k, σ id = some k -> q id = true -> AV.namesL (fun i => !q i) k.es = false) : Inv w (killR (fun i => !q i) ρ) Im (Vai.only q σ) where
  nil := fun i k hk hr => by
    simp only [Vai.only] at hk; split at hk
    . rename_i hqi; rw [Jax ρ (by simp [hqi])] at hr; exact h.nil i k hk hr
    . cases hk
  map := fun i k b hk hr hz => by
    simp only [Vai.only] at hk; split at hk
    . rename_i hqi
      rw [Jax ρ (by simp [hqi])] at hr
      obtain ⟨ents, clk, hb, hl, hc⟩ := h.map i k b hk hr hz
      refine ⟨ents, clk, hb, hl, fun j m hm => ?_⟩
      obtain ⟨v, hv, hrv⟩ := hc j m hm
      refine ⟨v, hv, hrv.killR fun id hid => ?_⟩
      cases hp : (!q id) with
      | false => rfl
      | true =>
        have := (AV.namesL_iff (fun i => !q i) k.es).2 ⟨_, L01 hv, AV.namesB_of (fun i => !q i) (.tup _ v id (by simp) hid) hp⟩
        rw [hq i k hk hqi] at this; cases this
    . cases hk
  blk := fun i k b hk hr hz => by
    simp only [Vai.only] at hk; split at hk
    . rename_i hqi
      rw [Jax ρ (by simp [hqi])] at hr
      obtain ⟨cur, hb, hl, hs, hc⟩ := h.blk i k b hk hr hz
      refine ⟨cur, hb, hl, hs, fun i' e j c he hcc => ?_⟩
      obtain ⟨x, hx, h1, hrx⟩ := hc i' e j c he hcc
      refine ⟨x, hx, h1, hrx.killR fun id hid => ?_⟩
      cases hp : (!q id) with
      | false => rfl
      | true =>
        have := (AV.namesL_iff (fun i => !q i) k.es).2 ⟨e, L01 he, AV.namesB_of (fun i => !q i) (Jbh (L01 hcc) hid) hp⟩
        rw [hq i k hk hqi] at this; cases this
    . cases hk
  inj := fun i j b h1 h2 => h.inj i j b (Jaf h1).2 (Jaf h2).2
  live := fun i b hr hs => by
    obtain ⟨hp, hr⟩ := Jaf hr
    simp only [Vai.only] at hs
    rw [if_pos (by simpa using hp)] at hs
    exact h.live i b hr hs
  apart := fun i b hr => h.apart i b (Jaf hr).2
  low := h.low
theorem Reps.only {q : Nat -> Bool} {vs : List AV} {ys : List Value} (h : Reps w ρ Im vs ys) (hq : AV.namesL (fun i => !q i) vs = false) : Reps w (killR (fun i => !q i) ρ) Im vs ys :=
  ⟨h.1, fun j c y hc hy => (h.2 j c y hc hy).killR fun id hid => by
    cases hp : (!q id) with
    | false => rfl
    | true =>
      have := (AV.namesL_iff (fun i => !q i) vs).2 ⟨c, L01 hc, AV.namesB_of (fun i => !q i) hid hp⟩
      rw [hq] at this; cases this⟩
structure InLoop (C : Fx) (Q : Exit -> Env -> Jac -> Prop) (I : List (List AV) -> Jac -> Prop) (E0 : Env) (a : Act) (l n lo : Nat) (r0 : Loop) (xs : List (List AV)) (s : Bool) (M' : Str) (w : World)
    (σ : Jac) (ρ : Nat -> Option Nat) (Im : Nat -> Prop) (M : Str) (r : Loop) : Prop where
  len : ∀ x ∈ xs, x.length = n
  late : lo <= w.heap.size
  core : Core C E0 σ a w ρ Im M
  lrec : w.heap[l]? = some (.loop r)
  same : r = { r0 with state := r.state, pending := r.pending }
  lρ : ∀ id, ρ id ≠ some l
  lI : ¬ Im l
  lM : ¬ M.m l
  lb : ¬ C.book a l
  cov : ∀ b, (∃ id, ρ id = some b) \/ M.m b \/ b = l \/ C.book a b -> M'.m b
  covI : ∀ b, Im b -> M'.m b \/ M'.j b
  gok : GOK w Im
  st : (s = false /\ r.state = .ready /\ r.pending = none /\ I xs σ) \/ (s = true /\ r.state = .done /\ ((r.pending = some .ret /\ Q .ret E0 σ) \/ ∃ i, r.pending = some (.exit i) /\ Q (.exit i) E0 σ))
theorem JnY {C : Fx} (h : C.rd = none) (a : Act) (b : Nat) : C.book a b ↔ stamp b ∈ a.defers := by simp [Fx.book, h]
theorem Jla {S : Sp} {ps : Array Tmp} {as body : Code} {Q : Exit -> Env -> Jac -> Prop} (H : Holds S C) (hrd : C.rd = none) (hoA : JaY S.P S.N S.bad as = true) (hoB : JaY S.P S.N S.bad body = true) (hps : ∀ p ∈ ps.toList, p < S.N)
    {nm0 : Nat -> Bool} {b2 : Nat} (hnm : ∀ id, S.pin id = true -> nm0 id = true) (hb2 : ∀ id, nm0 id = true -> id / 16 < b2 \/ b2 + 100000 <= id / 16) {I : List (List AV) -> Jac -> Prop} {E0 : Env} (hE0 : ∀ t, (E0 t).ownB = false /\ ∀ id, Names (E0 t) id -> nm0 id = true)
    (hround : ∀ x rest σ, I (x :: rest) σ -> awp (spR S b2 nm0) as (Jc4 (awp (spR S b2 nm0) body (rQ nm0 Q E0 (I rest))) JqY) (Jdm E0 ps.toList x) σ)
    {l : Nat} {r0 : Loop} (hr0 : r0.params = ps /\ r0.assign = as /\ r0.body = body /\ r0.tmps = a.tmps) (hl : C.w0.heap.size <= l) {wc : World} (hwc : C.w0.heap.size <= wc.heap.size) (hImc : ∀ b, Im b -> C.Im0 b \/ C.w0.heap.size <= b) (hlc : l < wc.heap.size) (hbc : ∀ b, C.book a b -> b < wc.heap.size) :
    JnB S.P l (fun b => Im b \/ wc.heap.size <= b) fun xs s M' w => ∃ σ ρ Im M r, InLoop C Q I E0 a l ps.size wc.heap.size r0 xs s M' w σ ρ Im M r := by
  rintro x rest M1 w1 Im1 vs1 ⟨σ, ρ, Ic, M, r, h⟩ hI1 hM1 hJ1 hL1 hvs n
  rcases h.st with ⟨_, hst, hpd, hinv⟩ | ⟨hs, _⟩
  rotate_left
  . cases hs
  have hrr : r = { r0 with state := .ready, pending := none } := by rw [h.same, hst, hpd]
  have hlenx : x.length = ps.size := h.len x (by simp)
  have hyield := run_yield (P := S.P) (args := vs1.toArray) h.lrec (by rw [hrr]; simp only [hr0.1, L0Y, <- hvs.1, hlenx])
  have hf : ∀ (f : Array Value -> Tmp × Value -> Array Value) (t0 : Array Value), (ps.zip vs1.toArray).foldl f t0 = (ps.toList.zip vs1).foldl f t0 := fun f t0 => by
    rw [<- Array.foldl_toList]; simp
  have htm : r.tmps = a.tmps := by rw [hrr]; exact hr0.2.2.2
  have hpar : r.params = ps := by rw [hrr]; exact hr0.1
  have has : r.assign = as := by rw [hrr]; exact hr0.2.1
  have hbo : r.body = body := by rw [hrr]; exact hr0.2.2.1
  rw [hpar, htm, has, hbo, hf] at hyield
  -- the round's activation
  have Im2 : ∀ b, Ic b \/ Im1 b -> b < w1.heap.size := fun b hb => by
    rcases hb with hb | hb
    . exact h.core.inv.low b hb
    . exact (hI1 b hb).1
  have dis : ∀ b, ((∃ id, ρ id = some b) \/ M.m b \/ b = l \/ C.book a b) -> ¬ (Ic b \/ Im1 b) := fun b hb hI => by
    rcases hI with hI | hI
    . rcases hb with ⟨id, hid⟩ | hb | hb | hb
      . exact h.core.inv.apart id b hid hI
      . exact (h.core.ms b hb).2.2.1 hI
      . subst hb; exact h.lI hI
      . exact (h.core.bk b hb).2.1 hI
    . exact (hI1 b hI).2 (h.cov b hb)
  have hin2 : Inv w1 ρ (fun b => Ic b \/ Im1 b) σ := by
    have rep : ∀ {v : AV} {y : Value}, Rep w1 ρ Ic v y -> Rep w1 ρ (fun b => Ic b \/ Im1 b) v y := fun {v y} hr => Rep.mono (fun _ h => .inl h) (fun _ _ => rfl) hr fun i _ => ⟨rfl, fun b _ cur _ hb => ⟨cur, hb, rfl⟩⟩
    exact ⟨h.core.inv.nil, fun i k b hk hi hz => by
        obtain ⟨ents, clk, hbb, hl, hc⟩ := h.core.inv.map i k b hk hi hz
        exact ⟨ents, clk, hbb, hl, fun i m hm => by obtain ⟨v, hv, hr⟩ := hc i m hm; exact ⟨v, hv, rep hr⟩⟩,
      fun i k b hk hi hz => by
        obtain ⟨cur, hbb, hl, hs, hc⟩ := h.core.inv.blk i k b hk hi hz
        exact ⟨cur, hbb, hl, hs, fun i e j c he hcc => by obtain ⟨v, hv, h1, hr⟩ := hc i e j c he hcc; exact ⟨v, hv, h1, rep hr⟩⟩,
      h.core.inv.inj, h.core.inv.live, fun i b hi => dis b (.inl ⟨i, hi⟩), Im2⟩
  have henv0 : JaG w1 ρ (fun b => Ic b \/ Im1 b) E0 a.tmps := fun t y hy => Rep.mono (fun _ h => .inl h) (fun _ _ => rfl) (h.core.env t y hy) fun i _ => ⟨rfl, fun b _ cur _ hb => ⟨cur, hb, rfl⟩⟩
  have hvs2 : Jid w1 (fun b => Ic b \/ Im1 b) x vs1 := ⟨hvs.1, fun j c y hc hy => (hvs.2 j c y hc hy).mono (fun _ h => .inr h) (fun _ _ => rfl)⟩
  obtain ⟨henv2, hsz2⟩ := Jj4 (N := C.N) ps.toList x vs1 E0 a.tmps henv0 hvs2 h.core.size
  let mk : LoopState -> Fx := fun st => { w0 := w1, X0 := fun b => (∃ id, ρ id = some b) \/ M.m b \/ b = l, Im0 := fun b => Ic b \/ Im1 b, G := fun g M' w => g = E0 C.N /\ M' = M /\ C.G g M' w, N := C.N, rd := some (l, { r with state := st }), pin := fun id => if nm0 id then some (ρ id) else none, J0 := fun b => Ic b \/ Im1 b, R0 := fun id b => ρ id = some b }
  have hgk1 : GOK w1 (fun b => Ic b \/ Im1 b) := h.gok.mono (fun _ h => .inl h) fun _ _ => rfl
  have HR : ∀ st, Holds (spR S b2 nm0) (mk st) := fun st => by
    refine ⟨H.N, ?_, fun _ _ _ hY => hY.elim, H.mo, fun id b hp => ?_, hb2, H.big, (fun h => by cases h), fun _ _ _ _ => rfl, hgk1, fun b hb => ⟨fun hx => dis b (Or.imp_right (Or.imp_right Or.inl) hx) (hgk1.im hb), Im2 b (hgk1.im hb)⟩, (fun h => by cases h)⟩
    . rintro g M' w w' ⟨h1, h2, h3⟩ hb hs ho ht hout; exact ⟨h1, h2, H.G _ _ _ _ h3 hb hs ho ht hout⟩
    . simp only [mk] at hp
      cases hn : nm0 id with
      | true => exact hn
      | false => simp [hn] at hp
  have hEN : Jdm E0 ps.toList x C.N = E0 C.N := Jj3 ps.toList x E0 fun p hp => by rw [<- H.N]; exact hps p hp
  have W0 : Wit (mk .ready) (Jdm E0 ps.toList x) σ { tmps := (ps.toList.zip vs1).foldl (fun tm (t, v) => tm.setIfInBounds t v) a.tmps, defers := [] } w1 ρ (fun b => Ic b \/ Im1 b) M := by
    refine ⟨hin2, henv2, hsz2, Ext.refl _ _, fun id b hi => .inl ⟨.inl ⟨id, hi⟩, hi⟩, fun b hb => .inl hb, fun p => ?_, ?_, fun b hb => .inl (h.core.js b hb), fun b hb => ?_, fun l' r' hr => ?_, .nil, fun d hd => (by cases hd), fun b hb => ?_, fun id ob hp => ?_, fun b hb => hb⟩
    . show AV.namesB p (Jdm E0 ps.toList x C.N) = false
      rw [hEN]; exact h.core.gh p
    . show Jdm E0 ps.toList x C.N = E0 C.N /\ _
      exact ⟨hEN, rfl, by rw [hEN]; exact h.core.g⟩
    . obtain ⟨h1, h2, h3, _⟩ := h.core.ms b hb
      exact ⟨h1, h2, dis b (.inr (.inl hb)), .inl (.inr (.inl hb))⟩
    . simp only [mk, Option.some.injEq, Prod.mk.injEq] at hr; obtain ⟨rfl, rfl⟩ := hr; rw [h.lrec, <- hst]
    . rcases hb with ⟨r', hr'⟩ | hd
      . simp only [mk, Option.some.injEq, Prod.mk.injEq] at hr'; obtain ⟨rfl, _⟩ := hr'
        exact ⟨h.lρ, dis _ (.inr (.inr (.inl rfl))), h.lM⟩
      . cases hd
    . simp only [mk] at hp
      cases hn : nm0 id with
      | true => simp [hn] at hp; exact hp
      | false => simp [hn] at hp
  refine ⟨_, _, _, _, hyield, roundIn_of_wpIn trivial ?_⟩
  rw [Jqn]
  have hrdl : ∀ st, (mk st).rdl = some l := fun st => rfl
  -- what a round leaves
  have leave : ∀ (E' : Env) (σ' : Jac) (a' : Act) (w3 : World) (p : Nat -> Bool) (jump : Option Code), (∀ id, nm0 id = true -> p id = false) -> St (mk .busy) E' σ' a' w3 ->
      ((jump = none /\ I rest (Jaj p σ')) \/ (jump = some .ret /\ Q .ret E0 (Jaj p σ')) \/ ∃ i, jump = some (.exit i) /\ Q (.exit i) E0 (Jaj p σ')) ->
      ∃ v w4, (Instr.endRound l jump).run S.P w3 = .ok v w4 /\ ∃ b M', Ending.returned v = .returned (.bool b) /\ (∃ σ ρ Im M r, InLoop C Q I E0 a l ps.size wc.heap.size r0 rest (!b) M' w4 σ ρ Im M r) /\
        (∀ k, M'.m k -> k < w4.heap.size /\ (M1.m k \/ w1.heap.size <= k)) /\ (∀ k, M'.j k -> Im1 k) /\ Ext w1 M1.m w4 := by
    rintro E' σ' a' w3 p jump hp ⟨ρ2, I2, M2, hw⟩ hj
    obtain ⟨hg1, rfl, hg3⟩ := hw.g
    have hrec3 : w3.heap[l]? = some (.loop { r with state := .busy }) := hw.rd l _ rfl
    refine ⟨_, _, run_endRound jump hrec3, jump.isNone, ⟨fun b => (∃ id, killR p ρ2 id = some b) \/ M2.m b \/ b = l \/ C.book a b \/ (I2 b /\ ¬ Im1 b), fun b => I2 b /\ Im1 b⟩, rfl, ?_, ?_, fun k hk => hk.2, ?_⟩
    . -- the state anew
      have hl2 : ∀ id, ρ2 id ≠ some l := (hw.bk l (.inl ⟨_, rfl⟩)).1
      have hlI2 : ¬ I2 l := (hw.bk l (.inl ⟨_, rfl⟩)).2.1
      have hoth : ∀ (o : Obj) k, k ≠ l -> (w3.putObj l o).heap[k]? = w3.heap[k]? := fun o k hk => World.putObj_heap_other hk
      have old : ∀ b, b < w1.heap.size -> (∀ id, ρ id ≠ some b) -> ¬ M2.m b -> b ≠ l -> w3.heap[b]? = w1.heap[b]? := fun b hlt h1 h2 h3 => hw.ext.block b hlt fun hx => by
        rcases hx with ⟨id, hid⟩ | hx | hx
        . exact h1 id hid
        . exact h2 hx
        . exact h3 hx
      have fromρ : ∀ id b, ρ2 id = some b -> ρ id = some b \/ w1.heap.size <= b := fun id b hi => by
        rcases hw.rng id b hi with ⟨_, h'⟩ | h'
        . exact .inl h'
        . exact .inr h'
      have book1 : ∀ b, C.book a b -> b < w1.heap.size := fun b hb => h.core.bklt hb
      have bookne : ∀ b, C.book a b -> b ≠ l := fun b hb e => h.lb (e ▸ hb)
      have bookw : ∀ b, C.book a b -> w3.heap[b]? = w1.heap[b]? := fun b hb => old b (book1 b hb) (h.core.bk b hb).1 (h.core.bk b hb).2.2 (bookne b hb)
      have Iold : ∀ b, Ic b -> w3.heap[b]? = w1.heap[b]? := fun b hb => old b (h.core.inv.low b hb) (fun id hid => h.core.inv.apart id b hid hb) (fun hm => (h.core.ms b hm).2.2.1 hb) (fun e => h.lI (e ▸ hb))
      have bkI : ∀ b, C.book a b -> ¬ I2 b := fun b hb hI => by
        rcases hw.im b hI with h' | h'
        . exact dis b (.inr (.inr (.inr hb))) h'
        . exact absurd (book1 b hb) (Nat.not_lt.2 h')
      have bkρ : ∀ b, C.book a b -> ∀ id, ρ2 id ≠ some b := fun b hb id hid => by
        rcases fromρ id b hid with h' | h'
        . exact (h.core.bk b hb).1 id h'
        . exact absurd (book1 b hb) (Nat.not_lt.2 h')
      have pinned : ∀ id, nm0 id = true -> ρ2 id = ρ id := fun id hid => hw.pin id (ρ id) (by simp [mk, hid])
      have hN : E' C.N = E0 C.N := hg1
      have hks : (Jaj p σ') = Jaj p σ' := rfl
      have C3 : Core C E0 (Jaj p σ') a w3 (killR p ρ2) I2 M2 := by
        refine ⟨hw.inv.kill p, fun t y hy => ?_, h.core.size, fun id b hi => ?_, fun b hb => ?_, h.core.gh, ?_, fun b hb => hw.js b hb, fun b hb => ?_, fun l' r' hr => (by rw [hrd] at hr; cases hr), h.core.nodup, fun d hd => ?_, fun b hb => ⟨fun id hid => bkρ b hb id (Jaf hid).2, bkI b hb, (h.core.bk b hb).2.2⟩, fun id ob hpn => ?_, fun b hb => hw.j0 b (.inl (h.core.j0 b hb))⟩
        . refine Rep.stay (w := w1) (w' := w3) (fun b hb => hw.j0 b (.inl hb)) Iold (h.core.env t y hy) (hE0 t).1 fun id hid => ?_
          have hn := (hE0 t).2 id hid; rw [Jax ρ2 (hp id hn), pinned id hn]
        . rcases fromρ id b (Jaf hi).2 with h' | h'
          . exact h.core.rng id b h'
          . exact .inr (L0r hwc (L0r h.late h'))
        . rcases hw.im b hb with (h' | h') | h'
          . exact h.core.im b h'
          . rcases hL1 b h' with h'' | h''
            . exact hImc b h''
            . exact .inr (L0r hwc h'')
          . exact .inr (L0r hwc (L0r h.late h'))
        . rw [<- hN]; exact hg3
        . obtain ⟨h1, h2, h3, _⟩ := hw.ms b hb
          exact ⟨h1, fun id hid => h2 id (Jaf hid).2, h3, (h.core.ms b hb).2.2.2⟩
        . obtain ⟨D, e, hD, hle⟩ := h.core.df d hd
          exact ⟨D, e, by rw [bookw D (.inr (e ▸ hd))]; exact hD, hle⟩
        . have hS := hnm id (H.pin id ob hpn)
          rw [Jax ρ2 (hp id hS), pinned id hS]; exact h.core.pin id ob hpn
      have C4 := C3.carry H.G (w' := w3.putObj l (.loop { { r with state := .busy } with state := if jump.isNone then .ready else .done, pending := jump })) (fun k hk => hoth _ k fun e => by
        rcases hk with ⟨id, hid⟩ | hk | hk | hk
        . exact hl2 id (e ▸ (Jaf hid).2)
        . exact hlI2 (e ▸ hk)
        . exact h.lM (e ▸ hk)
        . exact h.lb (e ▸ hk)) (by simp) rfl rfl rfl
      refine ⟨Jaj p σ', killR p ρ2, I2, M2, _, fun x hx => h.len x (by simp [hx]), ?_, C4, World.putObj_heap_same (L0j.1 hrec3).1, ?_, fun id hid => hl2 id (Jaf hid).2, hlI2, h.lM, h.lb, fun b hb => ?_, fun b hb => ?_, (hw.gok (HR .busy)).mono (fun _ h => h) (fun b hb => hoth _ b (fun e => hlI2 (e ▸ (hw.gok (HR .busy)).im hb))), ?_⟩
      . simpa using L0r h.late hw.ext.size
      . rw [hrr]
      . rcases hb with hb | hb | hb | hb
        . exact .inl hb
        . exact .inr (.inl hb)
        . exact .inr (.inr (.inl hb))
        . exact .inr (.inr (.inr (.inl hb)))
      . by_cases hb1 : Im1 b
        . exact .inr ⟨hb, hb1⟩
        . exact .inl (.inr (.inr (.inr (.inr ⟨hb, hb1⟩))))
      . rcases hj with ⟨rfl, hI⟩ | ⟨rfl, hQ⟩ | ⟨i, rfl, hQ⟩
        . exact .inl ⟨rfl, rfl, rfl, hI⟩
        . exact .inr ⟨rfl, rfl, .inl ⟨rfl, hQ⟩⟩
        . exact .inr ⟨rfl, rfl, .inr ⟨i, rfl, hQ⟩⟩
    . intro k hk
      have hsz : (w3.putObj l (.loop { { r with state := .busy } with state := if jump.isNone then .ready else .done, pending := jump })).heap.size = w3.heap.size := by simp
      rw [hsz]
      have covm : ∀ b, ((∃ id, ρ id = some b) \/ M2.m b \/ b = l) -> M1.m b := fun b hb => h.cov b (by rcases hb with h | h | h; exact .inl h; exact .inr (.inl h); exact .inr (.inr (.inl h)))
      rcases hk with ⟨id, hid⟩ | hk | hk | hk | ⟨hk, hk1⟩
      . have hid := (Jaf hid).2
        refine ⟨hw.inv.lt hid, ?_⟩
        rcases hw.rng id k hid with h' | h'
        . exact .inl (covm k h'.1)
        . exact .inr h'
      . exact ⟨(hw.ms k hk).1, .inl (h.cov k (.inr (.inl hk)))⟩
      . subst hk; exact ⟨(L0j.1 hrec3).1, .inl (h.cov _ (.inr (.inr (.inl rfl))))⟩
      . exact ⟨L0Q (h.core.bklt hk) hw.ext.size, .inl (h.cov k (.inr (.inr (.inr hk))))⟩
      . refine ⟨hw.inv.low k hk, ?_⟩
        rcases hw.im k hk with (h' | h') | h'
        . rcases h.covI k h' with h'' | h''
          . exact .inl h''
          . exact absurd (hJ1 k h'') hk1
        . exact absurd h' hk1
        . exact .inr h'
    . have hx : Ext w1 M1.m w3 := hw.ext.mono fun b _ hb => h.cov b (by rcases hb with h | h | h; exact .inl h; exact .inr (.inl h); exact .inr (.inr (.inl h)))
      exact hx.trans (Y := fun b => b = l) ⟨rfl, rfl, rfl, by simp, fun b _ hb => World.putObj_heap_other hb⟩ fun b hb => .inl (by subst hb; exact h.cov _ (.inr (.inr (.inl rfl))))
  have hA := Jgr (HR .ready) (JcR (HR .ready)) (n := n) as _ _ _ hoA (hround x rest σ hinv)
    (Exit.then (fun a₁ w₁ => ∃ w₂, (Instr.beginRound l).run S.P w₁ = .ok () w₂ /\ body.wpIn (FW (some l)) n S.P (roundPost S.P l fun e w' => ∃ b M', e = .returned (.bool b) /\ (∃ σ ρ Im M r, InLoop C Q I E0 a l ps.size wc.heap.size r0 rest (!b) M' w' σ ρ Im M r) /\
      (∀ k, M'.m k -> k < w'.heap.size /\ (M1.m k \/ w1.heap.size <= k)) /\ (∀ k, M'.j k -> Im1 k) /\ Ext w1 M1.m w') a₁ w₂) (fun _ _ _ => False))
    (fun e E' σ' a' w' hq hs => ?_) _ w1 ⟨_, _, _, W0⟩
  . exact hA
  . cases e with
    | normal =>
      obtain ⟨ρ2, I2, M2, hw⟩ := hs
      have hrec2 : w'.heap[l]? = some (.loop { r with state := .ready }) := hw.rd l _ rfl
      refine ⟨_, run_beginRound hrec2 rfl, ?_⟩
      have hoth : ∀ k, k ≠ l -> (w'.putObj l (.loop { { r with state := .ready } with state := .busy })).heap[k]? = w'.heap[k]? := fun k hk => World.putObj_heap_other hk
      have hl2 := hw.bk l (.inl ⟨_, rfl⟩)
      have hoC : Core (mk .ready) E' σ' a' w' ρ2 I2 M2 := hw.core
      -- busy now
      have W1 : Wit (mk .busy) E' σ' a' (w'.putObj l (.loop { r with state := .busy })) ρ2 I2 M2 := by
        have hneq : ∀ k, ((∃ id, ρ2 id = some k) \/ I2 k \/ M2.m k \/ stamp k ∈ a'.defers) -> k ≠ l := fun k hk e => by
          subst e
          rcases hk with ⟨id, hid⟩ | hk | hk | hk
          . exact hl2.1 id hid
          . exact hl2.2.1 hk
          . exact hl2.2.2 hk
          . obtain ⟨D, e, hD, _⟩ := hw.df _ hk
            rw [JdK e] at hrec2; rw [hrec2] at hD; cases hD
        refine ⟨hw.inv.carry (fun k hk => World.putObj_heap_other (hneq k (by rcases hk with h | h; exact .inl h; exact .inr (.inl h)))) (by simp),
          fun t y hy => Rep.mono (w := w') (fun _ h => h) (fun b hI => World.putObj_heap_other (hneq b (.inr (.inl hI)))) (hw.env t y hy) fun i _ => ⟨rfl, fun b hi cur e hc => ⟨cur, by rw [World.putObj_heap_other (hneq b (.inl ⟨i, hi⟩))]; exact hc, rfl⟩⟩,
          hw.size, ?_, hw.rng, hw.im, hw.gh, ?_, hw.js, fun b hb => by simpa using hw.ms b hb, fun l' r' hr => ?_, hw.nodup, fun d hd => ?_, fun b hb => ?_, hw.pin, hw.j0⟩
        . exact hw.ext.trans (Y := fun b => b = l) ⟨rfl, rfl, rfl, by simp, fun b _ hb => World.putObj_heap_other hb⟩ fun b hb => .inl (.inr (.inr hb))
        . exact (HR .busy).G _ _ _ _ hw.g (fun k hk => World.putObj_heap_other (hneq k (by rcases hk with h | h; exact .inr (.inr (.inl h)); exact .inr (.inl (hw.js k h))))) (by simp) rfl rfl rfl
        . simp only [mk, Option.some.injEq, Prod.mk.injEq] at hr; obtain ⟨rfl, rfl⟩ := hr
          exact World.putObj_heap_same (L0j.1 hrec2).1
        . obtain ⟨D, e, hD, hle⟩ := hw.df d hd
          exact ⟨D, e, by rw [World.putObj_heap_other (hneq D (.inr (.inr (.inr (e ▸ hd)))))]; exact hD, hle⟩
        . refine hw.bk b ?_
          rcases hb with ⟨r', hr'⟩ | hd
          . simp only [mk, Option.some.injEq, Prod.mk.injEq] at hr'
            exact .inl ⟨{ r with state := .ready }, by simp only [mk]; rw [hr'.1]⟩
          . exact .inr hd
      have hB := Jgr (HR .busy) (JcR (HR .busy)) (n := n) body _ _ _ hoB hq
        (roundPost S.P l fun e w' => ∃ b M', e = .returned (.bool b) /\ (∃ σ ρ Im M r, InLoop C Q I E0 a l ps.size wc.heap.size r0 rest (!b) M' w' σ ρ Im M r) /\
          (∀ k, M'.m k -> k < w'.heap.size /\ (M1.m k \/ w1.heap.size <= k)) /\ (∀ k, M'.j k -> Im1 k) /\ Ext w1 M1.m w') (fun e E'' σ'' a'' w'' hq' hs' => ?_) _ _ ⟨_, _, _, W1⟩
      . exact hB
      . cases e with
        | normal => obtain ⟨p, hp, hI⟩ := hq'; exact leave E'' σ'' a'' w'' p none hp hs' (.inl ⟨rfl, hI⟩)
        | ret => obtain ⟨p, hp, hI⟩ := hq'; exact leave E'' σ'' a'' w'' p (some .ret) hp hs' (.inr (.inl ⟨rfl, hI⟩))
        | exit i => obtain ⟨p, hp, hI⟩ := hq'; exact leave E'' σ'' a'' w'' p (some (.exit i)) hp hs' (.inr (.inr ⟨i, rfl, hI⟩))
        | goto t => exact hq'.elim
        | panic ch => exact hq'.elim
        | outgrown => exact hq'.elim
    | ret => exact hq.elim
    | exit i => exact hq.elim
    | goto t => exact hq.elim
    | panic ch => exact hq.elim
    | outgrown => exact hq.elim
variable {P : Program} {C : Fx} {w w' : World} {ρ : Nat -> Option Nat} {Im : Nat -> Prop} {M : Str} {E : Env} {σ : Jac} {a : Act}
theorem Jk3 {S : Sp} {f : Operand} {ps : Array Tmp} {as body : Code} {Q : Exit -> Env -> Jac -> Prop} (hrd : S.rd = false) (hlow : Operand.low S.N f = true) (hoA : JaY S.P S.N S.bad as = true) (hoB : JaY S.P S.N S.bad body = true)
    (hps : ∀ p ∈ ps.toList, p < S.N) {g : FuncId} {caps : List AV} (hf : ev E f = .clo g caps) (hhd : JaH caps = true) (q nm0 : Nat -> Bool) (b2 : Nat) (hqc : AV.namesL (fun i => !q i) caps = false)
    (hqs : ∀ id k, σ id = some k -> q id = true -> AV.namesL (fun i => !q i) k.es = false) (hqn : ∀ id, q id = true -> nm0 id = false) (hnm : ∀ id, S.pin id = true -> nm0 id = true)
    (hb2 : ∀ id, nm0 id = true -> id / 16 < b2 \/ b2 + 100000 <= id / 16) (xs : List (List AV)) (hlen : ∀ x ∈ xs, x.length = ps.size) (hs : SOK S.P g caps (only q σ) xs) (I : List (List AV) -> Jac -> Prop) (h0 : I xs (Jaj q σ))
    (hround : ∀ x rest σ, I (x :: rest) σ -> awp (spR S b2 nm0) as (Jc4 (awp (spR S b2 nm0) body (rQ nm0 Q (Jeq nm0 E) (I rest))) JqY) (Jdm (Jeq nm0 E) ps.toList x) σ)
    (hend : ∀ σ, I [] σ -> Q .normal (Jeq nm0 E) σ) : semC S (.rangeFunc f ps as body) Q E σ := by
  intro C H n R hR a w hst
  obtain ⟨ρ, Im, M, hw⟩ := hst
  have hCr : C.rd = none := H.rdn hrd
  have hrdl : C.rdl = none := by unfold Fx.rdl; rw [hCr]; rfl
  have hbook : ∀ (a : Act) b, C.book a b ↔ stamp b ∈ a.defers := JnY hCr
  have hfr := JbL hw.env (x := f) (by rw [hw.size, <- H.N]; exact hlow)
  rw [hf] at hfr
  obtain ⟨cys, hfy, hcl, hcr⟩ := hfr.clo_plain hhd
  -- the two blocks that are laid
  refine wpIn_rangeFunc fun fn _ => ?_
  let D := w.heap.size
  let r0 : Loop := { state := .ready, pending := none, fn := fn, tmps := a.tmps, params := ps, assign := as, body := body, defers := D }
  let w1 : World := (w.alloc (.deferred (some []))).alloc (.loop r0)
  let a1 : Act := { a with defers := [stamp D] ++ a.defers }
  have hround' : (FW C.rdl).round = none := by rw [hrdl]; rfl
  have hsz1 : w1.heap.size = D + 2 := by simp [w1, D]
  have hw1 : ∀ k, k < D -> w1.heap[k]? = w.heap[k]? := fun k hk => by
    show ((w.alloc (.deferred (some []))).alloc (.loop r0)).heap[k]? = _
    rw [Below.heap_alloc _ _ _ (by simp; omega), Below.heap_alloc _ _ _ hk]
  have hDw : w1.heap[D]? = some (.deferred (some [])) := by
    show ((w.alloc (.deferred (some []))).alloc (.loop r0)).heap[D]? = _
    rw [Below.heap_alloc _ _ _ (by simp [D])]; exact World.alloc_heap_new w _
  have hLw : w1.heap[D + 1]? = some (.loop r0) := by
    have h1 := World.alloc_heap_new (w.alloc (.deferred (some []))) (.loop r0)
    have h2 : (w.alloc (.deferred (some []))).heap.size = D + 1 := by simp [D]
    rw [h2] at h1; exact h1
  have lowI : ∀ b, Im b -> b < D := hw.inv.low
  have lowρ : ∀ id b, ρ id = some b -> b < D := fun id b h => hw.inv.lt h
  have lowM : ∀ b, M.m b -> b < D := fun b h => (hw.ms b h).1
  have lowB : ∀ b, C.book a b -> b < D := fun b h => hw.bklt h
  have hext1 : Ext w (fun _ => False) w1 := ⟨rfl, rfl, rfl, by simp [w1]; omega, fun k hk _ => hw1 k hk⟩
  have hq0 : ∀ id, nm0 id = true -> q id = false := fun id h => by
    cases hq : q id with
    | false => rfl
    | true => rw [hqn id hq] at h; cases h
  have hEN : Jeq nm0 E C.N = E C.N := Jir hw.gh
  have hbk1 : ∀ b, C.book a1 b ↔ b = D \/ C.book a b := fun b => by
    rw [hbook, hbook]; simp only [a1, L0w, L1Q, L0h]
    exact ⟨fun h => h.imp_left JdK, fun h => h.imp_left fun e => by rw [e]⟩
  have nD : stamp D ∉ a.defers := fun h => L1E D (lowB D ((hbook a D).2 h))
  -- the state in the loop
  have C1 : Core C (Jeq nm0 E) (Jaj q σ) a1 w1 (killR q ρ) Im M := by
    refine ⟨(hw.inv.kill q).carry (fun k hk => hw1 k (by
        rcases hk with ⟨id, hid⟩ | hk
        . exact lowρ id k (Jaf hid).2
        . exact lowI k hk)) (by omega), fun t y hy => ?_, hw.size, fun id b hi => hw.rng id b (Jaf hi).2, hw.im, fun p => by rw [hEN]; exact hw.gh p, ?_, hw.js, fun b hb => ?_, fun l r hr => (by rw [hCr] at hr; cases hr), ?_, fun d hd => ?_, fun b hb => ?_, fun id ob hp => ?_, hw.j0⟩
    . exact Rep.stay (w := w) (w' := w1) (fun _ h => h) (fun b hb => hw1 b (lowI b hb)) (hw.env t y hy).fade (JlE nm0 (E t)) fun id hid => Jax ρ (hq0 id (JhF hid).1)
    . rw [hEN]
      exact H.G _ _ _ _ hw.g (fun k hk => hw1 k (by rcases hk with hk | hk; exact lowM k hk; exact lowI k (hw.js k hk))) (by omega) rfl rfl rfl
    . obtain ⟨h1, h2, h3, h4⟩ := hw.ms b hb
      exact ⟨by omega, fun id hid => h2 id (Jaf hid).2, h3, h4⟩
    . show (stamp D :: a.defers).Nodup
      exact L1n.2 ⟨nD, hw.nodup⟩
    . rcases L0h.1 (show d ∈ stamp D :: a.defers from hd) with rfl | hd
      . exact ⟨D, rfl, hDw, hw.ext.size⟩
      . obtain ⟨D', e, hD', hle⟩ := hw.df d hd
        exact ⟨D', e, by rw [hw1 D' (lowB D' (.inr (e ▸ hd)))]; exact hD', hle⟩
    . rcases (hbk1 b).1 hb with rfl | hb
      . exact ⟨fun id hid => L1E _ (lowρ id _ (Jaf hid).2), fun h => L1E _ (lowI _ h), fun h => L1E _ (lowM _ h)⟩
      . obtain ⟨h1, h2, h3⟩ := hw.bk b hb
        exact ⟨fun id hid => h1 id (Jaf hid).2, h2, h3⟩
    . rw [Jax ρ (hq0 id (hnm id (H.pin id ob hp)))]; exact hw.pin id ob hp
  have hE0 : ∀ t, (Jeq nm0 E t).ownB = false /\ ∀ id, Names (Jeq nm0 E t) id -> nm0 id = true := fun t => ⟨JlE nm0 (E t), fun id h => (JhF h).1⟩
  have hans := Jla (C := C) (a := a1) (Im := Im) (Q := Q) H hCr hoA hoB hps hnm hb2 (I := I) hE0 hround (l := D + 1) (r0 := r0) ⟨rfl, rfl, rfl, rfl⟩ (L0r hw.ext.size (Nat.le_succ D)) (wc := w1) (by have := hw.ext.size; omega) hw.im (by omega)
    (fun b hb => by rcases (hbk1 b).1 hb with rfl | hb; omega; have := lowB b hb; omega)
  have hstab : JnE fun xs s M' w => ∃ σ ρ Im M r, InLoop C Q I (Jeq nm0 E) a1 (D + 1) ps.size w1.heap.size r0 xs s M' w σ ρ Im M r := by
    rintro xs s g M' v v' ⟨σ', ρ', I', M2, r, h⟩ hb hsz ho ht hout
    have hI : ∀ b, I' b -> M'.m b \/ M'.j b := h.covI
    exact ⟨σ', ρ', I', M2, r, h.len, L0r h.late hsz, h.core.carry H.G (fun k hk => hb k (by
      rcases hk with hk | hk | hk | hk
      . exact .inl (h.cov k (.inl hk))
      . exact hI k hk
      . exact .inl (h.cov k (.inr (.inl hk)))
      . exact .inl (h.cov k (.inr (.inr (.inr hk)))))) hsz ho ht hout, by rw [hb _ (.inl (h.cov _ (.inr (.inr (.inl rfl)))))]; exact h.lrec, h.same, h.lρ, h.lI, h.lM, h.lb, h.cov, h.covI, h.gok.mono (fun _ h => h) (fun b hg => hb b (h.covI b (h.gok.im hg))), h.st⟩
  have hinq : Inv w1 (killR (fun i => !q i) ρ) Im (only q σ) := (hw.inv.only hqs).carry (fun k hk => hw1 k (by
    rcases hk with ⟨id, hid⟩ | hk
    . exact lowρ id k (Jaf hid).2
    . exact lowI k hk)) (by omega)
  have hrq0 : Reps w (killR (fun i => !q i) ρ) Im caps cys := Reps.only ⟨hcl, hcr⟩ hqc
  have hrq : Reps w1 (killR (fun i => !q i) ρ) Im caps cys := ⟨hrq0.1, fun j c y hc hy => Rep.mono (w := w) (w' := w1) (fun _ h => h) (fun b hb => hw1 b (lowI b hb)) (hrq0.2 j c y hc hy) fun i _ => ⟨rfl, fun b hi cur e hcc => ⟨cur, by rw [hw1 b (lowρ i b (Jaf hi).2)]; exact hcc, rfl⟩⟩⟩
  let M0 : Str := ⟨fun b => (∃ id, killR q ρ id = some b) \/ M.m b \/ b = D + 1 \/ C.book a1 b, Im⟩
  have hM0 : ∀ b, M0.m b -> b < w1.heap.size /\ (∀ id, killR (fun i => !q i) ρ id ≠ some b) /\ ¬ Im b := fun b hb => by
    rcases hb with ⟨id, hid⟩ | hb | hb | hb
    . obtain ⟨hp, hid⟩ := Jaf hid
      refine ⟨by have := lowρ id b hid; omega, fun id' hid' => ?_, fun hI => hw.inv.apart id b hid hI⟩
      obtain ⟨hp', hid'⟩ := Jaf hid'
      have := hw.inv.inj id id' b hid hid'
      subst this; simp [hp] at hp'
    . obtain ⟨h1, h2, h3, _⟩ := hw.ms b hb
      exact ⟨by have := lowM b hb; omega, fun id hid => h2 id (Jaf hid).2, h3⟩
    . subst hb
      exact ⟨by omega, fun id hid => by have := lowρ id _ (Jaf hid).2; omega, fun hI => by have := lowI _ hI; omega⟩
    . rcases (hbk1 b).1 hb with rfl | hb
      . exact ⟨by omega, fun id hid => L1E _ (lowρ id _ (Jaf hid).2), fun h => L1E _ (lowI _ h)⟩
      . obtain ⟨h1, h2, _⟩ := hw.bk b hb
        exact ⟨by have := lowB b hb; omega, fun id hid => h1 id (Jaf hid).2, h2⟩
  have hinit : InLoop C Q I (Jeq nm0 E) a1 (D + 1) ps.size w1.heap.size r0 xs false M0 w1 (Jaj q σ) (killR q ρ) Im M r0 := by
    refine ⟨hlen, L0a _, C1, hLw, rfl, fun id hid => by have := lowρ id _ (Jaf hid).2; omega, fun hI => by have := lowI _ hI; omega, fun hm => by have := lowM _ hm; omega, fun hb => ?_, fun b hb => hb, fun b hb => .inr hb, (hw.gok H).mono (fun _ h => h) (fun b hb => hw1 b (lowI b ((hw.gok H).im hb))), .inl ⟨rfl, rfl, rfl, h0⟩⟩
    rcases (hbk1 _).1 hb with h | h
    . omega
    . have := lowB _ h; omega
  have hcall := hs.2 w1 Im (killR (fun i => !q i) ρ) cys (D + 1) _ M0 hstab hinq ((hw.gok H).mono (fun _ h => h) fun b hb => hw1 b (lowI b ((hw.gok H).im hb))) hrq hM0 (fun b hb => hb) hans ⟨_, _, _, _, _, hinit⟩
  refine ⟨D + 1, [stamp D], w1, { target := .fn (.func g) cys.toArray, args := #[.func (.yield (D + 1)) #[] #[]] }, w1, g, (.func (.yield (D + 1)) #[] #[] :: cys).toArray, w1, ?_, ?_, fun _ _ => trivial, ?_, fun h => by simp [FW] at h, ?_⟩
  . rw [hround']; exact run_enterLoop_outer fn a.tmps ps as body
  . have hc : a.eval (.const (.func (.yield (D + 1)) #[] #[])) = .func (.yield (D + 1)) #[] #[] := rfl
    simp [resolve, hfy, hc, Deferred.ofValue, Sem.run_bind]
  . have e1 : (#[.func (.yield (D + 1)) #[] #[]] ++ cys.toArray : Array Value) = (.func (.yield (D + 1)) #[] #[] :: cys).toArray := by apply L0V.1; simp
    show (callFunc g (#[.func (.yield (D + 1)) #[] #[]] ++ cys.toArray)).run S.P w1 = _
    rw [e1]; exact hs.1 _ w1
  . refine JdS (hcall.mono ?_)
    rintro e w3 ⟨y, rest, s, M', rfl, hor, ⟨σ', ρ', I', M2, r, h⟩, hx⟩
    have hst : r.state ≠ .busy := by
      rcases h.st with ⟨_, h1, _⟩ | ⟨_, h1, _⟩ <;> rw [h1] <;> decide
    refine ⟨_, _, run_endLoop h.lrec hst, ?_⟩
    have hoth : ∀ k, k ≠ D + 1 -> (w3.putObj (D + 1) (.loop { r with state := .exhausted })).heap[k]? = w3.heap[k]? := fun k hk => World.putObj_heap_other hk
    have C4 : Core C (Jeq nm0 E) σ' a1 (w3.putObj (D + 1) (.loop { r with state := .exhausted })) ρ' I' M2 := h.core.carry H.G (fun k hk => hoth k fun e => by
      rcases hk with ⟨id, hid⟩ | hk | hk | hk
      . exact h.lρ id (e ▸ hid)
      . exact h.lI (e ▸ hk)
      . exact h.lM (e ▸ hk)
      . exact h.lb (e ▸ hk)) (by simp) rfl rfl rfl
    have hfin : Ext C.w0 C.X0 (w3.putObj (D + 1) (.loop { r with state := .exhausted })) := by
      refine (hw.ext.trans hext1 fun b hb => hb.elim).trans (X := C.X0) (Y := fun b => C.X0 b \/ C.w0.heap.size <= b) ?_ fun b hb => hb
      refine (hx.mono fun b hlt hb => ?_).trans (Y := fun b => b = D + 1) ⟨rfl, rfl, rfl, by simp, fun b _ hb => hoth b hb⟩ fun b hb => .inl (.inr (by subst hb; have := hw.ext.size; omega))
      rcases hb with ⟨id, hid⟩ | ⟨id, hid⟩ | hb | hb | hb
      . exact (hw.rng id b (Jaf hid).2).imp_left And.left
      . exact (hw.rng id b (Jaf hid).2).imp_left And.left
      . exact (hw.ms b hb).2.2.2
      . subst hb; have := hw.ext.size; exact .inr (by omega)
      . rcases (hbk1 b).1 hb with rfl | hb
        . exact .inr hw.ext.size
        . obtain ⟨D', e, _, hle⟩ := hw.df _ ((hbook a b).1 hb)
          rw [JdK e]; exact .inr hle
    have st : St C (Jeq nm0 E) σ' a1 (w3.putObj (D + 1) (.loop { r with state := .exhausted })) := ⟨ρ', I', M2, C4.wit hfin⟩
    split
    . rename_i hpn
      rcases h.st with ⟨hs0, _, hp, hI⟩ | ⟨_, _, ⟨hp, hQ⟩ | ⟨i, hp, hQ⟩⟩
      . have hr : rest = [] := hor.resolve_right (by rw [hs0]; simp)
        subst hr
        exact hR .normal _ _ _ _ (hend σ' hI) st
      . rw [hpn] at hp; cases hp
      . rw [hpn] at hp; cases hp
    . rename_i c hpn
      rcases h.st with ⟨hs0, _, hp, hI⟩ | ⟨_, _, ⟨hp, hQ⟩ | ⟨i, hp, hQ⟩⟩
      . rw [hpn] at hp; cases hp
      . rw [hpn] at hp; cases hp; rw [hrdl]; exact wpIn_ret (hR .ret _ _ _ _ hQ st)
      . rw [hpn] at hp; cases hp; rw [hrdl]; exact wpIn_exit (hR (.exit i) _ _ _ _ hQ st)
variable {P : Program} {ops : Array Oper}
def Jia (ops : Array Oper) : Nat -> Nat -> Nat -> Bool
  | 0, _, _ => false
  | n + 1, j, i => match ops[j]? with
    | some o => (o.after.any fun e => Region.binds .any e && e.on == i) || o.after.any fun e => Region.binds .any e && Nat.blt i e.on && Jia ops n e.on i
    | none => false
theorem Jhn : ∀ (n j i : Nat), Jia ops n j i = true -> waits ops n j i = true
  | 0, _, _, h => by simp [Jia] at h
  | n + 1, j, i, h => by
    simp only [Jia] at h; simp only [waits]
    split at h
    . rename_i o ho; simp only [ho]; simp only [L0x, <- Array.any_toList] at h; rw [<- Array.any_toList]
      rcases h with h | h
      . obtain ⟨e, he, hb⟩ := L1u.1 h
        simp only [L00] at hb
        exact L1u.2 ⟨e, he, by simp [hb.1, hb.2]⟩
      . obtain ⟨e, he, hb⟩ := L1u.1 h
        simp only [L00] at hb
        exact L1u.2 ⟨e, he, by simp [hb.1.1, Jhn n e.on i hb.2]⟩
    . cases h
def Jrv (P : Program) (ops : Array Oper) (i : Nat) (oi : Oper) (j : Nat) (oj : Oper) : Bool :=
  ((oi.apart ops oj && Nat.ble (cls P oi.op oi.type) 2 && Nat.ble (cls P oj.op oj.type) 2) || Jia ops ops.size j i) && (!isNm P oi || !isNm P oj || (oi.dst.getD 99999 != oj.dst.getD 99999))
def rowQ (P : Program) (ops : Array Oper) (i : Nat) (oi : Oper) : Nat -> List Oper -> Bool
  | _, [] => true
  | j, oj :: l => Jrv P ops i oi j oj && rowQ P ops i oi (j + 1) l
def Jnk (i : Nat) (oi : Oper) : Bool := oi.after.all (fun e => !Region.binds .any e || Nat.blt e.on i) && (match oi.guard with | some (g, _) => Nat.blt g i | none => true)
def allQ (P : Program) (ops : Array Oper) : Nat -> List Oper -> Bool
  | _, [] => true
  | i, oi :: l => Jnk i oi && rowQ P ops i oi (i + 1) l && allQ P ops (i + 1) l
theorem JpK {i : Nat} {oi : Oper} : ∀ (l : List Oper) (j : Nat), rowQ P ops i oi j l = true -> ∀ (k : Nat) (o : Oper), l[k]? = some o -> Jrv P ops i oi (j + k) o = true
  | [], _, _, k, o, h => by simp at h
  | oj :: l, j, h, k, o, hk => by
    simp only [rowQ, L00] at h
    cases k with
    | zero => simp at hk; subst hk; exact h.1
    | succ k =>
      have := JpK l (j + 1) h.2 k o (by simpa using hk)
      rw [show j + (k + 1) = j + 1 + k from by omega]; exact this
theorem JnJ : ∀ (l : List Oper) (i : Nat), allQ P ops i l = true -> ∀ (a : Nat) (oa : Oper), l[a]? = some oa -> Jnk (i + a) oa = true /\ ∀ (b : Nat) (ob : Oper), a < b -> l[b]? = some ob -> Jrv P ops (i + a) oa (i + b) ob = true
  | [], _, _, a, oa, h => by simp at h
  | o :: l, i, h, a, oa, ha => by
    simp only [allQ, L00] at h
    cases a with
    | zero =>
      simp at ha; subst ha
      refine ⟨h.1.1, fun b ob hb hob => ?_⟩
      cases b with
      | zero => omega
      | succ b =>
        have := JpK l (i + 1) h.1.2 b ob (by simpa using hob)
        rw [show i + (b + 1) = i + 1 + b from by omega]; exact this
    | succ a =>
      obtain ⟨h1, h2⟩ := JnJ l (i + 1) h.2 a oa (by simpa using ha)
      rw [show i + (a + 1) = i + 1 + a from by omega]
      refine ⟨h1, fun b ob hb hob => ?_⟩
      cases b with
      | zero => omega
      | succ b =>
        have := h2 b ob (by omega) (by simpa using hob)
        rw [show i + (b + 1) = i + 1 + b from by omega]; exact this
theorem Joi (h : allQ P ops 0 ops.toList = true) : Jeg P ops = true := by
  unfold Jeg
  refine L0b.2 fun i hi => ?_
  have hi := L0P.1 hi; rw [L0g hi]
  have hi' : ops.toList[i]? = some ops[i] := by rw [L0J, L0g hi]
  obtain ⟨h1, h2⟩ := JnJ ops.toList 0 h i ops[i] hi'
  rw [L0q] at h1 h2; simp only [Jnk, L00] at h1
  have hlt : ∀ a b, Nat.blt a b = true ↔ a < b := fun a b => by simp [Nat.blt]; omega
  simp only [L00]
  refine ⟨⟨?_, ?_⟩, L0b.2 fun j hj => ?_⟩
  . have := h1.1
    rw [<- Array.all_toList] at this ⊢
    refine L0b.2 fun e he => ?_
    have := L0b.1 this e he
    simp only [L0x, hlt, decide_eq_true_eq] at this ⊢; exact this
  . have := h1.2
    split at this
    . rename_i hg; rw [hg]; simp only [hlt] at this; simpa using this
    . rename_i hg; rw [hg]
  . have hj := L0P.1 hj
    by_cases hji : j <= i
    . simp [hji]
    . rw [L0g hj]
      have hj' : ops.toList[j]? = some ops[j] := by rw [L0J, L0g hj]
      have := h2 j ops[j] (by omega) hj'
      rw [L0q] at this; simp only [Jrv, L00] at this; simp only [L0x, L00]
      refine .inr ⟨?_, by simpa using this.2⟩
      rcases this.1 with hh
      simp only [L0x, L00] at hh
      rcases hh with hh | hh
      . exact .inr ⟨⟨hh.1.1, by simpa using hh.1.2⟩, by simpa using hh.2⟩
      . exact .inl (Jhn _ _ _ hh)
def Jcl (P : Program) (N : Nat) (bad : Nat -> Bool) : Code -> Bool
  | .skip => true
  | .label _ => true
  | .seq a b => Jcl P N bad a && Jcl P N bad b
  | .region id ops draw => (bad id || ops.toList.all (Oper.fits P N)) && (!draw || bad id || allQ P ops 0 ops.toList)
  | .cond c x y => Operand.low N c && Jcl P N bad x && Jcl P N bad y
  | .block _ c => Jcl P N bad c
  | .scope c => Jcl P N bad c
  | .loop c => Jcl P N bad c
  | .exit _ => true
  | .ret => true
  | .rangeFunc _ _ _ _ => true
  | .refuse _ => true
  | _ => false
theorem JaR {N : Nat} {bad : Nat -> Bool} : ∀ (c : Code), Jcl P N bad c = true -> JaY P N bad c = true
  | .skip, _ => rfl
  | .label _, _ => rfl
  | .seq a b, h => by
    simp only [Jcl, L00] at h
    simp only [JaY, L00]; exact ⟨JaR a h.1, JaR b h.2⟩
  | .region _ ops draw, h => by
    simp only [Jcl, L00, L0x] at h; simp only [JaY, L00, L0x]
    exact ⟨h.1, h.2.imp_right Joi⟩
  | .cond c x y, h => by
    simp only [Jcl, L00] at h
    simp only [JaY, L00]; exact ⟨⟨h.1.1, JaR x h.1.2⟩, JaR y h.2⟩
  | .block _ c, h => by simp only [Jcl] at h; simp only [JaY]; exact JaR c h
  | .scope c, h => by simp only [Jcl] at h; simp only [JaY]; exact JaR c h
  | .loop c, h => by simp only [Jcl] at h; simp only [JaY]; exact JaR c h
  | .exit _, _ => rfl
  | .ret, _ => rfl
  | .rangeFunc _ _ _ _, _ => rfl
  | .refuse _, _ => rfl
def fnQ (P : Program) (fn : Func) (c : Code) : Bool :=
  Jcl P fn.ntmps JjO c && fn.results.toList.all (ResultVar.low fn.ntmps) && !(fn.name == "runtime.NumGoroutine") && Nat.ble fn.ntmps 99999
theorem Jot {fn : Func} {c : Code} (h : fnQ P fn c = true) : fnOK P fn c = true := by
  simp only [fnQ, L00] at h; simp only [fnOK, L00]
  exact ⟨⟨⟨JaR c h.1.1.1, h.1.1.2⟩, h.1.2⟩, by simpa using h.2⟩
def putK (dst : Option Nat) (K : Env -> Jac -> Prop) (E : Env) (σ : Jac) (v : AV) : Prop := K (updO E dst v) σ
def need (A K : Prop) : Prop := A /\ K
def Jao (A : Prop) (K : AV -> Prop) (v : AV) : Prop := A /\ K v
def Jhx (A : Prop) (K : Env -> Jac -> Prop) (E : Env) (σ : Jac) : Prop := A /\ K E σ
def optV (o : Option AV) (K : AV -> Prop) : Prop := match o with | some r => K r | none => False
def Jhz (A : Prop) (o : Option AV) (K : AV -> Prop) : Prop := match o with | some r => Jao A K (.pt r 0) | none => False
def optU (A : Prop) (o : Option UInt8) (K : AV -> Prop) : Prop := match o with | some c => Jao A K (.v (.int .u8 c.toNat)) | none => False
def branch (c : Prop) (X : Env -> Jac -> Prop) (E : Env) (Y : Env -> Jac -> Prop) (E' : Env) (σ : Jac) : Prop := (c -> X E σ) /\ (¬ c -> Y E' σ)
def eqlC (op : BinOp) (o : Option Bool) (K : AV -> Prop) : Prop := match op, o with
  | .eql, some b => K (.v (.bool b))
  | .neq, some b => K (.v (.bool (!b)))
  | _, _ => False
def aggC (op : BinOp) (q : Option (List Nat)) (cs ds : List AV) (K : AV -> Prop) : Prop := match q with
  | some ks => eqlC op (eqK ks cs ds) K
  | none => False
def intC (op : BinOp) (k : IntKind) (m : Int) (k' : IntKind) (n : Int) (K : AV -> Prop) : Prop := match op with
  | .shl => Jao (0 <= n) K (.v (.int k (k.wrap (m * 2 ^ (min n.toNat k.bits)))))
  | .shr => Jao (0 <= n) K (.v (.int k (m.fdiv (2 ^ (min n.toNat k.bits)))))
  | .add => Jao (k = k') K (.v (.int k (k.wrap (m + n))))
  | .sub => Jao (k = k') K (.v (.int k (k.wrap (m - n))))
  | .mul => Jao (k = k') K (.v (.int k (k.wrap (m * n))))
  | .quo => Jao (k = k' /\ n ≠ 0) K (.v (.int k (k.wrap (m.tdiv n))))
  | .rem => Jao (k = k' /\ n ≠ 0) K (.v (.int k (m.tmod n)))
  | .eql => Jao (k = k') K (.v (.bool (m == n)))
  | .neq => Jao (k = k') K (.v (.bool (m != n)))
  | .lss => Jao (k = k') K (.v (.bool (decide (m < n))))
  | .leq => Jao (k = k') K (.v (.bool (decide (m <= n))))
  | .gtr => Jao (k = k') K (.v (.bool (decide (n < m))))
  | .geq => Jao (k = k') K (.v (.bool (decide (n <= m))))
  | .and => Jao (k = k') K (.v (.int k (Ja6 .and k m n)))
  | .or => Jao (k = k') K (.v (.int k (Ja6 .or k m n)))
  | .xor => Jao (k = k') K (.v (.int k (Ja6 .xor k m n)))
  | .andNot => Jao (k = k') K (.v (.int k (Ja6 .andNot k m n)))
def strC (op : BinOp) (a b : ByteArray) (K : AV -> Prop) : Prop := match op with
  | .add => Jao (a.size + b.size <= 9223372036854775807) K (.v (.string (a ++ b)))
  | .eql => K (.v (.bool (a.toList == b.toList)))
  | .neq => K (.v (.bool (!(a.toList == b.toList))))
  | .lss => K (.v (.bool (Op.bytesLess a.toList b.toList)))
  | .leq => K (.v (.bool (Op.bytesLess a.toList b.toList || a.toList == b.toList)))
  | .gtr => K (.v (.bool (!(Op.bytesLess a.toList b.toList || a.toList == b.toList))))
  | .geq => K (.v (.bool (!Op.bytesLess a.toList b.toList)))
  | _ => False
def Jeu (op : BinOp) (u : AV) (q : Option TypeId) (K : AV -> Prop) : Prop := match op with
  | .eql => Jao (u.full = true /\ q.isSome = true) K (.v (.bool false))
  | .neq => Jao (u.full = true /\ q.isSome = true) K (.v (.bool true))
  | _ => False
def binC (P : Program) (op : BinOp) (t : TypeId) (a b : AV) (K : AV -> Prop) : Prop :=
  match a, b with
  | .v (.int k m), .v (.int k' n) => intC op k m k' n K
  | .v (.string a), .v (.string b) => strC op a b K
  | .v (.bool a), .v (.bool b) => match op with
    | .eql => Jao (tkind P t = some 1) K (.v (.bool (a == b)))
    | .neq => Jao (tkind P t = some 1) K (.v (.bool (!(a == b))))
    | _ => False
  | .agg cs, .agg ds => aggC op (teq P t) cs ds K
  | u, .v (.slice none 0 0) => Jeu op u (tel P t) K
  | _, _ => False
theorem Jt3 {op : BinOp} {k k' : IntKind} {m n : Int} {K : AV -> Prop} (h : intC op k m k' n K) : ∃ r, binI op k m k' n r /\ K r := by
  cases op <;> simp only [intC, Jao] at h <;> simp only [binI]
  all_goals first
    | exact ⟨_, ⟨h.1, rfl⟩, h.2⟩
    | exact ⟨_, ⟨h.1.1, h.1.2, rfl⟩, h.2⟩
theorem JuK {op : BinOp} {a b : ByteArray} {K : AV -> Prop} (h : strC op a b K) : ∃ r, binS op a b r /\ K r := by
  cases op <;> simp only [strC, Jao] at h <;> simp only [binS]
  all_goals first
    | exact ⟨_, ⟨h.1, rfl⟩, h.2⟩
    | exact ⟨_, rfl, h⟩
theorem Jtf {P : Program} {op : BinOp} {t : TypeId} {x y : Operand} {t' : TypeId} {E : Env} {σ : Jac} {K : AV -> Prop} (h : binC P op t (ev E x) (ev E y) K) : ∃ r, JaB P (.binOp op t x y t') E σ r /\ K r := by
  simp only [JaB]; unfold binC at h; generalize ev E x = u at h; generalize ev E y = v at h
  split at h
  . exact Jt3 h
  . exact JuK h
  . split at h
    . exact ⟨_, ⟨h.1, .inl ⟨rfl, rfl⟩⟩, h.2⟩
    . exact ⟨_, ⟨h.1, .inr ⟨rfl, rfl⟩⟩, h.2⟩
    . exact h.elim
  . unfold aggC at h
    split at h
    . rename_i ks hk; unfold eqlC at h
      split at h
      . rename_i b hb; exact ⟨_, ⟨ks, hk, b, hb, .inl ⟨rfl, rfl⟩⟩, h⟩
      . rename_i b hb; exact ⟨_, ⟨ks, hk, b, hb, .inr ⟨rfl, rfl⟩⟩, h⟩
      . exact h.elim
    . exact h.elim
  . unfold Jeu at h
    split at h
    . obtain ⟨⟨hf, ht⟩, hk⟩ := h
      refine ⟨.v (.bool false), ?_, hk⟩
      revert hf; unfold AV.full; split
      . intro hf; exact ⟨hf, ht, .inl ⟨rfl, rfl⟩⟩
      . intro hf; exact ⟨hf, ht, .inl ⟨rfl, rfl⟩⟩
      . intro hf; cases hf
    . obtain ⟨⟨hf, ht⟩, hk⟩ := h
      refine ⟨.v (.bool true), ?_, hk⟩
      revert hf; unfold AV.full; split
      . intro hf; exact ⟨hf, ht, .inr ⟨rfl, rfl⟩⟩
      . intro hf; exact ⟨hf, ht, .inr ⟨rfl, rfl⟩⟩
      . intro hf; cases hf
    . exact h.elim
  . exact h.elim
def JjU (q : Option Bool) (s : Nat) (cs : List AV) (off : Nat) (K : AV -> Prop) : Prop := match q with
  | some true => Jao (0 < s /\ off + s <= cs.length) K (.agg ((cs.drop off).take s))
  | some false => optV cs[off]? K
  | none => False
def Jez (P : Program) (t : TypeId) (cs : List AV) (off : Nat) (K : AV -> Prop) : Prop := JjU (tagg P t) (tsz P t) cs off K
theorem Jgd {P : Program} {t : TypeId} {cs : List AV} {off : Nat} {K : AV -> Prop} (h : Jez P t cs off K) : ∃ r, Jcs P t cs off r /\ K r := by
  unfold Jez JjU at h; unfold Jcs
  split at h
  . rename_i ht; rw [ht]; exact ⟨_, ⟨h.1.1, h.1.2, rfl⟩, h.2⟩
  . rename_i ht; rw [ht]
    unfold optV at h
    split at h
    . rename_i r hr; exact ⟨r, hr, h⟩
    . exact h.elim
  . exact h.elim
def Jhv (P : Program) (t : TypeId) (o : Option AV) (j : Nat) (K : AV -> Prop) : Prop := match o with
  | some e => Jez P t e.cells j K
  | none => False
def JkR (P : Program) (t : TypeId) (o : Option Blk) (sz i j : Nat) (K : AV -> Prop) : Prop := match o with
  | some k => need (k.sz = sz) (Jhv P t k.es[i]? j K)
  | none => False
def JgP (P : Program) (σ : Jac) (t : TypeId) (a : AV) (K : AV -> Prop) : Prop := match a with
  | .pt e j => Jez P t e.cells j K
  | .ptr id sz i j => JkR P t (σ id) sz i j K
  | _ => False
theorem JgQ {P : Program} {σ : Jac} {t : TypeId} {a : AV} {K : AV -> Prop} (h : JgP P σ t a K) : ∃ r, (JbV σ a fun cs j => Jcs P t cs j r) /\ K r := by
  unfold JgP at h; unfold JbV
  split at h
  . exact Jgd h
  . unfold JkR at h
    split at h
    . rename_i k hk; obtain ⟨hsz, h⟩ := h; unfold Jhv at h
      split at h
      . rename_i e hee
        obtain ⟨r, hp, hK⟩ := Jgd h
        exact ⟨r, ⟨k, hk, hsz, e, hee, hp⟩, hK⟩
      . exact h.elim
    . exact h.elim
  . exact h.elim
def Jdg (a : AV) (K : AV -> Prop) : Prop := match a with
  | .pt e j => K (.pt e j)
  | .ptr id sz i j => K (.ptr id sz i j)
  | .clo g cs => K (.clo g cs)
  | _ => False
def Jad (c a b : AV) (K : AV -> Prop) : Prop := match c with
  | .v (.bool c) => K (if c then a else b)
  | _ => False
def tzA (P : Program) (t : TypeId) : Option AV := (tz P t).map ofC
def Jht (o : Option (List AV)) (K : AV -> Prop) : Prop := match o with | some cs => K (.agg cs) | none => False
def Jps (P : Program) (fs : List (Nat × TypeId)) (i : Nat) : Option (Nat × Nat) := (fs[i]?).map fun f => (f.1, tsz P f.2)
def Jpr (s i : Nat) : Option (Nat × Nat) := some (i * s, s)
def JfO (P : Program) (z : AV) (q : Option (List (Nat × TypeId))) (r : Option (Nat × TypeId)) (ps : List (Nat × AV)) (K : AV -> Prop) : Prop := match q with
  | some fs => need (z.ok = true /\ (fs.all fun f => decide (0 < tsz P f.2)) = true) (Jht (JcS (Jps P fs) z.cells ps) K)
  | none => match r with
    | some (_, e) => need (z.ok = true /\ 0 < tsz P e) (Jht (JcS (Jpr (tsz P e)) z.cells ps) K)
    | none => False
def JfP (P : Program) (z : Option AV) (q : Option (List (Nat × TypeId))) (r : Option (Nat × TypeId)) (ps : List (Nat × AV)) (K : AV -> Prop) : Prop := match z with
  | some z => JfO P z q r ps K
  | none => False
theorem Jn0 {P : Program} {t : TypeId} {parts : Array (Nat × Operand)} {E : Env} {σ : Jac} {K : AV -> Prop} (h : JfP P (tzA P t) (tfld P t) (tarr P t) (parts.toList.map fun p => (p.1, ev E p.2)) K) :
    ∃ r, JaB P (.build t parts) E σ r /\ K r := by
  unfold JfP at h
  split at h
  . rename_i z hz; unfold tzA at hz
    obtain ⟨z0, hz0, rfl⟩ := L0i.1 hz
    unfold JfO at h
    split at h
    . rename_i fs hfs
      obtain ⟨⟨h1, h2⟩, h⟩ := h
      unfold Jht at h
      split at h
      . rename_i cs hcs; exact ⟨.agg cs, ⟨z0, hz0, h1, .inl ⟨fs, hfs, h2, cs, hcs, rfl⟩⟩, h⟩
      . exact h.elim
    . split at h
      . rename_i m e hme
        obtain ⟨⟨h1, h2⟩, h⟩ := h
        unfold Jht at h
        split at h
        . rename_i cs hcs; exact ⟨.agg cs, ⟨z0, hz0, h1, .inr ⟨m, e, hme, h2, cs, hcs, rfl⟩⟩, h⟩
        . exact h.elim
      . exact h.elim
  . exact h.elim
def unC (op : UnOp) (a : AV) (K : AV -> Prop) : Prop := match op, a with
  | .not, .v (.bool b) => K (.v (.bool (!b)))
  | .neg, .v (.int k n) => K (.v (.int k (k.wrap (0 - n))))
  | .xor, .v (.int k n) => K (.v (.int k (Ja6 .xor k (if k.signed then -1 else k.max) n)))
  | _, _ => False
def tund (P : Program) (t : TypeId) : Bool := (P.underlying t).isSome
def Jil (u : Bool) (q : Option IntKind) (a : AV) (K : AV -> Prop) : Prop := match q, a with
  | some k, .v (.int _ n) => Jao (u = true) K (.v (.int k (k.wrap n)))
  | _, _ => False
def fldB (P : Program) (o : Option (Nat × TypeId)) (a : AV) (K : AV -> Prop) : Prop := match o, a with
  | some (off, t), .pt e j => Jao (0 < tsz P t) K (.pt e (j + off))
  | some (off, t), .ptr id sz i j => Jao (0 < tsz P t) K (.ptr id sz i (j + off))
  | some (off, t), .agg cs => Jez P t cs off K
  | _, _ => False
def fldC (P : Program) (q : Option (List (Nat × TypeId))) (f : Nat) (a : AV) (K : AV -> Prop) : Prop := match q with
  | some fs => fldB P fs[f]? a K
  | none => False
def idxP (P : Program) (q : Option TypeId) (r : Option (Nat × TypeId)) (x : AV) (n : Int) (K : AV -> Prop) : Prop := match q with
  | some e => match x with
    | .sl sz es => Jhz (0 < sz /\ tsz P e = sz /\ 0 <= n) es[n.toNat]? K
    | .own id sz o l => Jao (0 < sz /\ tsz P e = sz /\ 0 <= n /\ n < (l : Int)) K (.ptr id sz (o + n.toNat) 0)
    | _ => False
  | none => match r, x with
    | some (m, e), .pt c j => Jao (0 < tsz P e /\ 0 <= n /\ n < (m : Int)) K (.pt c (j + n.toNat * tsz P e))
    | some (m, e), .ptr id sz o j => Jao (0 < tsz P e /\ 0 <= n /\ n < (m : Int)) K (.ptr id sz o (j + n.toNat * tsz P e))
    | _, _ => False
def JcC (P : Program) (t : TypeId) (x i : AV) (K : AV -> Prop) : Prop := match i with
  | .v (.int _ n) => idxP P (tel P t) (tarr P t) x n K
  | _ => False
theorem JkN {P : Program} {t : TypeId} {x i : Operand} {E : Env} {σ : Jac} {K : AV -> Prop} (h : JcC P t (ev E x) (ev E i) K) : ∃ r, JaB P (.indexAddr t x i) E σ r /\ K r := by
  unfold JcC at h; simp only [JaB]; generalize ev E x = u at h; generalize ev E i = v at h
  split at h
  . rename_i k n; unfold idxP at h
    split at h
    . rename_i e he
      split at h
      . rename_i sz es; unfold Jhz at h
        split at h
        . rename_i c hc
          obtain ⟨⟨h1, h2, h3⟩, h⟩ := h
          exact ⟨_, .inl ⟨e, he, h1, h2, h3, c, hc, rfl⟩, h⟩
        . exact h.elim
      . obtain ⟨⟨h1, h2, h3, h4⟩, h⟩ := h
        exact ⟨_, .inl ⟨e, he, h1, h2, h3, h4, rfl⟩, h⟩
      . exact h.elim
    . split at h
      . rename_i m e c j he
        obtain ⟨⟨h1, h3, h4⟩, h⟩ := h
        exact ⟨_, .inr ⟨m, e, he, h1, h3, h4, rfl⟩, h⟩
      . rename_i m e id sz o j he
        obtain ⟨⟨h1, h3, h4⟩, h⟩ := h
        exact ⟨_, .inr ⟨m, e, he, h1, h3, h4, rfl⟩, h⟩
      . exact h.elim
  . exact h.elim
def idxG (P : Program) (r : Option (Nat × TypeId)) (cs : List AV) (n : Int) (K : AV -> Prop) : Prop := match r with
  | some (m, e) => need (0 < tsz P e /\ 0 <= n /\ n < (m : Int)) (Jez P e cs (n.toNat * tsz P e) K)
  | none => False
def idxC (P : Program) (t : TypeId) (x i : AV) (K : AV -> Prop) : Prop := match i, x with
  | .v (.int _ n), .v (.string s) => optU (tstr P t = true /\ 0 <= n) s[n.toNat]? K
  | .v (.int _ n), .agg cs => idxG P (tarr P t) cs n K
  | _, _ => False
theorem JtZ {P : Program} {t : TypeId} {x i : Operand} {E : Env} {σ : Jac} {K : AV -> Prop} (h : idxC P t (ev E x) (ev E i) K) : ∃ r, JaB P (.index t x i) E σ r /\ K r := by
  unfold idxC at h; simp only [JaB]; generalize ev E x = u at h; generalize ev E i = v at h
  split at h
  . rename_i k n s; unfold optU at h
    split at h
    . rename_i c hc; exact ⟨_, ⟨h.1.1, h.1.2, c, hc, rfl⟩, h.2⟩
    . exact h.elim
  . rename_i k n cs; unfold idxG at h
    split at h
    . rename_i m e he
      obtain ⟨⟨h1, h3, h4⟩, h⟩ := h
      obtain ⟨r, hp, hK⟩ := Jgd h
      exact ⟨r, ⟨m, e, he, h1, h3, h4, hp⟩, hK⟩
    . exact h.elim
  . exact h.elim
def Jds (E : Env) (x : Option Operand) (d : Nat) : AV := match x with
  | none => .v (.int .i64 d)
  | some y => ev E y
theorem Jb3 {E : Env} {x : Option Operand} {d : Nat} {k : IntKind} {n : Int} (h : Jds E x d = .v (.int k n)) (h0 : 0 <= n) {K : Nat -> Prop} (hK : K n.toNat) : bound E x d K := by
  unfold Jds at h; unfold bound
  split at h
  . cases h; simpa using hK
  . simp only [h]; exact ⟨h0, hK⟩
def cutE (P : Program) (q : Option TypeId) (u : Bool) (x lo hi : AV) (K : AV -> Prop) : Prop := match x, lo, hi with
  | .sl sz es, .v (.int _ l), .v (.int _ h) => match q with
    | some e => Jao (0 < sz /\ tsz P e = sz /\ 0 <= l /\ l <= h /\ h <= (es.length : Int)) K (.sl sz ((es.drop l.toNat).take (h.toNat - l.toNat)))
    | none => False
  | .own id sz o n, .v (.int _ l), .v (.int _ h) => match q with
    | some e => Jao (0 < sz /\ tsz P e = sz /\ 0 <= l /\ l <= h /\ h <= (n : Int)) K (.own id sz (o + l.toNat) (h.toNat - l.toNat))
    | none => False
  | .v (.string s), .v (.int _ l), .v (.int _ h) => Jao (u = true /\ 0 <= l /\ l <= h /\ h <= (s.size : Int)) K (.v (.string (s.extract l.toNat h.toNat)))
  | _, _, _ => False
def lenN (x : AV) : Nat := match x with
  | .sl _ es => es.length
  | .own _ _ _ n => n
  | .v (.string s) => s.size
  | _ => 0
theorem JtD {P : Program} {t : TypeId} {E : Env} {σ : Jac} {x : Operand} {lo hi : Option Operand} {K : AV -> Prop} (h : cutE P (tel P t) (tstr P t) (ev E x) (Jds E lo 0) (Jds E hi (lenN (ev E x))) K) :
    ∃ r, JaB P (.slice t x lo hi none) E σ r /\ K r := by
  unfold cutE at h; simp only [JaB]
  split at h
  . rename_i sz es k l k' n hx hl hh
    split at h
    . rename_i e he
      obtain ⟨⟨h1, h2, h3, h4, h5⟩, h⟩ := h
      rw [hx] at hh; rw [hx]
      exact ⟨_, .inl ⟨e, he, es.length, rfl, Jb3 hh (by omega) (Jb3 hl h3 ⟨h1, h2, by omega, by omega, rfl⟩)⟩, h⟩
    . exact h.elim
  . rename_i id sz o m k l k' n hx hl hh
    split at h
    . rename_i e he
      obtain ⟨⟨h1, h2, h3, h4, h5⟩, h⟩ := h
      rw [hx] at hh; rw [hx]
      exact ⟨_, .inl ⟨e, he, m, rfl, Jb3 hh (by omega) (Jb3 hl h3 ⟨h1, h2, by omega, by omega, rfl⟩)⟩, h⟩
    . exact h.elim
  . rename_i s k l k' n hx hl hh
    obtain ⟨⟨h2, h3, h4, h5⟩, h⟩ := h
    rw [hx] at hh; rw [hx]
    exact ⟨_, .inr ⟨h2, s.size, rfl, Jb3 hh (by omega) (Jb3 hl h3 ⟨by omega, by omega, rfl⟩)⟩, h⟩
  . exact h.elim
def lenC (u : Bool) (q : Option TypeId) (x : AV) (K : AV -> Prop) : Prop := match x with
  | .v (.string s) => Jao (u = true) K (.v (.int .i64 (s.size : Int)))
  | .sl _ es => Jao (q.isSome = true) K (.v (.int .i64 (es.length : Int)))
  | .own _ _ _ n => Jao (q.isSome = true) K (.v (.int .i64 (n : Int)))
  | .v (.slice _ n _) => Jao (q.isSome = true) K (.v (.int .i64 (n : Int)))
  | _ => False
def maxC (l : List AV) (K : AV -> Prop) : Prop := match l with
  | [.v (.int k a), .v (.int _ b)] => K (.v (.int k (if b > a then b else a)))
  | _ => False
def sldC (l : List AV) (K : AV -> Prop) : Prop := match l with
  | [.own id sz 0 (_ + 1)] => Jao (sz = 1) K (.ptr id 1 0 0)
  | _ => False
def minC (l : List AV) (K : AV -> Prop) : Prop := match l with
  | [.v (.int k a), .v (.int _ b)] => K (.v (.int k (if b < a then b else a)))
  | _ => False
def extC (x : AV) (i : Nat) (K : AV -> Prop) : Prop := match x with
  | .tup vs => optV vs[i]? K
  | _ => False
def JcW (f : Nat) (first : List Operand) (cs fs : List AV) (K : AV -> Prop) : Prop := match first with
  | [] => Jao (JaH cs = true) K (.clo f cs)
  | _ :: _ => Jao (cs = []) K (.clo f (.v (.tuple #[]) :: fs))
def Jk0 (P : Program) (op : Op) (E : Env) (σ : Jac) (K : AV -> Prop) : Prop := match op with
  | .move x => K (ev E x)
  | .assign x => K (ev E x)
  | .pick c x y => Jad (ev E c) (ev E x) (ev E y) K
  | .load t x => JgP P σ t (ev E x) K
  | .nilCheck x => Jdg (ev E x) K
  | .binOp op t x y _ => binC P op t (ev E x) (ev E y) K
  | .build t parts => JfP P (tzA P t) (tfld P t) (tarr P t) (parts.toList.map fun p => (p.1, ev E p.2)) K
  | .unOp op _ x => unC op (ev E x) K
  | .convert src dst x => Jil (tund P src) (tint P dst) (ev E x) K
  | .makeFunc (.func f) first cs => JcW f first.toList (cs.toList.map (ev E)) (first.toList.map (ev E)) K
  | .fieldAddr s x f => (match ev E x with | .agg _ => False | _ => True) /\ fldC P (tfld P s) f (ev E x) K
  | .field s x f => (match ev E x with | .agg _ => True | _ => False) /\ fldC P (tfld P s) f (ev E x) K
  | .indexAddr t x i => JcC P t (ev E x) (ev E i) K
  | .index t x i => idxC P t (ev E x) (ev E i) K
  | .extract x i => extC (ev E x) i K
  | .slice t x lo hi none => cutE P (tel P t) (tstr P t) (ev E x) (Jds E lo 0) (Jds E hi (lenN (ev E x))) K
  | .call { callee := .builtin .len, args, argTypes } => match args.toList, argTypes.toList with
    | [x], [t] => lenC (tstr P t) (tel P t) (ev E x) K
    | _, _ => False
  | .call { callee := .builtin .max, args, argTypes := _ } => maxC (args.toList.map (ev E)) K
  | .call { callee := .builtin .min, args, argTypes := _ } => minC (args.toList.map (ev E)) K
  | .call { callee := .builtin .unsafeSliceData, args, argTypes := _ } => sldC (args.toList.map (ev E)) K
  | _ => False
theorem Jrz {P : Program} {op : Op} {E : Env} {σ : Jac} {K : AV -> Prop} (h : Jk0 P op E σ K) : ∃ r, JaB P op E σ r /\ K r := by
  unfold Jk0 at h
  split at h
  . exact ⟨_, rfl, h⟩
  . exact ⟨_, rfl, h⟩
  . unfold Jad at h
    split at h
    . rename_i c x y c' hc; refine ⟨_, ?_, h⟩; simp only [JaB, hc]
    . exact h.elim
  . exact JgQ h
  . unfold Jdg at h
    split at h
    . rename_i hx; refine ⟨_, ?_, h⟩; simp only [JaB, hx]
    . rename_i hx; refine ⟨_, ?_, h⟩; simp only [JaB, hx]
    . rename_i hx; refine ⟨_, ?_, h⟩; simp only [JaB, hx]
    . exact h.elim
  . exact Jtf h
  . exact Jn0 h
  . rename_i op t x; unfold unC at h
    split at h
    . rename_i hx; refine ⟨_, ?_, h⟩; simp only [JaB, hx]
    . rename_i hx; refine ⟨_, ?_, h⟩; simp only [JaB, hx]
    . rename_i hx; refine ⟨_, ?_, h⟩; simp only [JaB, hx]
    . exact h.elim
  . unfold Jil at h
    split at h
    . rename_i hq hx; refine ⟨_, ?_, h.2⟩
      have := h.1
      simp only [tund, L2h] at this
      simp only [JaB, hq, hx]; exact ⟨this, trivial⟩
    . exact h.elim
  . rename_i f first cs; unfold JcW at h
    split at h
    . rename_i hfi
      exact ⟨_, .inl ⟨L0V.1 (by rw [hfi]), h.1, rfl⟩, h.2⟩
    . have h1 : cs.toList = [] := L2i.1 h.1
      exact ⟨_, .inr ⟨L0V.1 (by rw [h1]), rfl⟩, h.2⟩
  . rename_i s x f; obtain ⟨hn, h⟩ := h; unfold fldC at h
    split at h
    . rename_i fs hfs; unfold fldB at h
      split at h
      . rename_i off t e j hf hx; refine ⟨_, ?_, h.2⟩; simp only [JaB, hx]; exact ⟨fs, hfs, off, t, hf, h.1, rfl⟩
      . rename_i off t id sz i j hf hx; refine ⟨_, ?_, h.2⟩; simp only [JaB, hx]; exact ⟨fs, hfs, off, t, hf, h.1, rfl⟩
      . rename_i hf hx; rw [hx] at hn; exact hn.elim
      . exact h.elim
    . exact h.elim
  . rename_i s x f; obtain ⟨hn, h⟩ := h; unfold fldC at h
    split at h
    . rename_i fs hfs; unfold fldB at h
      split at h
      . rename_i hf hx; rw [hx] at hn; exact hn.elim
      . rename_i hf hx; rw [hx] at hn; exact hn.elim
      . rename_i off t cs hf hx
        obtain ⟨r, hp, hK⟩ := Jgd h
        refine ⟨r, ?_, hK⟩; simp only [JaB, hx]; exact ⟨fs, hfs, off, t, hf, hp⟩
      . exact h.elim
    . exact h.elim
  . exact JkN h
  . exact JtZ h
  . unfold extC at h
    split at h
    . rename_i vs hx; unfold optV at h
      split at h
      . rename_i r hr; refine ⟨r, ?_, h⟩; simp only [JaB, hx]; exact hr
      . exact h.elim
    . exact h.elim
  . exact JtD h
  . rename_i args ats
    split at h
    . rename_i x t ha hat; unfold lenC at h; simp only [JaB, ha, hat]
      split at h
      . rename_i s hx; exact ⟨_, .inl ⟨h.1, by rw [hx]⟩, h.2⟩
      . rename_i hx; exact ⟨_, .inr (.inl ⟨h.1, by rw [hx]⟩), h.2⟩
      . rename_i hx; exact ⟨_, .inr (.inl ⟨h.1, by rw [hx]⟩), h.2⟩
      . rename_i hx; exact ⟨_, .inr (.inl ⟨h.1, by rw [hx]⟩), h.2⟩
      . exact h.elim
    . exact h.elim
  . rename_i args ats; unfold maxC at h
    split at h
    . rename_i hx; refine ⟨_, ?_, h⟩; simp only [JaB, hx]
    . exact h.elim
  . rename_i args ats; unfold minC at h
    split at h
    . rename_i hx; refine ⟨_, ?_, h⟩; simp only [JaB, hx]
    . exact h.elim
  . rename_i args ats; unfold sldC at h
    split at h
    . rename_i hx; refine ⟨_, ?_, h.2⟩; simp only [JaB, hx]; exact ⟨h.1, trivial⟩
    . exact h.elim
  . exact h.elim
def newK (d : Nat) (K : Env -> Jac -> Prop) (E : Env) (σ : Jac) (v : AV) (bl : List (Nat × Blk)) : Prop := K (upd E d v) (addS σ bl)
def JcX (A : Prop) (K : AV -> List (Nat × Blk) -> Prop) (v : AV) (bl : List (Nat × Blk)) : Prop := A /\ K v bl
def nilC (P : Program) (d : Nat) (q : Option TypeId) (K : AV -> List (Nat × Blk) -> Prop) : Prop := match q with
  | some e => K (.own (16 * d) (tsz P e) 0 0) [(16 * d, ⟨e, tsz P e, []⟩)]
  | none => False
def JfM (P : Program) (d : Nat) (t : TypeId) (q : Option TypeId) (s : Nat) (z : Option AV) (K : AV -> List (Nat × Blk) -> Prop) : Prop := match q with
  | some e => JcX (tz P t = some (.slice none 0 0) /\ s = 1) K (.ptr (16 * d) 1 0 0) [(16 * d + 1, ⟨e, tsz P e, []⟩), (16 * d, ⟨t, 1, [.own (16 * d + 1) (tsz P e) 0 0]⟩)]
  | none => match z with
    | some z => JcX (z.ok = true /\ z.cells.length = s /\ s ≠ 0) K (.ptr (16 * d) s 0 0) [(16 * d, ⟨t, s, [z]⟩)]
    | none => False
def boxC (d : Nat) (t : TypeId) (s : Nat) (x : AV) (K : AV -> List (Nat × Blk) -> Prop) : Prop := JcX (x.ok = true /\ x.cells.length = s /\ s ≠ 0) K (.ptr (16 * d) s 0 0) [(16 * d, ⟨t, s, [x]⟩)]
def JbS (s : Nat) (xs : List AV) : Bool := xs.all fun e => e.ok && e.cells.length == s
def Jen (P : Program) (d : Nat) (q : Option TypeId) (len : Nat) (is : List Nat) (xs : List AV) (K : AV -> List (Nat × Blk) -> Prop) : Prop := match q with
  | some e => match tzA P e with
    | some z => JcX (0 < tsz P e /\ z.ok = true /\ z.cells.length = tsz P e /\ len * tsz P e <= 16777216 /\ is = List.range len /\ JbS (tsz P e) xs = true) K (.own (16 * d) (tsz P e) 0 len) [(16 * d, ⟨e, tsz P e, xs⟩)]
    | none => False
  | none => False
def Jet (P : Program) (d : Nat) (q : Option TypeId) (l c : AV) (K : AV -> List (Nat × Blk) -> Prop) : Prop := match q, l, c with
  | some e, .v (.int _ n), .v (.int _ m) => match tzA P e with
    | some z => JcX (0 < tsz P e /\ z.ok = true /\ z.cells.length = tsz P e /\ 0 <= n /\ n <= m /\ m * (tby P e : Int) <= 281474976710656 /\ m <= 4611686018427387904) K (.own (16 * d) (tsz P e) 0 n.toNat) [(16 * d, ⟨e, tsz P e, List.replicate n.toNat z⟩)]
    | none => False
  | _, _, _ => False
def newC (P : Program) (d : Nat) (op : Op) (ty : TypeId) (E : Env) (K : AV -> List (Nat × Blk) -> Prop) : Prop := match op with
  | .move (.const (.slice none 0 0)) => nilC P d (tel P ty) K
  | .assign (.const (.slice none 0 0)) => nilC P d (tel P ty) K
  | .alloc t => JfM P d t (tel P t) (tsz P t) (tzA P t) K
  | .box t x => boxC d t (tsz P t) (ev E x) K
  | .buildSlice t len parts => Jen P d (tel P t) len (parts.toList.map (·.1)) (parts.toList.map fun p => ev E p.2) K
  | .makeSlice t l c => Jet P d (tel P t) (ev E l) (ev E c) K
  | _ => False
theorem Jgh {P : Program} {t : TypeId} {z : AV} (h : tzA P t = some z) : ∃ z0, tz P t = some z0 /\ ofC z0 = z := by
  unfold tzA at h; exact L0i.1 h
theorem Jug {P : Program} {d : Nat} {op : Op} {ty : TypeId} {E : Env} {K : AV -> List (Nat × Blk) -> Prop} (h : newC P d op ty E K) : ∃ v bl, newV P d op ty E v bl /\ K v bl := by
  unfold newC at h
  split at h
  . unfold nilC at h
    split at h
    . rename_i e he; exact ⟨_, _, ⟨e, he, rfl, rfl⟩, h⟩
    . exact h.elim
  . unfold nilC at h
    split at h
    . rename_i e he; exact ⟨_, _, ⟨e, he, rfl, rfl⟩, h⟩
    . exact h.elim
  . rename_i t; unfold JfM at h
    split at h
    . rename_i e he
      refine ⟨_, _, ?_, h.2⟩
      simp only [newV, he]; exact ⟨h.1.1, h.1.2, trivial, trivial⟩
    . rename_i he
      split at h
      . rename_i z hz
        obtain ⟨z0, hz0, rfl⟩ := Jgh hz
        refine ⟨_, _, ?_, h.2⟩
        simp only [newV, he]; exact ⟨z0, hz0, h.1.1, h.1.2.1, h.1.2.2, trivial, rfl⟩
      . exact h.elim
  . exact ⟨_, _, ⟨h.1.1, h.1.2.1, h.1.2.2, rfl, rfl⟩, h.2⟩
  . unfold Jen at h
    split at h
    . rename_i e he
      split at h
      . rename_i z hz
        obtain ⟨z0, hz0, rfl⟩ := Jgh hz
        obtain ⟨⟨h1, h2, h3, h4, h5, h6⟩, h⟩ := h
        refine ⟨_, _, ⟨e, he, h1, ⟨z0, hz0, h2, h3⟩, h4, h5, fun p hp => ?_, rfl, rfl⟩, h⟩
        have := (L0b.1 h6) _ (L06.2 ⟨p, hp, rfl⟩)
        simpa using this
      . exact h.elim
    . exact h.elim
  . rename_i t l c; unfold Jet at h
    split at h
    . rename_i e k n k' m he hl hc
      split at h
      . rename_i z hz
        obtain ⟨z0, hz0, rfl⟩ := Jgh hz
        obtain ⟨⟨h1, h2, h3, h4, h5, h6, h7⟩, h⟩ := h
        refine ⟨_, _, ?_, h⟩
        simp only [newV, hl, hc]; exact ⟨e, he, h1, z0, hz0, h2, h3, h4, h5, h6, h7, rfl, rfl⟩
      . exact h.elim
    . exact h.elim
  . exact h.elim
def impK (x : AV × List (Nat × Blk)) (dst : Option Nat) (K : Env -> Jac -> Prop) (E : Env) (σ : Jac) : Prop := K (updO E dst x.1) (addS σ x.2)
def semD (S : Sp) (dst : Option Nat) (op : Op) (ty : TypeId) (K : Env -> Jac -> Prop) (E : Env) (σ : Jac) : Prop := ∀ pos after guard, semV S ⟨dst, op, ty, pos, after, guard⟩ K E σ
def Jkt (S : Sp) (kd bi : Bool) (nm : Nat) (g : Nat) (named : Bool) (args : List AV) (dst : Option Nat) (K : Env -> Jac -> Prop) (E : Env) (σ : Jac) (L : Prop) : Prop :=
  (∃ r, Ev S.P g args r /\ (named = false \/ r.flat = true) /\ rlen r <= 16 /\ (kd = true \/ r.dn = false) /\ impK (imp (16 * nm) r) dst K E σ) \/ (bi = true /\ L)
def yldK (S : Sp) (dst : Option Nat) (K : Env -> Jac -> Prop) (E : Env) (σ : Jac) (v g : AV) : Prop := K (updO (upd E S.N g) dst v) σ
def JmX (b : Bool) (A B : Prop) : Prop := match b with
  | true => A
  | false => B
def Jjg (S : Sp) (kd bi : Bool) (nm : Nat) (f : AV) (args : List AV) (dst : Option Nat) (K Kb : Env -> Jac -> Prop) (E : Env) (σ : Jac) (E' : Env) (σ' : Jac) (args' : List AV) (f' : AV) (L : Prop) : Prop :=
  match f with
  | .yld l => need (bi = true /\ l = S.yl /\ AV.namesL allB args = false) (S.Y args (E S.N) (yldK S dst Kb E σ))
  | _ => match f' with
    | .clo g caps => JmX (JaH caps) (Jkt S kd bi nm g (AV.namesL allB (args' ++ caps)) ((args' ++ caps).map (res σ')) dst K E' σ' L) (bi = true /\ L)
    | _ => False
def appK (d : Nat) (K : Env -> Jac -> Prop) (E : Env) (σ : Jac) (id sz n : Nat) (k : Blk) : Prop := K (upd (JaT (isId id) E) d (.own id sz 0 n)) (updS (Jaj (isId id) σ) id (k.kill (isId id)))
def srcC (σ : Jac) (x : AV) : Option (Nat × List AV) := match x with
  | .sl sz es => some (sz, es)
  | .v (.string s) => some (1, (bI s).map Y)
  | .own id sz i n => (σ id).bind fun k => if k.sz = sz /\ i + n <= k.es.length then some (sz, (k.es.drop i).take n) else none
  | _ => none
def JgV (A : Prop) (K : Nat -> Nat -> Nat -> Blk -> Prop) (id sz n : Nat) (k : Blk) : Prop := A /\ K id sz n k
def appA (P : Program) (q : Option TypeId) (s : AV) (ok : Nat -> Option Blk) (src : Option (Nat × List AV)) (K : Nat -> Nat -> Nat -> Blk -> Prop) : Prop := match q, s, src with
  | some e, .own id sz 0 n, some (sz', xs) => match ok id, tzA P e with
    | some k, some z => JgV (0 < tsz P e /\ z.ok = true /\ z.cells.length = tsz P e /\ sz = tsz P e /\ k.sz = sz /\ k.e = e /\ n <= k.es.length /\ sz' = sz /\ JbS sz xs = true /\ (n + xs.length) * tby P e <= 140737488355328 /\ n + xs.length <= 4611686018427387904) K
        id sz (n + xs.length) ⟨e, sz, k.es.take n ++ xs⟩
    | _, _ => False
  | _, _, _ => False
def appC (P : Program) (args : List Operand) (ats : List TypeId) (E : Env) (σ : Jac) (K : Nat -> Nat -> Nat -> Blk -> Prop) : Prop := match args, ats with
  | [s, x], [t, t'] => need (appT P t t' (ev E x) = true) (appA P (tel P t) (ev E s) σ (srcC σ (ev E x)) K)
  | _, _ => False
theorem JpV {σ : Jac} {x : AV} {K : Nat -> List AV -> Prop} {sz : Nat} {xs : List AV} (h : srcC σ x = some (sz, xs)) (hK : K sz xs) : Jf1 σ x K := by
  unfold srcC at h; unfold Jf1
  split at h
  . cases h; exact hK
  . cases h; exact hK
  . rename_i id sz' i n
    obtain ⟨k, hk, h⟩ := Option.bind_eq_some_iff.1 h
    split at h
    . rename_i hc; cases h; exact ⟨k, hk, hc.1, hc.2, hK⟩
    . cases h
  . cases h
theorem Jta {P : Program} {args : Array Operand} {ats : Array TypeId} {E : Env} {σ : Jac} {K : Nat -> Nat -> Nat -> Blk -> Prop} (h : appC P args.toList ats.toList E σ K) :
    appV P (.call { callee := .builtin .append, args, argTypes := ats }) E σ K := by
  simp only [appV]
  revert h
  generalize args.toList = l; generalize ats.toList = m
  intro h
  unfold appC at h
  split at h
  . obtain ⟨h0, h⟩ := h
    refine ⟨h0, ?_⟩
    unfold appA at h
    split at h
    . rename_i e id sz n sz' xs he hs hx
      split at h
      . rename_i k z hk hz
        obtain ⟨z0, hz0, rfl⟩ := Jgh hz
        obtain ⟨⟨h1, h2, h3, h4, h5, h6, h7, h8, h9, h10, h11⟩, h⟩ := h
        refine ⟨e, he, h1, ⟨z0, hz0, h2, h3⟩, ?_⟩
        rw [hs]
        exact ⟨h4, k, hk, h5, h6, h7, JpV hx ⟨fun _ => h8, fun e he => by have := L0b.1 h9 e he; simpa using this, h10, h11, h⟩⟩
      . exact h.elim
    . exact h.elim
  . exact h.elim
def stoE (P : Program) (t : TypeId) (k : Blk) (o : Option AV) (id sz i j : Nat) (v : AV) (K : Env -> Jac -> Prop) (E : Env) (σ : Jac) : Prop := match o with
  | some e => Jhx (k.sz = sz /\ v.ok = true /\ v.cells.length = tsz P t /\ 0 < tsz P t /\ j + tsz P t <= sz) K E (updS σ id ⟨k.e, k.sz, k.es.set i (setC e j v)⟩)
  | none => False
def stoB (P : Program) (t : TypeId) (o : Option Blk) (id sz i j : Nat) (v : AV) (K : Env -> Jac -> Prop) (E : Env) (σ : Jac) : Prop := match o with
  | some k => stoE P t k k.es[i]? id sz i j v K E σ
  | none => False
def Jhk (P : Program) (t : TypeId) (x v : AV) (dst : Option Nat) (K : Env -> Jac -> Prop) (E : Env) (σ : Jac) : Prop := match x with
  | .ptr id sz i j => stoB P t (σ id) id sz i j v K (updO E dst (.v undef)) σ
  | _ => False
def JkV (S : Sp) (kd : Bool) (dst : Option Nat) (ty : TypeId) (x : Operand) (K : Env -> Jac -> Prop) (E : Env) (σ : Jac) : Prop := match x with
  | .const (.slice none 0 0) => match tel S.P ty with
    | some e => match dst with
      | some d => nilC S.P (S.b + d) (some e) (newK d K (kE kd (S.b + d) E) (kS kd (S.b + d) σ))
      | none => False
    | none => putK dst K E σ (.v (.slice none 0 0))
  | x => putK dst K E σ (ev E x)
def newA (S : Sp) (kd : Bool) (dst : Option Nat) (op : Op) (ty : TypeId) (K : Env -> Jac -> Prop) (E : Env) (σ : Jac) : Prop := match dst with
  | some d => newC S.P (S.b + d) op ty (kE kd (S.b + d) E) (newK d K (kE kd (S.b + d) E) (kS kd (S.b + d) σ))
  | none => False
def Jnh (S : Sp) (dst : Option Nat) (op : Op) (ty : TypeId) (c : Nat) (K Kb : Env -> Jac -> Prop) (E : Env) (σ : Jac) : Prop := match c with
  | 0 => Jk0 S.P op E σ (putK dst K E σ)
  | 5 => semD S dst op ty Kb E σ
  | _ => False
def aopC (S : Sp) (kd bi : Bool) (dst : Option Nat) (op : Op) (ty : TypeId) (K Kb : Env -> Jac -> Prop) (E : Env) (σ : Jac) : Prop := match op with
  | .move x => JkV S kd dst ty x K E σ
  | .assign x => JkV S kd dst ty x K E σ
  | .alloc t => newA S kd dst (.alloc t) ty K E σ
  | .box t x => newA S kd dst (.box t x) ty K E σ
  | .buildSlice t len parts => newA S kd dst (.buildSlice t len parts) ty K E σ
  | .makeSlice t l c => newA S kd dst (.makeSlice t l c) ty K E σ
  | .call { callee := .value f, args, argTypes } =>
    Jjg S kd bi (S.b + dst.getD 99999) (ev E f) (args.toList.map (ev E)) dst K Kb E σ (kE kd (S.b + dst.getD 99999) E) (kS kd (S.b + dst.getD 99999) σ) (args.toList.map (ev (kE kd (S.b + dst.getD 99999) E))) (ev (kE kd (S.b + dst.getD 99999) E) f)
      (semD S dst (.call { callee := .value f, args, argTypes }) ty Kb E σ)
  | .call { callee := .builtin .append, args, argTypes } => match dst with
    | some d => appC S.P args.toList argTypes.toList E σ fun id sz n k => need (S.pin id = false) (appK d Kb E σ id sz n k)
    | none => False
  | .store t x y => Jhk S.P t (ev E x) (ev E y) dst Kb E σ
  | op => Jnh S dst op ty (cls S.P op ty) K Kb E σ
def Jc6 (S : Sp) : Prop := ∀ args g (K K' : AV -> AV -> Prop), (∀ v g, K v g -> K' v g) -> S.Y args g K -> S.Y args g K'
theorem Jfa {S : Sp} {o : Oper} {K K' : Env -> Jac -> Prop} {E : Env} {σ : Jac} (hK : ∀ E σ, K E σ -> K' E σ) (h : semV S o K E σ) : semV S o K' E σ :=
  fun C H n a w Kc Q hs hc => h C H n a w Kc Q hs fun E' σ' a' w' hk => hc E' σ' a' w' (hK _ _ hk)
theorem JqQ {P : Program} {ty : TypeId} (x : Operand) (hx : x = .const (.slice none 0 0) -> False) : cls P (.move x) ty = 0 /\ cls P (.assign x) ty = 0 := by
  cases x with
  | const v => cases v with
    | slice a n c => cases a <;> cases n <;> cases c <;> first | exact ⟨rfl, rfl⟩ | exact (hx rfl).elim
    | _ => exact ⟨rfl, rfl⟩
  | _ => exact ⟨rfl, rfl⟩
theorem Jif {S : Sp} (hY : Jc6 S) {kd bi : Bool} {o : Oper} {K K' Kb Kb' : Env -> Jac -> Prop} {E : Env} {σ : Jac} (hK : ∀ E σ, K E σ -> K' E σ) (hKb : ∀ E σ, Kb E σ -> Kb' E σ) (h : aopC S kd bi o.dst o.op o.type K Kb E σ) :
    aop S kd bi o K' Kb' E σ := by
  obtain ⟨dst, op, ty, pos, after, guard⟩ := o
  simp only at h
  have pure0 : ∀ {op : Op}, cls S.P op ty = 0 -> Jk0 S.P op E σ (putK dst K E σ) -> aop S kd bi ⟨dst, op, ty, pos, after, guard⟩ K' Kb' E σ := fun hc h => by
    obtain ⟨r, hr, hk⟩ := Jrz h
    simp only [aop, hc]; exact ⟨r, hr, hK _ _ hk⟩
  have new1 : ∀ {op : Op}, cls S.P op ty = 1 -> newA S kd dst op ty K E σ -> aop S kd bi ⟨dst, op, ty, pos, after, guard⟩ K' Kb' E σ := fun hc h => by
    unfold newA at h
    split at h
    . obtain ⟨v, bl, hr, hk⟩ := Jug h
      simp only [aop, hc]; exact ⟨_, rfl, v, bl, hr, hK _ _ hk⟩
    . exact h.elim
  have move : ∀ (x : Operand) (op : Op), op = .move x \/ op = .assign x -> JkV S kd dst ty x K E σ -> aop S kd bi ⟨dst, op, ty, pos, after, guard⟩ K' Kb' E σ := fun x op hop h => by
    unfold JkV at h
    split at h
    . split at h
      . rename_i e he
        split at h
        . refine new1 ?_ ?_
          . rcases hop with rfl | rfl <;> simp [cls, he]
          . rcases hop with rfl | rfl <;> simpa only [newA, newC, he] using h
        . exact h.elim
      . rename_i he
        refine pure0 ?_ ?_
        . rcases hop with rfl | rfl <;> simp [cls, he]
        . rcases hop with rfl | rfl <;> exact h
    . rename_i hne
      refine pure0 ?_ ?_
      . have := JqQ (P := S.P) (ty := ty) x hne
        rcases hop with rfl | rfl
        . exact this.1
        . exact this.2
      . rcases hop with rfl | rfl <;> exact h
  unfold aopC at h
  split at h
  . exact move _ _ (.inl rfl) h
  . exact move _ _ (.inr rfl) h
  . exact new1 rfl h
  . exact new1 rfl h
  . exact new1 rfl h
  . exact new1 rfl h
  . rename_i f args ats
    show (∃ v bl, JeK S _ _ _ _ _ v bl /\ _) \/ _
    unfold Jjg at h
    split at h
    . rename_i l hl
      obtain ⟨⟨h1, h2, h3⟩, h⟩ := h
      refine .inr (.inl ⟨h1, ?_⟩)
      simp only [Jmt, hl]
      exact ⟨h2, h3, hY _ _ _ _ (fun v g hk => hKb _ _ hk) h⟩
    . split at h
      . rename_i g caps hg; unfold JmX at h
        split at h
        rotate_left
        . exact .inr (.inr ⟨h.1, Jfa hKb (h.2 pos after guard)⟩)
        rename_i hhd
        rcases h with ⟨r, hΓ, h1, h2, h3, hk⟩ | ⟨hb, hl⟩
        . refine .inl ⟨_, _, ?_, hK _ _ hk⟩
          simp only [JeK, hg]
          exact ⟨hhd, r, hΓ, h1, h2, h3, rfl, rfl⟩
        . exact .inr (.inr ⟨hb, Jfa hKb (hl pos after guard)⟩)
      . exact h.elim
  . split at h
    . rename_i d
      have := Jta h
      show ∃ d, _ /\ appV _ _ _ _ _
      refine ⟨d, rfl, ?_⟩
      exact Ji8 (fun id sz n k hk => ⟨hk.1, hKb _ _ hk.2⟩) this
    . exact h.elim
  . rename_i t x y
    have hc : cls S.P (.store t x y) ty = 4 := rfl
    simp only [aop, hc, Jem]; unfold Jhk at h
    split at h
    . rename_i id sz i j hx; unfold stoB at h
      split at h
      . rename_i k hk; unfold stoE at h
        split at h
        . rename_i e he
          obtain ⟨⟨h1, h2, h3, h4, h5⟩, h⟩ := h
          rw [hx]; exact ⟨k, hk, h1, e, he, h2, h3, h4, h5, hKb _ _ h⟩
        . exact h.elim
      . exact h.elim
    . exact h.elim
  . unfold Jnh at h
    split at h
    . rename_i hc; exact pure0 hc h
    . rename_i hc; simp only [aop, hc]
      exact Jfa hKb (h pos after guard)
    . exact h.elim
def JgI (S : Sp) (kd bi : Bool) (a : AV) (want : Bool) (t : Nat) (dst : Option Nat) (op : Op) (ty : TypeId) (K Kb : Env -> Jac -> Prop) (E : Env) (σ : Jac) : Prop := match a, want with
  | .v (.bool b), true => branch (b = true) (aopC S kd bi dst op ty K Kb) (upd E t (.v (.bool true))) K (updO (upd E t (.v (.bool false))) dst (.v undef)) σ
  | .v (.bool b), false => branch (b = true) K (updO (upd E t (.v (.bool true))) dst (.v undef)) (aopC S kd bi dst op ty K Kb) (upd E t (.v (.bool false))) σ
  | .v (.tuple _), _ => K (updO E dst (.v undef)) σ
  | _, _ => False
def Jio : List Oper -> Nat -> Option Nat
  | [], _ => none
  | o :: _, 0 => o.dst
  | _ :: l, n + 1 => Jio l n
def JfS (S : Sp) (kd bi : Bool) (o : Option Nat) (want : Bool) (dst : Option Nat) (op : Op) (ty : TypeId) (K Kb : Env -> Jac -> Prop) (E : Env) (σ : Jac) : Prop := match o with
  | some t => JgI S kd bi (E t) want t dst op ty K Kb E σ
  | none => False
def gopC (S : Sp) (kd bi : Bool) (ops : List Oper) (o : Oper) (K Kb : Env -> Jac -> Prop) (E : Env) (σ : Jac) : Prop := match o.guard with
  | none => aopC S kd bi o.dst o.op o.type K Kb E σ
  | some (j, want) => JfS S kd bi (Jio ops j) want o.dst o.op o.type K Kb E σ
def regN (b c : Nat) (dst : Option Nat) (l : List Nat) : List Nat := if c == 1 || c == 2 then (b + dst.getD 99999) :: l else l
def regL (S : Sp) : List Oper -> List Nat
  | [] => []
  | o :: l => regN S.b (cls S.P o.op o.type) o.dst (regL S l)
def inL (l : List Nat) : Nat -> Bool := fun i => l.contains (i / 16)
theorem Juu (S : Sp) (ops : List Oper) : (ops.filterMap fun o => if cls S.P o.op o.type == 1 || cls S.P o.op o.type == 2 then some (S.b + o.dst.getD 99999) else none) = regL S ops := by
  induction ops with
  | nil => rfl
  | cons o l ih =>
    simp only [List.filterMap_cons, regL, regN]
    split
    . rename_i h; split at h
      . cases h
      . rename_i hc; rw [if_neg hc]; exact ih
    . rename_i h; split at h
      . rename_i hc; cases h; rw [if_pos hc, ih]
      . cases h
theorem Juv (S : Sp) (ops : List Oper) : regP S ops = inL (regL S ops) := by
  unfold regP inL; rw [Juu]
def Jcv (S : Sp) (dr : Bool) (l : List Oper) (K : Env -> Jac -> Prop) (E : Env) (σ : Jac) : Prop := match dr with
  | true => K (JaT (inL (regL S l)) E) (Jaj (inL (regL S l)) σ)
  | false => K E σ
theorem Jcg (S : Sp) (dr : Bool) (l : List Oper) (K : Env -> Jac -> Prop) : Jcv S dr l K = struck S dr l K := by
  funext E σ; cases dr
  . simp [Jcv, struck]
  . simp [Jcv, struck, Juv]
def opsC (S : Sp) (dr : Bool) (ops : Array Oper) : Nat -> List Oper -> (Env -> Jac -> Prop) -> Env -> Jac -> Prop
  | _, [], K => K
  | i, o :: rest, K => gopC S (!dr) (!dr || bar ops i) ops.toList o (opsC S dr ops (i + 1) rest K) (Jcv S dr rest (opsC S dr ops (i + 1) rest K))
mutual
theorem AV.namesB_none : ∀ a : AV, AV.namesB (fun _ => false) a = false
  | .own .. => rfl
  | .ptr .. => rfl
  | .agg cs => by simp only [AV.namesB]; exact AV.namesL_none cs
  | .tup cs => by simp only [AV.namesB]; exact AV.namesL_none cs
  | .clo _ cs => by simp only [AV.namesB]; exact AV.namesL_none cs
  | .any => rfl
  | .v _ => rfl
  | .sl .. => rfl
  | .pt .. => rfl
  | .new .. => rfl
  | .nptr .. => rfl
  | .yld _ => rfl
  | .mp _ => rfl
  | .mref _ => rfl
  | .cut .. => rfl
theorem AV.namesL_none : ∀ l : List AV, AV.namesL (fun _ => false) l = false
  | [] => rfl
  | c :: cs => by simp only [AV.namesL, AV.namesB_none c, AV.namesL_none cs]; rfl
end
theorem Jiz : inL [] = fun _ => false := by funext i; simp [inL]
@[go_sem] theorem JoX (E : Env) : JaT (inL []) E = E := by
  rw [Jiz]; funext t; simp [JaT, AV.kill, AV.namesB_none]
@[go_sem] theorem Jco (σ : Jac) : Jaj (inL []) σ = σ := by
  rw [Jiz]; funext t
  simp only [Jaj]
  cases σ t <;> simp [Blk.kill, AV.namesL_none]
def regC (S : Sp) (draw : Bool) (ops : Array Oper) (K : Env -> Jac -> Prop) (E : Env) (σ : Jac) : Prop := Jcv S draw ops.toList (opsC S draw ops 0 ops.toList K) E σ
def Job (a : AV) (X Y : Env -> Jac -> Prop) (E : Env) (σ : Jac) : Prop := match a with
  | .v (.bool b) => branch (b = true) X E Y E σ
  | _ => False
def Jo6 (B : (Exit -> Env -> Jac -> Prop) -> Env -> Jac -> Prop) (Q : Exit -> Env -> Jac -> Prop) (E : Env) (σ : Jac) : Prop :=
  ∃ I : Nat -> Env -> Jac -> Prop, (∃ n, I n E σ) /\ ∀ n E σ, I n E σ -> B (Jc4 (fun E' σ' => ∃ m, m < n /\ I m E' σ') Q) E σ
def regX (b : Bool) (X Y : Prop) : Prop := match b with | false => X | true => Y
def awpC (S : Sp) : Code -> (Exit -> Env -> Jac -> Prop) -> Env -> Jac -> Prop
  | .skip, Q => Q .normal
  | .label _, Q => Q .normal
  | .seq a b, Q => awpC S a (Jc4 (awpC S b Q) Q)
  | .region id ops draw, Q => fun E σ => regX (S.bad id) (regC S draw ops (Q .normal) E σ) (semC S (.region id ops draw) Q E σ)
  | .cond c x y, Q => fun E σ => Job (ev E c) (awpC S x Q) (awpC S y Q) E σ
  | .block id c, Q => awpC S c (Jdy id Q)
  | .scope c, Q => awpC S c (Je9 Q)
  | .loop c, Q => Jo6 (awpC S c) Q
  | .exit id, Q => Q (.exit id)
  | .ret, Q => Q .ret
  | .rangeFunc f ps as body, Q => semC S (.rangeFunc f ps as body) Q
  | _, _ => fun _ _ => False
theorem JqU (ops : Array Oper) (j : Nat) : (ops[j]?).bind (·.dst) = Jio ops.toList j := by
  have : ∀ (l : List Oper) (j : Nat), (l[j]?).bind (·.dst) = Jio l j := by
    intro l
    induction l with
    | nil => intro j; rfl
    | cons o l ih => intro j; cases j with | zero => rfl | succ j => exact ih j
  rw [<- this, L0J]
theorem JoE {S : Sp} (hY : Jc6 S) {kd bi : Bool} {ops : Array Oper} {o : Oper} {K K' Kb Kb' : Env -> Jac -> Prop} {E : Env} {σ : Jac} (hK : ∀ E σ, K E σ -> K' E σ) (hKb : ∀ E σ, Kb E σ -> Kb' E σ)
    (h : gopC S kd bi ops.toList o K Kb E σ) : gop S kd bi ops o K' Kb' E σ := by
  unfold gopC at h; unfold gop
  split at h
  . rename_i hg; rw [hg]; exact Jif hY hK hKb h
  . rename_i j want hg; rw [hg]; simp only [JqU]; unfold JfS at h
    split at h
    . rename_i t ht; rw [ht]
      simp only
      unfold JgI at h
      split at h
      . rename_i b hb; rw [hb]
        exact ⟨fun e => Jif hY hK hKb (h.1 e), fun e => hK _ _ (h.2 (by subst e; simp))⟩
      . rename_i b hb; rw [hb]
        exact ⟨fun e => Jif hY hK hKb (h.2 (by subst e; simp)), fun e => hK _ _ (h.1 e)⟩
      . rename_i hb; rw [hb]; exact hK _ _ h
      . exact h.elim
    . exact h.elim
theorem JbY {S : Sp} {dr : Bool} {l : List Oper} {K K' : Env -> Jac -> Prop} (hK : ∀ E σ, K E σ -> K' E σ) (E : Env) (σ : Jac) (h : struck S dr l K E σ) : struck S dr l K' E σ := by
  unfold struck at *; split at h <;> simp_all
theorem JfB {S : Sp} (hY : Jc6 S) {dr : Bool} {ops : Array Oper} : ∀ (l : List Oper) (i : Nat) {K K' : Env -> Jac -> Prop} {E : Env} {σ : Jac}, (∀ E σ, K E σ -> K' E σ) -> opsC S dr ops i l K E σ -> Jef S dr ops i l K' E σ
  | [], _, _, _, _, _, hK, h => hK _ _ h
  | _ :: l, i, _, _, _, _, hK, h => JoE hY (fun _ _ hk => JfB hY l (i + 1) hK hk) (fun E σ hk => by rw [Jcg] at hk; exact JbY (fun _ _ hk => JfB hY l (i + 1) hK hk) E σ hk) h
theorem JbF {K K' : Env -> Jac -> Prop} {Q Q' : Exit -> Env -> Jac -> Prop} (hK : ∀ E σ, K E σ -> K' E σ) (hQ : ∀ e E σ, Q e E σ -> Q' e E σ) (e : Exit) (E : Env) (σ : Jac) (h : Jc4 K Q e E σ) : Jc4 K' Q' e E σ := by
  cases e <;> first | exact hK _ _ h | exact hQ _ _ _ h
theorem Jgs {id : Nat} {Q Q' : Exit -> Env -> Jac -> Prop} (hQ : ∀ e E σ, Q e E σ -> Q' e E σ) (e : Exit) (E : Env) (σ : Jac) (h : Jdy id Q e E σ) : Jdy id Q' e E σ := by
  cases e <;> simp only [Jdy] at * <;> first | (split at h <;> simp_all) | exact hQ _ _ _ h
theorem Jhf {Q Q' : Exit -> Env -> Jac -> Prop} (hQ : ∀ e E σ, Q e E σ -> Q' e E σ) (e : Exit) (E : Env) (σ : Jac) (h : Je9 Q e E σ) : Je9 Q' e E σ := by
  cases e <;> first | exact h.elim | exact hQ _ _ _ h
theorem least {p : Nat -> Prop} (h : ∃ n, p n) : ∃ m, p m /\ ∀ k, p k -> m <= k := by
  obtain ⟨n, hn⟩ := h
  induction n using Nat.strongRecOn with
  | ind n ih =>
    by_cases hk : ∃ k, k < n /\ p k
    . obtain ⟨k, hk, hp⟩ := hk; exact ih k hk hp
    . exact ⟨n, hn, fun k hp => Nat.le_of_not_lt fun hlt => hk ⟨k, hlt, hp⟩⟩
theorem JbI {S : Sp} (hY : Jc6 S) : ∀ (c : Code) {Q Q' : Exit -> Env -> Jac -> Prop} {E : Env} {σ : Jac}, (∀ e E σ, Q e E σ -> Q' e E σ) -> awpC S c Q E σ -> awp S c Q' E σ
  | .skip, Q, Q', E, σ, hQ, h => hQ .normal E σ h
  | .label _, Q, Q', E, σ, hQ, h => hQ .normal E σ h
  | .seq a b, Q, Q', E, σ, hQ, h => by
    simp only [awpC] at h; simp only [awp]
    exact JbI hY a (JbF (fun _ _ h => JbI hY b hQ h) hQ) h
  | .region id ops draw, Q, Q', E, σ, hQ, h => by
    simp only [awpC] at h; simp only [awp]; unfold regX at h
    split at h
    . rename_i hb
      rw [if_neg (by rw [hb]; simp)]
      unfold regC at h; rw [Jcg] at h
      exact JbY (fun _ _ hk => JfB hY _ 0 (hQ .normal) hk) E σ h
    . rename_i hb; rw [if_pos hb]
      exact fun C H n R hR a w hs => h C H n R (fun e E σ a w hq hs => hR e E σ a w (hQ _ _ _ hq) hs) a w hs
  | .cond c x y, Q, Q', E, σ, hQ, h => by
    simp only [awpC] at h; simp only [awp]; unfold Job at h
    split at h
    . rename_i b hb; rw [hb]
      exact ⟨fun e => JbI hY x hQ (h.1 e), fun e => JbI hY y hQ (h.2 (by subst e; simp))⟩
    . exact h.elim
  | .block id c, Q, Q', E, σ, hQ, h => by
    simp only [awpC] at h; simp only [awp]
    exact JbI hY c (Jgs hQ) h
  | .scope c, Q, Q', E, σ, hQ, h => by
    simp only [awpC] at h; simp only [awp]
    exact JbI hY c (Jhf hQ) h
  | .loop c, Q, Q', E, σ, hQ, h => by
    simp only [awpC] at h; simp only [awp]
    obtain ⟨I, ⟨n, hn⟩, hI⟩ := h
    classical
    -- the least that is left
    let μ : Env -> Jac -> Nat := fun E σ => if h : ∃ n, I n E σ then Classical.choose (least h) else 0
    have hμ : ∀ m E σ, I m E σ -> I (μ E σ) E σ /\ μ E σ <= m := fun m E σ h => by
      have he : ∃ n, I n E σ := ⟨m, h⟩
      simp only [μ, dif_pos he]
      have hc := Classical.choose_spec (least he); exact ⟨hc.1, hc.2 m h⟩
    refine ⟨fun E σ => ∃ n, I n E σ, μ, ⟨n, hn⟩, fun E σ ⟨m, hm⟩ => ?_⟩
    refine JbI hY c (JbF (fun E' σ' ⟨k, hk, hi⟩ => ?_) hQ) (hI _ E σ (hμ m E σ hm).1)
    exact ⟨⟨k, hi⟩, Nat.lt_of_le_of_lt (hμ k E' σ' hi).2 hk⟩
  | .exit _, Q, Q', E, σ, hQ, h => hQ _ E σ h
  | .ret, Q, Q', E, σ, hQ, h => hQ .ret E σ h
  | .rangeFunc f ps as body, Q, Q', E, σ, hQ, h => fun C H n R hR a w hs => h C H n R (fun e E σ a w hq hs => hR e E σ a w (hQ _ _ _ hq) hs) a w hs
section
variable {A B L : Prop} {P : Program} {S : Sp} {kd bi dr : Bool} {arr : Array Oper} {Kb : Env -> Jac -> Prop} {dst : Option Nat} {ty t : TypeId} {K : Env -> Jac -> Prop} {Q : Exit -> Env -> Jac -> Prop} {E : Env} {σ : Jac} {k : AV -> Prop} {ops : List Oper}
@[go_sem] theorem Jx0 (X : Prop) : need True X = X := by simp [need]
@[go_sem] theorem JAx (X : Prop) : need (A /\ B) X = need A (need B X) := by simp [need, and_assoc]
@[go_sem] theorem JCk (X : Prop) (h : A) : need A X = X := by simp [need, h]
@[go_sem] theorem Jv2 (v : AV) : Jao True k v = k v := by simp [Jao]
@[go_sem] theorem JxZ (v : AV) : Jao (A /\ B) k v = Jao A (Jao B k) v := by simp [Jao, and_assoc]
@[go_sem] theorem JAw (v : AV) (h : A) : Jao A k v = k v := by simp [Jao, h]
@[go_sem] theorem Jv1 : Jhx True K E σ = K E σ := by simp [Jhx]
@[go_sem] theorem JxY : Jhx (A /\ B) K E σ = Jhx A (Jhx B K) E σ := by simp [Jhx, and_assoc]
@[go_sem] theorem JAv (h : A) : Jhx A K E σ = K E σ := by simp [Jhx, h]
variable {kn : AV -> List (Nat × Blk) -> Prop} {ka : Nat -> Nat -> Nat -> Blk -> Prop}
@[go_sem] theorem Jv0 (v : AV) (l : List (Nat × Blk)) : JcX True kn v l = kn v l := by simp [JcX]
@[go_sem] theorem JxX (v : AV) (l : List (Nat × Blk)) : JcX (A /\ B) kn v l = JcX A (JcX B kn) v l := by simp [JcX, and_assoc]
@[go_sem] theorem JAu (v : AV) (l : List (Nat × Blk)) (h : A) : JcX A kn v l = kn v l := by simp [JcX, h]
@[go_sem] theorem JvZ (id sz n : Nat) (b : Blk) : JgV True ka id sz n b = ka id sz n b := by simp [JgV]
@[go_sem] theorem JxW (id sz n : Nat) (b : Blk) : JgV (A /\ B) ka id sz n b = JgV A (JgV B ka) id sz n b := by simp [JgV, and_assoc]
@[go_sem] theorem JAt (id sz n : Nat) (b : Blk) (h : A) : JgV A ka id sz n b = ka id sz n b := by simp [JgV, h]
@[go_sem] theorem Jyh (d : Nat) (v : AV) : putK (some d) K E σ v = K (upd E d v) σ := rfl
@[go_sem] theorem Jyg (v : AV) : putK none K E σ v = K E σ := rfl
@[go_sem] theorem Jtl (X Y : Env -> Jac -> Prop) (E' : Env) : branch True X E Y E' σ = X E σ := by simp [branch]
@[go_sem] theorem Jsj (X Y : Env -> Jac -> Prop) (E' : Env) : branch False X E Y E' σ = Y E' σ := by simp [branch]
attribute [go_sem] decide_eq_true_eq beq_iff_eq bne_iff_ne Bool.and_eq_true Bool.or_eq_true Bool.not_eq_true' Bool.not_true Bool.not_false Bool.false_eq_true decide_eq_false_iff_not beq_eq_false_iff_ne
attribute [go_sem] List.nil_append List.cons_append List.append_nil List.map_cons List.map_nil List.length_cons List.length_nil List.getElem?_cons_zero List.getElem?_cons_succ List.drop_succ_cons List.drop_zero List.take_succ_cons List.take_zero List.drop_nil List.take_nil List.all_cons List.all_nil
attribute [go_sem] Bool.true_and Bool.and_true Bool.false_and Bool.and_false Bool.or_false Bool.false_or Bool.or_true Bool.true_or true_and and_true Option.getD_some Option.getD_none Int.toNat_natCast List.contains_cons List.contains_nil Option.isSome_some Option.isSome_none
@[go_sem] theorem Jyc (r : AV) : optV (some r) k = k r := rfl
@[go_sem] theorem Jv8 (r : AV) : Jhz A (some r) k = Jao A k (.pt r 0) := rfl
@[go_sem] theorem Jyb (c : UInt8) : optU A (some c) k = Jao A k (.v (.int .u8 c.toNat)) := rfl
@[go_sem ↓] theorem Jw0 : awpC S .skip Q E σ = Q .normal E σ := rfl
@[go_sem ↓] theorem Jvd (l : Nat) : awpC S (.label l) Q E σ = Q .normal E σ := rfl
@[go_sem ↓] theorem Jzg (a b : Code) : awpC S (.seq a b) Q E σ = awpC S a (Jc4 (awpC S b Q) Q) E σ := by simp only [awpC]
@[go_sem ↓] theorem Jtd (id : Nat) (os : Array Oper) (draw : Bool) : awpC S (.region id os draw) Q E σ = regX (S.bad id) (regC S draw os (Q .normal) E σ) (semC S (.region id os draw) Q E σ) := by simp only [awpC]
@[go_sem ↓] theorem Jwb (X Y : Prop) : regX false X Y = X := rfl
@[go_sem ↓] theorem Jym (X Y : Prop) : regX true X Y = Y := rfl
@[go_sem ↓] theorem JwX (c : Operand) (x y : Code) : awpC S (.cond c x y) Q E σ = Job (ev E c) (awpC S x Q) (awpC S y Q) E σ := by simp only [awpC]
@[go_sem ↓] theorem Jvc (id : Nat) (c : Code) : awpC S (.block id c) Q E σ = awpC S c (Jdy id Q) E σ := by simp only [awpC]
@[go_sem ↓] theorem JwZ (c : Code) : awpC S (.loop c) Q E σ = Jo6 (awpC S c) Q E σ := by simp only [awpC]
@[go_sem ↓] theorem JwY (id : Nat) : awpC S (.exit id) Q E σ = Q (.exit id) E σ := rfl
@[go_sem ↓] theorem Jzf : awpC S .ret Q E σ = Q .ret E σ := rfl
@[go_sem ↓] theorem JsT : Jc4 K Q .normal E σ = K E σ := rfl
@[go_sem ↓] theorem Jwg (id : Nat) : Jc4 K Q (.exit id) E σ = Q (.exit id) E σ := rfl
@[go_sem ↓] theorem JyO : Jc4 K Q .ret E σ = Q .ret E σ := rfl
@[go_sem ↓] theorem Jve (c : Code) : awpC S (.scope c) Q E σ = awpC S c (Je9 Q) E σ := by simp only [awpC]
@[go_sem ↓] theorem JrI : Je9 Q .normal E σ = Q .normal E σ := rfl
@[go_sem ↓] theorem Jwc : Je9 Q .ret E σ = Q .ret E σ := rfl
@[go_sem ↓] theorem JuC (id : Nat) : Je9 Q (.exit id) E σ = Q (.exit id) E σ := rfl
@[go_sem ↓] theorem JqE (id : Nat) : Jdy id Q .normal E σ = Q .normal E σ := rfl
@[go_sem ↓] theorem Jvg (id : Nat) : Jdy id Q .ret E σ = Q .ret E σ := rfl
@[go_sem ↓] theorem Jth (id id' : Nat) : Jdy id Q (.exit id') E σ = if id' = id then Q .normal E σ else Q (.exit id') E σ := by
  simp only [Jdy]; split <;> rfl
@[go_sem ↓] theorem Jwa : regC S false arr K E σ = opsC S false arr 0 arr.toList K E σ := rfl
def regT (K : Env -> Jac -> Prop) (l : List Nat) (E : Env) (σ : Jac) : Prop := K (JaT (inL l) E) (Jaj (inL l) σ)
@[go_sem ↓] theorem Jyj : regC S true arr K E σ = regT (opsC S true arr 0 arr.toList K) (regL S arr.toList) E σ := rfl
@[go_sem ↓] theorem JsR (os : List Oper) : Jcv S true os K E σ = regT K (regL S os) E σ := rfl
@[go_sem ↓] theorem JrP (os : List Oper) : Jcv S false os K E σ = K E σ := rfl
@[go_sem] theorem JAE : regT K [] E σ = K E σ := by unfold regT; rw [JoX, Jco]
@[go_sem] theorem Jyl (i : Nat) (l : List Nat) : regT K (i :: l) E σ = K (JaT (inL (i :: l)) E) (Jaj (inL (i :: l)) σ) := rfl
@[go_sem] theorem JAD : regL S [] = [] := rfl
@[go_sem] theorem Jyk (op : Op) (pos : String) (after : Array Edge) (g : Option (Nat × Bool)) : regL S ({ dst, op, type := ty, pos, after, guard := g } :: ops) = regN S.b (cls S.P op ty) dst (regL S ops) := rfl
section
variable (x y : Operand)
@[go_sem] theorem Jvl (n : Nat) : cls P (.move (.tmp n)) ty = 0 := rfl
@[go_sem] theorem Jvk (n : Nat) : cls P (.move (.func n)) ty = 0 := rfl
@[go_sem] theorem Jsr (q : IntKind) (n : Int) : cls P (.move (.const (.int q n))) ty = 0 := rfl
@[go_sem] theorem JqR (b : Bool) : cls P (.move (.const (.bool b))) ty = 0 := rfl
@[go_sem] theorem Jn7 (b : ByteArray) : cls P (.move (.const (.string b))) ty = 0 := rfl
@[go_sem] theorem Jsq (cs : Array Value) : cls P (.move (.const (.agg cs))) ty = 0 := rfl
@[go_sem] theorem Jsu (a : Option Addr) : cls P (.move (.const (.pointer a))) ty = 0 := rfl
@[go_sem] theorem Jst : cls P (.move (.const (.slice none 0 0))) ty = if (tel P ty).isSome = true then 1 else 0 := rfl
@[go_sem] theorem Jw7 (n : Nat) : cls P (.assign (.tmp n)) ty = 0 := rfl
@[go_sem] theorem Jw6 (n : Nat) : cls P (.assign (.func n)) ty = 0 := rfl
@[go_sem] theorem Jtv (q : IntKind) (n : Int) : cls P (.assign (.const (.int q n))) ty = 0 := rfl
@[go_sem] theorem Jso (b : Bool) : cls P (.assign (.const (.bool b))) ty = 0 := rfl
@[go_sem] theorem Jqj (b : ByteArray) : cls P (.assign (.const (.string b))) ty = 0 := rfl
@[go_sem] theorem Jtu (cs : Array Value) : cls P (.assign (.const (.agg cs))) ty = 0 := rfl
@[go_sem] theorem Jn6 : cls P (.assign (.const .nilFunc)) ty = 0 := rfl
@[go_sem] theorem Jnz : cls P (.assign (.const .nilIface)) ty = 0 := rfl
@[go_sem] theorem Jtw (m : Option Nat) : cls P (.assign (.const (.map m))) ty = 0 := rfl
@[go_sem] theorem JnA : cls P (.move (.const .nilFunc)) ty = 0 := rfl
@[go_sem] theorem JmI : cls P (.move (.const .nilIface)) ty = 0 := rfl
@[go_sem] theorem Jss (m : Option Nat) : cls P (.move (.const (.map m))) ty = 0 := rfl
@[go_sem] theorem Jty (a : Option Addr) : cls P (.assign (.const (.pointer a))) ty = 0 := rfl
@[go_sem] theorem Jtx : cls P (.assign (.const (.slice none 0 0))) ty = if (tel P ty).isSome = true then 1 else 0 := rfl
@[go_sem] theorem Jzq (z : Operand) : cls P (.pick x y z) ty = 0 := rfl
@[go_sem] theorem Jw5 : cls P (.alloc t) ty = 1 := rfl
@[go_sem] theorem JBl : cls P (.box t x) ty = 1 := rfl
@[go_sem] theorem Jw9 (ps : Array (Nat × Operand)) : cls P (.build t ps) ty = 0 := rfl
@[go_sem] theorem Jqk (n : Nat) (ps : Array (Nat × Operand)) : cls P (.buildSlice t n ps) ty = 1 := rfl
@[go_sem] theorem JqO : cls P (.makeSlice t x y) ty = 1 := rfl
@[go_sem] theorem Jzo (n : Nat) : cls P (.load t (.tmp n)) ty = 0 := rfl
@[go_sem] theorem Jvi (n : Nat) : cls P (.load t (.global n)) ty = 5 := rfl
@[go_sem] theorem Jxf : cls P (.store t x y) ty = 4 := rfl
@[go_sem] theorem Jsv : cls P (.nilCheck x) ty = 0 := rfl
@[go_sem] theorem Jw8 (op : BinOp) (t' : TypeId) : cls P (.binOp op t x y t') ty = if tpt P t = true then 5 else 0 := rfl
@[go_sem] theorem Jzr (op : UnOp) : cls P (.unOp op t x) ty = 0 := rfl
@[go_sem] theorem Jtz (t' : TypeId) : cls P (.convert t t' x) ty = if (tint P t').isSome = true then 0 else 5 := rfl
@[go_sem] theorem Jsp (f : Fn) (a b : Array Operand) : cls P (.makeFunc f a b) ty = 0 := rfl
@[go_sem] theorem Jxe (a b : Option Operand) : cls P (.slice t x a b none) ty = if (tarr P t).isSome = true then 5 else 0 := rfl
@[go_sem] theorem Jvm (a b : Option Operand) (c : Operand) : cls P (.slice t x a b (some c)) ty = 5 := rfl
@[go_sem] theorem JqM (n : Nat) : cls P (.fieldAddr t x n) ty = 0 := rfl
@[go_sem] theorem Jxb (n : Nat) : cls P (.field t x n) ty = 0 := rfl
@[go_sem] theorem JqN : cls P (.indexAddr t x y) ty = 0 := rfl
@[go_sem] theorem Jxc : cls P (.index t x y) ty = 0 := rfl
@[go_sem] theorem JtA (n : Nat) : cls P (.extract x n) ty = 0 := rfl
@[go_sem] theorem Jzm (as : Array Operand) (ts : Array TypeId) : cls P (.call { callee := .value x, args := as, argTypes := ts }) ty = 2 := rfl
@[go_sem] theorem Jvh (as : Array Operand) (ts : Array TypeId) : cls P (.call { callee := .builtin .append, args := as, argTypes := ts }) ty = 3 := rfl
@[go_sem] theorem JBn (as : Array Operand) (ts : Array TypeId) : cls P (.call { callee := .builtin .len, args := as, argTypes := ts }) ty = 0 := rfl
@[go_sem] theorem JBo (as : Array Operand) (ts : Array TypeId) : cls P (.call { callee := .builtin .max, args := as, argTypes := ts }) ty = 0 := rfl
@[go_sem] theorem JBr (as : Array Operand) (ts : Array TypeId) : cls P (.call { callee := .builtin .unsafeSliceData, args := as, argTypes := ts }) ty = 0 := rfl
@[go_sem] theorem JBp (as : Array Operand) (ts : Array TypeId) : cls P (.call { callee := .builtin .min, args := as, argTypes := ts }) ty = 0 := rfl
end
@[go_sem] theorem regN_0 (b : Nat) (l : List Nat) : regN b 0 dst l = l := rfl
@[go_sem] theorem regN_1 (b d : Nat) (l : List Nat) : regN b 1 (some d) l = (b + d) :: l := rfl
@[go_sem] theorem regN_2 (b d : Nat) (l : List Nat) : regN b 2 (some d) l = (b + d) :: l := rfl
@[go_sem] theorem JCw (b : Nat) (l : List Nat) : regN b 2 none l = (b + 99999) :: l := rfl
@[go_sem] theorem regN_3 (b : Nat) (l : List Nat) : regN b 3 dst l = l := rfl
@[go_sem] theorem regN_4 (b : Nat) (l : List Nat) : regN b 4 dst l = l := rfl
@[go_sem] theorem regN_5 (b : Nat) (l : List Nat) : regN b 5 dst l = l := rfl
@[go_sem ↓] theorem JAA (i : Nat) : opsC S dr arr i [] K E σ = K E σ := rfl
@[go_sem ↓] theorem Jv6 (i : Nat) (op : Op) (pos : String) (after : Array Edge) : opsC S false arr i ({ dst, op, type := ty, pos, after, guard := none } :: ops) K E σ = aopC S true true dst op ty (opsC S false arr (i + 1) ops K) (opsC S false arr (i + 1) ops K) E σ := rfl
@[go_sem ↓] theorem Jv7 (i : Nat) (op : Op) (pos : String) (after : Array Edge) : opsC S true arr i ({ dst, op, type := ty, pos, after, guard := none } :: ops) K E σ = aopC S false (bar arr i) dst op ty (opsC S true arr (i + 1) ops K) (Jcv S true ops (opsC S true arr (i + 1) ops K)) E σ := rfl
@[go_sem ↓] theorem JsM (i : Nat) (op : Op) (pos : String) (after : Array Edge) (j : Nat) (want : Bool) : opsC S false arr i ({ dst, op, type := ty, pos, after, guard := some (j, want) } :: ops) K E σ =
    JfS S true true (Jio arr.toList j) want dst op ty (opsC S false arr (i + 1) ops K) (opsC S false arr (i + 1) ops K) E σ := rfl
@[go_sem ↓] theorem JsN (i : Nat) (op : Op) (pos : String) (after : Array Edge) (j : Nat) (want : Bool) : opsC S true arr i ({ dst, op, type := ty, pos, after, guard := some (j, want) } :: ops) K E σ =
    JfS S false (bar arr i) (Jio arr.toList j) want dst op ty (opsC S true arr (i + 1) ops K) (Jcv S true ops (opsC S true arr (i + 1) ops K)) E σ := rfl
@[go_sem] theorem Jvr (op : Op) (pos : String) (after : Array Edge) (g : Option (Nat × Bool)) : Jio ({ dst, op, type := ty, pos, after, guard := g } :: ops) 0 = dst := rfl
@[go_sem] theorem Jvq (o : Oper) (n : Nat) : Jio (o :: ops) (n + 1) = Jio ops n := rfl
@[go_sem] theorem JtQ (t : Nat) (want : Bool) (op : Op) : JfS S kd bi (some t) want dst op ty K Kb E σ = JgI S kd bi (E t) want t dst op ty K Kb E σ := rfl
@[go_sem] theorem JzZ (b : Bool) (t : Nat) (op : Op) : JgI S kd bi (.v (.bool b)) true t dst op ty K Kb E σ = branch (b = true) (aopC S kd bi dst op ty K Kb) (upd E t (.v (.bool true))) K (updO (upd E t (.v (.bool false))) dst (.v undef)) σ := rfl
@[go_sem] theorem JzY (b : Bool) (t : Nat) (op : Op) : JgI S kd bi (.v (.bool b)) false t dst op ty K Kb E σ = branch (b = true) K (updO (upd E t (.v (.bool true))) dst (.v undef)) (aopC S kd bi dst op ty K Kb) (upd E t (.v (.bool false))) σ := rfl
@[go_sem] theorem JsD (vs : Array Value) (want : Bool) (t : Nat) (op : Op) : JgI S kd bi (.v (.tuple vs)) want t dst op ty K Kb E σ = K (updO E dst (.v undef)) σ := by cases want <;> rfl
@[go_sem] theorem JA3 : undef = .tuple #[] := rfl
@[go_sem] theorem Jvn (b : Bool) (X Y : Env -> Jac -> Prop) : Job (.v (.bool b)) X Y E σ = branch (b = true) X E Y E σ := rfl
attribute [go_sem] Jp6 Jp5
@[go_sem] theorem ev_tmp (t : Nat) : ev E (.tmp t) = E t := rfl
@[go_sem] theorem Jzy (x : Value) : ev E (.const x) = ofC x := rfl
@[go_sem] theorem JBz (f : Nat) : ev E (.func f) = .clo f [] := rfl
@[go_sem] theorem JCn (k : IntKind) (n : Int) : ofC (.int k n) = .v (.int k n) := rfl
@[go_sem] theorem JAy (b : Bool) : ofC (.bool b) = .v (.bool b) := rfl
@[go_sem] theorem Jv4 (b : ByteArray) : ofC (.string b) = .v (.string b) := rfl
@[go_sem] theorem Jun (a : Option Addr) : ofC (.pointer a) = .v (.pointer a) := rfl
@[go_sem] theorem Jx7 (a : Option Addr) (n c : Nat) : ofC (.slice a n c) = .v (.slice a n c) := rfl
@[go_sem] theorem upd_at (d t : Nat) (a : AV) : upd E d a t = if t = d then a else E t := rfl
@[go_sem] theorem Jz8 (p : Nat -> Bool) (t : Nat) : JaT p E t = (E t).kill p := rfl
@[go_sem] theorem JB5 (d : Nat) : kE true d E = JaT (own d) E := rfl
@[go_sem] theorem Jz6 (d : Nat) : kE false d E = E := rfl
@[go_sem] theorem JB6 (d : Nat) : kS true d σ = Jaj (own d) σ := rfl
@[go_sem] theorem Jz7 (d : Nat) : kS false d σ = σ := rfl
@[go_sem] theorem Jz9 (p : Nat -> Bool) (t : Nat) : Jaj p σ t = if p t = true then none else (σ t).map (Blk.kill p) := rfl
@[go_sem] theorem JDf (d t : Nat) (b : Blk) : updS σ d b t = if t = d then some b else σ t := rfl
@[go_sem] theorem JyX : addS σ [] = σ := rfl
@[go_sem] theorem Jwq (id : Nat) (b : Blk) (l : List (Nat × Blk)) : addS σ ((id, b) :: l) = addS (updS σ id b) l := rfl
@[go_sem] theorem own_at (d i : Nat) : own d i = (i / 16 == d) := rfl
@[go_sem] theorem JB2 (d i : Nat) : isId d i = (i == d) := rfl
@[go_sem] theorem JA5 (i : Nat) : allB i = true := rfl
@[go_sem] theorem inL_at (l : List Nat) (i : Nat) : inL l i = l.contains (i / 16) := rfl
variable {p : Nat -> Bool}
@[go_sem] theorem Jz5 (args : List AV) (t : Nat) : JbW args t = args.getD t (.v undef) := rfl
@[go_sem] theorem JxC (a d : AV) (l : List AV) : (a :: l).getD 0 d = a := rfl
@[go_sem] theorem JxB (a d : AV) (l : List AV) (n : Nat) : (a :: l).getD (n + 1) d = l.getD n d := rfl
@[go_sem] theorem JzX (d : AV) (n : Nat) : ([] : List AV).getD n d = d := rfl
@[go_sem] theorem JAb : AV.kill p .any = .any := rfl
@[go_sem] theorem kill_v (x : Value) : AV.kill p (.v x) = .v x := rfl
@[go_sem] theorem JB9 (s : Nat) (es : List AV) : AV.kill p (.sl s es) = .sl s es := rfl
@[go_sem] theorem JB8 (e : AV) (j : Nat) : AV.kill p (.pt e j) = .pt e j := rfl
@[go_sem] theorem JAf (id s i n : Nat) : AV.kill p (.own id s i n) = if p id = true then .any else .own id s i n := by
  unfold AV.kill AV.namesB AV.dk; split <;> simp_all
@[go_sem] theorem JAg (id s i n : Nat) : AV.kill p (.ptr id s i n) = if p id = true then .any else .ptr id s i n := by
  unfold AV.kill AV.namesB AV.dk; split <;> simp_all
@[go_sem] theorem JAi (l : Nat) : AV.kill p (.yld l) = .yld l := rfl
@[go_sem] theorem JAa (cs : List AV) : AV.kill p (.agg cs) = if AV.namesL p cs = true then .agg (AV.dkL p cs) else .agg cs := rfl
@[go_sem] theorem JAh (cs : List AV) : AV.kill p (.tup cs) = if AV.namesL p cs = true then .tup (AV.dkL p cs) else .tup cs := rfl
@[go_sem] theorem JAd (f : Nat) (cs : List AV) : AV.kill p (.clo f cs) = if AV.namesL p cs = true then .clo f (AV.dkL p cs) else .clo f cs := rfl
@[go_sem] theorem JAc (e s : Nat) (es : List AV) : Blk.kill p ⟨e, s, es⟩ = if AV.namesL p es = true then ⟨e, s, AV.dkL p es⟩ else ⟨e, s, es⟩ := rfl
attribute [go_sem] AV.namesB AV.namesL AV.dk AV.dkL
attribute [go_sem] AV.cells_agg AV.cells_v AV.cells_sl AV.cells_own AV.cells_ptr AV.cells_pt AV.cells_clo AV.cells_any
@[go_sem] theorem ok_v (x : Value) : (AV.v x).ok = x.oneCell' := rfl
@[go_sem] theorem ok_agg (cs : List AV) : (AV.agg cs).ok = true := rfl
@[go_sem] theorem ok_sl (s : Nat) (es : List AV) : (AV.sl s es).ok = true := rfl
@[go_sem] theorem ok_pt (e : AV) (j : Nat) : (AV.pt e j).ok = true := rfl
@[go_sem] theorem ok_own (id s i n : Nat) : (AV.own id s i n).ok = true := rfl
@[go_sem] theorem ok_ptr (id s i n : Nat) : (AV.ptr id s i n).ok = true := rfl
@[go_sem] theorem ok_clo (f : Nat) (cs : List AV) : (AV.clo f cs).ok = true := rfl
@[go_sem] theorem JCp (k : IntKind) (n : Int) : (Value.int k n).oneCell' = true := rfl
@[go_sem] theorem JAz (b : Bool) : (Value.bool b).oneCell' = true := rfl
@[go_sem] theorem Jv5 (b : ByteArray) : (Value.string b).oneCell' = true := rfl
@[go_sem] theorem Jx9 (a : Option Addr) (n c : Nat) : (Value.slice a n c).oneCell' = true := rfl
@[go_sem ↓] theorem Ju2 (x : Nat) : aopC S kd bi dst (.move (.tmp x)) ty K Kb E σ = putK dst K E σ (E x) := rfl
@[go_sem ↓] theorem Ju1 (f : Nat) : aopC S kd bi dst (.move (.func f)) ty K Kb E σ = putK dst K E σ (.clo f []) := rfl
@[go_sem ↓] theorem Jsc (q : IntKind) (n : Int) : aopC S kd bi dst (.move (.const (.int q n))) ty K Kb E σ = putK dst K E σ (.v (.int q n)) := rfl
@[go_sem ↓] theorem Jqx (b : Bool) : aopC S kd bi dst (.move (.const (.bool b))) ty K Kb E σ = putK dst K E σ (.v (.bool b)) := rfl
@[go_sem ↓] theorem JnL (b : ByteArray) : aopC S kd bi dst (.move (.const (.string b))) ty K Kb E σ = putK dst K E σ (.v (.string b)) := rfl
@[go_sem ↓] theorem Jsb (cs : Array Value) : aopC S kd bi dst (.move (.const (.agg cs))) ty K Kb E σ = putK dst K E σ (ofC (.agg cs)) := rfl
@[go_sem ↓] theorem Jny : aopC S kd bi dst (.move (.const .nilFunc)) ty K Kb E σ = putK dst K E σ (.v .nilFunc) := rfl
@[go_sem ↓] theorem Jmx : aopC S kd bi dst (.move (.const .nilIface)) ty K Kb E σ = putK dst K E σ (.v .nilIface) := rfl
@[go_sem ↓] theorem Jsd (m : Option Nat) : aopC S kd bi dst (.move (.const (.map m))) ty K Kb E σ = putK dst K E σ (ofC (.map m)) := rfl
@[go_sem ↓] theorem Jsf (a : Option Addr) : aopC S kd bi dst (.move (.const (.pointer a))) ty K Kb E σ = putK dst K E σ (.v (.pointer a)) := rfl
@[go_sem ↓] theorem JwJ (x : Nat) : aopC S kd bi dst (.assign (.tmp x)) ty K Kb E σ = putK dst K E σ (E x) := rfl
@[go_sem ↓] theorem JwI (f : Nat) : aopC S kd bi dst (.assign (.func f)) ty K Kb E σ = putK dst K E σ (.clo f []) := rfl
@[go_sem ↓] theorem Js3 (q : IntKind) (n : Int) : aopC S kd bi dst (.assign (.const (.int q n))) ty K Kb E σ = putK dst K E σ (.v (.int q n)) := rfl
@[go_sem ↓] theorem Jr9 (b : Bool) : aopC S kd bi dst (.assign (.const (.bool b))) ty K Kb E σ = putK dst K E σ (.v (.bool b)) := rfl
@[go_sem ↓] theorem Jqh (b : ByteArray) : aopC S kd bi dst (.assign (.const (.string b))) ty K Kb E σ = putK dst K E σ (.v (.string b)) := rfl
@[go_sem ↓] theorem Js2 (cs : Array Value) : aopC S kd bi dst (.assign (.const (.agg cs))) ty K Kb E σ = putK dst K E σ (ofC (.agg cs)) := rfl
@[go_sem ↓] theorem JnK : aopC S kd bi dst (.assign (.const .nilFunc)) ty K Kb E σ = putK dst K E σ (.v .nilFunc) := rfl
@[go_sem ↓] theorem Jnx : aopC S kd bi dst (.assign (.const .nilIface)) ty K Kb E σ = putK dst K E σ (.v .nilIface) := rfl
@[go_sem ↓] theorem Js4 (m : Option Nat) : aopC S kd bi dst (.assign (.const (.map m))) ty K Kb E σ = putK dst K E σ (ofC (.map m)) := rfl
@[go_sem ↓] theorem Js6 (a : Option Addr) : aopC S kd bi dst (.assign (.const (.pointer a))) ty K Kb E σ = putK dst K E σ (.v (.pointer a)) := rfl
def nilG (S : Sp) (kd : Bool) (q : Option TypeId) (dst : Option Nat) (K : Env -> Jac -> Prop) (E : Env) (σ : Jac) : Prop := match q, dst with
  | some e, some d => nilC S.P (S.b + d) (some e) (newK d K (kE kd (S.b + d) E) (kS kd (S.b + d) σ))
  | none, _ => putK dst K E σ (.v (.slice none 0 0))
  | _, _ => False
theorem Jpd : (match tel S.P ty with
    | some e => (match dst with
      | some d => nilC S.P (S.b + d) (some e) (newK d K (kE kd (S.b + d) E) (kS kd (S.b + d) σ))
      | none => False)
    | none => putK dst K E σ (.v (.slice none 0 0))) = nilG S kd (tel S.P ty) dst K E σ := by
  unfold nilG; cases tel S.P ty <;> cases dst <;> rfl
@[go_sem ↓] theorem Jse : aopC S kd bi dst (.move (.const (.slice none 0 0))) ty K Kb E σ = nilG S kd (tel S.P ty) dst K E σ := Jpd
@[go_sem ↓] theorem Js5 : aopC S kd bi dst (.assign (.const (.slice none 0 0))) ty K Kb E σ = nilG S kd (tel S.P ty) dst K E σ := Jpd
@[go_sem] theorem Jx2 (e : TypeId) (d : Nat) : nilG S kd (some e) (some d) K E σ = newK d K (kE kd (S.b + d) E) (kS kd (S.b + d) σ) (.own (16 * (S.b + d)) (tsz S.P e) 0 0) [(16 * (S.b + d), ⟨e, tsz S.P e, []⟩)] := rfl
@[go_sem] theorem Jx1 : nilG S kd none dst K E σ = putK dst K E σ (.v (.slice none 0 0)) := rfl
@[go_sem] theorem JCl (d : Nat) (v : AV) (bl : List (Nat × Blk)) : newK d K E σ v bl = K (upd E d v) (addS σ bl) := rfl
@[go_sem ↓] theorem Jy6 (c x y : Operand) : aopC S kd bi dst (.pick c x y) ty K Kb E σ = Jad (ev E c) (ev E x) (ev E y) (putK dst K E σ) := rfl
@[go_sem ↓] theorem Jy4 (n : Nat) : aopC S kd bi dst (.load t (.tmp n)) ty K Kb E σ = JgP S.P σ t (E n) (putK dst K E σ) := rfl
@[go_sem ↓] theorem JuZ (n : Nat) : aopC S kd bi dst (.load t (.global n)) ty K Kb E σ = semD S dst (.load t (.global n)) ty Kb E σ := rfl
@[go_sem ↓] theorem Jsg (x : Operand) : aopC S kd bi dst (.nilCheck x) ty K Kb E σ = Jdg (ev E x) (putK dst K E σ) := rfl
def binG (S : Sp) (dst : Option Nat) (op : BinOp) (t : TypeId) (x y : Operand) (t' ty : TypeId) (q : Bool) (K Kb : Env -> Jac -> Prop) (E : Env) (σ : Jac) : Prop := match q with
  | true => semD S dst (.binOp op t x y t') ty Kb E σ
  | false => binC S.P op t (ev E x) (ev E y) (putK dst K E σ)
@[go_sem ↓] theorem JwK (op : BinOp) (x y : Operand) (t' : TypeId) : aopC S kd bi dst (.binOp op t x y t') ty K Kb E σ = binG S dst op t x y t' ty (tpt S.P t) K Kb E σ := by
  show Jnh S dst (.binOp op t x y t') ty (if tpt S.P t then 5 else 0) K Kb E σ = _
  unfold binG
  cases tpt S.P t <;> rfl
@[go_sem] theorem Jw1 (op : BinOp) (x y : Operand) (t' : TypeId) : binG S dst op t x y t' ty true K Kb E σ = semD S dst (.binOp op t x y t') ty Kb E σ := rfl
@[go_sem] theorem Jvf (op : BinOp) (x y : Operand) (t' : TypeId) : binG S dst op t x y t' ty false K Kb E σ = binC S.P op t (ev E x) (ev E y) (putK dst K E σ) := rfl
@[go_sem ↓] theorem JwL (parts : Array (Nat × Operand)) : aopC S kd bi dst (.build t parts) ty K Kb E σ = JfP S.P (tzA S.P t) (tfld S.P t) (tarr S.P t) (parts.toList.map fun p => (p.1, ev E p.2)) (putK dst K E σ) := rfl
@[go_sem ↓] theorem Jy7 (op : UnOp) (x : Operand) : aopC S kd bi dst (.unOp op t x) ty K Kb E σ = unC op (ev E x) (putK dst K E σ) := rfl
def JqS (S : Sp) (dst : Option Nat) (t t' : TypeId) (x : Operand) (ty : TypeId) (q : Option IntKind) (K Kb : Env -> Jac -> Prop) (E : Env) (σ : Jac) : Prop := match q with
  | some k => Jil (tund S.P t) (some k) (ev E x) (putK dst K E σ)
  | none => semD S dst (.convert t t' x) ty Kb E σ
@[go_sem ↓] theorem Js7 (t' : TypeId) (x : Operand) : aopC S kd bi dst (.convert t t' x) ty K Kb E σ = JqS S dst t t' x ty (tint S.P t') K Kb E σ := by
  show Jnh S dst (.convert t t' x) ty (if (tint S.P t').isSome then 0 else 5) K Kb E σ = _
  unfold JqS
  cases h : tint S.P t' with
  | none => rfl
  | some k => show Jil (tund S.P t) (tint S.P t') _ _ = _; rw [h]
@[go_sem] theorem Jvp (t' : TypeId) (x : Operand) (k : IntKind) : JqS S dst t t' x ty (some k) K Kb E σ = Jil (tund S.P t) (some k) (ev E x) (putK dst K E σ) := rfl
@[go_sem] theorem Jvo (t' : TypeId) (x : Operand) : JqS S dst t t' x ty none K Kb E σ = semD S dst (.convert t t' x) ty Kb E σ := rfl
@[go_sem ↓] theorem Jsa (f : FuncId) (first cs : Array Operand) : aopC S kd bi dst (.makeFunc (.func f) first cs) ty K Kb E σ = JcW f first.toList (cs.toList.map (ev E)) (first.toList.map (ev E)) (putK dst K E σ) := rfl
@[go_sem] theorem Jrf (f : Nat) (cs fs : List AV) : JcW f [] cs fs k = Jao (JaH cs = true) k (.clo f cs) := rfl
@[go_sem] theorem Jql (f : Nat) (x : Operand) (l : List Operand) (cs fs : List AV) : JcW f (x :: l) cs fs k = Jao (cs = []) k (.clo f (.v (.tuple #[]) :: fs)) := rfl
@[go_sem] theorem JvF : JaH [] = true := rfl
@[go_sem] theorem JxE (e : AV) (j : Nat) (l : List AV) : JaH (.pt e j :: l) = true := rfl
@[go_sem] theorem JvH (a b c d : Nat) (l : List AV) : JaH (.ptr a b c d :: l) = true := rfl
@[go_sem] theorem JvG (a b c d : Nat) (l : List AV) : JaH (.own a b c d :: l) = true := rfl
@[go_sem] theorem JxF (s : Nat) (es : List AV) (l : List AV) : JaH (.sl s es :: l) = true := rfl
@[go_sem] theorem JvD (g : Nat) (cs : List AV) (l : List AV) : JaH (.clo g cs :: l) = true := rfl
@[go_sem] theorem JvI (i : Nat) (l : List AV) : JaH (.yld i :: l) = true := rfl
@[go_sem] theorem JvC (cs : List AV) (l : List AV) : JaH (.agg cs :: l) = true := rfl
@[go_sem] theorem JtX (e z : Nat) (cs : List AV) (l : List AV) : JaH (.nptr e z cs :: l) = true := rfl
@[go_sem] theorem JvE (e z : Nat) (cs : List AV) (l : List AV) : JaH (.new e z cs :: l) = true := rfl
@[go_sem] theorem Jz0 (x : Value) (l : List AV) : JaH (.v x :: l) = x.oneCell' := rfl
@[go_sem] theorem JxD (es : List AV) (l : List AV) : JaH (.mp es :: l) = true := rfl
@[go_sem] theorem JtW (i : Nat) (l : List AV) : JaH (.mref i :: l) = true := rfl
def Jq0 (P : Program) (q : Option (List (Nat × TypeId))) (f : Nat) (a : AV) (K : AV -> Prop) : Prop := match q, a with
  | some fs, .pt e j => fldB P fs[f]? (.pt e j) K
  | some fs, .ptr id s i j => fldB P fs[f]? (.ptr id s i j) K
  | _, _ => False
def JtN (P : Program) (q : Option (List (Nat × TypeId))) (f : Nat) (a : AV) (K : AV -> Prop) : Prop := match q, a with
  | some fs, .agg cs => fldB P fs[f]? (.agg cs) K
  | _, _ => False
@[go_sem ↓] theorem Jqt (x : Operand) (f : Nat) : aopC S kd bi dst (.fieldAddr t x f) ty K Kb E σ = Jq0 S.P (tfld S.P t) f (ev E x) (putK dst K E σ) := by
  show ((match ev E x with | .agg _ => False | _ => True) /\ fldC S.P (tfld S.P t) f (ev E x) _) = _
  unfold fldC Jq0
  cases tfld S.P t with
  | none => simp
  | some fs => cases ev E x <;> simp [fldB] <;> (split <;> simp_all)
@[go_sem ↓] theorem JwN (x : Operand) (f : Nat) : aopC S kd bi dst (.field t x f) ty K Kb E σ = JtN S.P (tfld S.P t) f (ev E x) (putK dst K E σ) := by
  show ((match ev E x with | .agg _ => True | _ => False) /\ fldC S.P (tfld S.P t) f (ev E x) _) = _
  unfold fldC JtN
  cases tfld S.P t with
  | none => simp
  | some fs => cases ev E x <;> simp
@[go_sem] theorem JzP (fs : List (Nat × TypeId)) (f : Nat) (e : AV) (j : Nat) : Jq0 P (some fs) f (.pt e j) k = fldB P fs[f]? (.pt e j) k := rfl
@[go_sem] theorem Jxw (fs : List (Nat × TypeId)) (f : Nat) (id s i j : Nat) : Jq0 P (some fs) f (.ptr id s i j) k = fldB P fs[f]? (.ptr id s i j) k := rfl
@[go_sem] theorem Jxx (fs : List (Nat × TypeId)) (f : Nat) (cs : List AV) : JtN P (some fs) f (.agg cs) k = fldB P fs[f]? (.agg cs) k := rfl
@[go_sem] theorem JBO (off : Nat) (e : AV) (j : Nat) : fldB P (some (off, t)) (.pt e j) k = Jao (0 < tsz P t) k (.pt e (j + off)) := rfl
@[go_sem] theorem JzR (off : Nat) (id s i j : Nat) : fldB P (some (off, t)) (.ptr id s i j) k = Jao (0 < tsz P t) k (.ptr id s i (j + off)) := rfl
@[go_sem] theorem JzQ (off : Nat) (cs : List AV) : fldB P (some (off, t)) (.agg cs) k = Jez P t cs off k := rfl
@[go_sem ↓] theorem Jqu (x i : Operand) : aopC S kd bi dst (.indexAddr t x i) ty K Kb E σ = JcC S.P t (ev E x) (ev E i) (putK dst K E σ) := rfl
@[go_sem ↓] theorem JwO (x i : Operand) : aopC S kd bi dst (.index t x i) ty K Kb E σ = idxC S.P t (ev E x) (ev E i) (putK dst K E σ) := rfl
@[go_sem ↓] theorem Js8 (x : Operand) (i : Nat) : aopC S kd bi dst (.extract x i) ty K Kb E σ = extC (ev E x) i (putK dst K E σ) := rfl
def sliG (S : Sp) (dst : Option Nat) (t : TypeId) (x : Operand) (lo hi : Option Operand) (ty : TypeId) (q : Option (Nat × TypeId)) (K Kb : Env -> Jac -> Prop) (E : Env) (σ : Jac) : Prop := match q with
  | some _ => semD S dst (.slice t x lo hi none) ty Kb E σ
  | none => cutE S.P (tel S.P t) (tstr S.P t) (ev E x) (Jds E lo 0) (Jds E hi (lenN (ev E x))) (putK dst K E σ)
@[go_sem ↓] theorem JwQ (x : Operand) (lo hi : Option Operand) : aopC S kd bi dst (.slice t x lo hi none) ty K Kb E σ = sliG S dst t x lo hi ty (tarr S.P t) K Kb E σ := by
  show Jnh S dst (.slice t x lo hi none) ty (if (tarr S.P t).isSome then 5 else 0) K Kb E σ = _
  unfold sliG
  cases tarr S.P t <;> rfl
@[go_sem ↓] theorem Ju3 (x : Operand) (lo hi : Option Operand) (m : Operand) : aopC S kd bi dst (.slice t x lo hi (some m)) ty K Kb E σ = semD S dst (.slice t x lo hi (some m)) ty Kb E σ := rfl
@[go_sem] theorem JyF (x : Operand) (lo hi : Option Operand) (q : Nat × TypeId) : sliG S dst t x lo hi ty (some q) K Kb E σ = semD S dst (.slice t x lo hi none) ty Kb E σ := rfl
@[go_sem] theorem JyE (x : Operand) (lo hi : Option Operand) : sliG S dst t x lo hi ty none K Kb E σ = cutE S.P (tel S.P t) (tstr S.P t) (ev E x) (Jds E lo 0) (Jds E hi (lenN (ev E x))) (putK dst K E σ) := rfl
@[go_sem ↓] theorem JBa (x : Operand) : aopC S kd bi dst (.call { callee := .builtin .len, args := #[x], argTypes := #[t] }) ty K Kb E σ = lenC (tstr S.P t) (tel S.P t) (ev E x) (putK dst K E σ) := rfl
@[go_sem ↓] theorem JBb (args : Array Operand) (ats : Array TypeId) : aopC S kd bi dst (.call { callee := .builtin .max, args, argTypes := ats }) ty K Kb E σ = maxC (args.toList.map (ev E)) (putK dst K E σ) := rfl
@[go_sem ↓] theorem JBe (args : Array Operand) (ats : Array TypeId) : aopC S kd bi dst (.call { callee := .builtin .unsafeSliceData, args, argTypes := ats }) ty K Kb E σ = sldC (args.toList.map (ev E)) (putK dst K E σ) := rfl
@[go_sem] theorem JAX (id sz n : Nat) : sldC [.own id sz 0 (n + 1)] k = Jao (sz = 1) k (.ptr id 1 0 0) := rfl
@[go_sem ↓] theorem JBc (args : Array Operand) (ats : Array TypeId) : aopC S kd bi dst (.call { callee := .builtin .min, args, argTypes := ats }) ty K Kb E σ = minC (args.toList.map (ev E)) (putK dst K E σ) := rfl
@[go_sem ↓] theorem Jy2 (f : Operand) (args : Array Operand) (ats : Array TypeId) : aopC S kd bi dst (.call { callee := .value f, args, argTypes := ats }) ty K Kb E σ =
    Jjg S kd bi (S.b + dst.getD 99999) (ev E f) (args.toList.map (ev E)) dst K Kb E σ (kE kd (S.b + dst.getD 99999) E) (kS kd (S.b + dst.getD 99999) σ) (args.toList.map (ev (kE kd (S.b + dst.getD 99999) E))) (ev (kE kd (S.b + dst.getD 99999) E) f)
      (semD S dst (.call { callee := .value f, args, argTypes := ats }) ty Kb E σ) := rfl
@[go_sem ↓] theorem JuY (d : Nat) (args : Array Operand) (ats : Array TypeId) : aopC S kd bi (some d) (.call { callee := .builtin .append, args, argTypes := ats }) ty K Kb E σ =
    appC S.P args.toList ats.toList E σ fun id sz n k => need (S.pin id = false) (appK d Kb E σ id sz n k) := rfl
@[go_sem ↓] theorem JwR (x y : Operand) : aopC S kd bi dst (.store t x y) ty K Kb E σ = Jhk S.P t (ev E x) (ev E y) dst Kb E σ := rfl
@[go_sem ↓] theorem JwH (d : Nat) : aopC S kd bi (some d) (.alloc t) ty K Kb E σ = JfM S.P (S.b + d) t (tel S.P t) (tsz S.P t) (tzA S.P t) (newK d K (kE kd (S.b + d) E) (kS kd (S.b + d) σ)) := rfl
@[go_sem ↓] theorem JA8 (d : Nat) (x : Operand) : aopC S kd bi (some d) (.box t x) ty K Kb E σ = boxC (S.b + d) t (tsz S.P t) (ev (kE kd (S.b + d) E) x) (newK d K (kE kd (S.b + d) E) (kS kd (S.b + d) σ)) := rfl
@[go_sem ↓] theorem Jqi (d len : Nat) (parts : Array (Nat × Operand)) : aopC S kd bi (some d) (.buildSlice t len parts) ty K Kb E σ =
    Jen S.P (S.b + d) (tel S.P t) len (parts.toList.map (·.1)) (parts.toList.map fun p => ev (kE kd (S.b + d) E) p.2) (newK d K (kE kd (S.b + d) E) (kS kd (S.b + d) σ)) := rfl
@[go_sem ↓] theorem Jqv (d : Nat) (l c : Operand) : aopC S kd bi (some d) (.makeSlice t l c) ty K Kb E σ = Jet S.P (S.b + d) (tel S.P t) (ev (kE kd (S.b + d) E) l) (ev (kE kd (S.b + d) E) c) (newK d K (kE kd (S.b + d) E) (kS kd (S.b + d) σ)) := rfl
@[go_sem] theorem JCS (op : Op) (h : semD S dst op ty Kb E σ) : semD S dst op ty Kb E σ = True := by simp [h]
@[go_sem] theorem JCu (a b : AV) : Jad (.v (.bool true)) a b k = k a := rfl
@[go_sem] theorem JCt (a b : AV) : Jad (.v (.bool false)) a b k = k b := rfl
@[go_sem] theorem Jv9 (c a b : Bool) : Jad (.v (.bool c)) (.v (.bool a)) (.v (.bool b)) k = k (.v (.bool (if c = true then a else b))) := by cases c <;> rfl
@[go_sem] theorem Jyf (c : Bool) (q : IntKind) (a b : Int) : Jad (.v (.bool c)) (.v (.int q a)) (.v (.int q b)) k = k (.v (.int q (if c = true then a else b))) := by cases c <;> rfl
@[go_sem] theorem JAn (e : AV) (j : Nat) : JgP P σ t (.pt e j) k = Jez P t e.cells j k := rfl
@[go_sem] theorem JxM (id s i j : Nat) : JgP P σ t (.ptr id s i j) k = JkR P t (σ id) s i j k := rfl
@[go_sem] theorem JvL (b : Blk) (s i j : Nat) : JkR P t (some b) s i j k = need (b.sz = s) (Jhv P t b.es[i]? j k) := rfl
@[go_sem] theorem JvM (e : AV) (j : Nat) : Jhv P t (some e) j k = Jez P t e.cells j k := rfl
@[go_sem] theorem JAC (cs : List AV) (off : Nat) : Jez P t cs off k = JjU (tagg P t) (tsz P t) cs off k := rfl
@[go_sem] theorem JCs (s : Nat) (cs : List AV) (off : Nat) : JjU (some true) s cs off k = Jao (0 < s /\ off + s <= cs.length) k (.agg ((cs.drop off).take s)) := rfl
@[go_sem] theorem JCr (s : Nat) (cs : List AV) (off : Nat) : JjU (some false) s cs off k = optV cs[off]? k := rfl
@[go_sem] theorem Jv3 (e : AV) (j : Nat) : Jdg (.pt e j) k = k (.pt e j) := rfl
@[go_sem] theorem Jui (id s i j : Nat) : Jdg (.ptr id s i j) k = k (.ptr id s i j) := rfl
@[go_sem] theorem Juh (f : Nat) (cs : List AV) : Jdg (.clo f cs) k = k (.clo f cs) := rfl
@[go_sem] theorem Jzk (op : BinOp) (q q' : IntKind) (m n : Int) : binC P op t (.v (.int q m)) (.v (.int q' n)) k = intC op q m q' n k := rfl
@[go_sem] theorem Jzl (op : BinOp) (a b : ByteArray) : binC P op t (.v (.string a)) (.v (.string b)) k = strC op a b k := rfl
@[go_sem] theorem Jzh (op : BinOp) (cs ds : List AV) : binC P op t (.agg cs) (.agg ds) k = aggC op (teq P t) cs ds k := rfl
@[go_sem] theorem Jzi (a b : Bool) : binC P .eql t (.v (.bool a)) (.v (.bool b)) k = Jao (tkind P t = some 1) k (.v (.bool (a == b))) := rfl
@[go_sem] theorem Jzj (a b : Bool) : binC P .neq t (.v (.bool a)) (.v (.bool b)) k = Jao (tkind P t = some 1) k (.v (.bool (!(a == b)))) := rfl
attribute [go_sem] intC strC
@[go_sem] theorem Jws (op : BinOp) (q : List Nat) (cs ds : List AV) : aggC op (some q) cs ds k = eqlC op (eqK q cs ds) k := rfl
@[go_sem] theorem Jzw (b : Bool) : eqlC .eql (some b) k = k (.v (.bool b)) := rfl
@[go_sem] theorem Jzx (b : Bool) : eqlC .neq (some b) k = k (.v (.bool (!b))) := rfl
@[go_sem] theorem JBx : eqK [] [] [] = some true := rfl
@[go_sem] theorem JBw (ks : List Nat) (q : IntKind) (a b : Int) (r s : List AV) : eqK (0 :: ks) (.v (.int q a) :: r) (.v (.int q b) :: s) = (eqK ks r s).map ((a == b) && ·) := by simp [eqK]
@[go_sem] theorem Jzv (ks : List Nat) (a b : Bool) (r s : List AV) : eqK (1 :: ks) (.v (.bool a) :: r) (.v (.bool b) :: s) = (eqK ks r s).map ((a == b) && ·) := rfl
@[go_sem] theorem JBy (ks : List Nat) (a b : ByteArray) (r s : List AV) : eqK (2 :: ks) (.v (.string a) :: r) (.v (.string b) :: s) = (eqK ks r s).map ((a.toList == b.toList) && ·) := rfl
attribute [go_sem] Option.map_some Bool.and_true
@[go_sem] theorem Jto (z : AV) (q : Option (List (Nat × TypeId))) (r : Option (Nat × TypeId)) (ps : List (Nat × AV)) : JfP P (some z) q r ps k = JfO P z q r ps k := rfl
@[go_sem] theorem Jtn (z : AV) (fs : List (Nat × TypeId)) (r : Option (Nat × TypeId)) (ps : List (Nat × AV)) : JfO P z (some fs) r ps k = need (z.ok = true /\ (fs.all fun f => decide (0 < tsz P f.2)) = true) (Jht (JcS (Jps P fs) z.cells ps) k) := rfl
@[go_sem] theorem Jtm (z : AV) (m : Nat) (e : TypeId) (ps : List (Nat × AV)) : JfO P z none (some (m, e)) ps k = need (z.ok = true /\ 0 < tsz P e) (Jht (JcS (Jpr (tsz P e)) z.cells ps) k) := rfl
@[go_sem] theorem Jvz (cs : List AV) : Jht (some cs) k = k (.agg cs) := rfl
def Jf4 (place : Nat -> Option (Nat × Nat)) (cs : List AV) (v : AV) (rest : List (Nat × AV)) (o : Option (Nat × Nat)) : Option (List AV) := match o with
  | none => none
  | some (off, size) => if v.cells.length = size /\ off + size <= cs.length /\ v.ok = true then JcS place (cs.take off ++ v.cells ++ cs.drop (off + size)) rest else none
@[go_sem] theorem Jxo (place : Nat -> Option (Nat × Nat)) (cs : List AV) : JcS place cs [] = some cs := rfl
@[go_sem] theorem Jvx (place : Nat -> Option (Nat × Nat)) (cs : List AV) (i : Nat) (v : AV) (rest : List (Nat × AV)) : JcS place cs ((i, v) :: rest) = Jf4 place cs v rest (place i) := by
  simp only [JcS, Jf4]; cases place i <;> rfl
@[go_sem] theorem Jvy (place : Nat -> Option (Nat × Nat)) (cs : List AV) (v : AV) (rest : List (Nat × AV)) (off size : Nat) : Jf4 place cs v rest (some (off, size)) =
    if v.cells.length = size /\ off + size <= cs.length /\ v.ok = true then JcS place (cs.take off ++ v.cells ++ cs.drop (off + size)) rest else none := rfl
attribute [go_sem] Jps Jpr
@[go_sem] theorem JDd (b : Bool) : unC .not (.v (.bool b)) k = k (.v (.bool (!b))) := rfl
@[go_sem] theorem JDe (q : IntKind) (n : Int) : unC .xor (.v (.int q n)) k = k (.v (.int q (Ja6 .xor q (if q.signed then -1 else q.max) n))) := rfl
@[go_sem] theorem JDc (q : IntKind) (n : Int) : unC .neg (.v (.int q n)) k = k (.v (.int q (q.wrap (0 - n)))) := rfl
@[go_sem] theorem Jxh (u : Bool) (q q' : IntKind) (n : Int) : Jil u (some q) (.v (.int q' n)) k = Jao (u = true) k (.v (.int q (q.wrap n))) := rfl
@[go_sem] theorem JsE (x : AV) (q : IntKind) (n : Int) : JcC P t x (.v (.int q n)) k = idxP P (tel P t) (tarr P t) x n k := rfl
@[go_sem] theorem JB0 (e : TypeId) (r : Option (Nat × TypeId)) (s : Nat) (es : List AV) (n : Int) : idxP P (some e) r (.sl s es) n k = Jhz (0 < s /\ tsz P e = s /\ 0 <= n) es[n.toNat]? k := rfl
@[go_sem] theorem Jz3 (e : TypeId) (r : Option (Nat × TypeId)) (id s o l : Nat) (n : Int) : idxP P (some e) r (.own id s o l) n k = Jao (0 < s /\ tsz P e = s /\ 0 <= n /\ n < (l : Int)) k (.ptr id s (o + n.toNat) 0) := rfl
@[go_sem] theorem JBZ (m : Nat) (e : TypeId) (c : AV) (j : Nat) (n : Int) : idxP P none (some (m, e)) (.pt c j) n k = Jao (0 < tsz P e /\ 0 <= n /\ n < (m : Int)) k (.pt c (j + n.toNat * tsz P e)) := rfl
@[go_sem] theorem Jz4 (m : Nat) (e : TypeId) (id s o j : Nat) (n : Int) : idxP P none (some (m, e)) (.ptr id s o j) n k = Jao (0 < tsz P e /\ 0 <= n /\ n < (m : Int)) k (.ptr id s o (j + n.toNat * tsz P e)) := rfl
@[go_sem] theorem Jz2 (s : ByteArray) (q : IntKind) (n : Int) : idxC P t (.v (.string s)) (.v (.int q n)) k = optU (tstr P t = true /\ 0 <= n) s[n.toNat]? k := rfl
@[go_sem] theorem Jz1 (cs : List AV) (q : IntKind) (n : Int) : idxC P t (.agg cs) (.v (.int q n)) k = idxG P (tarr P t) cs n k := rfl
@[go_sem] theorem JxG (m : Nat) (e : TypeId) (cs : List AV) (n : Int) : idxG P (some (m, e)) cs n k = need (0 < tsz P e /\ 0 <= n /\ n < (m : Int)) (Jez P e cs (n.toNat * tsz P e) k) := rfl
@[go_sem] theorem Jtj (d : Nat) : Jds E none d = .v (.int .i64 d) := rfl
@[go_sem] theorem Jtk (x : Operand) (d : Nat) : Jds E (some x) d = ev E x := rfl
@[go_sem] theorem JCc (s : Nat) (es : List AV) : lenN (.sl s es) = es.length := rfl
@[go_sem] theorem JAl (id s o n : Nat) : lenN (.own id s o n) = n := rfl
@[go_sem] theorem JAm (s : ByteArray) : lenN (.v (.string s)) = s.size := rfl
@[go_sem] theorem JBt (e : TypeId) (u : Bool) (s : Nat) (es : List AV) (q q' : IntKind) (l h : Int) : cutE P (some e) u (.sl s es) (.v (.int q l)) (.v (.int q' h)) k = Jao (0 < s /\ tsz P e = s /\ 0 <= l /\ l <= h /\ h <= (es.length : Int)) k (.sl s ((es.drop l.toNat).take (h.toNat - l.toNat))) := rfl
@[go_sem] theorem Jzt (e : TypeId) (u : Bool) (id s o n : Nat) (q q' : IntKind) (l h : Int) : cutE P (some e) u (.own id s o n) (.v (.int q l)) (.v (.int q' h)) k = Jao (0 < s /\ tsz P e = s /\ 0 <= l /\ l <= h /\ h <= (n : Int)) k (.own id s (o + l.toNat) (h.toNat - l.toNat)) := rfl
@[go_sem] theorem Jzu (u : Bool) (o : Option TypeId) (s : ByteArray) (q q' : IntKind) (l h : Int) : cutE P o u (.v (.string s)) (.v (.int q l)) (.v (.int q' h)) k = Jao (u = true /\ 0 <= l /\ l <= h /\ h <= (s.size : Int)) k (.v (.string (s.extract l.toNat h.toNat))) := rfl
@[go_sem] theorem JAk (u : Bool) (o : Option TypeId) (s : ByteArray) : lenC u o (.v (.string s)) k = Jao (u = true) k (.v (.int .i64 (s.size : Int))) := rfl
@[go_sem] theorem JCb (u : Bool) (o : Option TypeId) (s : Nat) (es : List AV) : lenC u o (.sl s es) k = Jao (o.isSome = true) k (.v (.int .i64 (es.length : Int))) := rfl
@[go_sem] theorem JAj (u : Bool) (o : Option TypeId) (id s i n : Nat) : lenC u o (.own id s i n) k = Jao (o.isSome = true) k (.v (.int .i64 (n : Int))) := rfl
@[go_sem] theorem JvK (u : Bool) (o : Option TypeId) (a : Option Addr) (n c : Nat) : lenC u o (.v (.slice a n c)) k = Jao (o.isSome = true) k (.v (.int .i64 (n : Int))) := rfl
@[go_sem] theorem JAp (q q' : IntKind) (a b : Int) : maxC [.v (.int q a), .v (.int q' b)] k = k (.v (.int q (if b > a then b else a))) := rfl
@[go_sem] theorem JAq (q q' : IntKind) (a b : Int) : minC [.v (.int q a), .v (.int q' b)] k = k (.v (.int q (if b < a then b else a))) := rfl
@[go_sem] theorem JzF (vs : List AV) (i : Nat) : extC (.tup vs) i k = optV vs[i]? k := rfl
@[go_sem] theorem Js0 (d e s : Nat) (z : Option AV) : JfM P d t (some e) s z kn = JcX (tz P t = some (.slice none 0 0) /\ s = 1) kn (.ptr (16 * d) 1 0 0) [(16 * d + 1, ⟨e, tsz P e, []⟩), (16 * d, ⟨t, 1, [.own (16 * d + 1) (tsz P e) 0 0]⟩)] := rfl
@[go_sem] theorem JsZ (d s : Nat) (z : AV) : JfM P d t none s (some z) kn = JcX (z.ok = true /\ z.cells.length = s /\ s ≠ 0) kn (.ptr (16 * d) s 0 0) [(16 * d, ⟨t, s, [z]⟩)] := rfl
@[go_sem] theorem JBk (d s : Nat) (x : AV) : boxC d t s x kn = JcX (x.ok = true /\ x.cells.length = s /\ s ≠ 0) kn (.ptr (16 * d) s 0 0) [(16 * d, ⟨t, s, [x]⟩)] := rfl
def JnZ (d e s : Nat) (z : Option AV) (len : Nat) (is : List Nat) (xs : List AV) (K : AV -> List (Nat × Blk) -> Prop) : Prop := match z with
  | some z => JcX (0 < s /\ z.ok = true /\ z.cells.length = s /\ len * s <= 16777216 /\ is = List.range len /\ JbS s xs = true) K (.own (16 * d) s 0 len) [(16 * d, ⟨e, s, xs⟩)]
  | none => False
@[go_sem] theorem Jsl (d e len : Nat) (is : List Nat) (xs : List AV) : Jen P d (some e) len is xs kn = JnZ d e (tsz P e) (tzA P e) len is xs kn := rfl
@[go_sem] theorem Jsk (d e s len : Nat) (z : AV) (is : List Nat) (xs : List AV) : JnZ d e s (some z) len is xs kn =
    JcX (0 < s /\ z.ok = true /\ z.cells.length = s /\ len * s <= 16777216 /\ is = List.range len /\ JbS s xs = true) kn (.own (16 * d) s 0 len) [(16 * d, ⟨e, s, xs⟩)] := rfl
def Jpa (P : Program) (d e s : Nat) (z : Option AV) (n m : Int) (K : AV -> List (Nat × Blk) -> Prop) : Prop := match z with
  | some z => JcX (0 < s /\ z.ok = true /\ z.cells.length = s /\ 0 <= n /\ n <= m /\ m * (tby P e : Int) <= 281474976710656 /\ m <= 4611686018427387904) K (.own (16 * d) s 0 n.toNat) [(16 * d, ⟨e, s, List.replicate n.toNat z⟩)]
  | none => False
@[go_sem] theorem JsH (d e : Nat) (q q' : IntKind) (n m : Int) : Jet P d (some e) (.v (.int q n)) (.v (.int q' m)) kn = Jpa P d e (tsz P e) (tzA P e) n m kn := rfl
@[go_sem] theorem JsG (d e s : Nat) (z : AV) (n m : Int) : Jpa P d e s (some z) n m kn =
    JcX (0 < s /\ z.ok = true /\ z.cells.length = s /\ 0 <= n /\ n <= m /\ m * (tby P e : Int) <= 281474976710656 /\ m <= 4611686018427387904) kn (.own (16 * d) s 0 n.toNat) [(16 * d, ⟨e, s, List.replicate n.toNat z⟩)] := rfl
@[go_sem] theorem JwC (s : Nat) : JbS s [] = true := rfl
@[go_sem] theorem JuW (s : Nat) (x : AV) (xs : List AV) : JbS s (x :: xs) = (x.ok && x.cells.length == s && JbS s xs) := rfl
@[go_sem] theorem JBf (s x : Operand) (t' : TypeId) : appC P [s, x] [t, t'] E σ ka = need (appT P t t' (ev E x) = true) (appA P (tel P t) (ev E s) σ (srcC σ (ev E x)) ka) := rfl
def appB (P : Program) (e : TypeId) (id s n : Nat) (b : Option Blk) (z : Option AV) (s' : Nat) (xs : List AV) (K : Nat -> Nat -> Nat -> Blk -> Prop) : Prop := match b, z with
  | some b, some z => JgV (0 < tsz P e /\ z.ok = true /\ z.cells.length = tsz P e /\ s = tsz P e /\ b.sz = s /\ b.e = e /\ n <= b.es.length /\ s' = s /\ JbS s xs = true /\ (n + xs.length) * tby P e <= 140737488355328 /\ n + xs.length <= 4611686018427387904) K
        id s (n + xs.length) ⟨e, s, b.es.take n ++ xs⟩
  | _, _ => False
@[go_sem] theorem Jy9 (e id s n s' : Nat) (xs : List AV) : appA P (some e) (.own id s 0 n) σ (some (s', xs)) ka = appB P e id s n (σ id) (tzA P e) s' xs ka := rfl
@[go_sem] theorem JwS (e id s n s' : Nat) (b : Blk) (z : AV) (xs : List AV) : appB P e id s n (some b) (some z) s' xs ka =
    JgV (0 < tsz P e /\ z.ok = true /\ z.cells.length = tsz P e /\ s = tsz P e /\ b.sz = s /\ b.e = e /\ n <= b.es.length /\ s' = s /\ JbS s xs = true /\ (n + xs.length) * tby P e <= 140737488355328 /\ n + xs.length <= 4611686018427387904) ka
        id s (n + xs.length) ⟨e, s, b.es.take n ++ xs⟩ := rfl
@[go_sem] theorem JBh (t t' : TypeId) (s : Nat) (es : List AV) : appT P t t' (.sl s es) = (t' == t) := rfl
@[go_sem] theorem Jza (t t' : TypeId) (a b c d : Nat) : appT P t t' (.own a b c d) = (t' == t) := rfl
@[go_sem] theorem Jzb (t t' : TypeId) (s : ByteArray) : appT P t t' (.v (.string s)) = tstr P t' := rfl
@[go_sem] theorem JAZ (s : ByteArray) : srcC σ (.v (.string s)) = some (1, (bI s).map Y) := rfl
@[go_sem] theorem JC9 (s : Nat) (es : List AV) : srcC σ (.sl s es) = some (s, es) := rfl
def srcB (b : Option Blk) (s i n : Nat) : Option (Nat × List AV) := b.bind fun b => if b.sz = s /\ i + n <= b.es.length then some (s, (b.es.drop i).take n) else none
@[go_sem] theorem JAY (id s i n : Nat) : srcC σ (.own id s i n) = srcB (σ id) s i n := rfl
@[go_sem] theorem JyG (b : Blk) (s i n : Nat) : srcB (some b) s i n = if b.sz = s /\ i + n <= b.es.length then some (s, (b.es.drop i).take n) else none := rfl
@[go_sem] theorem JBg (d id s n : Nat) (b : Blk) : appK d K E σ id s n b = K (upd (JaT (isId id) E) d (.own id s 0 n)) (updS (Jaj (isId id) σ) id (b.kill (isId id))) := rfl
@[go_sem] theorem Jwf (id s i j : Nat) (v : AV) : Jhk P t (.ptr id s i j) v dst K E σ = stoB P t (σ id) id s i j v K (updO E dst (.v undef)) σ := rfl
@[go_sem] theorem JyJ (b : Blk) (id s i j : Nat) (v : AV) : stoB P t (some b) id s i j v K E σ = stoE P t b b.es[i]? id s i j v K E σ := rfl
@[go_sem] theorem JyK (b : Blk) (e : AV) (id s i j : Nat) (v : AV) : stoE P t b (some e) id s i j v K E σ =
    Jhx (b.sz = s /\ v.ok = true /\ v.cells.length = tsz P t /\ 0 < tsz P t /\ j + tsz P t <= s) K E (updS σ id ⟨b.e, b.sz, b.es.set i (setC e j v)⟩) := rfl
@[go_sem] theorem Jlc (e : AV) (j : Nat) (v : AV) : setC e j v = if j = 0 /\ v.cells.length = e.cells.length then v else .agg (e.cells.take j ++ v.cells ++ e.cells.drop (j + v.cells.length)) := rfl
@[go_sem] theorem Jw2 (d g : Nat) (caps caps' : List AV) (as bs : List AV) (E' : Env) (σ' : Jac) : Jjg S kd bi d (.clo g caps) as dst K Kb E σ E' σ' bs (.clo g caps') L =
    JmX (JaH caps') (Jkt S kd bi d g (AV.namesL allB (bs ++ caps')) ((bs ++ caps').map (res σ')) dst K E' σ' L) (bi = true /\ L) := rfl
@[go_sem] theorem JvB (A B : Prop) : JmX true A B = A := rfl
@[go_sem] theorem JtV (A B : Prop) : JmX false A B = B := rfl
@[go_sem] theorem Jw3 (d l : Nat) (f : AV) (as bs : List AV) (E' : Env) (σ' : Jac) : Jjg S kd bi d (.yld l) as dst K Kb E σ E' σ' bs f L = need (bi = true /\ l = S.yl /\ AV.namesL allB as = false) (S.Y as (E S.N) (yldK S dst Kb E σ)) := rfl
@[go_sem] theorem JxH (v : AV) (bl : List (Nat × Blk)) : impK (v, bl) dst K E σ = K (updO E dst v) (addS σ bl) := rfl
@[go_sem] theorem JDh (v g : AV) : yldK S dst K E σ v g = K (updO (upd E S.N g) dst v) σ := rfl
theorem JqG {d g : Nat} {b : Bool} {as : List AV} (r : AV) (h : Ev S.P g as r) (h1 : b = false \/ r.flat = true) (h2 : rlen r <= 16) (h4 : kd = true \/ r.dn = false) (h3 : impK (imp (16 * d) r) dst K E σ) : Jkt S kd bi d g b as dst K E σ L := .inl ⟨r, h, h1, h2, h4, h3⟩
theorem Jam {d g : Nat} {b : Bool} {as : List AV} (h : bi = true) (hl : L) : Jkt S kd bi d g b as dst K E σ L := .inr ⟨h, hl⟩
theorem Jab {c : Prop} {X Y : Env -> Jac -> Prop} {E' : Env} (h : c -> X E σ) (h' : ¬ c -> Y E' σ) : branch c X E Y E' σ := ⟨h, h'⟩
theorem Jbl {c : Prop} {X Y : Env -> Jac -> Prop} {E' : Env} (hc : c) (h : X E σ) : branch c X E Y E' σ := ⟨fun _ => h, fun hn => absurd hc hn⟩
theorem Jau {c : Prop} {X Y : Env -> Jac -> Prop} {E' : Env} (hc : ¬ c) (h : Y E' σ) : branch c X E Y E' σ := ⟨fun hn => absurd hn hc, fun _ => h⟩
attribute [go_sem] imp impL imp1 rlen AV.flat AV.flatL
section
variable {f : AV -> AV}
@[go_sem] theorem JCI (x : Value) : res σ (.v x) = .v x := rfl
@[go_sem] theorem Jyq (s : Nat) (es : List AV) : res σ (.sl s es) = .sl s es := rfl
@[go_sem] theorem Jyp (e : AV) (j : Nat) : res σ (.pt e j) = .pt e j := rfl
@[go_sem] theorem JCC : res σ .any = .any := rfl
@[go_sem] theorem res_mp (es : List AV) : res σ (.mp es) = .mp es := rfl
@[go_sem] theorem JCF (id s i n : Nat) : res σ (.own id s i n) = JfZ (resF 7 σ) (σ id) s i n := rfl
@[go_sem] theorem JCG (id s i n : Nat) : res σ (.ptr id s i n) = Jf0 (resF 7 σ) (σ id) s i n := rfl
@[go_sem] theorem JAL (id : Nat) : res σ (.mref id) = JfY (resF 7 σ) (σ id) := rfl
@[go_sem] theorem JCB (cs : List AV) : res σ (.agg cs) = .agg (resL (resF 7 σ) cs) := rfl
@[go_sem] theorem JCH (cs : List AV) : res σ (.tup cs) = .tup (resL (resF 7 σ) cs) := rfl
@[go_sem] theorem JCD (g : Nat) (cs : List AV) : res σ (.clo g cs) = .clo g (resL (resF 7 σ) cs) := rfl
variable {n : Nat}
@[go_sem] theorem resF_v (x : Value) : resF (n + 1) σ (.v x) = .v x := rfl
@[go_sem] theorem JCz (s : Nat) (es : List AV) : resF (n + 1) σ (.sl s es) = .sl s es := rfl
@[go_sem] theorem JCy (e : AV) (j : Nat) : resF (n + 1) σ (.pt e j) = .pt e j := rfl
@[go_sem] theorem JAG : resF (n + 1) σ .any = .any := rfl
@[go_sem] theorem JCx (es : List AV) : resF (n + 1) σ (.mp es) = .mp es := rfl
@[go_sem] theorem JAI (id s i m : Nat) : resF (n + 1) σ (.own id s i m) = JfZ (resF n σ) (σ id) s i m := rfl
@[go_sem] theorem JAJ (id s i m : Nat) : resF (n + 1) σ (.ptr id s i m) = Jf0 (resF n σ) (σ id) s i m := rfl
@[go_sem] theorem Jyo (id : Nat) : resF (n + 1) σ (.mref id) = JfY (resF n σ) (σ id) := rfl
@[go_sem] theorem JAF (cs : List AV) : resF (n + 1) σ (.agg cs) = .agg (resL (resF n σ) cs) := rfl
@[go_sem] theorem JAK (cs : List AV) : resF (n + 1) σ (.tup cs) = .tup (resL (resF n σ) cs) := rfl
@[go_sem] theorem JAH (g : Nat) (cs : List AV) : resF (n + 1) σ (.clo g cs) = .clo g (resL (resF n σ) cs) := rfl
@[go_sem] theorem JCA (cs : List AV) : resL f cs = if AV.namesL allB cs = true then cs.map f else cs := rfl
@[go_sem] theorem Jux (b : Blk) (s i n : Nat) : JfZ f (some b) s i n = if i + n <= b.es.length /\ b.sz = s then .sl s (((resL f b.es).drop i).take n) else .any := rfl
@[go_sem] theorem Juy (b : Blk) (s i n : Nat) : Jf0 f (some b) s i n = if b.sz = s then resE f b.es[i]? n else .any := rfl
@[go_sem] theorem Jyn (e : AV) (n : Nat) : resE f (some e) n = .pt (f e) n := rfl
@[go_sem] theorem Juw (b : Blk) : JfY f (some b) = if b.sz = 0 then .mp (resL f b.es) else .any := rfl
end
@[go_sem] theorem Jte (P : Program) (t : TypeId) (op : BinOp) (s : Nat) (es : List AV) (k : AV -> Prop) : binC P op t (.sl s es) (.v (.slice none 0 0)) k = Jeu op (.sl s es) (tel P t) k := rfl
@[go_sem] theorem Jsi (P : Program) (t : TypeId) (op : BinOp) (id s i n : Nat) (k : AV -> Prop) : binC P op t (.own id s i n) (.v (.slice none 0 0)) k = Jeu op (.own id s i n) (tel P t) k := rfl
theorem JlI (s : Nat) (es : List AV) : (AV.full (.sl s es) = true) = (0 < es.length) := by cases es <;> simp [AV.full]
theorem Jjw (id s i n : Nat) : (AV.full (.own id s i n) = true) = (0 < n) := by cases n <;> simp [AV.full]
@[go_sem] theorem JsI (s : Nat) (es : List AV) (q : Option TypeId) (k : AV -> Prop) : Jeu .eql (.sl s es) q k = Jao (0 < es.length /\ q.isSome = true) k (.v (.bool false)) := by simp only [Jeu, JlI]
@[go_sem] theorem JsJ (s : Nat) (es : List AV) (q : Option TypeId) (k : AV -> Prop) : Jeu .neq (.sl s es) q k = Jao (0 < es.length /\ q.isSome = true) k (.v (.bool true)) := by simp only [Jeu, JlI]
@[go_sem] theorem Jrj (id s i n : Nat) (q : Option TypeId) (k : AV -> Prop) : Jeu .eql (.own id s i n) q k = Jao (0 < n /\ q.isSome = true) k (.v (.bool false)) := by simp only [Jeu, Jjw]
@[go_sem] theorem Jrk (id s i n : Nat) (q : Option TypeId) (k : AV -> Prop) : Jeu .neq (.own id s i n) q k = Jao (0 < n /\ q.isSome = true) k (.v (.bool true)) := by simp only [Jeu, Jjw]
def rvC (P : Program) (E : Env) (σ : Jac) : List ResultVar -> List AV -> (List AV -> Prop) -> Prop
  | [], vs, K => K vs
  | .tmp t :: r, vs, K => rvC P E σ r (vs ++ [E t]) K
  | .cell t ty :: r, vs, K => JgP P σ ty (E t) fun v => rvC P E σ r (vs ++ [v]) K
theorem JfQ {σ : Jac} {a : AV} {K K' : List AV -> Nat -> Prop} (hK : ∀ cs j, K cs j -> K' cs j) (h : JbV σ a K) : JbV σ a K' := by
  unfold JbV at *
  split at h
  . exact hK _ _ h
  . obtain ⟨k, h1, h2, e, h3, h4⟩ := h; exact ⟨k, h1, h2, e, h3, hK _ _ h4⟩
  . exact h.elim
theorem JfI {σ : Jac} : ∀ (l : List ResultVar) {K K' : List AV -> Prop}, (∀ vs, K vs -> K' vs) -> rvals P E σ l K -> rvals P E σ l K'
  | [], _, _, hK, h => hK _ h
  | .tmp t :: r, _, _, hK, h => JfI r (fun _ hk => hK _ hk) h
  | .cell t ty :: r, _, _, hK, h => JfQ (fun _ _ ⟨v, hv, hr⟩ => ⟨v, hv, JfI r (fun _ hk => hK _ hk) hr⟩) h
theorem Jme {σ : Jac} : ∀ (l : List ResultVar) (vs : List AV) {K : List AV -> Prop}, rvC P E σ l vs K -> rvals P E σ l fun ws => K (vs ++ ws)
  | [], vs, K, h => by simpa [rvals, rvC] using h
  | .tmp t :: r, vs, K, h => by
    have := Jme r (vs ++ [E t]) h
    simpa [rvals] using this
  | .cell t ty :: r, vs, K, h => by
    obtain ⟨v, hv, hk⟩ := JgQ h
    have := Jme r (vs ++ [v]) hk
    refine JfQ (fun cs j hp => ⟨v, hp, JfI r (fun ws hw => ?_) this⟩) hv
    simpa using hw
@[go_sem] theorem JCQ (vs : List AV) (K : List AV -> Prop) : rvC P E σ [] vs K = K vs := rfl
@[go_sem] theorem JCR (t : Nat) (r : List ResultVar) (vs : List AV) (K : List AV -> Prop) : rvC P E σ (.tmp t :: r) vs K = rvC P E σ r (vs ++ [E t]) K := rfl
@[go_sem] theorem JAV (t : Nat) (ty : TypeId) (r : List ResultVar) (vs : List AV) (K : List AV -> Prop) : rvC P E σ (.cell t ty :: r) vs K = JgP P σ ty (E t) fun v => rvC P E σ r (vs ++ [v]) K := rfl
def retC (S : Sp) (fn : Func) (r : AV) : Exit -> Env -> Jac -> Prop
  | .normal => fun E σ => rvC S.P E σ fn.results.toList [] (retK σ fun r' => r' = r)
  | .ret => fun E σ => rvC S.P E σ fn.results.toList [] (retK σ fun r' => r' = r)
  | _ => fun _ _ => False
@[go_sem ↓] theorem Juz (fn : Func) (r : AV) : retC S fn r .normal E σ = rvC S.P E σ fn.results.toList [] (retK σ fun r' => r' = r) := rfl
@[go_sem ↓] theorem JAM (fn : Func) (r : AV) : retC S fn r .ret E σ = rvC S.P E σ fn.results.toList [] (retK σ fun r' => r' = r) := rfl
theorem JpE (fn : Func) (r : AV) (e : Exit) (E : Env) (σ : Jac) (h : retC S fn r e E σ) : retG S.P fn (fun vs _ σ => retK σ (· = r) vs) e E σ := by
  cases e <;> first | exact h.elim | exact Jme _ _ h
def JgE (σ : Jac) (p : Nat -> Bool) : List AV -> Prop
  | [] => True
  | v :: r => JbM σ p v /\ JgE σ p r
theorem JhE (p : Nat -> Bool) (vs : List AV) : (∀ v ∈ vs, JbM σ p v) ↔ JgE σ p vs := by
  induction vs with
  | nil => simp [JgE]
  | cons v vs ih => simp [JgE, <- ih]
variable {R : AV -> Prop}
theorem Jfg {vs : List AV} (h : Jaq vs = []) : topP vs = inL [] := by funext i; simp [topP, h, inL]
theorem Jm6 (a : AV) : AV.namesB (inL []) a = false := by rw [Jiz]; exact AV.namesB_none a
@[go_sem] theorem retK_v (x : Value) : retK σ R [.v x] = R (.v x) := by
  simp only [retK, JeQ, Jaq, AV.single, expo, Jfg (vs := [.v x]) rfl, Jco, JCI, eq_iff_iff, true_and]
  refine ⟨fun h => h.2, fun h => ⟨⟨by simp, fun v hv => ?_⟩, h⟩⟩
  simp only [L0p] at hv; subst hv; rfl
@[go_sem] theorem JCL (s : Nat) (es : List AV) : retK σ R [.sl s es] = R (.sl s es) := by
  simp only [retK, JeQ, Jaq, AV.single, expo, Jfg (vs := [.sl s es]) rfl, Jco, Jyq, eq_iff_iff, true_and]
  refine ⟨fun h => h.2, fun h => ⟨⟨by simp, fun v hv => ?_⟩, h⟩⟩
  simp only [L0p] at hv; subst hv; rfl
@[go_sem] theorem JCK (e : AV) (j : Nat) : retK σ R [.pt e j] = R (.pt e j) := by
  simp only [retK, JeQ, Jaq, AV.single, expo, Jfg (vs := [.pt e j]) rfl, Jco, Jyp, eq_iff_iff, true_and]
  refine ⟨fun h => h.2, fun h => ⟨⟨by simp, fun v hv => ?_⟩, h⟩⟩
  simp only [L0p] at hv; subst hv; rfl
@[go_sem] theorem JAN (cs : List AV) : retK σ R [.agg cs] = R (res σ (.agg cs)) := by
  simp only [retK, JeQ, Jaq, AV.single, expo, Jfg (vs := [.agg cs]) rfl, Jco, eq_iff_iff, true_and]
  refine ⟨fun h => h.2, fun h => ⟨⟨by simp, fun v hv => ?_⟩, h⟩⟩
  simp only [L0p] at hv; subst hv; exact Jm6 _
def JqX (b : Option Blk) (s n : Nat) (ptr : Bool) (σ : Jac) (p : Nat -> Bool) (K : AV -> Prop) : Prop := match b, ptr with
  | some k, false => Jao (k.sz = s /\ n <= k.es.length /\ AV.namesL p k.es = false) K (.new k.e s (resL (res (Jaj p σ)) (k.es.take n)))
  | some k, true => Jao (k.sz = s /\ AV.namesL p k.es = false) K (.nptr k.e s (resL (res (Jaj p σ)) k.es))
  | none, _ => False
theorem JrW (vs : List AV) (id : Nat) (h : Jaq vs = [id]) : topP vs = isId id := by
  funext i; simp only [topP, h, isId, List.contains_cons, List.contains_nil, L11]
@[go_sem] theorem JAP (id s n : Nat) : retK σ R [.own id s 0 n] = JqX (σ id) s n false σ (isId id) R := by
  simp only [retK, JeQ, Jaq, AV.single, expo, JrW [.own id s 0 n] id rfl, eq_iff_iff, true_and]; unfold JqX Jao
  cases hb : σ id with
  | none =>
    simp only [iff_false]
    intro ⟨⟨_, h⟩, _⟩
    have := h _ (by simp : AV.own id s 0 n ∈ [AV.own id s 0 n])
    simp [JbM, hb] at this
  | some k =>
    refine ⟨fun ⟨⟨_, h⟩, hR⟩ => ?_, fun ⟨h, hR⟩ => ⟨⟨by simp, fun v hv => ?_⟩, hR⟩⟩
    . have := h _ (by simp : AV.own id s 0 n ∈ [AV.own id s 0 n])
      simp only [JbM, hb] at this; obtain ⟨k', hk, h1, h2, h3⟩ := this
      cases hk; exact ⟨⟨h1, h2, h3⟩, hR⟩
    . simp only [L0p] at hv; subst hv
      exact ⟨k, hb, h⟩
@[go_sem] theorem JBC (b : Blk) (s n : Nat) (p : Nat -> Bool) : JqX (some b) s n false σ p R = Jao (b.sz = s /\ n <= b.es.length /\ AV.namesL p b.es = false) R (.new b.e s (resL (res (Jaj p σ)) (b.es.take n))) := rfl
@[go_sem] theorem JBD (b : Blk) (s n : Nat) (p : Nat -> Bool) : JqX (some b) s n true σ p R = Jao (b.sz = s /\ AV.namesL p b.es = false) R (.nptr b.e s (resL (res (Jaj p σ)) b.es)) := rfl
@[go_sem] theorem JAO (g : Nat) (caps : List AV) : retK σ R [.clo g caps] = need ((Jaq caps).Nodup /\ JgE σ (topP caps) caps) (R (.clo g (caps.map (expo σ (topP caps))))) := by
  show (((Jaq caps).Nodup /\ ∀ v ∈ caps, JbM σ (topP caps) v) /\ _) = _
  rw [JhE]; rfl
@[go_sem] theorem JAQ (a b : AV) (l : List AV) : retK σ R (a :: b :: l) = need ((Jaq (a :: b :: l)).Nodup /\ JgE σ (topP (a :: b :: l)) (a :: b :: l)) (R (.tup ((a :: b :: l).map (expo σ (topP (a :: b :: l)))))) := by
  have : retK σ R (a :: b :: l) = (JeQ σ (a :: b :: l) /\ R (.tup ((a :: b :: l).map (expo σ (topP (a :: b :: l)))))) := by
    unfold retK; split <;> first | rfl | simp_all
  rw [this]; unfold need JeQ; rw [JhE]
attribute [go_sem] JgE
@[go_sem] theorem JA2 (x : Value) (l : List AV) : Jaq (.v x :: l) = Jaq l := rfl
@[go_sem] theorem JyQ (s : Nat) (es l : List AV) : Jaq (.sl s es :: l) = Jaq l := rfl
@[go_sem] theorem Jwh (es l : List AV) : Jaq (.agg es :: l) = Jaq l := rfl
@[go_sem] theorem Jwj (id s n : Nat) (l : List AV) : Jaq (.own id s 0 n :: l) = id :: Jaq l := rfl
@[go_sem] theorem Jwk (id s : Nat) (l : List AV) : Jaq (.ptr id s 0 0 :: l) = id :: Jaq l := rfl
@[go_sem] theorem Jwi : Jaq [] = [] := rfl
@[go_sem] theorem JDb (l : List AV) (i : Nat) : topP l i = (Jaq l).contains i := rfl
@[go_sem] theorem exp1_v (x : Value) : JbM σ p (.v x) = True := by simp [JbM, AV.namesB]
@[go_sem] theorem JBB (s : Nat) (es : List AV) : JbM σ p (.sl s es) = True := by simp [JbM, AV.namesB]
@[go_sem] theorem Jzz (es : List AV) : JbM σ p (.agg es) = (AV.namesL p es = false) := rfl
def JtI (b : Option Blk) (s n : Nat) (p : Nat -> Bool) : Prop := match b with | some k => k.sz = s /\ n <= k.es.length /\ AV.namesL p k.es = false | none => False
@[go_sem] theorem JzA (id s n : Nat) : JbM σ p (.own id s 0 n) = JtI (σ id) s n p := by
  unfold JtI; simp only [JbM]; cases σ id <;> simp
@[go_sem] theorem Jvt (b : Blk) (s n : Nat) : JtI (some b) s n p = (b.sz = s /\ n <= b.es.length /\ AV.namesL p b.es = false) := rfl
def JtJ (b : Option Blk) (s : Nat) (p : Nat -> Bool) : Prop := match b with | some k => k.sz = s /\ AV.namesL p k.es = false | none => False
@[go_sem] theorem JzB (id s : Nat) : JbM σ p (.ptr id s 0 0) = JtJ (σ id) s p := by
  unfold JtJ; simp only [JbM]; cases σ id <;> simp
@[go_sem] theorem Jvu (b : Blk) (s : Nat) : JtJ (some b) s p = (b.sz = s /\ AV.namesL p b.es = false) := rfl
def JtL (b : Option Blk) (s : Nat) (σ : Jac) (p : Nat -> Bool) : AV := match b with | some k => .nptr k.e s (resL (res (Jaj p σ)) k.es) | none => .any
@[go_sem] theorem JzE (id s : Nat) : expo σ p (.ptr id s 0 0) = JtL (σ id) s σ p := by unfold JtL; simp only [expo]; cases σ id <;> rfl
@[go_sem] theorem Jvw (b : Blk) (s : Nat) : JtL (some b) s σ p = .nptr b.e s (resL (res (Jaj p σ)) b.es) := rfl
@[go_sem] theorem expo_v (x : Value) : expo σ p (.v x) = .v x := rfl
@[go_sem] theorem JBF (s : Nat) (es : List AV) : expo σ p (.sl s es) = .sl s es := rfl
@[go_sem] theorem JzC (es : List AV) : expo σ p (.agg es) = res (Jaj p σ) (.agg es) := rfl
def JtK (b : Option Blk) (s n : Nat) (σ : Jac) (p : Nat -> Bool) : AV := match b with | some k => .new k.e s (resL (res (Jaj p σ)) (k.es.take n)) | none => .any
@[go_sem] theorem JzD (id s n : Nat) : expo σ p (.own id s 0 n) = JtK (σ id) s n σ p := by unfold JtK; simp only [expo]; cases σ id <;> rfl
@[go_sem] theorem Jvv (b : Blk) (s n : Nat) : JtK (some b) s n σ p = .new b.e s (resL (res (Jaj p σ)) (b.es.take n)) := rfl
end
def Jlr (I : Nat -> Env -> Jac -> Prop) (n : Nat) (E : Env) (σ : Jac) : Prop := ∃ m, m < n /\ I m E σ
theorem Jag {B : (Exit -> Env -> Jac -> Prop) -> Env -> Jac -> Prop} {Q : Exit -> Env -> Jac -> Prop} {E : Env} {σ : Jac} (I : Nat -> Env -> Jac -> Prop) (n : Nat) (h0 : I n E σ)
    (hs : ∀ n E σ, I n E σ -> B (Jc4 (Jlr I n) Q) E σ) : Jo6 B Q E σ := ⟨I, ⟨n, h0⟩, hs⟩
theorem Jae {I : Nat -> Env -> Jac -> Prop} {n : Nat} {E : Env} {σ : Jac} (m : Nat) (h : m < n) (hI : I m E σ) : Jlr I n E σ := ⟨m, h, hI⟩
@[go_sem] theorem sp_P (P : Program) (f N : Nat) : (spOf P f N).P = P := rfl
@[go_sem] theorem sp_b (P : Program) (f N : Nat) : (spOf P f N).b = 131072 * (f + 1) := rfl
@[go_sem ↓] theorem sp_bad (P : Program) (f N id : Nat) : (spOf P f N).bad id = false := rfl
@[go_sem] theorem sp_N (P : Program) (f N : Nat) : (spOf P f N).N = N := rfl
@[go_sem] theorem sp_pin (P : Program) (f N id : Nat) : (spOf P f N).pin id = false := rfl
theorem Jai {P : Program} {f : FuncId} {fn : Func} {c : Code} {args : List AV} {r : AV} (hf : P.funcs[f]? = some fn) (hb : fn.body = some c) (hok : fnQ P fn c = true) (hmo : P.follows .mixedOrders = true)
    (hlen : args.length <= fn.ntmps) (h : awpC (spOf P f fn.ntmps) c (retC (spOf P f fn.ntmps) fn r) (JbW args) fun _ => none) : Ev P f args r :=
  Jol hf hb (Jot hok) hmo hlen (JbI (S := spOf P f fn.ntmps) (fun _ _ _ _ _ hk => (show False from hk).elim) c (JpE fn r) h)
end Go.Vai

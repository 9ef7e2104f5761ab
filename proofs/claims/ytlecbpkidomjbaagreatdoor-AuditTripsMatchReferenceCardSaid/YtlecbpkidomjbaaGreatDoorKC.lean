/- A heap-free account of the walk, third part -/
import Derived.Test.YtlecbpkidomjbaaGreatDoorKB
set_option linter.all false
namespace Go.Vai
open Go.RowKit
variable {P : Program} {C : Fx} {w : World} {ρ : Nat -> Option Nat} {Im : Nat -> Prop} {M : Str} {E : Env} {σ : Jac} {a : Act}
abbrev Word := List (List AV) -> Bool -> Str -> World -> Prop
def JoV (G : Word) : Prop := ∀ b s, JaQ λ _ => G b s
def JoR (P : Program) (l : Nat) (L : Nat -> Prop) (G : Word) : Prop :=
 ∀ x f M (w : World) (i : Nat -> Prop) (vs : List Value), G (x :: f) false M w -> (∀ b, i b -> b < w.heap.size /\ ¬ M.m b) -> (∀ b, M.m b -> b < w.heap.size) -> (∀ b, M.j b -> i b) -> (∀ b, i b -> L b) -> JiF w i x vs -> ∀ n,
  ∃ q h c d, (Instr.yield l vs.toArray).run P w = .ok (.round l q h c d) w /\ RoundIn (FW none) n P l q h c d w λ e p =>
   ∃ b o, e = .returned (.bool b) /\ G f (!b) o p /\ (∀ k, o.m k -> k < p.heap.size /\ (M.m k \/ w.heap.size <= k)) /\ (∀ k, o.j k -> i k) /\ Ext w M.m p
def SOK (P : Program) (g : FuncId) (args : List AV) (σ : Jac) (xs : List (List AV)) : Prop :=
 (∀ i w, (callFunc g i).run P w = .ok (.enter g i) w) /\
 ∀ (w : World) (d : Nat -> Prop) (h : Nat -> Option Nat) (vs : List Value) (l : Nat) (G : Word) (f : Str), JoV G -> Inv w h d σ -> GOK w d -> Reps w h d args vs ->
  (∀ b, f.m b -> b < w.heap.size /\ (∀ id, h id ≠ some b) /\ ¬ d b) -> (∀ b, f.j b -> d b) -> JoR P l (λ b => d b \/ w.heap.size <= b) G -> G xs false f w ->
  Calls P g (.func (.yield l) #[] #[] :: vs).toArray w λ e k => ∃ y c s o, e = .returned y /\ (c = [] \/ s = true) /\ G c s o k /\ Ext w (λ b => (∃ id, h id = some b) \/ f.m b) k
def encG (xs : List (List AV)) : Bool -> AV
 | false => .tup (xs.map .tup)
 | true => .any
def seqY (args : List AV) (g : AV) (K : AV -> AV -> Prop) : Prop := match g with
 | .tup (.tup x :: b) => args = x /\ K (.v (.bool true)) (.tup b) /\ K (.v (.bool false)) .any
 | _ => False
def spY (P : Program) (f : FuncId) (N l : Nat) : Sp := { P, N, b := 131072 * (f + 1), pin := λ _ => false, yl := l, Y := seqY }
theorem Je6 {a : AV} (h : AV.namesB allB a = false) (p : Nat -> Bool) : AV.namesB p a = false := by
 cases hp : AV.namesB p a with
 | false => rfl
 | true =>
  have u : ∀ a : AV, AV.namesB p a = true -> ∃ id, Names a id := by
   intro a
   suffices h : ∀ n (a : AV), SizeOf.sizeOf a < n -> AV.namesB p a = true -> ∃ id, Names a id from h _ a (L27 _)
   intro n
   induction n with
   | zero => intro a h; omega
   | succ n y =>
    intro a t k
    have j : ∀ d : List AV, (∀ c ∈ d, SizeOf.sizeOf c < n) -> AV.namesL p d = true -> ∃ c ∈ d, ∃ id, Names c id := λ d q w => by
     obtain ⟨c, f, l⟩ := (AV.namesL_iff p d).1 w
     exact ⟨c, f, y c (q c f) l⟩
    cases a with
    | own i s o m => exact ⟨i, .own ..⟩
    | ptr i s o m => exact ⟨i, .ptr ..⟩
    | mref i => exact ⟨i, .mref ..⟩
    | agg d =>
     obtain ⟨c, f, id, b⟩ := j d (λ c f => by have := L1q f; simp at t; omega) k
     exact ⟨id, .agg d c id f b⟩
    | tup d =>
     obtain ⟨c, f, id, b⟩ := j d (λ c f => by have := L1q f; simp at t; omega) k
     exact ⟨id, .tup d c id f b⟩
    | clo g d =>
     obtain ⟨c, f, id, b⟩ := j d (λ c f => by have := L1q f; simp at t; omega) k
     exact ⟨id, .clo g d c id f b⟩
    | _ => simp [AV.namesB] at k
  obtain ⟨id, b⟩ := u a hp
  have := AV.namesB_of allB b rfl
  rw [h] at this; cases this
theorem JlS {x : AV} {l : List AV} (h : AV.namesL allB (x :: l) = false) : AV.namesB allB x = false /\ AV.namesL allB l = false := by
 simpa [AV.namesL] using h
theorem Jnh {f : FuncId} {fn : Func} {c : Code} {args : List AV} {xs : List (List AV)} {B O : Nat -> Bool} (hf : P.funcs[f]? = some fn) (hb : fn.body = some c) (h1 : JaX P fn.ntmps B c = true) (h2 : fn.results.toList.all (ResultVar.low fn.ntmps) = true) (h3 : (fn.name == "runtime.NumGoroutine") = false) (h4 : fn.ntmps <= 99999) (hmo : P.follows .mixedOrders = true)
 (hlen : args.length < fn.ntmps) (hxs : AV.namesL allB (xs.map .tup) = false) (hold : ∀ id k, σ id = some k -> O id = true)
 (h : ∀ l, awp ({ P, N := fn.ntmps, b := 131072 * (f + 1), pin := fun _ => false, yl := l, Y := seqY, bad := B, old := O } : Sp) c (retG P fn fun _ E _ => E fn.ntmps = .tup [] \/ E fn.ntmps = .any) (upd (Jct (.yld l :: args)) fn.ntmps (encG xs false)) σ) : SOK P f args σ xs := by
 refine ⟨enters hf hb h3, fun w Im ρ vs l G M0 hG hinv hgk hargs hM hJ hans hG0 => ?_⟩
 let C : Fx := { w0 := w, X0 := fun b => (∃ id, ρ id = some b) \/ M0.m b, Im0 := Im, G := fun g M w => ∃ ys s, g = encG ys s /\ AV.namesL allB (ys.map .tup) = false /\ G ys s M w, N := fn.ntmps, rd := none, pin := fun _ => none, J0 := Im, R0 := fun id b => ρ id = some b }
 have H : Holds ({ P, N := fn.ntmps, b := 131072 * (f + 1), pin := fun _ => false, yl := l, Y := seqY, bad := B, old := O } : Sp) C := by
  refine ⟨rfl, ?_, ?_, hmo, fun _ _ hp => (by cases hp), fun _ hp => (by cases hp), h4, fun _ => rfl, fun id b _ hb => ?_, hgk, fun b hb => ⟨fun hx => ?_, hinv.low b (hgk.im hb)⟩, (fun h => by cases h)⟩
  rotate_left 2
  . cases hs : σ id with
    | none => exact absurd hs (hinv.live id b hb)
    | some k => exact hold id k hs
  . rcases hx with ⟨id, hid⟩ | hx
    . exact hinv.apart id b hid (hgk.im hb)
    . exact (hM b hx).2.2 (hgk.im hb)
  . rintro g M w w' ⟨ys, s, e, hn, hg⟩ hb hs ho ht hout
    exact ⟨ys, s, e, hn, hG ys s (.v undef) M w w' hg hb hs ho ht hout⟩
  . intro as g K hY w1 Im1 M1 vs1 hI hM1 hJ1 hL hvs ⟨ys, s, e, hn, hg⟩ n
    subst e
    cases s with
    | true => exact hY.elim
    | false =>
     cases ys with
     | nil => exact hY.elim
     | cons x rest =>
      obtain ⟨rfl, hK1, hK2⟩ := hY
      obtain ⟨hnx, hnr⟩ := JlS hn
      obtain ⟨fn', tmps, assign, body, hr, hround⟩ := hans as rest M1 w1 Im1 vs1 hg hI hM1 hJ1 hL hvs n
      refine ⟨fn', tmps, assign, body, hr, hround.mono ?_⟩
      rintro e w' ⟨b, M', rfl, hg', hm, hj, hx⟩
      cases b with
      | true => exact ⟨_, .tup (rest.map .tup), M', rfl, ⟨true, rfl⟩, hK1, fun p => Je6 (a := .tup (rest.map .tup)) hnr p, ⟨rest, false, rfl, hnr, hg'⟩, hm, hj, hx⟩
      | false => exact ⟨_, .any, M', rfl, ⟨false, rfl⟩, hK2, fun p => rfl, ⟨rest, true, rfl, hnr, hg'⟩, hm, hj, hx⟩
 have hyl : Reps w ρ Im (.yld l :: args) (.func (.yield l) #[] #[] :: vs) := by
  refine ⟨by simp [hargs.1], fun j c y hc hy => ?_⟩
  cases j with
  | zero => simp at hc hy; subst hc; subst hy; exact .im _ _ (.yld l)
  | succ j => exact hargs.2 j c y (by simpa using hc) (by simpa using hy)
 have henv : JaK w ρ Im (upd (Jct (.yld l :: args)) fn.ntmps (encG xs false)) ((.func (.yield l) #[] #[] :: vs).toArray ++ Array.replicate (fn.ntmps - (.func (.yield l) #[] #[] :: vs).toArray.size) undef) := fun t y hy => by
  have hlt := (L0m.1 hy).1
  have hsz : ((Value.func (.yield l) #[] #[] :: vs).toArray ++ Array.replicate (fn.ntmps - (.func (.yield l) #[] #[] :: vs).toArray.size) undef).size = fn.ntmps := by
   have := hargs.1; simp; omega
  rw [hsz] at hlt
  simp only [upd]; rw [if_neg (by omega)]
  exact JiP hyl t y hy
 refine Jft (E0 := upd (Jct (.yld l :: args)) fn.ntmps (encG xs false)) (S := { P, N := fn.ntmps, b := 131072 * (f + 1), pin := fun _ => false, yl := l, Y := seqY, bad := B, old := O }) (C := C) (vs := .func (.yield l) #[] #[] :: vs) (σ0 := σ) (ρ0 := ρ) (Im0 := Im) (M0 := M0) H rfl hf hb rfl h1 h2 ?_ (h l) fun E σ' tm w' ρ' I M us ys hk hrest hr => ?_
 . refine ⟨hinv, henv, (?_ : _ = fn.ntmps), Ext.refl _ _, fun i b hi => .inl ⟨.inl ⟨i, hi⟩, hi⟩, fun b hb => .inl hb, fun p => ?_, ?_, hJ, fun b hb => ⟨(hM b hb).1, (hM b hb).2.1, (hM b hb).2.2, .inl (.inr hb)⟩, fun l r hr => (by cases hr), .nil, fun d hd => (by cases hd), fun b hb => ?_, fun id b hb => (by cases hb), fun b hb => hb⟩
   . have := hargs.1; simp; omega
   . show AV.namesB p (upd (Jct (.yld l :: args)) fn.ntmps (encG xs false) fn.ntmps) = false
     rw [Jnn]; exact Je6 (a := .tup (xs.map .tup)) hxs p
   . show ∃ ys s, upd (Jct (.yld l :: args)) fn.ntmps (encG xs false) fn.ntmps = encG ys s /\ _
     rw [Jnn]; exact ⟨xs, false, rfl, hxs, hG0⟩
   . rcases hb with ⟨r, hr⟩ | hd
     . cases hr
     . cases hd
 . obtain ⟨zs, s, e, _, hg⟩ := hrest.g
   refine ⟨_, zs, s, M, rfl, ?_, hg, hrest.ext⟩
   have e : E fn.ntmps = encG zs s := e
   rw [e] at hk
   cases s with
   | true => exact .inr rfl
   | false =>
    rcases hk with hk | hk
    . refine .inl ?_
      simp only [encG, AV.tup.injEq, L29] at hk; exact hk
    . cases hk
theorem JoF {f : FuncId} {b : Func} {c : Code} {args : List AV} {xs : List (List AV)} (t : P.funcs[f]? = some b) (s : b.body = some c) (j : fnOK P b c = true) (i : P.follows .mixedOrders = true)
 (d : args.length < b.ntmps) (k : AV.namesL allB (xs.map .tup) = false)
 (h : ∀ l, awp (spY P f b.ntmps l) c (retG P b λ _ E _ => E b.ntmps = .tup [] \/ E b.ntmps = .any) (upd (Jct (.yld l :: args)) b.ntmps (encG xs false)) σ) : SOK P f args σ xs := by
 obtain ⟨m, o, p, q⟩ := Jkb j
 exact Jnh t s m o p q i d k (λ _ _ _ => rfl) h
variable {P : Program} {C : Fx} {w w' : World} {ρ : Nat -> Option Nat} {Im : Nat -> Prop} {M : Str} {E : Env} {σ : Jac} {a : Act}
structure Core (C : Fx) (E : Env) (σ : Jac) (a : Act) (w : World) (ρ : Nat -> Option Nat) (Im : Nat -> Prop) (M : Str) : Prop where
 inv : Inv w ρ Im σ
 env : JaK w ρ Im E a.tmps
 size : a.tmps.size = C.N
 rng : ∀ id b, ρ id = some b -> (C.X0 b /\ C.R0 id b) \/ C.w0.heap.size <= b
 im : ∀ b, Im b -> C.Im0 b \/ C.w0.heap.size <= b
 gh : ∀ p, AV.namesB p (E C.N) = false
 g : C.G (E C.N) M w
 js : ∀ b, M.j b -> Im b
 ms : ∀ b, M.m b -> b < w.heap.size /\ (∀ id, ρ id ≠ some b) /\ ¬ Im b /\ (C.X0 b \/ C.w0.heap.size <= b)
 rd : ∀ l r, C.rd = some (l, r) -> w.heap[l]? = some (.loop r)
 nodup : a.defers.Nodup
 df : ∀ d ∈ a.defers, ∃ D, d = stamp D /\ w.heap[D]? = some (.deferred (some [])) /\ C.w0.heap.size <= D
 bk : ∀ b, C.book a b -> (∀ id, ρ id ≠ some b) /\ ¬ Im b /\ ¬ M.m b
 pin : ∀ id ob, C.pin id = some ob -> ρ id = ob
 j0 : ∀ b, C.J0 b -> Im b
theorem Wit.core (h : Wit C E σ a w ρ Im M) : Core C E σ a w ρ Im M := ⟨h.inv, h.env, h.size, h.rng, h.im, h.gh, h.g, h.js, h.ms, h.rd, h.nodup, h.df, h.bk, h.pin, h.j0⟩
theorem Core.wit (h : Core C E σ a w ρ Im M) (b : Ext C.w0 C.X0 w) : Wit C E σ a w ρ Im M := ⟨h.inv, h.env, h.size, b, h.rng, h.im, h.gh, h.g, h.js, h.ms, h.rd, h.nodup, h.df, h.bk, h.pin, h.j0⟩
theorem Inv.carry (h : Inv w ρ Im σ) (t : ∀ k, (∃ id, ρ id = some k) \/ Im k -> w'.heap[k]? = w.heap[k]?) (D : w.heap.size <= w'.heap.size) : Inv w' ρ Im σ := by
 have s : ∀ {v : AV} {y : Value}, Rep w ρ Im v y -> Rep w' ρ Im v y := λ {v y} q =>
  Rep.mono (w := w) (w' := w') (λ _ h => h) (λ b z => t b (.inr z)) q λ i _ => ⟨rfl, λ b l d e p => ⟨d, by rw [t b (.inl ⟨i, l⟩)]; exact p, rfl⟩⟩
 exact ⟨h.nil, λ i k b B l F => by
  obtain ⟨o, u, f, C, p⟩ := h.map i k b B l F
  exact ⟨o, u, by rw [t b (.inl ⟨i, l⟩)]; exact f, C, λ i m I => by obtain ⟨v, E, q⟩ := p i m I; exact ⟨v, E, s q⟩⟩,
  λ i k b B l F => by
   obtain ⟨d, f, C, D, p⟩ := h.blk i k b B l F
   exact ⟨d, by rw [t b (.inl ⟨i, l⟩)]; exact f, C, D, λ i e j c H A => by obtain ⟨v, E, G, q⟩ := p i e j c H A; exact ⟨v, E, G, s q⟩⟩,
  h.inj, h.live, h.apart, λ b z => L0Q (h.low b z) D⟩
theorem Core.bklt (h : Core C E σ a w ρ Im M) {b : Nat} (d : C.book a b) : b < w.heap.size := by
 rcases d with ⟨r, i⟩ | f
 . exact (L0m.1 (h.rd b r i)).1
 . obtain ⟨D, e, c, _⟩ := h.df _ f
   rw [JdS e]; exact (L0m.1 c).1
theorem Core.carry (B : JaQ C.G) (h : Core C E σ a w ρ Im M) (f : ∀ k, (∃ id, ρ id = some k) \/ Im k \/ M.m k \/ C.book a k -> w'.heap[k]? = w.heap[k]?) (p : w.heap.size <= w'.heap.size)
 (L : w'.os = w.os) (N : w'.tape = w.tape) (j : w'.output = w.output) : Core C E σ a w' ρ Im M where
 inv := h.inv.carry (λ k c => f k (by rcases c with h | h <;> simp [h])) p
 env := λ t y O => Rep.mono (w := w) (w' := w') (λ _ h => h) (λ b F => f b (.inr (.inl F))) (h.env t y O) λ i _ => ⟨rfl, λ b I o e H => ⟨o, by rw [f b (.inl ⟨i, I⟩)]; exact H, rfl⟩⟩
 size := h.size
 rng := h.rng
 im := h.im
 gh := h.gh
 g := B _ _ _ _ h.g (λ k c => f k (by rcases c with c | c; exact .inr (.inr (.inl c)); exact .inr (.inl (h.js k c)))) p L N j
 js := h.js
 ms := λ b K => by obtain ⟨u, z⟩ := h.ms b K; exact ⟨L0Q u p, z⟩
 rd := λ l r s => by rw [f l (.inr (.inr (.inr (.inl ⟨r, s⟩))))]; exact h.rd l r s
 nodup := h.nodup
 df := λ d q => by
  obtain ⟨D, e, A, J⟩ := h.df d q
  exact ⟨D, e, by rw [f D (.inr (.inr (.inr (.inr (e ▸ q)))))]; exact A, J⟩
 bk := h.bk
 pin := h.pin
 j0 := h.j0
mutual
def AV.ownB : AV -> Bool
 | .own _ _ _ _ => true
 | .agg b => AV.ownL b
 | .tup b => AV.ownL b
 | .clo _ b => AV.ownL b
 | _ => false
def AV.ownL : List AV -> Bool
 | [] => false
 | c :: b => AV.ownB c || AV.ownL b
end
theorem AV.ownL_mem {cs : List AV} (h : AV.ownL cs = false) : ∀ c ∈ cs, AV.ownB c = false := by
 induction cs with
 | nil => simp
 | cons x cs ih =>
  simp only [AV.ownL, L1y] at h
  intro c hc; rcases L0q.1 hc with rfl | hc
  . exact h.1
  . exact ih h.2 c hc
def fade (nm : Nat -> Bool) (a : AV) : AV := if (a.kill λ i => !nm i).ownB then .any else a.kill λ i => !nm i
def Jev (b : Nat -> Bool) (E : Env) : Env := λ t => fade b (E t)
theorem Jh1 {b : Nat -> Bool} {a : AV} {id : Nat} (h : Names (fade b a) id) : b id = true /\ Names a id := by
 unfold fade at h
 split at h
 . cases h
 . obtain ⟨c, d⟩ := AV.kill_names _ a id h; exact ⟨by simpa using d, c⟩
theorem JmC (b : Nat -> Bool) (a : AV) : (fade b a).ownB = false := by
 unfold fade; split
 . rfl
 . rename_i h; simpa using h
theorem Rep.fade {b : Nat -> Bool} {a : AV} {y : Value} (h : Rep w ρ Im a y) : Rep w ρ Im (Vai.fade b a) y := by
 unfold Vai.fade; split
 . exact .im _ _ (.any _)
 . exact h.kill _
theorem JeZ {nm : Nat -> Bool} {a : AV} (h : ∀ p, AV.namesB p a = false) : fade nm a = a := by
 have hk : a.kill (λ i => !nm i) = a := Jcv (h _)
 unfold fade; rw [hk]
 have : a.ownB = false := by
  have h1 := h allB
  suffices hh : ∀ n (a : AV), SizeOf.sizeOf a < n -> AV.namesB allB a = false -> a.ownB = false from hh _ a (L27 _) h1
  intro n
  induction n with
  | zero => intro a h; omega
  | succ n ih =>
   intro a hs hn
   have lst : ∀ cs : List AV, (∀ c ∈ cs, SizeOf.sizeOf c < n) -> AV.namesL allB cs = false -> AV.ownL cs = false := by
    intro cs
    induction cs with
    | nil => intro _ _; rfl
    | cons c cs ihl =>
     intro hcs hl
     simp only [AV.namesL, L1y] at hl; simp only [AV.ownL, L1y]
     exact ⟨ih c (hcs c (by simp)) hl.1, ihl (λ c hc => hcs c (by simp [hc])) hl.2⟩
   cases a with
   | own i s o m => simp [AV.namesB, allB] at hn
   | agg cs => exact lst cs (λ c hc => by have := L1q hc; simp at hs; omega) hn
   | tup cs => exact lst cs (λ c hc => by have := L1q hc; simp at hs; omega) hn
   | clo g cs => exact lst cs (λ c hc => by have := L1q hc; simp at hs; omega) hn
   | _ => rfl
 rw [this]; rfl
theorem Rep.stay {t : Nat -> Option Nat} {m : Nat -> Prop} (A : ∀ b, Im b -> m b) (B : ∀ b, Im b -> w'.heap[b]? = w.heap[b]?) {a : AV} {y : Value} (h : Rep w ρ Im a y) (l : a.ownB = false) (f : ∀ id, Names a id -> t id = ρ id) : Rep w' t m a y := by
 induction h with
 | im a y h => exact .im a y (h.mono A B)
 | agg k ys o z _ s => exact .agg k ys o z λ j c y d q => s j c y d q (AV.ownL_mem l c (L02 d)) λ id p => f id (.agg k c id (L02 d) p)
 | tup k ys o _ s => exact .tup k ys o λ j c y d q => s j c y d q (AV.ownL_mem l c (L02 d)) λ id p => f id (.tup k c id (L02 d) p)
 | clo g k ys o _ s => exact .clo g k ys o λ j c y d q => s j c y d q (AV.ownL_mem l c (L02 d)) λ id p => f id (.clo g k c id (L02 d) p)
 | ownNil => cases l
 | own => cases l
 | ownAt => cases l
 | ptr id D i j b u C => exact .ptr id D i j b (by rw [f id (.ptr ..)]; exact u) C
 | mref id b u => exact .mref id b (by rw [f id (.mref ..)]; exact u)
def Jdq (E : Env) (ps : List Nat) (x : List AV) : Env := (ps.zip x).foldl (λ E p => upd E p.1 p.2) E
theorem JkR {N : Nat} : ∀ (ps : List Nat) (x : List AV) (vs : List Value) (E : Env) (tm : Array Value), JaK w ρ Im E tm -> JiF w Im x vs -> tm.size = N -> 
 JaK w ρ Im (Jdq E ps x) ((ps.zip vs).foldl (λ tm (t, v) => tm.setIfInBounds t v) tm) /\ ((ps.zip vs).foldl (λ tm (t, v) => tm.setIfInBounds t v) tm).size = N
 | [], x, vs, E, tm, h, _, f => ⟨by simpa [Jdq] using h, by simpa using f⟩
 | p :: ps, [], vs, E, tm, h, b, f => by
  have : vs = [] := L0T (by have := b.1; simpa using this.symm)
  subst this; exact ⟨by simpa [Jdq] using h, by simpa using f⟩
 | p :: ps, c :: x, [], E, tm, h, b, f => by have := b.1; simp at this
 | p :: ps, c :: x, v :: vs, E, tm, h, b, f => by
  have i : JaK w ρ Im (upd E p c) (tm.setIfInBounds p v) := JaK.put (dst := some p) (tm := { tmps := tm, defers := [] }) h (.im _ _ (b.2 0 c v rfl rfl))
  exact JkR ps x vs (upd E p c) (tm.setIfInBounds p v) i ⟨by simpa using b.1, λ j d y k l => b.2 (j + 1) d y (by simpa using k) (by simpa using l)⟩ (by simpa using f)
theorem JkQ {N : Nat} : ∀ (ps : List Nat) (x : List AV) (E : Env), (∀ p ∈ ps, p < N) -> Jdq E ps x N = E N
 | [], x, E, _ => by simp [Jdq]
 | p :: ps, [], E, _ => by simp [Jdq]
 | p :: ps, c :: x, E, h => by
  have := JkQ (N := N) ps x (upd E p c) λ q b => h q (by simp [b])
  simp only [Jdq, List.zip_cons_cons, L1m] at this ⊢
  rw [this]; simp only [upd]; rw [if_neg (by have := h p (by simp); omega)]
variable {P : Program} {C : Fx} {w w' : World} {ρ : Nat -> Option Nat} {Im : Nat -> Prop} {M : Str} {E : Env} {σ : Jac} {a : Act}
def spR (S : Sp) (d : Nat) (c : Nat -> Bool) : Sp := { P := S.P, N := S.N, b := d, pin := c, rd := true, yl := 0, Y := λ _ _ _ => False, bad := S.bad }
def rQ (b : Nat -> Bool) (Q : Exit -> Env -> Jac -> Prop) (E0 : Env) (I : Jac -> Prop) : Exit -> Env -> Jac -> Prop
 | .normal => λ _ c => ∃ p : Nat -> Bool, (∀ id, b id = true -> p id = false) /\ I (Jao p c)
 | .ret => λ _ c => ∃ p : Nat -> Bool, (∀ id, b id = true -> p id = false) /\ Q .ret E0 (Jao p c)
 | .exit i => λ _ c => ∃ p : Nat -> Bool, (∀ id, b id = true -> p id = false) /\ Q (.exit i) E0 (Jao p c)
 | _ => λ _ _ => False
def Jsq : Exit -> Env -> Jac -> Prop := λ _ _ _ => False
def only (q : Nat -> Bool) (σ : Jac) : Jac := λ id => if q id then σ id else none
theorem Inv.only {q : Nat -> Bool} (h : Inv w ρ Im σ) (I : ∀ id k, σ id = some k -> q id = true -> AV.namesL (λ i => !q i) k.es = false) : Inv w (killR (λ i => !q i) ρ) Im (Vai.only q σ) where
 nil := λ i k d l => by
  simp only [Vai.only] at d; split at d
  . rename_i f; rw [JaF ρ (by simp [f])] at l; exact h.nil i k d l
  . cases d
 map := λ i k b d l G => by
  simp only [Vai.only] at d; split at d
  . rename_i f
    rw [JaF ρ (by simp [f])] at l
    obtain ⟨p, y, B, D, C⟩ := h.map i k b d l G
    refine ⟨p, y, B, D, λ j m L => ?_⟩
    obtain ⟨v, J, E⟩ := C j m L
    refine ⟨v, J, E.killR λ id o => ?_⟩
    cases t : (!q id) with
    | false => rfl
    | true =>
     have := (AV.namesL_iff (λ i => !q i) k.es).2 ⟨_, L02 J, AV.namesB_of (λ i => !q i) (.tup _ v id (by simp) o) t⟩
     rw [I i k d f] at this; cases this
  . cases d
 blk := λ i k b d l G => by
  simp only [Vai.only] at d; split at d
  . rename_i f
    rw [JaF ρ (by simp [f])] at l
    obtain ⟨z, B, D, u, C⟩ := h.blk i k b d l G
    refine ⟨z, B, D, u, λ N e j c H s => ?_⟩
    obtain ⟨x, M, A, F⟩ := C N e j c H s
    refine ⟨x, M, A, F.killR λ id o => ?_⟩
    cases t : (!q id) with
    | false => rfl
    | true =>
     have := (AV.namesL_iff (λ i => !q i) k.es).2 ⟨e, L02 H, AV.namesB_of (λ i => !q i) (Jbk (L02 s) o) t⟩
     rw [I i k d f] at this; cases this
  . cases d
 inj := λ i j b A K => h.inj i j b (Jae A).2 (Jae K).2
 live := λ i b l u => by
  obtain ⟨t, l⟩ := Jae l
  simp only [Vai.only] at u
  rw [if_pos (by simpa using t)] at u
  exact h.live i b l u
 apart := λ i b l => h.apart i b (Jae l).2
 low := h.low
theorem Reps.only {q : Nat -> Bool} {vs : List AV} {ys : List Value} (h : Reps w ρ Im vs ys) (f : AV.namesL (λ i => !q i) vs = false) : Reps w (killR (λ i => !q i) ρ) Im vs ys :=
 ⟨h.1, λ j c y d k => (h.2 j c y d k).killR λ id b => by
  cases hp : (!q id) with
  | false => rfl
  | true =>
   have := (AV.namesL_iff (λ i => !q i) vs).2 ⟨c, L02 d, AV.namesB_of (λ i => !q i) b hp⟩
   rw [f] at this; cases this⟩
structure InLoop (C : Fx) (Q : Exit -> Env -> Jac -> Prop) (I : List (List AV) -> Jac -> Prop) (E0 : Env) (a : Act) (l n lo : Nat) (r0 : Loop) (xs : List (List AV)) (s : Bool) (M' : Str) (w : World)
 (σ : Jac) (ρ : Nat -> Option Nat) (Im : Nat -> Prop) (M : Str) (r : Loop) : Prop where
 len : ∀ x ∈ xs, x.length = n
 late : lo <= w.heap.size
 core : Core C E0 σ a w ρ Im M
 lrec : w.heap[l]? = some (.loop r)
 same : r = { r0 with state := r.state, pending := r.pending }
 lρ : ∀ id, ρ id ≠ some l
 lI : ¬ Im l
 lM : ¬ M.m l
 lb : ¬ C.book a l
 cov : ∀ b, (∃ id, ρ id = some b) \/ M.m b \/ b = l \/ C.book a b -> M'.m b
 covI : ∀ b, Im b -> M'.m b \/ M'.j b
 gok : GOK w Im
 st : (s = false /\ r.state = .ready /\ r.pending = none /\ I xs σ) \/ (s = true /\ r.state = .done /\ ((r.pending = some .ret /\ Q .ret E0 σ) \/ ∃ i, r.pending = some (.exit i) /\ Q (.exit i) E0 σ))
theorem Jpq {C : Fx} (h : C.rd = none) (a : Act) (b : Nat) : C.book a b ↔ stamp b ∈ a.defers := by simp [Fx.book, h]
theorem Jl6 {S : Sp} {ps : Array Tmp} {as body : Code} {Q : Exit -> Env -> Jac -> Prop} (H : Holds S C) (hrd : C.rd = none) (hoA : JaX S.P S.N S.bad as = true) (hoB : JaX S.P S.N S.bad body = true) (hps : ∀ p ∈ ps.toList, p < S.N)
 {nm0 : Nat -> Bool} {b2 : Nat} (hnm : ∀ id, S.pin id = true -> nm0 id = true) (hb2 : ∀ id, nm0 id = true -> id / 16 < b2 \/ b2 + 100000 <= id / 16) {I : List (List AV) -> Jac -> Prop} {E0 : Env} (hE0 : ∀ t, (E0 t).ownB = false /\ ∀ id, Names (E0 t) id -> nm0 id = true)
 (hround : ∀ x rest σ, I (x :: rest) σ -> awp (spR S b2 nm0) as (Jdd (awp (spR S b2 nm0) body (rQ nm0 Q E0 (I rest))) Jsq) (Jdq E0 ps.toList x) σ)
 {l : Nat} {r0 : Loop} (hr0 : r0.params = ps /\ r0.assign = as /\ r0.body = body /\ r0.tmps = a.tmps) (hl : C.w0.heap.size <= l) {wc : World} (hwc : C.w0.heap.size <= wc.heap.size) (hImc : ∀ b, Im b -> C.Im0 b \/ C.w0.heap.size <= b) (hlc : l < wc.heap.size) (hbc : ∀ b, C.book a b -> b < wc.heap.size) :
 JoR S.P l (λ b => Im b \/ wc.heap.size <= b) λ xs s M' w => ∃ σ ρ Im M r, InLoop C Q I E0 a l ps.size wc.heap.size r0 xs s M' w σ ρ Im M r := by
 rintro x rest M1 w1 Im1 vs1 ⟨σ, ρ, Ic, M, r, h⟩ hI1 hM1 hJ1 hL1 hvs n
 rcases h.st with ⟨_, hst, hpd, hinv⟩ | ⟨hs, _⟩
 rotate_left
 . cases hs
 have hrr : r = { r0 with state := .ready, pending := none } := by rw [h.same, hst, hpd]
 have hlenx : x.length = ps.size := h.len x (by simp)
 have hyield := run_yield (P := S.P) (args := vs1.toArray) h.lrec (by rw [hrr]; simp only [hr0.1, L0V, <- hvs.1, hlenx])
 have hf : ∀ (f : Array Value -> Tmp × Value -> Array Value) (t0 : Array Value), (ps.zip vs1.toArray).foldl f t0 = (ps.toList.zip vs1).foldl f t0 := λ f t0 => by
  rw [<- Array.foldl_toList]; simp
 have htm : r.tmps = a.tmps := by rw [hrr]; exact hr0.2.2.2
 have hpar : r.params = ps := by rw [hrr]; exact hr0.1
 have has : r.assign = as := by rw [hrr]; exact hr0.2.1
 have hbo : r.body = body := by rw [hrr]; exact hr0.2.2.1
 rw [hpar, htm, has, hbo, hf] at hyield
 -- the round's activation
 have Im2 : ∀ b, Ic b \/ Im1 b -> b < w1.heap.size := λ b hb => by
  rcases hb with hb | hb
  . exact h.core.inv.low b hb
  . exact (hI1 b hb).1
 have dis : ∀ b, ((∃ id, ρ id = some b) \/ M.m b \/ b = l \/ C.book a b) -> ¬ (Ic b \/ Im1 b) := λ b hb hI => by
  rcases hI with hI | hI
  . rcases hb with ⟨id, hid⟩ | hb | hb | hb
    . exact h.core.inv.apart id b hid hI
    . exact (h.core.ms b hb).2.2.1 hI
    . subst hb; exact h.lI hI
    . exact (h.core.bk b hb).2.1 hI
  . exact (hI1 b hI).2 (h.cov b hb)
 have hin2 : Inv w1 ρ (λ b => Ic b \/ Im1 b) σ := by
  have rep : ∀ {v : AV} {y : Value}, Rep w1 ρ Ic v y -> Rep w1 ρ (λ b => Ic b \/ Im1 b) v y := λ {v y} hr => Rep.mono (λ _ h => .inl h) (λ _ _ => rfl) hr λ i _ => ⟨rfl, λ b _ cur _ hb => ⟨cur, hb, rfl⟩⟩
  exact ⟨h.core.inv.nil, λ i k b hk hi hz => by
   obtain ⟨ents, clk, hbb, hl, hc⟩ := h.core.inv.map i k b hk hi hz
   exact ⟨ents, clk, hbb, hl, λ i m hm => by obtain ⟨v, hv, hr⟩ := hc i m hm; exact ⟨v, hv, rep hr⟩⟩,
   λ i k b hk hi hz => by
    obtain ⟨cur, hbb, hl, hs, hc⟩ := h.core.inv.blk i k b hk hi hz
    exact ⟨cur, hbb, hl, hs, λ i e j c he hcc => by obtain ⟨v, hv, h1, hr⟩ := hc i e j c he hcc; exact ⟨v, hv, h1, rep hr⟩⟩,
   h.core.inv.inj, h.core.inv.live, λ i b hi => dis b (.inl ⟨i, hi⟩), Im2⟩
 have henv0 : JaK w1 ρ (λ b => Ic b \/ Im1 b) E0 a.tmps := λ t y hy => Rep.mono (λ _ h => .inl h) (λ _ _ => rfl) (h.core.env t y hy) λ i _ => ⟨rfl, λ b _ cur _ hb => ⟨cur, hb, rfl⟩⟩
 have hvs2 : JiF w1 (λ b => Ic b \/ Im1 b) x vs1 := ⟨hvs.1, λ j c y hc hy => (hvs.2 j c y hc hy).mono (λ _ h => .inr h) (λ _ _ => rfl)⟩
 obtain ⟨henv2, hsz2⟩ := JkR (N := C.N) ps.toList x vs1 E0 a.tmps henv0 hvs2 h.core.size
 let mk : LoopState -> Fx := λ st => { w0 := w1, X0 := λ b => (∃ id, ρ id = some b) \/ M.m b \/ b = l, Im0 := λ b => Ic b \/ Im1 b, G := λ g M' w => g = E0 C.N /\ M' = M /\ C.G g M' w, N := C.N, rd := some (l, { r with state := st }), pin := λ id => if nm0 id then some (ρ id) else none, J0 := λ b => Ic b \/ Im1 b, R0 := λ id b => ρ id = some b }
 have hgk1 : GOK w1 (λ b => Ic b \/ Im1 b) := h.gok.mono (λ _ h => .inl h) λ _ _ => rfl
 have HR : ∀ st, Holds (spR S b2 nm0) (mk st) := λ st => by
  refine ⟨H.N, ?_, λ _ _ _ hY => hY.elim, H.mo, λ id b hp => ?_, hb2, H.big, (λ h => by cases h), λ _ _ _ _ => rfl, hgk1, λ b hb => ⟨λ hx => dis b (Or.imp_right (Or.imp_right Or.inl) hx) (hgk1.im hb), Im2 b (hgk1.im hb)⟩, (λ h => by cases h)⟩
  . rintro g M' w w' ⟨h1, h2, h3⟩ hb hs ho ht hout; exact ⟨h1, h2, H.G _ _ _ _ h3 hb hs ho ht hout⟩
  . simp only [mk] at hp
    cases hn : nm0 id with
    | true => exact hn
    | false => simp [hn] at hp
 have hEN : Jdq E0 ps.toList x C.N = E0 C.N := JkQ ps.toList x E0 λ p hp => by rw [<- H.N]; exact hps p hp
 have W0 : Wit (mk .ready) (Jdq E0 ps.toList x) σ { tmps := (ps.toList.zip vs1).foldl (λ tm (t, v) => tm.setIfInBounds t v) a.tmps, defers := [] } w1 ρ (λ b => Ic b \/ Im1 b) M := by
  refine ⟨hin2, henv2, hsz2, Ext.refl _ _, λ id b hi => .inl ⟨.inl ⟨id, hi⟩, hi⟩, λ b hb => .inl hb, λ p => ?_, ?_, λ b hb => .inl (h.core.js b hb), λ b hb => ?_, λ l' r' hr => ?_, .nil, λ d hd => (by cases hd), λ b hb => ?_, λ id ob hp => ?_, λ b hb => hb⟩
  . show AV.namesB p (Jdq E0 ps.toList x C.N) = false
    rw [hEN]; exact h.core.gh p
  . show Jdq E0 ps.toList x C.N = E0 C.N /\ _
    exact ⟨hEN, rfl, by rw [hEN]; exact h.core.g⟩
  . obtain ⟨h1, h2, h3, _⟩ := h.core.ms b hb
    exact ⟨h1, h2, dis b (.inr (.inl hb)), .inl (.inr (.inl hb))⟩
  . simp only [mk, Option.some.injEq, Prod.mk.injEq] at hr; obtain ⟨rfl, rfl⟩ := hr; rw [h.lrec, <- hst]
  . rcases hb with ⟨r', hr'⟩ | hd
    . simp only [mk, Option.some.injEq, Prod.mk.injEq] at hr'; obtain ⟨rfl, _⟩ := hr'
      exact ⟨h.lρ, dis _ (.inr (.inr (.inl rfl))), h.lM⟩
    . cases hd
  . simp only [mk] at hp
    cases hn : nm0 id with
    | true => simp [hn] at hp; exact hp
    | false => simp [hn] at hp
 refine ⟨_, _, _, _, hyield, roundIn_of_wpIn trivial ?_⟩
 rw [JrX]
 have hrdl : ∀ st, (mk st).rdl = some l := λ st => rfl
 -- what a round leaves
 have leave : ∀ (E' : Env) (σ' : Jac) (a' : Act) (w3 : World) (p : Nat -> Bool) (jump : Option Code), (∀ id, nm0 id = true -> p id = false) -> St (mk .busy) E' σ' a' w3 ->
  ((jump = none /\ I rest (Jao p σ')) \/ (jump = some .ret /\ Q .ret E0 (Jao p σ')) \/ ∃ i, jump = some (.exit i) /\ Q (.exit i) E0 (Jao p σ')) ->
  ∃ v w4, (Instr.endRound l jump).run S.P w3 = .ok v w4 /\ ∃ b M', Ending.returned v = .returned (.bool b) /\ (∃ σ ρ Im M r, InLoop C Q I E0 a l ps.size wc.heap.size r0 rest (!b) M' w4 σ ρ Im M r) /\
   (∀ k, M'.m k -> k < w4.heap.size /\ (M1.m k \/ w1.heap.size <= k)) /\ (∀ k, M'.j k -> Im1 k) /\ Ext w1 M1.m w4 := by
  rintro E' σ' a' w3 p jump hp ⟨ρ2, I2, M2, hw⟩ hj
  obtain ⟨hg1, rfl, hg3⟩ := hw.g
  have hrec3 : w3.heap[l]? = some (.loop { r with state := .busy }) := hw.rd l _ rfl
  refine ⟨_, _, run_endRound jump hrec3, jump.isNone, ⟨λ b => (∃ id, killR p ρ2 id = some b) \/ M2.m b \/ b = l \/ C.book a b \/ (I2 b /\ ¬ Im1 b), λ b => I2 b /\ Im1 b⟩, rfl, ?_, ?_, λ k hk => hk.2, ?_⟩
  . -- the state anew
    have hl2 : ∀ id, ρ2 id ≠ some l := (hw.bk l (.inl ⟨_, rfl⟩)).1
    have hlI2 : ¬ I2 l := (hw.bk l (.inl ⟨_, rfl⟩)).2.1
    have hoth : ∀ (o : Obj) k, k ≠ l -> (w3.putObj l o).heap[k]? = w3.heap[k]? := λ o k hk => World.putObj_heap_other hk
    have old : ∀ b, b < w1.heap.size -> (∀ id, ρ id ≠ some b) -> ¬ M2.m b -> b ≠ l -> w3.heap[b]? = w1.heap[b]? := λ b hlt h1 h2 h3 => hw.ext.block b hlt λ hx => by
     rcases hx with ⟨id, hid⟩ | hx | hx
     . exact h1 id hid
     . exact h2 hx
     . exact h3 hx
    have fromρ : ∀ id b, ρ2 id = some b -> ρ id = some b \/ w1.heap.size <= b := λ id b hi => by
     rcases hw.rng id b hi with ⟨_, h'⟩ | h'
     . exact .inl h'
     . exact .inr h'
    have book1 : ∀ b, C.book a b -> b < w1.heap.size := λ b hb => h.core.bklt hb
    have bookne : ∀ b, C.book a b -> b ≠ l := λ b hb e => h.lb (e ▸ hb)
    have bookw : ∀ b, C.book a b -> w3.heap[b]? = w1.heap[b]? := λ b hb => old b (book1 b hb) (h.core.bk b hb).1 (h.core.bk b hb).2.2 (bookne b hb)
    have Iold : ∀ b, Ic b -> w3.heap[b]? = w1.heap[b]? := λ b hb => old b (h.core.inv.low b hb) (λ id hid => h.core.inv.apart id b hid hb) (λ hm => (h.core.ms b hm).2.2.1 hb) (λ e => h.lI (e ▸ hb))
    have bkI : ∀ b, C.book a b -> ¬ I2 b := λ b hb hI => by
     rcases hw.im b hI with h' | h'
     . exact dis b (.inr (.inr (.inr hb))) h'
     . exact absurd (book1 b hb) (Nat.not_lt.2 h')
    have bkρ : ∀ b, C.book a b -> ∀ id, ρ2 id ≠ some b := λ b hb id hid => by
     rcases fromρ id b hid with h' | h'
     . exact (h.core.bk b hb).1 id h'
     . exact absurd (book1 b hb) (Nat.not_lt.2 h')
    have pinned : ∀ id, nm0 id = true -> ρ2 id = ρ id := λ id hid => hw.pin id (ρ id) (by simp [mk, hid])
    have hN : E' C.N = E0 C.N := hg1
    have hks : (Jao p σ') = Jao p σ' := rfl
    have C3 : Core C E0 (Jao p σ') a w3 (killR p ρ2) I2 M2 := by
     refine ⟨hw.inv.kill p, λ t y hy => ?_, h.core.size, λ id b hi => ?_, λ b hb => ?_, h.core.gh, ?_, λ b hb => hw.js b hb, λ b hb => ?_, λ l' r' hr => (by rw [hrd] at hr; cases hr), h.core.nodup, λ d hd => ?_, λ b hb => ⟨λ id hid => bkρ b hb id (Jae hid).2, bkI b hb, (h.core.bk b hb).2.2⟩, λ id ob hpn => ?_, λ b hb => hw.j0 b (.inl (h.core.j0 b hb))⟩
     . refine Rep.stay (w := w1) (w' := w3) (λ b hb => hw.j0 b (.inl hb)) Iold (h.core.env t y hy) (hE0 t).1 λ id hid => ?_
       have hn := (hE0 t).2 id hid; rw [JaF ρ2 (hp id hn), pinned id hn]
     . rcases fromρ id b (Jae hi).2 with h' | h'
       . exact h.core.rng id b h'
       . exact .inr (L0n hwc (L0n h.late h'))
     . rcases hw.im b hb with (h' | h') | h'
       . exact h.core.im b h'
       . rcases hL1 b h' with h'' | h''
         . exact hImc b h''
         . exact .inr (L0n hwc h'')
       . exact .inr (L0n hwc (L0n h.late h'))
     . rw [<- hN]; exact hg3
     . obtain ⟨h1, h2, h3, _⟩ := hw.ms b hb
       exact ⟨h1, λ id hid => h2 id (Jae hid).2, h3, (h.core.ms b hb).2.2.2⟩
     . obtain ⟨D, e, hD, hle⟩ := h.core.df d hd
       exact ⟨D, e, by rw [bookw D (.inr (e ▸ hd))]; exact hD, hle⟩
     . have hS := hnm id (H.pin id ob hpn)
       rw [JaF ρ2 (hp id hS), pinned id hS]; exact h.core.pin id ob hpn
    have C4 := C3.carry H.G (w' := w3.putObj l (.loop { { r with state := .busy } with state := if jump.isNone then .ready else .done, pending := jump })) (λ k hk => hoth _ k λ e => by
     rcases hk with ⟨id, hid⟩ | hk | hk | hk
     . exact hl2 id (e ▸ (Jae hid).2)
     . exact hlI2 (e ▸ hk)
     . exact h.lM (e ▸ hk)
     . exact h.lb (e ▸ hk)) (by simp) rfl rfl rfl
    refine ⟨Jao p σ', killR p ρ2, I2, M2, _, λ x hx => h.len x (by simp [hx]), ?_, C4, World.putObj_heap_same (L0m.1 hrec3).1, ?_, λ id hid => hl2 id (Jae hid).2, hlI2, h.lM, h.lb, λ b hb => ?_, λ b hb => ?_, (hw.gok (HR .busy)).mono (λ _ h => h) (λ b hb => hoth _ b (λ e => hlI2 (e ▸ (hw.gok (HR .busy)).im hb))), ?_⟩
    . simpa using L0n h.late hw.ext.size
    . rw [hrr]
    . rcases hb with hb | hb | hb | hb
      . exact .inl hb
      . exact .inr (.inl hb)
      . exact .inr (.inr (.inl hb))
      . exact .inr (.inr (.inr (.inl hb)))
    . by_cases hb1 : Im1 b
      . exact .inr ⟨hb, hb1⟩
      . exact .inl (.inr (.inr (.inr (.inr ⟨hb, hb1⟩))))
    . rcases hj with ⟨rfl, hI⟩ | ⟨rfl, hQ⟩ | ⟨i, rfl, hQ⟩
      . exact .inl ⟨rfl, rfl, rfl, hI⟩
      . exact .inr ⟨rfl, rfl, .inl ⟨rfl, hQ⟩⟩
      . exact .inr ⟨rfl, rfl, .inr ⟨i, rfl, hQ⟩⟩
  . intro k hk
    have hsz : (w3.putObj l (.loop { { r with state := .busy } with state := if jump.isNone then .ready else .done, pending := jump })).heap.size = w3.heap.size := by simp
    rw [hsz]
    have covm : ∀ b, ((∃ id, ρ id = some b) \/ M2.m b \/ b = l) -> M1.m b := λ b hb => h.cov b (by rcases hb with h | h | h; exact .inl h; exact .inr (.inl h); exact .inr (.inr (.inl h)))
    rcases hk with ⟨id, hid⟩ | hk | hk | hk | ⟨hk, hk1⟩
    . have hid := (Jae hid).2
      refine ⟨hw.inv.lt hid, ?_⟩
      rcases hw.rng id k hid with h' | h'
      . exact .inl (covm k h'.1)
      . exact .inr h'
    . exact ⟨(hw.ms k hk).1, .inl (h.cov k (.inr (.inl hk)))⟩
    . subst hk; exact ⟨(L0m.1 hrec3).1, .inl (h.cov _ (.inr (.inr (.inl rfl))))⟩
    . exact ⟨L0Q (h.core.bklt hk) hw.ext.size, .inl (h.cov k (.inr (.inr (.inr hk))))⟩
    . refine ⟨hw.inv.low k hk, ?_⟩
      rcases hw.im k hk with (h' | h') | h'
      . rcases h.covI k h' with h'' | h''
        . exact .inl h''
        . exact absurd (hJ1 k h'') hk1
      . exact absurd h' hk1
      . exact .inr h'
  . have hx : Ext w1 M1.m w3 := hw.ext.mono λ b _ hb => h.cov b (by rcases hb with h | h | h; exact .inl h; exact .inr (.inl h); exact .inr (.inr (.inl h)))
    exact hx.trans (Y := λ b => b = l) ⟨rfl, rfl, rfl, by simp, λ b _ hb => World.putObj_heap_other hb⟩ λ b hb => .inl (by subst hb; exact h.cov _ (.inr (.inr (.inl rfl))))
 have hA := JgS (HR .ready) (Jcj (HR .ready)) (n := n) as _ _ _ hoA (hround x rest σ hinv)
  (Exit.then (λ a₁ w₁ => ∃ w₂, (Instr.beginRound l).run S.P w₁ = .ok () w₂ /\ body.wpIn (FW (some l)) n S.P (roundPost S.P l λ e w' => ∃ b M', e = .returned (.bool b) /\ (∃ σ ρ Im M r, InLoop C Q I E0 a l ps.size wc.heap.size r0 rest (!b) M' w' σ ρ Im M r) /\
   (∀ k, M'.m k -> k < w'.heap.size /\ (M1.m k \/ w1.heap.size <= k)) /\ (∀ k, M'.j k -> Im1 k) /\ Ext w1 M1.m w') a₁ w₂) (λ _ _ _ => False))
  (λ e E' σ' a' w' hq hs => ?_) _ w1 ⟨_, _, _, W0⟩
 . exact hA
 . cases e with
   | normal =>
    obtain ⟨ρ2, I2, M2, hw⟩ := hs
    have hrec2 : w'.heap[l]? = some (.loop { r with state := .ready }) := hw.rd l _ rfl
    refine ⟨_, run_beginRound hrec2 rfl, ?_⟩
    have hoth : ∀ k, k ≠ l -> (w'.putObj l (.loop { { r with state := .ready } with state := .busy })).heap[k]? = w'.heap[k]? := λ k hk => World.putObj_heap_other hk
    have hl2 := hw.bk l (.inl ⟨_, rfl⟩)
    have hoC : Core (mk .ready) E' σ' a' w' ρ2 I2 M2 := hw.core
    -- busy now
    have W1 : Wit (mk .busy) E' σ' a' (w'.putObj l (.loop { r with state := .busy })) ρ2 I2 M2 := by
     have hneq : ∀ k, ((∃ id, ρ2 id = some k) \/ I2 k \/ M2.m k \/ stamp k ∈ a'.defers) -> k ≠ l := λ k hk e => by
      subst e
      rcases hk with ⟨id, hid⟩ | hk | hk | hk
      . exact hl2.1 id hid
      . exact hl2.2.1 hk
      . exact hl2.2.2 hk
      . obtain ⟨D, e, hD, _⟩ := hw.df _ hk
        rw [JdS e] at hrec2; rw [hrec2] at hD; cases hD
     refine ⟨hw.inv.carry (λ k hk => World.putObj_heap_other (hneq k (by rcases hk with h | h; exact .inl h; exact .inr (.inl h)))) (by simp),
      λ t y hy => Rep.mono (w := w') (λ _ h => h) (λ b hI => World.putObj_heap_other (hneq b (.inr (.inl hI)))) (hw.env t y hy) λ i _ => ⟨rfl, λ b hi cur e hc => ⟨cur, by rw [World.putObj_heap_other (hneq b (.inl ⟨i, hi⟩))]; exact hc, rfl⟩⟩,
      hw.size, ?_, hw.rng, hw.im, hw.gh, ?_, hw.js, λ b hb => by simpa using hw.ms b hb, λ l' r' hr => ?_, hw.nodup, λ d hd => ?_, λ b hb => ?_, hw.pin, hw.j0⟩
     . exact hw.ext.trans (Y := λ b => b = l) ⟨rfl, rfl, rfl, by simp, λ b _ hb => World.putObj_heap_other hb⟩ λ b hb => .inl (.inr (.inr hb))
     . exact (HR .busy).G _ _ _ _ hw.g (λ k hk => World.putObj_heap_other (hneq k (by rcases hk with h | h; exact .inr (.inr (.inl h)); exact .inr (.inl (hw.js k h))))) (by simp) rfl rfl rfl
     . simp only [mk, Option.some.injEq, Prod.mk.injEq] at hr; obtain ⟨rfl, rfl⟩ := hr
       exact World.putObj_heap_same (L0m.1 hrec2).1
     . obtain ⟨D, e, hD, hle⟩ := hw.df d hd
       exact ⟨D, e, by rw [World.putObj_heap_other (hneq D (.inr (.inr (.inr (e ▸ hd)))))]; exact hD, hle⟩
     . refine hw.bk b ?_
       rcases hb with ⟨r', hr'⟩ | hd
       . simp only [mk, Option.some.injEq, Prod.mk.injEq] at hr'
         exact .inl ⟨{ r with state := .ready }, by simp only [mk]; rw [hr'.1]⟩
       . exact .inr hd
    have hB := JgS (HR .busy) (Jcj (HR .busy)) (n := n) body _ _ _ hoB hq
     (roundPost S.P l λ e w' => ∃ b M', e = .returned (.bool b) /\ (∃ σ ρ Im M r, InLoop C Q I E0 a l ps.size wc.heap.size r0 rest (!b) M' w' σ ρ Im M r) /\
      (∀ k, M'.m k -> k < w'.heap.size /\ (M1.m k \/ w1.heap.size <= k)) /\ (∀ k, M'.j k -> Im1 k) /\ Ext w1 M1.m w') (λ e E'' σ'' a'' w'' hq' hs' => ?_) _ _ ⟨_, _, _, W1⟩
    . exact hB
    . cases e with
      | normal => obtain ⟨p, hp, hI⟩ := hq'; exact leave E'' σ'' a'' w'' p none hp hs' (.inl ⟨rfl, hI⟩)
      | ret => obtain ⟨p, hp, hI⟩ := hq'; exact leave E'' σ'' a'' w'' p (some .ret) hp hs' (.inr (.inl ⟨rfl, hI⟩))
      | exit i => obtain ⟨p, hp, hI⟩ := hq'; exact leave E'' σ'' a'' w'' p (some (.exit i)) hp hs' (.inr (.inr ⟨i, rfl, hI⟩))
      | goto t => exact hq'.elim
      | panic ch => exact hq'.elim
      | outgrown => exact hq'.elim
   | ret => exact hq.elim
   | exit i => exact hq.elim
   | goto t => exact hq.elim
   | panic ch => exact hq.elim
   | outgrown => exact hq.elim
variable {P : Program} {C : Fx} {w w' : World} {ρ : Nat -> Option Nat} {Im : Nat -> Prop} {M : Str} {E : Env} {σ : Jac} {a : Act}
theorem Jl1 {S : Sp} {f : Operand} {ps : Array Tmp} {as body : Code} {Q : Exit -> Env -> Jac -> Prop} (hrd : S.rd = false) (hlow : Operand.low S.N f = true) (hoA : JaX S.P S.N S.bad as = true) (hoB : JaX S.P S.N S.bad body = true)
 (hps : ∀ p ∈ ps.toList, p < S.N) {g : FuncId} {caps : List AV} (hf : ev E f = .clo g caps) (hhd : JaM caps = true) (q nm0 : Nat -> Bool) (b2 : Nat) (hqc : AV.namesL (λ i => !q i) caps = false)
 (hqs : ∀ id k, σ id = some k -> q id = true -> AV.namesL (λ i => !q i) k.es = false) (hqn : ∀ id, q id = true -> nm0 id = false) (hnm : ∀ id, S.pin id = true -> nm0 id = true)
 (hb2 : ∀ id, nm0 id = true -> id / 16 < b2 \/ b2 + 100000 <= id / 16) (xs : List (List AV)) (hlen : ∀ x ∈ xs, x.length = ps.size) (hs : SOK S.P g caps (only q σ) xs) (I : List (List AV) -> Jac -> Prop) (h0 : I xs (Jao q σ))
 (hround : ∀ x rest σ, I (x :: rest) σ -> awp (spR S b2 nm0) as (Jdd (awp (spR S b2 nm0) body (rQ nm0 Q (Jev nm0 E) (I rest))) Jsq) (Jdq (Jev nm0 E) ps.toList x) σ)
 (hend : ∀ σ, I [] σ -> Q .normal (Jev nm0 E) σ) : semC S (.rangeFunc f ps as body) Q E σ := by
 intro C H n R hR a w hst
 obtain ⟨ρ, Im, M, hw⟩ := hst
 have hCr : C.rd = none := H.rdn hrd
 have hrdl : C.rdl = none := by unfold Fx.rdl; rw [hCr]; rfl
 have hbook : ∀ (a : Act) b, C.book a b ↔ stamp b ∈ a.defers := Jpq hCr
 have hfr := Jb8 hw.env (x := f) (by rw [hw.size, <- H.N]; exact hlow)
 rw [hf] at hfr
 obtain ⟨cys, hfy, hcl, hcr⟩ := hfr.clo_plain hhd
 -- the two blocks that are laid
 refine wpIn_rangeFunc λ fn _ => ?_
 let D := w.heap.size
 let r0 : Loop := { state := .ready, pending := none, fn := fn, tmps := a.tmps, params := ps, assign := as, body := body, defers := D }
 let w1 : World := (w.alloc (.deferred (some []))).alloc (.loop r0)
 let a1 : Act := { a with defers := [stamp D] ++ a.defers }
 have hround' : (FW C.rdl).round = none := by rw [hrdl]; rfl
 have hsz1 : w1.heap.size = D + 2 := by simp [w1, D]
 have hw1 : ∀ k, k < D -> w1.heap[k]? = w.heap[k]? := λ k hk => by
  show ((w.alloc (.deferred (some []))).alloc (.loop r0)).heap[k]? = _
  rw [Below.heap_alloc _ _ _ (by simp; omega), Below.heap_alloc _ _ _ hk]
 have hDw : w1.heap[D]? = some (.deferred (some [])) := by
  show ((w.alloc (.deferred (some []))).alloc (.loop r0)).heap[D]? = _
  rw [Below.heap_alloc _ _ _ (by simp [D])]; exact World.alloc_heap_new w _
 have hLw : w1.heap[D + 1]? = some (.loop r0) := by
  have h1 := World.alloc_heap_new (w.alloc (.deferred (some []))) (.loop r0)
  have h2 : (w.alloc (.deferred (some []))).heap.size = D + 1 := by simp [D]
  rw [h2] at h1; exact h1
 have lowI : ∀ b, Im b -> b < D := hw.inv.low
 have lowρ : ∀ id b, ρ id = some b -> b < D := λ id b h => hw.inv.lt h
 have lowM : ∀ b, M.m b -> b < D := λ b h => (hw.ms b h).1
 have lowB : ∀ b, C.book a b -> b < D := λ b h => hw.bklt h
 have hext1 : Ext w (λ _ => False) w1 := ⟨rfl, rfl, rfl, by simp [w1]; omega, λ k hk _ => hw1 k hk⟩
 have hq0 : ∀ id, nm0 id = true -> q id = false := λ id h => by
  cases hq : q id with
  | false => rfl
  | true => rw [hqn id hq] at h; cases h
 have hEN : Jev nm0 E C.N = E C.N := JeZ hw.gh
 have hbk1 : ∀ b, C.book a1 b ↔ b = D \/ C.book a b := λ b => by
  rw [hbook, hbook]; simp only [a1, L0L, L1T, L0q]
  exact ⟨λ h => h.imp_left JdS, λ h => h.imp_left λ e => by rw [e]⟩
 have nD : stamp D ∉ a.defers := λ h => L1A D (lowB D ((hbook a D).2 h))
 -- the state in the loop
 have C1 : Core C (Jev nm0 E) (Jao q σ) a1 w1 (killR q ρ) Im M := by
  refine ⟨(hw.inv.kill q).carry (λ k hk => hw1 k (by
   rcases hk with ⟨id, hid⟩ | hk
   . exact lowρ id k (Jae hid).2
   . exact lowI k hk)) (by omega), λ t y hy => ?_, hw.size, λ id b hi => hw.rng id b (Jae hi).2, hw.im, λ p => by rw [hEN]; exact hw.gh p, ?_, hw.js, λ b hb => ?_, λ l r hr => (by rw [hCr] at hr; cases hr), ?_, λ d hd => ?_, λ b hb => ?_, λ id ob hp => ?_, hw.j0⟩
  . exact Rep.stay (w := w) (w' := w1) (λ _ h => h) (λ b hb => hw1 b (lowI b hb)) (hw.env t y hy).fade (JmC nm0 (E t)) λ id hid => JaF ρ (hq0 id (Jh1 hid).1)
  . rw [hEN]
    exact H.G _ _ _ _ hw.g (λ k hk => hw1 k (by rcases hk with hk | hk; exact lowM k hk; exact lowI k (hw.js k hk))) (by omega) rfl rfl rfl
  . obtain ⟨h1, h2, h3, h4⟩ := hw.ms b hb
    exact ⟨by omega, λ id hid => h2 id (Jae hid).2, h3, h4⟩
  . show (stamp D :: a.defers).Nodup
    exact L1K.2 ⟨nD, hw.nodup⟩
  . rcases L0q.1 (show d ∈ stamp D :: a.defers from hd) with rfl | hd
    . exact ⟨D, rfl, hDw, hw.ext.size⟩
    . obtain ⟨D', e, hD', hle⟩ := hw.df d hd
      exact ⟨D', e, by rw [hw1 D' (lowB D' (.inr (e ▸ hd)))]; exact hD', hle⟩
  . rcases (hbk1 b).1 hb with rfl | hb
    . exact ⟨λ id hid => L1A _ (lowρ id _ (Jae hid).2), λ h => L1A _ (lowI _ h), λ h => L1A _ (lowM _ h)⟩
    . obtain ⟨h1, h2, h3⟩ := hw.bk b hb
      exact ⟨λ id hid => h1 id (Jae hid).2, h2, h3⟩
  . rw [JaF ρ (hq0 id (hnm id (H.pin id ob hp)))]; exact hw.pin id ob hp
 have hE0 : ∀ t, (Jev nm0 E t).ownB = false /\ ∀ id, Names (Jev nm0 E t) id -> nm0 id = true := λ t => ⟨JmC nm0 (E t), λ id h => (Jh1 h).1⟩
 have hans := Jl6 (C := C) (a := a1) (Im := Im) (Q := Q) H hCr hoA hoB hps hnm hb2 (I := I) hE0 hround (l := D + 1) (r0 := r0) ⟨rfl, rfl, rfl, rfl⟩ (L0n hw.ext.size (Nat.le_succ D)) (wc := w1) (by have := hw.ext.size; omega) hw.im (by omega)
  (λ b hb => by rcases (hbk1 b).1 hb with rfl | hb; omega; have := lowB b hb; omega)
 have hstab : JoV λ xs s M' w => ∃ σ ρ Im M r, InLoop C Q I (Jev nm0 E) a1 (D + 1) ps.size w1.heap.size r0 xs s M' w σ ρ Im M r := by
  rintro xs s g M' v v' ⟨σ', ρ', I', M2, r, h⟩ hb hsz ho ht hout
  have hI : ∀ b, I' b -> M'.m b \/ M'.j b := h.covI
  exact ⟨σ', ρ', I', M2, r, h.len, L0n h.late hsz, h.core.carry H.G (λ k hk => hb k (by
   rcases hk with hk | hk | hk | hk
   . exact .inl (h.cov k (.inl hk))
   . exact hI k hk
   . exact .inl (h.cov k (.inr (.inl hk)))
   . exact .inl (h.cov k (.inr (.inr (.inr hk)))))) hsz ho ht hout, by rw [hb _ (.inl (h.cov _ (.inr (.inr (.inl rfl)))))]; exact h.lrec, h.same, h.lρ, h.lI, h.lM, h.lb, h.cov, h.covI, h.gok.mono (λ _ h => h) (λ b hg => hb b (h.covI b (h.gok.im hg))), h.st⟩
 have hinq : Inv w1 (killR (λ i => !q i) ρ) Im (only q σ) := (hw.inv.only hqs).carry (λ k hk => hw1 k (by
  rcases hk with ⟨id, hid⟩ | hk
  . exact lowρ id k (Jae hid).2
  . exact lowI k hk)) (by omega)
 have hrq0 : Reps w (killR (λ i => !q i) ρ) Im caps cys := Reps.only ⟨hcl, hcr⟩ hqc
 have hrq : Reps w1 (killR (λ i => !q i) ρ) Im caps cys := ⟨hrq0.1, λ j c y hc hy => Rep.mono (w := w) (w' := w1) (λ _ h => h) (λ b hb => hw1 b (lowI b hb)) (hrq0.2 j c y hc hy) λ i _ => ⟨rfl, λ b hi cur e hcc => ⟨cur, by rw [hw1 b (lowρ i b (Jae hi).2)]; exact hcc, rfl⟩⟩⟩
 let M0 : Str := ⟨λ b => (∃ id, killR q ρ id = some b) \/ M.m b \/ b = D + 1 \/ C.book a1 b, Im⟩
 have hM0 : ∀ b, M0.m b -> b < w1.heap.size /\ (∀ id, killR (λ i => !q i) ρ id ≠ some b) /\ ¬ Im b := λ b hb => by
  rcases hb with ⟨id, hid⟩ | hb | hb | hb
  . obtain ⟨hp, hid⟩ := Jae hid
    refine ⟨by have := lowρ id b hid; omega, λ id' hid' => ?_, λ hI => hw.inv.apart id b hid hI⟩
    obtain ⟨hp', hid'⟩ := Jae hid'
    have := hw.inv.inj id id' b hid hid'
    subst this; simp [hp] at hp'
  . obtain ⟨h1, h2, h3, _⟩ := hw.ms b hb
    exact ⟨by have := lowM b hb; omega, λ id hid => h2 id (Jae hid).2, h3⟩
  . subst hb
    exact ⟨by omega, λ id hid => by have := lowρ id _ (Jae hid).2; omega, λ hI => by have := lowI _ hI; omega⟩
  . rcases (hbk1 b).1 hb with rfl | hb
    . exact ⟨by omega, λ id hid => L1A _ (lowρ id _ (Jae hid).2), λ h => L1A _ (lowI _ h)⟩
    . obtain ⟨h1, h2, _⟩ := hw.bk b hb
      exact ⟨by have := lowB b hb; omega, λ id hid => h1 id (Jae hid).2, h2⟩
 have hinit : InLoop C Q I (Jev nm0 E) a1 (D + 1) ps.size w1.heap.size r0 xs false M0 w1 (Jao q σ) (killR q ρ) Im M r0 := by
  refine ⟨hlen, L09 _, C1, hLw, rfl, λ id hid => by have := lowρ id _ (Jae hid).2; omega, λ hI => by have := lowI _ hI; omega, λ hm => by have := lowM _ hm; omega, λ hb => ?_, λ b hb => hb, λ b hb => .inr hb, (hw.gok H).mono (λ _ h => h) (λ b hb => hw1 b (lowI b ((hw.gok H).im hb))), .inl ⟨rfl, rfl, rfl, h0⟩⟩
  rcases (hbk1 _).1 hb with h | h
  . omega
  . have := lowB _ h; omega
 have hcall := hs.2 w1 Im (killR (λ i => !q i) ρ) cys (D + 1) _ M0 hstab hinq ((hw.gok H).mono (λ _ h => h) λ b hb => hw1 b (lowI b ((hw.gok H).im hb))) hrq hM0 (λ b hb => hb) hans ⟨_, _, _, _, _, hinit⟩
 refine ⟨D + 1, [stamp D], w1, { target := .fn (.func g) cys.toArray, args := #[.func (.yield (D + 1)) #[] #[]] }, w1, g, (.func (.yield (D + 1)) #[] #[] :: cys).toArray, w1, ?_, ?_, λ _ _ => trivial, ?_, λ h => by simp [FW] at h, ?_⟩
 . rw [hround']; exact run_enterLoop_outer fn a.tmps ps as body
 . have hc : a.eval (.const (.func (.yield (D + 1)) #[] #[])) = .func (.yield (D + 1)) #[] #[] := rfl
   simp [resolve, hfy, hc, Deferred.ofValue, Sem.run_bind]
 . have e1 : (#[.func (.yield (D + 1)) #[] #[]] ++ cys.toArray : Array Value) = (.func (.yield (D + 1)) #[] #[] :: cys).toArray := by apply L12.1; simp
   show (callFunc g (#[.func (.yield (D + 1)) #[] #[]] ++ cys.toArray)).run S.P w1 = _
   rw [e1]; exact hs.1 _ w1
 . refine JeR (hcall.mono ?_)
   rintro e w3 ⟨y, rest, s, M', rfl, hor, ⟨σ', ρ', I', M2, r, h⟩, hx⟩
   have hst : r.state ≠ .busy := by
    rcases h.st with ⟨_, h1, _⟩ | ⟨_, h1, _⟩ <;> rw [h1] <;> decide
   refine ⟨_, _, run_endLoop h.lrec hst, ?_⟩
   have hoth : ∀ k, k ≠ D + 1 -> (w3.putObj (D + 1) (.loop { r with state := .exhausted })).heap[k]? = w3.heap[k]? := λ k hk => World.putObj_heap_other hk
   have C4 : Core C (Jev nm0 E) σ' a1 (w3.putObj (D + 1) (.loop { r with state := .exhausted })) ρ' I' M2 := h.core.carry H.G (λ k hk => hoth k λ e => by
    rcases hk with ⟨id, hid⟩ | hk | hk | hk
    . exact h.lρ id (e ▸ hid)
    . exact h.lI (e ▸ hk)
    . exact h.lM (e ▸ hk)
    . exact h.lb (e ▸ hk)) (by simp) rfl rfl rfl
   have hfin : Ext C.w0 C.X0 (w3.putObj (D + 1) (.loop { r with state := .exhausted })) := by
    refine (hw.ext.trans hext1 λ b hb => hb.elim).trans (X := C.X0) (Y := λ b => C.X0 b \/ C.w0.heap.size <= b) ?_ λ b hb => hb
    refine (hx.mono λ b hlt hb => ?_).trans (Y := λ b => b = D + 1) ⟨rfl, rfl, rfl, by simp, λ b _ hb => hoth b hb⟩ λ b hb => .inl (.inr (by subst hb; have := hw.ext.size; omega))
    rcases hb with ⟨id, hid⟩ | ⟨id, hid⟩ | hb | hb | hb
    . exact (hw.rng id b (Jae hid).2).imp_left And.left
    . exact (hw.rng id b (Jae hid).2).imp_left And.left
    . exact (hw.ms b hb).2.2.2
    . subst hb; have := hw.ext.size; exact .inr (by omega)
    . rcases (hbk1 b).1 hb with rfl | hb
      . exact .inr hw.ext.size
      . obtain ⟨D', e, _, hle⟩ := hw.df _ ((hbook a b).1 hb)
        rw [JdS e]; exact .inr hle
   have st : St C (Jev nm0 E) σ' a1 (w3.putObj (D + 1) (.loop { r with state := .exhausted })) := ⟨ρ', I', M2, C4.wit hfin⟩
   split
   . rename_i hpn
     rcases h.st with ⟨hs0, _, hp, hI⟩ | ⟨_, _, ⟨hp, hQ⟩ | ⟨i, hp, hQ⟩⟩
     . have hr : rest = [] := hor.resolve_right (by rw [hs0]; simp)
       subst hr
       exact hR .normal _ _ _ _ (hend σ' hI) st
     . rw [hpn] at hp; cases hp
     . rw [hpn] at hp; cases hp
   . rename_i c hpn
     rcases h.st with ⟨hs0, _, hp, hI⟩ | ⟨_, _, ⟨hp, hQ⟩ | ⟨i, hp, hQ⟩⟩
     . rw [hpn] at hp; cases hp
     . rw [hpn] at hp; cases hp; rw [hrdl]; exact wpIn_ret (hR .ret _ _ _ _ hQ st)
     . rw [hpn] at hp; cases hp; rw [hrdl]; exact wpIn_exit (hR (.exit i) _ _ _ _ hQ st)
variable {P : Program} {ops : Array Oper}
def Jk5 (ops : Array Oper) : Nat -> Nat -> Nat -> Bool
 | 0, _, _ => false
 | n + 1, j, i => match ops[j]? with
  | some o => (o.after.any λ e => Region.binds .any e && e.on == i) || o.after.any λ e => Region.binds .any e && Nat.blt i e.on && Jk5 ops n e.on i
  | none => false
theorem Jk6 : ∀ (n j i : Nat), Jk5 ops n j i = true -> waits ops n j i = true
 | 0, _, _, h => by simp [Jk5] at h
 | n + 1, j, i, h => by
  simp only [Jk5] at h; simp only [waits]
  split at h
  . rename_i o d; simp only [d]; simp only [L0O, <- Array.any_toList] at h; rw [<- Array.any_toList]
    rcases h with h | h
    . obtain ⟨e, c, b⟩ := L1J.1 h
      simp only [L00] at b
      exact L1J.2 ⟨e, c, by simp [b.1, b.2]⟩
    . obtain ⟨e, c, b⟩ := L1J.1 h
      simp only [L00] at b
      exact L1J.2 ⟨e, c, by simp [b.1.1, Jk6 n e.on i b.2]⟩
  . cases h
def Js4 (P : Program) (ops : Array Oper) (i : Nat) (b : Oper) (j : Nat) (c : Oper) : Bool :=
 ((b.apart ops c && (Nat.ble (cls P b.op b.type) 2 && Nat.ble (cls P c.op c.type) 2 || Jfz P b && stoO c || stoO b && Jfz P c)) || Jk5 ops ops.size j i) && (!isNm P b || !isNm P c || (b.dst.getD 99999 != c.dst.getD 99999))
def rowQ (P : Program) (ops : Array Oper) (i : Nat) (b : Oper) : Nat -> List Oper -> Bool
 | _, [] => true
 | j, c :: l => Js4 P ops i b j c && rowQ P ops i b (j + 1) l
def JvK (i : Nat) (b : Oper) : Bool := b.after.all (λ e => !Region.binds .any e || Nat.blt e.on i) && (match b.guard with | some (g, _) => Nat.blt g i | none => true)
def allQ (P : Program) (ops : Array Oper) : Nat -> List Oper -> Bool
 | _, [] => true
 | i, b :: l => JvK i b && rowQ P ops i b (i + 1) l && allQ P ops (i + 1) l
theorem Jrc {i : Nat} {c : Oper} : ∀ (l : List Oper) (j : Nat), rowQ P ops i c j l = true -> ∀ (k : Nat) (o : Oper), l[k]? = some o -> Js4 P ops i c (j + k) o = true
 | [], _, _, k, o, h => by simp at h
 | d :: l, j, h, k, o, b => by
  simp only [rowQ, L00] at h
  cases k with
  | zero => simp at b; subst b; exact h.1
  | succ k =>
   have := Jrc l (j + 1) h.2 k o (by simpa using b)
   rw [show j + (k + 1) = j + 1 + k from by omega]; exact this
theorem Jo5 : ∀ (l : List Oper) (i : Nat), allQ P ops i l = true -> ∀ (a : Nat) (d : Oper), l[a]? = some d -> JvK (i + a) d = true /\ ∀ (b : Nat) (f : Oper), a < b -> l[b]? = some f -> Js4 P ops (i + a) d (i + b) f = true
 | [], _, _, a, d, h => by simp at h
 | o :: l, i, h, a, d, j => by
  simp only [allQ, L00] at h
  cases a with
  | zero =>
   simp at j; subst j
   refine ⟨h.1.1, λ b f p c => ?_⟩
   cases b with
   | zero => omega
   | succ b =>
    have := Jrc l (i + 1) h.1.2 b f (by simpa using c)
    rw [show i + (b + 1) = i + 1 + b from by omega]; exact this
  | succ a =>
   obtain ⟨k, m⟩ := Jo5 l (i + 1) h.2 a d (by simpa using j)
   rw [show i + (a + 1) = i + 1 + a from by omega]
   refine ⟨k, λ b f p c => ?_⟩
   cases b with
   | zero => omega
   | succ b =>
    have := m b f (by omega) (by simpa using c)
    rw [show i + (b + 1) = i + 1 + b from by omega]; exact this
theorem JjY (h : allQ P ops 0 ops.toList = true) : JdH P ops = true := by
 unfold JdH
 refine L0f.2 λ i k => ?_
 have k := L1a.1 k; rw [L0i k]
 have o : ops.toList[i]? = some ops[i] := by rw [L0P, L0i k]
 obtain ⟨f, q⟩ := Jo5 ops.toList 0 h i ops[i] o
 rw [L0p] at f q; simp only [JvK, L00] at f
 have d : ∀ a b, Nat.blt a b = true ↔ a < b := λ a b => by simp [Nat.blt]; omega
 simp only [L00]
 refine ⟨⟨?_, ?_⟩, L0f.2 λ j l => ?_⟩
 . have := f.1
   rw [<- Array.all_toList] at this ⊢
   refine L0f.2 λ e s => ?_
   have := L0f.1 this e s
   simp only [L0O, d, decide_eq_true_eq] at this ⊢; exact this
 . have := f.2
   split at this
   . rename_i m; rw [m]; simp only [d] at this; simpa using this
   . rename_i m; rw [m]
 . have l := L1a.1 l
   by_cases hji : j <= i
   . simp [hji]
   . rw [L0i l]
     have p : ops.toList[j]? = some ops[j] := by rw [L0P, L0i l]
     have := q j ops[j] (by omega) p
     rw [L0p] at this; simp only [Js4, L00] at this; simp only [L0O, L00]
     refine .inr ⟨?_, by simpa using this.2⟩
     rcases this.1 with c
     simp only [L0O, L00] at c
     rcases c with c | c
     . refine .inr ⟨c.1, ?_⟩
       rcases c.2 with (c | c) | c
       . exact .inl (.inl ⟨by simpa using c.1, by simpa using c.2⟩)
       . exact .inl (.inr c)
       . exact .inr c
     . exact .inl (Jk6 _ _ _ c)
def Jcr (P : Program) (N : Nat) (bad : Nat -> Bool) : Code -> Bool
 | .skip => true
 | .label _ => true
 | .seq a b => Jcr P N bad a && Jcr P N bad b
 | .region id ops draw => (bad id || ops.toList.all (Oper.fits P N)) && (!draw || bad id || allQ P ops 0 ops.toList)
 | .cond c x y => Operand.low N c && Jcr P N bad x && Jcr P N bad y
 | .block _ c => Jcr P N bad c
 | .scope c => Jcr P N bad c
 | .loop c => Jcr P N bad c
 | .exit _ => true
 | .ret => true
 | .rangeFunc _ _ _ _ => true
 | .refuse _ => true
 | _ => false
theorem JaS {N : Nat} {d : Nat -> Bool} : ∀ (c : Code), Jcr P N d c = true -> JaX P N d c = true
 | .skip, _ => rfl
 | .label _, _ => rfl
 | .seq a b, h => by
  simp only [Jcr, L00] at h
  simp only [JaX, L00]; exact ⟨JaS a h.1, JaS b h.2⟩
 | .region _ i f, h => by
  simp only [Jcr, L00, L0O] at h; simp only [JaX, L00, L0O]
  exact ⟨h.1, h.2.imp_right JjY⟩
 | .cond c x y, h => by
  simp only [Jcr, L00] at h
  simp only [JaX, L00]; exact ⟨⟨h.1.1, JaS x h.1.2⟩, JaS y h.2⟩
 | .block _ c, h => by simp only [Jcr] at h; simp only [JaX]; exact JaS c h
 | .scope c, h => by simp only [Jcr] at h; simp only [JaX]; exact JaS c h
 | .loop c, h => by simp only [Jcr] at h; simp only [JaX]; exact JaS c h
 | .exit _, _ => rfl
 | .ret, _ => rfl
 | .rangeFunc _ _ _ _, _ => rfl
 | .refuse _, _ => rfl
def fnQ (P : Program) (fn : Func) (c : Code) : Bool :=
 Jcr P fn.ntmps JkA c && fn.results.toList.all (ResultVar.low fn.ntmps) && !(fn.name == "runtime.NumGoroutine") && Nat.ble fn.ntmps 99999
theorem JpX {b : Func} {c : Code} (h : fnQ P b c = true) : fnOK P b c = true := by
 simp only [fnQ, L00] at h; simp only [fnOK, L00]
 exact ⟨⟨⟨JaS c h.1.1.1, h.1.1.2⟩, h.1.2⟩, by simpa using h.2⟩
def putK (dst : Option Nat) (K : Env -> Jac -> Prop) (E : Env) (σ : Jac) (v : AV) : Prop := K (updO E dst v) σ
def need (A K : Prop) : Prop := A /\ K
def JaB (A : Prop) (K : AV -> Prop) (v : AV) : Prop := A /\ K v
def JhQ (A : Prop) (K : Env -> Jac -> Prop) (E : Env) (σ : Jac) : Prop := A /\ K E σ
def optV (o : Option AV) (K : AV -> Prop) : Prop := match o with | some r => K r | none => False
def Jjc (A : Prop) (o : Option AV) (K : AV -> Prop) : Prop := match o with | some r => JaB A K (.pt r 0) | none => False
def optU (A : Prop) (o : Option UInt8) (K : AV -> Prop) : Prop := match o with | some c => JaB A K (.v (.int .u8 c.toNat)) | none => False
def branch (c : Prop) (X : Env -> Jac -> Prop) (E : Env) (Y : Env -> Jac -> Prop) (E' : Env) (σ : Jac) : Prop := (c -> X E σ) /\ (¬ c -> Y E' σ)
def eqlC (op : BinOp) (o : Option Bool) (K : AV -> Prop) : Prop := match op, o with
 | .eql, some b => K (.v (.bool b))
 | .neq, some b => K (.v (.bool (!b)))
 | _, _ => False
def aggC (op : BinOp) (q : Option (List Nat)) (cs b : List AV) (K : AV -> Prop) : Prop := match q with
 | some c => eqlC op (eqK c cs b) K
 | none => False
def intC (op : BinOp) (k : IntKind) (m : Int) (k' : IntKind) (n : Int) (K : AV -> Prop) : Prop := match op with
 | .shl => JaB (0 <= n) K (.v (.int k (k.wrap (m * 2 ^ (min n.toNat k.bits)))))
 | .shr => JaB (0 <= n) K (.v (.int k (m.fdiv (2 ^ (min n.toNat k.bits)))))
 | .add => JaB (k = k') K (.v (.int k (k.wrap (m + n))))
 | .sub => JaB (k = k') K (.v (.int k (k.wrap (m - n))))
 | .mul => JaB (k = k') K (.v (.int k (k.wrap (m * n))))
 | .quo => JaB (k = k' /\ n ≠ 0) K (.v (.int k (k.wrap (m.tdiv n))))
 | .rem => JaB (k = k' /\ n ≠ 0) K (.v (.int k (m.tmod n)))
 | .eql => JaB (k = k') K (.v (.bool (m == n)))
 | .neq => JaB (k = k') K (.v (.bool (m != n)))
 | .lss => JaB (k = k') K (.v (.bool (decide (m < n))))
 | .leq => JaB (k = k') K (.v (.bool (decide (m <= n))))
 | .gtr => JaB (k = k') K (.v (.bool (decide (n < m))))
 | .geq => JaB (k = k') K (.v (.bool (decide (n <= m))))
 | .and => JaB (k = k') K (.v (.int k (Ja6 .and k m n)))
 | .or => JaB (k = k') K (.v (.int k (Ja6 .or k m n)))
 | .xor => JaB (k = k') K (.v (.int k (Ja6 .xor k m n)))
 | .andNot => JaB (k = k') K (.v (.int k (Ja6 .andNot k m n)))
def strC (op : BinOp) (a b : ByteArray) (K : AV -> Prop) : Prop := match op with
 | .add => JaB (a.size + b.size <= 9223372036854775807) K (.v (.string (a ++ b)))
 | .eql => K (.v (.bool (a.toList == b.toList)))
 | .neq => K (.v (.bool (!(a.toList == b.toList))))
 | .lss => K (.v (.bool (Op.bytesLess a.toList b.toList)))
 | .leq => K (.v (.bool (Op.bytesLess a.toList b.toList || a.toList == b.toList)))
 | .gtr => K (.v (.bool (!(Op.bytesLess a.toList b.toList || a.toList == b.toList))))
 | .geq => K (.v (.bool (!Op.bytesLess a.toList b.toList)))
 | _ => False
def JfP (op : BinOp) (u : AV) (q : Option TypeId) (K : AV -> Prop) : Prop := match op with
 | .eql => JaB (u.full = true /\ q.isSome = true) K (.v (.bool false))
 | .neq => JaB (u.full = true /\ q.isSome = true) K (.v (.bool true))
 | _ => False
def binC (P : Program) (op : BinOp) (t : TypeId) (a b : AV) (K : AV -> Prop) : Prop :=
 match a, b with
 | .v (.int k m), .v (.int f n) => intC op k m f n K
 | .v (.string a), .v (.string b) => strC op a b K
 | .v (.bool a), .v (.bool b) => match op with
  | .eql => JaB (tkind P t = some 1) K (.v (.bool (a == b)))
  | .neq => JaB (tkind P t = some 1) K (.v (.bool (!(a == b))))
  | _ => False
 | .agg c, .agg d => aggC op (teq P t) c d K
 | u, .v (.slice none 0 0) => JfP op u (tel P t) K
 | _, _ => False
theorem Jvb {op : BinOp} {k k' : IntKind} {m n : Int} {K : AV -> Prop} (h : intC op k m k' n K) : ∃ r, binI op k m k' n r /\ K r := by
 cases op <;> simp only [intC, JaB] at h <;> simp only [binI]
 all_goals first
  | exact ⟨_, ⟨h.1, rfl⟩, h.2⟩
  | exact ⟨_, ⟨h.1.1, h.1.2, rfl⟩, h.2⟩
theorem JvS {op : BinOp} {a b : ByteArray} {K : AV -> Prop} (h : strC op a b K) : ∃ r, binS op a b r /\ K r := by
 cases op <;> simp only [strC, JaB] at h <;> simp only [binS]
 all_goals first
  | exact ⟨_, ⟨h.1, rfl⟩, h.2⟩
  | exact ⟨_, rfl, h⟩
theorem Juz {P : Program} {op : BinOp} {t : TypeId} {x y : Operand} {k : TypeId} {E : Env} {σ : Jac} {K : AV -> Prop} (h : binC P op t (ev E x) (ev E y) K) : ∃ r, JaH P (.binOp op t x y k) E σ r /\ K r := by
 simp only [JaH]; unfold binC at h; generalize ev E x = u at h; generalize ev E y = v at h
 split at h
 . exact Jvb h
 . exact JvS h
 . split at h
   . exact ⟨_, ⟨h.1, .inl ⟨rfl, rfl⟩⟩, h.2⟩
   . exact ⟨_, ⟨h.1, .inr ⟨rfl, rfl⟩⟩, h.2⟩
   . exact h.elim
 . unfold aggC at h
   split at h
   . rename_i j d; unfold eqlC at h
     split at h
     . rename_i b i; exact ⟨_, ⟨j, d, b, i, .inl ⟨rfl, rfl⟩⟩, h⟩
     . rename_i b i; exact ⟨_, ⟨j, d, b, i, .inr ⟨rfl, rfl⟩⟩, h⟩
     . exact h.elim
   . exact h.elim
 . unfold JfP at h
   split at h
   . obtain ⟨⟨c, f⟩, d⟩ := h
     refine ⟨.v (.bool false), ?_, d⟩
     revert c; unfold AV.full; split
     . intro c; exact ⟨c, f, .inl ⟨rfl, rfl⟩⟩
     . intro c; exact ⟨c, f, .inl ⟨rfl, rfl⟩⟩
     . intro c; cases c
   . obtain ⟨⟨c, f⟩, d⟩ := h
     refine ⟨.v (.bool true), ?_, d⟩
     revert c; unfold AV.full; split
     . intro c; exact ⟨c, f, .inr ⟨rfl, rfl⟩⟩
     . intro c; exact ⟨c, f, .inr ⟨rfl, rfl⟩⟩
     . intro c; cases c
   . exact h.elim
 . exact h.elim
def JlX (q : Option Bool) (s : Nat) (cs : List AV) (b : Nat) (K : AV -> Prop) : Prop := match q with
 | some true => JaB (0 < s /\ b + s <= cs.length) K (.agg ((cs.drop b).take s))
 | some false => optV cs[b]? K
 | none => False
def Jgr (P : Program) (t : TypeId) (cs : List AV) (b : Nat) (K : AV -> Prop) : Prop := JlX (tagg P t) (tsz P t) cs b K
theorem JgC {P : Program} {t : TypeId} {cs : List AV} {b : Nat} {K : AV -> Prop} (h : Jgr P t cs b K) : ∃ r, Jcx P t cs b r /\ K r := by
 unfold Jgr JlX at h; unfold Jcx
 split at h
 . rename_i c; rw [c]; exact ⟨_, ⟨h.1.1, h.1.2, rfl⟩, h.2⟩
 . rename_i c; rw [c]
   unfold optV at h
   split at h
   . rename_i r d; exact ⟨r, d, h⟩
   . exact h.elim
 . exact h.elim
def Ji5 (P : Program) (t : TypeId) (o : Option AV) (j : Nat) (K : AV -> Prop) : Prop := match o with
 | some e => Jgr P t e.cells j K
 | none => False
def Job (P : Program) (t : TypeId) (o : Option Blk) (sz i j : Nat) (K : AV -> Prop) : Prop := match o with
 | some k => need (k.sz = sz) (Ji5 P t k.es[i]? j K)
 | none => False
def JhO (P : Program) (σ : Jac) (t : TypeId) (a : AV) (K : AV -> Prop) : Prop := match a with
 | .pt e j => Jgr P t e.cells j K
 | .ptr id b i j => Job P t (σ id) b i j K
 | _ => False
theorem Jhj {P : Program} {σ : Jac} {t : TypeId} {a : AV} {K : AV -> Prop} (h : JhO P σ t a K) : ∃ r, (JbY σ a λ cs j => Jcx P t cs j r) /\ K r := by
 unfold JhO at h; unfold JbY
 split at h
 . exact JgC h
 . unfold Job at h
   split at h
   . rename_i k f; obtain ⟨c, h⟩ := h; unfold Ji5 at h
     split at h
     . rename_i e b
       obtain ⟨r, i, d⟩ := JgC h
       exact ⟨r, ⟨k, f, c, e, b, i⟩, d⟩
     . exact h.elim
   . exact h.elim
 . exact h.elim
def Jez (a : AV) (K : AV -> Prop) : Prop := match a with
 | .pt e j => K (.pt e j)
 | .ptr id c i j => K (.ptr id c i j)
 | .clo g b => K (.clo g b)
 | _ => False
def Jag (c a b : AV) (K : AV -> Prop) : Prop := match c with
 | .v (.bool c) => K (if c then a else b)
 | _ => False
def tzA (P : Program) (t : TypeId) : Option AV := (tz P t).map ofC
def Jj3 (o : Option (List AV)) (K : AV -> Prop) : Prop := match o with | some b => K (.agg b) | none => False
def Jub (P : Program) (b : List (Nat × TypeId)) (i : Nat) : Option (Nat × Nat) := (b[i]?).map λ f => (f.1, tsz P f.2)
def Jua (s i : Nat) : Option (Nat × Nat) := some (i * s, s)
def JhU (P : Program) (z : AV) (q : Option (List (Nat × TypeId))) (r : Option (Nat × TypeId)) (ps : List (Nat × AV)) (K : AV -> Prop) : Prop := match q with
 | some b => need (z.ok = true /\ (b.all λ f => decide (0 < tsz P f.2)) = true) (Jj3 (Jdy (Jub P b) z.cells ps) K)
 | none => match r with
  | some (_, e) => need (z.ok = true /\ 0 < tsz P e) (Jj3 (Jdy (Jua (tsz P e)) z.cells ps) K)
  | none => False
def Jf7 (P : Program) (z : Option AV) (q : Option (List (Nat × TypeId))) (r : Option (Nat × TypeId)) (ps : List (Nat × AV)) (K : AV -> Prop) : Prop := match z with
 | some z => JhU P z q r ps K
 | none => False
theorem Jpu {P : Program} {t : TypeId} {b : Array (Nat × Operand)} {E : Env} {σ : Jac} {K : AV -> Prop} (h : Jf7 P (tzA P t) (tfld P t) (tarr P t) (b.toList.map λ p => (p.1, ev E p.2)) K) :
 ∃ r, JaH P (.build t b) E σ r /\ K r := by
 unfold Jf7 at h
 split at h
 . rename_i z o; unfold tzA at o
   obtain ⟨q, f, rfl⟩ := L0h.1 o
   unfold JhU at h
   split at h
   . rename_i s k
     obtain ⟨⟨i, j⟩, h⟩ := h
     unfold Jj3 at h
     split at h
     . rename_i d c; exact ⟨.agg d, ⟨q, f, i, .inl ⟨s, k, j, d, c, rfl⟩⟩, h⟩
     . exact h.elim
   . split at h
     . rename_i m e l
       obtain ⟨⟨i, j⟩, h⟩ := h
       unfold Jj3 at h
       split at h
       . rename_i d c; exact ⟨.agg d, ⟨q, f, i, .inr ⟨m, e, l, j, d, c, rfl⟩⟩, h⟩
       . exact h.elim
     . exact h.elim
 . exact h.elim
def unC (op : UnOp) (a : AV) (K : AV -> Prop) : Prop := match op, a with
 | .not, .v (.bool b) => K (.v (.bool (!b)))
 | .neg, .v (.int k n) => K (.v (.int k (k.wrap (0 - n))))
 | .xor, .v (.int k n) => K (.v (.int k (Ja6 .xor k (if k.signed then -1 else k.max) n)))
 | _, _ => False
def tund (P : Program) (t : TypeId) : Bool := (P.underlying t).isSome
def JjX (u : Bool) (q : Option IntKind) (a : AV) (K : AV -> Prop) : Prop := match q, a with
 | some k, .v (.int _ n) => JaB (u = true) K (.v (.int k (k.wrap n)))
 | _, _ => False
def fldB (P : Program) (o : Option (Nat × TypeId)) (a : AV) (K : AV -> Prop) : Prop := match o, a with
 | some (b, t), .pt e j => JaB (0 < tsz P t) K (.pt e (j + b))
 | some (b, t), .ptr id d i j => JaB (0 < tsz P t) K (.ptr id d i (j + b))
 | some (b, t), .agg c => Jgr P t c b K
 | _, _ => False
def fldC (P : Program) (q : Option (List (Nat × TypeId))) (f : Nat) (a : AV) (K : AV -> Prop) : Prop := match q with
 | some b => fldB P b[f]? a K
 | none => False
def idxP (P : Program) (q : Option TypeId) (r : Option (Nat × TypeId)) (x : AV) (n : Int) (K : AV -> Prop) : Prop := match q with
 | some e => match x with
  | .sl b d => Jjc (0 < b /\ tsz P e = b /\ 0 <= n) d[n.toNat]? K
  | .own id b o l => JaB (0 < b /\ tsz P e = b /\ 0 <= n /\ n < (l : Int)) K (.ptr id b (o + n.toNat) 0)
  | _ => False
 | none => match r, x with
  | some (m, e), .pt c j => JaB (0 < tsz P e /\ 0 <= n /\ n < (m : Int)) K (.pt c (j + n.toNat * tsz P e))
  | some (m, e), .ptr id b o j => JaB (0 < tsz P e /\ 0 <= n /\ n < (m : Int)) K (.ptr id b o (j + n.toNat * tsz P e))
  | _, _ => False
def JcI (P : Program) (t : TypeId) (x i : AV) (K : AV -> Prop) : Prop := match i with
 | .v (.int _ n) => idxP P (tel P t) (tarr P t) x n K
 | _ => False
theorem JlH {P : Program} {t : TypeId} {x i : Operand} {E : Env} {σ : Jac} {K : AV -> Prop} (h : JcI P t (ev E x) (ev E i) K) : ∃ r, JaH P (.indexAddr t x i) E σ r /\ K r := by
 unfold JcI at h; simp only [JaH]; generalize ev E x = u at h; generalize ev E i = v at h
 split at h
 . rename_i k n; unfold idxP at h
   split at h
   . rename_i e f
     split at h
     . rename_i s w; unfold Jjc at h
       split at h
       . rename_i c q
         obtain ⟨⟨b, p, d⟩, h⟩ := h
         exact ⟨_, .inl ⟨e, f, b, p, d, c, q, rfl⟩, h⟩
       . exact h.elim
     . obtain ⟨⟨b, p, d, l⟩, h⟩ := h
       exact ⟨_, .inl ⟨e, f, b, p, d, l, rfl⟩, h⟩
     . exact h.elim
   . split at h
     . rename_i m e c j f
       obtain ⟨⟨b, d, l⟩, h⟩ := h
       exact ⟨_, .inr ⟨m, e, f, b, d, l, rfl⟩, h⟩
     . rename_i m e id s o j f
       obtain ⟨⟨b, d, l⟩, h⟩ := h
       exact ⟨_, .inr ⟨m, e, f, b, d, l, rfl⟩, h⟩
     . exact h.elim
 . exact h.elim
def idxG (P : Program) (r : Option (Nat × TypeId)) (cs : List AV) (n : Int) (K : AV -> Prop) : Prop := match r with
 | some (m, e) => need (0 < tsz P e /\ 0 <= n /\ n < (m : Int)) (Jgr P e cs (n.toNat * tsz P e) K)
 | none => False
def idxC (P : Program) (t : TypeId) (x i : AV) (K : AV -> Prop) : Prop := match i, x with
 | .v (.int _ n), .v (.string s) => optU (tstr P t = true /\ 0 <= n) s[n.toNat]? K
 | .v (.int _ n), .agg b => idxG P (tarr P t) b n K
 | _, _ => False
theorem Ju7 {P : Program} {t : TypeId} {x i : Operand} {E : Env} {σ : Jac} {K : AV -> Prop} (h : idxC P t (ev E x) (ev E i) K) : ∃ r, JaH P (.index t x i) E σ r /\ K r := by
 unfold idxC at h; simp only [JaH]; generalize ev E x = u at h; generalize ev E i = v at h
 split at h
 . rename_i k n s; unfold optU at h
   split at h
   . rename_i c l; exact ⟨_, ⟨h.1.1, h.1.2, c, l, rfl⟩, h.2⟩
   . exact h.elim
 . rename_i k n q; unfold idxG at h
   split at h
   . rename_i m e o
     obtain ⟨⟨b, d, f⟩, h⟩ := h
     obtain ⟨r, p, j⟩ := JgC h
     exact ⟨r, ⟨m, e, o, b, d, f, p⟩, j⟩
   . exact h.elim
 . exact h.elim
def JeP (E : Env) (x : Option Operand) (d : Nat) : AV := match x with
 | none => .v (.int .i64 d)
 | some y => ev E y
theorem Jbj {E : Env} {x : Option Operand} {d : Nat} {k : IntKind} {n : Int} (h : JeP E x d = .v (.int k n)) (c : 0 <= n) {K : Nat -> Prop} (b : K n.toNat) : bound E x d K := by
 unfold JeP at h; unfold bound
 split at h
 . cases h; simpa using b
 . simp only [h]; exact ⟨c, b⟩
def cutE (P : Program) (q : Option TypeId) (u : Bool) (x lo hi : AV) (K : AV -> Prop) : Prop := match x, lo, hi with
 | .sl b c, .v (.int _ l), .v (.int _ h) => match q with
  | some e => JaB (0 < b /\ tsz P e = b /\ 0 <= l /\ l <= h /\ h <= (c.length : Int)) K (.sl b ((c.drop l.toNat).take (h.toNat - l.toNat)))
  | none => False
 | .own id b o n, .v (.int _ l), .v (.int _ h) => match q with
  | some e => JaB (0 < b /\ tsz P e = b /\ 0 <= l /\ l <= h /\ h <= (n : Int)) K (.own id b (o + l.toNat) (h.toNat - l.toNat))
  | none => False
 | .v (.string s), .v (.int _ l), .v (.int _ h) => JaB (u = true /\ 0 <= l /\ l <= h /\ h <= (s.size : Int)) K (.v (.string (s.extract l.toNat h.toNat)))
 | _, _, _ => False
def lenN (x : AV) : Nat := match x with
 | .sl _ b => b.length
 | .own _ _ _ n => n
 | .v (.string s) => s.size
 | _ => 0
theorem JuK {P : Program} {t : TypeId} {E : Env} {σ : Jac} {x : Operand} {lo hi : Option Operand} {K : AV -> Prop} (h : cutE P (tel P t) (tstr P t) (ev E x) (JeP E lo 0) (JeP E hi (lenN (ev E x))) K) :
 ∃ r, JaH P (.slice t x lo hi none) E σ r /\ K r := by
 unfold cutE at h; simp only [JaH]
 split at h
 . rename_i z y k l w n c i b
   split at h
   . rename_i e p
     obtain ⟨⟨j, d, f, q, u⟩, h⟩ := h
     rw [c] at b; rw [c]
     exact ⟨_, .inl ⟨e, p, y.length, rfl, Jbj b (by omega) (Jbj i f ⟨j, d, by omega, by omega, rfl⟩)⟩, h⟩
   . exact h.elim
 . rename_i id z o m k l w n c i b
   split at h
   . rename_i e p
     obtain ⟨⟨j, d, f, q, u⟩, h⟩ := h
     rw [c] at b; rw [c]
     exact ⟨_, .inl ⟨e, p, m, rfl, Jbj b (by omega) (Jbj i f ⟨j, d, by omega, by omega, rfl⟩)⟩, h⟩
   . exact h.elim
 . rename_i s k l w n c i b
   obtain ⟨⟨d, f, q, u⟩, h⟩ := h
   rw [c] at b; rw [c]
   exact ⟨_, .inr ⟨d, s.size, rfl, Jbj b (by omega) (Jbj i f ⟨by omega, by omega, rfl⟩)⟩, h⟩
 . exact h.elim
def lenC (u : Bool) (q : Option TypeId) (x : AV) (K : AV -> Prop) : Prop := match x with
 | .v (.string s) => JaB (u = true) K (.v (.int .i64 (s.size : Int)))
 | .sl _ b => JaB (q.isSome = true) K (.v (.int .i64 (b.length : Int)))
 | .own _ _ _ n => JaB (q.isSome = true) K (.v (.int .i64 (n : Int)))
 | .v (.slice _ n _) => JaB (q.isSome = true) K (.v (.int .i64 (n : Int)))
 | _ => False
def maxC (l : List AV) (K : AV -> Prop) : Prop := match l with
 | [.v (.int k a), .v (.int _ b)] => K (.v (.int k (if b > a then b else a)))
 | _ => False
def sldC (l : List AV) (K : AV -> Prop) : Prop := match l with
 | [.own id b 0 (_ + 1)] => JaB (b = 1) K (.ptr id 1 0 0)
 | _ => False
def minC (l : List AV) (K : AV -> Prop) : Prop := match l with
 | [.v (.int k a), .v (.int _ b)] => K (.v (.int k (if b < a then b else a)))
 | _ => False
def extC (x : AV) (i : Nat) (K : AV -> Prop) : Prop := match x with
 | .tup vs => optV vs[i]? K
 | _ => False
def JdN (f : Nat) (first : List Operand) (cs b : List AV) (K : AV -> Prop) : Prop := match first with
 | [] => JaB (JaM cs = true) K (.clo f cs)
 | _ :: _ => JaB (cs = []) K (.clo f (.v (.tuple #[]) :: b))
def JlY (P : Program) (op : Op) (E : Env) (σ : Jac) (K : AV -> Prop) : Prop := match op with
 | .move x => K (ev E x)
 | .assign x => K (ev E x)
 | .pick c x y => Jag (ev E c) (ev E x) (ev E y) K
 | .load t x => JhO P σ t (ev E x) K
 | .nilCheck x => Jez (ev E x) K
 | .binOp op t x y _ => binC P op t (ev E x) (ev E y) K
 | .build t d => Jf7 P (tzA P t) (tfld P t) (tarr P t) (d.toList.map λ p => (p.1, ev E p.2)) K
 | .unOp op _ x => unC op (ev E x) K
 | .convert j h x => JjX (tund P j) (tint P h) (ev E x) K
 | .makeFunc (.func f) first k => JdN f first.toList (k.toList.map (ev E)) (first.toList.map (ev E)) K
 | .fieldAddr s x f => (match ev E x with | .agg _ => False | _ => True) /\ fldC P (tfld P s) f (ev E x) K
 | .field s x f => (match ev E x with | .agg _ => True | _ => False) /\ fldC P (tfld P s) f (ev E x) K
 | .indexAddr t x i => JcI P t (ev E x) (ev E i) K
 | .index t x i => idxC P t (ev E x) (ev E i) K
 | .extract x i => extC (ev E x) i K
 | .slice t x m l none => cutE P (tel P t) (tstr P t) (ev E x) (JeP E m 0) (JeP E l (lenN (ev E x))) K
 | .call { callee := .builtin .len, args, argTypes } => match args.toList, argTypes.toList with
  | [x], [t] => lenC (tstr P t) (tel P t) (ev E x) K
  | _, _ => False
 | .call { callee := .builtin .max, args, argTypes := _ } => maxC (args.toList.map (ev E)) K
 | .call { callee := .builtin .min, args, argTypes := _ } => minC (args.toList.map (ev E)) K
 | .call { callee := .builtin .unsafeSliceData, args, argTypes := _ } => sldC (args.toList.map (ev E)) K
 | _ => False
theorem Js8 {P : Program} {op : Op} {E : Env} {σ : Jac} {K : AV -> Prop} (h : JlY P op E σ K) : ∃ r, JaH P op E σ r /\ K r := by
 unfold JlY at h
 split at h
 . exact ⟨_, rfl, h⟩
 . exact ⟨_, rfl, h⟩
 . unfold Jag at h
   split at h
   . rename_i c x y I D; refine ⟨_, ?_, h⟩; simp only [JaH, D]
   . exact h.elim
 . exact Jhj h
 . unfold Jez at h
   split at h
   . rename_i b; refine ⟨_, ?_, h⟩; simp only [JaH, b]
   . rename_i b; refine ⟨_, ?_, h⟩; simp only [JaH, b]
   . rename_i b; refine ⟨_, ?_, h⟩; simp only [JaH, b]
   . exact h.elim
 . exact Juz h
 . exact Jpu h
 . rename_i op t x; unfold unC at h
   split at h
   . rename_i b; refine ⟨_, ?_, h⟩; simp only [JaH, b]
   . rename_i b; refine ⟨_, ?_, h⟩; simp only [JaH, b]
   . rename_i b; refine ⟨_, ?_, h⟩; simp only [JaH, b]
   . exact h.elim
 . unfold JjX at h
   split at h
   . rename_i G b; refine ⟨_, ?_, h.2⟩
     have := h.1
     simp only [tund, L2n] at this
     simp only [JaH, G, b]; exact ⟨this, trivial⟩
   . exact h.elim
 . rename_i f first z; unfold JdN at h
   split at h
   . rename_i w
     exact ⟨_, .inl ⟨L12.1 (by rw [w]), h.1, rfl⟩, h.2⟩
   . have A : z.toList = [] := L29.1 h.1
     exact ⟨_, .inr ⟨L12.1 (by rw [A]), rfl⟩, h.2⟩
 . rename_i s x f; obtain ⟨p, h⟩ := h; unfold fldC at h
   split at h
   . rename_i q l; unfold fldB at h
     split at h
     . rename_i k t e j m b; refine ⟨_, ?_, h.2⟩; simp only [JaH, b]; exact ⟨q, l, k, t, m, h.1, rfl⟩
     . rename_i k t id J i j m b; refine ⟨_, ?_, h.2⟩; simp only [JaH, b]; exact ⟨q, l, k, t, m, h.1, rfl⟩
     . rename_i m b; rw [b] at p; exact p.elim
     . exact h.elim
   . exact h.elim
 . rename_i s x f; obtain ⟨p, h⟩ := h; unfold fldC at h
   split at h
   . rename_i q l; unfold fldB at h
     split at h
     . rename_i m b; rw [b] at p; exact p.elim
     . rename_i m b; rw [b] at p; exact p.elim
     . rename_i k t z m b
       obtain ⟨r, F, B⟩ := JgC h
       refine ⟨r, ?_, B⟩; simp only [JaH, b]; exact ⟨q, l, k, t, m, F⟩
     . exact h.elim
   . exact h.elim
 . exact JlH h
 . exact Ju7 h
 . unfold extC at h
   split at h
   . rename_i vs b; unfold optV at h
     split at h
     . rename_i r H; refine ⟨r, ?_, h⟩; simp only [JaH, b]; exact H
     . exact h.elim
   . exact h.elim
 . exact JuK h
 . rename_i d o
   split at h
   . rename_i x t C u; unfold lenC at h; simp only [JaH, C, u]
     split at h
     . rename_i s b; exact ⟨_, .inl ⟨h.1, by rw [b]⟩, h.2⟩
     . rename_i b; exact ⟨_, .inr (.inl ⟨h.1, by rw [b]⟩), h.2⟩
     . rename_i b; exact ⟨_, .inr (.inl ⟨h.1, by rw [b]⟩), h.2⟩
     . rename_i b; exact ⟨_, .inr (.inl ⟨h.1, by rw [b]⟩), h.2⟩
     . exact h.elim
   . exact h.elim
 . rename_i d o; unfold maxC at h
   split at h
   . rename_i b; refine ⟨_, ?_, h⟩; simp only [JaH, b]
   . exact h.elim
 . rename_i d o; unfold minC at h
   split at h
   . rename_i b; refine ⟨_, ?_, h⟩; simp only [JaH, b]
   . exact h.elim
 . rename_i d o; unfold sldC at h
   split at h
   . rename_i b; refine ⟨_, ?_, h.2⟩; simp only [JaH, b]; exact ⟨h.1, trivial⟩
   . exact h.elim
 . exact h.elim
def newK (d : Nat) (K : Env -> Jac -> Prop) (E : Env) (σ : Jac) (v : AV) (b : List (Nat × Blk)) : Prop := K (upd E d v) (addS σ b)
def Jei (A : Prop) (K : AV -> List (Nat × Blk) -> Prop) (v : AV) (b : List (Nat × Blk)) : Prop := A /\ K v b
def nilC (P : Program) (d : Nat) (q : Option TypeId) (K : AV -> List (Nat × Blk) -> Prop) : Prop := match q with
 | some e => K (.own (16 * d) (tsz P e) 0 0) [(16 * d, ⟨e, tsz P e, []⟩)]
 | none => False
def JgO (P : Program) (d : Nat) (t : TypeId) (q : Option TypeId) (s : Nat) (z : Option AV) (K : AV -> List (Nat × Blk) -> Prop) : Prop := match q with
 | some e => Jei (tz P t = some (.slice none 0 0) /\ s = 1) K (.ptr (16 * d) 1 0 0) [(16 * d + 1, ⟨e, tsz P e, []⟩), (16 * d, ⟨t, 1, [.own (16 * d + 1) (tsz P e) 0 0]⟩)]
 | none => match z with
  | some z => Jei (z.ok = true /\ z.cells.length = s /\ s ≠ 0) K (.ptr (16 * d) s 0 0) [(16 * d, ⟨t, s, [z]⟩)]
  | none => False
def boxC (d : Nat) (t : TypeId) (s : Nat) (x : AV) (K : AV -> List (Nat × Blk) -> Prop) : Prop := Jei (x.ok = true /\ x.cells.length = s /\ s ≠ 0) K (.ptr (16 * d) s 0 0) [(16 * d, ⟨t, s, [x]⟩)]
def Jbv (s : Nat) (xs : List AV) : Bool := xs.all λ e => e.ok && e.cells.length == s
def Jes (P : Program) (d : Nat) (q : Option TypeId) (len : Nat) (b : List Nat) (xs : List AV) (K : AV -> List (Nat × Blk) -> Prop) : Prop := match q with
 | some e => match tzA P e with
  | some z => Jei (0 < tsz P e /\ z.ok = true /\ z.cells.length = tsz P e /\ len * tsz P e <= 16777216 /\ b = List.range len /\ Jbv (tsz P e) xs = true) K (.own (16 * d) (tsz P e) 0 len) [(16 * d, ⟨e, tsz P e, xs⟩)]
  | none => False
 | none => False
def Jey (P : Program) (d : Nat) (q : Option TypeId) (l c : AV) (K : AV -> List (Nat × Blk) -> Prop) : Prop := match q, l, c with
 | some e, .v (.int _ n), .v (.int _ m) => match tzA P e with
  | some z => Jei (0 < tsz P e /\ z.ok = true /\ z.cells.length = tsz P e /\ 0 <= n /\ n <= m /\ m * (tby P e : Int) <= 281474976710656 /\ m <= 4611686018427387904) K (.own (16 * d) (tsz P e) 0 n.toNat) [(16 * d, ⟨e, tsz P e, List.replicate n.toNat z⟩)]
  | none => False
 | _, _, _ => False
def newC (P : Program) (d : Nat) (op : Op) (ty : TypeId) (E : Env) (K : AV -> List (Nat × Blk) -> Prop) : Prop := match op with
 | .move (.const (.slice none 0 0)) => nilC P d (tel P ty) K
 | .assign (.const (.slice none 0 0)) => nilC P d (tel P ty) K
 | .alloc t => JgO P d t (tel P t) (tsz P t) (tzA P t) K
 | .box t x => boxC d t (tsz P t) (ev E x) K
 | .buildSlice t len b => Jes P d (tel P t) len (b.toList.map (·.1)) (b.toList.map λ p => ev E p.2) K
 | .makeSlice t l c => Jey P d (tel P t) (ev E l) (ev E c) K
 | _ => False
theorem JgL {P : Program} {t : TypeId} {z : AV} (h : tzA P t = some z) : ∃ b, tz P t = some b /\ ofC b = z := by
 unfold tzA at h; exact L0h.1 h
theorem Jvo {P : Program} {d : Nat} {op : Op} {ty : TypeId} {E : Env} {K : AV -> List (Nat × Blk) -> Prop} (h : newC P d op ty E K) : ∃ v A, newV P d op ty E v A /\ K v A := by
 unfold newC at h
 split at h
 . unfold nilC at h
   split at h
   . rename_i e b; exact ⟨_, _, ⟨e, b, rfl, rfl⟩, h⟩
   . exact h.elim
 . unfold nilC at h
   split at h
   . rename_i e b; exact ⟨_, _, ⟨e, b, rfl, rfl⟩, h⟩
   . exact h.elim
 . rename_i t; unfold JgO at h
   split at h
   . rename_i e b
     refine ⟨_, _, ?_, h.2⟩
     simp only [newV, b]; exact ⟨h.1.1, h.1.2, trivial, trivial⟩
   . rename_i b
     split at h
     . rename_i z i
       obtain ⟨j, f, rfl⟩ := JgL i
       refine ⟨_, _, ?_, h.2⟩
       simp only [newV, b]; exact ⟨j, f, h.1.1, h.1.2.1, h.1.2.2, trivial, rfl⟩
     . exact h.elim
 . exact ⟨_, _, ⟨h.1.1, h.1.2.1, h.1.2.2, rfl, rfl⟩, h.2⟩
 . unfold Jes at h
   split at h
   . rename_i e b
     split at h
     . rename_i z i
       obtain ⟨j, f, rfl⟩ := JgL i
       obtain ⟨⟨o, q, s, u, w, y⟩, h⟩ := h
       refine ⟨_, _, ⟨e, b, o, ⟨j, f, q, s⟩, u, w, λ p F => ?_, rfl, rfl⟩, h⟩
       have := (L0f.1 y) _ (L05.2 ⟨p, F, rfl⟩)
       simpa using this
     . exact h.elim
   . exact h.elim
 . rename_i t l c; unfold Jey at h
   split at h
   . rename_i e k n G m b D C
     split at h
     . rename_i z i
       obtain ⟨j, f, rfl⟩ := JgL i
       obtain ⟨⟨o, q, s, u, w, y, B⟩, h⟩ := h
       refine ⟨_, _, ?_, h⟩
       simp only [newV, D, C]; exact ⟨e, b, o, j, f, q, s, u, w, y, B, rfl, rfl⟩
     . exact h.elim
   . exact h.elim
 . exact h.elim
def impK (x : AV × List (Nat × Blk)) (dst : Option Nat) (K : Env -> Jac -> Prop) (E : Env) (σ : Jac) : Prop := K (updO E dst x.1) (addS σ x.2)
def semD (S : Sp) (dst : Option Nat) (op : Op) (ty : TypeId) (K : Env -> Jac -> Prop) (E : Env) (σ : Jac) : Prop := ∀ d b c, semV S ⟨dst, op, ty, d, b, c⟩ K E σ
def JnG (S : Sp) (d c : Bool) (f : Nat) (g : Nat) (b : Bool) (args : List AV) (dst : Option Nat) (K : Env -> Jac -> Prop) (E : Env) (σ : Jac) (L : Prop) : Prop :=
 (∃ r, Ev S.P g args r /\ (b = false \/ r.flat = true) /\ rlen r <= 16 /\ (d = true \/ r.dn = false) /\ impK (imp (16 * f) r) dst K E σ) \/ (c = true /\ L)
def yldK (S : Sp) (dst : Option Nat) (K : Env -> Jac -> Prop) (E : Env) (σ : Jac) (v g : AV) : Prop := K (updO (upd E S.N g) dst v) σ
def Jsu (b : Bool) (A B : Prop) : Prop := match b with
 | true => A
 | false => B
def Jli (S : Sp) (k h : Bool) (m : Nat) (f : AV) (args : List AV) (dst : Option Nat) (K i : Env -> Jac -> Prop) (E : Env) (σ : Jac) (E' : Env) (d : Jac) (b : List AV) (j : AV) (L : Prop) : Prop :=
 match f with
 | .yld l => need (h = true /\ l = S.yl /\ AV.namesL allB args = false) (S.Y args (E S.N) (yldK S dst i E σ))
 | _ => match j with
  | .clo g c => Jsu (JaM c) (JnG S k h m g (AV.namesL allB (b ++ c)) ((b ++ c).map (res d)) dst K E' d L) (h = true /\ L)
  | _ => False
def appK (d : Nat) (K : Env -> Jac -> Prop) (E : Env) (σ : Jac) (id sz n : Nat) (k : Blk) : Prop := K (upd (JaU (isId id) E) d (.own id sz 0 n)) (updS (Jao (isId id) σ) id (k.kill (isId id)))
def srcC (σ : Jac) (x : AV) : Option (Nat × List AV) := match x with
 | .sl b c => some (b, c)
 | .v (.string s) => some (1, (bI s).map Y)
 | .own id b i n => (σ id).bind λ k => if k.sz = b /\ i + n <= k.es.length then some (b, (k.es.drop i).take n) else none
 | _ => none
def JhP (A : Prop) (K : Nat -> Nat -> Nat -> Blk -> Prop) (id sz n : Nat) (k : Blk) : Prop := A /\ K id sz n k
def appA (P : Program) (q : Option TypeId) (s : AV) (h : Nat -> Option Blk) (d : Option (Nat × List AV)) (K : Nat -> Nat -> Nat -> Blk -> Prop) : Prop := match q, s, d with
 | some e, .own id b 0 n, some (f, c) => match h id, tzA P e with
  | some k, some z => JhP (0 < tsz P e /\ z.ok = true /\ z.cells.length = tsz P e /\ b = tsz P e /\ k.sz = b /\ k.e = e /\ n <= k.es.length /\ f = b /\ Jbv b c = true /\ (n + c.length) * tby P e <= 140737488355328 /\ n + c.length <= 4611686018427387904) K
   id b (n + c.length) ⟨e, b, k.es.take n ++ c⟩
  | _, _ => False
 | _, _, _ => False
def appC (P : Program) (args : List Operand) (b : List TypeId) (E : Env) (σ : Jac) (K : Nat -> Nat -> Nat -> Blk -> Prop) : Prop := match args, b with
 | [s, x], [t, c] => need (appT P t c (ev E x) = true) (appA P (tel P t) (ev E s) σ (srcC σ (ev E x)) K)
 | _, _ => False
theorem Jrt {σ : Jac} {x : AV} {K : Nat -> List AV -> Prop} {sz : Nat} {xs : List AV} (h : srcC σ x = some (sz, xs)) (b : K sz xs) : Jeq σ x K := by
 unfold srcC at h; unfold Jeq
 split at h
 . cases h; exact b
 . cases h; exact b
 . rename_i id f i n
   obtain ⟨k, d, h⟩ := Option.bind_eq_some_iff.1 h
   split at h
   . rename_i c; cases h; exact ⟨k, d, c.1, c.2, b⟩
   . cases h
 . cases h
theorem Juw {P : Program} {args : Array Operand} {b : Array TypeId} {E : Env} {σ : Jac} {K : Nat -> Nat -> Nat -> Blk -> Prop} (h : appC P args.toList b.toList E σ K) :
 appV P (.call { callee := .builtin .append, args, argTypes := b }) E σ K := by
 simp only [appV]
 revert h
 generalize args.toList = l; generalize b.toList = m
 intro h
 unfold appC at h
 split at h
 . obtain ⟨j, h⟩ := h
   refine ⟨j, ?_⟩
   unfold appA at h
   split at h
   . rename_i e id I n G J f C D
     split at h
     . rename_i k z B F
       obtain ⟨H, i, rfl⟩ := JgL F
       obtain ⟨⟨o, p, q, s, t, u, w, y, A, c, d⟩, h⟩ := h
       refine ⟨e, f, o, ⟨H, i, p, q⟩, ?_⟩
       rw [C]
       exact ⟨s, k, B, t, u, w, Jrt D ⟨λ _ => y, λ e f => by have := L0f.1 A e f; simpa using this, c, d, h⟩⟩
     . exact h.elim
   . exact h.elim
 . exact h.elim
def stoE (P : Program) (t : TypeId) (k : Blk) (o : Option AV) (id sz i j : Nat) (v : AV) (K : Env -> Jac -> Prop) (E : Env) (σ : Jac) : Prop := match o with
 | some e => JhQ (k.sz = sz /\ v.ok = true /\ v.cells.length = tsz P t /\ 0 < tsz P t /\ j + tsz P t <= sz) K E (updS σ id ⟨k.e, k.sz, k.es.set i (setC e j v)⟩)
 | none => False
def stoB (P : Program) (t : TypeId) (o : Option Blk) (id sz i j : Nat) (v : AV) (K : Env -> Jac -> Prop) (E : Env) (σ : Jac) : Prop := match o with
 | some k => stoE P t k k.es[i]? id sz i j v K E σ
 | none => False
def JhI (P : Program) (t : TypeId) (x v : AV) (dst : Option Nat) (K : Env -> Jac -> Prop) (E : Env) (σ : Jac) : Prop := match x with
 | .ptr id b i j => stoB P t (σ id) id b i j v K (updO E dst (.v undef)) σ
 | _ => False
def JlQ (S : Sp) (c : Bool) (dst : Option Nat) (ty : TypeId) (x : Operand) (K : Env -> Jac -> Prop) (E : Env) (σ : Jac) : Prop := match x with
 | .const (.slice none 0 0) => match tel S.P ty with
  | some e => match dst with
   | some d => nilC S.P (S.b + d) (some e) (newK d K (kE c (S.b + d) E) (kS c (S.b + d) σ))
   | none => False
  | none => putK dst K E σ (.v (.slice none 0 0))
 | x => putK dst K E σ (ev E x)
def newA (S : Sp) (c : Bool) (dst : Option Nat) (op : Op) (ty : TypeId) (K : Env -> Jac -> Prop) (E : Env) (σ : Jac) : Prop := match dst with
 | some d => newC S.P (S.b + d) op ty (kE c (S.b + d) E) (newK d K (kE c (S.b + d) E) (kS c (S.b + d) σ))
 | none => False
def Jov (S : Sp) (dst : Option Nat) (op : Op) (ty : TypeId) (c : Nat) (K b : Env -> Jac -> Prop) (E : Env) (σ : Jac) : Prop := match c with
 | 0 => JlY S.P op E σ (putK dst K E σ)
 | 5 => semD S dst op ty b E σ
 | _ => False
def aopC (S : Sp) (i o : Bool) (dst : Option Nat) (op : Op) (ty : TypeId) (K m : Env -> Jac -> Prop) (E : Env) (σ : Jac) : Prop := match op with
 | .move x => JlQ S i dst ty x K E σ
 | .assign x => JlQ S i dst ty x K E σ
 | .alloc t => newA S i dst (.alloc t) ty K E σ
 | .box t x => newA S i dst (.box t x) ty K E σ
 | .buildSlice t len j => newA S i dst (.buildSlice t len j) ty K E σ
 | .makeSlice t l c => newA S i dst (.makeSlice t l c) ty K E σ
 | .call { callee := .value f, args, argTypes } =>
  Jli S i o (S.b + dst.getD 99999) (ev E f) (args.toList.map (ev E)) dst K m E σ (kE i (S.b + dst.getD 99999) E) (kS i (S.b + dst.getD 99999) σ) (args.toList.map (ev (kE i (S.b + dst.getD 99999) E))) (ev (kE i (S.b + dst.getD 99999) E) f)
   (semD S dst (.call { callee := .value f, args, argTypes }) ty m E σ)
 | .call { callee := .builtin .append, args, argTypes } => match dst with
  | some d => appC S.P args.toList argTypes.toList E σ λ id p n k => need (S.pin id = false) (appK d m E σ id p n k)
  | none => False
 | .store t x y => JhI S.P t (ev E x) (ev E y) dst m E σ
 | op => Jov S dst op ty (cls S.P op ty) K m E σ
def JcV (S : Sp) : Prop := ∀ b g (K c : AV -> AV -> Prop), (∀ v g, K v g -> c v g) -> S.Y b g K -> S.Y b g c
theorem Jfi {S : Sp} {o : Oper} {K K' : Env -> Jac -> Prop} {E : Env} {σ : Jac} (i : ∀ E σ, K E σ -> K' E σ) (h : semV S o K E σ) : semV S o K' E σ :=
 λ C H n a w d Q l j => h C H n a w d Q l λ c b f m k => j c b f m (i _ _ k)
theorem Jsk {P : Program} {ty : TypeId} (x : Operand) (b : x = .const (.slice none 0 0) -> False) : cls P (.move x) ty = 0 /\ cls P (.assign x) ty = 0 := by
 cases x with
 | const v => cases v with
  | slice a n c => cases a <;> cases n <;> cases c <;> first | exact ⟨rfl, rfl⟩ | exact (b rfl).elim
  | _ => exact ⟨rfl, rfl⟩
 | _ => exact ⟨rfl, rfl⟩
theorem JgR {S : Sp} (hY : JcV S) {D G : Bool} {o : Oper} {K K' U Kb' : Env -> Jac -> Prop} {E : Env} {σ : Jac} (M : ∀ E σ, K E σ -> K' E σ) (s : ∀ E σ, U E σ -> Kb' E σ) (h : aopC S D G o.dst o.op o.type K U E σ) :
 aop S D G o K' Kb' E σ := by
 obtain ⟨q, op, A, w, b, c⟩ := o
 simp only at h
 have p : ∀ {op : Op}, cls S.P op A = 0 -> JlY S.P op E σ (putK q K E σ) -> aop S D G ⟨q, op, A, w, b, c⟩ K' Kb' E σ := λ B h => by
  obtain ⟨r, R, z⟩ := Js8 h
  simp only [aop, B]; exact ⟨r, R, M _ _ z⟩
 have m : ∀ {op : Op}, cls S.P op A = 1 -> newA S D q op A K E σ -> aop S D G ⟨q, op, A, w, b, c⟩ K' Kb' E σ := λ B h => by
  unfold newA at h
  split at h
  . obtain ⟨v, L, R, z⟩ := Jvo h
    simp only [aop, B]; exact ⟨_, rfl, v, L, R, M _ _ z⟩
  . exact h.elim
 have C : ∀ (x : Operand) (op : Op), op = .move x \/ op = .assign x -> JlQ S D q A x K E σ -> aop S D G ⟨q, op, A, w, b, c⟩ K' Kb' E σ := λ x op u h => by
  unfold JlQ at h
  split at h
  . split at h
    . rename_i e F
      split at h
      . refine m ?_ ?_
        . rcases u with rfl | rfl <;> simp [cls, F]
        . rcases u with rfl | rfl <;> simpa only [newA, newC, F] using h
      . exact h.elim
    . rename_i F
      refine p ?_ ?_
      . rcases u with rfl | rfl <;> simp [cls, F]
      . rcases u with rfl | rfl <;> exact h
  . rename_i Q
    refine p ?_ ?_
    . have := Jsk (P := S.P) (ty := A) x Q
      rcases u with rfl | rfl
      . exact this.1
      . exact this.2
    . rcases u with rfl | rfl <;> exact h
 unfold aopC at h
 split at h
 . exact C _ _ (.inl rfl) h
 . exact C _ _ (.inr rfl) h
 . exact m rfl h
 . exact m rfl h
 . exact m rfl h
 . exact m rfl h
 . rename_i f V X
   show (∃ v L, JeQ S _ _ _ _ _ v L /\ _) \/ _
   unfold Jli at h
   split at h
   . rename_i l O
     obtain ⟨⟨H, I, J⟩, h⟩ := h
     refine .inr (.inl ⟨H, ?_⟩)
     simp only [Jns, O]
     exact ⟨I, J, hY _ _ _ _ (λ v g z => s _ _ z) h⟩
   . split at h
     . rename_i g W hg; unfold Jsu at h
       split at h
       rotate_left
       . exact .inr (.inr ⟨h.1, Jfi s (h.2 w b c)⟩)
       rename_i N
       rcases h with ⟨r, T, H, I, J, z⟩ | ⟨hb, O⟩
       . refine .inl ⟨_, _, ?_, M _ _ z⟩
         simp only [JeQ, hg]
         exact ⟨N, r, T, H, I, J, rfl, rfl⟩
       . exact .inr (.inr ⟨hb, Jfi s (O w b c)⟩)
     . exact h.elim
 . split at h
   . rename_i d
     have := Juw h
     show ∃ d, _ /\ appV _ _ _ _ _
     refine ⟨d, rfl, ?_⟩
     exact JjH (λ id sz n k z => ⟨z.1, s _ _ z.2⟩) this
   . exact h.elim
 . rename_i t x y
   have B : cls S.P (.store t x y) A = 4 := rfl
   simp only [aop, B, Jer]; unfold JhI at h
   split at h
   . rename_i id sz i j hx; unfold stoB at h
     split at h
     . rename_i k z; unfold stoE at h
       split at h
       . rename_i e F
         obtain ⟨⟨H, I, J, Y, Z⟩, h⟩ := h
         rw [hx]; exact ⟨k, z, H, e, F, I, J, Y, Z, s _ _ h⟩
       . exact h.elim
     . exact h.elim
   . exact h.elim
 . unfold Jov at h
   split at h
   . rename_i B; exact p B h
   . rename_i B; simp only [aop, B]
     exact Jfi s (h w b c)
   . exact h.elim
def Jh5 (S : Sp) (h f : Bool) (a : AV) (c : Bool) (t : Nat) (dst : Option Nat) (op : Op) (ty : TypeId) (K d : Env -> Jac -> Prop) (E : Env) (σ : Jac) : Prop := match a, c with
 | .v (.bool b), true => branch (b = true) (aopC S h f dst op ty K d) (upd E t (.v (.bool true))) K (updO (upd E t (.v (.bool false))) dst (.v undef)) σ
 | .v (.bool b), false => branch (b = true) K (updO (upd E t (.v (.bool true))) dst (.v undef)) (aopC S h f dst op ty K d) (upd E t (.v (.bool false))) σ
 | .v (.tuple _), _ => K (updO E dst (.v undef)) σ
 | _, _ => False
def JiN : List Oper -> Nat -> Option Nat
 | [], _ => none
 | o :: _, 0 => o.dst
 | _ :: l, n + 1 => JiN l n
def Jgd (S : Sp) (f d : Bool) (o : Option Nat) (b : Bool) (dst : Option Nat) (op : Op) (ty : TypeId) (K c : Env -> Jac -> Prop) (E : Env) (σ : Jac) : Prop := match o with
 | some t => Jh5 S f d (E t) b t dst op ty K c E σ
 | none => False
def gopC (S : Sp) (f d : Bool) (ops : List Oper) (o : Oper) (K c : Env -> Jac -> Prop) (E : Env) (σ : Jac) : Prop := match o.guard with
 | none => aopC S f d o.dst o.op o.type K c E σ
 | some (j, b) => Jgd S f d (JiN ops j) b o.dst o.op o.type K c E σ
def regN (b c : Nat) (dst : Option Nat) (l : List Nat) : List Nat := if c == 1 || c == 2 then (b + dst.getD 99999) :: l else l
def regL (S : Sp) : List Oper -> List Nat
 | [] => []
 | o :: l => regN S.b (cls S.P o.op o.type) o.dst (regL S l)
def inL (l : List Nat) : Nat -> Bool := λ i => l.contains (i / 16)
theorem JvC (S : Sp) (ops : List Oper) : (ops.filterMap λ o => if cls S.P o.op o.type == 1 || cls S.P o.op o.type == 2 then some (S.b + o.dst.getD 99999) else none) = regL S ops := by
 induction ops with
 | nil => rfl
 | cons o l d =>
  simp only [List.filterMap_cons, regL, regN]
  split
  . rename_i h; split at h
    . cases h
    . rename_i c; rw [if_neg c]; exact d
  . rename_i h; split at h
    . rename_i c; cases h; rw [if_pos c, d]
    . cases h
theorem JvD (S : Sp) (ops : List Oper) : regP S ops = inL (regL S ops) := by
 unfold regP inL; rw [JvC]
def JcB (S : Sp) (b : Bool) (l : List Oper) (K : Env -> Jac -> Prop) (E : Env) (σ : Jac) : Prop := match b with
 | true => K (JaU (inL (regL S l)) E) (Jao (inL (regL S l)) σ)
 | false => K E σ
theorem Jcl (S : Sp) (b : Bool) (l : List Oper) (K : Env -> Jac -> Prop) : JcB S b l K = struck S b l K := by
 funext E σ; cases b
 . simp [JcB, struck]
 . simp [JcB, struck, JvD]
def opsC (S : Sp) (dr : Bool) (ops : Array Oper) : Nat -> List Oper -> (Env -> Jac -> Prop) -> Env -> Jac -> Prop
 | _, [], K => K
 | i, o :: rest, K => gopC S (!dr) (!dr || bar ops i) ops.toList o (opsC S dr ops (i + 1) rest K) (JcB S dr rest (opsC S dr ops (i + 1) rest K))
mutual
theorem AV.namesB_none : ∀ a : AV, AV.namesB (λ _ => false) a = false
 | .own .. => rfl
 | .ptr .. => rfl
 | .agg b => by simp only [AV.namesB]; exact AV.namesL_none b
 | .tup b => by simp only [AV.namesB]; exact AV.namesL_none b
 | .clo _ b => by simp only [AV.namesB]; exact AV.namesL_none b
 | .any => rfl
 | .v _ => rfl
 | .sl .. => rfl
 | .pt .. => rfl
 | .new .. => rfl
 | .nptr .. => rfl
 | .yld _ => rfl
 | .mp _ => rfl
 | .mref _ => rfl
 | .cut .. => rfl
theorem AV.namesL_none : ∀ l : List AV, AV.namesL (λ _ => false) l = false
 | [] => rfl
 | c :: b => by simp only [AV.namesL, AV.namesB_none c, AV.namesL_none b]; rfl
end
theorem Jdi : inL [] = λ _ => false := by funext i; simp [inL]
@[go_sem] theorem Jqp (E : Env) : JaU (inL []) E = E := by
 rw [Jdi]; funext t; simp [JaU, AV.kill, AV.namesB_none]
@[go_sem] theorem Jcu (σ : Jac) : Jao (inL []) σ = σ := by
 rw [Jdi]; funext t
 simp only [Jao]
 cases σ t <;> simp [Blk.kill, AV.namesL_none]
def regC (S : Sp) (b : Bool) (ops : Array Oper) (K : Env -> Jac -> Prop) (E : Env) (σ : Jac) : Prop := JcB S b ops.toList (opsC S b ops 0 ops.toList K) E σ
def JpJ (a : AV) (X Y : Env -> Jac -> Prop) (E : Env) (σ : Jac) : Prop := match a with
 | .v (.bool b) => branch (b = true) X E Y E σ
 | _ => False
def Jqw (B : (Exit -> Env -> Jac -> Prop) -> Env -> Jac -> Prop) (Q : Exit -> Env -> Jac -> Prop) (E : Env) (σ : Jac) : Prop :=
 ∃ I : Nat -> Env -> Jac -> Prop, (∃ n, I n E σ) /\ ∀ n E σ, I n E σ -> B (Jdd (λ c b => ∃ m, m < n /\ I m c b) Q) E σ
def regX (b : Bool) (X Y : Prop) : Prop := match b with | false => X | true => Y
def awpC (S : Sp) : Code -> (Exit -> Env -> Jac -> Prop) -> Env -> Jac -> Prop
 | .skip, Q => Q .normal
 | .label _, Q => Q .normal
 | .seq a b, Q => awpC S a (Jdd (awpC S b Q) Q)
 | .region id i d, Q => λ E j => regX (S.bad id) (regC S d i (Q .normal) E j) (semC S (.region id i d) Q E j)
 | .cond c x y, Q => λ E j => JpJ (ev E c) (awpC S x Q) (awpC S y Q) E j
 | .block id c, Q => awpC S c (JdE id Q)
 | .scope c, Q => awpC S c (Jfg Q)
 | .loop c, Q => Jqw (awpC S c) Q
 | .exit id, Q => Q (.exit id)
 | .ret, Q => Q .ret
 | .rangeFunc f l k h, Q => semC S (.rangeFunc f l k h) Q
 | _, _ => λ _ _ => False
theorem Jso (ops : Array Oper) (j : Nat) : (ops[j]?).bind (·.dst) = JiN ops.toList j := by
 have : ∀ (l : List Oper) (j : Nat), (l[j]?).bind (·.dst) = JiN l j := by
  intro l
  induction l with
  | nil => intro j; rfl
  | cons o l b => intro j; cases j with | zero => rfl | succ j => exact b j
 rw [<- this, L0P]
theorem JlF {S : Sp} (i : JcV S) {p m : Bool} {ops : Array Oper} {o : Oper} {K K' l Kb' : Env -> Jac -> Prop} {E : Env} {σ : Jac} (d : ∀ E σ, K E σ -> K' E σ) (c : ∀ E σ, l E σ -> Kb' E σ)
 (h : gopC S p m ops.toList o K l E σ) : gop S p m ops o K' Kb' E σ := by
 unfold gopC at h; unfold gop
 split at h
 . rename_i k; rw [k]; exact JgR i d c h
 . rename_i j q k; rw [k]; simp only [Jso]; unfold Jgd at h
   split at h
   . rename_i t s; rw [s]
     simp only
     unfold Jh5 at h
     split at h
     . rename_i b f; rw [f]
       exact ⟨λ e => JgR i d c (h.1 e), λ e => d _ _ (h.2 (by subst e; simp))⟩
     . rename_i b f; rw [f]
       exact ⟨λ e => JgR i d c (h.2 (by subst e; simp)), λ e => d _ _ (h.1 e)⟩
     . rename_i f; rw [f]; exact d _ _ h
     . exact h.elim
   . exact h.elim
theorem Jb3 {S : Sp} {b : Bool} {l : List Oper} {K K' : Env -> Jac -> Prop} (c : ∀ E σ, K E σ -> K' E σ) (E : Env) (σ : Jac) (h : struck S b l K E σ) : struck S b l K' E σ := by
 unfold struck at *; split at h <;> simp_all
theorem JfS {S : Sp} (hY : JcV S) {dr : Bool} {ops : Array Oper} : ∀ (l : List Oper) (i : Nat) {K K' : Env -> Jac -> Prop} {E : Env} {σ : Jac}, (∀ E σ, K E σ -> K' E σ) -> opsC S dr ops i l K E σ -> Jel S dr ops i l K' E σ
 | [], _, _, _, _, _, hK, h => hK _ _ h
 | _ :: l, i, _, _, _, _, hK, h => JlF hY (λ _ _ hk => JfS hY l (i + 1) hK hk) (λ E σ hk => by rw [Jcl] at hk; exact Jb3 (λ _ _ hk => JfS hY l (i + 1) hK hk) E σ hk) h
theorem JbK {K K' : Env -> Jac -> Prop} {Q Q' : Exit -> Env -> Jac -> Prop} (b : ∀ E σ, K E σ -> K' E σ) (c : ∀ e E σ, Q e E σ -> Q' e E σ) (e : Exit) (E : Env) (σ : Jac) (h : Jdd K Q e E σ) : Jdd K' Q' e E σ := by
 cases e <;> first | exact b _ _ h | exact c _ _ _ h
theorem JgT {id : Nat} {Q Q' : Exit -> Env -> Jac -> Prop} (b : ∀ e E σ, Q e E σ -> Q' e E σ) (e : Exit) (E : Env) (σ : Jac) (h : JdE id Q e E σ) : JdE id Q' e E σ := by
 cases e <;> simp only [JdE] at * <;> first | (split at h <;> simp_all) | exact b _ _ _ h
theorem JhD {Q Q' : Exit -> Env -> Jac -> Prop} (b : ∀ e E σ, Q e E σ -> Q' e E σ) (e : Exit) (E : Env) (σ : Jac) (h : Jfg Q e E σ) : Jfg Q' e E σ := by
 cases e <;> first | exact h.elim | exact b _ _ _ h
theorem least {p : Nat -> Prop} (h : ∃ n, p n) : ∃ m, p m /\ ∀ k, p k -> m <= k := by
 obtain ⟨n, f⟩ := h
 induction n using Nat.strongRecOn with
 | ind n i =>
  by_cases b : ∃ k, k < n /\ p k
  . obtain ⟨k, b, d⟩ := b; exact i k b d
  . exact ⟨n, f, λ k d => Nat.le_of_not_lt λ c => b ⟨k, c, d⟩⟩
theorem JbM {S : Sp} (i : JcV S) : ∀ (c : Code) {Q Q' : Exit -> Env -> Jac -> Prop} {E : Env} {σ : Jac}, (∀ e E σ, Q e E σ -> Q' e E σ) -> awpC S c Q E σ -> awp S c Q' E σ
 | .skip, Q, Q', E, σ, d, h => d .normal E σ h
 | .label _, Q, Q', E, σ, d, h => d .normal E σ h
 | .seq a b, Q, Q', E, σ, d, h => by
  simp only [awpC] at h; simp only [awp]
  exact JbM i a (JbK (λ _ _ h => JbM i b d h) d) h
 | .region id J z, Q, Q', E, σ, d, h => by
  simp only [awpC] at h; simp only [awp]; unfold regX at h
  split at h
  . rename_i l
    rw [if_neg (by rw [l]; simp)]
    unfold regC at h; rw [Jcl] at h
    exact Jb3 (λ _ _ q => JfS i _ 0 (d .normal) q) E σ h
  . rename_i l; rw [if_pos l]
    exact λ C H n R p a w j => h C H n R (λ e E σ a w s j => p e E σ a w (d _ _ _ s) j) a w j
 | .cond c x y, Q, Q', E, σ, d, h => by
  simp only [awpC] at h; simp only [awp]; unfold JpJ at h
  split at h
  . rename_i b l; rw [l]
    exact ⟨λ e => JbM i x d (h.1 e), λ e => JbM i y d (h.2 (by subst e; simp))⟩
  . exact h.elim
 | .block id c, Q, Q', E, σ, d, h => by
  simp only [awpC] at h; simp only [awp]
  exact JbM i c (JgT d) h
 | .scope c, Q, Q', E, σ, d, h => by
  simp only [awpC] at h; simp only [awp]
  exact JbM i c (JhD d) h
 | .loop c, Q, Q', E, σ, d, h => by
  simp only [awpC] at h; simp only [awp]
  obtain ⟨I, ⟨n, G⟩, F⟩ := h
  classical
  -- the least that is left
  let μ : Env -> Jac -> Nat := λ E σ => if h : ∃ n, I n E σ then Classical.choose (least h) else 0
  have o : ∀ m E σ, I m E σ -> I (μ E σ) E σ /\ μ E σ <= m := λ m E σ h => by
   have B : ∃ n, I n E σ := ⟨m, h⟩
   simp only [μ, dif_pos B]
   have A := Classical.choose_spec (least B); exact ⟨A.1, A.2 m h⟩
  refine ⟨λ E σ => ∃ n, I n E σ, μ, ⟨n, G⟩, λ E σ ⟨m, hm⟩ => ?_⟩
  refine JbM i c (JbK (λ D t ⟨k, q, hi⟩ => ?_) d) (F _ E σ (o m E σ hm).1)
  exact ⟨⟨k, hi⟩, Nat.lt_of_le_of_lt (o k D t hi).2 q⟩
 | .exit _, Q, Q', E, σ, d, h => d _ E σ h
 | .ret, Q, Q', E, σ, d, h => d .ret E σ h
 | .rangeFunc f L K u, Q, Q', E, σ, d, h => λ C H n R p a w j => h C H n R (λ e E σ a w s j => p e E σ a w (d _ _ _ s) j) a w j
section
variable {A B L : Prop} {P : Program} {S : Sp} {kd bi dr : Bool} {arr : Array Oper} {Kb : Env -> Jac -> Prop} {dst : Option Nat} {ty t : TypeId} {K : Env -> Jac -> Prop} {Q : Exit -> Env -> Jac -> Prop} {E : Env} {σ : Jac} {k : AV -> Prop} {ops : List Oper}
@[go_sem] theorem JyF (X : Prop) : need True X = X := by simp [need]
@[go_sem] theorem JAG (X : Prop) : need (A /\ B) X = need A (need B X) := by simp [need, and_assoc]
@[go_sem] theorem JB7 (X : Prop) (h : A) : need A X = X := by simp [need, h]
@[go_sem] theorem JwU (v : AV) : JaB True k v = k v := by simp [JaB]
@[go_sem] theorem JyE (v : AV) : JaB (A /\ B) k v = JaB A (JaB B k) v := by simp [JaB, and_assoc]
@[go_sem] theorem JAF (v : AV) (h : A) : JaB A k v = k v := by simp [JaB, h]
@[go_sem] theorem JwT : JhQ True K E σ = K E σ := by simp [JhQ]
@[go_sem] theorem JyD : JhQ (A /\ B) K E σ = JhQ A (JhQ B K) E σ := by simp [JhQ, and_assoc]
@[go_sem] theorem JAE (h : A) : JhQ A K E σ = K E σ := by simp [JhQ, h]
variable {kn : AV -> List (Nat × Blk) -> Prop} {ka : Nat -> Nat -> Nat -> Blk -> Prop}
@[go_sem] theorem JwS (v : AV) (l : List (Nat × Blk)) : Jei True kn v l = kn v l := by simp [Jei]
@[go_sem] theorem JyC (v : AV) (l : List (Nat × Blk)) : Jei (A /\ B) kn v l = Jei A (Jei B kn) v l := by simp [Jei, and_assoc]
@[go_sem] theorem JAD (v : AV) (l : List (Nat × Blk)) (h : A) : Jei A kn v l = kn v l := by simp [Jei, h]
@[go_sem] theorem JwR (id sz n : Nat) (b : Blk) : JhP True ka id sz n b = ka id sz n b := by simp [JhP]
@[go_sem] theorem JyB (id sz n : Nat) (b : Blk) : JhP (A /\ B) ka id sz n b = JhP A (JhP B ka) id sz n b := by simp [JhP, and_assoc]
@[go_sem] theorem JAC (id sz n : Nat) (b : Blk) (h : A) : JhP A ka id sz n b = ka id sz n b := by simp [JhP, h]
@[go_sem] theorem JyX (d : Nat) (v : AV) : putK (some d) K E σ v = K (upd E d v) σ := rfl
@[go_sem] theorem JyW (v : AV) : putK none K E σ v = K E σ := rfl
@[go_sem] theorem JuD (X Y : Env -> Jac -> Prop) (E' : Env) : branch True X E Y E' σ = X E σ := by simp [branch]
@[go_sem] theorem JtP (X Y : Env -> Jac -> Prop) (E' : Env) : branch False X E Y E' σ = Y E' σ := by simp [branch]
attribute [go_sem] decide_eq_true_eq beq_iff_eq bne_iff_ne Bool.and_eq_true Bool.or_eq_true Bool.not_eq_true' Bool.not_true Bool.not_false Bool.false_eq_true decide_eq_false_iff_not beq_eq_false_iff_ne
attribute [go_sem] List.nil_append List.cons_append List.append_nil List.map_cons List.map_nil List.length_cons List.length_nil List.getElem?_cons_zero List.getElem?_cons_succ List.drop_succ_cons List.drop_zero List.take_succ_cons List.take_zero List.drop_nil List.take_nil List.all_cons List.all_nil
attribute [go_sem] Bool.true_and Bool.and_true Bool.false_and Bool.and_false Bool.or_false Bool.false_or Bool.or_true Bool.true_or true_and and_true Option.getD_some Option.getD_none Int.toNat_natCast List.contains_cons List.contains_nil Option.isSome_some Option.isSome_none
@[go_sem] theorem JyQ (r : AV) : optV (some r) k = k r := rfl
@[go_sem] theorem JwZ (r : AV) : Jjc A (some r) k = JaB A k (.pt r 0) := rfl
@[go_sem] theorem JyP (c : UInt8) : optU A (some c) k = JaB A k (.v (.int .u8 c.toNat)) := rfl
@[go_sem ↓] theorem JxR : awpC S .skip Q E σ = Q .normal E σ := rfl
@[go_sem ↓] theorem Jwn (l : Nat) : awpC S (.label l) Q E σ = Q .normal E σ := rfl
@[go_sem ↓] theorem JzU (a b : Code) : awpC S (.seq a b) Q E σ = awpC S a (Jdd (awpC S b Q) Q) E σ := by simp only [awpC]
@[go_sem ↓] theorem Juy (id : Nat) (os : Array Oper) (b : Bool) : awpC S (.region id os b) Q E σ = regX (S.bad id) (regC S b os (Q .normal) E σ) (semC S (.region id os b) Q E σ) := by simp only [awpC]
@[go_sem ↓] theorem Jw2 (X Y : Prop) : regX false X Y = X := rfl
@[go_sem ↓] theorem Jy2 (X Y : Prop) : regX true X Y = Y := rfl
@[go_sem ↓] theorem JxO (c : Operand) (x y : Code) : awpC S (.cond c x y) Q E σ = JpJ (ev E c) (awpC S x Q) (awpC S y Q) E σ := by simp only [awpC]
@[go_sem ↓] theorem Jwm (id : Nat) (c : Code) : awpC S (.block id c) Q E σ = awpC S c (JdE id Q) E σ := by simp only [awpC]
@[go_sem ↓] theorem JxQ (c : Code) : awpC S (.loop c) Q E σ = Jqw (awpC S c) Q E σ := by simp only [awpC]
@[go_sem ↓] theorem JxP (id : Nat) : awpC S (.exit id) Q E σ = Q (.exit id) E σ := rfl
@[go_sem ↓] theorem JzT : awpC S .ret Q E σ = Q .ret E σ := rfl
@[go_sem ↓] theorem Jug : Jdd K Q .normal E σ = K E σ := rfl
@[go_sem ↓] theorem Jw6 (id : Nat) : Jdd K Q (.exit id) E σ = Q (.exit id) E σ := rfl
@[go_sem ↓] theorem Jzs : Jdd K Q .ret E σ = Q .ret E σ := rfl
@[go_sem ↓] theorem Jwo (c : Code) : awpC S (.scope c) Q E σ = awpC S c (Jfg Q) E σ := by simp only [awpC]
@[go_sem ↓] theorem Jte : Jfg Q .normal E σ = Q .normal E σ := rfl
@[go_sem ↓] theorem Jw3 : Jfg Q .ret E σ = Q .ret E σ := rfl
@[go_sem ↓] theorem JvI (id : Nat) : Jfg Q (.exit id) E σ = Q (.exit id) E σ := rfl
@[go_sem ↓] theorem Jsc (id : Nat) : JdE id Q .normal E σ = Q .normal E σ := rfl
@[go_sem ↓] theorem Jwp (id : Nat) : JdE id Q .ret E σ = Q .ret E σ := rfl
@[go_sem ↓] theorem JuB (id b : Nat) : JdE id Q (.exit b) E σ = if b = id then Q .normal E σ else Q (.exit b) E σ := by
 simp only [JdE]; split <;> rfl
@[go_sem ↓] theorem Jw1 : regC S false arr K E σ = opsC S false arr 0 arr.toList K E σ := rfl
def regT (K : Env -> Jac -> Prop) (l : List Nat) (E : Env) (σ : Jac) : Prop := K (JaU (inL l) E) (Jao (inL l) σ)
@[go_sem ↓] theorem JyZ : regC S true arr K E σ = regT (opsC S true arr 0 arr.toList K) (regL S arr.toList) E σ := rfl
@[go_sem ↓] theorem Juf (os : List Oper) : JcB S true os K E σ = regT K (regL S os) E σ := rfl
@[go_sem ↓] theorem Jtk (os : List Oper) : JcB S false os K E σ = K E σ := rfl
@[go_sem] theorem JAN : regT K [] E σ = K E σ := by unfold regT; rw [Jqp, Jcu]
@[go_sem] theorem Jy1 (i : Nat) (l : List Nat) : regT K (i :: l) E σ = K (JaU (inL (i :: l)) E) (Jao (inL (i :: l)) σ) := rfl
@[go_sem] theorem JAM : regL S [] = [] := rfl
@[go_sem] theorem Jy0 (op : Op) (pos : String) (after : Array Edge) (g : Option (Nat × Bool)) : regL S ({ dst, op, type := ty, pos, after, guard := g } :: ops) = regN S.b (cls S.P op ty) dst (regL S ops) := rfl
section
variable (x y : Operand)
attribute [go_sem] cls
end
@[go_sem] theorem regN_0 (b : Nat) (l : List Nat) : regN b 0 dst l = l := rfl
@[go_sem] theorem regN_1 (b d : Nat) (l : List Nat) : regN b 1 (some d) l = (b + d) :: l := rfl
@[go_sem] theorem regN_2 (b d : Nat) (l : List Nat) : regN b 2 (some d) l = (b + d) :: l := rfl
@[go_sem] theorem JCi (b : Nat) (l : List Nat) : regN b 2 none l = (b + 99999) :: l := rfl
@[go_sem] theorem regN_3 (b : Nat) (l : List Nat) : regN b 3 dst l = l := rfl
@[go_sem] theorem regN_4 (b : Nat) (l : List Nat) : regN b 4 dst l = l := rfl
@[go_sem] theorem regN_5 (b : Nat) (l : List Nat) : regN b 5 dst l = l := rfl
@[go_sem ↓] theorem JAJ (i : Nat) : opsC S dr arr i [] K E σ = K E σ := rfl
@[go_sem ↓] theorem JwX (i : Nat) (op : Op) (pos : String) (after : Array Edge) : opsC S false arr i ({ dst, op, type := ty, pos, after, guard := none } :: ops) K E σ = aopC S true true dst op ty (opsC S false arr (i + 1) ops K) (opsC S false arr (i + 1) ops K) E σ := rfl
@[go_sem ↓] theorem JwY (i : Nat) (op : Op) (pos : String) (after : Array Edge) : opsC S true arr i ({ dst, op, type := ty, pos, after, guard := none } :: ops) K E σ = aopC S false (bar arr i) dst op ty (opsC S true arr (i + 1) ops K) (JcB S true ops (opsC S true arr (i + 1) ops K)) E σ := rfl
@[go_sem ↓] theorem Jt8 (i : Nat) (op : Op) (pos : String) (after : Array Edge) (j : Nat) (want : Bool) : opsC S false arr i ({ dst, op, type := ty, pos, after, guard := some (j, want) } :: ops) K E σ =
 Jgd S true true (JiN arr.toList j) want dst op ty (opsC S false arr (i + 1) ops K) (opsC S false arr (i + 1) ops K) E σ := rfl
@[go_sem ↓] theorem Jt9 (i : Nat) (op : Op) (pos : String) (after : Array Edge) (j : Nat) (want : Bool) : opsC S true arr i ({ dst, op, type := ty, pos, after, guard := some (j, want) } :: ops) K E σ =
 Jgd S false (bar arr i) (JiN arr.toList j) want dst op ty (opsC S true arr (i + 1) ops K) (JcB S true ops (opsC S true arr (i + 1) ops K)) E σ := rfl
@[go_sem] theorem Jwr (op : Op) (pos : String) (after : Array Edge) (g : Option (Nat × Bool)) : JiN ({ dst, op, type := ty, pos, after, guard := g } :: ops) 0 = dst := rfl
@[go_sem] theorem Jwq (o : Oper) (n : Nat) : JiN (o :: ops) (n + 1) = JiN ops n := rfl
attribute [go_sem] Jgd
@[go_sem] theorem JAj (b : Bool) (t : Nat) (op : Op) : Jh5 S kd bi (.v (.bool b)) true t dst op ty K Kb E σ = branch (b = true) (aopC S kd bi dst op ty K Kb) (upd E t (.v (.bool true))) K (updO (upd E t (.v (.bool false))) dst (.v undef)) σ := rfl
@[go_sem] theorem JAi (b : Bool) (t : Nat) (op : Op) : Jh5 S kd bi (.v (.bool b)) false t dst op ty K Kb E σ = branch (b = true) K (updO (upd E t (.v (.bool true))) dst (.v undef)) (aopC S kd bi dst op ty K Kb) (upd E t (.v (.bool false))) σ := rfl
@[go_sem] theorem JtZ (vs : Array Value) (b : Bool) (t : Nat) (op : Op) : Jh5 S kd bi (.v (.tuple vs)) b t dst op ty K Kb E σ = K (updO E dst (.v undef)) σ := by cases b <;> rfl
@[go_sem] theorem JBa : undef = .tuple #[] := rfl
attribute [go_sem] JpJ
attribute [go_sem] JrI JrH
@[go_sem] theorem ev_tmp (t : Nat) : ev E (.tmp t) = E t := rfl
@[go_sem] theorem JzW (x : Value) : ev E (.const x) = ofC x := rfl
@[go_sem] theorem JBx (f : Nat) : ev E (.func f) = .clo f [] := rfl
@[go_sem] theorem JCa (k : IntKind) (n : Int) : ofC (.int k n) = .v (.int k n) := rfl
@[go_sem] theorem JAH (b : Bool) : ofC (.bool b) = .v (.bool b) := rfl
@[go_sem] theorem JwV (b : ByteArray) : ofC (.string b) = .v (.string b) := rfl
@[go_sem] theorem Jvu (a : Option Addr) : ofC (.pointer a) = .v (.pointer a) := rfl
@[go_sem] theorem JyL (a : Option Addr) (n c : Nat) : ofC (.slice a n c) = .v (.slice a n c) := rfl
@[go_sem] theorem upd_at (d t : Nat) (a : AV) : upd E d a t = if t = d then a else E t := rfl
@[go_sem] theorem JAo (p : Nat -> Bool) (t : Nat) : JaU p E t = (E t).kill p := rfl
@[go_sem] theorem JBW (d : Nat) : kE true d E = JaU (own d) E := rfl
@[go_sem] theorem JAm (d : Nat) : kE false d E = E := rfl
@[go_sem] theorem JBX (d : Nat) : kS true d σ = Jao (own d) σ := rfl
@[go_sem] theorem JAn (d : Nat) : kS false d σ = σ := rfl
@[go_sem] theorem JAp (p : Nat -> Bool) (t : Nat) : Jao p σ t = if p t = true then none else (σ t).map (Blk.kill p) := rfl
@[go_sem] theorem JCY (d t : Nat) (b : Blk) : updS σ d b t = if t = d then some b else σ t := rfl
@[go_sem] theorem JzA : addS σ [] = σ := rfl
@[go_sem] theorem Jxh (id : Nat) (b : Blk) (l : List (Nat × Blk)) : addS σ ((id, b) :: l) = addS (updS σ id b) l := rfl
@[go_sem] theorem own_at (d i : Nat) : own d i = (i / 16 == d) := rfl
@[go_sem] theorem JBT (d i : Nat) : isId d i = (i == d) := rfl
@[go_sem] theorem JBc (i : Nat) : allB i = true := rfl
@[go_sem] theorem inL_at (l : List Nat) (i : Nat) : inL l i = l.contains (i / 16) := rfl
variable {p : Nat -> Bool}
@[go_sem] theorem JAl (args : List AV) (t : Nat) : Jct args t = args.getD t (.v undef) := rfl
@[go_sem] theorem Jyh (a d : AV) (l : List AV) : (a :: l).getD 0 d = a := rfl
@[go_sem] theorem Jyg (a d : AV) (l : List AV) (n : Nat) : (a :: l).getD (n + 1) d = l.getD n d := rfl
@[go_sem] theorem JAh (d : AV) (n : Nat) : ([] : List AV).getD n d = d := rfl
@[go_sem] theorem JAr : AV.kill p .any = .any := rfl
@[go_sem] theorem kill_v (x : Value) : AV.kill p (.v x) = .v x := rfl
@[go_sem] theorem JB0 (s : Nat) (es : List AV) : AV.kill p (.sl s es) = .sl s es := rfl
@[go_sem] theorem JBZ (e : AV) (j : Nat) : AV.kill p (.pt e j) = .pt e j := rfl
@[go_sem] theorem JAv (id s i n : Nat) : AV.kill p (.own id s i n) = if p id = true then .any else .own id s i n := by
 unfold AV.kill AV.namesB AV.dk; split <;> simp_all
@[go_sem] theorem JAw (id s i n : Nat) : AV.kill p (.ptr id s i n) = if p id = true then .any else .ptr id s i n := by
 unfold AV.kill AV.namesB AV.dk; split <;> simp_all
@[go_sem] theorem JAy (l : Nat) : AV.kill p (.yld l) = .yld l := rfl
@[go_sem] theorem JAq (cs : List AV) : AV.kill p (.agg cs) = if AV.namesL p cs = true then .agg (AV.dkL p cs) else .agg cs := rfl
@[go_sem] theorem JAx (cs : List AV) : AV.kill p (.tup cs) = if AV.namesL p cs = true then .tup (AV.dkL p cs) else .tup cs := rfl
@[go_sem] theorem JAt (f : Nat) (cs : List AV) : AV.kill p (.clo f cs) = if AV.namesL p cs = true then .clo f (AV.dkL p cs) else .clo f cs := rfl
@[go_sem] theorem JAs (e s : Nat) (es : List AV) : Blk.kill p ⟨e, s, es⟩ = if AV.namesL p es = true then ⟨e, s, AV.dkL p es⟩ else ⟨e, s, es⟩ := rfl
attribute [go_sem] AV.namesB AV.namesL AV.dk AV.dkL
attribute [go_sem] AV.cells_agg AV.cells_v AV.cells_sl AV.cells_own AV.cells_ptr AV.cells_pt AV.cells_clo AV.cells_any
@[go_sem] theorem ok_v (x : Value) : (AV.v x).ok = x.oneCell' := rfl
@[go_sem] theorem ok_agg (cs : List AV) : (AV.agg cs).ok = true := rfl
@[go_sem] theorem ok_sl (s : Nat) (es : List AV) : (AV.sl s es).ok = true := rfl
@[go_sem] theorem ok_pt (e : AV) (j : Nat) : (AV.pt e j).ok = true := rfl
@[go_sem] theorem ok_own (id s i n : Nat) : (AV.own id s i n).ok = true := rfl
@[go_sem] theorem ok_ptr (id s i n : Nat) : (AV.ptr id s i n).ok = true := rfl
@[go_sem] theorem ok_clo (f : Nat) (cs : List AV) : (AV.clo f cs).ok = true := rfl
@[go_sem] theorem JCc (k : IntKind) (n : Int) : (Value.int k n).oneCell' = true := rfl
@[go_sem] theorem JAI (b : Bool) : (Value.bool b).oneCell' = true := rfl
@[go_sem] theorem JwW (b : ByteArray) : (Value.string b).oneCell' = true := rfl
@[go_sem] theorem JyN (a : Option Addr) (n c : Nat) : (Value.slice a n c).oneCell' = true := rfl
@[go_sem ↓] theorem Jwc (x : Nat) : aopC S kd bi dst (.move (.tmp x)) ty K Kb E σ = putK dst K E σ (E x) := rfl
@[go_sem ↓] theorem Jwb (f : Nat) : aopC S kd bi dst (.move (.func f)) ty K Kb E σ = putK dst K E σ (.clo f []) := rfl
@[go_sem ↓] theorem JtI (q : IntKind) (n : Int) : aopC S kd bi dst (.move (.const (.int q n))) ty K Kb E σ = putK dst K E σ (.v (.int q n)) := rfl
@[go_sem ↓] theorem Jr5 (b : Bool) : aopC S kd bi dst (.move (.const (.bool b))) ty K Kb E σ = putK dst K E σ (.v (.bool b)) := rfl
@[go_sem ↓] theorem Jpb (b : ByteArray) : aopC S kd bi dst (.move (.const (.string b))) ty K Kb E σ = putK dst K E σ (.v (.string b)) := rfl
@[go_sem ↓] theorem JtH (cs : Array Value) : aopC S kd bi dst (.move (.const (.agg cs))) ty K Kb E σ = putK dst K E σ (ofC (.agg cs)) := rfl
@[go_sem ↓] theorem JoQ : aopC S kd bi dst (.move (.const .nilFunc)) ty K Kb E σ = putK dst K E σ (.v .nilFunc) := rfl
@[go_sem ↓] theorem Jnw : aopC S kd bi dst (.move (.const .nilIface)) ty K Kb E σ = putK dst K E σ (.v .nilIface) := rfl
@[go_sem ↓] theorem JtJ (m : Option Nat) : aopC S kd bi dst (.move (.const (.map m))) ty K Kb E σ = putK dst K E σ (ofC (.map m)) := rfl
@[go_sem ↓] theorem JtL (a : Option Addr) : aopC S kd bi dst (.move (.const (.pointer a))) ty K Kb E σ = putK dst K E σ (.v (.pointer a)) := rfl
@[go_sem ↓] theorem JxA (x : Nat) : aopC S kd bi dst (.assign (.tmp x)) ty K Kb E σ = putK dst K E σ (E x) := rfl
@[go_sem ↓] theorem Jxz (f : Nat) : aopC S kd bi dst (.assign (.func f)) ty K Kb E σ = putK dst K E σ (.clo f []) := rfl
@[go_sem ↓] theorem Jup (q : IntKind) (n : Int) : aopC S kd bi dst (.assign (.const (.int q n))) ty K Kb E σ = putK dst K E σ (.v (.int q n)) := rfl
@[go_sem ↓] theorem JtF (b : Bool) : aopC S kd bi dst (.assign (.const (.bool b))) ty K Kb E σ = putK dst K E σ (.v (.bool b)) := rfl
@[go_sem ↓] theorem JrU (b : ByteArray) : aopC S kd bi dst (.assign (.const (.string b))) ty K Kb E σ = putK dst K E σ (.v (.string b)) := rfl
@[go_sem ↓] theorem Juo (cs : Array Value) : aopC S kd bi dst (.assign (.const (.agg cs))) ty K Kb E σ = putK dst K E σ (ofC (.agg cs)) := rfl
@[go_sem ↓] theorem Jpa : aopC S kd bi dst (.assign (.const .nilFunc)) ty K Kb E σ = putK dst K E σ (.v .nilFunc) := rfl
@[go_sem ↓] theorem JoP : aopC S kd bi dst (.assign (.const .nilIface)) ty K Kb E σ = putK dst K E σ (.v .nilIface) := rfl
@[go_sem ↓] theorem Juq (m : Option Nat) : aopC S kd bi dst (.assign (.const (.map m))) ty K Kb E σ = putK dst K E σ (ofC (.map m)) := rfl
@[go_sem ↓] theorem Jus (a : Option Addr) : aopC S kd bi dst (.assign (.const (.pointer a))) ty K Kb E σ = putK dst K E σ (.v (.pointer a)) := rfl
def nilG (S : Sp) (c : Bool) (q : Option TypeId) (dst : Option Nat) (K : Env -> Jac -> Prop) (E : Env) (σ : Jac) : Prop := match q, dst with
 | some e, some d => nilC S.P (S.b + d) (some e) (newK d K (kE c (S.b + d) E) (kS c (S.b + d) σ))
 | none, _ => putK dst K E σ (.v (.slice none 0 0))
 | _, _ => False
theorem JqF : (match tel S.P ty with
 | some e => (match dst with
  | some d => nilC S.P (S.b + d) (some e) (newK d K (kE kd (S.b + d) E) (kS kd (S.b + d) σ))
  | none => False)
 | none => putK dst K E σ (.v (.slice none 0 0))) = nilG S kd (tel S.P ty) dst K E σ := by
 unfold nilG; cases tel S.P ty <;> cases dst <;> rfl
@[go_sem ↓] theorem JtK : aopC S kd bi dst (.move (.const (.slice none 0 0))) ty K Kb E σ = nilG S kd (tel S.P ty) dst K E σ := JqF
@[go_sem ↓] theorem Jur : aopC S kd bi dst (.assign (.const (.slice none 0 0))) ty K Kb E σ = nilG S kd (tel S.P ty) dst K E σ := JqF
@[go_sem] theorem JyH (e : TypeId) (d : Nat) : nilG S kd (some e) (some d) K E σ = newK d K (kE kd (S.b + d) E) (kS kd (S.b + d) σ) (.own (16 * (S.b + d)) (tsz S.P e) 0 0) [(16 * (S.b + d), ⟨e, tsz S.P e, []⟩)] := rfl
@[go_sem] theorem JyG : nilG S kd none dst K E σ = putK dst K E σ (.v (.slice none 0 0)) := rfl
@[go_sem] theorem JB8 (d : Nat) (v : AV) (b : List (Nat × Blk)) : newK d K E σ v b = K (upd E d v) (addS σ b) := rfl
@[go_sem ↓] theorem JzM (c x y : Operand) : aopC S kd bi dst (.pick c x y) ty K Kb E σ = Jag (ev E c) (ev E x) (ev E y) (putK dst K E σ) := rfl
@[go_sem ↓] theorem JzK (n : Nat) : aopC S kd bi dst (.load t (.tmp n)) ty K Kb E σ = JhO S.P σ t (E n) (putK dst K E σ) := rfl
@[go_sem ↓] theorem Jv9 (n : Nat) : aopC S kd bi dst (.load t (.global n)) ty K Kb E σ = semD S dst (.load t (.global n)) ty Kb E σ := rfl
@[go_sem ↓] theorem JtM (x : Operand) : aopC S kd bi dst (.nilCheck x) ty K Kb E σ = Jez (ev E x) (putK dst K E σ) := rfl
def binG (S : Sp) (dst : Option Nat) (op : BinOp) (t : TypeId) (x y : Operand) (c ty : TypeId) (q : Bool) (K b : Env -> Jac -> Prop) (E : Env) (σ : Jac) : Prop := match q with
 | true => semD S dst (.binOp op t x y c) ty b E σ
 | false => binC S.P op t (ev E x) (ev E y) (putK dst K E σ)
@[go_sem ↓] theorem JxB (op : BinOp) (x y : Operand) (b : TypeId) : aopC S kd bi dst (.binOp op t x y b) ty K Kb E σ = binG S dst op t x y b ty (tpt S.P t) K Kb E σ := by
 show Jov S dst (.binOp op t x y b) ty (if tpt S.P t then 5 else 0) K Kb E σ = _
 unfold binG
 cases tpt S.P t <;> rfl
attribute [go_sem] binG
@[go_sem ↓] theorem JxC (b : Array (Nat × Operand)) : aopC S kd bi dst (.build t b) ty K Kb E σ = Jf7 S.P (tzA S.P t) (tfld S.P t) (tarr S.P t) (b.toList.map λ p => (p.1, ev E p.2)) (putK dst K E σ) := rfl
@[go_sem ↓] theorem JzN (op : UnOp) (x : Operand) : aopC S kd bi dst (.unOp op t x) ty K Kb E σ = unC op (ev E x) (putK dst K E σ) := rfl
def JuJ (S : Sp) (dst : Option Nat) (t c : TypeId) (x : Operand) (ty : TypeId) (q : Option IntKind) (K b : Env -> Jac -> Prop) (E : Env) (σ : Jac) : Prop := match q with
 | some k => JjX (tund S.P t) (some k) (ev E x) (putK dst K E σ)
 | none => semD S dst (.convert t c x) ty b E σ
@[go_sem ↓] theorem Jut (b : TypeId) (x : Operand) : aopC S kd bi dst (.convert t b x) ty K Kb E σ = JuJ S dst t b x ty (tint S.P b) K Kb E σ := by
 show Jov S dst (.convert t b x) ty (if (tint S.P b).isSome then 0 else 5) K Kb E σ = _
 unfold JuJ
 cases h : tint S.P b with
 | none => rfl
 | some k => show JjX (tund S.P t) (tint S.P b) _ _ = _; rw [h]
attribute [go_sem] JuJ
@[go_sem ↓] theorem JtG (f : FuncId) (first cs : Array Operand) : aopC S kd bi dst (.makeFunc (.func f) first cs) ty K Kb E σ = JdN f first.toList (cs.toList.map (ev E)) (first.toList.map (ev E)) (putK dst K E σ) := rfl
attribute [go_sem] JdN
@[go_sem] theorem Jwz : JaM [] = true := rfl
@[go_sem] theorem Jyj (e : AV) (j : Nat) (l : List AV) : JaM (.pt e j :: l) = true := rfl
@[go_sem] theorem JwB (a b c d : Nat) (l : List AV) : JaM (.ptr a b c d :: l) = true := rfl
@[go_sem] theorem JwA (a b c d : Nat) (l : List AV) : JaM (.own a b c d :: l) = true := rfl
@[go_sem] theorem Jyk (s : Nat) (es : List AV) (l : List AV) : JaM (.sl s es :: l) = true := rfl
@[go_sem] theorem Jwx (g : Nat) (cs : List AV) (l : List AV) : JaM (.clo g cs :: l) = true := rfl
@[go_sem] theorem JwC (i : Nat) (l : List AV) : JaM (.yld i :: l) = true := rfl
@[go_sem] theorem Jww (cs : List AV) (l : List AV) : JaM (.agg cs :: l) = true := rfl
@[go_sem] theorem Ju5 (e z : Nat) (cs : List AV) (l : List AV) : JaM (.nptr e z cs :: l) = true := rfl
@[go_sem] theorem Jwy (e z : Nat) (cs : List AV) (l : List AV) : JaM (.new e z cs :: l) = true := rfl
@[go_sem] theorem JAk (x : Value) (l : List AV) : JaM (.v x :: l) = x.oneCell' := rfl
@[go_sem] theorem Jyi (es : List AV) (l : List AV) : JaM (.mp es :: l) = true := rfl
@[go_sem] theorem Ju4 (i : Nat) (l : List AV) : JaM (.mref i :: l) = true := rfl
def JuT (P : Program) (q : Option (List (Nat × TypeId))) (f : Nat) (a : AV) (K : AV -> Prop) : Prop := match q, a with
 | some b, .pt e j => fldB P b[f]? (.pt e j) K
 | some b, .ptr id s i j => fldB P b[f]? (.ptr id s i j) K
 | _, _ => False
def JuU (P : Program) (q : Option (List (Nat × TypeId))) (f : Nat) (a : AV) (K : AV -> Prop) : Prop := match q, a with
 | some c, .agg b => fldB P c[f]? (.agg b) K
 | _, _ => False
@[go_sem ↓] theorem Jr1 (x : Operand) (f : Nat) : aopC S kd bi dst (.fieldAddr t x f) ty K Kb E σ = JuT S.P (tfld S.P t) f (ev E x) (putK dst K E σ) := by
 show ((match ev E x with | .agg _ => False | _ => True) /\ fldC S.P (tfld S.P t) f (ev E x) _) = _
 unfold fldC JuT
 cases tfld S.P t with
 | none => simp
 | some b => cases ev E x <;> simp [fldB] <;> (split <;> simp_all)
@[go_sem ↓] theorem JxE (x : Operand) (f : Nat) : aopC S kd bi dst (.field t x f) ty K Kb E σ = JuU S.P (tfld S.P t) f (ev E x) (putK dst K E σ) := by
 show ((match ev E x with | .agg _ => True | _ => False) /\ fldC S.P (tfld S.P t) f (ev E x) _) = _
 unfold fldC JuU
 cases tfld S.P t with
 | none => simp
 | some b => cases ev E x <;> simp
attribute [go_sem] JuT
attribute [go_sem] JuU
attribute [go_sem] fldB
@[go_sem ↓] theorem Jr2 (x i : Operand) : aopC S kd bi dst (.indexAddr t x i) ty K Kb E σ = JcI S.P t (ev E x) (ev E i) (putK dst K E σ) := rfl
@[go_sem ↓] theorem JxF (x i : Operand) : aopC S kd bi dst (.index t x i) ty K Kb E σ = idxC S.P t (ev E x) (ev E i) (putK dst K E σ) := rfl
@[go_sem ↓] theorem Juu (x : Operand) (i : Nat) : aopC S kd bi dst (.extract x i) ty K Kb E σ = extC (ev E x) i (putK dst K E σ) := rfl
def sliG (S : Sp) (dst : Option Nat) (t : TypeId) (x : Operand) (lo hi : Option Operand) (ty : TypeId) (q : Option (Nat × TypeId)) (K b : Env -> Jac -> Prop) (E : Env) (σ : Jac) : Prop := match q with
 | some _ => semD S dst (.slice t x lo hi none) ty b E σ
 | none => cutE S.P (tel S.P t) (tstr S.P t) (ev E x) (JeP E lo 0) (JeP E hi (lenN (ev E x))) (putK dst K E σ)
@[go_sem ↓] theorem JxH (x : Operand) (lo hi : Option Operand) : aopC S kd bi dst (.slice t x lo hi none) ty K Kb E σ = sliG S dst t x lo hi ty (tarr S.P t) K Kb E σ := by
 show Jov S dst (.slice t x lo hi none) ty (if (tarr S.P t).isSome then 5 else 0) K Kb E σ = _
 unfold sliG
 cases tarr S.P t <;> rfl
@[go_sem ↓] theorem Jwd (x : Operand) (lo hi : Option Operand) (m : Operand) : aopC S kd bi dst (.slice t x lo hi (some m)) ty K Kb E σ = semD S dst (.slice t x lo hi (some m)) ty Kb E σ := rfl
attribute [go_sem] sliG
@[go_sem ↓] theorem JBh (x : Operand) : aopC S kd bi dst (.call { callee := .builtin .len, args := #[x], argTypes := #[t] }) ty K Kb E σ = lenC (tstr S.P t) (tel S.P t) (ev E x) (putK dst K E σ) := rfl
@[go_sem ↓] theorem JBi (args : Array Operand) (b : Array TypeId) : aopC S kd bi dst (.call { callee := .builtin .max, args, argTypes := b }) ty K Kb E σ = maxC (args.toList.map (ev E)) (putK dst K E σ) := rfl
@[go_sem ↓] theorem JBl (args : Array Operand) (b : Array TypeId) : aopC S kd bi dst (.call { callee := .builtin .unsafeSliceData, args, argTypes := b }) ty K Kb E σ = sldC (args.toList.map (ev E)) (putK dst K E σ) := rfl
attribute [go_sem] sldC
@[go_sem ↓] theorem JBj (args : Array Operand) (b : Array TypeId) : aopC S kd bi dst (.call { callee := .builtin .min, args, argTypes := b }) ty K Kb E σ = minC (args.toList.map (ev E)) (putK dst K E σ) := rfl
@[go_sem ↓] theorem JzI (f : Operand) (args : Array Operand) (c : Array TypeId) : aopC S kd bi dst (.call { callee := .value f, args, argTypes := c }) ty K Kb E σ =
 Jli S kd bi (S.b + dst.getD 99999) (ev E f) (args.toList.map (ev E)) dst K Kb E σ (kE kd (S.b + dst.getD 99999) E) (kS kd (S.b + dst.getD 99999) σ) (args.toList.map (ev (kE kd (S.b + dst.getD 99999) E))) (ev (kE kd (S.b + dst.getD 99999) E) f)
  (semD S dst (.call { callee := .value f, args, argTypes := c }) ty Kb E σ) := rfl
@[go_sem ↓] theorem Jv8 (d : Nat) (args : Array Operand) (b : Array TypeId) : aopC S kd bi (some d) (.call { callee := .builtin .append, args, argTypes := b }) ty K Kb E σ =
 appC S.P args.toList b.toList E σ λ id sz n k => need (S.pin id = false) (appK d Kb E σ id sz n k) := rfl
@[go_sem ↓] theorem JxI (x y : Operand) : aopC S kd bi dst (.store t x y) ty K Kb E σ = JhI S.P t (ev E x) (ev E y) dst Kb E σ := rfl
@[go_sem ↓] theorem Jxy (d : Nat) : aopC S kd bi (some d) (.alloc t) ty K Kb E σ = JgO S.P (S.b + d) t (tel S.P t) (tsz S.P t) (tzA S.P t) (newK d K (kE kd (S.b + d) E) (kS kd (S.b + d) σ)) := rfl
@[go_sem ↓] theorem JBf (d : Nat) (x : Operand) : aopC S kd bi (some d) (.box t x) ty K Kb E σ = boxC (S.b + d) t (tsz S.P t) (ev (kE kd (S.b + d) E) x) (newK d K (kE kd (S.b + d) E) (kS kd (S.b + d) σ)) := rfl
@[go_sem ↓] theorem JrV (d len : Nat) (c : Array (Nat × Operand)) : aopC S kd bi (some d) (.buildSlice t len c) ty K Kb E σ =
 Jes S.P (S.b + d) (tel S.P t) len (c.toList.map (·.1)) (c.toList.map λ p => ev (kE kd (S.b + d) E) p.2) (newK d K (kE kd (S.b + d) E) (kS kd (S.b + d) σ)) := rfl
@[go_sem ↓] theorem Jr3 (d : Nat) (l c : Operand) : aopC S kd bi (some d) (.makeSlice t l c) ty K Kb E σ = Jey S.P (S.b + d) (tel S.P t) (ev (kE kd (S.b + d) E) l) (ev (kE kd (S.b + d) E) c) (newK d K (kE kd (S.b + d) E) (kS kd (S.b + d) σ)) := rfl
@[go_sem] theorem JCD (op : Op) (h : semD S dst op ty Kb E σ) : semD S dst op ty Kb E σ = True := by simp [h]
@[go_sem] theorem JCg (a b : AV) : Jag (.v (.bool true)) a b k = k a := rfl
@[go_sem] theorem JCf (a b : AV) : Jag (.v (.bool false)) a b k = k b := rfl
@[go_sem] theorem Jw0 (c a b : Bool) : Jag (.v (.bool c)) (.v (.bool a)) (.v (.bool b)) k = k (.v (.bool (if c = true then a else b))) := by cases c <;> rfl
@[go_sem] theorem JyV (c : Bool) (q : IntKind) (a b : Int) : Jag (.v (.bool c)) (.v (.int q a)) (.v (.int q b)) k = k (.v (.int q (if c = true then a else b))) := by cases c <;> rfl
attribute [go_sem] JhO
attribute [go_sem] Job
@[go_sem] theorem JwE (e : AV) (j : Nat) : Ji5 P t (some e) j k = Jgr P t e.cells j k := rfl
@[go_sem] theorem JAL (cs : List AV) (b : Nat) : Jgr P t cs b k = JlX (tagg P t) (tsz P t) cs b k := rfl
attribute [go_sem] JlX
attribute [go_sem] Jez
attribute [go_sem] binC
attribute [go_sem] intC strC
attribute [go_sem] aggC
attribute [go_sem] eqlC
@[go_sem] theorem JBv : eqK [] [] [] = some true := rfl
@[go_sem] theorem JBu (c : List Nat) (q : IntKind) (a b : Int) (r s : List AV) : eqK (0 :: c) (.v (.int q a) :: r) (.v (.int q b) :: s) = (eqK c r s).map ((a == b) && ·) := by simp [eqK]
@[go_sem] theorem JzV (c : List Nat) (a b : Bool) (r s : List AV) : eqK (1 :: c) (.v (.bool a) :: r) (.v (.bool b) :: s) = (eqK c r s).map ((a == b) && ·) := rfl
@[go_sem] theorem JBw (c : List Nat) (a b : ByteArray) (r s : List AV) : eqK (2 :: c) (.v (.string a) :: r) (.v (.string b) :: s) = (eqK c r s).map ((a.toList == b.toList) && ·) := rfl
attribute [go_sem] Option.map_some Bool.and_true
attribute [go_sem] Jf7
attribute [go_sem] JhU
attribute [go_sem] Jj3
def Jdz (c : Nat -> Option (Nat × Nat)) (cs : List AV) (v : AV) (d : List (Nat × AV)) (o : Option (Nat × Nat)) : Option (List AV) := match o with
 | none => none
 | some (b, size) => if v.cells.length = size /\ b + size <= cs.length /\ v.ok = true then Jdy c (cs.take b ++ v.cells ++ cs.drop (b + size)) d else none
@[go_sem] theorem Jx6 (b : Nat -> Option (Nat × Nat)) (cs : List AV) : Jdy b cs [] = some cs := rfl
@[go_sem] theorem Jwt (b : Nat -> Option (Nat × Nat)) (cs : List AV) (i : Nat) (v : AV) (c : List (Nat × AV)) : Jdy b cs ((i, v) :: c) = Jdz b cs v c (b i) := by
 simp only [Jdy, Jdz]; cases b i <;> rfl
@[go_sem] theorem Jwu (b : Nat -> Option (Nat × Nat)) (cs : List AV) (v : AV) (d : List (Nat × AV)) (c size : Nat) : Jdz b cs v d (some (c, size)) =
 if v.cells.length = size /\ c + size <= cs.length /\ v.ok = true then Jdy b (cs.take c ++ v.cells ++ cs.drop (c + size)) d else none := rfl
attribute [go_sem] Jub Jua
attribute [go_sem] unC
attribute [go_sem] JjX
attribute [go_sem] JcI
attribute [go_sem] idxP
attribute [go_sem] idxC
attribute [go_sem] idxG
attribute [go_sem] JeP
attribute [go_sem] lenN
attribute [go_sem] cutE
attribute [go_sem] lenC
attribute [go_sem] maxC
attribute [go_sem] minC
attribute [go_sem] extC
attribute [go_sem] JgO
@[go_sem] theorem JBp (d s : Nat) (x : AV) : boxC d t s x kn = Jei (x.ok = true /\ x.cells.length = s /\ s ≠ 0) kn (.ptr (16 * d) s 0 0) [(16 * d, ⟨t, s, [x]⟩)] := rfl
def Jpt (d e s : Nat) (z : Option AV) (len : Nat) (b : List Nat) (xs : List AV) (K : AV -> List (Nat × Blk) -> Prop) : Prop := match z with
 | some z => Jei (0 < s /\ z.ok = true /\ z.cells.length = s /\ len * s <= 16777216 /\ b = List.range len /\ Jbv s xs = true) K (.own (16 * d) s 0 len) [(16 * d, ⟨e, s, xs⟩)]
 | none => False
@[go_sem] theorem JtQ (d e len : Nat) (b : List Nat) (xs : List AV) : Jes P d (some e) len b xs kn = Jpt d e (tsz P e) (tzA P e) len b xs kn := rfl
attribute [go_sem] Jpt
def JqA (P : Program) (d e s : Nat) (z : Option AV) (n m : Int) (K : AV -> List (Nat × Blk) -> Prop) : Prop := match z with
 | some z => Jei (0 < s /\ z.ok = true /\ z.cells.length = s /\ 0 <= n /\ n <= m /\ m * (tby P e : Int) <= 281474976710656 /\ m <= 4611686018427387904) K (.own (16 * d) s 0 n.toNat) [(16 * d, ⟨e, s, List.replicate n.toNat z⟩)]
 | none => False
@[go_sem] theorem Jt4 (d e : Nat) (q b : IntKind) (n m : Int) : Jey P d (some e) (.v (.int q n)) (.v (.int b m)) kn = JqA P d e (tsz P e) (tzA P e) n m kn := rfl
attribute [go_sem] JqA
@[go_sem] theorem Jxs (s : Nat) : Jbv s [] = true := rfl
@[go_sem] theorem Jv6 (s : Nat) (x : AV) (xs : List AV) : Jbv s (x :: xs) = (x.ok && x.cells.length == s && Jbv s xs) := rfl
attribute [go_sem] appC
def appB (P : Program) (e : TypeId) (id s n : Nat) (b : Option Blk) (z : Option AV) (c : Nat) (xs : List AV) (K : Nat -> Nat -> Nat -> Blk -> Prop) : Prop := match b, z with
 | some b, some z => JhP (0 < tsz P e /\ z.ok = true /\ z.cells.length = tsz P e /\ s = tsz P e /\ b.sz = s /\ b.e = e /\ n <= b.es.length /\ c = s /\ Jbv s xs = true /\ (n + xs.length) * tby P e <= 140737488355328 /\ n + xs.length <= 4611686018427387904) K
  id s (n + xs.length) ⟨e, s, b.es.take n ++ xs⟩
 | _, _ => False
@[go_sem] theorem JzP (e id s n b : Nat) (xs : List AV) : appA P (some e) (.own id s 0 n) σ (some (b, xs)) ka = appB P e id s n (σ id) (tzA P e) b xs ka := rfl
attribute [go_sem] appB
attribute [go_sem] appT
@[go_sem] theorem JA6 (s : ByteArray) : srcC σ (.v (.string s)) = some (1, (bI s).map Y) := rfl
@[go_sem] theorem JCV (s : Nat) (es : List AV) : srcC σ (.sl s es) = some (s, es) := rfl
def srcB (b : Option Blk) (s i n : Nat) : Option (Nat × List AV) := b.bind λ b => if b.sz = s /\ i + n <= b.es.length then some (s, (b.es.drop i).take n) else none
@[go_sem] theorem JA5 (id s i n : Nat) : srcC σ (.own id s i n) = srcB (σ id) s i n := rfl
@[go_sem] theorem Jzi (b : Blk) (s i n : Nat) : srcB (some b) s i n = if b.sz = s /\ i + n <= b.es.length then some (s, (b.es.drop i).take n) else none := rfl
@[go_sem] theorem JBm (d id s n : Nat) (b : Blk) : appK d K E σ id s n b = K (upd (JaU (isId id) E) d (.own id s 0 n)) (updS (Jao (isId id) σ) id (b.kill (isId id))) := rfl
attribute [go_sem] JhI
attribute [go_sem] stoB
@[go_sem] theorem Jzl (b : Blk) (e : AV) (id s i j : Nat) (v : AV) : stoE P t b (some e) id s i j v K E σ =
 JhQ (b.sz = s /\ v.ok = true /\ v.cells.length = tsz P t /\ 0 < tsz P t /\ j + tsz P t <= s) K E (updS σ id ⟨b.e, b.sz, b.es.set i (setC e j v)⟩) := rfl
@[go_sem] theorem Jjr (e : AV) (j : Nat) (v : AV) : setC e j v = if j = 0 /\ v.cells.length = e.cells.length then v else .agg (e.cells.take j ++ v.cells ++ e.cells.drop (j + v.cells.length)) := rfl
attribute [go_sem] Jli
attribute [go_sem] Jsu
@[go_sem] theorem Jyl (v : AV) (b : List (Nat × Blk)) : impK (v, b) dst K E σ = K (updO E dst v) (addS σ b) := rfl
@[go_sem] theorem JC0 (v g : AV) : yldK S dst K E σ v g = K (updO (upd E S.N g) dst v) σ := rfl
theorem Jse {d g : Nat} {b : Bool} {c : List AV} (r : AV) (h : Ev S.P g c r) (f : b = false \/ r.flat = true) (i : rlen r <= 16) (h4 : kd = true \/ r.dn = false) (j : impK (imp (16 * d) r) dst K E σ) : JnG S kd bi d g b c dst K E σ L := .inl ⟨r, h, f, i, h4, j⟩
theorem Jan {d g : Nat} {b : Bool} {c : List AV} (h : bi = true) (f : L) : JnG S kd bi d g b c dst K E σ L := .inr ⟨h, f⟩
theorem Jab {c : Prop} {X Y : Env -> Jac -> Prop} {E' : Env} (h : c -> X E σ) (b : ¬ c -> Y E' σ) : branch c X E Y E' σ := ⟨h, b⟩
theorem Ja0 {c : Prop} {X Y : Env -> Jac -> Prop} {E' : Env} (b : c) (h : X E σ) : branch c X E Y E' σ := ⟨λ _ => h, λ d => absurd b d⟩
theorem Jam {c : Prop} {X Y : Env -> Jac -> Prop} {E' : Env} (b : ¬ c) (h : Y E' σ) : branch c X E Y E' σ := ⟨λ d => absurd d b, λ _ => h⟩
attribute [go_sem] imp impL imp1 rlen AV.flat AV.flatL
section
variable {f : AV -> AV}
@[go_sem] theorem JCu (x : Value) : res σ (.v x) = .v x := rfl
@[go_sem] theorem Jy5 (s : Nat) (es : List AV) : res σ (.sl s es) = .sl s es := rfl
@[go_sem] theorem Jy4 (e : AV) (j : Nat) : res σ (.pt e j) = .pt e j := rfl
@[go_sem] theorem JCo : res σ .any = .any := rfl
@[go_sem] theorem res_mp (es : List AV) : res σ (.mp es) = .mp es := rfl
@[go_sem] theorem JCr (id s i n : Nat) : res σ (.own id s i n) = Jgl (resF 7 σ) (σ id) s i n := rfl
@[go_sem] theorem JCs (id s i n : Nat) : res σ (.ptr id s i n) = Jgm (resF 7 σ) (σ id) s i n := rfl
@[go_sem] theorem JAU (id : Nat) : res σ (.mref id) = Jgk (resF 7 σ) (σ id) := rfl
@[go_sem] theorem JCn (cs : List AV) : res σ (.agg cs) = .agg (resL (resF 7 σ) cs) := rfl
@[go_sem] theorem JCt (cs : List AV) : res σ (.tup cs) = .tup (resL (resF 7 σ) cs) := rfl
@[go_sem] theorem JCp (g : Nat) (cs : List AV) : res σ (.clo g cs) = .clo g (resL (resF 7 σ) cs) := rfl
variable {n : Nat}
@[go_sem] theorem resF_v (x : Value) : resF (n + 1) σ (.v x) = .v x := rfl
@[go_sem] theorem JCl (s : Nat) (es : List AV) : resF (n + 1) σ (.sl s es) = .sl s es := rfl
@[go_sem] theorem JCk (e : AV) (j : Nat) : resF (n + 1) σ (.pt e j) = .pt e j := rfl
@[go_sem] theorem JAP : resF (n + 1) σ .any = .any := rfl
@[go_sem] theorem JCj (es : List AV) : resF (n + 1) σ (.mp es) = .mp es := rfl
@[go_sem] theorem JAR (id s i m : Nat) : resF (n + 1) σ (.own id s i m) = Jgl (resF n σ) (σ id) s i m := rfl
@[go_sem] theorem JAS (id s i m : Nat) : resF (n + 1) σ (.ptr id s i m) = Jgm (resF n σ) (σ id) s i m := rfl
@[go_sem] theorem Jy3 (id : Nat) : resF (n + 1) σ (.mref id) = Jgk (resF n σ) (σ id) := rfl
@[go_sem] theorem JAO (cs : List AV) : resF (n + 1) σ (.agg cs) = .agg (resL (resF n σ) cs) := rfl
@[go_sem] theorem JAT (cs : List AV) : resF (n + 1) σ (.tup cs) = .tup (resL (resF n σ) cs) := rfl
@[go_sem] theorem JAQ (g : Nat) (cs : List AV) : resF (n + 1) σ (.clo g cs) = .clo g (resL (resF n σ) cs) := rfl
@[go_sem] theorem JCm (cs : List AV) : resL f cs = if AV.namesL allB cs = true then cs.map f else cs := rfl
attribute [go_sem] Jgl
attribute [go_sem] Jgm
attribute [go_sem] resE
attribute [go_sem] Jgk
end
theorem JmG (s : Nat) (es : List AV) : (AV.full (.sl s es) = true) = (0 < es.length) := by cases es <;> simp [AV.full]
theorem Jke (id s i n : Nat) : (AV.full (.own id s i n) = true) = (0 < n) := by cases n <;> simp [AV.full]
@[go_sem] theorem Jt5 (s : Nat) (es : List AV) (q : Option TypeId) (k : AV -> Prop) : JfP .eql (.sl s es) q k = JaB (0 < es.length /\ q.isSome = true) k (.v (.bool false)) := by simp only [JfP, JmG]
@[go_sem] theorem Jt6 (s : Nat) (es : List AV) (q : Option TypeId) (k : AV -> Prop) : JfP .neq (.sl s es) q k = JaB (0 < es.length /\ q.isSome = true) k (.v (.bool true)) := by simp only [JfP, JmG]
@[go_sem] theorem JsP (id s i n : Nat) (q : Option TypeId) (k : AV -> Prop) : JfP .eql (.own id s i n) q k = JaB (0 < n /\ q.isSome = true) k (.v (.bool false)) := by simp only [JfP, Jke]
@[go_sem] theorem JsQ (id s i n : Nat) (q : Option TypeId) (k : AV -> Prop) : JfP .neq (.own id s i n) q k = JaB (0 < n /\ q.isSome = true) k (.v (.bool true)) := by simp only [JfP, Jke]
def rvC (P : Program) (E : Env) (σ : Jac) : List ResultVar -> List AV -> (List AV -> Prop) -> Prop
 | [], vs, K => K vs
 | .tmp t :: r, vs, K => rvC P E σ r (vs ++ [E t]) K
 | .cell t b :: r, vs, K => JhO P σ b (E t) λ v => rvC P E σ r (vs ++ [v]) K
theorem Jf8 {σ : Jac} {a : AV} {K K' : List AV -> Nat -> Prop} (b : ∀ cs j, K cs j -> K' cs j) (h : JbY σ a K) : JbY σ a K' := by
 unfold JbY at *
 split at h
 . exact b _ _ h
 . obtain ⟨k, c, d, e, f, i⟩ := h; exact ⟨k, c, d, e, f, b _ _ i⟩
 . exact h.elim
theorem Jf1 {σ : Jac} : ∀ (l : List ResultVar) {K K' : List AV -> Prop}, (∀ vs, K vs -> K' vs) -> rvals P E σ l K -> rvals P E σ l K'
 | [], _, _, b, h => b _ h
 | .tmp t :: r, _, _, b, h => Jf1 r (λ _ c => b _ c) h
 | .cell t d :: r, _, _, b, h => Jf8 (λ _ _ ⟨v, hv, hr⟩ => ⟨v, hv, Jf1 r (λ _ c => b _ c) hr⟩) h
theorem Jne {σ : Jac} : ∀ (l : List ResultVar) (vs : List AV) {K : List AV -> Prop}, rvC P E σ l vs K -> rvals P E σ l λ b => K (vs ++ b)
 | [], vs, K, h => by simpa [rvals, rvC] using h
 | .tmp t :: r, vs, K, h => by
  have := Jne r (vs ++ [E t]) h
  simpa [rvals] using this
 | .cell t m :: r, vs, K, h => by
  obtain ⟨v, f, c⟩ := Jhj h
  have := Jne r (vs ++ [v]) c
  refine Jf8 (λ k j d => ⟨v, d, Jf1 r (λ b i => ?_) this⟩) f
  simpa using i
@[go_sem] theorem JCB (vs : List AV) (K : List AV -> Prop) : rvC P E σ [] vs K = K vs := rfl
@[go_sem] theorem JCC (t : Nat) (r : List ResultVar) (vs : List AV) (K : List AV -> Prop) : rvC P E σ (.tmp t :: r) vs K = rvC P E σ r (vs ++ [E t]) K := rfl
@[go_sem] theorem JA3 (t : Nat) (ty : TypeId) (r : List ResultVar) (vs : List AV) (K : List AV -> Prop) : rvC P E σ (.cell t ty :: r) vs K = JhO P σ ty (E t) λ v => rvC P E σ r (vs ++ [v]) K := rfl
def retC (S : Sp) (d : Func) (r : AV) : Exit -> Env -> Jac -> Prop
 | .normal => λ E b => rvC S.P E b d.results.toList [] (retK b λ c => c = r)
 | .ret => λ E b => rvC S.P E b d.results.toList [] (retK b λ c => c = r)
 | _ => λ _ _ => False
@[go_sem ↓] theorem JvE (b : Func) (r : AV) : retC S b r .normal E σ = rvC S.P E σ b.results.toList [] (retK σ λ c => c = r) := rfl
@[go_sem ↓] theorem JAV (b : Func) (r : AV) : retC S b r .ret E σ = rvC S.P E σ b.results.toList [] (retK σ λ c => c = r) := rfl
theorem Jq7 (b : Func) (r : AV) (e : Exit) (E : Env) (σ : Jac) (h : retC S b r e E σ) : retG S.P b (λ vs _ σ => retK σ (· = r) vs) e E σ := by
 cases e <;> first | exact h.elim | exact Jne _ _ h
def Jg4 (σ : Jac) (p : Nat -> Bool) : List AV -> Prop
 | [] => True
 | v :: r => JbN σ p v /\ Jg4 σ p r
theorem Jh0 (p : Nat -> Bool) (vs : List AV) : (∀ v ∈ vs, JbN σ p v) ↔ Jg4 σ p vs := by
 induction vs with
 | nil => simp [Jg4]
 | cons v vs b => simp [Jg4, <- b]
variable {R : AV -> Prop}
theorem Jfo {vs : List AV} (h : Jav vs = []) : topP vs = inL [] := by funext i; simp [topP, h, inL]
theorem Joh (a : AV) : AV.namesB (inL []) a = false := by rw [Jdi]; exact AV.namesB_none a
@[go_sem] theorem retK_v (x : Value) : retK σ R [.v x] = R (.v x) := by
 simp only [retK, JeY, Jav, AV.single, expo, Jfo (vs := [.v x]) rfl, Jcu, JCu, eq_iff_iff, true_and]
 refine ⟨λ h => h.2, λ h => ⟨⟨by simp, λ v b => ?_⟩, h⟩⟩
 simp only [L0u] at b; subst b; rfl
@[go_sem] theorem JCx (s : Nat) (es : List AV) : retK σ R [.sl s es] = R (.sl s es) := by
 simp only [retK, JeY, Jav, AV.single, expo, Jfo (vs := [.sl s es]) rfl, Jcu, Jy5, eq_iff_iff, true_and]
 refine ⟨λ h => h.2, λ h => ⟨⟨by simp, λ v b => ?_⟩, h⟩⟩
 simp only [L0u] at b; subst b; rfl
@[go_sem] theorem JCw (e : AV) (j : Nat) : retK σ R [.pt e j] = R (.pt e j) := by
 simp only [retK, JeY, Jav, AV.single, expo, Jfo (vs := [.pt e j]) rfl, Jcu, Jy4, eq_iff_iff, true_and]
 refine ⟨λ h => h.2, λ h => ⟨⟨by simp, λ v b => ?_⟩, h⟩⟩
 simp only [L0u] at b; subst b; rfl
@[go_sem] theorem JAW (cs : List AV) : retK σ R [.agg cs] = R (res σ (.agg cs)) := by
 simp only [retK, JeY, Jav, AV.single, expo, Jfo (vs := [.agg cs]) rfl, Jcu, eq_iff_iff, true_and]
 refine ⟨λ h => h.2, λ h => ⟨⟨by simp, λ v b => ?_⟩, h⟩⟩
 simp only [L0u] at b; subst b; exact Joh _
def JuQ (b : Option Blk) (s n : Nat) (ptr : Bool) (σ : Jac) (p : Nat -> Bool) (K : AV -> Prop) : Prop := match b, ptr with
 | some k, false => JaB (k.sz = s /\ n <= k.es.length /\ AV.namesL p k.es = false) K (.new k.e s (resL (res (Jao p σ)) (k.es.take n)))
 | some k, true => JaB (k.sz = s /\ AV.namesL p k.es = false) K (.nptr k.e s (resL (res (Jao p σ)) k.es))
 | none, _ => False
theorem Jtu (vs : List AV) (id : Nat) (h : Jav vs = [id]) : topP vs = isId id := by
 funext i; simp only [topP, h, isId, List.contains_cons, List.contains_nil, L14]
@[go_sem] theorem JAY (id s n : Nat) : retK σ R [.own id s 0 n] = JuQ (σ id) s n false σ (isId id) R := by
 simp only [retK, JeY, Jav, AV.single, expo, Jtu [.own id s 0 n] id rfl, eq_iff_iff, true_and]; unfold JuQ JaB
 cases hb : σ id with
 | none =>
  simp only [iff_false]
  intro ⟨⟨_, h⟩, _⟩
  have := h _ (by simp : AV.own id s 0 n ∈ [AV.own id s 0 n])
  simp [JbN, hb] at this
 | some k =>
  refine ⟨λ ⟨⟨_, h⟩, hR⟩ => ?_, λ ⟨h, hR⟩ => ⟨⟨by simp, λ v b => ?_⟩, hR⟩⟩
  . have := h _ (by simp : AV.own id s 0 n ∈ [AV.own id s 0 n])
    simp only [JbN, hb] at this; obtain ⟨j, i, c, d, f⟩ := this
    cases i; exact ⟨⟨c, d, f⟩, hR⟩
  . simp only [L0u] at b; subst b
    exact ⟨k, hb, h⟩
attribute [go_sem] JuQ
@[go_sem] theorem JAX (g : Nat) (caps : List AV) : retK σ R [.clo g caps] = need ((Jav caps).Nodup /\ Jg4 σ (topP caps) caps) (R (.clo g (caps.map (expo σ (topP caps))))) := by
 show (((Jav caps).Nodup /\ ∀ v ∈ caps, JbN σ (topP caps) v) /\ _) = _
 rw [Jh0]; rfl
@[go_sem] theorem JAZ (a b : AV) (l : List AV) : retK σ R (a :: b :: l) = need ((Jav (a :: b :: l)).Nodup /\ Jg4 σ (topP (a :: b :: l)) (a :: b :: l)) (R (.tup ((a :: b :: l).map (expo σ (topP (a :: b :: l)))))) := by
 have : retK σ R (a :: b :: l) = (JeY σ (a :: b :: l) /\ R (.tup ((a :: b :: l).map (expo σ (topP (a :: b :: l)))))) := by
  unfold retK; split <;> first | rfl | simp_all
 rw [this]; unfold need JeY; rw [Jh0]
attribute [go_sem] Jg4
@[go_sem] theorem JA9 (x : Value) (l : List AV) : Jav (.v x :: l) = Jav l := rfl
@[go_sem] theorem Jzu (s : Nat) (es l : List AV) : Jav (.sl s es :: l) = Jav l := rfl
@[go_sem] theorem Jw7 (es l : List AV) : Jav (.agg es :: l) = Jav l := rfl
@[go_sem] theorem Jw9 (id s n : Nat) (l : List AV) : Jav (.own id s 0 n :: l) = id :: Jav l := rfl
@[go_sem] theorem Jxa (id s : Nat) (l : List AV) : Jav (.ptr id s 0 0 :: l) = id :: Jav l := rfl
@[go_sem] theorem Jw8 : Jav [] = [] := rfl
@[go_sem] theorem JCX (l : List AV) (i : Nat) : topP l i = (Jav l).contains i := rfl
@[go_sem] theorem exp1_v (x : Value) : JbN σ p (.v x) = True := by simp [JbN, AV.namesB]
@[go_sem] theorem JBz (s : Nat) (es : List AV) : JbN σ p (.sl s es) = True := by simp [JbN, AV.namesB]
@[go_sem] theorem JzX (es : List AV) : JbN σ p (.agg es) = (AV.namesL p es = false) := rfl
def JuN (b : Option Blk) (s n : Nat) (p : Nat -> Bool) : Prop := match b with | some k => k.sz = s /\ n <= k.es.length /\ AV.namesL p k.es = false | none => False
@[go_sem] theorem JzY (id s n : Nat) : JbN σ p (.own id s 0 n) = JuN (σ id) s n p := by
 unfold JuN; simp only [JbN]; cases σ id <;> simp
attribute [go_sem] JuN
def JuO (b : Option Blk) (s : Nat) (p : Nat -> Bool) : Prop := match b with | some k => k.sz = s /\ AV.namesL p k.es = false | none => False
@[go_sem] theorem JzZ (id s : Nat) : JbN σ p (.ptr id s 0 0) = JuO (σ id) s p := by
 unfold JuO; simp only [JbN]; cases σ id <;> simp
attribute [go_sem] JuO
def JuR (b : Option Blk) (s : Nat) (σ : Jac) (p : Nat -> Bool) : AV := match b with | some k => .nptr k.e s (resL (res (Jao p σ)) k.es) | none => .any
@[go_sem] theorem Jz2 (id s : Nat) : expo σ p (.ptr id s 0 0) = JuR (σ id) s σ p := by unfold JuR; simp only [expo]; cases σ id <;> rfl
attribute [go_sem] JuR
@[go_sem] theorem expo_v (x : Value) : expo σ p (.v x) = .v x := rfl
@[go_sem] theorem JBB (s : Nat) (es : List AV) : expo σ p (.sl s es) = .sl s es := rfl
@[go_sem] theorem Jz0 (es : List AV) : expo σ p (.agg es) = res (Jao p σ) (.agg es) := rfl
def JuP (b : Option Blk) (s n : Nat) (σ : Jac) (p : Nat -> Bool) : AV := match b with | some k => .new k.e s (resL (res (Jao p σ)) (k.es.take n)) | none => .any
@[go_sem] theorem Jz1 (id s n : Nat) : expo σ p (.own id s 0 n) = JuP (σ id) s n σ p := by unfold JuP; simp only [expo]; cases σ id <;> rfl
attribute [go_sem] JuP
end
def Jo0 (I : Nat -> Env -> Jac -> Prop) (n : Nat) (E : Env) (σ : Jac) : Prop := ∃ m, m < n /\ I m E σ
theorem Jaf {B : (Exit -> Env -> Jac -> Prop) -> Env -> Jac -> Prop} {Q : Exit -> Env -> Jac -> Prop} {E : Env} {σ : Jac} (I : Nat -> Env -> Jac -> Prop) (n : Nat) (b : I n E σ)
 (c : ∀ n E σ, I n E σ -> B (Jdd (Jo0 I n) Q) E σ) : Jqw B Q E σ := ⟨I, ⟨n, b⟩, c⟩
theorem Jad {I : Nat -> Env -> Jac -> Prop} {n : Nat} {E : Env} {σ : Jac} (m : Nat) (h : m < n) (b : I m E σ) : Jo0 I n E σ := ⟨m, h, b⟩
@[go_sem] theorem sp_P (P : Program) (f N : Nat) : (spOf P f N).P = P := rfl
@[go_sem] theorem sp_b (P : Program) (f N : Nat) : (spOf P f N).b = 131072 * (f + 1) := rfl
@[go_sem ↓] theorem sp_bad (P : Program) (f N id : Nat) : (spOf P f N).bad id = false := rfl
@[go_sem] theorem sp_N (P : Program) (f N : Nat) : (spOf P f N).N = N := rfl
@[go_sem] theorem sp_pin (P : Program) (f N id : Nat) : (spOf P f N).pin id = false := rfl
theorem Jah {P : Program} {f : FuncId} {b : Func} {c : Code} {args : List AV} {r : AV} (l : P.funcs[f]? = some b) (k : b.body = some c) (j : fnQ P b c = true) (i : P.follows .mixedOrders = true)
 (d : args.length <= b.ntmps) (h : awpC (spOf P f b.ntmps) c (retC (spOf P f b.ntmps) b r) (Jct args) λ _ => none) : Ev P f args r :=
 JpR l k (JpX j) i d (JbM (S := spOf P f b.ntmps) (λ _ _ _ _ _ m => (show False from m).elim) c (Jq7 b r) h)
end Go.Vai

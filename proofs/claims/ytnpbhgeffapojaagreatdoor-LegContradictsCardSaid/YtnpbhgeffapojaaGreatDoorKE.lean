/- A heap-free account of the walk, fifth part; facts about types -/
import Derived.Test.YtnpbhgeffapojaaGreatDoorKD
import Derived.Lib.UnsafeStr
import Derived.Laws.Externs
import Derived.DeepKeys
import Derived.Laws.IdiomRangeMap
import Derived.Sort.Grow
import Derived.Test.YtnpbhgeffapojaaGreatDoorProg
set_option linter.all false
namespace Go.Vai
open Go.RowKit
section
variable {S : Sp} {dst : Option Nat} {ty : TypeId} {K : Env -> Jac -> Prop} {E : Env} {σ : Jac}
theorem JbQ {op : Op} (r : AV) (hfit : (dst.all (decide <| · < S.N) && Op.low S.N op) = true) (hdf : ∀ c, op ≠ .defer c)
    (h : ∀ (C : Fx) (w : World) (ρ : Nat -> Option Nat) (Im : Nat -> Prop) (M : Str) (a : Act), Holds S C -> Wit C E σ a w ρ Im M -> (∀ u ∈ op.operands, Rep w ρ Im (ev E u) (a.eval u)) ->
      ∃ y, (∀ pos after guard, (execOp a.eval ⟨dst, op, ty, pos, after, guard⟩).run S.P w = .ok (.value y) w) /\ Rep w ρ Im r y) (hK : K (updO E dst r) σ) : semD S dst op ty K E σ := by
  intro pos after guard C H n a w Kc Q ⟨ρ, Im, M, hw⟩ hKc
  simp only [L00] at hfit; obtain ⟨hdst, hlow⟩ := hfit
  have hdst' : ∀ d, dst = some d -> d < C.N := fun d hd => by subst hd; rw [<- H.N]; simpa using hdst
  have rep : ∀ u ∈ op.operands, Rep w ρ Im (ev E u) (a.eval u) := fun u hu => JbL hw.env (by rw [hw.size, <- H.N]; exact Jbw hlow hu)
  obtain ⟨y, hrun, hr⟩ := h C w ρ Im M a H hw rep
  exact JaQ hdf (hrun pos after guard) (hKc _ _ _ _ hK ⟨ρ, Im, M, hw.put H.G hdst' hr⟩)
theorem Jrd {t : TypeId} {g : Nat} (cs : List Value) (hg : (g, cs) ∈ gtab) (r : AV) (hp : Jcs S.P t (cs.map .v) 0 r) (hK : K (updO E dst r) σ)
    (hfit : (dst.all (decide <| · < S.N) && Op.low S.N (.load t (.global g))) = true := by kernel_rfl) : semD S dst (.load t (.global g)) ty K E σ := by
  refine JbQ r hfit (fun _ e => by cases e) (fun C w ρ Im M a H hw _ => ?_) hK
  have hgk := (hw.gok H) _ hg
  obtain ⟨y, hrun, hrep⟩ := Jfw (P := S.P) (w := w) (ρ := ρ) (Im := Im) (b := g) (o := 0) (ys := cs) hp ⟨by simp, fun j c y hc hy => by
    rw [L03, hy] at hc; simp at hc; subst hc; exact .im _ _ (.v _)⟩ (fun y hy => by
      obtain ⟨i, hi⟩ := L0s.1 hy; exact (hgk.2 i y hi).2) (fun i v hv => by rw [L0q]; exact (hgk.2 i v hv).1)
  exact ⟨y, fun _ _ _ => by simp [execOp, Act.eval, Instr.loadAt, Instr.sureAddr, hrun], hrep⟩
theorem Jeb {s t e : TypeId} {x : Operand} (l : List Int) (hx : srcC σ (ev E x) = some (1, l.map Y)) (hns : ∀ b, ev E x ≠ .v (.string b)) (hs : S.P.underlying s = some (.slice e)) (he : S.P.underlying e = some (.int .u8)) (ht : S.P.underlying t = some .string)
    (hK : K (updO E dst (.v (.string (strOfNums l)))) σ) (hfit : (dst.all (decide <| · < S.N) && Op.low S.N (.convert s t x)) = true := by kernel_rfl) : semD S dst (.convert s t x) ty K E σ := by
  refine JbQ _ hfit (fun _ e => by cases e) (fun C w ρ Im M a H hw rep => ⟨_, fun _ _ _ => ?_, .im _ _ (.v (.string (strOfNums l)))⟩) hK
  have hr := rep x (by simp [Op.operands])
  obtain ⟨sz, xs, ⟨rfl, rfl⟩, hsrc⟩ := Jj7 hw.inv (JpV (K := fun sz xs => sz = 1 /\ xs = l.map Y) hx ⟨rfl, rfl⟩) hr
  rcases hsrc with ⟨ad, cap, hy, _, hmem⟩ | ⟨b, hb, _⟩
  . rw [L05] at hy
    cases ad with
    | none =>
      rcases hmem with ⟨h0, _⟩ | ⟨b, o, h0, _⟩
      . have hl : l = [] := by simpa using h0
        subst hl; simp only [execOp, hy, Sem.run_bind, run_convert_bytes_nil w s e hs he _ _ t ht, Result.andThen_ok, Sem.run_pure]
        rfl
      . cases h0
    | some ad =>
      rcases hmem with ⟨h0, _⟩ | ⟨b, o, h0, _, hc⟩
      . have hl : l = [] := by simpa using h0
        subst hl
        have := run_convert_bytes_back w s t e ad cap [] hs he ht (fun j hj => absurd hj (by simp))
        simp only [L0z] at this hy; simp only [execOp, hy, Sem.run_bind, this, Result.andThen_ok, Sem.run_pure]
        rfl
      . cases h0
        have hc : ∀ i, i < l.length -> w.cell? ⟨b, o + i, none⟩ = some (.int .u8 (l.getD i 0)) := fun i hi => by
          obtain ⟨v, hv, _, hrv⟩ := hc i (Y (l.getD i 0)) 0 (Y (l.getD i 0)) (by simp [L03, L1a, hi]) rfl
          have := hrv.v_inv
          subst this
          simpa using hv
        simp only [execOp, hy, Sem.run_bind, run_convert_bytes_arg w s e hs he b o l.length cap l rfl hc t ht, Result.andThen_ok, Sem.run_pure]
  . exact absurd hb (hns b)
theorem Jlg {t e : TypeId} {x : Operand} {lo hi : Option Operand} {c : AV} {j m : Nat} (l h : Nat) (hx : ev E x = .pt c j) (ht : tarr S.P t = some (m, e)) (hs : tsz S.P e = 1) (hm : j + m <= c.cells.length)
    (hb : bound E hi m fun h' => bound E lo 0 fun l' => l' = l /\ h' = h /\ l <= h /\ h <= m) (hK : K (updO E dst (.sl 1 ((c.cells.drop (j + l)).take (h - l)))) σ)
    (hat : ∀ a ∈ c.cells, a.cells = [a] := by simp) (hfit : (dst.all (decide <| · < S.N) && Op.low S.N (.slice t x lo hi none)) = true := by kernel_rfl) : semD S dst (.slice t x lo hi none) ty K E σ := by
  refine JbQ _ hfit (fun _ e => by cases e) (fun C w ρ Im M a H hw rep => ?_) hK
  have hr := rep x (by simp [Op.operands])
  obtain ⟨h', hb, hh⟩ := Jbg (w := w) (ρ := ρ) (Im := Im) hb fun o ho => rep o (by subst ho; simp [Op.operands])
  obtain ⟨l', ⟨rfl, rfl, hlh, hhm⟩, hl⟩ := Jbg (w := w) (ρ := ρ) (Im := Im) hb fun o ho => rep o (by subst ho; simp [Op.operands])
  rw [hx] at hr
  cases hr with
  | im _ _ hr =>
    generalize hax : a.eval x = ax at hr
    cases hr with
    | pt _ _ b o f hIm hc hrep =>
      have key : (Instr.sliceBounds false m m (lo.map a.eval) (hi.map a.eval) none).run S.P w = .ok (l', h', m) w := by
        unfold Instr.sliceBounds
        rcases hh with ⟨rfl, rfl⟩ | ⟨o, k, rfl, ho⟩ <;> rcases hl with ⟨rfl, rfl⟩ | ⟨o', k', rfl, ho'⟩
        . simp
        . simp [ho', Jak hlh]
        . simp [ho, Jak hhm]
        . simp [ho, ho', Jak hhm, Jak hlh]
      refine ⟨.slice (some (if m = l' then ⟨b, o + j, none⟩ else (⟨b, o + j, none⟩ : Addr).add (l' * 1))) (h' - l') (m - l'), fun _ _ _ => ?_, ?_⟩
      . have hz := Jap (P := S.P) (t := e) (by omega) w
        rw [hs] at hz; simp only [execOp, hax, Instr.sliceAt, Instr.sureAddr, L2c, Sem.run_bind, run_underlying (JeE ht) w, Result.andThen_ok, key, hz, Sem.run_pure]
      . have hcl : ((c.cells.drop (j + l')).take (h' - l')).length = h' - l' := by rw [L02, L0e]; omega
        by_cases h0 : h' - l' = 0
        . rw [h0]; simp only [L1N]; exact .im _ _ (.slnil ..)
        . have hne : ¬ m = l' := by omega
          rw [if_neg hne]
          have hadd : (⟨b, o + j, none⟩ : Addr).add (l' * 1) = ⟨b, o + j + l', none⟩ := by rw [Jba, L0X]
          rw [hadd]
          have := IRep.sl (w := w) (Im := Im) 1 ((c.cells.drop (j + l')).take (h' - l')) b (o + j + l') (m - l') (fun i _ => f (j + l' + i)) hIm (by rw [hcl]; omega)
            (fun a ha => by rw [hat a (L15 (L0D ha))]; rfl) (fun i q hi hq => by
              have : q = 0 := by omega
              subst this; rw [hcl] at hi
              have := hc (j + l' + i) (by omega)
              rw [show o + j + l' + i * 1 + 0 = o + (j + l' + i) from by omega]; exact this) (fun i a q c' ha hq => by
              have hi := (L04.1 ha).1; rw [hcl] at hi
              rw [L0l, if_pos (by omega), L0B] at ha
              have h1 := hat a (L01 ha); rw [h1] at hq
              cases q with
              | succ q => simp at hq
              | zero => simp at hq; subst hq; exact hrep _ _ ha)
          rw [hcl] at this
          exact .im _ _ this
end
section
variable {S : Sp} {dst : Option Nat} {ty : TypeId} {K : Env -> Jac -> Prop} {E : Env} {σ : Jac}
theorem Jnu {s t e d : Nat} {x : Operand} (b : ByteArray) (hx : ev E x = .v (.string b)) (hs : S.P.underlying s = some .string) (ht : S.P.underlying t = some (.slice e)) (he : S.P.underlying e = some (.int .u8)) (hb : b.size <= 4611686018427387904)
    (hK : K (upd (JaT (isId (16 * (S.b + d))) E) d (.own (16 * (S.b + d)) 1 0 b.size)) (updS (Jaj (isId (16 * (S.b + d))) σ) (16 * (S.b + d)) ⟨e, 1, (bI b).map Y⟩))
    (hd : (Nat.blt d S.N && Nat.blt d 100000) = true := by kernel_rfl) (hlow : Op.low S.N (.convert s t x) = true := by kernel_rfl) : semD S (some d) (.convert s t x) ty K E σ := by
  intro pos after guard C H n a w Kc Q ⟨ρ, Im, M, hw⟩ hKc
  simp only [L00] at hd
  have hd1 : d < S.N := L0u hd.1
  have hd2 : d < 100000 := L0u hd.2
  have hr := JbL hw.env (x := x) (by rw [hw.size, <- H.N]; exact Jbw hlow (by simp [Op.operands]))
  rw [hx] at hr; have hy := hr.v_inv
  have hrun := run_bytes_of_string (P := S.P) w s t e b hs ht he
  have hcap : b.size <= grownCap w b.size 0 e := grownCap_ge w _ 0 e
  have hbs : (bytesRow b (grownCap w b.size 0 e)).size = grownCap w b.size 0 e := by
    have : b.data.size = b.size := rfl
    simp only [bytesRow, L26, Array.size_map, L27, this]; omega
  have hcur : (bI b).map (fun n => Value.int .u8 n) = b.data.toList.map fun c => Value.int .u8 c.toNat := by simp only [bI, L19]; rfl
  have hnew : (w.drew.alloc (.cells (bytesRow b (grownCap w b.size 0 e)) e ((bytesRow b (grownCap w b.size 0 e)).size, (bytesRow b (grownCap w b.size 0 e)).size + 1))).heap[w.heap.size]? = some (.cells (bytesRow b (grownCap w b.size 0 e)) e ((bytesRow b (grownCap w b.size 0 e)).size, (bytesRow b (grownCap w b.size 0 e)).size + 1)) := heap_alloc_new w.drew _
  have hk : ((⟨e, 1, (bI b).map Y⟩ : Blk).kill (isId (16 * (S.b + d)))) = ⟨e, 1, (bI b).map Y⟩ := by
    have : AV.namesL (isId (16 * (S.b + d))) ((bI b).map Y) = false := by
      generalize bI b = l
      induction l with
      | nil => rfl
      | cons x l ih => simp [AV.namesL, AV.namesB, ih]
    simp [Blk.kill, this]
  have h2 := hw.renew H.G (id := 16 * (S.b + d)) (d := d) (by rw [<- H.N]; exact hd1) (k := ⟨e, 1, (bI b).map Y⟩) (g := w.heap.size) (cur := bytesRow b (grownCap w b.size 0 e)) (n := b.size) (cap := grownCap w b.size 0 e) (sz := 1)
    (w' := w.drew.alloc (.cells (bytesRow b (grownCap w b.size 0 e)) e ((bytesRow b (grownCap w b.size 0 e)).size, (bytesRow b (grownCap w b.size 0 e)).size + 1)))
    ⟨rfl, rfl, rfl, by simp, fun q hq _ => Below.heap_alloc w.drew _ q hq⟩ (.inr (L0a _)) (fun q _ hq => Below.heap_alloc w.drew _ q hq) ⟨_, hnew, .inr rfl⟩ (fun e he => by obtain ⟨x, _, rfl⟩ := L06.1 he; rfl)
    (by simp only [L05, JaJ, L0X]; rw [hbs]; exact hcap) (fun i e' j c he' hc => ?_) hcap (grownCap_le_maxLen w _ 0 e (by simp only [maxLen]; omega)) (by rw [hbs, L0X]) (by decide) L1G (H.free hd2 0 (by omega))
  . rw [hk] at h2
    refine JaQ (fun _ e => by cases e) ?_ (hKc _ _ _ _ hK ⟨_, _, _, h2⟩)
    simp only [execOp, hy, Sem.run_bind, hrun, Result.andThen_ok, Sem.run_pure]
  . rw [L03] at he'
    cases hn : (bI b)[i]? with
    | none => simp [hn] at he'
    | some n =>
      simp [hn] at he'; subst he'
      cases j with
      | succ j => simp at hc
      | zero =>
        simp at hc; subst hc
        refine ⟨.int .u8 n, ?_, rfl, .im _ _ (.v _)⟩
        have hi : i < (bI b).length := (L04.1 hn).1
        rw [JaJ] at hi
        have := bytesRow_at b (grownCap w b.size 0 e) i hi
        simp only [L0X, L0U]; rw [this]; simp only [bI, L03, L0i] at hn; obtain ⟨c, hc, rfl⟩ := hn
        have hc' : b.data[i]? = some c := by simpa using hc
        rw [L0g hi] at hc'
        cases hc'; rfl
theorem JpP {t e : TypeId} {x mx : Operand} {lo hi : Option Operand} {sz : Nat} {es : List AV} (l h : Nat) {km : IntKind} (hx : ev E x = .sl sz es) (ht : tel S.P t = some e) (hz : tsz S.P e = sz) (h0 : 0 < sz) (hm : ev E mx = .v (.int km h)) (hhi : hi ≠ none)
    (hb : bound E hi es.length fun h' => bound E lo 0 fun l' => l' = l /\ h' = h /\ l <= h /\ h <= es.length) (hK : K (updO E dst (.sl sz ((es.drop l).take (h - l)))) σ)
    (hfit : (dst.all (decide <| · < S.N) && Op.low S.N (.slice t x lo hi (some mx))) = true := by kernel_rfl) : semD S dst (.slice t x lo hi (some mx)) ty K E σ := by
  refine JbQ _ hfit (fun _ e => by cases e) (fun C w ρ Im M a H hw rep => ?_) hK
  have hr := rep x (by simp [Op.operands])
  have hmr := rep mx (by simp [Op.operands])
  rw [hm] at hmr; have hmv := hmr.v_inv
  obtain ⟨h', hb, hh⟩ := Jbg (w := w) (ρ := ρ) (Im := Im) hb fun o ho => rep o (by subst ho; simp [Op.operands])
  obtain ⟨l', ⟨rfl, rfl, hlh, hhm⟩, hl⟩ := Jbg (w := w) (ρ := ρ) (Im := Im) hb fun o ho => rep o (by subst ho; simp [Op.operands])
  rw [hx] at hr
  obtain ⟨ad, n', cap, hy, hn', h1, h2, h3, _, hrep⟩ := Jhj (P := S.P) (e := e) (lo := l') (hi := h') (r := .sl sz ((es.drop l').take (h' - l'))) (x := .sl sz es) ⟨h0, hz, hlh, hhm, rfl⟩ hr
  simp only [lenV, Option.some.injEq] at hn'; subst hn'
  have hmx : mx ∈ (Op.slice t x lo hi (some mx)).operands := by simp [Op.operands]
  have key : (Instr.sliceBounds true es.length cap (lo.map a.eval) (hi.map a.eval) (some (a.eval mx))).run S.P w = .ok (l', h', h') w := by
    unfold Instr.sliceBounds
    have r1 := fun c => Jak (P := S.P) (w := w) (k := km) (code := c) (show h' <= cap by omega)
    have r2 := fun k c => Jak (P := S.P) (w := w) (k := k) (code := c) (L0a h')
    have r3 := fun k c => Jak (P := S.P) (w := w) (k := k) (code := c) hlh
    rw [hmv]
    rcases hh with ⟨rfl, rfl⟩ | ⟨o, k, rfl, ho⟩
    . exact absurd rfl hhi
    . rcases hl with ⟨rfl, rfl⟩ | ⟨o', k', rfl, ho'⟩
      . simp [ho, r1, r2]
      . simp [ho, ho', r1, r2, r3]
  have hsz := Jap (P := S.P) (t := e) (by omega) w
  refine ⟨.slice (if h' = l' then ad else ad.map (·.add (l' * tsz S.P e))) (h' - l') (h' - l'), fun _ _ _ => ?_, ?_⟩
  . simp only [execOp, hy, L0K, Instr.sliceAt, Instr.slice, Sem.run_bind, run_underlying (Jcw ht) w, Result.andThen_ok, key, hsz, Sem.run_pure]
  . have hL : ((es.drop l').take (h' - l')).length = h' - l' := by rw [L02, L0e]; omega
    by_cases e0 : h' - l' = 0
    . have : (es.drop l').take (h' - l') = [] := by rw [e0]; rfl
      rw [this, e0]; exact .im _ _ (.slnil ..)
    . rw [if_neg (by omega)]
      rw [if_neg (by omega)] at hrep
      generalize ad.map (·.add (l' * tsz S.P e)) = ad' at hrep; generalize (es.drop l').take (h' - l') = L at *; generalize h' - l' = q at *; generalize cap - l' = c at *; clear key
      cases hrep with
      | im _ _ hr =>
        cases hr with
        | slnil => simp at hL; omega
        | sl _ _ b o cap' f hIm hcap hl' hc hrep' => exact .im _ _ (.sl _ _ b o _ f hIm (L0a _) hl' hc hrep')
theorem Je4 {t te : TypeId} {op : BinOp} {x : Operand} {t' : TypeId} (q : Bool) (hx : (ev E x = .v (.pointer none) /\ q = true) \/ ((∃ id sz i j, ev E x = .ptr id sz i j) /\ q = false) \/ ((∃ e j, ev E x = .pt e j) /\ q = false)) (ht : S.P.underlying t = some (.pointer te))
    (r : Bool) (hop : (op = .eql /\ r = q) \/ (op = .neq /\ r = !q)) (hK : K (updO E dst (.v (.bool r))) σ) (hfit : (dst.all (decide <| · < S.N) && Op.low S.N (.binOp op t x (.const (.pointer none)) t')) = true := by kernel_rfl) : semD S dst (.binOp op t x (.const (.pointer none)) t') ty K E σ := by
  refine JbQ _ hfit (fun _ e => by cases e) (fun C w ρ Im M a H hw rep => ⟨_, fun _ _ _ => ?_, .im _ _ (.v _)⟩) hK
  have hr := rep x (by simp [Op.operands])
  have hax : ∃ ad : Option Addr, a.eval x = .pointer ad /\ q = ad.isNone := by
    rcases hx with ⟨hx, rfl⟩ | ⟨⟨id, sz, i, j, hx⟩, rfl⟩ | ⟨⟨e, j, hx⟩, rfl⟩
    . rw [hx] at hr; exact ⟨none, hr.v_inv, rfl⟩
    . rw [hx] at hr; obtain ⟨b, hy, _⟩ := hr.ptr_inv; exact ⟨_, hy, rfl⟩
    . rw [hx] at hr; obtain ⟨b, o, hy, _⟩ := hr.pt_inv; exact ⟨_, hy, rfl⟩
  obtain ⟨ad, hax, rfl⟩ := hax
  have he : ∀ d, (Op.equalIn (d + 1) t (.pointer ad) (.pointer none)).run S.P w = .ok ad.isNone w := fun d => by cases ad <;> simp [Op.equalIn, run_underlying ht]
  have hg : ∀ w, (eqGuard op t x (.const (.pointer none)) (.pointer ad) (.pointer none)).run S.P w = .ok () w := fun w => by unfold eqGuard; cases op <;> rfl
  have hay : a.eval (.const (.pointer none)) = .pointer none := rfl
  rcases hop with ⟨rfl, rfl⟩ | ⟨rfl, rfl⟩
  . simp only [execOp, hax, hay, Sem.run_bind, hg, Result.andThen_ok, binOp, Op.equal, Op.maxDepth, he 9999, Sem.run_pure]
  . simp only [execOp, hax, hay, Sem.run_bind, hg, Result.andThen_ok, binOp, Op.equal, Op.maxDepth, he 9999, Sem.run_pure]
theorem Jh1 {t te : TypeId} {op : BinOp} {x y : Operand} {t' : TypeId} {id sz i j : Nat} {inf : TypeInfo} (hx : ev E x = .ptr id sz i j) (hy : ev E y = .ptr id sz i j) (ht : S.P.underlying t = some (.pointer te)) (hi : S.P.info? te = some inf)
    (r : Bool) (hop : (op = .eql /\ r = true) \/ (op = .neq /\ r = false)) (hK : K (updO E dst (.v (.bool r))) σ) (hfit : (dst.all (decide <| · < S.N) && Op.low S.N (.binOp op t x y t')) = true := by kernel_rfl) : semD S dst (.binOp op t x y t') ty K E σ := by
  refine JbQ _ hfit (fun _ e => by cases e) (fun C w ρ Im M a H hw rep => ⟨_, fun _ _ _ => ?_, .im _ _ (.v _)⟩) hK
  have hrx := rep x (by simp [Op.operands])
  have hry := rep y (by simp [Op.operands])
  rw [hx] at hrx; rw [hy] at hry
  have hb : ∃ b, a.eval x = .pointer (some ⟨b, i * sz + j, none⟩) /\ a.eval y = .pointer (some ⟨b, i * sz + j, none⟩) := by
    generalize a.eval x = ax at hrx; generalize a.eval y = ay at hry
    cases hrx with
    | im _ _ h => cases h
    | ptr _ _ _ _ b hρ hz =>
      cases hry with
      | im _ _ h => cases h
      | ptr _ _ _ _ b' hρ' hz' => rw [hρ] at hρ'; cases hρ'; exact ⟨b, rfl, rfl⟩
  obtain ⟨b, hax, hay⟩ := hb
  have hg : ∀ w v, (eqGuard op t x y (.pointer v) (.pointer v)).run S.P w = .ok () w := fun w v => by unfold eqGuard; cases op <;> rfl
  rcases hop with ⟨rfl, rfl⟩ | ⟨rfl, rfl⟩
  . simp only [execOp, hax, hay, Sem.run_bind, hg, Result.andThen_ok, run_eql_ptr_same w _ ht hi, Sem.run_pure]
  . simp only [execOp, hax, hay, Sem.run_bind, hg, Result.andThen_ok, Lib.run_neq_ptr_same w _ ht hi, Sem.run_pure]
theorem Jnj {P : Program} {fits : TypeId -> Bool} {d : Nat} {e : TypeId} {c c' off n : Nat} (hc : c <= c') (h : rowAt P fits d e c off n = true) : rowAt P fits d e c' off n = true := by
  cases d with
  | zero => simp [rowAt] at h
  | succ d =>
    simp only [rowAt] at h ⊢
    by_cases h0 : P.cellsOf e = 0
    . simp [h0] at h
    . simp only [h0, if_false, L0x, L00, decide_eq_true_eq] at h ⊢
      rcases h with ⟨⟨h1, h2⟩, h3⟩ | ⟨h1, h2⟩
      . exact .inl ⟨⟨h1, by omega⟩, h3⟩
      . exact .inr ⟨by omega, h2⟩
theorem JgN {P : Program} : ∀ {d : Nat} {e : TypeId} {c c' off : Nat} {u : TypeId} {n : Nat}, c <= c' -> liesAt P d e c off u n = true -> liesAt P d e c' off u n = true
  | 0, _, _, _, _, _, _, _, h => by simp [liesAt] at h
  | d + 1, e, c, c', off, u, n, hc, h => by
    simp only [liesAt, L0x] at h ⊢
    rcases h with h | h
    . exact .inl (Jnj hc h)
    . refine .inr ?_
      split at h
      . rename_i m u' hu; exact JgN hc h
      . cases h
theorem Jhl {t te u : TypeId} {x : Operand} {id sz j : Nat} {k : Blk} {inf : TypeInfo} (hx : ev E x = .ptr id sz 0 j) (hk : σ id = some k) (hks : k.sz = sz) (h0 : sz ≠ 0) (hj : j < k.es.length * sz) (ht : S.P.underlying t = some (.pointer te)) (hu : S.P.underlying u = some .unsafePointer)
    (hi : S.P.info? te = some inf) (hz : inf.size ≠ 0) (hK : K (updO E dst (.ptr id sz 0 j)) σ) (hfit : (dst.all (decide <| · < S.N) && Op.low S.N (.convert t u x)) = true := by kernel_rfl) : semD S dst (.convert t u x) ty K E σ := by
  refine JbQ _ hfit (fun _ e => by cases e) (fun C w ρ Im M a H hw rep => ?_) hK
  have hr := rep x (by simp [Op.operands])
  rw [hx] at hr; generalize hax : a.eval x = ax at hr
  cases hr with
  | im _ _ h => cases h
  | ptr _ _ _ _ b hρ hz' =>
    obtain ⟨cur, ⟨fr, hb, _⟩, _, hs, _⟩ := hw.inv.blk id k b hk hρ (by omega)
    refine ⟨_, fun _ _ _ => ?_, .ptr id sz 0 j b hρ hz'⟩
    have hsh : w.shape? b = some (k.e, cur.size) := by simp [World.shape?, hb]
    have := Lib.run_to_unsafe (P := S.P) w ⟨b, 0 * sz + j, none⟩ ht hu hi hz hsh (by rw [hks] at hs; simp; omega)
    simp only [execOp, hax, Sem.run_bind, this, Result.andThen_ok, Sem.run_pure]
theorem Jg0 {t te u : TypeId} {x : Operand} {id sz j : Nat} {k : Blk} {inf : TypeInfo} (hx : ev E x = .ptr id sz 0 j) (hk : σ id = some k) (hks : k.sz = sz) (h0 : sz ≠ 0) (hes : k.es ≠ []) (ht : S.P.underlying t = some .unsafePointer) (hu : S.P.underlying u = some (.pointer te))
    (hi : S.P.info? te = some inf) (hc : S.P.cellsOf k.e ≠ 0 /\ S.P.cellsOf k.e <= sz) (hl : liesAt S.P S.P.depth k.e 1 j te 1 = true) (hK : K (updO E dst (.ptr id sz 0 j)) σ) (hfit : (dst.all (decide <| · < S.N) && Op.low S.N (.convert t u x)) = true := by kernel_rfl) : semD S dst (.convert t u x) ty K E σ := by
  refine JbQ _ hfit (fun _ e => by cases e) (fun C w ρ Im M a H hw rep => ?_) hK
  have hr := rep x (by simp [Op.operands])
  rw [hx] at hr; generalize hax : a.eval x = ax at hr
  cases hr with
  | im _ _ h => cases h
  | ptr _ _ _ _ b hρ hz' =>
    obtain ⟨cur, ⟨fr, hb, _⟩, _, hs, _⟩ := hw.inv.blk id k b hk hρ (by omega)
    refine ⟨_, fun _ _ _ => ?_, .ptr id sz 0 j b hρ hz'⟩
    have hsh : w.shape? b = some (k.e, cur.size) := by simp [World.shape?, hb]
    have hone : 1 <= cur.size / S.P.cellsOf k.e := by
      rw [Nat.le_div_iff_mul_le (by omega), Nat.one_mul]
      have : 1 <= k.es.length := L17.2 hes
      have := L0E k.sz this
      omega
    have := Lib.run_from_unsafe (P := S.P) w (a := ⟨b, 0 * sz + j, none⟩) ht hu hi hsh (by simp only [Nat.zero_mul, L0q]; exact JgN hone hl)
    simp only [execOp, hax, Sem.run_bind, this, Result.andThen_ok, Sem.run_pure]
end
section
variable {S : Sp} {dst : Option Nat} {ty : TypeId} {K : Env -> Jac -> Prop} {E : Env} {σ : Jac}
theorem JgX {g : FuncId} {fn : Func} {x : Operand} {ats : Array TypeId} (v : AV) (hx : ev E x = v) (hfn : S.P.funcs[g]? = some fn) (hname : (fn.name == "runtime.NumGoroutine") = false) (hb : fn.body.isNone = true) (hn : Extern.findNext fn = none) (he : Extern.find fn = some Extern.AbiNoEscape.same)
    (hK : K (updO E dst v) σ) (hfit : (dst.all (decide <| · < S.N) && Op.low S.N (.call { callee := .value (.func g), args := #[x], argTypes := ats })) = true := by kernel_rfl) :
    semD S dst (.call { callee := .value (.func g), args := #[x], argTypes := ats }) ty K E σ := by
  refine JbQ _ hfit (fun _ e => by cases e) (fun C w ρ Im M a H hw rep => ⟨a.eval x, fun _ _ _ => ?_, ?_⟩) hK
  . have : a.eval (.func g) = .func (.func g) #[] #[] := rfl
    simp [execOp, resolve, this, Deferred.ofValue, invoke, run_callFunc_extern hfn hname hb hn he, Lib.run_noEscape]
  . have := rep x (by simp [Op.operands, Call.operands])
    rw [hx] at this; exact this
theorem Jf3 {tp ti e d : Nat} {x y : Operand} {id : Nat} (s : ByteArray) (hx : ev E x = .ptr id 1 0 0) (hy : ev E y = .v (.int .i64 s.size)) (hs : σ id = some ⟨e, 1, (bI s).map Y⟩) (h0 : s.size ≠ 0) (htp : S.P.underlying tp = some (.pointer e)) (hce : S.P.cellsOf e = 1) (hpin : S.pin id = false)
    (h63 : s.size <= 9223372036854775807)
    (hK : K (upd (JaT (isId id) E) d (.v (.string s))) (updS (Jaj (isId id) σ) id ⟨e, 1, []⟩)) (hd : Nat.blt d S.N = true := by kernel_rfl)
    (hlow : Op.low S.N (.call { callee := .builtin .unsafeString, args := #[x, y], argTypes := #[tp, ti] }) = true := by kernel_rfl) :
    semD S (some d) (.call { callee := .builtin .unsafeString, args := #[x, y], argTypes := #[tp, ti] }) ty K E σ := by
  intro pos after guard C H n a w Kc Q ⟨ρ, Im, M, h⟩ hKc
  have hd1 : d < S.N := L0u hd
  have rep : ∀ u ∈ (Op.call { callee := .builtin .unsafeString, args := #[x, y], argTypes := #[tp, ti] }).operands, Rep w ρ Im (ev E u) (a.eval u) := fun u hu => JbL h.env (by rw [h.size, <- H.N]; exact Jbw hlow hu)
  have hrx := rep x (by simp [Op.operands, Call.operands])
  have hry := rep y (by simp [Op.operands, Call.operands])
  rw [hx] at hrx; rw [hy] at hry
  have hyv := hry.v_inv; generalize hax : a.eval x = ax at hrx
  cases hrx with
  | im _ _ h => cases h
  | ptr _ _ _ _ g hρ hz =>
    obtain ⟨cur, hb, hl, hsz, hc⟩ := h.inv.blk id _ g hs hρ L1G
    have hpc : C.pin id = none := by
      cases hp : C.pin id with
      | none => rfl
      | some b => rw [H.pin id b hp] at hpin; cases hpin
    simp only [L05, JaJ, L0X] at hsz
    have hcells : ∀ j x, s.data.toList[j]? = some x -> w.cell? ((⟨g, 0, none⟩ : Addr).add j) = some (.int .u8 x.toNat) := fun j x hj => by
      obtain ⟨v, hv, _, hr⟩ := hc j (Y x.toNat) 0 (Y x.toNat) (by simp [bI, hj]) rfl
      have := hr.v_inv
      subst this
      rw [Jba, Jbm hb]; simpa using hv
    obtain ⟨fr, hb0, _⟩ := hb
    have hlen : s.data.toList.length = s.size := by rw [L0y]; rfl
    have hrun := Lib.run_unsafeString_row (P := S.P) w tp ti ty e htp hce g cur.size (by simp [World.shape?, hb0]) s.data.toList (by intro e; rw [e] at hlen; simp at hlen; exact h0 hlen.symm) (by rw [hlen]; exact hsz) (by rw [hlen]; exact h63) hcells
    rw [hlen] at hrun
    have hstr : (⟨s.data.toList.toArray⟩ : ByteArray) = s := by simp
    rw [hstr] at hrun
    have hoth : ∀ k, k ≠ g -> (w.freeze ⟨g, 0, none⟩ s.size).heap[k]? = w.heap[k]? := fun k hk => by
      unfold World.freeze
      split
      . rfl
      . simp only [L1v]; rw [if_neg (fun e => hk e.symm)]
    have hsame : (w.freeze ⟨g, 0, none⟩ s.size).heap.size = w.heap.size := by unfold World.freeze; split <;> simp
    have hos : (w.freeze ⟨g, 0, none⟩ s.size).os = w.os /\ (w.freeze ⟨g, 0, none⟩ s.size).tape = w.tape /\ (w.freeze ⟨g, 0, none⟩ s.size).output = w.output := by unfold World.freeze; split <;> exact ⟨rfl, rfl, rfl⟩
    have h1 := h.kill H.G (isId id) (Jg3 hpc)
    have hng : ∀ k, ((∃ i, killR (isId id) ρ i = some k) \/ Im k \/ M.m k \/ C.book a k) -> k ≠ g := fun k hk e => by
      subst e
      rcases hk with ⟨i, hi⟩ | hk | hk | hk
      . obtain ⟨hp, hi⟩ := Jaf hi
        have := h.inv.inj i id k hi hρ
        subst this; simp [isId] at hp
      . exact h.inv.apart id k hρ hk
      . exact (h.ms k hk).2.1 id hρ
      . exact (h.bk k hk).1 id hρ
    have h2 := (h1.core.carry H.G (w' := w.freeze ⟨g, 0, none⟩ s.size) (fun k hk => hoth k (hng k hk)) (by rw [hsame]; exact L0a _) hos.1 hos.2.1 hos.2.2).wit
      (h.ext.trans (Y := fun k => k = g) ⟨hos.1, hos.2.1, hos.2.2, by rw [hsame]; exact L0a _, fun k _ hk => hoth k hk⟩ fun k hk => by
        subst hk
        rcases h.rng id _ hρ with h' | h'
        . exact .inl h'.1
        . exact .inr h')
    have h3 := h2.newNil H.G (d := id) hpc (JbC (by simp [isId]) E σ) e 1 (dst := some d) (v := .v (.string s)) (y := .string s) (fun d' e => by cases e; rw [<- H.N]; exact hd1) (.im _ _ (.v _))
    refine JaQ (fun _ e => by cases e) ?_ (hKc _ _ _ _ hK ⟨_, _, _, h3⟩)
    simp [execOp, resolve, invoke, builtin, hax, hyv, hrun]
theorem Jm9 {op : Op} (id id' i j e sz : Nat) {k : Blk} {el : AV} (hk : σ id = some k) (hid : id' ≠ id) (he : k.es[i]? = some el) (hc : el.cells[j]? = some (.v (.slice none 0 0))) (hkz : k.sz ≠ 0) (hnk : AV.namesL (isId id') k.es = false) (hpin : S.pin id' = false)
    (h : semD S dst op ty K (JaT (isId id') E) (updS (updS (Jaj (isId id') σ) id' ⟨e, sz, []⟩) id ⟨k.e, k.sz, k.es.set i (setC el j (.own id' sz 0 0))⟩)) : semD S dst op ty K E σ := by
  intro pos after guard C H n a w Kc Q ⟨ρ, Im, M, hw⟩ hKc
  have hpc : C.pin id' = none := by
    cases hp : C.pin id' with
    | none => rfl
    | some b => rw [H.pin id' b hp] at hpin; cases hpin
  have h1 := hw.kill H.G (isId id') (Jg3 hpc)
  have h2 := h1.newNil H.G (d := id') hpc (JbC (by simp [isId]) E σ) e sz (dst := none) (v := .any) (y := undef) (fun d' e => by cases e) (.im _ _ (.any _))
  have hkk : k.kill (isId id') = k := by simp [Blk.kill, hnk]
  have hk3 : (updS (Jaj (isId id') σ) id' ⟨e, sz, []⟩) id = some k := by
    rw [Jav _ _ _ _ (Ne.symm hid)]; simp only [Jaj]
    rw [if_neg (by simp [isId]; exact fun e => hid e.symm), hk]; simp [hkk]
  refine h pos after guard C H n a w Kc Q ⟨updR (killR (isId id') ρ) id' none, Im, M, ?_⟩ hKc
  have hown : ∀ v : World, Rep v (updR (killR (isId id') ρ) id' none) Im (.own id' sz 0 0) (.slice none 0 0) := fun v => .ownNil _ _ (by simp)
  have h2' : Wit C (JaT (isId id') E) (updS (Jaj (isId id') σ) id' ⟨e, sz, []⟩) a w (updR (killR (isId id') ρ) id' none) Im M := h2
  have hels : ∀ v ∈ (k.es.set i (setC el j (.own id' sz 0 0))), ∃ v0 ∈ k.es, v.cells.length = v0.cells.length := fun v hv => by
    rcases L1Z hv with hv | rfl
    . exact ⟨v, hv, rfl⟩
    . refine ⟨el, L01 he, ?_⟩
      have hj := (L04.1 hc).1
      rw [Jc0 (by simp; omega)]; simp; omega
  have hcell : ∀ (i' : Nat) (e' : AV) (j' : Nat) (c : AV), (k.es.set i (setC el j (.own id' sz 0 0)))[i']? = some e' -> e'.cells[j']? = some c -> (∃ e0, k.es[i']? = some e0 /\ e0.cells[j']? = some c) \/ (c = .own id' sz 0 0 /\ i' = i /\ j' = j) := fun i' e' j' c he' hc' => by
    rw [L21] at he'
    split at he'
    . rename_i hii; subst hii
      split at he'
      . cases he'
        have hj := (L04.1 hc).1
        rw [Jc0 (by simp; omega)] at hc'
        simp only [AV.cells_own, L1d] at hc'
        rcases Nat.lt_trichotomy j' j with hlt | rfl | hgt
        . rw [L0O, L0m (by simp; omega), L0l, if_pos hlt] at hc'
          exact .inl ⟨el, he, hc'⟩
        . rw [L0O, L0o (by simp; omega)] at hc'
          have : j' - (el.cells.take j').length = 0 := by simp; omega
          rw [this] at hc'; simp at hc'; exact .inr ⟨hc'.symm, rfl, rfl⟩
        . rw [L0o (by simp; omega), L0B] at hc'
          have : j + 1 + (j' - (el.cells.take j ++ [AV.own id' sz 0 0]).length) = j' := by simp; omega
          rw [this] at hc'
          exact .inl ⟨el, he, hc'⟩
      . cases he'
    . exact .inl ⟨e', he', hc'⟩
  refine h2'.step H.G (Ext.refl _ _) ?_ h2'.env rfl rfl rfl (fun _ _ hb => .inl hb) (fun _ hb => .inl hb) h2'.pin (fun _ h => h)
  have hi := h2'.inv
  refine ⟨fun q k2 hk2 hr => ?_, fun q k2 b hk2 hr hz => ?_, fun q k2 b hk2 hr hz => ?_, hi.inj, fun q b hr hs' => ?_, hi.apart, hi.low⟩
  . by_cases e : q = id
    . subst e; have h0 := hi.nil q k hk3 hr
      rw [h0] at he; simp at he
    . rw [Jav _ _ _ _ e] at hk2; exact hi.nil q k2 hk2 hr
  . by_cases e : q = id
    . subst e; simp at hk2; subst hk2; exact absurd hz hkz
    . rw [Jav _ _ _ _ e] at hk2; exact hi.map q k2 b hk2 hr hz
  . by_cases e : q = id
    . subst e; simp at hk2; subst hk2
      obtain ⟨cur, hb, hl, hs, hcc⟩ := hi.blk q k b hk3 hr hkz
      refine ⟨cur, hb, fun v hv => ?_, by simpa using hs, fun i' e' j' c he' hc' => ?_⟩
      . obtain ⟨v0, h0, h1⟩ := hels v hv
        rw [h1]; exact hl v0 h0
      . rcases hcell i' e' j' c he' hc' with ⟨e0, h0, h1⟩ | ⟨rfl, rfl, rfl⟩
        . exact hcc i' e0 j' c h0 h1
        . obtain ⟨x, hx, h1, hr'⟩ := hcc i' el j' _ he hc
          have := hr'.v_inv
          subst this
          exact ⟨_, hx, h1, hown w⟩
    . rw [Jav _ _ _ _ e] at hk2; exact hi.blk q k2 b hk2 hr hz
  . by_cases e : q = id
    . subst e; simp at hs'
    . rw [Jav _ _ _ _ e] at hs'; exact hi.live q b hr hs'
end
def spM (P : Program) (f : FuncId) (N : Nat) (pins bad : List Nat) : Sp := { P, N, b := 131072 * (f + 1), pin := inI pins, yl := 0, Y := fun _ _ _ => False, bad := inI bad, old := fun i => Nat.blt (i / 16) (131072 * (f + 1)) || Nat.ble (131072 * (f + 1) + 100000) (i / 16) }
instance (P : Program) (f N : Nat) (pins bad : List Nat) : Plain (spM P f N pins bad) := ⟨fun _ _ _ _ _ hk => (show False from hk).elim⟩
section
variable (P : Program) (f N : Nat) (pins bad : List Nat)
@[go_sem] theorem JC0 : (spM P f N pins bad).P = P := rfl
@[go_sem] theorem spM_b : (spM P f N pins bad).b = 131072 * (f + 1) := rfl
@[go_sem] theorem JC1 (id : Nat) : (spM P f N pins bad).bad id = bad.contains id := rfl
@[go_sem] theorem spM_N : (spM P f N pins bad).N = N := rfl
@[go_sem] theorem JC2 (id : Nat) : (spM P f N pins bad).pin id = inI pins id := rfl
end
theorem JcJ (bad : List Nat) {P : Program} {f : FuncId} {fn : Func} {c : Code} {args : List AV} {l l' : List (Nat × Blk)} {r : AV} (pins : List Nat) (hf : P.funcs[f]? = some fn) (hb : fn.body = some c) (hok : fnB P fn bad c = true) (hmo : P.follows .mixedOrders = true)
    (hlen : args.length <= fn.ntmps) (hids : l.map (·.1) = l'.map (·.1)) (hpins : (pins.all fun i => (l.map (·.1)).contains i && (Nat.blt (i / 16) (131072 * (f + 1)) || Nat.ble (131072 * (f + 1) + 100000) (i / 16))) = true)
    (hold : (l.all fun p => Nat.blt (p.1 / 16) (131072 * (f + 1)) || Nat.ble (131072 * (f + 1) + 100000) (p.1 / 16)) = true)
    (h : awpC (spM P f fn.ntmps pins bad) c (retL (spM P f fn.ntmps pins bad) fn l' r) (JbW args) (stO l)) : LOK P f (inI pins) args (stO l) r (stO l') := by
  simp only [fnB, L00, L0S] at hok
  obtain ⟨⟨⟨h1, h2⟩, h3⟩, h4⟩ := hok
  have h4 := L0u h4; have h1 := JaR c h1
  refine ⟨enters hf hb h3, fun w Im ρ vs hinv hgk hargs => ?_⟩
  let C : Fx := { w0 := w, X0 := fun b => ∃ id, ρ id = some b, Im0 := Im, G := fun _ _ _ => True, N := fn.ntmps, rd := none, pin := fun id => if inI pins id then some (ρ id) else none, J0 := Im, R0 := fun id b => ρ id = some b }
  simp only [L0b, L00, L0x] at hpins
  have hin : ∀ id, inI pins id = true -> id ∈ pins := fun id hid => L0G.1 hid
  have H : Holds (spM P f fn.ntmps pins bad) C := by
    refine ⟨rfl, JdD, fun _ _ _ hY => hY.elim, hmo, fun id b hp => ?_, fun id hp => ?_, h4, fun _ => rfl, fun id b _ hb => ?_, hgk, fun b hb => ⟨fun ⟨id, hid⟩ => hinv.apart id b hid (hgk.im hb), hinv.low b (hgk.im hb)⟩, (fun h => by cases h)⟩
    . simp only [C] at hp
      cases hn : inI pins id with
      | true => exact hn
      | false => simp [hn] at hp
    . rcases (hpins id (hin id hp)).2 with h' | h'
      . exact .inl (L0u h')
      . exact .inr (L0u h')
    . cases hs : stO l id with
      | none => exact absurd hs (hinv.live id b hb)
      | some k => exact L0b.1 hold _ (JbR hs)
  have hawp := JbI (S := spM P f fn.ntmps pins bad) (fun _ _ _ _ _ hk => (show False from hk).elim) c (Q' := retG P fn fun vs _ σ => JkT (inI (l'.map (·.1))) l' r σ vs) (fun e E σ hk => by
    cases e <;> first | exact hk.elim | exact Jme _ _ hk) h
  refine JcN (E0 := JbW args) (S := spM P f fn.ntmps pins bad) (C := C) (ρ0 := ρ) (Im0 := Im) (M0 := ⟨fun _ => False, fun _ => False⟩) H rfl hf hb rfl h1 h2 ?_ hawp fun E σ tm w' ρ' I M us ys hk hrest hr => ?_
  . refine ⟨hinv, JeO hargs, ?_, Ext.refl _ _, fun i b hi => .inl ⟨⟨i, hi⟩, hi⟩, fun b hb => .inl hb, fun p => ?_, trivial, fun b hb => hb.elim, fun b hb => hb.elim, fun l r hr => (by cases hr), .nil, fun d hd => (by cases hd), fun b hb => ?_, fun id ob hp => ?_, fun b hb => hb⟩
    . simp only [L26, L0Y, L27]
      have := hargs.1
      show vs.length + (fn.ntmps - vs.length) = fn.ntmps
      omega
    . show AV.namesB p (JbW args fn.ntmps) = false
      rw [JgL args _ hlen]; rfl
    . rcases hb with ⟨r, hr⟩ | hd
      . cases hr
      . cases hd
    . simp only [C] at hp
      split at hp
      . cases hp; rfl
      . cases hp
  . obtain ⟨ρ2, Im2, i2, a1, a2, a3, a4, a5⟩ := Jm3 (ρ0 := ρ) hrest hinv.low (fun id b h => h) (fun id b hb => ⟨by
      rw [<- hids]
      have := hinv.live id b hb
      cases hs : stO l id with
      | none => exact absurd hs this
      | some k => exact L06.2 ⟨_, JbR hs, rfl⟩, hinv.lt hb, hinv.apart id b hb⟩) hr hk
    refine ⟨_, ρ2, Im2, rfl, hrest.ext, i2, fun b hb => ?_, a2, a3, fun id hid => ?_, a5⟩
    . exact a1 b (hrest.j0 b hb)
    . rw [a4 id (by
        have := (hpins id (hin id hid)).1
        rw [hids] at this; exact this)]
      exact hrest.pin id (ρ id) (by simp [C, hid])
theorem JrF {S : Sp} {id : Nat} {ops : Array Oper} {Q : Exit -> Env -> Jac -> Prop} {E : Env} {σ : Jac}
    (h : ∀ (C : Fx) (H : Holds S C) (n : Nat) (R : Exit -> Act -> World -> Prop), (∀ e E σ a w, Q e E σ -> St C E σ a w -> R e a w) -> ∀ a w, St C E σ a w ->
      ∃ V : (Nat -> Bool) -> Act -> World -> Prop, V (fun _ => false) a w /\ (∀ D a w, (∀ i, i < ops.size -> D i = true) -> V D a w -> R .normal a w) /\
        ∀ i o, ops[i]? = some o -> ∀ D, D i = false -> (∀ e ∈ o.after.toList, Region.binds .any e = true -> D e.on = true) -> ∀ a w, V D a w -> ∀ Kc : Act -> World -> Prop, (∀ a' w', V (insJ D i) a' w' -> Kc a' w') -> Jho n S.P C.rdl ops o Kc R a w)
    (hedge : JgA 0 ops.toList = true := by kernel_rfl) : semC S (.region id ops true) Q E σ := by
  intro C H n R hR a w hs
  have hlist : ∀ (i : Nat) (o : Oper), ops[i]? = some o -> ops.toList[i]? = some o := fun i o ho => by rw [L0J]; exact ho
  obtain ⟨V, h0, hend, hsteps⟩ := h C H n R hR a _ (hs.drew H.G (w.drawn + 1))
  refine wpIn_region_any H.mo ?_
  have key : ∀ (fuel : Nat) (listed : Array Bool) (a : Act) (w : World), listed.size = ops.size -> (rem ops listed).length <= fuel ->
      V (fun i => listed.getD i false) a w -> wpAnyIn (FW C.rdl) n S.P .any ops R fuel listed a w := by
    intro fuel
    have full : ∀ (listed : Array Bool), listed.size = ops.size -> rem ops listed = [] -> ∀ i, i < ops.size -> listed.getD i false = true := fun listed hsz hr i hi => by
      cases hl : listed.getD i false with
      | true => rfl
      | false =>
        have : i ∈ rem ops listed := Ja2.2 ⟨hi, by
          simp only [L0I] at hl ⊢
          rw [L0g (by omega)] at hl ⊢; exact hl⟩
        rw [hr] at this; simp at this
    induction fuel with
    | zero =>
      intro listed a w hsz hle hv
      have h0 : rem ops listed = [] := L0R (by omega)
      refine ⟨?_, hend _ _ _ (full listed hsz h0) hv⟩
      cases hr : Region.ready .any ops listed with
      | nil => rfl
      | cons i l =>
        have hi : i ∈ Region.ready .any ops listed := by rw [hr]; simp
        obtain ⟨h1, o, ho, _⟩ := mem_ready.1 hi
        have : i ∈ rem ops listed := Ja2.2 ⟨(L0j.1 ho).1, h1⟩
        rw [h0] at this; simp at this
    | succ fuel ih =>
      intro listed a w hsz hle hv
      have getD_same : ∀ i, i < ops.size -> listed.getD i true = listed.getD i false := fun i hi => by
        simp only [L0I]; rw [L0g (by omega)]; rfl
      refine ⟨fun hr0 => ?_, fun i hi => ?_⟩
      . have hr : rem ops listed = [] := by
          cases hr : rem ops listed with
          | nil => rfl
          | cons i l =>
            exfalso
            have hm : i ∈ rem ops listed := by rw [hr]; simp
            obtain ⟨hlt, hun⟩ := Ja2.1 hm
            have : i ∈ Region.ready .any ops listed := mem_ready.2 ⟨hun, _, L0g hlt, fun e he hb => by
              have hei := JgB hedge (hlist i _ (L0g hlt)) e he hb
              cases hl : listed.getD e.on false with
              | true => rfl
              | false =>
                have hme : e.on ∈ rem ops listed := Ja2.2 ⟨by omega, by rw [getD_same _ (by omega)]; exact hl⟩
                have hsort := Jce (ops := ops) listed
                rw [hr] at hme hsort
                rcases L0h.1 hme with h | h
                . omega
                . have := (L1t.1 hsort).1 _ h; omega⟩
            rw [hr0] at this; simp at this
        exact hend _ _ _ (full listed hsz hr) hv
      . obtain ⟨hun, o, ho, hedges⟩ := mem_ready.1 hi
        have hlt : i < ops.size := (L0j.1 ho).1
        have hm : i ∈ rem ops listed := Ja2.2 ⟨hlt, hun⟩
        obtain ⟨pre, post, hsplit⟩ := L24 hm
        have hset := JiR hsz hsplit
        have hD : (fun k => (listed.setIfInBounds i true).getD k false) = insJ (fun k => listed.getD k false) i := by
          funext k
          simp only [insJ, L0I]
          by_cases hk : k = i
          . subst hk; simp [hsz, hlt]
          . rw [L16 (Ne.symm hk)]; simp [hk]
        have hstep := hsteps i o ho (fun k => listed.getD k false) (by rw [<- getD_same i hlt]; exact hun) (fun e he hb => hedges e (L0t.1 he) hb) a w hv
        have next : ∀ a' w', V (insJ (fun k => listed.getD k false) i) a' w' -> wpAnyIn (FW C.rdl) n S.P .any ops R fuel (listed.setIfInBounds i true) a' w' := fun a' w' h1 => by
          refine ih (listed.setIfInBounds i true) a' w' (by simpa using hsz) ?_ (by rw [hD]; exact h1)
          rw [hset]; rw [hsplit] at hle; simp at hle ⊢; omega
        exact JdP ho (hstep _ next)
  exact key ops.size _ a _ (by simp) (by unfold rem; exact L0r (L25 _ _) (by simp)) (by
    have : (fun i => (Array.replicate ops.size false).getD i false) = fun _ => false := by
      funext i; simp only [L0I, L1S]; split <;> rfl
    rw [this]; exact h0)
theorem JfK {S : Sp} {C : Fx} {n : Nat} {ops : Array Oper} {o : Oper} {y : Value} {a : Act} {w w' : World} {Kc : Act -> World -> Prop} {R : Exit -> Act -> World -> Prop} (hg : o.guard = none) (hdf : ∀ c, o.op ≠ .defer c)
    (hrun : (execOp a.eval o).run S.P w = .ok (.value y) w') (hK : Kc (a.put o.dst y) w') : Jho n S.P C.rdl ops o Kc R a w := by
  unfold Jho
  rw [if_pos (by simp [Region.wanted, hg])]
  exact JaQ hdf hrun hK
theorem Wit.forgetE {C : Fx} {E : Env} {σ : Jac} {a : Act} {w : World} {ρ : Nat -> Option Nat} {Im : Nat -> Prop} {M : Str} (h : Wit C E σ a w ρ Im M) {d : Nat} (hd : d < C.N) : Wit C (upd E d .any) σ a w ρ Im M :=
  { h with
    env := fun t y hy => by
      simp only [upd]; split
      . exact .im _ _ (.any _)
      . exact h.env t y hy
    gh := fun p => by simp only [upd]; rw [if_neg (by omega)]; exact h.gh p
    g := by simp only [upd]; rw [if_neg (by omega)]; exact h.g }
theorem JqT {S : Sp} {id t e t' ty1 ty2 ty3 : Nat} {p1 p2 p3 : String} {x d1 d2 d3 bid : Nat} {a1 a2 a3 : Array Edge} {Q : Exit -> Env -> Jac -> Prop} {E : Env} {σ : Jac} {te : TypeId} {cs : List AV} (ht : tarr S.P t = some (8, e)) (hs1 : tsz S.P e = 1) (htl : tel S.P t' = some e)
    (hx : E x = .ptr bid 8 0 0) (hk : σ bid = some ⟨te, 8, [.agg cs]⟩) (hcl : cs.length = 8) (hat : ∀ c ∈ cs, c.cells = [c]) (hne : d1 ≠ x /\ d2 ≠ x /\ d1 ≠ d2 /\ d3 ≠ x /\ d3 ≠ d1 /\ d3 ≠ d2) (hlt : x < S.N /\ d1 < S.N /\ d2 < S.N /\ d3 < S.N)
    (hdep : ((a3.toList.any fun e => Region.binds .any e && e.on == 0) && (a3.toList.any fun e => Region.binds .any e && e.on == 1)) = true)
    (cs' : List AV) (hcs : cs.take 1 ++ cs.take 7 = cs') (hQ : Q .normal (upd (upd (upd E d1 .any) d2 .any) d3 .any) (updS σ bid ⟨te, 8, [.agg cs']⟩))
    (hedge : JgA 0 [⟨some d1, .slice t (.tmp x) (some (.const (.int .i64 1))) none none, ty1, p1, a1, none⟩, ⟨some d2, .slice t (.tmp x) none (some (.const (.int .i64 7))) none, ty2, p2, a2, none⟩, ⟨some d3, .call { callee := .builtin .copy, args := #[.tmp d1, .tmp d2], argTypes := #[t', t'] }, ty3, p3, a3, none⟩] = true := by kernel_rfl) :
    semC S (.region id #[⟨some d1, .slice t (.tmp x) (some (.const (.int .i64 1))) none none, ty1, p1, a1, none⟩, ⟨some d2, .slice t (.tmp x) none (some (.const (.int .i64 7))) none, ty2, p2, a2, none⟩, ⟨some d3, .call { callee := .builtin .copy, args := #[.tmp d1, .tmp d2], argTypes := #[t', t'] }, ty3, p3, a3, none⟩] true) Q E σ := by
  subst hcs
  refine JrF (fun C H n R hR a0 w0 hs => ?_) hedge
  obtain ⟨ρ, Im, M, hw⟩ := hs
  have hsz : a0.tmps.size = C.N := hw.size
  have hN := H.N
  have hb : ∃ b, a0.eval (.tmp x) = .pointer (some ⟨b, 0, none⟩) /\ ρ bid = some b := by
    have hlx : x < a0.tmps.size := by omega
    have hr := hw.env x a0.tmps[x] (L0g hlx); rw [hx] at hr
    have he : a0.eval (.tmp x) = a0.tmps[x] := by simp [Act.eval, hlx]
    rw [he]; generalize a0.tmps[x] = y at hr
    cases hr with
    | im _ _ h => cases h
    | ptr _ _ _ _ b hρ hz => exact ⟨b, by simp, hρ⟩
  obtain ⟨b, hxe, hρ⟩ := hb
  have hxt : a0.tmps[x]? = some (.pointer (some ⟨b, 0, none⟩)) := by
    have hlx : x < a0.tmps.size := by omega
    have he : a0.eval (.tmp x) = a0.tmps[x] := by simp [Act.eval, hlx]
    rw [L0g hlx, <- he, hxe]
  refine ⟨fun D a w => a.tmps.size = C.N /\ a.tmps[x]? = some (.pointer (some ⟨b, 0, none⟩)) /\ (D 0 = true -> a.tmps[d1]? = some (.slice (some ⟨b, 1, none⟩) 7 7)) /\ (D 1 = true -> a.tmps[d2]? = some (.slice (some ⟨b, 0, none⟩) 7 8)) /\
    Wit C (upd (upd (upd E d1 .any) d2 .any) d3 .any) (if D 2 = true then updS σ bid ⟨te, 8, [.agg (cs.take 1 ++ cs.take 7)]⟩ else σ) a w ρ Im M, ⟨hsz, hxt, fun h => (by cases h), fun h => (by cases h), ?_⟩, fun D a w hD hv => ?_, fun i o ho D hDi hdeps a w ⟨h1, h2, h3, h4, h5⟩ Kc hKc => ?_⟩
  . simp only [L0A, if_false]
    exact ((hw.forgetE (by omega)).forgetE (by omega)).forgetE (by omega)
  . have h5 := hv.2.2.2.2
    rw [if_pos (hD 2 (by show 2 < 3; omega))] at h5
    exact hR _ _ _ _ _ hQ ⟨ρ, Im, M, h5⟩
  . have same : ∀ d, d = d1 \/ d = d2 \/ d = d3 -> (upd (upd (upd E d1 .any) d2 .any) d3 .any) d = .any := fun d hd => by
      simp only [upd]; rcases hd with rfl | rfl | rfl <;> (repeat' split) <;> simp_all
    have hput : ∀ {d : Nat} {y v : Value} {t : Nat}, t ≠ d -> a.tmps[t]? = some v -> (a.put (some d) y).tmps[t]? = some v := fun {d y v t} hne hv => by
      simp only [Act.put]; rw [L16 (Ne.symm hne)]; exact hv
    have hput' : ∀ {d : Nat} {y : Value}, d < S.N -> (a.put (some d) y).tmps[d]? = some y := fun {d y} hd => by
      simp only [Act.put]; rw [L2f (by omega)]
    have hax : a.eval (.tmp x) = .pointer (some ⟨b, 0, none⟩) := by simp [Act.eval, h2]
    have hz := Jap (P := S.P) (t := e) (by omega) w
    rw [hs1] at hz
    match i, ho with
    | 0, ho =>
      cases ho
      have hrun : (execOp a.eval ⟨some d1, .slice t (.tmp x) (some (.const (.int .i64 1))) none none, ty1, p1, a1, none⟩).run S.P w = .ok (.value (.slice (some ⟨b, 1, none⟩) 7 7)) w := by
        have key : (Instr.sliceBounds false 8 8 (some (.int .i64 1)) none none).run S.P w = .ok (1, 8, 8) w := by
          unfold Instr.sliceBounds
          have := fun c => Jak (P := S.P) (w := w) (k := .i64) (code := c) (show 1 <= 8 by omega)
          simp at this
          simp [this]
        have hc : a.eval (.const (.int .i64 1)) = .int .i64 1 := rfl
        simp only [execOp, hax, L0K, L2c, hc, Instr.sliceAt, Instr.sureAddr, Sem.run_bind, run_underlying (JeE ht) w, Result.andThen_ok, key, hz, Sem.run_pure]
        rfl
      refine JfK rfl (fun _ e => by cases e) hrun (hKc _ _ ⟨by rw [JbO]; exact h1, hput (Ne.symm hne.1) h2, fun _ => hput' hlt.2.1, fun h => hput (Ne.symm hne.2.2.1) (h4 (by simpa [insJ] using h)), ?_⟩)
      have h6 := h5.put H.G (dst := some d1) (v := .any) (y := .slice (some ⟨b, 1, none⟩) 7 7) (fun d e => by cases e; omega) (.im _ _ (.any _))
      have e1 : updO (upd (upd (upd E d1 .any) d2 .any) d3 .any) (some d1) .any = upd (upd (upd E d1 .any) d2 .any) d3 .any := Jca _ _ _ (same d1 (.inl rfl))
      rw [e1] at h6
      simpa [insJ] using h6
    | 1, ho =>
      cases ho
      have hrun : (execOp a.eval ⟨some d2, .slice t (.tmp x) none (some (.const (.int .i64 7))) none, ty2, p2, a2, none⟩).run S.P w = .ok (.value (.slice (some ⟨b, 0, none⟩) 7 8)) w := by
        have key : (Instr.sliceBounds false 8 8 none (some (.int .i64 7)) none).run S.P w = .ok (0, 7, 8) w := by
          unfold Instr.sliceBounds
          have := fun c => Jak (P := S.P) (w := w) (k := .i64) (code := c) (show 7 <= 8 by omega)
          simp at this
          simp [this]
        have hc : a.eval (.const (.int .i64 7)) = .int .i64 7 := rfl
        simp only [execOp, hax, L0K, L2c, hc, Instr.sliceAt, Instr.sureAddr, Sem.run_bind, run_underlying (JeE ht) w, Result.andThen_ok, key, hz, Sem.run_pure]
        rfl
      refine JfK rfl (fun _ e => by cases e) hrun (hKc _ _ ⟨by rw [JbO]; exact h1, hput (Ne.symm hne.2.1) h2, fun h => hput hne.2.2.1 (h3 (by simpa [insJ] using h)), fun _ => hput' hlt.2.2.1, ?_⟩)
      have h6 := h5.put H.G (dst := some d2) (v := .any) (y := .slice (some ⟨b, 0, none⟩) 7 8) (fun d e => by cases e; omega) (.im _ _ (.any _))
      have e1 : updO (upd (upd (upd E d1 .any) d2 .any) d3 .any) (some d2) .any = upd (upd (upd E d1 .any) d2 .any) d3 .any := Jca _ _ _ (same d2 (.inr (.inl rfl)))
      rw [e1] at h6
      simpa [insJ] using h6
    | 2, ho =>
      cases ho
      simp only [L00, L1u, beq_iff_eq] at hdep
      obtain ⟨⟨g1, m1, b1, on1⟩, ⟨g2, m2, b2, on2⟩⟩ := hdep
      have hd0 := h3 (by have := hdeps g1 m1 b1; rwa [on1] at this)
      have hd1 := h4 (by have := hdeps g2 m2 b2; rwa [on2] at this)
      rw [if_neg (by simp [hDi])] at h5
      obtain ⟨cur, hbb, hl, hsz', hcc⟩ := h5.inv.blk bid _ b hk hρ (by simp)
      simp only [L1d, Nat.one_mul] at hsz'
      have hvals : ∀ j, j < 8 -> ∃ v, cur[j]? = some v /\ v.oneCell' = true := fun j hj => by
        obtain ⟨v, hv, h1', _⟩ := hcc 0 (.agg cs) j cs[j] rfl (by simp)
        exact ⟨v, by simpa using hv, h1'⟩
      have hlen7 : (cur.toList.take 7).length = 7 := by simp; omega
      have hget : ∀ j v, (cur.toList.take 7)[j]? = some v -> j < 7 /\ cur[j]? = some v := fun j v hv => by
        rw [L0l] at hv
        split at hv
        . exact ⟨by assumption, by simpa using hv⟩
        . cases hv
      have hone : ∀ v ∈ cur.toList.take 7, v.oneCell' = true := fun v hv => by
        obtain ⟨j, hj⟩ := L0s.1 hv
        obtain ⟨hj7, hj⟩ := hget j v hj
        obtain ⟨v', hv', h1'⟩ := hvals j (by omega)
        rw [hj] at hv'; cases hv'; exact h1'
      obtain ⟨fr, hb0, hfr⟩ := hbb
      have hinfo : (S.P.info? e).map (·.size) = some 1 := by
        obtain ⟨inf, hi, hs, _⟩ := JoO (P := S.P) (t := e) (by omega)
        rw [hi]; simp [hs, hs1]
      have hrun1 := run_copy_cells (P := S.P) w t' t' ty3 e b 1 7 7 ⟨b, 0, none⟩ 7 8 (cur.toList.take 7) (Jcw htl) hinfo (by rw [hlen7]; rfl) (fun j v hv => by rw [Jba, Jbm ⟨fr, hb0, hfr⟩]; simpa using (hget j v hv).2)
        (fun j hj => by rw [hlen7] at hj; rw [Jbm ⟨fr, hb0, hfr⟩]; obtain ⟨v, hv, _⟩ := hvals (1 + j) (by omega); simp [hv]) (fun j hj => by rw [hlen7] at hj; exact JgS hb0 hfr (by omega)) hone
      have hst1 := Jdo S.P b 1 te (cur.toList.take 7) 0 cur w ⟨fr, hb0, hfr⟩ (by rw [hlen7]; omega) hone
      have hst2 := run_storeCells_cells (P := S.P) b 1 (cur.toList.take 7) 0 w (fun j hj => by rw [hlen7] at hj; rw [Jbm ⟨fr, hb0, hfr⟩]; obtain ⟨v, hv, _⟩ := hvals (1 + 0 + j) (by omega); simp [hv]) (fun j hj => by rw [hlen7] at hj; exact JgS hb0 hfr (by omega)) hone
      rw [hst1] at hst2
      have heq : w.setCells b 1 (cur.toList.take 7) = w.setRow b (cur.toList.take 1 ++ cur.toList.take 7 ++ cur.toList.drop 8).toArray := by
        simp only [L0U, hlen7] at hst2
        injection hst2 with _ h; exact h.symm
      rw [heq] at hrun1
      have ha1 : a.eval (.tmp d1) = .slice (some ⟨b, 1, none⟩) 7 7 := by simp [Act.eval, hd0]
      have ha2 : a.eval (.tmp d2) = .slice (some ⟨b, 0, none⟩) 7 8 := by simp [Act.eval, hd1]
      have hrun : (execOp a.eval ⟨some d3, .call { callee := .builtin .copy, args := #[.tmp d1, .tmp d2], argTypes := #[t', t'] }, ty3, p3, a3, none⟩).run S.P w = .ok (.value (goInt (cur.toList.take 7).length)) (w.setRow b (cur.toList.take 1 ++ cur.toList.take 7 ++ cur.toList.drop 8).toArray) := by
        simp [execOp, resolve, invoke, builtin, ha1, ha2, hrun1]
      have h7 := h5.turn H.G (k' := ⟨te, 8, [.agg (cs.take 1 ++ cs.take 7)]⟩) (cur' := (cur.toList.take 1 ++ cur.toList.take 7 ++ cur.toList.drop 8).toArray) hk hρ ⟨fr, hb0, hfr⟩ (by simp; omega) rfl (fun e he => by simp at he; subst he; simp; omega) (by simp; omega) (fun i e' j c he hc => by
        cases i with
        | succ i => simp at he
        | zero =>
          simp at he; subst he
          simp only [AV.cells_agg] at hc
          have hj : j < 8 := by have := (L04.1 hc).1; simp at this; omega
          have hsrc : ∃ q, q < 8 /\ cs[q]? = some c /\ (cur.toList.take 1 ++ cur.toList.take 7 ++ cur.toList.drop 8)[j]? = cur.toList[q]? := by
            by_cases hj0 : j = 0
            . subst hj0
              refine ⟨0, by omega, ?_, ?_⟩
              . rw [L0m (by simp; omega), L0l] at hc; simpa using hc
              . rw [L0O, L0m (by simp; omega), L0l]; simp
            . refine ⟨j - 1, by omega, ?_, ?_⟩
              . rw [L0o (by simp; omega)] at hc
                have : j - (cs.take 1).length = j - 1 := by simp; omega
                rw [this, L0l, if_pos (by omega)] at hc; exact hc
              . rw [L0m (by simp; omega), L0o (by simp; omega)]
                have : j - (cur.toList.take 1).length = j - 1 := by simp; omega
                rw [this, L0l, if_pos (by omega)]
          obtain ⟨q, hq, hcq, hjq⟩ := hsrc
          obtain ⟨v, hv, h1', hr⟩ := hcc 0 (.agg cs) q c rfl hcq
          refine ⟨v, ?_, h1', hr⟩
          simp only [Nat.zero_mul, L0q, L1l]
          rw [hjq]; simpa using hv) (by simp)
      refine JfK rfl (fun _ e => by cases e) hrun (hKc _ _ ⟨by rw [JbO]; exact h1, hput (Ne.symm hne.2.2.2.1) h2, fun h => hput (Ne.symm hne.2.2.2.2.1) (h3 (by simpa [insJ] using h)), fun h => hput (Ne.symm hne.2.2.2.2.2) (h4 (by simpa [insJ] using h)), ?_⟩)
      have h8 := h7.put H.G (dst := some d3) (v := .any) (y := goInt (cur.toList.take 7).length) (fun d e => by cases e; omega) (.im _ _ (.any _))
      have e1 : updO (upd (upd (upd E d1 .any) d2 .any) d3 .any) (some d3) .any = upd (upd (upd E d1 .any) d2 .any) d3 .any := Jca _ _ _ (same d3 (.inr (.inr rfl)))
      rw [e1] at h8
      rw [if_pos (by simp [insJ])]
      exact h8
    | i + 3, ho => simp at ho
theorem JkK {S : Sp} {dst : Option Nat} {op : Op} {ty : TypeId} {K : Env -> Jac -> Prop} {E : Env} {σ : Jac} (F : List Nat) (h : semD S dst op ty K (frE (inI F) σ E) (frS (inI F) σ))
    (hF : (F.all fun i => !S.old i && !S.pin i) = true := by kernel_rfl) : semD S dst op ty K E σ := by
  intro pos after guard C H n a w Kc Q ⟨_, _, _, hw⟩ hKc
  simp only [L0b, L00, L0S] at hF
  have hin : ∀ {id}, inI F id = true -> id ∈ F := fun h => L0G.1 h
  have no : ∀ {id} {b : Bool}, b = true -> (inI F id = true -> b = false) -> inI F id = false := fun {id b} hb hh => by
    cases hi : inI F id with
    | false => rfl
    | true => have := hh hi; rw [hb] at this; cases this
  exact h pos after guard C H n a w Kc Q ⟨_, _, _, hw.freeze H (inI F) (fun id hid => no hid fun hi => (hF id (hin hi)).2) (fun id hid => no hid fun hi => (hF id (hin hi)).1)⟩ hKc
section
variable {P : Program} {S : Sp} {kd bi : Bool} {dst : Option Nat} {ty t : TypeId} {K Kb : Env -> Jac -> Prop} {E : Env} {σ : Jac} (aso : Array Operand) (ts : Array TypeId)
@[go_sem] theorem Jzs : cls P (.call { callee := .builtin .unsafeString, args := aso, argTypes := ts }) ty = 5 := rfl
@[go_sem] theorem Jzn : cls P (.call { callee := .builtin .copy, args := aso, argTypes := ts }) ty = 5 := rfl
@[go_sem] theorem JBm : cls P (.call { callee := .builtin .cap, args := aso, argTypes := ts }) ty = 5 := rfl
@[go_sem] theorem JBq (x : Operand) : cls P (.sliceToArrayPointer t x) ty = 5 := rfl
@[go_sem ↓] theorem Jy8 : aopC S kd bi dst (.call { callee := .builtin .unsafeString, args := aso, argTypes := ts }) ty K Kb E σ = semD S dst (.call { callee := .builtin .unsafeString, args := aso, argTypes := ts }) ty Kb E σ := rfl
@[go_sem ↓] theorem Jy3 : aopC S kd bi dst (.call { callee := .builtin .copy, args := aso, argTypes := ts }) ty K Kb E σ = semD S dst (.call { callee := .builtin .copy, args := aso, argTypes := ts }) ty Kb E σ := rfl
@[go_sem ↓] theorem JA9 : aopC S kd bi dst (.call { callee := .builtin .cap, args := aso, argTypes := ts }) ty K Kb E σ = semD S dst (.call { callee := .builtin .cap, args := aso, argTypes := ts }) ty Kb E σ := rfl
@[go_sem ↓] theorem JBd (x : Operand) : aopC S kd bi dst (.sliceToArrayPointer t x) ty K Kb E σ = semD S dst (.sliceToArrayPointer t x) ty Kb E σ := rfl
end
variable {P : Program} {C : Fx} {w : World} {ρ : Nat -> Option Nat} {Im : Nat -> Prop} {M : Str} {E : Env} {σ : Jac} {a : Act}
def spZ (P : Program) (f : FuncId) (N l : Nat) (bad : List Nat) : Sp := { P, N, b := 131072 * (f + 1), pin := fun _ => false, yl := l, Y := seqY, bad := inI bad, old := fun i => Nat.blt (i / 16) (131072 * (f + 1)) || Nat.ble (131072 * (f + 1) + 100000) (i / 16) }
theorem Jmj (P : Program) (f : FuncId) (N l : Nat) (bad : List Nat) : Jc6 (spZ P f N l bad) := fun _ _ _ _ hK h => Jj2 hK h
section
variable (P : Program) (f N l : Nat) (bad : List Nat)
@[go_sem] theorem spZ_P : (spZ P f N l bad).P = P := rfl
@[go_sem] theorem spZ_b : (spZ P f N l bad).b = 131072 * (f + 1) := rfl
@[go_sem] theorem JC7 (id : Nat) : (spZ P f N l bad).bad id = bad.contains id := rfl
@[go_sem] theorem spZ_N : (spZ P f N l bad).N = N := rfl
@[go_sem] theorem JC8 (id : Nat) : (spZ P f N l bad).pin id = false := rfl
@[go_sem] theorem spZ_yl : (spZ P f N l bad).yl = l := rfl
@[go_sem] theorem spZ_Y : (spZ P f N l bad).Y = seqY := rfl
end
theorem JuG {f : FuncId} {fn : Func} {c : Code} {args : List AV} {xs : List (List AV)} {l0 : List (Nat × Blk)} (bad : List Nat) (hf : P.funcs[f]? = some fn) (hb : fn.body = some c) (hok : fnB P fn bad c = true) (hmo : P.follows .mixedOrders = true)
    (hlen : args.length < fn.ntmps) (hres : fn.results = #[]) (hxs : AV.namesL allB (xs.map .tup) = false)
    (hold : (l0.all fun p => Nat.blt (p.1 / 16) (131072 * (f + 1)) || Nat.ble (131072 * (f + 1) + 100000) (p.1 / 16)) = true)
    (h : ∀ l, awpC (spZ P f fn.ntmps l bad) c (fun e => match e with | .normal => fun E _ => E fn.ntmps = .tup [] \/ E fn.ntmps = .any | .ret => fun E _ => E fn.ntmps = .tup [] \/ E fn.ntmps = .any | _ => fun _ _ => False) (upd (JbW (.yld l :: args)) fn.ntmps (.tup (xs.map .tup))) (stO l0)) : SOK P f args (stO l0) xs := by
  simp only [fnB, L00, L0S] at hok
  obtain ⟨⟨⟨h1, h2⟩, h3⟩, h4⟩ := hok
  have h4 := L0u h4; have h1 := JaR c h1
  have h : ∀ l, awp (spZ P f fn.ntmps l bad) c (retG P fn fun _ E _ => E fn.ntmps = .tup [] \/ E fn.ntmps = .any) (upd (JbW (.yld l :: args)) fn.ntmps (encG xs false)) (stO l0) := fun l =>
    JbI (Jmj P f fn.ntmps l bad) c (fun e E σ hk => by
      cases e <;> first | exact hk.elim | (simp only [retG, hres]; exact hk)) (h l)
  refine ⟨enters hf hb h3, fun w Im ρ vs l G M0 hG hinv hgk hargs hM hJ hans hG0 => ?_⟩
  let C : Fx := { w0 := w, X0 := fun b => (∃ id, ρ id = some b) \/ M0.m b, Im0 := Im, G := fun g M w => ∃ ys s, g = encG ys s /\ AV.namesL allB (ys.map .tup) = false /\ G ys s M w, N := fn.ntmps, rd := none, pin := fun _ => none, J0 := Im, R0 := fun id b => ρ id = some b }
  have H : Holds (spZ P f fn.ntmps l bad) C := by
    refine ⟨rfl, ?_, ?_, hmo, fun _ _ hp => (by cases hp), fun _ hp => (by cases hp), h4, fun _ => rfl, fun id b _ hb => ?_, hgk, fun b hb => ⟨fun hx => ?_, hinv.low b (hgk.im hb)⟩, (fun h => by cases h)⟩
    rotate_left 2
    . cases hs : stO l0 id with
      | none => exact absurd hs (hinv.live id b hb)
      | some k => exact L0b.1 hold _ (JbR hs)
    . rcases hx with ⟨id, hid⟩ | hx
      . exact hinv.apart id b hid (hgk.im hb)
      . exact (hM b hx).2.2 (hgk.im hb)
    . rintro g M w w' ⟨ys, s, e, hn, hg⟩ hb hs ho ht hout
      exact ⟨ys, s, e, hn, hG ys s (.v undef) M w w' hg hb hs ho ht hout⟩
    . intro aso g K hY w1 Im1 M1 vs1 hI hM1 hJ1 hL hvs ⟨ys, s, e, hn, hg⟩ n
      subst e
      cases s with
      | true => exact hY.elim
      | false =>
        cases ys with
        | nil => exact hY.elim
        | cons x rest =>
          obtain ⟨rfl, hK1, hK2⟩ := hY
          obtain ⟨hnx, hnr⟩ := JgU hn
          obtain ⟨fn', tmps, assign, body, hr, hround⟩ := hans aso rest M1 w1 Im1 vs1 hg hI hM1 hJ1 hL hvs n
          refine ⟨fn', tmps, assign, body, hr, hround.mono ?_⟩
          rintro e w' ⟨b, M', rfl, hg', hm, hj, hx⟩
          cases b with
          | true => exact ⟨_, .tup (rest.map .tup), M', rfl, ⟨true, rfl⟩, hK1, fun p => JeW (a := .tup (rest.map .tup)) hnr p, ⟨rest, false, rfl, hnr, hg'⟩, hm, hj, hx⟩
          | false => exact ⟨_, .any, M', rfl, ⟨false, rfl⟩, hK2, fun p => rfl, ⟨rest, true, rfl, hnr, hg'⟩, hm, hj, hx⟩
  have hyl : Reps w ρ Im (.yld l :: args) (.func (.yield l) #[] #[] :: vs) := by
    refine ⟨by simp [hargs.1], fun j c y hc hy => ?_⟩
    cases j with
    | zero => simp at hc hy; subst hc; subst hy; exact .im _ _ (.yld l)
    | succ j => exact hargs.2 j c y (by simpa using hc) (by simpa using hy)
  have henv : JaG w ρ Im (upd (JbW (.yld l :: args)) fn.ntmps (encG xs false)) ((.func (.yield l) #[] #[] :: vs).toArray ++ Array.replicate (fn.ntmps - (.func (.yield l) #[] #[] :: vs).toArray.size) undef) := fun t y hy => by
    have hlt := (L0j.1 hy).1
    have hsz : ((Value.func (.yield l) #[] #[] :: vs).toArray ++ Array.replicate (fn.ntmps - (.func (.yield l) #[] #[] :: vs).toArray.size) undef).size = fn.ntmps := by
      have := hargs.1; simp; omega
    rw [hsz] at hlt
    simp only [upd]; rw [if_neg (by omega)]
    exact JeO hyl t y hy
  refine JcN (E0 := upd (JbW (.yld l :: args)) fn.ntmps (encG xs false)) (S := spZ P f fn.ntmps l bad) (C := C) (vs := .func (.yield l) #[] #[] :: vs) (σ0 := stO l0) (ρ0 := ρ) (Im0 := Im) (M0 := M0) H rfl hf hb rfl h1 h2 ?_ (h l) fun E σ' tm w' ρ' I M us ys hk hrest hr => ?_
  . refine ⟨hinv, henv, (?_ : _ = fn.ntmps), Ext.refl _ _, fun i b hi => .inl ⟨.inl ⟨i, hi⟩, hi⟩, fun b hb => .inl hb, fun p => ?_, ?_, hJ, fun b hb => ⟨(hM b hb).1, (hM b hb).2.1, (hM b hb).2.2, .inl (.inr hb)⟩, fun l r hr => (by cases hr), .nil, fun d hd => (by cases hd), fun b hb => ?_, fun id b hb => (by cases hb), fun b hb => hb⟩
    . have := hargs.1; simp; omega
    . show AV.namesB p (upd (JbW (.yld l :: args)) fn.ntmps (encG xs false) fn.ntmps) = false
      rw [Jgi]; exact JeW (a := .tup (xs.map .tup)) hxs p
    . show ∃ ys s, upd (JbW (.yld l :: args)) fn.ntmps (encG xs false) fn.ntmps = encG ys s /\ _
      rw [Jgi]; exact ⟨xs, false, rfl, hxs, hG0⟩
    . rcases hb with ⟨r, hr⟩ | hd
      . cases hr
      . cases hd
  . obtain ⟨zs, s, e, _, hg⟩ := hrest.g
    refine ⟨_, zs, s, M, rfl, ?_, hg, hrest.ext⟩
    have e : E fn.ntmps = encG zs s := e
    rw [e] at hk
    cases s with
    | true => exact .inr rfl
    | false =>
      rcases hk with hk | hk
      . refine .inl ?_
        simp only [encG, AV.tup.injEq, L2i] at hk; exact hk
      . cases hk
theorem JaK {S : Sp} (hY : Jc6 S) {id : Nat} {ops : Array Oper} {draw : Bool} {Q : Exit -> Env -> Jac -> Prop} {E : Env} {σ : Jac} (F : List Nat) (h : regC S draw ops (Q .normal) (frE (inI F) σ E) (frS (inI F) σ))
    (hF : (F.all fun i => !S.old i && !S.pin i) = true := by kernel_rfl) (hfit : Jcl S.P S.N JjO (.region id ops draw) = true := by kernel_rfl) : semC S (.region id ops draw) Q E σ := by
  simp only [L0b, L00, L0S] at hF
  have hin : ∀ {id}, inI F id = true -> id ∈ F := fun h => L0G.1 h
  have no : ∀ {id} {b : Bool}, b = true -> (inI F id = true -> b = false) -> inI F id = false := fun {id b} hb hh => by
    cases hi : inI F id with
    | false => rfl
    | true => have := hh hi; rw [hb] at this; cases this
  exact JgH hY F h (fun id hid => no hid fun hi => (hF id (hin hi)).2) (fun id hid => no hid fun hi => (hF id (hin hi)).1) hfit
@[go_sem] theorem JBY (L p : Nat -> Bool) (σ : Jac) (l : Nat) : frz L p σ (.yld l) = .yld l := rfl
def nnB : AV -> Bool
  | .new .. => false
  | .nptr .. => false
  | _ => true
theorem Jwn {w : World} {Im : Nat -> Prop} {r : AV} {y : Value} {ob : Option Nat} (h : nnB r = true) : R1 w Im r y ob ↔ (ob = none /\ IRep w Im r y) := by
  cases r <;> first | exact Iff.rfl | cases h
theorem Jwo {w : World} {Im : Nat -> Prop} : ∀ {rs ss : List AV} {ys : List Value} {obs : List (Option Nat)}, (rs.all nnB) = true -> (ss.all nnB) = true -> Jmy rs ss -> RL w Im rs ys obs -> RL w Im ss ys obs
  | [], [], _, _, _, _, _, h => h
  | r :: rs, s :: ss, [], _, _, _, _, h => (h : False).elim
  | r :: rs, s :: ss, _ :: _, [], _, _, _, h => (h : False).elim
  | r :: rs, s :: ss, y :: ys, ob :: obs, h1, h2, h3, h => by
    simp only [L1D, L00] at h1 h2
    obtain ⟨e1, e2⟩ := (Jwn h1.1).1 h.1
    exact ⟨(Jwn h2.1).2 ⟨e1, h3.1 _ _ _ e2⟩, Jwo h1.2 h2.2 h3.2 h.2⟩
  | [], _ :: _, _, _, _, _, h, _ => h.elim
  | _ :: _, [], _, _, _, _, h, _ => h.elim
theorem Ev.resL {P : Program} {f : FuncId} {args : List AV} {rs ss : List AV} (h : Ev P f args (.tup rs)) (h3 : Jmy rs ss) (h1 : (rs.all nnB) = true := by rfl) (h2 : (ss.all nnB) = true := by rfl) : Ev P f args (.tup ss) := by
  rintro xs r0 ⟨rfl, rfl⟩
  obtain ⟨a, b⟩ := h xs (.tup rs) ⟨rfl, rfl⟩
  refine ⟨a, fun w Im vs hlow hgk hv => (b w Im vs hlow hgk hv).mono fun e w' ⟨y, he, hx, Im1, g1, g2, ys, obs, g3, g4, g5⟩ => ⟨y, he, hx, Im1, g1, g2, ys, obs, g3, Jwo h1 h2 h3 g4, g5⟩⟩
theorem Jf7 {cs ds : List AV} (h : Jmy cs ds) : (AV.agg cs).asIf (.agg ds) := by
  intro w Im y hy
  cases hy with
  | agg _ ys hl h1 hh =>
    have := Jfj h (vs := ys) ⟨hl, hh⟩
    exact .agg _ ys this.1 h1 this.2
theorem Jbp {S : Sp} {c0 : Code} {Q : Exit -> Env -> Jac -> Prop} {E : Env} {σ : Jac} (id id' i j e sz : Nat) {k : Blk} {el : AV} (hk : σ id = some k) (hid : id' ≠ id) (he : k.es[i]? = some el) (hc : el.cells[j]? = some (.v (.slice none 0 0))) (hkz : k.sz ≠ 0) (hnk : AV.namesL (isId id') k.es = false) (hpin : S.pin id' = false)
    (h : semC S c0 Q (JaT (isId id') E) (updS (updS (Jaj (isId id') σ) id' ⟨e, sz, []⟩) id ⟨k.e, k.sz, k.es.set i (setC el j (.own id' sz 0 0))⟩)) : semC S c0 Q E σ := by
  intro C H n R hR a w ⟨ρ, Im, M, hw⟩
  have hpc : C.pin id' = none := by
    cases hp : C.pin id' with
    | none => rfl
    | some b => rw [H.pin id' b hp] at hpin; cases hpin
  have h1 := hw.kill H.G (isId id') (Jg3 hpc)
  have h2 := h1.newNil H.G (d := id') hpc (JbC (by simp [isId]) E σ) e sz (dst := none) (v := .any) (y := undef) (fun d' e => by cases e) (.im _ _ (.any _))
  have hkk : k.kill (isId id') = k := by simp [Blk.kill, hnk]
  have hk3 : (updS (Jaj (isId id') σ) id' ⟨e, sz, []⟩) id = some k := by
    rw [Jav _ _ _ _ (Ne.symm hid)]; simp only [Jaj]
    rw [if_neg (by simp [isId]; exact fun e => hid e.symm), hk]; simp [hkk]
  refine h C H n R hR a w ⟨updR (killR (isId id') ρ) id' none, Im, M, ?_⟩
  have hown : ∀ v : World, Rep v (updR (killR (isId id') ρ) id' none) Im (.own id' sz 0 0) (.slice none 0 0) := fun v => .ownNil _ _ (by simp)
  have h2' : Wit C (JaT (isId id') E) (updS (Jaj (isId id') σ) id' ⟨e, sz, []⟩) a w (updR (killR (isId id') ρ) id' none) Im M := h2
  have hels : ∀ v ∈ (k.es.set i (setC el j (.own id' sz 0 0))), ∃ v0 ∈ k.es, v.cells.length = v0.cells.length := fun v hv => by
    rcases L1Z hv with hv | rfl
    . exact ⟨v, hv, rfl⟩
    . refine ⟨el, L01 he, ?_⟩
      have hj := (L04.1 hc).1
      rw [Jc0 (by simp; omega)]; simp; omega
  have hcell : ∀ (i' : Nat) (e' : AV) (j' : Nat) (c : AV), (k.es.set i (setC el j (.own id' sz 0 0)))[i']? = some e' -> e'.cells[j']? = some c -> (∃ e0, k.es[i']? = some e0 /\ e0.cells[j']? = some c) \/ (c = .own id' sz 0 0 /\ i' = i /\ j' = j) := fun i' e' j' c he' hc' => by
    rw [L21] at he'
    split at he'
    . rename_i hii; subst hii
      split at he'
      . cases he'
        have hj := (L04.1 hc).1
        rw [Jc0 (by simp; omega)] at hc'
        simp only [AV.cells_own, L1d] at hc'
        rcases Nat.lt_trichotomy j' j with hlt | rfl | hgt
        . rw [L0O, L0m (by simp; omega), L0l, if_pos hlt] at hc'
          exact .inl ⟨el, he, hc'⟩
        . rw [L0O, L0o (by simp; omega)] at hc'
          have : j' - (el.cells.take j').length = 0 := by simp; omega
          rw [this] at hc'; simp at hc'; exact .inr ⟨hc'.symm, rfl, rfl⟩
        . rw [L0o (by simp; omega), L0B] at hc'
          have : j + 1 + (j' - (el.cells.take j ++ [AV.own id' sz 0 0]).length) = j' := by simp; omega
          rw [this] at hc'
          exact .inl ⟨el, he, hc'⟩
      . cases he'
    . exact .inl ⟨e', he', hc'⟩
  refine h2'.step H.G (Ext.refl _ _) ?_ h2'.env rfl rfl rfl (fun _ _ hb => .inl hb) (fun _ hb => .inl hb) h2'.pin (fun _ h => h)
  have hi := h2'.inv
  refine ⟨fun q k2 hk2 hr => ?_, fun q k2 b hk2 hr hz => ?_, fun q k2 b hk2 hr hz => ?_, hi.inj, fun q b hr hs' => ?_, hi.apart, hi.low⟩
  . by_cases e : q = id
    . subst e; have h0 := hi.nil q k hk3 hr
      rw [h0] at he; simp at he
    . rw [Jav _ _ _ _ e] at hk2; exact hi.nil q k2 hk2 hr
  . by_cases e : q = id
    . subst e; simp at hk2; subst hk2; exact absurd hz hkz
    . rw [Jav _ _ _ _ e] at hk2; exact hi.map q k2 b hk2 hr hz
  . by_cases e : q = id
    . subst e; simp at hk2; subst hk2
      obtain ⟨cur, hb, hl, hs, hcc⟩ := hi.blk q k b hk3 hr hkz
      refine ⟨cur, hb, fun v hv => ?_, by simpa using hs, fun i' e' j' c he' hc' => ?_⟩
      . obtain ⟨v0, h0, h1⟩ := hels v hv
        rw [h1]; exact hl v0 h0
      . rcases hcell i' e' j' c he' hc' with ⟨e0, h0, h1⟩ | ⟨rfl, rfl, rfl⟩
        . exact hcc i' e0 j' c h0 h1
        . obtain ⟨x, hx, h1, hr'⟩ := hcc i' el j' _ he hc
          have := hr'.v_inv
          subst this
          exact ⟨_, hx, h1, hown w⟩
    . rw [Jav _ _ _ _ e] at hk2; exact hi.blk q k2 b hk2 hr hz
  . by_cases e : q = id
    . subst e; simp at hs'
    . rw [Jav _ _ _ _ e] at hs'; exact hi.live q b hr hs'
theorem Je6 {S : Sp} (hY : Jc6 S) {id : Nat} {ops : Array Oper} {draw : Bool} {Q : Exit -> Env -> Jac -> Prop} {E : Env} {σ : Jac} (h : regC S draw ops (Q .normal) E σ)
    (hfit : Jcl S.P S.N JjO (.region id ops draw) = true := by kernel_rfl) : semC S (.region id ops draw) Q E σ := by
  intro C H n R hR a w ⟨ρ, Im, M, hw⟩
  have hok := JaR _ hfit; simp only [JaY, L00, L0x, L0S, L11, L1y, JjO, L0A, false_or] at hok
  have hall : ∀ (i : Nat) (o : Oper), ops[i]? = some o -> Oper.fits S.P S.N o = true := fun i o ho => L0b.1 hok.1 o (L0t.2 (L1A ho))
  unfold regC at h; rw [Jcg] at h
  have hv := JbY (fun _ _ hk => JfB hY _ 0 (fun _ _ h => h) hk) _ _ h
  have hs : St C E σ a w := ⟨_, _, _, hw⟩
  cases draw with
  | false =>
    simp only [struck, L0A, if_false] at hv
    refine wpIn_region ?_
    have := JcA H hall (n := n) (Q := R) (fun E σ a w hk hs => hR .normal E σ a w hk hs) ops.toList 0 _ _ a w (by simp) hv hs
    rw [L0y, <- L1z] at this; exact this
  | true => exact JcR H ops hok.1 (by simpa using hok.2) n (Q .normal) R _ _ a w (fun E σ a w hk hs => hR .normal E σ a w hk hs) hv hs id
mutual
def AV.rn (π : Nat -> Nat) : AV -> AV
  | .own a s i n => .own (π a) s i n
  | .ptr a s i j => .ptr (π a) s i j
  | .mref a => .mref (π a)
  | .agg cs => .agg (AV.rnL π cs)
  | .tup cs => .tup (AV.rnL π cs)
  | .clo g cs => .clo g (AV.rnL π cs)
  | a => a
def AV.rnL (π : Nat -> Nat) : List AV -> List AV
  | [] => []
  | c :: cs => AV.rn π c :: AV.rnL π cs
end
theorem JcZ (π : Nat -> Nat) : ∀ cs : List AV, AV.rnL π cs = cs.map (AV.rn π)
  | [] => rfl
  | c :: cs => by rw [AV.rnL, JcZ π cs]; rfl
theorem Jmc (π : Nat -> Nat) (e : AV) : (AV.rn π e).cells = e.cells.map (AV.rn π) := by
  cases e <;> simp [AV.rn, AV.cells, JcZ]
mutual
theorem AV.rn_free (π : Nat -> Nat) : ∀ a : AV, AV.namesB allB a = false -> AV.rn π a = a
  | .own .., h => by simp [AV.namesB, allB] at h
  | .ptr .., h => by simp [AV.namesB, allB] at h
  | .mref .., h => by simp [AV.namesB, allB] at h
  | .agg cs, h => by rw [AV.rn, AV.rnL_free π cs h]
  | .tup cs, h => by rw [AV.rn, AV.rnL_free π cs h]
  | .clo g cs, h => by rw [AV.rn, AV.rnL_free π cs h]
  | .any, _ => rfl
  | .v .., _ => rfl
  | .sl .., _ => rfl
  | .cut .., _ => rfl
  | .pt .., _ => rfl
  | .new .., _ => rfl
  | .nptr .., _ => rfl
  | .yld .., _ => rfl
  | .mp .., _ => rfl
theorem AV.rnL_free (π : Nat -> Nat) : ∀ cs : List AV, AV.namesL allB cs = false -> AV.rnL π cs = cs
  | [], _ => rfl
  | c :: cs, h => by
    simp only [AV.namesL, L1B] at h; rw [AV.rnL, AV.rn_free π c h.1, AV.rnL_free π cs h.2]
end
def Blk.rn (π : Nat -> Nat) (k : Blk) : Blk := ⟨k.e, k.sz, AV.rnL π k.es⟩
section
variable {w : World} {ρ : Nat -> Option Nat} {Im : Nat -> Prop} {π : Nat -> Nat}
theorem IRep.rn {a : AV} {y : Value} (h : IRep w Im a y) : IRep w Im (AV.rn π a) y := by
  induction h with
  | any y => exact .any y
  | v x => exact .v x
  | agg cs ys hl h1 _ ih =>
    rw [AV.rn, JcZ]
    refine .agg _ ys (by simpa using hl) h1 fun j c y hc hy => ?_
    rw [L03] at hc
    obtain ⟨c0, h0, rfl⟩ := L0i.1 hc
    exact ih j c0 y h0 hy
  | slnil sz a cap => exact .slnil ..
  | cut sz es a h ih => exact .cut sz es a h
  | sl sz es b o cap f hIm hcap hsz hcc hh ih => exact .sl sz es b o cap f hIm hcap hsz hcc hh
  | pt e j b o f hIm hcc hh ih => exact .pt e j b o f hIm hcc hh
  | tup vs ys hl _ ih =>
    rw [AV.rn, JcZ]
    refine .tup _ ys (by simpa using hl) fun j c y hc hy => ?_
    rw [L03] at hc
    obtain ⟨c0, h0, rfl⟩ := L0i.1 hc
    exact ih j c0 y h0 hy
  | clo g caps ys hl _ ih =>
    rw [AV.rn, JcZ]
    refine .clo g _ ys (by simpa using hl) fun j c y hc hy => ?_
    rw [L03] at hc
    obtain ⟨c0, h0, rfl⟩ := L0i.1 hc
    exact ih j c0 y h0 hy
  | yld l => exact .yld l
  | mpnil => exact .mpnil
  | mp es b ents clk f hIm hbb hl hes hh ih => exact .mp es b ents clk f hIm hbb hl hes hh
theorem Rep.rn (hπ : ∀ i, π (π i) = i) {a : AV} {y : Value} (h : Rep w ρ Im a y) : Rep w (fun i => ρ (π i)) Im (AV.rn π a) y := by
  induction h with
  | im a y h => exact .im _ y h.rn
  | agg cs ys hl h1 _ ih =>
    rw [AV.rn, JcZ]
    refine .agg _ ys (by simpa using hl) h1 fun j c y hc hy => ?_
    rw [L03] at hc
    obtain ⟨c0, h0, rfl⟩ := L0i.1 hc
    exact ih j c0 y h0 hy
  | tup cs ys hl _ ih =>
    rw [AV.rn, JcZ]
    refine .tup _ ys (by simpa using hl) fun j c y hc hy => ?_
    rw [L03] at hc
    obtain ⟨c0, h0, rfl⟩ := L0i.1 hc
    exact ih j c0 y h0 hy
  | clo g cs ys hl _ ih =>
    rw [AV.rn, JcZ]
    refine .clo g _ ys (by simpa using hl) fun j c y hc hy => ?_
    rw [L03] at hc
    obtain ⟨c0, h0, rfl⟩ := L0i.1 hc
    exact ih j c0 y h0 hy
  | ownNil id sz h => exact .ownNil _ sz (by simp only [hπ]; exact h)
  | own id sz n b cap cur e hr hn hcap hb hsz hz => exact .own _ sz n b cap cur e (by simp only [hπ]; exact hr) hn hcap hb hsz hz
  | ownAt id sz i n b cap a hi hr hn ha hz => exact .ownAt _ sz i n b cap a hi (by simp only [hπ]; exact hr) hn ha hz
  | ptr id sz i j b hr hz => exact .ptr _ sz i j b (by simp only [hπ]; exact hr) hz
  | mref id b hr => exact .mref _ b (by simp only [hπ]; exact hr)
theorem Inv.rn {σ : Jac} (hπ : ∀ i, π (π i) = i) (h : Inv w ρ Im σ) : Inv w (fun i => ρ (π i)) Im (fun i => (σ (π i)).map (Blk.rn π)) := by
  refine ⟨fun id k hk hr => ?_, fun id k b hk hr hz => ?_, fun id k b hk hr hz => ?_, fun i j b h1 h2 => ?_, fun id b hr hs => ?_, fun id b hr => h.apart _ b hr, h.low⟩
  . obtain ⟨k0, h0, rfl⟩ := L0i.1 hk
    have := h.nil _ k0 h0 hr
    simp [Blk.rn, this, AV.rnL]
  . obtain ⟨k0, h0, rfl⟩ := L0i.1 hk
    obtain ⟨ents, clk, hb, hl, hc⟩ := h.map _ k0 b h0 hr hz
    refine ⟨ents, clk, hb, by simpa [Blk.rn, JcZ] using hl, fun i m hm => ?_⟩
    obtain ⟨v, hv, hr'⟩ := hc i m hm
    refine ⟨AV.rn π v, ?_, hr'.rn hπ⟩
    simp only [Blk.rn, JcZ, L03, hv, L0K, AV.rn, AV.rnL]; try rfl
  . obtain ⟨k0, h0, rfl⟩ := L0i.1 hk
    obtain ⟨cur, hb, hl, hs, hc⟩ := h.blk _ k0 b h0 hr hz
    refine ⟨cur, hb, fun e he => ?_, by simpa [Blk.rn, JcZ] using hs, fun i e j c he hc' => ?_⟩
    . simp only [Blk.rn, JcZ] at he
      obtain ⟨e0, h1, rfl⟩ := L06.1 he
      rw [Jmc, L05]; exact hl e0 h1
    . simp only [Blk.rn, JcZ, L03] at he
      obtain ⟨e0, h1, rfl⟩ := L0i.1 he
      rw [Jmc, L03] at hc'
      obtain ⟨c0, h2, rfl⟩ := L0i.1 hc'
      obtain ⟨x, hx, h3, hr'⟩ := hc i e0 j c0 h1 h2
      exact ⟨x, hx, h3, hr'.rn hπ⟩
  . have := h.inj _ _ b h1 h2
    have e := congrArg π this
    rwa [hπ, hπ] at e
  . simp only [Option.map_eq_none_iff] at hs
    exact h.live _ b hr hs
end
theorem Wit.rn {S : Sp} {C : Fx} {E : Env} {σ : Jac} {a : Act} {w : World} {ρ : Nat -> Option Nat} {Im : Nat -> Prop} {M : Str} (H : Holds S C) (h : Wit C E σ a w ρ Im M) (π : Nat -> Nat) (hπ : ∀ i, π (π i) = i) (hm : ∀ i, π i ≠ i -> S.old i = false /\ S.pin i = false) :
    Wit C (fun t => AV.rn π (E t)) (fun i => (σ (π i)).map (Blk.rn π)) a w (fun i => ρ (π i)) Im M := by
  have hfree : AV.rn π (E C.N) = E C.N := AV.rn_free π _ (h.gh allB)
  refine ⟨h.inv.rn hπ, fun t y hy => (h.env t y hy).rn hπ, h.size, h.ext, fun id b hb => ?_, h.im, fun p => ?_, ?_, h.js, fun b hb => ?_, h.rd, h.nodup, h.df, fun b hb => ?_, fun id ob hp => ?_, h.j0⟩
  . rcases h.rng _ b hb with ⟨h1, h2⟩ | h1
    . have ho := H.fz _ b h1 h2
      have hid : π id = id := by
        by_cases e : π (π id) = π id
        . rwa [hπ, eq_comm] at e
        . have := (hm _ e).1; rw [ho] at this; cases this
      rw [hid] at h2
      exact .inl ⟨h1, h2⟩
    . exact .inr h1
  . show AV.namesB p (AV.rn π (E C.N)) = false
    rw [hfree]; exact h.gh p
  . show C.G (AV.rn π (E C.N)) M w
    rw [hfree]; exact h.g
  . obtain ⟨h1, h2, h3, h4⟩ := h.ms b hb
    exact ⟨h1, fun id => h2 _, h3, h4⟩
  . obtain ⟨h1, h2, h3⟩ := h.bk b hb
    exact ⟨fun id => h1 _, h2, h3⟩
  . have hpn := H.pin id ob hp
    have hid : π id = id := by
      by_cases e : π id = id
      . exact e
      . have := (hm _ e).2; rw [hpn] at this; cases this
    show ρ (π id) = ob
    rw [hid]; exact h.pin id ob hp
@[go_sem] theorem JBS (L p : Nat -> Bool) (σ : Jac) (cs : List AV) : frz L p σ (.agg cs) = if AV.namesB (notI L) (.agg cs) = false then .agg cs else res (Jaj p (Jaj L σ)) (((AV.agg cs).kill L).kill p) := rfl
section
variable (π : Nat -> Nat)
@[go_sem] theorem rn_v (x : Value) : AV.rn π (.v x) = .v x := rfl
@[go_sem] theorem rn_sl (s : Nat) (es : List AV) : AV.rn π (.sl s es) = .sl s es := rfl
@[go_sem] theorem rn_pt (e : AV) (j : Nat) : AV.rn π (.pt e j) = .pt e j := rfl
@[go_sem] theorem rn_any : AV.rn π .any = .any := rfl
@[go_sem] theorem rn_own (a s i n : Nat) : AV.rn π (.own a s i n) = .own (π a) s i n := rfl
@[go_sem] theorem rn_ptr (a s i j : Nat) : AV.rn π (.ptr a s i j) = .ptr (π a) s i j := rfl
@[go_sem] theorem rn_agg (cs : List AV) : AV.rn π (.agg cs) = .agg (AV.rnL π cs) := rfl
@[go_sem] theorem JCM : AV.rnL π [] = [] := rfl
@[go_sem] theorem JAU (c : AV) (cs : List AV) : AV.rnL π (c :: cs) = AV.rn π c :: AV.rnL π cs := rfl
@[go_sem] theorem rn_blk (e : TypeId) (s : Nat) (es : List AV) : Blk.rn π ⟨e, s, es⟩ = ⟨e, s, AV.rnL π es⟩ := rfl
end
theorem JkJ {S : Sp} {c : Code} {Q : Exit -> Env -> Jac -> Prop} {E : Env} {σ : Jac} (F : List Nat) (h : semC S c (fun e E σ => Q e (frE (inI F) σ E) (frS (inI F) σ)) E σ)
    (hp : ∀ id, S.pin id = true -> inI F id = false := by intro id hid; cases hid) (hfz : ∀ id, S.old id = true -> inI F id = false := by intro id hid; cases hid) : semC S c Q E σ :=
  fun C H n R hR a w hw => h C H n R (fun e E σ a w hq ⟨_, _, _, hs⟩ => hR e _ _ a w hq ⟨_, _, _, hs.freeze H (inI F) hp hfz⟩) a w hw
def depK (D : Nat -> Bool) : List Edge -> Prop
  | [] => True
  | e :: l => (Region.binds .any e = true -> D e.on = true) /\ depK D l
theorem Joe {D : Nat -> Bool} : ∀ {l : List Edge}, (∀ e ∈ l, Region.binds .any e = true -> D e.on = true) -> depK D l
  | [], _ => trivial
  | e :: l, h => ⟨h e (by simp), Joe fun x hx => h x (by simp [hx])⟩
def Jfd (S : Sp) (ops : Array Oper) (J : (Nat -> Bool) -> Env -> Jac -> Prop) : Nat -> List Oper -> Prop
  | _, [] => True
  | i, o :: l => (∀ D E σ, J D E σ -> D i = false /\ depK D o.after.toList -> opsC S false ops i [o] (J (insJ D i)) E σ) /\ Jfd S ops J (i + 1) l
theorem Jj9 {S : Sp} {ops : Array Oper} {J : (Nat -> Bool) -> Env -> Jac -> Prop} : ∀ {l : List Oper} {i : Nat}, Jfd S ops J i l -> Jml S ops J i l
  | [], _, _ => trivial
  | _ :: _, _, ⟨h1, h2⟩ => ⟨fun D hD hd E σ hJ => h1 D E σ hJ ⟨hD, Joe hd⟩, Jj9 h2⟩
theorem Jd5 {S : Sp} [hY : Plain S] {id : Nat} {ops : Array Oper} {Q : Exit -> Env -> Jac -> Prop} {E : Env} {σ : Jac} (J : (Nat -> Bool) -> Env -> Jac -> Prop)
    (h0 : J (fun _ => false) E σ) (hsteps : Jfd S ops J 0 ops.toList) (hend : ∀ D E σ, (∀ i, i < ops.size -> D i = true) -> J D E σ -> Q .normal E σ)
    (hfit : ops.toList.all (Oper.fits S.P S.N) = true := by kernel_rfl) (hedge : JgA 0 ops.toList = true := by kernel_rfl) : semC S (.region id ops true) Q E σ :=
  JrE hY.mono J h0 (Jj9 hsteps) hend hfit hedge
theorem cK {D : Nat -> Bool} {a b : Nat} (h : D a = true -> D b = true) : D b = false -> D a = false := fun h1 => by
  cases e : D a with
  | false => rfl
  | true => rw [h e] at h1; cases h1
section
variable {S : Sp} {C : Fx} {E : Env} {σ : Jac} {a : Act} {w : World} {ρ : Nat -> Option Nat} {Im : Nat -> Prop} {M : Str}
end
section
variable {S : Sp} {kd bi : Bool} {dst : Option Nat} {ty t : TypeId} {K Kb : Env -> Jac -> Prop} {E : Env} {σ : Jac}
@[go_sem ↓] theorem JwP (x : Operand) : aopC S kd bi dst (.range t x) ty K Kb E σ = semD S dst (.range t x) ty Kb E σ := rfl
@[go_sem ↓] theorem Jy5 (x : Operand) (c : Bool) : aopC S kd bi dst (.next x c) ty K Kb E σ = semD S dst (.next x c) ty Kb E σ := rfl
@[go_sem ↓] theorem JwM (x : Operand) : aopC S kd bi dst (.entry x) ty K Kb E σ = semD S dst (.entry x) ty Kb E σ := rfl
@[go_sem] theorem Jxd (P : Program) (x : Operand) : cls P (.range t x) ty = 5 := rfl
@[go_sem] theorem Jzp (P : Program) (x : Operand) (c : Bool) : cls P (.next x c) ty = 5 := rfl
@[go_sem] theorem Jxa (P : Program) (x : Operand) : cls P (.entry x) ty = 5 := rfl
end
section
variable (P : Program) (f N : Nat) (bad : List Nat)
end
@[go_sem] theorem JBU (L p : Nat -> Bool) (σ : Jac) (g : Nat) (cs : List AV) : frz L p σ (.clo g cs) = if AV.namesB (notI L) (.clo g cs) = false then .clo g cs else res (Jaj p (Jaj L σ)) (((AV.clo g cs).kill L).kill p) := rfl
@[go_sem] theorem Jpi : Value.nilFunc.oneCell' = true := rfl
variable {S : Sp} {dst : Option Nat} {ty : TypeId} {K : Env -> Jac -> Prop} {E : Env} {σ : Jac}
section
variable {p : Nat -> Bool} {nm q k : Nat -> Bool}
@[go_sem] theorem JAe (s : Nat) (es : List AV) : AV.kill p (.cut s es) = .cut s es := rfl
@[go_sem] theorem JzI (s : Nat) (es : List AV) : fade nm (.cut s es) = .cut s es := rfl
@[go_sem] theorem fd_cut (s : Nat) (es : List AV) : AV.fd q k (.cut s es) = .cut s es := rfl
@[go_sem] theorem JCE (s : Nat) (es : List AV) : res σ (.cut s es) = .cut s es := rfl
@[go_sem] theorem JBV (L p : Nat -> Bool) (σ : Jac) (s : Nat) (es : List AV) : frz L p σ (.cut s es) = .cut s es := rfl
@[go_sem] theorem JzT (L p : Nat -> Bool) (σ : Jac) (s : Nat) (es : List AV) : frzE L p σ (.cut s es) = .cut s es := rfl
end
def Jdu (l : List Int) : List Int := l.mergeSort fun x y => decide (x <= y)
theorem JcH (l : List Int) : (Jdu l).length = l.length := List.length_mergeSort _
theorem JpR (l : List Int) (x : Int) : x ∈ Jdu l ↔ x ∈ l := List.mem_mergeSort
def Jwp (P : Program) (f : FuncId) : Prop := ∀ (blk off cap : Nat) (zs : List Int) (w : World), Go.Sort.Holds (Value.int .i64) w blk off zs.toArray -> blk < w.heap.size -> zs.length < 4611686018427387904 ->
  Calls P f #[.slice (some ⟨blk, off, none⟩) zs.length cap] w fun e w' => e = .returned (.tuple #[]) /\ ∃ n os, w' = Go.Sort.grow (Go.Sort.putRow (Value.int .i64) (Go.Sort.ahead w n) blk off (Jdu zs).toArray) os
def Jwl (P : Program) (f : FuncId) (cmp : List Int -> List Int) : Prop := ∀ (blk off cap : Nat) (zs : List Int) (w : World), Go.Sort.Holds (Value.int .i64) w blk off zs.toArray -> zs.length <= 9223372036854775807 -> zs.length <= cap ->
  Calls P f #[.slice (some ⟨blk, off, none⟩) zs.length cap] w fun e w' => e = .returned (.slice (some ⟨blk, off, none⟩) (cmp zs).length cap) /\ ∃ q, w' = Go.Sort.putRow (Value.int .i64) (Go.Sort.ahead w q) blk off (cmp zs ++ List.replicate (zs.length - (cmp zs).length) 0).toArray
def LOKy (P : Program) (f : FuncId) (X : Nat) (e : TypeId) (es R : List Int) (m : Nat) : Prop :=
  (∀ aso w, (callFunc f aso).run P w = .ok (.enter f aso) w) /\
  ∀ (w : World) (Im : Nat -> Prop) (ρ : Nat -> Option Nat) (vs : List Value), Inv w ρ Im (stO [(X, ⟨e, 1, es.map fun x => .v (.int .i64 x)⟩)]) -> GOK w Im -> Reps w ρ Im [.own X 1 0 es.length] vs ->
    Calls P f vs.toArray w fun ee w' => ∃ b cap, ρ X = some b /\ es.length <= cap /\ ee = .returned (.slice (some ⟨b, 0, none⟩) m cap) /\ Ext w (fun b => ∃ id, ρ id = some b) w' /\ Inv w' ρ Im (stO [(X, ⟨e, 1, R.map fun x => .v (.int .i64 x)⟩)])
theorem Joa {P : Program} {f : FuncId} {cmp : List Int -> List Int} (hent : ∀ aso w, (callFunc f aso).run P w = .ok (.enter f aso) w) (hc : Jwl P f cmp) (X : Nat) (e : TypeId) (l : List Int) (hpos : 0 < l.length) (hl : l.length <= 1000000) (hle : (cmp l).length <= l.length) :
    LOKy P f X e l (cmp l ++ List.replicate (l.length - (cmp l).length) 0) (cmp l).length := by
  obtain ⟨R, hR⟩ : ∃ R, cmp l ++ List.replicate (l.length - (cmp l).length) 0 = R := ⟨_, rfl⟩
  have hRl : R.length = l.length := by rw [<- hR]; simp; omega
  rw [hR]
  refine ⟨hent, fun w Im ρ vs hinv _ hvs => ?_⟩
  obtain ⟨hlen, hv⟩ := hvs
  obtain ⟨v, rfl⟩ : ∃ v, vs = [v] := by
    match vs, hlen with
    | [v], _ => exact ⟨v, rfl⟩
  have h1 := hv 0 _ v rfl rfl
  rcases h1.own0_inv with ⟨_, hn, _⟩ | ⟨b, cap, cur0, e', rfl, hρ, hnc, hcap, hb0, hsz0, hnz⟩
  . omega
  obtain ⟨cur, ⟨fr, hb, hmk⟩, hel, hsz, hcell⟩ := hinv.blk X ⟨e, 1, l.map fun x => .v (.int .i64 x)⟩ b (by simp [stO]) hρ L1G
  simp only [L05, L0X] at hsz
  have hblk : b < w.heap.size := hinv.lt hρ
  have hcur : ∀ j, j < l.length -> cur[j]? = some (.int .i64 l[j]!) := fun j hj => by
    obtain ⟨x, hx, _, hr⟩ := hcell j (.v (.int .i64 l[j]!)) 0 (.v (.int .i64 l[j]!)) (by simp [hj]) rfl
    rw [hr.v_inv] at hx
    simpa using hx
  have hH : Go.Sort.Holds (Value.int .i64) w b 0 l.toArray := fun j hj => by
    have hj' : j < l.length := by simpa using hj
    refine ⟨?_, ?_⟩
    . rw [L0q, Jbm ⟨fr, hb, hmk⟩, hcur j hj']; simp [hj']
    . rw [L0q]; exact JgS hb hmk (by omega)
  refine (hc b 0 cap l w hH (by omega) hnc).mono ?_
  rintro e2 w' ⟨rfl, n, rfl⟩
  rw [hR]
  have hheap : ∀ k, k < w.heap.size -> k ≠ b -> (Go.Sort.putRow (Value.int .i64) (Go.Sort.ahead w n) b 0 R.toArray).heap[k]? = w.heap[k]? := fun k hk hne => by
    simp only [Go.Sort.putRow, Go.Sort.mapBlock, Go.Sort.ahead]; rw [L1v, if_neg (Ne.symm hne)]
  have hnew : (Go.Sort.putRow (Value.int .i64) (Go.Sort.ahead w n) b 0 R.toArray).heap[b]? = some (.cells (Go.Sort.putCells (Value.int .i64) 0 R.toArray cur) e fr) := by
    simp only [Go.Sort.putRow, Go.Sort.mapBlock, Go.Sort.ahead]
    rw [L1v, if_pos rfl, hb]; rfl
  have hsize : w.heap.size <= (Go.Sort.putRow (Value.int .i64) (Go.Sort.ahead w n) b 0 R.toArray).heap.size := by simp [Go.Sort.putRow, Go.Sort.mapBlock, Go.Sort.ahead]
  have hcs : (Go.Sort.putCells (Value.int .i64) 0 R.toArray cur).size = cur.size := by simp [Go.Sort.putCells]
  have only : ∀ id k, stO [(X, (⟨e, 1, R.map fun x => .v (.int .i64 x)⟩ : Blk))] id = some k -> id = X /\ k = ⟨e, 1, R.map fun x => .v (.int .i64 x)⟩ := fun id k h => by
    have hX := JbR h
    simpa using hX
  refine ⟨b, cap, hρ, hnc, rfl, ⟨rfl, rfl, rfl, hsize, fun k hk hX => hheap k hk fun e => hX ⟨X, e ▸ hρ⟩⟩, ?_⟩
  refine ⟨fun id k hk hr => ?_, fun id k b' hk hr h0 => ?_, fun id k b' hk hr h0 => ?_, hinv.inj, fun id b' hr => ?_, hinv.apart, fun b' hI => L0Q (hinv.low b' hI) hsize⟩
  . obtain ⟨rfl, rfl⟩ := only id k hk
    rw [hρ] at hr; cases hr
  . obtain ⟨rfl, rfl⟩ := only id k hk
    cases h0
  . obtain ⟨rfl, rfl⟩ := only id k hk
    rw [hρ] at hr; cases hr
    refine ⟨_, ⟨fr, hnew, by rw [hcs]; exact hmk⟩, fun x hx => by obtain ⟨y, _, rfl⟩ := L06.1 hx; rfl, by simp only [L05, hRl, L0X]; rw [hcs]; exact hsz, fun i x j c hx hc => ?_⟩
    rw [L03] at hx
    cases hn : R[i]? with
    | none => simp [hn] at hx
    | some y =>
      simp [hn] at hx; subst hx
      cases j with
      | succ j => simp at hc
      | zero =>
        simp at hc; subst hc
        have hi : i < R.length := (L04.1 hn).1
        have hi2 : i < cur.size := by rw [hRl] at hi; omega
        refine ⟨.int .i64 y, ?_, rfl, .im _ _ (.v _)⟩
        simp only [Go.Sort.putCells, L0X, L0U, Array.getElem?_mapIdx]; rw [L0g hi2]
        have : R[i] = y := (L04.1 hn).2
        simp [hi, this]
  . have : stO [(X, (⟨e, 1, l.map fun x => .v (.int .i64 x)⟩ : Blk))] id ≠ none := hinv.live id b' hr
    intro h
    apply this
    rw [Jd9] at h ⊢
    by_cases hX : X = id
    . rw [if_pos hX] at h; cases h
    . rw [if_neg hX]; rfl
theorem Jra {S : Sp} {E : Env} {σ : Jac} {K : Env -> Jac -> Prop} {d : Nat} {f : Operand} {args : Array Operand} {ats : Array TypeId} {ty : TypeId} {g : FuncId} (X : Nat) {es R : List Int} {e : TypeId} {m : Nat}
    (hL : LOKy S.P g X e es R m) (hfv : ev E f = .clo g []) (has : args.toList.map (ev E) = [.own X 1 0 es.length]) (hat : σ X = some ⟨e, 1, es.map fun x => .v (.int .i64 x)⟩) (hmR : m <= es.length) (hRl : R.length = es.length)
    (hK : K (upd (frE (inI [X]) (addS (Jaj (own (S.b + d)) (fdS (inI [X]) (movI (inI [X]) (inI [X])) σ (stO [(X, ⟨e, 1, R.map fun x => .v (.int .i64 x)⟩)]))) (imp (16 * (S.b + d)) .any).2) (updO (JaT (own (S.b + d)) (fdE (inI [X]) (movI (inI [X]) (inI [X])) E)) (some d) (imp (16 * (S.b + d)) .any).1)) d (.sl 1 ((R.take m).map fun x => .v (.int .i64 x))))
      (frS (inI [X]) (addS (Jaj (own (S.b + d)) (fdS (inI [X]) (movI (inI [X]) (inI [X])) σ (stO [(X, ⟨e, 1, R.map fun x => .v (.int .i64 x)⟩)]))) (imp (16 * (S.b + d)) .any).2)))
    (hX : (!S.pin X && !S.old X && !Nat.beq (X / 16) (S.b + d)) = true := by kernel_rfl)
    (hfit : ((some d).all (decide <| · < S.N) && Op.low S.N (.call { callee := .value f, args, argTypes := ats }) && decide (d < 100000)) = true := by kernel_rfl) :
    semD S (some d) (.call { callee := .value f, args, argTypes := ats }) ty K E σ := by
  simp only [L00, decide_eq_true_eq, L0S] at hfit hX
  obtain ⟨⟨hXp, hXo⟩, hXd⟩ := hX
  have hXd : X / 16 ≠ S.b + d := fun e => by rw [e, Nat.beq_refl] at hXd; cases hXd
  have hin : ∀ id, inI [X] id = true ↔ id = X := fun id => by simp [inI]
  have hnl : AV.namesL (notI (inI [X])) (es.map fun x => (.v (.int .i64 x) : AV)) = false := Jal _ _ _ fun _ => rfl
  have hnl2 : AV.namesL (notI (inI [X])) (R.map fun x => (.v (.int .i64 x) : AV)) = false := Jal _ _ _ fun _ => rfl
  have honly : only (inI [X]) σ = stO [(X, ⟨e, 1, es.map fun x => .v (.int .i64 x)⟩)] := Je0 (l := [(X, ⟨e, 1, es.map fun x => .v (.int .i64 x)⟩)]) ⟨hat, trivial⟩
  intro pos after guard C H n a w Kc Q ⟨ρ, Im, M, h⟩ hKc
  obtain ⟨⟨hdst, hlow⟩, hdd⟩ := hfit
  have htN : d < S.N := by simpa using hdst
  have rep : ∀ x, x ∈ (Op.call { callee := .value f, args, argTypes := ats }).operands -> Rep w ρ Im (ev E x) (a.eval x) := fun x hx => JbL h.env (by rw [h.size, <- H.N]; exact Jbw hlow hx)
  refine ⟨fun _ _ => trivial, ?_⟩
  rw [Oper.semAt_eq _ _ _ (fun c e => by cases e)]
  have hfr := rep f (by simp [Op.operands, Call.operands])
  rw [hfv] at hfr
  obtain ⟨cys, hfy, hcl', hcr⟩ := hfr.clo_plain rfl
  have hargs : ∀ x ∈ args.toList, Rep w ρ Im (ev E x) (a.eval x) := fun x hx => rep x (by simp [Op.operands, Call.operands]; exact Or.inr (L0t.1 hx))
  have hcy : cys = [] := L0R hcl'.symm
  subst hcy
  have hall : Reps w ρ Im (args.toList.map (ev E)) (args.toList.map a.eval) := by
    refine ⟨by simp, fun j c y hc hy => ?_⟩
    have hj : j < args.toList.length := by
      have := (L04.1 hc).1; simpa using this
    rw [L03] at hc hy; rw [L07 hj] at hc hy
    simp at hc hy; subst hc; subst hy
    exact hargs _ (by simp)
  have hallq : Reps w (killR (notI (inI [X])) ρ) Im [.own X 1 0 es.length] (args.toList.map a.eval) := has ▸ ⟨hall.1, fun j c y hc hy => (hall.2 j c y hc hy).killR fun id hid => by
    cases hp : notI (inI [X]) id with
    | false => rfl
    | true =>
      have := (AV.namesL_iff (notI (inI [X])) _).2 ⟨c, L01 hc, AV.namesB_of _ hid hp⟩
      rw [has] at this; simp [AV.namesL, AV.namesB, notI, inI] at this⟩
  obtain ⟨henter, hfn⟩ := hL
  have hrun : (execOp a.eval { dst := some d, op := .call { callee := .value f, args, argTypes := ats }, type := ty, pos, after, guard }).run S.P w = .ok (.enter g (args.toList.map a.eval).toArray) w := by
    simp only [execOp, resolve, hfy, Deferred.ofValue, Sem.run_bind, Sem.run_pure, Result.andThen_ok, invoke]
    have e1 : (#[] ++ args.map a.eval ++ ([] : List Value).toArray : Array Value) = (args.toList.map a.eval).toArray := by apply L0V.1; simp
    rw [e1]; exact henter _ w
  rw [hrun]
  refine ⟨fun h => by simp [FW] at h, JdS ?_⟩
  refine (hfn w Im (killR (notI (inI [X])) ρ) _ (honly ▸ h.inv.only fun id q hid hqq => by
    obtain rfl := (hin id).1 hqq
    rw [hat] at hid; cases hid; exact hnl) (h.gok H) hallq).mono fun ee w' ⟨b, cap, hb, hcap, he, hx, hi⟩ => ?_
  subst he
  have hrr : RR w w' (killR (notI (inI [X])) ρ) Im .any (.slice (some ⟨b, 0, none⟩) m cap) := ⟨none, ⟨rfl, .any _⟩, by simp [Jee]⟩
  obtain ⟨ρ3, Im3, hw, hρ3⟩ := h.lent (pin := inI [X]) H hx hi (fun _ h => h) (fun _ h => .inl h) (fun _ _ h => .inl h) (fun _ _ => rfl) (fun id q hid => by
    have := JbR hid
    simp only [L0p, Prod.mk.injEq] at this; obtain ⟨rfl, rfl⟩ := this
    exact ⟨(hin _).2 rfl, hnl2⟩) (fun id _ hq' => hq') hdd hrr (L0u rfl) (dst := some d) (fun d' hd' => by cases hd'; rw [<- H.N]; exact htN)
  have htC : d < C.N := by rw [<- H.N]; exact htN
  have hqX : inI [X] X = true := (hin X).2 rfl
  have hb' : killR (notI (inI [X])) ρ X = some b := hb
  have hb3 : ρ3 X = some b := by rw [hρ3 X hXd, if_pos hqX]; exact hb'
  have hf := hw.freeze H (inI [X]) (fun id hid => by
    cases hh : inI [X] id with
    | false => rfl
    | true => obtain rfl := (hin id).1 hh; rw [hid] at hXp; cases hXp) (fun id hid => by
    cases hh : inI [X] id with
    | false => rfl
    | true => obtain rfl := (hin id).1 hh; rw [hid] at hXo; cases hXo)
  have hN : ∀ (E : Env) v, upd E d v C.N = E C.N := fun E v => by unfold upd; rw [if_neg (by omega)]
  refine hKc _ _ _ _ hK ⟨_, _, M, ⟨hf.inv, fun t' y' hy' => ?_, hf.size, hf.ext, hf.rng, hf.im, by rw [hN]; exact hf.gh, by rw [hN]; exact hf.g, hf.js, hf.ms, hf.rd, hf.nodup, hf.df, hf.bk, hf.pin, hf.j0⟩⟩
  unfold upd
  split
  . rename_i ht'; subst ht'
    have hyy : y' = .slice (some ⟨b, 0, none⟩) m cap := by
      simp only [Act.put] at hy'
      rw [L2f (by rw [h.size]; exact htC)] at hy'
      exact (Option.some.inj hy').symm
    subst hyy
    obtain ⟨cur, ⟨fr, hc1, _⟩, hc2, hc3, hc4⟩ := hi.blk X ⟨e, 1, R.map fun x => .v (.int .i64 x)⟩ b (by simp [stO]) hb' L1G
    have hlen : m = ((R.take m).map fun x => (.v (.int .i64 x) : AV)).length := by simp; omega
    have hcell : ∀ i, i < R.length -> cur[i]? = some (.int .i64 (R[i]?.getD 0)) := fun i hi' => by
      obtain ⟨x, g1, g2, g3⟩ := hc4 i (.v (.int .i64 R[i])) 0 (.v (.int .i64 R[i])) (by simp [hi']) rfl
      have := g3.v_inv
      subst this
      simpa [hi'] using g1
    conv => arg 5; rw [hlen]
    refine .im _ _ (.sl 1 _ b 0 cap (fun i _ => .int .i64 (R[i]?.getD 0)) ?_ (by rw [<- hlen]; omega) (fun e' he' => ?_) (fun i j hi' hj => ?_) (fun i e' j c he' hc' => ?_))
    . exact .inr ⟨X, by rw [Jax ρ3 (by simp [notI, hqX])]; exact hb3⟩
    . obtain ⟨x, _, rfl⟩ := L06.1 he'; rfl
    . obtain rfl : j = 0 := by omega
      have hi' : i < R.length := by rw [<- hlen] at hi'; omega
      exact ⟨by simp [World.cell?, hc1, hcell i hi'], rfl⟩
    . rw [L03] at he'
      cases hh : (R.take m)[i]? with
      | none => simp [hh] at he'
      | some x =>
        simp [hh] at he'; subst he'
        cases j with
        | zero =>
          simp at hc'; subst hc'
          rw [L0l] at hh
          split at hh
          . rw [hh]; exact .v _
          . cases hh
        | succ j => simp at hc'
  . exact hf.env t' y' hy'
def LOKs (P : Program) (f : FuncId) (X : Nat) (e : TypeId) (es R : List Int) : Prop :=
  (∀ aso w, (callFunc f aso).run P w = .ok (.enter f aso) w) /\
  ∀ (w : World) (Im : Nat -> Prop) (ρ : Nat -> Option Nat) (vs : List Value), Inv w ρ Im (stO [(X, ⟨e, 1, es.map fun x => .v (.int .i64 x)⟩)]) -> GOK w Im -> Reps w ρ Im [.own X 1 0 es.length] vs ->
    Calls P f vs.toArray w fun ee w' => ee = .returned (.tuple #[]) /\ Ext w (fun b => ∃ id, ρ id = some b) w' /\ Inv w' ρ Im (stO [(X, ⟨e, 1, R.map fun x => .v (.int .i64 x)⟩)]) /\ ∀ b, ρ X = some b -> JsW w w' b
theorem JpS {P : Program} {f : FuncId} (hent : ∀ aso w, (callFunc f aso).run P w = .ok (.enter f aso) w) (hc : Jwp P f) (X : Nat) (e : TypeId) (l : List Int) (hpos : 0 < l.length) (hl : l.length <= 1000000) :
    LOKs P f X e l (Jdu l) := by
  refine ⟨hent, fun w Im ρ vs hinv _ hvs => ?_⟩
  obtain ⟨hlen, hv⟩ := hvs
  obtain ⟨v, rfl⟩ : ∃ v, vs = [v] := by
    match vs, hlen with
    | [v], _ => exact ⟨v, rfl⟩
  have h1 := hv 0 _ v rfl rfl
  rcases h1.own0_inv with ⟨_, hn, _⟩ | ⟨b, cap, cur0, e', rfl, hρ, hnc, hcap, hb0, hsz0, hnz⟩
  . omega
  obtain ⟨cur, ⟨fr, hb, hmk⟩, hel, hsz, hcell⟩ := hinv.blk X ⟨e, 1, l.map fun x => .v (.int .i64 x)⟩ b (by simp [stO]) hρ L1G
  simp only [L05, L0X] at hsz
  have hblk : b < w.heap.size := hinv.lt hρ
  have hcur : ∀ j, j < l.length -> cur[j]? = some (.int .i64 l[j]!) := fun j hj => by
    obtain ⟨x, hx, _, hr⟩ := hcell j (.v (.int .i64 l[j]!)) 0 (.v (.int .i64 l[j]!)) (by simp [hj]) rfl
    rw [hr.v_inv] at hx
    simpa using hx
  have hH : Go.Sort.Holds (Value.int .i64) w b 0 l.toArray := fun j hj => by
    have hj' : j < l.length := by simpa using hj
    refine ⟨?_, ?_⟩
    . rw [L0q, Jbm ⟨fr, hb, hmk⟩, hcur j hj']; simp [hj']
    . rw [L0q]; exact JgS hb hmk (by omega)
  refine (hc b 0 cap l w hH hblk (by omega)).mono ?_
  rintro e2 w' ⟨rfl, n, os, rfl⟩
  have hheap : ∀ k, k < w.heap.size -> k ≠ b -> (Go.Sort.grow (Go.Sort.putRow (Value.int .i64) (Go.Sort.ahead w n) b 0 (Jdu l).toArray) os).heap[k]? = w.heap[k]? := fun k hk hne => by
    simp only [Go.Sort.grow, Go.Sort.putRow, Go.Sort.mapBlock, Go.Sort.ahead]
    rw [Array.getElem?_append_left (by simpa using hk), L1v, if_neg (Ne.symm hne)]
  have hnew : (Go.Sort.grow (Go.Sort.putRow (Value.int .i64) (Go.Sort.ahead w n) b 0 (Jdu l).toArray) os).heap[b]? = some (.cells (Go.Sort.putCells (Value.int .i64) 0 (Jdu l).toArray cur) e fr) := by
    simp only [Go.Sort.grow, Go.Sort.putRow, Go.Sort.mapBlock, Go.Sort.ahead]
    rw [Array.getElem?_append_left (by simpa using hblk), L1v, if_pos rfl, hb]; rfl
  have hsize : w.heap.size <= (Go.Sort.grow (Go.Sort.putRow (Value.int .i64) (Go.Sort.ahead w n) b 0 (Jdu l).toArray) os).heap.size := by simp [Go.Sort.grow, Go.Sort.putRow, Go.Sort.mapBlock, Go.Sort.ahead]
  have hcs : (Go.Sort.putCells (Value.int .i64) 0 (Jdu l).toArray cur).size = cur.size := by simp [Go.Sort.putCells]
  have only : ∀ id k, stO [(X, (⟨e, 1, (Jdu l).map fun x => .v (.int .i64 x)⟩ : Blk))] id = some k -> id = X /\ k = ⟨e, 1, (Jdu l).map fun x => .v (.int .i64 x)⟩ := fun id k h => by
    have hX := JbR h
    simpa using hX
  refine ⟨rfl, ⟨rfl, rfl, rfl, hsize, fun k hk hX => hheap k hk fun e => hX ⟨X, e ▸ hρ⟩⟩, ?_, fun b1 hb1 cur1 e1 hc1 => ?_⟩
  . refine ⟨fun id k hk hr => ?_, fun id k b' hk hr h0 => ?_, fun id k b' hk hr h0 => ?_, hinv.inj, fun id b' hr => ?_, hinv.apart, fun b' hI => L0Q (hinv.low b' hI) hsize⟩
    . obtain ⟨rfl, rfl⟩ := only id k hk
      rw [hρ] at hr; cases hr
    . obtain ⟨rfl, rfl⟩ := only id k hk
      cases h0
    . obtain ⟨rfl, rfl⟩ := only id k hk
      rw [hρ] at hr; cases hr
      refine ⟨_, ⟨fr, hnew, by rw [hcs]; exact hmk⟩, fun x hx => by obtain ⟨y, _, rfl⟩ := L06.1 hx; rfl, by simp only [L05, JcH, L0X]; rw [hcs]; exact hsz, fun i x j c hx hc => ?_⟩
      rw [L03] at hx
      cases hn : (Jdu l)[i]? with
      | none => simp [hn] at hx
      | some y =>
        simp [hn] at hx; subst hx
        cases j with
        | succ j => simp at hc
        | zero =>
          simp at hc; subst hc
          have hi : i < (Jdu l).length := (L04.1 hn).1
          have hi2 : i < cur.size := by rw [JcH] at hi; omega
          refine ⟨.int .i64 y, ?_, rfl, .im _ _ (.v _)⟩
          simp only [Go.Sort.putCells, L0X, L0U, Array.getElem?_mapIdx]; rw [L0g hi2]
          have : (Jdu l)[i] = y := (L04.1 hn).2
          simp [hi, this]
    . have : stO [(X, (⟨e, 1, l.map fun x => .v (.int .i64 x)⟩ : Blk))] id ≠ none := hinv.live id b' hr
      intro h
      apply this
      rw [Jd9] at h ⊢
      by_cases hX : X = id
      . rw [if_pos hX] at h; cases h
      . rw [if_neg hX]; rfl
  . rw [hρ] at hb1; cases hb1
    obtain ⟨fr1, h1', h2'⟩ := hc1
    rw [hb] at h1'; cases h1'
    exact ⟨_, ⟨fr, hnew, by rw [hcs]; exact h2'⟩, hcs⟩
theorem Jq8 {S : Sp} {E : Env} {σ : Jac} {K : Env -> Jac -> Prop} {d : Nat} {f : Operand} {args : Array Operand} {ats : Array TypeId} {ty : TypeId} {g : FuncId} (X t : Nat) {es R : List Int} {e : TypeId}
    (hL : LOKs S.P g X e es R) (hfv : ev E f = .clo g []) (has : args.toList.map (ev E) = [.own X 1 0 es.length]) (hat : σ X = some ⟨e, 1, es.map fun x => .v (.int .i64 x)⟩) (hE : E t = .own X 1 0 es.length) (hn : 0 < es.length)
    (hK : K (upd (updO (JaT (own (S.b + d)) (fdE (inI [X]) (movI (inI [X]) (inI [X])) E)) (some d) (imp (16 * (S.b + d)) (.tup [])).1) t (.own X 1 0 es.length))
      (addS (Jaj (own (S.b + d)) (fdS (inI [X]) (movI (inI [X]) (inI [X])) σ (stO [(X, ⟨e, 1, R.map fun x => .v (.int .i64 x)⟩)]))) (imp (16 * (S.b + d)) (.tup [])).2))
    (hX : (!Nat.beq (X / 16) (S.b + d) && Nat.blt t S.N && !Nat.beq d t) = true := by kernel_rfl)
    (hfit : ((some d).all (decide <| · < S.N) && Op.low S.N (.call { callee := .value f, args, argTypes := ats }) && decide (d < 100000)) = true := by kernel_rfl) :
    semD S (some d) (.call { callee := .value f, args, argTypes := ats }) ty K E σ := by
  simp only [L00, decide_eq_true_eq, L0S] at hfit hX
  obtain ⟨⟨hXd, htl⟩, htd⟩ := hX
  have htl : t < S.N := L0u htl
  have htd : d ≠ t := fun e => by rw [e, Nat.beq_refl] at htd; cases htd
  have hXd : X / 16 ≠ S.b + d := fun e => by rw [e, Nat.beq_refl] at hXd; cases hXd
  have hin : ∀ id, inI [X] id = true ↔ id = X := fun id => by simp [inI]
  have hnl : AV.namesL (notI (inI [X])) (es.map fun x => (.v (.int .i64 x) : AV)) = false := Jal _ _ _ fun _ => rfl
  have hnl2 : AV.namesL (notI (inI [X])) (R.map fun x => (.v (.int .i64 x) : AV)) = false := Jal _ _ _ fun _ => rfl
  have honly : only (inI [X]) σ = stO [(X, ⟨e, 1, es.map fun x => .v (.int .i64 x)⟩)] := Je0 (l := [(X, ⟨e, 1, es.map fun x => .v (.int .i64 x)⟩)]) ⟨hat, trivial⟩
  intro pos after guard C H n a w Kc Q ⟨ρ, Im, M, h⟩ hKc
  obtain ⟨⟨hdst, hlow⟩, hdd⟩ := hfit
  have htN : d < S.N := by simpa using hdst
  have rep : ∀ x, x ∈ (Op.call { callee := .value f, args, argTypes := ats }).operands -> Rep w ρ Im (ev E x) (a.eval x) := fun x hx => JbL h.env (by rw [h.size, <- H.N]; exact Jbw hlow hx)
  refine ⟨fun _ _ => trivial, ?_⟩
  rw [Oper.semAt_eq _ _ _ (fun c e => by cases e)]
  have hfr := rep f (by simp [Op.operands, Call.operands])
  rw [hfv] at hfr
  obtain ⟨cys, hfy, hcl', hcr⟩ := hfr.clo_plain rfl
  have hargs : ∀ x ∈ args.toList, Rep w ρ Im (ev E x) (a.eval x) := fun x hx => rep x (by simp [Op.operands, Call.operands]; exact Or.inr (L0t.1 hx))
  have hcy : cys = [] := L0R hcl'.symm
  subst hcy
  have hall : Reps w ρ Im (args.toList.map (ev E)) (args.toList.map a.eval) := by
    refine ⟨by simp, fun j c y hc hy => ?_⟩
    have hj : j < args.toList.length := by
      have := (L04.1 hc).1; simpa using this
    rw [L03] at hc hy; rw [L07 hj] at hc hy
    simp at hc hy; subst hc; subst hy
    exact hargs _ (by simp)
  have hallq : Reps w (killR (notI (inI [X])) ρ) Im [.own X 1 0 es.length] (args.toList.map a.eval) := has ▸ ⟨hall.1, fun j c y hc hy => (hall.2 j c y hc hy).killR fun id hid => by
    cases hp : notI (inI [X]) id with
    | false => rfl
    | true =>
      have := (AV.namesL_iff (notI (inI [X])) _).2 ⟨c, L01 hc, AV.namesB_of _ hid hp⟩
      rw [has] at this; simp [AV.namesL, AV.namesB, notI, inI] at this⟩
  obtain ⟨henter, hfn⟩ := hL
  have hrun : (execOp a.eval { dst := some d, op := .call { callee := .value f, args, argTypes := ats }, type := ty, pos, after, guard }).run S.P w = .ok (.enter g (args.toList.map a.eval).toArray) w := by
    simp only [execOp, resolve, hfy, Deferred.ofValue, Sem.run_bind, Sem.run_pure, Result.andThen_ok, invoke]
    have e1 : (#[] ++ args.map a.eval ++ ([] : List Value).toArray : Array Value) = (args.toList.map a.eval).toArray := by apply L0V.1; simp
    rw [e1]; exact henter _ w
  rw [hrun]
  refine ⟨fun h => by simp [FW] at h, JdS ?_⟩
  refine (hfn w Im (killR (notI (inI [X])) ρ) _ (honly ▸ h.inv.only fun id q hid hqq => by
    obtain rfl := (hin id).1 hqq
    rw [hat] at hid; cases hid; exact hnl) (h.gok H) hallq).mono fun ee w' ⟨he, hx, hi, hsh⟩ => ?_
  subst he
  have hrr : RR w w' (killR (notI (inI [X])) ρ) Im (.tup []) (.tuple #[]) := ⟨[], [], rfl, trivial, by simp [Jee]⟩
  obtain ⟨ρ3, Im3, hw, hρ3⟩ := h.lent (pin := inI [X]) H hx hi (fun _ h => h) (fun _ h => .inl h) (fun _ _ h => .inl h) (fun _ _ => rfl) (fun id q hid => by
    have := JbR hid
    simp only [L0p, Prod.mk.injEq] at this; obtain ⟨rfl, rfl⟩ := this
    exact ⟨(hin _).2 rfl, hnl2⟩) (fun id _ hq' => hq') hdd hrr (L0u rfl) (dst := some d) (fun d' hd' => by cases hd'; rw [<- H.N]; exact htN)
  have htC : d < C.N := by rw [<- H.N]; exact htN
  have hqX : inI [X] X = true := (hin X).2 rfl
  have htC2 : t < C.N := by rw [<- H.N]; exact htl
  have hN : ∀ (E : Env) v, upd E t v C.N = E C.N := fun E v => by unfold upd; rw [if_neg (by omega)]
  obtain ⟨y0, hy0⟩ : ∃ y0, a.tmps[t]? = some y0 := ⟨_, L0g (by rw [h.size]; exact htC2)⟩
  have hr0 := h.env t y0 hy0; rw [hE] at hr0
  refine hKc _ _ _ _ hK ⟨_, _, M, ⟨hw.inv, fun t' y' hy' => ?_, hw.size, hw.ext, hw.rng, hw.im, by rw [hN]; exact hw.gh, by rw [hN]; exact hw.g, hw.js, hw.ms, hw.rd, hw.nodup, hw.df, hw.bk, hw.pin, hw.j0⟩⟩
  unfold upd
  split
  . rename_i ht'; subst ht'
    have hyy : y' = y0 := by
      simp only [Act.put] at hy'; rw [L16 htd] at hy'
      rw [hy0] at hy'; exact (Option.some.inj hy').symm
    subst hyy
    rcases hr0.own0_inv with ⟨_, hz, _⟩ | ⟨b, cap, cur, e', rfl, hb, hnc, hcap, hb0, hsz, hnz⟩
    . omega
    have hb' : killR (notI (inI [X])) ρ X = some b := by rw [Jax ρ (by simp [notI, hqX])]; exact hb
    obtain ⟨cur', hc', hs'⟩ := hsh b hb' cur e' hb0
    have hb3 : ρ3 X = some b := by rw [hρ3 X hXd, if_pos hqX]; exact hb'
    exact .own X 1 _ b cap cur' e' hb3 hnc hcap hc' (by rw [hs']; exact hsz) hnz
  . exact hw.env t' y' hy'
abbrev entS (p : ByteArray × AV) : AV := .tup [.v (.string p.1), p.2]
def idxS (n : ByteArray) : List (ByteArray × AV) -> Option Nat
  | [] => none
  | p :: r => if p.1 = n then some 0 else (idxS n r).map (· + 1)
def JbH (n : ByteArray) : List (ByteArray × AV) -> Option AV
  | [] => none
  | p :: r => if p.1 = n then some p.2 else JbH n r
def JkW (l : List (ByteArray × AV)) (n : ByteArray) (v : AV) : List (ByteArray × AV) := match idxS n l with
  | none => l ++ [(n, v)]
  | some j => l.set j (n, v)
theorem JjI {n : ByteArray} {v : AV} : ∀ {l : List (ByteArray × AV)}, JbH n l = some v -> (n, v) ∈ l
  | p :: r, h => by
    rw [JbH] at h
    split at h
    . rename_i e; cases h; subst e; simp
    . exact L1w _ (JjI h)
def Jqm (ents : List MapEntry) (l : List (ByteArray × AV)) : Prop := ents.length = l.length /\ ∀ (i : Nat) (m : MapEntry) (p : ByteArray × AV), ents[i]? = some m -> l[i]? = some p -> m.key = .string p.1
theorem JeR (n : ByteArray) : ∀ (ents : List MapEntry) (l : List (ByteArray × AV)) (i : Nat), Jqm ents l ->
    (idxS n l = none /\ JbH n l = none /\ Instr.findNow .string (.string n) ents i = some none) \/
    ∃ j p e, idxS n l = some j /\ l[j]? = some p /\ p.1 = n /\ ents[j]? = some e /\ JbH n l = some p.2 /\ Instr.findNow .string (.string n) ents i = some (some (i + j, e.val))
  | [], [], _, _ => .inl ⟨rfl, rfl, rfl⟩
  | [], _ :: _, _, h => by have := h.1; simp at this
  | _ :: _, [], _, h => by have := h.1; simp at this
  | e :: es, p :: l, i, h => by
    have hk := h.2 0 e p rfl rfl
    have ht : Jqm es l := ⟨by simpa using h.1, fun j m q hm hq => h.2 (j + 1) m q (by simpa using hm) (by simpa using hq)⟩
    by_cases hp : p.1 = n
    . refine .inr ⟨0, p, e, by rw [idxS, if_pos hp], rfl, hp, rfl, by rw [JbH, if_pos hp], ?_⟩
      simp [Instr.findNow, Instr.sameNow, hk, hp, (MapKept.bytes_beq n n).2 rfl]
    . have hf : Instr.findNow .string (.string n) (e :: es) i = Instr.findNow .string (.string n) es (i + 1) := by
        have : (n == p.1) = false := Bool.eq_false_iff.2 fun e => hp ((MapKept.bytes_beq n p.1).1 e).symm
        simp [Instr.findNow, Instr.sameNow, hk, this]
      rcases JeR n es l (i + 1) ht with ⟨h1, h2, h3⟩ | ⟨j, q, e', h1, h2, h3, h4, h5, h6⟩
      . exact .inl ⟨by rw [idxS, if_neg hp, h1]; rfl, by rw [JbH, if_neg hp, h2], by rw [hf, h3]⟩
      . exact .inr ⟨j + 1, q, e', by rw [idxS, if_neg hp, h1]; rfl, by simpa using h2, h3, by simpa using h4, by rw [JbH, if_neg hp, h5], by rw [hf, h6]; congr 3; omega⟩
section
variable {w : World} {ρ : Nat -> Option Nat} {Im : Nat -> Prop}
theorem JlC {l : List (ByteArray × AV)} {b : Nat} (h : Jqo w ρ Im (l.map entS) b) : ∃ ents clk, w.heap[b]? = some (.map ents clk) /\ Jqm ents.toList l /\
    (∀ (i : Nat) (m : MapEntry) (p : ByteArray × AV), ents.toList[i]? = some m -> l[i]? = some p -> Rep w ρ Im p.2 m.val) /\ Bn ents clk := by
  obtain ⟨ents, clk, hb, hl, hc⟩ := h
  have key : ∀ (i : Nat) (m : MapEntry) (p : ByteArray × AV), ents.toList[i]? = some m -> l[i]? = some p -> m.key = .string p.1 /\ Rep w ρ Im p.2 m.val := fun i m p hm hp => by
    obtain ⟨v, hv, hr⟩ := hc i m (by rw [<- L0J]; exact hm)
    rw [L03, hp] at hv; simp only [L0K, Option.some.injEq, AV.tup.injEq, List.cons.injEq, AV.v.injEq, and_true] at hv; obtain ⟨h1, h2⟩ := hv
    exact ⟨h1.symm, h2 ▸ hr⟩
  refine ⟨ents, clk, hb, ⟨by simpa using hl.1.symm, fun i m p hm hp => (key i m p hm hp).1⟩, fun i m p hm hp => (key i m p hm hp).2, hl.2⟩
end
theorem Jm2 {S : Sp} {dst : Option Nat} {t ty kt et : TypeId} {x y : Operand} {K : Env -> Jac -> Prop} {E : Env} {σ : Jac} {id e : Nat} {l : List (ByteArray × AV)} {n : ByteArray} {z : Value}
    (hx : ev E x = .mref id) (hy : ev E y = .v (.string n)) (hs : σ id = some ⟨e, 0, l.map entS⟩) (ht : S.P.underlying t = some (.map kt et)) (hk : S.P.underlying kt = some .string) (hz : tz S.P et = some z)
    (hsome : ∀ v, JbH n l = some v -> K (updO E dst (.tup [v, B true])) σ) (hnone : JbH n l = none -> K (updO E dst (.tup [ofC z, B false])) σ)
    (hfit : (dst.all (decide <| · < S.N) && Op.low S.N (.lookup t x y true)) = true := by kernel_rfl) : semD S dst (.lookup t x y true) ty K E σ := by
  intro pos after guard C H nn a w Kc Q ⟨ρ, Im, M, hw⟩ hKc
  simp only [L00] at hfit; obtain ⟨hdst, hlow⟩ := hfit
  have hdst' : ∀ d, dst = some d -> d < C.N := fun d hd => by subst hd; rw [<- H.N]; simpa using hdst
  have rep : ∀ u, u ∈ (Op.lookup t x y true).operands -> Rep w ρ Im (ev E u) (a.eval u) := fun u hu => JbL hw.env (by rw [hw.size, <- H.N]; exact Jbw hlow hu)
  have hrx := rep x (by simp [Op.operands])
  have hry := rep y (by simp [Op.operands])
  rw [hx] at hrx; rw [hy] at hry; obtain ⟨b, hxb, hρ⟩ := hrx.mref_inv; have hyv := hry.v_inv
  obtain ⟨ents, clk, hb, he, hv, hbn⟩ := JlC (hw.inv.map id _ b hs hρ rfl)
  have hck := MapKept.run_checkKey (P := S.P) (w := w) hk (k := .string n) trivial ents.isEmpty 9999
  have run : ∀ r, Instr.findNow .string (.string n) ents.toList 0 = some r -> (execOp a.eval ⟨dst, .lookup t x y true, ty, pos, after, guard⟩).run S.P w = .ok (.value (.tuple (match r with | some (_, v) => #[v, .bool true] | none => #[z, .bool false]))) w := fun r hr => by
    simp only [execOp, hxb, hyv, Instr.lookup, Sem.run_bind, run_underlying ht w, Result.andThen_ok, MapKept.run_getObj_map hb, Sem.run_pure, hck, MapKept.run_findKey hk hr]
    cases r with
    | none => simp [JcF hz w, Sem.run_bind, Result.andThen_ok]
    | some q => simp [Sem.run_bind, Result.andThen_ok]
  rcases JeR n ents.toList l 0 he with ⟨_, h2, h3⟩ | ⟨j, p, m, _, h2, _, h4, h5, h6⟩
  . exact JaQ (fun _ e => by cases e) (run _ h3) (hKc _ _ _ _ (hnone h2) ⟨ρ, Im, M, hw.put H.G hdst' (.tup _ [z, .bool false] rfl fun j c y hc hy => by
      match j with
      | 0 => simp at hc hy; subst hc; subst hy; exact Jev z
      | 1 => simp at hc hy; subst hc; subst hy; exact .im _ _ (.v _))⟩)
  . have hr := hv j m p h4 h2
    exact JaQ (fun _ e => by cases e) (run _ h6) (hKc _ _ _ _ (hsome _ h5) ⟨ρ, Im, M, hw.put H.G hdst' (.tup _ [m.val, .bool true] rfl fun j c y hc hy => by
      match j with
      | 0 => simp at hc hy; subst hc; subst hy; exact hr
      | 1 => simp at hc hy; subst hc; subst hy; exact .im _ _ (.v _))⟩)
theorem JiE {S : Sp} {t ty kt et : TypeId} {x y v : Operand} {K : Env -> Jac -> Prop} {E : Env} {σ : Jac} {id e : Nat} {l : List (ByteArray × AV)} {n : ByteArray}
    (hx : ev E x = .mref id) (hy : ev E y = .v (.string n)) (hs : σ id = some ⟨e, 0, l.map entS⟩) (ht : S.P.underlying t = some (.map kt et)) (hk : S.P.underlying kt = some .string)
    (h : K E (updS σ id ⟨e, 0, (JkW l n (ev E v)).map entS⟩))
    (hlow : Op.low S.N (.mapUpdate t x y v) = true := by kernel_rfl) : semD S none (.mapUpdate t x y v) ty K E σ := by
  intro pos after guard C H nn a w Kc Q ⟨ρ, Im, M, hw⟩ hKc
  have rep : ∀ u, u ∈ (Op.mapUpdate t x y v).operands -> Rep w ρ Im (ev E u) (a.eval u) := fun u hu => JbL hw.env (by rw [hw.size, <- H.N]; exact Jbw hlow hu)
  have hrx := rep x (by simp [Op.operands])
  have hry := rep y (by simp [Op.operands])
  have hrv := rep v (by simp [Op.operands])
  rw [hx] at hrx; rw [hy] at hry; obtain ⟨b, hxb, hρ⟩ := hrx.mref_inv; have hyv := hry.v_inv
  obtain ⟨ents, clk, hb, he, hv, hbn⟩ := JlC (hw.inv.map id _ b hs hρ rfl)
  have hck := MapKept.run_checkKey (P := S.P) (w := w) hk (k := .string n) trivial false 9999
  have hlen := he.1; rw [L0y] at hlen
  rcases JeR n ents.toList l 0 he with ⟨h1, h2, h3⟩ | ⟨j, p, m, h1, h2, h0, h4, h5, h6⟩
  . refine JfL (fun _ e => by cases e) (w' := { w with heap := w.heap.setIfInBounds b (.map (ents.push { key := .string n, val := a.eval v, born := clk }) (clk + 1)) }) ?_ (hKc _ _ _ _ h ⟨ρ, Im, M, ?_⟩)
    . simp [execOp, hxb, hyv, Instr.mapUpdate, Sem.run_bind, run_underlying ht w, Result.andThen_ok, MapKept.run_getObj_map hb, hck, MapKept.run_findKey hk h3, MapKept.run_setObj_map _ hb, Result.andThen]
    . refine (hw.turnMap H.G hs hρ hb rfl ⟨?_, Jti hbn _ _⟩ fun i m hm => ?_)
      . simp only [JkW, h1]; simp; omega
      . simp only [JkW, h1]; rw [Array.getElem?_push] at hm
        split at hm
        . rename_i hi
          cases hm
          refine ⟨ev E v, ?_, hrv⟩
          rw [L03, hi, hlen, L0o (L0a _), L1p]; rfl
        . have hil : i < ents.size := (L0j.1 hm).1
          cases hp : l[i]? with
          | none => rw [L1U] at hp; omega
          | some p =>
            have hm' : ents.toList[i]? = some m := by rw [L0J]; exact hm
            refine ⟨p.2, ?_, hv i m p hm' hp⟩
            rw [L03, L0m (by omega), hp, he.2 i m p hm' hp]; rfl
  . rw [L0q] at h6
    have hkm : m.key = .string n := by rw [he.2 j m p h4 h2, h0]
    have hje : ents[j]? = some m := by rw [<- L0J]; exact h4
    refine JfL (fun _ e => by cases e) (w' := { w with heap := w.heap.setIfInBounds b (.map (ents.modify j fun e => { e with key := .string n, val := a.eval v }) clk) }) ?_ (hKc _ _ _ _ h ⟨ρ, Im, M, ?_⟩)
    . have hst := MapKept.run_keyThatStays (P := S.P) (w := w) (d := .string) (k := .string n) trivial
      simp [execOp, hxb, hyv, Instr.mapUpdate, Sem.run_bind, run_underlying ht w, Result.andThen_ok, MapKept.run_getObj_map hb, hck, MapKept.run_findKey hk h6, hje, hkm, hst, MapKept.run_setObj_map _ hb, Result.andThen]
    . refine (hw.turnMap H.G hs hρ hb rfl ⟨?_, JnX hbn j _ _⟩ fun i q hm => ?_)
      . simp only [JkW, h1]; simp; omega
      . simp only [JkW, h1]; rw [L1v] at hm
        have hjl : j < l.length := (L04.1 h2).1
        split at hm
        . rename_i e; subst e; rw [hje] at hm
          cases hm
          exact ⟨ev E v, by rw [L03, List.getElem?_set_self hjl]; rfl, hrv⟩
        . rename_i hne
          have hil : i < ents.size := (L0j.1 hm).1
          cases hp : l[i]? with
          | none => rw [L1U] at hp; omega
          | some p =>
            have hm' : ents.toList[i]? = some q := by rw [L0J]; exact hm
            refine ⟨p.2, ?_, hv i q p hm' hp⟩
            rw [L03, List.getElem?_set_ne hne, hp, he.2 i q p hm' hp]; rfl
theorem IRep.mp_inv {w : World} {Im : Nat -> Prop} {es : List AV} {y : Value} (h : IRep w Im (.mp es) y) : (es = [] /\ y = .map none) \/
    ∃ (b : Nat) (ents : Array MapEntry) (clk : Nat) (f : Nat -> AV), y = .map (some b) /\ w.heap[b]? = some (.map ents clk) /\ es.length = ents.size /\ (∀ (i : Nat) (m : MapEntry), ents[i]? = some m -> es[i]? = some (.tup [.v m.key, f i])) /\ ∀ (i : Nat) (m : MapEntry), ents[i]? = some m -> IRep w Im (f i) m.val := by
  cases h with
  | mpnil => exact .inl ⟨rfl, rfl⟩
  | mp _ b ents clk f hIm hb hl hes h => exact .inr ⟨b, ents, clk, f, rfl, hb, hl.1, hes, h⟩
theorem Jm1 {S : Sp} {dst : Option Nat} {t ty kt et : TypeId} {x y : Operand} {K : Env -> Jac -> Prop} {E : Env} {σ : Jac} {l : List (ByteArray × AV)} {n : ByteArray} {z : Value}
    (hx : ev E x = .mp (l.map entS)) (hy : ev E y = .v (.string n)) (ht : S.P.underlying t = some (.map kt et)) (hk : S.P.underlying kt = some .string) (hz : tz S.P et = some z)
    (hsome : ∀ v, JbH n l = some v -> K (updO E dst (.tup [v, B true])) σ) (hnone : JbH n l = none -> K (updO E dst (.tup [ofC z, B false])) σ)
    (hfit : (dst.all (decide <| · < S.N) && Op.low S.N (.lookup t x y true)) = true := by kernel_rfl) : semD S dst (.lookup t x y true) ty K E σ := by
  intro pos after guard C H nn a w Kc Q ⟨ρ, Im, M, hw⟩ hKc
  simp only [L00] at hfit; obtain ⟨hdst, hlow⟩ := hfit
  have hdst' : ∀ d, dst = some d -> d < C.N := fun d hd => by subst hd; rw [<- H.N]; simpa using hdst
  have rep : ∀ u, u ∈ (Op.lookup t x y true).operands -> Rep w ρ Im (ev E u) (a.eval u) := fun u hu => JbL hw.env (by rw [hw.size, <- H.N]; exact Jbw hlow hu)
  have hrx := rep x (by simp [Op.operands])
  have hry := rep y (by simp [Op.operands])
  rw [hx] at hrx; rw [hy] at hry; have hyv := hry.v_inv
  have hput : ∀ {v : AV} {yv : Value}, Rep w ρ Im v yv -> ∀ b : Bool, Rep w ρ Im (.tup [v, B b]) (.tuple #[yv, .bool b]) := fun {v yv} hv b => .tup _ [yv, .bool b] rfl fun j c q hc hq => by
    match j with
    | 0 => simp at hc hq; subst hc; subst hq; exact hv
    | 1 => simp at hc hq; subst hc; subst hq; exact .im _ _ (.v _)
  cases hrx with
  | im _ _ hi =>
    rcases hi.mp_inv with ⟨hes, hi'⟩ | ⟨b, ents, clk, f, hi', hb, hl, hes', h⟩
    . have hl : l = [] := by simpa using hes
      subst hl
      have hck := MapKept.run_checkKey (P := S.P) (w := w) hk (k := .string n) trivial true 9999
      have hfk := MapKept.run_findKey (P := S.P) (w := w) hk (k := .string n) (l := []) (a := none) rfl
      have run : (execOp a.eval ⟨dst, .lookup t x y true, ty, pos, after, guard⟩).run S.P w = .ok (.value (.tuple #[z, .bool false])) w := by
        simp only [execOp, hi', hyv, Instr.lookup, Sem.run_bind, run_underlying ht w, Result.andThen_ok, Sem.run_pure, Array.isEmpty_empty, hck, hfk]
        simp [JcF hz w, Sem.run_bind, Result.andThen_ok]
      exact JaQ (fun _ e => by cases e) run (hKc _ _ _ _ (hnone rfl) ⟨ρ, Im, M, hw.put H.G hdst' (hput (Jev z) false)⟩)
    . have he : Jqm ents.toList l := ⟨by simpa using hl.symm, fun i m p hm hp => by
        have h1 := hes' i m (by rw [<- L0J]; exact hm)
        rw [L03, hp] at h1; simp only [L0K, Option.some.injEq, AV.tup.injEq, List.cons.injEq, AV.v.injEq, and_true] at h1
        exact h1.1.symm⟩
      have hv : ∀ (i : Nat) (m : MapEntry) (p : ByteArray × AV), ents.toList[i]? = some m -> l[i]? = some p -> Rep w ρ Im p.2 m.val := fun i m p hm hp => by
        have hm' : ents[i]? = some m := by rw [<- L0J]; exact hm
        have h1 := hes' i m hm'; rw [L03, hp] at h1; simp only [L0K, Option.some.injEq, AV.tup.injEq, List.cons.injEq, AV.v.injEq, and_true] at h1
        rw [h1.2]; exact .im _ _ (h i m hm')
      have hck := MapKept.run_checkKey (P := S.P) (w := w) hk (k := .string n) trivial ents.isEmpty 9999
      have run : ∀ r, Instr.findNow .string (.string n) ents.toList 0 = some r -> (execOp a.eval ⟨dst, .lookup t x y true, ty, pos, after, guard⟩).run S.P w = .ok (.value (.tuple (match r with | some (_, v) => #[v, .bool true] | none => #[z, .bool false]))) w := fun r hr => by
        simp only [execOp, hi', hyv, Instr.lookup, Sem.run_bind, run_underlying ht w, Result.andThen_ok, MapKept.run_getObj_map hb, Sem.run_pure, hck, MapKept.run_findKey hk hr]
        cases r with
        | none => simp [JcF hz w, Sem.run_bind, Result.andThen_ok]
        | some q => simp [Sem.run_bind, Result.andThen_ok]
      rcases JeR n ents.toList l 0 he with ⟨_, h2, h3⟩ | ⟨j, p, m, _, h2, _, h4, h5, h6⟩
      . exact JaQ (fun _ e => by cases e) (run _ h3) (hKc _ _ _ _ (hnone h2) ⟨ρ, Im, M, hw.put H.G hdst' (hput (Jev z) false)⟩)
      . exact JaQ (fun _ e => by cases e) (run _ h6) (hKc _ _ _ _ (hsome _ h5) ⟨ρ, Im, M, hw.put H.G hdst' (hput (hv j m p h4 h2) true)⟩)
theorem JiD {S : Sp} {E : Env} {σ : Jac} {K : Env -> Jac -> Prop} {dst : Option Nat} {f : Operand} {args : Array Operand} {ats : Array TypeId} {ty : TypeId} {g : FuncId} {xs bs : List AV} (pins : List Nat) {l l' : List (Nat × Blk)} {r : AV}
    (hL : LOK S.P g (inI pins) (bs ++ xs) (stO l) r (stO l')) (hfv : ev E f = .clo g (.v (.tuple #[]) :: bs)) (has : args.toList.map (ev E) = xs) (hat : atL σ l)
    (hq : AV.namesL (notI (inI (l.map (·.1)))) (bs ++ xs) = false) (hc : Jck (inI (l.map (·.1))) l = true) (hc' : Jck (inI (l.map (·.1))) l' = true)
    (hK : K (updO (JaT (own (S.b + dst.getD 99999)) (fdE (inI (l.map (·.1))) (movI (inI (l.map (·.1))) (inI pins)) E)) dst (imp (16 * (S.b + dst.getD 99999)) r).1)
      (addS (Jaj (own (S.b + dst.getD 99999)) (fdS (inI (l.map (·.1))) (movI (inI (l.map (·.1))) (inI pins)) σ (stO l'))) (imp (16 * (S.b + dst.getD 99999)) r).2))
    (hids : l.map (·.1) = l'.map (·.1) := by rfl) (hsp : ∀ id, id ∈ l.map (·.1) -> S.pin id = true -> inI pins id = true := by intro id hid hp; first | (cases hp; done) | (simp_all [inI, spL, spR]; done))
    (hfit : (dst.all (decide <| · < S.N) && Op.low S.N (.call { callee := .value f, args, argTypes := ats }) && decide (dst.getD 99999 < 100000)) = true := by kernel_rfl) (hlen : rlen r <= 16 := by exact L0u rfl) :
    semD S dst (.call { callee := .value f, args, argTypes := ats }) ty K E σ := by
  simp only [L00, decide_eq_true_eq] at hfit
  have hclosed : ∀ {m : List (Nat × Blk)}, Jck (inI (l.map (·.1))) m = true -> ∀ id k, stO m id = some k -> AV.namesL (notI (inI (l.map (·.1)))) k.es = false := fun {m} hc id k hk => by
    simp only [Jck, L0b] at hc
    simpa using hc (id, k) (JbR hk)
  refine JhM hfv (bs ++ xs) (.inr ⟨bs, rfl, by rw [has]⟩) (inI (l.map (·.1))) (inI pins) (by rw [Je0 hat]; exact hL) hq (fun id k hk hq => ?_) (fun id k hk => ⟨?_, hclosed hc' id k hk⟩) (fun id h1 h2 => hsp id (JoM h2) h1) (by simp [hfit.1]) hlen hfit.2 hK
  . cases hs : stO l id with
    | none => exact absurd (L0G.1 hq) (Jea.1 hs)
    | some b =>
      have := Jlv hat hs
      rw [hk] at this; cases this
      exact hclosed hc id k hs
  . rw [hids]; exact L0G.2 (L06.2 ⟨_, JbR hk, rfl⟩)
theorem Jq9 {S : Sp} {E : Env} {σ : Jac} {K : Env -> Jac -> Prop} {dst : Option Nat} {f : Operand} {args : Array Operand} {ats : Array TypeId} {ty : TypeId} {g : FuncId} {xs caps : List AV} (X t : Nat) {es R : List ByteArray} {e : TypeId}
    (hL : LOK S.P g (inI [X]) (xs ++ caps) (stO [(X, ⟨e, 1, es.map fun x => .v (.string x)⟩)]) (.tup []) (stO [(X, ⟨e, 1, R.map fun x => .v (.string x)⟩)])) (hfv : ev E f = .clo g caps) (has : args.toList.map (ev E) = xs) (hat : σ X = some ⟨e, 1, es.map fun x => .v (.string x)⟩)
    (hE : E t = .own X 1 0 R.length) (hn : 0 < R.length) (hq : AV.namesL (notI (inI [X])) (xs ++ caps) = false)
    (hK : K (upd (frE (inI [X]) (addS (Jaj (own (S.b + dst.getD 99999)) (fdS (inI [X]) (movI (inI [X]) (inI [X])) σ (stO [(X, ⟨e, 1, R.map fun x => .v (.string x)⟩)]))) (imp (16 * (S.b + dst.getD 99999)) (.tup [])).2) (updO (JaT (own (S.b + dst.getD 99999)) (fdE (inI [X]) (movI (inI [X]) (inI [X])) E)) dst (imp (16 * (S.b + dst.getD 99999)) (.tup [])).1)) t (.sl 1 (R.map fun x => .v (.string x))))
      (frS (inI [X]) (addS (Jaj (own (S.b + dst.getD 99999)) (fdS (inI [X]) (movI (inI [X]) (inI [X])) σ (stO [(X, ⟨e, 1, R.map fun x => .v (.string x)⟩)]))) (imp (16 * (S.b + dst.getD 99999)) (.tup [])).2)))
    (hhd : JaH caps = true := by rfl) (hX : (!S.pin X && !S.old X && !Nat.beq (X / 16) (S.b + dst.getD 99999) && Nat.blt t S.N && dst.all fun d => !Nat.beq d t) = true := by kernel_rfl)
    (hfit : (dst.all (decide <| · < S.N) && Op.low S.N (.call { callee := .value f, args, argTypes := ats }) && decide (dst.getD 99999 < 100000)) = true := by kernel_rfl) :
    semD S dst (.call { callee := .value f, args, argTypes := ats }) ty K E σ := by
  simp only [L00, decide_eq_true_eq, L0S] at hfit hX
  obtain ⟨⟨⟨⟨hXp, hXo⟩, hXd⟩, htN⟩, htd⟩ := hX
  have htN : t < S.N := L0u htN
  have hXd : X / 16 ≠ S.b + dst.getD 99999 := fun e => by rw [e, Nat.beq_refl] at hXd; cases hXd
  have hin : ∀ id, inI [X] id = true ↔ id = X := fun id => by simp [inI]
  have hnl : AV.namesL (notI (inI [X])) (es.map fun x => (.v (.string x) : AV)) = false := Jal _ _ _ fun _ => rfl
  have hnl2 : AV.namesL (notI (inI [X])) (R.map fun x => (.v (.string x) : AV)) = false := Jal _ _ _ fun _ => rfl
  have honly : only (inI [X]) σ = stO [(X, ⟨e, 1, es.map fun x => .v (.string x)⟩)] := Je0 (l := [(X, ⟨e, 1, es.map fun x => .v (.string x)⟩)]) ⟨hat, trivial⟩
  subst has; rw [<- honly] at hL
  intro pos after guard C H n a w Kc Q ⟨ρ, Im, M, h⟩ hKc
  obtain ⟨⟨hdst, hlow⟩, hdd⟩ := hfit
  have hdst : ∀ d, dst = some d -> d < S.N := fun d hd => by subst hd; simpa using hdst
  have rep : ∀ x, x ∈ (Op.call { callee := .value f, args, argTypes := ats }).operands -> Rep w ρ Im (ev E x) (a.eval x) := fun x hx => JbL h.env (by rw [h.size, <- H.N]; exact Jbw hlow hx)
  refine ⟨fun _ _ => trivial, ?_⟩
  rw [Oper.semAt_eq _ _ _ (fun c e => by cases e)]
  have hfr := rep f (by simp [Op.operands, Call.operands])
  rw [hfv] at hfr
  obtain ⟨cys, hfy, hcl', hcr⟩ := hfr.clo_plain hhd
  have hargs : ∀ x ∈ args.toList, Rep w ρ Im (ev E x) (a.eval x) := fun x hx => rep x (by simp [Op.operands, Call.operands]; exact Or.inr (L0t.1 hx))
  have hall : Reps w ρ Im (args.toList.map (ev E) ++ caps) (args.toList.map a.eval ++ cys) := by
    refine ⟨by simp [hcl'], fun j c y hc hy => ?_⟩
    by_cases hj : j < args.toList.length
    . rw [L0m (by simpa using hj), L03] at hc hy
      rw [L07 hj] at hc hy
      simp at hc hy; subst hc; subst hy
      exact hargs _ (by simp)
    . rw [L0o (by simp at hj ⊢; omega)] at hc hy
      simp only [L05] at hc hy
      exact hcr _ c y hc hy
  have hallq : Reps w (killR (notI (inI [X])) ρ) Im (args.toList.map (ev E) ++ caps) (args.toList.map a.eval ++ cys) := ⟨hall.1, fun j c y hc hy => (hall.2 j c y hc hy).killR fun id hid => by
    cases hp : notI (inI [X]) id with
    | false => rfl
    | true =>
      have := (AV.namesL_iff (notI (inI [X])) _).2 ⟨c, L01 hc, AV.namesB_of _ hid hp⟩
      rw [hq] at this; cases this⟩
  obtain ⟨henter, hfn⟩ := hL
  have hrun : (execOp a.eval { dst, op := .call { callee := .value f, args, argTypes := ats }, type := ty, pos, after, guard }).run S.P w = .ok (.enter g (args.toList.map a.eval ++ cys).toArray) w := by
    simp only [execOp, resolve, hfy, Deferred.ofValue, Sem.run_bind, Sem.run_pure, Result.andThen_ok, invoke]
    have e1 : (#[] ++ args.map a.eval ++ cys.toArray : Array Value) = (args.toList.map a.eval ++ cys).toArray := by apply L0V.1; simp
    rw [e1]; exact henter _ w
  rw [hrun]
  refine ⟨fun h => by simp [FW] at h, JdS ?_⟩
  refine (hfn w Im (killR (notI (inI [X])) ρ) _ (h.inv.only fun id q hid hqq => by
    obtain rfl := (hin id).1 hqq
    rw [hat] at hid; cases hid; exact hnl) (h.gok H) hallq).mono fun ee w' ⟨y, ρ', Im', he, hx, hi, hI1, hI2, hρ, hpin, hrr⟩ => ?_
  subst he
  obtain ⟨ρ3, Im3, hw, hρ3⟩ := h.lent (pin := inI [X]) H hx hi hI1 hI2 hρ hpin (fun id q hid => by
    have := JbR hid
    simp only [L0p, Prod.mk.injEq] at this; obtain ⟨rfl, rfl⟩ := this
    exact ⟨(hin _).2 rfl, hnl2⟩) (fun id _ hq' => hq') hdd hrr (L0u rfl) (dst := dst) (by rw [<- H.N]; exact hdst)
  -- the slice's value
  have htC : t < C.N := by rw [<- H.N]; exact htN
  obtain ⟨y0, hy0⟩ : ∃ y0, a.tmps[t]? = some y0 := ⟨_, L0g (by rw [h.size]; exact htC)⟩
  have hr0 := h.env t y0 hy0; rw [hE] at hr0
  have hy : ∃ b cap, y0 = .slice (some ⟨b, 0, none⟩) R.length cap /\ ρ X = some b /\ R.length <= cap := by
    generalize R.length = m at hr0 hn; generalize hav : AV.own X 1 0 m = av at hr0
    cases hr0 with
    | im _ _ hh => subst hav; cases hh
    | ownNil => cases hav; omega
    | own id sz n b cap cur e' hr hn' => cases hav; exact ⟨b, cap, rfl, hr, hn'⟩
    | ownAt id sz i n b cap a' hi' => cases hav; omega
    | _ => cases hav
  obtain ⟨b, cap, rfl, hb, hcap⟩ := hy
  have hqX : inI [X] X = true := (hin X).2 rfl
  have hb' : ρ' X = some b := by rw [hpin X hqX, Jax ρ (by simp [notI, hqX])]; exact hb
  have hb3 : ρ3 X = some b := by rw [hρ3 X hXd, if_pos hqX]; exact hb'
  have hf := hw.freeze H (inI [X]) (fun id hid => by
    cases hh : inI [X] id with
    | false => rfl
    | true => obtain rfl := (hin id).1 hh; rw [hid] at hXp; cases hXp) (fun id hid => by
    cases hh : inI [X] id with
    | false => rfl
    | true => obtain rfl := (hin id).1 hh; rw [hid] at hXo; cases hXo)
  have hN : ∀ (E : Env) v, upd E t v C.N = E C.N := fun E v => by unfold upd; rw [if_neg (by omega)]
  refine hKc _ _ _ _ hK ⟨_, _, M, ⟨hf.inv, fun t' y' hy' => ?_, hf.size, hf.ext, hf.rng, hf.im, by rw [hN]; exact hf.gh, by rw [hN]; exact hf.g, hf.js, hf.ms, hf.rd, hf.nodup, hf.df, hf.bk, hf.pin, hf.j0⟩⟩
  unfold upd
  split
  . rename_i ht'; subst ht'
    have hyy : y' = .slice (some ⟨b, 0, none⟩) R.length cap := by
      cases dst with
      | none => simp [Act.put] at hy'; rw [hy0] at hy'; exact (Option.some.inj hy').symm
      | some d =>
        have hdt : d ≠ t' := fun e => by subst e; simp at htd
        simp only [Act.put] at hy'; rw [L16 hdt] at hy'
        rw [hy0] at hy'; exact (Option.some.inj hy').symm
    subst hyy
    obtain ⟨cur, ⟨fr, hc1, _⟩, hc2, hc3, hc4⟩ := hi.blk X ⟨e, 1, R.map fun x => .v (.string x)⟩ b (by simp [stO]) hb' L1G
    have hlen : R.length = (R.map fun x => (.v (.string x) : AV)).length := by simp
    have hcell : ∀ i, i < R.length -> cur[i]? = some (.string (R[i]?.getD ⟨#[]⟩)) := fun i hi' => by
      obtain ⟨x, g1, g2, g3⟩ := hc4 i (.v (.string R[i])) 0 (.v (.string R[i])) (by simp [hi']) rfl
      have := g3.v_inv
      subst this
      simpa [hi'] using g1
    rw [hlen]
    refine .im _ _ (.sl 1 _ b 0 cap (fun i _ => .string (R[i]?.getD ⟨#[]⟩)) ?_ (by simpa using hcap) (fun e' he' => ?_) (fun i j hi' hj => ?_) (fun i e' j c he' hc' => ?_))
    . exact .inr ⟨X, by rw [Jax ρ3 (by simp [notI, hqX])]; exact hb3⟩
    . obtain ⟨x, _, rfl⟩ := L06.1 he'; rfl
    . obtain rfl : j = 0 := by omega
      have hi' : i < R.length := by simpa using hi'
      exact ⟨by simp [World.cell?, hc1, hcell i hi'], rfl⟩
    . rw [L03] at he'
      cases hh : R[i]? with
      | none => simp [hh] at he'
      | some x =>
        simp [hh] at he'; subst he'
        cases j with
        | zero => simp at hc'; subst hc'; simp; exact .v _
        | succ j => simp at hc'
  . exact hf.env t' y' hy'
section
variable {P : Program} {S : Sp} {C : Fx} {E E' : Env} {σ σ' : Jac} {a : Act} {w : World} {ρ : Nat -> Option Nat} {Im : Nat -> Prop} {M : Str} {ops : Array Oper}
def Jfn (P : Program) (o : Oper) : Bool := o.guard.isNone && cls P o.op o.type == 0 && match o.op with
  | .extract _ _ => true
  | .move _ => true
  | .assign _ => true
  | _ => false
def stoO (o : Oper) : Bool := o.guard.isNone && o.dst.isNone && match o.op with
  | .store _ _ _ => true
  | _ => false
def Jc9 (P : Program) (ops : Array Oper) : Bool :=
  (List.range ops.size).all fun i => match ops[i]? with
    | none => false
    | some oi => oi.after.all (fun e => !Region.binds .any e || decide (e.on < i)) && (match oi.guard with | some (g, _) => decide (g < i) | none => true) &&
      ((List.range ops.size).all fun j => decide (j <= i) || match ops[j]? with
        | none => false
        | some oj => (waits ops ops.size j i || (oi.apart ops oj && (decide (cls P oi.op oi.type <= 2) && decide (cls P oj.op oj.type <= 2) || Jfn P oi && stoO oj || stoO oi && Jfn P oj))) &&
            (!isNm P oi || !isNm P oj || (oi.dst.getD 99999 != oj.dst.getD 99999)))
theorem Jit {o : Oper} (h : Jfn P o = true) : cls P o.op o.type = 0 := by
  simp only [Jfn, L00, beq_iff_eq] at h; exact h.1.2
theorem JmS {o : Oper} (h : Jfn P o = true) : o.guard = none := by
  simp only [Jfn, L00, Option.isNone_iff_eq_none] at h; exact h.1.1
theorem Jf9 {o : Oper} (h : Jfn S.P o = true) {v : AV} {bl : List (Nat × Blk)} : gval S ops o E σ v bl ↔ JaB S.P o.op E σ v /\ bl = [] := by
  unfold gval val; rw [JmS h, Jit h]; exact Iff.rfl
theorem Jjt {o : Oper} (h : Jfn P o = true) {v : AV} (hv : JaB P o.op E σ v) : JaB P o.op E σ' v := by
  simp only [Jfn, L00] at h; obtain ⟨dst, op, ty, pos, after, guard⟩ := o
  simp only at *
  cases op <;> first | (exact hv) | (simp at h)
def stoR (P : Program) (op : Op) (E : Env) (σ : Jac) (id : Nat) (k' : Blk) : Prop := Jem P op E σ fun a b => a = id /\ b = k'
theorem JuJ {op : Op} {K : Nat -> Blk -> Prop} : Jem P op E σ K ↔ ∃ id k', stoR P op E σ id k' /\ K id k' := by
  unfold stoR Jem
  constructor
  . intro h
    split at h
    . split at h
      . rename_i id sz i j hx; obtain ⟨k, h1, h2, e, h3, h4, h5, h6, h7, h8⟩ := h
        refine ⟨_, _, ?_, h8⟩
        simp only [hx]
        exact ⟨k, h1, h2, e, h3, h4, h5, h6, h7, trivial, rfl⟩
      . exact h.elim
    . exact h.elim
  . rintro ⟨id, k', h, hk⟩
    split at h
    . split at h
      . obtain ⟨k, h1, h2, e, h3, h4, h5, h6, h7, rfl, rfl⟩ := h
        exact ⟨k, h1, h2, e, h3, h4, h5, h6, h7, hk⟩
      . exact h.elim
    . exact h.elim
theorem Jh9 {op : Op} (hx : ∀ x ∈ op.operands, ev E x = ev E' x) {id : Nat} {k' : Blk} (h : stoR P op E σ id k') : stoR P op E' σ id k' := by
  unfold stoR Jem at *
  split at h
  . rename_i t x y
    simp only
    rw [<- hx x (by simp [Op.operands]), <- hx y (by simp [Op.operands])]
    exact h
  . exact h.elim
theorem JuD {e v : AV} {j d : Nat} (h : DN (setC e j v) d) : DN e d \/ DN v d := by
  unfold setC at h
  split at h
  . exact .inr h
  . cases h with
    | agg _ c _ hc hn =>
      rcases L0v.1 hc with hc | hc
      . rcases L0v.1 hc with hc | hc
        . exact .inl (hn.cells (L0D hc))
        . exact .inr (hn.cells hc)
      . exact .inl (hn.cells (L15 hc))
theorem JuI {op : Op} {N nm : Nat} (hlow : ∀ x ∈ op.operands, Operand.low N x = true) (hdc : DC N nm E σ) {id : Nat} {k' : Blk} (h : stoR P op E σ id k') : DC N nm E (updS σ id k') := by
  intro d hd
  obtain ⟨⟨c1, c2, c3⟩, c4, c5⟩ := hdc d hd
  have hval : ∀ e ∈ k'.es, ¬ DN e d := by
    unfold stoR Jem at h
    split at h
    . rename_i t x y
      split at h
      . obtain ⟨k, h1, h2, e, h3, h4, h5, h6, h7, rfl, rfl⟩ := h
        intro q hq hn
        rcases L1Z hq with hq | rfl
        . exact c5 _ _ h1 q hq hn
        . rcases JuD hn with hn | hn
          . exact c5 _ _ h1 e (L01 h3) hn
          . exact JtF (hlow y (by simp [Op.operands])) c4 hn
      . exact h.elim
    . exact h.elim
  have hid : id ≠ d := by
    unfold stoR Jem at h
    split at h
    . split at h
      . obtain ⟨k, h1, h2, e, h3, h4, h5, h6, h7, rfl, rfl⟩ := h
        intro e; rw [e, c1] at h1; cases h1
      . exact h.elim
    . exact h.elim
  refine ⟨⟨?_, c2, fun q k hk e he hn => ?_⟩, c4, fun q k hk e he => ?_⟩
  . rw [Jav _ _ _ _ (Ne.symm hid)]; exact c1
  . by_cases hq : q = id
    . subst hq; rw [Jkj] at hk; cases hk; exact hval e he (DN.of hn)
    . rw [Jav _ _ _ _ hq] at hk; exact c3 q k hk e he hn
  . by_cases hq : q = id
    . subst hq; rw [Jkj] at hk; cases hk; exact hval e he
    . rw [Jav _ _ _ _ hq] at hk; exact c5 q k hk e he
theorem Ja9.sto {o : Oper} (hf : Oper.fits S.P S.N o = true) {l : List Nat} (h : Ja9 S ops l E σ) {id : Nat} {k' : Blk} (hs : stoR S.P o.op E σ id k') : Ja9 S ops l E (updS σ id k') := fun k hk o' ho hnm =>
  JuI (fun x hx => Jbw (Jda hf).2.1 hx) (h k hk o' ho hnm) hs
theorem JiW {bi : Bool} {o : Oper} {K Kb : Env -> Jac -> Prop} (h : stoO o = true) : gop S false bi ops o K Kb E σ ↔ ∃ id k', stoR S.P o.op E σ id k' /\ Kb E (updS σ id k') := by
  simp only [stoO, L00, Option.isNone_iff_eq_none] at h; obtain ⟨dst, op, ty, pos, after, guard⟩ := o
  simp only at *
  obtain ⟨⟨rfl, rfl⟩, h⟩ := h
  cases op with
  | store t x y =>
    rw [<- JuJ]; exact Iff.rfl
  | _ => simp at h
theorem JjJ (p : Nat -> Bool) : ∀ (n : Nat) (a : AV), SizeOf.sizeOf a < n -> AV.namesB p a = true -> ∃ id, Names a id /\ p id = true := by
  intro n
  induction n with
  | zero => intro a h; omega
  | succ n ih =>
    intro a hs hn
    have lst : ∀ cs : List AV, (∀ c ∈ cs, SizeOf.sizeOf c < n) -> AV.namesL p cs = true -> ∃ c ∈ cs, ∃ id, Names c id /\ p id = true := fun cs hcs hl => by
      obtain ⟨c, hc, hcn⟩ := (AV.namesL_iff p cs).1 hl
      exact ⟨c, hc, ih c (hcs c hc) hcn⟩
    cases a with
    | own i s o m => exact ⟨i, .own .., hn⟩
    | ptr i s o m => exact ⟨i, .ptr .., hn⟩
    | mref i => exact ⟨i, .mref .., hn⟩
    | agg cs =>
      obtain ⟨c, hc, id, hid, hp⟩ := lst cs (fun c hc => by have := L1f hc; simp at hs; omega) hn
      exact ⟨id, .agg cs c id hc hid, hp⟩
    | tup cs =>
      obtain ⟨c, hc, id, hid, hp⟩ := lst cs (fun c hc => by have := L1f hc; simp at hs; omega) hn
      exact ⟨id, .tup cs c id hc hid, hp⟩
    | clo g cs =>
      obtain ⟨c, hc, id, hid, hp⟩ := lst cs (fun c hc => by have := L1f hc; simp at hs; omega) hn
      exact ⟨id, .clo g cs c id hc hid, hp⟩
    | _ => simp [AV.namesB] at hn
theorem Jt5 {p : Nat -> Bool} (h : ∀ d, p d = true -> Jbd d E σ) : JaT p E = E /\ Jaj p σ = σ := by
  refine ⟨funext fun t => ?_, funext fun t => ?_⟩
  . refine Jcp ?_
    cases hn : AV.namesB p (E t) with
    | false => rfl
    | true =>
      obtain ⟨id, h1, h2⟩ := JjJ p _ _ (L28 _) hn
      exact absurd h1 ((h id h2).2.1 t)
  . simp only [Jaj]
    split
    . rename_i hp; exact ((h t hp).1).symm
    . cases hk : σ t with
      | none => rfl
      | some k =>
        simp only [L0K, Blk.kill]; rw [if_neg]
        intro hn
        obtain ⟨c, hc, hcn⟩ := (AV.namesL_iff p k.es).1 hn
        obtain ⟨id, h1, h2⟩ := JjJ p _ _ (L28 _) hcn
        exact (h id h2).2.2 t k hk c hc h1
theorem Jfe {l : List Nat} {K : Env -> Jac -> Prop} (h : Ja9 S ops l E σ) : struck S true (Jex ops l) K E σ = K E σ := by
  have := Jt5 (p := regP S (Jex ops l)) (E := E) (σ := σ) fun d hd => by
    obtain ⟨o, ho, hnm, e⟩ := JiQ.1 hd
    obtain ⟨k, hk, hok⟩ := L1C.1 ho
    exact (h k hk o hok hnm d e).1
  simp only [struck, if_true]; rw [this.1, this.2]
theorem JcQ {P : Program} (hd : Jc9 P ops = true) {i : Nat} {oi : Oper} (hi : ops[i]? = some oi) :
    (∀ e ∈ oi.after, Region.binds .any e = true -> e.on < i) /\ (∀ j oj, i < j -> ops[j]? = some oj -> (waits ops ops.size j i = true \/ (oi.apart ops oj = true /\ (cls P oi.op oi.type <= 2 /\ cls P oj.op oj.type <= 2 \/ Jfn P oi = true /\ stoO oj = true \/ stoO oi = true /\ Jfn P oj = true))) /\
      (isNm P oi = true -> isNm P oj = true -> oi.dst.getD 99999 ≠ oj.dst.getD 99999)) := by
  have hlt : i < ops.size := (L0j.1 hi).1
  have h := L0b.1 hd i (L0P.2 hlt); simp only [hi, L00, Array.all_eq_true_iff_forall_mem] at h
  obtain ⟨⟨h1, _⟩, h2⟩ := h
  refine ⟨fun e he hb => ?_, fun j oj hij hj => ?_⟩
  . have := h1 e he; simpa [hb] using this
  . have hjlt : j < ops.size := (L0j.1 hj).1
    have := L0b.1 h2 j (L0P.2 hjlt)
    simp only [hj, L0x, decide_eq_true_eq, L00, L0S, bne_iff_ne, ne_eq] at this
    rcases this with this | ⟨h3, h4⟩
    . omega
    . refine ⟨h3.imp_right fun h => ⟨h.1, by rcases h.2 with (h | h) | h; exact .inl h; exact .inr (.inl h); exact .inr (.inr h)⟩, fun ha hb => ?_⟩
      rcases h4 with (h4 | h4) | h4
      . rw [ha] at h4; cases h4
      . rw [hb] at h4; cases h4
      . exact h4
theorem Jkk {P : Program} (hd : Jc9 P ops = true) : ∀ (n j i : Nat), waits ops n j i = true -> i < j
  | 0, _, _, h => by simp [waits] at h
  | n + 1, j, i, h => by
    simp only [waits] at h
    split at h
    . rename_i o ho
      obtain ⟨e, he, hb⟩ := Jkp h
      simp only [L00, L0x, beq_iff_eq] at hb; have h1 := (JcQ hd ho).1 e he hb.1
      rcases hb.2 with hb | hb
      . omega
      . have := Jkk hd n e.on i hb; omega
    . cases h
theorem Jmz {P : Program} (hd : Jc9 P ops = true) {i j : Nat} (hj : j < i) (hi : i < ops.size) (h : waits ops ops.size i j = false) : bar ops i = false /\ bar ops j = false := by
  have hno : waits ops ops.size j i = false := by
    cases hw : waits ops ops.size j i with
    | false => rfl
    | true => have := Jkk hd _ _ _ hw; omega
  constructor
  . cases hb : bar ops i with
    | false => rfl
    | true =>
      have := L0b.1 hb j (L0P.2 (by omega))
      simp [h, hno] at this; omega
  . cases hb : bar ops j with
    | false => rfl
    | true =>
      have := L0b.1 hb i (L0P.2 hi)
      simp [h, hno] at this; omega
theorem JsK (hd : Jc9 S.P ops = true) {i j : Nat} {oi oj : Oper} (hi : ops[i]? = some oi) (hj : ops[j]? = some oj) (hne : i ≠ j) (h1 : isNm S.P oi = true) (h2 : isNm S.P oj = true) : nmO S oi ≠ nmO S oj := by
  unfold nmO
  rcases Nat.lt_or_ge i j with h | h
  . exact fun e => ((JcQ hd hi).2 j oj h hj).2 h1 h2 (L22 e)
  . exact fun e => ((JcQ hd hj).2 i oi (by omega) hi).2 h2 h1 (L22 e.symm)
theorem Ja9.step2 (hall : ∀ (i : Nat) (o : Oper), ops[i]? = some o -> Oper.fits S.P S.N o = true) (hd : Jc9 S.P ops = true) {i : Nat} {oi : Oper} (hi : ops[i]? = some oi) {l : List Nat} (hn : i ∉ l) (h : Ja9 S ops l E σ) {v : AV} {bl : List (Nat × Blk)}
    (hv : gval S ops oi E σ v bl) : Ja9 S ops l (updO E oi.dst v) (addS σ bl) := fun k hk o ho hnm =>
  (h k hk o ho hnm).step (hall i oi hi) hv fun h1 => JsK hd ho hi (fun e => hn (e ▸ hk)) hnm h1
theorem Jih (hall : ∀ (i : Nat) (o : Oper), ops[i]? = some o -> Oper.fits S.P S.N o = true) (hd : Jc9 S.P ops = true) {i : Nat} {oi : Oper} (hi : ops[i]? = some oi) {post : List Nat} {K : Env -> Jac -> Prop} :
    ∀ (pre : List Nat), (∀ j ∈ pre, j < i /\ waits ops ops.size i j = false) -> (pre ++ i :: post).Nodup -> ∀ (E : Env) (σ : Jac), Ja9 S ops (pre ++ i :: post) E σ -> Jbu S ops (pre ++ i :: post) K E σ -> Jbu S ops (i :: (pre ++ post)) K E σ
  | [], _, _, E, σ, _, h => h
  | j :: pre, hp, hnd, E, σ, hdc, h => by
    obtain ⟨hji, hw⟩ := hp j (by simp)
    have hilt : i < ops.size := (L0j.1 hi).1
    obtain ⟨oj, hj⟩ : ∃ oj, ops[j]? = some oj := ⟨_, L0g (by omega)⟩
    obtain ⟨hbi, hbj⟩ := Jmz hd hji hilt hw
    have hcom := (((JcQ hd hj).2 i oi hji hi).1).resolve_left (by rw [hw]; simp)
    obtain ⟨hap, hcom⟩ := hcom
    obtain ⟨a1, a2, a3⟩ := Oper.apart_spec hap
    rw [L0w, L1n] at hnd
    have hin : ∀ k, k ∈ pre ++ post -> k ∈ pre ++ i :: post := fun k hk => by rcases L0v.1 hk with h | h <;> simp [h]
    rcases hcom with ⟨hcj, hci⟩ | ⟨hfj, hsi⟩ | ⟨hsj, hfi⟩
    rotate_left
    . -- what is free comes later
      have hcj := Jit hfj; simp only [L0w, Jbu, hj, hbj] at h
      obtain ⟨vj, blj, hvj, h⟩ := (Jb8 (by omega)).1 h
      obtain ⟨hpj, rfl⟩ := (Jf9 hfj).1 hvj
      have hdc1 : Ja9 S ops (pre ++ i :: post) (updO E oj.dst vj) σ := Ja9.step2 hall hd hj hnd.1 (fun k hk => hdc k (by simp only [L0w, L0h]; exact .inr hk)) hvj
      have h := Jih hall hd hi pre (fun k hk => hp k (by simp [hk])) hnd.2 _ _ hdc1 h
      simp only [Jbu, hi, hbi] at h
      obtain ⟨id, k', hs, h⟩ := (JiW hsi).1 h
      have hs0 : stoR S.P oi.op E σ id k' := Jh9 (fun x hx => Jom a1 hx) hs
      rw [Jfe (Ja9.sto (hall i oi hi) (fun k hk => hdc1 k (hin k hk) : Ja9 S ops (pre ++ post) (updO E oj.dst vj) σ) hs)] at h
      simp only [Jbu, hi, hbi]
      refine (JiW hsi).2 ⟨id, k', hs0, ?_⟩
      rw [L0w, Jfe (Ja9.sto (hall i oi hi) (fun k hk => hdc k (by rcases L0h.1 hk with rfl | hk; simp; exact L1w _ (hin k hk)) : Ja9 S ops (j :: (pre ++ post)) E σ) hs0)]
      simp only [Jbu, hj, hbj]
      exact (Jb8 (by omega)).2 ⟨vj, [], (Jf9 hfj).2 ⟨Jjt hfj hpj, rfl⟩, h⟩
    . -- what is free comes earlier
      have hci := Jit hfi; simp only [L0w, Jbu, hj, hbj] at h
      obtain ⟨id, k', hs, h⟩ := (JiW hsj).1 h
      have hdc1 : Ja9 S ops (pre ++ i :: post) E (updS σ id k') := Ja9.sto (hall j oj hj) (fun k hk => hdc k (by simp only [L0w, L0h]; exact .inr hk)) hs
      rw [Jfe hdc1] at h
      have h := Jih hall hd hi pre (fun k hk => hp k (by simp [hk])) hnd.2 _ _ hdc1 h
      simp only [Jbu, hi, hbi] at h
      obtain ⟨vi, bli, hvi, h⟩ := (Jb8 (by omega)).1 h
      obtain ⟨hpi, rfl⟩ := (Jf9 hfi).1 hvi
      have hvi0 : gval S ops oi E σ vi [] := (Jf9 hfi).2 ⟨Jjt hfi hpi, rfl⟩
      simp only [Jbu, hi, hbi]
      refine (Jb8 (by omega)).2 ⟨vi, [], hvi0, ?_⟩
      simp only [L0w, Jbu, hj, hbj]
      have hs1 : stoR S.P oj.op (updO E oi.dst vi) σ id k' := Jh9 (fun x hx => (Jom a3 hx).symm) hs
      refine (JiW hsj).2 ⟨id, k', hs1, ?_⟩
      have hdc2 : Ja9 S ops (pre ++ post) (updO E oi.dst vi) σ := Ja9.step2 hall hd hi (fun hk => by
        rw [L1R] at hnd; obtain ⟨_, _, h2, h3⟩ := hnd; rw [L1n] at h2
        rcases L0v.1 hk with hk | hk
        . exact h3 i hk i (by simp) rfl
        . exact h2.1 hk) (fun k hk => hdc k (L1w _ (hin k hk))) hvi0
      show struck S true (Jex ops (pre ++ post)) (Jbu S ops (pre ++ post) K) (updO E oi.dst vi) (updS σ id k')
      rw [Jfe (hdc2.sto (hall j oj hj) hs1)]; exact h
    simp only [L0w, Jbu, hj, hbj] at h
    obtain ⟨vj, blj, hvj, h⟩ := (Jb8 hcj).1 h
    have hdc1 : Ja9 S ops (pre ++ i :: post) (updO E oj.dst vj) (addS σ blj) := Ja9.step2 hall hd hj hnd.1 (fun k hk => hdc k (by simp only [L0w, L0h]; exact .inr hk)) hvj
    have h := Jih hall hd hi pre (fun k hk => hp k (by simp [hk])) hnd.2 _ _ hdc1 h
    simp only [Jbu, hi, hbi] at h
    obtain ⟨vi, bli, hvi, h⟩ := (Jb8 hci).1 h
    have ownj : ∀ p ∈ blj, p.1 / 16 = nmO S oj /\ isNm S.P oj = true := by
      rcases JcU hvj with hv | ⟨_, rfl⟩
      . exact Ji2 hv
      . intro p hp; simp at hp
    have dcj : blj = [] \/ (DC S.N (nmO S oj) E σ /\ ∀ p ∈ blj, p.1 / 16 = nmO S oj) := by
      cases hb : blj with
      | nil => exact .inl rfl
      | cons p l => exact .inr ⟨hdc j (by simp) oj hj (ownj p (by rw [hb]; simp)).2, fun q hq => (ownj q (by rw [hb]; exact hq)).1⟩
    have hvi0 : gval S ops oi E σ vi bli := (JdW (hall i oi hi) a1 dcj).1 hvi
    have owni : ∀ p ∈ bli, p.1 / 16 = nmO S oi /\ isNm S.P oi = true := by
      rcases JcU hvi0 with hv | ⟨_, rfl⟩
      . exact Ji2 hv
      . intro p hp; simp at hp
    have dci : bli = [] \/ (DC S.N (nmO S oi) E σ /\ ∀ p ∈ bli, p.1 / 16 = nmO S oi) := by
      cases hb : bli with
      | nil => exact .inl rfl
      | cons p l => exact .inr ⟨hdc i (by simp) oi hi (owni p (by rw [hb]; simp)).2, fun q hq => (owni q (by rw [hb]; exact hq)).1⟩
    have hvj0 : gval S ops oj (updO E oi.dst vi) (addS σ bli) vj blj := (JdW (hall j oj hj) a3 dci).2 hvj
    have e1 : updO (updO E oj.dst vj) oi.dst vi = updO (updO E oi.dst vi) oj.dst vj := Jki a2
    have e2 : addS (addS σ blj) bli = addS (addS σ bli) blj := by
      by_cases hb : isNm S.P oi = true /\ isNm S.P oj = true
      . have hne := JsK (S := S) hd hi hj (by omega) hb.1 hb.2
        exact Jgl (L := fun id => id / 16 = nmO S oj) (L' := fun _ => True) blj bli σ (fun p hp => (ownj p hp).1) fun p hp h => hne ((owni p hp).1.symm.trans h)
      . have : blj = [] \/ bli = [] := by
          cases hb1 : blj with
          | nil => exact .inl rfl
          | cons p l => cases hb2 : bli with
            | nil => exact .inr rfl
            | cons q m => exact absurd ⟨(owni q (by rw [hb2]; simp)).2, (ownj p (by rw [hb1]; simp)).2⟩ hb
        rcases this with h' | h' <;> rw [h'] <;> rfl
    rw [e1, e2] at h; simp only [Jbu, hi, hbi]
    refine (Jb8 hci).2 ⟨vi, bli, hvi0, ?_⟩
    simp only [L0w, Jbu, hj, hbj]
    exact (Jb8 hcj).2 ⟨vj, blj, hvj0, h⟩
theorem JkC (H : Holds S C) : ∀ (ops : Array Oper), ops.toList.all (Oper.fits S.P S.N) = true -> Jc9 S.P ops = true -> ∀ (n : Nat) (K : Env -> Jac -> Prop) (Q : Exit -> Act -> World -> Prop) (E : Env) (σ : Jac) (a : Act) (w : World),
    (∀ E σ a w, K E σ -> St C E σ a w -> Q .normal a w) -> struck S true ops.toList (Jef S true ops 0 ops.toList K) E σ -> St C E σ a w ->
    ∀ id, (Code.region id ops true).wpIn (FW C.rdl) n S.P Q a w := by
  intro ops hfits hd n K Q E σ a w hK hv hs id
  have hall : ∀ (i : Nat) (o : Oper), ops[i]? = some o -> Oper.fits S.P S.N o = true := fun i o ho => L0b.1 hfits o (L0t.2 (L1A ho))
  have hat : ∀ l, ∀ o ∈ Jex ops l, Oper.fits S.P S.N o = true := fun l o ho => by
    obtain ⟨i, _, hi⟩ := L1C.1 ho; exact hall i o hi
  have hfull : Jex ops (List.range' 0 ops.toList.length) = ops.toList := Jdi ops.toList 0 fun j _ => by simp
  refine wpIn_region_any H.mo ?_
  obtain ⟨E1, σ1, hv1, hdc1, hs1⟩ := Jff (l := List.range' 0 ops.toList.length) H (hat _) (by rw [hfull]; exact hv) (hs.drew H.G (w.drawn + 1))
  rw [Jgq ops.toList 0 K fun j _ => by simp] at hv1
  have key : ∀ (fuel : Nat) (listed : Array Bool) (E : Env) (σ : Jac) (a : Act) (w : World), listed.size = ops.size -> (rem ops listed).length <= fuel ->
      (∀ i o, ops[i]? = some o -> listed.getD i false = true -> ∀ e ∈ o.after, Region.binds .any e = true -> listed.getD e.on false = true) ->
      Jbu S ops (rem ops listed) K E σ -> Ja9 S ops (rem ops listed) E σ -> St C E σ a w -> wpAnyIn (FW C.rdl) n S.P .any ops Q fuel listed a w := by
    intro fuel
    induction fuel with
    | zero =>
      intro listed E σ a w hsz hle hcl hv hdc hs
      have h0 : rem ops listed = [] := L0R (by omega)
      rw [h0] at hv
      refine ⟨?_, hK _ _ _ _ hv hs⟩
      cases hr : Region.ready .any ops listed with
      | nil => rfl
      | cons i l =>
        have hi : i ∈ Region.ready .any ops listed := by rw [hr]; simp
        obtain ⟨h1, o, ho, _⟩ := mem_ready.1 hi
        have : i ∈ rem ops listed := Ja2.2 ⟨(L0j.1 ho).1, h1⟩
        rw [h0] at this; simp at this
    | succ fuel ih =>
      intro listed E σ a w hsz hle hcl hv hdc hs
      have getD_same : ∀ i, i < ops.size -> listed.getD i true = listed.getD i false := fun i hi => by
        simp only [L0I]; rw [L0g (by omega)]; rfl
      refine ⟨fun h0 => ?_, fun i hi => ?_⟩
      . -- nothing is ready: nothing is left
        have hr : rem ops listed = [] := by
          cases hr : rem ops listed with
          | nil => rfl
          | cons i l =>
            exfalso
            have hm : i ∈ rem ops listed := by rw [hr]; simp
            obtain ⟨hlt, hun⟩ := Ja2.1 hm
            have : i ∈ Region.ready .any ops listed := mem_ready.2 ⟨hun, _, L0g hlt, fun e he hb => by
              have hei := (JcQ hd (L0g hlt)).1 e he hb
              cases hl : listed.getD e.on false with
              | true => rfl
              | false =>
                have hme : e.on ∈ rem ops listed := Ja2.2 ⟨by omega, by rw [getD_same _ (by omega)]; exact hl⟩
                have hsort := Jce (ops := ops) listed
                rw [hr] at hme hsort
                rcases L0h.1 hme with h | h
                . omega
                . have := (L1t.1 hsort).1 _ h; omega⟩
            rw [h0] at this; simp at this
        rw [hr] at hv
        exact hK _ _ _ _ hv hs
      . obtain ⟨hun, o, ho, hedges⟩ := mem_ready.1 hi
        have hlt : i < ops.size := (L0j.1 ho).1
        have hm : i ∈ rem ops listed := Ja2.2 ⟨hlt, hun⟩
        obtain ⟨pre, post, hsplit⟩ := L24 hm
        have hsort := Jce (ops := ops) listed
        have hnd := Jg7 (ops := ops) listed
        have hset := JiR hsz hsplit; rw [hsplit] at hv hdc hsort hnd
        have hpre : ∀ j ∈ pre, j < i /\ waits ops ops.size i j = false := fun j hj => by
          refine ⟨(List.pairwise_append.1 hsort).2.2 j hj i (by simp), ?_⟩
          cases hw : waits ops ops.size i j with
          | false => rfl
          | true =>
            have h1 := JdO hcl ops.size i j o ho hedges hw
            have h2 := Ja2.1 (show j ∈ rem ops listed by rw [hsplit]; simp [hj])
            rw [getD_same j h2.1, h1] at h2; simp at h2
        have hv := Jih hall hd ho pre hpre hnd E σ hdc hv
        have hnd' : i ∉ pre ++ post := by
          rw [L1R] at hnd; obtain ⟨h1, h2, h3⟩ := hnd; rw [L1n] at h2
          intro h; rcases L0v.1 h with h | h
          . exact h3 i h i (by simp) rfl
          . exact h2.1 h
        have hdc' : Ja9 S ops (pre ++ post) E σ := fun k hk => hdc k (by rcases L0v.1 hk with h | h <;> simp [h])
        simp only [Jbu, ho] at hv
        have next : ∀ E' σ' a' w', Jbu S ops (pre ++ post) K E' σ' -> Ja9 S ops (pre ++ post) E' σ' -> St C E' σ' a' w' -> wpAnyIn (FW C.rdl) n S.P .any ops Q fuel (listed.setIfInBounds i true) a' w' := fun E' σ' a' w' h1 h2 h3 => by
          refine ih (listed.setIfInBounds i true) E' σ' a' w' (by simpa using hsz) ?_ ?_ (by rw [hset]; exact h1) (by rw [hset]; exact h2) h3
          . rw [hset]; rw [hsplit] at hle; simp at hle ⊢; omega
          . intro k ok hk hl e he hb
            have mono : ∀ q, listed.getD q false = true -> (listed.setIfInBounds i true).getD q false = true := fun q hq => by
              simp only [L0I] at hq ⊢
              by_cases hqi : q = i
              . subst hqi; simp [hsz, hlt]
              . rw [L16 (Ne.symm hqi)]; exact hq
            refine mono _ ?_
            by_cases hki : k = i
            . subst hki; rw [ho] at hk; cases hk; exact hedges e he hb
            . refine hcl k ok hk ?_ e he hb
              simp only [L0I] at hl ⊢
              rw [L16 (Ne.symm hki)] at hl; exact hl
        obtain ⟨ρ, Im, M, hw⟩ := hs
        have clean : cls S.P o.op o.type = 1 \/ cls S.P o.op o.type = 2 -> ∀ k, k < 16 -> Jbd (16 * (S.b + o.dst.getD 99999) + k) E σ := fun hc k hk =>
          (hdc i (by simp) o ho (by rcases hc with h | h <;> simp [isNm, h]) (16 * (S.b + o.dst.getD 99999) + k) (by unfold nmO; omega)).1
        refine JdP ho (JeS (Kc := wpAnyIn (FW C.rdl) n S.P .any ops Q fuel (listed.setIfInBounds i true)) H hw hall (hall i o ho) false (bar ops i) (fun _ => clean)
          (JhI (X := Ja9 S ops (pre ++ post)) (fun v bl hv => Ja9.step2 hall hd ho hnd' hdc' hv) hv) (fun E' σ' a' w' h1 h2 => next E' σ' a' w' h1.1 h1.2 h2) fun E' σ' a' w' h1 h2 => ?_)
        obtain ⟨E'', σ'', h3, h4, h5⟩ := Jff (l := pre ++ post) H (hat _) h1 h2
        exact next E'' σ'' a' w' h3 h4 h5
  have hrem0 : rem ops (Array.replicate ops.size false) = List.range' 0 ops.toList.length := by
    unfold rem; rw [<- L1z, L0y, L23]
    intro i hi; simp [L0P.1 hi]
  exact key ops.size _ E1 σ1 a _ (by simp) (by unfold rem; exact L0r (L25 _ _) (by simp)) (fun i o ho h => by
      simp only [L0I, L1S] at h; split at h <;> simp at h) (by rw [hrem0]; exact hv1) (by rw [hrem0]; exact hdc1) hs1
end
def Jl7 (P : Program) (ops : Array Oper) (i : Nat) (oi : Oper) (j : Nat) (oj : Oper) : Bool :=
  ((oi.apart ops oj && (Nat.ble (cls P oi.op oi.type) 2 && Nat.ble (cls P oj.op oj.type) 2 || Jfn P oi && stoO oj || stoO oi && Jfn P oj)) || Jia ops ops.size j i) && (!isNm P oi || !isNm P oj || (oi.dst.getD 99999 != oj.dst.getD 99999))
def JrH (P : Program) (ops : Array Oper) (i : Nat) (oi : Oper) : Nat -> List Oper -> Bool
  | _, [] => true
  | j, oj :: l => Jl7 P ops i oi j oj && JrH P ops i oi (j + 1) l
def Jmw (P : Program) (ops : Array Oper) : Nat -> List Oper -> Bool
  | _, [] => true
  | i, oi :: l => Jnk i oi && JrH P ops i oi (i + 1) l && Jmw P ops (i + 1) l
section
variable {P : Program} {ops : Array Oper}
theorem Jmd {i : Nat} {oi : Oper} : ∀ (l : List Oper) (j : Nat), JrH P ops i oi j l = true -> ∀ (k : Nat) (o : Oper), l[k]? = some o -> Jl7 P ops i oi (j + k) o = true
  | [], _, _, k, o, h => by simp at h
  | oj :: l, j, h, k, o, hk => by
    simp only [JrH, L00] at h
    cases k with
    | zero => simp at hk; subst hk; exact h.1
    | succ k =>
      have := Jmd l (j + 1) h.2 k o (by simpa using hk)
      rw [show j + (k + 1) = j + 1 + k from by omega]; exact this
theorem Jls : ∀ (l : List Oper) (i : Nat), Jmw P ops i l = true -> ∀ (a : Nat) (oa : Oper), l[a]? = some oa -> Jnk (i + a) oa = true /\ ∀ (b : Nat) (ob : Oper), a < b -> l[b]? = some ob -> Jl7 P ops (i + a) oa (i + b) ob = true
  | [], _, _, a, oa, h => by simp at h
  | o :: l, i, h, a, oa, ha => by
    simp only [Jmw, L00] at h
    cases a with
    | zero =>
      simp at ha; subst ha
      refine ⟨h.1.1, fun b ob hb hob => ?_⟩
      cases b with
      | zero => omega
      | succ b =>
        have := Jmd l (i + 1) h.1.2 b ob (by simpa using hob)
        rw [show i + (b + 1) = i + 1 + b from by omega]; exact this
    | succ a =>
      obtain ⟨h1, h2⟩ := Jls l (i + 1) h.2 a oa (by simpa using ha)
      rw [show i + (a + 1) = i + 1 + a from by omega]
      refine ⟨h1, fun b ob hb hob => ?_⟩
      cases b with
      | zero => omega
      | succ b =>
        have := h2 b ob (by omega) (by simpa using hob)
        rw [show i + (b + 1) = i + 1 + b from by omega]; exact this
theorem JmM (h : Jmw P ops 0 ops.toList = true) : Jc9 P ops = true := by
  unfold Jc9
  refine L0b.2 fun i hi => ?_
  have hi := L0P.1 hi; rw [L0g hi]
  have hi' : ops.toList[i]? = some ops[i] := by rw [L0J, L0g hi]
  obtain ⟨h1, h2⟩ := Jls ops.toList 0 h i ops[i] hi'
  rw [L0q] at h1 h2; simp only [Jnk, L00] at h1
  have hlt : ∀ a b, Nat.blt a b = true ↔ a < b := fun a b => by simp [Nat.blt]; omega
  simp only [L00]
  refine ⟨⟨?_, ?_⟩, L0b.2 fun j hj => ?_⟩
  . have := h1.1
    rw [<- Array.all_toList] at this ⊢
    refine L0b.2 fun e he => ?_
    have := L0b.1 this e he
    simp only [L0x, hlt, decide_eq_true_eq] at this ⊢; exact this
  . have := h1.2
    split at this
    . rename_i hg; rw [hg]; simp only [hlt] at this; simpa using this
    . rename_i hg; rw [hg]
  . have hj := L0P.1 hj
    by_cases hji : j <= i
    . simp [hji]
    . rw [L0g hj]
      have hj' : ops.toList[j]? = some ops[j] := by rw [L0J, L0g hj]
      have := h2 j ops[j] (by omega) hj'
      rw [L0q] at this; simp only [Jl7, L00] at this; simp only [L0x, L00]
      refine .inr ⟨?_, by simpa using this.2⟩
      rcases this.1 with hh
      simp only [L0x, L00] at hh
      rcases hh with hh | hh
      . refine .inr ⟨hh.1, ?_⟩
        rcases hh.2 with (hh | hh) | hh
        . exact .inl (.inl ⟨by simpa using hh.1, by simpa using hh.2⟩)
        . exact .inl (.inr hh)
        . exact .inr hh
      . exact .inl (Jhn _ _ _ hh)
end
theorem Jcu {S : Sp} (hY : Jc6 S) {id : Nat} {ops : Array Oper} {Q : Exit -> Env -> Jac -> Prop} {E : Env} {σ : Jac} (h : regC S true ops (Q .normal) E σ)
    (hfit : (ops.toList.all (Oper.fits S.P S.N) && Jmw S.P ops 0 ops.toList) = true := by kernel_rfl) : semC S (.region id ops true) Q E σ := by
  intro C H n R hR a w ⟨ρ, Im, M, hw⟩
  simp only [L00] at hfit; have hd := JmM hfit.2; unfold regC at h; rw [Jcg] at h
  have hv := JbY (fun _ _ hk => JfB hY _ 0 (fun _ _ h => h) hk) _ _ h
  have hs : St C E σ a w := ⟨_, _, _, hw⟩
  exact JkC H ops hfit.1 hd n (Q .normal) R _ _ a w (fun E σ a w hk hs => hR .normal E σ a w hk hs) hv hs id
theorem JkI {S : Sp} [hY : Plain S] {id : Nat} {ops : Array Oper} {Q : Exit -> Env -> Jac -> Prop} {E : Env} {σ : Jac} (F : List Nat) (h : regC S true ops (Q .normal) (frE (inI F) σ E) (frS (inI F) σ))
    (hp : ∀ id, S.pin id = true -> inI F id = false := by intro id hid; cases hid) (hfz : ∀ id, S.old id = true -> inI F id = false := by intro id hid; cases hid)
    (hfit : (ops.toList.all (Oper.fits S.P S.N) && Jmw S.P ops 0 ops.toList) = true := by kernel_rfl) : semC S (.region id ops true) Q E σ :=
  JmT F (Jcu hY.mono h hfit) hp hfz
end Go.Vai
set_option maxRecDepth 100000
namespace Go.Proofs.YtnpbhgeffapojaaGreatDoor
open Go.Vai Go Go.Proofs
open Go.Proofs.Tryz
theorem nb {n m : Nat} (h : n.ble m = true) : n <= m := L0u h
abbrev TyF (t : Nat) (x0 : Bool) (x1 : Nat) (x2 : Option TypeId) (x3 : Option (Nat × TypeId)) (x4 : Option (List (Nat × TypeId))) (x5 : Option IntKind) (x6 : Bool) (x7 : Option Bool) (x8 : Nat) (x9 : Option Nat) (x10 : Option (List Nat)) (x11 : Bool) : Prop := tund prog t = x0 /\ tsz prog t = x1 /\ tel prog t = x2 /\ tarr prog t = x3 /\ tfld prog t = x4 /\ tint prog t = x5 /\ tstr prog t = x6 /\ tagg prog t = x7 /\ tby prog t = x8 /\ tkind prog t = x9 /\ teq prog t = x10 /\ tpt prog t = x11
theorem tyf {t : Nat} {x0 : Bool} {x1 : Nat} {x2 : Option TypeId} {x3 : Option (Nat × TypeId)} {x4 : Option (List (Nat × TypeId))} {x5 : Option IntKind} {x6 : Bool} {x7 : Option Bool} {x8 : Nat} {x9 : Option Nat} {x10 : Option (List Nat)} {x11 : Bool} (h : (tund prog t, tsz prog t, tel prog t, tarr prog t, tfld prog t, tint prog t, tstr prog t, tagg prog t, tby prog t, tkind prog t, teq prog t, tpt prog t) = (x0, x1, x2, x3, x4, x5, x6, x7, x8, x9, x10, x11)) : TyF t x0 x1 x2 x3 x4 x5 x6 x7 x8 x9 x10 x11 := by simpa only [TyF, Prod.mk.injEq] using h
abbrev TyA (t a k : Nat) : Prop := TyF t true a none none none none false (some false) k none none false
abbrev TyB (t a e k : Nat) : Prop := TyF t true a (some e) none none none false (some false) k none none false
abbrev zs : AV := AV.v (Value.slice none 0 0)
abbrev zi : AV := AV.v (Value.int IntKind.i64 (0))
abbrev TzA (t : Nat) (a : AV) : Prop := tzA prog t = (some a : Option AV)
theorem tza {t : Nat} {a : AV} (h : tzA prog t = some a) : TzA t a := h
@[go_sem] theorem tAll0 : TyA 0 1 0 /\ TzA 0 (AV.tup []) /\ TyF 2 true 1 none none none (some .i64) false (some false) 8 (some 0) none false /\ TzA 2 (zi) /\ TyF 3 true 1 none none none (some .i64) false (some false) 8 (some 0) none false /\ TzA 3 (zi) /\ TyF 4 true 1 none none none none false (some false) 1 (some 1) none false /\ TzA 4 (AV.v (Value.bool false)) /\ TyF 5 true 1 none none none (some .u8) false (some false) 1 (some 0) none false /\ TzA 5 (AV.v (Value.int IntKind.u8 (0))) /\ TyF 9 true 1 none none none none true (some false) 16 (some 2) none false /\ TzA 9 (AV.v (Value.string ByteArray.empty)) /\ TyA 20 1 16 /\ TzA 20 (AV.v Value.nilIface) /\ TyB 22 1 104 24 /\ TzA 22 (zs) /\ TyB 23 1 29 24 /\ TzA 23 (zs) /\ TyB 24 1 35 24 /\ TzA 24 (zs) /\ TyB 25 1 3 24 /\ TzA 25 (zs) /\ TyB 26 1 157 24 /\ TzA 26 (zs) /\ TyF 28 true 7 none none (some [(0, 22), (1, 23), (2, 24), (3, 25), (4, 26), (5, 25), (6, 25)]) none false (some true) 168 none none false /\ TzA 28 (AV.agg [zs, zs, zs, zs, zs, zs, zs]) /\ TyF 29 true 3 none (some (3, 3)) none none false (some true) 24 none none false /\ TzA 29 (AV.agg [zi, zi, zi]) /\ TyF 31 true 2 none none (some [(0, 3), (1, 3)]) none false (some true) 16 none (some [0, 0]) false /\ TzA 31 (AV.agg [zi, zi]) := by repeat (first | refine ⟨tyf (by kernel_rfl), ?_⟩ | refine ⟨tza (by kernel_rfl), ?_⟩ | exact tyf (by kernel_rfl) | exact tza (by kernel_rfl))
@[go_sem] theorem tAll1 : TyF 33 true 6 none none (some [(0, 3), (1, 3), (2, 31), (4, 31)]) none false (some true) 48 none (some [0, 0, 0, 0, 0, 0]) false /\ TzA 33 (AV.agg [zi, zi, zi, zi, zi, zi]) /\ TyF 35 true 4 none none (some [(0, 3), (1, 3), (2, 25), (3, 23)]) none false (some true) 64 none none false /\ TzA 35 (AV.agg [zi, zi, zs, zs]) /\ TyF 37 true 2 none none (some [(0, 3), (1, 3)]) none false (some true) 16 none (some [0, 0]) false /\ TzA 37 (AV.agg [zi, zi]) /\ TyF 39 true 4 none none (some [(0, 37), (2, 37)]) none false (some true) 32 none (some [0, 0, 0, 0]) false /\ TzA 39 (AV.agg [zi, zi, zi, zi]) /\ TyB 41 1 88 24 /\ TzA 41 (zs) /\ TyB 42 1 33 24 /\ TzA 42 (zs) /\ TyB 43 1 58 24 /\ TzA 43 (zs) /\ TyB 44 1 96 24 /\ TzA 44 (zs) /\ TyF 46 true 4 none none (some [(0, 3), (1, 3), (2, 9), (3, 9)]) none false (some true) 48 none (some [0, 0, 2, 2]) false /\ TzA 46 (AV.agg [zi, zi, AV.v (Value.string ByteArray.empty), AV.v (Value.string ByteArray.empty)]) /\ TyB 47 1 134 24 /\ TzA 47 (zs) /\ TyF 49 true 5 none none (some [(0, 46), (4, 47)]) none false (some true) 72 none none false /\ TzA 49 (AV.agg [zi, zi, AV.v (Value.string ByteArray.empty), AV.v (Value.string ByteArray.empty), zs]) /\ TyB 50 1 9 24 /\ TzA 50 (zs) /\ TyF 51 true 13 none none (some [(0, 41), (1, 42), (2, 43), (3, 44), (4, 25), (5, 9), (6, 49), (11, 9), (12, 50)]) none false (some true) 248 none none false /\ TzA 51 (AV.agg [zs, zs, zs, zs, zs, AV.v (Value.string ByteArray.empty), zi, zi, AV.v (Value.string ByteArray.empty), AV.v (Value.string ByteArray.empty), zs, AV.v (Value.string ByteArray.empty), zs]) /\ TyF 52 true 13 none none (some [(0, 41), (1, 42), (2, 43), (3, 44), (4, 25), (5, 9), (6, 49), (11, 9), (12, 50)]) none false (some true) 248 none none false /\ TzA 52 (AV.agg [zs, zs, zs, zs, zs, AV.v (Value.string ByteArray.empty), zi, zi, AV.v (Value.string ByteArray.empty), AV.v (Value.string ByteArray.empty), zs, AV.v (Value.string ByteArray.empty), zs]) /\ TyB 56 1 152 24 /\ TzA 56 (zs) := by repeat (first | refine ⟨tyf (by kernel_rfl), ?_⟩ | refine ⟨tza (by kernel_rfl), ?_⟩ | exact tyf (by kernel_rfl) | exact tza (by kernel_rfl))
@[go_sem] theorem tAll2 : TyF 58 true 2 none none (some [(0, 3), (1, 56)]) none false (some true) 32 none none false /\ TzA 58 (AV.agg [zi, zs]) /\ TyF 61 true 1 none none none (some .i64) false (some false) 8 (some 0) none false /\ TzA 61 (zi) /\ TyA 62 1 0 /\ TzA 62 (AV.tup [AV.v (Value.string ByteArray.empty), zi]) /\ TyF 66 true 2 none none (some [(0, 3), (1, 3)]) none false (some true) 16 none (some [0, 0]) false /\ TzA 66 (AV.agg [zi, zi]) /\ TyB 70 1 86 24 /\ TzA 70 (zs) /\ TyA 71 1 0 /\ TzA 71 (AV.tup [zs, zi]) /\ TyA 74 1 0 /\ TzA 74 (AV.tup [zi, zi]) /\ TyA 78 1 0 /\ TzA 78 (AV.tup [AV.v (Value.agg { toList := [Value.int IntKind.i64 (0), Value.int IntKind.i64 (0), Value.int IntKind.i64 (0), Value.int IntKind.i64 (0)] }), AV.v (Value.bool false)]) /\ TyA 80 1 0 /\ TzA 80 (AV.tup [AV.v (Value.agg { toList := [Value.int IntKind.i64 (0), Value.int IntKind.i64 (0)] }), zi, zi]) /\ TyF 86 true 5 none none (some [(0, 3), (1, 3), (2, 66), (4, 3)]) none false (some true) 40 none (some [0, 0, 0, 0, 0]) false /\ TzA 86 (AV.agg [zi, zi, zi, zi, zi]) /\ TyF 88 true 2 none none (some [(0, 3), (1, 3)]) none false (some true) 16 none (some [0, 0]) false /\ TzA 88 (AV.agg [zi, zi]) /\ TyF 90 true 2 none none (some [(0, 3), (1, 50)]) none false (some true) 32 none none false /\ TzA 90 (AV.agg [zi, zs]) /\ TyA 91 1 0 /\ TzA 91 (AV.tup [AV.v (Value.agg { toList := [Value.int IntKind.i64 (0), Value.int IntKind.i64 (0), Value.string ByteArray.empty, Value.string ByteArray.empty, Value.slice none 0 0] }), zi]) /\ TyB 94 1 159 24 /\ TzA 94 (zs) /\ TyF 96 true 2 none none (some [(0, 94), (1, 3)]) none false (some true) 32 none none false /\ TzA 96 (AV.agg [zs, zi]) := by repeat (first | refine ⟨tyf (by kernel_rfl), ?_⟩ | refine ⟨tza (by kernel_rfl), ?_⟩ | exact tyf (by kernel_rfl) | exact tza (by kernel_rfl))
@[go_sem] theorem tAll3 : TyA 101 1 0 /\ TzA 101 (AV.tup [AV.v (Value.agg { toList := [Value.int IntKind.i64 (0), Value.int IntKind.i64 (0), Value.int IntKind.i64 (0), Value.int IntKind.i64 (0)] }), zi]) /\ TyF 104 true 2 none (some (2, 3)) none none false (some true) 16 none none false /\ TzA 104 (AV.agg [zi, zi]) /\ TyA 127 1 8 /\ TzA 127 (AV.v (Value.map none)) /\ TyA 128 1 8 /\ TzA 128 (AV.v (Value.map none)) /\ TyA 129 1 0 /\ TzA 129 (AV.tup [AV.v (Value.map none), AV.v (Value.bool false)]) /\ TyF 134 true 3 none none (some [(0, 3), (1, 9), (2, 50)]) none false (some true) 48 none none false /\ TzA 134 (AV.agg [zi, AV.v (Value.string ByteArray.empty), zs]) /\ TyF 135 true 1 none none none none false (some false) 8 none none true /\ TzA 135 (AV.v (Value.pointer none)) /\ TyA 136 1 0 /\ TzA 136 (AV.tup [AV.v (Value.pointer none), zi]) /\ TyF 147 true 2 none none (some [(0, 37)]) none false (some true) 16 none (some [0, 0]) false /\ TzA 147 (AV.agg [zi, zi]) /\ TyA 149 1 0 /\ TzA 149 (AV.tup [AV.v (Value.agg { toList := [Value.int IntKind.i64 (0), Value.int IntKind.i64 (0)] }), zi]) /\ TyF 152 true 3 none none (some [(0, 3), (1, 3), (2, 3)]) none false (some true) 24 none (some [0, 0, 0]) false /\ TzA 152 (AV.agg [zi, zi, zi]) /\ TyA 153 1 0 /\ TzA 153 (AV.tup [AV.v (Value.agg { toList := [Value.int IntKind.i64 (0), Value.int IntKind.i64 (0), Value.string ByteArray.empty, Value.string ByteArray.empty] }), zi]) /\ TyA 155 1 0 /\ TzA 155 (AV.tup [zs, zi]) /\ TyF 157 true 4 none (some (4, 3)) none none false (some true) 32 none none false /\ TzA 157 (AV.agg [zi, zi, zi, zi]) /\ TyF 159 true 4 none none (some [(0, 3), (1, 3), (2, 3), (3, 3)]) none false (some true) 32 none (some [0, 0, 0, 0]) false /\ TzA 159 (AV.agg [zi, zi, zi, zi]) := by repeat (first | refine ⟨tyf (by kernel_rfl), ?_⟩ | refine ⟨tza (by kernel_rfl), ?_⟩ | exact tyf (by kernel_rfl) | exact tza (by kernel_rfl))
@[go_sem] theorem tAll4 : TyB 162 1 31 24 /\ TzA 162 (zs) /\ TyB 164 1 5 24 /\ TzA 164 (zs) /\ TyA 165 1 0 /\ TzA 165 (AV.tup [AV.v (Value.agg { toList := [Value.int IntKind.i64 (0), Value.int IntKind.i64 (0)] }), AV.v (Value.bool false)]) /\ TyA 175 1 0 /\ TzA 175 (AV.tup [zi, zi, zi]) /\ TyF 178 true 1 none none none (some .u64) false (some false) 8 (some 0) none false /\ TzA 178 (AV.v (Value.int IntKind.u64 (0))) /\ TyA 180 1 0 /\ TzA 180 (AV.tup [zi, AV.v (Value.bool false)]) /\ TyF 190 true 14 none none (some [(0, 52), (13, 128)]) none false (some true) 256 none none false /\ TzA 190 (AV.agg [zs, zs, zs, zs, zs, AV.v (Value.string ByteArray.empty), zi, zi, AV.v (Value.string ByteArray.empty), AV.v (Value.string ByteArray.empty), zs, AV.v (Value.string ByteArray.empty), zs, AV.v (Value.map none)]) /\ TyF 203 true 3 none none (some [(0, 66), (2, 3)]) none false (some true) 24 none (some [0, 0, 0]) false /\ TzA 203 (AV.agg [zi, zi, zi]) /\ TyF 205 true 1 none none none none false (some false) 8 none none true /\ TzA 205 (AV.v (Value.pointer none)) /\ TyF 207 true 2 none none (some [(0, 205), (1, 164)]) none false (some true) 32 none none false /\ TzA 207 (AV.agg [AV.v (Value.pointer none), zs]) /\ TyA 209 1 16 /\ TzA 209 (AV.v Value.nilIface) /\ TyA 210 1 0 /\ TzA 210 (AV.tup [zi, AV.v Value.nilIface]) /\ TyA 222 1 0 /\ TzA 222 (AV.tup [zi, zi]) /\ TyF 240 true 2 none none (some [(0, 207)]) none false (some true) 32 none none false /\ TzA 240 (AV.agg [AV.v (Value.pointer none), zs]) /\ TyF 243 true 1 none none none (some .u64) false (some false) 8 (some 0) none false /\ TzA 243 (AV.v (Value.int IntKind.u64 (0))) := by repeat (first | refine ⟨tyf (by kernel_rfl), ?_⟩ | refine ⟨tza (by kernel_rfl), ?_⟩ | exact tyf (by kernel_rfl) | exact tza (by kernel_rfl))
@[go_sem] theorem tAll5 : TyF 251 true 1 none none none none false (some false) 8 none none true /\ TzA 251 (AV.v (Value.pointer none)) /\ TyF 253 true 2 none none (some [(0, 3), (1, 3)]) none false (some true) 16 none (some [0, 0]) false /\ TzA 253 (AV.agg [zi, zi]) /\ TyB 255 1 259 24 /\ TzA 255 (zs) /\ TyA 256 1 0 /\ TzA 256 (AV.tup [AV.v (Value.string ByteArray.empty), zs, AV.v (Value.bool false)]) /\ TyF 259 true 2 none none (some [(0, 9), (1, 4)]) none false (some true) 24 none (some [2, 1]) false /\ TzA 259 (AV.agg [AV.v (Value.string ByteArray.empty), AV.v (Value.bool false)]) /\ TyF 273 true 1 none none none (some .u32) false (some false) 4 (some 0) none false /\ TzA 273 (AV.v (Value.int IntKind.u32 (0))) /\ TyF 275 true 8 none (some (8, 273)) none none false (some true) 32 none none false /\ TzA 275 (AV.agg [AV.v (Value.int IntKind.u32 (0)), AV.v (Value.int IntKind.u32 (0)), AV.v (Value.int IntKind.u32 (0)), AV.v (Value.int IntKind.u32 (0)), AV.v (Value.int IntKind.u32 (0)), AV.v (Value.int IntKind.u32 (0)), AV.v (Value.int IntKind.u32 (0)), AV.v (Value.int IntKind.u32 (0))]) /\ TyF 281 true 1 none none none none false (some false) 8 none none true /\ TzA 281 (AV.v (Value.pointer none)) /\ TyF 288 true 1 none none none none false (some false) 8 none none true /\ TzA 288 (AV.v (Value.pointer none)) /\ TyF 290 true 1 none none none none false (some false) 8 none none true /\ TzA 290 (AV.v (Value.pointer none)) /\ TyF 295 true 1 none none none none false (some false) 8 none none true /\ TzA 295 (AV.v (Value.pointer none)) /\ TyF 296 true 64 none (some (64, 273)) none none false (some true) 256 none none false /\ TzA 296 (AV.agg [AV.v (Value.int IntKind.u32 (0)), AV.v (Value.int IntKind.u32 (0)), AV.v (Value.int IntKind.u32 (0)), AV.v (Value.int IntKind.u32 (0)), AV.v (Value.int IntKind.u32 (0)), AV.v (Value.int IntKind.u32 (0)), AV.v (Value.int IntKind.u32 (0)), AV.v (Value.int IntKind.u32 (0)), AV.v (Value.int IntKind.u32 (0)), AV.v (Value.int IntKind.u32 (0)), AV.v (Value.int IntKind.u32 (0)), AV.v (Value.int IntKind.u32 (0)), AV.v (Value.int IntKind.u32 (0)), AV.v (Value.int IntKind.u32 (0)), AV.v (Value.int IntKind.u32 (0)), AV.v (Value.int IntKind.u32 (0)), AV.v (Value.int IntKind.u32 (0)), AV.v (Value.int IntKind.u32 (0)), AV.v (Value.int IntKind.u32 (0)), AV.v (Value.int IntKind.u32 (0)), AV.v (Value.int IntKind.u32 (0)), AV.v (Value.int IntKind.u32 (0)), AV.v (Value.int IntKind.u32 (0)), AV.v (Value.int IntKind.u32 (0)), AV.v (Value.int IntKind.u32 (0)), AV.v (Value.int IntKind.u32 (0)), AV.v (Value.int IntKind.u32 (0)), AV.v (Value.int IntKind.u32 (0)), AV.v (Value.int IntKind.u32 (0)), AV.v (Value.int IntKind.u32 (0)), AV.v (Value.int IntKind.u32 (0)), AV.v (Value.int IntKind.u32 (0)), AV.v (Value.int IntKind.u32 (0)), AV.v (Value.int IntKind.u32 (0)), AV.v (Value.int IntKind.u32 (0)), AV.v (Value.int IntKind.u32 (0)), AV.v (Value.int IntKind.u32 (0)), AV.v (Value.int IntKind.u32 (0)), AV.v (Value.int IntKind.u32 (0)), AV.v (Value.int IntKind.u32 (0)), AV.v (Value.int IntKind.u32 (0)), AV.v (Value.int IntKind.u32 (0)), AV.v (Value.int IntKind.u32 (0)), AV.v (Value.int IntKind.u32 (0)), AV.v (Value.int IntKind.u32 (0)), AV.v (Value.int IntKind.u32 (0)), AV.v (Value.int IntKind.u32 (0)), AV.v (Value.int IntKind.u32 (0)), AV.v (Value.int IntKind.u32 (0)), AV.v (Value.int IntKind.u32 (0)), AV.v (Value.int IntKind.u32 (0)), AV.v (Value.int IntKind.u32 (0)), AV.v (Value.int IntKind.u32 (0)), AV.v (Value.int IntKind.u32 (0)), AV.v (Value.int IntKind.u32 (0)), AV.v (Value.int IntKind.u32 (0)), AV.v (Value.int IntKind.u32 (0)), AV.v (Value.int IntKind.u32 (0)), AV.v (Value.int IntKind.u32 (0)), AV.v (Value.int IntKind.u32 (0)), AV.v (Value.int IntKind.u32 (0)), AV.v (Value.int IntKind.u32 (0)), AV.v (Value.int IntKind.u32 (0)), AV.v (Value.int IntKind.u32 (0))]) /\ TyB 299 1 273 24 /\ TzA 299 (zs) /\ TyF 300 true 32 none (some (32, 5)) none none false (some true) 32 none none false /\ TzA 300 (AV.agg [AV.v (Value.int IntKind.u8 (0)), AV.v (Value.int IntKind.u8 (0)), AV.v (Value.int IntKind.u8 (0)), AV.v (Value.int IntKind.u8 (0)), AV.v (Value.int IntKind.u8 (0)), AV.v (Value.int IntKind.u8 (0)), AV.v (Value.int IntKind.u8 (0)), AV.v (Value.int IntKind.u8 (0)), AV.v (Value.int IntKind.u8 (0)), AV.v (Value.int IntKind.u8 (0)), AV.v (Value.int IntKind.u8 (0)), AV.v (Value.int IntKind.u8 (0)), AV.v (Value.int IntKind.u8 (0)), AV.v (Value.int IntKind.u8 (0)), AV.v (Value.int IntKind.u8 (0)), AV.v (Value.int IntKind.u8 (0)), AV.v (Value.int IntKind.u8 (0)), AV.v (Value.int IntKind.u8 (0)), AV.v (Value.int IntKind.u8 (0)), AV.v (Value.int IntKind.u8 (0)), AV.v (Value.int IntKind.u8 (0)), AV.v (Value.int IntKind.u8 (0)), AV.v (Value.int IntKind.u8 (0)), AV.v (Value.int IntKind.u8 (0)), AV.v (Value.int IntKind.u8 (0)), AV.v (Value.int IntKind.u8 (0)), AV.v (Value.int IntKind.u8 (0)), AV.v (Value.int IntKind.u8 (0)), AV.v (Value.int IntKind.u8 (0)), AV.v (Value.int IntKind.u8 (0)), AV.v (Value.int IntKind.u8 (0)), AV.v (Value.int IntKind.u8 (0))]) /\ TyF 306 true 1 none none none (some .i64) false (some false) 8 (some 0) none false /\ TzA 306 (zi) := by repeat (first | refine ⟨tyf (by kernel_rfl), ?_⟩ | refine ⟨tza (by kernel_rfl), ?_⟩ | exact tyf (by kernel_rfl) | exact tza (by kernel_rfl))
@[go_sem] theorem tAll6 : TyA 307 1 0 /\ TzA 307 (AV.tup [zi, zi]) /\ TyF 313 true 1 none none none (some .u64) false (some false) 8 (some 0) none false /\ TzA 313 (AV.v (Value.int IntKind.u64 (0))) /\ TyF 317 true 1 none none none none false (some false) 8 none none true /\ TzA 317 (AV.v (Value.pointer none)) /\ TyF 320 true 1 none none none none false (some false) 8 none none true /\ TzA 320 (AV.v (Value.pointer none)) := by repeat (first | refine ⟨tyf (by kernel_rfl), ?_⟩ | refine ⟨tza (by kernel_rfl), ?_⟩ | exact tyf (by kernel_rfl) | exact tza (by kernel_rfl))
@[go_sem] theorem tz_22 : tz prog 22 = some (Value.slice none 0 0) := by kernel_rfl
@[go_sem] theorem tz_23 : tz prog 23 = some (Value.slice none 0 0) := by kernel_rfl
@[go_sem] theorem tz_24 : tz prog 24 = some (Value.slice none 0 0) := by kernel_rfl
@[go_sem] theorem tz_25 : tz prog 25 = some (Value.slice none 0 0) := by kernel_rfl
@[go_sem] theorem tz_26 : tz prog 26 = some (Value.slice none 0 0) := by kernel_rfl
@[go_sem] theorem tz_41 : tz prog 41 = some (Value.slice none 0 0) := by kernel_rfl
@[go_sem] theorem tz_42 : tz prog 42 = some (Value.slice none 0 0) := by kernel_rfl
@[go_sem] theorem tz_43 : tz prog 43 = some (Value.slice none 0 0) := by kernel_rfl
@[go_sem] theorem tz_44 : tz prog 44 = some (Value.slice none 0 0) := by kernel_rfl
@[go_sem] theorem tz_47 : tz prog 47 = some (Value.slice none 0 0) := by kernel_rfl
@[go_sem] theorem tz_50 : tz prog 50 = some (Value.slice none 0 0) := by kernel_rfl
@[go_sem] theorem tz_56 : tz prog 56 = some (Value.slice none 0 0) := by kernel_rfl
@[go_sem] theorem tz_69 : tz prog 69 = some (Value.slice none 0 0) := by kernel_rfl
@[go_sem] theorem tz_70 : tz prog 70 = some (Value.slice none 0 0) := by kernel_rfl
@[go_sem] theorem tz_94 : tz prog 94 = some (Value.slice none 0 0) := by kernel_rfl
@[go_sem] theorem tz_162 : tz prog 162 = some (Value.slice none 0 0) := by kernel_rfl
@[go_sem] theorem tz_164 : tz prog 164 = some (Value.slice none 0 0) := by kernel_rfl
@[go_sem] theorem tz_231 : tz prog 231 = some (Value.slice none 0 0) := by kernel_rfl
@[go_sem] theorem tz_255 : tz prog 255 = some (Value.slice none 0 0) := by kernel_rfl
@[go_sem] theorem tz_299 : tz prog 299 = some (Value.slice none 0 0) := by kernel_rfl
theorem JrS : tagg prog 296 = (some true : Option Bool) := by kernel_rfl
theorem JrT : tarr prog 275 = (some (8, 273) : Option (Nat × TypeId)) := by kernel_rfl
theorem JrU : tarr prog 300 = (some (32, 5) : Option (Nat × TypeId)) := by kernel_rfl
theorem JuN : tel prog 164 = (some 5 : Option TypeId) := by kernel_rfl
theorem JuO : tel prog 299 = (some 273 : Option TypeId) := by kernel_rfl
theorem JuS : tsz prog 273 = 1 := by kernel_rfl
theorem JuT : tsz prog 296 = 64 := by kernel_rfl
theorem JyR : tsz prog 5 = 1 := by kernel_rfl
attribute [go_sem] ne_eq not_true_eq_false not_false_eq_true decide_true decide_false List.length_map
end Go.Proofs.YtnpbhgeffapojaaGreatDoor
attribute [go_sem_proc ↓] reduceIte
attribute [go_sem_proc] Nat.reduceEqDiff Nat.reduceMul Nat.reduceAdd Nat.reduceDiv Nat.reduceBEq Nat.reduceLeDiff Int.reduceToNat Int.reduceNe Int.reduceEq Int.reduceLT Int.reduceLE Int.reduceBEq Int.reduceBNe

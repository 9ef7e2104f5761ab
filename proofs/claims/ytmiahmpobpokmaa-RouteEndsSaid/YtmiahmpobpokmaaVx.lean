/- From a function's contract to the row. -/
import Derived.Test.YtmiahmpobpokmaaVw
namespace Go.Vai
open Go.RowKit Go.ChangeShapes Go.WideShapes

theorem keptBut_ext {w w' : World} {may : MemPlace → Prop} (h : Ext w (fun _ => False) w') : w.keptBut w' may := by
  refine ⟨h.os, h.output, fun i hi => ?_⟩
  rw [h.block i hi fun h => h]
  cases hw : w.heap[i]? with
  | none => trivial
  | some o => cases o <;> simp

/-- Whatever is read: the law says true. -/
theorem post_true {H : Type} {enc : TypeId × Value → H} {P : Program} {f : Func} {s : ChangeSpec} {fresh handsOn : Bool} {W W' : World} {args : Array Value} {ds gs : List (DataW H)} {before : List MemPlace} {tb : TypeId}
    (hl : laidOutB P = true) (hr : ∀ t ∈ f.params.toList, P.readableRec t = true ∧ t < P.types.size) (hrt : f.resultTypes = #[tb]) (htb : P.underlying tb = some .bool) (hvars : s.vars = [])
    (hs : ∀ ds : List (DataW H), ds.length = f.params.size → s.fn H ds = { results := [.lit (.bool true)], args := ds })
    (hW : DataW.Whole enc P f.params.toList s.vars false W args.toList ds gs before) (hx : Ext W (fun _ => False) W') : s.post enc P f false fresh handsOn false W args (.bool true) W' := by
  have hWw := hW
  obtain ⟨p, q, hA, hV, rfl, hfz, hnd⟩ := hW
  rw [hvars] at hV
  have hlt := hWw.lt
  obtain ⟨rfl, rfl⟩ := trodVars_none hV
  have hlen : ds.length = f.params.size := by
    have key : ∀ (ts : List TypeId) (vs : List Value) (ds : List (DataW H)) (p : List MemPlace), DataW.TrodAll enc P W 0 (fun _ => true) true ts vs ds p → ds.length = ts.length := by
      intro ts
      induction ts with
      | nil => intro vs ds p h; obtain ⟨_, rfl, _⟩ := trodAll_nil h; rfl
      | cons t ts ih =>
        intro vs ds p h
        obtain ⟨v, vs', d, ds', p', q', rfl, rfl, rfl, h1, h2⟩ := trodAll_cons h
        simp [ih _ _ _ h2]
    simpa using key _ _ _ _ hA
  have e := hs ds hlen
  simp only [List.append_nil] at hWw hlt hfz
  have htr : DataW.TrodAll enc P W' 0 (fun b => decide (b < W.heap.size)) true f.params.toList args.toList ds p := trodAll_still hl hx.below hr hlt hA
  have hokk : ∀ (j : Nat) (t : TypeId) (r : Value), f.resultTypes[j]? = some t → ((Value.bool true).resultList f.resultTypes.size)[j]? = some r → Value.okWide P W' .any 0 t r := by
    intro j t r hj hv
    rw [hrt] at hj hv
    cases j with
    | zero =>
      simp [Value.resultList] at hj hv
      subst hj; subst hv
      simp [Value.okWide, htb, Cell.okWide, Cell.ok]
    | succ j => simp at hj
  have hres : ∀ (b : Nat) (sp : Nat → Bool) (hd : Bool), DataW.TrodAll enc P W' b sp hd f.resultTypes.toList ((Value.bool true).resultList f.resultTypes.size) [.lit (.bool true)] [] := by
    intro b sp hd
    rw [hrt]
    exact ⟨[], [], ⟨1, by simp [DataW.trod, Value.cells, htb]⟩, rfl, rfl⟩
  have hold : ∀ x ∈ p, decide (x.block < W.heap.size) = true := fun x hx => by simpa using hlt x hx
  refine ⟨ds, [], p, [], p, [], hWw, ?_, ?_, ?_, World.keptBut_mono (fun p hp => ⟨hp, ?_⟩) (keptBut_ext (may := (· ∈ p)) hx), fun h => by cases h⟩
  · simp only [List.append_nil, e]; exact hres _ _ _
  · simp only [List.append_nil, e]; exact htr
  · simp only [List.append_nil, e, hvars]; rfl
  · exact .inr (by simpa using hp)

theorem lifted {H : Type} {enc : TypeId × Value → H} {C : Checked} {os : Os} {f : FuncId} {fn : Func} {s : ChangeSpec} {conds : List PathCond} {fresh handsOn : Bool} {tb : TypeId} {ps : List (AV → Prop)}
    (own : ownKnob C.prog.godebug = none) (started : os.Started) (noInit : C.prog.inits.idxOf? f = none) (hfn : C.prog.funcs[f]? = some fn)
    (witness : ∃ (w : World) (tape : Tape) (i : Input), w.os = os ∧ (w.forCall tape i).Shaped C.prog ∧ i.vars = [] ∧ Input.okWide C.prog (w.forCall tape i) .any w.heap.size f i ∧
      s.pre6 enc C.prog fn conds false (w.forCall tape i).memory i.args ∧ ({} : Assume).holds C.prog (lone (Frame.enter C.prog f i.args .normal) [] (w.forCall tape i)))
    (hl : laidOutB C.prog = true) (hr : (fn.params.toList.all fun t => C.prog.readableRec t && decide (t < C.prog.types.size)) = true) (hrt : fn.resultTypes = #[tb]) (htb : C.prog.underlying tb = some .bool) (hvars : s.vars = [])
    (hs : ∀ ds : List (DataW H), ds.length = fn.params.size → s.fn H ds = { results := [.lit (.bool true)], args := ds })
    (hop : ∀ w : World, OpensAll C.prog enc w fn.params.toList ps) (hev : ∀ as, AllP ps as → Ev C.prog f as (.v (.bool true))) :
    ReturnsInHanded {} C os f .any (s.pre6 enc C.prog fn conds false) (s.post enc C.prog fn false fresh handsOn false) := by
  refine returnsInHanded_of_change own started noInit hfn witness ?_
  intro W base args ds gs before hval hW _ _
  obtain ⟨p, q, hA, hV, e, hfz, hnd⟩ := hW
  obtain ⟨as, has, hrep⟩ := opens_args (hop W) hA (fun j t v hj hv => hval j t v (by simpa using hj) (by simpa using hv))
  have := (hev as has as _ ⟨rfl, rfl⟩).2 W (Here W) args.toList (fun b hb => hb) hrep
  refine (this.mono ?_)
  rintro e' W' ⟨y, rfl, hx, Im', _, _, hR⟩
  obtain ⟨ob, h1, _⟩ := hR
  have hy : y = .bool true := by
    unfold R1 at h1
    cases h1.2 with | v => rfl
  subst hy
  exact ⟨_, rfl, post_true hl (fun t ht => by simpa using List.all_eq_true.1 hr t ht) hrt htb hvars hs ⟨p, q, hA, hV, e, hfz, hnd⟩ hx⟩

theorem allP_1 {pa0 : AV → Prop} {Q : List AV → Prop} (h : ∀ a0, pa0 a0 → Q [a0]) : ∀ l, AllP [pa0] l → Q l
  | [a0], ha => h a0 ha.1
  | [], ha => (ha : False).elim
  | _ :: _ :: _, ha => (ha.2 : False).elim
theorem len_1 {T : Type} {Q : List T → Prop} (h : ∀ a0, Q [a0]) : ∀ l : List T, l.length = 1 → Q l
  | [a0], _ => h a0
  | [], hl => by simp at hl
  | _ :: _ :: _, hl => by simp at hl
theorem allP_2 {pa0 pa1 : AV → Prop} {Q : List AV → Prop} (h : ∀ a0 a1, pa0 a0 → pa1 a1 → Q [a0, a1]) : ∀ l, AllP [pa0, pa1] l → Q l
  | [a0, a1], ha => h a0 a1 ha.1 ha.2.1
  | [], ha => (ha : False).elim
  | [_], ha => (ha.2 : False).elim
  | _ :: _ :: _ :: _, ha => (ha.2.2 : False).elim
theorem len_2 {T : Type} {Q : List T → Prop} (h : ∀ a0 a1, Q [a0, a1]) : ∀ l : List T, l.length = 2 → Q l
  | [a0, a1], _ => h a0 a1
  | [], hl => by simp at hl
  | [_], hl => by simp at hl
  | _ :: _ :: _ :: _, hl => by simp at hl
theorem allP_3 {pa0 pa1 pa2 : AV → Prop} {Q : List AV → Prop} (h : ∀ a0 a1 a2, pa0 a0 → pa1 a1 → pa2 a2 → Q [a0, a1, a2]) : ∀ l, AllP [pa0, pa1, pa2] l → Q l
  | [a0, a1, a2], ha => h a0 a1 a2 ha.1 ha.2.1 ha.2.2.1
  | [], ha => (ha : False).elim
  | [_], ha => (ha.2 : False).elim
  | [_, _], ha => (ha.2.2 : False).elim
  | _ :: _ :: _ :: _ :: _, ha => (ha.2.2.2 : False).elim
theorem len_3 {T : Type} {Q : List T → Prop} (h : ∀ a0 a1 a2, Q [a0, a1, a2]) : ∀ l : List T, l.length = 3 → Q l
  | [a0, a1, a2], _ => h a0 a1 a2
  | [], hl => by simp at hl
  | [_], hl => by simp at hl
  | [_, _], hl => by simp at hl
  | _ :: _ :: _ :: _ :: _, hl => by simp at hl
theorem allP_4 {pa0 pa1 pa2 pa3 : AV → Prop} {Q : List AV → Prop} (h : ∀ a0 a1 a2 a3, pa0 a0 → pa1 a1 → pa2 a2 → pa3 a3 → Q [a0, a1, a2, a3]) : ∀ l, AllP [pa0, pa1, pa2, pa3] l → Q l
  | [a0, a1, a2, a3], ha => h a0 a1 a2 a3 ha.1 ha.2.1 ha.2.2.1 ha.2.2.2.1
  | [], ha => (ha : False).elim
  | [_], ha => (ha.2 : False).elim
  | [_, _], ha => (ha.2.2 : False).elim
  | [_, _, _], ha => (ha.2.2.2 : False).elim
  | _ :: _ :: _ :: _ :: _ :: _, ha => (ha.2.2.2.2 : False).elim
theorem len_4 {T : Type} {Q : List T → Prop} (h : ∀ a0 a1 a2 a3, Q [a0, a1, a2, a3]) : ∀ l : List T, l.length = 4 → Q l
  | [a0, a1, a2, a3], _ => h a0 a1 a2 a3
  | [], hl => by simp at hl
  | [_], hl => by simp at hl
  | [_, _], hl => by simp at hl
  | [_, _, _], hl => by simp at hl
  | _ :: _ :: _ :: _ :: _ :: _, hl => by simp at hl
theorem allP_5 {pa0 pa1 pa2 pa3 pa4 : AV → Prop} {Q : List AV → Prop} (h : ∀ a0 a1 a2 a3 a4, pa0 a0 → pa1 a1 → pa2 a2 → pa3 a3 → pa4 a4 → Q [a0, a1, a2, a3, a4]) : ∀ l, AllP [pa0, pa1, pa2, pa3, pa4] l → Q l
  | [a0, a1, a2, a3, a4], ha => h a0 a1 a2 a3 a4 ha.1 ha.2.1 ha.2.2.1 ha.2.2.2.1 ha.2.2.2.2.1
  | [], ha => (ha : False).elim
  | [_], ha => (ha.2 : False).elim
  | [_, _], ha => (ha.2.2 : False).elim
  | [_, _, _], ha => (ha.2.2.2 : False).elim
  | [_, _, _, _], ha => (ha.2.2.2.2 : False).elim
  | _ :: _ :: _ :: _ :: _ :: _ :: _, ha => (ha.2.2.2.2.2 : False).elim
theorem len_5 {T : Type} {Q : List T → Prop} (h : ∀ a0 a1 a2 a3 a4, Q [a0, a1, a2, a3, a4]) : ∀ l : List T, l.length = 5 → Q l
  | [a0, a1, a2, a3, a4], _ => h a0 a1 a2 a3 a4
  | [], hl => by simp at hl
  | [_], hl => by simp at hl
  | [_, _], hl => by simp at hl
  | [_, _, _], hl => by simp at hl
  | [_, _, _, _], hl => by simp at hl
  | _ :: _ :: _ :: _ :: _ :: _ :: _, hl => by simp at hl
theorem allP_6 {pa0 pa1 pa2 pa3 pa4 pa5 : AV → Prop} {Q : List AV → Prop} (h : ∀ a0 a1 a2 a3 a4 a5, pa0 a0 → pa1 a1 → pa2 a2 → pa3 a3 → pa4 a4 → pa5 a5 → Q [a0, a1, a2, a3, a4, a5]) : ∀ l, AllP [pa0, pa1, pa2, pa3, pa4, pa5] l → Q l
  | [a0, a1, a2, a3, a4, a5], ha => h a0 a1 a2 a3 a4 a5 ha.1 ha.2.1 ha.2.2.1 ha.2.2.2.1 ha.2.2.2.2.1 ha.2.2.2.2.2.1
  | [], ha => (ha : False).elim
  | [_], ha => (ha.2 : False).elim
  | [_, _], ha => (ha.2.2 : False).elim
  | [_, _, _], ha => (ha.2.2.2 : False).elim
  | [_, _, _, _], ha => (ha.2.2.2.2 : False).elim
  | [_, _, _, _, _], ha => (ha.2.2.2.2.2 : False).elim
  | _ :: _ :: _ :: _ :: _ :: _ :: _ :: _, ha => (ha.2.2.2.2.2.2 : False).elim
theorem len_6 {T : Type} {Q : List T → Prop} (h : ∀ a0 a1 a2 a3 a4 a5, Q [a0, a1, a2, a3, a4, a5]) : ∀ l : List T, l.length = 6 → Q l
  | [a0, a1, a2, a3, a4, a5], _ => h a0 a1 a2 a3 a4 a5
  | [], hl => by simp at hl
  | [_], hl => by simp at hl
  | [_, _], hl => by simp at hl
  | [_, _, _], hl => by simp at hl
  | [_, _, _, _], hl => by simp at hl
  | [_, _, _, _, _], hl => by simp at hl
  | _ :: _ :: _ :: _ :: _ :: _ :: _ :: _, hl => by simp at hl
theorem allP_7 {pa0 pa1 pa2 pa3 pa4 pa5 pa6 : AV → Prop} {Q : List AV → Prop} (h : ∀ a0 a1 a2 a3 a4 a5 a6, pa0 a0 → pa1 a1 → pa2 a2 → pa3 a3 → pa4 a4 → pa5 a5 → pa6 a6 → Q [a0, a1, a2, a3, a4, a5, a6]) : ∀ l, AllP [pa0, pa1, pa2, pa3, pa4, pa5, pa6] l → Q l
  | [a0, a1, a2, a3, a4, a5, a6], ha => h a0 a1 a2 a3 a4 a5 a6 ha.1 ha.2.1 ha.2.2.1 ha.2.2.2.1 ha.2.2.2.2.1 ha.2.2.2.2.2.1 ha.2.2.2.2.2.2.1
  | [], ha => (ha : False).elim
  | [_], ha => (ha.2 : False).elim
  | [_, _], ha => (ha.2.2 : False).elim
  | [_, _, _], ha => (ha.2.2.2 : False).elim
  | [_, _, _, _], ha => (ha.2.2.2.2 : False).elim
  | [_, _, _, _, _], ha => (ha.2.2.2.2.2 : False).elim
  | [_, _, _, _, _, _], ha => (ha.2.2.2.2.2.2 : False).elim
  | _ :: _ :: _ :: _ :: _ :: _ :: _ :: _ :: _, ha => (ha.2.2.2.2.2.2.2 : False).elim
theorem len_7 {T : Type} {Q : List T → Prop} (h : ∀ a0 a1 a2 a3 a4 a5 a6, Q [a0, a1, a2, a3, a4, a5, a6]) : ∀ l : List T, l.length = 7 → Q l
  | [a0, a1, a2, a3, a4, a5, a6], _ => h a0 a1 a2 a3 a4 a5 a6
  | [], hl => by simp at hl
  | [_], hl => by simp at hl
  | [_, _], hl => by simp at hl
  | [_, _, _], hl => by simp at hl
  | [_, _, _, _], hl => by simp at hl
  | [_, _, _, _, _], hl => by simp at hl
  | [_, _, _, _, _, _], hl => by simp at hl
  | _ :: _ :: _ :: _ :: _ :: _ :: _ :: _ :: _, hl => by simp at hl
theorem allP_8 {pa0 pa1 pa2 pa3 pa4 pa5 pa6 pa7 : AV → Prop} {Q : List AV → Prop} (h : ∀ a0 a1 a2 a3 a4 a5 a6 a7, pa0 a0 → pa1 a1 → pa2 a2 → pa3 a3 → pa4 a4 → pa5 a5 → pa6 a6 → pa7 a7 → Q [a0, a1, a2, a3, a4, a5, a6, a7]) : ∀ l, AllP [pa0, pa1, pa2, pa3, pa4, pa5, pa6, pa7] l → Q l
  | [a0, a1, a2, a3, a4, a5, a6, a7], ha => h a0 a1 a2 a3 a4 a5 a6 a7 ha.1 ha.2.1 ha.2.2.1 ha.2.2.2.1 ha.2.2.2.2.1 ha.2.2.2.2.2.1 ha.2.2.2.2.2.2.1 ha.2.2.2.2.2.2.2.1
  | [], ha => (ha : False).elim
  | [_], ha => (ha.2 : False).elim
  | [_, _], ha => (ha.2.2 : False).elim
  | [_, _, _], ha => (ha.2.2.2 : False).elim
  | [_, _, _, _], ha => (ha.2.2.2.2 : False).elim
  | [_, _, _, _, _], ha => (ha.2.2.2.2.2 : False).elim
  | [_, _, _, _, _, _], ha => (ha.2.2.2.2.2.2 : False).elim
  | [_, _, _, _, _, _, _], ha => (ha.2.2.2.2.2.2.2 : False).elim
  | _ :: _ :: _ :: _ :: _ :: _ :: _ :: _ :: _ :: _, ha => (ha.2.2.2.2.2.2.2.2 : False).elim
theorem len_8 {T : Type} {Q : List T → Prop} (h : ∀ a0 a1 a2 a3 a4 a5 a6 a7, Q [a0, a1, a2, a3, a4, a5, a6, a7]) : ∀ l : List T, l.length = 8 → Q l
  | [a0, a1, a2, a3, a4, a5, a6, a7], _ => h a0 a1 a2 a3 a4 a5 a6 a7
  | [], hl => by simp at hl
  | [_], hl => by simp at hl
  | [_, _], hl => by simp at hl
  | [_, _, _], hl => by simp at hl
  | [_, _, _, _], hl => by simp at hl
  | [_, _, _, _, _], hl => by simp at hl
  | [_, _, _, _, _, _], hl => by simp at hl
  | [_, _, _, _, _, _, _], hl => by simp at hl
  | _ :: _ :: _ :: _ :: _ :: _ :: _ :: _ :: _ :: _, hl => by simp at hl
theorem allP_9 {pa0 pa1 pa2 pa3 pa4 pa5 pa6 pa7 pa8 : AV → Prop} {Q : List AV → Prop} (h : ∀ a0 a1 a2 a3 a4 a5 a6 a7 a8, pa0 a0 → pa1 a1 → pa2 a2 → pa3 a3 → pa4 a4 → pa5 a5 → pa6 a6 → pa7 a7 → pa8 a8 → Q [a0, a1, a2, a3, a4, a5, a6, a7, a8]) : ∀ l, AllP [pa0, pa1, pa2, pa3, pa4, pa5, pa6, pa7, pa8] l → Q l
  | [a0, a1, a2, a3, a4, a5, a6, a7, a8], ha => h a0 a1 a2 a3 a4 a5 a6 a7 a8 ha.1 ha.2.1 ha.2.2.1 ha.2.2.2.1 ha.2.2.2.2.1 ha.2.2.2.2.2.1 ha.2.2.2.2.2.2.1 ha.2.2.2.2.2.2.2.1 ha.2.2.2.2.2.2.2.2.1
  | [], ha => (ha : False).elim
  | [_], ha => (ha.2 : False).elim
  | [_, _], ha => (ha.2.2 : False).elim
  | [_, _, _], ha => (ha.2.2.2 : False).elim
  | [_, _, _, _], ha => (ha.2.2.2.2 : False).elim
  | [_, _, _, _, _], ha => (ha.2.2.2.2.2 : False).elim
  | [_, _, _, _, _, _], ha => (ha.2.2.2.2.2.2 : False).elim
  | [_, _, _, _, _, _, _], ha => (ha.2.2.2.2.2.2.2 : False).elim
  | [_, _, _, _, _, _, _, _], ha => (ha.2.2.2.2.2.2.2.2 : False).elim
  | _ :: _ :: _ :: _ :: _ :: _ :: _ :: _ :: _ :: _ :: _, ha => (ha.2.2.2.2.2.2.2.2.2 : False).elim
theorem len_9 {T : Type} {Q : List T → Prop} (h : ∀ a0 a1 a2 a3 a4 a5 a6 a7 a8, Q [a0, a1, a2, a3, a4, a5, a6, a7, a8]) : ∀ l : List T, l.length = 9 → Q l
  | [a0, a1, a2, a3, a4, a5, a6, a7, a8], _ => h a0 a1 a2 a3 a4 a5 a6 a7 a8
  | [], hl => by simp at hl
  | [_], hl => by simp at hl
  | [_, _], hl => by simp at hl
  | [_, _, _], hl => by simp at hl
  | [_, _, _, _], hl => by simp at hl
  | [_, _, _, _, _], hl => by simp at hl
  | [_, _, _, _, _, _], hl => by simp at hl
  | [_, _, _, _, _, _, _], hl => by simp at hl
  | [_, _, _, _, _, _, _, _], hl => by simp at hl
  | _ :: _ :: _ :: _ :: _ :: _ :: _ :: _ :: _ :: _ :: _, hl => by simp at hl
theorem allP_10 {pa0 pa1 pa2 pa3 pa4 pa5 pa6 pa7 pa8 pa9 : AV → Prop} {Q : List AV → Prop} (h : ∀ a0 a1 a2 a3 a4 a5 a6 a7 a8 a9, pa0 a0 → pa1 a1 → pa2 a2 → pa3 a3 → pa4 a4 → pa5 a5 → pa6 a6 → pa7 a7 → pa8 a8 → pa9 a9 → Q [a0, a1, a2, a3, a4, a5, a6, a7, a8, a9]) : ∀ l, AllP [pa0, pa1, pa2, pa3, pa4, pa5, pa6, pa7, pa8, pa9] l → Q l
  | [a0, a1, a2, a3, a4, a5, a6, a7, a8, a9], ha => h a0 a1 a2 a3 a4 a5 a6 a7 a8 a9 ha.1 ha.2.1 ha.2.2.1 ha.2.2.2.1 ha.2.2.2.2.1 ha.2.2.2.2.2.1 ha.2.2.2.2.2.2.1 ha.2.2.2.2.2.2.2.1 ha.2.2.2.2.2.2.2.2.1 ha.2.2.2.2.2.2.2.2.2.1
  | [], ha => (ha : False).elim
  | [_], ha => (ha.2 : False).elim
  | [_, _], ha => (ha.2.2 : False).elim
  | [_, _, _], ha => (ha.2.2.2 : False).elim
  | [_, _, _, _], ha => (ha.2.2.2.2 : False).elim
  | [_, _, _, _, _], ha => (ha.2.2.2.2.2 : False).elim
  | [_, _, _, _, _, _], ha => (ha.2.2.2.2.2.2 : False).elim
  | [_, _, _, _, _, _, _], ha => (ha.2.2.2.2.2.2.2 : False).elim
  | [_, _, _, _, _, _, _, _], ha => (ha.2.2.2.2.2.2.2.2 : False).elim
  | [_, _, _, _, _, _, _, _, _], ha => (ha.2.2.2.2.2.2.2.2.2 : False).elim
  | _ :: _ :: _ :: _ :: _ :: _ :: _ :: _ :: _ :: _ :: _ :: _, ha => (ha.2.2.2.2.2.2.2.2.2.2 : False).elim
theorem len_10 {T : Type} {Q : List T → Prop} (h : ∀ a0 a1 a2 a3 a4 a5 a6 a7 a8 a9, Q [a0, a1, a2, a3, a4, a5, a6, a7, a8, a9]) : ∀ l : List T, l.length = 10 → Q l
  | [a0, a1, a2, a3, a4, a5, a6, a7, a8, a9], _ => h a0 a1 a2 a3 a4 a5 a6 a7 a8 a9
  | [], hl => by simp at hl
  | [_], hl => by simp at hl
  | [_, _], hl => by simp at hl
  | [_, _, _], hl => by simp at hl
  | [_, _, _, _], hl => by simp at hl
  | [_, _, _, _, _], hl => by simp at hl
  | [_, _, _, _, _, _], hl => by simp at hl
  | [_, _, _, _, _, _, _], hl => by simp at hl
  | [_, _, _, _, _, _, _, _], hl => by simp at hl
  | [_, _, _, _, _, _, _, _, _], hl => by simp at hl
  | _ :: _ :: _ :: _ :: _ :: _ :: _ :: _ :: _ :: _ :: _ :: _, hl => by simp at hl
theorem allP_11 {pa0 pa1 pa2 pa3 pa4 pa5 pa6 pa7 pa8 pa9 pa10 : AV → Prop} {Q : List AV → Prop} (h : ∀ a0 a1 a2 a3 a4 a5 a6 a7 a8 a9 a10, pa0 a0 → pa1 a1 → pa2 a2 → pa3 a3 → pa4 a4 → pa5 a5 → pa6 a6 → pa7 a7 → pa8 a8 → pa9 a9 → pa10 a10 → Q [a0, a1, a2, a3, a4, a5, a6, a7, a8, a9, a10]) : ∀ l, AllP [pa0, pa1, pa2, pa3, pa4, pa5, pa6, pa7, pa8, pa9, pa10] l → Q l
  | [a0, a1, a2, a3, a4, a5, a6, a7, a8, a9, a10], ha => h a0 a1 a2 a3 a4 a5 a6 a7 a8 a9 a10 ha.1 ha.2.1 ha.2.2.1 ha.2.2.2.1 ha.2.2.2.2.1 ha.2.2.2.2.2.1 ha.2.2.2.2.2.2.1 ha.2.2.2.2.2.2.2.1 ha.2.2.2.2.2.2.2.2.1 ha.2.2.2.2.2.2.2.2.2.1 ha.2.2.2.2.2.2.2.2.2.2.1
  | [], ha => (ha : False).elim
  | [_], ha => (ha.2 : False).elim
  | [_, _], ha => (ha.2.2 : False).elim
  | [_, _, _], ha => (ha.2.2.2 : False).elim
  | [_, _, _, _], ha => (ha.2.2.2.2 : False).elim
  | [_, _, _, _, _], ha => (ha.2.2.2.2.2 : False).elim
  | [_, _, _, _, _, _], ha => (ha.2.2.2.2.2.2 : False).elim
  | [_, _, _, _, _, _, _], ha => (ha.2.2.2.2.2.2.2 : False).elim
  | [_, _, _, _, _, _, _, _], ha => (ha.2.2.2.2.2.2.2.2 : False).elim
  | [_, _, _, _, _, _, _, _, _], ha => (ha.2.2.2.2.2.2.2.2.2 : False).elim
  | [_, _, _, _, _, _, _, _, _, _], ha => (ha.2.2.2.2.2.2.2.2.2.2 : False).elim
  | _ :: _ :: _ :: _ :: _ :: _ :: _ :: _ :: _ :: _ :: _ :: _ :: _, ha => (ha.2.2.2.2.2.2.2.2.2.2.2 : False).elim
theorem len_11 {T : Type} {Q : List T → Prop} (h : ∀ a0 a1 a2 a3 a4 a5 a6 a7 a8 a9 a10, Q [a0, a1, a2, a3, a4, a5, a6, a7, a8, a9, a10]) : ∀ l : List T, l.length = 11 → Q l
  | [a0, a1, a2, a3, a4, a5, a6, a7, a8, a9, a10], _ => h a0 a1 a2 a3 a4 a5 a6 a7 a8 a9 a10
  | [], hl => by simp at hl
  | [_], hl => by simp at hl
  | [_, _], hl => by simp at hl
  | [_, _, _], hl => by simp at hl
  | [_, _, _, _], hl => by simp at hl
  | [_, _, _, _, _], hl => by simp at hl
  | [_, _, _, _, _, _], hl => by simp at hl
  | [_, _, _, _, _, _, _], hl => by simp at hl
  | [_, _, _, _, _, _, _, _], hl => by simp at hl
  | [_, _, _, _, _, _, _, _, _], hl => by simp at hl
  | [_, _, _, _, _, _, _, _, _, _], hl => by simp at hl
  | _ :: _ :: _ :: _ :: _ :: _ :: _ :: _ :: _ :: _ :: _ :: _ :: _, hl => by simp at hl

end Go.Vai

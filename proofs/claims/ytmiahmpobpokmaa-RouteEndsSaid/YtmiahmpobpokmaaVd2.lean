/- Cells that are filled in; structs that are compared. -/
import Derived.Test.YtmiahmpobpokmaaVd
import Derived.Laws.StructEq
namespace Go.Vai
open Go.RowKit

variable {P : Program} {w : World} {ρ : Nat → Option Nat} {Im : Nat → Prop} {E : Env} {σ : Store} {a : Act}

theorem atom_one {v : AV} {y : Value} (h : v.atom = true) (hr : Rep w ρ Im v y) : y.oneCell' = true := by
  cases v with
  | v x => rw [hr.v_inv]; exact h
  | any => simp [AV.atom] at h
  | agg => simp [AV.atom] at h
  | new => simp [AV.atom] at h
  | nptr => simp [AV.atom] at h
  | yld => simp [AV.atom] at h
  | tup => simp [AV.atom] at h
  | sl => cases hr with | im _ _ hr => cases hr <;> rfl
  | pt => cases hr with | im _ _ hr => cases hr <;> rfl
  | own => cases hr with
    | im _ _ hr => cases hr
    | _ => rfl
  | ptr => cases hr with
    | im _ _ hr => cases hr
    | _ => rfl
  | mp => cases hr with | im _ _ hr => cases hr <;> rfl
  | mref => cases hr with
    | im _ _ hr => cases hr
    | _ => rfl
  | clo => obtain ⟨ys, rfl, _⟩ := hr.clo_inv; rfl

theorem cells_rep {v : AV} {y : Value} (h : v.ok = true) (hr : Rep w ρ Im v y) : ∃ ys : List Value, y.cells = ys.toArray ∧ Reps w ρ Im v.cells ys ∧ ∀ z ∈ ys, z.oneCell' = true := by
  have single : v.atom = true → v.cells = [v] → ∃ ys : List Value, y.cells = ys.toArray ∧ Reps w ρ Im v.cells ys ∧ ∀ z ∈ ys, z.oneCell' = true := fun ha hc => by
    have h1 := atom_one ha hr
    refine ⟨[y], ?_, ⟨by rw [hc]; rfl, fun j c z hj hz => ?_⟩, by simpa using h1⟩
    · cases y <;> first | rfl | (simp [Value.oneCell'] at h1)
    · rw [hc] at hj
      cases j with
      | zero => simp at hj hz; subst hj; subst hz; exact hr
      | succ j => simp at hj
  cases v with
  | agg cs =>
    obtain ⟨ys, rfl, hl, h1, hh⟩ := hr.agg_inv
    exact ⟨ys, rfl, ⟨hl, hh⟩, h1⟩
  | _ => exact single h rfl

/-- Filling cells in. -/
theorem splice_get (off : Nat) : ∀ (l : List Value) (i : Nat) (cells : Array Value), off + i + l.length ≤ cells.size → ∀ k,
    ((l.zipIdx i).foldl (fun (cs : Array Value) (x : Value × Nat) => cs.setIfInBounds (off + x.2) x.1) cells)[k]? = if off + i ≤ k ∧ k < off + i + l.length then l[k - (off + i)]? else cells[k]?
  | [], i, cells, _, k => by simp; intro h1 h2; omega
  | x :: l, i, cells, h, k => by
    simp only [List.zipIdx_cons, List.foldl_cons, List.length_cons] at h ⊢
    rw [splice_get off l (i + 1) (cells.setIfInBounds (off + i) x) (by rw [Array.size_setIfInBounds]; omega) k]
    by_cases h1 : off + (i + 1) ≤ k ∧ k < off + (i + 1) + l.length
    · rw [if_pos h1, if_pos (by omega), show k - (off + i) = (k - (off + (i + 1))) + 1 from by omega]; simp
    · rw [if_neg h1]
      by_cases h2 : k = off + i
      · subst h2; rw [if_pos (by omega), Array.getElem?_setIfInBounds_self_of_lt (by omega)]; simp
      · rw [if_neg (by omega), Array.getElem?_setIfInBounds_ne (by omega)]

theorem splice_size (off : Nat) : ∀ (l : List Value) (i : Nat) (cells : Array Value),
    ((l.zipIdx i).foldl (fun (cs : Array Value) (x : Value × Nat) => cs.setIfInBounds (off + x.2) x.1) cells).size = cells.size
  | [], i, cells => rfl
  | x :: l, i, cells => by simp only [List.zipIdx_cons, List.foldl_cons]; rw [splice_size]; simp

/-- Pairs of places and values. -/
def Pairs (w : World) (ρ : Nat → Option Nat) (Im : Nat → Prop) : List (Nat × AV) → List (Nat × Value) → Prop
  | [], [] => True
  | (i, v) :: r, (j, y) :: s => i = j ∧ Rep w ρ Im v y ∧ Pairs w ρ Im r s
  | _, _ => False

theorem fill_sound {place : Nat → Option (Nat × Nat)} : ∀ (pa : List (Nat × AV)) (pv : List (Nat × Value)) (cs cs' : List AV) (ys : List Value), Pairs w ρ Im pa pv → fillA place cs pa = some cs' →
    Reps w ρ Im cs ys → (∀ y ∈ ys, y.oneCell' = true) → ∃ ys' : List Value, Instr.fill place ys.toArray pv = some ys'.toArray ∧ Reps w ρ Im cs' ys' ∧ ∀ y ∈ ys', y.oneCell' = true
  | [], [], cs, cs', ys, _, hf, hr, h1 => by simp [fillA] at hf; subst hf; exact ⟨ys, rfl, hr, h1⟩
  | [], _ :: _, _, _, _, hp, _, _, _ => by simp [Pairs] at hp
  | _ :: _, [], _, _, _, hp, _, _, _ => by simp [Pairs] at hp
  | (i, v) :: r, (j, y) :: s, cs, cs', ys, hp, hf, hr, h1 => by
    obtain ⟨rfl, hv, hp⟩ := hp
    simp only [fillA] at hf
    cases hpl : place i with
    | none => simp [hpl] at hf
    | some q =>
      obtain ⟨off, size⟩ := q
      simp only [hpl] at hf
      split at hf
      · rename_i hc
        obtain ⟨hl, hle, hok⟩ := hc
        obtain ⟨zs, hy, hrz, hz1⟩ := cells_rep hok hv
        have hzl : zs.length = size := by rw [← hrz.1]; exact hl
        have hyl : ys.length = cs.length := hr.1.symm
        have hnew : (y.cells.zipIdx.foldl (fun cs (x : Value × Nat) => cs.setIfInBounds (off + x.2) x.1) ys.toArray) = (ys.take off ++ zs ++ ys.drop (off + size)).toArray := by
          rw [hy]
          have hfold : (zs.toArray.zipIdx.foldl (fun (cs : Array Value) (x : Value × Nat) => cs.setIfInBounds (off + x.2) x.1) ys.toArray) = ((zs.zipIdx 0).foldl (fun (cs : Array Value) (x : Value × Nat) => cs.setIfInBounds (off + x.2) x.1) ys.toArray) := by simp
          rw [hfold]
          apply Array.ext_getElem?
          intro k
          rw [splice_get off zs 0 _ (by simp; omega)]
          simp only [Nat.add_zero, List.getElem?_toArray]
          by_cases hk : off ≤ k ∧ k < off + zs.length
          · rw [if_pos hk, List.getElem?_append_left (by simp; omega), List.getElem?_append_right (by simp; omega)]
            simp [List.length_take, Nat.min_eq_left (show off ≤ ys.length by omega)]
          · rw [if_neg hk]
            by_cases hk2 : k < off
            · rw [List.append_assoc, List.getElem?_append_left (by simp; omega), List.getElem?_take, if_pos hk2]
            · rw [List.getElem?_append_right (by simp; omega), List.getElem?_drop]
              congr 1; simp [Nat.min_eq_left (show off ≤ ys.length by omega)]; omega
        have q1 : Reps w ρ Im (cs.take off ++ v.cells ++ cs.drop (off + size)) (ys.take off ++ zs ++ ys.drop (off + size)) := by
          refine ⟨by simp [hl, hzl, hyl], fun k c z hk hz => ?_⟩
          by_cases hk1 : k < off
          · rw [List.append_assoc, List.getElem?_append_left (by simp; omega), List.getElem?_take, if_pos hk1] at hk hz
            exact hr.2 k c z hk hz
          · by_cases hk2 : k < off + size
            · rw [List.getElem?_append_left (by simp; omega), List.getElem?_append_right (by simp; omega)] at hk hz
              simp only [List.length_take, Nat.min_eq_left (show off ≤ cs.length by omega)] at hk
              simp only [List.length_take, Nat.min_eq_left (show off ≤ ys.length by omega)] at hz
              exact hrz.2 _ c z hk hz
            · rw [List.getElem?_append_right (by simp; omega), List.getElem?_drop] at hk hz
              simp only [List.length_append, List.length_take, Nat.min_eq_left (show off ≤ cs.length by omega), hl] at hk
              simp only [List.length_append, List.length_take, Nat.min_eq_left (show off ≤ ys.length by omega), hzl] at hz
              exact hr.2 _ c z hk hz
        have q2 : ∀ z ∈ ys.take off ++ zs ++ ys.drop (off + size), z.oneCell' = true := by
          intro z hz
          simp only [List.mem_append] at hz
          rcases hz with (hz | hz) | hz
          · exact h1 z (List.mem_of_mem_take hz)
          · exact hz1 z hz
          · exact h1 z (List.mem_of_mem_drop hz)
        obtain ⟨ys', hfill, hr', h1'⟩ := fill_sound r s _ cs' _ hp hf q1 q2
        refine ⟨ys', ?_, hr', h1'⟩
        have hsz : y.cells.size = size := by rw [hy]; simpa using hzl
        have hng : ¬ (off + size > ys.toArray.size) := by simp; omega
        simp only [Instr.fill, hpl, hsz, ne_eq, not_true_eq_false, decide_false, Bool.false_or, hng, Bool.false_eq_true, if_false]
        rw [hnew]; exact hfill
      · cases hf

theorem tz_of {t : TypeId} {z : Value} (h : tz P t = some z) : ∃ i, P.info? t = some i ∧ i.zero = some z ∧ i.size = tsz P t ∧ i.bytes = tby P t := by
  unfold tz at h
  cases hi : P.info? t with
  | none => simp [hi] at h
  | some i => simp [hi] at h; exact ⟨i, rfl, h, by simp [tsz, hi], by simp [tby, hi]⟩

theorem run_zero {t : TypeId} {z : Value} (h : tz P t = some z) (w : World) : (zeroValue t).run P w = .ok z w := by
  obtain ⟨i, hi, hz, _⟩ := tz_of h
  simp [zeroValue, typeInfo, hi, hz]

theorem Value.cells_ofC {z : Value} (h : (ofC z).ok = true) : ∃ ys : List Value, z.cells = ys.toArray ∧ (ofC z).cells.length = ys.length ∧ (∀ y ∈ ys, y.oneCell' = true) ∧ ∀ (w : World) (ρ : Nat → Option Nat) (Im : Nat → Prop), Reps w ρ Im (ofC z).cells ys := by
  obtain ⟨ys, h1, h2, h3⟩ := cells_rep (w := default) (ρ := fun _ => none) (Im := fun _ => False) h (ofC_rep z)
  refine ⟨ys, h1, h2.1, h3, fun w ρ Im => ?_⟩
  obtain ⟨ys', h1', h2', _⟩ := cells_rep (w := w) (ρ := ρ) (Im := Im) h (ofC_rep z)
  rw [h1] at h1'
  have : ys = ys' := by simpa using h1'
  rw [this]; exact h2'

theorem pairs_of (h : EnvRep w ρ Im E a.tmps) : ∀ (l : List (Nat × Operand)), (∀ p ∈ l, Operand.low a.tmps.size p.2 = true) → Pairs w ρ Im (l.map fun p => (p.1, ev E p.2)) (l.map fun p => (p.1, a.eval p.2))
  | [], _ => trivial
  | p :: l, hl => ⟨rfl, ev_rep h (hl p (by simp)), pairs_of h l fun q hq => hl q (by simp [hq])⟩


theorem tkind_run {t : TypeId} {k : Nat} (h : tkind P t = some k) : (k = 0 ∧ ∃ q, P.underlying t = some (.int q)) ∨ (k = 1 ∧ P.underlying t = some .bool) ∨ (k = 2 ∧ P.underlying t = some .string) := by
  unfold tkind at h
  split at h
  · rename_i q hu; simp at h; exact .inl ⟨h.symm, q, hu⟩
  · rename_i hu; simp at h; exact .inr (.inl ⟨h.symm, hu⟩)
  · rename_i hu; simp at h; exact .inr (.inr ⟨h.symm, hu⟩)
  · cases h

theorem part_scalar {t : TypeId} {xs : List Value} {i : Nat} {y : Value} (hu : (isAgg t).run P w = .ok false w) (h : xs[i]? = some y) : (part t xs.toArray i).run P w = .ok y w := by
  simp only [part, Sem.run_bind, hu, Result.andThen_ok, Bool.false_eq_true, if_false]
  simp [h]

theorem eqK_sound (d : Nat) : ∀ (fs : List Field) (i : Nat) (ks : List Nat) (cs ds : List AV) (b : Bool) (xs ys : List Value), fieldKinds P i fs = some ks → eqK ks (cs.drop i) (ds.drop i) = some b →
    Reps w ρ Im cs xs → Reps w ρ Im ds ys → (Op.eqFields (d + 1) xs.toArray ys.toArray fs).run P w = .ok b w
  | [], i, ks, cs, ds, b, xs, ys, hk, he, _, _ => by
    simp [fieldKinds] at hk; subst hk
    unfold eqK at he
    split at he <;> simp_all [Op.eqFields]
  | f :: fs, i, ks, cs, ds, b, xs, ys, hk, he, hx, hy => by
    simp only [fieldKinds] at hk
    split at hk
    · rename_i hf
      simp only [Bool.and_eq_true, bne_iff_ne, ne_eq, beq_iff_eq] at hf
      obtain ⟨hname, hoff⟩ := hf
      cases hkk : tkind P f.type with
      | none => simp [hkk] at hk
      | some k =>
        simp only [hkk, Option.bind_some, Option.map_eq_some_iff] at hk
        obtain ⟨ks', hks, rfl⟩ := hk
        -- the heads
        have head : ∀ (zs : List AV) (us : List Value), Reps w ρ Im zs us → ∀ c r, zs.drop i = c :: r → ∃ u, us[i]? = some u ∧ Rep w ρ Im c u ∧ zs.drop (i + 1) = r := fun zs us hr c r hd => by
          have hc : zs[i]? = some c := by have := List.getElem?_drop (xs := zs) (i := i) (j := 0); rw [hd] at this; simpa using this.symm
          have hlt : i < us.length := by rw [← hr.1]; exact (List.getElem?_eq_some_iff.1 hc).1
          exact ⟨us[i], List.getElem?_eq_getElem hlt, hr.2 i c _ hc (List.getElem?_eq_getElem hlt), by rw [show zs.drop (i + 1) = (zs.drop i).drop 1 from by rw [List.drop_drop], hd]; rfl⟩
        have fin : ∀ (u v : Value) (q : Bool) (r s : List AV) (b' : Bool), xs[i]? = some u → ys[i]? = some v → (isAgg f.type).run P w = .ok false w → (Op.equalIn (d + 1) f.type u v).run P w = .ok q w →
            cs.drop (i + 1) = r → ds.drop (i + 1) = s → eqK ks' r s = some b' → b = (q && b') → (Op.eqFields (d + 1) xs.toArray ys.toArray (f :: fs)).run P w = .ok b w := by
          rintro u v q r s b' hu hv ha hq rfl rfl hb' rfl
          have ih := eqK_sound d fs (i + 1) ks' cs ds b' xs ys hks hb' hx hy
          simp only [Op.eqFields, ne_eq, hname, not_false_eq_true, if_true, Sem.run_bind, hoff, part_scalar ha hu, part_scalar ha hv, Result.andThen_ok, hq]
          cases q
          · simp
          · simpa using ih
        have agg : ∀ dd, P.underlying f.type = some dd → (match dd with | .struct _ => False | .array _ _ => False | _ => True) → (isAgg f.type).run P w = .ok false w := fun dd hu hd => by
          unfold isAgg; rw [Sem.run_bind, run_underlying hu w]; cases dd <;> simp_all
        rcases tkind_run hkk with ⟨rfl, q, hu⟩ | ⟨rfl, hu⟩ | ⟨rfl, hu⟩
        · generalize hcd : cs.drop i = zc at he
          generalize hdd : ds.drop i = zd at he
          unfold eqK at he
          split at he
          · simp_all
          · rename_i ks2 k1 m r k2 n s e1 
            simp only [List.cons.injEq, true_and] at e1; subst e1
            split at he
            · rename_i hkeq; subst hkeq
              simp only [Option.map_eq_some_iff] at he
              obtain ⟨b', hb', rfl⟩ := he
              obtain ⟨u, hu1, hu2, hu3⟩ := head cs xs hx _ _ hcd
              obtain ⟨v, hv1, hv2, hv3⟩ := head ds ys hy _ _ hdd
              have hu2 := hu2.v_inv; have hv2 := hv2.v_inv
              subst hu2; subst hv2
              exact fin _ _ _ r s b' hu1 hv1 (agg _ hu trivial) (run_equalIn_int w d f.type k1 q m n hu) hu3 hv3 hb' rfl
            · cases he
          · simp_all
          · simp_all
          · cases he
        · generalize hcd : cs.drop i = zc at he
          generalize hdd : ds.drop i = zd at he
          unfold eqK at he
          split at he
          · simp_all
          · simp_all
          · rename_i ks2 m r n s e1
            simp only [List.cons.injEq, true_and] at e1; subst e1
            simp only [Option.map_eq_some_iff] at he
            obtain ⟨b', hb', rfl⟩ := he
            obtain ⟨u, hu1, hu2, hu3⟩ := head cs xs hx _ _ hcd
            obtain ⟨v, hv1, hv2, hv3⟩ := head ds ys hy _ _ hdd
            have hu2 := hu2.v_inv; have hv2 := hv2.v_inv
            subst hu2; subst hv2
            exact fin _ _ _ r s b' hu1 hv1 (agg _ hu trivial) (run_equalIn_bool' w d f.type m n hu) hu3 hv3 hb' rfl
          · simp_all
          · cases he
        · generalize hcd : cs.drop i = zc at he
          generalize hdd : ds.drop i = zd at he
          unfold eqK at he
          split at he
          · simp_all
          · simp_all
          · simp_all
          · rename_i ks2 m r n s e1
            simp only [List.cons.injEq, true_and] at e1; subst e1
            simp only [Option.map_eq_some_iff] at he
            obtain ⟨b', hb', rfl⟩ := he
            obtain ⟨u, hu1, hu2, hu3⟩ := head cs xs hx _ _ hcd
            obtain ⟨v, hv1, hv2, hv3⟩ := head ds ys hy _ _ hdd
            have hu2 := hu2.v_inv; have hv2 := hv2.v_inv
            subst hu2; subst hv2
            exact fin _ _ _ r s b' hu1 hv1 (agg _ hu trivial) (run_equalIn_string w d f.type m n hu) hu3 hv3 hb' rfl
          · cases he
    · cases hk

theorem teq_of {t : TypeId} {ks : List Nat} (h : teq P t = some ks) : P.underlying t = some (.struct (P.fieldsOf t)) ∧ P.stoodInHeld t = false ∧ P.eqGuardType P.depth t = false ∧ fieldKinds P 0 (P.fieldsOf t).toList = some ks := by
  unfold teq at h
  split at h
  · rename_i fs hu
    split at h
    · cases h
    · rename_i hc
      simp only [Bool.or_eq_true, not_or, Bool.not_eq_true] at hc
      have hf : P.fieldsOf t = fs := by simp [Program.fieldsOf, hu]
      rw [hf]; exact ⟨hu, hc.1, hc.2, h⟩
  · cases h

theorem structEq_run {t : TypeId} {ks : List Nat} {cs ds : List AV} {b : Bool} {xs ys : List Value} (h : teq P t = some ks) (he : eqK ks cs ds = some b) (hx : Reps w ρ Im cs xs) (hy : Reps w ρ Im ds ys) (op : BinOp) (ox oy : Operand) :
    (eqGuard op t ox oy (.agg xs.toArray) (.agg ys.toArray)).run P w = .ok () w ∧ (binOp .eql t (.agg xs.toArray) (.agg ys.toArray)).run P w = .ok (.bool b) w ∧ (binOp .neq t (.agg xs.toArray) (.agg ys.toArray)).run P w = .ok (.bool (!b)) w := by
  obtain ⟨hu, hs, hg, hk⟩ := teq_of h
  have hr : (Op.equalIn 10000 t (.agg xs.toArray) (.agg ys.toArray)).run P w = .ok b w := by
    rw [show (10000 : Nat) = 9999 + 1 from rfl, run_equalIn_agg w 9999 t _ _ hu hs]
    exact eqK_sound 9998 _ 0 ks cs ds b xs ys hk (by simpa using he) hx hy
  exact ⟨run_eqGuard_agg w op t ox oy _ _ hg, by rw [run_eql_struct, hr]; rfl, by rw [run_neq_struct, hr]; rfl⟩

end Go.Vai

/- A heap-free account of the walk, fourth part -/
import Derived.Test.YtndhglacgiidbaaGreatDoorKC
import Derived.ProofKit
import Derived.OpenShut
import Derived.KernelRfl
import Derived.MapKept
set_option linter.unusedVariables false
set_option linter.unusedSimpArgs false
namespace Go.Vai
open Go.RowKit
theorem optV_mono {o : Option AV} {K K' : AV → Prop} (hK : ∀ v, K v → K' v) (h : optV o K) : optV o K' := by
  unfold optV at h ⊢
  repeat' (first | exact h.elim | exact hK _ h | exact ⟨h.1, hK _ h.2⟩ | (split at h <;> try simp only [*]))
theorem optPt_mono {A : Prop} {o : Option AV} {K K' : AV → Prop} (hK : ∀ v, K v → K' v) (h : optPt A o K) : optPt A o K' := by
  unfold optPt at h ⊢
  repeat' (first | exact h.elim | exact hK _ h | exact ⟨h.1, hK _ h.2⟩ | (split at h <;> try simp only [*]))
theorem optU_mono {A : Prop} {o : Option UInt8} {K K' : AV → Prop} (hK : ∀ v, K v → K' v) (h : optU A o K) : optU A o K' := by
  unfold optU at h ⊢
  repeat' (first | exact h.elim | exact hK _ h | exact ⟨h.1, hK _ h.2⟩ | (split at h <;> try simp only [*]))
theorem eqlC_mono {op : BinOp} {o : Option Bool} {K K' : AV → Prop} (hK : ∀ v, K v → K' v) (h : eqlC op o K) : eqlC op o K' := by
  unfold eqlC at h ⊢
  repeat' (first | exact h.elim | exact hK _ h | exact ⟨h.1, hK _ h.2⟩ | (split at h <;> try simp only [*]))
theorem aggC_mono {op : BinOp} {q : Option (List Nat)} {cs ds : List AV} {K K' : AV → Prop} (hK : ∀ v, K v → K' v) (h : aggC op q cs ds K) : aggC op q cs ds K' := by
  unfold aggC at h ⊢
  repeat' (first | exact h.elim | exact hK _ h | exact ⟨h.1, hK _ h.2⟩ | exact eqlC_mono hK h | exact ⟨h.1, eqlC_mono hK h.2⟩ | (split at h <;> try simp only [*]))
theorem intC_mono {op : BinOp} {k : IntKind} {m : Int} {k' : IntKind} {n : Int} {K K' : AV → Prop} (hK : ∀ v, K v → K' v) (h : intC op k m k' n K) : intC op k m k' n K' := by
  unfold intC at h ⊢
  repeat' (first | exact h.elim | exact hK _ h | exact ⟨h.1, hK _ h.2⟩ | (split at h <;> try simp only [*]))
theorem strC_mono {op : BinOp} {a b : ByteArray} {K K' : AV → Prop} (hK : ∀ v, K v → K' v) (h : strC op a b K) : strC op a b K' := by
  unfold strC at h ⊢
  repeat' (first | exact h.elim | exact hK _ h | exact ⟨h.1, hK _ h.2⟩ | (split at h <;> try simp only [*]))
theorem nilC2_mono {op : BinOp} {u : AV} {q : Option TypeId} {K K' : AV → Prop} (hK : ∀ v, K v → K' v) (h : nilC2 op u q K) : nilC2 op u q K' := by
  unfold nilC2 at h ⊢
  repeat' (first | exact h.elim | exact hK _ h | exact ⟨h.1, hK _ h.2⟩ | (split at h <;> try simp only [*]))
theorem binC_mono {P : Program} {op : BinOp} {t : TypeId} {a b : AV} {K K' : AV → Prop} (hK : ∀ v, K v → K' v) (h : binC P op t a b K) : binC P op t a b K' := by
  unfold binC at h ⊢
  repeat' (first | exact h.elim | exact hK _ h | exact ⟨h.1, hK _ h.2⟩ | exact nilC2_mono hK h | exact strC_mono hK h | exact intC_mono hK h | exact aggC_mono hK h | exact ⟨h.1, nilC2_mono hK h.2⟩ | exact ⟨h.1, strC_mono hK h.2⟩ | exact ⟨h.1, intC_mono hK h.2⟩ | exact ⟨h.1, aggC_mono hK h.2⟩ | (split at h <;> try simp only [*]))
theorem partA_mono {q : Option Bool} {s : Nat} {cs : List AV} {off : Nat} {K K' : AV → Prop} (hK : ∀ v, K v → K' v) (h : partA q s cs off K) : partA q s cs off K' := by
  unfold partA at h ⊢
  repeat' (first | exact h.elim | exact hK _ h | exact ⟨h.1, hK _ h.2⟩ | exact optV_mono hK h | exact ⟨h.1, optV_mono hK h.2⟩ | (split at h <;> try simp only [*]))
theorem partC_mono {P : Program} {t : TypeId} {cs : List AV} {off : Nat} {K K' : AV → Prop} (hK : ∀ v, K v → K' v) (h : partC P t cs off K) : partC P t cs off K' := by
  unfold partC at h ⊢
  repeat' (first | exact h.elim | exact hK _ h | exact ⟨h.1, hK _ h.2⟩ | exact partA_mono hK h | exact ⟨h.1, partA_mono hK h.2⟩ | (split at h <;> try simp only [*]))
theorem loadE_mono {P : Program} {t : TypeId} {o : Option AV} {j : Nat} {K K' : AV → Prop} (hK : ∀ v, K v → K' v) (h : loadE P t o j K) : loadE P t o j K' := by
  unfold loadE at h ⊢
  repeat' (first | exact h.elim | exact hK _ h | exact ⟨h.1, hK _ h.2⟩ | exact partC_mono hK h | exact ⟨h.1, partC_mono hK h.2⟩ | (split at h <;> try simp only [*]))
theorem loadB_mono {P : Program} {t : TypeId} {o : Option Blk} {sz i j : Nat} {K K' : AV → Prop} (hK : ∀ v, K v → K' v) (h : loadB P t o sz i j K) : loadB P t o sz i j K' := by
  unfold loadB at h ⊢
  repeat' (first | exact h.elim | exact hK _ h | exact ⟨h.1, hK _ h.2⟩ | exact loadE_mono hK h | exact ⟨h.1, loadE_mono hK h.2⟩ | (split at h <;> try simp only [*]))
theorem loadC_mono {P : Program} {σ : Store} {t : TypeId} {a : AV} {K K' : AV → Prop} (hK : ∀ v, K v → K' v) (h : loadC P σ t a K) : loadC P σ t a K' := by
  unfold loadC at h ⊢
  repeat' (first | exact h.elim | exact hK _ h | exact ⟨h.1, hK _ h.2⟩ | exact loadB_mono hK h | exact partC_mono hK h | exact ⟨h.1, loadB_mono hK h.2⟩ | exact ⟨h.1, partC_mono hK h.2⟩ | (split at h <;> try simp only [*]))
theorem nilchkC_mono {a : AV} {K K' : AV → Prop} (hK : ∀ v, K v → K' v) (h : nilchkC a K) : nilchkC a K' := by
  unfold nilchkC at h ⊢
  repeat' (first | exact h.elim | exact hK _ h | exact ⟨h.1, hK _ h.2⟩ | (split at h <;> try simp only [*]))
theorem pickC_mono {c a b : AV} {K K' : AV → Prop} (hK : ∀ v, K v → K' v) (h : pickC c a b K) : pickC c a b K' := by
  unfold pickC at h ⊢
  repeat' (first | exact h.elim | exact hK _ h | exact ⟨h.1, hK _ h.2⟩ | (split at h <;> try simp only [*]))
theorem fillK_mono {o : Option (List AV)} {K K' : AV → Prop} (hK : ∀ v, K v → K' v) (h : fillK o K) : fillK o K' := by
  unfold fillK at h ⊢
  repeat' (first | exact h.elim | exact hK _ h | exact ⟨h.1, hK _ h.2⟩ | (split at h <;> try simp only [*]))
theorem buildB_mono {P : Program} {z : AV} {q : Option (List (Nat × TypeId))} {r : Option (Nat × TypeId)} {ps : List (Nat × AV)} {K K' : AV → Prop} (hK : ∀ v, K v → K' v) (h : buildB P z q r ps K) : buildB P z q r ps K' := by
  unfold buildB at h ⊢
  repeat' (first | exact h.elim | exact hK _ h | exact ⟨h.1, hK _ h.2⟩ | exact fillK_mono hK h | exact ⟨h.1, fillK_mono hK h.2⟩ | (split at h <;> try simp only [*]))
theorem buildC_mono {P : Program} {z : Option AV} {q : Option (List (Nat × TypeId))} {r : Option (Nat × TypeId)} {ps : List (Nat × AV)} {K K' : AV → Prop} (hK : ∀ v, K v → K' v) (h : buildC P z q r ps K) : buildC P z q r ps K' := by
  unfold buildC at h ⊢
  repeat' (first | exact h.elim | exact hK _ h | exact ⟨h.1, hK _ h.2⟩ | exact buildB_mono hK h | exact ⟨h.1, buildB_mono hK h.2⟩ | (split at h <;> try simp only [*]))
theorem unC_mono {op : UnOp} {a : AV} {K K' : AV → Prop} (hK : ∀ v, K v → K' v) (h : unC op a K) : unC op a K' := by
  unfold unC at h ⊢
  repeat' (first | exact h.elim | exact hK _ h | exact ⟨h.1, hK _ h.2⟩ | (split at h <;> try simp only [*]))
theorem convC_mono {u : Bool} {q : Option IntKind} {a : AV} {K K' : AV → Prop} (hK : ∀ v, K v → K' v) (h : convC u q a K) : convC u q a K' := by
  unfold convC at h ⊢
  repeat' (first | exact h.elim | exact hK _ h | exact ⟨h.1, hK _ h.2⟩ | (split at h <;> try simp only [*]))
theorem fldB_mono {P : Program} {o : Option (Nat × TypeId)} {a : AV} {K K' : AV → Prop} (hK : ∀ v, K v → K' v) (h : fldB P o a K) : fldB P o a K' := by
  unfold fldB at h ⊢
  repeat' (first | exact h.elim | exact hK _ h | exact ⟨h.1, hK _ h.2⟩ | exact partC_mono hK h | exact ⟨h.1, partC_mono hK h.2⟩ | (split at h <;> try simp only [*]))
theorem fldC_mono {P : Program} {q : Option (List (Nat × TypeId))} {f : Nat} {a : AV} {K K' : AV → Prop} (hK : ∀ v, K v → K' v) (h : fldC P q f a K) : fldC P q f a K' := by
  unfold fldC at h ⊢
  repeat' (first | exact h.elim | exact hK _ h | exact ⟨h.1, hK _ h.2⟩ | exact fldB_mono hK h | exact ⟨h.1, fldB_mono hK h.2⟩ | (split at h <;> try simp only [*]))
theorem idxP_mono {P : Program} {q : Option TypeId} {r : Option (Nat × TypeId)} {x : AV} {n : Int} {K K' : AV → Prop} (hK : ∀ v, K v → K' v) (h : idxP P q r x n K) : idxP P q r x n K' := by
  unfold idxP at h ⊢
  repeat' (first | exact h.elim | exact hK _ h | exact ⟨h.1, hK _ h.2⟩ | exact optPt_mono hK h | exact ⟨h.1, optPt_mono hK h.2⟩ | (split at h <;> try simp only [*]))
theorem idxAddrC_mono {P : Program} {t : TypeId} {x i : AV} {K K' : AV → Prop} (hK : ∀ v, K v → K' v) (h : idxAddrC P t x i K) : idxAddrC P t x i K' := by
  unfold idxAddrC at h ⊢
  repeat' (first | exact h.elim | exact hK _ h | exact ⟨h.1, hK _ h.2⟩ | exact idxP_mono hK h | exact ⟨h.1, idxP_mono hK h.2⟩ | (split at h <;> try simp only [*]))
theorem idxG_mono {P : Program} {r : Option (Nat × TypeId)} {cs : List AV} {n : Int} {K K' : AV → Prop} (hK : ∀ v, K v → K' v) (h : idxG P r cs n K) : idxG P r cs n K' := by
  unfold idxG at h ⊢
  repeat' (first | exact h.elim | exact hK _ h | exact ⟨h.1, hK _ h.2⟩ | exact partC_mono hK h | exact ⟨h.1, partC_mono hK h.2⟩ | (split at h <;> try simp only [*]))
theorem idxC_mono {P : Program} {t : TypeId} {x i : AV} {K K' : AV → Prop} (hK : ∀ v, K v → K' v) (h : idxC P t x i K) : idxC P t x i K' := by
  unfold idxC at h ⊢
  repeat' (first | exact h.elim | exact hK _ h | exact ⟨h.1, hK _ h.2⟩ | exact idxG_mono hK h | exact optU_mono hK h | exact ⟨h.1, idxG_mono hK h.2⟩ | exact ⟨h.1, optU_mono hK h.2⟩ | (split at h <;> try simp only [*]))
theorem cutE_mono {P : Program} {q : Option TypeId} {u : Bool} {x lo hi : AV} {K K' : AV → Prop} (hK : ∀ v, K v → K' v) (h : cutE P q u x lo hi K) : cutE P q u x lo hi K' := by
  unfold cutE at h ⊢
  repeat' (first | exact h.elim | exact hK _ h | exact ⟨h.1, hK _ h.2⟩ | (split at h <;> try simp only [*]))
theorem lenC_mono {u : Bool} {q : Option TypeId} {x : AV} {K K' : AV → Prop} (hK : ∀ v, K v → K' v) (h : lenC u q x K) : lenC u q x K' := by
  unfold lenC at h ⊢
  repeat' (first | exact h.elim | exact hK _ h | exact ⟨h.1, hK _ h.2⟩ | (split at h <;> try simp only [*]))
theorem maxC_mono {l : List AV} {K K' : AV → Prop} (hK : ∀ v, K v → K' v) (h : maxC l K) : maxC l K' := by
  unfold maxC at h ⊢
  repeat' (first | exact h.elim | exact hK _ h | exact ⟨h.1, hK _ h.2⟩ | (split at h <;> try simp only [*]))
theorem minC_mono {l : List AV} {K K' : AV → Prop} (hK : ∀ v, K v → K' v) (h : minC l K) : minC l K' := by
  unfold minC at h ⊢
  repeat' (first | exact h.elim | exact hK _ h | exact ⟨h.1, hK _ h.2⟩ | (split at h <;> try simp only [*]))
theorem sldC_mono {l : List AV} {K K' : AV → Prop} (hK : ∀ v, K v → K' v) (h : sldC l K) : sldC l K' := by
  unfold sldC at h ⊢
  repeat' (first | exact h.elim | exact hK _ h | exact ⟨h.1, hK _ h.2⟩ | (split at h <;> try simp only [*]))
theorem extC_mono {x : AV} {i : Nat} {K K' : AV → Prop} (hK : ∀ v, K v → K' v) (h : extC x i K) : extC x i K' := by
  unfold extC at h ⊢
  repeat' (first | exact h.elim | exact hK _ h | exact ⟨h.1, hK _ h.2⟩ | exact optV_mono hK h | exact ⟨h.1, optV_mono hK h.2⟩ | (split at h <;> try simp only [*]))
theorem nilC_mono {P : Program} {d : Nat} {q : Option TypeId} {K K' : AV → List (Nat × Blk) → Prop} (hK : ∀ v l, K v l → K' v l) (h : nilC P d q K) : nilC P d q K' := by
  unfold nilC at h ⊢
  repeat' (first | exact h.elim | exact hK _ _ h | exact ⟨h.1, hK _ _ h.2⟩ | (split at h <;> try simp only [*]))
theorem allocC_mono {P : Program} {d : Nat} {t : TypeId} {q : Option TypeId} {s : Nat} {z : Option AV} {K K' : AV → List (Nat × Blk) → Prop} (hK : ∀ v l, K v l → K' v l) (h : allocC P d t q s z K) : allocC P d t q s z K' := by
  unfold allocC at h ⊢
  repeat' (first | exact h.elim | exact hK _ _ h | exact ⟨h.1, hK _ _ h.2⟩ | (split at h <;> try simp only [*]))
theorem boxC_mono {d : Nat} {t : TypeId} {s : Nat} {x : AV} {K K' : AV → List (Nat × Blk) → Prop} (hK : ∀ v l, K v l → K' v l) (h : boxC d t s x K) : boxC d t s x K' := by
  unfold boxC at h ⊢
  repeat' (first | exact h.elim | exact hK _ _ h | exact ⟨h.1, hK _ _ h.2⟩ | (split at h <;> try simp only [*]))
theorem bsliceC_mono {P : Program} {d : Nat} {q : Option TypeId} {len : Nat} {is : List Nat} {xs : List AV} {K K' : AV → List (Nat × Blk) → Prop} (hK : ∀ v l, K v l → K' v l) (h : bsliceC P d q len is xs K) : bsliceC P d q len is xs K' := by
  unfold bsliceC at h ⊢
  repeat' (first | exact h.elim | exact hK _ _ h | exact ⟨h.1, hK _ _ h.2⟩ | (split at h <;> try simp only [*]))
theorem msliceC_mono {P : Program} {d : Nat} {q : Option TypeId} {l c : AV} {K K' : AV → List (Nat × Blk) → Prop} (hK : ∀ v l, K v l → K' v l) (h : msliceC P d q l c K) : msliceC P d q l c K' := by
  unfold msliceC at h ⊢
  repeat' (first | exact h.elim | exact hK _ _ h | exact ⟨h.1, hK _ _ h.2⟩ | (split at h <;> try simp only [*]))
theorem newC_mono {P : Program} {d : Nat} {op : Op} {ty : TypeId} {E : Env} {K K' : AV → List (Nat × Blk) → Prop} (hK : ∀ v l, K v l → K' v l) (h : newC P d op ty E K) : newC P d op ty E K' := by
  unfold newC at h ⊢
  repeat' (first | exact h.elim | exact hK _ _ h | exact ⟨h.1, hK _ _ h.2⟩ | exact msliceC_mono hK h | exact bsliceC_mono hK h | exact boxC_mono hK h | exact allocC_mono hK h | exact nilC_mono hK h | exact ⟨h.1, msliceC_mono hK h.2⟩ | exact ⟨h.1, bsliceC_mono hK h.2⟩ | exact ⟨h.1, boxC_mono hK h.2⟩ | exact ⟨h.1, allocC_mono hK h.2⟩ | exact ⟨h.1, nilC_mono hK h.2⟩ | (split at h <;> try simp only [*]))
theorem appA_mono {P : Program} {q : Option TypeId} {s : AV} {ok : Nat → Option Blk} {src : Option (Nat × List AV)} {K K' : Nat → Nat → Nat → Blk → Prop} (hK : ∀ a b c d, K a b c d → K' a b c d) (h : appA P q s ok src K) : appA P q s ok src K' := by
  unfold appA at h ⊢
  repeat' (first | exact h.elim | exact hK _ _ _ _ h | exact ⟨h.1, hK _ _ _ _ h.2⟩ | (split at h <;> try simp only [*]))
theorem appC_mono {P : Program} {args : List Operand} {ats : List TypeId} {E : Env} {σ : Store} {K K' : Nat → Nat → Nat → Blk → Prop} (hK : ∀ a b c d, K a b c d → K' a b c d) (h : appC P args ats E σ K) : appC P args ats E σ K' := by
  unfold appC at h ⊢
  repeat' (first | exact h.elim | exact hK _ _ _ _ h | exact ⟨h.1, hK _ _ _ _ h.2⟩ | exact appA_mono hK h | exact ⟨h.1, appA_mono hK h.2⟩ | (split at h <;> try simp only [*]))
theorem stoE_mono {P : Program} {t : TypeId} {k : Blk} {o : Option AV} {id sz i j : Nat} {v : AV} {E : Env} {σ : Store} {K K' : Env → Store → Prop} (hK : ∀ E σ, K E σ → K' E σ) (h : stoE P t k o id sz i j v K E σ) : stoE P t k o id sz i j v K' E σ := by
  unfold stoE at h ⊢
  repeat' (first | exact h.elim | exact hK _ _ h | exact ⟨h.1, hK _ _ h.2⟩ | (split at h <;> try simp only [*]))
theorem stoB_mono {P : Program} {t : TypeId} {o : Option Blk} {id sz i j : Nat} {v : AV} {E : Env} {σ : Store} {K K' : Env → Store → Prop} (hK : ∀ E σ, K E σ → K' E σ) (h : stoB P t o id sz i j v K E σ) : stoB P t o id sz i j v K' E σ := by
  unfold stoB at h ⊢
  repeat' (first | exact h.elim | exact hK _ _ h | exact ⟨h.1, hK _ _ h.2⟩ | exact stoE_mono hK h | exact ⟨h.1, stoE_mono hK h.2⟩ | (split at h <;> try simp only [*]))
theorem storeC_mono {P : Program} {t : TypeId} {x v : AV} {dst : Option Nat} {E : Env} {σ : Store} {K K' : Env → Store → Prop} (hK : ∀ E σ, K E σ → K' E σ) (h : storeC P t x v dst K E σ) : storeC P t x v dst K' E σ := by
  unfold storeC at h ⊢
  repeat' (first | exact h.elim | exact hK _ _ h | exact ⟨h.1, hK _ _ h.2⟩ | exact stoB_mono hK h | exact ⟨h.1, stoB_mono hK h.2⟩ | (split at h <;> try simp only [*]))
theorem pureC_mono {P : Program} {op : Op} {E : Env} {σ : Store} {K K' : AV → Prop} (hK : ∀ v, K v → K' v) (h : pureC P op E σ K) : pureC P op E σ K' := by
  unfold pureC at h ⊢
  split at h
  · exact hK _ h
  · exact hK _ h
  · exact pickC_mono hK h
  · exact loadC_mono hK h
  · exact nilchkC_mono hK h
  · exact binC_mono hK h
  · exact buildC_mono hK h
  · exact unC_mono hK h
  · exact convC_mono hK h
  · unfold makeFuncC at h ⊢
    split at h
    · exact ⟨h.1, hK _ h.2⟩
    · exact ⟨h.1, hK _ h.2⟩
  · exact ⟨h.1, fldC_mono hK h.2⟩
  · exact ⟨h.1, fldC_mono hK h.2⟩
  · exact idxAddrC_mono hK h
  · exact idxC_mono hK h
  · exact extC_mono hK h
  · exact cutE_mono hK h
  · split at h
    · rename_i h1 h2
      exact lenC_mono hK h
    · exact h.elim
  · exact maxC_mono hK h
  · exact minC_mono hK h
  · exact sldC_mono hK h
  · exact h.elim
section
variable {S : Sp} {K K' Kb Kb' : Env → Store → Prop} {E : Env} {σ : Store}
theorem callC_mono (hK : ∀ E σ, K E σ → K' E σ) {kd bi : Bool} {nm g : Nat} {named : Bool} {args : List AV} {dst : Option Nat} {L L' : Prop} (hL : L → L') (h : callC S kd bi nm g named args dst K E σ L) : callC S kd bi nm g named args dst K' E σ L' := by
  rcases h with ⟨r, h1, h2, h3, h4, h5⟩ | ⟨h1, h2⟩
  · exact .inl ⟨r, h1, h2, h3, h4, hK _ _ h5⟩
  · exact .inr ⟨h1, hL h2⟩
theorem callF_mono (hY : YMono S) (hK : ∀ E σ, K E σ → K' E σ) (hKb : ∀ E σ, Kb E σ → Kb' E σ) {kd bi : Bool} {nm : Nat} {f : AV} {args : List AV} {dst : Option Nat} {E' : Env} {σ' : Store} {args' : List AV} {f' : AV} {L L' : Prop} (hL : L → L')
    (h : callF S kd bi nm f args dst K Kb E σ E' σ' args' f' L) : callF S kd bi nm f args dst K' Kb' E σ E' σ' args' f' L' := by
  unfold callF at h ⊢
  split at h
  · exact ⟨h.1, hY _ _ _ _ (fun v g hk => hKb _ _ hk) h.2⟩
  · split at h
    · unfold headC at h ⊢
      split at h
      · exact callC_mono hK hL h
      · exact ⟨h.1, hL h.2⟩
    · exact h.elim
theorem newA_mono (hK : ∀ E σ, K E σ → K' E σ) {kd : Bool} {dst : Option Nat} {op : Op} {ty : TypeId} (h : newA S kd dst op ty K E σ) : newA S kd dst op ty K' E σ := by
  unfold newA at h ⊢
  split at h
  · exact newC_mono (fun v l hk => hK _ _ hk) h
  · exact h.elim
theorem moveK_mono (hK : ∀ E σ, K E σ → K' E σ) {kd : Bool} {dst : Option Nat} {ty : TypeId} {x : Operand} (h : moveK S kd dst ty x K E σ) : moveK S kd dst ty x K' E σ := by
  unfold moveK at h ⊢
  split at h
  · split at h
    · rename_i e he
      split at h
      · exact nilC_mono (fun v l hk => hK _ _ hk) h
      · exact h.elim
    · rename_i he
      exact hK _ _ h
  · exact hK _ _ h
theorem semD_mono (hK : ∀ E σ, K E σ → K' E σ) {dst : Option Nat} {op : Op} {ty : TypeId} (h : semD S dst op ty K E σ) : semD S dst op ty K' E σ := fun pos after guard => semV_mono hK (h pos after guard)
theorem aopC_mono (hY : YMono S) (hK : ∀ E σ, K E σ → K' E σ) (hKb : ∀ E σ, Kb E σ → Kb' E σ) {kd bi : Bool} {dst : Option Nat} {op : Op} {ty : TypeId} (h : aopC S kd bi dst op ty K Kb E σ) : aopC S kd bi dst op ty K' Kb' E σ := by
  unfold aopC at h ⊢
  split at h
  · exact moveK_mono hK h
  · exact moveK_mono hK h
  · exact newA_mono hK h
  · exact newA_mono hK h
  · exact newA_mono hK h
  · exact newA_mono hK h
  · exact callF_mono hY hK hKb (semD_mono hKb) h
  · split at h
    · exact appC_mono (fun a b c d hk => ⟨hk.1, hKb _ _ hk.2⟩) h
    · exact h.elim
  · exact storeC_mono hKb h
  · unfold restA at h ⊢
    split at h
    · exact pureC_mono (fun v hk => hK _ _ hk) h
    · exact semD_mono hKb h
    · exact h.elim
theorem guardD_mono (hY : YMono S) (hK : ∀ E σ, K E σ → K' E σ) (hKb : ∀ E σ, Kb E σ → Kb' E σ) {kd bi : Bool} {o : Option Nat} {want : Bool} {dst : Option Nat} {op : Op} {ty : TypeId} (h : guardD S kd bi o want dst op ty K Kb E σ) : guardD S kd bi o want dst op ty K' Kb' E σ := by
  unfold guardD at h ⊢
  split at h
  · unfold guardC at h ⊢
    split at h
    · exact ⟨fun e => aopC_mono hY hK hKb (h.1 e), fun e => hK _ _ (h.2 e)⟩
    · exact ⟨fun e => hK _ _ (h.1 e), fun e => aopC_mono hY hK hKb (h.2 e)⟩
    · exact hK _ _ h
    · exact h.elim
  · exact h.elim
theorem gopC_mono (hY : YMono S) (hK : ∀ E σ, K E σ → K' E σ) (hKb : ∀ E σ, Kb E σ → Kb' E σ) {kd bi : Bool} {ops : List Oper} {o : Oper} (h : gopC S kd bi ops o K Kb E σ) : gopC S kd bi ops o K' Kb' E σ := by
  unfold gopC at h ⊢
  split at h
  · exact aopC_mono hY hK hKb h
  · exact guardD_mono hY hK hKb h
theorem struckC_mono (hK : ∀ E σ, K E σ → K' E σ) {dr : Bool} {l : List Oper} (E : Env) (σ : Store) (h : struckC S dr l K E σ) : struckC S dr l K' E σ := by
  rw [struckC_eq] at h ⊢; exact struck_mono hK E σ h
end
theorem opsC_mono {S : Sp} (hY : YMono S) {dr : Bool} {ops : Array Oper} : ∀ (l : List Oper) (i : Nat) {K K' : Env → Store → Prop} {E : Env} {σ : Store}, (∀ E σ, K E σ → K' E σ) → opsC S dr ops i l K E σ → opsC S dr ops i l K' E σ
  | [], _, _, _, _, _, hK, h => hK _ _ h
  | _ :: l, i, _, _, _, _, hK, h => gopC_mono hY (fun _ _ hk => opsC_mono hY l (i + 1) hK hk) (fun E σ hk => struckC_mono (fun _ _ hk => opsC_mono hY l (i + 1) hK hk) E σ hk) h
theorem awpC_mono {S : Sp} (hY : YMono S) : ∀ (c : Code) {Q Q' : Exit → Env → Store → Prop} {E : Env} {σ : Store}, (∀ e E σ, Q e E σ → Q' e E σ) → awpC S c Q E σ → awpC S c Q' E σ
  | .skip, Q, Q', E, σ, hQ, h => hQ .normal E σ h
  | .label _, Q, Q', E, σ, hQ, h => hQ .normal E σ h
  | .seq a b, Q, Q', E, σ, hQ, h => by
    simp only [awpC] at h ⊢
    exact awpC_mono hY a (thenQ_mono (fun _ _ h => awpC_mono hY b hQ h) hQ) h
  | .region id ops draw, Q, Q', E, σ, hQ, h => by
    simp only [awpC] at h ⊢
    unfold regX at h ⊢
    split at h
    rotate_left
    · exact fun C H n R hR a w hs => h C H n R (fun e E σ a w hq hs => hR e E σ a w (hQ _ _ _ hq) hs) a w hs
    exact struckC_mono (fun _ _ hk => opsC_mono hY _ 0 (hQ .normal) hk) E σ h
  | .cond c x y, Q, Q', E, σ, hQ, h => by
    simp only [awpC] at h ⊢
    unfold condC at h ⊢
    split at h
    · exact ⟨fun e => awpC_mono hY x hQ (h.1 e), fun e => awpC_mono hY y hQ (h.2 e)⟩
    · exact h.elim
  | .block id c, Q, Q', E, σ, hQ, h => by
    simp only [awpC] at h ⊢
    exact awpC_mono hY c (blockQ_mono hQ) h
  | .scope c, Q, Q', E, σ, hQ, h => by
    simp only [awpC] at h ⊢
    exact awpC_mono hY c (scopeQ_mono hQ) h
  | .loop c, Q, Q', E, σ, hQ, h => by
    simp only [awpC] at h ⊢
    obtain ⟨I, hI, hs⟩ := h
    exact ⟨I, hI, fun n E σ hi => awpC_mono hY c (thenQ_mono (fun _ _ hk => hk) hQ) (hs n E σ hi)⟩
  | .exit _, Q, Q', E, σ, hQ, h => hQ _ E σ h
  | .ret, Q, Q', E, σ, hQ, h => hQ .ret E σ h
  | .rangeFunc f ps as body, Q, Q', E, σ, hQ, h => fun C H n R hR a w hs => h C H n R (fun e E σ a w hq hs => hR e E σ a w (hQ _ _ _ hq) hs) a w hs
class Plain (S : Sp) : Prop where
  mono : YMono S
instance (P : Program) (f N : Nat) : Plain (spOf P f N) := ⟨fun _ _ _ _ _ hk => (show False from hk).elim⟩
def exitQ (id : Nat) (J : Env → Store → Prop) (Q : Exit → Env → Store → Prop) : Exit → Env → Store → Prop
  | .exit i => if i = id then J else Q (.exit i)
  | e => Q e
@[go_sem ↓] theorem exitQ_exit (id i : Nat) (J : Env → Store → Prop) (Q : Exit → Env → Store → Prop) (E : Env) (σ : Store) : exitQ id J Q (.exit i) E σ = if i = id then J E σ else Q (.exit i) E σ := by simp only [exitQ]; split <;> rfl
@[go_sem ↓] theorem exitQ_normal (id : Nat) (J : Env → Store → Prop) (Q : Exit → Env → Store → Prop) (E : Env) (σ : Store) : exitQ id J Q .normal E σ = Q .normal E σ := rfl
@[go_sem ↓] theorem exitQ_ret (id : Nat) (J : Env → Store → Prop) (Q : Exit → Env → Store → Prop) (E : Env) (σ : Store) : exitQ id J Q .ret E σ = Q .ret E σ := rfl
theorem loop_join {S : Sp} [hp : Plain S] {c : Code} {Q : Exit → Env → Store → Prop} {E : Env} {σ : Store} (id : Nat) (J : Env → Store → Prop) (h : loopC (awpC S c) (exitQ id J Q) E σ) (h3 : ∀ E σ, J E σ → Q (.exit id) E σ) : loopC (awpC S c) Q E σ := by
  obtain ⟨I, hI, hs⟩ := h
  refine ⟨I, hI, fun n E σ hi => awpC_mono hp.mono c (thenQ_mono (fun _ _ hk => hk) fun e E σ hk => ?_) (hs n E σ hi)⟩
  unfold exitQ at hk
  split at hk
  · split at hk
    · rename_i i e; subst e; exact h3 _ _ hk
    · exact hk
  · exact hk
end Go.Vai
namespace Go.Vai
open Go.RowKit Go.ChangeShapes Go.WideShapes
variable {H : Type} {enc : TypeId × Value → H} {P : Program} {w : World}
abbrev Here (w : World) : Nat → Prop := fun b => b < w.heap.size
def CellsOK (w : World) (a : AV) (cs : List Value) : Prop :=
  a.cells.length = cs.length ∧ ∀ (j : Nat) (c : AV) (y : Value), a.cells[j]? = some c → cs[j]? = some y → y.oneCell' = true ∧ IRep w (Here w) c y
def Opens (P : Program) (enc : TypeId × Value → H) (w : World) (t : TypeId) (p : AV → Prop) : Prop :=
  (∃ g, tagg P t = some g ∧ ∀ a, p a → if g = true then (∃ cs, a = .agg cs) else a.cells = [a]) ∧
  ∀ base sp held fuel cs x, DataW.trod enc P w base sp held fuel t cs = some x → ∃ a, p a ∧ CellsOK w a cs
theorem Opens.mono {t : TypeId} {p q : AV → Prop} (h : Opens P enc w t p) (hpq : ∀ a, p a → q a) (hqp : ∀ a, q a → p a) : Opens P enc w t q := by
  obtain ⟨⟨g, hg, hs⟩, h⟩ := h
  refine ⟨⟨g, hg, fun a ha => hs a (hqp a ha)⟩, fun base sp held fuel cs x hx => ?_⟩
  obtain ⟨a, ha, hc⟩ := h _ _ _ _ _ _ hx
  exact ⟨a, hpq a ha, hc⟩
theorem cellsOK_v (x : Value) (hx : x.oneCell' = true) : CellsOK w (.v x) [x] :=
  ⟨rfl, fun j c y hc hy => by
    cases j with
    | zero => simp at hc hy; subst hc; subst hy; exact ⟨hx, .v _⟩
    | succ j => simp at hc⟩
theorem opens_int {t : TypeId} {k : IntKind} (ht : P.underlying t = some (.int k)) : Opens P enc w t fun a => ∃ n, (Lit.int k n).wf = true ∧ a = .v (.int k n) := by
  refine ⟨⟨false, by simp [tagg, ht], ?_⟩, fun base sp held fuel cs x h => ?_⟩
  · rintro a ⟨n, _, rfl⟩; rfl
  · cases fuel with
    | zero => simp [DataW.trod] at h
    | succ f =>
      unfold DataW.trod at h
      rw [ht] at h
      split at h <;> simp_all
      rename_i k' n he
      obtain ⟨⟨rfl, hw⟩, _⟩ := h
      exact ⟨_, ⟨n, hw, rfl⟩, cellsOK_v _ rfl⟩
theorem choose_list {T : Type} {n : Nat} {p : Nat → T → Prop} (h : ∀ i, i < n → ∃ x, p i x) : ∃ l : List T, l.length = n ∧ ∀ i x, l[i]? = some x → p i x := by
  induction n with
  | zero => exact ⟨[], rfl, fun i x hx => by simp at hx⟩
  | succ n ih =>
    obtain ⟨l, hl, hp⟩ := ih fun i hi => h i (by omega)
    obtain ⟨x, hx⟩ := h n (by omega)
    refine ⟨l ++ [x], by simp [hl], fun i y hy => ?_⟩
    by_cases hi : i < l.length
    · rw [List.getElem?_append_left hi] at hy; exact hp i y hy
    · rw [List.getElem?_append_right (by omega)] at hy
      have : i - l.length = 0 := by
        cases hh : i - l.length with
        | zero => rfl
        | succ k => rw [hh] at hy; simp at hy
      rw [this] at hy; simp at hy; subst hy
      have : i = n := by omega
      subst this; exact hx
theorem opens_slice {T : Type} {t e : TypeId} {q : T → Prop} {f : T → AV} {sz : Nat} (ht : P.underlying t = some (.slice e)) (hs : P.cellsOf e = sz) (h0 : 0 < sz) (he : Opens P enc w e fun a => ∃ x, q x ∧ a = f x) :
    Opens P enc w t fun a => ∃ l : List T, l.length ≤ maxLen ∧ (∀ x ∈ l, q x) ∧ a = .sl sz (l.map f) := by
  refine ⟨⟨false, by simp [tagg, ht], ?_⟩, fun base sp held fuel cs x h => ?_⟩
  · rintro a ⟨l, _, _, rfl⟩; rfl
  have single : ∀ (a : Option Addr) (n cap : Nat) (l : List T), IRep w (Here w) (.sl sz (l.map f)) (.slice a n cap) → CellsOK w (.sl sz (l.map f)) [.slice a n cap] := fun a n cap l h =>
    ⟨rfl, fun j c y hc hy => by
      cases j with
      | zero => simp at hc hy; subst hc; subst hy; exact ⟨rfl, h⟩
      | succ j => simp at hc⟩
  rcases DataW.trod_slice ht h with ⟨rfl, _⟩ | ⟨a, len, cap, elems, rest, n, _, rfl, _, _, hl, hm, hlen, hel, _, _⟩
  · exact ⟨_, ⟨[], by simp, by simp, rfl⟩, single _ _ _ [] (.slnil ..)⟩
  · have hi : ∀ i, i < len → ∃ x : T, q x ∧ ∃ cs, (∀ j, j < sz → w.cell? ((a.add (i * sz)).add j) = cs[j]?) ∧ cs.length = sz ∧ CellsOK w (f x) cs := fun i hi => by
      have hE := hel i hi
      rw [hs] at hE
      obtain ⟨y, hy⟩ : ∃ y, elems[i]? = some y := ⟨_, List.getElem?_eq_getElem (by omega)⟩
      rw [hy] at hE
      obtain ⟨cs, hcs, htr⟩ := Option.bind_eq_some_iff.1 hE
      obtain ⟨a', ⟨x, hx, rfl⟩, hc⟩ := he.2 _ _ _ _ _ _ htr
      obtain ⟨_, h1, h2⟩ := World.cells?_some hcs
      exact ⟨x, hx, cs, h2, h1, hc⟩
    obtain ⟨l, hll, hp⟩ := choose_list hi
    refine ⟨_, ⟨l, by omega, fun x hx => ?_, rfl⟩, single _ _ _ l ?_⟩
    · obtain ⟨i, hi⟩ := List.getElem?_of_mem hx; exact (hp i x hi).1
    · by_cases hz : len = 0
      · have : l = [] := List.length_eq_zero_iff.1 (by omega)
        subst this; subst hz; exact .slnil ..
      · -- the first cell shows the address
        obtain ⟨x0, h0x⟩ : ∃ x, l[0]? = some x := ⟨_, List.getElem?_eq_getElem (by omega)⟩
        obtain ⟨_, cs0, hc0, hn0, _⟩ := hp 0 x0 h0x
        have hsp : a.spot = none ∧ a.block < w.heap.size := by
          have h1 := hc0 0 h0
          rw [List.getElem?_eq_getElem (by omega)] at h1
          simp only [Nat.zero_mul, Addr.add, if_true] at h1
          unfold World.cell? at h1
          split at h1
          · rename_i c u fr hh
            refine ⟨?_, (Array.getElem?_eq_some_iff.1 hh).1⟩
            split at h1
            · cases h1
            · rename_i hn; simpa using hn
          · cases h1
        obtain ⟨b, o, spot⟩ := a
        obtain ⟨h1, h2⟩ := hsp
        simp only at h1 h2
        subst h1
        have hadd : ∀ i j, (Addr.add (Addr.add ⟨b, o, none⟩ (i * sz)) j) = ⟨b, o + i * sz + j, none⟩ := fun i j => by
          unfold Addr.add; by_cases hi : i * sz = 0 <;> by_cases hj : j = 0 <;> simp [hi, hj]
        have hcell : ∀ i j x, l[i]? = some x → j < sz → ∃ c, (f x).cells[j]? = some c ∧ ∃ y, w.cell? ⟨b, o + i * sz + j, none⟩ = some y ∧ y.oneCell' = true ∧ IRep w (Here w) c y := fun i j x hx hj => by
          obtain ⟨_, cs, h1, h2, h3, h4⟩ := hp i x hx
          have h1 := h1 j hj
          rw [hadd, List.getElem?_eq_getElem (by omega)] at h1
          refine ⟨_, List.getElem?_eq_getElem (by omega), _, h1, ?_⟩
          exact h4 j _ _ (List.getElem?_eq_getElem (by omega)) (List.getElem?_eq_getElem (by omega))
        have hlm : (l.map f).length = len := by simp [hll]
        rw [← hlm]
        refine .sl sz (l.map f) b o cap (fun i j => (w.cell? ⟨b, o + i * sz + j, none⟩).getD undef) h2 (by omega) (fun e he => ?_) (fun i j hi hj => ?_) fun i e j c hie hjc => ?_
        · obtain ⟨x, hx, rfl⟩ := List.mem_map.1 he
          obtain ⟨i, hi⟩ := List.getElem?_of_mem hx
          obtain ⟨_, cs, _, h2, h3, _⟩ := hp i x hi
          rw [h3, h2]
        · obtain ⟨c, _, y, hy, h1, _⟩ := hcell i j l[i] (List.getElem?_eq_getElem (by simpa using hi)) hj
          rw [hy]; exact ⟨rfl, h1⟩
        · rw [List.getElem?_map] at hie
          obtain ⟨x, hx, rfl⟩ := Option.map_eq_some_iff.1 hie
          have hj : j < sz := by
            obtain ⟨_, cs, _, h2, h3, _⟩ := hp i x hx
            have := (List.getElem?_eq_some_iff.1 hjc).1; omega
          obtain ⟨c', hc', y, hy, _, hr⟩ := hcell i j x hx hj
          rw [hc'] at hjc; cases hjc
          rw [hy]; exact hr
def AllP : List (AV → Prop) → List AV → Prop
  | [], [] => True
  | p :: ps, a :: as => p a ∧ AllP ps as
  | _, _ => False
def OpensAll (P : Program) (enc : TypeId × Value → H) (w : World) : List TypeId → List (AV → Prop) → Prop
  | [], [] => True
  | t :: ts, p :: ps => Opens P enc w t p ∧ OpensAll P enc w ts ps
  | _, _ => False
theorem opens_array {T : Type} {t e : TypeId} {n : Nat} {q : T → Prop} {f : T → AV} {sz : Nat} (ht : P.underlying t = some (.array n e)) (hs : P.cellsOf e = sz) (hst : P.cellsOf t = n * sz) (he : Opens P enc w e fun a => ∃ x, q x ∧ a = f x) :
    Opens P enc w t fun a => ∃ l : List T, l.length = n ∧ (∀ x ∈ l, q x) ∧ a = .agg (l.flatMap fun x => (f x).cells) := by
  refine ⟨⟨true, by simp [tagg, ht], ?_⟩, fun base sp held fuel cs x h => ?_⟩
  · rintro a ⟨l, _, _, rfl⟩; exact ⟨_, rfl⟩
  obtain ⟨xs, m, _, _, hl, hlen, hf⟩ := DataW.trod_array ht h
  have key : ∀ k, k ≤ n → ∃ l : List T, l.length = k ∧ (∀ x ∈ l, q x) ∧ (l.flatMap fun x => (f x).cells).length = k * sz ∧ ∀ (j : Nat) (c : AV) (y : Value), (l.flatMap fun x => (f x).cells)[j]? = some c → cs[j]? = some y → y.oneCell' = true ∧ IRep w (Here w) c y := by
    intro k
    induction k with
    | zero => intro _; exact ⟨[], rfl, by simp, by simp, fun j c y hc => by simp at hc⟩
    | succ k ih =>
      intro hk
      obtain ⟨l, h1, h2, h3, h4⟩ := ih (by omega)
      have hE := hf k (by omega)
      rw [hs, List.getElem?_eq_getElem (by omega)] at hE
      obtain ⟨a, ⟨x, hx, rfl⟩, hal, hac⟩ := he.2 _ _ _ _ _ _ hE
      have hkm : k * sz + sz ≤ n * sz := by have := Nat.mul_le_mul_right sz hk; rw [Nat.succ_mul] at this; exact this
      have hal' : (f x).cells.length = sz := by rw [hal]; simp; omega
      refine ⟨l ++ [x], by simp [h1], ?_, by simp [h3, hal', Nat.succ_mul], fun j c y hj hy => ?_⟩
      · intro y hy; simp at hy; rcases hy with hy | rfl; exact h2 y hy; exact hx
      · simp only [List.flatMap_append, List.flatMap_cons, List.flatMap_nil, List.append_nil] at hj
        by_cases hlt : j < k * sz
        · rw [List.getElem?_append_left (by omega)] at hj; exact h4 j c y hj hy
        · rw [List.getElem?_append_right (by omega)] at hj
          rw [h3] at hj
          refine hac _ c y hj ?_
          have := (List.getElem?_eq_some_iff.1 hj).1
          rw [List.getElem?_take_of_lt (by omega), List.getElem?_drop, show k * sz + (j - k * sz) = j from by omega]; exact hy
  obtain ⟨l, h1, h2, h3, h4⟩ := key n (Nat.le_refl _)
  exact ⟨_, ⟨l, h1, h2, rfl⟩, by simp [h3, hl, hst], h4⟩
theorem opens_arg {t : TypeId} {p : AV → Prop} {v : Value} {d : DataW H} {ps : List MemPlace} {base sp held r b} (ho : Opens P enc w t p) (h : DataW.Trod enc P w base sp held t v d ps) (hok : Value.okWide P w r b t v) : ∃ a, p a ∧ IRep w (Here w) a v := by
  obtain ⟨⟨g, hg, hsh⟩, ho⟩ := ho
  obtain ⟨fuel, h⟩ := h
  obtain ⟨a, hp, hl, hc⟩ := ho _ _ _ _ _ _ h
  refine ⟨a, hp, ?_⟩
  have hs := hsh a hp
  unfold tagg at hg
  unfold Value.okWide at hok
  cases g with
  | true =>
    simp only [if_true] at hs
    obtain ⟨cs, rfl⟩ := hs
    have hv : ∃ ys, v = .agg ys := by
      split at hok
      · obtain ⟨ys, rfl, _⟩ := hok; exact ⟨ys, rfl⟩
      · obtain ⟨ys, rfl, _⟩ := hok; exact ⟨ys, rfl⟩
      · split at hg <;> simp_all
    obtain ⟨ys, rfl⟩ := hv
    simp only [Value.cells, AV.cells_agg] at hl hc
    have := IRep.agg (w := w) (Im := Here w) cs ys.toList hl (fun y hy => by
      obtain ⟨j, hj⟩ := List.getElem?_of_mem hy
      obtain ⟨c, hcj⟩ : ∃ c, cs[j]? = some c := ⟨_, List.getElem?_eq_getElem (by have := (List.getElem?_eq_some_iff.1 hj).1; omega)⟩
      exact (hc j c y hcj hj).1) fun j c y hj hy => (hc j c y hj hy).2
    simpa using this
  | false =>
    simp only [Bool.false_eq_true, if_false] at hs
    have hv : v.cells = #[v] := by
      cases v with
      | agg ys =>
        exfalso
        split at hok
        · simp_all
        · simp_all
        · unfold Cell.okWide at hok
          split at hok <;> simp_all [Cell.ok]
      | _ => rfl
    rw [hv] at hl hc
    rw [hs] at hl hc
    exact (hc 0 a v rfl rfl).2
theorem opens_args : ∀ {ts : List TypeId} {ps : List (AV → Prop)} {vs : List Value} {ds : List (DataW H)} {p : List MemPlace} {base sp held r b}, OpensAll P enc w ts ps → DataW.TrodAll enc P w base sp held ts vs ds p →
    (∀ (j : Nat) t v, ts[j]? = some t → vs[j]? = some v → Value.okWide P w r b t v) → ∃ as, AllP ps as ∧ IReps w (Here w) as vs
  | [], [], vs, ds, p, base, sp, held, r, b, _, h, _ => by
    obtain ⟨rfl, _, _⟩ := trodAll_nil h
    exact ⟨[], trivial, rfl, fun j c y hc => by simp at hc⟩
  | [], _ :: _, _, _, _, _, _, _, _, _, h, _, _ => h.elim
  | _ :: _, [], _, _, _, _, _, _, _, _, h, _, _ => h.elim
  | t :: ts, q :: ps, vs, ds, p, base, sp, held, r, b, ho, h, hok => by
    obtain ⟨v, vs', d, ds', p', q', rfl, rfl, rfl, h1, h2⟩ := trodAll_cons h
    obtain ⟨a, ha, hr⟩ := opens_arg ho.1 h1 (hok 0 t v rfl rfl)
    obtain ⟨as, has, hl, hrs⟩ := opens_args ho.2 h2 fun j t v hj hv => hok (j + 1) t v (by simpa using hj) (by simpa using hv)
    refine ⟨a :: as, ⟨ha, has⟩, by simp [hl], fun j c y hc hy => ?_⟩
    cases j with
    | zero => simp at hc hy; subst hc; subst hy; exact hr
    | succ j => exact hrs j c y (by simpa using hc) (by simpa using hy)
theorem trodAll_still (hl : laidOutB P = true) {W W' : World} (hb : Below W.heap.size W W') : ∀ {ts : List TypeId} {vs : List Value} {ds : List (DataW H)} {p : List MemPlace}, (∀ t ∈ ts, P.readableRec t = true ∧ t < P.types.size) →
    (∀ x ∈ p, x.block < W.heap.size) → DataW.TrodAll enc P W 0 (fun _ => true) true ts vs ds p → DataW.TrodAll enc P W' 0 (fun b => decide (b < W.heap.size)) true ts vs ds p
  | [], vs, ds, p, _, _, h => by
    obtain ⟨rfl, rfl, rfl⟩ := trodAll_nil h
    rfl
  | t :: ts, vs, ds, p, hr, hp, h => by
    obtain ⟨v, vs', d, ds', p', q', rfl, rfl, rfl, h1, h2⟩ := trodAll_cons h
    exact ⟨p', q', Below.trod hl (hr t (by simp)).1 (hr t (by simp)).2 h1 hb fun x hx => hp x (by simp [hx]), trodAll_still hl hb (fun t ht => hr t (by simp [ht])) (fun x hx => hp x (by simp [hx])) h2, rfl⟩
end Go.Vai
namespace Go.Vai
open Go.RowKit Go.ChangeShapes Go.WideShapes
theorem keptBut_ext {w w' : World} {may : MemPlace → Prop} (h : Ext w (fun _ => False) w') : w.keptBut w' may := by
  refine ⟨h.os, h.output, fun i hi => ?_⟩
  rw [h.block i hi fun h => h]
  cases hw : w.heap[i]? with
  | none => trivial
  | some o => cases o <;> simp
theorem post_true {H : Type} {enc : TypeId × Value → H} {P : Program} {f : Func} {s : ChangeSpec} {fresh handsOn : Bool} {W W' : World} {args : Array Value} {ds gs : List (DataW H)} {before : List MemPlace} {tb : TypeId}
    (hl : laidOutB P = true) (hr : ∀ t ∈ f.params.toList, P.readableRec t = true ∧ t < P.types.size) (hrt : f.resultTypes = #[tb]) (htb : P.underlying tb = some .bool) (hvars : s.vars = [])
    (hs : ∀ ds : List (DataW H), ds.length = f.params.size → s.fn H ds = { results := [.lit (.bool true)], args := ds })
    (hW : DataW.Whole enc P f.params.toList s.vars false W args.toList ds gs before) (hx : Ext W (fun _ => False) W') : s.post enc P f false fresh handsOn false W args (.bool true) W' := by
  have hWw := hW
  obtain ⟨p, q, hA, hV, rfl, hfz, hnd⟩ := hW
  rw [hvars] at hV
  have hlt := hWw.lt
  obtain ⟨rfl, rfl⟩ := trodVars_none hV
  have hlen : ds.length = f.params.size := by
    have key : ∀ (ts : List TypeId) (vs : List Value) (ds : List (DataW H)) (p : List MemPlace), DataW.TrodAll enc P W 0 (fun _ => true) true ts vs ds p → ds.length = ts.length := by
      intro ts
      induction ts with
      | nil => intro vs ds p h; obtain ⟨_, rfl, _⟩ := trodAll_nil h; rfl
      | cons t ts ih =>
        intro vs ds p h
        obtain ⟨v, vs', d, ds', p', q', rfl, rfl, rfl, h1, h2⟩ := trodAll_cons h
        simp [ih _ _ _ h2]
    simpa using key _ _ _ _ hA
  have e := hs ds hlen
  simp only [List.append_nil] at hWw hlt hfz
  have htr : DataW.TrodAll enc P W' 0 (fun b => decide (b < W.heap.size)) true f.params.toList args.toList ds p := trodAll_still hl hx.below hr hlt hA
  have hokk : ∀ (j : Nat) (t : TypeId) (r : Value), f.resultTypes[j]? = some t → ((Value.bool true).resultList f.resultTypes.size)[j]? = some r → Value.okWide P W' .any 0 t r := by
    intro j t r hj hv
    rw [hrt] at hj hv
    cases j with
    | zero =>
      simp [Value.resultList] at hj hv
      subst hj; subst hv
      simp [Value.okWide, htb, Cell.okWide, Cell.ok]
    | succ j => simp at hj
  have hres : ∀ (b : Nat) (sp : Nat → Bool) (hd : Bool), DataW.TrodAll enc P W' b sp hd f.resultTypes.toList ((Value.bool true).resultList f.resultTypes.size) [.lit (.bool true)] [] := by
    intro b sp hd
    rw [hrt]
    exact ⟨[], [], ⟨1, by simp [DataW.trod, Value.cells, htb]⟩, rfl, rfl⟩
  have hold : ∀ x ∈ p, decide (x.block < W.heap.size) = true := fun x hx => by simpa using hlt x hx
  refine ⟨ds, [], p, [], p, [], hWw, ?_, ?_, ?_, World.keptBut_mono (fun p hp => ⟨hp, ?_⟩) (keptBut_ext (may := (· ∈ p)) hx), fun h => by cases h⟩
  · simp only [List.append_nil, e]; exact hres _ _ _
  · simp only [List.append_nil, e]; exact htr
  · simp only [List.append_nil, e, hvars]; rfl
  · exact .inr (by simpa using hp)
theorem allP_8 {pa0 pa1 pa2 pa3 pa4 pa5 pa6 pa7 : AV → Prop} {Q : List AV → Prop} (h : ∀ a0 a1 a2 a3 a4 a5 a6 a7, pa0 a0 → pa1 a1 → pa2 a2 → pa3 a3 → pa4 a4 → pa5 a5 → pa6 a6 → pa7 a7 → Q [a0, a1, a2, a3, a4, a5, a6, a7]) : ∀ l, AllP [pa0, pa1, pa2, pa3, pa4, pa5, pa6, pa7] l → Q l
  | [a0, a1, a2, a3, a4, a5, a6, a7], ha => h a0 a1 a2 a3 a4 a5 a6 a7 ha.1 ha.2.1 ha.2.2.1 ha.2.2.2.1 ha.2.2.2.2.1 ha.2.2.2.2.2.1 ha.2.2.2.2.2.2.1 ha.2.2.2.2.2.2.2.1
  | [], ha => (ha : False).elim
  | [_], ha => (ha.2 : False).elim
  | [_, _], ha => (ha.2.2 : False).elim
  | [_, _, _], ha => (ha.2.2.2 : False).elim
  | [_, _, _, _], ha => (ha.2.2.2.2 : False).elim
  | [_, _, _, _, _], ha => (ha.2.2.2.2.2 : False).elim
  | [_, _, _, _, _, _], ha => (ha.2.2.2.2.2.2 : False).elim
  | [_, _, _, _, _, _, _], ha => (ha.2.2.2.2.2.2.2 : False).elim
  | _ :: _ :: _ :: _ :: _ :: _ :: _ :: _ :: _ :: _, ha => (ha.2.2.2.2.2.2.2.2 : False).elim
theorem len_8 {T : Type} {Q : List T → Prop} (h : ∀ a0 a1 a2 a3 a4 a5 a6 a7, Q [a0, a1, a2, a3, a4, a5, a6, a7]) : ∀ l : List T, l.length = 8 → Q l
  | [a0, a1, a2, a3, a4, a5, a6, a7], _ => h a0 a1 a2 a3 a4 a5 a6 a7
  | [], hl => by simp at hl
  | [_], hl => by simp at hl
  | [_, _], hl => by simp at hl
  | [_, _, _], hl => by simp at hl
  | [_, _, _, _], hl => by simp at hl
  | [_, _, _, _, _], hl => by simp at hl
  | [_, _, _, _, _, _], hl => by simp at hl
  | [_, _, _, _, _, _, _], hl => by simp at hl
  | _ :: _ :: _ :: _ :: _ :: _ :: _ :: _ :: _ :: _, hl => by simp at hl
end Go.Vai
namespace Go.Vai
open Go
abbrev I (n : Int) : AV := .v (.int .i64 n)
abbrev B (b : Bool) : AV := .v (.bool b)
abbrev SL (l : List Int) : AV := .sl 1 (l.map I)
def R64 (n : Int) : Prop := -9223372036854775808 ≤ n ∧ n ≤ 9223372036854775807
def gd {T : Type} [Inhabited T] (l : List T) (n : Nat) : T := l.getD n default
theorem gd_some {T : Type} [Inhabited T] (l : List T) (n : Nat) (h : n < l.length) : l[n]? = some (gd l n) := by
  simp [gd, h]
theorem gd_mem {T : Type} [Inhabited T] (l : List T) (n : Nat) (h : n < l.length) : gd l n ∈ l := List.mem_of_getElem? (gd_some l n h)
theorem gd_none {T : Type} [Inhabited T] (l : List T) (n : Nat) (h : l.length ≤ n) : gd l n = default := by
  simp [gd, h]
@[simp] theorem gd_nil {T : Type} [Inhabited T] (n : Nat) : gd ([] : List T) n = default := by simp [gd]
@[simp] theorem gd_cons_zero {T : Type} [Inhabited T] (x : T) (l : List T) : gd (x :: l) 0 = x := by simp [gd]
@[simp] theorem gd_cons_succ {T : Type} [Inhabited T] (x : T) (l : List T) (n : Nat) : gd (x :: l) (n + 1) = gd l n := by simp [gd]
theorem gd_append_left {T : Type} [Inhabited T] (l m : List T) (n : Nat) (h : n < l.length) : gd (l ++ m) n = gd l n := by simp [gd, List.getElem?_append_left h]
theorem gd_append_right {T : Type} [Inhabited T] (l m : List T) (n : Nat) (h : l.length ≤ n) : gd (l ++ m) n = gd m (n - l.length) := by simp [gd, List.getElem?_append_right h]
theorem gd_ext {T : Type} [Inhabited T] {l m : List T} (hl : l.length = m.length) (h : ∀ i, i < l.length → gd l i = gd m i) : l = m := by
  refine List.ext_getElem? fun i => ?_
  by_cases hi : i < l.length
  · rw [gd_some l i hi, gd_some m i (by omega), h i hi]
  · rw [List.getElem?_eq_none (by omega), List.getElem?_eq_none (by omega)]
theorem gd_set {T : Type} [Inhabited T] (l : List T) (i n : Nat) (x : T) (h : i < l.length) : gd (l.set i x) n = if n = i then x else gd l n := by
  unfold gd
  rw [List.getD_eq_getElem?_getD, List.getD_eq_getElem?_getD, List.getElem?_set]
  by_cases hn : i = n
  · subst hn; simp [h]
  · rw [if_neg hn, if_neg (fun e => hn e.symm)]
section
variable {T : Type} [Inhabited T] {A : Prop} {k : AV → Prop}
@[go_sem] theorem optPt_map (l : List T) (f : T → AV) (n : Nat) : optPt A ((l.map f)[n]?) k = needV (A ∧ n < l.length) k (.pt (f (gd l n)) 0) := by
  by_cases h : n < l.length
  · rw [List.getElem?_map, gd_some l n h]; simp [optPt, needV, h]
  · rw [List.getElem?_eq_none (by simp; omega)]; simp [optPt, needV, h]
@[go_sem] theorem loadE_map {P : Program} {t : TypeId} (l : List T) (f : T → AV) (n j : Nat) : loadE P t ((l.map f)[n]?) j k = need (n < l.length) (partC P t (f (gd l n)).cells j k) := by
  by_cases h : n < l.length
  · rw [List.getElem?_map, gd_some l n h]; simp [loadE, need, h]
  · rw [List.getElem?_eq_none (by simp; omega)]; simp [loadE, need, h]
@[go_sem] theorem stoE_map {P : Program} {t : TypeId} {b : Blk} (l : List T) (f : T → AV) (n : Nat) {id sz i j : Nat} {v : AV} {K : Env → Store → Prop} {E : Env} {σ : Store} :
    stoE P t b ((l.map f)[n]?) id sz i j v K E σ = need (n < l.length) (stoE P t b (some (f (gd l n))) id sz i j v K E σ) := by
  by_cases h : n < l.length
  · rw [List.getElem?_map, gd_some l n h]; simp [need, h]
  · rw [List.getElem?_eq_none (by simp; omega)]; simp [stoE, need, h]
@[go_sem] theorem optV_map (l : List T) (f : T → AV) (n : Nat) : optV ((l.map f)[n]?) k = need (n < l.length) (k (f (gd l n))) := by
  by_cases h : n < l.length
  · rw [List.getElem?_map, gd_some l n h]; simp [optV, need, h]
  · rw [List.getElem?_eq_none (by simp; omega)]; simp [optV, need, h]
end
@[go_sem high] theorem setC_ints (l : List Int) (j : Nat) (x : Int) (hj : j < l.length) (h1 : l.length ≠ 1) : setC (.agg (l.map I)) j (I x) = .agg ((l.set j x).map I) := by
  rw [setC_eq, if_neg (by simp; omega)]
  congr 1
  simp only [AV.cells_agg, AV.cells_v, List.length_singleton, ← List.map_take, ← List.map_drop]
  rw [List.set_eq_take_append_cons_drop, if_pos hj]
  simp
attribute [go_sem] List.length_append Nat.le_refl Int.le_refl List.range_zero List.nodup_nil List.nodup_cons List.mem_cons List.not_mem_nil not_false_eq_true or_false false_or List.length_set Nat.mul_one Nat.zero_add Nat.add_zero Nat.one_mul Nat.zero_mul List.set_cons_zero List.set_cons_succ List.set_nil
@[go_sem] theorem drop_mapL {T U : Type} (l : List T) (f : T → U) (n : Nat) : (l.map f).drop n = (l.drop n).map f := (List.map_drop ..).symm
@[go_sem] theorem take_mapL {T U : Type} (l : List T) (f : T → U) (n : Nat) : (l.map f).take n = (l.take n).map f := (List.map_take ..).symm
@[go_sem] theorem append_mapL {T U : Type} (l m : List T) (f : T → U) : l.map f ++ m.map f = (l ++ m).map f := (List.map_append ..).symm
theorem gd_drop {T : Type} [Inhabited T] (l : List T) (n i : Nat) : gd (l.drop n) i = gd l (n + i) := by simp [gd]
theorem gd_take {T : Type} [Inhabited T] (l : List T) (n i : Nat) (h : i < n) : gd (l.take n) i = gd l i := by simp [gd, List.getElem?_take, h]
@[go_sem] theorem wrap64_of {x : Int} (h : -9223372036854775808 ≤ x ∧ x ≤ 9223372036854775807) : IntKind.i64.wrap x = x := by
  simp [IntKind.wrap, IntKind.bits, IntKind.signed]; split <;> omega
@[go_sem] theorem ite_max (a b : Int) : (if b > a then b else a) = max a b := by split <;> omega
@[go_sem] theorem ite_min (a b : Int) : (if b < a then b else a) = min a b := by split <;> omega
@[go_sem] theorem take_all {T : Type} (l : List T) (n : Nat) (h : l.length ≤ n) : l.take n = l := List.take_of_length_le h
@[go_sem] theorem take_snoc {T : Type} (l : List T) (x : T) (n : Nat) (h : l.length + 1 ≤ n) : (l ++ [x]).take n = l ++ [x] := List.take_of_length_le (by simpa using h)
@[go_sem] theorem set_ints (l : List Int) (n : Nat) (x : Int) : (l.map I).set n (.v (.int .i64 x)) = (l.set n x).map I := by rw [List.map_set]
theorem R64_tdiv {m d : Int} (hd : 0 < d) (h : R64 m) : R64 (m.tdiv d) := by
  obtain ⟨h1, h2⟩ := h
  by_cases hm : 0 ≤ m
  · rw [Int.tdiv_eq_ediv_of_nonneg hm]
    have a := Int.ediv_nonneg hm (Int.le_of_lt hd)
    have b := Int.ediv_le_self d hm
    exact ⟨by omega, by omega⟩
  · have e : m.tdiv d = -((-m).tdiv d) := by rw [Int.neg_tdiv]; omega
    rw [e, Int.tdiv_eq_ediv_of_nonneg (by omega)]
    have a := Int.ediv_nonneg (show 0 ≤ -m by omega) (Int.le_of_lt hd)
    have b := Int.ediv_le_self d (show 0 ≤ -m by omega)
    exact ⟨by omega, by omega⟩
@[go_sem] theorem wrap64_tdiv {m d : Int} (hd : 0 < d) (h : -9223372036854775808 ≤ m ∧ m ≤ 9223372036854775807) : IntKind.i64.wrap (m.tdiv d) = m.tdiv d := wrap64_of (R64_tdiv hd h)
theorem namesL_map {T : Type} (p : Nat → Bool) (l : List T) (f : T → AV) (h : ∀ x, AV.namesB p (f x) = false) : AV.namesL p (l.map f) = false := by
  induction l with
  | nil => rfl
  | cons x l ih => simp [AV.namesL, h, ih]
@[go_sem] theorem append_int (l : List Int) (x : Int) : l.map I ++ [.v (.int .i64 x)] = (l ++ [x]).map I := by simp
@[go_sem] theorem namesL_ints (p : Nat → Bool) (l : List Int) : AV.namesL p (l.map I) = false := namesL_map p l I fun _ => rfl
@[go_sem] theorem namesL_sls (p : Nat → Bool) (l : List (List Int)) : AV.namesL p (l.map SL) = false := namesL_map p l SL fun _ => rfl
theorem flatL_map {T : Type} (l : List T) (f : T → AV) (h : ∀ x, AV.flat (f x) = true) : AV.flatL (l.map f) = true := by
  induction l with
  | nil => rfl
  | cons x l ih => simp [AV.flatL, h, ih]
@[go_sem] theorem flatL_ints (l : List Int) : AV.flatL (l.map I) = true := flatL_map l I fun _ => rfl
theorem allOK_map {T : Type} (s : Nat) (l : List T) (f : T → AV) (h : ∀ x, (f x).ok = true ∧ (f x).cells.length = s) : allOK s (l.map f) = true := by
  simp only [allOK, List.all_eq_true]
  intro e he
  obtain ⟨x, _, rfl⟩ := List.mem_map.1 he
  simp [h x]
@[go_sem] theorem allOK_ints (l : List Int) : allOK 1 (l.map I) = true := allOK_map 1 l I fun _ => ⟨rfl, rfl⟩
@[go_sem] theorem allOK_sls (l : List (List Int)) : allOK 1 (l.map SL) = true := allOK_map 1 l SL fun _ => ⟨rfl, rfl⟩
theorem callC_id {S : Sp} {K : Env → Store → Prop} {E : Env} {σ : Store} {kd bi b : Bool} {d g : Nat} {as : List AV} {dst : Option Nat} {L : Prop} (h : callC S kd bi d g b as dst K E σ L) : callC S kd bi d g b as dst K E σ L := h
@[go_sem] theorem upd_upd (E : Env) (d : Nat) (a b : AV) : upd (upd E d a) d b = upd E d b := by funext t; simp only [upd]; split <;> rfl
theorem callC_at {S : Sp} {K : Env → Store → Prop} {E : Env} {σ : Store} {kd bi b : Bool} {d g : Nat} {as : List AV} {dst : Option Nat} {L : Prop} {r : AV} (h : Ev S.P g as r) (h3 : impK (imp (16 * d) r) dst K E σ)
    (h1 : b = false ∨ r.flat = true := by first | exact .inl rfl | exact .inr rfl | exact .inr (by simp only [go_sem, AV.flat, AV.flatL, Bool.and_self])) (h2 : rlen r ≤ 16 := by exact Nat.le_of_ble_eq_true rfl) (h4 : kd = true ∨ r.dn = false := by first | exact .inl rfl | exact .inr rfl) : callC S kd bi d g b as dst K E σ L := callC_mk r h h1 h2 h4 h3
def AV.asIf (a b : AV) : Prop := ∀ (w : World) (Im : Nat → Prop) (y : Value), IRep w Im a y → IRep w Im b y
theorem asIf_refl (a : AV) : a.asIf a := fun _ _ _ h => h
theorem asIf_nil (s : Nat) : (AV.v (.slice none 0 0)).asIf (.sl s []) := fun _ _ _ h => by cases h; exact .slnil ..
def asIfL : List AV → List AV → Prop
  | [], [] => True
  | a :: as, b :: bs => a.asIf b ∧ asIfL as bs
  | _, _ => False
theorem asIfL_reps {w : World} {Im : Nat → Prop} : ∀ {as bs : List AV} {vs : List Value}, asIfL as bs → IReps w Im as vs → IReps w Im bs vs
  | [], [], _, _, h => h
  | a :: as, b :: bs, [], _, h => by have := h.1; simp at this
  | a :: as, b :: bs, v :: vs, ⟨h1, h2⟩, h => by
    have ih := asIfL_reps (vs := vs) h2 ⟨by simpa using h.1, fun j c y hc hy => h.2 (j + 1) c y (by simpa using hc) (by simpa using hy)⟩
    refine ⟨by simpa using ih.1, fun j c y hc hy => ?_⟩
    cases j with
    | zero => simp at hc hy; subst hc; subst hy; exact h1 _ _ _ (h.2 0 a v rfl rfl)
    | succ j => exact ih.2 j c y (by simpa using hc) (by simpa using hy)
  | [], _ :: _, _, h, _ => h.elim
  | _ :: _, [], _, h, _ => h.elim
theorem Ev.asIf {P : Program} {f : FuncId} {as bs : List AV} {r : AV} (h : Ev P f bs r) (ha : asIfL as bs) : Ev P f as r := by
  rintro as' r' ⟨rfl, rfl⟩
  obtain ⟨h1, h2⟩ := h bs r' ⟨rfl, rfl⟩
  exact ⟨h1, fun w Im vs hw hgk hv => h2 w Im vs hw hgk (asIfL_reps ha hv)⟩
end Go.Vai
namespace Go.Vai
open Go.RowKit
theorem spR_mono (S : Sp) (b2 : Nat) (nm0 : Nat → Bool) : YMono (spR S b2 nm0) := fun _ _ _ _ _ h => h.elim
theorem seqY_mono {args : List AV} {g : AV} {K K' : AV → AV → Prop} (hK : ∀ v g, K v g → K' v g) (h : seqY args g K) : seqY args g K' := by
  unfold seqY at *
  split at h
  · exact ⟨h.1, hK _ _ h.2.1, hK _ _ h.2.2⟩
  · exact h.elim
theorem spY_mono (P : Program) (f : FuncId) (N l : Nat) : YMono (spY P f N l) := fun _ _ _ _ hK h => seqY_mono hK h
def roundC (S : Sp) (as body : Code) (ps : List Nat) (R : Exit → Env → Store → Prop) (E : Env) (x : List AV) (σ : Store) : Prop :=
  awpC S as (thenQ (awpC S body R) failQ) (setPs E ps x) σ
theorem range_of {S : Sp} {f : Operand} {ps : Array Tmp} {as body : Code} {Q : Exit → Env → Store → Prop} {E : Env} {σ : Store} (hrd : S.rd = false) (hlow : Operand.low S.N f = true) (hoA : codeQ S.P S.N S.bad as = true) (hoB : codeQ S.P S.N S.bad body = true)
    (hps : (ps.toList.all fun p => Nat.blt p S.N) = true) {g : FuncId} {caps : List AV} (hf : ev E f = .clo g caps) (hhd : headOK caps = true) (q nm0 : Nat → Bool) (b2 : Nat) (hqc : AV.namesL (fun i => !q i) caps = false)
    (hqs : ∀ id k, σ id = some k → q id = true → AV.namesL (fun i => !q i) k.es = false) (hqn : ∀ id, q id = true → nm0 id = false) (hnm : ∀ id, S.pin id = true → nm0 id = true)
    (hb2 : ∀ id, nm0 id = true → id / 16 < b2 ∨ b2 + 100000 ≤ id / 16) (xs : List (List AV)) (hlen : ∀ x ∈ xs, x.length = ps.size) (hs : SOK S.P g caps (only q σ) xs) (I : List (List AV) → Store → Prop) (h0 : I xs (killS q σ))
    (hround : ∀ x rest σ, I (x :: rest) σ → roundC (spR S b2 nm0) as body ps.toList (rQ nm0 Q (fadeE nm0 E) (I rest)) (fadeE nm0 E) x σ)
    (hend : ∀ σ, I [] σ → Q .normal (fadeE nm0 E) σ) : semC S (.rangeFunc f ps as body) Q E σ := by
  refine range_sound hrd hlow (codeOK_of _ hoA) (codeOK_of _ hoB) (fun p hp => ?_) hf hhd q nm0 b2 hqc hqs hqn hnm hb2 xs hlen hs I h0 (fun x rest σ hI => ?_) hend
  · exact Nat.le_of_ble_eq_true (List.all_eq_true.1 hps p hp)
  · have := hround x rest σ hI
    exact awpC_of (spR_mono S b2 nm0) as (thenQ_mono (fun _ _ h => awpC_of (spR_mono S b2 nm0) body (fun _ _ _ h => h) h) fun _ _ _ h => h) this
theorem sok_of {P : Program} {f : FuncId} {fn : Func} {c : Code} {args : List AV} {σ : Store} {xs : List (List AV)} (hf : P.funcs[f]? = some fn) (hb : fn.body = some c) (hok : fnQ P fn c = true) (hmo : P.follows .mixedOrders = true)
    (hlen : args.length < fn.ntmps) (hxs : AV.namesL allB (xs.map .tup) = false) (hres : fn.results = #[])
    (h : ∀ l, awpC (spY P f fn.ntmps l) c (fun e => match e with | .normal => fun E _ => E fn.ntmps = .tup [] ∨ E fn.ntmps = .any | .ret => fun E _ => E fn.ntmps = .tup [] ∨ E fn.ntmps = .any | _ => fun _ _ => False) (upd (initE (.yld l :: args)) fn.ntmps (.tup (xs.map .tup))) σ) : SOK P f args σ xs := by
  refine sok_of_awp hf hb (fnOK_of hok) hmo hlen hxs fun l => awpC_of (spY_mono P f fn.ntmps l) c (fun e E σ hk => ?_) (h l)
  cases e <;> first | exact hk.elim | (simp only [retG, hres]; exact hk)
section
variable (P : Program) (f N l : Nat) (S : Sp) (b2 : Nat) (nm0 : Nat → Bool)
@[go_sem] theorem spY_P : (spY P f N l).P = P := rfl
@[go_sem] theorem spY_b : (spY P f N l).b = 131072 * (f + 1) := rfl
@[go_sem ↓] theorem spY_bad (id : Nat) : (spY P f N l).bad id = false := rfl
@[go_sem ↓] theorem spR_bad (id : Nat) : (spR S b2 nm0).bad id = S.bad id := rfl
@[go_sem] theorem spY_N : (spY P f N l).N = N := rfl
@[go_sem] theorem spY_pin (id : Nat) : (spY P f N l).pin id = false := rfl
@[go_sem] theorem spY_yl : (spY P f N l).yl = l := rfl
@[go_sem] theorem spY_Y : (spY P f N l).Y = seqY := rfl
@[go_sem] theorem spR_P : (spR S b2 nm0).P = S.P := rfl
@[go_sem] theorem spR_b : (spR S b2 nm0).b = b2 := rfl
@[go_sem] theorem spR_N : (spR S b2 nm0).N = S.N := rfl
@[go_sem] theorem spR_pin : (spR S b2 nm0).pin = nm0 := rfl
end
attribute [go_sem] seqY
def inI (l : List Nat) : Nat → Bool := fun i => l.contains i
@[go_sem] theorem inI_at (l : List Nat) (i : Nat) : inI l i = l.contains i := rfl
def ofI (l : List Nat) : Nat → Bool := fun i => !inI l i
@[go_sem] theorem ofI_at (l : List Nat) (i : Nat) : ofI l i = !inI l i := rfl
def namesO (p : Nat → Bool) (o : Option Blk) : Bool := match o with | some k => AV.namesL p k.es | none => false
attribute [go_sem] namesO
def namesQ (p : Nat → Bool) (σ : Store) : List Nat → Prop
  | [] => True
  | id :: l => namesO p (σ id) = false ∧ namesQ p σ l
@[go_sem] theorem namesQ_nil (p : Nat → Bool) (σ : Store) : namesQ p σ [] = True := rfl
@[go_sem] theorem namesQ_cons (p : Nat → Bool) (σ : Store) (id : Nat) (l : List Nat) : namesQ p σ (id :: l) = (namesO p (σ id) = false ∧ namesQ p σ l) := rfl
theorem namesQ_at {p : Nat → Bool} {σ : Store} : ∀ {l : List Nat}, namesQ p σ l → ∀ id ∈ l, namesO p (σ id) = false
  | [], _, _, h => by cases h
  | a :: l, h, id, hm => by
    rcases List.mem_cons.1 hm with rfl | hm
    · exact h.1
    · exact namesQ_at h.2 id hm
def fits2 (qs ns : List Nat) (b2 : Nat) : Bool := (qs.all fun i => !ns.contains i) && ns.all fun i => Nat.blt (i / 16) b2
section
variable (nm : Nat → Bool)
@[go_sem] theorem fade_v (x : Value) : fade nm (.v x) = .v x := rfl
@[go_sem] theorem fade_sl (s : Nat) (es : List AV) : fade nm (.sl s es) = .sl s es := rfl
@[go_sem] theorem fade_pt (e : AV) (j : Nat) : fade nm (.pt e j) = .pt e j := rfl
@[go_sem] theorem fade_any : fade nm .any = .any := rfl
@[go_sem] theorem fade_mp (es : List AV) : fade nm (.mp es) = .mp es := rfl
@[go_sem] theorem fade_yld (l : Nat) : fade nm (.yld l) = .yld l := rfl
@[go_sem] theorem fade_ownA (id s i n : Nat) : fade nm (.own id s i n) = .any := by
  unfold fade; simp only [AV.kill, AV.namesB, AV.dk]; by_cases h : nm id = true <;> simp [h, AV.ownB]
@[go_sem] theorem fade_ptr (id s i j : Nat) : fade nm (.ptr id s i j) = if nm id = true then .ptr id s i j else .any := by
  unfold fade; simp only [AV.kill, AV.namesB, AV.dk]; by_cases h : nm id = true <;> simp [h, AV.ownB]
@[go_sem] theorem fadeE_at (E : Env) (t : Nat) : fadeE nm E t = fade nm (E t) := rfl
end
@[go_sem] theorem setPs_nil (E : Env) (x : List AV) : setPs E [] x = E := by simp [setPs]
@[go_sem] theorem setPs_cons (E : Env) (p : Nat) (ps : List Nat) (a : AV) (x : List AV) : setPs E (p :: ps) (a :: x) = setPs (upd E p a) ps x := rfl
@[go_sem] theorem roundC_eq (S : Sp) (as body : Code) (ps : List Nat) (R : Exit → Env → Store → Prop) (E : Env) (x : List AV) (σ : Store) : roundC S as body ps R E x σ = awpC S as (thenQ (awpC S body R) failQ) (setPs E ps x) σ := rfl
@[go_sem ↓] theorem rQ_normal (nm : Nat → Bool) (Q : Exit → Env → Store → Prop) (E0 : Env) (I : Store → Prop) (E : Env) (σ : Store) : rQ nm Q E0 I .normal E σ = ∃ p : Nat → Bool, (∀ id, nm id = true → p id = false) ∧ I (killS p σ) := rfl
@[go_sem ↓] theorem rQ_ret (nm : Nat → Bool) (Q : Exit → Env → Store → Prop) (E0 : Env) (I : Store → Prop) (E : Env) (σ : Store) : rQ nm Q E0 I .ret E σ = ∃ p : Nat → Bool, (∀ id, nm id = true → p id = false) ∧ Q .ret E0 (killS p σ) := rfl
@[go_sem ↓] theorem rQ_exit (nm : Nat → Bool) (Q : Exit → Env → Store → Prop) (E0 : Env) (I : Store → Prop) (i : Nat) (E : Env) (σ : Store) : rQ nm Q E0 I (.exit i) E σ = ∃ p : Nat → Bool, (∀ id, nm id = true → p id = false) ∧ Q (.exit i) E0 (killS p σ) := rfl
theorem range_mk {S : Sp} {f : Operand} {ps : Array Tmp} {as body : Code} {Q : Exit → Env → Store → Prop} {E : Env} {σ : Store} {g : FuncId} {caps : List AV} (qs ns : List Nat) (b2 : Nat) (xs : List (List AV)) (I : List (List AV) → Store → Prop)
    (hf : ev E f = .clo g caps) (hs : SOK S.P g caps (only (inI qs) σ) xs) (hlen : ∀ x ∈ xs, x.length = ps.size)
    (hqc : AV.namesL (ofI qs) caps = false) (hqs : namesQ (ofI qs) σ qs)
    (h0 : I xs (killS (inI qs) σ))
    (hround : ∀ E0 : Env, (∀ t, E0 t = fade (inI ns) (E t)) → ∀ x rest σ, I (x :: rest) σ → roundC (spR S b2 (inI ns)) as body ps.toList (rQ (inI ns) Q E0 (I rest)) E0 x σ)
    (hend : ∀ E0 : Env, (∀ t, E0 t = fade (inI ns) (E t)) → ∀ σ, I [] σ → Q .normal E0 σ)
    (hhd : headOK caps = true := by rfl) (hfit : fits2 qs ns b2 = true := by kernel_rfl) (hpin : ∀ id, S.pin id = false := by intro id; rfl) (hrd : S.rd = false := by rfl) (hlow : Operand.low S.N f = true := by kernel_rfl)
    (hoA : codeQ S.P S.N S.bad as = true := by kernel_rfl) (hoB : codeQ S.P S.N S.bad body = true := by kernel_rfl) (hps : (ps.toList.all fun p => Nat.blt p S.N) = true := by kernel_rfl) : semC S (.rangeFunc f ps as body) Q E σ := by
  simp only [fits2, Bool.and_eq_true, List.all_eq_true] at hfit
  refine range_of hrd hlow hoA hoB hps hf hhd (inI qs) (inI ns) b2 hqc (fun id k hk hq => ?_) (fun id hq => ?_) (fun id hp => ?_) (fun id hn => ?_) xs hlen hs I h0 (fun x rest σ hI => hround _ (fun _ => rfl) x rest σ hI) (hend _ fun _ => rfl)
  · have := namesQ_at hqs id (by simpa [inI] using hq)
    rw [hk] at this; exact this
  · have := hfit.1 id (by simpa [inI] using hq)
    simpa [inI] using this
  · rw [hpin] at hp; cases hp
  · exact .inl (Nat.le_of_ble_eq_true (hfit.2 id (by simpa [inI] using hn)))
theorem awpC_range {S : Sp} {f : Operand} {ps : Array Tmp} {as body : Code} {Q : Exit → Env → Store → Prop} {E : Env} {σ : Store} (h : semC S (.rangeFunc f ps as body) Q E σ) : awpC S (.rangeFunc f ps as body) Q E σ := by simpa only [awpC] using h
@[go_sem] theorem only_at (q : Nat → Bool) (σ : Store) (id : Nat) : only q σ id = if q id = true then σ id else none := rfl
end Go.Vai
namespace Go.Vai
open Go.RowKit
mutual
def AV.fd (q k : Nat → Bool) : AV → AV
  | .own a s i n => if q a then .any else .own a s i n
  | .ptr a s i j => if k a then .any else .ptr a s i j
  | .mref a => if k a then .any else .mref a
  | .agg cs => .agg (AV.fdL q k cs)
  | .tup cs => .tup (AV.fdL q k cs)
  | .clo g cs => .clo g (AV.fdL q k cs)
  | a => a
def AV.fdL (q k : Nat → Bool) : List AV → List AV
  | [] => []
  | c :: cs => AV.fd q k c :: AV.fdL q k cs
end
theorem AV.fdL_eq (q k : Nat → Bool) (cs : List AV) : AV.fdL q k cs = cs.map (AV.fd q k) := by
  induction cs with
  | nil => rfl
  | cons c cs ih => simp [AV.fdL, ih]
inductive OwnN : AV → Nat → Prop
  | own (id sz i n : Nat) : OwnN (.own id sz i n) id
  | agg (cs : List AV) (c : AV) (id : Nat) (hc : c ∈ cs) (h : OwnN c id) : OwnN (.agg cs) id
  | tup (cs : List AV) (c : AV) (id : Nat) (hc : c ∈ cs) (h : OwnN c id) : OwnN (.tup cs) id
  | clo (g : Nat) (cs : List AV) (c : AV) (id : Nat) (hc : c ∈ cs) (h : OwnN c id) : OwnN (.clo g cs) id
mutual
theorem AV.fd_names {q k : Nat → Bool} (hk : ∀ i, k i = true → q i = true) : ∀ (a : AV) (id : Nat), (Names (AV.fd q k a) id → Names a id ∧ k id = false) ∧ (OwnN (AV.fd q k a) id → q id = false)
  | .own a s i n, id => by
    simp only [AV.fd]; split
    · exact ⟨fun h => (by cases h), fun h => (by cases h)⟩
    · rename_i hq
      refine ⟨fun h => ?_, fun h => ?_⟩
      · cases h
        refine ⟨.own .., ?_⟩
        cases hkk : k a with
        | false => rfl
        | true => exact absurd (hk a hkk) hq
      · cases h; simpa using hq
  | .ptr a s i j, id => by
    simp only [AV.fd]; split
    · exact ⟨fun h => (by cases h), fun h => (by cases h)⟩
    · rename_i hq; exact ⟨fun h => (by cases h; exact ⟨.ptr .., by simpa using hq⟩), fun h => (by cases h)⟩
  | .mref a, id => by
    simp only [AV.fd]; split
    · exact ⟨fun h => (by cases h), fun h => (by cases h)⟩
    · rename_i hq; exact ⟨fun h => (by cases h; exact ⟨.mref .., by simpa using hq⟩), fun h => (by cases h)⟩
  | .agg cs, id => by
    simp only [AV.fd]
    refine ⟨fun h => ?_, fun h => ?_⟩
    · cases h with
      | agg _ c _ hc h => obtain ⟨c0, h0, h1, _⟩ := AV.fdL_names hk cs id c hc; exact ⟨.agg cs c0 id h0 (h1 h).1, (h1 h).2⟩
    · cases h with
      | agg _ c _ hc h => obtain ⟨c0, h0, _, h1⟩ := AV.fdL_names hk cs id c hc; exact h1 h
  | .tup cs, id => by
    simp only [AV.fd]
    refine ⟨fun h => ?_, fun h => ?_⟩
    · cases h with
      | tup _ c _ hc h => obtain ⟨c0, h0, h1, _⟩ := AV.fdL_names hk cs id c hc; exact ⟨.tup cs c0 id h0 (h1 h).1, (h1 h).2⟩
    · cases h with
      | tup _ c _ hc h => obtain ⟨c0, h0, _, h1⟩ := AV.fdL_names hk cs id c hc; exact h1 h
  | .clo g cs, id => by
    simp only [AV.fd]
    refine ⟨fun h => ?_, fun h => ?_⟩
    · cases h with
      | clo _ _ c _ hc h => obtain ⟨c0, h0, h1, _⟩ := AV.fdL_names hk cs id c hc; exact ⟨.clo g cs c0 id h0 (h1 h).1, (h1 h).2⟩
    · cases h with
      | clo _ _ c _ hc h => obtain ⟨c0, h0, _, h1⟩ := AV.fdL_names hk cs id c hc; exact h1 h
  | .any, id => ⟨fun h => (by simp only [AV.fd] at h; cases h), fun h => (by simp only [AV.fd] at h; cases h)⟩
  | .v x, id => ⟨fun h => (by simp only [AV.fd] at h; cases h), fun h => (by simp only [AV.fd] at h; cases h)⟩
  | .sl s es, id => ⟨fun h => (by simp only [AV.fd] at h; cases h), fun h => (by simp only [AV.fd] at h; cases h)⟩
  | .pt e j, id => ⟨fun h => (by simp only [AV.fd] at h; cases h), fun h => (by simp only [AV.fd] at h; cases h)⟩
  | .new e s es, id => ⟨fun h => (by simp only [AV.fd] at h; cases h), fun h => (by simp only [AV.fd] at h; cases h)⟩
  | .nptr e s es, id => ⟨fun h => (by simp only [AV.fd] at h; cases h), fun h => (by simp only [AV.fd] at h; cases h)⟩
  | .yld l, id => ⟨fun h => (by simp only [AV.fd] at h; cases h), fun h => (by simp only [AV.fd] at h; cases h)⟩
  | .cut s es, id => ⟨fun h => (by simp only [AV.fd] at h; cases h), fun h => (by simp only [AV.fd] at h; cases h)⟩
  | .mp es, id => ⟨fun h => (by simp only [AV.fd] at h; cases h), fun h => (by simp only [AV.fd] at h; cases h)⟩
theorem AV.fdL_names {q k : Nat → Bool} (hk : ∀ i, k i = true → q i = true) : ∀ (cs : List AV) (id : Nat) (c : AV), c ∈ AV.fdL q k cs → ∃ c0 ∈ cs, (Names c id → Names c0 id ∧ k id = false) ∧ (OwnN c id → q id = false)
  | [], id, c, hc => by simp [AV.fdL] at hc
  | x :: cs, id, c, hc => by
    simp only [AV.fdL, List.mem_cons] at hc
    rcases hc with rfl | hc
    · exact ⟨x, by simp, AV.fd_names hk x id⟩
    · obtain ⟨c0, h0, h1⟩ := AV.fdL_names hk cs id c hc; exact ⟨c0, by simp [h0], h1⟩
end
theorem AV.fd_cells (q k : Nat → Bool) (e : AV) : (AV.fd q k e).cells = e.cells.map (AV.fd q k) := by
  cases e with
  | own a s i n => simp only [AV.fd, AV.cells, List.map_cons, List.map_nil]; by_cases h : q a = true <;> simp [h]
  | ptr a s i n => simp only [AV.fd, AV.cells, List.map_cons, List.map_nil]; by_cases h : k a = true <;> simp [h]
  | mref a => simp only [AV.fd, AV.cells, List.map_cons, List.map_nil]; by_cases h : k a = true <;> simp [h]
  | _ => simp [AV.fd, AV.cells, AV.fdL_eq]
section
variable {w w' : World} {ρ ρ' : Nat → Option Nat} {Im Im' : Nat → Prop}
theorem Rep.fd {q k : Nat → Bool} {a : AV} {y : Value} (h : Rep w ρ Im a y) : Rep w ρ Im (AV.fd q k a) y :=
  h.map (AV.fd q k) (fun cs => by rw [AV.fd, AV.fdL_eq]) (fun cs => by rw [AV.fd, AV.fdL_eq]) (fun g cs => by rw [AV.fd, AV.fdL_eq]) fun a h1 h2 h3 => by
    cases a <;> first | exact absurd rfl (h1 _) | exact absurd rfl (h2 _) | exact absurd rfl (h3 _ _) | exact .inl rfl | (simp only [AV.fd]; split <;> simp)
theorem Rep.over (hI : ∀ b, Im b → Im' b) (hc : ∀ b, Im b → w'.heap[b]? = w.heap[b]?) {a : AV} {y : Value} (h : Rep w ρ Im a y) (hρ : ∀ id, Names a id → ρ' id = ρ id) (hs : ∀ id, OwnN a id → ∀ b, ρ id = some b → Shape w w' b) : Rep w' ρ' Im' a y := by
  induction h with
  | im a y h => exact .im a y (h.mono hI hc)
  | agg cs ys hl h1 _ ih => exact .agg cs ys hl h1 fun j c y hj hy => ih j c y hj hy (fun id hn => hρ id (.agg cs c id (List.mem_of_getElem? hj) hn)) fun id hn => hs id (.agg cs c id (List.mem_of_getElem? hj) hn)
  | tup cs ys hl _ ih => exact .tup cs ys hl fun j c y hj hy => ih j c y hj hy (fun id hn => hρ id (.tup cs c id (List.mem_of_getElem? hj) hn)) fun id hn => hs id (.tup cs c id (List.mem_of_getElem? hj) hn)
  | clo g cs ys hl _ ih => exact .clo g cs ys hl fun j c y hj hy => ih j c y hj hy (fun id hn => hρ id (.clo g cs c id (List.mem_of_getElem? hj) hn)) fun id hn => hs id (.clo g cs c id (List.mem_of_getElem? hj) hn)
  | ownNil id sz h => exact .ownNil id sz (by rw [hρ id (.own ..)]; exact h)
  | own id sz n b cap cur e hr hn hcap hb hsz hz =>
    obtain ⟨cur', h3, h4⟩ := hs id (.own ..) b hr cur e hb
    exact .own id sz n b cap cur' e (by rw [hρ id (.own ..)]; exact hr) hn hcap h3 (by rw [h4]; exact hsz) hz
  | ownAt id sz i n b cap a hi hr hn ha hz => exact .ownAt id sz i n b cap a hi (by rw [hρ id (.own ..)]; exact hr) hn ha hz
  | ptr id sz i j b hr hz => exact .ptr id sz i j b (by rw [hρ id (.ptr ..)]; exact hr) hz
  | mref id b hr => exact .mref id b (by rw [hρ id (.mref ..)]; exact hr)
end
def fdE (q k : Nat → Bool) (E : Env) : Env := fun t => AV.fd q k (E t)
def Blk.fd (q k : Nat → Bool) (b : Blk) : Blk := { b with es := AV.fdL q k b.es }
def fdS (q k : Nat → Bool) (σ σ' : Store) : Store := fun id => if q id then σ' id else (σ id).map (Blk.fd q k)
def FreshR (lo : Nat) (ρ : Nat → Option Nat) (Im : Nat → Prop) (obs : List (Option Nat)) : Prop :=
  (∀ b, some b ∈ obs → lo ≤ b ∧ ¬ Im b ∧ ∀ id, ρ id ≠ some b) ∧ obs.Pairwise fun x y => x = none ∨ x ≠ y
def RR (w w' : World) (ρ : Nat → Option Nat) (Im : Nat → Prop) (r : AV) (y : Value) : Prop :=
  match r with
  | .tup rs => ∃ ys obs, y = .tuple ys.toArray ∧ RL w' Im rs ys obs ∧ FreshR w.heap.size ρ Im obs
  | .clo g rs => ∃ ys obs, y = mkF g ys ∧ RL w' Im rs ys obs ∧ FreshR w.heap.size ρ Im obs
  | r => ∃ ob, R1 w' Im r y ob ∧ FreshR w.heap.size ρ Im [ob]
def LOK (P : Program) (f : FuncId) (pin : Nat → Bool) (args : List AV) (σ : Store) (r : AV) (σ' : Store) : Prop :=
  (∀ as w, (callFunc f as).run P w = .ok (.enter f as) w) ∧
  ∀ (w : World) (Im : Nat → Prop) (ρ : Nat → Option Nat) (vs : List Value), Inv w ρ Im σ → GOK w Im → Reps w ρ Im args vs →
    Calls P f vs.toArray w fun e w' => ∃ y ρ' Im', e = .returned y ∧ Ext w (fun b => ∃ id, ρ id = some b) w' ∧ Inv w' ρ' Im' σ' ∧ (∀ b, Im b → Im' b) ∧ (∀ b, Im' b → Im b ∨ w.heap.size ≤ b) ∧
      (∀ id b, ρ' id = some b → ρ id = some b ∨ w.heap.size ≤ b) ∧ (∀ id, pin id = true → ρ' id = ρ id) ∧ RR w w' ρ' Im' r y
end Go.Vai
namespace Go.Vai
open Go.RowKit
mutual
theorem AV.fd_free (q k : Nat → Bool) : ∀ a : AV, AV.namesB allB a = false → AV.fd q k a = a
  | .own a s i n, h => by simp [AV.namesB, allB] at h
  | .ptr a s i n, h => by simp [AV.namesB, allB] at h
  | .mref a, h => by simp [AV.namesB, allB] at h
  | .agg cs, h => by simp only [AV.namesB] at h; simp only [AV.fd, AV.fdL_free q k cs h]
  | .tup cs, h => by simp only [AV.namesB] at h; simp only [AV.fd, AV.fdL_free q k cs h]
  | .clo g cs, h => by simp only [AV.namesB] at h; simp only [AV.fd, AV.fdL_free q k cs h]
  | .any, _ => rfl
  | .v x, _ => rfl
  | .sl s es, _ => rfl
  | .pt e j, _ => rfl
  | .new e s es, _ => rfl
  | .nptr e s es, _ => rfl
  | .yld l, _ => rfl
  | .mp es, _ => rfl
  | .cut s es, _ => rfl
theorem AV.fdL_free (q k : Nat → Bool) : ∀ cs : List AV, AV.namesL allB cs = false → AV.fdL q k cs = cs
  | [], _ => rfl
  | c :: cs, h => by
    simp only [AV.namesL, Bool.or_eq_false_iff] at h
    simp only [AV.fdL, AV.fd_free q k c h.1, AV.fdL_free q k cs h.2]
end
def notI (q : Nat → Bool) : Nat → Bool := fun i => !q i
def movI (q pin : Nat → Bool) : Nat → Bool := fun i => q i && !pin i
section
variable {S : Sp} {C : Fx} {E : Env} {σ σ' : Store} {a : Act} {w w' : World} {ρ ρ' : Nat → Option Nat} {Im Im' : Nat → Prop} {M : Str} {q pin : Nat → Bool}
theorem lent_inv (hinv : Inv w ρ Im σ) (hx : Ext w (fun b => ∃ id, killR (notI q) ρ id = some b) w') (hi : Inv w' ρ' Im' σ') (hI1 : ∀ b, Im b → Im' b) (hI2 : ∀ b, Im' b → Im b ∨ w.heap.size ≤ b)
    (hρ : ∀ id b, ρ' id = some b → killR (notI q) ρ id = some b ∨ w.heap.size ≤ b) (hpin : ∀ id, pin id = true → ρ' id = killR (notI q) ρ id)
    (hdom : ∀ id k, σ' id = some k → q id = true ∧ AV.namesL (notI q) k.es = false) :
    (∀ v z, Rep w ρ Im v z → Rep w' (fun id => if q id then ρ' id else ρ id) Im' (AV.fd q (movI q pin) v) z) ∧ Inv w' (fun id => if q id then ρ' id else ρ id) Im' (fdS q (movI q pin) σ σ') := by
  have hmq : ∀ i, movI q pin i = true → q i = true := fun i h => by simp [movI] at h; exact h.1
  have hkr : ∀ {id b}, killR (notI q) ρ id = some b → ρ id = some b := fun h => (killR_some h).2
  have hkq : ∀ {id}, q id = true → killR (notI q) ρ id = ρ id := fun h => killR_of ρ (by simp [notI, h])
  have out : ∀ id b, ρ id = some b → q id = false → w'.heap[b]? = w.heap[b]? := fun id b hb hq => hx.block b (hinv.lt hb) fun ⟨id', h'⟩ => by
    obtain ⟨hp, h'⟩ := killR_some h'
    have := hinv.inj id id' b hb h'
    subst this; simp [notI, hq] at hp
  have imb : ∀ b, Im b → w'.heap[b]? = w.heap[b]? := fun b hb => hx.block b (hinv.low b hb) fun ⟨id', h'⟩ => hinv.apart id' b (hkr h') hb
  have rep : ∀ v z, Rep w ρ Im v z → Rep w' (fun id => if q id then ρ' id else ρ id) Im' (AV.fd q (movI q pin) v) z := fun v z hv => by
    refine Rep.over hI1 imb (hv.fd (q := q) (k := movI q pin)) (fun id hn => ?_) fun id hn b hb cur e hc => ?_
    · obtain ⟨h1, h2⟩ := (AV.fd_names hmq v id).1 hn
      skip
      split
      · rename_i hq
        have hp : pin id = true := by simp [movI, hq] at h2; exact h2
        rw [hpin id hp, hkq hq]
      · rfl
    · have hq := (AV.fd_names hmq v id).2 hn
      exact ⟨cur, by rw [out id b hb hq]; exact hc, rfl⟩
  have repq : ∀ {c x}, Rep w' ρ' Im' c x → (∀ id, Names c id → q id = true) → Rep w' (fun id => if q id then ρ' id else ρ id) Im' c x := fun {c x} hr hn =>
    Rep.mono (w := w') (w' := w') (fun _ h => h) (fun _ _ => rfl) hr fun id hid => ⟨by simp [hn id hid], fun b hb cur e hc => ⟨cur, hc, rfl⟩⟩
  have inq : ∀ {id k e id'}, σ' id = some k → e ∈ k.es → Names e id' → q id' = true := fun {id k e id'} hk he hn => by
    have := (hdom id k hk).2
    cases hq : q id' with
    | true => rfl
    | false =>
      have := (AV.namesL_iff (notI q) k.es).2 ⟨e, he, AV.namesB_of (notI q) hn (by simp [notI, hq])⟩
      rw [(hdom id k hk).2] at this; cases this
  refine ⟨rep, ⟨fun id k hk hr => ?_, fun id k b hk hr hz => ?_, fun id k b hk hr hz => ?_, fun i j b h1 h2 => ?_, fun id b hr hs => ?_, fun id b hr hb => ?_, hi.low⟩⟩
  · simp only [fdS] at hk
    split at hk
    · rename_i hq
      simp only [hq, if_true] at hr
      exact hi.nil id k hk hr
    · rename_i hq
      simp only [hq] at hr
      obtain ⟨k0, h0, rfl⟩ := Option.map_eq_some_iff.1 hk
      have := hinv.nil id k0 h0 (by simpa using hr)
      simp [Blk.fd, this, AV.fdL]
  · simp only [fdS] at hk
    split at hk
    · rename_i hq
      simp only [hq, if_true] at hr
      obtain ⟨ents, clk, hb, hl, hc⟩ := hi.map id k b hk hr hz
      refine ⟨ents, clk, hb, hl, fun i m hm => ?_⟩
      obtain ⟨v, hv, hrv⟩ := hc i m hm
      exact ⟨v, hv, repq hrv fun id' hn => inq hk (List.mem_of_getElem? hv) (.tup _ v id' (by simp) hn)⟩
    · rename_i hq
      have hq : q id = false := by simpa using hq
      simp only [hq] at hr
      obtain ⟨k0, h0, rfl⟩ := Option.map_eq_some_iff.1 hk
      obtain ⟨ents, clk, hb, hl, hc⟩ := hinv.map id k0 b h0 (by simpa using hr) hz
      refine ⟨ents, clk, by rw [out id b (by simpa using hr) hq]; exact hb, by simp only [Blk.fd, AV.fdL_eq, List.length_map]; exact hl, fun i m hm => ?_⟩
      obtain ⟨v, hv, hrv⟩ := hc i m hm
      exact ⟨AV.fd q (movI q pin) v, by simp only [Blk.fd, AV.fdL_eq, List.getElem?_map, hv, Option.map_some, AV.fd, List.map_cons, List.map_nil], rep _ _ hrv⟩
  · simp only [fdS] at hk
    split at hk
    · rename_i hq
      simp only [hq, if_true] at hr
      obtain ⟨cur, hb, hl, hs, hc⟩ := hi.blk id k b hk hr hz
      refine ⟨cur, hb, hl, hs, fun i e j c he hcc => ?_⟩
      obtain ⟨x, hxx, h1, hrx⟩ := hc i e j c he hcc
      exact ⟨x, hxx, h1, repq hrx fun id' hn => inq hk (List.mem_of_getElem? he) (cells_names (List.mem_of_getElem? hcc) hn)⟩
    · rename_i hq
      have hq : q id = false := by simpa using hq
      simp only [hq] at hr
      obtain ⟨k0, h0, rfl⟩ := Option.map_eq_some_iff.1 hk
      obtain ⟨cur, hb, hl, hs, hc⟩ := hinv.blk id k0 b h0 (by simpa using hr) hz
      refine ⟨cur, by rw [out id b (by simpa using hr) hq]; exact hb, fun e he => ?_, by simp only [Blk.fd, AV.fdL_eq, List.length_map]; exact hs, fun i e j c he hcc => ?_⟩
      · simp only [Blk.fd, AV.fdL_eq, List.mem_map] at he
        obtain ⟨e0, he0, rfl⟩ := he
        rw [AV.fd_cells, List.length_map]; exact hl e0 he0
      · simp only [Blk.fd, AV.fdL_eq, List.getElem?_map] at he
        cases h3 : k0.es[i]? with
        | none => simp [h3] at he
        | some e0 =>
          simp [h3] at he; subst he
          rw [AV.fd_cells, List.getElem?_map] at hcc
          cases h4 : e0.cells[j]? with
          | none => simp [h4] at hcc
          | some c0 =>
            simp [h4] at hcc; subst hcc
            obtain ⟨x, hxx, h1, hrx⟩ := hc i e0 j c0 h3 h4
            exact ⟨x, hxx, h1, rep _ _ hrx⟩
  · have mixed : ∀ i j, q i = true → q j = false → ρ' i = some b → ρ j = some b → i = j := fun i j hi' hj h1 h2 => by
      rcases hρ i b h1 with h3 | h3
      · exact hinv.inj i j b (hkr h3) h2
      · have := hinv.lt h2; omega
    skip
    cases hqi : q i <;> cases hqj : q j <;> simp only [hqi, hqj, if_true, Bool.false_eq_true, if_false] at h1 h2
    · exact hinv.inj i j b h1 h2
    · exact (mixed j i hqj hqi h2 h1).symm
    · exact mixed i j hqi hqj h1 h2
    · exact hi.inj i j b h1 h2
  · skip
    simp only [fdS] at hs
    split at hs
    · rename_i hq
      simp only [hq, if_true] at hr
      exact hi.live id b hr hs
    · rename_i hq
      simp only [hq] at hr
      exact hinv.live id b (by simpa using hr) (by simpa using hs)
  · skip
    cases hq : q id <;> simp only [hq, if_true, Bool.false_eq_true, if_false] at hr
    · rcases hI2 b hb with h' | h'
      · exact hinv.apart id b hr h'
      · have := hinv.lt hr; omega
    · exact hi.apart id b hr hb
theorem Wit.lent (H : Holds S C) (h : Wit C E σ a w ρ Im M) (hx : Ext w (fun b => ∃ id, killR (notI q) ρ id = some b) w') (hi : Inv w' ρ' Im' σ') (hI1 : ∀ b, Im b → Im' b) (hI2 : ∀ b, Im' b → Im b ∨ w.heap.size ≤ b)
    (hρ : ∀ id b, ρ' id = some b → killR (notI q) ρ id = some b ∨ w.heap.size ≤ b) (hpin : ∀ id, pin id = true → ρ' id = killR (notI q) ρ id)
    (hdom : ∀ id k, σ' id = some k → q id = true ∧ AV.namesL (notI q) k.es = false) (hsp : ∀ id, S.pin id = true → q id = true → pin id = true)
    {d : Nat} (hdd : d < 100000) {r : AV} {y : Value} (hrr : RR w w' ρ' Im' r y) (hlen : rlen r ≤ 16) {dst : Option Nat} (hd : ∀ d, dst = some d → d < C.N) :
    ∃ ρ3 Im3, Wit C (updO (killE (own (S.b + d)) (fdE q (movI q pin) E)) dst (imp (16 * (S.b + d)) r).1) (addS (killS (own (S.b + d)) (fdS q (movI q pin) σ σ')) (imp (16 * (S.b + d)) r).2) (a.put dst y) w' ρ3 Im3 M ∧ ∀ i, i / 16 ≠ S.b + d → ρ3 i = if q i then ρ' i else ρ i := by
  obtain ⟨rep, hinv2⟩ := lent_inv (pin := pin) h.inv hx hi hI1 hI2 hρ hpin hdom
  have henv2 : EnvRep w' (fun id => if q id then ρ' id else ρ id) Im' (fdE q (movI q pin) E) a.tmps := fun t z hz => rep _ _ (h.env t z hz)
  have hinv3 := hinv2.kill (own (S.b + d))
  have henv3 := henv2.kill (own (S.b + d))
  have hcl : ∀ k, k < 16 → Clean (16 * (S.b + d) + k) (killE (own (S.b + d)) (fdE q (movI q pin) E)) (killS (own (S.b + d)) (fdS q (movI q pin) σ σ')) := fun k hk => clean_kill (by simp [own]; omega) _ _
  have hfree := H.free hdd
  have hownp := H.own hdd
  have old : ∀ i b, killR (own (S.b + d)) (fun id => if q id then ρ' id else ρ id) i = some b → ρ i = some b ∨ w.heap.size ≤ b := fun i b hb => by
    have hb := (killR_some hb).2
    skip
    split at hb
    · rcases hρ i b hb with h' | h'
      · exact .inl (killR_some h').2
      · exact .inr h'
    · exact .inl hb
  have notfresh : ∀ b, w.heap.size ≤ b → (∀ id, ρ' id ≠ some b) → ∀ i, killR (own (S.b + d)) (fun id => if q id then ρ' id else ρ id) i ≠ some b := fun b hge hn i hb => by
    have hb := (killR_some hb).2
    skip
    split at hb
    · exact hn i hb
    · have := h.inv.lt hb; omega
  have pin3 : ∀ id ob, C.pin id = some ob → killR (own (S.b + d)) (fun id => if q id then ρ' id else ρ id) id = ob := fun id ob hp => by
    rw [killR_of _ (hownp id ob hp)]
    skip
    split
    · rename_i hq
      rw [hpin id (hsp id (H.pin id ob hp) hq), killR_of ρ (by simp [notI, hq])]; exact h.pin id ob hp
    · exact h.pin id ob hp
  have hEN : killE (own (S.b + d)) (fdE q (movI q pin) E) C.N = E C.N := by
    have h1 : fdE q (movI q pin) E C.N = E C.N := AV.fd_free _ _ _ (h.gh allB)
    show (fdE q (movI q pin) E C.N).kill _ = _
    rw [h1]; exact kill_of_not (h.gh _)
  have hxx : Ext w (fun b => ∃ id, ρ id = some b) w' := hx.mono fun b _ ⟨id, hb⟩ => ⟨id, (killR_some hb).2⟩
  have fin : ∀ (v : AV) (l : List (Nat × Blk)) (ρ3 : Nat → Option Nat) (obs : List (Option Nat)), FreshR w.heap.size ρ' Im' obs → Inv w' ρ3 Im' (addS (killS (own (S.b + d)) (fdS q (movI q pin) σ σ')) l) → EnvRep w' ρ3 Im' (killE (own (S.b + d)) (fdE q (movI q pin) E)) a.tmps → Rep w' ρ3 Im' v y →
      (∀ i b, ρ3 i = some b → killR (own (S.b + d)) (fun id => if q id then ρ' id else ρ id) i = some b ∨ some b ∈ obs) → (∀ i, C.pin i ≠ none → ρ3 i = killR (own (S.b + d)) (fun id => if q id then ρ' id else ρ id) i) →
      Wit C (updO (killE (own (S.b + d)) (fdE q (movI q pin) E)) dst v) (addS (killS (own (S.b + d)) (fdS q (movI q pin) σ σ')) l) (a.put dst y) w' ρ3 Im' M := fun v l ρ3 obs hf i3 e3 r3 g3 p3 =>
    h.step H.G hxx i3 (e3.put r3) (put_size ..) (put_defers ..) ((updO_ne hd).trans hEN) (fun i b hb => by
      rcases g3 i b hb with h' | h'
      · exact old i b h'
      · exact .inr (hf.1 b h').1) hI2 (fun i ob hp => (p3 i (by rw [hp]; simp)).trans (pin3 i ob hp)) hI1
  have fresh : ∀ obs, FreshR w.heap.size ρ' Im' obs → ∀ b, some b ∈ obs → (∀ i, killR (own (S.b + d)) (fun id => if q id then ρ' id else ρ id) i ≠ some b) ∧ ¬ Im' b := fun obs hf b hb =>
    ⟨notfresh b (hf.1 b hb).1 (hf.1 b hb).2.2, (hf.1 b hb).2.1⟩
  have one : ∀ ob, R1 w' Im' r y ob → FreshR w.heap.size ρ' Im' [ob] → imp (16 * (S.b + d)) r = imp1 (16 * (S.b + d)) r →
      ∃ ρ3 Im3, Wit C (updO (killE (own (S.b + d)) (fdE q (movI q pin) E)) dst (imp (16 * (S.b + d)) r).1) (addS (killS (own (S.b + d)) (fdS q (movI q pin) σ σ')) (imp (16 * (S.b + d)) r).2) (a.put dst y) w' ρ3 Im3 M ∧ ∀ i, i / 16 ≠ S.b + d → ρ3 i = if q i then ρ' i else ρ i := fun ob hr1 hf he => by
    obtain ⟨ρ3, i3, e3, r3, g3, _, _, _, p3⟩ := imp1_sound hinv3 henv3 (id := 16 * (S.b + d)) (by simpa using hcl 0 (by omega)) hr1 (fun b hb => fresh [ob] hf b (by simp [hb]))
    rw [he]
    exact ⟨ρ3, Im', fin _ _ ρ3 [ob] hf i3 e3 r3 (fun i b hb => by
      rcases g3 i b hb with h' | h'
      · exact .inl h'
      · exact .inr (by simp [h'])) (fun i hi => p3 i fun e => hi (by rw [e]; simpa using hfree 0 (by omega))), fun i hi => (p3 i (by omega)).trans (killR_of _ (by simp [own]; omega))⟩
  have many : ∀ (rs : List AV) (ys : List Value) (obs : List (Option Nat)), RL w' Im' rs ys obs → FreshR w.heap.size ρ' Im' obs → rs.length ≤ 16 → ∀ v, (∀ ρ3, Reps w' ρ3 Im' (impL (16 * (S.b + d)) rs).1 ys → Rep w' ρ3 Im' v y) →
      ∃ ρ3 Im3, Wit C (updO (killE (own (S.b + d)) (fdE q (movI q pin) E)) dst v) (addS (killS (own (S.b + d)) (fdS q (movI q pin) σ σ')) (impL (16 * (S.b + d)) rs).2) (a.put dst y) w' ρ3 Im3 M ∧ ∀ i, i / 16 ≠ S.b + d → ρ3 i = if q i then ρ' i else ρ i := fun rs ys obs hrl hf hl v hv => by
    obtain ⟨ρ3, i3, e3, r3, g3, _, p3⟩ := impL_sound rs ys obs (16 * (S.b + d)) _ _ hinv3 henv3 (fun k hk => hcl k (by omega)) hrl (fresh obs hf) hf.2
    exact ⟨ρ3, Im', fin _ _ ρ3 obs hf i3 e3 (hv ρ3 r3) g3 (fun i hi => p3 i fun k hk e => hi (by rw [e]; exact hfree k (by omega))), fun i hi => (p3 i fun k hk e => by omega).trans (killR_of _ (by simp [own]; omega))⟩
  cases r with
  | tup rs =>
    obtain ⟨ys, obs, rfl, hrl, hf⟩ := hrr
    exact many rs ys obs hrl hf hlen _ fun ρ3 r3 => .tup _ ys r3.1 r3.2
  | clo g rs =>
    obtain ⟨ys, obs, rfl, hrl, hf⟩ := hrr
    exact many rs ys obs hrl hf hlen _ fun ρ3 r3 => .clo g _ ys r3.1 r3.2
  | _ =>
    obtain ⟨ob, hr1, hf⟩ := hrr
    exact one ob hr1 hf rfl
end
theorem call_in {S : Sp} {C : Fx} (H : Holds S C) {E : Env} {σ : Store} {a : Act} {w : World} {ρ : Nat → Option Nat} {Im : Nat → Prop} {M : Str} (h : Wit C E σ a w ρ Im M) {dst : Option Nat} {f : Operand} {args : Array Operand} {ats : Array TypeId} {ty : TypeId} {pos : String} {after : Array Edge} {guard : Option (Nat × Bool)} {g : FuncId} {caps : List AV} (hfv : ev E f = .clo g caps) (xs : List AV)
    (hx : (headOK caps = true ∧ xs = args.toList.map (ev E) ++ caps) ∨ ∃ bs, caps = .v (.tuple #[]) :: bs ∧ xs = bs ++ args.toList.map (ev E)) (q : Nat → Bool) (hq : AV.namesL (notI q) xs = false)
    (hlow : Op.low S.N (.call { callee := .value f, args, argTypes := ats }) = true) (henter : ∀ as w, (callFunc g as).run S.P w = .ok (.enter g as) w) :
    ∃ zs : List Value, Reps w (killR (notI q) ρ) Im xs zs ∧ (execOp a.eval { dst, op := .call { callee := .value f, args, argTypes := ats }, type := ty, pos, after, guard }).run S.P w = .ok (.enter g zs.toArray) w := by
  have rep : ∀ x, x ∈ (Op.call { callee := .value f, args, argTypes := ats }).operands → Rep w ρ Im (ev E x) (a.eval x) := fun x hx => ev_rep h.env (by rw [h.size, ← H.N]; exact low_of hlow hx)
  have hfr := rep f (by simp [Op.operands, Call.operands])
  rw [hfv] at hfr
  have hargs : ∀ x ∈ args.toList, Rep w ρ Im (ev E x) (a.eval x) := fun x hx => rep x (by simp [Op.operands, Call.operands]; exact Or.inr (Array.mem_toList_iff.1 hx))
  have happ : ∀ {l m : List AV} {ys zs : List Value}, Reps w ρ Im l ys → Reps w ρ Im m zs → Reps w ρ Im (l ++ m) (ys ++ zs) := fun {l m ys zs} h1 h2 => by
    refine ⟨by simp [h1.1, h2.1], fun j c y hc hy => ?_⟩
    by_cases hj : j < l.length
    · rw [List.getElem?_append_left hj] at hc
      rw [List.getElem?_append_left (by rw [← h1.1]; exact hj)] at hy
      exact h1.2 j c y hc hy
    · rw [List.getElem?_append_right (by omega)] at hc
      rw [List.getElem?_append_right (by rw [← h1.1]; omega), ← h1.1] at hy
      exact h2.2 _ c y hc hy
  have hargR : Reps w ρ Im (args.toList.map (ev E)) (args.toList.map a.eval) := ⟨by simp, fun j c y hc hy => by
    rw [List.getElem?_map] at hc hy
    cases hx : args.toList[j]? with
    | none => simp [hx] at hc
    | some x =>
      simp only [hx, Option.map_some, Option.some.injEq] at hc hy
      subst hc; subst hy
      exact hargs x (List.mem_of_getElem? hx)⟩
  obtain ⟨zs, hall, hrun⟩ : ∃ zs : List Value, Reps w ρ Im xs zs ∧ (execOp a.eval { dst, op := .call { callee := .value f, args, argTypes := ats }, type := ty, pos, after, guard }).run S.P w = .ok (.enter g zs.toArray) w := by
    rcases hx with ⟨hhd, rfl⟩ | ⟨bs, rfl, rfl⟩
    · obtain ⟨cys, hfy, hcl', hcr⟩ := hfr.clo_plain hhd
      refine ⟨args.toList.map a.eval ++ cys, happ hargR ⟨hcl', hcr⟩, ?_⟩
      simp only [execOp, resolve, hfy, Deferred.ofValue, Sem.run_bind, Sem.run_pure, Result.andThen_ok, invoke]
      have e1 : (#[] ++ args.map a.eval ++ cys.toArray : Array Value) = (args.toList.map a.eval ++ cys).toArray := by apply Array.toList_inj.1; simp
      rw [e1]; exact henter _ w
    · obtain ⟨cys, hfy, hcl', hcr⟩ := hfr.clo_inv
      match cys, hcl', hcr, hfy with
      | y :: ys, hcl', hcr, hfy =>
        have hy := (hcr 0 _ y rfl rfl).v_inv
        subst hy
        have hfy : a.eval f = .func (.func g) ys.toArray #[] := hfy
        refine ⟨ys ++ args.toList.map a.eval, happ ⟨by simpa using hcl', fun j c y hc hy => hcr (j + 1) c y hc hy⟩ hargR, ?_⟩
        simp only [execOp, resolve, hfy, Deferred.ofValue, Sem.run_bind, Sem.run_pure, Result.andThen_ok, invoke]
        have e1 : (ys.toArray ++ args.map a.eval ++ #[] : Array Value) = (ys ++ args.toList.map a.eval).toArray := by apply Array.toList_inj.1; simp
        rw [e1]; exact henter _ w
  have hallq : Reps w (killR (notI q) ρ) Im xs zs := ⟨hall.1, fun j c y hc hy => (hall.2 j c y hc hy).killR fun id hid => by
    cases hp : notI q id with
    | false => rfl
    | true =>
      have := (AV.namesL_iff (notI q) _).2 ⟨c, List.mem_of_getElem? hc, AV.namesB_of _ hid hp⟩
      rw [hq] at this; cases this⟩
  exact ⟨zs, hallq, hrun⟩
theorem lent_sound {S : Sp} {E : Env} {σ : Store} {K : Env → Store → Prop} {dst : Option Nat} {f : Operand} {args : Array Operand} {ats : Array TypeId} {ty : TypeId} {g : FuncId} {caps : List AV} (hfv : ev E f = .clo g caps) (xs : List AV)
    (hx : (headOK caps = true ∧ xs = args.toList.map (ev E) ++ caps) ∨ ∃ bs, caps = .v (.tuple #[]) :: bs ∧ xs = bs ++ args.toList.map (ev E)) (q pin : Nat → Bool) {r : AV} {σ' : Store}
    (hL : LOK S.P g pin xs (only q σ) r σ') (hq : AV.namesL (notI q) xs = false) (hqs : ∀ id k, σ id = some k → q id = true → AV.namesL (notI q) k.es = false)
    (hdom : ∀ id k, σ' id = some k → q id = true ∧ AV.namesL (notI q) k.es = false) (hsp : ∀ id, S.pin id = true → q id = true → pin id = true) (hfit : (dst.all (decide <| · < S.N) && Op.low S.N (.call { callee := .value f, args, argTypes := ats })) = true)
    (hlen : rlen r ≤ 16) {d : Nat} (hd : d < 100000)
    (hK : K (updO (killE (own (S.b + d)) (fdE q (movI q pin) E)) dst (imp (16 * (S.b + d)) r).1) (addS (killS (own (S.b + d)) (fdS q (movI q pin) σ σ')) (imp (16 * (S.b + d)) r).2)) : semD S dst (.call { callee := .value f, args, argTypes := ats }) ty K E σ := by
  intro pos after guard C H n a w Kc Q ⟨ρ, Im, M, h⟩ hKc
  simp only [Bool.and_eq_true] at hfit
  obtain ⟨hdst, hlow⟩ := hfit
  have hdst : ∀ d, dst = some d → d < S.N := fun d hd => by subst hd; simpa using hdst
  refine ⟨fun _ _ => trivial, ?_⟩
  rw [Oper.semAt_eq _ _ _ (fun c e => by cases e)]
  obtain ⟨henter, hfn⟩ := hL
  obtain ⟨zs, hallq, hrun⟩ := call_in H h (dst := dst) (ty := ty) (pos := pos) (after := after) (guard := guard) hfv xs hx q hq hlow henter
  rw [hrun]
  refine ⟨fun h => by simp [FW] at h, calls_FW ?_⟩
  refine (hfn w Im (killR (notI q) ρ) _ (h.inv.only hqs) (h.gok H) hallq).mono fun e w' ⟨y, ρ', Im', he, hx, hi, hI1, hI2, hρ, hpin, hrr⟩ => ?_
  subst he
  obtain ⟨ρ3, Im3, hw, _⟩ := h.lent (pin := pin) H hx hi hI1 hI2 hρ hpin hdom hsp hd hrr hlen (dst := dst) (by rw [← H.N]; exact hdst)
  exact hKc _ _ _ _ hK ⟨ρ3, Im3, M, hw⟩
end Go.Vai
namespace Go.Vai
open Go.RowKit
def stO (l : List (Nat × Blk)) : Store := fun id => (l.find? fun p => p.1 == id).map (·.2)
@[go_sem] theorem stO_nil (id : Nat) : stO [] id = none := rfl
@[go_sem] theorem stO_cons (i : Nat) (b : Blk) (l : List (Nat × Blk)) (id : Nat) : stO ((i, b) :: l) id = if i = id then some b else stO l id := by
  simp only [stO, List.find?_cons]
  by_cases h : i = id
  · subst h; simp
  · have h' : (i == id) = false := by simpa using h
    simp [h, h']
theorem stO_mem : ∀ {l : List (Nat × Blk)} {id : Nat} {b : Blk}, stO l id = some b → (id, b) ∈ l
  | [], _, _, h => by cases h
  | (i, c) :: l, id, b, h => by
    rw [stO_cons] at h
    split at h
    · rename_i e; cases h; subst e; simp
    · simp [stO_mem h]
theorem stO_none : ∀ {l : List (Nat × Blk)} {id : Nat}, stO l id = none ↔ id ∉ l.map (·.1)
  | [], id => by simp [stO_nil]
  | (i, c) :: l, id => by
    rw [stO_cons]
    by_cases h : i = id
    · subst h; simp
    · rw [if_neg h, stO_none]; simp [Ne.symm h]
def frz (L p : Nat → Bool) (σ : Store) (c : AV) : AV := if AV.namesB (notI L) c = false then c else res (killS p (killS L σ)) ((c.kill L).kill p)
def frzE (L p : Nat → Bool) (σ : Store) (e : AV) : AV := match e with | .agg cs => .agg (cs.map (frz L p σ)) | e => frz L p σ e
def frzM (L p : Nat → Bool) (σ : Store) (e : AV) : AV := match e with | .tup [k, v] => .tup [k, frz L p σ v] | e => e
def frzB (L p : Nat → Bool) (σ : Store) (k : Blk) : Blk := ⟨k.e, k.sz, if AV.namesL (notI L) k.es = false then k.es else if k.sz = 0 then k.es.map (frzM L p σ) else k.es.map (frzE L p σ)⟩
def lastL (L p : Nat → Bool) (σ : Store) : List (Nat × Blk) → Prop
  | [] => True
  | (id, b) :: l => (σ id).map (frzB L p σ) = some b ∧ lastL L p σ l
theorem lastL_at {L p : Nat → Bool} {σ : Store} : ∀ {l : List (Nat × Blk)} {id : Nat} {b : Blk}, lastL L p σ l → stO l id = some b → (σ id).map (frzB L p σ) = some b
  | [], _, _, _, h => by cases h
  | (i, c) :: l, id, b, hl, h => by
    rw [stO_cons] at h
    split at h
    · rename_i e; cases h; subst e; exact hl.1
    · exact lastL_at hl.2 h
section
variable {P : Program} {w : World} {ρ : Nat → Option Nat} {Im : Nat → Prop} {σ : Store} {L p : Nat → Bool}
theorem frz_rep (hinv : Inv w ρ Im σ) {c : AV} {x : Value} (h : Rep w ρ Im c x) : Rep w (killR (notI L) ρ) (Seen Im (killR p (killR L ρ))) (frz L p σ c) x := by
  unfold frz
  split
  · rename_i hn
    refine Rep.mono (w := w) (w' := w) (fun b hb => .inl hb) (fun _ _ => rfl) h fun id hid => ⟨killR_of ρ ?_, fun b _ cur e hc => ⟨cur, hc, rfl⟩⟩
    cases hp : notI L id with
    | false => rfl
    | true => have := AV.namesB_of (notI L) hid hp; rw [hn] at this; cases this
  · have h1 : Rep w (killR L ρ) Im (c.kill L) x := (h.kill L).killR fun id hid => (AV.kill_names L c id hid).2
    have h2 : Rep w (killR p (killR L ρ)) Im ((c.kill L).kill p) x := (h1.kill p).killR fun id hid => (AV.kill_names p _ id hid).2
    exact .im _ _ (res_sound ((hinv.kill L).kill p) h2)
theorem frz_cells {e : AV} : (frzE L p σ e).cells = e.cells.map (frz L p σ) := by
  have one : ∀ e : AV, e.isAgg = false → (frz L p σ e).cells = e.cells.map (frz L p σ) := fun e he => by
    rw [cells_one he, List.map_singleton]
    refine cells_one ?_
    unfold frz
    split
    · exact he
    · have k1 : ∀ (q : Nat → Bool) (x : AV), x.isAgg = false → (x.kill q).isAgg = false := fun q x hx => by
        unfold AV.kill; split
        · exact dk_isAgg q hx
        · exact hx
      exact resF_isAgg _ _ (k1 _ _ (k1 _ _ he))
  cases e with
  | agg cs => rfl
  | _ => exact one _ rfl
theorem frzB_inv (hinv : Inv w ρ Im σ) {id b : Nat} {k : Blk} (hk : σ id = some k) (hr : ρ id = some b) :
    (k.sz = 0 → MapOK w (killR (notI L) ρ) (Seen Im (killR p (killR L ρ))) (frzB L p σ k).es b) ∧
    (k.sz ≠ 0 → ∃ cur, (∃ fr, w.heap[b]? = some (.cells cur k.e fr) ∧ Mk fr cur.size) ∧ (∀ e ∈ (frzB L p σ k).es, e.cells.length = k.sz) ∧ (frzB L p σ k).es.length * k.sz ≤ cur.size ∧
      (∀ (i : Nat) (e : AV) (j : Nat) (c : AV), (frzB L p σ k).es[i]? = some e → e.cells[j]? = some c → ∃ x, cur[i * k.sz + j]? = some x ∧ x.oneCell' = true ∧ Rep w (killR (notI L) ρ) (Seen Im (killR p (killR L ρ))) c x)) := by
  have keep : ∀ {c x}, AV.namesL (notI L) k.es = false → (∃ e ∈ k.es, ∀ i, Names c i → Names e i) → Rep w ρ Im c x → Rep w (killR (notI L) ρ) (Seen Im (killR p (killR L ρ))) c x := fun {c x} hn ⟨e, he, hs⟩ h =>
    Rep.mono (w := w) (w' := w) (fun b hb => .inl hb) (fun _ _ => rfl) h fun id hid => ⟨killR_of ρ (by
      cases hp : notI L id with
      | false => rfl
      | true => have := (AV.namesL_iff (notI L) k.es).2 ⟨e, he, AV.namesB_of (notI L) (hs id hid) hp⟩; rw [hn] at this; cases this), fun b _ cur e hc => ⟨cur, hc, rfl⟩⟩
  refine ⟨fun hz => ?_, fun hz => ?_⟩
  · obtain ⟨ents, clk, hb, hl, hc⟩ := hinv.map id k b hk hr hz
    by_cases hn : AV.namesL (notI L) k.es = false
    · simp only [frzB, hn, if_true]
      refine ⟨ents, clk, hb, hl, fun i m hm => ?_⟩
      obtain ⟨v, hv, hrv⟩ := hc i m hm
      exact ⟨v, hv, keep hn ⟨_, List.mem_of_getElem? hv, fun i hi => .tup _ v i (by simp) hi⟩ hrv⟩
    · simp only [frzB, if_neg hn, hz, if_true]
      refine ⟨ents, clk, hb, by simpa using hl, fun i m hm => ?_⟩
      obtain ⟨v, hv, hrv⟩ := hc i m hm
      exact ⟨frz L p σ v, by rw [List.getElem?_map, hv]; rfl, frz_rep hinv hrv⟩
  · obtain ⟨cur, hb, hl, hs, hc⟩ := hinv.blk id k b hk hr hz
    by_cases hn : AV.namesL (notI L) k.es = false
    · simp only [frzB, hn, if_true]
      refine ⟨cur, hb, hl, hs, fun i e j c he hcc => ?_⟩
      obtain ⟨x, hx, h1, hrx⟩ := hc i e j c he hcc
      exact ⟨x, hx, h1, keep hn ⟨e, List.mem_of_getElem? he, fun i hi => cells_names (List.mem_of_getElem? hcc) hi⟩ hrx⟩
    · simp only [frzB, if_neg hn, if_neg hz]
      refine ⟨cur, hb, fun e he => ?_, by simpa using hs, fun i e j c he hcc => ?_⟩
      · obtain ⟨e0, he0, rfl⟩ := List.mem_map.1 he
        rw [frz_cells, List.length_map]; exact hl e0 he0
      · rw [List.getElem?_map] at he
        cases h3 : k.es[i]? with
        | none => simp [h3] at he
        | some e0 =>
          simp [h3] at he; subst he
          rw [frz_cells, List.getElem?_map] at hcc
          cases h4 : e0.cells[j]? with
          | none => simp [h4] at hcc
          | some c0 =>
            simp [h4] at hcc; subst hcc
            obtain ⟨x, hxx, h1, hrx⟩ := hc i e0 j c0 h3 h4
            exact ⟨x, hxx, h1, frz_rep hinv hrx⟩
end
def retP (us : List AV) : List AV := match us with | [.clo _ caps] => caps | us => us
theorem retP_other {us : List AV} (h : ∀ g caps, us = [.clo g caps] → False) : retP us = us := by
  unfold retP; split
  · rename_i g caps; exact (h g caps rfl).elim
  · rfl
def lretK (L : Nat → Bool) (l : List (Nat × Blk)) (r : AV) (σ : Store) (vs : List AV) : Prop :=
  retK (killS L σ) (· = r) (vs.map (AV.kill L)) ∧ lastL L (topP (retP (vs.map (AV.kill L)))) σ l
theorem lret_sound {C : Fx} {E : Env} {σ : Store} {tm : Array Value} {w : World} {ρ ρ0 : Nat → Option Nat} {Im : Nat → Prop} {M : Str} {l' : List (Nat × Blk)} {r : AV} {vs : List AV} {ys : List Value}
    (h : Rest C E σ tm w ρ Im M) (hlow0 : ∀ b, C.Im0 b → b < C.w0.heap.size) (hR0 : ∀ id b, C.R0 id b → ρ0 id = some b) (hdom : ∀ id b, ρ0 id = some b → id ∈ l'.map (·.1) ∧ b < C.w0.heap.size ∧ ¬ C.Im0 b)
    (hr : Reps w ρ Im vs ys) (hk : lretK (inI (l'.map (·.1))) l' r σ vs) :
    ∃ ρ' Im', Inv w ρ' Im' (stO l') ∧ (∀ b, Im b → Im' b) ∧ (∀ b, Im' b → C.Im0 b ∨ C.w0.heap.size ≤ b) ∧ (∀ id b, ρ' id = some b → ρ0 id = some b ∨ C.w0.heap.size ≤ b) ∧ (∀ id, inI (l'.map (·.1)) id = true → ρ' id = ρ id) ∧
      RR C.w0 w ρ' Im' r (handed ys) := by
  obtain ⟨hk, hlast⟩ := hk
  let L := inI (l'.map (·.1))
  have hinv2 : Inv w (killR L ρ) Im (killS L σ) := h.inv.kill L
  have new : ∀ id b, killR L ρ id = some b → C.w0.heap.size ≤ b := fun id b hb => by
    obtain ⟨hl, hb⟩ := killR_some hb
    rcases h.rng id b hb with ⟨_, h1⟩ | h1
    · have := (hdom id b (hR0 id b h1)).1
      simp only [L, inI] at hl
      rw [List.contains_iff_mem.2 this] at hl; cases hl
    · exact h1
  have hr2 : Reps w (killR L ρ) Im (vs.map (AV.kill L)) ys := ⟨by simpa using hr.1, fun j c y hc hy => by
    rw [List.getElem?_map] at hc
    cases hv : vs[j]? with
    | none => simp [hv] at hc
    | some v => simp [hv] at hc; subst hc; exact ((hr.2 j v y hv hy).kill L).killR fun id hid => (AV.kill_names L v id hid).2⟩
  -- what comes of all
  have fin : ∀ us : List AV, (topP (retP (vs.map (AV.kill L))) = topP us) → expOK (killS L σ) us → ∀ zs, Reps w (killR L ρ) Im us zs → ∃ obs, RL w (Seen Im (killR (topP us) (killR L ρ))) (us.map (expo (killS L σ) (topP us))) zs obs ∧
      FreshR C.w0.heap.size (killR (notI L) ρ) (Seen Im (killR (topP us) (killR L ρ))) obs := fun us _ hok zs hz => by
    obtain ⟨obs, h1, h2, h3⟩ := expoL_sound hinv2 (p := topP us) us zs hz hok.2 hok.1
    refine ⟨obs, h1, fun b hb => ?_, h3⟩
    obtain ⟨id, hid, hρ⟩ := h2 b hb
    refine ⟨new id b hρ, fun hI => ?_, fun id' h' => ?_⟩
    · rcases hI with hI | ⟨id', hI⟩
      · exact hinv2.apart id b hρ hI
      · obtain ⟨hp, hI⟩ := killR_some hI
        have := hinv2.inj id id' b hρ hI
        subst this
        simp [topP, hid] at hp
    · obtain ⟨hp, h'⟩ := killR_some h'
      obtain ⟨hq, hρ⟩ := killR_some hρ
      have := h.inv.inj id id' b hρ h'
      subst this
      simp [notI, hq] at hp
  have inv3 : ∀ p : Nat → Bool, lastL L p σ l' → Inv w (killR (notI L) ρ) (Seen Im (killR p (killR L ρ))) (stO l') := fun p hl => by
    have at' : ∀ {id k}, stO l' id = some k → ∃ k0, σ id = some k0 ∧ k = frzB L p σ k0 := fun {id k} hk => by
      obtain ⟨k0, h0, e⟩ := Option.map_eq_some_iff.1 (lastL_at hl hk)
      exact ⟨k0, h0, e.symm⟩
    refine ⟨fun id k hk hr => ?_, fun id k b hk hr hz => ?_, fun id k b hk hr hz => ?_, fun i j b h1 h2 => h.inv.inj i j b (killR_some h1).2 (killR_some h2).2, fun id b hr hs => ?_, fun id b hr hI => ?_, fun b hb => ?_⟩
    · obtain ⟨k0, h0, rfl⟩ := at' hk
      have hL : L id = true := by
        have := stO_mem hk
        simp only [L, inI]; exact List.contains_iff_mem.2 (List.mem_map.2 ⟨_, this, rfl⟩)
      rw [killR_of ρ (by simp [notI, hL])] at hr
      have := h.inv.nil id k0 h0 hr
      simp [frzB, this, AV.namesL]
    · obtain ⟨k0, h0, rfl⟩ := at' hk
      exact (frzB_inv h.inv h0 (killR_some hr).2).1 hz
    · obtain ⟨k0, h0, rfl⟩ := at' hk
      exact (frzB_inv h.inv h0 (killR_some hr).2).2 hz
    · have hp := (killR_some hr).1
      rw [stO_none] at hs
      simp only [notI, L, inI, Bool.not_eq_false'] at hp
      exact hs (List.contains_iff_mem.1 hp)
    · obtain ⟨hp, hr⟩ := killR_some hr
      rcases hI with hI | ⟨id', hI⟩
      · exact h.inv.apart id b hr hI
      · obtain ⟨_, hI⟩ := killR_some hI
        obtain ⟨hq, hI⟩ := killR_some hI
        have := h.inv.inj id id' b hr hI
        subst this
        simp [notI, hq] at hp
    · rcases hb with hb | ⟨id, hb⟩
      · exact h.inv.low b hb
      · exact hinv2.lt (killR_some hb).2
  have imn : ∀ (p : Nat → Bool) b, Seen Im (killR p (killR L ρ)) b → C.Im0 b ∨ C.w0.heap.size ≤ b := fun p b hb => by
    rcases hb with hb | ⟨id, hb⟩
    · exact h.im b hb
    · exact .inr (new id b (killR_some hb).2)
  have rr : ∀ id b, killR (notI L) ρ id = some b → ρ0 id = some b ∨ C.w0.heap.size ≤ b := fun id b hb => by
    rcases h.rng id b (killR_some hb).2 with ⟨_, h1⟩ | h1
    · exact .inl (hR0 id b h1)
    · exact .inr h1
  have kk : ∀ id, L id = true → killR (notI L) ρ id = ρ id := fun id hid => killR_of ρ (by simp [notI, hid])
  unfold retK at hk
  revert hk hlast
  generalize hvs : vs.map (AV.kill (inI (l'.map (·.1)))) = us at *
  intro hk hlast
  split at hk
  · rename_i g caps
    obtain ⟨hok, rfl⟩ := hk
    obtain ⟨y, rfl⟩ : ∃ y, ys = [y] := by
      have := hr2.1; match ys, this with | [y], _ => exact ⟨y, rfl⟩
    obtain ⟨cys, rfl, hcl, hcr⟩ := (hr2.2 0 _ y rfl rfl).clo_inv
    obtain ⟨obs, h1, h2⟩ := fin caps rfl hok cys ⟨hcl, hcr⟩
    exact ⟨_, _, inv3 _ hlast, fun b hb => .inl hb, imn _, rr, kk, cys, obs, by simp [handed], h1, h2⟩
  · rename_i v hv
    obtain ⟨hsg, hok, rfl⟩ := hk
    obtain ⟨y, rfl⟩ : ∃ y, ys = [y] := by
      have := hr2.1; match ys, this with | [y], _ => exact ⟨y, rfl⟩
    have htop : retP [v] = [v] := retP_other fun g caps e => by cases e; cases hsg
    rw [htop] at hlast
    obtain ⟨obs, h1, h2⟩ := fin [v] (by rw [htop]) hok [y] hr2
    obtain ⟨ob, rfl⟩ : ∃ ob, obs = [ob] := by
      match obs, h1 with | [ob], _ => exact ⟨ob, rfl⟩
    have hsg' := expo_single (σ := killS (inI (l'.map (·.1))) σ) (p := topP [v]) hsg
    refine ⟨_, _, inv3 _ hlast, fun b hb => .inl hb, imn _, rr, kk, ?_⟩
    have h1 := h1.1
    simp only [handed, List.size_toArray, List.length_cons, List.length_nil, Nat.zero_add, dite_true]
    generalize expo (killS (inI (l'.map (·.1))) σ) (topP [v]) v = r at *
    cases r with
    | tup => cases hsg'
    | clo => cases hsg'
    | _ => exact ⟨ob, by simpa using h1, h2⟩
  · rename_i hn1 hn2
    obtain ⟨hok, rfl⟩ := hk
    have htop : retP us = us := retP_other fun g caps e => hn1 g caps e
    rw [htop] at hlast
    obtain ⟨obs, h1, h2⟩ := fin us (by rw [htop]) hok ys hr2
    have hne : ys.toArray.size ≠ 1 := by
      simp only [List.size_toArray, ← hr2.1]
      intro hl
      match us, hl, hn2 with | [v], _, hn2 => exact hn2 v rfl
    refine ⟨_, _, inv3 _ hlast, fun b hb => .inl hb, imn _, rr, kk, ?_⟩
    unfold handed
    rw [dif_neg hne]
    exact ⟨ys, obs, rfl, h1, h2⟩
end Go.Vai
namespace Go.Vai
open Go.RowKit
def spL (P : Program) (f : FuncId) (N : Nat) (pins : List Nat) : Sp := { P, N, b := 131072 * (f + 1), pin := inI pins, yl := 0, Y := fun _ _ _ => False, old := fun i => Nat.blt (i / 16) (131072 * (f + 1)) || Nat.ble (131072 * (f + 1) + 100000) (i / 16) }
instance (P : Program) (f N : Nat) (pins : List Nat) : Plain (spL P f N pins) := ⟨fun _ _ _ _ _ hk => (show False from hk).elim⟩
section
variable (P : Program) (f N : Nat) (pins : List Nat)
@[go_sem] theorem spL_P : (spL P f N pins).P = P := rfl
@[go_sem] theorem spL_b : (spL P f N pins).b = 131072 * (f + 1) := rfl
@[go_sem ↓] theorem spL_bad (id : Nat) : (spL P f N pins).bad id = false := rfl
@[go_sem] theorem spL_N : (spL P f N pins).N = N := rfl
@[go_sem] theorem spL_pin (id : Nat) : (spL P f N pins).pin id = inI pins id := rfl
end
def retL (S : Sp) (fn : Func) (l : List (Nat × Blk)) (r : AV) : Exit → Env → Store → Prop
  | .normal => fun E σ => rvC S.P E σ fn.results.toList [] (lretK (inI (l.map (·.1))) l r σ)
  | .ret => fun E σ => rvC S.P E σ fn.results.toList [] (lretK (inI (l.map (·.1))) l r σ)
  | _ => fun _ _ => False
@[go_sem ↓] theorem retL_normal (S : Sp) (fn : Func) (l : List (Nat × Blk)) (r : AV) (E : Env) (σ : Store) : retL S fn l r .normal E σ = rvC S.P E σ fn.results.toList [] (lretK (inI (l.map (·.1))) l r σ) := rfl
@[go_sem ↓] theorem retL_ret (S : Sp) (fn : Func) (l : List (Nat × Blk)) (r : AV) (E : Env) (σ : Store) : retL S fn l r .ret E σ = rvC S.P E σ fn.results.toList [] (lretK (inI (l.map (·.1))) l r σ) := rfl
@[go_sem] theorem lretK_eq (L : Nat → Bool) (l : List (Nat × Blk)) (r : AV) (σ : Store) (vs : List AV) : lretK L l r σ vs = (retK (killS L σ) (· = r) (vs.map (AV.kill L)) ∧ lastL L (topP (retP (vs.map (AV.kill L)))) σ l) := rfl
@[go_sem] theorem lastL_nil (L p : Nat → Bool) (σ : Store) : lastL L p σ [] = True := rfl
@[go_sem] theorem lastL_cons (L p : Nat → Bool) (σ : Store) (id : Nat) (b : Blk) (l : List (Nat × Blk)) : lastL L p σ ((id, b) :: l) = ((σ id).map (frzB L p σ) = some b ∧ lastL L p σ l) := rfl
@[go_sem] theorem retP_nil : retP [] = [] := rfl
@[go_sem] theorem retP_v (x : Value) : retP [.v x] = [.v x] := rfl
@[go_sem] theorem retP_two (a b : AV) (l : List AV) : retP (a :: b :: l) = a :: b :: l := retP_other fun g caps e => by cases e
@[go_sem] theorem retK_none (σ : Store) (R : AV → Prop) : retK σ R [] = R (.tup []) := by
  simp [retK, expOK, topIds]
@[go_sem] theorem notI_at (q : Nat → Bool) (i : Nat) : notI q i = !q i := rfl
@[go_sem] theorem movI_at (q pin : Nat → Bool) (i : Nat) : movI q pin i = (q i && !pin i) := rfl
@[go_sem] theorem frzB_eq (L p : Nat → Bool) (σ : Store) (e : TypeId) (sz : Nat) (es : List AV) : frzB L p σ ⟨e, sz, es⟩ = ⟨e, sz, if AV.namesL (notI L) es = false then es else if sz = 0 then es.map (frzM L p σ) else es.map (frzE L p σ)⟩ := rfl
theorem inI_mem {l : List Nat} {id : Nat} (h : inI l id = true) : id ∈ l := List.contains_iff_mem.1 h
theorem lok_of {P : Program} {f : FuncId} {fn : Func} {c : Code} {args : List AV} {l l' : List (Nat × Blk)} {r : AV} (pins : List Nat) (hf : P.funcs[f]? = some fn) (hb : fn.body = some c) (hok : fnQ P fn c = true) (hmo : P.follows .mixedOrders = true)
    (hlen : args.length ≤ fn.ntmps) (hids : l.map (·.1) = l'.map (·.1)) (hpins : (pins.all fun i => (l.map (·.1)).contains i && (Nat.blt (i / 16) (131072 * (f + 1)) || Nat.ble (131072 * (f + 1) + 100000) (i / 16))) = true)
    (hold : (l.all fun p => Nat.blt (p.1 / 16) (131072 * (f + 1)) || Nat.ble (131072 * (f + 1) + 100000) (p.1 / 16)) = true)
    (h : awpC (spL P f fn.ntmps pins) c (retL (spL P f fn.ntmps pins) fn l' r) (initE args) (stO l)) : LOK P f (inI pins) args (stO l) r (stO l') := by
  have hok := fnOK_of hok
  obtain ⟨h1, h2, h3, h4⟩ := fnOK_spec hok
  refine ⟨enters hf hb h3, fun w Im ρ vs hinv hgk hargs => ?_⟩
  let C : Fx := { w0 := w, X0 := fun b => ∃ id, ρ id = some b, Im0 := Im, G := fun _ _ _ => True, N := fn.ntmps, rd := none, pin := fun id => if inI pins id then some (ρ id) else none, J0 := Im, R0 := fun id b => ρ id = some b }
  simp only [List.all_eq_true, Bool.and_eq_true, Bool.or_eq_true] at hpins
  have hin : ∀ id, inI pins id = true → id ∈ pins := fun id hid => List.contains_iff_mem.1 hid
  have H : Holds (spL P f fn.ntmps pins) C := by
    refine ⟨rfl, gstable_true, fun _ _ _ hY => hY.elim, hmo, fun id b hp => ?_, fun id hp => ?_, h4, fun _ => rfl, fun id b _ hb => ?_, hgk, fun b hb => ⟨fun ⟨id, hid⟩ => hinv.apart id b hid (hgk.im hb), hinv.low b (hgk.im hb)⟩, (fun h => by cases h)⟩
    · simp only [C] at hp
      cases hn : inI pins id with
      | true => exact hn
      | false => simp [hn] at hp
    · rcases (hpins id (hin id hp)).2 with h' | h'
      · exact .inl (Nat.le_of_ble_eq_true h')
      · exact .inr (Nat.le_of_ble_eq_true h')
    · cases hs : stO l id with
      | none => exact absurd hs (hinv.live id b hb)
      | some k => exact List.all_eq_true.1 hold _ (stO_mem hs)
  have hawp := awpC_of (S := spL P f fn.ntmps pins) (fun _ _ _ _ _ hk => (show False from hk).elim) c (Q' := retG P fn fun vs _ σ => lretK (inI (l'.map (·.1))) l' r σ vs) (fun e E σ hk => by
    cases e <;> first | exact hk.elim | exact rvC_of _ _ hk) h
  refine body_sound (E0 := initE args) (S := spL P f fn.ntmps pins) (C := C) (ρ0 := ρ) (Im0 := Im) (M0 := ⟨fun _ => False, fun _ => False⟩) H rfl hf hb rfl h1 h2 ?_ hawp fun E σ tm w' ρ' I M us ys hk hrest hr => ?_
  · refine ⟨hinv, env_init hargs, ?_, Ext.refl _ _, fun i b hi => .inl ⟨⟨i, hi⟩, hi⟩, fun b hb => .inl hb, fun p => ?_, trivial, fun b hb => hb.elim, fun b hb => hb.elim, fun l r hr => (by cases hr), .nil, fun d hd => (by cases hd), fun b hb => ?_, fun id ob hp => ?_, fun b hb => hb⟩
    · simp only [Array.size_append, List.size_toArray, Array.size_replicate]
      have := hargs.1
      show vs.length + (fn.ntmps - vs.length) = fn.ntmps
      omega
    · show AV.namesB p (initE args fn.ntmps) = false
      rw [initE_out args _ hlen]; rfl
    · rcases hb with ⟨r, hr⟩ | hd
      · cases hr
      · cases hd
    · simp only [C] at hp
      split at hp
      · cases hp; rfl
      · cases hp
  · obtain ⟨ρ2, Im2, i2, a1, a2, a3, a4, a5⟩ := lret_sound (ρ0 := ρ) hrest hinv.low (fun id b h => h) (fun id b hb => ⟨by
      rw [← hids]
      have := hinv.live id b hb
      cases hs : stO l id with
      | none => exact absurd hs this
      | some k => exact List.mem_map.2 ⟨_, stO_mem hs, rfl⟩, hinv.lt hb, hinv.apart id b hb⟩) hr hk
    refine ⟨_, ρ2, Im2, rfl, hrest.ext, i2, fun b hb => ?_, a2, a3, fun id hid => ?_, a5⟩
    · exact a1 b (hrest.j0 b hb)
    · rw [a4 id (by
        have := (hpins id (hin id hid)).1
        rw [hids] at this; exact this)]
      exact hrest.pin id (ρ id) (by simp [C, hid])
def atL (σ : Store) : List (Nat × Blk) → Prop
  | [] => True
  | (id, b) :: l => σ id = some b ∧ atL σ l
@[go_sem] theorem atL_nil (σ : Store) : atL σ [] = True := rfl
@[go_sem] theorem atL_cons (σ : Store) (id : Nat) (b : Blk) (l : List (Nat × Blk)) : atL σ ((id, b) :: l) = (σ id = some b ∧ atL σ l) := rfl
theorem atL_at {σ : Store} : ∀ {l : List (Nat × Blk)} {id : Nat} {b : Blk}, atL σ l → stO l id = some b → σ id = some b
  | [], _, _, _, h => by cases h
  | (i, c) :: l, id, b, hl, h => by
    rw [stO_cons] at h
    split at h
    · rename_i e; cases h; subst e; exact hl.1
    · exact atL_at hl.2 h
theorem only_stO {σ : Store} {l : List (Nat × Blk)} (h : atL σ l) : only (inI (l.map (·.1))) σ = stO l := by
  funext id
  simp only [only]
  split
  · rename_i hq
    cases hs : stO l id with
    | none => exact absurd (List.contains_iff_mem.1 hq) (stO_none.1 hs)
    | some b => exact atL_at h hs
  · rename_i hq
    refine (stO_none.2 fun hm => hq ?_).symm
    exact List.contains_iff_mem.2 hm
def closedL (q : Nat → Bool) (l : List (Nat × Blk)) : Bool := l.all fun p => !AV.namesL (notI q) p.2.es
@[go_sem] theorem closedL_nil (q : Nat → Bool) : closedL q [] = true := rfl
@[go_sem] theorem closedL_cons (q : Nat → Bool) (id : Nat) (b : Blk) (l : List (Nat × Blk)) : closedL q ((id, b) :: l) = (!AV.namesL (notI q) b.es && closedL q l) := rfl
theorem lent_mk {S : Sp} {E : Env} {σ : Store} {K : Env → Store → Prop} {dst : Option Nat} {f : Operand} {args : Array Operand} {ats : Array TypeId} {ty : TypeId} {g : FuncId} {as caps : List AV} (pins : List Nat) {l l' : List (Nat × Blk)} {r : AV}
    (hL : LOK S.P g (inI pins) (as ++ caps) (stO l) r (stO l')) (hfv : ev E f = .clo g caps) (has : args.toList.map (ev E) = as) (hat : atL σ l)
    (hq : AV.namesL (notI (inI (l.map (·.1)))) (as ++ caps) = false) (hc : closedL (inI (l.map (·.1))) l = true) (hc' : closedL (inI (l.map (·.1))) l' = true)
    (hK : K (updO (killE (own (S.b + dst.getD 99999)) (fdE (inI (l.map (·.1))) (movI (inI (l.map (·.1))) (inI pins)) E)) dst (imp (16 * (S.b + dst.getD 99999)) r).1)
      (addS (killS (own (S.b + dst.getD 99999)) (fdS (inI (l.map (·.1))) (movI (inI (l.map (·.1))) (inI pins)) σ (stO l'))) (imp (16 * (S.b + dst.getD 99999)) r).2))
    (hhd : headOK caps = true := by rfl) (hids : l.map (·.1) = l'.map (·.1) := by rfl) (hsp : ∀ id, id ∈ l.map (·.1) → S.pin id = true → inI pins id = true := by intro id hid hp; first | (cases hp; done) | (simp_all [inI, spL, spR]; done))
    (hfit : (dst.all (decide <| · < S.N) && Op.low S.N (.call { callee := .value f, args, argTypes := ats }) && decide (dst.getD 99999 < 100000)) = true := by kernel_rfl) (hlen : rlen r ≤ 16 := by exact Nat.le_of_ble_eq_true rfl) :
    semD S dst (.call { callee := .value f, args, argTypes := ats }) ty K E σ := by
  simp only [Bool.and_eq_true, decide_eq_true_eq] at hfit
  have hclosed : ∀ {m : List (Nat × Blk)}, closedL (inI (l.map (·.1))) m = true → ∀ id k, stO m id = some k → AV.namesL (notI (inI (l.map (·.1)))) k.es = false := fun {m} hc id k hk => by
    simp only [closedL, List.all_eq_true] at hc
    simpa using hc (id, k) (stO_mem hk)
  refine lent_sound hfv (as ++ caps) (.inl ⟨hhd, by rw [has]⟩) (inI (l.map (·.1))) (inI pins) (by rw [only_stO hat]; exact hL) hq (fun id k hk hq => ?_) (fun id k hk => ⟨?_, hclosed hc' id k hk⟩) (fun id h1 h2 => hsp id (inI_mem h2) h1) (by simp [hfit.1]) hlen hfit.2 hK
  · cases hs : stO l id with
    | none => exact absurd (List.contains_iff_mem.1 hq) (stO_none.1 hs)
    | some b =>
      have := atL_at hat hs
      rw [hk] at this; cases this
      exact hclosed hc id k hs
  · rw [hids]; exact List.contains_iff_mem.2 (List.mem_map.2 ⟨_, stO_mem hk, rfl⟩)
section
variable (q k : Nat → Bool)
@[go_sem] theorem fdE_at (E : Env) (t : Nat) : fdE q k E t = AV.fd q k (E t) := rfl
@[go_sem] theorem fdS_at (σ σ' : Store) (id : Nat) : fdS q k σ σ' id = if q id then σ' id else (σ id).map (Blk.fd q k) := rfl
attribute [go_sem] AV.fd
attribute [go_sem] AV.fdL
@[go_sem] theorem fdL_map {T : Type} (l : List T) (f : T → AV) (h : AV.namesL allB (l.map f) = false) : AV.fdL q k (l.map f) = l.map f := AV.fdL_free q k _ h
@[go_sem] theorem blk_fd (e : TypeId) (s : Nat) (es : List AV) : Blk.fd q k ⟨e, s, es⟩ = ⟨e, s, AV.fdL q k es⟩ := rfl
end
end Go.Vai
namespace Go.Vai
open Go.RowKit
def insJ (D : Nat → Bool) (i : Nat) : Nat → Bool := fun k => k == i || D k
@[go_sem] theorem insJ_at (D : Nat → Bool) (i k : Nat) : insJ D i k = (k == i || D k) := rfl
def edgesQ : Nat → List Oper → Bool
  | _, [] => true
  | i, o :: l => (o.after.toList.all fun e => !Region.binds .any e || Nat.blt e.on i) && edgesQ (i + 1) l
theorem edgesQ_at : ∀ {l : List Oper} {n i : Nat} {o : Oper}, edgesQ n l = true → l[i]? = some o → ∀ e ∈ o.after, Region.binds .any e = true → e.on < n + i
  | [], _, _, _, _, h => by simp at h
  | o' :: l, n, i, o, hq, h => by
    simp only [edgesQ, Bool.and_eq_true] at hq
    cases i with
    | zero =>
      simp at h; subst h
      intro e he hb
      have := List.all_eq_true.1 hq.1 e (Array.mem_toList_iff.2 he)
      simp [hb] at this
      exact this
    | succ i =>
      intro e he hb
      have := edgesQ_at hq.2 (by simpa using h) e he hb
      omega
def stepsJ (S : Sp) (ops : Array Oper) (J : (Nat → Bool) → Env → Store → Prop) : Nat → List Oper → Prop
  | _, [] => True
  | i, o :: l => (∀ D, D i = false → (∀ e ∈ o.after.toList, Region.binds .any e = true → D e.on = true) → ∀ E σ, J D E σ → opsC S false ops i [o] (J (insJ D i)) E σ) ∧ stepsJ S ops J (i + 1) l
theorem stepsJ_at {S : Sp} {ops : Array Oper} {J : (Nat → Bool) → Env → Store → Prop} : ∀ {l : List Oper} {n i : Nat} {o : Oper}, stepsJ S ops J n l → l[i]? = some o →
    ∀ D, D (n + i) = false → (∀ e ∈ o.after.toList, Region.binds .any e = true → D e.on = true) → ∀ E σ, J D E σ → gopC S true true ops.toList o (J (insJ D (n + i))) (J (insJ D (n + i))) E σ
  | [], _, _, _, _, h => by simp at h
  | o' :: l, n, i, o, hq, h => by
    cases i with
    | zero => simp at h; subst h; exact hq.1
    | succ i =>
      have := stepsJ_at hq.2 (by simpa using h)
      rwa [show n + 1 + i = n + (i + 1) from by omega] at this
theorem region_J {S : Sp} (hY : YMono S) {id : Nat} {ops : Array Oper} {Q : Exit → Env → Store → Prop} {E : Env} {σ : Store} (J : (Nat → Bool) → Env → Store → Prop)
    (h0 : J (fun _ => false) E σ) (hsteps : stepsJ S ops J 0 ops.toList) (hend : ∀ D E σ, (∀ i, i < ops.size → D i = true) → J D E σ → Q .normal E σ)
    (hfit : ops.toList.all (Oper.fits S.P S.N) = true := by kernel_rfl) (hedge : edgesQ 0 ops.toList = true := by kernel_rfl) : semC S (.region id ops true) Q E σ := by
  intro C H n R hR a w hs
  have hall : ∀ (i : Nat) (o : Oper), ops[i]? = some o → Oper.fits S.P S.N o = true := fun i o ho => List.all_eq_true.1 hfit o (Array.mem_toList_iff.2 (Array.mem_of_getElem? ho))
  have hlist : ∀ (i : Nat) (o : Oper), ops[i]? = some o → ops.toList[i]? = some o := fun i o ho => by rw [Array.getElem?_toList]; exact ho
  refine wpIn_region_any H.mo ?_
  have key : ∀ (fuel : Nat) (listed : Array Bool) (E : Env) (σ : Store) (a : Act) (w : World), listed.size = ops.size → (rem ops listed).length ≤ fuel →
      J (fun i => listed.getD i false) E σ → St C E σ a w → wpAnyIn (FW C.rdl) n S.P .any ops R fuel listed a w := by
    intro fuel
    have full : ∀ (listed : Array Bool), listed.size = ops.size → rem ops listed = [] → ∀ i, i < ops.size → listed.getD i false = true := fun listed hsz hr i hi => by
      cases hl : listed.getD i false with
      | true => rfl
      | false =>
        have : i ∈ rem ops listed := mem_rem.2 ⟨hi, by
          simp only [Array.getD_eq_getD_getElem?] at hl ⊢
          rw [Array.getElem?_eq_getElem (by omega)] at hl ⊢; exact hl⟩
        rw [hr] at this; simp at this
    induction fuel with
    | zero =>
      intro listed E σ a w hsz hle hv hs
      have h0 : rem ops listed = [] := List.eq_nil_of_length_eq_zero (by omega)
      refine ⟨?_, hR _ _ _ _ _ (hend _ _ _ (full listed hsz h0) hv) hs⟩
      cases hr : Region.ready .any ops listed with
      | nil => rfl
      | cons i l =>
        have hi : i ∈ Region.ready .any ops listed := by rw [hr]; simp
        obtain ⟨h1, o, ho, _⟩ := mem_ready.1 hi
        have : i ∈ rem ops listed := mem_rem.2 ⟨(Array.getElem?_eq_some_iff.1 ho).1, h1⟩
        rw [h0] at this; simp at this
    | succ fuel ih =>
      intro listed E σ a w hsz hle hv hs
      have getD_same : ∀ i, i < ops.size → listed.getD i true = listed.getD i false := fun i hi => by
        simp only [Array.getD_eq_getD_getElem?]; rw [Array.getElem?_eq_getElem (by omega)]; rfl
      refine ⟨fun hr0 => ?_, fun i hi => ?_⟩
      · have hr : rem ops listed = [] := by
          cases hr : rem ops listed with
          | nil => rfl
          | cons i l =>
            exfalso
            have hm : i ∈ rem ops listed := by rw [hr]; simp
            obtain ⟨hlt, hun⟩ := mem_rem.1 hm
            have : i ∈ Region.ready .any ops listed := mem_ready.2 ⟨hun, _, Array.getElem?_eq_getElem hlt, fun e he hb => by
              have hei := edgesQ_at hedge (hlist i _ (Array.getElem?_eq_getElem hlt)) e he hb
              cases hl : listed.getD e.on false with
              | true => rfl
              | false =>
                have hme : e.on ∈ rem ops listed := mem_rem.2 ⟨by omega, by rw [getD_same _ (by omega)]; exact hl⟩
                have hsort := rem_sorted (ops := ops) listed
                rw [hr] at hme hsort
                rcases List.mem_cons.1 hme with h | h
                · omega
                · have := (List.pairwise_cons.1 hsort).1 _ h; omega⟩
            rw [hr0] at this; simp at this
        exact hR _ _ _ _ _ (hend _ _ _ (full listed hsz hr) hv) hs
      · obtain ⟨hun, o, ho, hedges⟩ := mem_ready.1 hi
        have hlt : i < ops.size := (Array.getElem?_eq_some_iff.1 ho).1
        have hm : i ∈ rem ops listed := mem_rem.2 ⟨hlt, hun⟩
        obtain ⟨pre, post, hsplit⟩ := List.append_of_mem hm
        have hset := rem_set hsz hsplit
        have hD : (fun k => (listed.setIfInBounds i true).getD k false) = insJ (fun k => listed.getD k false) i := by
          funext k
          simp only [insJ, Array.getD_eq_getD_getElem?]
          by_cases hk : k = i
          · subst hk; simp [hsz, hlt]
          · rw [Array.getElem?_setIfInBounds_ne (Ne.symm hk)]; simp [hk]
        have hstep := stepsJ_at hsteps (hlist i o ho) (fun k => listed.getD k false) (by rw [Nat.zero_add, ← getD_same i hlt]; exact hun) (fun e he hb => hedges e (Array.mem_toList_iff.1 he) hb) E σ hv
        rw [Nat.zero_add] at hstep
        have hg := gopC_of hY (K' := J (insJ (fun k => listed.getD k false) i)) (Kb' := J (insJ (fun k => listed.getD k false) i)) (fun _ _ h => h) (fun _ _ h => h) hstep
        have next : ∀ E' σ' a' w', J (insJ (fun k => listed.getD k false) i) E' σ' → St C E' σ' a' w' → wpAnyIn (FW C.rdl) n S.P .any ops R fuel (listed.setIfInBounds i true) a' w' := fun E' σ' a' w' h1 h3 => by
          refine ih (listed.setIfInBounds i true) E' σ' a' w' (by simpa using hsz) ?_ (by rw [hD]; exact h1) h3
          rw [hset]; rw [hsplit] at hle; simp at hle ⊢; omega
        obtain ⟨ρ, Im, M, hw⟩ := hs
        exact wpTurn_in ho (gop_sound (Kc := wpAnyIn (FW C.rdl) n S.P .any ops R fuel (listed.setIfInBounds i true)) H hw hall (hall i o ho) true true (fun h => by cases h) hg (fun E' σ' a' w' h1 h2 => next E' σ' a' w' h1 h2) fun E' σ' a' w' h1 h2 => next E' σ' a' w' h1 h2)
  exact key ops.size _ E σ a _ (by simp) (by unfold rem; exact Nat.le_trans (List.length_filter_le _ _) (by simp)) (by
    have : (fun i => (Array.replicate ops.size false).getD i false) = fun _ => false := by
      funext i; simp only [Array.getD_eq_getD_getElem?, Array.getElem?_replicate]; split <;> rfl
    rw [this]; exact h0) (hs.drew H.G (w.drawn + 1))
def spB (P : Program) (f : FuncId) (N : Nat) (bad : List Nat) : Sp := { P, N, b := 131072 * (f + 1), pin := fun _ => false, yl := 0, Y := fun _ _ _ => False, bad := inI bad, old := fun _ => false }
instance (P : Program) (f N : Nat) (bad : List Nat) : Plain (spB P f N bad) := ⟨fun _ _ _ _ _ hk => (show False from hk).elim⟩
section
variable (P : Program) (f N : Nat) (bad : List Nat)
@[go_sem] theorem spB_P : (spB P f N bad).P = P := rfl
@[go_sem] theorem spB_b : (spB P f N bad).b = 131072 * (f + 1) := rfl
@[go_sem] theorem spB_N : (spB P f N bad).N = N := rfl
@[go_sem] theorem spB_pin (id : Nat) : (spB P f N bad).pin id = false := rfl
@[go_sem] theorem spB_bad (id : Nat) : (spB P f N bad).bad id = bad.contains id := rfl
end
def fnB (P : Program) (fn : Func) (bad : List Nat) (c : Code) : Bool :=
  codeQ P fn.ntmps (inI bad) c && fn.results.toList.all (ResultVar.low fn.ntmps) && !(fn.name == "runtime.NumGoroutine") && Nat.ble fn.ntmps 99999
theorem ev_ofB {P : Program} {f : FuncId} {fn : Func} {c : Code} {args : List AV} {r : AV} (bad : List Nat) (hf : P.funcs[f]? = some fn) (hb : fn.body = some c) (hok : fnB P fn bad c = true) (hmo : P.follows .mixedOrders = true)
    (hlen : args.length ≤ fn.ntmps) (h : awpC (spB P f fn.ntmps bad) c (retC (spB P f fn.ntmps bad) fn r) (initE args) fun _ => none) : Ev P f args r := by
  simp only [fnB, Bool.and_eq_true, Bool.not_eq_true'] at hok
  obtain ⟨⟨⟨h1, h2⟩, h3⟩, h4⟩ := hok
  have h4 := Nat.le_of_ble_eq_true h4
  have h1 := codeOK_of c h1
  have h := awpC_of (S := spB P f fn.ntmps bad) (fun _ _ _ _ _ hk => (show False from hk).elim) c (retC_of fn r) h
  exact ev_core hf hb h1 h2 h3 h4 hmo hlen h
end Go.Vai
namespace Go.Vai
open Go.RowKit
def frE (F : Nat → Bool) (σ : Store) (E : Env) : Env := fun t => frz (notI F) (inL []) σ (E t)
def frS (F : Nat → Bool) (σ : Store) : Store := fun id => if F id then none else (σ id).map (frzB (notI F) (inL []) σ)
theorem notI_notI (F : Nat → Bool) : notI (notI F) = F := by funext i; simp [notI]
theorem killR_none (ρ : Nat → Option Nat) : killR (inL []) ρ = ρ := by rw [inL_nil]; funext i; simp [killR]
theorem Wit.freeze {S : Sp} {C : Fx} {E : Env} {σ : Store} {a : Act} {w : World} {ρ : Nat → Option Nat} {Im : Nat → Prop} {M : Str} (H : Holds S C) (h : Wit C E σ a w ρ Im M) (F : Nat → Bool) (hp : ∀ id, S.pin id = true → F id = false) (hfz : ∀ id, S.old id = true → F id = false) :
    Wit C (frE F σ E) (frS F σ) a w (killR F ρ) (Seen Im (killR (notI F) ρ)) M := by
  have rep : ∀ {c x}, Rep w ρ Im c x → Rep w (killR F ρ) (Seen Im (killR (notI F) ρ)) (frz (notI F) (inL []) σ c) x := fun {c x} hr => by
    have := frz_rep (L := notI F) (p := inL []) h.inv hr
    rwa [notI_notI, killR_none] at this
  have blk : ∀ {id b k}, σ id = some k → ρ id = some b → _ := fun {id b k} hk hr => frzB_inv (L := notI F) (p := inL []) h.inv hk hr
  simp only [notI_notI, killR_none] at blk
  have new : ∀ id b, F id = true → ρ id = some b → C.w0.heap.size ≤ b := fun id b hF hb => by
    rcases h.rng id b hb with h' | h'
    · rw [hfz id (H.fz id b h'.1 h'.2)] at hF; cases hF
    · exact h'
  refine ⟨⟨fun id k hk hr => ?_, fun id k b hk hr hz => ?_, fun id k b hk hr hz => ?_, fun i j b h1 h2 => h.inv.inj i j b (killR_some h1).2 (killR_some h2).2, fun id b hr hs => ?_, fun id b hr hI => ?_, fun b hb => ?_⟩, fun t y hy => rep (h.env t y hy), h.size, h.ext, fun id b hb => h.rng id b (killR_some hb).2, fun b hb => ?_, fun p => ?_, ?_, fun b hb => .inl (h.js b hb), fun b hb => ?_, h.rd, h.nodup, h.df, fun b hb => ?_, fun id ob hpn => ?_, fun b hb => .inl (h.j0 b hb)⟩
  · simp only [frS] at hk
    split at hk
    · cases hk
    · rename_i hF
      obtain ⟨k0, h0, rfl⟩ := Option.map_eq_some_iff.1 hk
      rw [killR_of ρ (by simpa using hF)] at hr
      have := h.inv.nil id k0 h0 hr
      simp [frzB, this, AV.namesL]
  · simp only [frS] at hk
    split at hk
    · cases hk
    · obtain ⟨k0, h0, rfl⟩ := Option.map_eq_some_iff.1 hk
      exact (blk h0 (killR_some hr).2).1 hz
  · simp only [frS] at hk
    split at hk
    · cases hk
    · obtain ⟨k0, h0, rfl⟩ := Option.map_eq_some_iff.1 hk
      exact (blk h0 (killR_some hr).2).2 hz
  · obtain ⟨hF, hr⟩ := killR_some hr
    simp only [frS, hF] at hs
    exact h.inv.live id b hr (by simpa using hs)
  · obtain ⟨hF, hr⟩ := killR_some hr
    rcases hI with hI | ⟨id', hI⟩
    · exact h.inv.apart id b hr hI
    · obtain ⟨hq, hI⟩ := killR_some hI
      have := h.inv.inj id id' b hr hI
      subst this
      simp [notI, hF] at hq
  · rcases hb with hb | ⟨id, hb⟩
    · exact h.inv.low b hb
    · exact h.inv.lt (killR_some hb).2
  · rcases hb with hb | ⟨id, hb⟩
    · exact h.im b hb
    · exact .inr (new id b (by have := (killR_some hb).1; simpa [notI] using this) (killR_some hb).2)
  · show AV.namesB p (frz _ _ σ (E C.N)) = false
    unfold frz; rw [if_pos (h.gh _)]; exact h.gh p
  · show C.G (frz _ _ σ (E C.N)) M w
    unfold frz; rw [if_pos (h.gh _)]; exact h.g
  · obtain ⟨h1, h2, h3, h4⟩ := h.ms b hb
    refine ⟨h1, fun id hid => h2 id (killR_some hid).2, fun hI => ?_, h4⟩
    rcases hI with hI | ⟨id, hI⟩
    · exact h3 hI
    · exact h2 id (killR_some hI).2
  · obtain ⟨h1, h2, h3⟩ := h.bk b hb
    refine ⟨fun id hid => h1 id (killR_some hid).2, fun hI => ?_, h3⟩
    rcases hI with hI | ⟨id, hI⟩
    · exact h2 hI
    · exact h1 id (killR_some hI).2
  · rw [killR_of ρ (hp id (H.pin id ob hpn))]; exact h.pin id ob hpn
theorem freeze_mk {S : Sp} (hY : YMono S) {id : Nat} {ops : Array Oper} {draw : Bool} {Q : Exit → Env → Store → Prop} {E : Env} {σ : Store} (F : List Nat) (h : regC S draw ops (Q .normal) (frE (inI F) σ E) (frS (inI F) σ))
    (hp : ∀ id, S.pin id = true → inI F id = false := by intro id hid; cases hid) (hfz : ∀ id, S.old id = true → inI F id = false := by intro id hid; cases hid) (hfit : codeQ S.P S.N noBad (.region id ops draw) = true := by kernel_rfl) : semC S (.region id ops draw) Q E σ := by
  intro C H n R hR a w ⟨ρ, Im, M, hw⟩
  have hw' := hw.freeze H (inI F) hp hfz
  have hok := codeOK_of _ hfit
  simp only [codeOK, Bool.and_eq_true, Bool.or_eq_true, Bool.not_eq_true', Bool.or_false, Bool.false_or, noBad, Bool.false_eq_true, false_or] at hok
  have hall : ∀ (i : Nat) (o : Oper), ops[i]? = some o → Oper.fits S.P S.N o = true := fun i o ho => List.all_eq_true.1 hok.1 o (Array.mem_toList_iff.2 (Array.mem_of_getElem? ho))
  unfold regC at h
  rw [struckC_eq] at h
  have hv := struck_mono (fun _ _ hk => opsC_of hY _ 0 (fun _ _ h => h) hk) _ _ h
  have hs : St C (frE (inI F) σ E) (frS (inI F) σ) a w := ⟨_, _, _, hw'⟩
  cases draw with
  | false =>
    simp only [struck, Bool.false_eq_true, if_false] at hv
    refine wpIn_region ?_
    have := awpOps_sound H hall (n := n) (Q := R) (fun E σ a w hk hs => hR .normal E σ a w hk hs) ops.toList 0 _ _ a w (by simp) hv hs
    rw [Array.length_toList, ← List.range_eq_range'] at this
    exact this
  | true => exact draw_sound H ops hok.1 (by simpa using hok.2) n (Q .normal) R _ _ a w (fun E σ a w hk hs => hR .normal E σ a w hk hs) hv hs id
attribute [go_sem] Bool.true_eq_false
section
variable (F : Nat → Bool) (σ : Store)
@[go_sem] theorem frE_at (E : Env) (t : Nat) : frE F σ E t = frz (notI F) (inL []) σ (E t) := rfl
@[go_sem] theorem frS_at (id : Nat) : frS F σ id = if F id then none else (σ id).map (frzB (notI F) (inL []) σ) := rfl
end
@[go_sem] theorem frz_v (L p : Nat → Bool) (σ : Store) (x : Value) : frz L p σ (.v x) = .v x := rfl
@[go_sem] theorem frz_sl (L p : Nat → Bool) (σ : Store) (s : Nat) (es : List AV) : frz L p σ (.sl s es) = .sl s es := rfl
@[go_sem] theorem frz_any (L p : Nat → Bool) (σ : Store) : frz L p σ .any = .any := rfl
@[go_sem] theorem frz_pt (L p : Nat → Bool) (σ : Store) (e : AV) (j : Nat) : frz L p σ (.pt e j) = .pt e j := rfl
@[go_sem] theorem frz_own (L p : Nat → Bool) (σ : Store) (id s i n : Nat) : frz L p σ (.own id s i n) = if AV.namesB (notI L) (.own id s i n) = false then .own id s i n else res (killS p (killS L σ)) (((AV.own id s i n).kill L).kill p) := rfl
@[go_sem] theorem frz_ptr (L p : Nat → Bool) (σ : Store) (id s i n : Nat) : frz L p σ (.ptr id s i n) = if AV.namesB (notI L) (.ptr id s i n) = false then .ptr id s i n else res (killS p (killS L σ)) (((AV.ptr id s i n).kill L).kill p) := rfl
end Go.Vai
namespace Go.Vai
open Go.RowKit
theorem freeze_op {S : Sp} [hY : Plain S] {dst : Option Nat} {op : Op} {ty : TypeId} {K : Env → Store → Prop} {E : Env} {σ : Store} (F : List Nat) (h : aopC S true true dst op ty K K (frE (inI F) σ E) (frS (inI F) σ))
    (hF : (F.all fun i => !S.old i && !S.pin i) = true := by kernel_rfl) (hfit : (dst.all (decide <| · < S.N) && Op.low S.N op && cls S.P op ty != 9) = true := by kernel_rfl) : semD S dst op ty K E σ := by
  intro pos after guard C H n a w Kc Q ⟨ρ, Im, M, hw⟩ hKc
  simp only [List.all_eq_true, Bool.and_eq_true, Bool.not_eq_true'] at hF
  have hin : ∀ {id}, inI F id = true → id ∈ F := fun h => List.contains_iff_mem.1 h
  have hw' := hw.freeze H (inI F) (fun id hid => by
    cases hh : inI F id with
    | false => rfl
    | true => have := (hF id (hin hh)).2; rw [hid] at this; cases this) (fun id hid => by
    cases hh : inI F id with
    | false => rfl
    | true => have := (hF id (hin hh)).1; rw [hid] at this; cases this)
  exact aop_sound H hw' (o := ⟨dst, op, ty, pos, after, guard⟩) hfit true true (fun h => by cases h) (aopC_of hY.mono (fun _ _ h => h) (fun _ _ h => h) h) (fun _ _ _ _ => hKc _ _ _ _) (fun _ _ _ _ => hKc _ _ _ _)
end Go.Vai
namespace Go.Vai
open Go.RowKit
abbrev entA (p : Int × AV) : AV := .tup [I p.1, p.2]
def idxA (n : Int) : List (Int × AV) → Option Nat
  | [] => none
  | p :: r => if p.1 = n then some 0 else (idxA n r).map (· + 1)
def mgetA (n : Int) : List (Int × AV) → Option AV
  | [] => none
  | p :: r => if p.1 = n then some p.2 else mgetA n r
def mputA (l : List (Int × AV)) (n : Int) (v : AV) : List (Int × AV) := match idxA n l with
  | none => l ++ [(n, v)]
  | some j => l.set j (n, v)
def Ents (ents : List MapEntry) (l : List (Int × AV)) : Prop := ents.length = l.length ∧ ∀ (i : Nat) (m : MapEntry) (p : Int × AV), ents[i]? = some m → l[i]? = some p → m.key = .int .i64 p.1
theorem find_ints (n : Int) : ∀ (ents : List MapEntry) (l : List (Int × AV)) (i : Nat), Ents ents l →
    (idxA n l = none ∧ mgetA n l = none ∧ Instr.findNow (.int .i64) (.int .i64 n) ents i = some none) ∨
    ∃ j p e, idxA n l = some j ∧ l[j]? = some p ∧ p.1 = n ∧ ents[j]? = some e ∧ mgetA n l = some p.2 ∧ Instr.findNow (.int .i64) (.int .i64 n) ents i = some (some (i + j, e.val))
  | [], [], _, _ => .inl ⟨rfl, rfl, rfl⟩
  | [], _ :: _, _, h => by have := h.1; simp at this
  | _ :: _, [], _, h => by have := h.1; simp at this
  | e :: es, p :: l, i, h => by
    have hk := h.2 0 e p rfl rfl
    have ht : Ents es l := ⟨by simpa using h.1, fun j m q hm hq => h.2 (j + 1) m q (by simpa using hm) (by simpa using hq)⟩
    by_cases hp : p.1 = n
    · refine .inr ⟨0, p, e, by rw [idxA, if_pos hp], rfl, hp, rfl, by rw [mgetA, if_pos hp], ?_⟩
      simp [Instr.findNow, Instr.sameNow, hk, hp]
    · have hf : Instr.findNow (.int .i64) (.int .i64 n) (e :: es) i = Instr.findNow (.int .i64) (.int .i64 n) es (i + 1) := by
        have : (n == p.1) = false := by simpa using fun e => hp e.symm
        simp [Instr.findNow, Instr.sameNow, hk, this]
      rcases find_ints n es l (i + 1) ht with ⟨h1, h2, h3⟩ | ⟨j, q, e', h1, h2, h3, h4, h5, h6⟩
      · exact .inl ⟨by rw [idxA, if_neg hp, h1]; rfl, by rw [mgetA, if_neg hp, h2], by rw [hf, h3]⟩
      · exact .inr ⟨j + 1, q, e', by rw [idxA, if_neg hp, h1]; rfl, by simpa using h2, h3, by simpa using h4, by rw [mgetA, if_neg hp, h5], by rw [hf, h6]; congr 3; omega⟩
section
variable {S : Sp} {C : Fx} {E : Env} {σ : Store} {a : Act} {w : World} {ρ : Nat → Option Nat} {Im : Nat → Prop} {M : Str}
theorem Rep.mref_inv {id : Nat} {y : Value} (h : Rep w ρ Im (.mref id) y) : ∃ b, y = .map (some b) ∧ ρ id = some b := by
  cases h with
  | im _ _ h => cases h
  | mref _ b hr => exact ⟨b, rfl, hr⟩
theorem bn_push {ents : Array MapEntry} {clk : Nat} (h : Bn ents clk) (k v : Value) : Bn (ents.push { key := k, val := v, born := clk }) (clk + 1) := by
  refine ⟨?_, fun e he => ?_⟩
  · rw [Array.toList_push, List.map_append, List.nodup_append]
    refine ⟨h.1, by simp, fun a ha b hb => ?_⟩
    obtain ⟨e, he, rfl⟩ := List.mem_map.1 ha
    have := h.2 e he
    simp at hb; omega
  · rw [Array.toList_push, List.mem_append, List.mem_singleton] at he
    rcases he with he | rfl
    · have := h.2 e he; omega
    · show clk < clk + 1; omega
theorem bn_modify {ents : Array MapEntry} {clk : Nat} (h : Bn ents clk) (j : Nat) (k v : Value) : Bn (ents.modify j fun e => { e with key := k, val := v }) clk := by
  have e : (ents.modify j fun e => { e with key := k, val := v }).toList.map (·.born) = ents.toList.map (·.born) := by
    refine List.ext_getElem? fun i => ?_
    rw [List.getElem?_map, List.getElem?_map, Array.getElem?_toList, Array.getElem?_toList, Array.getElem?_modify]
    split
    · rename_i hj; subst hj; cases ents[j]? <;> rfl
    · rfl
  refine ⟨by rw [e]; exact h.1, fun m hm => ?_⟩
  have hm : m.born ∈ ents.toList.map (·.born) := by rw [← e]; exact List.mem_map.2 ⟨m, hm, rfl⟩
  obtain ⟨m', hm', h2⟩ := List.mem_map.1 hm
  have := h.2 m' hm'
  omega
theorem ents_of {l : List (Int × AV)} {b : Nat} (h : MapOK w ρ Im (l.map entA) b) : ∃ ents clk, w.heap[b]? = some (.map ents clk) ∧ Ents ents.toList l ∧
    (∀ (i : Nat) (m : MapEntry) (p : Int × AV), ents.toList[i]? = some m → l[i]? = some p → Rep w ρ Im p.2 m.val) ∧ Bn ents clk := by
  obtain ⟨ents, clk, hb, hl, hc⟩ := h
  have key : ∀ (i : Nat) (m : MapEntry) (p : Int × AV), ents.toList[i]? = some m → l[i]? = some p → m.key = .int .i64 p.1 ∧ Rep w ρ Im p.2 m.val := fun i m p hm hp => by
    obtain ⟨v, hv, hr⟩ := hc i m (by rw [← Array.getElem?_toList]; exact hm)
    rw [List.getElem?_map, hp] at hv
    simp only [Option.map_some, Option.some.injEq, AV.tup.injEq, List.cons.injEq, AV.v.injEq, and_true] at hv
    obtain ⟨h1, h2⟩ := hv
    exact ⟨h1.symm, h2 ▸ hr⟩
  refine ⟨ents, clk, hb, ⟨by simpa using hl.1.symm, fun i m p hm hp => (key i m p hm hp).1⟩, fun i m p hm hp => (key i m p hm hp).2, hl.2⟩
theorem Wit.newMap (hG : GStable C.G) (h : Wit C E σ a w ρ Im M) {d : Nat} (hpn : C.pin d = none) (hcl : Clean d E σ) (t : TypeId) {dst : Option Nat} (hd : ∀ d, dst = some d → d < C.N) :
    Wit C (updO E dst (.mref d)) (updS σ d ⟨t, 0, []⟩) (a.put dst (.map (some w.heap.size))) (w.alloc (.map #[] 0)) (updR ρ d (some w.heap.size)) Im M := by
  have hb : ∀ i, i < w.heap.size → (w.alloc (.map #[] 0)).heap[i]? = w.heap[i]? := fun i hi => Below.heap_alloc w _ i hi
  refine h.step hG (Ext.alloc _ _ _) ?_ ((h.env.later h.inv hb hcl.2.1).put (.mref d _ (updR_same ..))) (put_size ..) (put_defers ..) (updO_ne hd) (fun id b hid => ?_) (fun _ hi => .inl hi) (pin_new h hpn) (fun _ h => h)
  · refine h.inv.fresh (by simp) hb hcl.1 hcl.2.2 (fun _ h => h) (fun _ h => .inl h) ⟨Nat.le_refl _, by simp, fun _ => ⟨#[], 0, World.alloc_heap_new w _, ⟨rfl, List.nodup_nil, fun _ h => (by cases h)⟩, fun i m hm => by simp at hm⟩, fun h0 => absurd rfl h0⟩
  · by_cases e : id = d
    · subst e; simp at hid; exact .inr (by omega)
    · rw [updR_ne _ _ _ _ e] at hid; exact .inl hid
theorem Wit.turnMap (hG : GStable C.G) (h : Wit C E σ a w ρ Im M) {id b : Nat} {k k' : Blk} {ents ents' : Array MapEntry} {clk clk' : Nat} (hk : σ id = some k) (hρ : ρ id = some b) (hb : w.heap[b]? = some (.map ents clk)) (hkz : k'.sz = 0)
    (hl : k'.es.length = ents'.size ∧ Bn ents' clk') (hf : ∀ (i : Nat) (m : MapEntry), ents'[i]? = some m → ∃ v, k'.es[i]? = some (.tup [.v m.key, v]) ∧ Rep w ρ Im v m.val) :
    Wit C E (updS σ id k') a { w with heap := w.heap.setIfInBounds b (.map ents' clk') } ρ Im M := by
  obtain ⟨hnew, hoth⟩ := MapKept.heap_set (o' := Obj.map ents' clk') hb
  have rep : ∀ {v : AV} {y : Value}, Rep w ρ Im v y → Rep { w with heap := w.heap.setIfInBounds b (.map ents' clk') } ρ Im v y := fun {v y} hr =>
    Rep.mono (w := w) (w' := { w with heap := w.heap.setIfInBounds b (.map ents' clk') }) (fun _ h => h) (fun q hI => hoth q (fun e => h.inv.apart id b hρ (e ▸ hI))) hr fun i _ => ⟨rfl, fun q hq cur2 e2 hc2 => by
      by_cases e : q = b
      · subst e; obtain ⟨_, hc2, _⟩ := hc2; rw [hb] at hc2; cases hc2
      · exact ⟨cur2, by rw [hoth q e]; exact hc2, rfl⟩⟩
  refine h.step hG ⟨rfl, rfl, rfl, by simp, fun q _ hq => hoth q (fun e => hq ⟨id, by rw [e]; exact hρ⟩)⟩ ?_ (fun t y hy => rep (h.env t y hy)) rfl rfl rfl (fun i _ hi => .inl hi) (fun _ hi => .inl hi) h.pin (fun _ h => h)
  refine ⟨fun i k2 hk2 hr => ?_, fun i k2 q hk2 hr hz => ?_, fun i k2 q hk2 hr hz => ?_, h.inv.inj, fun i q hr hs' => ?_, h.inv.apart, fun q hq => ?_⟩
  · by_cases e : i = id
    · subst e; rw [hρ] at hr; cases hr
    · rw [updS_ne _ _ _ _ e] at hk2; exact h.inv.nil i k2 hk2 hr
  · by_cases e : i = id
    · subst e; simp at hk2; subst hk2
      rw [hρ] at hr; cases hr
      exact ⟨ents', clk', hnew, hl, fun i m hm => by obtain ⟨v, hv, hr⟩ := hf i m hm; exact ⟨v, hv, rep hr⟩⟩
    · rw [updS_ne _ _ _ _ e] at hk2
      obtain ⟨ents2, clk2, hb2, hl2, hc2⟩ := h.inv.map i k2 q hk2 hr hz
      have hqb : q ≠ b := fun e' => e (h.inv.inj i id b (e' ▸ hr) hρ)
      exact ⟨ents2, clk2, by rw [hoth q hqb]; exact hb2, hl2, fun i m hm => by obtain ⟨v, hv, hr⟩ := hc2 i m hm; exact ⟨v, hv, rep hr⟩⟩
  · by_cases e : i = id
    · subst e; simp at hk2; subst hk2; exact absurd hkz hz
    · rw [updS_ne _ _ _ _ e] at hk2
      obtain ⟨cur2, hb2, hl2, hs2, hc2⟩ := h.inv.blk i k2 q hk2 hr hz
      have hqb : q ≠ b := fun e' => e (h.inv.inj i id b (e' ▸ hr) hρ)
      exact ⟨cur2, by rw [hoth q hqb]; exact hb2, hl2, hs2, fun i e j c hec hcc => by obtain ⟨x, hx, h1, hr⟩ := hc2 i e j c hec hcc; exact ⟨x, hx, h1, rep hr⟩⟩
  · by_cases e : i = id
    · subst e; simp at hs'
    · rw [updS_ne _ _ _ _ e] at hs'; exact h.inv.live i q hr hs'
  · have := h.inv.low q hq; simpa using this
end
theorem makeMap_mk {S : Sp} {d : Nat} {t ty : TypeId} {K : Env → Store → Prop} {E : Env} {σ : Store} (h : K (upd (killE (own (S.b + d)) E) d (.mref (16 * (S.b + d)))) (updS (killS (own (S.b + d)) σ) (16 * (S.b + d)) ⟨t, 0, []⟩))
    (hd : (Nat.blt d S.N && Nat.blt d 100000) = true := by kernel_rfl) : semD S (some d) (.makeMap t none) ty K E σ := by
  intro pos after guard C H n a w Kc Q ⟨ρ, Im, M, hw⟩ hKc
  simp only [Bool.and_eq_true] at hd
  have hd1 : d < S.N := Nat.le_of_ble_eq_true hd.1
  have hd2 : d < 100000 := Nat.le_of_ble_eq_true hd.2
  obtain ⟨ρ1, h1, hc1⟩ := kd_clean H hw true (S.b + d) (H.own hd2) (fun e => by cases e)
  have h2 := h1.newMap H.G (by simpa using H.free hd2 0 (by omega)) (by simpa using hc1 0 (by omega)) t (dst := some d) (fun d' e => by cases e; rw [← H.N]; exact hd1)
  refine wpIn_value (fun _ e => by cases e) ?_ (hKc _ _ _ _ h ⟨_, _, _, h2⟩)
  simp only [execOp, Instr.makeMap, Option.map_none, Sem.run_bind, Sem.run_pure, Result.andThen_ok, run_newObj_alloc]
theorem mapUpdate_mk {S : Sp} {t ty kt et : TypeId} {x y v : Operand} {K : Env → Store → Prop} {E : Env} {σ : Store} {id e : Nat} {l : List (Int × AV)} {n : Int}
    (hx : ev E x = .mref id) (hy : ev E y = I n) (hs : σ id = some ⟨e, 0, l.map entA⟩) (ht : S.P.underlying t = some (.map kt et)) (hk : S.P.underlying kt = some (.int .i64))
    (h : K E (updS σ id ⟨e, 0, (mputA l n (ev E v)).map entA⟩))
    (hlow : Op.low S.N (.mapUpdate t x y v) = true := by kernel_rfl) : semD S none (.mapUpdate t x y v) ty K E σ := by
  intro pos after guard C H nn a w Kc Q ⟨ρ, Im, M, hw⟩ hKc
  have rep : ∀ u, u ∈ (Op.mapUpdate t x y v).operands → Rep w ρ Im (ev E u) (a.eval u) := fun u hu => ev_rep hw.env (by rw [hw.size, ← H.N]; exact low_of hlow hu)
  have hrx := rep x (by simp [Op.operands])
  have hry := rep y (by simp [Op.operands])
  have hrv := rep v (by simp [Op.operands])
  rw [hx] at hrx
  rw [hy] at hry
  obtain ⟨b, hxb, hρ⟩ := hrx.mref_inv
  have hyv := hry.v_inv
  obtain ⟨ents, clk, hb, he, hv, hbn⟩ := ents_of (hw.inv.map id _ b hs hρ rfl)
  have hck := MapKept.run_checkKey (P := S.P) (w := w) hk (k := .int .i64 n) rfl false 9999
  have hlen := he.1
  rw [Array.length_toList] at hlen
  rcases find_ints n ents.toList l 0 he with ⟨h1, h2, h3⟩ | ⟨j, p, m, h1, h2, h0, h4, h5, h6⟩
  · refine wpIn_skip' (fun _ e => by cases e) (w' := { w with heap := w.heap.setIfInBounds b (.map (ents.push { key := .int .i64 n, val := a.eval v, born := clk }) (clk + 1)) }) ?_ (hKc _ _ _ _ h ⟨ρ, Im, M, ?_⟩)
    · simp [execOp, hxb, hyv, Instr.mapUpdate, Sem.run_bind, run_underlying ht w, Result.andThen_ok, MapKept.run_getObj_map hb, hck, MapKept.run_findKey hk h3, MapKept.run_setObj_map _ hb, Result.andThen]
    · refine (hw.turnMap H.G hs hρ hb rfl ⟨?_, bn_push hbn _ _⟩ fun i m hm => ?_)
      · simp only [mputA, h1]; simp; omega
      · simp only [mputA, h1]
        rw [Array.getElem?_push] at hm
        split at hm
        · rename_i hi
          cases hm
          refine ⟨ev E v, ?_, hrv⟩
          rw [List.getElem?_map, hi, hlen, List.getElem?_append_right (Nat.le_refl _), Nat.sub_self]; rfl
        · have hil : i < ents.size := (Array.getElem?_eq_some_iff.1 hm).1
          cases hp : l[i]? with
          | none => rw [List.getElem?_eq_none_iff] at hp; omega
          | some p =>
            have hm' : ents.toList[i]? = some m := by rw [Array.getElem?_toList]; exact hm
            refine ⟨p.2, ?_, hv i m p hm' hp⟩
            rw [List.getElem?_map, List.getElem?_append_left (by omega), hp, he.2 i m p hm' hp]; rfl
  · rw [Nat.zero_add] at h6
    have hkm : m.key = .int .i64 n := by rw [he.2 j m p h4 h2, h0]
    have hje : ents[j]? = some m := by rw [← Array.getElem?_toList]; exact h4
    refine wpIn_skip' (fun _ e => by cases e) (w' := { w with heap := w.heap.setIfInBounds b (.map (ents.modify j fun e => { e with key := .int .i64 n, val := a.eval v }) clk) }) ?_ (hKc _ _ _ _ h ⟨ρ, Im, M, ?_⟩)
    · have hst := MapKept.run_keyThatStays (P := S.P) (w := w) (d := .int .i64) (k := .int .i64 n) rfl
      simp [execOp, hxb, hyv, Instr.mapUpdate, Sem.run_bind, run_underlying ht w, Result.andThen_ok, MapKept.run_getObj_map hb, hck, MapKept.run_findKey hk h6, hje, hkm, hst, MapKept.run_setObj_map _ hb, Result.andThen]
    · refine (hw.turnMap H.G hs hρ hb rfl ⟨?_, bn_modify hbn j _ _⟩ fun i q hm => ?_)
      · simp only [mputA, h1]; simp; omega
      · simp only [mputA, h1]
        rw [Array.getElem?_modify] at hm
        have hjl : j < l.length := (List.getElem?_eq_some_iff.1 h2).1
        split at hm
        · rename_i e
          subst e
          rw [hje] at hm
          cases hm
          exact ⟨ev E v, by rw [List.getElem?_map, List.getElem?_set_self hjl]; rfl, hrv⟩
        · rename_i hne
          have hil : i < ents.size := (Array.getElem?_eq_some_iff.1 hm).1
          cases hp : l[i]? with
          | none => rw [List.getElem?_eq_none_iff] at hp; omega
          | some p =>
            have hm' : ents.toList[i]? = some q := by rw [Array.getElem?_toList]; exact hm
            refine ⟨p.2, ?_, hv i q p hm' hp⟩
            rw [List.getElem?_map, List.getElem?_set_ne hne, hp, he.2 i q p hm' hp]; rfl
section
variable {S : Sp} {kd bi : Bool} {dst : Option Nat} {ty t : TypeId} {K Kb : Env → Store → Prop} {E : Env} {σ : Store}
@[go_sem ↓] theorem aop_lookup (x y : Operand) (c : Bool) : aopC S kd bi dst (.lookup t x y c) ty K Kb E σ = semD S dst (.lookup t x y c) ty Kb E σ := rfl
@[go_sem ↓] theorem aop_mapUpdate (x y v : Operand) : aopC S kd bi dst (.mapUpdate t x y v) ty K Kb E σ = semD S dst (.mapUpdate t x y v) ty Kb E σ := rfl
@[go_sem ↓] theorem aop_makeMap (r : Option Operand) : aopC S kd bi dst (.makeMap t r) ty K Kb E σ = semD S dst (.makeMap t r) ty Kb E σ := rfl
@[go_sem] theorem ok_mref (id : Nat) : (AV.mref id).ok = true := rfl
@[go_sem] theorem fade_mref (nm : Nat → Bool) (id : Nat) : fade nm (.mref id) = if nm id = true then .mref id else .any := by
  unfold fade; simp only [AV.kill, AV.namesB, AV.dk]; by_cases h : nm id = true <;> simp [h, AV.ownB]
@[go_sem] theorem fdL_ints (q k : Nat → Bool) (l : List Int) : AV.fdL q k (l.map I) = l.map I := AV.fdL_free q k _ (namesL_ints allB l)
@[go_sem] theorem kill_mref (p : Nat → Bool) (id : Nat) : AV.kill p (.mref id) = if p id = true then .any else .mref id := by
  simp only [AV.kill, AV.namesB, AV.dk]; by_cases h : p id = true <;> simp [h]
@[go_sem] theorem frz_mref (L p : Nat → Bool) (σ : Store) (id : Nat) : frz L p σ (.mref id) = if AV.namesB (notI L) (.mref id) = false then .mref id else res (killS p (killS L σ)) (((AV.mref id).kill L).kill p) := rfl
@[go_sem] theorem frzE_own (L p : Nat → Bool) (σ : Store) (id s i n : Nat) : frzE L p σ (.own id s i n) = frz L p σ (.own id s i n) := rfl
@[go_sem] theorem frzE_ptr (L p : Nat → Bool) (σ : Store) (id s i n : Nat) : frzE L p σ (.ptr id s i n) = frz L p σ (.ptr id s i n) := rfl
@[go_sem] theorem frzE_mref (L p : Nat → Bool) (σ : Store) (id : Nat) : frzE L p σ (.mref id) = frz L p σ (.mref id) := rfl
@[go_sem] theorem frzE_v (L p : Nat → Bool) (σ : Store) (x : Value) : frzE L p σ (.v x) = .v x := rfl
@[go_sem] theorem frzE_sl (L p : Nat → Bool) (σ : Store) (s : Nat) (es : List AV) : frzE L p σ (.sl s es) = .sl s es := rfl
@[go_sem] theorem frzE_pt (L p : Nat → Bool) (σ : Store) (e : AV) (j : Nat) : frzE L p σ (.pt e j) = .pt e j := rfl
@[go_sem] theorem frzE_agg (L p : Nat → Bool) (σ : Store) (cs : List AV) : frzE L p σ (.agg cs) = .agg (cs.map (frz L p σ)) := rfl
attribute [go_sem] AV.cells_mref AV.cells_mp
end
end Go.Vai
namespace Go.Vai
open Go.RowKit
def slR1 : AV → AV
  | .new _ sz es => .sl sz es
  | .nptr _ _ [x] => .pt x 0
  | r => r
def slR : AV → AV
  | .tup rs => .tup (rs.map slR1)
  | .clo g rs => .clo g (rs.map slR1)
  | r => slR1 r
theorem content_cell {w : World} {Im : Nat → Prop} {e sz b : Nat} {es : List AV} (h : Content w Im e sz es b) : ∃ f : Nat → Nat → Value,
    (∀ i j, i < es.length → j < sz → w.cell? ⟨b, 0 + i * sz + j, none⟩ = some (f i j) ∧ (f i j).oneCell' = true) ∧ ∀ (i : Nat) (x : AV) (j : Nat) (c : AV), es[i]? = some x → x.cells[j]? = some c → IRep w Im c (f i j) := by
  obtain ⟨cur, hb, hl, hs, hc⟩ := h
  refine ⟨fun i j => (cur[i * sz + j]?).getD undef, fun i j hi hj => ?_, fun i x j c hx hcx => ?_⟩
  · cases hx : es[i]? with
    | none => rw [List.getElem?_eq_none_iff] at hx; omega
    | some x =>
      have hxl := hl x (List.mem_of_getElem? hx)
      cases hcj : x.cells[j]? with
      | none => rw [List.getElem?_eq_none_iff] at hcj; omega
      | some c =>
        obtain ⟨v, hv, h1, _⟩ := hc i x j c hx hcj
        simp only []
        rw [Nat.zero_add, hv]
        refine ⟨?_, h1⟩
        rw [cells_at hb]; simp only [Option.getD_some]
        exact hv
  · obtain ⟨v, hv, h1, hr⟩ := hc i x j c hx hcx
    simp only []
    rw [hv]; exact hr
theorem R1.tree {w : World} {Im Im2 : Nat → Prop} {r : AV} {y : Value} {ob : Option Nat} (h : R1 w Im r y ob) (hI : ∀ b, Im b → Im2 b) (hb : ∀ b, ob = some b → Im2 b) (hnp : ∀ e sz es, r = .nptr e sz es → ∃ x, es = [x]) : R1 w Im2 (slR1 r) y none := by
  cases r with
  | new e sz es =>
    rcases h with ⟨_, rfl, rfl⟩ | ⟨b, cap, hz, rfl, rfl, hcap, _, _, hct⟩
    · exact ⟨rfl, .slnil ..⟩
    · refine ⟨rfl, ?_⟩
      obtain ⟨f, h1, h2⟩ := content_cell (hct.mono hI)
      cases es with
      | nil => exact .slnil ..
      | cons e0 es0 => exact .sl sz (e0 :: es0) b 0 cap f (hb b rfl) hcap hct.choose_spec.2.1 h1 h2
  | nptr e sz es =>
    obtain ⟨x, rfl⟩ := hnp e sz es rfl
    obtain ⟨b, hz, rfl, rfl, hct⟩ := h
    refine ⟨rfl, ?_⟩
    have hx : x.cells.length = sz := hct.choose_spec.2.1 x (by simp)
    obtain ⟨f, h1, h2⟩ := content_cell (hct.mono hI)
    refine .pt x 0 b 0 (f 0) (hb b rfl) (fun i hi => ?_) fun i c hc => h2 0 x i c rfl hc
    have := h1 0 i (by simp) (by omega)
    simpa using this
  | _ => exact ⟨rfl, h.2.mono hI (fun _ _ => rfl)⟩
theorem RL.tree {w : World} {Im Im2 : Nat → Prop} (hI : ∀ b, Im b → Im2 b) : ∀ {rs : List AV} {ys : List Value} {obs : List (Option Nat)}, RL w Im rs ys obs → (∀ b, some b ∈ obs → Im2 b) → (∀ e sz es, AV.nptr e sz es ∈ rs → ∃ x, es = [x]) →
    RL w Im2 (rs.map slR1) ys (obs.map fun _ => none)
  | [], [], [], _, _, _ => trivial
  | r :: rs, _ :: _, ob :: obs, h, hb, hn => ⟨h.1.tree hI (fun b hbb => hb b (by simp [hbb])) fun e sz es hr => hn e sz es (by simp [hr]), RL.tree hI h.2 (fun b hbb => hb b (by simp [hbb])) fun e sz es hr => hn e sz es (by simp [hr])⟩
theorem fresh_none {lo : Nat} {Im : Nat → Prop} (obs : List (Option Nat)) : Fresh lo Im (obs.map fun _ => none) := by
  refine ⟨fun b hb => (by simp at hb), ?_⟩
  induction obs with
  | nil => exact .nil
  | cons o obs ih => exact .cons (fun a _ => .inl rfl) ih
def onePt1 : AV → Bool
  | .nptr _ _ es => es.length == 1
  | _ => true
def onePt : AV → Bool
  | .tup rs => rs.all onePt1
  | .clo _ rs => rs.all onePt1
  | r => onePt1 r
theorem onePt1_of {e sz : Nat} {es : List AV} (h : onePt1 (.nptr e sz es) = true) : ∃ x, es = [x] := by
  simp only [onePt1, beq_iff_eq] at h
  match es, h with
  | [x], _ => exact ⟨x, rfl⟩
theorem R1_low {w : World} {Im : Nat → Prop} {r : AV} {y : Value} {b : Nat} (h : R1 w Im r y (some b)) : b < w.heap.size := by
  cases r with
  | new e sz es =>
    rcases h with h | ⟨b, cap, _, hb, _, _, _, ⟨cur, hc, _⟩, _⟩
    · cases h.1
    · cases hb; exact cells_lt hc
  | nptr e sz es =>
    obtain ⟨b, _, hb, _, hct⟩ := h
    cases hb
    obtain ⟨cur, hc, _⟩ := hct
    exact cells_lt hc
  | _ => cases h.1
theorem RL_low {w : World} {Im : Nat → Prop} : ∀ {rs : List AV} {ys : List Value} {obs : List (Option Nat)}, RL w Im rs ys obs → ∀ b, some b ∈ obs → b < w.heap.size
  | [], [], [], _, b, hb => by simp at hb
  | r :: rs, _ :: _, ob :: obs, h, b, hb => by
    rcases List.mem_cons.1 hb with rfl | hb
    · exact R1_low h.1
    · exact RL_low h.2 b hb
theorem RRep.tree {w w' : World} {Im : Nat → Prop} {r : AV} {y : Value} (h : RRep w w' Im r y) (hn : onePt r = true) : RRep w w' Im (slR r) y := by
  obtain ⟨Im1, h1, h2, hr⟩ := h
  have key : ∀ obs : List (Option Nat), Fresh w.heap.size Im1 obs → (∀ b, some b ∈ obs → b < w'.heap.size) → ∀ b, (Im1 b ∨ some b ∈ obs) → Im b ∨ (w.heap.size ≤ b ∧ b < w'.heap.size) := fun obs hf hl b hb => by
    rcases hb with hb | hb
    · exact h2 b hb
    · exact .inr ⟨(hf.1 b hb).1, hl b hb⟩
  have single : ∀ {r : AV}, (∃ ob, R1 w' Im1 r y ob ∧ Fresh w.heap.size Im1 [ob]) → onePt1 r = true → ∃ Im' : Nat → Prop, (∀ b, Im b → Im' b) ∧ (∀ b, Im' b → Im b ∨ (w.heap.size ≤ b ∧ b < w'.heap.size)) ∧ ∃ ob, R1 w' Im' (slR1 r) y ob ∧ Fresh w.heap.size Im' [ob] := by
    rintro r ⟨ob, hr, hf⟩ hn
    refine ⟨fun b => Im1 b ∨ some b ∈ [ob], fun b hb => .inl (h1 b hb), key [ob] hf fun b hb => ?_, none, hr.tree (fun b hb => .inl hb) (fun b hb => .inr (by simp [hb])) (fun e sz es he => by subst he; exact onePt1_of hn), fresh_none [ob]⟩
    simp at hb; subst hb; exact R1_low hr
  cases r with
  | tup rs =>
    obtain ⟨ys, obs, rfl, hl, hf⟩ := hr
    have hn' := List.all_eq_true.1 hn
    exact ⟨fun b => Im1 b ∨ some b ∈ obs, fun b hb => .inl (h1 b hb), key obs hf (RL_low hl), ys, _, rfl, hl.tree (fun b hb => .inl hb) (fun b hb => .inr hb) (fun e sz es he => onePt1_of (hn' _ he)), fresh_none obs⟩
  | clo g rs =>
    obtain ⟨ys, obs, rfl, hl, hf⟩ := hr
    have hn' := List.all_eq_true.1 hn
    exact ⟨fun b => Im1 b ∨ some b ∈ obs, fun b hb => .inl (h1 b hb), key obs hf (RL_low hl), ys, _, rfl, hl.tree (fun b hb => .inl hb) (fun b hb => .inr hb) (fun e sz es he => onePt1_of (hn' _ he)), fresh_none obs⟩
  | new e sz es => exact single hr hn
  | nptr e sz es =>
    obtain ⟨x, rfl⟩ := onePt1_of (e := e) (sz := sz) hn
    exact single hr hn
  | _ => exact single hr hn
theorem ev_sl {P : Program} {f : FuncId} {args : List AV} {r : AV} (h : Ev P f args r) (r' : AV) (hn : onePt r = true := by first | rfl | simp [onePt, onePt1]) (he : slR r = r' := by first | rfl | simp [slR, slR1]) : Ev P f args r' := by
  subst he
  rintro xs r0 ⟨rfl, rfl⟩
  obtain ⟨h1, h2⟩ := h xs r ⟨rfl, rfl⟩
  exact ⟨h1, fun w Im vs hlow hgk hv => (h2 w Im vs hlow hgk hv).mono fun e w' ⟨y, he, hx, hr⟩ => ⟨y, he, hx, hr.tree hn⟩⟩
end Go.Vai

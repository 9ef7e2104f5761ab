/- A heap-free account of the walk, fourth part -/
import Derived.Test.YtmiahmpobpokmaaKC
import Derived.ProofKit
import Derived.OpenShut
import Derived.KernelRfl
/- What is reckoned is monotone in what follows; cuts. Written in part by monogen.py. -/
set_option linter.unusedSimpArgs false
namespace Go.Vai
open Go.RowKit

theorem optV_mono {o : Option AV} {K K' : AV → Prop} (hK : ∀ v, K v → K' v) (h : optV o K) : optV o K' := by
  unfold optV at h ⊢
  first
    | (first | exact h.elim | exact hK _ h | exact ⟨h.1, hK _ h.2⟩)
    | (split at h <;> (try simp only [*]) <;> (first | exact h.elim | exact hK _ h | exact ⟨h.1, hK _ h.2⟩))
    | (split at h <;> (try simp only [*]) <;> (first | (first | exact h.elim | exact hK _ h | exact ⟨h.1, hK _ h.2⟩) | (split at h <;> (try simp only [*]) <;> (first | exact h.elim | exact hK _ h | exact ⟨h.1, hK _ h.2⟩))))

theorem optPt_mono {A : Prop} {o : Option AV} {K K' : AV → Prop} (hK : ∀ v, K v → K' v) (h : optPt A o K) : optPt A o K' := by
  unfold optPt at h ⊢
  first
    | (first | exact h.elim | exact hK _ h | exact ⟨h.1, hK _ h.2⟩)
    | (split at h <;> (try simp only [*]) <;> (first | exact h.elim | exact hK _ h | exact ⟨h.1, hK _ h.2⟩))
    | (split at h <;> (try simp only [*]) <;> (first | (first | exact h.elim | exact hK _ h | exact ⟨h.1, hK _ h.2⟩) | (split at h <;> (try simp only [*]) <;> (first | exact h.elim | exact hK _ h | exact ⟨h.1, hK _ h.2⟩))))

theorem optU_mono {A : Prop} {o : Option UInt8} {K K' : AV → Prop} (hK : ∀ v, K v → K' v) (h : optU A o K) : optU A o K' := by
  unfold optU at h ⊢
  first
    | (first | exact h.elim | exact hK _ h | exact ⟨h.1, hK _ h.2⟩)
    | (split at h <;> (try simp only [*]) <;> (first | exact h.elim | exact hK _ h | exact ⟨h.1, hK _ h.2⟩))
    | (split at h <;> (try simp only [*]) <;> (first | (first | exact h.elim | exact hK _ h | exact ⟨h.1, hK _ h.2⟩) | (split at h <;> (try simp only [*]) <;> (first | exact h.elim | exact hK _ h | exact ⟨h.1, hK _ h.2⟩))))

theorem eqlC_mono {op : BinOp} {o : Option Bool} {K K' : AV → Prop} (hK : ∀ v, K v → K' v) (h : eqlC op o K) : eqlC op o K' := by
  unfold eqlC at h ⊢
  first
    | (first | exact h.elim | exact hK _ h | exact ⟨h.1, hK _ h.2⟩)
    | (split at h <;> (try simp only [*]) <;> (first | exact h.elim | exact hK _ h | exact ⟨h.1, hK _ h.2⟩))
    | (split at h <;> (try simp only [*]) <;> (first | (first | exact h.elim | exact hK _ h | exact ⟨h.1, hK _ h.2⟩) | (split at h <;> (try simp only [*]) <;> (first | exact h.elim | exact hK _ h | exact ⟨h.1, hK _ h.2⟩))))

theorem aggC_mono {op : BinOp} {q : Option (List Nat)} {cs ds : List AV} {K K' : AV → Prop} (hK : ∀ v, K v → K' v) (h : aggC op q cs ds K) : aggC op q cs ds K' := by
  unfold aggC at h ⊢
  first
    | (first | exact h.elim | exact hK _ h | exact ⟨h.1, hK _ h.2⟩ | exact eqlC_mono hK h | exact ⟨h.1, eqlC_mono hK h.2⟩)
    | (split at h <;> (try simp only [*]) <;> (first | exact h.elim | exact hK _ h | exact ⟨h.1, hK _ h.2⟩ | exact eqlC_mono hK h | exact ⟨h.1, eqlC_mono hK h.2⟩))
    | (split at h <;> (try simp only [*]) <;> (first | (first | exact h.elim | exact hK _ h | exact ⟨h.1, hK _ h.2⟩ | exact eqlC_mono hK h | exact ⟨h.1, eqlC_mono hK h.2⟩) | (split at h <;> (try simp only [*]) <;> (first | exact h.elim | exact hK _ h | exact ⟨h.1, hK _ h.2⟩ | exact eqlC_mono hK h | exact ⟨h.1, eqlC_mono hK h.2⟩))))

theorem intC_mono {op : BinOp} {k : IntKind} {m : Int} {k' : IntKind} {n : Int} {K K' : AV → Prop} (hK : ∀ v, K v → K' v) (h : intC op k m k' n K) : intC op k m k' n K' := by
  unfold intC at h ⊢
  first
    | (first | exact h.elim | exact hK _ h | exact ⟨h.1, hK _ h.2⟩)
    | (split at h <;> (try simp only [*]) <;> (first | exact h.elim | exact hK _ h | exact ⟨h.1, hK _ h.2⟩))
    | (split at h <;> (try simp only [*]) <;> (first | (first | exact h.elim | exact hK _ h | exact ⟨h.1, hK _ h.2⟩) | (split at h <;> (try simp only [*]) <;> (first | exact h.elim | exact hK _ h | exact ⟨h.1, hK _ h.2⟩))))

theorem strC_mono {op : BinOp} {a b : ByteArray} {K K' : AV → Prop} (hK : ∀ v, K v → K' v) (h : strC op a b K) : strC op a b K' := by
  unfold strC at h ⊢
  first
    | (first | exact h.elim | exact hK _ h | exact ⟨h.1, hK _ h.2⟩)
    | (split at h <;> (try simp only [*]) <;> (first | exact h.elim | exact hK _ h | exact ⟨h.1, hK _ h.2⟩))
    | (split at h <;> (try simp only [*]) <;> (first | (first | exact h.elim | exact hK _ h | exact ⟨h.1, hK _ h.2⟩) | (split at h <;> (try simp only [*]) <;> (first | exact h.elim | exact hK _ h | exact ⟨h.1, hK _ h.2⟩))))

theorem nilC2_mono {op : BinOp} {u : AV} {q : Option TypeId} {K K' : AV → Prop} (hK : ∀ v, K v → K' v) (h : nilC2 op u q K) : nilC2 op u q K' := by
  unfold nilC2 at h ⊢
  first
    | (first | exact h.elim | exact hK _ h | exact ⟨h.1, hK _ h.2⟩)
    | (split at h <;> (try simp only [*]) <;> (first | exact h.elim | exact hK _ h | exact ⟨h.1, hK _ h.2⟩))
    | (split at h <;> (try simp only [*]) <;> (first | (first | exact h.elim | exact hK _ h | exact ⟨h.1, hK _ h.2⟩) | (split at h <;> (try simp only [*]) <;> (first | exact h.elim | exact hK _ h | exact ⟨h.1, hK _ h.2⟩))))

theorem binC_mono {P : Program} {op : BinOp} {t : TypeId} {a b : AV} {K K' : AV → Prop} (hK : ∀ v, K v → K' v) (h : binC P op t a b K) : binC P op t a b K' := by
  unfold binC at h ⊢
  first
    | (first | exact h.elim | exact hK _ h | exact ⟨h.1, hK _ h.2⟩ | exact nilC2_mono hK h | exact strC_mono hK h | exact intC_mono hK h | exact aggC_mono hK h | exact ⟨h.1, nilC2_mono hK h.2⟩ | exact ⟨h.1, strC_mono hK h.2⟩ | exact ⟨h.1, intC_mono hK h.2⟩ | exact ⟨h.1, aggC_mono hK h.2⟩)
    | (split at h <;> (try simp only [*]) <;> (first | exact h.elim | exact hK _ h | exact ⟨h.1, hK _ h.2⟩ | exact nilC2_mono hK h | exact strC_mono hK h | exact intC_mono hK h | exact aggC_mono hK h | exact ⟨h.1, nilC2_mono hK h.2⟩ | exact ⟨h.1, strC_mono hK h.2⟩ | exact ⟨h.1, intC_mono hK h.2⟩ | exact ⟨h.1, aggC_mono hK h.2⟩))
    | (split at h <;> (try simp only [*]) <;> (first | (first | exact h.elim | exact hK _ h | exact ⟨h.1, hK _ h.2⟩ | exact nilC2_mono hK h | exact strC_mono hK h | exact intC_mono hK h | exact aggC_mono hK h | exact ⟨h.1, nilC2_mono hK h.2⟩ | exact ⟨h.1, strC_mono hK h.2⟩ | exact ⟨h.1, intC_mono hK h.2⟩ | exact ⟨h.1, aggC_mono hK h.2⟩) | (split at h <;> (try simp only [*]) <;> (first | exact h.elim | exact hK _ h | exact ⟨h.1, hK _ h.2⟩ | exact nilC2_mono hK h | exact strC_mono hK h | exact intC_mono hK h | exact aggC_mono hK h | exact ⟨h.1, nilC2_mono hK h.2⟩ | exact ⟨h.1, strC_mono hK h.2⟩ | exact ⟨h.1, intC_mono hK h.2⟩ | exact ⟨h.1, aggC_mono hK h.2⟩))))

theorem partA_mono {q : Option Bool} {s : Nat} {cs : List AV} {off : Nat} {K K' : AV → Prop} (hK : ∀ v, K v → K' v) (h : partA q s cs off K) : partA q s cs off K' := by
  unfold partA at h ⊢
  first
    | (first | exact h.elim | exact hK _ h | exact ⟨h.1, hK _ h.2⟩ | exact optV_mono hK h | exact ⟨h.1, optV_mono hK h.2⟩)
    | (split at h <;> (try simp only [*]) <;> (first | exact h.elim | exact hK _ h | exact ⟨h.1, hK _ h.2⟩ | exact optV_mono hK h | exact ⟨h.1, optV_mono hK h.2⟩))
    | (split at h <;> (try simp only [*]) <;> (first | (first | exact h.elim | exact hK _ h | exact ⟨h.1, hK _ h.2⟩ | exact optV_mono hK h | exact ⟨h.1, optV_mono hK h.2⟩) | (split at h <;> (try simp only [*]) <;> (first | exact h.elim | exact hK _ h | exact ⟨h.1, hK _ h.2⟩ | exact optV_mono hK h | exact ⟨h.1, optV_mono hK h.2⟩))))

theorem partC_mono {P : Program} {t : TypeId} {cs : List AV} {off : Nat} {K K' : AV → Prop} (hK : ∀ v, K v → K' v) (h : partC P t cs off K) : partC P t cs off K' := by
  unfold partC at h ⊢
  first
    | (first | exact h.elim | exact hK _ h | exact ⟨h.1, hK _ h.2⟩ | exact partA_mono hK h | exact ⟨h.1, partA_mono hK h.2⟩)
    | (split at h <;> (try simp only [*]) <;> (first | exact h.elim | exact hK _ h | exact ⟨h.1, hK _ h.2⟩ | exact partA_mono hK h | exact ⟨h.1, partA_mono hK h.2⟩))
    | (split at h <;> (try simp only [*]) <;> (first | (first | exact h.elim | exact hK _ h | exact ⟨h.1, hK _ h.2⟩ | exact partA_mono hK h | exact ⟨h.1, partA_mono hK h.2⟩) | (split at h <;> (try simp only [*]) <;> (first | exact h.elim | exact hK _ h | exact ⟨h.1, hK _ h.2⟩ | exact partA_mono hK h | exact ⟨h.1, partA_mono hK h.2⟩))))

theorem loadE_mono {P : Program} {t : TypeId} {o : Option AV} {j : Nat} {K K' : AV → Prop} (hK : ∀ v, K v → K' v) (h : loadE P t o j K) : loadE P t o j K' := by
  unfold loadE at h ⊢
  first
    | (first | exact h.elim | exact hK _ h | exact ⟨h.1, hK _ h.2⟩ | exact partC_mono hK h | exact ⟨h.1, partC_mono hK h.2⟩)
    | (split at h <;> (try simp only [*]) <;> (first | exact h.elim | exact hK _ h | exact ⟨h.1, hK _ h.2⟩ | exact partC_mono hK h | exact ⟨h.1, partC_mono hK h.2⟩))
    | (split at h <;> (try simp only [*]) <;> (first | (first | exact h.elim | exact hK _ h | exact ⟨h.1, hK _ h.2⟩ | exact partC_mono hK h | exact ⟨h.1, partC_mono hK h.2⟩) | (split at h <;> (try simp only [*]) <;> (first | exact h.elim | exact hK _ h | exact ⟨h.1, hK _ h.2⟩ | exact partC_mono hK h | exact ⟨h.1, partC_mono hK h.2⟩))))

theorem loadB_mono {P : Program} {t : TypeId} {o : Option Blk} {sz i j : Nat} {K K' : AV → Prop} (hK : ∀ v, K v → K' v) (h : loadB P t o sz i j K) : loadB P t o sz i j K' := by
  unfold loadB at h ⊢
  first
    | (first | exact h.elim | exact hK _ h | exact ⟨h.1, hK _ h.2⟩ | exact loadE_mono hK h | exact ⟨h.1, loadE_mono hK h.2⟩)
    | (split at h <;> (try simp only [*]) <;> (first | exact h.elim | exact hK _ h | exact ⟨h.1, hK _ h.2⟩ | exact loadE_mono hK h | exact ⟨h.1, loadE_mono hK h.2⟩))
    | (split at h <;> (try simp only [*]) <;> (first | (first | exact h.elim | exact hK _ h | exact ⟨h.1, hK _ h.2⟩ | exact loadE_mono hK h | exact ⟨h.1, loadE_mono hK h.2⟩) | (split at h <;> (try simp only [*]) <;> (first | exact h.elim | exact hK _ h | exact ⟨h.1, hK _ h.2⟩ | exact loadE_mono hK h | exact ⟨h.1, loadE_mono hK h.2⟩))))

theorem loadC_mono {P : Program} {σ : Store} {t : TypeId} {a : AV} {K K' : AV → Prop} (hK : ∀ v, K v → K' v) (h : loadC P σ t a K) : loadC P σ t a K' := by
  unfold loadC at h ⊢
  first
    | (first | exact h.elim | exact hK _ h | exact ⟨h.1, hK _ h.2⟩ | exact loadB_mono hK h | exact partC_mono hK h | exact ⟨h.1, loadB_mono hK h.2⟩ | exact ⟨h.1, partC_mono hK h.2⟩)
    | (split at h <;> (try simp only [*]) <;> (first | exact h.elim | exact hK _ h | exact ⟨h.1, hK _ h.2⟩ | exact loadB_mono hK h | exact partC_mono hK h | exact ⟨h.1, loadB_mono hK h.2⟩ | exact ⟨h.1, partC_mono hK h.2⟩))
    | (split at h <;> (try simp only [*]) <;> (first | (first | exact h.elim | exact hK _ h | exact ⟨h.1, hK _ h.2⟩ | exact loadB_mono hK h | exact partC_mono hK h | exact ⟨h.1, loadB_mono hK h.2⟩ | exact ⟨h.1, partC_mono hK h.2⟩) | (split at h <;> (try simp only [*]) <;> (first | exact h.elim | exact hK _ h | exact ⟨h.1, hK _ h.2⟩ | exact loadB_mono hK h | exact partC_mono hK h | exact ⟨h.1, loadB_mono hK h.2⟩ | exact ⟨h.1, partC_mono hK h.2⟩))))

theorem nilchkC_mono {a : AV} {K K' : AV → Prop} (hK : ∀ v, K v → K' v) (h : nilchkC a K) : nilchkC a K' := by
  unfold nilchkC at h ⊢
  first
    | (first | exact h.elim | exact hK _ h | exact ⟨h.1, hK _ h.2⟩)
    | (split at h <;> (try simp only [*]) <;> (first | exact h.elim | exact hK _ h | exact ⟨h.1, hK _ h.2⟩))
    | (split at h <;> (try simp only [*]) <;> (first | (first | exact h.elim | exact hK _ h | exact ⟨h.1, hK _ h.2⟩) | (split at h <;> (try simp only [*]) <;> (first | exact h.elim | exact hK _ h | exact ⟨h.1, hK _ h.2⟩))))

theorem pickC_mono {c a b : AV} {K K' : AV → Prop} (hK : ∀ v, K v → K' v) (h : pickC c a b K) : pickC c a b K' := by
  unfold pickC at h ⊢
  first
    | (first | exact h.elim | exact hK _ h | exact ⟨h.1, hK _ h.2⟩)
    | (split at h <;> (try simp only [*]) <;> (first | exact h.elim | exact hK _ h | exact ⟨h.1, hK _ h.2⟩))
    | (split at h <;> (try simp only [*]) <;> (first | (first | exact h.elim | exact hK _ h | exact ⟨h.1, hK _ h.2⟩) | (split at h <;> (try simp only [*]) <;> (first | exact h.elim | exact hK _ h | exact ⟨h.1, hK _ h.2⟩))))

theorem fillK_mono {o : Option (List AV)} {K K' : AV → Prop} (hK : ∀ v, K v → K' v) (h : fillK o K) : fillK o K' := by
  unfold fillK at h ⊢
  first
    | (first | exact h.elim | exact hK _ h | exact ⟨h.1, hK _ h.2⟩)
    | (split at h <;> (try simp only [*]) <;> (first | exact h.elim | exact hK _ h | exact ⟨h.1, hK _ h.2⟩))
    | (split at h <;> (try simp only [*]) <;> (first | (first | exact h.elim | exact hK _ h | exact ⟨h.1, hK _ h.2⟩) | (split at h <;> (try simp only [*]) <;> (first | exact h.elim | exact hK _ h | exact ⟨h.1, hK _ h.2⟩))))

theorem buildB_mono {P : Program} {z : AV} {q : Option (List (Nat × TypeId))} {r : Option (Nat × TypeId)} {ps : List (Nat × AV)} {K K' : AV → Prop} (hK : ∀ v, K v → K' v) (h : buildB P z q r ps K) : buildB P z q r ps K' := by
  unfold buildB at h ⊢
  first
    | (first | exact h.elim | exact hK _ h | exact ⟨h.1, hK _ h.2⟩ | exact fillK_mono hK h | exact ⟨h.1, fillK_mono hK h.2⟩)
    | (split at h <;> (try simp only [*]) <;> (first | exact h.elim | exact hK _ h | exact ⟨h.1, hK _ h.2⟩ | exact fillK_mono hK h | exact ⟨h.1, fillK_mono hK h.2⟩))
    | (split at h <;> (try simp only [*]) <;> (first | (first | exact h.elim | exact hK _ h | exact ⟨h.1, hK _ h.2⟩ | exact fillK_mono hK h | exact ⟨h.1, fillK_mono hK h.2⟩) | (split at h <;> (try simp only [*]) <;> (first | exact h.elim | exact hK _ h | exact ⟨h.1, hK _ h.2⟩ | exact fillK_mono hK h | exact ⟨h.1, fillK_mono hK h.2⟩))))

theorem buildC_mono {P : Program} {z : Option AV} {q : Option (List (Nat × TypeId))} {r : Option (Nat × TypeId)} {ps : List (Nat × AV)} {K K' : AV → Prop} (hK : ∀ v, K v → K' v) (h : buildC P z q r ps K) : buildC P z q r ps K' := by
  unfold buildC at h ⊢
  first
    | (first | exact h.elim | exact hK _ h | exact ⟨h.1, hK _ h.2⟩ | exact buildB_mono hK h | exact ⟨h.1, buildB_mono hK h.2⟩)
    | (split at h <;> (try simp only [*]) <;> (first | exact h.elim | exact hK _ h | exact ⟨h.1, hK _ h.2⟩ | exact buildB_mono hK h | exact ⟨h.1, buildB_mono hK h.2⟩))
    | (split at h <;> (try simp only [*]) <;> (first | (first | exact h.elim | exact hK _ h | exact ⟨h.1, hK _ h.2⟩ | exact buildB_mono hK h | exact ⟨h.1, buildB_mono hK h.2⟩) | (split at h <;> (try simp only [*]) <;> (first | exact h.elim | exact hK _ h | exact ⟨h.1, hK _ h.2⟩ | exact buildB_mono hK h | exact ⟨h.1, buildB_mono hK h.2⟩))))

theorem unC_mono {op : UnOp} {a : AV} {K K' : AV → Prop} (hK : ∀ v, K v → K' v) (h : unC op a K) : unC op a K' := by
  unfold unC at h ⊢
  first
    | (first | exact h.elim | exact hK _ h | exact ⟨h.1, hK _ h.2⟩)
    | (split at h <;> (try simp only [*]) <;> (first | exact h.elim | exact hK _ h | exact ⟨h.1, hK _ h.2⟩))
    | (split at h <;> (try simp only [*]) <;> (first | (first | exact h.elim | exact hK _ h | exact ⟨h.1, hK _ h.2⟩) | (split at h <;> (try simp only [*]) <;> (first | exact h.elim | exact hK _ h | exact ⟨h.1, hK _ h.2⟩))))

theorem convC_mono {u : Bool} {q : Option IntKind} {a : AV} {K K' : AV → Prop} (hK : ∀ v, K v → K' v) (h : convC u q a K) : convC u q a K' := by
  unfold convC at h ⊢
  first
    | (first | exact h.elim | exact hK _ h | exact ⟨h.1, hK _ h.2⟩)
    | (split at h <;> (try simp only [*]) <;> (first | exact h.elim | exact hK _ h | exact ⟨h.1, hK _ h.2⟩))
    | (split at h <;> (try simp only [*]) <;> (first | (first | exact h.elim | exact hK _ h | exact ⟨h.1, hK _ h.2⟩) | (split at h <;> (try simp only [*]) <;> (first | exact h.elim | exact hK _ h | exact ⟨h.1, hK _ h.2⟩))))

theorem fldB_mono {P : Program} {o : Option (Nat × TypeId)} {a : AV} {K K' : AV → Prop} (hK : ∀ v, K v → K' v) (h : fldB P o a K) : fldB P o a K' := by
  unfold fldB at h ⊢
  first
    | (first | exact h.elim | exact hK _ h | exact ⟨h.1, hK _ h.2⟩ | exact partC_mono hK h | exact ⟨h.1, partC_mono hK h.2⟩)
    | (split at h <;> (try simp only [*]) <;> (first | exact h.elim | exact hK _ h | exact ⟨h.1, hK _ h.2⟩ | exact partC_mono hK h | exact ⟨h.1, partC_mono hK h.2⟩))
    | (split at h <;> (try simp only [*]) <;> (first | (first | exact h.elim | exact hK _ h | exact ⟨h.1, hK _ h.2⟩ | exact partC_mono hK h | exact ⟨h.1, partC_mono hK h.2⟩) | (split at h <;> (try simp only [*]) <;> (first | exact h.elim | exact hK _ h | exact ⟨h.1, hK _ h.2⟩ | exact partC_mono hK h | exact ⟨h.1, partC_mono hK h.2⟩))))

theorem fldC_mono {P : Program} {q : Option (List (Nat × TypeId))} {f : Nat} {a : AV} {K K' : AV → Prop} (hK : ∀ v, K v → K' v) (h : fldC P q f a K) : fldC P q f a K' := by
  unfold fldC at h ⊢
  first
    | (first | exact h.elim | exact hK _ h | exact ⟨h.1, hK _ h.2⟩ | exact fldB_mono hK h | exact ⟨h.1, fldB_mono hK h.2⟩)
    | (split at h <;> (try simp only [*]) <;> (first | exact h.elim | exact hK _ h | exact ⟨h.1, hK _ h.2⟩ | exact fldB_mono hK h | exact ⟨h.1, fldB_mono hK h.2⟩))
    | (split at h <;> (try simp only [*]) <;> (first | (first | exact h.elim | exact hK _ h | exact ⟨h.1, hK _ h.2⟩ | exact fldB_mono hK h | exact ⟨h.1, fldB_mono hK h.2⟩) | (split at h <;> (try simp only [*]) <;> (first | exact h.elim | exact hK _ h | exact ⟨h.1, hK _ h.2⟩ | exact fldB_mono hK h | exact ⟨h.1, fldB_mono hK h.2⟩))))

theorem idxP_mono {P : Program} {q : Option TypeId} {r : Option (Nat × TypeId)} {x : AV} {n : Int} {K K' : AV → Prop} (hK : ∀ v, K v → K' v) (h : idxP P q r x n K) : idxP P q r x n K' := by
  unfold idxP at h ⊢
  first
    | (first | exact h.elim | exact hK _ h | exact ⟨h.1, hK _ h.2⟩ | exact optPt_mono hK h | exact ⟨h.1, optPt_mono hK h.2⟩)
    | (split at h <;> (try simp only [*]) <;> (first | exact h.elim | exact hK _ h | exact ⟨h.1, hK _ h.2⟩ | exact optPt_mono hK h | exact ⟨h.1, optPt_mono hK h.2⟩))
    | (split at h <;> (try simp only [*]) <;> (first | (first | exact h.elim | exact hK _ h | exact ⟨h.1, hK _ h.2⟩ | exact optPt_mono hK h | exact ⟨h.1, optPt_mono hK h.2⟩) | (split at h <;> (try simp only [*]) <;> (first | exact h.elim | exact hK _ h | exact ⟨h.1, hK _ h.2⟩ | exact optPt_mono hK h | exact ⟨h.1, optPt_mono hK h.2⟩))))

theorem idxAddrC_mono {P : Program} {t : TypeId} {x i : AV} {K K' : AV → Prop} (hK : ∀ v, K v → K' v) (h : idxAddrC P t x i K) : idxAddrC P t x i K' := by
  unfold idxAddrC at h ⊢
  first
    | (first | exact h.elim | exact hK _ h | exact ⟨h.1, hK _ h.2⟩ | exact idxP_mono hK h | exact ⟨h.1, idxP_mono hK h.2⟩)
    | (split at h <;> (try simp only [*]) <;> (first | exact h.elim | exact hK _ h | exact ⟨h.1, hK _ h.2⟩ | exact idxP_mono hK h | exact ⟨h.1, idxP_mono hK h.2⟩))
    | (split at h <;> (try simp only [*]) <;> (first | (first | exact h.elim | exact hK _ h | exact ⟨h.1, hK _ h.2⟩ | exact idxP_mono hK h | exact ⟨h.1, idxP_mono hK h.2⟩) | (split at h <;> (try simp only [*]) <;> (first | exact h.elim | exact hK _ h | exact ⟨h.1, hK _ h.2⟩ | exact idxP_mono hK h | exact ⟨h.1, idxP_mono hK h.2⟩))))

theorem idxG_mono {P : Program} {r : Option (Nat × TypeId)} {cs : List AV} {n : Int} {K K' : AV → Prop} (hK : ∀ v, K v → K' v) (h : idxG P r cs n K) : idxG P r cs n K' := by
  unfold idxG at h ⊢
  first
    | (first | exact h.elim | exact hK _ h | exact ⟨h.1, hK _ h.2⟩ | exact partC_mono hK h | exact ⟨h.1, partC_mono hK h.2⟩)
    | (split at h <;> (try simp only [*]) <;> (first | exact h.elim | exact hK _ h | exact ⟨h.1, hK _ h.2⟩ | exact partC_mono hK h | exact ⟨h.1, partC_mono hK h.2⟩))
    | (split at h <;> (try simp only [*]) <;> (first | (first | exact h.elim | exact hK _ h | exact ⟨h.1, hK _ h.2⟩ | exact partC_mono hK h | exact ⟨h.1, partC_mono hK h.2⟩) | (split at h <;> (try simp only [*]) <;> (first | exact h.elim | exact hK _ h | exact ⟨h.1, hK _ h.2⟩ | exact partC_mono hK h | exact ⟨h.1, partC_mono hK h.2⟩))))

theorem idxC_mono {P : Program} {t : TypeId} {x i : AV} {K K' : AV → Prop} (hK : ∀ v, K v → K' v) (h : idxC P t x i K) : idxC P t x i K' := by
  unfold idxC at h ⊢
  first
    | (first | exact h.elim | exact hK _ h | exact ⟨h.1, hK _ h.2⟩ | exact idxG_mono hK h | exact optU_mono hK h | exact ⟨h.1, idxG_mono hK h.2⟩ | exact ⟨h.1, optU_mono hK h.2⟩)
    | (split at h <;> (try simp only [*]) <;> (first | exact h.elim | exact hK _ h | exact ⟨h.1, hK _ h.2⟩ | exact idxG_mono hK h | exact optU_mono hK h | exact ⟨h.1, idxG_mono hK h.2⟩ | exact ⟨h.1, optU_mono hK h.2⟩))
    | (split at h <;> (try simp only [*]) <;> (first | (first | exact h.elim | exact hK _ h | exact ⟨h.1, hK _ h.2⟩ | exact idxG_mono hK h | exact optU_mono hK h | exact ⟨h.1, idxG_mono hK h.2⟩ | exact ⟨h.1, optU_mono hK h.2⟩) | (split at h <;> (try simp only [*]) <;> (first | exact h.elim | exact hK _ h | exact ⟨h.1, hK _ h.2⟩ | exact idxG_mono hK h | exact optU_mono hK h | exact ⟨h.1, idxG_mono hK h.2⟩ | exact ⟨h.1, optU_mono hK h.2⟩))))

theorem cutE_mono {P : Program} {q : Option TypeId} {u : Bool} {x lo hi : AV} {K K' : AV → Prop} (hK : ∀ v, K v → K' v) (h : cutE P q u x lo hi K) : cutE P q u x lo hi K' := by
  unfold cutE at h ⊢
  first
    | (first | exact h.elim | exact hK _ h | exact ⟨h.1, hK _ h.2⟩)
    | (split at h <;> (try simp only [*]) <;> (first | exact h.elim | exact hK _ h | exact ⟨h.1, hK _ h.2⟩))
    | (split at h <;> (try simp only [*]) <;> (first | (first | exact h.elim | exact hK _ h | exact ⟨h.1, hK _ h.2⟩) | (split at h <;> (try simp only [*]) <;> (first | exact h.elim | exact hK _ h | exact ⟨h.1, hK _ h.2⟩))))

theorem lenC_mono {u : Bool} {q : Option TypeId} {x : AV} {K K' : AV → Prop} (hK : ∀ v, K v → K' v) (h : lenC u q x K) : lenC u q x K' := by
  unfold lenC at h ⊢
  first
    | (first | exact h.elim | exact hK _ h | exact ⟨h.1, hK _ h.2⟩)
    | (split at h <;> (try simp only [*]) <;> (first | exact h.elim | exact hK _ h | exact ⟨h.1, hK _ h.2⟩))
    | (split at h <;> (try simp only [*]) <;> (first | (first | exact h.elim | exact hK _ h | exact ⟨h.1, hK _ h.2⟩) | (split at h <;> (try simp only [*]) <;> (first | exact h.elim | exact hK _ h | exact ⟨h.1, hK _ h.2⟩))))

theorem maxC_mono {l : List AV} {K K' : AV → Prop} (hK : ∀ v, K v → K' v) (h : maxC l K) : maxC l K' := by
  unfold maxC at h ⊢
  first
    | (first | exact h.elim | exact hK _ h | exact ⟨h.1, hK _ h.2⟩)
    | (split at h <;> (try simp only [*]) <;> (first | exact h.elim | exact hK _ h | exact ⟨h.1, hK _ h.2⟩))
    | (split at h <;> (try simp only [*]) <;> (first | (first | exact h.elim | exact hK _ h | exact ⟨h.1, hK _ h.2⟩) | (split at h <;> (try simp only [*]) <;> (first | exact h.elim | exact hK _ h | exact ⟨h.1, hK _ h.2⟩))))

theorem minC_mono {l : List AV} {K K' : AV → Prop} (hK : ∀ v, K v → K' v) (h : minC l K) : minC l K' := by
  unfold minC at h ⊢
  first
    | (first | exact h.elim | exact hK _ h | exact ⟨h.1, hK _ h.2⟩)
    | (split at h <;> (try simp only [*]) <;> (first | exact h.elim | exact hK _ h | exact ⟨h.1, hK _ h.2⟩))
    | (split at h <;> (try simp only [*]) <;> (first | (first | exact h.elim | exact hK _ h | exact ⟨h.1, hK _ h.2⟩) | (split at h <;> (try simp only [*]) <;> (first | exact h.elim | exact hK _ h | exact ⟨h.1, hK _ h.2⟩))))

theorem extC_mono {x : AV} {i : Nat} {K K' : AV → Prop} (hK : ∀ v, K v → K' v) (h : extC x i K) : extC x i K' := by
  unfold extC at h ⊢
  first
    | (first | exact h.elim | exact hK _ h | exact ⟨h.1, hK _ h.2⟩ | exact optV_mono hK h | exact ⟨h.1, optV_mono hK h.2⟩)
    | (split at h <;> (try simp only [*]) <;> (first | exact h.elim | exact hK _ h | exact ⟨h.1, hK _ h.2⟩ | exact optV_mono hK h | exact ⟨h.1, optV_mono hK h.2⟩))
    | (split at h <;> (try simp only [*]) <;> (first | (first | exact h.elim | exact hK _ h | exact ⟨h.1, hK _ h.2⟩ | exact optV_mono hK h | exact ⟨h.1, optV_mono hK h.2⟩) | (split at h <;> (try simp only [*]) <;> (first | exact h.elim | exact hK _ h | exact ⟨h.1, hK _ h.2⟩ | exact optV_mono hK h | exact ⟨h.1, optV_mono hK h.2⟩))))

theorem nilC_mono {P : Program} {d : Nat} {q : Option TypeId} {K K' : AV → List (Nat × Blk) → Prop} (hK : ∀ v l, K v l → K' v l) (h : nilC P d q K) : nilC P d q K' := by
  unfold nilC at h ⊢
  first
    | (first | exact h.elim | exact hK _ _ h | exact ⟨h.1, hK _ _ h.2⟩)
    | (split at h <;> (try simp only [*]) <;> (first | exact h.elim | exact hK _ _ h | exact ⟨h.1, hK _ _ h.2⟩))
    | (split at h <;> (try simp only [*]) <;> (first | (first | exact h.elim | exact hK _ _ h | exact ⟨h.1, hK _ _ h.2⟩) | (split at h <;> (try simp only [*]) <;> (first | exact h.elim | exact hK _ _ h | exact ⟨h.1, hK _ _ h.2⟩))))

theorem allocC_mono {P : Program} {d : Nat} {t : TypeId} {q : Option TypeId} {s : Nat} {z : Option AV} {K K' : AV → List (Nat × Blk) → Prop} (hK : ∀ v l, K v l → K' v l) (h : allocC P d t q s z K) : allocC P d t q s z K' := by
  unfold allocC at h ⊢
  first
    | (first | exact h.elim | exact hK _ _ h | exact ⟨h.1, hK _ _ h.2⟩)
    | (split at h <;> (try simp only [*]) <;> (first | exact h.elim | exact hK _ _ h | exact ⟨h.1, hK _ _ h.2⟩))
    | (split at h <;> (try simp only [*]) <;> (first | (first | exact h.elim | exact hK _ _ h | exact ⟨h.1, hK _ _ h.2⟩) | (split at h <;> (try simp only [*]) <;> (first | exact h.elim | exact hK _ _ h | exact ⟨h.1, hK _ _ h.2⟩))))

theorem boxC_mono {d : Nat} {t : TypeId} {s : Nat} {x : AV} {K K' : AV → List (Nat × Blk) → Prop} (hK : ∀ v l, K v l → K' v l) (h : boxC d t s x K) : boxC d t s x K' := by
  unfold boxC at h ⊢
  first
    | (first | exact h.elim | exact hK _ _ h | exact ⟨h.1, hK _ _ h.2⟩)
    | (split at h <;> (try simp only [*]) <;> (first | exact h.elim | exact hK _ _ h | exact ⟨h.1, hK _ _ h.2⟩))
    | (split at h <;> (try simp only [*]) <;> (first | (first | exact h.elim | exact hK _ _ h | exact ⟨h.1, hK _ _ h.2⟩) | (split at h <;> (try simp only [*]) <;> (first | exact h.elim | exact hK _ _ h | exact ⟨h.1, hK _ _ h.2⟩))))

theorem bsliceC_mono {P : Program} {d : Nat} {q : Option TypeId} {len : Nat} {is : List Nat} {xs : List AV} {K K' : AV → List (Nat × Blk) → Prop} (hK : ∀ v l, K v l → K' v l) (h : bsliceC P d q len is xs K) : bsliceC P d q len is xs K' := by
  unfold bsliceC at h ⊢
  first
    | (first | exact h.elim | exact hK _ _ h | exact ⟨h.1, hK _ _ h.2⟩)
    | (split at h <;> (try simp only [*]) <;> (first | exact h.elim | exact hK _ _ h | exact ⟨h.1, hK _ _ h.2⟩))
    | (split at h <;> (try simp only [*]) <;> (first | (first | exact h.elim | exact hK _ _ h | exact ⟨h.1, hK _ _ h.2⟩) | (split at h <;> (try simp only [*]) <;> (first | exact h.elim | exact hK _ _ h | exact ⟨h.1, hK _ _ h.2⟩))))

theorem msliceC_mono {P : Program} {d : Nat} {q : Option TypeId} {l c : AV} {K K' : AV → List (Nat × Blk) → Prop} (hK : ∀ v l, K v l → K' v l) (h : msliceC P d q l c K) : msliceC P d q l c K' := by
  unfold msliceC at h ⊢
  first
    | (first | exact h.elim | exact hK _ _ h | exact ⟨h.1, hK _ _ h.2⟩)
    | (split at h <;> (try simp only [*]) <;> (first | exact h.elim | exact hK _ _ h | exact ⟨h.1, hK _ _ h.2⟩))
    | (split at h <;> (try simp only [*]) <;> (first | (first | exact h.elim | exact hK _ _ h | exact ⟨h.1, hK _ _ h.2⟩) | (split at h <;> (try simp only [*]) <;> (first | exact h.elim | exact hK _ _ h | exact ⟨h.1, hK _ _ h.2⟩))))

theorem newC_mono {P : Program} {d : Nat} {op : Op} {ty : TypeId} {E : Env} {K K' : AV → List (Nat × Blk) → Prop} (hK : ∀ v l, K v l → K' v l) (h : newC P d op ty E K) : newC P d op ty E K' := by
  unfold newC at h ⊢
  first
    | (first | exact h.elim | exact hK _ _ h | exact ⟨h.1, hK _ _ h.2⟩ | exact msliceC_mono hK h | exact bsliceC_mono hK h | exact boxC_mono hK h | exact allocC_mono hK h | exact nilC_mono hK h | exact ⟨h.1, msliceC_mono hK h.2⟩ | exact ⟨h.1, bsliceC_mono hK h.2⟩ | exact ⟨h.1, boxC_mono hK h.2⟩ | exact ⟨h.1, allocC_mono hK h.2⟩ | exact ⟨h.1, nilC_mono hK h.2⟩)
    | (split at h <;> (try simp only [*]) <;> (first | exact h.elim | exact hK _ _ h | exact ⟨h.1, hK _ _ h.2⟩ | exact msliceC_mono hK h | exact bsliceC_mono hK h | exact boxC_mono hK h | exact allocC_mono hK h | exact nilC_mono hK h | exact ⟨h.1, msliceC_mono hK h.2⟩ | exact ⟨h.1, bsliceC_mono hK h.2⟩ | exact ⟨h.1, boxC_mono hK h.2⟩ | exact ⟨h.1, allocC_mono hK h.2⟩ | exact ⟨h.1, nilC_mono hK h.2⟩))
    | (split at h <;> (try simp only [*]) <;> (first | (first | exact h.elim | exact hK _ _ h | exact ⟨h.1, hK _ _ h.2⟩ | exact msliceC_mono hK h | exact bsliceC_mono hK h | exact boxC_mono hK h | exact allocC_mono hK h | exact nilC_mono hK h | exact ⟨h.1, msliceC_mono hK h.2⟩ | exact ⟨h.1, bsliceC_mono hK h.2⟩ | exact ⟨h.1, boxC_mono hK h.2⟩ | exact ⟨h.1, allocC_mono hK h.2⟩ | exact ⟨h.1, nilC_mono hK h.2⟩) | (split at h <;> (try simp only [*]) <;> (first | exact h.elim | exact hK _ _ h | exact ⟨h.1, hK _ _ h.2⟩ | exact msliceC_mono hK h | exact bsliceC_mono hK h | exact boxC_mono hK h | exact allocC_mono hK h | exact nilC_mono hK h | exact ⟨h.1, msliceC_mono hK h.2⟩ | exact ⟨h.1, bsliceC_mono hK h.2⟩ | exact ⟨h.1, boxC_mono hK h.2⟩ | exact ⟨h.1, allocC_mono hK h.2⟩ | exact ⟨h.1, nilC_mono hK h.2⟩))))

theorem appA_mono {P : Program} {q : Option TypeId} {s : AV} {ok : Nat → Option Blk} {src : Option (Nat × List AV)} {K K' : Nat → Nat → Nat → Blk → Prop} (hK : ∀ a b c d, K a b c d → K' a b c d) (h : appA P q s ok src K) : appA P q s ok src K' := by
  unfold appA at h ⊢
  first
    | (first | exact h.elim | exact hK _ _ _ _ h | exact ⟨h.1, hK _ _ _ _ h.2⟩)
    | (split at h <;> (try simp only [*]) <;> (first | exact h.elim | exact hK _ _ _ _ h | exact ⟨h.1, hK _ _ _ _ h.2⟩))
    | (split at h <;> (try simp only [*]) <;> (first | (first | exact h.elim | exact hK _ _ _ _ h | exact ⟨h.1, hK _ _ _ _ h.2⟩) | (split at h <;> (try simp only [*]) <;> (first | exact h.elim | exact hK _ _ _ _ h | exact ⟨h.1, hK _ _ _ _ h.2⟩))))

theorem appC_mono {P : Program} {args : List Operand} {ats : List TypeId} {E : Env} {σ : Store} {K K' : Nat → Nat → Nat → Blk → Prop} (hK : ∀ a b c d, K a b c d → K' a b c d) (h : appC P args ats E σ K) : appC P args ats E σ K' := by
  unfold appC at h ⊢
  first
    | (first | exact h.elim | exact hK _ _ _ _ h | exact ⟨h.1, hK _ _ _ _ h.2⟩ | exact appA_mono hK h | exact ⟨h.1, appA_mono hK h.2⟩)
    | (split at h <;> (try simp only [*]) <;> (first | exact h.elim | exact hK _ _ _ _ h | exact ⟨h.1, hK _ _ _ _ h.2⟩ | exact appA_mono hK h | exact ⟨h.1, appA_mono hK h.2⟩))
    | (split at h <;> (try simp only [*]) <;> (first | (first | exact h.elim | exact hK _ _ _ _ h | exact ⟨h.1, hK _ _ _ _ h.2⟩ | exact appA_mono hK h | exact ⟨h.1, appA_mono hK h.2⟩) | (split at h <;> (try simp only [*]) <;> (first | exact h.elim | exact hK _ _ _ _ h | exact ⟨h.1, hK _ _ _ _ h.2⟩ | exact appA_mono hK h | exact ⟨h.1, appA_mono hK h.2⟩))))

theorem stoE_mono {P : Program} {t : TypeId} {k : Blk} {o : Option AV} {id sz i j : Nat} {v : AV} {E : Env} {σ : Store} {K K' : Env → Store → Prop} (hK : ∀ E σ, K E σ → K' E σ) (h : stoE P t k o id sz i j v K E σ) : stoE P t k o id sz i j v K' E σ := by
  unfold stoE at h ⊢
  first
    | (first | exact h.elim | exact hK _ _ h | exact ⟨h.1, hK _ _ h.2⟩)
    | (split at h <;> (try simp only [*]) <;> (first | exact h.elim | exact hK _ _ h | exact ⟨h.1, hK _ _ h.2⟩))
    | (split at h <;> (try simp only [*]) <;> (first | (first | exact h.elim | exact hK _ _ h | exact ⟨h.1, hK _ _ h.2⟩) | (split at h <;> (try simp only [*]) <;> (first | exact h.elim | exact hK _ _ h | exact ⟨h.1, hK _ _ h.2⟩))))

theorem stoB_mono {P : Program} {t : TypeId} {o : Option Blk} {id sz i j : Nat} {v : AV} {E : Env} {σ : Store} {K K' : Env → Store → Prop} (hK : ∀ E σ, K E σ → K' E σ) (h : stoB P t o id sz i j v K E σ) : stoB P t o id sz i j v K' E σ := by
  unfold stoB at h ⊢
  first
    | (first | exact h.elim | exact hK _ _ h | exact ⟨h.1, hK _ _ h.2⟩ | exact stoE_mono hK h | exact ⟨h.1, stoE_mono hK h.2⟩)
    | (split at h <;> (try simp only [*]) <;> (first | exact h.elim | exact hK _ _ h | exact ⟨h.1, hK _ _ h.2⟩ | exact stoE_mono hK h | exact ⟨h.1, stoE_mono hK h.2⟩))
    | (split at h <;> (try simp only [*]) <;> (first | (first | exact h.elim | exact hK _ _ h | exact ⟨h.1, hK _ _ h.2⟩ | exact stoE_mono hK h | exact ⟨h.1, stoE_mono hK h.2⟩) | (split at h <;> (try simp only [*]) <;> (first | exact h.elim | exact hK _ _ h | exact ⟨h.1, hK _ _ h.2⟩ | exact stoE_mono hK h | exact ⟨h.1, stoE_mono hK h.2⟩))))

theorem storeC_mono {P : Program} {t : TypeId} {x v : AV} {dst : Option Nat} {E : Env} {σ : Store} {K K' : Env → Store → Prop} (hK : ∀ E σ, K E σ → K' E σ) (h : storeC P t x v dst K E σ) : storeC P t x v dst K' E σ := by
  unfold storeC at h ⊢
  first
    | (first | exact h.elim | exact hK _ _ h | exact ⟨h.1, hK _ _ h.2⟩ | exact stoB_mono hK h | exact ⟨h.1, stoB_mono hK h.2⟩)
    | (split at h <;> (try simp only [*]) <;> (first | exact h.elim | exact hK _ _ h | exact ⟨h.1, hK _ _ h.2⟩ | exact stoB_mono hK h | exact ⟨h.1, stoB_mono hK h.2⟩))
    | (split at h <;> (try simp only [*]) <;> (first | (first | exact h.elim | exact hK _ _ h | exact ⟨h.1, hK _ _ h.2⟩ | exact stoB_mono hK h | exact ⟨h.1, stoB_mono hK h.2⟩) | (split at h <;> (try simp only [*]) <;> (first | exact h.elim | exact hK _ _ h | exact ⟨h.1, hK _ _ h.2⟩ | exact stoB_mono hK h | exact ⟨h.1, stoB_mono hK h.2⟩))))


theorem pureC_mono {P : Program} {op : Op} {E : Env} {σ : Store} {K K' : AV → Prop} (hK : ∀ v, K v → K' v) (h : pureC P op E σ K) : pureC P op E σ K' := by
  unfold pureC at h ⊢
  split at h
  · exact hK _ h
  · exact hK _ h
  · exact pickC_mono hK h
  · exact loadC_mono hK h
  · exact nilchkC_mono hK h
  · exact binC_mono hK h
  · exact buildC_mono hK h
  · exact unC_mono hK h
  · exact convC_mono hK h
  · exact ⟨h.1, hK _ h.2⟩
  · exact ⟨h.1, fldC_mono hK h.2⟩
  · exact ⟨h.1, fldC_mono hK h.2⟩
  · exact idxAddrC_mono hK h
  · exact idxC_mono hK h
  · exact extC_mono hK h
  · exact cutE_mono hK h
  · split at h
    · rename_i h1 h2
      exact lenC_mono hK h
    · exact h.elim
  · exact maxC_mono hK h
  · exact minC_mono hK h
  · exact h.elim

section
variable {S : Sp} {K K' Kb Kb' : Env → Store → Prop} {E : Env} {σ : Store}
theorem callC_mono (hK : ∀ E σ, K E σ → K' E σ) {kd bi : Bool} {nm g : Nat} {named : Bool} {args : List AV} {dst : Option Nat} {L L' : Prop} (hL : L → L') (h : callC S kd bi nm g named args dst K E σ L) : callC S kd bi nm g named args dst K' E σ L' := by
  rcases h with ⟨r, h1, h2, h3, h4, h5⟩ | ⟨h1, h2⟩
  · exact .inl ⟨r, h1, h2, h3, h4, hK _ _ h5⟩
  · exact .inr ⟨h1, hL h2⟩
theorem callF_mono (hY : YMono S) (hK : ∀ E σ, K E σ → K' E σ) (hKb : ∀ E σ, Kb E σ → Kb' E σ) {kd bi : Bool} {nm : Nat} {f : AV} {args : List AV} {dst : Option Nat} {E' : Env} {σ' : Store} {args' : List AV} {f' : AV} {L L' : Prop} (hL : L → L')
    (h : callF S kd bi nm f args dst K Kb E σ E' σ' args' f' L) : callF S kd bi nm f args dst K' Kb' E σ E' σ' args' f' L' := by
  unfold callF at h ⊢
  split at h
  · exact ⟨h.1, hY _ _ _ _ (fun v g hk => hKb _ _ hk) h.2⟩
  · split at h
    · exact callC_mono hK hL h
    · exact h.elim
theorem newA_mono (hK : ∀ E σ, K E σ → K' E σ) {kd : Bool} {dst : Option Nat} {op : Op} {ty : TypeId} (h : newA S kd dst op ty K E σ) : newA S kd dst op ty K' E σ := by
  unfold newA at h ⊢
  split at h
  · exact newC_mono (fun v l hk => hK _ _ hk) h
  · exact h.elim
theorem moveK_mono (hK : ∀ E σ, K E σ → K' E σ) {kd : Bool} {dst : Option Nat} {ty : TypeId} {x : Operand} (h : moveK S kd dst ty x K E σ) : moveK S kd dst ty x K' E σ := by
  unfold moveK at h ⊢
  split at h
  · split at h
    · rename_i e he
      split at h
      · exact nilC_mono (fun v l hk => hK _ _ hk) h
      · exact h.elim
    · rename_i he
      exact hK _ _ h
  · exact hK _ _ h
theorem semD_mono (hK : ∀ E σ, K E σ → K' E σ) {dst : Option Nat} {op : Op} {ty : TypeId} (h : semD S dst op ty K E σ) : semD S dst op ty K' E σ := fun pos after guard => semV_mono hK (h pos after guard)
theorem aopC_mono (hY : YMono S) (hK : ∀ E σ, K E σ → K' E σ) (hKb : ∀ E σ, Kb E σ → Kb' E σ) {kd bi : Bool} {dst : Option Nat} {op : Op} {ty : TypeId} (h : aopC S kd bi dst op ty K Kb E σ) : aopC S kd bi dst op ty K' Kb' E σ := by
  unfold aopC at h ⊢
  split at h
  · exact moveK_mono hK h
  · exact moveK_mono hK h
  · exact newA_mono hK h
  · exact newA_mono hK h
  · exact newA_mono hK h
  · exact newA_mono hK h
  · exact callF_mono hY hK hKb (semD_mono hKb) h
  · split at h
    · exact appC_mono (fun a b c d hk => ⟨hk.1, hKb _ _ hk.2⟩) h
    · exact h.elim
  · exact storeC_mono hKb h
  · unfold restA at h ⊢
    split at h
    · exact pureC_mono (fun v hk => hK _ _ hk) h
    · exact semD_mono hKb h
    · exact h.elim
theorem guardD_mono (hY : YMono S) (hK : ∀ E σ, K E σ → K' E σ) (hKb : ∀ E σ, Kb E σ → Kb' E σ) {kd bi : Bool} {o : Option Nat} {want : Bool} {dst : Option Nat} {op : Op} {ty : TypeId} (h : guardD S kd bi o want dst op ty K Kb E σ) : guardD S kd bi o want dst op ty K' Kb' E σ := by
  unfold guardD at h ⊢
  split at h
  · unfold guardC at h ⊢
    split at h
    · exact ⟨fun e => aopC_mono hY hK hKb (h.1 e), fun e => hK _ _ (h.2 e)⟩
    · exact ⟨fun e => hK _ _ (h.1 e), fun e => aopC_mono hY hK hKb (h.2 e)⟩
    · exact hK _ _ h
    · exact h.elim
  · exact h.elim
theorem gopC_mono (hY : YMono S) (hK : ∀ E σ, K E σ → K' E σ) (hKb : ∀ E σ, Kb E σ → Kb' E σ) {kd bi : Bool} {ops : List Oper} {o : Oper} (h : gopC S kd bi ops o K Kb E σ) : gopC S kd bi ops o K' Kb' E σ := by
  unfold gopC at h ⊢
  split at h
  · exact aopC_mono hY hK hKb h
  · exact guardD_mono hY hK hKb h
theorem struckC_mono (hK : ∀ E σ, K E σ → K' E σ) {dr : Bool} {l : List Oper} (E : Env) (σ : Store) (h : struckC S dr l K E σ) : struckC S dr l K' E σ := by
  rw [struckC_eq] at h ⊢; exact struck_mono hK E σ h
end
theorem opsC_mono {S : Sp} (hY : YMono S) {dr : Bool} {ops : Array Oper} : ∀ (l : List Oper) (i : Nat) {K K' : Env → Store → Prop} {E : Env} {σ : Store}, (∀ E σ, K E σ → K' E σ) → opsC S dr ops i l K E σ → opsC S dr ops i l K' E σ
  | [], _, _, _, _, _, hK, h => hK _ _ h
  | _ :: l, i, _, _, _, _, hK, h => gopC_mono hY (fun _ _ hk => opsC_mono hY l (i + 1) hK hk) (fun E σ hk => struckC_mono (fun _ _ hk => opsC_mono hY l (i + 1) hK hk) E σ hk) h
theorem awpC_mono {S : Sp} (hY : YMono S) : ∀ (c : Code) {Q Q' : Exit → Env → Store → Prop} {E : Env} {σ : Store}, (∀ e E σ, Q e E σ → Q' e E σ) → awpC S c Q E σ → awpC S c Q' E σ
  | .skip, Q, Q', E, σ, hQ, h => hQ .normal E σ h
  | .label _, Q, Q', E, σ, hQ, h => hQ .normal E σ h
  | .seq a b, Q, Q', E, σ, hQ, h => by
    simp only [awpC] at h ⊢
    exact awpC_mono hY a (thenQ_mono (fun _ _ h => awpC_mono hY b hQ h) hQ) h
  | .region _ ops draw, Q, Q', E, σ, hQ, h => by
    simp only [awpC] at h ⊢
    exact struckC_mono (fun _ _ hk => opsC_mono hY _ 0 (hQ .normal) hk) E σ h
  | .cond c x y, Q, Q', E, σ, hQ, h => by
    simp only [awpC] at h ⊢
    unfold condC at h ⊢
    split at h
    · exact ⟨fun e => awpC_mono hY x hQ (h.1 e), fun e => awpC_mono hY y hQ (h.2 e)⟩
    · exact h.elim
  | .block id c, Q, Q', E, σ, hQ, h => by
    simp only [awpC] at h ⊢
    exact awpC_mono hY c (blockQ_mono hQ) h
  | .scope c, Q, Q', E, σ, hQ, h => by
    simp only [awpC] at h ⊢
    exact awpC_mono hY c (scopeQ_mono hQ) h
  | .loop c, Q, Q', E, σ, hQ, h => by
    simp only [awpC] at h ⊢
    obtain ⟨I, hI, hs⟩ := h
    exact ⟨I, hI, fun n E σ hi => awpC_mono hY c (thenQ_mono (fun _ _ hk => hk) hQ) (hs n E σ hi)⟩
  | .exit _, Q, Q', E, σ, hQ, h => hQ _ E σ h
  | .ret, Q, Q', E, σ, hQ, h => hQ .ret E σ h
  | .rangeFunc f ps as body, Q, Q', E, σ, hQ, h => fun C H n R hR a w hs => h C H n R (fun e E σ a w hq hs => hR e E σ a w (hQ _ _ _ hq) hs) a w hs

/-- The words of a plain function. -/
class Plain (S : Sp) : Prop where
  mono : YMono S
instance (P : Program) (f N : Nat) : Plain (spOf P f N) := ⟨fun _ _ _ _ _ hk => (show False from hk).elim⟩
/-- **A cut**: two ways meet again. -/
theorem branch_join {S : Sp} [hp : Plain S] {c : Prop} {a1 a2 b : Code} {Q : Exit → Env → Store → Prop} {E E' : Env} {σ : Store} (J : Env → Store → Prop) (h1 : c → awpC S a1 (thenQ J Q) E σ) (h2 : ¬ c → awpC S a2 (thenQ J Q) E' σ) (h3 : ∀ E σ, J E σ → awpC S b Q E σ) :
    branch c (awpC S a1 (thenQ (awpC S b Q) Q)) E (awpC S a2 (thenQ (awpC S b Q) Q)) E' σ :=
  ⟨fun e => awpC_mono hp.mono a1 (thenQ_mono h3 fun _ _ _ h => h) (h1 e), fun e => awpC_mono hp.mono a2 (thenQ_mono h3 fun _ _ _ h => h) (h2 e)⟩
/-- The same, where the ways lie inside a block. -/
theorem branch_joinQ {S : Sp} [hp : Plain S] {c : Prop} {a1 a2 : Code} {Q Q' : Exit → Env → Store → Prop} {E E' : Env} {σ : Store} (Q' : Exit → Env → Store → Prop) (h1 : c → awpC S a1 Q' E σ) (h2 : ¬ c → awpC S a2 Q' E' σ) (h3 : ∀ e E σ, Q' e E σ → Q e E σ) :
    branch c (awpC S a1 Q) E (awpC S a2 Q) E' σ :=
  ⟨fun e => awpC_mono hp.mono a1 h3 (h1 e), fun e => awpC_mono hp.mono a2 h3 (h2 e)⟩
def exitQ (id : Nat) (J : Env → Store → Prop) (Q : Exit → Env → Store → Prop) : Exit → Env → Store → Prop
  | .exit i => if i = id then J else Q (.exit i)
  | e => Q e
@[go_sem ↓] theorem exitQ_exit (id i : Nat) (J : Env → Store → Prop) (Q : Exit → Env → Store → Prop) (E : Env) (σ : Store) : exitQ id J Q (.exit i) E σ = if i = id then J E σ else Q (.exit i) E σ := by simp only [exitQ]; split <;> rfl
@[go_sem ↓] theorem exitQ_normal (id : Nat) (J : Env → Store → Prop) (Q : Exit → Env → Store → Prop) (E : Env) (σ : Store) : exitQ id J Q .normal E σ = Q .normal E σ := rfl
@[go_sem ↓] theorem exitQ_ret (id : Nat) (J : Env → Store → Prop) (Q : Exit → Env → Store → Prop) (E : Env) (σ : Store) : exitQ id J Q .ret E σ = Q .ret E σ := rfl
/-- A cut behind a loop. -/
theorem loop_join {S : Sp} [hp : Plain S] {c : Code} {Q : Exit → Env → Store → Prop} {E : Env} {σ : Store} (id : Nat) (J : Env → Store → Prop) (h : loopC (awpC S c) (exitQ id J Q) E σ) (h3 : ∀ E σ, J E σ → Q (.exit id) E σ) : loopC (awpC S c) Q E σ := by
  obtain ⟨I, hI, hs⟩ := h
  refine ⟨I, hI, fun n E σ hi => awpC_mono hp.mono c (thenQ_mono (fun _ _ hk => hk) fun e E σ hk => ?_) (hs n E σ hi)⟩
  unfold exitQ at hk
  split at hk
  · split at hk
    · rename_i i e; subst e; exact h3 _ _ hk
    · exact hk
  · exact hk

end Go.Vai

/- What arguments read as, stands. -/
namespace Go.Vai
open Go.RowKit Go.ChangeShapes Go.WideShapes

variable {H : Type} {enc : TypeId × Value → H} {P : Program} {w : World}

abbrev Here (w : World) : Nat → Prop := fun b => b < w.heap.size

/-- Cells stand for a tree's cells. -/
def CellsOK (w : World) (a : AV) (cs : List Value) : Prop :=
  a.cells.length = cs.length ∧ ∀ (j : Nat) (c : AV) (y : Value), a.cells[j]? = some c → cs[j]? = some y → y.oneCell' = true ∧ IRep w (Here w) c y

/-- Cells that read, stand for a tree with 'p'. -/
def Opens (P : Program) (enc : TypeId × Value → H) (w : World) (t : TypeId) (p : AV → Prop) : Prop :=
  (∃ g, tagg P t = some g ∧ ∀ a, p a → if g = true then (∃ cs, a = .agg cs) else a.cells = [a]) ∧
  ∀ base sp held fuel cs x, DataW.trod enc P w base sp held fuel t cs = some x → ∃ a, p a ∧ CellsOK w a cs

theorem Opens.mono {t : TypeId} {p q : AV → Prop} (h : Opens P enc w t p) (hpq : ∀ a, p a → q a) (hqp : ∀ a, q a → p a) : Opens P enc w t q := by
  obtain ⟨⟨g, hg, hs⟩, h⟩ := h
  refine ⟨⟨g, hg, fun a ha => hs a (hqp a ha)⟩, fun base sp held fuel cs x hx => ?_⟩
  obtain ⟨a, ha, hc⟩ := h _ _ _ _ _ _ hx
  exact ⟨a, hpq a ha, hc⟩

theorem cellsOK_v (x : Value) (hx : x.oneCell' = true) : CellsOK w (.v x) [x] :=
  ⟨rfl, fun j c y hc hy => by
    cases j with
    | zero => simp at hc hy; subst hc; subst hy; exact ⟨hx, .v _⟩
    | succ j => simp at hc⟩

theorem opens_int {t : TypeId} {k : IntKind} (ht : P.underlying t = some (.int k)) : Opens P enc w t fun a => ∃ n, (Lit.int k n).wf = true ∧ a = .v (.int k n) := by
  refine ⟨⟨false, by simp [tagg, ht], ?_⟩, fun base sp held fuel cs x h => ?_⟩
  · rintro a ⟨n, _, rfl⟩; rfl
  · cases fuel with
    | zero => simp [DataW.trod] at h
    | succ f =>
      unfold DataW.trod at h
      rw [ht] at h
      split at h <;> simp_all
      rename_i k' n he
      obtain ⟨⟨rfl, hw⟩, _⟩ := h
      exact ⟨_, ⟨n, hw, rfl⟩, cellsOK_v _ rfl⟩

theorem opens_bool {t : TypeId} (ht : P.underlying t = some .bool) : Opens P enc w t fun a => ∃ b, a = .v (.bool b) := by
  refine ⟨⟨false, by simp [tagg, ht], ?_⟩, fun base sp held fuel cs x h => ?_⟩
  · rintro a ⟨n, rfl⟩; rfl
  · cases fuel with
    | zero => simp [DataW.trod] at h
    | succ f =>
      unfold DataW.trod at h
      rw [ht] at h
      have : ∃ b, cs = [.bool b] := by split at h <;> simp_all
      obtain ⟨b, rfl⟩ := this
      exact ⟨.v (.bool b), ⟨b, rfl⟩, cellsOK_v _ rfl⟩

theorem opens_string {t : TypeId} (ht : P.underlying t = some .string) : Opens P enc w t fun a => ∃ s : ByteArray, s.size ≤ maxLen ∧ a = .v (.string s) := by
  refine ⟨⟨false, by simp [tagg, ht], ?_⟩, fun base sp held fuel cs x h => ?_⟩
  · rintro a ⟨n, _, rfl⟩; rfl
  · cases fuel with
    | zero => simp [DataW.trod] at h
    | succ f =>
      unfold DataW.trod at h
      rw [ht] at h
      split at h <;> simp_all
      exact ⟨_, ⟨_, h.1, rfl⟩, cellsOK_v _ rfl⟩

/-- Choose along a list. -/
theorem choose_list {T : Type} {n : Nat} {p : Nat → T → Prop} (h : ∀ i, i < n → ∃ x, p i x) : ∃ l : List T, l.length = n ∧ ∀ i x, l[i]? = some x → p i x := by
  induction n with
  | zero => exact ⟨[], rfl, fun i x hx => by simp at hx⟩
  | succ n ih =>
    obtain ⟨l, hl, hp⟩ := ih fun i hi => h i (by omega)
    obtain ⟨x, hx⟩ := h n (by omega)
    refine ⟨l ++ [x], by simp [hl], fun i y hy => ?_⟩
    by_cases hi : i < l.length
    · rw [List.getElem?_append_left hi] at hy; exact hp i y hy
    · rw [List.getElem?_append_right (by omega)] at hy
      have : i - l.length = 0 := by
        cases hh : i - l.length with
        | zero => rfl
        | succ k => rw [hh] at hy; simp at hy
      rw [this] at hy; simp at hy; subst hy
      have : i = n := by omega
      subst this; exact hx

theorem opens_slice {T : Type} {t e : TypeId} {q : T → Prop} {f : T → AV} {sz : Nat} (ht : P.underlying t = some (.slice e)) (hs : P.cellsOf e = sz) (h0 : 0 < sz) (he : Opens P enc w e fun a => ∃ x, q x ∧ a = f x) :
    Opens P enc w t fun a => ∃ l : List T, l.length ≤ maxLen ∧ (∀ x ∈ l, q x) ∧ a = .sl sz (l.map f) := by
  refine ⟨⟨false, by simp [tagg, ht], ?_⟩, fun base sp held fuel cs x h => ?_⟩
  · rintro a ⟨l, _, _, rfl⟩; rfl
  have single : ∀ (a : Option Addr) (n cap : Nat) (l : List T), IRep w (Here w) (.sl sz (l.map f)) (.slice a n cap) → CellsOK w (.sl sz (l.map f)) [.slice a n cap] := fun a n cap l h =>
    ⟨rfl, fun j c y hc hy => by
      cases j with
      | zero => simp at hc hy; subst hc; subst hy; exact ⟨rfl, h⟩
      | succ j => simp at hc⟩
  rcases DataW.trod_slice ht h with ⟨rfl, _⟩ | ⟨a, len, cap, elems, rest, n, _, rfl, _, _, hl, hm, hlen, hel, _, _⟩
  · exact ⟨_, ⟨[], by simp, by simp, rfl⟩, single _ _ _ [] (.slnil ..)⟩
  · have hi : ∀ i, i < len → ∃ x : T, q x ∧ ∃ cs, (∀ j, j < sz → w.cell? ((a.add (i * sz)).add j) = cs[j]?) ∧ cs.length = sz ∧ CellsOK w (f x) cs := fun i hi => by
      have hE := hel i hi
      rw [hs] at hE
      obtain ⟨y, hy⟩ : ∃ y, elems[i]? = some y := ⟨_, List.getElem?_eq_getElem (by omega)⟩
      rw [hy] at hE
      obtain ⟨cs, hcs, htr⟩ := Option.bind_eq_some_iff.1 hE
      obtain ⟨a', ⟨x, hx, rfl⟩, hc⟩ := he.2 _ _ _ _ _ _ htr
      obtain ⟨_, h1, h2⟩ := World.cells?_some hcs
      exact ⟨x, hx, cs, h2, h1, hc⟩
    obtain ⟨l, hll, hp⟩ := choose_list hi
    refine ⟨_, ⟨l, by omega, fun x hx => ?_, rfl⟩, single _ _ _ l ?_⟩
    · obtain ⟨i, hi⟩ := List.getElem?_of_mem hx; exact (hp i x hi).1
    · by_cases hz : len = 0
      · have : l = [] := List.length_eq_zero_iff.1 (by omega)
        subst this; subst hz; exact .slnil ..
      · -- the first cell shows the address
        obtain ⟨x0, h0x⟩ : ∃ x, l[0]? = some x := ⟨_, List.getElem?_eq_getElem (by omega)⟩
        obtain ⟨_, cs0, hc0, hn0, _⟩ := hp 0 x0 h0x
        have hsp : a.spot = none ∧ a.block < w.heap.size := by
          have h1 := hc0 0 h0
          rw [List.getElem?_eq_getElem (by omega)] at h1
          simp only [Nat.zero_mul, Addr.add, if_true] at h1
          unfold World.cell? at h1
          split at h1
          · rename_i c u fr hh
            refine ⟨?_, (Array.getElem?_eq_some_iff.1 hh).1⟩
            split at h1
            · cases h1
            · rename_i hn; simpa using hn
          · cases h1
        obtain ⟨b, o, spot⟩ := a
        obtain ⟨h1, h2⟩ := hsp
        simp only at h1 h2
        subst h1
        have hadd : ∀ i j, (Addr.add (Addr.add ⟨b, o, none⟩ (i * sz)) j) = ⟨b, o + i * sz + j, none⟩ := fun i j => by
          unfold Addr.add; by_cases hi : i * sz = 0 <;> by_cases hj : j = 0 <;> simp [hi, hj]
        have hcell : ∀ i j x, l[i]? = some x → j < sz → ∃ c, (f x).cells[j]? = some c ∧ ∃ y, w.cell? ⟨b, o + i * sz + j, none⟩ = some y ∧ y.oneCell' = true ∧ IRep w (Here w) c y := fun i j x hx hj => by
          obtain ⟨_, cs, h1, h2, h3, h4⟩ := hp i x hx
          have h1 := h1 j hj
          rw [hadd, List.getElem?_eq_getElem (by omega)] at h1
          refine ⟨_, List.getElem?_eq_getElem (by omega), _, h1, ?_⟩
          exact h4 j _ _ (List.getElem?_eq_getElem (by omega)) (List.getElem?_eq_getElem (by omega))
        have hlm : (l.map f).length = len := by simp [hll]
        rw [← hlm]
        refine .sl sz (l.map f) b o cap (fun i j => (w.cell? ⟨b, o + i * sz + j, none⟩).getD undef) h2 (by omega) (fun e he => ?_) (fun i j hi hj => ?_) fun i e j c hie hjc => ?_
        · obtain ⟨x, hx, rfl⟩ := List.mem_map.1 he
          obtain ⟨i, hi⟩ := List.getElem?_of_mem hx
          obtain ⟨_, cs, _, h2, h3, _⟩ := hp i x hi
          rw [h3, h2]
        · obtain ⟨c, _, y, hy, h1, _⟩ := hcell i j l[i] (List.getElem?_eq_getElem (by simpa using hi)) hj
          rw [hy]; exact ⟨rfl, h1⟩
        · rw [List.getElem?_map] at hie
          obtain ⟨x, hx, rfl⟩ := Option.map_eq_some_iff.1 hie
          have hj : j < sz := by
            obtain ⟨_, cs, _, h2, h3, _⟩ := hp i x hx
            have := (List.getElem?_eq_some_iff.1 hjc).1; omega
          obtain ⟨c', hc', y, hy, _, hr⟩ := hcell i j x hx hj
          rw [hc'] at hjc; cases hjc
          rw [hy]; exact hr

/-- Fields one behind the other. -/
def coverB (P : Program) : Nat → List (Nat × TypeId) → Bool
  | _, [] => true
  | n, f :: r => f.1 == n && coverB P (n + P.cellsOf f.2) r
def sumB (P : Program) : List (Nat × TypeId) → Nat
  | [] => 0
  | f :: r => P.cellsOf f.2 + sumB P r
/-- Each in its kind. -/
def AllP : List (AV → Prop) → List AV → Prop
  | [], [] => True
  | p :: ps, a :: as => p a ∧ AllP ps as
  | _, _ => False
def OpensAll (P : Program) (enc : TypeId × Value → H) (w : World) : List TypeId → List (AV → Prop) → Prop
  | [], [] => True
  | t :: ts, p :: ps => Opens P enc w t p ∧ OpensAll P enc w ts ps
  | _, _ => False

theorem opens_fields : ∀ (fs : List (Nat × TypeId)) (ps : List (AV → Prop)) (n : Nat) (cs : List Value), OpensAll P enc w (fs.map (·.2)) ps → coverB P n fs = true → n + sumB P fs = cs.length →
    (∀ f ∈ fs, ∃ base sp held fuel x, DataW.trod enc P w base sp held fuel f.2 ((cs.drop f.1).take (P.cellsOf f.2)) = some x) →
    ∃ as, AllP ps as ∧ (as.flatMap AV.cells).length = cs.length - n ∧ ∀ (j : Nat) (c : AV) (y : Value), (as.flatMap AV.cells)[j]? = some c → cs[n + j]? = some y → y.oneCell' = true ∧ IRep w (Here w) c y
  | [], [], n, cs, _, _, hl, _ => ⟨[], trivial, by simp [sumB] at hl; simp [hl], fun j c y hc => by simp at hc⟩
  | [], _ :: _, _, _, h, _, _, _ => h.elim
  | _ :: _, [], _, _, h, _, _, _ => h.elim
  | f :: fs, p :: ps, n, cs, h, hcov, hl, hr => by
    obtain ⟨h1, h2⟩ := h
    simp only [coverB, Bool.and_eq_true, beq_iff_eq] at hcov
    obtain ⟨hn, hcov⟩ := hcov
    simp only [sumB] at hl
    obtain ⟨as, ha, hlen, hc⟩ := opens_fields fs ps (n + P.cellsOf f.2) cs h2 hcov (by omega) fun g hg => hr g (by simp [hg])
    obtain ⟨base, sp, held, fuel, x, hx⟩ := hr f (by simp)
    obtain ⟨a, hpa, hal, hac⟩ := h1.2 _ _ _ _ _ _ hx
    rw [hn] at hal hac
    have hal' : a.cells.length = P.cellsOf f.2 := by rw [hal]; simp; omega
    refine ⟨a :: as, ⟨hpa, ha⟩, by simp [hal'] at hlen ⊢; omega, fun j c y hj hy => ?_⟩
    simp only [List.flatMap_cons] at hj
    by_cases hlt : j < a.cells.length
    · rw [List.getElem?_append_left hlt] at hj
      refine hac j c y hj ?_
      rw [List.getElem?_take_of_lt (by omega), List.getElem?_drop]; exact hy
    · rw [List.getElem?_append_right (by omega)] at hj
      refine hc (j - a.cells.length) c y hj ?_
      rw [show n + P.cellsOf f.2 + (j - a.cells.length) = n + j from by omega]; exact hy

theorem opens_struct {t : TypeId} {fs : Array Field} {ps : List (AV → Prop)} (ht : P.underlying t = some (.struct fs)) (hs : OpensAll P enc w (fs.toList.map (·.type)) ps) (hc : coverB P 0 (fs.toList.map fun f => (f.offset, f.type)) = true)
    (hsum : sumB P (fs.toList.map fun f => (f.offset, f.type)) = P.cellsOf t) : Opens P enc w t fun a => ∃ as, AllP ps as ∧ a = .agg (as.flatMap AV.cells) := by
  refine ⟨⟨true, by simp [tagg, ht], ?_⟩, fun base sp held fuel cs x h => ?_⟩
  · rintro a ⟨as, _, rfl⟩; exact ⟨_, rfl⟩
  obtain ⟨xs, n, _, _, hl, hlen, hf⟩ := DataW.trod_struct ht h
  obtain ⟨as, ha, h1, h2⟩ := opens_fields (enc := enc) (w := w) (fs.toList.map fun f => (f.offset, f.type)) ps 0 cs (by simpa [List.map_map, Function.comp_def] using hs) hc (by rw [hsum, hl]; omega) fun f hfm => by
    obtain ⟨g, hg, rfl⟩ := List.mem_map.1 hfm
    obtain ⟨i, hi⟩ := List.getElem?_of_mem hg
    have := hf i g (by simpa using hi)
    rw [List.getElem?_eq_getElem (by have := (List.getElem?_eq_some_iff.1 hi).1; simp at this; omega)] at this
    exact ⟨_, _, _, _, _, this⟩
  exact ⟨_, ⟨as, ha, rfl⟩, by simpa using h1, fun j c y hj hy => h2 j c y hj (by simpa using hy)⟩

theorem opens_array {T : Type} {t e : TypeId} {n : Nat} {q : T → Prop} {f : T → AV} {sz : Nat} (ht : P.underlying t = some (.array n e)) (hs : P.cellsOf e = sz) (hst : P.cellsOf t = n * sz) (he : Opens P enc w e fun a => ∃ x, q x ∧ a = f x) :
    Opens P enc w t fun a => ∃ l : List T, l.length = n ∧ (∀ x ∈ l, q x) ∧ a = .agg (l.flatMap fun x => (f x).cells) := by
  refine ⟨⟨true, by simp [tagg, ht], ?_⟩, fun base sp held fuel cs x h => ?_⟩
  · rintro a ⟨l, _, _, rfl⟩; exact ⟨_, rfl⟩
  obtain ⟨xs, m, _, _, hl, hlen, hf⟩ := DataW.trod_array ht h
  have key : ∀ k, k ≤ n → ∃ l : List T, l.length = k ∧ (∀ x ∈ l, q x) ∧ (l.flatMap fun x => (f x).cells).length = k * sz ∧ ∀ (j : Nat) (c : AV) (y : Value), (l.flatMap fun x => (f x).cells)[j]? = some c → cs[j]? = some y → y.oneCell' = true ∧ IRep w (Here w) c y := by
    intro k
    induction k with
    | zero => intro _; exact ⟨[], rfl, by simp, by simp, fun j c y hc => by simp at hc⟩
    | succ k ih =>
      intro hk
      obtain ⟨l, h1, h2, h3, h4⟩ := ih (by omega)
      have hE := hf k (by omega)
      rw [hs, List.getElem?_eq_getElem (by omega)] at hE
      obtain ⟨a, ⟨x, hx, rfl⟩, hal, hac⟩ := he.2 _ _ _ _ _ _ hE
      have hkm : k * sz + sz ≤ n * sz := by have := Nat.mul_le_mul_right sz hk; rw [Nat.succ_mul] at this; exact this
      have hal' : (f x).cells.length = sz := by rw [hal]; simp; omega
      refine ⟨l ++ [x], by simp [h1], ?_, by simp [h3, hal', Nat.succ_mul], fun j c y hj hy => ?_⟩
      · intro y hy; simp at hy; rcases hy with hy | rfl; exact h2 y hy; exact hx
      · simp only [List.flatMap_append, List.flatMap_cons, List.flatMap_nil, List.append_nil] at hj
        by_cases hlt : j < k * sz
        · rw [List.getElem?_append_left (by omega)] at hj; exact h4 j c y hj hy
        · rw [List.getElem?_append_right (by omega)] at hj
          rw [h3] at hj
          refine hac _ c y hj ?_
          have := (List.getElem?_eq_some_iff.1 hj).1
          rw [List.getElem?_take_of_lt (by omega), List.getElem?_drop, show k * sz + (j - k * sz) = j from by omega]; exact hy
  obtain ⟨l, h1, h2, h3, h4⟩ := key n (Nat.le_refl _)
  exact ⟨_, ⟨l, h1, h2, rfl⟩, by simp [h3, hl, hst], h4⟩

/-- An argument. -/
theorem opens_arg {t : TypeId} {p : AV → Prop} {v : Value} {d : DataW H} {ps : List MemPlace} {base sp held r b} (ho : Opens P enc w t p) (h : DataW.Trod enc P w base sp held t v d ps) (hok : Value.okWide P w r b t v) : ∃ a, p a ∧ IRep w (Here w) a v := by
  obtain ⟨⟨g, hg, hsh⟩, ho⟩ := ho
  obtain ⟨fuel, h⟩ := h
  obtain ⟨a, hp, hl, hc⟩ := ho _ _ _ _ _ _ h
  refine ⟨a, hp, ?_⟩
  have hs := hsh a hp
  unfold tagg at hg
  unfold Value.okWide at hok
  cases g with
  | true =>
    simp only [if_true] at hs
    obtain ⟨cs, rfl⟩ := hs
    have hv : ∃ ys, v = .agg ys := by
      split at hok
      · obtain ⟨ys, rfl, _⟩ := hok; exact ⟨ys, rfl⟩
      · obtain ⟨ys, rfl, _⟩ := hok; exact ⟨ys, rfl⟩
      · split at hg <;> simp_all
    obtain ⟨ys, rfl⟩ := hv
    simp only [Value.cells, AV.cells_agg] at hl hc
    have := IRep.agg (w := w) (Im := Here w) cs ys.toList hl (fun y hy => by
      obtain ⟨j, hj⟩ := List.getElem?_of_mem hy
      obtain ⟨c, hcj⟩ : ∃ c, cs[j]? = some c := ⟨_, List.getElem?_eq_getElem (by have := (List.getElem?_eq_some_iff.1 hj).1; omega)⟩
      exact (hc j c y hcj hj).1) fun j c y hj hy => (hc j c y hj hy).2
    simpa using this
  | false =>
    simp only [Bool.false_eq_true, if_false] at hs
    have hv : v.cells = #[v] := by
      cases v with
      | agg ys =>
        exfalso
        split at hok
        · simp_all
        · simp_all
        · unfold Cell.okWide at hok
          split at hok <;> simp_all [Cell.ok]
      | _ => rfl
    rw [hv] at hl hc
    rw [hs] at hl hc
    exact (hc 0 a v rfl rfl).2

theorem opens_args : ∀ {ts : List TypeId} {ps : List (AV → Prop)} {vs : List Value} {ds : List (DataW H)} {p : List MemPlace} {base sp held r b}, OpensAll P enc w ts ps → DataW.TrodAll enc P w base sp held ts vs ds p →
    (∀ (j : Nat) t v, ts[j]? = some t → vs[j]? = some v → Value.okWide P w r b t v) → ∃ as, AllP ps as ∧ IReps w (Here w) as vs
  | [], [], vs, ds, p, base, sp, held, r, b, _, h, _ => by
    obtain ⟨rfl, _, _⟩ := trodAll_nil h
    exact ⟨[], trivial, rfl, fun j c y hc => by simp at hc⟩
  | [], _ :: _, _, _, _, _, _, _, _, _, h, _, _ => h.elim
  | _ :: _, [], _, _, _, _, _, _, _, _, h, _, _ => h.elim
  | t :: ts, q :: ps, vs, ds, p, base, sp, held, r, b, ho, h, hok => by
    obtain ⟨v, vs', d, ds', p', q', rfl, rfl, rfl, h1, h2⟩ := trodAll_cons h
    obtain ⟨a, ha, hr⟩ := opens_arg ho.1 h1 (hok 0 t v rfl rfl)
    obtain ⟨as, has, hl, hrs⟩ := opens_args ho.2 h2 fun j t v hj hv => hok (j + 1) t v (by simpa using hj) (by simpa using hv)
    refine ⟨a :: as, ⟨ha, has⟩, by simp [hl], fun j c y hc hy => ?_⟩
    cases j with
    | zero => simp at hc hy; subst hc; subst hy; exact hr
    | succ j => exact hrs j c y (by simpa using hc) (by simpa using hy)

/-- What was read, reads so still. -/
theorem trodAll_still (hl : laidOutB P = true) {W W' : World} (hb : Below W.heap.size W W') : ∀ {ts : List TypeId} {vs : List Value} {ds : List (DataW H)} {p : List MemPlace}, (∀ t ∈ ts, P.readableRec t = true ∧ t < P.types.size) →
    (∀ x ∈ p, x.block < W.heap.size) → DataW.TrodAll enc P W 0 (fun _ => true) true ts vs ds p → DataW.TrodAll enc P W' 0 (fun b => decide (b < W.heap.size)) true ts vs ds p
  | [], vs, ds, p, _, _, h => by
    obtain ⟨rfl, rfl, rfl⟩ := trodAll_nil h
    rfl
  | t :: ts, vs, ds, p, hr, hp, h => by
    obtain ⟨v, vs', d, ds', p', q', rfl, rfl, rfl, h1, h2⟩ := trodAll_cons h
    exact ⟨p', q', Below.trod hl (hr t (by simp)).1 (hr t (by simp)).2 h1 hb fun x hx => hp x (by simp [hx]), trodAll_still hl hb (fun t ht => hr t (by simp [ht])) (fun x hx => hp x (by simp [hx])) h2, rfl⟩

end Go.Vai

/- From a function's contract to the row. -/
namespace Go.Vai
open Go.RowKit Go.ChangeShapes Go.WideShapes

theorem keptBut_ext {w w' : World} {may : MemPlace → Prop} (h : Ext w (fun _ => False) w') : w.keptBut w' may := by
  refine ⟨h.os, h.output, fun i hi => ?_⟩
  rw [h.block i hi fun h => h]
  cases hw : w.heap[i]? with
  | none => trivial
  | some o => cases o <;> simp

/-- Whatever is read: the law says true. -/
theorem post_true {H : Type} {enc : TypeId × Value → H} {P : Program} {f : Func} {s : ChangeSpec} {fresh handsOn : Bool} {W W' : World} {args : Array Value} {ds gs : List (DataW H)} {before : List MemPlace} {tb : TypeId}
    (hl : laidOutB P = true) (hr : ∀ t ∈ f.params.toList, P.readableRec t = true ∧ t < P.types.size) (hrt : f.resultTypes = #[tb]) (htb : P.underlying tb = some .bool) (hvars : s.vars = [])
    (hs : ∀ ds : List (DataW H), ds.length = f.params.size → s.fn H ds = { results := [.lit (.bool true)], args := ds })
    (hW : DataW.Whole enc P f.params.toList s.vars false W args.toList ds gs before) (hx : Ext W (fun _ => False) W') : s.post enc P f false fresh handsOn false W args (.bool true) W' := by
  have hWw := hW
  obtain ⟨p, q, hA, hV, rfl, hfz, hnd⟩ := hW
  rw [hvars] at hV
  have hlt := hWw.lt
  obtain ⟨rfl, rfl⟩ := trodVars_none hV
  have hlen : ds.length = f.params.size := by
    have key : ∀ (ts : List TypeId) (vs : List Value) (ds : List (DataW H)) (p : List MemPlace), DataW.TrodAll enc P W 0 (fun _ => true) true ts vs ds p → ds.length = ts.length := by
      intro ts
      induction ts with
      | nil => intro vs ds p h; obtain ⟨_, rfl, _⟩ := trodAll_nil h; rfl
      | cons t ts ih =>
        intro vs ds p h
        obtain ⟨v, vs', d, ds', p', q', rfl, rfl, rfl, h1, h2⟩ := trodAll_cons h
        simp [ih _ _ _ h2]
    simpa using key _ _ _ _ hA
  have e := hs ds hlen
  simp only [List.append_nil] at hWw hlt hfz
  have htr : DataW.TrodAll enc P W' 0 (fun b => decide (b < W.heap.size)) true f.params.toList args.toList ds p := trodAll_still hl hx.below hr hlt hA
  have hokk : ∀ (j : Nat) (t : TypeId) (r : Value), f.resultTypes[j]? = some t → ((Value.bool true).resultList f.resultTypes.size)[j]? = some r → Value.okWide P W' .any 0 t r := by
    intro j t r hj hv
    rw [hrt] at hj hv
    cases j with
    | zero =>
      simp [Value.resultList] at hj hv
      subst hj; subst hv
      simp [Value.okWide, htb, Cell.okWide, Cell.ok]
    | succ j => simp at hj
  have hres : ∀ (b : Nat) (sp : Nat → Bool) (hd : Bool), DataW.TrodAll enc P W' b sp hd f.resultTypes.toList ((Value.bool true).resultList f.resultTypes.size) [.lit (.bool true)] [] := by
    intro b sp hd
    rw [hrt]
    exact ⟨[], [], ⟨1, by simp [DataW.trod, Value.cells, htb]⟩, rfl, rfl⟩
  have hold : ∀ x ∈ p, decide (x.block < W.heap.size) = true := fun x hx => by simpa using hlt x hx
  refine ⟨ds, [], p, [], p, [], hWw, ?_, ?_, ?_, World.keptBut_mono (fun p hp => ⟨hp, ?_⟩) (keptBut_ext (may := (· ∈ p)) hx), fun h => by cases h⟩
  · simp only [List.append_nil, e]; exact hres _ _ _
  · simp only [List.append_nil, e]; exact htr
  · simp only [List.append_nil, e, hvars]; rfl
  · exact .inr (by simpa using hp)

theorem lifted {H : Type} {enc : TypeId × Value → H} {C : Checked} {os : Os} {f : FuncId} {fn : Func} {s : ChangeSpec} {conds : List PathCond} {fresh handsOn : Bool} {tb : TypeId} {ps : List (AV → Prop)}
    (own : ownKnob C.prog.godebug = none) (started : os.Started) (noInit : C.prog.inits.idxOf? f = none) (hfn : C.prog.funcs[f]? = some fn)
    (witness : ∃ (w : World) (tape : Tape) (i : Input), w.os = os ∧ (w.forCall tape i).Shaped C.prog ∧ i.vars = [] ∧ Input.okWide C.prog (w.forCall tape i) .any w.heap.size f i ∧
      s.pre6 enc C.prog fn conds false (w.forCall tape i).memory i.args ∧ ({} : Assume).holds C.prog (lone (Frame.enter C.prog f i.args .normal) [] (w.forCall tape i)))
    (hl : laidOutB C.prog = true) (hr : (fn.params.toList.all fun t => C.prog.readableRec t && decide (t < C.prog.types.size)) = true) (hrt : fn.resultTypes = #[tb]) (htb : C.prog.underlying tb = some .bool) (hvars : s.vars = [])
    (hs : ∀ ds : List (DataW H), ds.length = fn.params.size → s.fn H ds = { results := [.lit (.bool true)], args := ds })
    (hop : ∀ w : World, OpensAll C.prog enc w fn.params.toList ps) (hev : ∀ as, AllP ps as → Ev C.prog f as (.v (.bool true))) :
    ReturnsInHanded {} C os f .any (s.pre6 enc C.prog fn conds false) (s.post enc C.prog fn false fresh handsOn false) := by
  refine returnsInHanded_of_change own started noInit hfn witness ?_
  intro W base args ds gs before hval hW _ _
  obtain ⟨p, q, hA, hV, e, hfz, hnd⟩ := hW
  obtain ⟨as, has, hrep⟩ := opens_args (hop W) hA (fun j t v hj hv => hval j t v (by simpa using hj) (by simpa using hv))
  have := (hev as has as _ ⟨rfl, rfl⟩).2 W (Here W) args.toList (fun b hb => hb) hrep
  refine (this.mono ?_)
  rintro e' W' ⟨y, rfl, hx, Im', _, _, hR⟩
  obtain ⟨ob, h1, _⟩ := hR
  have hy : y = .bool true := by
    unfold R1 at h1
    cases h1.2 with | v => rfl
  subst hy
  exact ⟨_, rfl, post_true hl (fun t ht => by simpa using List.all_eq_true.1 hr t ht) hrt htb hvars hs ⟨p, q, hA, hV, e, hfz, hnd⟩ hx⟩

theorem allP_1 {pa0 : AV → Prop} {Q : List AV → Prop} (h : ∀ a0, pa0 a0 → Q [a0]) : ∀ l, AllP [pa0] l → Q l
  | [a0], ha => h a0 ha.1
  | [], ha => (ha : False).elim
  | _ :: _ :: _, ha => (ha.2 : False).elim
theorem len_1 {T : Type} {Q : List T → Prop} (h : ∀ a0, Q [a0]) : ∀ l : List T, l.length = 1 → Q l
  | [a0], _ => h a0
  | [], hl => by simp at hl
  | _ :: _ :: _, hl => by simp at hl
theorem allP_2 {pa0 pa1 : AV → Prop} {Q : List AV → Prop} (h : ∀ a0 a1, pa0 a0 → pa1 a1 → Q [a0, a1]) : ∀ l, AllP [pa0, pa1] l → Q l
  | [a0, a1], ha => h a0 a1 ha.1 ha.2.1
  | [], ha => (ha : False).elim
  | [_], ha => (ha.2 : False).elim
  | _ :: _ :: _ :: _, ha => (ha.2.2 : False).elim
theorem len_2 {T : Type} {Q : List T → Prop} (h : ∀ a0 a1, Q [a0, a1]) : ∀ l : List T, l.length = 2 → Q l
  | [a0, a1], _ => h a0 a1
  | [], hl => by simp at hl
  | [_], hl => by simp at hl
  | _ :: _ :: _ :: _, hl => by simp at hl
theorem allP_3 {pa0 pa1 pa2 : AV → Prop} {Q : List AV → Prop} (h : ∀ a0 a1 a2, pa0 a0 → pa1 a1 → pa2 a2 → Q [a0, a1, a2]) : ∀ l, AllP [pa0, pa1, pa2] l → Q l
  | [a0, a1, a2], ha => h a0 a1 a2 ha.1 ha.2.1 ha.2.2.1
  | [], ha => (ha : False).elim
  | [_], ha => (ha.2 : False).elim
  | [_, _], ha => (ha.2.2 : False).elim
  | _ :: _ :: _ :: _ :: _, ha => (ha.2.2.2 : False).elim
theorem len_3 {T : Type} {Q : List T → Prop} (h : ∀ a0 a1 a2, Q [a0, a1, a2]) : ∀ l : List T, l.length = 3 → Q l
  | [a0, a1, a2], _ => h a0 a1 a2
  | [], hl => by simp at hl
  | [_], hl => by simp at hl
  | [_, _], hl => by simp at hl
  | _ :: _ :: _ :: _ :: _, hl => by simp at hl
theorem allP_4 {pa0 pa1 pa2 pa3 : AV → Prop} {Q : List AV → Prop} (h : ∀ a0 a1 a2 a3, pa0 a0 → pa1 a1 → pa2 a2 → pa3 a3 → Q [a0, a1, a2, a3]) : ∀ l, AllP [pa0, pa1, pa2, pa3] l → Q l
  | [a0, a1, a2, a3], ha => h a0 a1 a2 a3 ha.1 ha.2.1 ha.2.2.1 ha.2.2.2.1
  | [], ha => (ha : False).elim
  | [_], ha => (ha.2 : False).elim
  | [_, _], ha => (ha.2.2 : False).elim
  | [_, _, _], ha => (ha.2.2.2 : False).elim
  | _ :: _ :: _ :: _ :: _ :: _, ha => (ha.2.2.2.2 : False).elim
theorem len_4 {T : Type} {Q : List T → Prop} (h : ∀ a0 a1 a2 a3, Q [a0, a1, a2, a3]) : ∀ l : List T, l.length = 4 → Q l
  | [a0, a1, a2, a3], _ => h a0 a1 a2 a3
  | [], hl => by simp at hl
  | [_], hl => by simp at hl
  | [_, _], hl => by simp at hl
  | [_, _, _], hl => by simp at hl
  | _ :: _ :: _ :: _ :: _ :: _, hl => by simp at hl
theorem allP_5 {pa0 pa1 pa2 pa3 pa4 : AV → Prop} {Q : List AV → Prop} (h : ∀ a0 a1 a2 a3 a4, pa0 a0 → pa1 a1 → pa2 a2 → pa3 a3 → pa4 a4 → Q [a0, a1, a2, a3, a4]) : ∀ l, AllP [pa0, pa1, pa2, pa3, pa4] l → Q l
  | [a0, a1, a2, a3, a4], ha => h a0 a1 a2 a3 a4 ha.1 ha.2.1 ha.2.2.1 ha.2.2.2.1 ha.2.2.2.2.1
  | [], ha => (ha : False).elim
  | [_], ha => (ha.2 : False).elim
  | [_, _], ha => (ha.2.2 : False).elim
  | [_, _, _], ha => (ha.2.2.2 : False).elim
  | [_, _, _, _], ha => (ha.2.2.2.2 : False).elim
  | _ :: _ :: _ :: _ :: _ :: _ :: _, ha => (ha.2.2.2.2.2 : False).elim
theorem len_5 {T : Type} {Q : List T → Prop} (h : ∀ a0 a1 a2 a3 a4, Q [a0, a1, a2, a3, a4]) : ∀ l : List T, l.length = 5 → Q l
  | [a0, a1, a2, a3, a4], _ => h a0 a1 a2 a3 a4
  | [], hl => by simp at hl
  | [_], hl => by simp at hl
  | [_, _], hl => by simp at hl
  | [_, _, _], hl => by simp at hl
  | [_, _, _, _], hl => by simp at hl
  | _ :: _ :: _ :: _ :: _ :: _ :: _, hl => by simp at hl
theorem allP_6 {pa0 pa1 pa2 pa3 pa4 pa5 : AV → Prop} {Q : List AV → Prop} (h : ∀ a0 a1 a2 a3 a4 a5, pa0 a0 → pa1 a1 → pa2 a2 → pa3 a3 → pa4 a4 → pa5 a5 → Q [a0, a1, a2, a3, a4, a5]) : ∀ l, AllP [pa0, pa1, pa2, pa3, pa4, pa5] l → Q l
  | [a0, a1, a2, a3, a4, a5], ha => h a0 a1 a2 a3 a4 a5 ha.1 ha.2.1 ha.2.2.1 ha.2.2.2.1 ha.2.2.2.2.1 ha.2.2.2.2.2.1
  | [], ha => (ha : False).elim
  | [_], ha => (ha.2 : False).elim
  | [_, _], ha => (ha.2.2 : False).elim
  | [_, _, _], ha => (ha.2.2.2 : False).elim
  | [_, _, _, _], ha => (ha.2.2.2.2 : False).elim
  | [_, _, _, _, _], ha => (ha.2.2.2.2.2 : False).elim
  | _ :: _ :: _ :: _ :: _ :: _ :: _ :: _, ha => (ha.2.2.2.2.2.2 : False).elim
theorem len_6 {T : Type} {Q : List T → Prop} (h : ∀ a0 a1 a2 a3 a4 a5, Q [a0, a1, a2, a3, a4, a5]) : ∀ l : List T, l.length = 6 → Q l
  | [a0, a1, a2, a3, a4, a5], _ => h a0 a1 a2 a3 a4 a5
  | [], hl => by simp at hl
  | [_], hl => by simp at hl
  | [_, _], hl => by simp at hl
  | [_, _, _], hl => by simp at hl
  | [_, _, _, _], hl => by simp at hl
  | [_, _, _, _, _], hl => by simp at hl
  | _ :: _ :: _ :: _ :: _ :: _ :: _ :: _, hl => by simp at hl
theorem allP_7 {pa0 pa1 pa2 pa3 pa4 pa5 pa6 : AV → Prop} {Q : List AV → Prop} (h : ∀ a0 a1 a2 a3 a4 a5 a6, pa0 a0 → pa1 a1 → pa2 a2 → pa3 a3 → pa4 a4 → pa5 a5 → pa6 a6 → Q [a0, a1, a2, a3, a4, a5, a6]) : ∀ l, AllP [pa0, pa1, pa2, pa3, pa4, pa5, pa6] l → Q l
  | [a0, a1, a2, a3, a4, a5, a6], ha => h a0 a1 a2 a3 a4 a5 a6 ha.1 ha.2.1 ha.2.2.1 ha.2.2.2.1 ha.2.2.2.2.1 ha.2.2.2.2.2.1 ha.2.2.2.2.2.2.1
  | [], ha => (ha : False).elim
  | [_], ha => (ha.2 : False).elim
  | [_, _], ha => (ha.2.2 : False).elim
  | [_, _, _], ha => (ha.2.2.2 : False).elim
  | [_, _, _, _], ha => (ha.2.2.2.2 : False).elim
  | [_, _, _, _, _], ha => (ha.2.2.2.2.2 : False).elim
  | [_, _, _, _, _, _], ha => (ha.2.2.2.2.2.2 : False).elim
  | _ :: _ :: _ :: _ :: _ :: _ :: _ :: _ :: _, ha => (ha.2.2.2.2.2.2.2 : False).elim
theorem len_7 {T : Type} {Q : List T → Prop} (h : ∀ a0 a1 a2 a3 a4 a5 a6, Q [a0, a1, a2, a3, a4, a5, a6]) : ∀ l : List T, l.length = 7 → Q l
  | [a0, a1, a2, a3, a4, a5, a6], _ => h a0 a1 a2 a3 a4 a5 a6
  | [], hl => by simp at hl
  | [_], hl => by simp at hl
  | [_, _], hl => by simp at hl
  | [_, _, _], hl => by simp at hl
  | [_, _, _, _], hl => by simp at hl
  | [_, _, _, _, _], hl => by simp at hl
  | [_, _, _, _, _, _], hl => by simp at hl
  | _ :: _ :: _ :: _ :: _ :: _ :: _ :: _ :: _, hl => by simp at hl
theorem allP_8 {pa0 pa1 pa2 pa3 pa4 pa5 pa6 pa7 : AV → Prop} {Q : List AV → Prop} (h : ∀ a0 a1 a2 a3 a4 a5 a6 a7, pa0 a0 → pa1 a1 → pa2 a2 → pa3 a3 → pa4 a4 → pa5 a5 → pa6 a6 → pa7 a7 → Q [a0, a1, a2, a3, a4, a5, a6, a7]) : ∀ l, AllP [pa0, pa1, pa2, pa3, pa4, pa5, pa6, pa7] l → Q l
  | [a0, a1, a2, a3, a4, a5, a6, a7], ha => h a0 a1 a2 a3 a4 a5 a6 a7 ha.1 ha.2.1 ha.2.2.1 ha.2.2.2.1 ha.2.2.2.2.1 ha.2.2.2.2.2.1 ha.2.2.2.2.2.2.1 ha.2.2.2.2.2.2.2.1
  | [], ha => (ha : False).elim
  | [_], ha => (ha.2 : False).elim
  | [_, _], ha => (ha.2.2 : False).elim
  | [_, _, _], ha => (ha.2.2.2 : False).elim
  | [_, _, _, _], ha => (ha.2.2.2.2 : False).elim
  | [_, _, _, _, _], ha => (ha.2.2.2.2.2 : False).elim
  | [_, _, _, _, _, _], ha => (ha.2.2.2.2.2.2 : False).elim
  | [_, _, _, _, _, _, _], ha => (ha.2.2.2.2.2.2.2 : False).elim
  | _ :: _ :: _ :: _ :: _ :: _ :: _ :: _ :: _ :: _, ha => (ha.2.2.2.2.2.2.2.2 : False).elim
theorem len_8 {T : Type} {Q : List T → Prop} (h : ∀ a0 a1 a2 a3 a4 a5 a6 a7, Q [a0, a1, a2, a3, a4, a5, a6, a7]) : ∀ l : List T, l.length = 8 → Q l
  | [a0, a1, a2, a3, a4, a5, a6, a7], _ => h a0 a1 a2 a3 a4 a5 a6 a7
  | [], hl => by simp at hl
  | [_], hl => by simp at hl
  | [_, _], hl => by simp at hl
  | [_, _, _], hl => by simp at hl
  | [_, _, _, _], hl => by simp at hl
  | [_, _, _, _, _], hl => by simp at hl
  | [_, _, _, _, _, _], hl => by simp at hl
  | [_, _, _, _, _, _, _], hl => by simp at hl
  | _ :: _ :: _ :: _ :: _ :: _ :: _ :: _ :: _ :: _, hl => by simp at hl
theorem allP_9 {pa0 pa1 pa2 pa3 pa4 pa5 pa6 pa7 pa8 : AV → Prop} {Q : List AV → Prop} (h : ∀ a0 a1 a2 a3 a4 a5 a6 a7 a8, pa0 a0 → pa1 a1 → pa2 a2 → pa3 a3 → pa4 a4 → pa5 a5 → pa6 a6 → pa7 a7 → pa8 a8 → Q [a0, a1, a2, a3, a4, a5, a6, a7, a8]) : ∀ l, AllP [pa0, pa1, pa2, pa3, pa4, pa5, pa6, pa7, pa8] l → Q l
  | [a0, a1, a2, a3, a4, a5, a6, a7, a8], ha => h a0 a1 a2 a3 a4 a5 a6 a7 a8 ha.1 ha.2.1 ha.2.2.1 ha.2.2.2.1 ha.2.2.2.2.1 ha.2.2.2.2.2.1 ha.2.2.2.2.2.2.1 ha.2.2.2.2.2.2.2.1 ha.2.2.2.2.2.2.2.2.1
  | [], ha => (ha : False).elim
  | [_], ha => (ha.2 : False).elim
  | [_, _], ha => (ha.2.2 : False).elim
  | [_, _, _], ha => (ha.2.2.2 : False).elim
  | [_, _, _, _], ha => (ha.2.2.2.2 : False).elim
  | [_, _, _, _, _], ha => (ha.2.2.2.2.2 : False).elim
  | [_, _, _, _, _, _], ha => (ha.2.2.2.2.2.2 : False).elim
  | [_, _, _, _, _, _, _], ha => (ha.2.2.2.2.2.2.2 : False).elim
  | [_, _, _, _, _, _, _, _], ha => (ha.2.2.2.2.2.2.2.2 : False).elim
  | _ :: _ :: _ :: _ :: _ :: _ :: _ :: _ :: _ :: _ :: _, ha => (ha.2.2.2.2.2.2.2.2.2 : False).elim
theorem len_9 {T : Type} {Q : List T → Prop} (h : ∀ a0 a1 a2 a3 a4 a5 a6 a7 a8, Q [a0, a1, a2, a3, a4, a5, a6, a7, a8]) : ∀ l : List T, l.length = 9 → Q l
  | [a0, a1, a2, a3, a4, a5, a6, a7, a8], _ => h a0 a1 a2 a3 a4 a5 a6 a7 a8
  | [], hl => by simp at hl
  | [_], hl => by simp at hl
  | [_, _], hl => by simp at hl
  | [_, _, _], hl => by simp at hl
  | [_, _, _, _], hl => by simp at hl
  | [_, _, _, _, _], hl => by simp at hl
  | [_, _, _, _, _, _], hl => by simp at hl
  | [_, _, _, _, _, _, _], hl => by simp at hl
  | [_, _, _, _, _, _, _, _], hl => by simp at hl
  | _ :: _ :: _ :: _ :: _ :: _ :: _ :: _ :: _ :: _ :: _, hl => by simp at hl
theorem allP_10 {pa0 pa1 pa2 pa3 pa4 pa5 pa6 pa7 pa8 pa9 : AV → Prop} {Q : List AV → Prop} (h : ∀ a0 a1 a2 a3 a4 a5 a6 a7 a8 a9, pa0 a0 → pa1 a1 → pa2 a2 → pa3 a3 → pa4 a4 → pa5 a5 → pa6 a6 → pa7 a7 → pa8 a8 → pa9 a9 → Q [a0, a1, a2, a3, a4, a5, a6, a7, a8, a9]) : ∀ l, AllP [pa0, pa1, pa2, pa3, pa4, pa5, pa6, pa7, pa8, pa9] l → Q l
  | [a0, a1, a2, a3, a4, a5, a6, a7, a8, a9], ha => h a0 a1 a2 a3 a4 a5 a6 a7 a8 a9 ha.1 ha.2.1 ha.2.2.1 ha.2.2.2.1 ha.2.2.2.2.1 ha.2.2.2.2.2.1 ha.2.2.2.2.2.2.1 ha.2.2.2.2.2.2.2.1 ha.2.2.2.2.2.2.2.2.1 ha.2.2.2.2.2.2.2.2.2.1
  | [], ha => (ha : False).elim
  | [_], ha => (ha.2 : False).elim
  | [_, _], ha => (ha.2.2 : False).elim
  | [_, _, _], ha => (ha.2.2.2 : False).elim
  | [_, _, _, _], ha => (ha.2.2.2.2 : False).elim
  | [_, _, _, _, _], ha => (ha.2.2.2.2.2 : False).elim
  | [_, _, _, _, _, _], ha => (ha.2.2.2.2.2.2 : False).elim
  | [_, _, _, _, _, _, _], ha => (ha.2.2.2.2.2.2.2 : False).elim
  | [_, _, _, _, _, _, _, _], ha => (ha.2.2.2.2.2.2.2.2 : False).elim
  | [_, _, _, _, _, _, _, _, _], ha => (ha.2.2.2.2.2.2.2.2.2 : False).elim
  | _ :: _ :: _ :: _ :: _ :: _ :: _ :: _ :: _ :: _ :: _ :: _, ha => (ha.2.2.2.2.2.2.2.2.2.2 : False).elim
theorem len_10 {T : Type} {Q : List T → Prop} (h : ∀ a0 a1 a2 a3 a4 a5 a6 a7 a8 a9, Q [a0, a1, a2, a3, a4, a5, a6, a7, a8, a9]) : ∀ l : List T, l.length = 10 → Q l
  | [a0, a1, a2, a3, a4, a5, a6, a7, a8, a9], _ => h a0 a1 a2 a3 a4 a5 a6 a7 a8 a9
  | [], hl => by simp at hl
  | [_], hl => by simp at hl
  | [_, _], hl => by simp at hl
  | [_, _, _], hl => by simp at hl
  | [_, _, _, _], hl => by simp at hl
  | [_, _, _, _, _], hl => by simp at hl
  | [_, _, _, _, _, _], hl => by simp at hl
  | [_, _, _, _, _, _, _], hl => by simp at hl
  | [_, _, _, _, _, _, _, _], hl => by simp at hl
  | [_, _, _, _, _, _, _, _, _], hl => by simp at hl
  | _ :: _ :: _ :: _ :: _ :: _ :: _ :: _ :: _ :: _ :: _ :: _, hl => by simp at hl
theorem allP_11 {pa0 pa1 pa2 pa3 pa4 pa5 pa6 pa7 pa8 pa9 pa10 : AV → Prop} {Q : List AV → Prop} (h : ∀ a0 a1 a2 a3 a4 a5 a6 a7 a8 a9 a10, pa0 a0 → pa1 a1 → pa2 a2 → pa3 a3 → pa4 a4 → pa5 a5 → pa6 a6 → pa7 a7 → pa8 a8 → pa9 a9 → pa10 a10 → Q [a0, a1, a2, a3, a4, a5, a6, a7, a8, a9, a10]) : ∀ l, AllP [pa0, pa1, pa2, pa3, pa4, pa5, pa6, pa7, pa8, pa9, pa10] l → Q l
  | [a0, a1, a2, a3, a4, a5, a6, a7, a8, a9, a10], ha => h a0 a1 a2 a3 a4 a5 a6 a7 a8 a9 a10 ha.1 ha.2.1 ha.2.2.1 ha.2.2.2.1 ha.2.2.2.2.1 ha.2.2.2.2.2.1 ha.2.2.2.2.2.2.1 ha.2.2.2.2.2.2.2.1 ha.2.2.2.2.2.2.2.2.1 ha.2.2.2.2.2.2.2.2.2.1 ha.2.2.2.2.2.2.2.2.2.2.1
  | [], ha => (ha : False).elim
  | [_], ha => (ha.2 : False).elim
  | [_, _], ha => (ha.2.2 : False).elim
  | [_, _, _], ha => (ha.2.2.2 : False).elim
  | [_, _, _, _], ha => (ha.2.2.2.2 : False).elim
  | [_, _, _, _, _], ha => (ha.2.2.2.2.2 : False).elim
  | [_, _, _, _, _, _], ha => (ha.2.2.2.2.2.2 : False).elim
  | [_, _, _, _, _, _, _], ha => (ha.2.2.2.2.2.2.2 : False).elim
  | [_, _, _, _, _, _, _, _], ha => (ha.2.2.2.2.2.2.2.2 : False).elim
  | [_, _, _, _, _, _, _, _, _], ha => (ha.2.2.2.2.2.2.2.2.2 : False).elim
  | [_, _, _, _, _, _, _, _, _, _], ha => (ha.2.2.2.2.2.2.2.2.2.2 : False).elim
  | _ :: _ :: _ :: _ :: _ :: _ :: _ :: _ :: _ :: _ :: _ :: _ :: _, ha => (ha.2.2.2.2.2.2.2.2.2.2.2 : False).elim
theorem len_11 {T : Type} {Q : List T → Prop} (h : ∀ a0 a1 a2 a3 a4 a5 a6 a7 a8 a9 a10, Q [a0, a1, a2, a3, a4, a5, a6, a7, a8, a9, a10]) : ∀ l : List T, l.length = 11 → Q l
  | [a0, a1, a2, a3, a4, a5, a6, a7, a8, a9, a10], _ => h a0 a1 a2 a3 a4 a5 a6 a7 a8 a9 a10
  | [], hl => by simp at hl
  | [_], hl => by simp at hl
  | [_, _], hl => by simp at hl
  | [_, _, _], hl => by simp at hl
  | [_, _, _, _], hl => by simp at hl
  | [_, _, _, _, _], hl => by simp at hl
  | [_, _, _, _, _, _], hl => by simp at hl
  | [_, _, _, _, _, _, _], hl => by simp at hl
  | [_, _, _, _, _, _, _, _], hl => by simp at hl
  | [_, _, _, _, _, _, _, _, _], hl => by simp at hl
  | [_, _, _, _, _, _, _, _, _, _], hl => by simp at hl
  | _ :: _ :: _ :: _ :: _ :: _ :: _ :: _ :: _ :: _ :: _ :: _ :: _, hl => by simp at hl

end Go.Vai

/- Words for contracts: numbers, lists. -/
set_option linter.unusedSimpArgs false
namespace Go.Vai
open Go

abbrev I (n : Int) : AV := .v (.int .i64 n)
abbrev B (b : Bool) : AV := .v (.bool b)
/-- A slice of integers. -/
abbrev SL (l : List Int) : AV := .sl 1 (l.map I)
/-- In the range of an int. -/
def R64 (n : Int) : Prop := -9223372036854775808 ≤ n ∧ n ≤ 9223372036854775807

def gd {T : Type} [Inhabited T] (l : List T) (n : Nat) : T := l.getD n default
theorem gd_some {T : Type} [Inhabited T] (l : List T) (n : Nat) (h : n < l.length) : l[n]? = some (gd l n) := by
  simp [gd, h]
theorem gd_mem {T : Type} [Inhabited T] (l : List T) (n : Nat) (h : n < l.length) : gd l n ∈ l := List.mem_of_getElem? (gd_some l n h)
theorem gd_none {T : Type} [Inhabited T] (l : List T) (n : Nat) (h : l.length ≤ n) : gd l n = default := by
  simp [gd, h]
@[simp] theorem gd_nil {T : Type} [Inhabited T] (n : Nat) : gd ([] : List T) n = default := by simp [gd]
@[simp] theorem gd_cons_zero {T : Type} [Inhabited T] (x : T) (l : List T) : gd (x :: l) 0 = x := by simp [gd]
@[simp] theorem gd_cons_succ {T : Type} [Inhabited T] (x : T) (l : List T) (n : Nat) : gd (x :: l) (n + 1) = gd l n := by simp [gd]
theorem gd_append_left {T : Type} [Inhabited T] (l m : List T) (n : Nat) (h : n < l.length) : gd (l ++ m) n = gd l n := by simp [gd, List.getElem?_append_left h]
theorem gd_append_right {T : Type} [Inhabited T] (l m : List T) (n : Nat) (h : l.length ≤ n) : gd (l ++ m) n = gd m (n - l.length) := by simp [gd, List.getElem?_append_right h]
theorem gd_ext {T : Type} [Inhabited T] {l m : List T} (hl : l.length = m.length) (h : ∀ i, i < l.length → gd l i = gd m i) : l = m := by
  refine List.ext_getElem? fun i => ?_
  by_cases hi : i < l.length
  · rw [gd_some l i hi, gd_some m i (by omega), h i hi]
  · rw [List.getElem?_eq_none (by omega), List.getElem?_eq_none (by omega)]
theorem gd_set {T : Type} [Inhabited T] (l : List T) (i n : Nat) (x : T) (h : i < l.length) : gd (l.set i x) n = if n = i then x else gd l n := by
  unfold gd
  rw [List.getD_eq_getElem?_getD, List.getD_eq_getElem?_getD, List.getElem?_set]
  by_cases hn : i = n
  · subst hn; simp [h]
  · rw [if_neg hn, if_neg (fun e => hn e.symm)]

section
variable {T : Type} [Inhabited T] {A : Prop} {k : AV → Prop}
@[go_sem] theorem optPt_map (l : List T) (f : T → AV) (n : Nat) : optPt A ((l.map f)[n]?) k = needV (A ∧ n < l.length) k (.pt (f (gd l n)) 0) := by
  by_cases h : n < l.length
  · rw [List.getElem?_map, gd_some l n h]; simp [optPt, needV, h]
  · rw [List.getElem?_eq_none (by simp; omega)]; simp [optPt, needV, h]
@[go_sem] theorem loadE_map {P : Program} {t : TypeId} (l : List T) (f : T → AV) (n j : Nat) : loadE P t ((l.map f)[n]?) j k = need (n < l.length) (partC P t (f (gd l n)).cells j k) := by
  by_cases h : n < l.length
  · rw [List.getElem?_map, gd_some l n h]; simp [loadE, need, h]
  · rw [List.getElem?_eq_none (by simp; omega)]; simp [loadE, need, h]
@[go_sem] theorem stoE_map {P : Program} {t : TypeId} {b : Blk} (l : List T) (f : T → AV) (n : Nat) {id sz i j : Nat} {v : AV} {K : Env → Store → Prop} {E : Env} {σ : Store} :
    stoE P t b ((l.map f)[n]?) id sz i j v K E σ = need (n < l.length) (stoE P t b (some (f (gd l n))) id sz i j v K E σ) := by
  by_cases h : n < l.length
  · rw [List.getElem?_map, gd_some l n h]; simp [need, h]
  · rw [List.getElem?_eq_none (by simp; omega)]; simp [stoE, need, h]
@[go_sem] theorem optV_map (l : List T) (f : T → AV) (n : Nat) : optV ((l.map f)[n]?) k = need (n < l.length) (k (f (gd l n))) := by
  by_cases h : n < l.length
  · rw [List.getElem?_map, gd_some l n h]; simp [optV, need, h]
  · rw [List.getElem?_eq_none (by simp; omega)]; simp [optV, need, h]
end

/-- A cell of a row is written. -/
@[go_sem high] theorem setC_ints (l : List Int) (j : Nat) (x : Int) (hj : j < l.length) (h1 : l.length ≠ 1) : setC (.agg (l.map I)) j (I x) = .agg ((l.set j x).map I) := by
  rw [setC_eq, if_neg (by simp; omega)]
  congr 1
  simp only [AV.cells_agg, AV.cells_v, List.length_singleton, ← List.map_take, ← List.map_drop]
  rw [List.set_eq_take_append_cons_drop, if_pos hj]
  simp
attribute [go_sem] List.length_append Nat.le_refl Int.le_refl List.range_zero List.nodup_nil List.nodup_cons List.mem_cons List.not_mem_nil not_false_eq_true or_false false_or List.length_set Nat.mul_one Nat.zero_add Nat.add_zero Nat.one_mul Nat.zero_mul List.set_cons_zero List.set_cons_succ List.set_nil
@[go_sem] theorem drop_mapL {T U : Type} (l : List T) (f : T → U) (n : Nat) : (l.map f).drop n = (l.drop n).map f := (List.map_drop ..).symm
@[go_sem] theorem take_mapL {T U : Type} (l : List T) (f : T → U) (n : Nat) : (l.map f).take n = (l.take n).map f := (List.map_take ..).symm
@[go_sem] theorem append_mapL {T U : Type} (l m : List T) (f : T → U) : l.map f ++ m.map f = (l ++ m).map f := (List.map_append ..).symm
theorem gd_drop {T : Type} [Inhabited T] (l : List T) (n i : Nat) : gd (l.drop n) i = gd l (n + i) := by simp [gd]
theorem gd_take {T : Type} [Inhabited T] (l : List T) (n i : Nat) (h : i < n) : gd (l.take n) i = gd l i := by simp [gd, List.getElem?_take, h]
@[go_sem] theorem wrap64_of {x : Int} (h : -9223372036854775808 ≤ x ∧ x ≤ 9223372036854775807) : IntKind.i64.wrap x = x := by
  simp [IntKind.wrap, IntKind.bits, IntKind.signed]; split <;> omega

@[go_sem] theorem ite_max (a b : Int) : (if b > a then b else a) = max a b := by split <;> omega
@[go_sem] theorem ite_min (a b : Int) : (if b < a then b else a) = min a b := by split <;> omega
@[go_sem] theorem take_all {T : Type} (l : List T) (n : Nat) (h : l.length ≤ n) : l.take n = l := List.take_of_length_le h
@[go_sem] theorem take_snoc {T : Type} (l : List T) (x : T) (n : Nat) (h : l.length + 1 ≤ n) : (l ++ [x]).take n = l ++ [x] := List.take_of_length_le (by simpa using h)
@[go_sem] theorem set_ints (l : List Int) (n : Nat) (x : Int) : (l.map I).set n (.v (.int .i64 x)) = (l.set n x).map I := by rw [List.map_set]
theorem R64_tdiv {m d : Int} (hd : 0 < d) (h : R64 m) : R64 (m.tdiv d) := by
  obtain ⟨h1, h2⟩ := h
  by_cases hm : 0 ≤ m
  · rw [Int.tdiv_eq_ediv_of_nonneg hm]
    have a := Int.ediv_nonneg hm (Int.le_of_lt hd)
    have b := Int.ediv_le_self d hm
    exact ⟨by omega, by omega⟩
  · have e : m.tdiv d = -((-m).tdiv d) := by rw [Int.neg_tdiv]; omega
    rw [e, Int.tdiv_eq_ediv_of_nonneg (by omega)]
    have a := Int.ediv_nonneg (show 0 ≤ -m by omega) (Int.le_of_lt hd)
    have b := Int.ediv_le_self d (show 0 ≤ -m by omega)
    exact ⟨by omega, by omega⟩
@[go_sem] theorem wrap64_tdiv {m d : Int} (hd : 0 < d) (h : -9223372036854775808 ≤ m ∧ m ≤ 9223372036854775807) : IntKind.i64.wrap (m.tdiv d) = m.tdiv d := wrap64_of (R64_tdiv hd h)
theorem namesL_map {T : Type} (p : Nat → Bool) (l : List T) (f : T → AV) (h : ∀ x, AV.namesB p (f x) = false) : AV.namesL p (l.map f) = false := by
  induction l with
  | nil => rfl
  | cons x l ih => simp [AV.namesL, h, ih]
@[go_sem] theorem append_int (l : List Int) (x : Int) : l.map I ++ [.v (.int .i64 x)] = (l ++ [x]).map I := by simp
@[go_sem] theorem namesL_ints (p : Nat → Bool) (l : List Int) : AV.namesL p (l.map I) = false := namesL_map p l I fun _ => rfl
@[go_sem] theorem namesL_sls (p : Nat → Bool) (l : List (List Int)) : AV.namesL p (l.map SL) = false := namesL_map p l SL fun _ => rfl
theorem flatL_map {T : Type} (l : List T) (f : T → AV) (h : ∀ x, AV.flat (f x) = true) : AV.flatL (l.map f) = true := by
  induction l with
  | nil => rfl
  | cons x l ih => simp [AV.flatL, h, ih]
@[go_sem] theorem flatL_ints (l : List Int) : AV.flatL (l.map I) = true := flatL_map l I fun _ => rfl
theorem allOK_map {T : Type} (s : Nat) (l : List T) (f : T → AV) (h : ∀ x, (f x).ok = true ∧ (f x).cells.length = s) : allOK s (l.map f) = true := by
  simp only [allOK, List.all_eq_true]
  intro e he
  obtain ⟨x, _, rfl⟩ := List.mem_map.1 he
  simp [h x]
@[go_sem] theorem allOK_ints (l : List Int) : allOK 1 (l.map I) = true := allOK_map 1 l I fun _ => ⟨rfl, rfl⟩
@[go_sem] theorem allOK_sls (l : List (List Int)) : allOK 1 (l.map SL) = true := allOK_map 1 l SL fun _ => ⟨rfl, rfl⟩

theorem callC_id {S : Sp} {K : Env → Store → Prop} {E : Env} {σ : Store} {kd bi b : Bool} {d g : Nat} {as : List AV} {dst : Option Nat} {L : Prop} (h : callC S kd bi d g b as dst K E σ L) : callC S kd bi d g b as dst K E σ L := h
@[go_sem] theorem upd_upd (E : Env) (d : Nat) (a b : AV) : upd (upd E d a) d b = upd E d b := by funext t; simp only [upd]; split <;> rfl
/-- A call, answered by a contract. -/
theorem callC_at {S : Sp} {K : Env → Store → Prop} {E : Env} {σ : Store} {kd bi b : Bool} {d g : Nat} {as : List AV} {dst : Option Nat} {L : Prop} {r : AV} (h : Ev S.P g as r) (h3 : impK (imp (16 * d) r) dst K E σ)
    (h1 : b = false ∨ r.flat = true := by first | exact .inl rfl | exact .inr rfl | exact .inr (by simp only [go_sem, AV.flat, AV.flatL, Bool.and_self])) (h2 : rlen r ≤ 16 := by exact Nat.le_of_ble_eq_true rfl) (h4 : kd = true ∨ r.dn = false := by first | exact .inl rfl | exact .inr rfl) : callC S kd bi d g b as dst K E σ L := callC_mk r h h1 h2 h4 h3

/-- An argument that reads as another one, too. -/
def AV.asIf (a b : AV) : Prop := ∀ (w : World) (Im : Nat → Prop) (y : Value), IRep w Im a y → IRep w Im b y
theorem asIf_refl (a : AV) : a.asIf a := fun _ _ _ h => h
theorem asIf_nil (s : Nat) : (AV.v (.slice none 0 0)).asIf (.sl s []) := fun _ _ _ h => by cases h; exact .slnil ..
def asIfL : List AV → List AV → Prop
  | [], [] => True
  | a :: as, b :: bs => a.asIf b ∧ asIfL as bs
  | _, _ => False
theorem asIfL_reps {w : World} {Im : Nat → Prop} : ∀ {as bs : List AV} {vs : List Value}, asIfL as bs → IReps w Im as vs → IReps w Im bs vs
  | [], [], _, _, h => h
  | a :: as, b :: bs, [], _, h => by have := h.1; simp at this
  | a :: as, b :: bs, v :: vs, ⟨h1, h2⟩, h => by
    have ih := asIfL_reps (vs := vs) h2 ⟨by simpa using h.1, fun j c y hc hy => h.2 (j + 1) c y (by simpa using hc) (by simpa using hy)⟩
    refine ⟨by simpa using ih.1, fun j c y hc hy => ?_⟩
    cases j with
    | zero => simp at hc hy; subst hc; subst hy; exact h1 _ _ _ (h.2 0 a v rfl rfl)
    | succ j => exact ih.2 j c y (by simpa using hc) (by simpa using hy)
  | [], _ :: _, _, h, _ => h.elim
  | _ :: _, [], _, h, _ => h.elim
theorem Ev.asIf {P : Program} {f : FuncId} {as bs : List AV} {r : AV} (h : Ev P f bs r) (ha : asIfL as bs) : Ev P f as r := by
  rintro as' r' ⟨rfl, rfl⟩
  obtain ⟨h1, h2⟩ := h bs r' ⟨rfl, rfl⟩
  exact ⟨h1, fun w Im vs hw hv => h2 w Im vs hw (asIfL_reps ha hv)⟩

end Go.Vai

/- Ranges over functions, as they are reckoned. -/
namespace Go.Vai
open Go.RowKit

theorem spR_mono (S : Sp) (b2 : Nat) (nm0 : Nat → Bool) : YMono (spR S b2 nm0) := fun _ _ _ _ _ h => h.elim
theorem seqY_mono {args : List AV} {g : AV} {K K' : AV → AV → Prop} (hK : ∀ v g, K v g → K' v g) (h : seqY args g K) : seqY args g K' := by
  unfold seqY at *
  split at h
  · exact ⟨h.1, hK _ _ h.2.1, hK _ _ h.2.2⟩
  · exact h.elim
theorem spY_mono (P : Program) (f : FuncId) (N l : Nat) : YMono (spY P f N l) := fun _ _ _ _ hK h => seqY_mono hK h

/-- A round, as it is reckoned. -/
def roundC (S : Sp) (as body : Code) (ps : List Nat) (R : Exit → Env → Store → Prop) (E : Env) (x : List AV) (σ : Store) : Prop :=
  awpC S as (thenQ (awpC S body R) failQ) (setPs E ps x) σ

theorem range_of {S : Sp} {f : Operand} {ps : Array Tmp} {as body : Code} {Q : Exit → Env → Store → Prop} {E : Env} {σ : Store} (hrd : S.rd = false) (hlow : Operand.low S.N f = true) (hoA : codeQ S.P S.N as = true) (hoB : codeQ S.P S.N body = true)
    (hps : (ps.toList.all fun p => Nat.blt p S.N) = true) {g : FuncId} {caps : List AV} (hf : ev E f = .clo g caps) (q nm0 : Nat → Bool) (b2 : Nat) (hqc : AV.namesL (fun i => !q i) caps = false)
    (hqs : ∀ id k, σ id = some k → q id = true → AV.namesL (fun i => !q i) k.es = false) (hqn : ∀ id, q id = true → nm0 id = false) (hnm : ∀ id, S.pin id = true → nm0 id = true)
    (hb2 : ∀ id, nm0 id = true → id / 16 < b2 ∨ b2 + 100000 ≤ id / 16) (xs : List (List AV)) (hlen : ∀ x ∈ xs, x.length = ps.size) (hs : SOK S.P g caps (only q σ) xs) (I : List (List AV) → Store → Prop) (h0 : I xs (killS q σ))
    (hround : ∀ x rest σ, I (x :: rest) σ → roundC (spR S b2 nm0) as body ps.toList (rQ nm0 Q (fadeE nm0 E) (I rest)) (fadeE nm0 E) x σ)
    (hend : ∀ σ, I [] σ → Q .normal (fadeE nm0 E) σ) : semC S (.rangeFunc f ps as body) Q E σ := by
  refine range_sound hrd hlow (codeOK_of _ hoA) (codeOK_of _ hoB) (fun p hp => ?_) hf q nm0 b2 hqc hqs hqn hnm hb2 xs hlen hs I h0 (fun x rest σ hI => ?_) hend
  · exact Nat.le_of_ble_eq_true (List.all_eq_true.1 hps p hp)
  · have := hround x rest σ hI
    exact awpC_of (spR_mono S b2 nm0) as (thenQ_mono (fun _ _ h => awpC_of (spR_mono S b2 nm0) body (fun _ _ _ h => h) h) fun _ _ _ h => h) this

/-- An iterator's contract, from what is reckoned of its text. -/
theorem sok_of {P : Program} {f : FuncId} {fn : Func} {c : Code} {args : List AV} {σ : Store} {xs : List (List AV)} (hf : P.funcs[f]? = some fn) (hb : fn.body = some c) (hok : fnQ P fn c = true) (hmo : P.follows .mixedOrders = true)
    (hlen : args.length < fn.ntmps) (hxs : AV.namesL allB (xs.map .tup) = false) (hres : fn.results = #[])
    (h : ∀ l, awpC (spY P f fn.ntmps l) c (fun e => match e with | .normal => fun E _ => E fn.ntmps = .tup [] ∨ E fn.ntmps = .any | .ret => fun E _ => E fn.ntmps = .tup [] ∨ E fn.ntmps = .any | _ => fun _ _ => False) (upd (initE (.yld l :: args)) fn.ntmps (.tup (xs.map .tup))) σ) : SOK P f args σ xs := by
  refine sok_of_awp hf hb (fnOK_of hok) hmo hlen hxs fun l => awpC_of (spY_mono P f fn.ntmps l) c (fun e E σ hk => ?_) (h l)
  cases e <;> first | exact hk.elim | (simp only [retG, hres]; exact hk)

section
variable (P : Program) (f N l : Nat) (S : Sp) (b2 : Nat) (nm0 : Nat → Bool)
@[go_sem] theorem spY_P : (spY P f N l).P = P := rfl
@[go_sem] theorem spY_b : (spY P f N l).b = 131072 * (f + 1) := rfl
@[go_sem] theorem spY_N : (spY P f N l).N = N := rfl
@[go_sem] theorem spY_pin (id : Nat) : (spY P f N l).pin id = false := rfl
@[go_sem] theorem spY_yl : (spY P f N l).yl = l := rfl
@[go_sem] theorem spY_Y : (spY P f N l).Y = seqY := rfl
@[go_sem] theorem spR_P : (spR S b2 nm0).P = S.P := rfl
@[go_sem] theorem spR_b : (spR S b2 nm0).b = b2 := rfl
@[go_sem] theorem spR_N : (spR S b2 nm0).N = S.N := rfl
@[go_sem] theorem spR_pin : (spR S b2 nm0).pin = nm0 := rfl
end
@[go_sem] theorem seqY_cons (args x rest : List AV) (K : AV → AV → Prop) : seqY args (.tup (.tup x :: rest)) K = (args = x ∧ K (.v (.bool true)) (.tup rest) ∧ K (.v (.bool false)) .any) := rfl

/-! ### Ranges, with lists of names -/
def inI (l : List Nat) : Nat → Bool := fun i => l.contains i
@[go_sem] theorem inI_at (l : List Nat) (i : Nat) : inI l i = l.contains i := rfl
def ofI (l : List Nat) : Nat → Bool := fun i => !inI l i
@[go_sem] theorem ofI_at (l : List Nat) (i : Nat) : ofI l i = !inI l i := rfl
def namesO (p : Nat → Bool) (o : Option Blk) : Bool := match o with | some k => AV.namesL p k.es | none => false
@[go_sem] theorem namesO_some (p : Nat → Bool) (k : Blk) : namesO p (some k) = AV.namesL p k.es := rfl
@[go_sem] theorem namesO_none (p : Nat → Bool) : namesO p none = false := rfl
def namesQ (p : Nat → Bool) (σ : Store) : List Nat → Prop
  | [] => True
  | id :: l => namesO p (σ id) = false ∧ namesQ p σ l
@[go_sem] theorem namesQ_nil (p : Nat → Bool) (σ : Store) : namesQ p σ [] = True := rfl
@[go_sem] theorem namesQ_cons (p : Nat → Bool) (σ : Store) (id : Nat) (l : List Nat) : namesQ p σ (id :: l) = (namesO p (σ id) = false ∧ namesQ p σ l) := rfl
theorem namesQ_at {p : Nat → Bool} {σ : Store} : ∀ {l : List Nat}, namesQ p σ l → ∀ id ∈ l, namesO p (σ id) = false
  | [], _, _, h => by cases h
  | a :: l, h, id, hm => by
    rcases List.mem_cons.1 hm with rfl | hm
    · exact h.1
    · exact namesQ_at h.2 id hm
def fits2 (qs ns : List Nat) (b2 : Nat) : Bool := (qs.all fun i => !ns.contains i) && ns.all fun i => Nat.blt (i / 16) b2
section
variable (nm : Nat → Bool)
@[go_sem] theorem fade_v (x : Value) : fade nm (.v x) = .v x := rfl
@[go_sem] theorem fade_sl (s : Nat) (es : List AV) : fade nm (.sl s es) = .sl s es := rfl
@[go_sem] theorem fade_pt (e : AV) (j : Nat) : fade nm (.pt e j) = .pt e j := rfl
@[go_sem] theorem fade_any : fade nm .any = .any := rfl
@[go_sem] theorem fade_mp (es : List AV) : fade nm (.mp es) = .mp es := rfl
@[go_sem] theorem fade_yld (l : Nat) : fade nm (.yld l) = .yld l := rfl
@[go_sem] theorem fade_ownA (id s i n : Nat) : fade nm (.own id s i n) = .any := by
  unfold fade; simp only [AV.kill, AV.namesB, AV.dk]; by_cases h : nm id = true <;> simp [h, AV.ownB]
@[go_sem] theorem fade_ptr (id s i j : Nat) : fade nm (.ptr id s i j) = if nm id = true then .ptr id s i j else .any := by
  unfold fade; simp only [AV.kill, AV.namesB, AV.dk]; by_cases h : nm id = true <;> simp [h, AV.ownB]
theorem fade_free {a : AV} (h : AV.namesB allB a = false) : fade nm a = a := fade_nameless fun p => names_all h p
@[go_sem] theorem fadeE_at (E : Env) (t : Nat) : fadeE nm E t = fade nm (E t) := rfl
end
@[go_sem] theorem setPs_nil (E : Env) (x : List AV) : setPs E [] x = E := by simp [setPs]
@[go_sem] theorem setPs_cons (E : Env) (p : Nat) (ps : List Nat) (a : AV) (x : List AV) : setPs E (p :: ps) (a :: x) = setPs (upd E p a) ps x := rfl
@[go_sem] theorem roundC_eq (S : Sp) (as body : Code) (ps : List Nat) (R : Exit → Env → Store → Prop) (E : Env) (x : List AV) (σ : Store) : roundC S as body ps R E x σ = awpC S as (thenQ (awpC S body R) failQ) (setPs E ps x) σ := rfl
/-- A round ends: what may be forgotten, is forgotten. -/
@[go_sem ↓] theorem rQ_normal (nm : Nat → Bool) (Q : Exit → Env → Store → Prop) (E0 : Env) (I : Store → Prop) (E : Env) (σ : Store) : rQ nm Q E0 I .normal E σ = ∃ p : Nat → Bool, (∀ id, nm id = true → p id = false) ∧ I (killS p σ) := rfl
theorem round_mk {nm : Nat → Bool} {I : Store → Prop} {σ : Store} (h : I σ) : ∃ p : Nat → Bool, (∀ id, nm id = true → p id = false) ∧ I (killS p σ) :=
  ⟨inL [], fun id _ => by simp [inL], by rw [killS_nil]; exact h⟩
@[go_sem ↓] theorem rQ_ret (nm : Nat → Bool) (Q : Exit → Env → Store → Prop) (E0 : Env) (I : Store → Prop) (E : Env) (σ : Store) : rQ nm Q E0 I .ret E σ = ∃ p : Nat → Bool, (∀ id, nm id = true → p id = false) ∧ Q .ret E0 (killS p σ) := rfl
@[go_sem ↓] theorem rQ_exit (nm : Nat → Bool) (Q : Exit → Env → Store → Prop) (E0 : Env) (I : Store → Prop) (i : Nat) (E : Env) (σ : Store) : rQ nm Q E0 I (.exit i) E σ = ∃ p : Nat → Bool, (∀ id, nm id = true → p id = false) ∧ Q (.exit i) E0 (killS p σ) := rfl

/-- **A range over a function whose iterator's contract is known.** 'qs': the blocks that the iterator takes; 'ns': the blocks whose names the rounds know. -/
theorem range_mk {S : Sp} {f : Operand} {ps : Array Tmp} {as body : Code} {Q : Exit → Env → Store → Prop} {E : Env} {σ : Store} {g : FuncId} {caps : List AV} (qs ns : List Nat) (b2 : Nat) (xs : List (List AV)) (I : List (List AV) → Store → Prop)
    (hf : ev E f = .clo g caps) (hs : SOK S.P g caps (only (inI qs) σ) xs) (hlen : ∀ x ∈ xs, x.length = ps.size)
    (hqc : AV.namesL (ofI qs) caps = false) (hqs : namesQ (ofI qs) σ qs)
    (h0 : I xs (killS (inI qs) σ))
    (hround : ∀ E0 : Env, (∀ t, E0 t = fade (inI ns) (E t)) → ∀ x rest σ, I (x :: rest) σ → roundC (spR S b2 (inI ns)) as body ps.toList (rQ (inI ns) Q E0 (I rest)) E0 x σ)
    (hend : ∀ E0 : Env, (∀ t, E0 t = fade (inI ns) (E t)) → ∀ σ, I [] σ → Q .normal E0 σ)
    (hfit : fits2 qs ns b2 = true := by kernel_rfl) (hpin : ∀ id, S.pin id = false := by intro id; rfl) (hrd : S.rd = false := by rfl) (hlow : Operand.low S.N f = true := by kernel_rfl)
    (hoA : codeQ S.P S.N as = true := by kernel_rfl) (hoB : codeQ S.P S.N body = true := by kernel_rfl) (hps : (ps.toList.all fun p => Nat.blt p S.N) = true := by kernel_rfl) : semC S (.rangeFunc f ps as body) Q E σ := by
  simp only [fits2, Bool.and_eq_true, List.all_eq_true] at hfit
  refine range_of hrd hlow hoA hoB hps hf (inI qs) (inI ns) b2 hqc (fun id k hk hq => ?_) (fun id hq => ?_) (fun id hp => ?_) (fun id hn => ?_) xs hlen hs I h0 (fun x rest σ hI => hround _ (fun _ => rfl) x rest σ hI) (hend _ fun _ => rfl)
  · have := namesQ_at hqs id (by simpa [inI] using hq)
    rw [hk] at this; exact this
  · have := hfit.1 id (by simpa [inI] using hq)
    simpa [inI] using this
  · rw [hpin] at hp; cases hp
  · exact .inl (Nat.le_of_ble_eq_true (hfit.2 id (by simpa [inI] using hn)))
theorem awpC_range {S : Sp} {f : Operand} {ps : Array Tmp} {as body : Code} {Q : Exit → Env → Store → Prop} {E : Env} {σ : Store} (h : semC S (.rangeFunc f ps as body) Q E σ) : awpC S (.rangeFunc f ps as body) Q E σ := by simpa only [awpC] using h
@[go_sem] theorem only_at (q : Nat → Bool) (σ : Store) (id : Nat) : only q σ id = if q id = true then σ id else none := rfl
end Go.Vai

/- A heap-free account of the walk, fourth part -/
import Derived.Test.YtnpbhgeffapojaaGreatDoorKC
import Derived.ProofKit
import Derived.OpenShut
import Derived.KernelRfl
import Derived.MapKept
set_option linter.all false
namespace Go.Vai
open Go.RowKit
theorem Je1 {o : Option AV} {K K' : AV -> Prop} (hK : ∀ v, K v -> K' v) (h : optV o K) : optV o K' := by
  unfold optV at h ⊢
  repeat' (first | exact h.elim | exact hK _ h | exact ⟨h.1, hK _ h.2⟩ | (split at h <;> try simp only [*]))
theorem JhW {A : Prop} {o : Option AV} {K K' : AV -> Prop} (hK : ∀ v, K v -> K' v) (h : Jhz A o K) : Jhz A o K' := by
  unfold Jhz at h ⊢
  repeat' (first | exact h.elim | exact hK _ h | exact ⟨h.1, hK _ h.2⟩ | (split at h <;> try simp only [*]))
theorem JjT {A : Prop} {o : Option UInt8} {K K' : AV -> Prop} (hK : ∀ v, K v -> K' v) (h : optU A o K) : optU A o K' := by
  unfold optU at h ⊢
  repeat' (first | exact h.elim | exact hK _ h | exact ⟨h.1, hK _ h.2⟩ | (split at h <;> try simp only [*]))
theorem Jjm {op : BinOp} {o : Option Bool} {K K' : AV -> Prop} (hK : ∀ v, K v -> K' v) (h : eqlC op o K) : eqlC op o K' := by
  unfold eqlC at h ⊢
  repeat' (first | exact h.elim | exact hK _ h | exact ⟨h.1, hK _ h.2⟩ | (split at h <;> try simp only [*]))
theorem Ji6 {op : BinOp} {q : Option (List Nat)} {cs ds : List AV} {K K' : AV -> Prop} (hK : ∀ v, K v -> K' v) (h : aggC op q cs ds K) : aggC op q cs ds K' := by
  unfold aggC at h ⊢
  repeat' (first | exact h.elim | exact hK _ h | exact ⟨h.1, hK _ h.2⟩ | exact Jjm hK h | exact ⟨h.1, Jjm hK h.2⟩ | (split at h <;> try simp only [*]))
theorem JjB {op : BinOp} {k : IntKind} {m : Int} {k' : IntKind} {n : Int} {K K' : AV -> Prop} (hK : ∀ v, K v -> K' v) (h : intC op k m k' n K) : intC op k m k' n K' := by
  unfold intC at h ⊢
  repeat' (first | exact h.elim | exact hK _ h | exact ⟨h.1, hK _ h.2⟩ | (split at h <;> try simp only [*]))
theorem Jkc {op : BinOp} {a b : ByteArray} {K K' : AV -> Prop} (hK : ∀ v, K v -> K' v) (h : strC op a b K) : strC op a b K' := by
  unfold strC at h ⊢
  repeat' (first | exact h.elim | exact hK _ h | exact ⟨h.1, hK _ h.2⟩ | (split at h <;> try simp only [*]))
theorem JhT {op : BinOp} {u : AV} {q : Option TypeId} {K K' : AV -> Prop} (hK : ∀ v, K v -> K' v) (h : Jeu op u q K) : Jeu op u q K' := by
  unfold Jeu at h ⊢
  repeat' (first | exact h.elim | exact hK _ h | exact ⟨h.1, hK _ h.2⟩ | (split at h <;> try simp only [*]))
theorem JnU {P : Program} {op : BinOp} {t : TypeId} {a b : AV} {K K' : AV -> Prop} (hK : ∀ v, K v -> K' v) (h : binC P op t a b K) : binC P op t a b K' := by
  unfold binC at h ⊢
  repeat' (first | exact h.elim | exact hK _ h | exact ⟨h.1, hK _ h.2⟩ | exact JhT hK h | exact Jkc hK h | exact JjB hK h | exact Ji6 hK h | exact ⟨h.1, JhT hK h.2⟩ | exact ⟨h.1, Jkc hK h.2⟩ | exact ⟨h.1, JjB hK h.2⟩ | exact ⟨h.1, Ji6 hK h.2⟩ | (split at h <;> try simp only [*]))
theorem JhX {q : Option Bool} {s : Nat} {cs : List AV} {off : Nat} {K K' : AV -> Prop} (hK : ∀ v, K v -> K' v) (h : JjU q s cs off K) : JjU q s cs off K' := by
  unfold JjU at h ⊢
  repeat' (first | exact h.elim | exact hK _ h | exact ⟨h.1, hK _ h.2⟩ | exact Je1 hK h | exact ⟨h.1, Je1 hK h.2⟩ | (split at h <;> try simp only [*]))
theorem JbE {P : Program} {t : TypeId} {cs : List AV} {off : Nat} {K K' : AV -> Prop} (hK : ∀ v, K v -> K' v) (h : Jez P t cs off K) : Jez P t cs off K' := by
  unfold Jez at h ⊢
  repeat' (first | exact h.elim | exact hK _ h | exact ⟨h.1, hK _ h.2⟩ | exact JhX hK h | exact ⟨h.1, JhX hK h.2⟩ | (split at h <;> try simp only [*]))
theorem JhO {P : Program} {t : TypeId} {o : Option AV} {j : Nat} {K K' : AV -> Prop} (hK : ∀ v, K v -> K' v) (h : Jhv P t o j K) : Jhv P t o j K' := by
  unfold Jhv at h ⊢
  repeat' (first | exact h.elim | exact hK _ h | exact ⟨h.1, hK _ h.2⟩ | exact JbE hK h | exact ⟨h.1, JbE hK h.2⟩ | (split at h <;> try simp only [*]))
theorem JhN {P : Program} {t : TypeId} {o : Option Blk} {sz i j : Nat} {K K' : AV -> Prop} (hK : ∀ v, K v -> K' v) (h : JkR P t o sz i j K) : JkR P t o sz i j K' := by
  unfold JkR at h ⊢
  repeat' (first | exact h.elim | exact hK _ h | exact ⟨h.1, hK _ h.2⟩ | exact JhO hK h | exact ⟨h.1, JhO hK h.2⟩ | (split at h <;> try simp only [*]))
theorem Jm0 {P : Program} {σ : Jac} {t : TypeId} {a : AV} {K K' : AV -> Prop} (hK : ∀ v, K v -> K' v) (h : JgP P σ t a K) : JgP P σ t a K' := by
  unfold JgP at h ⊢
  repeat' (first | exact h.elim | exact hK _ h | exact ⟨h.1, hK _ h.2⟩ | exact JhN hK h | exact JbE hK h | exact ⟨h.1, JhN hK h.2⟩ | exact ⟨h.1, JbE hK h.2⟩ | (split at h <;> try simp only [*]))
theorem JjN {a : AV} {K K' : AV -> Prop} (hK : ∀ v, K v -> K' v) (h : Jdg a K) : Jdg a K' := by
  unfold Jdg at h ⊢
  repeat' (first | exact h.elim | exact hK _ h | exact ⟨h.1, hK _ h.2⟩ | (split at h <;> try simp only [*]))
theorem Jna {c a b : AV} {K K' : AV -> Prop} (hK : ∀ v, K v -> K' v) (h : Jad c a b K) : Jad c a b K' := by
  unfold Jad at h ⊢
  repeat' (first | exact h.elim | exact hK _ h | exact ⟨h.1, hK _ h.2⟩ | (split at h <;> try simp only [*]))
theorem JhG {o : Option (List AV)} {K K' : AV -> Prop} (hK : ∀ v, K v -> K' v) (h : Jht o K) : Jht o K' := by
  unfold Jht at h ⊢
  repeat' (first | exact h.elim | exact hK _ h | exact ⟨h.1, hK _ h.2⟩ | (split at h <;> try simp only [*]))
theorem Jgu {P : Program} {z : AV} {q : Option (List (Nat × TypeId))} {r : Option (Nat × TypeId)} {ps : List (Nat × AV)} {K K' : AV -> Prop} (hK : ∀ v, K v -> K' v) (h : JfO P z q r ps K) : JfO P z q r ps K' := by
  unfold JfO at h ⊢
  repeat' (first | exact h.elim | exact hK _ h | exact ⟨h.1, hK _ h.2⟩ | exact JhG hK h | exact ⟨h.1, JhG hK h.2⟩ | (split at h <;> try simp only [*]))
theorem Jks {P : Program} {z : Option AV} {q : Option (List (Nat × TypeId))} {r : Option (Nat × TypeId)} {ps : List (Nat × AV)} {K K' : AV -> Prop} (hK : ∀ v, K v -> K' v) (h : JfP P z q r ps K) : JfP P z q r ps K' := by
  unfold JfP at h ⊢
  repeat' (first | exact h.elim | exact hK _ h | exact ⟨h.1, hK _ h.2⟩ | exact Jgu hK h | exact ⟨h.1, Jgu hK h.2⟩ | (split at h <;> try simp only [*]))
theorem JrX {op : UnOp} {a : AV} {K K' : AV -> Prop} (hK : ∀ v, K v -> K' v) (h : unC op a K) : unC op a K' := by
  unfold unC at h ⊢
  repeat' (first | exact h.elim | exact hK _ h | exact ⟨h.1, hK _ h.2⟩ | (split at h <;> try simp only [*]))
theorem JmL {u : Bool} {q : Option IntKind} {a : AV} {K K' : AV -> Prop} (hK : ∀ v, K v -> K' v) (h : Jil u q a K) : Jil u q a K' := by
  unfold Jil at h ⊢
  repeat' (first | exact h.elim | exact hK _ h | exact ⟨h.1, hK _ h.2⟩ | (split at h <;> try simp only [*]))
theorem Jjq {P : Program} {o : Option (Nat × TypeId)} {a : AV} {K K' : AV -> Prop} (hK : ∀ v, K v -> K' v) (h : fldB P o a K) : fldB P o a K' := by
  unfold fldB at h ⊢
  repeat' (first | exact h.elim | exact hK _ h | exact ⟨h.1, hK _ h.2⟩ | exact JbE hK h | exact ⟨h.1, JbE hK h.2⟩ | (split at h <;> try simp only [*]))
theorem Jjr {P : Program} {q : Option (List (Nat × TypeId))} {f : Nat} {a : AV} {K K' : AV -> Prop} (hK : ∀ v, K v -> K' v) (h : fldC P q f a K) : fldC P q f a K' := by
  unfold fldC at h ⊢
  repeat' (first | exact h.elim | exact hK _ h | exact ⟨h.1, hK _ h.2⟩ | exact Jjq hK h | exact ⟨h.1, Jjq hK h.2⟩ | (split at h <;> try simp only [*]))
theorem Jjz {P : Program} {q : Option TypeId} {r : Option (Nat × TypeId)} {x : AV} {n : Int} {K K' : AV -> Prop} (hK : ∀ v, K v -> K' v) (h : idxP P q r x n K) : idxP P q r x n K' := by
  unfold idxP at h ⊢
  repeat' (first | exact h.elim | exact hK _ h | exact ⟨h.1, hK _ h.2⟩ | exact JhW hK h | exact ⟨h.1, JhW hK h.2⟩ | (split at h <;> try simp only [*]))
theorem Jix {P : Program} {t : TypeId} {x i : AV} {K K' : AV -> Prop} (hK : ∀ v, K v -> K' v) (h : JcC P t x i K) : JcC P t x i K' := by
  unfold JcC at h ⊢
  repeat' (first | exact h.elim | exact hK _ h | exact ⟨h.1, hK _ h.2⟩ | exact Jjz hK h | exact ⟨h.1, Jjz hK h.2⟩ | (split at h <;> try simp only [*]))
theorem Jjy {P : Program} {r : Option (Nat × TypeId)} {cs : List AV} {n : Int} {K K' : AV -> Prop} (hK : ∀ v, K v -> K' v) (h : idxG P r cs n K) : idxG P r cs n K' := by
  unfold idxG at h ⊢
  repeat' (first | exact h.elim | exact hK _ h | exact ⟨h.1, hK _ h.2⟩ | exact JbE hK h | exact ⟨h.1, JbE hK h.2⟩ | (split at h <;> try simp only [*]))
theorem JoJ {P : Program} {t : TypeId} {x i : AV} {K K' : AV -> Prop} (hK : ∀ v, K v -> K' v) (h : idxC P t x i K) : idxC P t x i K' := by
  unfold idxC at h ⊢
  repeat' (first | exact h.elim | exact hK _ h | exact ⟨h.1, hK _ h.2⟩ | exact Jjy hK h | exact JjT hK h | exact ⟨h.1, Jjy hK h.2⟩ | exact ⟨h.1, JjT hK h.2⟩ | (split at h <;> try simp only [*]))
theorem Jod {P : Program} {q : Option TypeId} {u : Bool} {x lo hi : AV} {K K' : AV -> Prop} (hK : ∀ v, K v -> K' v) (h : cutE P q u x lo hi K) : cutE P q u x lo hi K' := by
  unfold cutE at h ⊢
  repeat' (first | exact h.elim | exact hK _ h | exact ⟨h.1, hK _ h.2⟩ | (split at h <;> try simp only [*]))
theorem Jo1 {u : Bool} {q : Option TypeId} {x : AV} {K K' : AV -> Prop} (hK : ∀ v, K v -> K' v) (h : lenC u q x K) : lenC u q x K' := by
  unfold lenC at h ⊢
  repeat' (first | exact h.elim | exact hK _ h | exact ⟨h.1, hK _ h.2⟩ | (split at h <;> try simp only [*]))
theorem Jo7 {l : List AV} {K K' : AV -> Prop} (hK : ∀ v, K v -> K' v) (h : maxC l K) : maxC l K' := by
  unfold maxC at h ⊢
  repeat' (first | exact h.elim | exact hK _ h | exact ⟨h.1, hK _ h.2⟩ | (split at h <;> try simp only [*]))
theorem Jo9 {l : List AV} {K K' : AV -> Prop} (hK : ∀ v, K v -> K' v) (h : minC l K) : minC l K' := by
  unfold minC at h ⊢
  repeat' (first | exact h.elim | exact hK _ h | exact ⟨h.1, hK _ h.2⟩ | (split at h <;> try simp only [*]))
theorem JpO {l : List AV} {K K' : AV -> Prop} (hK : ∀ v, K v -> K' v) (h : sldC l K) : sldC l K' := by
  unfold sldC at h ⊢
  repeat' (first | exact h.elim | exact hK _ h | exact ⟨h.1, hK _ h.2⟩ | (split at h <;> try simp only [*]))
theorem Joq {x : AV} {i : Nat} {K K' : AV -> Prop} (hK : ∀ v, K v -> K' v) (h : extC x i K) : extC x i K' := by
  unfold extC at h ⊢
  repeat' (first | exact h.elim | exact hK _ h | exact ⟨h.1, hK _ h.2⟩ | exact Je1 hK h | exact ⟨h.1, Je1 hK h.2⟩ | (split at h <;> try simp only [*]))
theorem JgW {P : Program} {d : Nat} {q : Option TypeId} {K K' : AV -> List (Nat × Blk) -> Prop} (hK : ∀ v l, K v l -> K' v l) (h : nilC P d q K) : nilC P d q K' := by
  unfold nilC at h ⊢
  repeat' (first | exact h.elim | exact hK _ _ h | exact ⟨h.1, hK _ _ h.2⟩ | (split at h <;> try simp only [*]))
theorem Jgm {P : Program} {d : Nat} {t : TypeId} {q : Option TypeId} {s : Nat} {z : Option AV} {K K' : AV -> List (Nat × Blk) -> Prop} (hK : ∀ v l, K v l -> K' v l) (h : JfM P d t q s z K) : JfM P d t q s z K' := by
  unfold JfM at h ⊢
  repeat' (first | exact h.elim | exact hK _ _ h | exact ⟨h.1, hK _ _ h.2⟩ | (split at h <;> try simp only [*]))
theorem Jjf {d : Nat} {t : TypeId} {s : Nat} {x : AV} {K K' : AV -> List (Nat × Blk) -> Prop} (hK : ∀ v l, K v l -> K' v l) (h : boxC d t s x K) : boxC d t s x K' := by
  unfold boxC at h ⊢
  repeat' (first | exact h.elim | exact hK _ _ h | exact ⟨h.1, hK _ _ h.2⟩ | (split at h <;> try simp only [*]))
theorem JfN {P : Program} {d : Nat} {q : Option TypeId} {len : Nat} {is : List Nat} {xs : List AV} {K K' : AV -> List (Nat × Blk) -> Prop} (hK : ∀ v l, K v l -> K' v l) (h : Jen P d q len is xs K) : Jen P d q len is xs K' := by
  unfold Jen at h ⊢
  repeat' (first | exact h.elim | exact hK _ _ h | exact ⟨h.1, hK _ _ h.2⟩ | (split at h <;> try simp only [*]))
theorem JfT {P : Program} {d : Nat} {q : Option TypeId} {l c : AV} {K K' : AV -> List (Nat × Blk) -> Prop} (hK : ∀ v l, K v l -> K' v l) (h : Jet P d q l c K) : Jet P d q l c K' := by
  unfold Jet at h ⊢
  repeat' (first | exact h.elim | exact hK _ _ h | exact ⟨h.1, hK _ _ h.2⟩ | (split at h <;> try simp only [*]))
theorem Jpc {P : Program} {d : Nat} {op : Op} {ty : TypeId} {E : Env} {K K' : AV -> List (Nat × Blk) -> Prop} (hK : ∀ v l, K v l -> K' v l) (h : newC P d op ty E K) : newC P d op ty E K' := by
  unfold newC at h ⊢
  repeat' (first | exact h.elim | exact hK _ _ h | exact ⟨h.1, hK _ _ h.2⟩ | exact JfT hK h | exact JfN hK h | exact Jjf hK h | exact Jgm hK h | exact JgW hK h | exact ⟨h.1, JfT hK h.2⟩ | exact ⟨h.1, JfN hK h.2⟩ | exact ⟨h.1, Jjf hK h.2⟩ | exact ⟨h.1, Jgm hK h.2⟩ | exact ⟨h.1, JgW hK h.2⟩ | (split at h <;> try simp only [*]))
theorem Ji7 {P : Program} {q : Option TypeId} {s : AV} {ok : Nat -> Option Blk} {src : Option (Nat × List AV)} {K K' : Nat -> Nat -> Nat -> Blk -> Prop} (hK : ∀ a b c d, K a b c d -> K' a b c d) (h : appA P q s ok src K) : appA P q s ok src K' := by
  unfold appA at h ⊢
  repeat' (first | exact h.elim | exact hK _ _ _ _ h | exact ⟨h.1, hK _ _ _ _ h.2⟩ | (split at h <;> try simp only [*]))
theorem JnM {P : Program} {args : List Operand} {ats : List TypeId} {E : Env} {σ : Jac} {K K' : Nat -> Nat -> Nat -> Blk -> Prop} (hK : ∀ a b c d, K a b c d -> K' a b c d) (h : appC P args ats E σ K) : appC P args ats E σ K' := by
  unfold appC at h ⊢
  repeat' (first | exact h.elim | exact hK _ _ _ _ h | exact ⟨h.1, hK _ _ _ _ h.2⟩ | exact Ji7 hK h | exact ⟨h.1, Ji7 hK h.2⟩ | (split at h <;> try simp only [*]))
theorem Jkb {P : Program} {t : TypeId} {k : Blk} {o : Option AV} {id sz i j : Nat} {v : AV} {E : Env} {σ : Jac} {K K' : Env -> Jac -> Prop} (hK : ∀ E σ, K E σ -> K' E σ) (h : stoE P t k o id sz i j v K E σ) : stoE P t k o id sz i j v K' E σ := by
  unfold stoE at h ⊢
  repeat' (first | exact h.elim | exact hK _ _ h | exact ⟨h.1, hK _ _ h.2⟩ | (split at h <;> try simp only [*]))
theorem Jka {P : Program} {t : TypeId} {o : Option Blk} {id sz i j : Nat} {v : AV} {E : Env} {σ : Jac} {K K' : Env -> Jac -> Prop} (hK : ∀ E σ, K E σ -> K' E σ) (h : stoB P t o id sz i j v K E σ) : stoB P t o id sz i j v K' E σ := by
  unfold stoB at h ⊢
  repeat' (first | exact h.elim | exact hK _ _ h | exact ⟨h.1, hK _ _ h.2⟩ | exact Jkb hK h | exact ⟨h.1, Jkb hK h.2⟩ | (split at h <;> try simp only [*]))
theorem Jli {P : Program} {t : TypeId} {x v : AV} {dst : Option Nat} {E : Env} {σ : Jac} {K K' : Env -> Jac -> Prop} (hK : ∀ E σ, K E σ -> K' E σ) (h : Jhk P t x v dst K E σ) : Jhk P t x v dst K' E σ := by
  unfold Jhk at h ⊢
  repeat' (first | exact h.elim | exact hK _ _ h | exact ⟨h.1, hK _ _ h.2⟩ | exact Jka hK h | exact ⟨h.1, Jka hK h.2⟩ | (split at h <;> try simp only [*]))
theorem Jne {P : Program} {op : Op} {E : Env} {σ : Jac} {K K' : AV -> Prop} (hK : ∀ v, K v -> K' v) (h : Jk0 P op E σ K) : Jk0 P op E σ K' := by
  unfold Jk0 at h ⊢
  split at h
  . exact hK _ h
  . exact hK _ h
  . exact Jna hK h
  . exact Jm0 hK h
  . exact JjN hK h
  . exact JnU hK h
  . exact Jks hK h
  . exact JrX hK h
  . exact JmL hK h
  . unfold JcW at h ⊢
    split at h
    . exact ⟨h.1, hK _ h.2⟩
    . exact ⟨h.1, hK _ h.2⟩
  . exact ⟨h.1, Jjr hK h.2⟩
  . exact ⟨h.1, Jjr hK h.2⟩
  . exact Jix hK h
  . exact JoJ hK h
  . exact Joq hK h
  . exact Jod hK h
  . split at h
    . rename_i h1 h2
      exact Jo1 hK h
    . exact h.elim
  . exact Jo7 hK h
  . exact Jo9 hK h
  . exact JpO hK h
  . exact h.elim
section
variable {S : Sp} {K K' Kb Kb' : Env -> Jac -> Prop} {E : Env} {σ : Jac}
theorem JmF (hK : ∀ E σ, K E σ -> K' E σ) {kd bi : Bool} {nm g : Nat} {named : Bool} {args : List AV} {dst : Option Nat} {L L' : Prop} (hL : L -> L') (h : Jkt S kd bi nm g named args dst K E σ L) : Jkt S kd bi nm g named args dst K' E σ L' := by
  rcases h with ⟨r, h1, h2, h3, h4, h5⟩ | ⟨h1, h2⟩
  . exact .inl ⟨r, h1, h2, h3, h4, hK _ _ h5⟩
  . exact .inr ⟨h1, hL h2⟩
theorem JmG (hY : Jc6 S) (hK : ∀ E σ, K E σ -> K' E σ) (hKb : ∀ E σ, Kb E σ -> Kb' E σ) {kd bi : Bool} {nm : Nat} {f : AV} {args : List AV} {dst : Option Nat} {E' : Env} {σ' : Jac} {args' : List AV} {f' : AV} {L L' : Prop} (hL : L -> L')
    (h : Jjg S kd bi nm f args dst K Kb E σ E' σ' args' f' L) : Jjg S kd bi nm f args dst K' Kb' E σ E' σ' args' f' L' := by
  unfold Jjg at h ⊢
  split at h
  . exact ⟨h.1, hY _ _ _ _ (fun v g hk => hKb _ _ hk) h.2⟩
  . split at h
    . unfold JmX at h ⊢
      split at h
      . exact JmF hK hL h
      . exact ⟨h.1, hL h.2⟩
    . exact h.elim
theorem JeX (hK : ∀ E σ, K E σ -> K' E σ) {kd : Bool} {dst : Option Nat} {op : Op} {ty : TypeId} (h : newA S kd dst op ty K E σ) : newA S kd dst op ty K' E σ := by
  unfold newA at h ⊢
  split at h
  . exact Jpc (fun v l hk => hK _ _ hk) h
  . exact h.elim
theorem JhR (hK : ∀ E σ, K E σ -> K' E σ) {kd : Bool} {dst : Option Nat} {ty : TypeId} {x : Operand} (h : JkV S kd dst ty x K E σ) : JkV S kd dst ty x K' E σ := by
  unfold JkV at h ⊢
  split at h
  . split at h
    . rename_i e he
      split at h
      . exact JgW (fun v l hk => hK _ _ hk) h
      . exact h.elim
    . rename_i he
      exact hK _ _ h
  . exact hK _ _ h
theorem Jj1 (hK : ∀ E σ, K E σ -> K' E σ) {dst : Option Nat} {op : Op} {ty : TypeId} (h : semD S dst op ty K E σ) : semD S dst op ty K' E σ := fun pos after guard => Jfa hK (h pos after guard)
theorem Jgo (hY : Jc6 S) (hK : ∀ E σ, K E σ -> K' E σ) (hKb : ∀ E σ, Kb E σ -> Kb' E σ) {kd bi : Bool} {dst : Option Nat} {op : Op} {ty : TypeId} (h : aopC S kd bi dst op ty K Kb E σ) : aopC S kd bi dst op ty K' Kb' E σ := by
  unfold aopC at h ⊢
  split at h
  . exact JhR hK h
  . exact JhR hK h
  . exact JeX hK h
  . exact JeX hK h
  . exact JeX hK h
  . exact JeX hK h
  . exact JmG hY hK hKb (Jj1 hKb) h
  . split at h
    . exact JnM (fun a b c d hk => ⟨hk.1, hKb _ _ hk.2⟩) h
    . exact h.elim
  . exact Jli hKb h
  . unfold Jnh at h ⊢
    split at h
    . exact Jne (fun v hk => hK _ _ hk) h
    . exact Jj1 hKb h
    . exact h.elim
theorem JkM (hY : Jc6 S) (hK : ∀ E σ, K E σ -> K' E σ) (hKb : ∀ E σ, Kb E σ -> Kb' E σ) {kd bi : Bool} {o : Option Nat} {want : Bool} {dst : Option Nat} {op : Op} {ty : TypeId} (h : JfS S kd bi o want dst op ty K Kb E σ) : JfS S kd bi o want dst op ty K' Kb' E σ := by
  unfold JfS at h ⊢
  split at h
  . unfold JgI at h ⊢
    split at h
    . exact ⟨fun e => Jgo hY hK hKb (h.1 e), fun e => hK _ _ (h.2 e)⟩
    . exact ⟨fun e => hK _ _ (h.1 e), fun e => Jgo hY hK hKb (h.2 e)⟩
    . exact hK _ _ h
    . exact h.elim
  . exact h.elim
theorem JoD (hY : Jc6 S) (hK : ∀ E σ, K E σ -> K' E σ) (hKb : ∀ E σ, Kb E σ -> Kb' E σ) {kd bi : Bool} {ops : List Oper} {o : Oper} (h : gopC S kd bi ops o K Kb E σ) : gopC S kd bi ops o K' Kb' E σ := by
  unfold gopC at h ⊢
  split at h
  . exact Jgo hY hK hKb h
  . exact JkM hY hK hKb h
theorem Jf2 (hK : ∀ E σ, K E σ -> K' E σ) {dr : Bool} {l : List Oper} (E : Env) (σ : Jac) (h : Jcv S dr l K E σ) : Jcv S dr l K' E σ := by
  rw [Jcg] at h ⊢; exact JbY hK E σ h
end
theorem Jg2 {S : Sp} (hY : Jc6 S) {dr : Bool} {ops : Array Oper} : ∀ (l : List Oper) (i : Nat) {K K' : Env -> Jac -> Prop} {E : Env} {σ : Jac}, (∀ E σ, K E σ -> K' E σ) -> opsC S dr ops i l K E σ -> opsC S dr ops i l K' E σ
  | [], _, _, _, _, _, hK, h => hK _ _ h
  | _ :: l, i, _, _, _, _, hK, h => JoD hY (fun _ _ hk => Jg2 hY l (i + 1) hK hk) (fun E σ hk => Jf2 (fun _ _ hk => Jg2 hY l (i + 1) hK hk) E σ hk) h
theorem Jbt {S : Sp} (hY : Jc6 S) : ∀ (c : Code) {Q Q' : Exit -> Env -> Jac -> Prop} {E : Env} {σ : Jac}, (∀ e E σ, Q e E σ -> Q' e E σ) -> awpC S c Q E σ -> awpC S c Q' E σ
  | .skip, Q, Q', E, σ, hQ, h => hQ .normal E σ h
  | .label _, Q, Q', E, σ, hQ, h => hQ .normal E σ h
  | .seq a b, Q, Q', E, σ, hQ, h => by
    simp only [awpC] at h ⊢
    exact Jbt hY a (JbF (fun _ _ h => Jbt hY b hQ h) hQ) h
  | .region id ops draw, Q, Q', E, σ, hQ, h => by
    simp only [awpC] at h ⊢; unfold regX at h ⊢
    split at h
    rotate_left
    . exact fun C H n R hR a w hs => h C H n R (fun e E σ a w hq hs => hR e E σ a w (hQ _ _ _ hq) hs) a w hs
    exact Jf2 (fun _ _ hk => Jg2 hY _ 0 (hQ .normal) hk) E σ h
  | .cond c x y, Q, Q', E, σ, hQ, h => by
    simp only [awpC] at h ⊢; unfold Job at h ⊢
    split at h
    . exact ⟨fun e => Jbt hY x hQ (h.1 e), fun e => Jbt hY y hQ (h.2 e)⟩
    . exact h.elim
  | .block id c, Q, Q', E, σ, hQ, h => by
    simp only [awpC] at h ⊢
    exact Jbt hY c (Jgs hQ) h
  | .scope c, Q, Q', E, σ, hQ, h => by
    simp only [awpC] at h ⊢
    exact Jbt hY c (Jhf hQ) h
  | .loop c, Q, Q', E, σ, hQ, h => by
    simp only [awpC] at h ⊢; obtain ⟨I, hI, hs⟩ := h
    exact ⟨I, hI, fun n E σ hi => Jbt hY c (JbF (fun _ _ hk => hk) hQ) (hs n E σ hi)⟩
  | .exit _, Q, Q', E, σ, hQ, h => hQ _ E σ h
  | .ret, Q, Q', E, σ, hQ, h => hQ .ret E σ h
  | .rangeFunc f ps as body, Q, Q', E, σ, hQ, h => fun C H n R hR a w hs => h C H n R (fun e E σ a w hq hs => hR e E σ a w (hQ _ _ _ hq) hs) a w hs
class Plain (S : Sp) : Prop where
  mono : Jc6 S
instance (P : Program) (f N : Nat) : Plain (spOf P f N) := ⟨fun _ _ _ _ _ hk => (show False from hk).elim⟩
theorem JbA {S : Sp} [hp : Plain S] {c : Prop} {a1 a2 b : Code} {Q : Exit -> Env -> Jac -> Prop} {E E' : Env} {σ : Jac} (J : Env -> Jac -> Prop) (h1 : c -> awpC S a1 (Jc4 J Q) E σ) (h2 : ¬ c -> awpC S a2 (Jc4 J Q) E' σ) (h3 : ∀ E σ, J E σ -> awpC S b Q E σ) :
    branch c (awpC S a1 (Jc4 (awpC S b Q) Q)) E (awpC S a2 (Jc4 (awpC S b Q) Q)) E' σ :=
  ⟨fun e => Jbt hp.mono a1 (JbF h3 fun _ _ _ h => h) (h1 e), fun e => Jbt hp.mono a2 (JbF h3 fun _ _ _ h => h) (h2 e)⟩
def JmN (id : Nat) (J : Env -> Jac -> Prop) (Q : Exit -> Env -> Jac -> Prop) : Exit -> Env -> Jac -> Prop
  | .exit i => if i = id then J else Q (.exit i)
  | e => Q e
@[go_sem ↓] theorem Jvs (id i : Nat) (J : Env -> Jac -> Prop) (Q : Exit -> Env -> Jac -> Prop) (E : Env) (σ : Jac) : JmN id J Q (.exit i) E σ = if i = id then J E σ else Q (.exit i) E σ := by simp only [JmN]; split <;> rfl
@[go_sem ↓] theorem JsA (id : Nat) (J : Env -> Jac -> Prop) (Q : Exit -> Env -> Jac -> Prop) (E : Env) (σ : Jac) : JmN id J Q .normal E σ = Q .normal E σ := rfl
@[go_sem ↓] theorem Jxl (id : Nat) (J : Env -> Jac -> Prop) (Q : Exit -> Env -> Jac -> Prop) (E : Env) (σ : Jac) : JmN id J Q .ret E σ = Q .ret E σ := rfl
theorem JjG {S : Sp} [hp : Plain S] {c : Code} {Q : Exit -> Env -> Jac -> Prop} {E : Env} {σ : Jac} (id : Nat) (J : Env -> Jac -> Prop) (h : Jo6 (awpC S c) (JmN id J Q) E σ) (h3 : ∀ E σ, J E σ -> Q (.exit id) E σ) : Jo6 (awpC S c) Q E σ := by
  obtain ⟨I, hI, hs⟩ := h
  refine ⟨I, hI, fun n E σ hi => Jbt hp.mono c (JbF (fun _ _ hk => hk) fun e E σ hk => ?_) (hs n E σ hi)⟩
  unfold JmN at hk
  split at hk
  . split at hk
    . rename_i i e; subst e; exact h3 _ _ hk
    . exact hk
  . exact hk
open Go.RowKit Go.ChangeShapes Go.WideShapes
variable {H : Type} {enc : TypeId × Value -> H} {P : Program} {w : World}
abbrev Here (w : World) : Nat -> Prop := fun b => b < w.heap.size
def Jic (w : World) (a : AV) (cs : List Value) : Prop :=
  a.cells.length = cs.length /\ ∀ (j : Nat) (c : AV) (y : Value), a.cells[j]? = some c -> cs[j]? = some y -> y.oneCell' = true /\ IRep w (Here w) c y
def Jb9 (P : Program) (enc : TypeId × Value -> H) (w : World) (t : TypeId) (p : AV -> Prop) : Prop :=
  (∃ g, tagg P t = some g /\ ∀ a, p a -> if g = true then (∃ cs, a = .agg cs) else a.cells = [a]) /\
  ∀ base sp held fuel cs x, DataW.trod enc P w base sp held fuel t cs = some x -> ∃ a, p a /\ Jic w a cs
theorem Jb9.mono {t : TypeId} {p q : AV -> Prop} (h : Jb9 P enc w t p) (hpq : ∀ a, p a -> q a) (hqp : ∀ a, q a -> p a) : Jb9 P enc w t q := by
  obtain ⟨⟨g, hg, hs⟩, h⟩ := h
  refine ⟨⟨g, hg, fun a ha => hs a (hqp a ha)⟩, fun base sp held fuel cs x hx => ?_⟩
  obtain ⟨a, ha, hc⟩ := h _ _ _ _ _ _ hx
  exact ⟨a, hpq a ha, hc⟩
theorem Jn2 (x : Value) (hx : x.oneCell' = true) : Jic w (.v x) [x] :=
  ⟨rfl, fun j c y hc hy => by
    cases j with
    | zero => simp at hc hy; subst hc; subst hy; exact ⟨hx, .v _⟩
    | succ j => simp at hc⟩
theorem Jpk {t : TypeId} {k : IntKind} (ht : P.underlying t = some (.int k)) : Jb9 P enc w t fun a => ∃ n, (Lit.int k n).wf = true /\ a = .v (.int k n) := by
  refine ⟨⟨false, by simp [tagg, ht], ?_⟩, fun base sp held fuel cs x h => ?_⟩
  . rintro a ⟨n, _, rfl⟩; rfl
  . cases fuel with
    | zero => simp [DataW.trod] at h
    | succ f =>
      unfold DataW.trod at h; rw [ht] at h
      split at h <;> simp_all
      rename_i k' n he
      obtain ⟨⟨rfl, hw⟩, _⟩ := h
      exact ⟨_, ⟨n, hw, rfl⟩, Jn2 _ rfl⟩
theorem Jkx {T : Type} {n : Nat} {p : Nat -> T -> Prop} (h : ∀ i, i < n -> ∃ x, p i x) : ∃ l : List T, l.length = n /\ ∀ i x, l[i]? = some x -> p i x := by
  induction n with
  | zero => exact ⟨[], rfl, fun i x hx => by simp at hx⟩
  | succ n ih =>
    obtain ⟨l, hl, hp⟩ := ih fun i hi => h i (by omega)
    obtain ⟨x, hx⟩ := h n (by omega)
    refine ⟨l ++ [x], by simp [hl], fun i y hy => ?_⟩
    by_cases hi : i < l.length
    . rw [L0m hi] at hy; exact hp i y hy
    . rw [L0o (by omega)] at hy
      have : i - l.length = 0 := by
        cases hh : i - l.length with
        | zero => rfl
        | succ k => rw [hh] at hy; simp at hy
      rw [this] at hy; simp at hy; subst hy
      have : i = n := by omega
      subst this; exact hx
theorem Jcr {T : Type} {t e : TypeId} {q : T -> Prop} {f : T -> AV} {sz : Nat} (ht : P.underlying t = some (.slice e)) (hs : P.cellsOf e = sz) (h0 : 0 < sz) (he : Jb9 P enc w e fun a => ∃ x, q x /\ a = f x) :
    Jb9 P enc w t fun a => ∃ l : List T, l.length <= maxLen /\ (∀ x ∈ l, q x) /\ a = .sl sz (l.map f) := by
  refine ⟨⟨false, by simp [tagg, ht], ?_⟩, fun base sp held fuel cs x h => ?_⟩
  . rintro a ⟨l, _, _, rfl⟩; rfl
  have single : ∀ (a : Option Addr) (n cap : Nat) (l : List T), IRep w (Here w) (.sl sz (l.map f)) (.slice a n cap) -> Jic w (.sl sz (l.map f)) [.slice a n cap] := fun a n cap l h =>
    ⟨rfl, fun j c y hc hy => by
      cases j with
      | zero => simp at hc hy; subst hc; subst hy; exact ⟨rfl, h⟩
      | succ j => simp at hc⟩
  rcases DataW.trod_slice ht h with ⟨rfl, _⟩ | ⟨a, len, cap, elems, rest, n, _, rfl, _, _, hl, hm, hlen, hel, _, _⟩
  . exact ⟨_, ⟨[], by simp, by simp, rfl⟩, single _ _ _ [] (.slnil ..)⟩
  . have hi : ∀ i, i < len -> ∃ x : T, q x /\ ∃ cs, (∀ j, j < sz -> w.cell? ((a.add (i * sz)).add j) = cs[j]?) /\ cs.length = sz /\ Jic w (f x) cs := fun i hi => by
      have hE := hel i hi; rw [hs] at hE
      obtain ⟨y, hy⟩ : ∃ y, elems[i]? = some y := ⟨_, L07 (by omega)⟩
      rw [hy] at hE
      obtain ⟨cs, hcs, htr⟩ := Option.bind_eq_some_iff.1 hE
      obtain ⟨a', ⟨x, hx, rfl⟩, hc⟩ := he.2 _ _ _ _ _ _ htr
      obtain ⟨_, h1, h2⟩ := World.cells?_some hcs
      exact ⟨x, hx, cs, h2, h1, hc⟩
    obtain ⟨l, hll, hp⟩ := Jkx hi
    refine ⟨_, ⟨l, by omega, fun x hx => ?_, rfl⟩, single _ _ _ l ?_⟩
    . obtain ⟨i, hi⟩ := L29 hx; exact (hp i x hi).1
    . by_cases hz : len = 0
      . have : l = [] := List.length_eq_zero_iff.1 (by omega)
        subst this; subst hz; exact .slnil ..
      . -- the first cell shows the address
        obtain ⟨x0, h0x⟩ : ∃ x, l[0]? = some x := ⟨_, L07 (by omega)⟩
        obtain ⟨_, cs0, hc0, hn0, _⟩ := hp 0 x0 h0x
        have hsp : a.spot = none /\ a.block < w.heap.size := by
          have h1 := hc0 0 h0
          rw [L07 (by omega)] at h1
          simp only [Nat.zero_mul, Addr.add, if_true] at h1; unfold World.cell? at h1
          split at h1
          . rename_i c u fr hh
            refine ⟨?_, (L0j.1 hh).1⟩
            split at h1
            . cases h1
            . rename_i hn; simpa using hn
          . cases h1
        obtain ⟨b, o, spot⟩ := a; obtain ⟨h1, h2⟩ := hsp
        simp only at h1 h2
        subst h1
        have hadd : ∀ i j, (Addr.add (Addr.add ⟨b, o, none⟩ (i * sz)) j) = ⟨b, o + i * sz + j, none⟩ := fun i j => by
          unfold Addr.add; by_cases hi : i * sz = 0 <;> by_cases hj : j = 0 <;> simp [hi, hj]
        have hcell : ∀ i j x, l[i]? = some x -> j < sz -> ∃ c, (f x).cells[j]? = some c /\ ∃ y, w.cell? ⟨b, o + i * sz + j, none⟩ = some y /\ y.oneCell' = true /\ IRep w (Here w) c y := fun i j x hx hj => by
          obtain ⟨_, cs, h1, h2, h3, h4⟩ := hp i x hx
          have h1 := h1 j hj
          rw [hadd, L07 (by omega)] at h1
          refine ⟨_, L07 (by omega), _, h1, ?_⟩
          exact h4 j _ _ (L07 (by omega)) (L07 (by omega))
        have hlm : (l.map f).length = len := by simp [hll]
        rw [<- hlm]
        refine .sl sz (l.map f) b o cap (fun i j => (w.cell? ⟨b, o + i * sz + j, none⟩).getD undef) h2 (by omega) (fun e he => ?_) (fun i j hi hj => ?_) fun i e j c hie hjc => ?_
        . obtain ⟨x, hx, rfl⟩ := L06.1 he
          obtain ⟨i, hi⟩ := L29 hx
          obtain ⟨_, cs, _, h2, h3, _⟩ := hp i x hi
          rw [h3, h2]
        . obtain ⟨c, _, y, hy, h1, _⟩ := hcell i j l[i] (L07 (by simpa using hi)) hj
          rw [hy]; exact ⟨rfl, h1⟩
        . rw [L03] at hie
          obtain ⟨x, hx, rfl⟩ := L0i.1 hie
          have hj : j < sz := by
            obtain ⟨_, cs, _, h2, h3, _⟩ := hp i x hx
            have := (L04.1 hjc).1; omega
          obtain ⟨c', hc', y, hy, _, hr⟩ := hcell i j x hx hj
          rw [hc'] at hjc; cases hjc
          rw [hy]; exact hr
def Jlz (P : Program) : Nat -> List (Nat × TypeId) -> Bool
  | _, [] => true
  | n, f :: r => f.1 == n && Jlz P (n + P.cellsOf f.2) r
def sumB (P : Program) : List (Nat × TypeId) -> Nat
  | [] => 0
  | f :: r => P.cellsOf f.2 + sumB P r
def AllP : List (AV -> Prop) -> List AV -> Prop
  | [], [] => True
  | p :: ps, a :: as => p a /\ AllP ps as
  | _, _ => False
def JeG (P : Program) (enc : TypeId × Value -> H) (w : World) : List TypeId -> List (AV -> Prop) -> Prop
  | [], [] => True
  | t :: ts, p :: ps => Jb9 P enc w t p /\ JeG P enc w ts ps
  | _, _ => False
theorem JfU : ∀ (fs : List (Nat × TypeId)) (ps : List (AV -> Prop)) (n : Nat) (cs : List Value), JeG P enc w (fs.map (·.2)) ps -> Jlz P n fs = true -> n + sumB P fs = cs.length ->
    (∀ f ∈ fs, ∃ base sp held fuel x, DataW.trod enc P w base sp held fuel f.2 ((cs.drop f.1).take (P.cellsOf f.2)) = some x) ->
    ∃ as, AllP ps as /\ (as.flatMap AV.cells).length = cs.length - n /\ ∀ (j : Nat) (c : AV) (y : Value), (as.flatMap AV.cells)[j]? = some c -> cs[n + j]? = some y -> y.oneCell' = true /\ IRep w (Here w) c y
  | [], [], n, cs, _, _, hl, _ => ⟨[], trivial, by simp [sumB] at hl; simp [hl], fun j c y hc => by simp at hc⟩
  | [], _ :: _, _, _, h, _, _, _ => h.elim
  | _ :: _, [], _, _, h, _, _, _ => h.elim
  | f :: fs, p :: ps, n, cs, h, hcov, hl, hr => by
    obtain ⟨h1, h2⟩ := h; simp only [Jlz, L00, beq_iff_eq] at hcov; obtain ⟨hn, hcov⟩ := hcov; simp only [sumB] at hl
    obtain ⟨as, ha, hlen, hc⟩ := JfU fs ps (n + P.cellsOf f.2) cs h2 hcov (by omega) fun g hg => hr g (by simp [hg])
    obtain ⟨base, sp, held, fuel, x, hx⟩ := hr f (by simp)
    obtain ⟨a, hpa, hal, hac⟩ := h1.2 _ _ _ _ _ _ hx
    rw [hn] at hal hac
    have hal' : a.cells.length = P.cellsOf f.2 := by rw [hal]; simp; omega
    refine ⟨a :: as, ⟨hpa, ha⟩, by simp [hal'] at hlen ⊢; omega, fun j c y hj hy => ?_⟩
    simp only [L2a] at hj
    by_cases hlt : j < a.cells.length
    . rw [L0m hlt] at hj
      refine hac j c y hj ?_
      rw [List.getElem?_take_of_lt (by omega), L0B]; exact hy
    . rw [L0o (by omega)] at hj
      refine hc (j - a.cells.length) c y hj ?_
      rw [show n + P.cellsOf f.2 + (j - a.cells.length) = n + j from by omega]; exact hy
theorem JfV {t : TypeId} {fs : Array Field} {ps : List (AV -> Prop)} (ht : P.underlying t = some (.struct fs)) (hs : JeG P enc w (fs.toList.map (·.type)) ps) (hc : Jlz P 0 (fs.toList.map fun f => (f.offset, f.type)) = true)
    (hsum : sumB P (fs.toList.map fun f => (f.offset, f.type)) = P.cellsOf t) : Jb9 P enc w t fun a => ∃ as, AllP ps as /\ a = .agg (as.flatMap AV.cells) := by
  refine ⟨⟨true, by simp [tagg, ht], ?_⟩, fun base sp held fuel cs x h => ?_⟩
  . rintro a ⟨as, _, rfl⟩; exact ⟨_, rfl⟩
  obtain ⟨xs, n, _, _, hl, hlen, hf⟩ := DataW.trod_struct ht h
  obtain ⟨as, ha, h1, h2⟩ := JfU (enc := enc) (w := w) (fs.toList.map fun f => (f.offset, f.type)) ps 0 cs (by simpa [L19, Function.comp_def] using hs) hc (by rw [hsum, hl]; omega) fun f hfm => by
    obtain ⟨g, hg, rfl⟩ := L06.1 hfm
    obtain ⟨i, hi⟩ := L29 hg
    have := hf i g (by simpa using hi)
    rw [L07 (by have := (L04.1 hi).1; simp at this; omega)] at this
    exact ⟨_, _, _, _, _, this⟩
  exact ⟨_, ⟨as, ha, rfl⟩, by simpa using h1, fun j c y hj hy => h2 j c y hj (by simpa using hy)⟩
theorem Jew {T : Type} {t e : TypeId} {n : Nat} {q : T -> Prop} {f : T -> AV} {sz : Nat} (ht : P.underlying t = some (.array n e)) (hs : P.cellsOf e = sz) (hst : P.cellsOf t = n * sz) (he : Jb9 P enc w e fun a => ∃ x, q x /\ a = f x) :
    Jb9 P enc w t fun a => ∃ l : List T, l.length = n /\ (∀ x ∈ l, q x) /\ a = .agg (l.flatMap fun x => (f x).cells) := by
  refine ⟨⟨true, by simp [tagg, ht], ?_⟩, fun base sp held fuel cs x h => ?_⟩
  . rintro a ⟨l, _, _, rfl⟩; exact ⟨_, rfl⟩
  obtain ⟨xs, m, _, _, hl, hlen, hf⟩ := DataW.trod_array ht h
  have key : ∀ k, k <= n -> ∃ l : List T, l.length = k /\ (∀ x ∈ l, q x) /\ (l.flatMap fun x => (f x).cells).length = k * sz /\ ∀ (j : Nat) (c : AV) (y : Value), (l.flatMap fun x => (f x).cells)[j]? = some c -> cs[j]? = some y -> y.oneCell' = true /\ IRep w (Here w) c y := by
    intro k
    induction k with
    | zero => intro _; exact ⟨[], rfl, by simp, by simp, fun j c y hc => by simp at hc⟩
    | succ k ih =>
      intro hk
      obtain ⟨l, h1, h2, h3, h4⟩ := ih (by omega)
      have hE := hf k (by omega)
      rw [hs, L07 (by omega)] at hE
      obtain ⟨a, ⟨x, hx, rfl⟩, hal, hac⟩ := he.2 _ _ _ _ _ _ hE
      have hkm : k * sz + sz <= n * sz := by have := L0E sz hk; rw [L10] at this; exact this
      have hal' : (f x).cells.length = sz := by rw [hal]; simp; omega
      refine ⟨l ++ [x], by simp [h1], ?_, by simp [h3, hal', L10], fun j c y hj hy => ?_⟩
      . intro y hy; simp at hy; rcases hy with hy | rfl; exact h2 y hy; exact hx
      . simp only [List.flatMap_append, L2a, List.flatMap_nil, L0F] at hj
        by_cases hlt : j < k * sz
        . rw [L0m (by omega)] at hj; exact h4 j c y hj hy
        . rw [L0o (by omega)] at hj
          rw [h3] at hj
          refine hac _ c y hj ?_
          have := (L04.1 hj).1
          rw [List.getElem?_take_of_lt (by omega), L0B, show k * sz + (j - k * sz) = j from by omega]; exact hy
  obtain ⟨l, h1, h2, h3, h4⟩ := key n (L0a _)
  exact ⟨_, ⟨l, h1, h2, rfl⟩, by simp [h3, hl, hst], h4⟩
theorem Jpj {t : TypeId} {p : AV -> Prop} {v : Value} {d : DataW H} {ps : List MemPlace} {base sp held r b} (ho : Jb9 P enc w t p) (h : DataW.Trod enc P w base sp held t v d ps) (hok : Value.okWide P w r b t v) : ∃ a, p a /\ IRep w (Here w) a v := by
  obtain ⟨⟨g, hg, hsh⟩, ho⟩ := ho
  obtain ⟨fuel, h⟩ := h
  obtain ⟨a, hp, hl, hc⟩ := ho _ _ _ _ _ _ h
  refine ⟨a, hp, ?_⟩
  have hs := hsh a hp; unfold tagg at hg; unfold Value.okWide at hok
  cases g with
  | true =>
    simp only [if_true] at hs; obtain ⟨cs, rfl⟩ := hs
    have hv : ∃ ys, v = .agg ys := by
      split at hok
      . obtain ⟨ys, rfl, _⟩ := hok; exact ⟨ys, rfl⟩
      . obtain ⟨ys, rfl, _⟩ := hok; exact ⟨ys, rfl⟩
      . split at hg <;> simp_all
    obtain ⟨ys, rfl⟩ := hv; simp only [Value.cells, AV.cells_agg] at hl hc
    have := IRep.agg (w := w) (Im := Here w) cs ys.toList hl (fun y hy => by
      obtain ⟨j, hj⟩ := L29 hy
      obtain ⟨c, hcj⟩ : ∃ c, cs[j]? = some c := ⟨_, L07 (by have := (L04.1 hj).1; omega)⟩
      exact (hc j c y hcj hj).1) fun j c y hj hy => (hc j c y hj hy).2
    simpa using this
  | false =>
    simp only [L0A, if_false] at hs
    have hv : v.cells = #[v] := by
      cases v with
      | agg ys =>
        exfalso
        split at hok
        . simp_all
        . simp_all
        . unfold Cell.okWide at hok
          split at hok <;> simp_all [Cell.ok]
      | _ => rfl
    rw [hv] at hl hc; rw [hs] at hl hc
    exact (hc 0 a v rfl rfl).2
theorem JhV : ∀ {ts : List TypeId} {ps : List (AV -> Prop)} {vs : List Value} {ds : List (DataW H)} {p : List MemPlace} {base sp held r b}, JeG P enc w ts ps -> DataW.TrodAll enc P w base sp held ts vs ds p ->
    (∀ (j : Nat) t v, ts[j]? = some t -> vs[j]? = some v -> Value.okWide P w r b t v) -> ∃ as, AllP ps as /\ Jid w (Here w) as vs
  | [], [], vs, ds, p, base, sp, held, r, b, _, h, _ => by
    obtain ⟨rfl, _, _⟩ := trodAll_nil h
    exact ⟨[], trivial, rfl, fun j c y hc => by simp at hc⟩
  | [], _ :: _, _, _, _, _, _, _, _, _, h, _, _ => h.elim
  | _ :: _, [], _, _, _, _, _, _, _, _, h, _, _ => h.elim
  | t :: ts, q :: ps, vs, ds, p, base, sp, held, r, b, ho, h, hok => by
    obtain ⟨v, vs', d, ds', p', q', rfl, rfl, rfl, h1, h2⟩ := trodAll_cons h
    obtain ⟨a, ha, hr⟩ := Jpj ho.1 h1 (hok 0 t v rfl rfl)
    obtain ⟨as, has, hl, hrs⟩ := JhV ho.2 h2 fun j t v hj hv => hok (j + 1) t v (by simpa using hj) (by simpa using hv)
    refine ⟨a :: as, ⟨ha, has⟩, by simp [hl], fun j c y hc hy => ?_⟩
    cases j with
    | zero => simp at hc hy; subst hc; subst hy; exact hr
    | succ j => exact hrs j c y (by simpa using hc) (by simpa using hy)
theorem Jfh (hl : laidOutB P = true) {W W' : World} (hb : Below W.heap.size W W') : ∀ {ts : List TypeId} {vs : List Value} {ds : List (DataW H)} {p : List MemPlace}, (∀ t ∈ ts, P.readableRec t = true /\ t < P.types.size) ->
    (∀ x ∈ p, x.block < W.heap.size) -> DataW.TrodAll enc P W 0 (fun _ => true) true ts vs ds p -> DataW.TrodAll enc P W' 0 (fun b => decide (b < W.heap.size)) true ts vs ds p
  | [], vs, ds, p, _, _, h => by
    obtain ⟨rfl, rfl, rfl⟩ := trodAll_nil h
    rfl
  | t :: ts, vs, ds, p, hr, hp, h => by
    obtain ⟨v, vs', d, ds', p', q', rfl, rfl, rfl, h1, h2⟩ := trodAll_cons h
    exact ⟨p', q', Below.trod hl (hr t (by simp)).1 (hr t (by simp)).2 h1 hb fun x hx => hp x (by simp [hx]), Jfh hl hb (fun t ht => hr t (by simp [ht])) (fun x hx => hp x (by simp [hx])) h2, rfl⟩
theorem JkP {w w' : World} {may : MemPlace -> Prop} (h : Ext w (fun _ => False) w') : w.keptBut w' may := by
  refine ⟨h.os, h.output, fun i hi => ?_⟩
  rw [h.block i hi fun h => h]
  cases hw : w.heap[i]? with
  | none => trivial
  | some o => cases o <;> simp
theorem Jpu {H : Type} {enc : TypeId × Value -> H} {P : Program} {f : Func} {s : ChangeSpec} {fresh handsOn : Bool} {W W' : World} {args : Array Value} {ds gs : List (DataW H)} {before : List MemPlace} {tb : TypeId}
    (hl : laidOutB P = true) (hr : ∀ t ∈ f.params.toList, P.readableRec t = true /\ t < P.types.size) (hrt : f.resultTypes = #[tb]) (htb : P.underlying tb = some .bool) (hvars : s.vars = [])
    (hs : ∀ ds : List (DataW H), ds.length = f.params.size -> s.fn H ds = { results := [.lit (.bool true)], args := ds })
    (hW : DataW.Whole enc P f.params.toList s.vars false W args.toList ds gs before) (hx : Ext W (fun _ => False) W') : s.post enc P f false fresh handsOn false W args (.bool true) W' := by
  have hWw := hW; obtain ⟨p, q, hA, hV, rfl, hfz, hnd⟩ := hW; rw [hvars] at hV; have hlt := hWw.lt
  obtain ⟨rfl, rfl⟩ := trodVars_none hV
  have hlen : ds.length = f.params.size := by
    have key : ∀ (ts : List TypeId) (vs : List Value) (ds : List (DataW H)) (p : List MemPlace), DataW.TrodAll enc P W 0 (fun _ => true) true ts vs ds p -> ds.length = ts.length := by
      intro ts
      induction ts with
      | nil => intro vs ds p h; obtain ⟨_, rfl, _⟩ := trodAll_nil h; rfl
      | cons t ts ih =>
        intro vs ds p h
        obtain ⟨v, vs', d, ds', p', q', rfl, rfl, rfl, h1, h2⟩ := trodAll_cons h
        simp [ih _ _ _ h2]
    simpa using key _ _ _ _ hA
  have e := hs ds hlen; simp only [L0F] at hWw hlt hfz
  have htr : DataW.TrodAll enc P W' 0 (fun b => decide (b < W.heap.size)) true f.params.toList args.toList ds p := Jfh hl hx.below hr hlt hA
  have hokk : ∀ (j : Nat) (t : TypeId) (r : Value), f.resultTypes[j]? = some t -> ((Value.bool true).resultList f.resultTypes.size)[j]? = some r -> Value.okWide P W' .any 0 t r := by
    intro j t r hj hv
    rw [hrt] at hj hv
    cases j with
    | zero =>
      simp [Value.resultList] at hj hv
      subst hj; subst hv
      simp [Value.okWide, htb, Cell.okWide, Cell.ok]
    | succ j => simp at hj
  have hres : ∀ (b : Nat) (sp : Nat -> Bool) (hd : Bool), DataW.TrodAll enc P W' b sp hd f.resultTypes.toList ((Value.bool true).resultList f.resultTypes.size) [.lit (.bool true)] [] := by
    intro b sp hd
    rw [hrt]
    exact ⟨[], [], ⟨1, by simp [DataW.trod, Value.cells, htb]⟩, rfl, rfl⟩
  have hold : ∀ x ∈ p, decide (x.block < W.heap.size) = true := fun x hx => by simpa using hlt x hx
  refine ⟨ds, [], p, [], p, [], hWw, ?_, ?_, ?_, World.keptBut_mono (fun p hp => ⟨hp, ?_⟩) (JkP (may := (· ∈ p)) hx), fun h => by cases h⟩
  . simp only [L0F, e]; exact hres _ _ _
  . simp only [L0F, e]; exact htr
  . simp only [L0F, e, hvars]; rfl
  . exact .inr (by simpa using hp)
theorem JwE {pa0 pa1 : AV -> Prop} {Q : List AV -> Prop} (h : ∀ a0 a1, pa0 a0 -> pa1 a1 -> Q [a0, a1]) : ∀ l, AllP [pa0, pa1] l -> Q l
  | [a0, a1], ha => h a0 a1 ha.1 ha.2.1
  | [], ha => (ha : False).elim
  | [_], ha => (ha.2 : False).elim
  | _ :: _ :: _ :: _, ha => (ha.2.2 : False).elim
theorem JCd {T : Type} {Q : List T -> Prop} (h : ∀ a0 a1, Q [a0, a1]) : ∀ l : List T, l.length = 2 -> Q l
  | [a0, a1], _ => h a0 a1
  | [], hl => by simp at hl
  | [_], hl => by simp at hl
  | _ :: _ :: _ :: _, hl => by simp at hl
theorem JnI {pa0 pa1 pa2 pa3 : AV -> Prop} {Q : List AV -> Prop} (h : ∀ a0 a1 a2 a3, pa0 a0 -> pa1 a1 -> pa2 a2 -> pa3 a3 -> Q [a0, a1, a2, a3]) : ∀ l, AllP [pa0, pa1, pa2, pa3] l -> Q l
  | [a0, a1, a2, a3], ha => h a0 a1 a2 a3 ha.1 ha.2.1 ha.2.2.1 ha.2.2.2.1
  | [], ha => (ha : False).elim
  | [_], ha => (ha.2 : False).elim
  | [_, _], ha => (ha.2.2 : False).elim
  | [_, _, _], ha => (ha.2.2.2 : False).elim
  | _ :: _ :: _ :: _ :: _ :: _, ha => (ha.2.2.2.2 : False).elim
theorem JxK {T : Type} {Q : List T -> Prop} (h : ∀ a0 a1 a2 a3, Q [a0, a1, a2, a3]) : ∀ l : List T, l.length = 4 -> Q l
  | [a0, a1, a2, a3], _ => h a0 a1 a2 a3
  | [], hl => by simp at hl
  | [_], hl => by simp at hl
  | [_, _], hl => by simp at hl
  | [_, _, _], hl => by simp at hl
  | _ :: _ :: _ :: _ :: _ :: _, hl => by simp at hl
theorem JwF {pa0 pa1 pa2 pa3 pa4 : AV -> Prop} {Q : List AV -> Prop} (h : ∀ a0 a1 a2 a3 a4, pa0 a0 -> pa1 a1 -> pa2 a2 -> pa3 a3 -> pa4 a4 -> Q [a0, a1, a2, a3, a4]) : ∀ l, AllP [pa0, pa1, pa2, pa3, pa4] l -> Q l
  | [a0, a1, a2, a3, a4], ha => h a0 a1 a2 a3 a4 ha.1 ha.2.1 ha.2.2.1 ha.2.2.2.1 ha.2.2.2.2.1
  | [], ha => (ha : False).elim
  | [_], ha => (ha.2 : False).elim
  | [_, _], ha => (ha.2.2 : False).elim
  | [_, _, _], ha => (ha.2.2.2 : False).elim
  | [_, _, _, _], ha => (ha.2.2.2.2 : False).elim
  | _ :: _ :: _ :: _ :: _ :: _ :: _, ha => (ha.2.2.2.2.2 : False).elim
theorem JCe {T : Type} {Q : List T -> Prop} (h : ∀ a0 a1 a2 a3 a4, Q [a0, a1, a2, a3, a4]) : ∀ l : List T, l.length = 5 -> Q l
  | [a0, a1, a2, a3, a4], _ => h a0 a1 a2 a3 a4
  | [], hl => by simp at hl
  | [_], hl => by simp at hl
  | [_, _], hl => by simp at hl
  | [_, _, _], hl => by simp at hl
  | [_, _, _, _], hl => by simp at hl
  | _ :: _ :: _ :: _ :: _ :: _ :: _, hl => by simp at hl
theorem Jr8 {pa0 pa1 pa2 pa3 pa4 pa5 pa6 : AV -> Prop} {Q : List AV -> Prop} (h : ∀ a0 a1 a2 a3 a4 a5 a6, pa0 a0 -> pa1 a1 -> pa2 a2 -> pa3 a3 -> pa4 a4 -> pa5 a5 -> pa6 a6 -> Q [a0, a1, a2, a3, a4, a5, a6]) : ∀ l, AllP [pa0, pa1, pa2, pa3, pa4, pa5, pa6] l -> Q l
  | [a0, a1, a2, a3, a4, a5, a6], ha => h a0 a1 a2 a3 a4 a5 a6 ha.1 ha.2.1 ha.2.2.1 ha.2.2.2.1 ha.2.2.2.2.1 ha.2.2.2.2.2.1 ha.2.2.2.2.2.2.1
  | [], ha => (ha : False).elim
  | [_], ha => (ha.2 : False).elim
  | [_, _], ha => (ha.2.2 : False).elim
  | [_, _, _], ha => (ha.2.2.2 : False).elim
  | [_, _, _, _], ha => (ha.2.2.2.2 : False).elim
  | [_, _, _, _, _], ha => (ha.2.2.2.2.2 : False).elim
  | [_, _, _, _, _, _], ha => (ha.2.2.2.2.2.2 : False).elim
  | _ :: _ :: _ :: _ :: _ :: _ :: _ :: _ :: _, ha => (ha.2.2.2.2.2.2.2 : False).elim
theorem JCf {T : Type} {Q : List T -> Prop} (h : ∀ a0 a1 a2 a3 a4 a5 a6, Q [a0, a1, a2, a3, a4, a5, a6]) : ∀ l : List T, l.length = 7 -> Q l
  | [a0, a1, a2, a3, a4, a5, a6], _ => h a0 a1 a2 a3 a4 a5 a6
  | [], hl => by simp at hl
  | [_], hl => by simp at hl
  | [_, _], hl => by simp at hl
  | [_, _, _], hl => by simp at hl
  | [_, _, _, _], hl => by simp at hl
  | [_, _, _, _, _], hl => by simp at hl
  | [_, _, _, _, _, _], hl => by simp at hl
  | _ :: _ :: _ :: _ :: _ :: _ :: _ :: _ :: _, hl => by simp at hl
open Go
abbrev I (n : Int) : AV := .v (.int .i64 n)
abbrev B (b : Bool) : AV := .v (.bool b)
abbrev SL (l : List Int) : AV := .sl 1 (l.map I)
def R64 (n : Int) : Prop := -9223372036854775808 <= n /\ n <= 9223372036854775807
def gd {T : Type} [Inhabited T] (l : List T) (n : Nat) : T := l.getD n default
theorem Jbj {T : Type} [Inhabited T] (l : List T) (n : Nat) (h : n < l.length) : l[n]? = some (gd l n) := by
  simp [gd, h]
theorem Jas {T : Type} [Inhabited T] (l : List T) (n : Nat) (h : n < l.length) : gd l n ∈ l := L01 (Jbj l n h)
theorem Joz {T : Type} [Inhabited T] (l : List T) (n : Nat) (h : l.length <= n) : gd l n = default := by
  simp [gd, h]
@[simp] theorem JsB {T : Type} [Inhabited T] (n : Nat) : gd ([] : List T) n = default := by simp [gd]
@[simp] theorem JaD {T : Type} [Inhabited T] (x : T) (l : List T) : gd (x :: l) 0 = x := by simp [gd]
@[simp] theorem Jaz {T : Type} [Inhabited T] (x : T) (l : List T) (n : Nat) : gd (x :: l) (n + 1) = gd l n := by simp [gd]
theorem Jei {T : Type} [Inhabited T] (l m : List T) (n : Nat) (h : n < l.length) : gd (l ++ m) n = gd l n := by simp [gd, L0m h]
theorem Ja0 {T : Type} [Inhabited T] (l m : List T) (n : Nat) (h : l.length <= n) : gd (l ++ m) n = gd m (n - l.length) := by simp [gd, L0o h]
theorem JhH {T : Type} [Inhabited T] {l m : List T} (hl : l.length = m.length) (h : ∀ i, i < l.length -> gd l i = gd m i) : l = m := by
  refine List.ext_getElem? fun i => ?_
  by_cases hi : i < l.length
  . rw [Jbj l i hi, Jbj m i (by omega), h i hi]
  . rw [L1o (by omega), L1o (by omega)]
theorem Jjx {T : Type} [Inhabited T] (l : List T) (i n : Nat) (x : T) (h : i < l.length) : gd (l.set i x) n = if n = i then x else gd l n := by
  unfold gd; rw [L1a, L1a, L21]
  by_cases hn : i = n
  . subst hn; simp [h]
  . rw [if_neg hn, if_neg (fun e => hn e.symm)]
section
variable {T : Type} [Inhabited T] {A : Prop} {k : AV -> Prop}
@[go_sem] theorem Jya (l : List T) (f : T -> AV) (n : Nat) : Jhz A ((l.map f)[n]?) k = Jao (A /\ n < l.length) k (.pt (f (gd l n)) 0) := by
  by_cases h : n < l.length
  . rw [L03, Jbj l n h]; simp [Jhz, Jao, h]
  . rw [L1o (by simp; omega)]; simp [Jhz, Jao, h]
@[go_sem] theorem JxN {P : Program} {t : TypeId} (l : List T) (f : T -> AV) (n j : Nat) : Jhv P t ((l.map f)[n]?) j k = need (n < l.length) (Jez P t (f (gd l n)).cells j k) := by
  by_cases h : n < l.length
  . rw [L03, Jbj l n h]; simp [Jhv, need, h]
  . rw [L1o (by simp; omega)]; simp [Jhv, need, h]
@[go_sem] theorem JA0 {P : Program} {t : TypeId} {b : Blk} (l : List T) (f : T -> AV) (n : Nat) {id sz i j : Nat} {v : AV} {K : Env -> Jac -> Prop} {E : Env} {σ : Jac} :
    stoE P t b ((l.map f)[n]?) id sz i j v K E σ = need (n < l.length) (stoE P t b (some (f (gd l n))) id sz i j v K E σ) := by
  by_cases h : n < l.length
  . rw [L03, Jbj l n h]; simp [need, h]
  . rw [L1o (by simp; omega)]; simp [stoE, need, h]
@[go_sem] theorem JAB (l : List T) (f : T -> AV) (n : Nat) : optV ((l.map f)[n]?) k = need (n < l.length) (k (f (gd l n))) := by
  by_cases h : n < l.length
  . rw [L03, Jbj l n h]; simp [optV, need, h]
  . rw [L1o (by simp; omega)]; simp [optV, need, h]
end
@[go_sem high] theorem JyC (l : List Int) (j : Nat) (x : Int) (hj : j < l.length) (h1 : l.length ≠ 1) : setC (.agg (l.map I)) j (I x) = .agg ((l.set j x).map I) := by
  rw [Jlc, if_neg (by simp; omega)]
  congr 1
  simp only [AV.cells_agg, AV.cells_v, L1d, <- L1F, <- List.map_drop]; rw [L2j, if_pos hj]
  simp
attribute [go_sem] List.length_append Nat.le_refl Int.le_refl List.range_zero List.nodup_nil List.nodup_cons List.mem_cons List.not_mem_nil not_false_eq_true or_false false_or List.length_set Nat.mul_one Nat.zero_add Nat.add_zero Nat.one_mul Nat.zero_mul List.set_cons_zero List.set_cons_succ List.set_nil
@[go_sem] theorem Jxk {T U : Type} (l : List T) (f : T -> U) (n : Nat) : (l.map f).drop n = (l.drop n).map f := (List.map_drop ..).symm
@[go_sem] theorem JyL {T U : Type} (l : List T) (f : T -> U) (n : Nat) : (l.map f).take n = (l.take n).map f := (L1F ..).symm
@[go_sem] theorem Jtb {T U : Type} (l m : List T) (f : T -> U) : l.map f ++ m.map f = (l ++ m).map f := (L14 ..).symm
theorem JtO {T : Type} [Inhabited T] (l : List T) (n i : Nat) : gd (l.drop n) i = gd l (n + i) := by simp [gd]
theorem JoA {T : Type} [Inhabited T] (l : List T) (n i : Nat) (h : i < n) : gd (l.take n) i = gd l i := by simp [gd, L0l, h]
@[go_sem] theorem Jcy {x : Int} (h : -9223372036854775808 <= x /\ x <= 9223372036854775807) : IntKind.i64.wrap x = x := by
  simp [IntKind.wrap, IntKind.bits, IntKind.signed]; split <;> omega
@[go_sem] theorem JB3 (a b : Int) : (if b > a then b else a) = max a b := by split <;> omega
@[go_sem] theorem JB4 (a b : Int) : (if b < a then b else a) = min a b := by split <;> omega
@[go_sem] theorem JA1 {T : Type} (l : List T) (n : Nat) (h : l.length <= n) : l.take n = l := L09 h
@[go_sem] theorem JyM {T : Type} (l : List T) (x : T) (n : Nat) (h : l.length + 1 <= n) : (l ++ [x]).take n = l ++ [x] := L09 (by simpa using h)
@[go_sem] theorem JAW (l : List Int) (n : Nat) (x : Int) : (l.map I).set n (.v (.int .i64 x)) = (l.set n x).map I := by rw [List.map_set]
theorem Jf6 {m d : Int} (hd : 0 < d) (h : R64 m) : R64 (m.tdiv d) := by
  obtain ⟨h1, h2⟩ := h
  by_cases hm : 0 <= m
  . rw [L1g hm]; have a := L1T hm (Int.le_of_lt hd); have b := Int.ediv_le_self d hm
    exact ⟨by omega, by omega⟩
  . have e : m.tdiv d = -((-m).tdiv d) := by rw [Int.neg_tdiv]; omega
    rw [e, L1g (by omega)]
    have a := L1T (show 0 <= -m by omega) (Int.le_of_lt hd)
    have b := Int.ediv_le_self d (show 0 <= -m by omega)
    exact ⟨by omega, by omega⟩
@[go_sem] theorem JuV {m d : Int} (hd : 0 < d) (h : -9223372036854775808 <= m /\ m <= 9223372036854775807) : IntKind.i64.wrap (m.tdiv d) = m.tdiv d := Jcy (Jf6 hd h)
theorem Jal {T : Type} (p : Nat -> Bool) (l : List T) (f : T -> AV) (h : ∀ x, AV.namesB p (f x) = false) : AV.namesL p (l.map f) = false := by
  induction l with
  | nil => rfl
  | cons x l ih => simp [AV.namesL, h, ih]
@[go_sem] theorem Jvb (l : List Int) (x : Int) : l.map I ++ [.v (.int .i64 x)] = (l ++ [x]).map I := by simp
@[go_sem] theorem JkX (p : Nat -> Bool) (l : List Int) : AV.namesL p (l.map I) = false := Jal p l I fun _ => rfl
@[go_sem] theorem JvX (p : Nat -> Bool) (l : List (List Int)) : AV.namesL p (l.map SL) = false := Jal p l SL fun _ => rfl
theorem Jbi {T : Type} (l : List T) (f : T -> AV) (h : ∀ x, AV.flat (f x) = true) : AV.flatL (l.map f) = true := by
  induction l with
  | nil => rfl
  | cons x l ih => simp [AV.flatL, h, ih]
@[go_sem] theorem JvA (l : List Int) : AV.flatL (l.map I) = true := Jbi l I fun _ => rfl
theorem JaI {T : Type} (s : Nat) (l : List T) (f : T -> AV) (h : ∀ x, (f x).ok = true /\ (f x).cells.length = s) : JbS s (l.map f) = true := by
  simp only [JbS, L0b]
  intro e he
  obtain ⟨x, _, rfl⟩ := L06.1 he
  simp [h x]
@[go_sem] theorem JuX (l : List Int) : JbS 1 (l.map I) = true := JaI 1 l I fun _ => ⟨rfl, rfl⟩
@[go_sem] theorem JwD (l : List (List Int)) : JbS 1 (l.map SL) = true := JaI 1 l SL fun _ => ⟨rfl, rfl⟩
@[go_sem] theorem JDg (E : Env) (d : Nat) (a b : AV) : upd (upd E d a) d b = upd E d b := by funext t; simp only [upd]; split <;> rfl
theorem Jaa {S : Sp} {K : Env -> Jac -> Prop} {E : Env} {σ : Jac} {kd bi b : Bool} {d g : Nat} {as : List AV} {dst : Option Nat} {L : Prop} {r : AV} (h : Ev S.P g as r) (h3 : impK (imp (16 * d) r) dst K E σ)
    (h1 : b = false \/ r.flat = true := by first | exact .inl rfl | exact .inr rfl | exact .inr (by simp only [go_sem, AV.flat, AV.flatL, Bool.and_self])) (h2 : rlen r <= 16 := by exact L0u rfl) (h4 : kd = true \/ r.dn = false := by first | exact .inl rfl | exact .inr rfl) : Jkt S kd bi d g b as dst K E σ L := JqG r h h1 h2 h4 h3
def AV.asIf (a b : AV) : Prop := ∀ (w : World) (Im : Nat -> Prop) (y : Value), IRep w Im a y -> IRep w Im b y
theorem JaA (a : AV) : a.asIf a := fun _ _ _ h => h
theorem Jc7 (s : Nat) : (AV.v (.slice none 0 0)).asIf (.sl s []) := fun _ _ _ h => by cases h; exact .slnil ..
def Jmy : List AV -> List AV -> Prop
  | [], [] => True
  | a :: as, b :: bs => a.asIf b /\ Jmy as bs
  | _, _ => False
theorem Jfj {w : World} {Im : Nat -> Prop} : ∀ {as bs : List AV} {vs : List Value}, Jmy as bs -> Jid w Im as vs -> Jid w Im bs vs
  | [], [], _, _, h => h
  | a :: as, b :: bs, [], _, h => by have := h.1; simp at this
  | a :: as, b :: bs, v :: vs, ⟨h1, h2⟩, h => by
    have ih := Jfj (vs := vs) h2 ⟨by simpa using h.1, fun j c y hc hy => h.2 (j + 1) c y (by simpa using hc) (by simpa using hy)⟩
    refine ⟨by simpa using ih.1, fun j c y hc hy => ?_⟩
    cases j with
    | zero => simp at hc hy; subst hc; subst hy; exact h1 _ _ _ (h.2 0 a v rfl rfl)
    | succ j => exact ih.2 j c y (by simpa using hc) (by simpa using hy)
  | [], _ :: _, _, h, _ => h.elim
  | _ :: _, [], _, h, _ => h.elim
theorem Ev.asIf {P : Program} {f : FuncId} {as bs : List AV} {r : AV} (h : Ev P f bs r) (ha : Jmy as bs) : Ev P f as r := by
  rintro as' r' ⟨rfl, rfl⟩
  obtain ⟨h1, h2⟩ := h bs r' ⟨rfl, rfl⟩
  exact ⟨h1, fun w Im vs hw hgk hv => h2 w Im vs hw hgk (Jfj ha hv)⟩
theorem Jmi (S : Sp) (b2 : Nat) (nm0 : Nat -> Bool) : Jc6 (spR S b2 nm0) := fun _ _ _ _ _ h => h.elim
theorem Jj2 {args : List AV} {g : AV} {K K' : AV -> AV -> Prop} (hK : ∀ v g, K v g -> K' v g) (h : seqY args g K) : seqY args g K' := by
  unfold seqY at *
  split at h
  . exact ⟨h.1, hK _ _ h.2.1, hK _ _ h.2.2⟩
  . exact h.elim
theorem JrN (P : Program) (f : FuncId) (N l : Nat) : Jc6 (spY P f N l) := fun _ _ _ _ hK h => Jj2 hK h
def JpJ (S : Sp) (as body : Code) (ps : List Nat) (R : Exit -> Env -> Jac -> Prop) (E : Env) (x : List AV) (σ : Jac) : Prop :=
  awpC S as (Jc4 (awpC S body R) JqY) (Jdm E ps x) σ
theorem JrB {S : Sp} {f : Operand} {ps : Array Tmp} {as body : Code} {Q : Exit -> Env -> Jac -> Prop} {E : Env} {σ : Jac} (hrd : S.rd = false) (hlow : Operand.low S.N f = true) (hoA : Jcl S.P S.N S.bad as = true) (hoB : Jcl S.P S.N S.bad body = true)
    (hps : (ps.toList.all fun p => Nat.blt p S.N) = true) {g : FuncId} {caps : List AV} (hf : ev E f = .clo g caps) (hhd : JaH caps = true) (q nm0 : Nat -> Bool) (b2 : Nat) (hqc : AV.namesL (fun i => !q i) caps = false)
    (hqs : ∀ id k, σ id = some k -> q id = true -> AV.namesL (fun i => !q i) k.es = false) (hqn : ∀ id, q id = true -> nm0 id = false) (hnm : ∀ id, S.pin id = true -> nm0 id = true)
    (hb2 : ∀ id, nm0 id = true -> id / 16 < b2 \/ b2 + 100000 <= id / 16) (xs : List (List AV)) (hlen : ∀ x ∈ xs, x.length = ps.size) (hs : SOK S.P g caps (only q σ) xs) (I : List (List AV) -> Jac -> Prop) (h0 : I xs (Jaj q σ))
    (hround : ∀ x rest σ, I (x :: rest) σ -> JpJ (spR S b2 nm0) as body ps.toList (rQ nm0 Q (Jeq nm0 E) (I rest)) (Jeq nm0 E) x σ)
    (hend : ∀ σ, I [] σ -> Q .normal (Jeq nm0 E) σ) : semC S (.rangeFunc f ps as body) Q E σ := by
  refine Jk3 hrd hlow (JaR _ hoA) (JaR _ hoB) (fun p hp => ?_) hf hhd q nm0 b2 hqc hqs hqn hnm hb2 xs hlen hs I h0 (fun x rest σ hI => ?_) hend
  . exact L0u (L0b.1 hps p hp)
  . have := hround x rest σ hI
    exact JbI (Jmi S b2 nm0) as (JbF (fun _ _ h => JbI (Jmi S b2 nm0) body (fun _ _ _ h => h) h) fun _ _ _ h => h) this
theorem Jj6 {P : Program} {f : FuncId} {fn : Func} {c : Code} {args : List AV} {σ : Jac} {xs : List (List AV)} (hf : P.funcs[f]? = some fn) (hb : fn.body = some c) (hok : fnQ P fn c = true) (hmo : P.follows .mixedOrders = true)
    (hlen : args.length < fn.ntmps) (hxs : AV.namesL allB (xs.map .tup) = false) (hres : fn.results = #[])
    (h : ∀ l, awpC (spY P f fn.ntmps l) c (fun e => match e with | .normal => fun E _ => E fn.ntmps = .tup [] \/ E fn.ntmps = .any | .ret => fun E _ => E fn.ntmps = .tup [] \/ E fn.ntmps = .any | _ => fun _ _ => False) (upd (JbW (.yld l :: args)) fn.ntmps (.tup (xs.map .tup))) σ) : SOK P f args σ xs := by
  refine Jno hf hb (Jot hok) hmo hlen hxs fun l => JbI (JrN P f fn.ntmps l) c (fun e E σ hk => ?_) (h l)
  cases e <;> first | exact hk.elim | (simp only [retG, hres]; exact hk)
section
variable (P : Program) (f N l : Nat) (S : Sp) (b2 : Nat) (nm0 : Nat -> Bool)
@[go_sem] theorem spY_P : (spY P f N l).P = P := rfl
@[go_sem] theorem spY_b : (spY P f N l).b = 131072 * (f + 1) := rfl
@[go_sem ↓] theorem JC5 (id : Nat) : (spY P f N l).bad id = false := rfl
@[go_sem ↓] theorem JC3 (id : Nat) : (spR S b2 nm0).bad id = S.bad id := rfl
@[go_sem] theorem spY_N : (spY P f N l).N = N := rfl
@[go_sem] theorem JC6 (id : Nat) : (spY P f N l).pin id = false := rfl
@[go_sem] theorem spY_yl : (spY P f N l).yl = l := rfl
@[go_sem] theorem spY_Y : (spY P f N l).Y = seqY := rfl
@[go_sem] theorem spR_P : (spR S b2 nm0).P = S.P := rfl
@[go_sem] theorem spR_b : (spR S b2 nm0).b = b2 := rfl
@[go_sem] theorem spR_N : (spR S b2 nm0).N = S.N := rfl
@[go_sem] theorem JC4 : (spR S b2 nm0).pin = nm0 := rfl
end
@[go_sem] theorem JyB (args x rest : List AV) (K : AV -> AV -> Prop) : seqY args (.tup (.tup x :: rest)) K = (args = x /\ K (.v (.bool true)) (.tup rest) /\ K (.v (.bool false)) .any) := rfl
def inI (l : List Nat) : Nat -> Bool := fun i => l.contains i
@[go_sem] theorem inI_at (l : List Nat) (i : Nat) : inI l i = l.contains i := rfl
def ofI (l : List Nat) : Nat -> Bool := fun i => !inI l i
@[go_sem] theorem ofI_at (l : List Nat) (i : Nat) : ofI l i = !inI l i := rfl
def JjL (p : Nat -> Bool) (o : Option Blk) : Bool := match o with | some k => AV.namesL p k.es | none => false
@[go_sem] theorem Jud (p : Nat -> Bool) (k : Blk) : JjL p (some k) = AV.namesL p k.es := rfl
@[go_sem] theorem Juc (p : Nat -> Bool) : JjL p none = false := rfl
def JhS (p : Nat -> Bool) (σ : Jac) : List Nat -> Prop
  | [] => True
  | id :: l => JjL p (σ id) = false /\ JhS p σ l
@[go_sem] theorem JvY (p : Nat -> Bool) (σ : Jac) : JhS p σ [] = True := rfl
@[go_sem] theorem Jue (p : Nat -> Bool) (σ : Jac) (id : Nat) (l : List Nat) : JhS p σ (id :: l) = (JjL p (σ id) = false /\ JhS p σ l) := rfl
theorem JjM {p : Nat -> Bool} {σ : Jac} : ∀ {l : List Nat}, JhS p σ l -> ∀ id ∈ l, JjL p (σ id) = false
  | [], _, _, h => by cases h
  | a :: l, h, id, hm => by
    rcases L0h.1 hm with rfl | hm
    . exact h.1
    . exact JjM h.2 id hm
def Jxp (qs ns : List Nat) (b2 : Nat) : Bool := (qs.all fun i => !ns.contains i) && ns.all fun i => Nat.blt (i / 16) b2
section
variable (nm : Nat -> Bool)
@[go_sem] theorem fade_v (x : Value) : fade nm (.v x) = .v x := rfl
@[go_sem] theorem JBI (s : Nat) (es : List AV) : fade nm (.sl s es) = .sl s es := rfl
@[go_sem] theorem JBH (e : AV) (j : Nat) : fade nm (.pt e j) = .pt e j := rfl
@[go_sem] theorem JzH : fade nm .any = .any := rfl
@[go_sem] theorem JBG (es : List AV) : fade nm (.mp es) = .mp es := rfl
@[go_sem] theorem JzK (l : Nat) : fade nm (.yld l) = .yld l := rfl
@[go_sem] theorem Jxn (id s i n : Nat) : fade nm (.own id s i n) = .any := by
  unfold fade; simp only [AV.kill, AV.namesB, AV.dk]; by_cases h : nm id = true <;> simp [h, AV.ownB]
@[go_sem] theorem JzJ (id s i j : Nat) : fade nm (.ptr id s i j) = if nm id = true then .ptr id s i j else .any := by
  unfold fade; simp only [AV.kill, AV.namesB, AV.dk]; by_cases h : nm id = true <;> simp [h, AV.ownB]
@[go_sem] theorem JzG (E : Env) (t : Nat) : Jeq nm E t = fade nm (E t) := rfl
end
@[go_sem] theorem JyD (E : Env) (x : List AV) : Jdm E [] x = E := by simp [Jdm]
@[go_sem] theorem Jwe (E : Env) (p : Nat) (ps : List Nat) (a : AV) (x : List AV) : Jdm E (p :: ps) (a :: x) = Jdm (upd E p a) ps x := rfl
@[go_sem] theorem JyA (S : Sp) (as body : Code) (ps : List Nat) (R : Exit -> Env -> Jac -> Prop) (E : Env) (x : List AV) (σ : Jac) : JpJ S as body ps R E x σ = awpC S as (Jc4 (awpC S body R) JqY) (Jdm E ps x) σ := rfl
@[go_sem ↓] theorem Jyi (nm : Nat -> Bool) (Q : Exit -> Env -> Jac -> Prop) (E0 : Env) (I : Jac -> Prop) (E : Env) (σ : Jac) : rQ nm Q E0 I .normal E σ = ∃ p : Nat -> Bool, (∀ id, nm id = true -> p id = false) /\ I (Jaj p σ) := rfl
@[go_sem ↓] theorem rQ_ret (nm : Nat -> Bool) (Q : Exit -> Env -> Jac -> Prop) (E0 : Env) (I : Jac -> Prop) (E : Env) (σ : Jac) : rQ nm Q E0 I .ret E σ = ∃ p : Nat -> Bool, (∀ id, nm id = true -> p id = false) /\ Q .ret E0 (Jaj p σ) := rfl
@[go_sem ↓] theorem JCv (nm : Nat -> Bool) (Q : Exit -> Env -> Jac -> Prop) (E0 : Env) (I : Jac -> Prop) (i : Nat) (E : Env) (σ : Jac) : rQ nm Q E0 I (.exit i) E σ = ∃ p : Nat -> Bool, (∀ id, nm id = true -> p id = false) /\ Q (.exit i) E0 (Jaj p σ) := rfl
theorem Jd4 {S : Sp} {f : Operand} {ps : Array Tmp} {as body : Code} {Q : Exit -> Env -> Jac -> Prop} {E : Env} {σ : Jac} {g : FuncId} {caps : List AV} (qs ns : List Nat) (b2 : Nat) (xs : List (List AV)) (I : List (List AV) -> Jac -> Prop)
    (hf : ev E f = .clo g caps) (hs : SOK S.P g caps (only (inI qs) σ) xs) (hlen : ∀ x ∈ xs, x.length = ps.size)
    (hqc : AV.namesL (ofI qs) caps = false) (hqs : JhS (ofI qs) σ qs)
    (h0 : I xs (Jaj (inI qs) σ))
    (hround : ∀ E0 : Env, (∀ t, E0 t = fade (inI ns) (E t)) -> ∀ x rest σ, I (x :: rest) σ -> JpJ (spR S b2 (inI ns)) as body ps.toList (rQ (inI ns) Q E0 (I rest)) E0 x σ)
    (hend : ∀ E0 : Env, (∀ t, E0 t = fade (inI ns) (E t)) -> ∀ σ, I [] σ -> Q .normal E0 σ)
    (hhd : JaH caps = true := by rfl) (hfit : Jxp qs ns b2 = true := by kernel_rfl) (hpin : ∀ id, S.pin id = false := by intro id; rfl) (hrd : S.rd = false := by rfl) (hlow : Operand.low S.N f = true := by kernel_rfl)
    (hoA : Jcl S.P S.N S.bad as = true := by kernel_rfl) (hoB : Jcl S.P S.N S.bad body = true := by kernel_rfl) (hps : (ps.toList.all fun p => Nat.blt p S.N) = true := by kernel_rfl) : semC S (.rangeFunc f ps as body) Q E σ := by
  simp only [Jxp, L00, L0b] at hfit
  refine JrB hrd hlow hoA hoB hps hf hhd (inI qs) (inI ns) b2 hqc (fun id k hk hq => ?_) (fun id hq => ?_) (fun id hp => ?_) (fun id hn => ?_) xs hlen hs I h0 (fun x rest σ hI => hround _ (fun _ => rfl) x rest σ hI) (hend _ fun _ => rfl)
  . have := JjM hqs id (by simpa [inI] using hq)
    rw [hk] at this; exact this
  . have := hfit.1 id (by simpa [inI] using hq)
    simpa [inI] using this
  . rw [hpin] at hp; cases hp
  . exact .inl (L0u (hfit.2 id (by simpa [inI] using hn)))
theorem Jcb {S : Sp} {f : Operand} {ps : Array Tmp} {as body : Code} {Q : Exit -> Env -> Jac -> Prop} {E : Env} {σ : Jac} (h : semC S (.rangeFunc f ps as body) Q E σ) : awpC S (.rangeFunc f ps as body) Q E σ := by simpa only [awpC] using h
@[go_sem] theorem JCq (q : Nat -> Bool) (σ : Jac) (id : Nat) : only q σ id = if q id = true then σ id else none := rfl
mutual
def AV.fd (q k : Nat -> Bool) : AV -> AV
  | .own a s i n => if q a then .any else .own a s i n
  | .ptr a s i j => if k a then .any else .ptr a s i j
  | .mref a => if k a then .any else .mref a
  | .agg cs => .agg (AV.fdL q k cs)
  | .tup cs => .tup (AV.fdL q k cs)
  | .clo g cs => .clo g (AV.fdL q k cs)
  | a => a
def AV.fdL (q k : Nat -> Bool) : List AV -> List AV
  | [] => []
  | c :: cs => AV.fd q k c :: AV.fdL q k cs
end
theorem AV.fdL_eq (q k : Nat -> Bool) (cs : List AV) : AV.fdL q k cs = cs.map (AV.fd q k) := by
  induction cs with
  | nil => rfl
  | cons c cs ih => simp [AV.fdL, ih]
inductive OwnN : AV -> Nat -> Prop
  | own (id sz i n : Nat) : OwnN (.own id sz i n) id
  | agg (cs : List AV) (c : AV) (id : Nat) (hc : c ∈ cs) (h : OwnN c id) : OwnN (.agg cs) id
  | tup (cs : List AV) (c : AV) (id : Nat) (hc : c ∈ cs) (h : OwnN c id) : OwnN (.tup cs) id
  | clo (g : Nat) (cs : List AV) (c : AV) (id : Nat) (hc : c ∈ cs) (h : OwnN c id) : OwnN (.clo g cs) id
mutual
theorem AV.fd_names {q k : Nat -> Bool} (hk : ∀ i, k i = true -> q i = true) : ∀ (a : AV) (id : Nat), (Names (AV.fd q k a) id -> Names a id /\ k id = false) /\ (OwnN (AV.fd q k a) id -> q id = false)
  | .own a s i n, id => by
    simp only [AV.fd]; split
    . exact ⟨fun h => (by cases h), fun h => (by cases h)⟩
    . rename_i hq
      refine ⟨fun h => ?_, fun h => ?_⟩
      . cases h
        refine ⟨.own .., ?_⟩
        cases hkk : k a with
        | false => rfl
        | true => exact absurd (hk a hkk) hq
      . cases h; simpa using hq
  | .ptr a s i j, id => by
    simp only [AV.fd]; split
    . exact ⟨fun h => (by cases h), fun h => (by cases h)⟩
    . rename_i hq; exact ⟨fun h => (by cases h; exact ⟨.ptr .., by simpa using hq⟩), fun h => (by cases h)⟩
  | .mref a, id => by
    simp only [AV.fd]; split
    . exact ⟨fun h => (by cases h), fun h => (by cases h)⟩
    . rename_i hq; exact ⟨fun h => (by cases h; exact ⟨.mref .., by simpa using hq⟩), fun h => (by cases h)⟩
  | .agg cs, id => by
    simp only [AV.fd]
    refine ⟨fun h => ?_, fun h => ?_⟩
    . cases h with
      | agg _ c _ hc h => obtain ⟨c0, h0, h1, _⟩ := AV.fdL_names hk cs id c hc; exact ⟨.agg cs c0 id h0 (h1 h).1, (h1 h).2⟩
    . cases h with
      | agg _ c _ hc h => obtain ⟨c0, h0, _, h1⟩ := AV.fdL_names hk cs id c hc; exact h1 h
  | .tup cs, id => by
    simp only [AV.fd]
    refine ⟨fun h => ?_, fun h => ?_⟩
    . cases h with
      | tup _ c _ hc h => obtain ⟨c0, h0, h1, _⟩ := AV.fdL_names hk cs id c hc; exact ⟨.tup cs c0 id h0 (h1 h).1, (h1 h).2⟩
    . cases h with
      | tup _ c _ hc h => obtain ⟨c0, h0, _, h1⟩ := AV.fdL_names hk cs id c hc; exact h1 h
  | .clo g cs, id => by
    simp only [AV.fd]
    refine ⟨fun h => ?_, fun h => ?_⟩
    . cases h with
      | clo _ _ c _ hc h => obtain ⟨c0, h0, h1, _⟩ := AV.fdL_names hk cs id c hc; exact ⟨.clo g cs c0 id h0 (h1 h).1, (h1 h).2⟩
    . cases h with
      | clo _ _ c _ hc h => obtain ⟨c0, h0, _, h1⟩ := AV.fdL_names hk cs id c hc; exact h1 h
  | .any, id => ⟨fun h => (by simp only [AV.fd] at h; cases h), fun h => (by simp only [AV.fd] at h; cases h)⟩
  | .v x, id => ⟨fun h => (by simp only [AV.fd] at h; cases h), fun h => (by simp only [AV.fd] at h; cases h)⟩
  | .sl s es, id => ⟨fun h => (by simp only [AV.fd] at h; cases h), fun h => (by simp only [AV.fd] at h; cases h)⟩
  | .pt e j, id => ⟨fun h => (by simp only [AV.fd] at h; cases h), fun h => (by simp only [AV.fd] at h; cases h)⟩
  | .new e s es, id => ⟨fun h => (by simp only [AV.fd] at h; cases h), fun h => (by simp only [AV.fd] at h; cases h)⟩
  | .nptr e s es, id => ⟨fun h => (by simp only [AV.fd] at h; cases h), fun h => (by simp only [AV.fd] at h; cases h)⟩
  | .yld l, id => ⟨fun h => (by simp only [AV.fd] at h; cases h), fun h => (by simp only [AV.fd] at h; cases h)⟩
  | .cut s es, id => ⟨fun h => (by simp only [AV.fd] at h; cases h), fun h => (by simp only [AV.fd] at h; cases h)⟩
  | .mp es, id => ⟨fun h => (by simp only [AV.fd] at h; cases h), fun h => (by simp only [AV.fd] at h; cases h)⟩
theorem AV.fdL_names {q k : Nat -> Bool} (hk : ∀ i, k i = true -> q i = true) : ∀ (cs : List AV) (id : Nat) (c : AV), c ∈ AV.fdL q k cs -> ∃ c0 ∈ cs, (Names c id -> Names c0 id /\ k id = false) /\ (OwnN c id -> q id = false)
  | [], id, c, hc => by simp [AV.fdL] at hc
  | x :: cs, id, c, hc => by
    simp only [AV.fdL, L0h] at hc
    rcases hc with rfl | hc
    . exact ⟨x, by simp, AV.fd_names hk x id⟩
    . obtain ⟨c0, h0, h1⟩ := AV.fdL_names hk cs id c hc; exact ⟨c0, by simp [h0], h1⟩
end
theorem AV.fd_cells (q k : Nat -> Bool) (e : AV) : (AV.fd q k e).cells = e.cells.map (AV.fd q k) := by
  cases e with
  | own a s i n => simp only [AV.fd, AV.cells, L0n, L0C]; by_cases h : q a = true <;> simp [h]
  | ptr a s i n => simp only [AV.fd, AV.cells, L0n, L0C]; by_cases h : k a = true <;> simp [h]
  | mref a => simp only [AV.fd, AV.cells, L0n, L0C]; by_cases h : k a = true <;> simp [h]
  | _ => simp [AV.fd, AV.cells, AV.fdL_eq]
section
variable {w w' : World} {ρ ρ' : Nat -> Option Nat} {Im Im' : Nat -> Prop}
theorem Rep.fd {q k : Nat -> Bool} {a : AV} {y : Value} (h : Rep w ρ Im a y) : Rep w ρ Im (AV.fd q k a) y := by
  have irep : ∀ {a : AV} {y : Value}, IRep w Im a y -> IRep w Im (AV.fd q k a) y := by
    intro a y h
    induction h with
    | any y => exact .any y
    | v x => exact .v x
    | agg cs ys hl h1 _ ih =>
      simp only [AV.fd, AV.fdL_eq]
      refine .agg _ ys (by simpa using hl) h1 fun j c y hj hy => ?_
      rw [L03] at hj
      cases hc : cs[j]? with
      | none => simp [hc] at hj
      | some c0 => simp [hc] at hj; subst hj; exact ih j c0 y hc hy
    | slnil sz a cap => exact .slnil sz a cap
    | cut sz es a h _ => exact .cut sz es a h
    | sl sz es b o cap f hIm hcap hsz hcc hh _ => exact .sl sz es b o cap f hIm hcap hsz hcc hh
    | pt e j b o f hIm hcc hh _ => exact .pt e j b o f hIm hcc hh
    | tup cs ys hl _ ih =>
      simp only [AV.fd, AV.fdL_eq]
      refine .tup _ ys (by simpa using hl) fun j c y hj hy => ?_
      rw [L03] at hj
      cases hc : cs[j]? with
      | none => simp [hc] at hj
      | some c0 => simp [hc] at hj; subst hj; exact ih j c0 y hc hy
    | clo g cs ys hl _ ih =>
      simp only [AV.fd, AV.fdL_eq]
      refine .clo g _ ys (by simpa using hl) fun j c y hj hy => ?_
      rw [L03] at hj
      cases hc : cs[j]? with
      | none => simp [hc] at hj
      | some c0 => simp [hc] at hj; subst hj; exact ih j c0 y hc hy
    | yld l => exact .yld l
    | mpnil => exact .mpnil
    | mp es b ents clk f hIm hb hl hes hh _ => exact .mp es b ents clk f hIm hb hl hes hh
  induction h with
  | im a y h => exact .im _ _ (irep h)
  | agg cs ys hl h1 _ ih =>
    simp only [AV.fd, AV.fdL_eq]
    refine .agg _ ys (by simpa using hl) h1 fun j c y hj hy => ?_
    rw [L03] at hj
    cases hc : cs[j]? with
    | none => simp [hc] at hj
    | some c0 => simp [hc] at hj; subst hj; exact ih j c0 y hc hy
  | tup cs ys hl _ ih =>
    simp only [AV.fd, AV.fdL_eq]
    refine .tup _ ys (by simpa using hl) fun j c y hj hy => ?_
    rw [L03] at hj
    cases hc : cs[j]? with
    | none => simp [hc] at hj
    | some c0 => simp [hc] at hj; subst hj; exact ih j c0 y hc hy
  | clo g cs ys hl _ ih =>
    simp only [AV.fd, AV.fdL_eq]
    refine .clo g _ ys (by simpa using hl) fun j c y hj hy => ?_
    rw [L03] at hj
    cases hc : cs[j]? with
    | none => simp [hc] at hj
    | some c0 => simp [hc] at hj; subst hj; exact ih j c0 y hc hy
  | ownNil i sz hr => simp only [AV.fd]; split; exact .im _ _ (.any _); exact .ownNil i sz hr
  | own i sz n b cap cur e hr hn hcap hb hsz hz => simp only [AV.fd]; split; exact .im _ _ (.any _); exact .own i sz n b cap cur e hr hn hcap hb hsz hz
  | ownAt i sz k n b cap a hi hr hn ha hz => simp only [AV.fd]; split; exact .im _ _ (.any _); exact .ownAt i sz k n b cap a hi hr hn ha hz
  | ptr i sz k j b hr hz => simp only [AV.fd]; split; exact .im _ _ (.any _); exact .ptr i sz k j b hr hz
  | mref i b hr => simp only [AV.fd]; split; exact .im _ _ (.any _); exact .mref i b hr
theorem Rep.over (hI : ∀ b, Im b -> Im' b) (hc : ∀ b, Im b -> w'.heap[b]? = w.heap[b]?) {a : AV} {y : Value} (h : Rep w ρ Im a y) (hρ : ∀ id, Names a id -> ρ' id = ρ id) (hs : ∀ id, OwnN a id -> ∀ b, ρ id = some b -> JsW w w' b) : Rep w' ρ' Im' a y := by
  induction h with
  | im a y h => exact .im a y (h.mono hI hc)
  | agg cs ys hl h1 _ ih => exact .agg cs ys hl h1 fun j c y hj hy => ih j c y hj hy (fun id hn => hρ id (.agg cs c id (L01 hj) hn)) fun id hn => hs id (.agg cs c id (L01 hj) hn)
  | tup cs ys hl _ ih => exact .tup cs ys hl fun j c y hj hy => ih j c y hj hy (fun id hn => hρ id (.tup cs c id (L01 hj) hn)) fun id hn => hs id (.tup cs c id (L01 hj) hn)
  | clo g cs ys hl _ ih => exact .clo g cs ys hl fun j c y hj hy => ih j c y hj hy (fun id hn => hρ id (.clo g cs c id (L01 hj) hn)) fun id hn => hs id (.clo g cs c id (L01 hj) hn)
  | ownNil id sz h => exact .ownNil id sz (by rw [hρ id (.own ..)]; exact h)
  | own id sz n b cap cur e hr hn hcap hb hsz hz =>
    obtain ⟨cur', h3, h4⟩ := hs id (.own ..) b hr cur e hb
    exact .own id sz n b cap cur' e (by rw [hρ id (.own ..)]; exact hr) hn hcap h3 (by rw [h4]; exact hsz) hz
  | ownAt id sz i n b cap a hi hr hn ha hz => exact .ownAt id sz i n b cap a hi (by rw [hρ id (.own ..)]; exact hr) hn ha hz
  | ptr id sz i j b hr hz => exact .ptr id sz i j b (by rw [hρ id (.ptr ..)]; exact hr) hz
  | mref id b hr => exact .mref id b (by rw [hρ id (.mref ..)]; exact hr)
end
def fdE (q k : Nat -> Bool) (E : Env) : Env := fun t => AV.fd q k (E t)
def Blk.fd (q k : Nat -> Bool) (b : Blk) : Blk := { b with es := AV.fdL q k b.es }
def fdS (q k : Nat -> Bool) (σ σ' : Jac) : Jac := fun id => if q id then σ' id else (σ id).map (Blk.fd q k)
def Jee (lo : Nat) (ρ : Nat -> Option Nat) (Im : Nat -> Prop) (obs : List (Option Nat)) : Prop :=
  (∀ b, some b ∈ obs -> lo <= b /\ ¬ Im b /\ ∀ id, ρ id ≠ some b) /\ obs.Pairwise fun x y => x = none \/ x ≠ y
def RR (w w' : World) (ρ : Nat -> Option Nat) (Im : Nat -> Prop) (r : AV) (y : Value) : Prop :=
  match r with
  | .tup rs => ∃ ys obs, y = .tuple ys.toArray /\ RL w' Im rs ys obs /\ Jee w.heap.size ρ Im obs
  | .clo g rs => ∃ ys obs, y = mkF g ys /\ RL w' Im rs ys obs /\ Jee w.heap.size ρ Im obs
  | r => ∃ ob, R1 w' Im r y ob /\ Jee w.heap.size ρ Im [ob]
def LOK (P : Program) (f : FuncId) (pin : Nat -> Bool) (args : List AV) (σ : Jac) (r : AV) (σ' : Jac) : Prop :=
  (∀ as w, (callFunc f as).run P w = .ok (.enter f as) w) /\
  ∀ (w : World) (Im : Nat -> Prop) (ρ : Nat -> Option Nat) (vs : List Value), Inv w ρ Im σ -> GOK w Im -> Reps w ρ Im args vs ->
    Calls P f vs.toArray w fun e w' => ∃ y ρ' Im', e = .returned y /\ Ext w (fun b => ∃ id, ρ id = some b) w' /\ Inv w' ρ' Im' σ' /\ (∀ b, Im b -> Im' b) /\ (∀ b, Im' b -> Im b \/ w.heap.size <= b) /\
      (∀ id b, ρ' id = some b -> ρ id = some b \/ w.heap.size <= b) /\ (∀ id, pin id = true -> ρ' id = ρ id) /\ RR w w' ρ' Im' r y
mutual
theorem AV.fd_free (q k : Nat -> Bool) : ∀ a : AV, AV.namesB allB a = false -> AV.fd q k a = a
  | .own a s i n, h => by simp [AV.namesB, allB] at h
  | .ptr a s i n, h => by simp [AV.namesB, allB] at h
  | .mref a, h => by simp [AV.namesB, allB] at h
  | .agg cs, h => by simp only [AV.namesB] at h; simp only [AV.fd, AV.fdL_free q k cs h]
  | .tup cs, h => by simp only [AV.namesB] at h; simp only [AV.fd, AV.fdL_free q k cs h]
  | .clo g cs, h => by simp only [AV.namesB] at h; simp only [AV.fd, AV.fdL_free q k cs h]
  | .any, _ => rfl
  | .v x, _ => rfl
  | .sl s es, _ => rfl
  | .pt e j, _ => rfl
  | .new e s es, _ => rfl
  | .nptr e s es, _ => rfl
  | .yld l, _ => rfl
  | .mp es, _ => rfl
  | .cut s es, _ => rfl
theorem AV.fdL_free (q k : Nat -> Bool) : ∀ cs : List AV, AV.namesL allB cs = false -> AV.fdL q k cs = cs
  | [], _ => rfl
  | c :: cs, h => by
    simp only [AV.namesL, L1B] at h; simp only [AV.fdL, AV.fd_free q k c h.1, AV.fdL_free q k cs h.2]
end
def notI (q : Nat -> Bool) : Nat -> Bool := fun i => !q i
def movI (q pin : Nat -> Bool) : Nat -> Bool := fun i => q i && !pin i
section
variable {S : Sp} {C : Fx} {E : Env} {σ σ' : Jac} {a : Act} {w w' : World} {ρ ρ' : Nat -> Option Nat} {Im Im' : Nat -> Prop} {M : Str} {q pin : Nat -> Bool}
theorem Jrb (hinv : Inv w ρ Im σ) (hx : Ext w (fun b => ∃ id, killR (notI q) ρ id = some b) w') (hi : Inv w' ρ' Im' σ') (hI1 : ∀ b, Im b -> Im' b) (hI2 : ∀ b, Im' b -> Im b \/ w.heap.size <= b)
    (hρ : ∀ id b, ρ' id = some b -> killR (notI q) ρ id = some b \/ w.heap.size <= b) (hpin : ∀ id, pin id = true -> ρ' id = killR (notI q) ρ id)
    (hdom : ∀ id k, σ' id = some k -> q id = true /\ AV.namesL (notI q) k.es = false) :
    (∀ v z, Rep w ρ Im v z -> Rep w' (fun id => if q id then ρ' id else ρ id) Im' (AV.fd q (movI q pin) v) z) /\ Inv w' (fun id => if q id then ρ' id else ρ id) Im' (fdS q (movI q pin) σ σ') := by
  have hmq : ∀ i, movI q pin i = true -> q i = true := fun i h => by simp [movI] at h; exact h.1
  have hkr : ∀ {id b}, killR (notI q) ρ id = some b -> ρ id = some b := fun h => (Jaf h).2
  have hkq : ∀ {id}, q id = true -> killR (notI q) ρ id = ρ id := fun h => Jax ρ (by simp [notI, h])
  have out : ∀ id b, ρ id = some b -> q id = false -> w'.heap[b]? = w.heap[b]? := fun id b hb hq => hx.block b (hinv.lt hb) fun ⟨id', h'⟩ => by
    obtain ⟨hp, h'⟩ := Jaf h'
    have := hinv.inj id id' b hb h'
    subst this; simp [notI, hq] at hp
  have imb : ∀ b, Im b -> w'.heap[b]? = w.heap[b]? := fun b hb => hx.block b (hinv.low b hb) fun ⟨id', h'⟩ => hinv.apart id' b (hkr h') hb
  have rep : ∀ v z, Rep w ρ Im v z -> Rep w' (fun id => if q id then ρ' id else ρ id) Im' (AV.fd q (movI q pin) v) z := fun v z hv => by
    refine Rep.over hI1 imb (hv.fd (q := q) (k := movI q pin)) (fun id hn => ?_) fun id hn b hb cur e hc => ?_
    . obtain ⟨h1, h2⟩ := (AV.fd_names hmq v id).1 hn
      skip
      split
      . rename_i hq
        have hp : pin id = true := by simp [movI, hq] at h2; exact h2
        rw [hpin id hp, hkq hq]
      . rfl
    . have hq := (AV.fd_names hmq v id).2 hn
      exact ⟨cur, by rw [out id b hb hq]; exact hc, rfl⟩
  have repq : ∀ {c x}, Rep w' ρ' Im' c x -> (∀ id, Names c id -> q id = true) -> Rep w' (fun id => if q id then ρ' id else ρ id) Im' c x := fun {c x} hr hn =>
    Rep.mono (w := w') (w' := w') (fun _ h => h) (fun _ _ => rfl) hr fun id hid => ⟨by simp [hn id hid], fun b hb cur e hc => ⟨cur, hc, rfl⟩⟩
  have inq : ∀ {id k e id'}, σ' id = some k -> e ∈ k.es -> Names e id' -> q id' = true := fun {id k e id'} hk he hn => by
    have := (hdom id k hk).2
    cases hq : q id' with
    | true => rfl
    | false =>
      have := (AV.namesL_iff (notI q) k.es).2 ⟨e, he, AV.namesB_of (notI q) hn (by simp [notI, hq])⟩
      rw [(hdom id k hk).2] at this; cases this
  refine ⟨rep, ⟨fun id k hk hr => ?_, fun id k b hk hr hz => ?_, fun id k b hk hr hz => ?_, fun i j b h1 h2 => ?_, fun id b hr hs => ?_, fun id b hr hb => ?_, hi.low⟩⟩
  . simp only [fdS] at hk
    split at hk
    . rename_i hq; simp only [hq, if_true] at hr
      exact hi.nil id k hk hr
    . rename_i hq; simp only [hq] at hr
      obtain ⟨k0, h0, rfl⟩ := L0i.1 hk
      have := hinv.nil id k0 h0 (by simpa using hr)
      simp [Blk.fd, this, AV.fdL]
  . simp only [fdS] at hk
    split at hk
    . rename_i hq; simp only [hq, if_true] at hr
      obtain ⟨ents, clk, hb, hl, hc⟩ := hi.map id k b hk hr hz
      refine ⟨ents, clk, hb, hl, fun i m hm => ?_⟩
      obtain ⟨v, hv, hrv⟩ := hc i m hm
      exact ⟨v, hv, repq hrv fun id' hn => inq hk (L01 hv) (.tup _ v id' (by simp) hn)⟩
    . rename_i hq
      have hq : q id = false := by simpa using hq
      simp only [hq] at hr
      obtain ⟨k0, h0, rfl⟩ := L0i.1 hk
      obtain ⟨ents, clk, hb, hl, hc⟩ := hinv.map id k0 b h0 (by simpa using hr) hz
      refine ⟨ents, clk, by rw [out id b (by simpa using hr) hq]; exact hb, by simp only [Blk.fd, AV.fdL_eq, L05]; exact hl, fun i m hm => ?_⟩
      obtain ⟨v, hv, hrv⟩ := hc i m hm
      exact ⟨AV.fd q (movI q pin) v, by simp only [Blk.fd, AV.fdL_eq, L03, hv, L0K, AV.fd, L0n, L0C], rep _ _ hrv⟩
  . simp only [fdS] at hk
    split at hk
    . rename_i hq; simp only [hq, if_true] at hr
      obtain ⟨cur, hb, hl, hs, hc⟩ := hi.blk id k b hk hr hz
      refine ⟨cur, hb, hl, hs, fun i e j c he hcc => ?_⟩
      obtain ⟨x, hxx, h1, hrx⟩ := hc i e j c he hcc
      exact ⟨x, hxx, h1, repq hrx fun id' hn => inq hk (L01 he) (Jbh (L01 hcc) hn)⟩
    . rename_i hq
      have hq : q id = false := by simpa using hq
      simp only [hq] at hr
      obtain ⟨k0, h0, rfl⟩ := L0i.1 hk
      obtain ⟨cur, hb, hl, hs, hc⟩ := hinv.blk id k0 b h0 (by simpa using hr) hz
      refine ⟨cur, by rw [out id b (by simpa using hr) hq]; exact hb, fun e he => ?_, by simp only [Blk.fd, AV.fdL_eq, L05]; exact hs, fun i e j c he hcc => ?_⟩
      . simp only [Blk.fd, AV.fdL_eq, L06] at he; obtain ⟨e0, he0, rfl⟩ := he
        rw [AV.fd_cells, L05]; exact hl e0 he0
      . simp only [Blk.fd, AV.fdL_eq, L03] at he
        cases h3 : k0.es[i]? with
        | none => simp [h3] at he
        | some e0 =>
          simp [h3] at he; subst he
          rw [AV.fd_cells, L03] at hcc
          cases h4 : e0.cells[j]? with
          | none => simp [h4] at hcc
          | some c0 =>
            simp [h4] at hcc; subst hcc
            obtain ⟨x, hxx, h1, hrx⟩ := hc i e0 j c0 h3 h4
            exact ⟨x, hxx, h1, rep _ _ hrx⟩
  . have mixed : ∀ i j, q i = true -> q j = false -> ρ' i = some b -> ρ j = some b -> i = j := fun i j hi' hj h1 h2 => by
      rcases hρ i b h1 with h3 | h3
      . exact hinv.inj i j b (hkr h3) h2
      . have := hinv.lt h2; omega
    skip
    cases hqi : q i <;> cases hqj : q j <;> simp only [hqi, hqj, if_true, L0A, if_false] at h1 h2
    . exact hinv.inj i j b h1 h2
    . exact (mixed j i hqj hqi h2 h1).symm
    . exact mixed i j hqi hqj h1 h2
    . exact hi.inj i j b h1 h2
  . skip
    simp only [fdS] at hs
    split at hs
    . rename_i hq; simp only [hq, if_true] at hr
      exact hi.live id b hr hs
    . rename_i hq; simp only [hq] at hr
      exact hinv.live id b (by simpa using hr) (by simpa using hs)
  . skip
    cases hq : q id <;> simp only [hq, if_true, L0A, if_false] at hr
    . rcases hI2 b hb with h' | h'
      . exact hinv.apart id b hr h'
      . have := hinv.lt hr; omega
    . exact hi.apart id b hr hb
theorem Wit.lent (H : Holds S C) (h : Wit C E σ a w ρ Im M) (hx : Ext w (fun b => ∃ id, killR (notI q) ρ id = some b) w') (hi : Inv w' ρ' Im' σ') (hI1 : ∀ b, Im b -> Im' b) (hI2 : ∀ b, Im' b -> Im b \/ w.heap.size <= b)
    (hρ : ∀ id b, ρ' id = some b -> killR (notI q) ρ id = some b \/ w.heap.size <= b) (hpin : ∀ id, pin id = true -> ρ' id = killR (notI q) ρ id)
    (hdom : ∀ id k, σ' id = some k -> q id = true /\ AV.namesL (notI q) k.es = false) (hsp : ∀ id, S.pin id = true -> q id = true -> pin id = true)
    {d : Nat} (hdd : d < 100000) {r : AV} {y : Value} (hrr : RR w w' ρ' Im' r y) (hlen : rlen r <= 16) {dst : Option Nat} (hd : ∀ d, dst = some d -> d < C.N) :
    ∃ ρ3 Im3, Wit C (updO (JaT (own (S.b + d)) (fdE q (movI q pin) E)) dst (imp (16 * (S.b + d)) r).1) (addS (Jaj (own (S.b + d)) (fdS q (movI q pin) σ σ')) (imp (16 * (S.b + d)) r).2) (a.put dst y) w' ρ3 Im3 M /\ ∀ i, i / 16 ≠ S.b + d -> ρ3 i = if q i then ρ' i else ρ i := by
  obtain ⟨rep, hinv2⟩ := Jrb (pin := pin) h.inv hx hi hI1 hI2 hρ hpin hdom
  have henv2 : JaG w' (fun id => if q id then ρ' id else ρ id) Im' (fdE q (movI q pin) E) a.tmps := fun t z hz => rep _ _ (h.env t z hz)
  have hinv3 := hinv2.kill (own (S.b + d)); have henv3 := henv2.kill (own (S.b + d))
  have hcl : ∀ k, k < 16 -> Jbd (16 * (S.b + d) + k) (JaT (own (S.b + d)) (fdE q (movI q pin) E)) (Jaj (own (S.b + d)) (fdS q (movI q pin) σ σ')) := fun k hk => JbC (by simp [own]; omega) _ _
  have hfree := H.free hdd; have hownp := H.own hdd
  have old : ∀ i b, killR (own (S.b + d)) (fun id => if q id then ρ' id else ρ id) i = some b -> ρ i = some b \/ w.heap.size <= b := fun i b hb => by
    have hb := (Jaf hb).2
    skip
    split at hb
    . rcases hρ i b hb with h' | h'
      . exact .inl (Jaf h').2
      . exact .inr h'
    . exact .inl hb
  have notfresh : ∀ b, w.heap.size <= b -> (∀ id, ρ' id ≠ some b) -> ∀ i, killR (own (S.b + d)) (fun id => if q id then ρ' id else ρ id) i ≠ some b := fun b hge hn i hb => by
    have hb := (Jaf hb).2
    skip
    split at hb
    . exact hn i hb
    . have := h.inv.lt hb; omega
  have pin3 : ∀ id ob, C.pin id = some ob -> killR (own (S.b + d)) (fun id => if q id then ρ' id else ρ id) id = ob := fun id ob hp => by
    rw [Jax _ (hownp id ob hp)]
    skip
    split
    . rename_i hq
      rw [hpin id (hsp id (H.pin id ob hp) hq), Jax ρ (by simp [notI, hq])]; exact h.pin id ob hp
    . exact h.pin id ob hp
  have hEN : JaT (own (S.b + d)) (fdE q (movI q pin) E) C.N = E C.N := by
    have h1 : fdE q (movI q pin) E C.N = E C.N := AV.fd_free _ _ _ (h.gh allB)
    show (fdE q (movI q pin) E C.N).kill _ = _
    rw [h1]; exact Jcp (h.gh _)
  have hxx : Ext w (fun b => ∃ id, ρ id = some b) w' := hx.mono fun b _ ⟨id, hb⟩ => ⟨id, (Jaf hb).2⟩
  have fin : ∀ (v : AV) (l : List (Nat × Blk)) (ρ3 : Nat -> Option Nat) (obs : List (Option Nat)), Jee w.heap.size ρ' Im' obs -> Inv w' ρ3 Im' (addS (Jaj (own (S.b + d)) (fdS q (movI q pin) σ σ')) l) -> JaG w' ρ3 Im' (JaT (own (S.b + d)) (fdE q (movI q pin) E)) a.tmps -> Rep w' ρ3 Im' v y ->
      (∀ i b, ρ3 i = some b -> killR (own (S.b + d)) (fun id => if q id then ρ' id else ρ id) i = some b \/ some b ∈ obs) -> (∀ i, C.pin i ≠ none -> ρ3 i = killR (own (S.b + d)) (fun id => if q id then ρ' id else ρ id) i) ->
      Wit C (updO (JaT (own (S.b + d)) (fdE q (movI q pin) E)) dst v) (addS (Jaj (own (S.b + d)) (fdS q (movI q pin) σ σ')) l) (a.put dst y) w' ρ3 Im' M := fun v l ρ3 obs hf i3 e3 r3 g3 p3 =>
    h.step H.G hxx i3 (e3.put r3) (JbO ..) (Ja8 ..) ((JdN hd).trans hEN) (fun i b hb => by
      rcases g3 i b hb with h' | h'
      . exact old i b h'
      . exact .inr (hf.1 b h').1) hI2 (fun i ob hp => (p3 i (by rw [hp]; simp)).trans (pin3 i ob hp)) hI1
  have fresh : ∀ obs, Jee w.heap.size ρ' Im' obs -> ∀ b, some b ∈ obs -> (∀ i, killR (own (S.b + d)) (fun id => if q id then ρ' id else ρ id) i ≠ some b) /\ ¬ Im' b := fun obs hf b hb =>
    ⟨notfresh b (hf.1 b hb).1 (hf.1 b hb).2.2, (hf.1 b hb).2.1⟩
  have one : ∀ ob, R1 w' Im' r y ob -> Jee w.heap.size ρ' Im' [ob] -> imp (16 * (S.b + d)) r = imp1 (16 * (S.b + d)) r ->
      ∃ ρ3 Im3, Wit C (updO (JaT (own (S.b + d)) (fdE q (movI q pin) E)) dst (imp (16 * (S.b + d)) r).1) (addS (Jaj (own (S.b + d)) (fdS q (movI q pin) σ σ')) (imp (16 * (S.b + d)) r).2) (a.put dst y) w' ρ3 Im3 M /\ ∀ i, i / 16 ≠ S.b + d -> ρ3 i = if q i then ρ' i else ρ i := fun ob hr1 hf he => by
    obtain ⟨ρ3, i3, e3, r3, g3, _, _, _, p3⟩ := Jfr hinv3 henv3 (id := 16 * (S.b + d)) (by simpa using hcl 0 (by omega)) hr1 (fun b hb => fresh [ob] hf b (by simp [hb]))
    rw [he]
    exact ⟨ρ3, Im', fin _ _ ρ3 [ob] hf i3 e3 r3 (fun i b hb => by
      rcases g3 i b hb with h' | h'
      . exact .inl h'
      . exact .inr (by simp [h'])) (fun i hi => p3 i fun e => hi (by rw [e]; simpa using hfree 0 (by omega))), fun i hi => (p3 i (by omega)).trans (Jax _ (by simp [own]; omega))⟩
  have many : ∀ (rs : List AV) (ys : List Value) (obs : List (Option Nat)), RL w' Im' rs ys obs -> Jee w.heap.size ρ' Im' obs -> rs.length <= 16 -> ∀ v, (∀ ρ3, Reps w' ρ3 Im' (impL (16 * (S.b + d)) rs).1 ys -> Rep w' ρ3 Im' v y) ->
      ∃ ρ3 Im3, Wit C (updO (JaT (own (S.b + d)) (fdE q (movI q pin) E)) dst v) (addS (Jaj (own (S.b + d)) (fdS q (movI q pin) σ σ')) (impL (16 * (S.b + d)) rs).2) (a.put dst y) w' ρ3 Im3 M /\ ∀ i, i / 16 ≠ S.b + d -> ρ3 i = if q i then ρ' i else ρ i := fun rs ys obs hrl hf hl v hv => by
    obtain ⟨ρ3, i3, e3, r3, g3, _, p3⟩ := JdX rs ys obs (16 * (S.b + d)) _ _ hinv3 henv3 (fun k hk => hcl k (by omega)) hrl (fresh obs hf) hf.2
    exact ⟨ρ3, Im', fin _ _ ρ3 obs hf i3 e3 (hv ρ3 r3) g3 (fun i hi => p3 i fun k hk e => hi (by rw [e]; exact hfree k (by omega))), fun i hi => (p3 i fun k hk e => by omega).trans (Jax _ (by simp [own]; omega))⟩
  cases r with
  | tup rs =>
    obtain ⟨ys, obs, rfl, hrl, hf⟩ := hrr
    exact many rs ys obs hrl hf hlen _ fun ρ3 r3 => .tup _ ys r3.1 r3.2
  | clo g rs =>
    obtain ⟨ys, obs, rfl, hrl, hf⟩ := hrr
    exact many rs ys obs hrl hf hlen _ fun ρ3 r3 => .clo g _ ys r3.1 r3.2
  | _ =>
    obtain ⟨ob, hr1, hf⟩ := hrr
    exact one ob hr1 hf rfl
end
theorem JhM {S : Sp} {E : Env} {σ : Jac} {K : Env -> Jac -> Prop} {dst : Option Nat} {f : Operand} {args : Array Operand} {ats : Array TypeId} {ty : TypeId} {g : FuncId} {caps : List AV} (hfv : ev E f = .clo g caps) (xs : List AV)
    (hx : (JaH caps = true /\ xs = args.toList.map (ev E) ++ caps) \/ ∃ bs, caps = .v (.tuple #[]) :: bs /\ xs = bs ++ args.toList.map (ev E)) (q pin : Nat -> Bool) {r : AV} {σ' : Jac}
    (hL : LOK S.P g pin xs (only q σ) r σ') (hq : AV.namesL (notI q) xs = false) (hqs : ∀ id k, σ id = some k -> q id = true -> AV.namesL (notI q) k.es = false)
    (hdom : ∀ id k, σ' id = some k -> q id = true /\ AV.namesL (notI q) k.es = false) (hsp : ∀ id, S.pin id = true -> q id = true -> pin id = true) (hfit : (dst.all (decide <| · < S.N) && Op.low S.N (.call { callee := .value f, args, argTypes := ats })) = true)
    (hlen : rlen r <= 16) {d : Nat} (hd : d < 100000)
    (hK : K (updO (JaT (own (S.b + d)) (fdE q (movI q pin) E)) dst (imp (16 * (S.b + d)) r).1) (addS (Jaj (own (S.b + d)) (fdS q (movI q pin) σ σ')) (imp (16 * (S.b + d)) r).2)) : semD S dst (.call { callee := .value f, args, argTypes := ats }) ty K E σ := by
  intro pos after guard C H n a w Kc Q ⟨ρ, Im, M, h⟩ hKc
  simp only [L00] at hfit; obtain ⟨hdst, hlow⟩ := hfit
  have hdst : ∀ d, dst = some d -> d < S.N := fun d hd => by subst hd; simpa using hdst
  have rep : ∀ x, x ∈ (Op.call { callee := .value f, args, argTypes := ats }).operands -> Rep w ρ Im (ev E x) (a.eval x) := fun x hx => JbL h.env (by rw [h.size, <- H.N]; exact Jbw hlow hx)
  refine ⟨fun _ _ => trivial, ?_⟩
  rw [Oper.semAt_eq _ _ _ (fun c e => by cases e)]
  have hfr := rep f (by simp [Op.operands, Call.operands])
  rw [hfv] at hfr
  have hargs : ∀ x ∈ args.toList, Rep w ρ Im (ev E x) (a.eval x) := fun x hx => rep x (by simp [Op.operands, Call.operands]; exact Or.inr (L0t.1 hx))
  have happ : ∀ {l m : List AV} {ys zs : List Value}, Reps w ρ Im l ys -> Reps w ρ Im m zs -> Reps w ρ Im (l ++ m) (ys ++ zs) := fun {l m ys zs} h1 h2 => by
    refine ⟨by simp [h1.1, h2.1], fun j c y hc hy => ?_⟩
    by_cases hj : j < l.length
    . rw [L0m hj] at hc
      rw [L0m (by rw [<- h1.1]; exact hj)] at hy
      exact h1.2 j c y hc hy
    . rw [L0o (by omega)] at hc
      rw [L0o (by rw [<- h1.1]; omega), <- h1.1] at hy
      exact h2.2 _ c y hc hy
  have hargR : Reps w ρ Im (args.toList.map (ev E)) (args.toList.map a.eval) := ⟨by simp, fun j c y hc hy => by
    rw [L03] at hc hy
    cases hx : args.toList[j]? with
    | none => simp [hx] at hc
    | some x =>
      simp only [hx, L0K, Option.some.injEq] at hc hy
      subst hc; subst hy
      exact hargs x (L01 hx)⟩
  obtain ⟨henter, hfn⟩ := hL
  obtain ⟨zs, hall, hrun⟩ : ∃ zs : List Value, Reps w ρ Im xs zs /\ (execOp a.eval { dst, op := .call { callee := .value f, args, argTypes := ats }, type := ty, pos, after, guard }).run S.P w = .ok (.enter g zs.toArray) w := by
    rcases hx with ⟨hhd, rfl⟩ | ⟨bs, rfl, rfl⟩
    . obtain ⟨cys, hfy, hcl', hcr⟩ := hfr.clo_plain hhd
      refine ⟨args.toList.map a.eval ++ cys, happ hargR ⟨hcl', hcr⟩, ?_⟩
      simp only [execOp, resolve, hfy, Deferred.ofValue, Sem.run_bind, Sem.run_pure, Result.andThen_ok, invoke]
      have e1 : (#[] ++ args.map a.eval ++ cys.toArray : Array Value) = (args.toList.map a.eval ++ cys).toArray := by apply L0V.1; simp
      rw [e1]; exact henter _ w
    . obtain ⟨cys, hfy, hcl', hcr⟩ := hfr.clo_inv
      match cys, hcl', hcr, hfy with
      | y :: ys, hcl', hcr, hfy =>
        have hy := (hcr 0 _ y rfl rfl).v_inv; subst hy
        have hfy : a.eval f = .func (.func g) ys.toArray #[] := hfy
        refine ⟨ys ++ args.toList.map a.eval, happ ⟨by simpa using hcl', fun j c y hc hy => hcr (j + 1) c y hc hy⟩ hargR, ?_⟩
        simp only [execOp, resolve, hfy, Deferred.ofValue, Sem.run_bind, Sem.run_pure, Result.andThen_ok, invoke]
        have e1 : (ys.toArray ++ args.map a.eval ++ #[] : Array Value) = (ys ++ args.toList.map a.eval).toArray := by apply L0V.1; simp
        rw [e1]; exact henter _ w
  have hallq : Reps w (killR (notI q) ρ) Im xs zs := ⟨hall.1, fun j c y hc hy => (hall.2 j c y hc hy).killR fun id hid => by
    cases hp : notI q id with
    | false => rfl
    | true =>
      have := (AV.namesL_iff (notI q) _).2 ⟨c, L01 hc, AV.namesB_of _ hid hp⟩
      rw [hq] at this; cases this⟩
  rw [hrun]
  refine ⟨fun h => by simp [FW] at h, JdS ?_⟩
  refine (hfn w Im (killR (notI q) ρ) _ (h.inv.only hqs) (h.gok H) hallq).mono fun e w' ⟨y, ρ', Im', he, hx, hi, hI1, hI2, hρ, hpin, hrr⟩ => ?_
  subst he
  obtain ⟨ρ3, Im3, hw, _⟩ := h.lent (pin := pin) H hx hi hI1 hI2 hρ hpin hdom hsp hd hrr hlen (dst := dst) (by rw [<- H.N]; exact hdst)
  exact hKc _ _ _ _ hK ⟨ρ3, Im3, M, hw⟩
def stO (l : List (Nat × Blk)) : Jac := fun id => (l.find? fun p => p.1 == id).map (·.2)
@[go_sem] theorem JuH (id : Nat) : stO [] id = none := rfl
@[go_sem] theorem Jd9 (i : Nat) (b : Blk) (l : List (Nat × Blk)) (id : Nat) : stO ((i, b) :: l) id = if i = id then some b else stO l id := by
  simp only [stO, L2b]
  by_cases h : i = id
  . subst h; simp
  . have h' : (i == id) = false := by simpa using h
    simp [h, h']
theorem JbR : ∀ {l : List (Nat × Blk)} {id : Nat} {b : Blk}, stO l id = some b -> (id, b) ∈ l
  | [], _, _, h => by cases h
  | (i, c) :: l, id, b, h => by
    rw [Jd9] at h
    split at h
    . rename_i e; cases h; subst e; simp
    . simp [JbR h]
theorem Jea : ∀ {l : List (Nat × Blk)} {id : Nat}, stO l id = none ↔ id ∉ l.map (·.1)
  | [], id => by simp [JuH]
  | (i, c) :: l, id => by
    rw [Jd9]
    by_cases h : i = id
    . subst h; simp
    . rw [if_neg h, Jea]; simp [Ne.symm h]
def frz (L p : Nat -> Bool) (σ : Jac) (c : AV) : AV := if AV.namesB (notI L) c = false then c else res (Jaj p (Jaj L σ)) ((c.kill L).kill p)
def frzE (L p : Nat -> Bool) (σ : Jac) (e : AV) : AV := match e with | .agg cs => .agg (cs.map (frz L p σ)) | e => frz L p σ e
def frzM (L p : Nat -> Bool) (σ : Jac) (e : AV) : AV := match e with | .tup [k, v] => .tup [k, frz L p σ v] | e => e
def frzB (L p : Nat -> Bool) (σ : Jac) (k : Blk) : Blk := ⟨k.e, k.sz, if AV.namesL (notI L) k.es = false then k.es else if k.sz = 0 then k.es.map (frzM L p σ) else k.es.map (frzE L p σ)⟩
def JjE (L p : Nat -> Bool) (σ : Jac) : List (Nat × Blk) -> Prop
  | [] => True
  | (id, b) :: l => (σ id).map (frzB L p σ) = some b /\ JjE L p σ l
theorem JlT {L p : Nat -> Bool} {σ : Jac} : ∀ {l : List (Nat × Blk)} {id : Nat} {b : Blk}, JjE L p σ l -> stO l id = some b -> (σ id).map (frzB L p σ) = some b
  | [], _, _, _, h => by cases h
  | (i, c) :: l, id, b, hl, h => by
    rw [Jd9] at h
    split at h
    . rename_i e; cases h; subst e; exact hl.1
    . exact JlT hl.2 h
section
variable {P : Program} {w : World} {ρ : Nat -> Option Nat} {Im : Nat -> Prop} {σ : Jac} {L p : Nat -> Bool}
theorem JkL (hinv : Inv w ρ Im σ) {c : AV} {x : Value} (h : Rep w ρ Im c x) : Rep w (killR (notI L) ρ) (Seen Im (killR p (killR L ρ))) (frz L p σ c) x := by
  unfold frz
  split
  . rename_i hn
    refine Rep.mono (w := w) (w' := w) (fun b hb => .inl hb) (fun _ _ => rfl) h fun id hid => ⟨Jax ρ ?_, fun b _ cur e hc => ⟨cur, hc, rfl⟩⟩
    cases hp : notI L id with
    | false => rfl
    | true => have := AV.namesB_of (notI L) hid hp; rw [hn] at this; cases this
  . have h1 : Rep w (killR L ρ) Im (c.kill L) x := (h.kill L).killR fun id hid => (AV.kill_names L c id hid).2
    have h2 : Rep w (killR p (killR L ρ)) Im ((c.kill L).kill p) x := (h1.kill p).killR fun id hid => (AV.kill_names p _ id hid).2
    exact .im _ _ (Jg8 ((hinv.kill L).kill p) h2)
theorem Jju {e : AV} : (frzE L p σ e).cells = e.cells.map (frz L p σ) := by
  have one : ∀ e : AV, e.isAgg = false -> (frz L p σ e).cells = e.cells.map (frz L p σ) := fun e he => by
    rw [JcO he, List.map_singleton]
    refine JcO ?_
    unfold frz
    split
    . exact he
    . have k1 : ∀ (q : Nat -> Bool) (x : AV), x.isAgg = false -> (x.kill q).isAgg = false := fun q x hx => by
        unfold AV.kill; split
        . exact JlB q hx
        . exact hx
      exact JfF _ _ (k1 _ _ (k1 _ _ he))
  cases e with
  | agg cs => rfl
  | _ => exact one _ rfl
theorem Jiu (hinv : Inv w ρ Im σ) {id b : Nat} {k : Blk} (hk : σ id = some k) (hr : ρ id = some b) :
    (k.sz = 0 -> Jqo w (killR (notI L) ρ) (Seen Im (killR p (killR L ρ))) (frzB L p σ k).es b) /\
    (k.sz ≠ 0 -> ∃ cur, (∃ fr, w.heap[b]? = some (.cells cur k.e fr) /\ Mk fr cur.size) /\ (∀ e ∈ (frzB L p σ k).es, e.cells.length = k.sz) /\ (frzB L p σ k).es.length * k.sz <= cur.size /\
      (∀ (i : Nat) (e : AV) (j : Nat) (c : AV), (frzB L p σ k).es[i]? = some e -> e.cells[j]? = some c -> ∃ x, cur[i * k.sz + j]? = some x /\ x.oneCell' = true /\ Rep w (killR (notI L) ρ) (Seen Im (killR p (killR L ρ))) c x)) := by
  have keep : ∀ {c x}, AV.namesL (notI L) k.es = false -> (∃ e ∈ k.es, ∀ i, Names c i -> Names e i) -> Rep w ρ Im c x -> Rep w (killR (notI L) ρ) (Seen Im (killR p (killR L ρ))) c x := fun {c x} hn ⟨e, he, hs⟩ h =>
    Rep.mono (w := w) (w' := w) (fun b hb => .inl hb) (fun _ _ => rfl) h fun id hid => ⟨Jax ρ (by
      cases hp : notI L id with
      | false => rfl
      | true => have := (AV.namesL_iff (notI L) k.es).2 ⟨e, he, AV.namesB_of (notI L) (hs id hid) hp⟩; rw [hn] at this; cases this), fun b _ cur e hc => ⟨cur, hc, rfl⟩⟩
  refine ⟨fun hz => ?_, fun hz => ?_⟩
  . obtain ⟨ents, clk, hb, hl, hc⟩ := hinv.map id k b hk hr hz
    by_cases hn : AV.namesL (notI L) k.es = false
    . simp only [frzB, hn, if_true]
      refine ⟨ents, clk, hb, hl, fun i m hm => ?_⟩
      obtain ⟨v, hv, hrv⟩ := hc i m hm
      exact ⟨v, hv, keep hn ⟨_, L01 hv, fun i hi => .tup _ v i (by simp) hi⟩ hrv⟩
    . simp only [frzB, if_neg hn, hz, if_true]
      refine ⟨ents, clk, hb, by simpa using hl, fun i m hm => ?_⟩
      obtain ⟨v, hv, hrv⟩ := hc i m hm
      exact ⟨frz L p σ v, by rw [L03, hv]; rfl, JkL hinv hrv⟩
  . obtain ⟨cur, hb, hl, hs, hc⟩ := hinv.blk id k b hk hr hz
    by_cases hn : AV.namesL (notI L) k.es = false
    . simp only [frzB, hn, if_true]
      refine ⟨cur, hb, hl, hs, fun i e j c he hcc => ?_⟩
      obtain ⟨x, hx, h1, hrx⟩ := hc i e j c he hcc
      exact ⟨x, hx, h1, keep hn ⟨e, L01 he, fun i hi => Jbh (L01 hcc) hi⟩ hrx⟩
    . simp only [frzB, if_neg hn, if_neg hz]
      refine ⟨cur, hb, fun e he => ?_, by simpa using hs, fun i e j c he hcc => ?_⟩
      . obtain ⟨e0, he0, rfl⟩ := L06.1 he
        rw [Jju, L05]; exact hl e0 he0
      . rw [L03] at he
        cases h3 : k.es[i]? with
        | none => simp [h3] at he
        | some e0 =>
          simp [h3] at he; subst he
          rw [Jju, L03] at hcc
          cases h4 : e0.cells[j]? with
          | none => simp [h4] at hcc
          | some c0 =>
            simp [h4] at hcc; subst hcc
            obtain ⟨x, hxx, h1, hrx⟩ := hc i e0 j c0 h3 h4
            exact ⟨x, hxx, h1, JkL hinv hrx⟩
end
def retP (us : List AV) : List AV := match us with | [.clo _ caps] => caps | us => us
theorem JfG {us : List AV} (h : ∀ g caps, us = [.clo g caps] -> False) : retP us = us := by
  unfold retP; split
  . rename_i g caps; exact (h g caps rfl).elim
  . rfl
def JkT (L : Nat -> Bool) (l : List (Nat × Blk)) (r : AV) (σ : Jac) (vs : List AV) : Prop :=
  retK (Jaj L σ) (· = r) (vs.map (AV.kill L)) /\ JjE L (topP (retP (vs.map (AV.kill L)))) σ l
theorem Jm3 {C : Fx} {E : Env} {σ : Jac} {tm : Array Value} {w : World} {ρ ρ0 : Nat -> Option Nat} {Im : Nat -> Prop} {M : Str} {l' : List (Nat × Blk)} {r : AV} {vs : List AV} {ys : List Value}
    (h : Rest C E σ tm w ρ Im M) (hlow0 : ∀ b, C.Im0 b -> b < C.w0.heap.size) (hR0 : ∀ id b, C.R0 id b -> ρ0 id = some b) (hdom : ∀ id b, ρ0 id = some b -> id ∈ l'.map (·.1) /\ b < C.w0.heap.size /\ ¬ C.Im0 b)
    (hr : Reps w ρ Im vs ys) (hk : JkT (inI (l'.map (·.1))) l' r σ vs) :
    ∃ ρ' Im', Inv w ρ' Im' (stO l') /\ (∀ b, Im b -> Im' b) /\ (∀ b, Im' b -> C.Im0 b \/ C.w0.heap.size <= b) /\ (∀ id b, ρ' id = some b -> ρ0 id = some b \/ C.w0.heap.size <= b) /\ (∀ id, inI (l'.map (·.1)) id = true -> ρ' id = ρ id) /\
      RR C.w0 w ρ' Im' r (handed ys) := by
  obtain ⟨hk, hlast⟩ := hk
  let L := inI (l'.map (·.1))
  have hinv2 : Inv w (killR L ρ) Im (Jaj L σ) := h.inv.kill L
  have new : ∀ id b, killR L ρ id = some b -> C.w0.heap.size <= b := fun id b hb => by
    obtain ⟨hl, hb⟩ := Jaf hb
    rcases h.rng id b hb with ⟨_, h1⟩ | h1
    . have := (hdom id b (hR0 id b h1)).1
      simp only [L, inI] at hl
      rw [L0G.2 this] at hl; cases hl
    . exact h1
  have hr2 : Reps w (killR L ρ) Im (vs.map (AV.kill L)) ys := ⟨by simpa using hr.1, fun j c y hc hy => by
    rw [L03] at hc
    cases hv : vs[j]? with
    | none => simp [hv] at hc
    | some v => simp [hv] at hc; subst hc; exact ((hr.2 j v y hv hy).kill L).killR fun id hid => (AV.kill_names L v id hid).2⟩
  -- what comes of all
  have fin : ∀ us : List AV, (topP (retP (vs.map (AV.kill L))) = topP us) -> JeQ (Jaj L σ) us -> ∀ zs, Reps w (killR L ρ) Im us zs -> ∃ obs, RL w (Seen Im (killR (topP us) (killR L ρ))) (us.map (expo (Jaj L σ) (topP us))) zs obs /\
      Jee C.w0.heap.size (killR (notI L) ρ) (Seen Im (killR (topP us) (killR L ρ))) obs := fun us _ hok zs hz => by
    obtain ⟨obs, h1, h2, h3⟩ := Jep hinv2 (p := topP us) us zs hz hok.2 hok.1
    refine ⟨obs, h1, fun b hb => ?_, h3⟩
    obtain ⟨id, hid, hρ⟩ := h2 b hb
    refine ⟨new id b hρ, fun hI => ?_, fun id' h' => ?_⟩
    . rcases hI with hI | ⟨id', hI⟩
      . exact hinv2.apart id b hρ hI
      . obtain ⟨hp, hI⟩ := Jaf hI
        have := hinv2.inj id id' b hρ hI
        subst this
        simp [topP, hid] at hp
    . obtain ⟨hp, h'⟩ := Jaf h'
      obtain ⟨hq, hρ⟩ := Jaf hρ
      have := h.inv.inj id id' b hρ h'
      subst this
      simp [notI, hq] at hp
  have inv3 : ∀ p : Nat -> Bool, JjE L p σ l' -> Inv w (killR (notI L) ρ) (Seen Im (killR p (killR L ρ))) (stO l') := fun p hl => by
    have at' : ∀ {id k}, stO l' id = some k -> ∃ k0, σ id = some k0 /\ k = frzB L p σ k0 := fun {id k} hk => by
      obtain ⟨k0, h0, e⟩ := L0i.1 (JlT hl hk)
      exact ⟨k0, h0, e.symm⟩
    refine ⟨fun id k hk hr => ?_, fun id k b hk hr hz => ?_, fun id k b hk hr hz => ?_, fun i j b h1 h2 => h.inv.inj i j b (Jaf h1).2 (Jaf h2).2, fun id b hr hs => ?_, fun id b hr hI => ?_, fun b hb => ?_⟩
    . obtain ⟨k0, h0, rfl⟩ := at' hk
      have hL : L id = true := by
        have := JbR hk
        simp only [L, inI]; exact L0G.2 (L06.2 ⟨_, this, rfl⟩)
      rw [Jax ρ (by simp [notI, hL])] at hr
      have := h.inv.nil id k0 h0 hr
      simp [frzB, this, AV.namesL]
    . obtain ⟨k0, h0, rfl⟩ := at' hk
      exact (Jiu h.inv h0 (Jaf hr).2).1 hz
    . obtain ⟨k0, h0, rfl⟩ := at' hk
      exact (Jiu h.inv h0 (Jaf hr).2).2 hz
    . have hp := (Jaf hr).1; rw [Jea] at hs; simp only [notI, L, inI, Bool.not_eq_false'] at hp
      exact hs (L0G.1 hp)
    . obtain ⟨hp, hr⟩ := Jaf hr
      rcases hI with hI | ⟨id', hI⟩
      . exact h.inv.apart id b hr hI
      . obtain ⟨_, hI⟩ := Jaf hI
        obtain ⟨hq, hI⟩ := Jaf hI
        have := h.inv.inj id id' b hr hI
        subst this
        simp [notI, hq] at hp
    . rcases hb with hb | ⟨id, hb⟩
      . exact h.inv.low b hb
      . exact hinv2.lt (Jaf hb).2
  have imn : ∀ (p : Nat -> Bool) b, Seen Im (killR p (killR L ρ)) b -> C.Im0 b \/ C.w0.heap.size <= b := fun p b hb => by
    rcases hb with hb | ⟨id, hb⟩
    . exact h.im b hb
    . exact .inr (new id b (Jaf hb).2)
  have rr : ∀ id b, killR (notI L) ρ id = some b -> ρ0 id = some b \/ C.w0.heap.size <= b := fun id b hb => by
    rcases h.rng id b (Jaf hb).2 with ⟨_, h1⟩ | h1
    . exact .inl (hR0 id b h1)
    . exact .inr h1
  have kk : ∀ id, L id = true -> killR (notI L) ρ id = ρ id := fun id hid => Jax ρ (by simp [notI, hid])
  unfold retK at hk
  revert hk hlast
  generalize hvs : vs.map (AV.kill (inI (l'.map (·.1)))) = us at *
  intro hk hlast
  split at hk
  . rename_i g caps; obtain ⟨hok, rfl⟩ := hk
    obtain ⟨y, rfl⟩ : ∃ y, ys = [y] := by
      have := hr2.1; match ys, this with | [y], _ => exact ⟨y, rfl⟩
    obtain ⟨cys, rfl, hcl, hcr⟩ := (hr2.2 0 _ y rfl rfl).clo_inv
    obtain ⟨obs, h1, h2⟩ := fin caps rfl hok cys ⟨hcl, hcr⟩
    exact ⟨_, _, inv3 _ hlast, fun b hb => .inl hb, imn _, rr, kk, cys, obs, by simp [handed], h1, h2⟩
  . rename_i v hv; obtain ⟨hsg, hok, rfl⟩ := hk
    obtain ⟨y, rfl⟩ : ∃ y, ys = [y] := by
      have := hr2.1; match ys, this with | [y], _ => exact ⟨y, rfl⟩
    have htop : retP [v] = [v] := JfG fun g caps e => by cases e; cases hsg
    rw [htop] at hlast
    obtain ⟨obs, h1, h2⟩ := fin [v] (by rw [htop]) hok [y] hr2
    obtain ⟨ob, rfl⟩ : ∃ ob, obs = [ob] := by
      match obs, h1 with | [ob], _ => exact ⟨ob, rfl⟩
    have hsg' := JgF (σ := Jaj (inI (l'.map (·.1))) σ) (p := topP [v]) hsg
    refine ⟨_, _, inv3 _ hlast, fun b hb => .inl hb, imn _, rr, kk, ?_⟩
    have h1 := h1.1; simp only [handed, L0Y, L0f, L0z, L0q, dite_true]; generalize expo (Jaj (inI (l'.map (·.1))) σ) (topP [v]) v = r at *
    cases r with
    | tup => cases hsg'
    | clo => cases hsg'
    | _ => exact ⟨ob, by simpa using h1, h2⟩
  . rename_i hn1 hn2; obtain ⟨hok, rfl⟩ := hk
    have htop : retP us = us := JfG fun g caps e => hn1 g caps e
    rw [htop] at hlast
    obtain ⟨obs, h1, h2⟩ := fin us (by rw [htop]) hok ys hr2
    have hne : ys.toArray.size ≠ 1 := by
      simp only [L0Y, <- hr2.1]
      intro hl
      match us, hl, hn2 with | [v], _, hn2 => exact hn2 v rfl
    refine ⟨_, _, inv3 _ hlast, fun b hb => .inl hb, imn _, rr, kk, ?_⟩
    unfold handed; rw [dif_neg hne]
    exact ⟨ys, obs, rfl, h1, h2⟩
def spL (P : Program) (f : FuncId) (N : Nat) (pins : List Nat) : Sp := { P, N, b := 131072 * (f + 1), pin := inI pins, yl := 0, Y := fun _ _ _ => False, old := fun i => Nat.blt (i / 16) (131072 * (f + 1)) || Nat.ble (131072 * (f + 1) + 100000) (i / 16) }
instance (P : Program) (f N : Nat) (pins : List Nat) : Plain (spL P f N pins) := ⟨fun _ _ _ _ _ hk => (show False from hk).elim⟩
section
variable (P : Program) (f N : Nat) (pins : List Nat)
@[go_sem] theorem spL_P : (spL P f N pins).P = P := rfl
@[go_sem] theorem spL_b : (spL P f N pins).b = 131072 * (f + 1) := rfl
@[go_sem ↓] theorem JCY (id : Nat) : (spL P f N pins).bad id = false := rfl
@[go_sem] theorem spL_N : (spL P f N pins).N = N := rfl
@[go_sem] theorem JCZ (id : Nat) : (spL P f N pins).pin id = inI pins id := rfl
end
def retL (S : Sp) (fn : Func) (l : List (Nat × Blk)) (r : AV) : Exit -> Env -> Jac -> Prop
  | .normal => fun E σ => rvC S.P E σ fn.results.toList [] (JkT (inI (l.map (·.1))) l r σ)
  | .ret => fun E σ => rvC S.P E σ fn.results.toList [] (JkT (inI (l.map (·.1))) l r σ)
  | _ => fun _ _ => False
@[go_sem ↓] theorem JuA (S : Sp) (fn : Func) (l : List (Nat × Blk)) (r : AV) (E : Env) (σ : Jac) : retL S fn l r .normal E σ = rvC S.P E σ fn.results.toList [] (JkT (inI (l.map (·.1))) l r σ) := rfl
@[go_sem ↓] theorem JAR (S : Sp) (fn : Func) (l : List (Nat × Blk)) (r : AV) (E : Env) (σ : Jac) : retL S fn l r .ret E σ = rvC S.P E σ fn.results.toList [] (JkT (inI (l.map (·.1))) l r σ) := rfl
@[go_sem] theorem JAo (L : Nat -> Bool) (l : List (Nat × Blk)) (r : AV) (σ : Jac) (vs : List AV) : JkT L l r σ vs = (retK (Jaj L σ) (· = r) (vs.map (AV.kill L)) /\ JjE L (topP (retP (vs.map (AV.kill L)))) σ l) := rfl
@[go_sem] theorem JxJ (L p : Nat -> Bool) (σ : Jac) : JjE L p σ [] = True := rfl
@[go_sem] theorem JvJ (L p : Nat -> Bool) (σ : Jac) (id : Nat) (b : Blk) (l : List (Nat × Blk)) : JjE L p σ ((id, b) :: l) = ((σ id).map (frzB L p σ) = some b /\ JjE L p σ l) := rfl
@[go_sem] theorem JAS : retP [] = [] := rfl
@[go_sem] theorem retP_v (x : Value) : retP [.v x] = [.v x] := rfl
@[go_sem] theorem JAT (a b : AV) (l : List AV) : retP (a :: b :: l) = a :: b :: l := JfG fun g caps e => by cases e
@[go_sem] theorem Jyr (σ : Jac) (R : AV -> Prop) : retK σ R [] = R (.tup []) := by
  simp [retK, JeQ, Jaq]
@[go_sem] theorem JCm (q : Nat -> Bool) (i : Nat) : notI q i = !q i := rfl
@[go_sem] theorem JCj (q pin : Nat -> Bool) (i : Nat) : movI q pin i = (q i && !pin i) := rfl
@[go_sem] theorem JBP (L p : Nat -> Bool) (σ : Jac) (e : TypeId) (sz : Nat) (es : List AV) : frzB L p σ ⟨e, sz, es⟩ = ⟨e, sz, if AV.namesL (notI L) es = false then es else if sz = 0 then es.map (frzM L p σ) else es.map (frzE L p σ)⟩ := rfl
theorem JoM {l : List Nat} {id : Nat} (h : inI l id = true) : id ∈ l := L0G.1 h
def atL (σ : Jac) : List (Nat × Blk) -> Prop
  | [] => True
  | (id, b) :: l => σ id = some b /\ atL σ l
@[go_sem] theorem JBi (σ : Jac) : atL σ [] = True := rfl
@[go_sem] theorem Jze (σ : Jac) (id : Nat) (b : Blk) (l : List (Nat × Blk)) : atL σ ((id, b) :: l) = (σ id = some b /\ atL σ l) := rfl
theorem Jlv {σ : Jac} : ∀ {l : List (Nat × Blk)} {id : Nat} {b : Blk}, atL σ l -> stO l id = some b -> σ id = some b
  | [], _, _, _, h => by cases h
  | (i, c) :: l, id, b, hl, h => by
    rw [Jd9] at h
    split at h
    . rename_i e; cases h; subst e; exact hl.1
    . exact Jlv hl.2 h
theorem Je0 {σ : Jac} {l : List (Nat × Blk)} (h : atL σ l) : only (inI (l.map (·.1))) σ = stO l := by
  funext id
  simp only [only]
  split
  . rename_i hq
    cases hs : stO l id with
    | none => exact absurd (L0G.1 hq) (Jea.1 hs)
    | some b => exact Jlv h hs
  . rename_i hq
    refine (Jea.2 fun hm => hq ?_).symm
    exact L0G.2 hm
def Jck (q : Nat -> Bool) (l : List (Nat × Blk)) : Bool := l.all fun p => !AV.namesL (notI q) p.2.es
@[go_sem] theorem Jtt (q : Nat -> Bool) : Jck q [] = true := rfl
@[go_sem] theorem Jsn (q : Nat -> Bool) (id : Nat) (b : Blk) (l : List (Nat × Blk)) : Jck q ((id, b) :: l) = (!AV.namesL (notI q) b.es && Jck q l) := rfl
theorem Jcq {S : Sp} {E : Env} {σ : Jac} {K : Env -> Jac -> Prop} {dst : Option Nat} {f : Operand} {args : Array Operand} {ats : Array TypeId} {ty : TypeId} {g : FuncId} {as caps : List AV} (pins : List Nat) {l l' : List (Nat × Blk)} {r : AV}
    (hL : LOK S.P g (inI pins) (as ++ caps) (stO l) r (stO l')) (hfv : ev E f = .clo g caps) (has : args.toList.map (ev E) = as) (hat : atL σ l)
    (hq : AV.namesL (notI (inI (l.map (·.1)))) (as ++ caps) = false) (hc : Jck (inI (l.map (·.1))) l = true) (hc' : Jck (inI (l.map (·.1))) l' = true)
    (hK : K (updO (JaT (own (S.b + dst.getD 99999)) (fdE (inI (l.map (·.1))) (movI (inI (l.map (·.1))) (inI pins)) E)) dst (imp (16 * (S.b + dst.getD 99999)) r).1)
      (addS (Jaj (own (S.b + dst.getD 99999)) (fdS (inI (l.map (·.1))) (movI (inI (l.map (·.1))) (inI pins)) σ (stO l'))) (imp (16 * (S.b + dst.getD 99999)) r).2))
    (hhd : JaH caps = true := by rfl) (hids : l.map (·.1) = l'.map (·.1) := by rfl) (hsp : ∀ id, id ∈ l.map (·.1) -> S.pin id = true -> inI pins id = true := by intro id hid hp; first | (cases hp; done) | (simp_all [inI, spL, spR]; done))
    (hfit : (dst.all (decide <| · < S.N) && Op.low S.N (.call { callee := .value f, args, argTypes := ats }) && decide (dst.getD 99999 < 100000)) = true := by kernel_rfl) (hlen : rlen r <= 16 := by exact L0u rfl) :
    semD S dst (.call { callee := .value f, args, argTypes := ats }) ty K E σ := by
  simp only [L00, decide_eq_true_eq] at hfit
  have hclosed : ∀ {m : List (Nat × Blk)}, Jck (inI (l.map (·.1))) m = true -> ∀ id k, stO m id = some k -> AV.namesL (notI (inI (l.map (·.1)))) k.es = false := fun {m} hc id k hk => by
    simp only [Jck, L0b] at hc
    simpa using hc (id, k) (JbR hk)
  refine JhM hfv (as ++ caps) (.inl ⟨hhd, by rw [has]⟩) (inI (l.map (·.1))) (inI pins) (by rw [Je0 hat]; exact hL) hq (fun id k hk hq => ?_) (fun id k hk => ⟨?_, hclosed hc' id k hk⟩) (fun id h1 h2 => hsp id (JoM h2) h1) (by simp [hfit.1]) hlen hfit.2 hK
  . cases hs : stO l id with
    | none => exact absurd (L0G.1 hq) (Jea.1 hs)
    | some b =>
      have := Jlv hat hs
      rw [hk] at this; cases this
      exact hclosed hc id k hs
  . rw [hids]; exact L0G.2 (L06.2 ⟨_, JbR hk, rfl⟩)
section
variable (q k : Nat -> Bool)
@[go_sem] theorem fdE_at (E : Env) (t : Nat) : fdE q k E t = AV.fd q k (E t) := rfl
@[go_sem] theorem fdS_at (σ σ' : Jac) (id : Nat) : fdS q k σ σ' id = if q id then σ' id else (σ id).map (Blk.fd q k) := rfl
@[go_sem] theorem fd_v (x : Value) : AV.fd q k (.v x) = .v x := rfl
@[go_sem] theorem fd_sl (s : Nat) (es : List AV) : AV.fd q k (.sl s es) = .sl s es := rfl
@[go_sem] theorem fd_pt (e : AV) (j : Nat) : AV.fd q k (.pt e j) = .pt e j := rfl
@[go_sem] theorem fd_any : AV.fd q k .any = .any := rfl
@[go_sem] theorem fd_mp (es : List AV) : AV.fd q k (.mp es) = .mp es := rfl
@[go_sem] theorem fd_yld (l : Nat) : AV.fd q k (.yld l) = .yld l := rfl
@[go_sem] theorem fd_own (a s i n : Nat) : AV.fd q k (.own a s i n) = if q a then .any else .own a s i n := rfl
@[go_sem] theorem fd_ptr (a s i j : Nat) : AV.fd q k (.ptr a s i j) = if k a then .any else .ptr a s i j := rfl
@[go_sem] theorem JBL (a : Nat) : AV.fd q k (.mref a) = if k a then .any else .mref a := rfl
@[go_sem] theorem fd_agg (cs : List AV) : AV.fd q k (.agg cs) = .agg (AV.fdL q k cs) := rfl
@[go_sem] theorem fd_tup (cs : List AV) : AV.fd q k (.tup cs) = .tup (AV.fdL q k cs) := rfl
@[go_sem] theorem fd_clo (g : Nat) (cs : List AV) : AV.fd q k (.clo g cs) = .clo g (AV.fdL q k cs) := rfl
@[go_sem] theorem JBK : AV.fdL q k [] = [] := rfl
@[go_sem] theorem JzL (c : AV) (cs : List AV) : AV.fdL q k (c :: cs) = AV.fd q k c :: AV.fdL q k cs := rfl
@[go_sem] theorem JBJ {T : Type} (l : List T) (f : T -> AV) (h : AV.namesL allB (l.map f) = false) : AV.fdL q k (l.map f) = l.map f := AV.fdL_free q k _ h
@[go_sem] theorem blk_fd (e : TypeId) (s : Nat) (es : List AV) : Blk.fd q k ⟨e, s, es⟩ = ⟨e, s, AV.fdL q k es⟩ := rfl
end
def insJ (D : Nat -> Bool) (i : Nat) : Nat -> Bool := fun k => k == i || D k
@[go_sem] theorem JB1 (D : Nat -> Bool) (i k : Nat) : insJ D i k = (k == i || D k) := rfl
def JgA : Nat -> List Oper -> Bool
  | _, [] => true
  | i, o :: l => (o.after.toList.all fun e => !Region.binds .any e || Nat.blt e.on i) && JgA (i + 1) l
theorem JgB : ∀ {l : List Oper} {n i : Nat} {o : Oper}, JgA n l = true -> l[i]? = some o -> ∀ e ∈ o.after, Region.binds .any e = true -> e.on < n + i
  | [], _, _, _, _, h => by simp at h
  | o' :: l, n, i, o, hq, h => by
    simp only [JgA, L00] at hq
    cases i with
    | zero =>
      simp at h; subst h
      intro e he hb
      have := L0b.1 hq.1 e (L0t.2 he)
      simp [hb] at this
      exact this
    | succ i =>
      intro e he hb
      have := JgB hq.2 (by simpa using h) e he hb
      omega
def Jml (S : Sp) (ops : Array Oper) (J : (Nat -> Bool) -> Env -> Jac -> Prop) : Nat -> List Oper -> Prop
  | _, [] => True
  | i, o :: l => (∀ D, D i = false -> (∀ e ∈ o.after.toList, Region.binds .any e = true -> D e.on = true) -> ∀ E σ, J D E σ -> opsC S false ops i [o] (J (insJ D i)) E σ) /\ Jml S ops J (i + 1) l
theorem Jj8 {S : Sp} {ops : Array Oper} {J : (Nat -> Bool) -> Env -> Jac -> Prop} : ∀ {l : List Oper} {n i : Nat} {o : Oper}, Jml S ops J n l -> l[i]? = some o ->
    ∀ D, D (n + i) = false -> (∀ e ∈ o.after.toList, Region.binds .any e = true -> D e.on = true) -> ∀ E σ, J D E σ -> gopC S true true ops.toList o (J (insJ D (n + i))) (J (insJ D (n + i))) E σ
  | [], _, _, _, _, h => by simp at h
  | o' :: l, n, i, o, hq, h => by
    cases i with
    | zero => simp at h; subst h; exact hq.1
    | succ i =>
      have := Jj8 hq.2 (by simpa using h)
      rwa [show n + 1 + i = n + (i + 1) from by omega] at this
theorem JrE {S : Sp} (hY : Jc6 S) {id : Nat} {ops : Array Oper} {Q : Exit -> Env -> Jac -> Prop} {E : Env} {σ : Jac} (J : (Nat -> Bool) -> Env -> Jac -> Prop)
    (h0 : J (fun _ => false) E σ) (hsteps : Jml S ops J 0 ops.toList) (hend : ∀ D E σ, (∀ i, i < ops.size -> D i = true) -> J D E σ -> Q .normal E σ)
    (hfit : ops.toList.all (Oper.fits S.P S.N) = true := by kernel_rfl) (hedge : JgA 0 ops.toList = true := by kernel_rfl) : semC S (.region id ops true) Q E σ := by
  intro C H n R hR a w hs
  have hall : ∀ (i : Nat) (o : Oper), ops[i]? = some o -> Oper.fits S.P S.N o = true := fun i o ho => L0b.1 hfit o (L0t.2 (L1A ho))
  have hlist : ∀ (i : Nat) (o : Oper), ops[i]? = some o -> ops.toList[i]? = some o := fun i o ho => by rw [L0J]; exact ho
  refine wpIn_region_any H.mo ?_
  have key : ∀ (fuel : Nat) (listed : Array Bool) (E : Env) (σ : Jac) (a : Act) (w : World), listed.size = ops.size -> (rem ops listed).length <= fuel ->
      J (fun i => listed.getD i false) E σ -> St C E σ a w -> wpAnyIn (FW C.rdl) n S.P .any ops R fuel listed a w := by
    intro fuel
    have full : ∀ (listed : Array Bool), listed.size = ops.size -> rem ops listed = [] -> ∀ i, i < ops.size -> listed.getD i false = true := fun listed hsz hr i hi => by
      cases hl : listed.getD i false with
      | true => rfl
      | false =>
        have : i ∈ rem ops listed := Ja2.2 ⟨hi, by
          simp only [L0I] at hl ⊢
          rw [L0g (by omega)] at hl ⊢; exact hl⟩
        rw [hr] at this; simp at this
    induction fuel with
    | zero =>
      intro listed E σ a w hsz hle hv hs
      have h0 : rem ops listed = [] := L0R (by omega)
      refine ⟨?_, hR _ _ _ _ _ (hend _ _ _ (full listed hsz h0) hv) hs⟩
      cases hr : Region.ready .any ops listed with
      | nil => rfl
      | cons i l =>
        have hi : i ∈ Region.ready .any ops listed := by rw [hr]; simp
        obtain ⟨h1, o, ho, _⟩ := mem_ready.1 hi
        have : i ∈ rem ops listed := Ja2.2 ⟨(L0j.1 ho).1, h1⟩
        rw [h0] at this; simp at this
    | succ fuel ih =>
      intro listed E σ a w hsz hle hv hs
      have getD_same : ∀ i, i < ops.size -> listed.getD i true = listed.getD i false := fun i hi => by
        simp only [L0I]; rw [L0g (by omega)]; rfl
      refine ⟨fun hr0 => ?_, fun i hi => ?_⟩
      . have hr : rem ops listed = [] := by
          cases hr : rem ops listed with
          | nil => rfl
          | cons i l =>
            exfalso
            have hm : i ∈ rem ops listed := by rw [hr]; simp
            obtain ⟨hlt, hun⟩ := Ja2.1 hm
            have : i ∈ Region.ready .any ops listed := mem_ready.2 ⟨hun, _, L0g hlt, fun e he hb => by
              have hei := JgB hedge (hlist i _ (L0g hlt)) e he hb
              cases hl : listed.getD e.on false with
              | true => rfl
              | false =>
                have hme : e.on ∈ rem ops listed := Ja2.2 ⟨by omega, by rw [getD_same _ (by omega)]; exact hl⟩
                have hsort := Jce (ops := ops) listed
                rw [hr] at hme hsort
                rcases L0h.1 hme with h | h
                . omega
                . have := (L1t.1 hsort).1 _ h; omega⟩
            rw [hr0] at this; simp at this
        exact hR _ _ _ _ _ (hend _ _ _ (full listed hsz hr) hv) hs
      . obtain ⟨hun, o, ho, hedges⟩ := mem_ready.1 hi
        have hlt : i < ops.size := (L0j.1 ho).1
        have hm : i ∈ rem ops listed := Ja2.2 ⟨hlt, hun⟩
        obtain ⟨pre, post, hsplit⟩ := L24 hm
        have hset := JiR hsz hsplit
        have hD : (fun k => (listed.setIfInBounds i true).getD k false) = insJ (fun k => listed.getD k false) i := by
          funext k
          simp only [insJ, L0I]
          by_cases hk : k = i
          . subst hk; simp [hsz, hlt]
          . rw [L16 (Ne.symm hk)]; simp [hk]
        have hstep := Jj8 hsteps (hlist i o ho) (fun k => listed.getD k false) (by rw [L0q, <- getD_same i hlt]; exact hun) (fun e he hb => hedges e (L0t.1 he) hb) E σ hv
        rw [L0q] at hstep
        have hg := JoE hY (K' := J (insJ (fun k => listed.getD k false) i)) (Kb' := J (insJ (fun k => listed.getD k false) i)) (fun _ _ h => h) (fun _ _ h => h) hstep
        have next : ∀ E' σ' a' w', J (insJ (fun k => listed.getD k false) i) E' σ' -> St C E' σ' a' w' -> wpAnyIn (FW C.rdl) n S.P .any ops R fuel (listed.setIfInBounds i true) a' w' := fun E' σ' a' w' h1 h3 => by
          refine ih (listed.setIfInBounds i true) E' σ' a' w' (by simpa using hsz) ?_ (by rw [hD]; exact h1) h3
          rw [hset]; rw [hsplit] at hle; simp at hle ⊢; omega
        obtain ⟨ρ, Im, M, hw⟩ := hs
        exact JdP ho (JeS (Kc := wpAnyIn (FW C.rdl) n S.P .any ops R fuel (listed.setIfInBounds i true)) H hw hall (hall i o ho) true true (fun h => by cases h) hg (fun E' σ' a' w' h1 h2 => next E' σ' a' w' h1 h2) fun E' σ' a' w' h1 h2 => next E' σ' a' w' h1 h2)
  exact key ops.size _ E σ a _ (by simp) (by unfold rem; exact L0r (L25 _ _) (by simp)) (by
    have : (fun i => (Array.replicate ops.size false).getD i false) = fun _ => false := by
      funext i; simp only [L0I, L1S]; split <;> rfl
    rw [this]; exact h0) (hs.drew H.G (w.drawn + 1))
def spB (P : Program) (f : FuncId) (N : Nat) (bad : List Nat) : Sp := { P, N, b := 131072 * (f + 1), pin := fun _ => false, yl := 0, Y := fun _ _ _ => False, bad := inI bad, old := fun _ => false }
instance (P : Program) (f N : Nat) (bad : List Nat) : Plain (spB P f N bad) := ⟨fun _ _ _ _ _ hk => (show False from hk).elim⟩
section
variable (P : Program) (f N : Nat) (bad : List Nat)
@[go_sem] theorem spB_P : (spB P f N bad).P = P := rfl
@[go_sem] theorem spB_b : (spB P f N bad).b = 131072 * (f + 1) := rfl
@[go_sem] theorem spB_N : (spB P f N bad).N = N := rfl
@[go_sem] theorem JCX (id : Nat) : (spB P f N bad).pin id = false := rfl
@[go_sem] theorem JCW (id : Nat) : (spB P f N bad).bad id = bad.contains id := rfl
end
def fnB (P : Program) (fn : Func) (bad : List Nat) (c : Code) : Bool :=
  Jcl P fn.ntmps (inI bad) c && fn.results.toList.all (ResultVar.low fn.ntmps) && !(fn.name == "runtime.NumGoroutine") && Nat.ble fn.ntmps 99999
theorem JbK {P : Program} {f : FuncId} {fn : Func} {c : Code} {args : List AV} {r : AV} (bad : List Nat) (hf : P.funcs[f]? = some fn) (hb : fn.body = some c) (hok : fnB P fn bad c = true) (hmo : P.follows .mixedOrders = true)
    (hlen : args.length <= fn.ntmps) (h : awpC (spB P f fn.ntmps bad) c (retC (spB P f fn.ntmps bad) fn r) (JbW args) fun _ => none) : Ev P f args r := by
  simp only [fnB, L00, L0S] at hok
  obtain ⟨⟨⟨h1, h2⟩, h3⟩, h4⟩ := hok
  have h4 := L0u h4; have h1 := JaR c h1
  have h := JbI (S := spB P f fn.ntmps bad) (fun _ _ _ _ _ hk => (show False from hk).elim) c (JpE fn r) h
  intro args' r0 he
  rw [he.1, he.2]
  refine ⟨enters hf hb h3, fun w Im vs hlow hgk hargs => ?_⟩
  let C : Fx := { w0 := w, X0 := fun _ => False, Im0 := Im, G := fun _ _ _ => True, N := fn.ntmps, rd := none, pin := fun _ => none, J0 := Im }
  have H : Holds (spB P f fn.ntmps bad) C := ⟨rfl, JdD, fun _ _ _ hY => hY.elim, hmo, fun _ _ hp => (by cases hp), fun _ hp => (by cases hp), h4, fun _ => rfl, fun _ _ h _ => h.elim, hgk, fun b hb => ⟨fun h => h, hlow b (hgk.im hb)⟩, (fun h => by cases h)⟩
  have hreps : Reps w (fun _ => none) Im args vs := ⟨hargs.1, fun j c y hc hy => .im _ _ (hargs.2 j c y hc hy)⟩
  refine JcN (E0 := JbW args) (S := spB P f fn.ntmps bad) (C := C) (ρ0 := fun _ => none) (Im0 := Im) (M0 := ⟨fun _ => False, fun _ => False⟩) H rfl hf hb rfl h1 h2 ?_ h fun E σ tm w' ρ I M us ys hk hrest hr => ?_
  . refine ⟨⟨fun id k hk => (by cases hk), fun id k b hk => (by cases hk), fun id k b hk => (by cases hk), fun i j b hi => (by cases hi), fun i b hi => (by cases hi), fun i b hi => (by cases hi), hlow⟩, JeO hreps, ?_, Ext.refl _ _, fun i b hi => (by cases hi), fun b hb => .inl hb, fun p => ?_, trivial, fun b hb => hb.elim, fun b hb => hb.elim, fun l r hr => (by cases hr), .nil, fun d hd => (by cases hd), fun b hb => ?_, fun id b hb => (by cases hb), fun b hb => hb⟩
    . simp only [L26, L0Y, L27]
      have := hargs.1
      show vs.length + (fn.ntmps - vs.length) = fn.ntmps
      omega
    . show AV.namesB p (JbW args fn.ntmps) = false
      rw [JgL args _ hlen]; rfl
    . rcases hb with ⟨r, hr⟩ | hd
      . cases hr
      . cases hd
  . obtain ⟨r', rfl, hrr⟩ := JjY hrest (fun _ h => h) hlow hr hk
    exact ⟨_, rfl, hrest.ext, hrr⟩
def frE (F : Nat -> Bool) (σ : Jac) (E : Env) : Env := fun t => frz (notI F) (inL []) σ (E t)
def frS (F : Nat -> Bool) (σ : Jac) : Jac := fun id => if F id then none else (σ id).map (frzB (notI F) (inL []) σ)
theorem JjP (F : Nat -> Bool) : notI (notI F) = F := by funext i; simp [notI]
theorem JhL (ρ : Nat -> Option Nat) : killR (inL []) ρ = ρ := by rw [Jiz]; funext i; simp [killR]
theorem Wit.freeze {S : Sp} {C : Fx} {E : Env} {σ : Jac} {a : Act} {w : World} {ρ : Nat -> Option Nat} {Im : Nat -> Prop} {M : Str} (H : Holds S C) (h : Wit C E σ a w ρ Im M) (F : Nat -> Bool) (hp : ∀ id, S.pin id = true -> F id = false) (hfz : ∀ id, S.old id = true -> F id = false) :
    Wit C (frE F σ E) (frS F σ) a w (killR F ρ) (Seen Im (killR (notI F) ρ)) M := by
  have rep : ∀ {c x}, Rep w ρ Im c x -> Rep w (killR F ρ) (Seen Im (killR (notI F) ρ)) (frz (notI F) (inL []) σ c) x := fun {c x} hr => by
    have := JkL (L := notI F) (p := inL []) h.inv hr
    rwa [JjP, JhL] at this
  have blk : ∀ {id b k}, σ id = some k -> ρ id = some b -> _ := fun {id b k} hk hr => Jiu (L := notI F) (p := inL []) h.inv hk hr
  simp only [JjP, JhL] at blk
  have new : ∀ id b, F id = true -> ρ id = some b -> C.w0.heap.size <= b := fun id b hF hb => by
    rcases h.rng id b hb with h' | h'
    . rw [hfz id (H.fz id b h'.1 h'.2)] at hF; cases hF
    . exact h'
  refine ⟨⟨fun id k hk hr => ?_, fun id k b hk hr hz => ?_, fun id k b hk hr hz => ?_, fun i j b h1 h2 => h.inv.inj i j b (Jaf h1).2 (Jaf h2).2, fun id b hr hs => ?_, fun id b hr hI => ?_, fun b hb => ?_⟩, fun t y hy => rep (h.env t y hy), h.size, h.ext, fun id b hb => h.rng id b (Jaf hb).2, fun b hb => ?_, fun p => ?_, ?_, fun b hb => .inl (h.js b hb), fun b hb => ?_, h.rd, h.nodup, h.df, fun b hb => ?_, fun id ob hpn => ?_, fun b hb => .inl (h.j0 b hb)⟩
  . simp only [frS] at hk
    split at hk
    . cases hk
    . rename_i hF
      obtain ⟨k0, h0, rfl⟩ := L0i.1 hk
      rw [Jax ρ (by simpa using hF)] at hr
      have := h.inv.nil id k0 h0 hr
      simp [frzB, this, AV.namesL]
  . simp only [frS] at hk
    split at hk
    . cases hk
    . obtain ⟨k0, h0, rfl⟩ := L0i.1 hk
      exact (blk h0 (Jaf hr).2).1 hz
  . simp only [frS] at hk
    split at hk
    . cases hk
    . obtain ⟨k0, h0, rfl⟩ := L0i.1 hk
      exact (blk h0 (Jaf hr).2).2 hz
  . obtain ⟨hF, hr⟩ := Jaf hr
    simp only [frS, hF] at hs
    exact h.inv.live id b hr (by simpa using hs)
  . obtain ⟨hF, hr⟩ := Jaf hr
    rcases hI with hI | ⟨id', hI⟩
    . exact h.inv.apart id b hr hI
    . obtain ⟨hq, hI⟩ := Jaf hI
      have := h.inv.inj id id' b hr hI
      subst this
      simp [notI, hF] at hq
  . rcases hb with hb | ⟨id, hb⟩
    . exact h.inv.low b hb
    . exact h.inv.lt (Jaf hb).2
  . rcases hb with hb | ⟨id, hb⟩
    . exact h.im b hb
    . exact .inr (new id b (by have := (Jaf hb).1; simpa [notI] using this) (Jaf hb).2)
  . show AV.namesB p (frz _ _ σ (E C.N)) = false
    unfold frz; rw [if_pos (h.gh _)]; exact h.gh p
  . show C.G (frz _ _ σ (E C.N)) M w
    unfold frz; rw [if_pos (h.gh _)]; exact h.g
  . obtain ⟨h1, h2, h3, h4⟩ := h.ms b hb
    refine ⟨h1, fun id hid => h2 id (Jaf hid).2, fun hI => ?_, h4⟩
    rcases hI with hI | ⟨id, hI⟩
    . exact h3 hI
    . exact h2 id (Jaf hI).2
  . obtain ⟨h1, h2, h3⟩ := h.bk b hb
    refine ⟨fun id hid => h1 id (Jaf hid).2, fun hI => ?_, h3⟩
    rcases hI with hI | ⟨id, hI⟩
    . exact h2 hI
    . exact h1 id (Jaf hI).2
  . rw [Jax ρ (hp id (H.pin id ob hpn))]; exact h.pin id ob hpn
theorem JmT {S : Sp} {c : Code} {Q : Exit -> Env -> Jac -> Prop} {E : Env} {σ : Jac} (F : List Nat) (h : semC S c Q (frE (inI F) σ E) (frS (inI F) σ))
    (hp : ∀ id, S.pin id = true -> inI F id = false := by intro id hid; cases hid) (hfz : ∀ id, S.old id = true -> inI F id = false := by intro id hid; cases hid) : semC S c Q E σ :=
  fun C H n R hR a w ⟨_, _, _, hw⟩ => h C H n R hR a w ⟨_, _, _, hw.freeze H (inI F) hp hfz⟩
theorem JgH {S : Sp} (hY : Jc6 S) {id : Nat} {ops : Array Oper} {draw : Bool} {Q : Exit -> Env -> Jac -> Prop} {E : Env} {σ : Jac} (F : List Nat) (h : regC S draw ops (Q .normal) (frE (inI F) σ E) (frS (inI F) σ))
    (hp : ∀ id, S.pin id = true -> inI F id = false := by intro id hid; cases hid) (hfz : ∀ id, S.old id = true -> inI F id = false := by intro id hid; cases hid) (hfit : Jcl S.P S.N JjO (.region id ops draw) = true := by kernel_rfl) : semC S (.region id ops draw) Q E σ := by
  intro C H n R hR a w ⟨ρ, Im, M, hw⟩
  have hw' := hw.freeze H (inI F) hp hfz; have hok := JaR _ hfit; simp only [JaY, L00, L0x, L0S, L11, L1y, JjO, L0A, false_or] at hok
  have hall : ∀ (i : Nat) (o : Oper), ops[i]? = some o -> Oper.fits S.P S.N o = true := fun i o ho => L0b.1 hok.1 o (L0t.2 (L1A ho))
  unfold regC at h; rw [Jcg] at h
  have hv := JbY (fun _ _ hk => JfB hY _ 0 (fun _ _ h => h) hk) _ _ h
  have hs : St C (frE (inI F) σ E) (frS (inI F) σ) a w := ⟨_, _, _, hw'⟩
  cases draw with
  | false =>
    simp only [struck, L0A, if_false] at hv
    refine wpIn_region ?_
    have := JcA H hall (n := n) (Q := R) (fun E σ a w hk hs => hR .normal E σ a w hk hs) ops.toList 0 _ _ a w (by simp) hv hs
    rw [L0y, <- L1z] at this; exact this
  | true => exact JcR H ops hok.1 (by simpa using hok.2) n (Q .normal) R _ _ a w (fun E σ a w hk hs => hR .normal E σ a w hk hs) hv hs id
attribute [go_sem] Bool.true_eq_false
section
variable (F : Nat -> Bool) (σ : Jac)
@[go_sem] theorem frE_at (E : Env) (t : Nat) : frE F σ E t = frz (notI F) (inL []) σ (E t) := rfl
@[go_sem] theorem frS_at (id : Nat) : frS F σ id = if F id then none else (σ id).map (frzB (notI F) (inL []) σ) := rfl
end
@[go_sem] theorem frz_v (L p : Nat -> Bool) (σ : Jac) (x : Value) : frz L p σ (.v x) = .v x := rfl
@[go_sem] theorem frz_sl (L p : Nat -> Bool) (σ : Jac) (s : Nat) (es : List AV) : frz L p σ (.sl s es) = .sl s es := rfl
@[go_sem] theorem JBT (L p : Nat -> Bool) (σ : Jac) : frz L p σ .any = .any := rfl
@[go_sem] theorem frz_pt (L p : Nat -> Bool) (σ : Jac) (e : AV) (j : Nat) : frz L p σ (.pt e j) = .pt e j := rfl
@[go_sem] theorem JBW (L p : Nat -> Bool) (σ : Jac) (id s i n : Nat) : frz L p σ (.own id s i n) = if AV.namesB (notI L) (.own id s i n) = false then .own id s i n else res (Jaj p (Jaj L σ)) (((AV.own id s i n).kill L).kill p) := rfl
@[go_sem] theorem JBX (L p : Nat -> Bool) (σ : Jac) (id s i n : Nat) : frz L p σ (.ptr id s i n) = if AV.namesB (notI L) (.ptr id s i n) = false then .ptr id s i n else res (Jaj p (Jaj L σ)) (((AV.ptr id s i n).kill L).kill p) := rfl
theorem JaS {S : Sp} [hY : Plain S] {dst : Option Nat} {op : Op} {ty : TypeId} {K : Env -> Jac -> Prop} {E : Env} {σ : Jac} (F : List Nat) (h : aopC S true true dst op ty K K (frE (inI F) σ E) (frS (inI F) σ))
    (hF : (F.all fun i => !S.old i && !S.pin i) = true := by kernel_rfl) (hfit : (dst.all (decide <| · < S.N) && Op.low S.N op && cls S.P op ty != 9) = true := by kernel_rfl) : semD S dst op ty K E σ := by
  intro pos after guard C H n a w Kc Q ⟨ρ, Im, M, hw⟩ hKc
  simp only [L0b, L00, L0S] at hF
  have hin : ∀ {id}, inI F id = true -> id ∈ F := fun h => L0G.1 h
  have hw' := hw.freeze H (inI F) (fun id hid => by
    cases hh : inI F id with
    | false => rfl
    | true => have := (hF id (hin hh)).2; rw [hid] at this; cases this) (fun id hid => by
    cases hh : inI F id with
    | false => rfl
    | true => have := (hF id (hin hh)).1; rw [hid] at this; cases this)
  exact Jgp H hw' (o := ⟨dst, op, ty, pos, after, guard⟩) hfit true true (fun h => by cases h) (Jif hY.mono (fun _ _ h => h) (fun _ _ h => h) h) (fun _ _ _ _ => hKc _ _ _ _) (fun _ _ _ _ => hKc _ _ _ _)
section
variable {S : Sp} {C : Fx} {E : Env} {σ : Jac} {a : Act} {w : World} {ρ : Nat -> Option Nat} {Im : Nat -> Prop} {M : Str}
theorem Rep.mref_inv {id : Nat} {y : Value} (h : Rep w ρ Im (.mref id) y) : ∃ b, y = .map (some b) /\ ρ id = some b := by
  cases h with
  | im _ _ h => cases h
  | mref _ b hr => exact ⟨b, rfl, hr⟩
theorem Jti {ents : Array MapEntry} {clk : Nat} (h : Bn ents clk) (k v : Value) : Bn (ents.push { key := k, val := v, born := clk }) (clk + 1) := by
  refine ⟨?_, fun e he => ?_⟩
  . rw [Array.toList_push, L14, L1R]
    refine ⟨h.1, by simp, fun a ha b hb => ?_⟩
    obtain ⟨e, he, rfl⟩ := L06.1 ha
    have := h.2 e he
    simp at hb; omega
  . rw [Array.toList_push, L0v, L0p] at he
    rcases he with he | rfl
    . have := h.2 e he; omega
    . show clk < clk + 1; omega
theorem JnX {ents : Array MapEntry} {clk : Nat} (h : Bn ents clk) (j : Nat) (k v : Value) : Bn (ents.modify j fun e => { e with key := k, val := v }) clk := by
  have e : (ents.modify j fun e => { e with key := k, val := v }).toList.map (·.born) = ents.toList.map (·.born) := by
    refine List.ext_getElem? fun i => ?_
    rw [L03, L03, L0J, L0J, L1v]
    split
    . rename_i hj; subst hj; cases ents[j]? <;> rfl
    . rfl
  refine ⟨by rw [e]; exact h.1, fun m hm => ?_⟩
  have hm : m.born ∈ ents.toList.map (·.born) := by rw [<- e]; exact L06.2 ⟨m, hm, rfl⟩
  obtain ⟨m', hm', h2⟩ := L06.1 hm
  have := h.2 m' hm'
  omega
theorem Wit.newMap (hG : JaM C.G) (h : Wit C E σ a w ρ Im M) {d : Nat} (hpn : C.pin d = none) (hcl : Jbd d E σ) (t : TypeId) {dst : Option Nat} (hd : ∀ d, dst = some d -> d < C.N) :
    Wit C (updO E dst (.mref d)) (updS σ d ⟨t, 0, []⟩) (a.put dst (.map (some w.heap.size))) (w.alloc (.map #[] 0)) (updR ρ d (some w.heap.size)) Im M := by
  have hb : ∀ i, i < w.heap.size -> (w.alloc (.map #[] 0)).heap[i]? = w.heap[i]? := fun i hi => Below.heap_alloc w _ i hi
  refine h.step hG (Ext.alloc _ _ _) ?_ ((h.env.later h.inv hb hcl.2.1).put (.mref d _ (Jb7 ..))) (JbO ..) (Ja8 ..) (JdN hd) (fun id b hid => ?_) (fun _ hi => .inl hi) (JiM h hpn) (fun _ h => h)
  . refine h.inv.fresh (by simp) hb hcl.1 hcl.2.2 (fun _ h => h) (fun _ h => .inl h) ⟨L0a _, by simp, fun _ => ⟨#[], 0, World.alloc_heap_new w _, ⟨rfl, List.nodup_nil, fun _ h => (by cases h)⟩, fun i m hm => by simp at hm⟩, fun h0 => absurd rfl h0⟩
  . by_cases e : id = d
    . subst e; simp at hid; exact .inr (by omega)
    . rw [JaF _ _ _ _ e] at hid; exact .inl hid
theorem Wit.turnMap (hG : JaM C.G) (h : Wit C E σ a w ρ Im M) {id b : Nat} {k k' : Blk} {ents ents' : Array MapEntry} {clk clk' : Nat} (hk : σ id = some k) (hρ : ρ id = some b) (hb : w.heap[b]? = some (.map ents clk)) (hkz : k'.sz = 0)
    (hl : k'.es.length = ents'.size /\ Bn ents' clk') (hf : ∀ (i : Nat) (m : MapEntry), ents'[i]? = some m -> ∃ v, k'.es[i]? = some (.tup [.v m.key, v]) /\ Rep w ρ Im v m.val) :
    Wit C E (updS σ id k') a { w with heap := w.heap.setIfInBounds b (.map ents' clk') } ρ Im M := by
  obtain ⟨hnew, hoth⟩ := MapKept.heap_set (o' := Obj.map ents' clk') hb
  have rep : ∀ {v : AV} {y : Value}, Rep w ρ Im v y -> Rep { w with heap := w.heap.setIfInBounds b (.map ents' clk') } ρ Im v y := fun {v y} hr =>
    Rep.mono (w := w) (w' := { w with heap := w.heap.setIfInBounds b (.map ents' clk') }) (fun _ h => h) (fun q hI => hoth q (fun e => h.inv.apart id b hρ (e ▸ hI))) hr fun i _ => ⟨rfl, fun q hq cur2 e2 hc2 => by
      by_cases e : q = b
      . subst e; obtain ⟨_, hc2, _⟩ := hc2; rw [hb] at hc2; cases hc2
      . exact ⟨cur2, by rw [hoth q e]; exact hc2, rfl⟩⟩
  refine h.step hG ⟨rfl, rfl, rfl, by simp, fun q _ hq => hoth q (fun e => hq ⟨id, by rw [e]; exact hρ⟩)⟩ ?_ (fun t y hy => rep (h.env t y hy)) rfl rfl rfl (fun i _ hi => .inl hi) (fun _ hi => .inl hi) h.pin (fun _ h => h)
  refine ⟨fun i k2 hk2 hr => ?_, fun i k2 q hk2 hr hz => ?_, fun i k2 q hk2 hr hz => ?_, h.inv.inj, fun i q hr hs' => ?_, h.inv.apart, fun q hq => ?_⟩
  . by_cases e : i = id
    . subst e; rw [hρ] at hr; cases hr
    . rw [Jav _ _ _ _ e] at hk2; exact h.inv.nil i k2 hk2 hr
  . by_cases e : i = id
    . subst e; simp at hk2; subst hk2
      rw [hρ] at hr; cases hr
      exact ⟨ents', clk', hnew, hl, fun i m hm => by obtain ⟨v, hv, hr⟩ := hf i m hm; exact ⟨v, hv, rep hr⟩⟩
    . rw [Jav _ _ _ _ e] at hk2
      obtain ⟨ents2, clk2, hb2, hl2, hc2⟩ := h.inv.map i k2 q hk2 hr hz
      have hqb : q ≠ b := fun e' => e (h.inv.inj i id b (e' ▸ hr) hρ)
      exact ⟨ents2, clk2, by rw [hoth q hqb]; exact hb2, hl2, fun i m hm => by obtain ⟨v, hv, hr⟩ := hc2 i m hm; exact ⟨v, hv, rep hr⟩⟩
  . by_cases e : i = id
    . subst e; simp at hk2; subst hk2; exact absurd hkz hz
    . rw [Jav _ _ _ _ e] at hk2
      obtain ⟨cur2, hb2, hl2, hs2, hc2⟩ := h.inv.blk i k2 q hk2 hr hz
      have hqb : q ≠ b := fun e' => e (h.inv.inj i id b (e' ▸ hr) hρ)
      exact ⟨cur2, by rw [hoth q hqb]; exact hb2, hl2, hs2, fun i e j c hec hcc => by obtain ⟨x, hx, h1, hr⟩ := hc2 i e j c hec hcc; exact ⟨x, hx, h1, rep hr⟩⟩
  . by_cases e : i = id
    . subst e; simp at hs'
    . rw [Jav _ _ _ _ e] at hs'; exact h.inv.live i q hr hs'
  . have := h.inv.low q hq; simpa using this
end
theorem Jm4 {S : Sp} {d : Nat} {t ty : TypeId} {K : Env -> Jac -> Prop} {E : Env} {σ : Jac} (h : K (upd (JaT (own (S.b + d)) E) d (.mref (16 * (S.b + d)))) (updS (Jaj (own (S.b + d)) σ) (16 * (S.b + d)) ⟨t, 0, []⟩))
    (hd : (Nat.blt d S.N && Nat.blt d 100000) = true := by kernel_rfl) : semD S (some d) (.makeMap t none) ty K E σ := by
  intro pos after guard C H n a w Kc Q ⟨ρ, Im, M, hw⟩ hKc
  simp only [L00] at hd
  have hd1 : d < S.N := L0u hd.1
  have hd2 : d < 100000 := L0u hd.2
  obtain ⟨ρ1, h1, hc1⟩ := JiB H hw true (S.b + d) (H.own hd2) (fun e => by cases e)
  have h2 := h1.newMap H.G (by simpa using H.free hd2 0 (by omega)) (by simpa using hc1 0 (by omega)) t (dst := some d) (fun d' e => by cases e; rw [<- H.N]; exact hd1)
  refine JaQ (fun _ e => by cases e) ?_ (hKc _ _ _ _ h ⟨_, _, _, h2⟩)
  simp only [execOp, Instr.makeMap, L2c, Sem.run_bind, Sem.run_pure, Result.andThen_ok, run_newObj_alloc]
section
variable {S : Sp} {kd bi : Bool} {dst : Option Nat} {ty t : TypeId} {K Kb : Env -> Jac -> Prop} {E : Env} {σ : Jac}
@[go_sem ↓] theorem Ju0 (x y : Operand) (c : Bool) : aopC S kd bi dst (.lookup t x y c) ty K Kb E σ = semD S dst (.lookup t x y c) ty Kb E σ := rfl
@[go_sem ↓] theorem Jqw (x y v : Operand) : aopC S kd bi dst (.mapUpdate t x y v) ty K Kb E σ = semD S dst (.mapUpdate t x y v) ty Kb E σ := rfl
@[go_sem ↓] theorem Js9 (r : Option Operand) : aopC S kd bi dst (.makeMap t r) ty K Kb E σ = semD S dst (.makeMap t r) ty Kb E σ := rfl
@[go_sem] theorem Jvj (P : Program) (x y : Operand) (c : Bool) : cls P (.lookup t x y c) ty = 5 := rfl
@[go_sem] theorem JqP (P : Program) (x y v : Operand) : cls P (.mapUpdate t x y v) ty = 5 := rfl
@[go_sem] theorem JtB (P : Program) (r : Option Operand) : cls P (.makeMap t r) ty = 5 := rfl
@[go_sem] theorem JCo (id : Nat) : (AV.mref id).ok = true := rfl
@[go_sem] theorem Jxm (nm : Nat -> Bool) (id : Nat) : fade nm (.mref id) = if nm id = true then .mref id else .any := by
  unfold fade; simp only [AV.kill, AV.namesB, AV.dk]; by_cases h : nm id = true <;> simp [h, AV.ownB]
@[go_sem] theorem JzM (q k : Nat -> Bool) (l : List Int) : AV.fdL q k (l.map I) = l.map I := AV.fdL_free q k _ (JkX allB l)
@[go_sem] theorem JxI (p : Nat -> Bool) (id : Nat) : AV.kill p (.mref id) = if p id = true then .any else .mref id := by
  simp only [AV.kill, AV.namesB, AV.dk]; by_cases h : p id = true <;> simp [h]
@[go_sem] theorem JzW (L p : Nat -> Bool) (σ : Jac) (id : Nat) : frz L p σ (.mref id) = if AV.namesB (notI L) (.mref id) = false then .mref id else res (Jaj p (Jaj L σ)) (((AV.mref id).kill L).kill p) := rfl
@[go_sem] theorem JzU (L p : Nat -> Bool) (σ : Jac) (id s i n : Nat) : frzE L p σ (.own id s i n) = frz L p σ (.own id s i n) := rfl
@[go_sem] theorem JzV (L p : Nat -> Bool) (σ : Jac) (id s i n : Nat) : frzE L p σ (.ptr id s i n) = frz L p σ (.ptr id s i n) := rfl
@[go_sem] theorem Jxy (L p : Nat -> Bool) (σ : Jac) (id : Nat) : frzE L p σ (.mref id) = frz L p σ (.mref id) := rfl
@[go_sem] theorem frzE_v (L p : Nat -> Bool) (σ : Jac) (x : Value) : frzE L p σ (.v x) = .v x := rfl
@[go_sem] theorem JBR (L p : Nat -> Bool) (σ : Jac) (s : Nat) (es : List AV) : frzE L p σ (.sl s es) = .sl s es := rfl
@[go_sem] theorem JBQ (L p : Nat -> Bool) (σ : Jac) (e : AV) (j : Nat) : frzE L p σ (.pt e j) = .pt e j := rfl
@[go_sem] theorem JzS (L p : Nat -> Bool) (σ : Jac) (cs : List AV) : frzE L p σ (.agg cs) = .agg (cs.map (frz L p σ)) := rfl
attribute [go_sem] AV.cells_mref AV.cells_mp
end
def slR1 : AV -> AV
  | .new _ sz es => .sl sz es
  | .nptr _ _ [x] => .pt x 0
  | r => r
def slR : AV -> AV
  | .tup rs => .tup (rs.map slR1)
  | .clo g rs => .clo g (rs.map slR1)
  | r => slR1 r
theorem JfR {w : World} {Im : Nat -> Prop} {e sz b : Nat} {es : List AV} (h : JbT w Im e sz es b) : ∃ f : Nat -> Nat -> Value,
    (∀ i j, i < es.length -> j < sz -> w.cell? ⟨b, 0 + i * sz + j, none⟩ = some (f i j) /\ (f i j).oneCell' = true) /\ ∀ (i : Nat) (x : AV) (j : Nat) (c : AV), es[i]? = some x -> x.cells[j]? = some c -> IRep w Im c (f i j) := by
  obtain ⟨cur, hb, hl, hs, hc⟩ := h
  refine ⟨fun i j => (cur[i * sz + j]?).getD undef, fun i j hi hj => ?_, fun i x j c hx hcx => ?_⟩
  . cases hx : es[i]? with
    | none => rw [L1U] at hx; omega
    | some x =>
      have hxl := hl x (L01 hx)
      cases hcj : x.cells[j]? with
      | none => rw [L1U] at hcj; omega
      | some c =>
        obtain ⟨v, hv, h1, _⟩ := hc i x j c hx hcj
        simp only []; rw [L0q, hv]
        refine ⟨?_, h1⟩
        rw [Jbm hb]; simp only [Option.getD_some]
        exact hv
  . obtain ⟨v, hv, h1, hr⟩ := hc i x j c hx hcx
    simp only []
    rw [hv]; exact hr
theorem R1.tree {w : World} {Im Im2 : Nat -> Prop} {r : AV} {y : Value} {ob : Option Nat} (h : R1 w Im r y ob) (hI : ∀ b, Im b -> Im2 b) (hb : ∀ b, ob = some b -> Im2 b) (hnp : ∀ e sz es, r = .nptr e sz es -> ∃ x, es = [x]) : R1 w Im2 (slR1 r) y none := by
  cases r with
  | new e sz es =>
    rcases h with ⟨_, rfl, rfl⟩ | ⟨b, cap, hz, rfl, rfl, hcap, _, _, hct⟩
    . exact ⟨rfl, .slnil ..⟩
    . refine ⟨rfl, ?_⟩
      obtain ⟨f, h1, h2⟩ := JfR (hct.mono hI)
      cases es with
      | nil => exact .slnil ..
      | cons e0 es0 => exact .sl sz (e0 :: es0) b 0 cap f (hb b rfl) hcap hct.choose_spec.2.1 h1 h2
  | nptr e sz es =>
    obtain ⟨x, rfl⟩ := hnp e sz es rfl
    obtain ⟨b, hz, rfl, rfl, hct⟩ := h
    refine ⟨rfl, ?_⟩
    have hx : x.cells.length = sz := hct.choose_spec.2.1 x (by simp)
    obtain ⟨f, h1, h2⟩ := JfR (hct.mono hI)
    refine .pt x 0 b 0 (f 0) (hb b rfl) (fun i hi => ?_) fun i c hc => h2 0 x i c rfl hc
    have := h1 0 i (by simp) (by omega)
    simpa using this
  | _ => exact ⟨rfl, h.2.mono hI (fun _ _ => rfl)⟩
theorem RL.tree {w : World} {Im Im2 : Nat -> Prop} (hI : ∀ b, Im b -> Im2 b) : ∀ {rs : List AV} {ys : List Value} {obs : List (Option Nat)}, RL w Im rs ys obs -> (∀ b, some b ∈ obs -> Im2 b) -> (∀ e sz es, AV.nptr e sz es ∈ rs -> ∃ x, es = [x]) ->
    RL w Im2 (rs.map slR1) ys (obs.map fun _ => none)
  | [], [], [], _, _, _ => trivial
  | r :: rs, _ :: _, ob :: obs, h, hb, hn => ⟨h.1.tree hI (fun b hbb => hb b (by simp [hbb])) fun e sz es hr => hn e sz es (by simp [hr]), RL.tree hI h.2 (fun b hbb => hb b (by simp [hbb])) fun e sz es hr => hn e sz es (by simp [hr])⟩
theorem Jfo {lo : Nat} {Im : Nat -> Prop} (obs : List (Option Nat)) : Jdv lo Im (obs.map fun _ => none) := by
  refine ⟨fun b hb => (by simp at hb), ?_⟩
  induction obs with
  | nil => exact .nil
  | cons o obs ih => exact .cons (fun a _ => .inl rfl) ih
def Jg1 : AV -> Bool
  | .nptr _ _ es => es.length == 1
  | _ => true
def Jur : AV -> Bool
  | .tup rs => rs.all Jg1
  | .clo _ rs => rs.all Jg1
  | r => Jg1 r
theorem JeZ {e sz : Nat} {es : List AV} (h : Jg1 (.nptr e sz es) = true) : ∃ x, es = [x] := by
  simp only [Jg1, beq_iff_eq] at h
  match es, h with
  | [x], _ => exact ⟨x, rfl⟩
theorem Jr5 {w : World} {Im : Nat -> Prop} {r : AV} {y : Value} {b : Nat} (h : R1 w Im r y (some b)) : b < w.heap.size := by
  cases r with
  | new e sz es =>
    rcases h with h | ⟨b, cap, _, hb, _, _, _, ⟨cur, hc, _⟩, _⟩
    . cases h.1
    . cases hb; exact Jij hc
  | nptr e sz es =>
    obtain ⟨b, _, hb, _, hct⟩ := h
    cases hb
    obtain ⟨cur, hc, _⟩ := hct
    exact Jij hc
  | _ => cases h.1
theorem JnD {w : World} {Im : Nat -> Prop} : ∀ {rs : List AV} {ys : List Value} {obs : List (Option Nat)}, RL w Im rs ys obs -> ∀ b, some b ∈ obs -> b < w.heap.size
  | [], [], [], _, b, hb => by simp at hb
  | r :: rs, _ :: _, ob :: obs, h, b, hb => by
    rcases L0h.1 hb with rfl | hb
    . exact Jr5 h.1
    . exact JnD h.2 b hb
theorem RRep.tree {w w' : World} {Im : Nat -> Prop} {r : AV} {y : Value} (h : RRep w w' Im r y) (hn : Jur r = true) : RRep w w' Im (slR r) y := by
  obtain ⟨Im1, h1, h2, hr⟩ := h
  have key : ∀ obs : List (Option Nat), Jdv w.heap.size Im1 obs -> (∀ b, some b ∈ obs -> b < w'.heap.size) -> ∀ b, (Im1 b \/ some b ∈ obs) -> Im b \/ (w.heap.size <= b /\ b < w'.heap.size) := fun obs hf hl b hb => by
    rcases hb with hb | hb
    . exact h2 b hb
    . exact .inr ⟨(hf.1 b hb).1, hl b hb⟩
  have single : ∀ {r : AV}, (∃ ob, R1 w' Im1 r y ob /\ Jdv w.heap.size Im1 [ob]) -> Jg1 r = true -> ∃ Im' : Nat -> Prop, (∀ b, Im b -> Im' b) /\ (∀ b, Im' b -> Im b \/ (w.heap.size <= b /\ b < w'.heap.size)) /\ ∃ ob, R1 w' Im' (slR1 r) y ob /\ Jdv w.heap.size Im' [ob] := by
    rintro r ⟨ob, hr, hf⟩ hn
    refine ⟨fun b => Im1 b \/ some b ∈ [ob], fun b hb => .inl (h1 b hb), key [ob] hf fun b hb => ?_, none, hr.tree (fun b hb => .inl hb) (fun b hb => .inr (by simp [hb])) (fun e sz es he => by subst he; exact JeZ hn), Jfo [ob]⟩
    simp at hb; subst hb; exact Jr5 hr
  cases r with
  | tup rs =>
    obtain ⟨ys, obs, rfl, hl, hf⟩ := hr; have hn' := L0b.1 hn
    exact ⟨fun b => Im1 b \/ some b ∈ obs, fun b hb => .inl (h1 b hb), key obs hf (JnD hl), ys, _, rfl, hl.tree (fun b hb => .inl hb) (fun b hb => .inr hb) (fun e sz es he => JeZ (hn' _ he)), Jfo obs⟩
  | clo g rs =>
    obtain ⟨ys, obs, rfl, hl, hf⟩ := hr; have hn' := L0b.1 hn
    exact ⟨fun b => Im1 b \/ some b ∈ obs, fun b hb => .inl (h1 b hb), key obs hf (JnD hl), ys, _, rfl, hl.tree (fun b hb => .inl hb) (fun b hb => .inr hb) (fun e sz es he => JeZ (hn' _ he)), Jfo obs⟩
  | new e sz es => exact single hr hn
  | nptr e sz es =>
    obtain ⟨x, rfl⟩ := JeZ (e := e) (sz := sz) hn
    exact single hr hn
  | _ => exact single hr hn
theorem Jhs {P : Program} {f : FuncId} {args : List AV} {r : AV} (h : Ev P f args r) (r' : AV) (hn : Jur r = true := by first | rfl | simp [Jur, Jg1]) (he : slR r = r' := by first | rfl | simp [slR, slR1]) : Ev P f args r' := by
  subst he
  rintro xs r0 ⟨rfl, rfl⟩
  obtain ⟨h1, h2⟩ := h xs r ⟨rfl, rfl⟩
  exact ⟨h1, fun w Im vs hlow hgk hv => (h2 w Im vs hlow hgk hv).mono fun e w' ⟨y, he, hx, hr⟩ => ⟨y, he, hx, hr.tree hn⟩⟩
end Go.Vai

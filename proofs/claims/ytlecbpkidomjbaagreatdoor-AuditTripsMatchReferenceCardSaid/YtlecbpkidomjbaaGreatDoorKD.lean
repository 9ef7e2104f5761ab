/- A heap-free account of the walk, fourth part -/
import Derived.Test.YtlecbpkidomjbaaGreatDoorKC
import Derived.ProofKit
import Derived.OpenShut
import Derived.KernelRfl
import Derived.MapKept
set_option linter.all false
namespace Go.Vai
open Go.RowKit
theorem Jfb {o : Option AV} {K K' : AV -> Prop} (b : ∀ v, K v -> K' v) (h : optV o K) : optV o K' := by
 unfold optV at h ⊢
 repeat' (first | exact h.elim | exact b _ h | exact ⟨h.1, b _ h.2⟩ | (split at h <;> try simp only [*]))
theorem Jil {A : Prop} {o : Option AV} {K K' : AV -> Prop} (b : ∀ v, K v -> K' v) (h : Jjc A o K) : Jjc A o K' := by
 unfold Jjc at h ⊢
 repeat' (first | exact h.elim | exact b _ h | exact ⟨h.1, b _ h.2⟩ | (split at h <;> try simp only [*]))
theorem JkF {A : Prop} {o : Option UInt8} {K K' : AV -> Prop} (b : ∀ v, K v -> K' v) (h : optU A o K) : optU A o K' := by
 unfold optU at h ⊢
 repeat' (first | exact h.elim | exact b _ h | exact ⟨h.1, b _ h.2⟩ | (split at h <;> try simp only [*]))
theorem Jj0 {op : BinOp} {o : Option Bool} {K K' : AV -> Prop} (b : ∀ v, K v -> K' v) (h : eqlC op o K) : eqlC op o K' := by
 unfold eqlC at h ⊢
 repeat' (first | exact h.elim | exact b _ h | exact ⟨h.1, b _ h.2⟩ | (split at h <;> try simp only [*]))
theorem JjF {op : BinOp} {q : Option (List Nat)} {cs c : List AV} {K K' : AV -> Prop} (b : ∀ v, K v -> K' v) (h : aggC op q cs c K) : aggC op q cs c K' := by
 unfold aggC at h ⊢
 repeat' (first | exact h.elim | exact b _ h | exact ⟨h.1, b _ h.2⟩ | exact Jj0 b h | exact ⟨h.1, Jj0 b h.2⟩ | (split at h <;> try simp only [*]))
theorem Jkm {op : BinOp} {k : IntKind} {m : Int} {k' : IntKind} {n : Int} {K K' : AV -> Prop} (b : ∀ v, K v -> K' v) (h : intC op k m k' n K) : intC op k m k' n K' := by
 unfold intC at h ⊢
 repeat' (first | exact h.elim | exact b _ h | exact ⟨h.1, b _ h.2⟩ | (split at h <;> try simp only [*]))
theorem JkY {op : BinOp} {a b : ByteArray} {K K' : AV -> Prop} (c : ∀ v, K v -> K' v) (h : strC op a b K) : strC op a b K' := by
 unfold strC at h ⊢
 repeat' (first | exact h.elim | exact c _ h | exact ⟨h.1, c _ h.2⟩ | (split at h <;> try simp only [*]))
theorem Jij {op : BinOp} {u : AV} {q : Option TypeId} {K K' : AV -> Prop} (b : ∀ v, K v -> K' v) (h : JfP op u q K) : JfP op u q K' := by
 unfold JfP at h ⊢
 repeat' (first | exact h.elim | exact b _ h | exact ⟨h.1, b _ h.2⟩ | (split at h <;> try simp only [*]))
theorem Jpn {P : Program} {op : BinOp} {t : TypeId} {a b : AV} {K K' : AV -> Prop} (c : ∀ v, K v -> K' v) (h : binC P op t a b K) : binC P op t a b K' := by
 unfold binC at h ⊢
 repeat' (first | exact h.elim | exact c _ h | exact ⟨h.1, c _ h.2⟩ | exact Jij c h | exact JkY c h | exact Jkm c h | exact JjF c h | exact ⟨h.1, Jij c h.2⟩ | exact ⟨h.1, JkY c h.2⟩ | exact ⟨h.1, Jkm c h.2⟩ | exact ⟨h.1, JjF c h.2⟩ | (split at h <;> try simp only [*]))
theorem Jim {q : Option Bool} {s : Nat} {cs : List AV} {b : Nat} {K K' : AV -> Prop} (c : ∀ v, K v -> K' v) (h : JlX q s cs b K) : JlX q s cs b K' := by
 unfold JlX at h ⊢
 repeat' (first | exact h.elim | exact c _ h | exact ⟨h.1, c _ h.2⟩ | exact Jfb c h | exact ⟨h.1, Jfb c h.2⟩ | (split at h <;> try simp only [*]))
theorem JbH {P : Program} {t : TypeId} {cs : List AV} {b : Nat} {K K' : AV -> Prop} (c : ∀ v, K v -> K' v) (h : Jgr P t cs b K) : Jgr P t cs b K' := by
 unfold Jgr at h ⊢
 repeat' (first | exact h.elim | exact c _ h | exact ⟨h.1, c _ h.2⟩ | exact Jim c h | exact ⟨h.1, Jim c h.2⟩ | (split at h <;> try simp only [*]))
theorem Jid {P : Program} {t : TypeId} {o : Option AV} {j : Nat} {K K' : AV -> Prop} (b : ∀ v, K v -> K' v) (h : Ji5 P t o j K) : Ji5 P t o j K' := by
 unfold Ji5 at h ⊢
 repeat' (first | exact h.elim | exact b _ h | exact ⟨h.1, b _ h.2⟩ | exact JbH b h | exact ⟨h.1, JbH b h.2⟩ | (split at h <;> try simp only [*]))
theorem Jic {P : Program} {t : TypeId} {o : Option Blk} {sz i j : Nat} {K K' : AV -> Prop} (b : ∀ v, K v -> K' v) (h : Job P t o sz i j K) : Job P t o sz i j K' := by
 unfold Job at h ⊢
 repeat' (first | exact h.elim | exact b _ h | exact ⟨h.1, b _ h.2⟩ | exact Jid b h | exact ⟨h.1, Jid b h.2⟩ | (split at h <;> try simp only [*]))
theorem Joc {P : Program} {σ : Jac} {t : TypeId} {a : AV} {K K' : AV -> Prop} (b : ∀ v, K v -> K' v) (h : JhO P σ t a K) : JhO P σ t a K' := by
 unfold JhO at h ⊢
 repeat' (first | exact h.elim | exact b _ h | exact ⟨h.1, b _ h.2⟩ | exact Jic b h | exact JbH b h | exact ⟨h.1, Jic b h.2⟩ | exact ⟨h.1, JbH b h.2⟩ | (split at h <;> try simp only [*]))
theorem Jkz {a : AV} {K K' : AV -> Prop} (b : ∀ v, K v -> K' v) (h : Jez a K) : Jez a K' := by
 unfold Jez at h ⊢
 repeat' (first | exact h.elim | exact b _ h | exact ⟨h.1, b _ h.2⟩ | (split at h <;> try simp only [*]))
theorem Jop {c a b : AV} {K K' : AV -> Prop} (d : ∀ v, K v -> K' v) (h : Jag c a b K) : Jag c a b K' := by
 unfold Jag at h ⊢
 repeat' (first | exact h.elim | exact d _ h | exact ⟨h.1, d _ h.2⟩ | (split at h <;> try simp only [*]))
theorem Jh2 {o : Option (List AV)} {K K' : AV -> Prop} (b : ∀ v, K v -> K' v) (h : Jj3 o K) : Jj3 o K' := by
 unfold Jj3 at h ⊢
 repeat' (first | exact h.elim | exact b _ h | exact ⟨h.1, b _ h.2⟩ | (split at h <;> try simp only [*]))
theorem JgV {P : Program} {z : AV} {q : Option (List (Nat × TypeId))} {r : Option (Nat × TypeId)} {ps : List (Nat × AV)} {K K' : AV -> Prop} (b : ∀ v, K v -> K' v) (h : JhU P z q r ps K) : JhU P z q r ps K' := by
 unfold JhU at h ⊢
 repeat' (first | exact h.elim | exact b _ h | exact ⟨h.1, b _ h.2⟩ | exact Jh2 b h | exact ⟨h.1, Jh2 b h.2⟩ | (split at h <;> try simp only [*]))
theorem Jlh {P : Program} {z : Option AV} {q : Option (List (Nat × TypeId))} {r : Option (Nat × TypeId)} {ps : List (Nat × AV)} {K K' : AV -> Prop} (b : ∀ v, K v -> K' v) (h : Jf7 P z q r ps K) : Jf7 P z q r ps K' := by
 unfold Jf7 at h ⊢
 repeat' (first | exact h.elim | exact b _ h | exact ⟨h.1, b _ h.2⟩ | exact JgV b h | exact ⟨h.1, JgV b h.2⟩ | (split at h <;> try simp only [*]))
theorem Jtx {op : UnOp} {a : AV} {K K' : AV -> Prop} (b : ∀ v, K v -> K' v) (h : unC op a K) : unC op a K' := by
 unfold unC at h ⊢
 repeat' (first | exact h.elim | exact b _ h | exact ⟨h.1, b _ h.2⟩ | (split at h <;> try simp only [*]))
theorem JnT {u : Bool} {q : Option IntKind} {a : AV} {K K' : AV -> Prop} (b : ∀ v, K v -> K' v) (h : JjX u q a K) : JjX u q a K' := by
 unfold JjX at h ⊢
 repeat' (first | exact h.elim | exact b _ h | exact ⟨h.1, b _ h.2⟩ | (split at h <;> try simp only [*]))
theorem Jj9 {P : Program} {o : Option (Nat × TypeId)} {a : AV} {K K' : AV -> Prop} (b : ∀ v, K v -> K' v) (h : fldB P o a K) : fldB P o a K' := by
 unfold fldB at h ⊢
 repeat' (first | exact h.elim | exact b _ h | exact ⟨h.1, b _ h.2⟩ | exact JbH b h | exact ⟨h.1, JbH b h.2⟩ | (split at h <;> try simp only [*]))
theorem Jka {P : Program} {q : Option (List (Nat × TypeId))} {f : Nat} {a : AV} {K K' : AV -> Prop} (b : ∀ v, K v -> K' v) (h : fldC P q f a K) : fldC P q f a K' := by
 unfold fldC at h ⊢
 repeat' (first | exact h.elim | exact b _ h | exact ⟨h.1, b _ h.2⟩ | exact Jj9 b h | exact ⟨h.1, Jj9 b h.2⟩ | (split at h <;> try simp only [*]))
theorem Jkj {P : Program} {q : Option TypeId} {r : Option (Nat × TypeId)} {x : AV} {n : Int} {K K' : AV -> Prop} (b : ∀ v, K v -> K' v) (h : idxP P q r x n K) : idxP P q r x n K' := by
 unfold idxP at h ⊢
 repeat' (first | exact h.elim | exact b _ h | exact ⟨h.1, b _ h.2⟩ | exact Jil b h | exact ⟨h.1, Jil b h.2⟩ | (split at h <;> try simp only [*]))
theorem JiW {P : Program} {t : TypeId} {x i : AV} {K K' : AV -> Prop} (b : ∀ v, K v -> K' v) (h : JcI P t x i K) : JcI P t x i K' := by
 unfold JcI at h ⊢
 repeat' (first | exact h.elim | exact b _ h | exact ⟨h.1, b _ h.2⟩ | exact Jkj b h | exact ⟨h.1, Jkj b h.2⟩ | (split at h <;> try simp only [*]))
theorem Jki {P : Program} {r : Option (Nat × TypeId)} {cs : List AV} {n : Int} {K K' : AV -> Prop} (b : ∀ v, K v -> K' v) (h : idxG P r cs n K) : idxG P r cs n K' := by
 unfold idxG at h ⊢
 repeat' (first | exact h.elim | exact b _ h | exact ⟨h.1, b _ h.2⟩ | exact JbH b h | exact ⟨h.1, JbH b h.2⟩ | (split at h <;> try simp only [*]))
theorem Jp8 {P : Program} {t : TypeId} {x i : AV} {K K' : AV -> Prop} (b : ∀ v, K v -> K' v) (h : idxC P t x i K) : idxC P t x i K' := by
 unfold idxC at h ⊢
 repeat' (first | exact h.elim | exact b _ h | exact ⟨h.1, b _ h.2⟩ | exact Jki b h | exact JkF b h | exact ⟨h.1, Jki b h.2⟩ | exact ⟨h.1, JkF b h.2⟩ | (split at h <;> try simp only [*]))
theorem JpL {P : Program} {q : Option TypeId} {u : Bool} {x lo hi : AV} {K K' : AV -> Prop} (b : ∀ v, K v -> K' v) (h : cutE P q u x lo hi K) : cutE P q u x lo hi K' := by
 unfold cutE at h ⊢
 repeat' (first | exact h.elim | exact b _ h | exact ⟨h.1, b _ h.2⟩ | (split at h <;> try simp only [*]))
theorem Jqt {u : Bool} {q : Option TypeId} {x : AV} {K K' : AV -> Prop} (b : ∀ v, K v -> K' v) (h : lenC u q x K) : lenC u q x K' := by
 unfold lenC at h ⊢
 repeat' (first | exact h.elim | exact b _ h | exact ⟨h.1, b _ h.2⟩ | (split at h <;> try simp only [*]))
theorem Jqy {l : List AV} {K K' : AV -> Prop} (b : ∀ v, K v -> K' v) (h : maxC l K) : maxC l K' := by
 unfold maxC at h ⊢
 repeat' (first | exact h.elim | exact b _ h | exact ⟨h.1, b _ h.2⟩ | (split at h <;> try simp only [*]))
theorem Jqz {l : List AV} {K K' : AV -> Prop} (b : ∀ v, K v -> K' v) (h : minC l K) : minC l K' := by
 unfold minC at h ⊢
 repeat' (first | exact h.elim | exact b _ h | exact ⟨h.1, b _ h.2⟩ | (split at h <;> try simp only [*]))
theorem Jrm {l : List AV} {K K' : AV -> Prop} (b : ∀ v, K v -> K' v) (h : sldC l K) : sldC l K' := by
 unfold sldC at h ⊢
 repeat' (first | exact h.elim | exact b _ h | exact ⟨h.1, b _ h.2⟩ | (split at h <;> try simp only [*]))
theorem JpT {x : AV} {i : Nat} {K K' : AV -> Prop} (b : ∀ v, K v -> K' v) (h : extC x i K) : extC x i K' := by
 unfold extC at h ⊢
 repeat' (first | exact h.elim | exact b _ h | exact ⟨h.1, b _ h.2⟩ | exact Jfb b h | exact ⟨h.1, Jfb b h.2⟩ | (split at h <;> try simp only [*]))
theorem Jho {P : Program} {d : Nat} {q : Option TypeId} {K K' : AV -> List (Nat × Blk) -> Prop} (b : ∀ v l, K v l -> K' v l) (h : nilC P d q K) : nilC P d q K' := by
 unfold nilC at h ⊢
 repeat' (first | exact h.elim | exact b _ _ h | exact ⟨h.1, b _ _ h.2⟩ | (split at h <;> try simp only [*]))
theorem JgP {P : Program} {d : Nat} {t : TypeId} {q : Option TypeId} {s : Nat} {z : Option AV} {K K' : AV -> List (Nat × Blk) -> Prop} (b : ∀ v l, K v l -> K' v l) (h : JgO P d t q s z K) : JgO P d t q s z K' := by
 unfold JgO at h ⊢
 repeat' (first | exact h.elim | exact b _ _ h | exact ⟨h.1, b _ _ h.2⟩ | (split at h <;> try simp only [*]))
theorem JjQ {d : Nat} {t : TypeId} {s : Nat} {x : AV} {K K' : AV -> List (Nat × Blk) -> Prop} (b : ∀ v l, K v l -> K' v l) (h : boxC d t s x K) : boxC d t s x K' := by
 unfold boxC at h ⊢
 repeat' (first | exact h.elim | exact b _ _ h | exact ⟨h.1, b _ _ h.2⟩ | (split at h <;> try simp only [*]))
theorem Jf6 {P : Program} {d : Nat} {q : Option TypeId} {b : Nat} {f : List Nat} {xs : List AV} {K K' : AV -> List (Nat × Blk) -> Prop} (c : ∀ v l, K v l -> K' v l) (h : Jes P d q b f xs K) : Jes P d q b f xs K' := by
 unfold Jes at h ⊢
 repeat' (first | exact h.elim | exact c _ _ h | exact ⟨h.1, c _ _ h.2⟩ | (split at h <;> try simp only [*]))
theorem Jgf {P : Program} {d : Nat} {q : Option TypeId} {l c : AV} {K K' : AV -> List (Nat × Blk) -> Prop} (b : ∀ v l, K v l -> K' v l) (h : Jey P d q l c K) : Jey P d q l c K' := by
 unfold Jey at h ⊢
 repeat' (first | exact h.elim | exact b _ _ h | exact ⟨h.1, b _ _ h.2⟩ | (split at h <;> try simp only [*]))
theorem JqE {P : Program} {d : Nat} {op : Op} {ty : TypeId} {E : Env} {K K' : AV -> List (Nat × Blk) -> Prop} (b : ∀ v l, K v l -> K' v l) (h : newC P d op ty E K) : newC P d op ty E K' := by
 unfold newC at h ⊢
 repeat' (first | exact h.elim | exact b _ _ h | exact ⟨h.1, b _ _ h.2⟩ | exact Jgf b h | exact Jf6 b h | exact JjQ b h | exact JgP b h | exact Jho b h | exact ⟨h.1, Jgf b h.2⟩ | exact ⟨h.1, Jf6 b h.2⟩ | exact ⟨h.1, JjQ b h.2⟩ | exact ⟨h.1, JgP b h.2⟩ | exact ⟨h.1, Jho b h.2⟩ | (split at h <;> try simp only [*]))
theorem JjG {P : Program} {q : Option TypeId} {s : AV} {i : Nat -> Option Blk} {f : Option (Nat × List AV)} {K K' : Nat -> Nat -> Nat -> Blk -> Prop} (g : ∀ a b c d, K a b c d -> K' a b c d) (h : appA P q s i f K) : appA P q s i f K' := by
 unfold appA at h ⊢
 repeat' (first | exact h.elim | exact g _ _ _ _ h | exact ⟨h.1, g _ _ _ _ h.2⟩ | (split at h <;> try simp only [*]))
theorem Jpc {P : Program} {args : List Operand} {f : List TypeId} {E : Env} {σ : Jac} {K K' : Nat -> Nat -> Nat -> Blk -> Prop} (g : ∀ a b c d, K a b c d -> K' a b c d) (h : appC P args f E σ K) : appC P args f E σ K' := by
 unfold appC at h ⊢
 repeat' (first | exact h.elim | exact g _ _ _ _ h | exact ⟨h.1, g _ _ _ _ h.2⟩ | exact JjG g h | exact ⟨h.1, JjG g h.2⟩ | (split at h <;> try simp only [*]))
theorem JkX {P : Program} {t : TypeId} {k : Blk} {o : Option AV} {id sz i j : Nat} {v : AV} {E : Env} {σ : Jac} {K K' : Env -> Jac -> Prop} (b : ∀ E σ, K E σ -> K' E σ) (h : stoE P t k o id sz i j v K E σ) : stoE P t k o id sz i j v K' E σ := by
 unfold stoE at h ⊢
 repeat' (first | exact h.elim | exact b _ _ h | exact ⟨h.1, b _ _ h.2⟩ | (split at h <;> try simp only [*]))
theorem JkW {P : Program} {t : TypeId} {o : Option Blk} {id sz i j : Nat} {v : AV} {E : Env} {σ : Jac} {K K' : Env -> Jac -> Prop} (b : ∀ E σ, K E σ -> K' E σ) (h : stoB P t o id sz i j v K E σ) : stoB P t o id sz i j v K' E σ := by
 unfold stoB at h ⊢
 repeat' (first | exact h.elim | exact b _ _ h | exact ⟨h.1, b _ _ h.2⟩ | exact JkX b h | exact ⟨h.1, JkX b h.2⟩ | (split at h <;> try simp only [*]))
theorem Jmd {P : Program} {t : TypeId} {x v : AV} {dst : Option Nat} {E : Env} {σ : Jac} {K K' : Env -> Jac -> Prop} (b : ∀ E σ, K E σ -> K' E σ) (h : JhI P t x v dst K E σ) : JhI P t x v dst K' E σ := by
 unfold JhI at h ⊢
 repeat' (first | exact h.elim | exact b _ _ h | exact ⟨h.1, b _ _ h.2⟩ | exact JkW b h | exact ⟨h.1, JkW b h.2⟩ | (split at h <;> try simp only [*]))
theorem Jor {P : Program} {op : Op} {E : Env} {σ : Jac} {K K' : AV -> Prop} (b : ∀ v, K v -> K' v) (h : JlY P op E σ K) : JlY P op E σ K' := by
 unfold JlY at h ⊢
 split at h
 . exact b _ h
 . exact b _ h
 . exact Jop b h
 . exact Joc b h
 . exact Jkz b h
 . exact Jpn b h
 . exact Jlh b h
 . exact Jtx b h
 . exact JnT b h
 . unfold JdN at h ⊢
   split at h
   . exact ⟨h.1, b _ h.2⟩
   . exact ⟨h.1, b _ h.2⟩
 . exact ⟨h.1, Jka b h.2⟩
 . exact ⟨h.1, Jka b h.2⟩
 . exact JiW b h
 . exact Jp8 b h
 . exact JpT b h
 . exact JpL b h
 . split at h
   . rename_i c d
     exact Jqt b h
   . exact h.elim
 . exact Jqy b h
 . exact Jqz b h
 . exact Jrm b h
 . exact h.elim
section
variable {S : Sp} {K K' Kb Kb' : Env -> Jac -> Prop} {E : Env} {σ : Jac}
theorem JnH (o : ∀ E σ, K E σ -> K' E σ) {i f : Bool} {j g : Nat} {b : Bool} {args : List AV} {dst : Option Nat} {L L' : Prop} (p : L -> L') (h : JnG S i f j g b args dst K E σ L) : JnG S i f j g b args dst K' E σ L' := by
 rcases h with ⟨r, c, d, k, l, m⟩ | ⟨c, d⟩
 . exact .inl ⟨r, c, d, k, l, o _ _ m⟩
 . exact .inr ⟨c, p d⟩
theorem JnI (p : JcV S) (o : ∀ E σ, K E σ -> K' E σ) (d : ∀ E σ, Kb E σ -> Kb' E σ) {l i : Bool} {m : Nat} {f : AV} {args : List AV} {dst : Option Nat} {E' : Env} {c : Jac} {b : List AV} {j : AV} {L L' : Prop} (k : L -> L')
 (h : Jli S l i m f args dst K Kb E σ E' c b j L) : Jli S l i m f args dst K' Kb' E σ E' c b j L' := by
 unfold Jli at h ⊢
 split at h
 . exact ⟨h.1, p _ _ _ _ (λ v g q => d _ _ q) h.2⟩
 . split at h
   . unfold Jsu at h ⊢
     split at h
     . exact JnH o k h
     . exact ⟨h.1, k h.2⟩
   . exact h.elim
theorem Je7 (c : ∀ E σ, K E σ -> K' E σ) {b : Bool} {dst : Option Nat} {op : Op} {ty : TypeId} (h : newA S b dst op ty K E σ) : newA S b dst op ty K' E σ := by
 unfold newA at h ⊢
 split at h
 . exact JqE (λ v l d => c _ _ d) h
 . exact h.elim
theorem Jig (b : ∀ E σ, K E σ -> K' E σ) {c : Bool} {dst : Option Nat} {ty : TypeId} {x : Operand} (h : JlQ S c dst ty x K E σ) : JlQ S c dst ty x K' E σ := by
 unfold JlQ at h ⊢
 split at h
 . split at h
   . rename_i e d
     split at h
     . exact Jho (λ v l f => b _ _ f) h
     . exact h.elim
   . rename_i d
     exact b _ _ h
 . exact b _ _ h
theorem JkO (f : ∀ E σ, K E σ -> K' E σ) {dst : Option Nat} {op : Op} {ty : TypeId} (h : semD S dst op ty K E σ) : semD S dst op ty K' E σ := λ d b c => Jfi f (h d b c)
theorem JgQ (l : JcV S) (g : ∀ E σ, K E σ -> K' E σ) (f : ∀ E σ, Kb E σ -> Kb' E σ) {k j : Bool} {dst : Option Nat} {op : Op} {ty : TypeId} (h : aopC S k j dst op ty K Kb E σ) : aopC S k j dst op ty K' Kb' E σ := by
 unfold aopC at h ⊢
 split at h
 . exact Jig g h
 . exact Jig g h
 . exact Je7 g h
 . exact Je7 g h
 . exact Je7 g h
 . exact Je7 g h
 . exact JnI l g f (JkO f) h
 . split at h
   . exact Jpc (λ a b c d i => ⟨i.1, f _ _ i.2⟩) h
   . exact h.elim
 . exact Jmd f h
 . unfold Jov at h ⊢
   split at h
   . exact Jor (λ v i => g _ _ i) h
   . exact JkO f h
   . exact h.elim
theorem JlG (g : JcV S) (c : ∀ E σ, K E σ -> K' E σ) (d : ∀ E σ, Kb E σ -> Kb' E σ) {i f : Bool} {o : Option Nat} {b : Bool} {dst : Option Nat} {op : Op} {ty : TypeId} (h : Jgd S i f o b dst op ty K Kb E σ) : Jgd S i f o b dst op ty K' Kb' E σ := by
 unfold Jgd at h ⊢
 split at h
 . unfold Jh5 at h ⊢
   split at h
   . exact ⟨λ e => JgQ g c d (h.1 e), λ e => c _ _ (h.2 e)⟩
   . exact ⟨λ e => c _ _ (h.1 e), λ e => JgQ g c d (h.2 e)⟩
   . exact c _ _ h
   . exact h.elim
 . exact h.elim
theorem Jp4 (f : JcV S) (d : ∀ E σ, K E σ -> K' E σ) (b : ∀ E σ, Kb E σ -> Kb' E σ) {g c : Bool} {ops : List Oper} {o : Oper} (h : gopC S g c ops o K Kb E σ) : gopC S g c ops o K' Kb' E σ := by
 unfold gopC at h ⊢
 split at h
 . exact JgQ f d b h
 . exact JlG f d b h
theorem Jgn (c : ∀ E σ, K E σ -> K' E σ) {b : Bool} {l : List Oper} (E : Env) (σ : Jac) (h : JcB S b l K E σ) : JcB S b l K' E σ := by
 rw [Jcl] at h ⊢; exact Jb3 c E σ h
end
theorem Jht {S : Sp} (d : JcV S) {f : Bool} {ops : Array Oper} : ∀ (l : List Oper) (i : Nat) {K K' : Env -> Jac -> Prop} {E : Env} {σ : Jac}, (∀ E σ, K E σ -> K' E σ) -> opsC S f ops i l K E σ -> opsC S f ops i l K' E σ
 | [], _, _, _, _, _, c, h => c _ _ h
 | _ :: l, i, _, _, _, _, c, h => Jp4 d (λ _ _ b => Jht d l (i + 1) c b) (λ E σ b => Jgn (λ _ _ b => Jht d l (i + 1) c b) E σ b) h
theorem Jbx {S : Sp} (i : JcV S) : ∀ (c : Code) {Q Q' : Exit -> Env -> Jac -> Prop} {E : Env} {σ : Jac}, (∀ e E σ, Q e E σ -> Q' e E σ) -> awpC S c Q E σ -> awpC S c Q' E σ
 | .skip, Q, Q', E, σ, d, h => d .normal E σ h
 | .label _, Q, Q', E, σ, d, h => d .normal E σ h
 | .seq a b, Q, Q', E, σ, d, h => by
  simp only [awpC] at h ⊢
  exact Jbx i a (JbK (λ _ _ h => Jbx i b d h) d) h
 | .region id s o, Q, Q', E, σ, d, h => by
  simp only [awpC] at h ⊢; unfold regX at h ⊢
  split at h
  rotate_left
  . exact λ C H n R j a w g => h C H n R (λ e E σ a w l g => j e E σ a w (d _ _ _ l) g) a w g
  exact Jgn (λ _ _ k => Jht i _ 0 (d .normal) k) E σ h
 | .cond c x y, Q, Q', E, σ, d, h => by
  simp only [awpC] at h ⊢; unfold JpJ at h ⊢
  split at h
  . exact ⟨λ e => Jbx i x d (h.1 e), λ e => Jbx i y d (h.2 e)⟩
  . exact h.elim
 | .block id c, Q, Q', E, σ, d, h => by
  simp only [awpC] at h ⊢
  exact Jbx i c (JgT d) h
 | .scope c, Q, Q', E, σ, d, h => by
  simp only [awpC] at h ⊢
  exact Jbx i c (JhD d) h
 | .loop c, Q, Q', E, σ, d, h => by
  simp only [awpC] at h ⊢; obtain ⟨I, p, g⟩ := h
  exact ⟨I, p, λ n E σ q => Jbx i c (JbK (λ _ _ k => k) d) (g n E σ q)⟩
 | .exit _, Q, Q', E, σ, d, h => d _ E σ h
 | .ret, Q, Q', E, σ, d, h => d .ret E σ h
 | .rangeFunc f u t m, Q, Q', E, σ, d, h => λ C H n R j a w g => h C H n R (λ e E σ a w l g => j e E σ a w (d _ _ _ l) g) a w g
class Plain (S : Sp) : Prop where
 mono : JcV S
instance (P : Program) (f N : Nat) : Plain (spOf P f N) := ⟨λ _ _ _ _ _ hk => (show False from hk).elim⟩
theorem JbX {S : Sp} [hp : Plain S] {c : Prop} {d f b : Code} {Q : Exit -> Env -> Jac -> Prop} {E E' : Env} {σ : Jac} (J : Env -> Jac -> Prop) (i : c -> awpC S d (Jdd J Q) E σ) (j : ¬ c -> awpC S f (Jdd J Q) E' σ) (g : ∀ E σ, J E σ -> awpC S b Q E σ) :
 branch c (awpC S d (Jdd (awpC S b Q) Q)) E (awpC S f (Jdd (awpC S b Q) Q)) E' σ :=
 ⟨λ e => Jbx hp.mono d (JbK g λ _ _ _ h => h) (i e), λ e => Jbx hp.mono f (JbK g λ _ _ _ h => h) (j e)⟩
def JnX (id : Nat) (J : Env -> Jac -> Prop) (Q : Exit -> Env -> Jac -> Prop) : Exit -> Env -> Jac -> Prop
 | .exit i => if i = id then J else Q (.exit i)
 | e => Q e
@[go_sem ↓] theorem Jws (id i : Nat) (J : Env -> Jac -> Prop) (Q : Exit -> Env -> Jac -> Prop) (E : Env) (σ : Jac) : JnX id J Q (.exit i) E σ = if i = id then J E σ else Q (.exit i) E σ := by simp only [JnX]; split <;> rfl
@[go_sem ↓] theorem JtV (id : Nat) (J : Env -> Jac -> Prop) (Q : Exit -> Env -> Jac -> Prop) (E : Env) (σ : Jac) : JnX id J Q .normal E σ = Q .normal E σ := rfl
@[go_sem ↓] theorem Jx3 (id : Nat) (J : Env -> Jac -> Prop) (Q : Exit -> Env -> Jac -> Prop) (E : Env) (σ : Jac) : JnX id J Q .ret E σ = Q .ret E σ := rfl
theorem Jkt {S : Sp} [hp : Plain S] {c : Code} {Q : Exit -> Env -> Jac -> Prop} {E : Env} {σ : Jac} (id : Nat) (J : Env -> Jac -> Prop) (h : Jqw (awpC S c) (JnX id J Q) E σ) (d : ∀ E σ, J E σ -> Q (.exit id) E σ) : Jqw (awpC S c) Q E σ := by
 obtain ⟨I, f, j⟩ := h
 refine ⟨I, f, λ n E σ g => Jbx hp.mono c (JbK (λ _ _ b => b) λ e E σ b => ?_) (j n E σ g)⟩
 unfold JnX at b
 split at b
 . split at b
   . rename_i i e; subst e; exact d _ _ b
   . exact b
 . exact b
open Go.RowKit Go.ChangeShapes Go.WideShapes
variable {H : Type} {enc : TypeId × Value -> H} {P : Program} {w : World}
abbrev Here (w : World) : Nat -> Prop := λ b => b < w.heap.size
def JiE (w : World) (a : AV) (cs : List Value) : Prop :=
 a.cells.length = cs.length /\ ∀ (j : Nat) (c : AV) (y : Value), a.cells[j]? = some c -> cs[j]? = some y -> y.oneCell' = true /\ IRep w (Here w) c y
def Jb6 (P : Program) (enc : TypeId × Value -> H) (w : World) (t : TypeId) (p : AV -> Prop) : Prop :=
 (∃ g, tagg P t = some g /\ ∀ a, p a -> if g = true then (∃ f, a = .agg f) else a.cells = [a]) /\
 ∀ b h d c f x, DataW.trod enc P w b h d c t f = some x -> ∃ a, p a /\ JiE w a f
theorem Jb6.mono {t : TypeId} {p q : AV -> Prop} (h : Jb6 P enc w t p) (c : ∀ a, p a -> q a) (d : ∀ a, q a -> p a) : Jb6 P enc w t q := by
 obtain ⟨⟨g, l, m⟩, h⟩ := h
 refine ⟨⟨g, l, λ a b => m a (d a b)⟩, λ f u j i s x o => ?_⟩
 obtain ⟨a, b, k⟩ := h _ _ _ _ _ _ o
 exact ⟨a, c a b, k⟩
theorem JjS (x : Value) (f : x.oneCell' = true) : JiE w (.v x) [x] :=
 ⟨rfl, λ j c y b d => by
  cases j with
  | zero => simp at b d; subst b; subst d; exact ⟨f, .v _⟩
  | succ j => simp at b⟩
theorem JqM {t : TypeId} {k : IntKind} (g : P.underlying t = some (.int k)) : Jb6 P enc w t λ a => ∃ n, (Lit.int k n).wf = true /\ a = .v (.int k n) := by
 refine ⟨⟨false, by simp [tagg, g], ?_⟩, λ c o d b j x h => ?_⟩
 . rintro a ⟨n, _, rfl⟩; rfl
 . cases b with
   | zero => simp [DataW.trod] at h
   | succ f =>
    unfold DataW.trod at h; rw [g] at h
    split at h <;> simp_all
    rename_i m n l
    obtain ⟨⟨rfl, i⟩, _⟩ := h
    exact ⟨_, ⟨n, i, rfl⟩, JjS _ rfl⟩
theorem JkE {t : TypeId} (g : P.underlying t = some .string) : Jb6 P enc w t λ a => ∃ s : ByteArray, s.size <= maxLen /\ a = .v (.string s) := by
 refine ⟨⟨false, by simp [tagg, g], ?_⟩, λ c j d b i x h => ?_⟩
 . rintro a ⟨n, _, rfl⟩; rfl
 . cases b with
   | zero => simp [DataW.trod] at h
   | succ f =>
    unfold DataW.trod at h; rw [g] at h
    split at h <;> simp_all
    exact ⟨_, ⟨_, h.1, rfl⟩, JjS _ rfl⟩
theorem Jlo {T : Type} {n : Nat} {p : Nat -> T -> Prop} (h : ∀ i, i < n -> ∃ x, p i x) : ∃ l : List T, l.length = n /\ ∀ i x, l[i]? = some x -> p i x := by
 induction n with
 | zero => exact ⟨[], rfl, λ i x c => by simp at c⟩
 | succ n g =>
  obtain ⟨l, d, f⟩ := g λ i hi => h i (by omega)
  obtain ⟨x, c⟩ := h n (by omega)
  refine ⟨l ++ [x], by simp [d], λ i y b => ?_⟩
  by_cases hi : i < l.length
  . rw [L0k hi] at b; exact f i y b
  . rw [L0o (by omega)] at b
    have : i - l.length = 0 := by
     cases hh : i - l.length with
     | zero => rfl
     | succ k => rw [hh] at b; simp at b
    rw [this] at b; simp at b; subst b
    have : i = n := by omega
    subst this; exact c
theorem Jcw {T : Type} {t e : TypeId} {q : T -> Prop} {f : T -> AV} {sz : Nat} (ht : P.underlying t = some (.slice e)) (hs : P.cellsOf e = sz) (h0 : 0 < sz) (he : Jb6 P enc w e λ a => ∃ x, q x /\ a = f x) :
 Jb6 P enc w t λ a => ∃ l : List T, l.length <= maxLen /\ (∀ x ∈ l, q x) /\ a = .sl sz (l.map f) := by
 refine ⟨⟨false, by simp [tagg, ht], ?_⟩, λ base sp held fuel cs x h => ?_⟩
 . rintro a ⟨l, _, _, rfl⟩; rfl
 have single : ∀ (a : Option Addr) (n cap : Nat) (l : List T), IRep w (Here w) (.sl sz (l.map f)) (.slice a n cap) -> JiE w (.sl sz (l.map f)) [.slice a n cap] := λ a n cap l h =>
  ⟨rfl, λ j c y hc hy => by
   cases j with
   | zero => simp at hc hy; subst hc; subst hy; exact ⟨rfl, h⟩
   | succ j => simp at hc⟩
 rcases DataW.trod_slice ht h with ⟨rfl, _⟩ | ⟨a, len, cap, elems, rest, n, _, rfl, _, _, hl, hm, hlen, hel, _, _⟩
 . exact ⟨_, ⟨[], by simp, by simp, rfl⟩, single _ _ _ [] (.slnil ..)⟩
 . have hi : ∀ i, i < len -> ∃ x : T, q x /\ ∃ cs, (∀ j, j < sz -> w.cell? ((a.add (i * sz)).add j) = cs[j]?) /\ cs.length = sz /\ JiE w (f x) cs := λ i hi => by
    have hE := hel i hi; rw [hs] at hE
    obtain ⟨y, hy⟩ : ∃ y, elems[i]? = some y := ⟨_, L08 (by omega)⟩
    rw [hy] at hE
    obtain ⟨cs, hcs, htr⟩ := Option.bind_eq_some_iff.1 hE
    obtain ⟨a', ⟨x, hx, rfl⟩, hc⟩ := he.2 _ _ _ _ _ _ htr
    obtain ⟨_, h1, h2⟩ := World.cells?_some hcs
    exact ⟨x, hx, cs, h2, h1, hc⟩
   obtain ⟨l, hll, hp⟩ := Jlo hi
   refine ⟨_, ⟨l, by omega, λ x hx => ?_, rfl⟩, single _ _ _ l ?_⟩
   . obtain ⟨i, hi⟩ := L2a hx; exact (hp i x hi).1
   . by_cases hz : len = 0
     . have : l = [] := List.length_eq_zero_iff.1 (by omega)
       subst this; subst hz; exact .slnil ..
     . -- the first cell shows the address
       obtain ⟨x0, h0x⟩ : ∃ x, l[0]? = some x := ⟨_, L08 (by omega)⟩
       obtain ⟨_, cs0, hc0, hn0, _⟩ := hp 0 x0 h0x
       have hsp : a.spot = none /\ a.block < w.heap.size := by
        have h1 := hc0 0 h0
        rw [L08 (by omega)] at h1
        simp only [Nat.zero_mul, Addr.add, if_true] at h1; unfold World.cell? at h1
        split at h1
        . rename_i c u fr hh
          refine ⟨?_, (L0m.1 hh).1⟩
          split at h1
          . cases h1
          . rename_i hn; simpa using hn
        . cases h1
       obtain ⟨b, o, spot⟩ := a; obtain ⟨h1, h2⟩ := hsp
       simp only at h1 h2
       subst h1
       have hadd : ∀ i j, (Addr.add (Addr.add ⟨b, o, none⟩ (i * sz)) j) = ⟨b, o + i * sz + j, none⟩ := λ i j => by
        unfold Addr.add; by_cases hi : i * sz = 0 <;> by_cases hj : j = 0 <;> simp [hi, hj]
       have hcell : ∀ i j x, l[i]? = some x -> j < sz -> ∃ c, (f x).cells[j]? = some c /\ ∃ y, w.cell? ⟨b, o + i * sz + j, none⟩ = some y /\ y.oneCell' = true /\ IRep w (Here w) c y := λ i j x hx hj => by
        obtain ⟨_, cs, h1, h2, h3, h4⟩ := hp i x hx
        have h1 := h1 j hj
        rw [hadd, L08 (by omega)] at h1
        refine ⟨_, L08 (by omega), _, h1, ?_⟩
        exact h4 j _ _ (L08 (by omega)) (L08 (by omega))
       have hlm : (l.map f).length = len := by simp [hll]
       rw [<- hlm]
       refine .sl sz (l.map f) b o cap (λ i j => (w.cell? ⟨b, o + i * sz + j, none⟩).getD undef) h2 (by omega) (λ e he => ?_) (λ i j hi hj => ?_) λ i e j c hie hjc => ?_
       . obtain ⟨x, hx, rfl⟩ := L05.1 he
         obtain ⟨i, hi⟩ := L2a hx
         obtain ⟨_, cs, _, h2, h3, _⟩ := hp i x hi
         rw [h3, h2]
       . obtain ⟨c, _, y, hy, h1, _⟩ := hcell i j l[i] (L08 (by simpa using hi)) hj
         rw [hy]; exact ⟨rfl, h1⟩
       . rw [L07] at hie
         obtain ⟨x, hx, rfl⟩ := L0h.1 hie
         have hj : j < sz := by
          obtain ⟨_, cs, _, h2, h3, _⟩ := hp i x hx
          have := (L0a.1 hjc).1; omega
         obtain ⟨c', hc', y, hy, _, hr⟩ := hcell i j x hx hj
         rw [hc'] at hjc; cases hjc
         rw [hy]; exact hr
def Jmy (P : Program) : Nat -> List (Nat × TypeId) -> Bool
 | _, [] => true
 | n, f :: r => f.1 == n && Jmy P (n + P.cellsOf f.2) r
def sumB (P : Program) : List (Nat × TypeId) -> Nat
 | [] => 0
 | f :: r => P.cellsOf f.2 + sumB P r
def AllP : List (AV -> Prop) -> List AV -> Prop
 | [], [] => True
 | p :: c, a :: b => p a /\ AllP c b
 | _, _ => False
def JeL (P : Program) (enc : TypeId × Value -> H) (w : World) : List TypeId -> List (AV -> Prop) -> Prop
 | [], [] => True
 | t :: c, p :: b => Jb6 P enc w t p /\ JeL P enc w c b
 | _, _ => False
theorem Jgg : ∀ (k : List (Nat × TypeId)) (ps : List (AV -> Prop)) (n : Nat) (cs : List Value), JeL P enc w (k.map (·.2)) ps -> Jmy P n k = true -> n + sumB P k = cs.length ->
 (∀ f ∈ k, ∃ d E i fuel x, DataW.trod enc P w d E i fuel f.2 ((cs.drop f.1).take (P.cellsOf f.2)) = some x) ->
 ∃ l, AllP ps l /\ (l.flatMap AV.cells).length = cs.length - n /\ ∀ (j : Nat) (c : AV) (y : Value), (l.flatMap AV.cells)[j]? = some c -> cs[n + j]? = some y -> y.oneCell' = true /\ IRep w (Here w) c y
 | [], [], n, cs, _, _, u, _ => ⟨[], trivial, by simp [sumB] at u; simp [u], λ j c y z => by simp at z⟩
 | [], _ :: _, _, _, h, _, _, _ => h.elim
 | _ :: _, [], _, _, h, _, _, _ => h.elim
 | f :: k, p :: ps, n, cs, h, b, u, C => by
  obtain ⟨F, G⟩ := h; simp only [Jmy, L00, beq_iff_eq] at b; obtain ⟨J, b⟩ := b; simp only [sumB] at u
  obtain ⟨l, H, t, z⟩ := Jgg k ps (n + P.cellsOf f.2) cs G b (by omega) λ g hg => C g (by simp [hg])
  obtain ⟨d, E, i, fuel, x, K⟩ := C f (by simp)
  obtain ⟨a, A, o, m⟩ := F.2 _ _ _ _ _ _ K
  rw [J] at o m
  have q : a.cells.length = P.cellsOf f.2 := by rw [o]; simp; omega
  refine ⟨a :: l, ⟨A, H⟩, by simp [q] at t ⊢; omega, λ j c y s D => ?_⟩
  simp only [L1B] at s
  by_cases hlt : j < a.cells.length
  . rw [L0k hlt] at s
    refine m j c y s ?_
    rw [List.getElem?_take_of_lt (by omega), L0D]; exact D
  . rw [L0o (by omega)] at s
    refine z (j - a.cells.length) c y s ?_
    rw [show n + P.cellsOf f.2 + (j - a.cells.length) = n + j from by omega]; exact D
theorem Jgh {t : TypeId} {d : Array Field} {ps : List (AV -> Prop)} (u : P.underlying t = some (.struct d)) (K : JeL P enc w (d.toList.map (·.type)) ps) (E : Jmy P 0 (d.toList.map λ f => (f.offset, f.type)) = true)
 (k : sumB P (d.toList.map λ f => (f.offset, f.type)) = P.cellsOf t) : Jb6 P enc w t λ a => ∃ b, AllP ps b /\ a = .agg (b.flatMap AV.cells) := by
 refine ⟨⟨true, by simp [tagg, u], ?_⟩, λ m M p o z x h => ?_⟩
 . rintro a ⟨b, _, rfl⟩; exact ⟨_, rfl⟩
 obtain ⟨N, n, _, _, J, s, F⟩ := DataW.trod_struct u h
 obtain ⟨b, D, A, C⟩ := Jgg (enc := enc) (w := w) (d.toList.map λ f => (f.offset, f.type)) ps 0 z (by simpa [L19, Function.comp_def] using K) E (by rw [k, J]; omega) λ f l => by
  obtain ⟨g, G, rfl⟩ := L05.1 l
  obtain ⟨i, q⟩ := L2a G
  have := F i g (by simpa using q)
  rw [L08 (by have := (L0a.1 q).1; simp at this; omega)] at this
  exact ⟨_, _, _, _, _, this⟩
 exact ⟨_, ⟨b, D, rfl⟩, by simpa using A, λ j c y H L => C j c y H (by simpa using L)⟩
theorem JeC {T : Type} {t e : TypeId} {n : Nat} {q : T -> Prop} {f : T -> AV} {sz : Nat} (J : P.underlying t = some (.array n e)) (S : P.cellsOf e = sz) (A : P.cellsOf t = n * sz) (M : Jb6 P enc w e λ a => ∃ x, q x /\ a = f x) :
 Jb6 P enc w t λ a => ∃ l : List T, l.length = n /\ (∀ x ∈ l, q x) /\ a = .agg (l.flatMap λ x => (f x).cells) := by
 refine ⟨⟨true, by simp [tagg, J], ?_⟩, λ D W G E K x h => ?_⟩
 . rintro a ⟨l, _, _, rfl⟩; exact ⟨_, rfl⟩
 obtain ⟨X, m, _, _, R, H, N⟩ := DataW.trod_array J h
 have C : ∀ k, k <= n -> ∃ l : List T, l.length = k /\ (∀ x ∈ l, q x) /\ (l.flatMap λ x => (f x).cells).length = k * sz /\ ∀ (j : Nat) (c : AV) (y : Value), (l.flatMap λ x => (f x).cells)[j]? = some c -> K[j]? = some y -> y.oneCell' = true /\ IRep w (Here w) c y := by
  intro k
  induction k with
  | zero => intro _; exact ⟨[], rfl, by simp, by simp, λ j c y L => by simp at L⟩
  | succ k V =>
   intro O
   obtain ⟨l, o, p, i, s⟩ := V (by omega)
   have F := N k (by omega)
   rw [S, L08 (by omega)] at F
   obtain ⟨a, ⟨x, U, rfl⟩, z, u⟩ := M.2 _ _ _ _ _ _ F
   have Q : k * sz + sz <= n * sz := by have := L0y sz O; rw [L13] at this; exact this
   have g : (f x).cells.length = sz := by rw [z]; simp; omega
   refine ⟨l ++ [x], by simp [o], ?_, by simp [i, g, L13], λ j c y b d => ?_⟩
   . intro y d; simp at d; rcases d with d | rfl; exact p y d; exact U
   . simp only [L2r, L1B, List.flatMap_nil, L0F] at b
     by_cases hlt : j < k * sz
     . rw [L0k (by omega)] at b; exact s j c y b d
     . rw [L0o (by omega)] at b
       rw [i] at b
       refine u _ c y b ?_
       have := (L0a.1 b).1
       rw [List.getElem?_take_of_lt (by omega), L0D, show k * sz + (j - k * sz) = j from by omega]; exact d
 obtain ⟨l, o, p, i, s⟩ := C n (L09 _)
 exact ⟨_, ⟨l, o, p, rfl⟩, by simp [i, R, A], s⟩
theorem JqL {t : TypeId} {p : AV -> Prop} {v : Value} {d : DataW H} {ps : List MemPlace} {base sp held r b} (q : Jb6 P enc w t p) (h : DataW.Trod enc P w base sp held t v d ps) (f : Value.okWide P w r b t v) : ∃ a, p a /\ IRep w (Here w) a v := by
 obtain ⟨⟨g, D, s⟩, q⟩ := q
 obtain ⟨C, h⟩ := h
 obtain ⟨a, E, l, i⟩ := q _ _ _ _ _ _ h
 refine ⟨a, E, ?_⟩
 have m := s a E; unfold tagg at D; unfold Value.okWide at f
 cases g with
 | true =>
  simp only [if_true] at m; obtain ⟨A, rfl⟩ := m
  have u : ∃ ys, v = .agg ys := by
   split at f
   . obtain ⟨ys, rfl, _⟩ := f; exact ⟨ys, rfl⟩
   . obtain ⟨ys, rfl, _⟩ := f; exact ⟨ys, rfl⟩
   . split at D <;> simp_all
  obtain ⟨ys, rfl⟩ := u; simp only [Value.cells, AV.cells_agg] at l i
  have := IRep.agg (w := w) (Im := Here w) A ys.toList l (λ y z => by
   obtain ⟨j, k⟩ := L2a z
   obtain ⟨c, o⟩ : ∃ c, A[j]? = some c := ⟨_, L08 (by have := (L0a.1 k).1; omega)⟩
   exact (i j c y o k).1) λ j c y k z => (i j c y k z).2
  simpa using this
 | false =>
  simp only [L0C, if_false] at m
  have u : v.cells = #[v] := by
   cases v with
   | agg ys =>
    exfalso
    split at f
    . simp_all
    . simp_all
    . unfold Cell.okWide at f
      split at f <;> simp_all [Cell.ok]
   | _ => rfl
  rw [u] at l i; rw [m] at l i
  exact (i 0 a v rfl rfl).2
theorem Jik : ∀ {m : List TypeId} {ps : List (AV -> Prop)} {vs : List Value} {o : List (DataW H)} {p : List MemPlace} {f A g r b}, JeL P enc w m ps -> DataW.TrodAll enc P w f A g m vs o p ->
 (∀ (j : Nat) t v, m[j]? = some t -> vs[j]? = some v -> Value.okWide P w r b t v) -> ∃ l, AllP ps l /\ JiF w (Here w) l vs
 | [], [], vs, o, p, f, A, g, r, b, _, h, _ => by
  obtain ⟨rfl, _, _⟩ := trodAll_nil h
  exact ⟨[], trivial, rfl, λ j c y i => by simp at i⟩
 | [], _ :: _, _, _, _, _, _, _, _, _, h, _, _ => h.elim
 | _ :: _, [], _, _, _, _, _, _, _, _, h, _, _ => h.elim
 | t :: m, q :: ps, vs, o, p, f, A, g, r, b, C, h, k => by
  obtain ⟨v, L, d, D, M, N, rfl, rfl, rfl, E, F⟩ := trodAll_cons h
  obtain ⟨a, G, K⟩ := JqL C.1 E (k 0 t v rfl rfl)
  obtain ⟨l, s, J, u⟩ := Jik C.2 F λ j t v hj hv => k (j + 1) t v (by simpa using hj) (by simpa using hv)
  refine ⟨a :: l, ⟨G, s⟩, by simp [J], λ j c y i z => ?_⟩
  cases j with
  | zero => simp at i z; subst i; subst z; exact K
  | succ j => exact u j c y (by simpa using i) (by simpa using z)
theorem Jfq (l : laidOutB P = true) {W j : World} (k : Below W.heap.size W j) : ∀ {f : List TypeId} {vs : List Value} {c : List (DataW H)} {p : List MemPlace}, (∀ t ∈ f, P.readableRec t = true /\ t < P.types.size) ->
 (∀ x ∈ p, x.block < W.heap.size) -> DataW.TrodAll enc P W 0 (λ _ => true) true f vs c p -> DataW.TrodAll enc P j 0 (λ b => decide (b < W.heap.size)) true f vs c p
 | [], vs, c, p, _, _, h => by
  obtain ⟨rfl, rfl, rfl⟩ := trodAll_nil h
  rfl
 | t :: f, vs, c, p, g, m, h => by
  obtain ⟨v, z, d, o, w, y, rfl, rfl, rfl, q, s⟩ := trodAll_cons h
  exact ⟨w, y, Below.trod l (g t (by simp)).1 (g t (by simp)).2 q k λ x i => m x (by simp [i]), Jfq l k (λ t u => g t (by simp [u])) (λ x i => m x (by simp [i])) s, rfl⟩
theorem JlK {w w' : World} {may : MemPlace -> Prop} (h : Ext w (λ _ => False) w') : w.keptBut w' may := by
 refine ⟨h.os, h.output, λ i b => ?_⟩
 rw [h.block i b λ h => h]
 cases hw : w.heap[i]? with
 | none => trivial
 | some o => cases o <;> simp
theorem JqT {H : Type} {enc : TypeId × Value -> H} {P : Program} {f : Func} {s : ChangeSpec} {l g : Bool} {W u : World} {args : Array Value} {c V : List (DataW H)} {k : List MemPlace} {tb : TypeId}
 (Y : laidOutB P = true) (hr : ∀ t ∈ f.params.toList, P.readableRec t = true /\ t < P.types.size) (z : f.resultTypes = #[tb]) (A : P.underlying tb = some .bool) (i : s.vars = [])
 (hs : ∀ c : List (DataW H), c.length = f.params.size -> s.fn H c = { results := [.lit (.bool true)], args := c })
 (N : DataW.Whole enc P f.params.toList s.vars false W args.toList c V k) (E : Ext W (λ _ => False) u) : s.post enc P f false l g false W args (.bool true) u := by
 have m := N; obtain ⟨p, q, L, M, rfl, F, Z⟩ := N; rw [i] at M; have o := m.lt
 obtain ⟨rfl, rfl⟩ := trodVars_none M
 have w : c.length = f.params.size := by
  have K : ∀ (C : List TypeId) (vs : List Value) (c : List (DataW H)) (p : List MemPlace), DataW.TrodAll enc P W 0 (λ _ => true) true C vs c p -> c.length = C.length := by
   intro C
   induction C with
   | nil => intro vs c p h; obtain ⟨_, rfl, _⟩ := trodAll_nil h; rfl
   | cons t C ih =>
    intro vs c p h
    obtain ⟨v, aa, d, U, p', q', rfl, rfl, rfl, h1, X⟩ := trodAll_cons h
    simp [ih _ _ _ X]
  simpa using K _ _ _ _ L
 have e := hs c w; simp only [L0F] at m o F
 have G : DataW.TrodAll enc P u 0 (λ b => decide (b < W.heap.size)) true f.params.toList args.toList c p := Jfq Y E.below hr o L
 have Q : ∀ (j : Nat) (t : TypeId) (r : Value), f.resultTypes[j]? = some t -> ((Value.bool true).resultList f.resultTypes.size)[j]? = some r -> Value.okWide P u .any 0 t r := by
  intro j t r D J
  rw [z] at D J
  cases j with
  | zero =>
   simp [Value.resultList] at D J
   subst D; subst J
   simp [Value.okWide, A, Cell.okWide, Cell.ok]
  | succ j => simp at D
 have y : ∀ (b : Nat) (T : Nat -> Bool) (O : Bool), DataW.TrodAll enc P u b T O f.resultTypes.toList ((Value.bool true).resultList f.resultTypes.size) [.lit (.bool true)] [] := by
  intro b T O
  rw [z]
  exact ⟨[], [], ⟨1, by simp [DataW.trod, Value.cells, A]⟩, rfl, rfl⟩
 have R : ∀ x ∈ p, decide (x.block < W.heap.size) = true := λ x E => by simpa using o x E
 refine ⟨c, [], p, [], p, [], m, ?_, ?_, ?_, World.keptBut_mono (λ p S => ⟨S, ?_⟩) (JlK (may := (· ∈ p)) E), λ h => by cases h⟩
 . simp only [L0F, e]; exact y _ _ _
 . simp only [L0F, e]; exact G
 . simp only [L0F, e, i]; rfl
 . exact .inr (by simpa using S)
theorem Jxu {c d f g : AV -> Prop} {Q : List AV -> Prop} (h : ∀ i j k m, c i -> d j -> f k -> g m -> Q [i, j, k, m]) : ∀ l, AllP [c, d, f, g] l -> Q l
 | [i, j, k, m], b => h i j k m b.1 b.2.1 b.2.2.1 b.2.2.2.1
 | [], b => (b : False).elim
 | [_], b => (b.2 : False).elim
 | [_, _], b => (b.2.2 : False).elim
 | [_, _, _], b => (b.2.2.2 : False).elim
 | _ :: _ :: _ :: _ :: _ :: _, b => (b.2.2.2.2 : False).elim
theorem Jxv {c d f g i j : AV -> Prop} {Q : List AV -> Prop} (h : ∀ k m o p q s, c k -> d m -> f o -> g p -> i q -> j s -> Q [k, m, o, p, q, s]) : ∀ l, AllP [c, d, f, g, i, j] l -> Q l
 | [k, m, o, p, q, s], b => h k m o p q s b.1 b.2.1 b.2.2.1 b.2.2.2.1 b.2.2.2.2.1 b.2.2.2.2.2.1
 | [], b => (b : False).elim
 | [_], b => (b.2 : False).elim
 | [_, _], b => (b.2.2 : False).elim
 | [_, _, _], b => (b.2.2.2 : False).elim
 | [_, _, _, _], b => (b.2.2.2.2 : False).elim
 | [_, _, _, _, _], b => (b.2.2.2.2.2 : False).elim
 | _ :: _ :: _ :: _ :: _ :: _ :: _ :: _, b => (b.2.2.2.2.2.2 : False).elim
theorem JB2 {T : Type} {Q : List T -> Prop} (h : ∀ c d f g i j, Q [c, d, f, g, i, j]) : ∀ l : List T, l.length = 6 -> Q l
 | [c, d, f, g, i, j], _ => h c d f g i j
 | [], b => by simp at b
 | [_], b => by simp at b
 | [_, _], b => by simp at b
 | [_, _, _], b => by simp at b
 | [_, _, _, _], b => by simp at b
 | [_, _, _, _, _], b => by simp at b
 | _ :: _ :: _ :: _ :: _ :: _ :: _ :: _, b => by simp at b
theorem Jxw {c d f g i j k : AV -> Prop} {Q : List AV -> Prop} (h : ∀ m o p q s t u, c m -> d o -> f p -> g q -> i s -> j t -> k u -> Q [m, o, p, q, s, t, u]) : ∀ l, AllP [c, d, f, g, i, j, k] l -> Q l
 | [m, o, p, q, s, t, u], b => h m o p q s t u b.1 b.2.1 b.2.2.1 b.2.2.2.1 b.2.2.2.2.1 b.2.2.2.2.2.1 b.2.2.2.2.2.2.1
 | [], b => (b : False).elim
 | [_], b => (b.2 : False).elim
 | [_, _], b => (b.2.2 : False).elim
 | [_, _, _], b => (b.2.2.2 : False).elim
 | [_, _, _, _], b => (b.2.2.2.2 : False).elim
 | [_, _, _, _, _], b => (b.2.2.2.2.2 : False).elim
 | [_, _, _, _, _, _], b => (b.2.2.2.2.2.2 : False).elim
 | _ :: _ :: _ :: _ :: _ :: _ :: _ :: _ :: _, b => (b.2.2.2.2.2.2.2 : False).elim
open Go
abbrev I (n : Int) : AV := .v (.int .i64 n)
abbrev B (b : Bool) : AV := .v (.bool b)
abbrev SL (l : List Int) : AV := .sl 1 (l.map I)
def R64 (n : Int) : Prop := -9223372036854775808 <= n /\ n <= 9223372036854775807
def gd {T : Type} [Inhabited T] (l : List T) (n : Nat) : T := l.getD n default
theorem JaE {T : Type} [Inhabited T] (l : List T) (n : Nat) (h : n < l.length) : l[n]? = some (gd l n) := by
 simp [gd, h]
theorem Jaj {T : Type} [Inhabited T] (l : List T) (n : Nat) (h : n < l.length) : gd l n ∈ l := L02 (JaE l n h)
theorem JlE {T : Type} [Inhabited T] (l : List T) (n : Nat) (h : l.length <= n) : gd l n = default := by
 simp [gd, h]
@[simp] theorem JtX {T : Type} [Inhabited T] (n : Nat) : gd ([] : List T) n = default := by simp [gd]
@[simp] theorem JaL {T : Type} [Inhabited T] (x : T) (l : List T) : gd (x :: l) 0 = x := by simp [gd]
@[simp] theorem Jas {T : Type} [Inhabited T] (x : T) (l : List T) (n : Nat) : gd (x :: l) (n + 1) = gd l n := by simp [gd]
theorem JcR {T : Type} [Inhabited T] (l m : List T) (n : Nat) (h : n < l.length) : gd (l ++ m) n = gd l n := by simp [gd, L0k h]
theorem Jbl {T : Type} [Inhabited T] (l m : List T) (n : Nat) (h : l.length <= n) : gd (l ++ m) n = gd m (n - l.length) := by simp [gd, L0o h]
theorem Je1 {T : Type} [Inhabited T] {l m : List T} (b : l.length = m.length) (h : ∀ i, i < l.length -> gd l i = gd m i) : l = m := by
 refine L2b λ i => ?_
 by_cases hi : i < l.length
 . rw [JaE l i hi, JaE m i (by omega), h i hi]
 . rw [L1b (by omega), L1b (by omega)]
theorem Jha {T : Type} [Inhabited T] (l : List T) (i n : Nat) (x : T) (h : i < l.length) : gd (l.set i x) n = if n = i then x else gd l n := by
 unfold gd; rw [L0X, L0X, List.getElem?_set]
 by_cases hn : i = n
 . subst hn; simp [h]
 . rw [if_neg hn, if_neg (λ e => hn e.symm)]
section
variable {T : Type} [Inhabited T] {A : Prop} {k : AV -> Prop}
@[go_sem] theorem JyO (l : List T) (f : T -> AV) (n : Nat) : Jjc A ((l.map f)[n]?) k = JaB (A /\ n < l.length) k (.pt (f (gd l n)) 0) := by
 by_cases h : n < l.length
 . rw [L07, JaE l n h]; simp [Jjc, JaB, h]
 . rw [L1b (by simp; omega)]; simp [Jjc, JaB, h]
@[go_sem] theorem Jyp {P : Program} {t : TypeId} (l : List T) (f : T -> AV) (n j : Nat) : Ji5 P t ((l.map f)[n]?) j k = need (n < l.length) (Jgr P t (f (gd l n)).cells j k) := by
 by_cases h : n < l.length
 . rw [L07, JaE l n h]; simp [Ji5, need, h]
 . rw [L1b (by simp; omega)]; simp [Ji5, need, h]
@[go_sem] theorem JA7 {P : Program} {t : TypeId} {b : Blk} (l : List T) (f : T -> AV) (n : Nat) {id sz i j : Nat} {v : AV} {K : Env -> Jac -> Prop} {E : Env} {σ : Jac} :
 stoE P t b ((l.map f)[n]?) id sz i j v K E σ = need (n < l.length) (stoE P t b (some (f (gd l n))) id sz i j v K E σ) := by
 by_cases h : n < l.length
 . rw [L07, JaE l n h]; simp [need, h]
 . rw [L1b (by simp; omega)]; simp [stoE, need, h]
@[go_sem] theorem JAK (l : List T) (f : T -> AV) (n : Nat) : optV ((l.map f)[n]?) k = need (n < l.length) (k (f (gd l n))) := by
 by_cases h : n < l.length
 . rw [L07, JaE l n h]; simp [optV, need, h]
 . rw [L1b (by simp; omega)]; simp [optV, need, h]
end
@[go_sem high] theorem Jzg (l : List Int) (j : Nat) (x : Int) (b : j < l.length) (c : l.length ≠ 1) : setC (.agg (l.map I)) j (I x) = .agg ((l.set j x).map I) := by
 rw [Jjr, if_neg (by simp; omega)]
 congr 1
 simp only [AV.cells_agg, AV.cells_v, L18, <- L1L, <- List.map_drop]; rw [L2c, if_pos b]
 simp
attribute [go_sem] List.length_append Nat.le_refl Int.le_refl List.range_zero List.nodup_nil List.nodup_cons List.mem_cons List.not_mem_nil not_false_eq_true or_false false_or List.length_set Nat.mul_one Nat.zero_add Nat.add_zero Nat.one_mul Nat.zero_mul List.set_cons_zero List.set_cons_succ List.set_nil
@[go_sem] theorem Jx0 {T U : Type} (l : List T) (f : T -> U) (n : Nat) : (l.map f).drop n = (l.drop n).map f := (List.map_drop ..).symm
@[go_sem] theorem Jzo {T U : Type} (l : List T) (f : T -> U) (n : Nat) : (l.map f).take n = (l.take n).map f := (L1L ..).symm
@[go_sem] theorem Jux {T U : Type} (l m : List T) (f : T -> U) : l.map f ++ m.map f = (l ++ m).map f := (L1c ..).symm
theorem JuV {T : Type} [Inhabited T] (l : List T) (n i : Nat) : gd (l.drop n) i = gd l (n + i) := by simp [gd]
theorem JfB {T : Type} [Inhabited T] (l : List T) (n i : Nat) (h : i < n) : gd (l.take n) i = gd l i := by simp [gd, L0j, h]
@[go_sem] theorem JcD {x : Int} (h : -9223372036854775808 <= x /\ x <= 9223372036854775807) : IntKind.i64.wrap x = x := by
 simp [IntKind.wrap, IntKind.bits, IntKind.signed]; split <;> omega
@[go_sem] theorem JBU (a b : Int) : (if b > a then b else a) = max a b := by split <;> omega
@[go_sem] theorem JBV (a b : Int) : (if b < a then b else a) = min a b := by split <;> omega
@[go_sem] theorem JA8 {T : Type} (l : List T) (n : Nat) (h : l.length <= n) : l.take n = l := L03 h
@[go_sem] theorem Jzp {T : Type} (l : List T) (x : T) (n : Nat) (h : l.length + 1 <= n) : (l ++ [x]).take n = l ++ [x] := L03 (by simpa using h)
@[go_sem] theorem JA4 (l : List Int) (n : Nat) (x : Int) : (l.map I).set n (.v (.int .i64 x)) = (l.set n x).map I := by rw [List.map_set]
theorem Jgv {m d : Int} (c : 0 < d) (h : R64 m) : R64 (m.tdiv d) := by
 obtain ⟨f, g⟩ := h
 by_cases hm : 0 <= m
 . rw [L1i hm]; have a := L1j hm (Int.le_of_lt c); have b := L2d d hm
   exact ⟨by omega, by omega⟩
 . have e : m.tdiv d = -((-m).tdiv d) := by rw [Int.neg_tdiv]; omega
   rw [e, L1i (by omega)]
   have a := L1j (show 0 <= -m by omega) (Int.le_of_lt c)
   have b := L2d d (show 0 <= -m by omega)
   exact ⟨by omega, by omega⟩
@[go_sem] theorem Jv4 {m d : Int} (b : 0 < d) (h : -9223372036854775808 <= m /\ m <= 9223372036854775807) : IntKind.i64.wrap (m.tdiv d) = m.tdiv d := JcD (Jgv b h)
theorem Jak {T : Type} (p : Nat -> Bool) (l : List T) (f : T -> AV) (h : ∀ x, AV.namesB p (f x) = false) : AV.namesL p (l.map f) = false := by
 induction l with
 | nil => rfl
 | cons x l b => simp [AV.namesL, h, b]
@[go_sem] theorem Jwl (l : List Int) (x : Int) : l.map I ++ [.v (.int .i64 x)] = (l ++ [x]).map I := by simp
@[go_sem] theorem Jhn (p : Nat -> Bool) (l : List Int) : AV.namesL p (l.map I) = false := Jak p l I λ _ => rfl
@[go_sem] theorem JwP (p : Nat -> Bool) (l : List (List Int)) : AV.namesL p (l.map SL) = false := Jak p l SL λ _ => rfl
theorem JaP {T : Type} (l : List T) (f : T -> AV) (h : ∀ x, AV.flat (f x) = true) : AV.flatL (l.map f) = true := by
 induction l with
 | nil => rfl
 | cons x l b => simp [AV.flatL, h, b]
@[go_sem] theorem Jwv (l : List Int) : AV.flatL (l.map I) = true := JaP l I λ _ => rfl
theorem Jaw {T : Type} (s : Nat) (l : List T) (f : T -> AV) (h : ∀ x, (f x).ok = true /\ (f x).cells.length = s) : Jbv s (l.map f) = true := by
 simp only [Jbv, L0f]
 intro e b
 obtain ⟨x, _, rfl⟩ := L05.1 b
 simp [h x]
@[go_sem] theorem Jv7 (l : List Int) : Jbv 1 (l.map I) = true := Jaw 1 l I λ _ => ⟨rfl, rfl⟩
@[go_sem] theorem Jxt (l : List (List Int)) : Jbv 1 (l.map SL) = true := Jaw 1 l SL λ _ => ⟨rfl, rfl⟩
@[go_sem] theorem JCZ (E : Env) (d : Nat) (a b : AV) : upd (upd E d a) d b = upd E d b := by funext t; simp only [upd]; split <;> rfl
theorem Jaa {S : Sp} {K : Env -> Jac -> Prop} {E : Env} {σ : Jac} {f i b : Bool} {d g : Nat} {c : List AV} {dst : Option Nat} {L : Prop} {r : AV} (h : Ev S.P g c r) (l : impK (imp (16 * d) r) dst K E σ)
 (j : b = false \/ r.flat = true := by first | exact .inl rfl | exact .inr rfl | exact .inr (by simp only [go_sem, AV.flat, AV.flatL, Bool.and_self])) (k : rlen r <= 16 := by exact L0v rfl) (h4 : f = true \/ r.dn = false := by first | exact .inl rfl | exact .inr rfl) : JnG S f i d g b c dst K E σ L := Jse r h j k h4 l
def AV.asIf (a b : AV) : Prop := ∀ (w : World) (c : Nat -> Prop) (y : Value), IRep w c a y -> IRep w c b y
theorem Jpg (a : AV) : a.asIf a := λ _ _ _ h => h
theorem Jr7 (s : Nat) : (AV.v (.slice none 0 0)).asIf (.sl s []) := λ _ _ _ h => by cases h; exact .slnil ..
def Jny : List AV -> List AV -> Prop
 | [], [] => True
 | a :: c, b :: d => a.asIf b /\ Jny c d
 | _, _ => False
theorem Jfs {w : World} {Im : Nat -> Prop} : ∀ {g bs : List AV} {vs : List Value}, Jny g bs -> JiF w Im g vs -> JiF w Im bs vs
 | [], [], _, _, h => h
 | a :: g, b :: bs, [], _, h => by have := h.1; simp at this
 | a :: g, b :: bs, v :: vs, ⟨k, l⟩, h => by
  have i := Jfs (vs := vs) l ⟨by simpa using h.1, λ j c y d f => h.2 (j + 1) c y (by simpa using d) (by simpa using f)⟩
  refine ⟨by simpa using i.1, λ j c y d f => ?_⟩
  cases j with
  | zero => simp at d f; subst d; subst f; exact k _ _ _ (h.2 0 a v rfl rfl)
  | succ j => exact i.2 j c y (by simpa using d) (by simpa using f)
 | [], _ :: _, _, h, _ => h.elim
 | _ :: _, [], _, h, _ => h.elim
theorem Ev.asIf {P : Program} {f : FuncId} {c bs : List AV} {r : AV} (h : Ev P f bs r) (k : Jny c bs) : Ev P f c r := by
 rintro g o ⟨rfl, rfl⟩
 obtain ⟨i, j⟩ := h bs o ⟨rfl, rfl⟩
 exact ⟨i, λ w d vs m b l => j w d vs m b (Jfs k l)⟩
theorem Jni (S : Sp) (c : Nat) (b : Nat -> Bool) : JcV (spR S c b) := λ _ _ _ _ _ h => h.elim
theorem JkP {args : List AV} {g : AV} {K K' : AV -> AV -> Prop} (b : ∀ v g, K v g -> K' v g) (h : seqY args g K) : seqY args g K' := by
 unfold seqY at *
 split at h
 . exact ⟨h.1, b _ _ h.2.1, b _ _ h.2.2⟩
 . exact h.elim
theorem Jth (P : Program) (f : FuncId) (N l : Nat) : JcV (spY P f N l) := λ _ _ _ _ b h => JkP b h
def Jra (S : Sp) (c b : Code) (ps : List Nat) (R : Exit -> Env -> Jac -> Prop) (E : Env) (x : List AV) (σ : Jac) : Prop :=
 awpC S c (Jdd (awpC S b R) Jsq) (Jdq E ps x) σ
theorem Jta {S : Sp} {f : Operand} {ps : Array Tmp} {t c : Code} {Q : Exit -> Env -> Jac -> Prop} {E : Env} {σ : Jac} (H : S.rd = false) (s : Operand.low S.N f = true) (z : Jcr S.P S.N S.bad t = true) (A : Jcr S.P S.N S.bad c = true)
 (C : (ps.toList.all λ p => Nat.blt p S.N) = true) {g : FuncId} {caps : List AV} (L : ev E f = .clo g caps) (w : JaM caps = true) (q b : Nat -> Bool) (l : Nat) (D : AV.namesL (λ i => !q i) caps = false)
 (G : ∀ id k, σ id = some k -> q id = true -> AV.namesL (λ i => !q i) k.es = false) (F : ∀ id, q id = true -> b id = false) (y : ∀ id, S.pin id = true -> b id = true)
 (u : ∀ id, b id = true -> id / 16 < l \/ l + 100000 <= id / 16) (xs : List (List AV)) (o : ∀ x ∈ xs, x.length = ps.size) (O : SOK S.P g caps (only q σ) xs) (I : List (List AV) -> Jac -> Prop) (J : I xs (Jao q σ))
 (j : ∀ x d σ, I (x :: d) σ -> Jra (spR S l b) t c ps.toList (rQ b Q (Jev b E) (I d)) (Jev b E) x σ)
 (m : ∀ σ, I [] σ -> Q .normal (Jev b E) σ) : semC S (.rangeFunc f ps t c) Q E σ := by
 refine Jl1 H s (JaS _ z) (JaS _ A) (λ p M => ?_) L w q b l D G F y u xs o O I J (λ x d σ K => ?_) m
 . exact L0v (L0f.1 C p M)
 . have := j x d σ K
   exact JbM (Jni S l b) t (JbK (λ _ _ h => JbM (Jni S l b) c (λ _ _ _ h => h) h) λ _ _ _ h => h) this
theorem JkT {P : Program} {f : FuncId} {b : Func} {c : Code} {args : List AV} {σ : Jac} {xs : List (List AV)} (p : P.funcs[f]? = some b) (o : b.body = some c) (j : fnQ P b c = true) (i : P.follows .mixedOrders = true)
 (d : args.length < b.ntmps) (k : AV.namesL allB (xs.map .tup) = false) (g : b.results = #[])
 (h : ∀ l, awpC (spY P f b.ntmps l) c (λ e => match e with | .normal => λ E _ => E b.ntmps = .tup [] \/ E b.ntmps = .any | .ret => λ E _ => E b.ntmps = .tup [] \/ E b.ntmps = .any | _ => λ _ _ => False) (upd (Jct (.yld l :: args)) b.ntmps (.tup (xs.map .tup))) σ) : SOK P f args σ xs := by
 refine JoF p o (JpX j) i d k λ l => JbM (Jth P f b.ntmps l) c (λ e E σ m => ?_) (h l)
 cases e <;> first | exact m.elim | (simp only [retG, g]; exact m)
section
variable (P : Program) (f N l : Nat) (S : Sp) (b2 : Nat) (nm0 : Nat -> Bool)
@[go_sem] theorem spY_P : (spY P f N l).P = P := rfl
@[go_sem] theorem spY_b : (spY P f N l).b = 131072 * (f + 1) := rfl
@[go_sem ↓] theorem JCR (id : Nat) : (spY P f N l).bad id = false := rfl
@[go_sem ↓] theorem JCP (id : Nat) : (spR S b2 nm0).bad id = S.bad id := rfl
@[go_sem] theorem spY_N : (spY P f N l).N = N := rfl
@[go_sem] theorem JCS (id : Nat) : (spY P f N l).pin id = false := rfl
@[go_sem] theorem spY_yl : (spY P f N l).yl = l := rfl
@[go_sem] theorem spY_Y : (spY P f N l).Y = seqY := rfl
@[go_sem] theorem spR_P : (spR S b2 nm0).P = S.P := rfl
@[go_sem] theorem spR_b : (spR S b2 nm0).b = b2 := rfl
@[go_sem] theorem spR_N : (spR S b2 nm0).N = S.N := rfl
@[go_sem] theorem JCQ : (spR S b2 nm0).pin = nm0 := rfl
end
attribute [go_sem] seqY
def inI (l : List Nat) : Nat -> Bool := λ i => l.contains i
@[go_sem] theorem inI_at (l : List Nat) (i : Nat) : inI l i = l.contains i := rfl
def ofI (l : List Nat) : Nat -> Bool := λ i => !inI l i
@[go_sem] theorem ofI_at (l : List Nat) (i : Nat) : ofI l i = !inI l i := rfl
def Jm1 (p : Nat -> Bool) (o : Option Blk) : Bool := match o with | some k => AV.namesL p k.es | none => false
attribute [go_sem] Jm1
def Jii (p : Nat -> Bool) (σ : Jac) : List Nat -> Prop
 | [] => True
 | id :: l => Jm1 p (σ id) = false /\ Jii p σ l
@[go_sem] theorem JwQ (p : Nat -> Bool) (σ : Jac) : Jii p σ [] = True := rfl
@[go_sem] theorem Jvm (p : Nat -> Bool) (σ : Jac) (id : Nat) (l : List Nat) : Jii p σ (id :: l) = (Jm1 p (σ id) = false /\ Jii p σ l) := rfl
theorem Jky {p : Nat -> Bool} {σ : Jac} : ∀ {l : List Nat}, Jii p σ l -> ∀ id ∈ l, Jm1 p (σ id) = false
 | [], _, _, h => by cases h
 | a :: l, h, id, hm => by
  rcases L0q.1 hm with rfl | hm
  . exact h.1
  . exact Jky h.2 id hm
def Jx7 (qs ns : List Nat) (b2 : Nat) : Bool := (qs.all λ i => !ns.contains i) && ns.all λ i => Nat.blt (i / 16) b2
section
variable (nm : Nat -> Bool)
@[go_sem] theorem fade_v (x : Value) : fade nm (.v x) = .v x := rfl
@[go_sem] theorem JBE (s : Nat) (es : List AV) : fade nm (.sl s es) = .sl s es := rfl
@[go_sem] theorem JBD (e : AV) (j : Nat) : fade nm (.pt e j) = .pt e j := rfl
@[go_sem] theorem Jz4 : fade nm .any = .any := rfl
@[go_sem] theorem JBC (es : List AV) : fade nm (.mp es) = .mp es := rfl
@[go_sem] theorem Jz7 (l : Nat) : fade nm (.yld l) = .yld l := rfl
@[go_sem] theorem Jx5 (id s i n : Nat) : fade nm (.own id s i n) = .any := by
 unfold fade; simp only [AV.kill, AV.namesB, AV.dk]; by_cases h : nm id = true <;> simp [h, AV.ownB]
@[go_sem] theorem Jz6 (id s i j : Nat) : fade nm (.ptr id s i j) = if nm id = true then .ptr id s i j else .any := by
 unfold fade; simp only [AV.kill, AV.namesB, AV.dk]; by_cases h : nm id = true <;> simp [h, AV.ownB]
theorem JpU {a : AV} (h : AV.namesB allB a = false) : fade nm a = a := JeZ λ p => Je6 h p
@[go_sem] theorem Jz3 (E : Env) (t : Nat) : Jev nm E t = fade nm (E t) := rfl
end
@[go_sem] theorem Jzh (E : Env) (x : List AV) : Jdq E [] x = E := by simp [Jdq]
@[go_sem] theorem Jw5 (E : Env) (p : Nat) (ps : List Nat) (a : AV) (x : List AV) : Jdq E (p :: ps) (a :: x) = Jdq (upd E p a) ps x := rfl
@[go_sem] theorem Jzf (S : Sp) (c b : Code) (ps : List Nat) (R : Exit -> Env -> Jac -> Prop) (E : Env) (x : List AV) (σ : Jac) : Jra S c b ps R E x σ = awpC S c (Jdd (awpC S b R) Jsq) (Jdq E ps x) σ := rfl
@[go_sem ↓] theorem JyY (b : Nat -> Bool) (Q : Exit -> Env -> Jac -> Prop) (E0 : Env) (I : Jac -> Prop) (E : Env) (σ : Jac) : rQ b Q E0 I .normal E σ = ∃ p : Nat -> Bool, (∀ id, b id = true -> p id = false) /\ I (Jao p σ) := rfl
@[go_sem ↓] theorem rQ_ret (b : Nat -> Bool) (Q : Exit -> Env -> Jac -> Prop) (E0 : Env) (I : Jac -> Prop) (E : Env) (σ : Jac) : rQ b Q E0 I .ret E σ = ∃ p : Nat -> Bool, (∀ id, b id = true -> p id = false) /\ Q .ret E0 (Jao p σ) := rfl
@[go_sem ↓] theorem JCh (b : Nat -> Bool) (Q : Exit -> Env -> Jac -> Prop) (E0 : Env) (I : Jac -> Prop) (i : Nat) (E : Env) (σ : Jac) : rQ b Q E0 I (.exit i) E σ = ∃ p : Nat -> Bool, (∀ id, b id = true -> p id = false) /\ Q (.exit i) E0 (Jao p σ) := rfl
theorem JcN {S : Sp} {f : Operand} {ps : Array Tmp} {s c : Code} {Q : Exit -> Env -> Jac -> Prop} {E : Env} {σ : Jac} {g : FuncId} {caps : List AV} (i j : List Nat) (u : Nat) (xs : List (List AV)) (I : List (List AV) -> Jac -> Prop)
 (L : ev E f = .clo g caps) (R : SOK S.P g caps (only (inI i) σ) xs) (m : ∀ x ∈ xs, x.length = ps.size)
 (D : AV.namesL (ofI i) caps = false) (F : Jii (ofI i) σ i)
 (J : I xs (Jao (inI i) σ))
 (h : ∀ E0 : Env, (∀ t, E0 t = fade (inI j) (E t)) -> ∀ x b σ, I (x :: b) σ -> Jra (spR S u (inI j)) s c ps.toList (rQ (inI j) Q E0 (I b)) E0 x σ)
 (l : ∀ E0 : Env, (∀ t, E0 t = fade (inI j) (E t)) -> ∀ σ, I [] σ -> Q .normal E0 σ)
 (w : JaM caps = true := by rfl) (d : Jx7 i j u = true := by kernel_rfl) (q : ∀ id, S.pin id = false := by intro id; rfl) (G : S.rd = false := by rfl) (o : Operand.low S.N f = true := by kernel_rfl)
 (y : Jcr S.P S.N S.bad s = true := by kernel_rfl) (z : Jcr S.P S.N S.bad c = true := by kernel_rfl) (A : (ps.toList.all λ p => Nat.blt p S.N) = true := by kernel_rfl) : semC S (.rangeFunc f ps s c) Q E σ := by
 simp only [Jx7, L00, L0f] at d
 refine Jta G o y z A L w (inI i) (inI j) u D (λ id k M C => ?_) (λ id C => ?_) (λ id H => ?_) (λ id O => ?_) xs m R I J (λ x b σ K => h _ (λ _ => rfl) x b σ K) (l _ λ _ => rfl)
 . have := Jky F id (by simpa [inI] using C)
   rw [M] at this; exact this
 . have := d.1 id (by simpa [inI] using C)
   simpa [inI] using this
 . rw [q] at H; cases H
 . exact .inl (L0v (d.2 id (by simpa [inI] using O)))
theorem JbG {S : Sp} {f : Operand} {ps : Array Tmp} {c b : Code} {Q : Exit -> Env -> Jac -> Prop} {E : Env} {σ : Jac} (h : semC S (.rangeFunc f ps c b) Q E σ) : awpC S (.rangeFunc f ps c b) Q E σ := by simpa only [awpC] using h
@[go_sem] theorem JCd (q : Nat -> Bool) (σ : Jac) (id : Nat) : only q σ id = if q id = true then σ id else none := rfl
mutual
def AV.fd (q k : Nat -> Bool) : AV -> AV
 | .own a s i n => if q a then .any else .own a s i n
 | .ptr a s i j => if k a then .any else .ptr a s i j
 | .mref a => if k a then .any else .mref a
 | .agg b => .agg (AV.fdL q k b)
 | .tup b => .tup (AV.fdL q k b)
 | .clo g b => .clo g (AV.fdL q k b)
 | a => a
def AV.fdL (q k : Nat -> Bool) : List AV -> List AV
 | [] => []
 | c :: b => AV.fd q k c :: AV.fdL q k b
end
theorem AV.fdL_eq (q k : Nat -> Bool) (cs : List AV) : AV.fdL q k cs = cs.map (AV.fd q k) := by
 induction cs with
 | nil => rfl
 | cons c cs b => simp [AV.fdL, b]
inductive OwnN : AV -> Nat -> Prop
 | own (id sz i n : Nat) : OwnN (.own id sz i n) id
 | agg (cs : List AV) (c : AV) (id : Nat) (hc : c ∈ cs) (h : OwnN c id) : OwnN (.agg cs) id
 | tup (cs : List AV) (c : AV) (id : Nat) (hc : c ∈ cs) (h : OwnN c id) : OwnN (.tup cs) id
 | clo (g : Nat) (cs : List AV) (c : AV) (id : Nat) (hc : c ∈ cs) (h : OwnN c id) : OwnN (.clo g cs) id
mutual
theorem AV.fd_names {q k : Nat -> Bool} (p : ∀ i, k i = true -> q i = true) : ∀ (a : AV) (id : Nat), (Names (AV.fd q k a) id -> Names a id /\ k id = false) /\ (OwnN (AV.fd q k a) id -> q id = false)
 | .own a s i n, id => by
  simp only [AV.fd]; split
  . exact ⟨λ h => (by cases h), λ h => (by cases h)⟩
  . rename_i t
    refine ⟨λ h => ?_, λ h => ?_⟩
    . cases h
      refine ⟨.own .., ?_⟩
      cases hkk : k a with
      | false => rfl
      | true => exact absurd (p a hkk) t
    . cases h; simpa using t
 | .ptr a s i j, id => by
  simp only [AV.fd]; split
  . exact ⟨λ h => (by cases h), λ h => (by cases h)⟩
  . rename_i t; exact ⟨λ h => (by cases h; exact ⟨.ptr .., by simpa using t⟩), λ h => (by cases h)⟩
 | .mref a, id => by
  simp only [AV.fd]; split
  . exact ⟨λ h => (by cases h), λ h => (by cases h)⟩
  . rename_i t; exact ⟨λ h => (by cases h; exact ⟨.mref .., by simpa using t⟩), λ h => (by cases h)⟩
 | .agg d, id => by
  simp only [AV.fd]
  refine ⟨λ h => ?_, λ h => ?_⟩
  . cases h with
    | agg _ c _ f h => obtain ⟨m, o, b, _⟩ := AV.fdL_names p d id c f; exact ⟨.agg d m id o (b h).1, (b h).2⟩
  . cases h with
    | agg _ c _ f h => obtain ⟨m, o, _, b⟩ := AV.fdL_names p d id c f; exact b h
 | .tup d, id => by
  simp only [AV.fd]
  refine ⟨λ h => ?_, λ h => ?_⟩
  . cases h with
    | tup _ c _ f h => obtain ⟨m, o, b, _⟩ := AV.fdL_names p d id c f; exact ⟨.tup d m id o (b h).1, (b h).2⟩
  . cases h with
    | tup _ c _ f h => obtain ⟨m, o, _, b⟩ := AV.fdL_names p d id c f; exact b h
 | .clo g d, id => by
  simp only [AV.fd]
  refine ⟨λ h => ?_, λ h => ?_⟩
  . cases h with
    | clo _ _ c _ f h => obtain ⟨m, o, b, _⟩ := AV.fdL_names p d id c f; exact ⟨.clo g d m id o (b h).1, (b h).2⟩
  . cases h with
    | clo _ _ c _ f h => obtain ⟨m, o, _, b⟩ := AV.fdL_names p d id c f; exact b h
 | .any, id => ⟨λ h => (by simp only [AV.fd] at h; cases h), λ h => (by simp only [AV.fd] at h; cases h)⟩
 | .v x, id => ⟨λ h => (by simp only [AV.fd] at h; cases h), λ h => (by simp only [AV.fd] at h; cases h)⟩
 | .sl s u, id => ⟨λ h => (by simp only [AV.fd] at h; cases h), λ h => (by simp only [AV.fd] at h; cases h)⟩
 | .pt e j, id => ⟨λ h => (by simp only [AV.fd] at h; cases h), λ h => (by simp only [AV.fd] at h; cases h)⟩
 | .new e s u, id => ⟨λ h => (by simp only [AV.fd] at h; cases h), λ h => (by simp only [AV.fd] at h; cases h)⟩
 | .nptr e s u, id => ⟨λ h => (by simp only [AV.fd] at h; cases h), λ h => (by simp only [AV.fd] at h; cases h)⟩
 | .yld l, id => ⟨λ h => (by simp only [AV.fd] at h; cases h), λ h => (by simp only [AV.fd] at h; cases h)⟩
 | .cut s u, id => ⟨λ h => (by simp only [AV.fd] at h; cases h), λ h => (by simp only [AV.fd] at h; cases h)⟩
 | .mp u, id => ⟨λ h => (by simp only [AV.fd] at h; cases h), λ h => (by simp only [AV.fd] at h; cases h)⟩
theorem AV.fdL_names {q k : Nat -> Bool} (f : ∀ i, k i = true -> q i = true) : ∀ (cs : List AV) (id : Nat) (c : AV), c ∈ AV.fdL q k cs -> ∃ d ∈ cs, (Names c id -> Names d id /\ k id = false) /\ (OwnN c id -> q id = false)
 | [], id, c, b => by simp [AV.fdL] at b
 | x :: cs, id, c, b => by
  simp only [AV.fdL, L0q] at b
  rcases b with rfl | b
  . exact ⟨x, by simp, AV.fd_names f x id⟩
  . obtain ⟨d, g, h⟩ := AV.fdL_names f cs id c b; exact ⟨d, by simp [g], h⟩
end
theorem AV.fd_cells (q k : Nat -> Bool) (e : AV) : (AV.fd q k e).cells = e.cells.map (AV.fd q k) := by
 cases e with
 | own a s i n => simp only [AV.fd, AV.cells, L0l, L0G]; by_cases h : q a = true <;> simp [h]
 | ptr a s i n => simp only [AV.fd, AV.cells, L0l, L0G]; by_cases h : k a = true <;> simp [h]
 | mref a => simp only [AV.fd, AV.cells, L0l, L0G]; by_cases h : k a = true <;> simp [h]
 | _ => simp [AV.fd, AV.cells, AV.fdL_eq]
section
variable {w w' : World} {ρ ρ' : Nat -> Option Nat} {Im Im' : Nat -> Prop}
theorem Rep.fd {q k : Nat -> Bool} {a : AV} {y : Value} (h : Rep w ρ Im a y) : Rep w ρ Im (AV.fd q k a) y :=
 h.map (AV.fd q k) (λ b => by rw [AV.fd, AV.fdL_eq]) (λ b => by rw [AV.fd, AV.fdL_eq]) (λ g b => by rw [AV.fd, AV.fdL_eq]) λ a c d f => by
  cases a <;> first | exact absurd rfl (c _) | exact absurd rfl (d _) | exact absurd rfl (f _ _) | exact .inl rfl | (simp only [AV.fd]; split <;> simp)
theorem Rep.over (J : ∀ b, Im b -> Im' b) (M : ∀ b, Im b -> w'.heap[b]? = w.heap[b]?) {a : AV} {y : Value} (h : Rep w ρ Im a y) (d : ∀ id, Names a id -> ρ' id = ρ id) (C : ∀ id, OwnN a id -> ∀ b, ρ id = some b -> Juk w w' b) : Rep w' ρ' Im' a y := by
 induction h with
 | im a y h => exact .im a y (h.mono J M)
 | agg k ys t F _ A => exact .agg k ys t F λ j c y l u => A j c y l u (λ id f => d id (.agg k c id (L02 l) f)) λ id f => C id (.agg k c id (L02 l) f)
 | tup k ys t _ A => exact .tup k ys t λ j c y l u => A j c y l u (λ id f => d id (.tup k c id (L02 l) f)) λ id f => C id (.tup k c id (L02 l) f)
 | clo g k ys t _ A => exact .clo g k ys t λ j c y l u => A j c y l u (λ id f => d id (.clo g k c id (L02 l) f)) λ id f => C id (.clo g k c id (L02 l) f)
 | ownNil id p h => exact .ownNil id p (by rw [d id (.own ..)]; exact h)
 | own id p n b o D e m f s L E z =>
  obtain ⟨q, G, H⟩ := C id (.own ..) b m D e L
  exact .own id p n b o q e (by rw [d id (.own ..)]; exact m) f s G (by rw [H]; exact E) z
 | ownAt id p i n b o a N m f K z => exact .ownAt id p i n b o a N (by rw [d id (.own ..)]; exact m) f K z
 | ptr id p i j b m z => exact .ptr id p i j b (by rw [d id (.ptr ..)]; exact m) z
 | mref id b m => exact .mref id b (by rw [d id (.mref ..)]; exact m)
end
def fdE (q k : Nat -> Bool) (E : Env) : Env := λ t => AV.fd q k (E t)
def Blk.fd (q k : Nat -> Bool) (b : Blk) : Blk := { b with es := AV.fdL q k b.es }
def fdS (q k : Nat -> Bool) (σ b : Jac) : Jac := λ id => if q id then b id else (σ id).map (Blk.fd q k)
def Jej (lo : Nat) (ρ : Nat -> Option Nat) (Im : Nat -> Prop) (c : List (Option Nat)) : Prop :=
 (∀ b, some b ∈ c -> lo <= b /\ ¬ Im b /\ ∀ id, ρ id ≠ some b) /\ c.Pairwise λ x y => x = none \/ x ≠ y
def RR (w w' : World) (ρ : Nat -> Option Nat) (Im : Nat -> Prop) (r : AV) (y : Value) : Prop :=
 match r with
 | .tup c => ∃ ys b, y = .tuple ys.toArray /\ RL w' Im c ys b /\ Jej w.heap.size ρ Im b
 | .clo g c => ∃ ys b, y = mkF g ys /\ RL w' Im c ys b /\ Jej w.heap.size ρ Im b
 | r => ∃ d, R1 w' Im r y d /\ Jej w.heap.size ρ Im [d]
def LOK (P : Program) (f : FuncId) (pin : Nat -> Bool) (args : List AV) (σ : Jac) (r : AV) (j : Jac) : Prop :=
 (∀ k w, (callFunc f k).run P w = .ok (.enter f k) w) /\
 ∀ (w : World) (g : Nat -> Prop) (h : Nat -> Option Nat) (vs : List Value), Inv w h g σ -> GOK w g -> Reps w h g args vs ->
  Calls P f vs.toArray w λ e i => ∃ y d c, e = .returned y /\ Ext w (λ b => ∃ id, h id = some b) i /\ Inv i d c j /\ (∀ b, g b -> c b) /\ (∀ b, c b -> g b \/ w.heap.size <= b) /\
   (∀ id b, d id = some b -> h id = some b \/ w.heap.size <= b) /\ (∀ id, pin id = true -> d id = h id) /\ RR w i d c r y
mutual
theorem AV.fd_free (q k : Nat -> Bool) : ∀ a : AV, AV.namesB allB a = false -> AV.fd q k a = a
 | .own a s i n, h => by simp [AV.namesB, allB] at h
 | .ptr a s i n, h => by simp [AV.namesB, allB] at h
 | .mref a, h => by simp [AV.namesB, allB] at h
 | .agg b, h => by simp only [AV.namesB] at h; simp only [AV.fd, AV.fdL_free q k b h]
 | .tup b, h => by simp only [AV.namesB] at h; simp only [AV.fd, AV.fdL_free q k b h]
 | .clo g b, h => by simp only [AV.namesB] at h; simp only [AV.fd, AV.fdL_free q k b h]
 | .any, _ => rfl
 | .v x, _ => rfl
 | .sl s c, _ => rfl
 | .pt e j, _ => rfl
 | .new e s c, _ => rfl
 | .nptr e s c, _ => rfl
 | .yld l, _ => rfl
 | .mp c, _ => rfl
 | .cut s c, _ => rfl
theorem AV.fdL_free (q k : Nat -> Bool) : ∀ cs : List AV, AV.namesL allB cs = false -> AV.fdL q k cs = cs
 | [], _ => rfl
 | c :: cs, h => by
  simp only [AV.namesL, L1y] at h; simp only [AV.fdL, AV.fd_free q k c h.1, AV.fdL_free q k cs h.2]
end
def notI (q : Nat -> Bool) : Nat -> Bool := λ i => !q i
def movI (q pin : Nat -> Bool) : Nat -> Bool := λ i => q i && !pin i
section
variable {S : Sp} {C : Fx} {E : Env} {σ σ' : Jac} {a : Act} {w w' : World} {ρ ρ' : Nat -> Option Nat} {Im Im' : Nat -> Prop} {M : Str} {q pin : Nat -> Bool}
theorem JsI (d : Inv w ρ Im σ) (hx : Ext w (λ b => ∃ id, killR (notI q) ρ id = some b) w') (hi : Inv w' ρ' Im' σ') (ab : ∀ b, Im b -> Im' b) (ac : ∀ b, Im' b -> Im b \/ w.heap.size <= b)
 (ag : ∀ id b, ρ' id = some b -> killR (notI q) ρ id = some b \/ w.heap.size <= b) (Y : ∀ id, pin id = true -> ρ' id = killR (notI q) ρ id)
 (H : ∀ id k, σ' id = some k -> q id = true /\ AV.namesL (notI q) k.es = false) :
 (∀ v z, Rep w ρ Im v z -> Rep w' (λ id => if q id then ρ' id else ρ id) Im' (AV.fd q (movI q pin) v) z) /\ Inv w' (λ id => if q id then ρ' id else ρ id) Im' (fdS q (movI q pin) σ σ') := by
 have X : ∀ i, movI q pin i = true -> q i = true := λ i h => by simp [movI] at h; exact h.1
 have W : ∀ {id b}, killR (notI q) ρ id = some b -> ρ id = some b := λ h => (Jae h).2
 have af : ∀ {id}, q id = true -> killR (notI q) ρ id = ρ id := λ h => JaF ρ (by simp [notI, h])
 have Q : ∀ id b, ρ id = some b -> q id = false -> w'.heap[b]? = w.heap[b]? := λ id b o f => hx.block b (d.lt o) λ ⟨l, G⟩ => by
  obtain ⟨hp, G⟩ := Jae G
  have := d.inj id l b o G
  subst this; simp [notI, f] at hp
 have ah : ∀ b, Im b -> w'.heap[b]? = w.heap[b]? := λ b o => hx.block b (d.low b o) λ ⟨l, G⟩ => d.apart l b (W G) o
 have R : ∀ v z, Rep w ρ Im v z -> Rep w' (λ id => if q id then ρ' id else ρ id) Im' (AV.fd q (movI q pin) v) z := λ v z T => by
  refine Rep.over ab ah (T.fd (q := q) (k := movI q pin)) (λ id E => ?_) λ id E b o s e D => ?_
  . obtain ⟨u, C⟩ := (AV.fd_names X v id).1 E
    skip
    split
    . rename_i f
      have hp : pin id = true := by simp [movI, f] at C; exact C
      rw [Y id hp, af f]
    . rfl
  . have f := (AV.fd_names X v id).2 E
    exact ⟨s, by rw [Q id b o f]; exact D, rfl⟩
 have K : ∀ {c x}, Rep w' ρ' Im' c x -> (∀ id, Names c id -> q id = true) -> Rep w' (λ id => if q id then ρ' id else ρ id) Im' c x := λ {c x} g E =>
  Rep.mono (w := w') (w' := w') (λ _ h => h) (λ _ _ => rfl) g λ id ae => ⟨by simp [E id ae], λ b o s e D => ⟨s, D, rfl⟩⟩
 have aa : ∀ {id k e l}, σ' id = some k -> e ∈ k.es -> Names e l -> q l = true := λ {id k e l} p y E => by
  have := (H id k p).2
  cases f : q l with
  | true => rfl
  | false =>
   have := (AV.namesL_iff (notI q) k.es).2 ⟨e, y, AV.namesB_of (notI q) E (by simp [notI, f])⟩
   rw [(H id k p).2] at this; cases this
 refine ⟨R, ⟨λ id k p g => ?_, λ id k b p g Z => ?_, λ id k b p g Z => ?_, λ i j b u C => ?_, λ id b g J => ?_, λ id b g o => ?_, hi.low⟩⟩
 . simp only [fdS] at p
   split at p
   . rename_i f; simp only [f, if_true] at g
     exact hi.nil id k p g
   . rename_i f; simp only [f] at g
     obtain ⟨U, V, rfl⟩ := L0h.1 p
     have := d.nil id U V (by simpa using g)
     simp [Blk.fd, this, AV.fdL]
 . simp only [fdS] at p
   split at p
   . rename_i f; simp only [f, if_true] at g
     obtain ⟨A, L, o, M, D⟩ := hi.map id k b p g Z
     refine ⟨A, L, o, M, λ i m hm => ?_⟩
     obtain ⟨v, T, N⟩ := D i m hm
     exact ⟨v, T, K N λ l E => aa p (L02 T) (.tup _ v l (by simp) E)⟩
   . rename_i f
     have f : q id = false := by simpa using f
     simp only [f] at g
     obtain ⟨U, V, rfl⟩ := L0h.1 p
     obtain ⟨A, L, o, M, D⟩ := d.map id U b V (by simpa using g) Z
     refine ⟨A, L, by rw [Q id b (by simpa using g) f]; exact o, by simp only [Blk.fd, AV.fdL_eq, L0c]; exact M, λ i m hm => ?_⟩
     obtain ⟨v, T, N⟩ := D i m hm
     exact ⟨AV.fd q (movI q pin) v, by simp only [Blk.fd, AV.fdL_eq, L07, T, L0I, AV.fd, L0l, L0G], R _ _ N⟩
 . simp only [fdS] at p
   split at p
   . rename_i f; simp only [f, if_true] at g
     obtain ⟨s, o, M, J, D⟩ := hi.blk id k b p g Z
     refine ⟨s, o, M, J, λ i e j c y t => ?_⟩
     obtain ⟨x, P, u, O⟩ := D i e j c y t
     exact ⟨x, P, u, K O λ l E => aa p (L02 y) (Jbk (L02 t) E)⟩
   . rename_i f
     have f : q id = false := by simpa using f
     simp only [f] at g
     obtain ⟨U, V, rfl⟩ := L0h.1 p
     obtain ⟨s, o, M, J, D⟩ := d.blk id U b V (by simpa using g) Z
     refine ⟨s, by rw [Q id b (by simpa using g) f]; exact o, λ e y => ?_, by simp only [Blk.fd, AV.fdL_eq, L0c]; exact J, λ i e j c y t => ?_⟩
     . simp only [Blk.fd, AV.fdL_eq, L05] at y; obtain ⟨e0, ad, rfl⟩ := y
       rw [AV.fd_cells, L0c]; exact M e0 ad
     . simp only [Blk.fd, AV.fdL_eq, L07] at y
       cases S : U.es[i]? with
       | none => simp [S] at y
       | some e0 =>
        simp [S] at y; subst y
        rw [AV.fd_cells, L07] at t
        cases h4 : e0.cells[j]? with
        | none => simp [h4] at t
        | some c0 =>
         simp [h4] at t; subst t
         obtain ⟨x, P, u, O⟩ := D i e0 j c0 S h4
         exact ⟨x, P, u, R _ _ O⟩
 . have F : ∀ i j, q i = true -> q j = false -> ρ' i = some b -> ρ j = some b -> i = j := λ i j ai hj u C => by
    rcases ag i b u with S | S
    . exact d.inj i j b (W S) C
    . have := d.lt C; omega
   skip
   cases hqi : q i <;> cases hqj : q j <;> simp only [hqi, hqj, if_true, L0C, if_false] at u C
   . exact d.inj i j b u C
   . exact (F j i hqj hqi C u).symm
   . exact F i j hqi hqj u C
   . exact hi.inj i j b u C
 . skip
   simp only [fdS] at J
   split at J
   . rename_i f; simp only [f, if_true] at g
     exact hi.live id b g J
   . rename_i f; simp only [f] at g
     exact d.live id b (by simpa using g) (by simpa using J)
 . skip
   cases f : q id <;> simp only [f, if_true, L0C, if_false] at g
   . rcases ac b o with G | G
     . exact d.apart id b g G
     . have := d.lt g; omega
   . exact hi.apart id b g o
theorem Wit.lent (H : Holds S C) (h : Wit C E σ a w ρ Im M) (hx : Ext w (λ b => ∃ id, killR (notI q) ρ id = some b) w') (hi : Inv w' ρ' Im' σ') (ab : ∀ b, Im b -> Im' b) (ac : ∀ b, Im' b -> Im b \/ w.heap.size <= b)
 (ag : ∀ id b, ρ' id = some b -> killR (notI q) ρ id = some b \/ w.heap.size <= b) (Q : ∀ id, pin id = true -> ρ' id = killR (notI q) ρ id)
 (af : ∀ id k, σ' id = some k -> q id = true /\ AV.namesL (notI q) k.es = false) (hsp : ∀ id, S.pin id = true -> q id = true -> pin id = true)
 {d : Nat} (ae : d < 100000) {r : AV} {y : Value} (Y : RR w w' ρ' Im' r y) (P : rlen r <= 16) {dst : Option Nat} (hd : ∀ d, dst = some d -> d < C.N) :
 ∃ c s, Wit C (updO (JaU (own (S.b + d)) (fdE q (movI q pin) E)) dst (imp (16 * (S.b + d)) r).1) (addS (Jao (own (S.b + d)) (fdS q (movI q pin) σ σ')) (imp (16 * (S.b + d)) r).2) (a.put dst y) w' c s M /\ ∀ i, i / 16 ≠ S.b + d -> c i = if q i then ρ' i else ρ i := by
 obtain ⟨am, U⟩ := JsI (pin := pin) h.inv hx hi ab ac ag Q af
 have T : JaK w' (λ id => if q id then ρ' id else ρ id) Im' (fdE q (movI q pin) E) a.tmps := λ t z hz => am _ _ (h.env t z hz)
 have J := U.kill (own (S.b + d)); have D := T.kill (own (S.b + d))
 have ad : ∀ k, k < 16 -> Jbh (16 * (S.b + d) + k) (JaU (own (S.b + d)) (fdE q (movI q pin) E)) (Jao (own (S.b + d)) (fdS q (movI q pin) σ σ')) := λ k hk => JbZ (by simp [own]; omega) _ _
 have F := H.free ae; have V := H.own ae
 have ak : ∀ i b, killR (own (S.b + d)) (λ id => if q id then ρ' id else ρ id) i = some b -> ρ i = some b \/ w.heap.size <= b := λ i b j => by
  have j := (Jae j).2
  skip
  split at j
  . rcases ag i b j with A | A
    . exact .inl (Jae A).2
    . exact .inr A
  . exact .inl j
 have p : ∀ b, w.heap.size <= b -> (∀ id, ρ' id ≠ some b) -> ∀ i, killR (own (S.b + d)) (λ id => if q id then ρ' id else ρ id) i ≠ some b := λ b an hn i j => by
  have j := (Jae j).2
  skip
  split at j
  . exact hn i j
  . have := h.inv.lt j; omega
 have ah : ∀ id o, C.pin id = some o -> killR (own (S.b + d)) (λ id => if q id then ρ' id else ρ id) id = o := λ id o W => by
  rw [JaF _ (V id o W)]
  skip
  split
  . rename_i hq
    rw [Q id (hsp id (H.pin id o W) hq), JaF ρ (by simp [notI, hq])]; exact h.pin id o W
  . exact h.pin id o W
 have ai : JaU (own (S.b + d)) (fdE q (movI q pin) E) C.N = E C.N := by
  have h1 : fdE q (movI q pin) E C.N = E C.N := AV.fd_free _ _ _ (h.gh allB)
  show (fdE q (movI q pin) E C.N).kill _ = _
  rw [h1]; exact Jcv (h.gh _)
 have aj : Ext w (λ b => ∃ id, ρ id = some b) w' := hx.mono λ b _ ⟨id, j⟩ => ⟨id, (Jae j).2⟩
 have aa : ∀ (v : AV) (l : List (Nat × Blk)) (c : Nat -> Option Nat) (f : List (Option Nat)), Jej w.heap.size ρ' Im' f -> Inv w' c Im' (addS (Jao (own (S.b + d)) (fdS q (movI q pin) σ σ')) l) -> JaK w' c Im' (JaU (own (S.b + d)) (fdE q (movI q pin) E)) a.tmps -> Rep w' c Im' v y ->
  (∀ i b, c i = some b -> killR (own (S.b + d)) (λ id => if q id then ρ' id else ρ id) i = some b \/ some b ∈ f) -> (∀ i, C.pin i ≠ none -> c i = killR (own (S.b + d)) (λ id => if q id then ρ' id else ρ id) i) ->
  Wit C (updO (JaU (own (S.b + d)) (fdE q (movI q pin) E)) dst v) (addS (Jao (own (S.b + d)) (fdS q (movI q pin) σ σ')) l) (a.put dst y) w' c Im' M := λ v l c f m i3 e3 L g3 Z =>
  h.step H.G aj i3 (e3.put L) (JbR ..) (Jbb ..) ((JdX hd).trans ai) (λ i b j => by
   rcases g3 i b j with A | A
   . exact ak i b A
   . exact .inr (m.1 b A).1) ac (λ i o W => (Z i (by rw [W]; simp)).trans (ah i o W)) ab
 have u : ∀ f, Jej w.heap.size ρ' Im' f -> ∀ b, some b ∈ f -> (∀ i, killR (own (S.b + d)) (λ id => if q id then ρ' id else ρ id) i ≠ some b) /\ ¬ Im' b := λ f m b j =>
  ⟨p b (m.1 b j).1 (m.1 b j).2.2, (m.1 b j).2.1⟩
 have al : ∀ o, R1 w' Im' r y o -> Jej w.heap.size ρ' Im' [o] -> imp (16 * (S.b + d)) r = imp1 (16 * (S.b + d)) r ->
  ∃ c s, Wit C (updO (JaU (own (S.b + d)) (fdE q (movI q pin) E)) dst (imp (16 * (S.b + d)) r).1) (addS (Jao (own (S.b + d)) (fdS q (movI q pin) σ σ')) (imp (16 * (S.b + d)) r).2) (a.put dst y) w' c s M /\ ∀ i, i / 16 ≠ S.b + d -> c i = if q i then ρ' i else ρ i := λ o X m he => by
  obtain ⟨c, i3, e3, L, g3, _, _, _, Z⟩ := JfF J D (id := 16 * (S.b + d)) (by simpa using ad 0 (by omega)) X (λ b j => u [o] m b (by simp [j]))
  rw [he]
  exact ⟨c, Im', aa _ _ c [o] m i3 e3 L (λ i b j => by
   rcases g3 i b j with A | A
   . exact .inl A
   . exact .inr (by simp [A])) (λ i hi => Z i λ e => hi (by rw [e]; simpa using F 0 (by omega))), λ i hi => (Z i (by omega)).trans (JaF _ (by simp [own]; omega))⟩
 have R : ∀ (O : List AV) (ys : List Value) (f : List (Option Nat)), RL w' Im' O ys f -> Jej w.heap.size ρ' Im' f -> O.length <= 16 -> ∀ v, (∀ c, Reps w' c Im' (impL (16 * (S.b + d)) O).1 ys -> Rep w' c Im' v y) ->
  ∃ c s, Wit C (updO (JaU (own (S.b + d)) (fdE q (movI q pin) E)) dst v) (addS (Jao (own (S.b + d)) (fdS q (movI q pin) σ σ')) (impL (16 * (S.b + d)) O).2) (a.put dst y) w' c s M /\ ∀ i, i / 16 ≠ S.b + d -> c i = if q i then ρ' i else ρ i := λ O ys f K m hl v hv => by
  obtain ⟨c, i3, e3, L, g3, _, Z⟩ := Jd3 O ys f (16 * (S.b + d)) _ _ J D (λ k hk => ad k (by omega)) K (u f m) m.2
  exact ⟨c, Im', aa _ _ c f m i3 e3 (hv c L) g3 (λ i hi => Z i λ k hk e => hi (by rw [e]; exact F k (by omega))), λ i hi => (Z i λ k hk e => by omega).trans (JaF _ (by simp [own]; omega))⟩
 cases r with
 | tup O =>
  obtain ⟨ys, f, rfl, K, m⟩ := Y
  exact R O ys f K m P _ λ c L => .tup _ ys L.1 L.2
 | clo g O =>
  obtain ⟨ys, f, rfl, K, m⟩ := Y
  exact R O ys f K m P _ λ c L => .clo g _ ys L.1 L.2
 | _ =>
  obtain ⟨o, X, m⟩ := Y
  exact al o X m rfl
end
theorem Jlk {S : Sp} {C : Fx} (H : Holds S C) {E : Env} {σ : Jac} {a : Act} {w : World} {ρ : Nat -> Option Nat} {Im : Nat -> Prop} {M : Str} (h : Wit C E σ a w ρ Im M) {dst : Option Nat} {f : Operand} {args : Array Operand} {ats : Array TypeId} {ty : TypeId} {pos : String} {after : Array Edge} {guard : Option (Nat × Bool)} {g : FuncId} {caps : List AV} (hfv : ev E f = .clo g caps) (xs : List AV)
 (hx : (JaM caps = true /\ xs = args.toList.map (ev E) ++ caps) \/ ∃ bs, caps = .v (.tuple #[]) :: bs /\ xs = bs ++ args.toList.map (ev E)) (q : Nat -> Bool) (hq : AV.namesL (notI q) xs = false)
 (hlow : Op.low S.N (.call { callee := .value f, args, argTypes := ats }) = true) (henter : ∀ as w, (callFunc g as).run S.P w = .ok (.enter g as) w) :
 ∃ zs : List Value, Reps w (killR (notI q) ρ) Im xs zs /\ (execOp a.eval { dst, op := .call { callee := .value f, args, argTypes := ats }, type := ty, pos, after, guard }).run S.P w = .ok (.enter g zs.toArray) w := by
 have rep : ∀ x, x ∈ (Op.call { callee := .value f, args, argTypes := ats }).operands -> Rep w ρ Im (ev E x) (a.eval x) := λ x hx => Jb8 h.env (by rw [h.size, <- H.N]; exact JbP hlow hx)
 have hfr := rep f (by simp [Op.operands, Call.operands])
 rw [hfv] at hfr
 have hargs : ∀ x ∈ args.toList, Rep w ρ Im (ev E x) (a.eval x) := λ x hx => rep x (by simp [Op.operands, Call.operands]; exact Or.inr (L0x.1 hx))
 have happ : ∀ {l m : List AV} {ys zs : List Value}, Reps w ρ Im l ys -> Reps w ρ Im m zs -> Reps w ρ Im (l ++ m) (ys ++ zs) := λ {l m ys zs} h1 h2 => by
  refine ⟨by simp [h1.1, h2.1], λ j c y hc hy => ?_⟩
  by_cases hj : j < l.length
  . rw [L0k hj] at hc
    rw [L0k (by rw [<- h1.1]; exact hj)] at hy
    exact h1.2 j c y hc hy
  . rw [L0o (by omega)] at hc
    rw [L0o (by rw [<- h1.1]; omega), <- h1.1] at hy
    exact h2.2 _ c y hc hy
 have hargR : Reps w ρ Im (args.toList.map (ev E)) (args.toList.map a.eval) := ⟨by simp, λ j c y hc hy => by
  rw [L07] at hc hy
  cases hx : args.toList[j]? with
  | none => simp [hx] at hc
  | some x =>
   simp only [hx, L0I, Option.some.injEq] at hc hy
   subst hc; subst hy
   exact hargs x (L02 hx)⟩
 obtain ⟨zs, hall, hrun⟩ : ∃ zs : List Value, Reps w ρ Im xs zs /\ (execOp a.eval { dst, op := .call { callee := .value f, args, argTypes := ats }, type := ty, pos, after, guard }).run S.P w = .ok (.enter g zs.toArray) w := by
  rcases hx with ⟨hhd, rfl⟩ | ⟨bs, rfl, rfl⟩
  . obtain ⟨cys, hfy, hcl', hcr⟩ := hfr.clo_plain hhd
    refine ⟨args.toList.map a.eval ++ cys, happ hargR ⟨hcl', hcr⟩, ?_⟩
    simp only [execOp, resolve, hfy, Deferred.ofValue, Sem.run_bind, Sem.run_pure, Result.andThen_ok, invoke]
    have e1 : (#[] ++ args.map a.eval ++ cys.toArray : Array Value) = (args.toList.map a.eval ++ cys).toArray := by apply L12.1; simp
    rw [e1]; exact henter _ w
  . obtain ⟨cys, hfy, hcl', hcr⟩ := hfr.clo_inv
    match cys, hcl', hcr, hfy with
    | y :: ys, hcl', hcr, hfy =>
     have hy := (hcr 0 _ y rfl rfl).v_inv; subst hy
     have hfy : a.eval f = .func (.func g) ys.toArray #[] := hfy
     refine ⟨ys ++ args.toList.map a.eval, happ ⟨by simpa using hcl', λ j c y hc hy => hcr (j + 1) c y hc hy⟩ hargR, ?_⟩
     simp only [execOp, resolve, hfy, Deferred.ofValue, Sem.run_bind, Sem.run_pure, Result.andThen_ok, invoke]
     have e1 : (ys.toArray ++ args.map a.eval ++ #[] : Array Value) = (ys ++ args.toList.map a.eval).toArray := by apply L12.1; simp
     rw [e1]; exact henter _ w
 have hallq : Reps w (killR (notI q) ρ) Im xs zs := ⟨hall.1, λ j c y hc hy => (hall.2 j c y hc hy).killR λ id hid => by
  cases hp : notI q id with
  | false => rfl
  | true =>
   have := (AV.namesL_iff (notI q) _).2 ⟨c, L02 hc, AV.namesB_of _ hid hp⟩
   rw [hq] at this; cases this⟩
 exact ⟨zs, hallq, hrun⟩
theorem Jia {S : Sp} {E : Env} {σ : Jac} {K : Env -> Jac -> Prop} {dst : Option Nat} {f : Operand} {args : Array Operand} {t : Array TypeId} {ty : TypeId} {g : FuncId} {caps : List AV} (R : ev E f = .clo g caps) (xs : List AV)
 (U : (JaM caps = true /\ xs = args.toList.map (ev E) ++ caps) \/ ∃ bs, caps = .v (.tuple #[]) :: bs /\ xs = bs ++ args.toList.map (ev E)) (q pin : Nat -> Bool) {r : AV} {s : Jac}
 (Y : LOK S.P g pin xs (only q σ) r s) (Z : AV.namesL (notI q) xs = false) (T : ∀ id k, σ id = some k -> q id = true -> AV.namesL (notI q) k.es = false)
 (u : ∀ id k, s id = some k -> q id = true /\ AV.namesL (notI q) k.es = false) (hsp : ∀ id, S.pin id = true -> q id = true -> pin id = true) (o : (dst.all (decide <| · < S.N) && Op.low S.N (.call { callee := .value f, args, argTypes := t })) = true)
 (z : rlen r <= 16) {d : Nat} (L : d < 100000)
 (X : K (updO (JaU (own (S.b + d)) (fdE q (movI q pin) E)) dst (imp (16 * (S.b + d)) r).1) (addS (Jao (own (S.b + d)) (fdS q (movI q pin) σ s)) (imp (16 * (S.b + d)) r).2)) : semD S dst (.call { callee := .value f, args, argTypes := t }) ty K E σ := by
 intro F i j C H n a w Kc Q ⟨ρ, W, M, h⟩ J
 simp only [L00] at o; obtain ⟨l, A⟩ := o
 have l : ∀ d, dst = some d -> d < S.N := λ d L => by subst L; simpa using l
 refine ⟨λ _ _ => trivial, ?_⟩
 rw [Oper.semAt_eq _ _ _ (λ c e => by cases e)]
 obtain ⟨m, O⟩ := Y
 obtain ⟨zs, p, D⟩ := Jlk H h (dst := dst) (ty := ty) (pos := F) (after := i) (guard := j) R xs U q Z A m
 rw [D]
 refine ⟨λ h => by simp [FW] at h, JeR ?_⟩
 refine (O w W (killR (notI q) ρ) _ (h.inv.only T) (h.gok H) p).mono λ e w' ⟨y, ρ', Im', he, U, hi, hI1, hI2, hρ, hpin, hrr⟩ => ?_
 subst he
 obtain ⟨V, G, hw, _⟩ := h.lent (pin := pin) H U hi hI1 hI2 hρ hpin u hsp L hrr z (dst := dst) (by rw [<- H.N]; exact l)
 exact J _ _ _ _ X ⟨V, G, M, hw⟩
def stO (l : List (Nat × Blk)) : Jac := λ id => (l.find? λ p => p.1 == id).map (·.2)
@[go_sem] theorem JvO (id : Nat) : stO [] id = none := rfl
@[go_sem] theorem Jef (i : Nat) (b : Blk) (l : List (Nat × Blk)) (id : Nat) : stO ((i, b) :: l) id = if i = id then some b else stO l id := by
 simp only [stO, L2e]
 by_cases h : i = id
 . subst h; simp
 . have c : (i == id) = false := by simpa using h
   simp [h, c]
theorem Jb1 : ∀ {l : List (Nat × Blk)} {id : Nat} {b : Blk}, stO l id = some b -> (id, b) ∈ l
 | [], _, _, h => by cases h
 | (i, c) :: l, id, b, h => by
  rw [Jef] at h
  split at h
  . rename_i e; cases h; subst e; simp
  . simp [Jb1 h]
theorem Jeg : ∀ {l : List (Nat × Blk)} {id : Nat}, stO l id = none ↔ id ∉ l.map (·.1)
 | [], id => by simp [JvO]
 | (i, c) :: l, id => by
  rw [Jef]
  by_cases h : i = id
  . subst h; simp
  . rw [if_neg h, Jeg]; simp [Ne.symm h]
def frz (L p : Nat -> Bool) (σ : Jac) (c : AV) : AV := if AV.namesB (notI L) c = false then c else res (Jao p (Jao L σ)) ((c.kill L).kill p)
def frzE (L p : Nat -> Bool) (σ : Jac) (e : AV) : AV := match e with | .agg b => .agg (b.map (frz L p σ)) | e => frz L p σ e
def frzM (L p : Nat -> Bool) (σ : Jac) (e : AV) : AV := match e with | .tup [k, v] => .tup [k, frz L p σ v] | e => e
def frzB (L p : Nat -> Bool) (σ : Jac) (k : Blk) : Blk := ⟨k.e, k.sz, if AV.namesL (notI L) k.es = false then k.es else if k.sz = 0 then k.es.map (frzM L p σ) else k.es.map (frzE L p σ)⟩
def Jkr (L p : Nat -> Bool) (σ : Jac) : List (Nat × Blk) -> Prop
 | [] => True
 | (id, b) :: l => (σ id).map (frzB L p σ) = some b /\ Jkr L p σ l
theorem JmS {L p : Nat -> Bool} {σ : Jac} : ∀ {l : List (Nat × Blk)} {id : Nat} {b : Blk}, Jkr L p σ l -> stO l id = some b -> (σ id).map (frzB L p σ) = some b
 | [], _, _, _, h => by cases h
 | (i, c) :: l, id, b, d, h => by
  rw [Jef] at h
  split at h
  . rename_i e; cases h; subst e; exact d.1
  . exact JmS d.2 h
section
variable {P : Program} {w : World} {ρ : Nat -> Option Nat} {Im : Nat -> Prop} {σ : Jac} {L p : Nat -> Bool}
theorem JlD (f : Inv w ρ Im σ) {c : AV} {x : Value} (h : Rep w ρ Im c x) : Rep w (killR (notI L) ρ) (Seen Im (killR p (killR L ρ))) (frz L p σ c) x := by
 unfold frz
 split
 . rename_i m
   refine Rep.mono (w := w) (w' := w) (λ b k => .inl k) (λ _ _ => rfl) h λ id d => ⟨JaF ρ ?_, λ b _ g e l => ⟨g, l, rfl⟩⟩
   cases hp : notI L id with
   | false => rfl
   | true => have := AV.namesB_of (notI L) d hp; rw [m] at this; cases this
 . have i : Rep w (killR L ρ) Im (c.kill L) x := (h.kill L).killR λ id d => (AV.kill_names L c id d).2
   have j : Rep w (killR p (killR L ρ)) Im ((c.kill L).kill p) x := (i.kill p).killR λ id d => (AV.kill_names p _ id d).2
   exact .im _ _ (Jhw ((f.kill L).kill p) j)
theorem Jkd {e : AV} : (frzE L p σ e).cells = e.cells.map (frz L p σ) := by
 have c : ∀ e : AV, e.isAgg = false -> (frz L p σ e).cells = e.cells.map (frz L p σ) := λ e b => by
  rw [JcW b, List.map_singleton]
  refine JcW ?_
  unfold frz
  split
  . exact b
  . have f : ∀ (q : Nat -> Bool) (x : AV), x.isAgg = false -> (x.kill q).isAgg = false := λ q x d => by
     unfold AV.kill; split
     . exact Jmz q d
     . exact d
    exact JfZ _ _ (f _ _ (f _ _ b))
 cases e with
 | agg g => rfl
 | _ => exact c _ rfl
theorem JiS (f : Inv w ρ Im σ) {id b : Nat} {k : Blk} (P : σ id = some k) (Q : ρ id = some b) :
 (k.sz = 0 -> JrY w (killR (notI L) ρ) (Seen Im (killR p (killR L ρ))) (frzB L p σ k).es b) /\
 (k.sz ≠ 0 -> ∃ cur, (∃ O, w.heap[b]? = some (.cells cur k.e O) /\ Mk O cur.size) /\ (∀ e ∈ (frzB L p σ k).es, e.cells.length = k.sz) /\ (frzB L p σ k).es.length * k.sz <= cur.size /\
  (∀ (i : Nat) (e : AV) (j : Nat) (c : AV), (frzB L p σ k).es[i]? = some e -> e.cells[j]? = some c -> ∃ x, cur[i * k.sz + j]? = some x /\ x.oneCell' = true /\ Rep w (killR (notI L) ρ) (Seen Im (killR p (killR L ρ))) c x)) := by
 have q : ∀ {c x}, AV.namesL (notI L) k.es = false -> (∃ e ∈ k.es, ∀ i, Names c i -> Names e i) -> Rep w ρ Im c x -> Rep w (killR (notI L) ρ) (Seen Im (killR p (killR L ρ))) c x := λ {c x} l ⟨e, g, E⟩ h =>
  Rep.mono (w := w) (w' := w) (λ b s => .inl s) (λ _ _ => rfl) h λ id K => ⟨JaF ρ (by
   cases hp : notI L id with
   | false => rfl
   | true => have := (AV.namesL_iff (notI L) k.es).2 ⟨e, g, AV.namesB_of (notI L) (E id K) hp⟩; rw [l] at this; cases this), λ b _ cur e t => ⟨cur, t, rfl⟩⟩
 refine ⟨λ C => ?_, λ C => ?_⟩
 . obtain ⟨o, z, s, A, t⟩ := f.map id k b P Q C
   by_cases l : AV.namesL (notI L) k.es = false
   . simp only [frzB, l, if_true]
     refine ⟨o, z, s, A, λ i m M => ?_⟩
     obtain ⟨v, F, u⟩ := t i m M
     exact ⟨v, F, q l ⟨_, L02 F, λ i J => .tup _ v i (by simp) J⟩ u⟩
   . simp only [frzB, if_neg l, C, if_true]
     refine ⟨o, z, s, by simpa using A, λ i m M => ?_⟩
     obtain ⟨v, F, u⟩ := t i m M
     exact ⟨frz L p σ v, by rw [L07, F]; rfl, JlD f u⟩
 . obtain ⟨cur, s, A, E, t⟩ := f.blk id k b P Q C
   by_cases l : AV.namesL (notI L) k.es = false
   . simp only [frzB, l, if_true]
     refine ⟨cur, s, A, E, λ i e j c g d => ?_⟩
     obtain ⟨x, S, G, y⟩ := t i e j c g d
     exact ⟨x, S, G, q l ⟨e, L02 g, λ i J => Jbk (L02 d) J⟩ y⟩
   . simp only [frzB, if_neg l, if_neg C]
     refine ⟨cur, s, λ e g => ?_, by simpa using E, λ i e j c g d => ?_⟩
     . obtain ⟨D, H, rfl⟩ := L05.1 g
       rw [Jkd, L0c]; exact A D H
     . rw [L07] at g
       cases h3 : k.es[i]? with
       | none => simp [h3] at g
       | some D =>
        simp [h3] at g; subst g
        rw [Jkd, L07] at d
        cases h4 : D.cells[j]? with
        | none => simp [h4] at d
        | some R =>
         simp [h4] at d; subst d
         obtain ⟨x, N, G, y⟩ := t i D j R h3 h4
         exact ⟨x, N, G, JlD f y⟩
end
def retP (us : List AV) : List AV := match us with | [.clo _ b] => b | us => us
theorem Jf0 {us : List AV} (h : ∀ g caps, us = [.clo g caps] -> False) : retP us = us := by
 unfold retP; split
 . rename_i g caps; exact (h g caps rfl).elim
 . rfl
def JlM (L : Nat -> Bool) (l : List (Nat × Blk)) (r : AV) (σ : Jac) (vs : List AV) : Prop :=
 retK (Jao L σ) (· = r) (vs.map (AV.kill L)) /\ Jkr L (topP (retP (vs.map (AV.kill L)))) σ l
theorem Jof {C : Fx} {E : Env} {σ : Jac} {tm : Array Value} {w : World} {ρ ρ0 : Nat -> Option Nat} {Im : Nat -> Prop} {M : Str} {l' : List (Nat × Blk)} {r : AV} {vs : List AV} {ys : List Value}
 (h : Rest C E σ tm w ρ Im M) (hlow0 : ∀ b, C.Im0 b -> b < C.w0.heap.size) (hR0 : ∀ id b, C.R0 id b -> ρ0 id = some b) (hdom : ∀ id b, ρ0 id = some b -> id ∈ l'.map (·.1) /\ b < C.w0.heap.size /\ ¬ C.Im0 b)
 (hr : Reps w ρ Im vs ys) (hk : JlM (inI (l'.map (·.1))) l' r σ vs) :
 ∃ ρ' Im', Inv w ρ' Im' (stO l') /\ (∀ b, Im b -> Im' b) /\ (∀ b, Im' b -> C.Im0 b \/ C.w0.heap.size <= b) /\ (∀ id b, ρ' id = some b -> ρ0 id = some b \/ C.w0.heap.size <= b) /\ (∀ id, inI (l'.map (·.1)) id = true -> ρ' id = ρ id) /\
  RR C.w0 w ρ' Im' r (handed ys) := by
 obtain ⟨hk, hlast⟩ := hk
 let L := inI (l'.map (·.1))
 have hinv2 : Inv w (killR L ρ) Im (Jao L σ) := h.inv.kill L
 have new : ∀ id b, killR L ρ id = some b -> C.w0.heap.size <= b := λ id b hb => by
  obtain ⟨hl, hb⟩ := Jae hb
  rcases h.rng id b hb with ⟨_, h1⟩ | h1
  . have := (hdom id b (hR0 id b h1)).1
    simp only [L, inI] at hl
    rw [L0A.2 this] at hl; cases hl
  . exact h1
 have hr2 : Reps w (killR L ρ) Im (vs.map (AV.kill L)) ys := ⟨by simpa using hr.1, λ j c y hc hy => by
  rw [L07] at hc
  cases hv : vs[j]? with
  | none => simp [hv] at hc
  | some v => simp [hv] at hc; subst hc; exact ((hr.2 j v y hv hy).kill L).killR λ id hid => (AV.kill_names L v id hid).2⟩
 -- what comes of all
 have fin : ∀ us : List AV, (topP (retP (vs.map (AV.kill L))) = topP us) -> JeY (Jao L σ) us -> ∀ zs, Reps w (killR L ρ) Im us zs -> ∃ obs, RL w (Seen Im (killR (topP us) (killR L ρ))) (us.map (expo (Jao L σ) (topP us))) zs obs /\
  Jej C.w0.heap.size (killR (notI L) ρ) (Seen Im (killR (topP us) (killR L ρ))) obs := λ us _ hok zs hz => by
  obtain ⟨obs, h1, h2, h3⟩ := Jeu hinv2 (p := topP us) us zs hz hok.2 hok.1
  refine ⟨obs, h1, λ b hb => ?_, h3⟩
  obtain ⟨id, hid, hρ⟩ := h2 b hb
  refine ⟨new id b hρ, λ hI => ?_, λ id' h' => ?_⟩
  . rcases hI with hI | ⟨id', hI⟩
    . exact hinv2.apart id b hρ hI
    . obtain ⟨hp, hI⟩ := Jae hI
      have := hinv2.inj id id' b hρ hI
      subst this
      simp [topP, hid] at hp
  . obtain ⟨hp, h'⟩ := Jae h'
    obtain ⟨hq, hρ⟩ := Jae hρ
    have := h.inv.inj id id' b hρ h'
    subst this
    simp [notI, hq] at hp
 have inv3 : ∀ p : Nat -> Bool, Jkr L p σ l' -> Inv w (killR (notI L) ρ) (Seen Im (killR p (killR L ρ))) (stO l') := λ p hl => by
  have at' : ∀ {id k}, stO l' id = some k -> ∃ k0, σ id = some k0 /\ k = frzB L p σ k0 := λ {id k} hk => by
   obtain ⟨k0, h0, e⟩ := L0h.1 (JmS hl hk)
   exact ⟨k0, h0, e.symm⟩
  refine ⟨λ id k hk hr => ?_, λ id k b hk hr hz => ?_, λ id k b hk hr hz => ?_, λ i j b h1 h2 => h.inv.inj i j b (Jae h1).2 (Jae h2).2, λ id b hr hs => ?_, λ id b hr hI => ?_, λ b hb => ?_⟩
  . obtain ⟨k0, h0, rfl⟩ := at' hk
    have hL : L id = true := by
     have := Jb1 hk
     simp only [L, inI]; exact L0A.2 (L05.2 ⟨_, this, rfl⟩)
    rw [JaF ρ (by simp [notI, hL])] at hr
    have := h.inv.nil id k0 h0 hr
    simp [frzB, this, AV.namesL]
  . obtain ⟨k0, h0, rfl⟩ := at' hk
    exact (JiS h.inv h0 (Jae hr).2).1 hz
  . obtain ⟨k0, h0, rfl⟩ := at' hk
    exact (JiS h.inv h0 (Jae hr).2).2 hz
  . have hp := (Jae hr).1; rw [Jeg] at hs; simp only [notI, L, inI, Bool.not_eq_false'] at hp
    exact hs (L0A.1 hp)
  . obtain ⟨hp, hr⟩ := Jae hr
    rcases hI with hI | ⟨id', hI⟩
    . exact h.inv.apart id b hr hI
    . obtain ⟨_, hI⟩ := Jae hI
      obtain ⟨hq, hI⟩ := Jae hI
      have := h.inv.inj id id' b hr hI
      subst this
      simp [notI, hq] at hp
  . rcases hb with hb | ⟨id, hb⟩
    . exact h.inv.low b hb
    . exact hinv2.lt (Jae hb).2
 have imn : ∀ (p : Nat -> Bool) b, Seen Im (killR p (killR L ρ)) b -> C.Im0 b \/ C.w0.heap.size <= b := λ p b hb => by
  rcases hb with hb | ⟨id, hb⟩
  . exact h.im b hb
  . exact .inr (new id b (Jae hb).2)
 have rr : ∀ id b, killR (notI L) ρ id = some b -> ρ0 id = some b \/ C.w0.heap.size <= b := λ id b hb => by
  rcases h.rng id b (Jae hb).2 with ⟨_, h1⟩ | h1
  . exact .inl (hR0 id b h1)
  . exact .inr h1
 have kk : ∀ id, L id = true -> killR (notI L) ρ id = ρ id := λ id hid => JaF ρ (by simp [notI, hid])
 unfold retK at hk
 revert hk hlast
 generalize hvs : vs.map (AV.kill (inI (l'.map (·.1)))) = us at *
 intro hk hlast
 split at hk
 . rename_i g caps; obtain ⟨hok, rfl⟩ := hk
   obtain ⟨y, rfl⟩ : ∃ y, ys = [y] := by
    have := hr2.1; match ys, this with | [y], _ => exact ⟨y, rfl⟩
   obtain ⟨cys, rfl, hcl, hcr⟩ := (hr2.2 0 _ y rfl rfl).clo_inv
   obtain ⟨obs, h1, h2⟩ := fin caps rfl hok cys ⟨hcl, hcr⟩
   exact ⟨_, _, inv3 _ hlast, λ b hb => .inl hb, imn _, rr, kk, cys, obs, by simp [handed], h1, h2⟩
 . rename_i v hv; obtain ⟨hsg, hok, rfl⟩ := hk
   obtain ⟨y, rfl⟩ : ∃ y, ys = [y] := by
    have := hr2.1; match ys, this with | [y], _ => exact ⟨y, rfl⟩
   have htop : retP [v] = [v] := Jf0 λ g caps e => by cases e; cases hsg
   rw [htop] at hlast
   obtain ⟨obs, h1, h2⟩ := fin [v] (by rw [htop]) hok [y] hr2
   obtain ⟨ob, rfl⟩ : ∃ ob, obs = [ob] := by
    match obs, h1 with | [ob], _ => exact ⟨ob, rfl⟩
   have hsg' := Jg5 (σ := Jao (inI (l'.map (·.1))) σ) (p := topP [v]) hsg
   refine ⟨_, _, inv3 _ hlast, λ b hb => .inl hb, imn _, rr, kk, ?_⟩
   have h1 := h1.1; simp only [handed, L0V, L0e, L0r, L0p, dite_true]; generalize expo (Jao (inI (l'.map (·.1))) σ) (topP [v]) v = r at *
   cases r with
   | tup => cases hsg'
   | clo => cases hsg'
   | _ => exact ⟨ob, by simpa using h1, h2⟩
 . rename_i hn1 hn2; obtain ⟨hok, rfl⟩ := hk
   have htop : retP us = us := Jf0 λ g caps e => hn1 g caps e
   rw [htop] at hlast
   obtain ⟨obs, h1, h2⟩ := fin us (by rw [htop]) hok ys hr2
   have hne : ys.toArray.size ≠ 1 := by
    simp only [L0V, <- hr2.1]
    intro hl
    match us, hl, hn2 with | [v], _, hn2 => exact hn2 v rfl
   refine ⟨_, _, inv3 _ hlast, λ b hb => .inl hb, imn _, rr, kk, ?_⟩
   unfold handed; rw [dif_neg hne]
   exact ⟨ys, obs, rfl, h1, h2⟩
def spL (P : Program) (f : FuncId) (N : Nat) (c : List Nat) : Sp := { P, N, b := 131072 * (f + 1), pin := inI c, yl := 0, Y := λ _ _ _ => False, old := λ i => Nat.blt (i / 16) (131072 * (f + 1)) || Nat.ble (131072 * (f + 1) + 100000) (i / 16) }
instance (P : Program) (f N : Nat) (pins : List Nat) : Plain (spL P f N pins) := ⟨λ _ _ _ _ _ hk => (show False from hk).elim⟩
section
variable (P : Program) (f N : Nat) (pins : List Nat)
@[go_sem] theorem spL_P : (spL P f N pins).P = P := rfl
@[go_sem] theorem spL_b : (spL P f N pins).b = 131072 * (f + 1) := rfl
@[go_sem ↓] theorem JCK (id : Nat) : (spL P f N pins).bad id = false := rfl
@[go_sem] theorem spL_N : (spL P f N pins).N = N := rfl
@[go_sem] theorem JCL (id : Nat) : (spL P f N pins).pin id = inI pins id := rfl
end
def retL (S : Sp) (c : Func) (l : List (Nat × Blk)) (r : AV) : Exit -> Env -> Jac -> Prop
 | .normal => λ E b => rvC S.P E b c.results.toList [] (JlM (inI (l.map (·.1))) l r b)
 | .ret => λ E b => rvC S.P E b c.results.toList [] (JlM (inI (l.map (·.1))) l r b)
 | _ => λ _ _ => False
@[go_sem ↓] theorem JvF (S : Sp) (b : Func) (l : List (Nat × Blk)) (r : AV) (E : Env) (σ : Jac) : retL S b l r .normal E σ = rvC S.P E σ b.results.toList [] (JlM (inI (l.map (·.1))) l r σ) := rfl
@[go_sem ↓] theorem JA0 (S : Sp) (b : Func) (l : List (Nat × Blk)) (r : AV) (E : Env) (σ : Jac) : retL S b l r .ret E σ = rvC S.P E σ b.results.toList [] (JlM (inI (l.map (·.1))) l r σ) := rfl
@[go_sem] theorem JAz (L : Nat -> Bool) (l : List (Nat × Blk)) (r : AV) (σ : Jac) (vs : List AV) : JlM L l r σ vs = (retK (Jao L σ) (· = r) (vs.map (AV.kill L)) /\ Jkr L (topP (retP (vs.map (AV.kill L)))) σ l) := rfl
@[go_sem] theorem Jyn (L p : Nat -> Bool) (σ : Jac) : Jkr L p σ [] = True := rfl
@[go_sem] theorem JwD (L p : Nat -> Bool) (σ : Jac) (id : Nat) (b : Blk) (l : List (Nat × Blk)) : Jkr L p σ ((id, b) :: l) = ((σ id).map (frzB L p σ) = some b /\ Jkr L p σ l) := rfl
@[go_sem] theorem JA1 : retP [] = [] := rfl
@[go_sem] theorem retP_v (x : Value) : retP [.v x] = [.v x] := rfl
@[go_sem] theorem JA2 (a b : AV) (l : List AV) : retP (a :: b :: l) = a :: b :: l := Jf0 λ g c e => by cases e
@[go_sem] theorem Jy6 (σ : Jac) (R : AV -> Prop) : retK σ R [] = R (.tup []) := by
 simp [retK, JeY, Jav]
@[go_sem] theorem JB9 (q : Nat -> Bool) (i : Nat) : notI q i = !q i := rfl
@[go_sem] theorem JB6 (q pin : Nat -> Bool) (i : Nat) : movI q pin i = (q i && !pin i) := rfl
@[go_sem] theorem JBI (L p : Nat -> Bool) (σ : Jac) (e : TypeId) (sz : Nat) (es : List AV) : frzB L p σ ⟨e, sz, es⟩ = ⟨e, sz, if AV.namesL (notI L) es = false then es else if sz = 0 then es.map (frzM L p σ) else es.map (frzE L p σ)⟩ := rfl
theorem Jqb {l : List Nat} {id : Nat} (h : inI l id = true) : id ∈ l := L0A.1 h
def atL (σ : Jac) : List (Nat × Blk) -> Prop
 | [] => True
 | (id, b) :: l => σ id = some b /\ atL σ l
@[go_sem] theorem JBn (σ : Jac) : atL σ [] = True := rfl
@[go_sem] theorem JzS (σ : Jac) (id : Nat) (b : Blk) (l : List (Nat × Blk)) : atL σ ((id, b) :: l) = (σ id = some b /\ atL σ l) := rfl
theorem Jmq {σ : Jac} : ∀ {l : List (Nat × Blk)} {id : Nat} {b : Blk}, atL σ l -> stO l id = some b -> σ id = some b
 | [], _, _, _, h => by cases h
 | (i, c) :: l, id, b, d, h => by
  rw [Jef] at h
  split at h
  . rename_i e; cases h; subst e; exact d.1
  . exact Jmq d.2 h
theorem JgB {σ : Jac} {l : List (Nat × Blk)} (h : atL σ l) : only (inI (l.map (·.1))) σ = stO l := by
 funext id
 simp only [only]
 split
 . rename_i c
   cases hs : stO l id with
   | none => exact absurd (L0A.1 c) (Jeg.1 hs)
   | some b => exact Jmq h hs
 . rename_i c
   refine (Jeg.2 λ d => c ?_).symm
   exact L0A.2 d
def Jcq (q : Nat -> Bool) (l : List (Nat × Blk)) : Bool := l.all λ p => !AV.namesL (notI q) p.2.es
@[go_sem] theorem JuH (q : Nat -> Bool) : Jcq q [] = true := rfl
@[go_sem] theorem JtR (q : Nat -> Bool) (id : Nat) (b : Blk) (l : List (Nat × Blk)) : Jcq q ((id, b) :: l) = (!AV.namesL (notI q) b.es && Jcq q l) := rfl
theorem JaY {S : Sp} {E : Env} {σ : Jac} {K : Env -> Jac -> Prop} {dst : Option Nat} {f : Operand} {args : Array Operand} {j : Array TypeId} {ty : TypeId} {g : FuncId} {s caps : List AV} (d : List Nat) {l l' : List (Nat × Blk)} {r : AV}
 (G : LOK S.P g (inI d) (s ++ caps) (stO l) r (stO l')) (y : ev E f = .clo g caps) (u : args.toList.map (ev E) = s) (o : atL σ l)
 (A : AV.namesL (notI (inI (l.map (·.1)))) (s ++ caps) = false) (t : Jcq (inI (l.map (·.1))) l = true) (w : Jcq (inI (l.map (·.1))) l' = true)
 (F : K (updO (JaU (own (S.b + dst.getD 99999)) (fdE (inI (l.map (·.1))) (movI (inI (l.map (·.1))) (inI d)) E)) dst (imp (16 * (S.b + dst.getD 99999)) r).1)
  (addS (Jao (own (S.b + dst.getD 99999)) (fdS (inI (l.map (·.1))) (movI (inI (l.map (·.1))) (inI d)) σ (stO l'))) (imp (16 * (S.b + dst.getD 99999)) r).2))
 (z : JaM caps = true := by rfl) (p : l.map (·.1) = l'.map (·.1) := by rfl) (hsp : ∀ id, id ∈ l.map (·.1) -> S.pin id = true -> inI d id = true := by intro id H J; first | (cases J; done) | (simp_all [inI, spL, spR]; done))
 (h : (dst.all (decide <| · < S.N) && Op.low S.N (.call { callee := .value f, args, argTypes := j }) && decide (dst.getD 99999 < 100000)) = true := by kernel_rfl) (q : rlen r <= 16 := by exact L0v rfl) :
 semD S dst (.call { callee := .value f, args, argTypes := j }) ty K E σ := by
 simp only [L00, decide_eq_true_eq] at h
 have c : ∀ {m : List (Nat × Blk)}, Jcq (inI (l.map (·.1))) m = true -> ∀ id k, stO m id = some k -> AV.namesL (notI (inI (l.map (·.1)))) k.es = false := λ {m} t id k i => by
  simp only [Jcq, L0f] at t
  simpa using t (id, k) (Jb1 i)
 refine Jia y (s ++ caps) (.inl ⟨z, by rw [u]⟩) (inI (l.map (·.1))) (inI d) (by rw [JgB o]; exact G) A (λ id k i A => ?_) (λ id k i => ⟨?_, c w id k i⟩) (λ id C D => hsp id (Jqb D) C) (by simp [h.1]) q h.2 F
 . cases hs : stO l id with
   | none => exact absurd (L0A.1 A) (Jeg.1 hs)
   | some b =>
    have := Jmq o hs
    rw [i] at this; cases this
    exact c t id k hs
 . rw [p]; exact L0A.2 (L05.2 ⟨_, Jb1 i, rfl⟩)
section
variable (q k : Nat -> Bool)
@[go_sem] theorem fdE_at (E : Env) (t : Nat) : fdE q k E t = AV.fd q k (E t) := rfl
@[go_sem] theorem fdS_at (σ b : Jac) (id : Nat) : fdS q k σ b id = if q id then b id else (σ id).map (Blk.fd q k) := rfl
attribute [go_sem] AV.fd
attribute [go_sem] AV.fdL
@[go_sem] theorem JBF {T : Type} (l : List T) (f : T -> AV) (h : AV.namesL allB (l.map f) = false) : AV.fdL q k (l.map f) = l.map f := AV.fdL_free q k _ h
@[go_sem] theorem blk_fd (e : TypeId) (s : Nat) (es : List AV) : Blk.fd q k ⟨e, s, es⟩ = ⟨e, s, AV.fdL q k es⟩ := rfl
end
def insJ (D : Nat -> Bool) (i : Nat) : Nat -> Bool := λ k => k == i || D k
@[go_sem] theorem JBS (D : Nat -> Bool) (i k : Nat) : insJ D i k = (k == i || D k) := rfl
def JeW : Nat -> List Oper -> Bool
 | _, [] => true
 | i, o :: l => (o.after.toList.all λ e => !Region.binds .any e || Nat.blt e.on i) && JeW (i + 1) l
theorem JeX : ∀ {l : List Oper} {n i : Nat} {o : Oper}, JeW n l = true -> l[i]? = some o -> ∀ e ∈ o.after, Region.binds .any e = true -> e.on < n + i
 | [], _, _, _, _, h => by simp at h
 | f :: l, n, i, o, d, h => by
  simp only [JeW, L00] at d
  cases i with
  | zero =>
   simp at h; subst h
   intro e c b
   have := L0f.1 d.1 e (L0x.2 c)
   simp [b] at this
   exact this
  | succ i =>
   intro e c b
   have := JeX d.2 (by simpa using h) e c b
   omega
def Jiy (S : Sp) (ops : Array Oper) (J : (Nat -> Bool) -> Env -> Jac -> Prop) : Nat -> List Oper -> Prop
 | _, [] => True
 | i, o :: l => (∀ D, D i = false -> (∀ e ∈ o.after.toList, Region.binds .any e = true -> D e.on = true) -> ∀ E b, J D E b -> opsC S false ops i [o] (J (insJ D i)) E b) /\ Jiy S ops J (i + 1) l
theorem JkU {S : Sp} {ops : Array Oper} {J : (Nat -> Bool) -> Env -> Jac -> Prop} : ∀ {l : List Oper} {n i : Nat} {o : Oper}, Jiy S ops J n l -> l[i]? = some o ->
 ∀ D, D (n + i) = false -> (∀ e ∈ o.after.toList, Region.binds .any e = true -> D e.on = true) -> ∀ E σ, J D E σ -> gopC S true true ops.toList o (J (insJ D (n + i))) (J (insJ D (n + i))) E σ
 | [], _, _, _, _, h => by simp at h
 | c :: l, n, i, o, b, h => by
  cases i with
  | zero => simp at h; subst h; exact b.1
  | succ i =>
   have := JkU b.2 (by simpa using h)
   rwa [show n + 1 + i = n + (i + 1) from by omega] at this
theorem Jjl {S : Sp} (hY : JcV S) {id : Nat} {ops : Array Oper} {Q : Exit -> Env -> Jac -> Prop} {E : Env} {σ : Jac} (J : (Nat -> Bool) -> Env -> Jac -> Prop)
 (h0 : J (λ _ => false) E σ) (hsteps : Jiy S ops J 0 ops.toList) (hend : ∀ D E σ, (∀ i, i < ops.size -> D i = true) -> J D E σ -> Q .normal E σ)
 (hfit : ops.toList.all (Oper.fits S.P S.N) = true := by kernel_rfl) (hedge : JeW 0 ops.toList = true := by kernel_rfl) : semC S (.region id ops true) Q E σ := by
 intro C H n R hR a w hs
 have hall : ∀ (i : Nat) (o : Oper), ops[i]? = some o -> Oper.fits S.P S.N o = true := λ i o ho => L0f.1 hfit o (L0x.2 (L1I ho))
 have hlist : ∀ (i : Nat) (o : Oper), ops[i]? = some o -> ops.toList[i]? = some o := λ i o ho => by rw [L0P]; exact ho
 refine wpIn_region_any H.mo ?_
 have key : ∀ (fuel : Nat) (listed : Array Bool) (E : Env) (σ : Jac) (a : Act) (w : World), listed.size = ops.size -> (rem ops listed).length <= fuel ->
  J (λ i => listed.getD i false) E σ -> St C E σ a w -> wpAnyIn (FW C.rdl) n S.P .any ops R fuel listed a w := by
  intro fuel
  have full : ∀ (listed : Array Bool), listed.size = ops.size -> rem ops listed = [] -> ∀ i, i < ops.size -> listed.getD i false = true := λ listed hsz hr i hi => by
   cases hl : listed.getD i false with
   | true => rfl
   | false =>
    have : i ∈ rem ops listed := Ja5.2 ⟨hi, by
     simp only [L0M] at hl ⊢
     rw [L0i (by omega)] at hl ⊢; exact hl⟩
    rw [hr] at this; simp at this
  induction fuel with
  | zero =>
   intro listed E σ a w hsz hle hv hs
   have h0 : rem ops listed = [] := L0T (by omega)
   refine ⟨?_, hR _ _ _ _ _ (hend _ _ _ (full listed hsz h0) hv) hs⟩
   cases hr : Region.ready .any ops listed with
   | nil => rfl
   | cons i l =>
    have hi : i ∈ Region.ready .any ops listed := by rw [hr]; simp
    obtain ⟨h1, o, ho, _⟩ := mem_ready.1 hi
    have : i ∈ rem ops listed := Ja5.2 ⟨(L0m.1 ho).1, h1⟩
    rw [h0] at this; simp at this
  | succ fuel ih =>
   intro listed E σ a w hsz hle hv hs
   have getD_same : ∀ i, i < ops.size -> listed.getD i true = listed.getD i false := λ i hi => by
    simp only [L0M]; rw [L0i (by omega)]; rfl
   refine ⟨λ hr0 => ?_, λ i hi => ?_⟩
   . have hr : rem ops listed = [] := by
      cases hr : rem ops listed with
      | nil => rfl
      | cons i l =>
       exfalso
       have hm : i ∈ rem ops listed := by rw [hr]; simp
       obtain ⟨hlt, hun⟩ := Ja5.1 hm
       have : i ∈ Region.ready .any ops listed := mem_ready.2 ⟨hun, _, L0i hlt, λ e he hb => by
        have hei := JeX hedge (hlist i _ (L0i hlt)) e he hb
        cases hl : listed.getD e.on false with
        | true => rfl
        | false =>
         have hme : e.on ∈ rem ops listed := Ja5.2 ⟨by omega, by rw [getD_same _ (by omega)]; exact hl⟩
         have hsort := Jc3 (ops := ops) listed
         rw [hr] at hme hsort
         rcases L0q.1 hme with h | h
         . omega
         . have := (L1x.1 hsort).1 _ h; omega⟩
       rw [hr0] at this; simp at this
     exact hR _ _ _ _ _ (hend _ _ _ (full listed hsz hr) hv) hs
   . obtain ⟨hun, o, ho, hedges⟩ := mem_ready.1 hi
     have hlt : i < ops.size := (L0m.1 ho).1
     have hm : i ∈ rem ops listed := Ja5.2 ⟨hlt, hun⟩
     obtain ⟨pre, post, hsplit⟩ := L28 hm
     have hset := Jjm hsz hsplit
     have hD : (λ k => (listed.setIfInBounds i true).getD k false) = insJ (λ k => listed.getD k false) i := by
      funext k
      simp only [insJ, L0M]
      by_cases hk : k = i
      . subst hk; simp [hsz, hlt]
      . rw [L1n (Ne.symm hk)]; simp [hk]
     have hstep := JkU hsteps (hlist i o ho) (λ k => listed.getD k false) (by rw [L0p, <- getD_same i hlt]; exact hun) (λ e he hb => hedges e (L0x.1 he) hb) E σ hv
     rw [L0p] at hstep
     have hg := JlF hY (K' := J (insJ (λ k => listed.getD k false) i)) (Kb' := J (insJ (λ k => listed.getD k false) i)) (λ _ _ h => h) (λ _ _ h => h) hstep
     have next : ∀ E' σ' a' w', J (insJ (λ k => listed.getD k false) i) E' σ' -> St C E' σ' a' w' -> wpAnyIn (FW C.rdl) n S.P .any ops R fuel (listed.setIfInBounds i true) a' w' := λ E' σ' a' w' h1 h3 => by
      refine ih (listed.setIfInBounds i true) E' σ' a' w' (by simpa using hsz) ?_ (by rw [hD]; exact h1) h3
      rw [hset]; rw [hsplit] at hle; simp at hle ⊢; omega
     obtain ⟨ρ, Im, M, hw⟩ := hs
     exact Jde ho (Je2 (Kc := wpAnyIn (FW C.rdl) n S.P .any ops R fuel (listed.setIfInBounds i true)) H hw hall (hall i o ho) true true (λ h => by cases h) hg (λ E' σ' a' w' h1 h2 => next E' σ' a' w' h1 h2) λ E' σ' a' w' h1 h2 => next E' σ' a' w' h1 h2)
 exact key ops.size _ E σ a _ (by simp) (by unfold rem; exact L0n (L1u _ _) (by simp)) (by
  have : (λ i => (Array.replicate ops.size false).getD i false) = λ _ => false := by
   funext i; simp only [L0M, L1V]; split <;> rfl
  rw [this]; exact h0) (hs.drew H.G (w.drawn + 1))
def spB (P : Program) (f : FuncId) (N : Nat) (c : List Nat) : Sp := { P, N, b := 131072 * (f + 1), pin := λ _ => false, yl := 0, Y := λ _ _ _ => False, bad := inI c, old := λ _ => false }
instance (P : Program) (f N : Nat) (bad : List Nat) : Plain (spB P f N bad) := ⟨λ _ _ _ _ _ hk => (show False from hk).elim⟩
section
variable (P : Program) (f N : Nat) (bad : List Nat)
@[go_sem] theorem spB_P : (spB P f N bad).P = P := rfl
@[go_sem] theorem spB_b : (spB P f N bad).b = 131072 * (f + 1) := rfl
@[go_sem] theorem spB_N : (spB P f N bad).N = N := rfl
@[go_sem] theorem JCJ (id : Nat) : (spB P f N bad).pin id = false := rfl
@[go_sem] theorem JCI (id : Nat) : (spB P f N bad).bad id = bad.contains id := rfl
end
def fnB (P : Program) (fn : Func) (bad : List Nat) (c : Code) : Bool :=
 Jcr P fn.ntmps (inI bad) c && fn.results.toList.all (ResultVar.low fn.ntmps) && !(fn.name == "runtime.NumGoroutine") && Nat.ble fn.ntmps 99999
theorem Jbf {P : Program} {f : FuncId} {d : Func} {c : Code} {args : List AV} {r : AV} (b : List Nat) (q : P.funcs[f]? = some d) (p : d.body = some c) (i : fnB P d b c = true) (l : P.follows .mixedOrders = true)
 (g : args.length <= d.ntmps) (h : awpC (spB P f d.ntmps b) c (retC (spB P f d.ntmps b) d r) (Jct args) λ _ => none) : Ev P f args r := by
 simp only [fnB, L00, L0W] at i
 obtain ⟨⟨⟨j, m⟩, o⟩, k⟩ := i
 have k := L0v k; have j := JaS c j
 have h := JbM (S := spB P f d.ntmps b) (λ _ _ _ _ _ s => (show False from s).elim) c (Jq7 d r) h
 exact JpP q p j m o k l g h
def frE (F : Nat -> Bool) (σ : Jac) (E : Env) : Env := λ t => frz (notI F) (inL []) σ (E t)
def frS (F : Nat -> Bool) (σ : Jac) : Jac := λ id => if F id then none else (σ id).map (frzB (notI F) (inL []) σ)
theorem JkB (F : Nat -> Bool) : notI (notI F) = F := by funext i; simp [notI]
theorem Jh9 (ρ : Nat -> Option Nat) : killR (inL []) ρ = ρ := by rw [Jdi]; funext i; simp [killR]
theorem Wit.freeze {S : Sp} {C : Fx} {E : Env} {σ : Jac} {a : Act} {w : World} {ρ : Nat -> Option Nat} {Im : Nat -> Prop} {M : Str} (H : Holds S C) (h : Wit C E σ a w ρ Im M) (F : Nat -> Bool) (X : ∀ id, S.pin id = true -> F id = false) (O : ∀ id, S.old id = true -> F id = false) :
 Wit C (frE F σ E) (frS F σ) a w (killR F ρ) (Seen Im (killR (notI F) ρ)) M := by
 have T : ∀ {c x}, Rep w ρ Im c x -> Rep w (killR F ρ) (Seen Im (killR (notI F) ρ)) (frz (notI F) (inL []) σ c) x := λ {c x} l => by
  have := JlD (L := notI F) (p := inL []) h.inv l
  rwa [JkB, Jh9] at this
 have q : ∀ {id b k}, σ id = some k -> ρ id = some b -> _ := λ {id b k} m l => JiS (L := notI F) (p := inL []) h.inv m l
 simp only [JkB, Jh9] at q
 have new : ∀ id b, F id = true -> ρ id = some b -> C.w0.heap.size <= b := λ id b o d => by
  rcases h.rng id b d with J | J
  . rw [O id (H.fz id b J.1 J.2)] at o; cases o
  . exact J
 refine ⟨⟨λ id k m l => ?_, λ id k b m l P => ?_, λ id k b m l P => ?_, λ i j b u z => h.inv.inj i j b (Jae u).2 (Jae z).2, λ id b l U => ?_, λ id b l f => ?_, λ b d => ?_⟩, λ t y Z => T (h.env t y Z), h.size, h.ext, λ id b d => h.rng id b (Jae d).2, λ b d => ?_, λ p => ?_, ?_, λ b d => .inl (h.js b d), λ b d => ?_, h.rd, h.nodup, h.df, λ b d => ?_, λ id V D => ?_, λ b d => .inl (h.j0 b d)⟩
 . simp only [frS] at m
   split at m
   . cases m
   . rename_i o
     obtain ⟨R, A, rfl⟩ := L0h.1 m
     rw [JaF ρ (by simpa using o)] at l
     have := h.inv.nil id R A l
     simp [frzB, this, AV.namesL]
 . simp only [frS] at m
   split at m
   . cases m
   . obtain ⟨R, A, rfl⟩ := L0h.1 m
     exact (q A (Jae l).2).1 P
 . simp only [frS] at m
   split at m
   . cases m
   . obtain ⟨R, A, rfl⟩ := L0h.1 m
     exact (q A (Jae l).2).2 P
 . obtain ⟨o, l⟩ := Jae l
   simp only [frS, o] at U
   exact h.inv.live id b l (by simpa using U)
 . obtain ⟨o, l⟩ := Jae l
   rcases f with f | ⟨Q, f⟩
   . exact h.inv.apart id b l f
   . obtain ⟨Y, f⟩ := Jae f
     have := h.inv.inj id Q b l f
     subst this
     simp [notI, o] at Y
 . rcases d with d | ⟨id, d⟩
   . exact h.inv.low b d
   . exact h.inv.lt (Jae d).2
 . rcases d with d | ⟨id, d⟩
   . exact h.im b d
   . exact .inr (new id b (by have := (Jae d).1; simpa [notI] using this) (Jae d).2)
 . show AV.namesB p (frz _ _ σ (E C.N)) = false
   unfold frz; rw [if_pos (h.gh _)]; exact h.gh p
 . show C.G (frz _ _ σ (E C.N)) M w
   unfold frz; rw [if_pos (h.gh _)]; exact h.g
 . obtain ⟨u, z, K, W⟩ := h.ms b d
   refine ⟨u, λ id s => z id (Jae s).2, λ f => ?_, W⟩
   rcases f with f | ⟨id, f⟩
   . exact K f
   . exact z id (Jae f).2
 . obtain ⟨u, z, K⟩ := h.bk b d
   refine ⟨λ id s => u id (Jae s).2, λ f => ?_, K⟩
   rcases f with f | ⟨id, f⟩
   . exact z f
   . exact u id (Jae f).2
 . rw [JaF ρ (X id (H.pin id V D))]; exact h.pin id V D
theorem Jh3 {S : Sp} {c : Code} {Q : Exit -> Env -> Jac -> Prop} {E : Env} {σ : Jac} (F : List Nat) (h : semC S c Q (frE (inI F) σ E) (frS (inI F) σ))
 (g : ∀ id, S.pin id = true -> inI F id = false := by intro id b; cases b) (d : ∀ id, S.old id = true -> inI F id = false := by intro id b; cases b) : semC S c Q E σ :=
 λ C H n R f a w ⟨_, _, _, hw⟩ => h C H n R f a w ⟨_, _, _, hw.freeze H (inI F) g d⟩
theorem Jg9 {S : Sp} (s : JcV S) {id : Nat} {ops : Array Oper} {b : Bool} {Q : Exit -> Env -> Jac -> Prop} {E : Env} {σ : Jac} (F : List Nat) (h : regC S b ops (Q .normal) (frE (inI F) σ E) (frS (inI F) σ))
 (u : ∀ id, S.pin id = true -> inI F id = false := by intro id d; cases d) (l : ∀ id, S.old id = true -> inI F id = false := by intro id d; cases d) (j : Jcr S.P S.N JkA (.region id ops b) = true := by kernel_rfl) : semC S (.region id ops b) Q E σ := by
 intro C H n R q a w ⟨A, z, M, y⟩
 have p := y.freeze H (inI F) u l; have c := JaS _ j; simp only [JaX, L00, L0O, L0W, L14, L1F, JkA, L0C, false_or] at c
 have g : ∀ (i : Nat) (o : Oper), ops[i]? = some o -> Oper.fits S.P S.N o = true := λ i o t => L0f.1 c.1 o (L0x.2 (L1I t))
 unfold regC at h; rw [Jcl] at h
 have m := Jb3 (λ _ _ k => JfS s _ 0 (λ _ _ h => h) k) _ _ h
 have f : St C (frE (inI F) σ E) (frS (inI F) σ) a w := ⟨_, _, _, p⟩
 cases b with
 | false =>
  simp only [struck, L0C, if_false] at m
  refine wpIn_region ?_
  have := JcG H g (n := n) (Q := R) (λ E σ a w k f => q .normal E σ a w k f) ops.toList 0 _ _ a w (by simp) m f
  rw [L0z, <- L1H] at this; exact this
 | true => exact Jcj H ops c.1 (by simpa using c.2) n (Q .normal) R _ _ a w (λ E σ a w k f => q .normal E σ a w k f) m f id
attribute [go_sem] Bool.true_eq_false
section
variable (F : Nat -> Bool) (σ : Jac)
@[go_sem] theorem frE_at (E : Env) (t : Nat) : frE F σ E t = frz (notI F) (inL []) σ (E t) := rfl
@[go_sem] theorem frS_at (id : Nat) : frS F σ id = if F id then none else (σ id).map (frzB (notI F) (inL []) σ) := rfl
end
@[go_sem] theorem frz_v (L p : Nat -> Bool) (σ : Jac) (x : Value) : frz L p σ (.v x) = .v x := rfl
@[go_sem] theorem frz_sl (L p : Nat -> Bool) (σ : Jac) (s : Nat) (es : List AV) : frz L p σ (.sl s es) = .sl s es := rfl
@[go_sem] theorem JBM (L p : Nat -> Bool) (σ : Jac) : frz L p σ .any = .any := rfl
@[go_sem] theorem frz_pt (L p : Nat -> Bool) (σ : Jac) (e : AV) (j : Nat) : frz L p σ (.pt e j) = .pt e j := rfl
@[go_sem] theorem JBP (L p : Nat -> Bool) (σ : Jac) (id s i n : Nat) : frz L p σ (.own id s i n) = if AV.namesB (notI L) (.own id s i n) = false then .own id s i n else res (Jao p (Jao L σ)) (((AV.own id s i n).kill L).kill p) := rfl
@[go_sem] theorem JBQ (L p : Nat -> Bool) (σ : Jac) (id s i n : Nat) : frz L p σ (.ptr id s i n) = if AV.namesB (notI L) (.ptr id s i n) = false then .ptr id s i n else res (Jao p (Jao L σ)) (((AV.ptr id s i n).kill L).kill p) := rfl
theorem JcZ {S : Sp} [hY : Plain S] {dst : Option Nat} {op : Op} {ty : TypeId} {K : Env -> Jac -> Prop} {E : Env} {σ : Jac} (F : List Nat) (h : aopC S true true dst op ty K K (frE (inI F) σ E) (frS (inI F) σ))
 (k : (F.all λ i => !S.old i && !S.pin i) = true := by kernel_rfl) (g : (dst.all (decide <| · < S.N) && Op.low S.N op && cls S.P op ty != 9) = true := by kernel_rfl) : semD S dst op ty K E σ := by
 intro m b c C H n a w s Q ⟨t, q, M, p⟩ f
 simp only [L0f, L00, L0W] at k
 have j : ∀ {id}, inI F id = true -> id ∈ F := λ h => L0A.1 h
 have l := p.freeze H (inI F) (λ id d => by
  cases hh : inI F id with
  | false => rfl
  | true => have := (k id (j hh)).2; rw [d] at this; cases this) (λ id d => by
  cases hh : inI F id with
  | false => rfl
  | true => have := (k id (j hh)).1; rw [d] at this; cases this)
 exact JeN H l (o := ⟨dst, op, ty, m, b, c⟩) g true true (λ h => by cases h) (JgR hY.mono (λ _ _ h => h) (λ _ _ h => h) h) (λ _ _ _ _ => f _ _ _ _) (λ _ _ _ _ => f _ _ _ _)
section
variable {S : Sp} {C : Fx} {E : Env} {σ : Jac} {a : Act} {w : World} {ρ : Nat -> Option Nat} {Im : Nat -> Prop} {M : Str}
theorem Rep.mref_inv {id : Nat} {y : Value} (h : Rep w ρ Im (.mref id) y) : ∃ b, y = .map (some b) /\ ρ id = some b := by
 cases h with
 | im _ _ h => cases h
 | mref _ b c => exact ⟨b, rfl, c⟩
theorem JuC {d : Array MapEntry} {c : Nat} (h : Bn d c) (k v : Value) : Bn (d.push { key := k, val := v, born := c }) (c + 1) := by
 refine ⟨?_, λ e f => ?_⟩
 . rw [Array.toList_push, L1c, L25]
   refine ⟨h.1, by simp, λ a g b i => ?_⟩
   obtain ⟨e, f, rfl⟩ := L05.1 g
   have := h.2 e f
   simp at i; omega
 . rw [Array.toList_push, L0t, L0u] at f
   rcases f with f | rfl
   . have := h.2 e f; omega
   . show c < c + 1; omega
theorem Jpp {b : Array MapEntry} {c : Nat} (h : Bn b c) (j : Nat) (k v : Value) : Bn (b.modify j λ e => { e with key := k, val := v }) c := by
 have e : (b.modify j λ e => { e with key := k, val := v }).toList.map (·.born) = b.toList.map (·.born) := by
  refine L2b λ i => ?_
  rw [L07, L07, L0P, L0P, L1C]
  split
  . rename_i l; subst l; cases b[j]? <;> rfl
  . rfl
 refine ⟨by rw [e]; exact h.1, λ m d => ?_⟩
 have d : m.born ∈ b.toList.map (·.born) := by rw [<- e]; exact L05.2 ⟨m, d, rfl⟩
 obtain ⟨o, f, p⟩ := L05.1 d
 have := h.2 o f
 omega
theorem Wit.newMap (o : JaQ C.G) (h : Wit C E σ a w ρ Im M) {d : Nat} (j : C.pin d = none) (c : Jbh d E σ) (t : TypeId) {dst : Option Nat} (p : ∀ d, dst = some d -> d < C.N) :
 Wit C (updO E dst (.mref d)) (updS σ d ⟨t, 0, []⟩) (a.put dst (.map (some w.heap.size))) (w.alloc (.map #[] 0)) (updR ρ d (some w.heap.size)) Im M := by
 have k : ∀ i, i < w.heap.size -> (w.alloc (.map #[] 0)).heap[i]? = w.heap[i]? := λ i g => Below.heap_alloc w _ i g
 refine h.step o (Ext.alloc _ _ _) ?_ ((h.env.later h.inv k c.2.1).put (.mref d _ (Jce ..))) (JbR ..) (Jbb ..) (JdX p) (λ id b f => ?_) (λ _ g => .inl g) (Jje h j) (λ _ h => h)
 . refine h.inv.fresh (by simp) k c.1 c.2.2 (λ _ h => h) (λ _ h => .inl h) ⟨L09 _, by simp, λ _ => ⟨#[], 0, World.alloc_heap_new w _, ⟨rfl, List.nodup_nil, λ _ h => (by cases h)⟩, λ i m q => by simp at q⟩, λ l => absurd rfl l⟩
 . by_cases e : id = d
   . subst e; simp at f; exact .inr (by omega)
   . rw [JaJ _ _ _ _ e] at f; exact .inl f
theorem Wit.turnMap (hG : JaQ C.G) (h : Wit C E σ a w ρ Im M) {id b : Nat} {k k' : Blk} {N d : Array MapEntry} {S l : Nat} (hk : σ id = some k) (s : ρ id = some b) (hb : w.heap[b]? = some (.map N S)) (X : k'.sz = 0)
 (hl : k'.es.length = d.size /\ Bn d l) (hf : ∀ (i : Nat) (m : MapEntry), d[i]? = some m -> ∃ v, k'.es[i]? = some (.tup [.v m.key, v]) /\ Rep w ρ Im v m.val) :
 Wit C E (updS σ id k') a { w with heap := w.heap.setIfInBounds b (.map d l) } ρ Im M := by
 obtain ⟨O, p⟩ := MapKept.heap_set (o' := Obj.map d l) hb
 have z : ∀ {v : AV} {y : Value}, Rep w ρ Im v y -> Rep { w with heap := w.heap.setIfInBounds b (.map d l) } ρ Im v y := λ {v y} g =>
  Rep.mono (w := w) (w' := { w with heap := w.heap.setIfInBounds b (.map d l) }) (λ _ h => h) (λ q hI => p q (λ e => h.inv.apart id b s (e ▸ hI))) g λ i _ => ⟨rfl, λ q Q u e2 o => by
   by_cases e : q = b
   . subst e; obtain ⟨_, o, _⟩ := o; rw [hb] at o; cases o
   . exact ⟨u, by rw [p q e]; exact o, rfl⟩⟩
 refine h.step hG ⟨rfl, rfl, rfl, by simp, λ q _ Q => p q (λ e => Q ⟨id, by rw [e]; exact s⟩)⟩ ?_ (λ t y hy => z (h.env t y hy)) rfl rfl rfl (λ i _ W => .inl W) (λ _ W => .inl W) h.pin (λ _ h => h)
 refine ⟨λ i P f g => ?_, λ i P q f g R => ?_, λ i P q f g R => ?_, h.inv.inj, λ i q g K => ?_, h.inv.apart, λ q Q => ?_⟩
 . by_cases e : i = id
   . subst e; rw [s] at g; cases g
   . rw [JaI _ _ _ _ e] at f; exact h.inv.nil i P f g
 . by_cases e : i = id
   . subst e; simp at f; subst f
     rw [s] at g; cases g
     exact ⟨d, l, O, hl, λ i m Y => by obtain ⟨v, hv, g⟩ := hf i m Y; exact ⟨v, hv, z g⟩⟩
   . rw [JaI _ _ _ _ e] at f
     obtain ⟨D, L, F, H, o⟩ := h.inv.map i P q f g R
     have J : q ≠ b := λ T => e (h.inv.inj i id b (T ▸ g) s)
     exact ⟨D, L, by rw [p q J]; exact F, H, λ i m Y => by obtain ⟨v, hv, g⟩ := o i m Y; exact ⟨v, hv, z g⟩⟩
 . by_cases e : i = id
   . subst e; simp at f; subst f; exact absurd X R
   . rw [JaI _ _ _ _ e] at f
     obtain ⟨u, F, H, Z, o⟩ := h.inv.blk i P q f g R
     have J : q ≠ b := λ T => e (h.inv.inj i id b (T ▸ g) s)
     exact ⟨u, by rw [p q J]; exact F, H, Z, λ i e j c V U => by obtain ⟨x, hx, h1, g⟩ := o i e j c V U; exact ⟨x, hx, h1, z g⟩⟩
 . by_cases e : i = id
   . subst e; simp at K
   . rw [JaI _ _ _ _ e] at K; exact h.inv.live i q g K
 . have := h.inv.low q Q; simpa using this
end
theorem Jog {S : Sp} {d : Nat} {t ty : TypeId} {K : Env -> Jac -> Prop} {E : Env} {σ : Jac} (h : K (upd (JaU (own (S.b + d)) E) d (.mref (16 * (S.b + d)))) (updS (Jao (own (S.b + d)) σ) (16 * (S.b + d)) ⟨t, 0, []⟩))
 (k : (Nat.blt d S.N && Nat.blt d 100000) = true := by kernel_rfl) : semD S (some d) (.makeMap t none) ty K E σ := by
 intro q f g C H n a w y Q ⟨A, u, M, p⟩ i
 simp only [L00] at k
 have l : d < S.N := L0v k.1
 have c : d < 100000 := L0v k.2
 obtain ⟨s, m, j⟩ := Ji0 H p true (S.b + d) (H.own c) (λ e => by cases e)
 have o := m.newMap H.G (by simpa using H.free c 0 (by omega)) (by simpa using j 0 (by omega)) t (dst := some d) (λ z e => by cases e; rw [<- H.N]; exact l)
 refine JaN (λ _ e => by cases e) ?_ (i _ _ _ _ h ⟨_, _, _, o⟩)
 simp only [execOp, Instr.makeMap, L2f, Sem.run_bind, Sem.run_pure, Result.andThen_ok, run_newObj_alloc]
section
variable {S : Sp} {kd bi : Bool} {dst : Option Nat} {ty t : TypeId} {K Kb : Env -> Jac -> Prop} {E : Env} {σ : Jac}
@[go_sem ↓] theorem Jwa (x y : Operand) (c : Bool) : aopC S kd bi dst (.lookup t x y c) ty K Kb E σ = semD S dst (.lookup t x y c) ty Kb E σ := rfl
@[go_sem ↓] theorem Jr4 (x y v : Operand) : aopC S kd bi dst (.mapUpdate t x y v) ty K Kb E σ = semD S dst (.mapUpdate t x y v) ty Kb E σ := rfl
@[go_sem ↓] theorem Juv (r : Option Operand) : aopC S kd bi dst (.makeMap t r) ty K Kb E σ = semD S dst (.makeMap t r) ty Kb E σ := rfl
@[go_sem] theorem JCb (id : Nat) : (AV.mref id).ok = true := rfl
@[go_sem] theorem Jx4 (b : Nat -> Bool) (id : Nat) : fade b (.mref id) = if b id = true then .mref id else .any := by
 unfold fade; simp only [AV.kill, AV.namesB, AV.dk]; by_cases h : b id = true <;> simp [h, AV.ownB]
@[go_sem] theorem Jz8 (q k : Nat -> Bool) (l : List Int) : AV.fdL q k (l.map I) = l.map I := AV.fdL_free q k _ (Jhn allB l)
@[go_sem] theorem Jym (p : Nat -> Bool) (id : Nat) : AV.kill p (.mref id) = if p id = true then .any else .mref id := by
 simp only [AV.kill, AV.namesB, AV.dk]; by_cases h : p id = true <;> simp [h]
@[go_sem] theorem JAg (L p : Nat -> Bool) (σ : Jac) (id : Nat) : frz L p σ (.mref id) = if AV.namesB (notI L) (.mref id) = false then .mref id else res (Jao p (Jao L σ)) (((AV.mref id).kill L).kill p) := rfl
@[go_sem] theorem JAe (L p : Nat -> Bool) (σ : Jac) (id s i n : Nat) : frzE L p σ (.own id s i n) = frz L p σ (.own id s i n) := rfl
@[go_sem] theorem JAf (L p : Nat -> Bool) (σ : Jac) (id s i n : Nat) : frzE L p σ (.ptr id s i n) = frz L p σ (.ptr id s i n) := rfl
@[go_sem] theorem Jyd (L p : Nat -> Bool) (σ : Jac) (id : Nat) : frzE L p σ (.mref id) = frz L p σ (.mref id) := rfl
@[go_sem] theorem frzE_v (L p : Nat -> Bool) (σ : Jac) (x : Value) : frzE L p σ (.v x) = .v x := rfl
@[go_sem] theorem JBK (L p : Nat -> Bool) (σ : Jac) (s : Nat) (es : List AV) : frzE L p σ (.sl s es) = .sl s es := rfl
@[go_sem] theorem JBJ (L p : Nat -> Bool) (σ : Jac) (e : AV) (j : Nat) : frzE L p σ (.pt e j) = .pt e j := rfl
@[go_sem] theorem JAc (L p : Nat -> Bool) (σ : Jac) (cs : List AV) : frzE L p σ (.agg cs) = .agg (cs.map (frz L p σ)) := rfl
attribute [go_sem] AV.cells_mref AV.cells_mp
end
def slR1 : AV -> AV
 | .new _ c b => .sl c b
 | .nptr _ _ [x] => .pt x 0
 | r => r
def slR : AV -> AV
 | .tup b => .tup (b.map slR1)
 | .clo g b => .clo g (b.map slR1)
 | r => slR1 r
theorem Jga {w : World} {Im : Nat -> Prop} {e sz b : Nat} {es : List AV} (h : JbV w Im e sz es b) : ∃ f : Nat -> Nat -> Value,
 (∀ i j, i < es.length -> j < sz -> w.cell? ⟨b, 0 + i * sz + j, none⟩ = some (f i j) /\ (f i j).oneCell' = true) /\ ∀ (i : Nat) (x : AV) (j : Nat) (c : AV), es[i]? = some x -> x.cells[j]? = some c -> IRep w Im c (f i j) := by
 obtain ⟨k, p, q, z, o⟩ := h
 refine ⟨λ i j => (k[i * sz + j]?).getD undef, λ i j u y => ?_, λ i x j c d l => ?_⟩
 . cases d : es[i]? with
   | none => rw [L1X] at d; omega
   | some x =>
    have t := q x (L02 d)
    cases hcj : x.cells[j]? with
    | none => rw [L1X] at hcj; omega
    | some c =>
     obtain ⟨v, g, m, _⟩ := o i x j c d hcj
     simp only []; rw [L0p, g]
     refine ⟨?_, m⟩
     rw [Jbs p]; simp only [Option.getD_some]
     exact g
 . obtain ⟨v, g, m, s⟩ := o i x j c d l
   simp only []
   rw [g]; exact s
theorem R1.tree {w : World} {Im g : Nat -> Prop} {r : AV} {y : Value} {t : Option Nat} (h : R1 w Im r y t) (p : ∀ b, Im b -> g b) (s : ∀ b, t = some b -> g b) (q : ∀ e sz es, r = .nptr e sz es -> ∃ x, es = [x]) : R1 w g (slR1 r) y none := by
 cases r with
 | new e sz es =>
  rcases h with ⟨_, rfl, rfl⟩ | ⟨b, k, A, rfl, rfl, j, _, _, d⟩
  . exact ⟨rfl, .slnil ..⟩
  . refine ⟨rfl, ?_⟩
    obtain ⟨f, m, o⟩ := Jga (d.mono p)
    cases es with
    | nil => exact .slnil ..
    | cons u l => exact .sl sz (u :: l) b 0 k f (s b rfl) j d.choose_spec.2.1 m o
 | nptr e sz es =>
  obtain ⟨x, rfl⟩ := q e sz es rfl
  obtain ⟨b, A, rfl, rfl, d⟩ := h
  refine ⟨rfl, ?_⟩
  have D : x.cells.length = sz := d.choose_spec.2.1 x (by simp)
  obtain ⟨f, m, o⟩ := Jga (d.mono p)
  refine .pt x 0 b 0 (f 0) (s b rfl) (λ i C => ?_) λ i c z => o 0 x i c rfl z
  have := m 0 i (by simp) (by omega)
  simpa using this
 | _ => exact ⟨rfl, h.2.mono p (λ _ _ => rfl)⟩
theorem RL.tree {w : World} {Im d : Nat -> Prop} (j : ∀ b, Im b -> d b) : ∀ {g : List AV} {ys : List Value} {c : List (Option Nat)}, RL w Im g ys c -> (∀ b, some b ∈ c -> d b) -> (∀ e sz es, AV.nptr e sz es ∈ g -> ∃ x, es = [x]) ->
 RL w d (g.map slR1) ys (c.map λ _ => none)
 | [], [], [], _, _, _ => trivial
 | r :: g, _ :: _, m :: c, h, k, l => ⟨h.1.tree j (λ b f => k b (by simp [f])) λ e sz es i => l e sz es (by simp [i]), RL.tree j h.2 (λ b f => k b (by simp [f])) λ e sz es i => l e sz es (by simp [i])⟩
theorem JfA {lo : Nat} {Im : Nat -> Prop} (c : List (Option Nat)) : JdC lo Im (c.map λ _ => none) := by
 refine ⟨λ b d => (by simp at d), ?_⟩
 induction c with
 | nil => exact .nil
 | cons o c f => exact .cons (λ a _ => .inl rfl) f
def Jhs : AV -> Bool
 | .nptr _ _ b => b.length == 1
 | _ => true
def Jvy : AV -> Bool
 | .tup b => b.all Jhs
 | .clo _ b => b.all Jhs
 | r => Jhs r
theorem Jfa {e sz : Nat} {es : List AV} (h : Jhs (.nptr e sz es) = true) : ∃ x, es = [x] := by
 simp only [Jhs, beq_iff_eq] at h
 match es, h with
 | [x], _ => exact ⟨x, rfl⟩
theorem JtE {w : World} {Im : Nat -> Prop} {r : AV} {y : Value} {b : Nat} (h : R1 w Im r y (some b)) : b < w.heap.size := by
 cases r with
 | new e k j =>
  rcases h with h | ⟨b, i, _, d, _, _, _, ⟨c, f, _⟩, _⟩
  . cases h.1
  . cases d; exact JiK f
 | nptr e k j =>
  obtain ⟨b, _, d, _, g⟩ := h
  cases d
  obtain ⟨c, f, _⟩ := g
  exact JiK f
 | _ => cases h.1
theorem JoU {w : World} {Im : Nat -> Prop} : ∀ {rs : List AV} {ys : List Value} {obs : List (Option Nat)}, RL w Im rs ys obs -> ∀ b, some b ∈ obs -> b < w.heap.size
 | [], [], [], _, b, hb => by simp at hb
 | r :: rs, _ :: _, ob :: obs, h, b, hb => by
  rcases L0q.1 hb with rfl | hb
  . exact JtE h.1
  . exact JoU h.2 b hb
theorem RRep.tree {w w' : World} {Im : Nat -> Prop} {r : AV} {y : Value} (h : RRep w w' Im r y) (l : Jvy r = true) : RRep w w' Im (slR r) y := by
 obtain ⟨i, A, C, m⟩ := h
 have s : ∀ d : List (Option Nat), JdC w.heap.size i d -> (∀ b, some b ∈ d -> b < w'.heap.size) -> ∀ b, (i b \/ some b ∈ d) -> Im b \/ (w.heap.size <= b /\ b < w'.heap.size) := λ d o p b c => by
  rcases c with c | c
  . exact C b c
  . exact .inr ⟨(o.1 b c).1, p b c⟩
 have f : ∀ {r : AV}, (∃ k, R1 w' i r y k /\ JdC w.heap.size i [k]) -> Jhs r = true -> ∃ j : Nat -> Prop, (∀ b, Im b -> j b) /\ (∀ b, j b -> Im b \/ (w.heap.size <= b /\ b < w'.heap.size)) /\ ∃ k, R1 w' j (slR1 r) y k /\ JdC w.heap.size j [k] := by
  rintro r ⟨k, m, o⟩ l
  refine ⟨λ b => i b \/ some b ∈ [k], λ b c => .inl (A b c), s [k] o λ b c => ?_, none, m.tree (λ b c => .inl c) (λ b c => .inr (by simp [c])) (λ e t z u => by subst u; exact Jfa l), JfA [k]⟩
  simp at c; subst c; exact JtE m
 cases r with
 | tup D =>
  obtain ⟨ys, d, rfl, p, o⟩ := m; have q := L0f.1 l
  exact ⟨λ b => i b \/ some b ∈ d, λ b c => .inl (A b c), s d o (JoU p), ys, _, rfl, p.tree (λ b c => .inl c) (λ b c => .inr c) (λ e t z u => Jfa (q _ u)), JfA d⟩
 | clo g D =>
  obtain ⟨ys, d, rfl, p, o⟩ := m; have q := L0f.1 l
  exact ⟨λ b => i b \/ some b ∈ d, λ b c => .inl (A b c), s d o (JoU p), ys, _, rfl, p.tree (λ b c => .inl c) (λ b c => .inr c) (λ e t z u => Jfa (q _ u)), JfA d⟩
 | new e t z => exact f m l
 | nptr e t z =>
  obtain ⟨x, rfl⟩ := Jfa (e := e) (sz := t) l
  exact f m l
 | _ => exact f m l
theorem Jch {P : Program} {f : FuncId} {args : List AV} {r : AV} (h : Ev P f args r) (g : AV) (l : Jvy r = true := by first | rfl | simp [Jvy, Jhs]) (c : slR r = g := by first | rfl | simp [slR, slR1]) : Ev P f args g := by
 subst c
 rintro o p ⟨rfl, rfl⟩
 obtain ⟨j, k⟩ := h o r ⟨rfl, rfl⟩
 exact ⟨j, λ w i vs b d m => (k w i vs b d m).mono λ e q ⟨y, c, hx, hr⟩ => ⟨y, c, hx, hr.tree l⟩⟩
end Go.Vai

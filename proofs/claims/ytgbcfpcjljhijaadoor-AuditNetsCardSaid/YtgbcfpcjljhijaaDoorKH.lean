/- The document's texts -/
import Derived.Test.YtgbcfpcjljhijaaDoorKG
set_option linter.unusedVariables false
set_option linter.unusedSimpArgs false
set_option maxRecDepth 100000
namespace Go.Proofs.YtgbcfpcjljhijaaDoor
open Go.Vai Go Go.Proofs
open Nat (reduceEqDiff reduceMul reduceAdd reduceDiv reduceLeDiff)
open Int (reduceToNat reduceNe reduceEq reduceLT reduceLE)
end Go.Proofs.YtgbcfpcjljhijaaDoor
set_option maxRecDepth 100000
namespace Go.Proofs.YtgbcfpcjljhijaaDoor
open Go.Vai Go Go.Proofs
open Nat (reduceEqDiff reduceMul reduceAdd reduceDiv reduceLeDiff)
open Int (reduceToNat reduceNe reduceEq reduceLT reduceLE)
end Go.Proofs.YtgbcfpcjljhijaaDoor
set_option maxRecDepth 100000
namespace Go.Proofs.YtgbcfpcjljhijaaDoor
open Go.Vai Go Go.Proofs
open Nat (reduceEqDiff reduceMul reduceAdd reduceDiv reduceLeDiff)
open Int (reduceToNat reduceNe reduceEq reduceLT reduceLE)
section
variable (p : Nat → Bool) (l : List ByteArray)
@[go_sem] theorem namesL_Str : AV.namesL p (l.map Str) = false := namesL_map p l Str fun _ => rfl
@[go_sem] theorem flatL_Str : AV.flatL (l.map Str) = true := flatL_map l Str fun _ => rfl
@[go_sem] theorem allOK_Str : allOK 1 (l.map Str) = true := allOK_map 1 l Str fun _ => ⟨rfl, rfl⟩
@[go_sem] theorem append_Str (x : ByteArray) : l.map Str ++ [.v (.string x)] = (l ++ [x]).map Str := by simp
end
end Go.Proofs.YtgbcfpcjljhijaaDoor
set_option maxRecDepth 100000
namespace Go.Proofs.YtgbcfpcjljhijaaDoor
open Go.Vai Go Go.Proofs
open Nat (reduceEqDiff reduceMul reduceAdd reduceDiv reduceLeDiff)
open Int (reduceToNat reduceNe reduceEq reduceLT reduceLE)
@[go_sem] theorem namesL_RPL (p : Nat → Bool) (l : List (List Tot)) : AV.namesL p (l.map RPL) = false := namesL_map p l RPL fun _ => rfl
@[go_sem] theorem allOK_RPL (l : List (List Tot)) : allOK 1 (l.map RPL) = true := allOK_map 1 l RPL fun _ => ⟨rfl, rfl⟩
@[go_sem] theorem append_RPL (l : List (List Tot)) (r : List Tot) : l.map RPL ++ [.sl 2 (r.map RP)] = (l ++ [r]).map RPL := by simp
end Go.Proofs.YtgbcfpcjljhijaaDoor
set_option maxRecDepth 100000
namespace Go.Proofs.YtgbcfpcjljhijaaDoor
open Go.Vai Go Go.Proofs
open Nat (reduceEqDiff reduceMul reduceAdd reduceDiv reduceLeDiff)
open Int (reduceToNat reduceNe reduceEq reduceLT reduceLE)
end Go.Proofs.YtgbcfpcjljhijaaDoor
set_option maxRecDepth 100000
namespace Go.Proofs.YtgbcfpcjljhijaaDoor
open Go.Vai Go Go.Proofs
open Nat (reduceEqDiff reduceMul reduceAdd reduceDiv reduceLeDiff)
open Int (reduceToNat reduceNe reduceEq reduceLT reduceLE)
end Go.Proofs.YtgbcfpcjljhijaaDoor
set_option maxRecDepth 100000
namespace Go.Proofs.YtgbcfpcjljhijaaDoor
open Go.Vai Go Go.Proofs
open Nat (reduceEqDiff reduceMul reduceAdd reduceDiv reduceLeDiff)
open Int (reduceToNat reduceNe reduceEq reduceLT reduceLE)
end Go.Proofs.YtgbcfpcjljhijaaDoor

/-
  No cell of these rows narrows 'for every input' (looked for: loops, veiled, ifaces, maps, wideKeys, modest, calm, conditions, laid).
  DERIVED. THE GIVEN ROWS OF THIS SEAT. 8 by the template 'for every input the law returns true; each argument reads behind the call as it read before'; 0 by the template 'total and deterministic' (their statements: YtjbgckjcbmmobaaTotals.lean).
  GIVEN WITH THE SEED: the statements are not yours to turn. If you find one false, say at which input.
  Laid BY PROGRAM, IN A SANDBOX (cutbox-rows.mjs): the forced cells as the released guide's own fill.sh prints them over the translation ed4da57795101e18… (all of the seat's roots in one cut). By AI agents, Wed Nov 11 2026. No macro, syntax, notation, axiom, sorry.
-/
import Derived.Test.YtjbgckjcbmmobaaChecked
import GoSem.Claim
import GoSem.ClaimJoined
import GoSem.ClaimMapViews
import Derived.JoinedTies
import Derived.KernelRfl
namespace Go.Proofs.Ytjbgckjcbmmobaa
/- THE CELL 'sum', in the pinned program and in every row, IS THE sha256 OF THE DUMP (.gsa) THAT YtjbgckjcbmmobaaProg.lean LOADS. Nothing in Lean hashes anything: it is a label: what it is worth is what the hold of that sum in a sandbox is worth. -/
noncomputable def Try.pinned : Pinned := { name := "ytjbgckjcbmmobaa", sum := "ed4da57795101e189f975b8dfc83b2fd89881c8e4567730cc15f489dcc57b119", checked := Try.checked }
namespace Rows
def none {H : Type} : Left H := { results := [], args := [] }

/-- 'dialtonelaw39.NettingMatchesReference': WHATEVER THE INPUT: true; the input reads as it did. -/
def nettingMatchesReferenceSpec : ChangeSpec := { name := "nettingMatchesReference", fn := fun _ => fun
  | [d1, d2, d3, d4, d5] => { results := [.lit (.bool true)], args := [d1, d2, d3, d4, d5] }
  | _ => none }
def nettingMatchesReferenceRow : OpenClaim := { program := "ytjbgckjcbmmobaa", sum := "ed4da57795101e189f975b8dfc83b2fd89881c8e4567730cc15f489dcc57b119", func := "dialtone/dialtonelaw39.NettingMatchesReference", spec := "nettingMatchesReference", unfollowed := true, recurses := true, apart := false }
def NettingMatchesReferenceSaid : Prop := nettingMatchesReferenceRow.holds Try.pinned (OpenSpec.ofChange nettingMatchesReferenceSpec)

/-- ITS FALSE NEIGHBOUR: 'it returns false'. Refute it at one input. -/
def nettingMatchesReferenceWrong : ChangeSpec := { name := "nettingMatchesReference", fn := fun _ => fun
  | [d1, d2, d3, d4, d5] => { results := [.lit (.bool false)], args := [d1, d2, d3, d4, d5] }
  | _ => none }
def NettingMatchesReferenceWrongFalsely : Prop := nettingMatchesReferenceRow.holds Try.pinned (OpenSpec.ofChange nettingMatchesReferenceWrong)

/-- 'dialtonelaw39.NettingConserves': WHATEVER THE INPUT: true; the input reads as it did. -/
def nettingConservesSpec : ChangeSpec := { name := "nettingConserves", fn := fun _ => fun
  | [d] => { results := [.lit (.bool true)], args := [d] }
  | _ => none }
def nettingConservesRow : OpenClaim := { program := "ytjbgckjcbmmobaa", sum := "ed4da57795101e189f975b8dfc83b2fd89881c8e4567730cc15f489dcc57b119", func := "dialtone/dialtonelaw39.NettingConserves", spec := "nettingConserves", unfollowed := true, recurses := true, apart := false }
def NettingConservesSaid : Prop := nettingConservesRow.holds Try.pinned (OpenSpec.ofChange nettingConservesSpec)

/-- ITS FALSE NEIGHBOUR: 'it returns false'. Refute it at one input. -/
def nettingConservesWrong : ChangeSpec := { name := "nettingConserves", fn := fun _ => fun
  | [d] => { results := [.lit (.bool false)], args := [d] }
  | _ => none }
def NettingConservesWrongFalsely : Prop := nettingConservesRow.holds Try.pinned (OpenSpec.ofChange nettingConservesWrong)

/-- 'dialtonelaw39.NettingSettles': WHATEVER THE INPUT: true; the input reads as it did. -/
def nettingSettlesSpec : ChangeSpec := { name := "nettingSettles", fn := fun _ => fun
  | [d] => { results := [.lit (.bool true)], args := [d] }
  | _ => none }
def nettingSettlesRow : OpenClaim := { program := "ytjbgckjcbmmobaa", sum := "ed4da57795101e189f975b8dfc83b2fd89881c8e4567730cc15f489dcc57b119", func := "dialtone/dialtonelaw39.NettingSettles", spec := "nettingSettles", unfollowed := true, recurses := true, apart := false }
def NettingSettlesSaid : Prop := nettingSettlesRow.holds Try.pinned (OpenSpec.ofChange nettingSettlesSpec)

/-- ITS FALSE NEIGHBOUR: 'it returns false'. Refute it at one input. -/
def nettingSettlesWrong : ChangeSpec := { name := "nettingSettles", fn := fun _ => fun
  | [d] => { results := [.lit (.bool false)], args := [d] }
  | _ => none }
def NettingSettlesWrongFalsely : Prop := nettingSettlesRow.holds Try.pinned (OpenSpec.ofChange nettingSettlesWrong)

/-- 'dialtonelaw39.NettingFewest': WHATEVER THE INPUT: true; the input reads as it did. -/
def nettingFewestSpec : ChangeSpec := { name := "nettingFewest", fn := fun _ => fun
  | [d1, d2] => { results := [.lit (.bool true)], args := [d1, d2] }
  | _ => none }
def nettingFewestRow : OpenClaim := { program := "ytjbgckjcbmmobaa", sum := "ed4da57795101e189f975b8dfc83b2fd89881c8e4567730cc15f489dcc57b119", func := "dialtone/dialtonelaw39.NettingFewest", spec := "nettingFewest", unfollowed := true, recurses := true, apart := false }
def NettingFewestSaid : Prop := nettingFewestRow.holds Try.pinned (OpenSpec.ofChange nettingFewestSpec)

/-- ITS FALSE NEIGHBOUR: 'it returns false'. Refute it at one input. -/
def nettingFewestWrong : ChangeSpec := { name := "nettingFewest", fn := fun _ => fun
  | [d1, d2] => { results := [.lit (.bool false)], args := [d1, d2] }
  | _ => none }
def NettingFewestWrongFalsely : Prop := nettingFewestRow.holds Try.pinned (OpenSpec.ofChange nettingFewestWrong)

/-- 'dialtonelaw39.NettingGroups': WHATEVER THE INPUT: true; the input reads as it did. -/
def nettingGroupsSpec : ChangeSpec := { name := "nettingGroups", fn := fun _ => fun
  | [d1, d2] => { results := [.lit (.bool true)], args := [d1, d2] }
  | _ => none }
def nettingGroupsRow : OpenClaim := { program := "ytjbgckjcbmmobaa", sum := "ed4da57795101e189f975b8dfc83b2fd89881c8e4567730cc15f489dcc57b119", func := "dialtone/dialtonelaw39.NettingGroups", spec := "nettingGroups", unfollowed := true, recurses := true, apart := false }
def NettingGroupsSaid : Prop := nettingGroupsRow.holds Try.pinned (OpenSpec.ofChange nettingGroupsSpec)

/-- ITS FALSE NEIGHBOUR: 'it returns false'. Refute it at one input. -/
def nettingGroupsWrong : ChangeSpec := { name := "nettingGroups", fn := fun _ => fun
  | [d1, d2] => { results := [.lit (.bool false)], args := [d1, d2] }
  | _ => none }
def NettingGroupsWrongFalsely : Prop := nettingGroupsRow.holds Try.pinned (OpenSpec.ofChange nettingGroupsWrong)

/-- 'dialtonelaw39.NettingAround': WHATEVER THE INPUT: true; the input reads as it did. -/
def nettingAroundSpec : ChangeSpec := { name := "nettingAround", fn := fun _ => fun
  | [d] => { results := [.lit (.bool true)], args := [d] }
  | _ => none }
def nettingAroundRow : OpenClaim := { program := "ytjbgckjcbmmobaa", sum := "ed4da57795101e189f975b8dfc83b2fd89881c8e4567730cc15f489dcc57b119", func := "dialtone/dialtonelaw39.NettingAround", spec := "nettingAround", unfollowed := true, recurses := true, apart := false }
def NettingAroundSaid : Prop := nettingAroundRow.holds Try.pinned (OpenSpec.ofChange nettingAroundSpec)

/-- ITS FALSE NEIGHBOUR: 'it returns false'. Refute it at one input. -/
def nettingAroundWrong : ChangeSpec := { name := "nettingAround", fn := fun _ => fun
  | [d] => { results := [.lit (.bool false)], args := [d] }
  | _ => none }
def NettingAroundWrongFalsely : Prop := nettingAroundRow.holds Try.pinned (OpenSpec.ofChange nettingAroundWrong)

/-- 'dialtonelaw39.NettingOrder': WHATEVER THE INPUT: true; the input reads as it did. -/
def nettingOrderSpec : ChangeSpec := { name := "nettingOrder", fn := fun _ => fun
  | [d1, d2, d3] => { results := [.lit (.bool true)], args := [d1, d2, d3] }
  | _ => none }
def nettingOrderRow : OpenClaim := { program := "ytjbgckjcbmmobaa", sum := "ed4da57795101e189f975b8dfc83b2fd89881c8e4567730cc15f489dcc57b119", func := "dialtone/dialtonelaw39.NettingOrder", spec := "nettingOrder", unfollowed := true, recurses := true, apart := false }
def NettingOrderSaid : Prop := nettingOrderRow.holds Try.pinned (OpenSpec.ofChange nettingOrderSpec)

/-- ITS FALSE NEIGHBOUR: 'it returns false'. Refute it at one input. -/
def nettingOrderWrong : ChangeSpec := { name := "nettingOrder", fn := fun _ => fun
  | [d1, d2, d3] => { results := [.lit (.bool false)], args := [d1, d2, d3] }
  | _ => none }
def NettingOrderWrongFalsely : Prop := nettingOrderRow.holds Try.pinned (OpenSpec.ofChange nettingOrderWrong)

/-- 'dialtonelaw39.NettingNames': WHATEVER THE INPUT: true; the input reads as it did. -/
def nettingNamesSpec : ChangeSpec := { name := "nettingNames", fn := fun _ => fun
  | [d1, d2, d3, d4, d5] => { results := [.lit (.bool true)], args := [d1, d2, d3, d4, d5] }
  | _ => none }
def nettingNamesRow : OpenClaim := { program := "ytjbgckjcbmmobaa", sum := "ed4da57795101e189f975b8dfc83b2fd89881c8e4567730cc15f489dcc57b119", func := "dialtone/dialtonelaw39.NettingNames", spec := "nettingNames", unfollowed := true, recurses := true, apart := false }
def NettingNamesSaid : Prop := nettingNamesRow.holds Try.pinned (OpenSpec.ofChange nettingNamesSpec)

/-- ITS FALSE NEIGHBOUR: 'it returns false'. Refute it at one input. -/
def nettingNamesWrong : ChangeSpec := { name := "nettingNames", fn := fun _ => fun
  | [d1, d2, d3, d4, d5] => { results := [.lit (.bool false)], args := [d1, d2, d3, d4, d5] }
  | _ => none }
def NettingNamesWrongFalsely : Prop := nettingNamesRow.holds Try.pinned (OpenSpec.ofChange nettingNamesWrong)

/- THE SECOND FORM. 'bulk': how many values and letters a reading holds, each counted each time it is reached (what is shared counts as often as it is met; a slice's spare places count too). A statement '..UptoSaid' is the law's where the arguments, and the package variables that the reading takes, are together of bulk at most 1048576: NARROWER than '..Said'. Prove '..Said' where nothing that the law and all that it calls make is longer than what came in: it says more and counts as full. Else prove '..UptoSaid'. A law counts once. -/
mutual
def uptoBulk {H : Type} : DataW H → Nat
  | .lit (.string bytes) => bytes.length + 1
  | .lit _ => 1
  | .nil => 1
  | .ptr d => uptoBulk d + 1
  | .slice elems spare => uptoBulkAll elems + uptoBulkAll spare + 1
  | .agg parts => uptoBulkAll parts + 1
  | .iface _ d => uptoBulk d + 1
  | .map entries => uptoBulkEntries entries + 1
  | .held _ => 1
def uptoBulkAll {H : Type} : List (DataW H) → Nat
  | [] => 0
  | d :: r => uptoBulk d + uptoBulkAll r
def uptoBulkEntries {H : Type} : List (Lit × DataW H) → Nat
  | [] => 0
  | x :: r => uptoBulkEntry x + uptoBulkEntries r
def uptoBulkEntry {H : Type} : Lit × DataW H → Nat
  | (.string bytes, d) => bytes.length + uptoBulk d + 1
  | (_, d) => uptoBulk d + 1
 end
def uptoSmall : (H : Type) → List (DataW H) → Bool := fun _ ds => decide (uptoBulkAll ds ≤ 1048576)
def OpenSpec.upto (s : _root_.Go.ChangeSpec) : _root_.Go.OpenSpec := { _root_.Go.OpenSpec.ofChange s with cond := some uptoSmall }

/-- 'dialtonelaw39.NettingMatchesReference', WHERE WHAT IT READS IS OF BULK AT MOST 1048576: true; the input reads as it did. -/
def nettingMatchesReferenceUptoRow : OpenClaim := { program := "ytjbgckjcbmmobaa", sum := "ed4da57795101e189f975b8dfc83b2fd89881c8e4567730cc15f489dcc57b119", func := "dialtone/dialtonelaw39.NettingMatchesReference", spec := "nettingMatchesReference", unfollowed := true, recurses := true, apart := false, narrowed := true }
def NettingMatchesReferenceUptoSaid : Prop := nettingMatchesReferenceUptoRow.holds Try.pinned (OpenSpec.upto nettingMatchesReferenceSpec)

/-- 'dialtonelaw39.NettingConserves', WHERE WHAT IT READS IS OF BULK AT MOST 1048576: true; the input reads as it did. -/
def nettingConservesUptoRow : OpenClaim := { program := "ytjbgckjcbmmobaa", sum := "ed4da57795101e189f975b8dfc83b2fd89881c8e4567730cc15f489dcc57b119", func := "dialtone/dialtonelaw39.NettingConserves", spec := "nettingConserves", unfollowed := true, recurses := true, apart := false, narrowed := true }
def NettingConservesUptoSaid : Prop := nettingConservesUptoRow.holds Try.pinned (OpenSpec.upto nettingConservesSpec)

/-- 'dialtonelaw39.NettingSettles', WHERE WHAT IT READS IS OF BULK AT MOST 1048576: true; the input reads as it did. -/
def nettingSettlesUptoRow : OpenClaim := { program := "ytjbgckjcbmmobaa", sum := "ed4da57795101e189f975b8dfc83b2fd89881c8e4567730cc15f489dcc57b119", func := "dialtone/dialtonelaw39.NettingSettles", spec := "nettingSettles", unfollowed := true, recurses := true, apart := false, narrowed := true }
def NettingSettlesUptoSaid : Prop := nettingSettlesUptoRow.holds Try.pinned (OpenSpec.upto nettingSettlesSpec)

/-- 'dialtonelaw39.NettingFewest', WHERE WHAT IT READS IS OF BULK AT MOST 1048576: true; the input reads as it did. -/
def nettingFewestUptoRow : OpenClaim := { program := "ytjbgckjcbmmobaa", sum := "ed4da57795101e189f975b8dfc83b2fd89881c8e4567730cc15f489dcc57b119", func := "dialtone/dialtonelaw39.NettingFewest", spec := "nettingFewest", unfollowed := true, recurses := true, apart := false, narrowed := true }
def NettingFewestUptoSaid : Prop := nettingFewestUptoRow.holds Try.pinned (OpenSpec.upto nettingFewestSpec)

/-- 'dialtonelaw39.NettingGroups', WHERE WHAT IT READS IS OF BULK AT MOST 1048576: true; the input reads as it did. -/
def nettingGroupsUptoRow : OpenClaim := { program := "ytjbgckjcbmmobaa", sum := "ed4da57795101e189f975b8dfc83b2fd89881c8e4567730cc15f489dcc57b119", func := "dialtone/dialtonelaw39.NettingGroups", spec := "nettingGroups", unfollowed := true, recurses := true, apart := false, narrowed := true }
def NettingGroupsUptoSaid : Prop := nettingGroupsUptoRow.holds Try.pinned (OpenSpec.upto nettingGroupsSpec)

/-- 'dialtonelaw39.NettingAround', WHERE WHAT IT READS IS OF BULK AT MOST 1048576: true; the input reads as it did. -/
def nettingAroundUptoRow : OpenClaim := { program := "ytjbgckjcbmmobaa", sum := "ed4da57795101e189f975b8dfc83b2fd89881c8e4567730cc15f489dcc57b119", func := "dialtone/dialtonelaw39.NettingAround", spec := "nettingAround", unfollowed := true, recurses := true, apart := false, narrowed := true }
def NettingAroundUptoSaid : Prop := nettingAroundUptoRow.holds Try.pinned (OpenSpec.upto nettingAroundSpec)

/-- 'dialtonelaw39.NettingOrder', WHERE WHAT IT READS IS OF BULK AT MOST 1048576: true; the input reads as it did. -/
def nettingOrderUptoRow : OpenClaim := { program := "ytjbgckjcbmmobaa", sum := "ed4da57795101e189f975b8dfc83b2fd89881c8e4567730cc15f489dcc57b119", func := "dialtone/dialtonelaw39.NettingOrder", spec := "nettingOrder", unfollowed := true, recurses := true, apart := false, narrowed := true }
def NettingOrderUptoSaid : Prop := nettingOrderUptoRow.holds Try.pinned (OpenSpec.upto nettingOrderSpec)

/-- 'dialtonelaw39.NettingNames', WHERE WHAT IT READS IS OF BULK AT MOST 1048576: true; the input reads as it did. -/
def nettingNamesUptoRow : OpenClaim := { program := "ytjbgckjcbmmobaa", sum := "ed4da57795101e189f975b8dfc83b2fd89881c8e4567730cc15f489dcc57b119", func := "dialtone/dialtonelaw39.NettingNames", spec := "nettingNames", unfollowed := true, recurses := true, apart := false, narrowed := true }
def NettingNamesUptoSaid : Prop := nettingNamesUptoRow.holds Try.pinned (OpenSpec.upto nettingNamesSpec)

end Rows
end Go.Proofs.Ytjbgckjcbmmobaa

/-
  No cell of these rows narrows 'for every input' (looked for: loops, veiled, ifaces, maps, wideKeys, modest, calm, conditions, laid).
  DERIVED. THE GIVEN ROWS OF THIS SEAT. 8 by the template 'for every input the law returns true; each argument reads behind the call as it read before'; 0 by the template 'total and deterministic' (their statements: YtmiahmpobpokmaaTotals.lean).
  GIVEN WITH THE SEED: the statements are not yours to turn. If you find one false, say at which input.
  Laid BY PROGRAM, IN A SANDBOX (cutbox-rows.mjs): the forced cells as the released guide's own fill.sh prints them over the translation d8fe4e8bfa880f06… (all of the seat's roots in one cut). By AI agents, Wed Nov 11 2026. No macro, syntax, notation, axiom, sorry.
-/
import Derived.Test.YtmiahmpobpokmaaChecked
import GoSem.Claim
import GoSem.ClaimJoined
import GoSem.ClaimMapViews
import Derived.JoinedTies
import Derived.KernelRfl
namespace Go.Proofs.Ytmiahmpobpokmaa
/- THE CELL 'sum', in the pinned program and in every row, IS THE sha256 OF THE DUMP (.gsa) THAT YtmiahmpobpokmaaProg.lean LOADS. Nothing in Lean hashes anything: it is a label: what it is worth is what the hold of that sum in a sandbox is worth. -/
noncomputable def Try.pinned : Pinned := { name := "ytmiahmpobpokmaa", sum := "d8fe4e8bfa880f06cf8c483444a57fab067273d5c350b601e8448b3fdf2469e3", checked := Try.checked }
namespace Rows
def none {H : Type} : Left H := { results := [], args := [] }

/-- 'dialtonelaw24.RouteMatchesReference': WHATEVER THE INPUT: true; the input reads as it did. -/
def routeMatchesReferenceSpec : ChangeSpec := { name := "routeMatchesReference", fn := fun _ => fun
  | [d1, d2, d3, d4, d5, d6, d7, d8, d9, d10, d11] => { results := [.lit (.bool true)], args := [d1, d2, d3, d4, d5, d6, d7, d8, d9, d10, d11] }
  | _ => none }
def routeMatchesReferenceRow : OpenClaim := { program := "ytmiahmpobpokmaa", sum := "d8fe4e8bfa880f06cf8c483444a57fab067273d5c350b601e8448b3fdf2469e3", func := "dialtone/dialtonelaw24.RouteMatchesReference", spec := "routeMatchesReference", unfollowed := true, recurses := true, apart := false }
def RouteMatchesReferenceSaid : Prop := routeMatchesReferenceRow.holds Try.pinned (OpenSpec.ofChange routeMatchesReferenceSpec)

/-- ITS FALSE NEIGHBOUR: 'it returns false'. Refute it at one input. -/
def routeMatchesReferenceWrong : ChangeSpec := { name := "routeMatchesReference", fn := fun _ => fun
  | [d1, d2, d3, d4, d5, d6, d7, d8, d9, d10, d11] => { results := [.lit (.bool false)], args := [d1, d2, d3, d4, d5, d6, d7, d8, d9, d10, d11] }
  | _ => none }
def RouteMatchesReferenceWrongFalsely : Prop := routeMatchesReferenceRow.holds Try.pinned (OpenSpec.ofChange routeMatchesReferenceWrong)

/-- 'dialtonelaw24.RouteEnds': WHATEVER THE INPUT: true; the input reads as it did. -/
def routeEndsSpec : ChangeSpec := { name := "routeEnds", fn := fun _ => fun
  | [d1, d2, d3, d4] => { results := [.lit (.bool true)], args := [d1, d2, d3, d4] }
  | _ => none }
def routeEndsRow : OpenClaim := { program := "ytmiahmpobpokmaa", sum := "d8fe4e8bfa880f06cf8c483444a57fab067273d5c350b601e8448b3fdf2469e3", func := "dialtone/dialtonelaw24.RouteEnds", spec := "routeEnds", unfollowed := true, recurses := true, apart := false }
def RouteEndsSaid : Prop := routeEndsRow.holds Try.pinned (OpenSpec.ofChange routeEndsSpec)

/-- ITS FALSE NEIGHBOUR: 'it returns false'. Refute it at one input. -/
def routeEndsWrong : ChangeSpec := { name := "routeEnds", fn := fun _ => fun
  | [d1, d2, d3, d4] => { results := [.lit (.bool false)], args := [d1, d2, d3, d4] }
  | _ => none }
def RouteEndsWrongFalsely : Prop := routeEndsRow.holds Try.pinned (OpenSpec.ofChange routeEndsWrong)

/-- 'dialtonelaw24.RouteHolds': WHATEVER THE INPUT: true; the input reads as it did. -/
def routeHoldsSpec : ChangeSpec := { name := "routeHolds", fn := fun _ => fun
  | [d1, d2, d3, d4] => { results := [.lit (.bool true)], args := [d1, d2, d3, d4] }
  | _ => none }
def routeHoldsRow : OpenClaim := { program := "ytmiahmpobpokmaa", sum := "d8fe4e8bfa880f06cf8c483444a57fab067273d5c350b601e8448b3fdf2469e3", func := "dialtone/dialtonelaw24.RouteHolds", spec := "routeHolds", unfollowed := true, recurses := true, apart := false }
def RouteHoldsSaid : Prop := routeHoldsRow.holds Try.pinned (OpenSpec.ofChange routeHoldsSpec)

/-- ITS FALSE NEIGHBOUR: 'it returns false'. Refute it at one input. -/
def routeHoldsWrong : ChangeSpec := { name := "routeHolds", fn := fun _ => fun
  | [d1, d2, d3, d4] => { results := [.lit (.bool false)], args := [d1, d2, d3, d4] }
  | _ => none }
def RouteHoldsWrongFalsely : Prop := routeHoldsRow.holds Try.pinned (OpenSpec.ofChange routeHoldsWrong)

/-- 'dialtonelaw24.RouteNewest': WHATEVER THE INPUT: true; the input reads as it did. -/
def routeNewestSpec : ChangeSpec := { name := "routeNewest", fn := fun _ => fun
  | [d1, d2, d3] => { results := [.lit (.bool true)], args := [d1, d2, d3] }
  | _ => none }
def routeNewestRow : OpenClaim := { program := "ytmiahmpobpokmaa", sum := "d8fe4e8bfa880f06cf8c483444a57fab067273d5c350b601e8448b3fdf2469e3", func := "dialtone/dialtonelaw24.RouteNewest", spec := "routeNewest", unfollowed := true, recurses := true, apart := false }
def RouteNewestSaid : Prop := routeNewestRow.holds Try.pinned (OpenSpec.ofChange routeNewestSpec)

/-- ITS FALSE NEIGHBOUR: 'it returns false'. Refute it at one input. -/
def routeNewestWrong : ChangeSpec := { name := "routeNewest", fn := fun _ => fun
  | [d1, d2, d3] => { results := [.lit (.bool false)], args := [d1, d2, d3] }
  | _ => none }
def RouteNewestWrongFalsely : Prop := routeNewestRow.holds Try.pinned (OpenSpec.ofChange routeNewestWrong)

/-- 'dialtonelaw24.RouteLearns': WHATEVER THE INPUT: true; the input reads as it did. -/
def routeLearnsSpec : ChangeSpec := { name := "routeLearns", fn := fun _ => fun
  | [d1, d2, d3, d4] => { results := [.lit (.bool true)], args := [d1, d2, d3, d4] }
  | _ => none }
def routeLearnsRow : OpenClaim := { program := "ytmiahmpobpokmaa", sum := "d8fe4e8bfa880f06cf8c483444a57fab067273d5c350b601e8448b3fdf2469e3", func := "dialtone/dialtonelaw24.RouteLearns", spec := "routeLearns", unfollowed := true, recurses := true, apart := false }
def RouteLearnsSaid : Prop := routeLearnsRow.holds Try.pinned (OpenSpec.ofChange routeLearnsSpec)

/-- ITS FALSE NEIGHBOUR: 'it returns false'. Refute it at one input. -/
def routeLearnsWrong : ChangeSpec := { name := "routeLearns", fn := fun _ => fun
  | [d1, d2, d3, d4] => { results := [.lit (.bool false)], args := [d1, d2, d3, d4] }
  | _ => none }
def RouteLearnsWrongFalsely : Prop := routeLearnsRow.holds Try.pinned (OpenSpec.ofChange routeLearnsWrong)

/-- 'dialtonelaw24.RouteShows': WHATEVER THE INPUT: true; the input reads as it did. -/
def routeShowsSpec : ChangeSpec := { name := "routeShows", fn := fun _ => fun
  | [d1, d2, d3, d4, d5, d6] => { results := [.lit (.bool true)], args := [d1, d2, d3, d4, d5, d6] }
  | _ => none }
def routeShowsRow : OpenClaim := { program := "ytmiahmpobpokmaa", sum := "d8fe4e8bfa880f06cf8c483444a57fab067273d5c350b601e8448b3fdf2469e3", func := "dialtone/dialtonelaw24.RouteShows", spec := "routeShows", unfollowed := true, recurses := true, apart := false }
def RouteShowsSaid : Prop := routeShowsRow.holds Try.pinned (OpenSpec.ofChange routeShowsSpec)

/-- ITS FALSE NEIGHBOUR: 'it returns false'. Refute it at one input. -/
def routeShowsWrong : ChangeSpec := { name := "routeShows", fn := fun _ => fun
  | [d1, d2, d3, d4, d5, d6] => { results := [.lit (.bool false)], args := [d1, d2, d3, d4, d5, d6] }
  | _ => none }
def RouteShowsWrongFalsely : Prop := routeShowsRow.holds Try.pinned (OpenSpec.ofChange routeShowsWrong)

/-- 'dialtonelaw24.RouteMoves': WHATEVER THE INPUT: true; the input reads as it did. -/
def routeMovesSpec : ChangeSpec := { name := "routeMoves", fn := fun _ => fun
  | [d1, d2, d3, d4, d5] => { results := [.lit (.bool true)], args := [d1, d2, d3, d4, d5] }
  | _ => none }
def routeMovesRow : OpenClaim := { program := "ytmiahmpobpokmaa", sum := "d8fe4e8bfa880f06cf8c483444a57fab067273d5c350b601e8448b3fdf2469e3", func := "dialtone/dialtonelaw24.RouteMoves", spec := "routeMoves", unfollowed := true, recurses := true, apart := false }
def RouteMovesSaid : Prop := routeMovesRow.holds Try.pinned (OpenSpec.ofChange routeMovesSpec)

/-- ITS FALSE NEIGHBOUR: 'it returns false'. Refute it at one input. -/
def routeMovesWrong : ChangeSpec := { name := "routeMoves", fn := fun _ => fun
  | [d1, d2, d3, d4, d5] => { results := [.lit (.bool false)], args := [d1, d2, d3, d4, d5] }
  | _ => none }
def RouteMovesWrongFalsely : Prop := routeMovesRow.holds Try.pinned (OpenSpec.ofChange routeMovesWrong)

/-- 'dialtonelaw24.RouteNames': WHATEVER THE INPUT: true; the input reads as it did. -/
def routeNamesSpec : ChangeSpec := { name := "routeNames", fn := fun _ => fun
  | [d1, d2, d3, d4, d5] => { results := [.lit (.bool true)], args := [d1, d2, d3, d4, d5] }
  | _ => none }
def routeNamesRow : OpenClaim := { program := "ytmiahmpobpokmaa", sum := "d8fe4e8bfa880f06cf8c483444a57fab067273d5c350b601e8448b3fdf2469e3", func := "dialtone/dialtonelaw24.RouteNames", spec := "routeNames", unfollowed := true, recurses := true, apart := false }
def RouteNamesSaid : Prop := routeNamesRow.holds Try.pinned (OpenSpec.ofChange routeNamesSpec)

/-- ITS FALSE NEIGHBOUR: 'it returns false'. Refute it at one input. -/
def routeNamesWrong : ChangeSpec := { name := "routeNames", fn := fun _ => fun
  | [d1, d2, d3, d4, d5] => { results := [.lit (.bool false)], args := [d1, d2, d3, d4, d5] }
  | _ => none }
def RouteNamesWrongFalsely : Prop := routeNamesRow.holds Try.pinned (OpenSpec.ofChange routeNamesWrong)

/- THE SECOND FORM. 'bulk': how many values and letters a reading holds, each counted each time it is reached (what is shared counts as often as it is met; a slice's spare places count too). A statement '..UptoSaid' is the law's where the arguments, and the package variables that the reading takes, are together of bulk at most 1048576: NARROWER than '..Said'. Prove '..Said' where nothing that the law and all that it calls make is longer than what came in: it says more and counts as full. Else prove '..UptoSaid'. A law counts once. -/
mutual
def uptoBulk {H : Type} : DataW H → Nat
  | .lit (.string bytes) => bytes.length + 1
  | .lit _ => 1
  | .nil => 1
  | .ptr d => uptoBulk d + 1
  | .slice elems spare => uptoBulkAll elems + uptoBulkAll spare + 1
  | .agg parts => uptoBulkAll parts + 1
  | .iface _ d => uptoBulk d + 1
  | .map entries => uptoBulkEntries entries + 1
  | .held _ => 1
def uptoBulkAll {H : Type} : List (DataW H) → Nat
  | [] => 0
  | d :: r => uptoBulk d + uptoBulkAll r
def uptoBulkEntries {H : Type} : List (Lit × DataW H) → Nat
  | [] => 0
  | x :: r => uptoBulkEntry x + uptoBulkEntries r
def uptoBulkEntry {H : Type} : Lit × DataW H → Nat
  | (.string bytes, d) => bytes.length + uptoBulk d + 1
  | (_, d) => uptoBulk d + 1
 end
def uptoSmall : (H : Type) → List (DataW H) → Bool := fun _ ds => decide (uptoBulkAll ds ≤ 1048576)
def OpenSpec.upto (s : _root_.Go.ChangeSpec) : _root_.Go.OpenSpec := { _root_.Go.OpenSpec.ofChange s with cond := some uptoSmall }

/-- 'dialtonelaw24.RouteMatchesReference', WHERE WHAT IT READS IS OF BULK AT MOST 1048576: true; the input reads as it did. -/
def routeMatchesReferenceUptoRow : OpenClaim := { program := "ytmiahmpobpokmaa", sum := "d8fe4e8bfa880f06cf8c483444a57fab067273d5c350b601e8448b3fdf2469e3", func := "dialtone/dialtonelaw24.RouteMatchesReference", spec := "routeMatchesReference", unfollowed := true, recurses := true, apart := false, narrowed := true }
def RouteMatchesReferenceUptoSaid : Prop := routeMatchesReferenceUptoRow.holds Try.pinned (OpenSpec.upto routeMatchesReferenceSpec)

/-- 'dialtonelaw24.RouteEnds', WHERE WHAT IT READS IS OF BULK AT MOST 1048576: true; the input reads as it did. -/
def routeEndsUptoRow : OpenClaim := { program := "ytmiahmpobpokmaa", sum := "d8fe4e8bfa880f06cf8c483444a57fab067273d5c350b601e8448b3fdf2469e3", func := "dialtone/dialtonelaw24.RouteEnds", spec := "routeEnds", unfollowed := true, recurses := true, apart := false, narrowed := true }
def RouteEndsUptoSaid : Prop := routeEndsUptoRow.holds Try.pinned (OpenSpec.upto routeEndsSpec)

/-- 'dialtonelaw24.RouteHolds', WHERE WHAT IT READS IS OF BULK AT MOST 1048576: true; the input reads as it did. -/
def routeHoldsUptoRow : OpenClaim := { program := "ytmiahmpobpokmaa", sum := "d8fe4e8bfa880f06cf8c483444a57fab067273d5c350b601e8448b3fdf2469e3", func := "dialtone/dialtonelaw24.RouteHolds", spec := "routeHolds", unfollowed := true, recurses := true, apart := false, narrowed := true }
def RouteHoldsUptoSaid : Prop := routeHoldsUptoRow.holds Try.pinned (OpenSpec.upto routeHoldsSpec)

/-- 'dialtonelaw24.RouteNewest', WHERE WHAT IT READS IS OF BULK AT MOST 1048576: true; the input reads as it did. -/
def routeNewestUptoRow : OpenClaim := { program := "ytmiahmpobpokmaa", sum := "d8fe4e8bfa880f06cf8c483444a57fab067273d5c350b601e8448b3fdf2469e3", func := "dialtone/dialtonelaw24.RouteNewest", spec := "routeNewest", unfollowed := true, recurses := true, apart := false, narrowed := true }
def RouteNewestUptoSaid : Prop := routeNewestUptoRow.holds Try.pinned (OpenSpec.upto routeNewestSpec)

/-- 'dialtonelaw24.RouteLearns', WHERE WHAT IT READS IS OF BULK AT MOST 1048576: true; the input reads as it did. -/
def routeLearnsUptoRow : OpenClaim := { program := "ytmiahmpobpokmaa", sum := "d8fe4e8bfa880f06cf8c483444a57fab067273d5c350b601e8448b3fdf2469e3", func := "dialtone/dialtonelaw24.RouteLearns", spec := "routeLearns", unfollowed := true, recurses := true, apart := false, narrowed := true }
def RouteLearnsUptoSaid : Prop := routeLearnsUptoRow.holds Try.pinned (OpenSpec.upto routeLearnsSpec)

/-- 'dialtonelaw24.RouteShows', WHERE WHAT IT READS IS OF BULK AT MOST 1048576: true; the input reads as it did. -/
def routeShowsUptoRow : OpenClaim := { program := "ytmiahmpobpokmaa", sum := "d8fe4e8bfa880f06cf8c483444a57fab067273d5c350b601e8448b3fdf2469e3", func := "dialtone/dialtonelaw24.RouteShows", spec := "routeShows", unfollowed := true, recurses := true, apart := false, narrowed := true }
def RouteShowsUptoSaid : Prop := routeShowsUptoRow.holds Try.pinned (OpenSpec.upto routeShowsSpec)

/-- 'dialtonelaw24.RouteMoves', WHERE WHAT IT READS IS OF BULK AT MOST 1048576: true; the input reads as it did. -/
def routeMovesUptoRow : OpenClaim := { program := "ytmiahmpobpokmaa", sum := "d8fe4e8bfa880f06cf8c483444a57fab067273d5c350b601e8448b3fdf2469e3", func := "dialtone/dialtonelaw24.RouteMoves", spec := "routeMoves", unfollowed := true, recurses := true, apart := false, narrowed := true }
def RouteMovesUptoSaid : Prop := routeMovesUptoRow.holds Try.pinned (OpenSpec.upto routeMovesSpec)

/-- 'dialtonelaw24.RouteNames', WHERE WHAT IT READS IS OF BULK AT MOST 1048576: true; the input reads as it did. -/
def routeNamesUptoRow : OpenClaim := { program := "ytmiahmpobpokmaa", sum := "d8fe4e8bfa880f06cf8c483444a57fab067273d5c350b601e8448b3fdf2469e3", func := "dialtone/dialtonelaw24.RouteNames", spec := "routeNames", unfollowed := true, recurses := true, apart := false, narrowed := true }
def RouteNamesUptoSaid : Prop := routeNamesUptoRow.holds Try.pinned (OpenSpec.upto routeNamesSpec)

end Rows
end Go.Proofs.Ytmiahmpobpokmaa

/-
  NARROWER THAN 'FOR EVERY INPUT', by the rows' own cells (each row's printed sentence says how): LegMatchesReference: laid · LegTripsMatchReference: laid · LegSound: laid · LegGood: laid · LegPays: laid · LegAmounts: laid · LegContradicts: laid · LegFirst: laid · LegRoutes: laid.
  DERIVED. THE GIVEN ROWS OF THIS SEAT. 9 by the template 'for every input the law returns true; each argument reads behind the call as it read before'; 0 by the template 'total and deterministic' (their statements: YtnpbhgeffapojaaGreatDoorTotals.lean).
  GIVEN WITH THE SEED: the statements are not yours to turn. If you find one false, say at which input.
  Laid BY PROGRAM, IN A SANDBOX (cutbox-rows.mjs): the forced cells as the released guide's own fill.sh prints them over the translation 944b6a70c5f44fcb… (all of the seat's roots in one cut). By AI agents, Wed Nov 11 2026. No macro, syntax, notation, axiom, sorry.
-/
import Derived.Test.YtnpbhgeffapojaaGreatDoorChecked
import GoSem.Claim
import GoSem.ClaimJoined
import GoSem.ClaimMapViews
import Derived.JoinedTies
import Derived.KernelRfl
namespace Go.Proofs.YtnpbhgeffapojaaGreatDoor
/- THE CELL 'sum', in the pinned program and in every row, IS THE sha256 OF THE DUMP (.gsa) THAT YtnpbhgeffapojaaGreatDoorProg.lean LOADS. Nothing in Lean hashes anything: it is a label: what it is worth is what the hold of that sum in a sandbox is worth. -/
noncomputable def Tryz.pinned : Pinned := { name := "ytnpbhgeffapojaagreatdoor", sum := "944b6a70c5f44fcb353a456b8ffa8c414d6be3a2acc3e7c8d8aa245938db1b87", checked := Tryz.checked }
namespace Rows
def none {H : Type} : Left H := { results := [], args := [] }

/- WHAT THE LISTED PACKAGE-LEVEL VARIABLES READ AS WHEN THE CALL BEGINS. Each datum BY PROGRAM (the guide's laid-datum.mjs) off the statement by which the dump's own 'gosem.cut.vars' lays the variable. In a bare row this is a premise. The card (YtnpbhgeffapojaaGreatDoorCards.lean) ties it to the program's text. -/
def laid_dialtone_digest_round {H : Type} : DataW H := .agg [.lit (.int .u32 1116352408), .lit (.int .u32 1899447441), .lit (.int .u32 3049323471), .lit (.int .u32 3921009573), .lit (.int .u32 961987163), .lit (.int .u32 1508970993), .lit (.int .u32 2453635748), .lit (.int .u32 2870763221), .lit (.int .u32 3624381080), .lit (.int .u32 310598401), .lit (.int .u32 607225278), .lit (.int .u32 1426881987), .lit (.int .u32 1925078388), .lit (.int .u32 2162078206), .lit (.int .u32 2614888103), .lit (.int .u32 3248222580), .lit (.int .u32 3835390401), .lit (.int .u32 4022224774), .lit (.int .u32 264347078), .lit (.int .u32 604807628), .lit (.int .u32 770255983), .lit (.int .u32 1249150122), .lit (.int .u32 1555081692), .lit (.int .u32 1996064986), .lit (.int .u32 2554220882), .lit (.int .u32 2821834349), .lit (.int .u32 2952996808), .lit (.int .u32 3210313671), .lit (.int .u32 3336571891), .lit (.int .u32 3584528711), .lit (.int .u32 113926993), .lit (.int .u32 338241895), .lit (.int .u32 666307205), .lit (.int .u32 773529912), .lit (.int .u32 1294757372), .lit (.int .u32 1396182291), .lit (.int .u32 1695183700), .lit (.int .u32 1986661051), .lit (.int .u32 2177026350), .lit (.int .u32 2456956037), .lit (.int .u32 2730485921), .lit (.int .u32 2820302411), .lit (.int .u32 3259730800), .lit (.int .u32 3345764771), .lit (.int .u32 3516065817), .lit (.int .u32 3600352804), .lit (.int .u32 4094571909), .lit (.int .u32 275423344), .lit (.int .u32 430227734), .lit (.int .u32 506948616), .lit (.int .u32 659060556), .lit (.int .u32 883997877), .lit (.int .u32 958139571), .lit (.int .u32 1322822218), .lit (.int .u32 1537002063), .lit (.int .u32 1747873779), .lit (.int .u32 1955562222), .lit (.int .u32 2024104815), .lit (.int .u32 2227730452), .lit (.int .u32 2361852424), .lit (.int .u32 2428436474), .lit (.int .u32 2756734187), .lit (.int .u32 3204031479), .lit (.int .u32 3329325298)]

/-- 'dialtonelaw38.LegMatchesReference': WHATEVER THE INPUT: true; the input reads as it did. -/
def legMatchesReferenceSpec : ChangeSpec := { name := "legMatchesReference", fn := fun _ => fun
  | [d1, d2, d3, d4, d5, d6, d7, d8, d9] => { results := [.lit (.bool true)], args := [d1, d2, d3, d4, d5, d6, d7, d8, d9] }
  | _ => none }
def legMatchesReferenceRow : OpenClaim := { program := "ytnpbhgeffapojaagreatdoor", sum := "944b6a70c5f44fcb353a456b8ffa8c414d6be3a2acc3e7c8d8aa245938db1b87", func := "dialtone/dialtonelaw38.LegMatchesReference", spec := "legMatchesReference", inPlace := ["internal/abi.NoEscape", "internal/bytealg.MakeNoZero"], unfollowed := true, recurses := true, named := ["dialtone/digest.round"], apart := false, laid := [("dialtone/digest.round", laid_dialtone_digest_round)] }
def LegMatchesReferenceSaid : Prop := legMatchesReferenceRow.holds Tryz.pinned (OpenSpec.ofChange legMatchesReferenceSpec)

/-- ITS FALSE NEIGHBOUR: 'it returns false'. Refute it at one input. -/
def legMatchesReferenceWrong : ChangeSpec := { name := "legMatchesReference", fn := fun _ => fun
  | [d1, d2, d3, d4, d5, d6, d7, d8, d9] => { results := [.lit (.bool false)], args := [d1, d2, d3, d4, d5, d6, d7, d8, d9] }
  | _ => none }
def LegMatchesReferenceWrongFalsely : Prop := legMatchesReferenceRow.holds Tryz.pinned (OpenSpec.ofChange legMatchesReferenceWrong)

/-- 'dialtonelaw38.LegTripsMatchReference': WHATEVER THE INPUT: true; the input reads as it did. -/
def legTripsMatchReferenceSpec : ChangeSpec := { name := "legTripsMatchReference", fn := fun _ => fun
  | [d1, d2, d3] => { results := [.lit (.bool true)], args := [d1, d2, d3] }
  | _ => none }
def legTripsMatchReferenceRow : OpenClaim := { program := "ytnpbhgeffapojaagreatdoor", sum := "944b6a70c5f44fcb353a456b8ffa8c414d6be3a2acc3e7c8d8aa245938db1b87", func := "dialtone/dialtonelaw38.LegTripsMatchReference", spec := "legTripsMatchReference", inPlace := ["internal/abi.NoEscape", "internal/bytealg.MakeNoZero"], unfollowed := true, recurses := true, named := ["dialtone/digest.round"], apart := false, laid := [("dialtone/digest.round", laid_dialtone_digest_round)] }
def LegTripsMatchReferenceSaid : Prop := legTripsMatchReferenceRow.holds Tryz.pinned (OpenSpec.ofChange legTripsMatchReferenceSpec)

/-- ITS FALSE NEIGHBOUR: 'it returns false'. Refute it at one input. -/
def legTripsMatchReferenceWrong : ChangeSpec := { name := "legTripsMatchReference", fn := fun _ => fun
  | [d1, d2, d3] => { results := [.lit (.bool false)], args := [d1, d2, d3] }
  | _ => none }
def LegTripsMatchReferenceWrongFalsely : Prop := legTripsMatchReferenceRow.holds Tryz.pinned (OpenSpec.ofChange legTripsMatchReferenceWrong)

/-- 'dialtonelaw38.LegSound': WHATEVER THE INPUT: true; the input reads as it did. -/
def legSoundSpec : ChangeSpec := { name := "legSound", fn := fun _ => fun
  | [d1, d2, d3, d4] => { results := [.lit (.bool true)], args := [d1, d2, d3, d4] }
  | _ => none }
def legSoundRow : OpenClaim := { program := "ytnpbhgeffapojaagreatdoor", sum := "944b6a70c5f44fcb353a456b8ffa8c414d6be3a2acc3e7c8d8aa245938db1b87", func := "dialtone/dialtonelaw38.LegSound", spec := "legSound", inPlace := ["internal/abi.NoEscape", "internal/bytealg.MakeNoZero"], unfollowed := true, recurses := true, named := ["dialtone/digest.round"], apart := false, laid := [("dialtone/digest.round", laid_dialtone_digest_round)] }
def LegSoundSaid : Prop := legSoundRow.holds Tryz.pinned (OpenSpec.ofChange legSoundSpec)

/-- ITS FALSE NEIGHBOUR: 'it returns false'. Refute it at one input. -/
def legSoundWrong : ChangeSpec := { name := "legSound", fn := fun _ => fun
  | [d1, d2, d3, d4] => { results := [.lit (.bool false)], args := [d1, d2, d3, d4] }
  | _ => none }
def LegSoundWrongFalsely : Prop := legSoundRow.holds Tryz.pinned (OpenSpec.ofChange legSoundWrong)

/-- 'dialtonelaw38.LegGood': WHATEVER THE INPUT: true; the input reads as it did. -/
def legGoodSpec : ChangeSpec := { name := "legGood", fn := fun _ => fun
  | [d1, d2, d3, d4] => { results := [.lit (.bool true)], args := [d1, d2, d3, d4] }
  | _ => none }
def legGoodRow : OpenClaim := { program := "ytnpbhgeffapojaagreatdoor", sum := "944b6a70c5f44fcb353a456b8ffa8c414d6be3a2acc3e7c8d8aa245938db1b87", func := "dialtone/dialtonelaw38.LegGood", spec := "legGood", inPlace := ["internal/abi.NoEscape", "internal/bytealg.MakeNoZero"], unfollowed := true, recurses := true, named := ["dialtone/digest.round"], apart := false, laid := [("dialtone/digest.round", laid_dialtone_digest_round)] }
def LegGoodSaid : Prop := legGoodRow.holds Tryz.pinned (OpenSpec.ofChange legGoodSpec)

/-- ITS FALSE NEIGHBOUR: 'it returns false'. Refute it at one input. -/
def legGoodWrong : ChangeSpec := { name := "legGood", fn := fun _ => fun
  | [d1, d2, d3, d4] => { results := [.lit (.bool false)], args := [d1, d2, d3, d4] }
  | _ => none }
def LegGoodWrongFalsely : Prop := legGoodRow.holds Tryz.pinned (OpenSpec.ofChange legGoodWrong)

/-- 'dialtonelaw38.LegPays': WHATEVER THE INPUT: true; the input reads as it did. -/
def legPaysSpec : ChangeSpec := { name := "legPays", fn := fun _ => fun
  | [d1, d2] => { results := [.lit (.bool true)], args := [d1, d2] }
  | _ => none }
def legPaysRow : OpenClaim := { program := "ytnpbhgeffapojaagreatdoor", sum := "944b6a70c5f44fcb353a456b8ffa8c414d6be3a2acc3e7c8d8aa245938db1b87", func := "dialtone/dialtonelaw38.LegPays", spec := "legPays", inPlace := ["internal/abi.NoEscape", "internal/bytealg.MakeNoZero"], unfollowed := true, recurses := true, named := ["dialtone/digest.round"], apart := false, laid := [("dialtone/digest.round", laid_dialtone_digest_round)] }
def LegPaysSaid : Prop := legPaysRow.holds Tryz.pinned (OpenSpec.ofChange legPaysSpec)

/-- ITS FALSE NEIGHBOUR: 'it returns false'. Refute it at one input. -/
def legPaysWrong : ChangeSpec := { name := "legPays", fn := fun _ => fun
  | [d1, d2] => { results := [.lit (.bool false)], args := [d1, d2] }
  | _ => none }
def LegPaysWrongFalsely : Prop := legPaysRow.holds Tryz.pinned (OpenSpec.ofChange legPaysWrong)

/-- 'dialtonelaw38.LegAmounts': WHATEVER THE INPUT: true; the input reads as it did. -/
def legAmountsSpec : ChangeSpec := { name := "legAmounts", fn := fun _ => fun
  | [d1, d2, d3, d4, d5] => { results := [.lit (.bool true)], args := [d1, d2, d3, d4, d5] }
  | _ => none }
def legAmountsRow : OpenClaim := { program := "ytnpbhgeffapojaagreatdoor", sum := "944b6a70c5f44fcb353a456b8ffa8c414d6be3a2acc3e7c8d8aa245938db1b87", func := "dialtone/dialtonelaw38.LegAmounts", spec := "legAmounts", inPlace := ["internal/abi.NoEscape", "internal/bytealg.MakeNoZero"], unfollowed := true, recurses := true, named := ["dialtone/digest.round"], apart := false, laid := [("dialtone/digest.round", laid_dialtone_digest_round)] }
def LegAmountsSaid : Prop := legAmountsRow.holds Tryz.pinned (OpenSpec.ofChange legAmountsSpec)

/-- ITS FALSE NEIGHBOUR: 'it returns false'. Refute it at one input. -/
def legAmountsWrong : ChangeSpec := { name := "legAmounts", fn := fun _ => fun
  | [d1, d2, d3, d4, d5] => { results := [.lit (.bool false)], args := [d1, d2, d3, d4, d5] }
  | _ => none }
def LegAmountsWrongFalsely : Prop := legAmountsRow.holds Tryz.pinned (OpenSpec.ofChange legAmountsWrong)

/-- 'dialtonelaw38.LegContradicts': WHATEVER THE INPUT: true; the input reads as it did. -/
def legContradictsSpec : ChangeSpec := { name := "legContradicts", fn := fun _ => fun
  | [d1, d2, d3, d4, d5, d6, d7] => { results := [.lit (.bool true)], args := [d1, d2, d3, d4, d5, d6, d7] }
  | _ => none }
def legContradictsRow : OpenClaim := { program := "ytnpbhgeffapojaagreatdoor", sum := "944b6a70c5f44fcb353a456b8ffa8c414d6be3a2acc3e7c8d8aa245938db1b87", func := "dialtone/dialtonelaw38.LegContradicts", spec := "legContradicts", inPlace := ["internal/abi.NoEscape", "internal/bytealg.MakeNoZero"], unfollowed := true, recurses := true, named := ["dialtone/digest.round"], apart := false, laid := [("dialtone/digest.round", laid_dialtone_digest_round)] }
def LegContradictsSaid : Prop := legContradictsRow.holds Tryz.pinned (OpenSpec.ofChange legContradictsSpec)

/-- ITS FALSE NEIGHBOUR: 'it returns false'. Refute it at one input. -/
def legContradictsWrong : ChangeSpec := { name := "legContradicts", fn := fun _ => fun
  | [d1, d2, d3, d4, d5, d6, d7] => { results := [.lit (.bool false)], args := [d1, d2, d3, d4, d5, d6, d7] }
  | _ => none }
def LegContradictsWrongFalsely : Prop := legContradictsRow.holds Tryz.pinned (OpenSpec.ofChange legContradictsWrong)

/-- 'dialtonelaw38.LegFirst': WHATEVER THE INPUT: true; the input reads as it did. -/
def legFirstSpec : ChangeSpec := { name := "legFirst", fn := fun _ => fun
  | [d1, d2, d3, d4, d5, d6, d7, d8] => { results := [.lit (.bool true)], args := [d1, d2, d3, d4, d5, d6, d7, d8] }
  | _ => none }
def legFirstRow : OpenClaim := { program := "ytnpbhgeffapojaagreatdoor", sum := "944b6a70c5f44fcb353a456b8ffa8c414d6be3a2acc3e7c8d8aa245938db1b87", func := "dialtone/dialtonelaw38.LegFirst", spec := "legFirst", inPlace := ["internal/abi.NoEscape", "internal/bytealg.MakeNoZero"], unfollowed := true, recurses := true, named := ["dialtone/digest.round"], apart := false, laid := [("dialtone/digest.round", laid_dialtone_digest_round)] }
def LegFirstSaid : Prop := legFirstRow.holds Tryz.pinned (OpenSpec.ofChange legFirstSpec)

/-- ITS FALSE NEIGHBOUR: 'it returns false'. Refute it at one input. -/
def legFirstWrong : ChangeSpec := { name := "legFirst", fn := fun _ => fun
  | [d1, d2, d3, d4, d5, d6, d7, d8] => { results := [.lit (.bool false)], args := [d1, d2, d3, d4, d5, d6, d7, d8] }
  | _ => none }
def LegFirstWrongFalsely : Prop := legFirstRow.holds Tryz.pinned (OpenSpec.ofChange legFirstWrong)

/-- 'dialtonelaw38.LegRoutes': WHATEVER THE INPUT: true; the input reads as it did. -/
def legRoutesSpec : ChangeSpec := { name := "legRoutes", fn := fun _ => fun
  | [d1, d2, d3, d4, d5] => { results := [.lit (.bool true)], args := [d1, d2, d3, d4, d5] }
  | _ => none }
def legRoutesRow : OpenClaim := { program := "ytnpbhgeffapojaagreatdoor", sum := "944b6a70c5f44fcb353a456b8ffa8c414d6be3a2acc3e7c8d8aa245938db1b87", func := "dialtone/dialtonelaw38.LegRoutes", spec := "legRoutes", inPlace := ["internal/abi.NoEscape", "internal/bytealg.MakeNoZero"], unfollowed := true, recurses := true, named := ["dialtone/digest.round"], apart := false, laid := [("dialtone/digest.round", laid_dialtone_digest_round)] }
def LegRoutesSaid : Prop := legRoutesRow.holds Tryz.pinned (OpenSpec.ofChange legRoutesSpec)

/-- ITS FALSE NEIGHBOUR: 'it returns false'. Refute it at one input. -/
def legRoutesWrong : ChangeSpec := { name := "legRoutes", fn := fun _ => fun
  | [d1, d2, d3, d4, d5] => { results := [.lit (.bool false)], args := [d1, d2, d3, d4, d5] }
  | _ => none }
def LegRoutesWrongFalsely : Prop := legRoutesRow.holds Tryz.pinned (OpenSpec.ofChange legRoutesWrong)

/- THE SECOND FORM. 'bulk': how many values and letters a reading holds, each counted each time it is reached (what is shared counts as often as it is met; a slice's spare places count too). A statement '..UptoSaid' is the law's where the arguments, and the package variables that the reading takes, are together of bulk at most 1048576: NARROWER than '..Said'. Prove '..Said' where nothing that the law and all that it calls make is longer than what came in: it says more and counts as full. Else prove '..UptoSaid'. A law counts once. -/
mutual
def uptoBulk {H : Type} : DataW H → Nat
  | .lit (.string bytes) => bytes.length + 1
  | .lit _ => 1
  | .nil => 1
  | .ptr d => uptoBulk d + 1
  | .slice elems spare => uptoBulkAll elems + uptoBulkAll spare + 1
  | .agg parts => uptoBulkAll parts + 1
  | .iface _ d => uptoBulk d + 1
  | .map entries => uptoBulkEntries entries + 1
  | .held _ => 1
def uptoBulkAll {H : Type} : List (DataW H) → Nat
  | [] => 0
  | d :: r => uptoBulk d + uptoBulkAll r
def uptoBulkEntries {H : Type} : List (Lit × DataW H) → Nat
  | [] => 0
  | x :: r => uptoBulkEntry x + uptoBulkEntries r
def uptoBulkEntry {H : Type} : Lit × DataW H → Nat
  | (.string bytes, d) => bytes.length + uptoBulk d + 1
  | (_, d) => uptoBulk d + 1
 end
def uptoSmall : (H : Type) → List (DataW H) → Bool := fun _ ds => decide (uptoBulkAll ds ≤ 1048576)
def OpenSpec.upto (s : _root_.Go.ChangeSpec) : _root_.Go.OpenSpec := { _root_.Go.OpenSpec.ofChange s with cond := some uptoSmall }

/-- 'dialtonelaw38.LegMatchesReference', WHERE WHAT IT READS IS OF BULK AT MOST 1048576: true; the input reads as it did. -/
def legMatchesReferenceUptoRow : OpenClaim := { program := "ytnpbhgeffapojaagreatdoor", sum := "944b6a70c5f44fcb353a456b8ffa8c414d6be3a2acc3e7c8d8aa245938db1b87", func := "dialtone/dialtonelaw38.LegMatchesReference", spec := "legMatchesReference", inPlace := ["internal/abi.NoEscape", "internal/bytealg.MakeNoZero"], unfollowed := true, recurses := true, named := ["dialtone/digest.round"], apart := false, laid := [("dialtone/digest.round", laid_dialtone_digest_round)], narrowed := true }
def LegMatchesReferenceUptoSaid : Prop := legMatchesReferenceUptoRow.holds Tryz.pinned (OpenSpec.upto legMatchesReferenceSpec)

/-- 'dialtonelaw38.LegTripsMatchReference', WHERE WHAT IT READS IS OF BULK AT MOST 1048576: true; the input reads as it did. -/
def legTripsMatchReferenceUptoRow : OpenClaim := { program := "ytnpbhgeffapojaagreatdoor", sum := "944b6a70c5f44fcb353a456b8ffa8c414d6be3a2acc3e7c8d8aa245938db1b87", func := "dialtone/dialtonelaw38.LegTripsMatchReference", spec := "legTripsMatchReference", inPlace := ["internal/abi.NoEscape", "internal/bytealg.MakeNoZero"], unfollowed := true, recurses := true, named := ["dialtone/digest.round"], apart := false, laid := [("dialtone/digest.round", laid_dialtone_digest_round)], narrowed := true }
def LegTripsMatchReferenceUptoSaid : Prop := legTripsMatchReferenceUptoRow.holds Tryz.pinned (OpenSpec.upto legTripsMatchReferenceSpec)

/-- 'dialtonelaw38.LegSound', WHERE WHAT IT READS IS OF BULK AT MOST 1048576: true; the input reads as it did. -/
def legSoundUptoRow : OpenClaim := { program := "ytnpbhgeffapojaagreatdoor", sum := "944b6a70c5f44fcb353a456b8ffa8c414d6be3a2acc3e7c8d8aa245938db1b87", func := "dialtone/dialtonelaw38.LegSound", spec := "legSound", inPlace := ["internal/abi.NoEscape", "internal/bytealg.MakeNoZero"], unfollowed := true, recurses := true, named := ["dialtone/digest.round"], apart := false, laid := [("dialtone/digest.round", laid_dialtone_digest_round)], narrowed := true }
def LegSoundUptoSaid : Prop := legSoundUptoRow.holds Tryz.pinned (OpenSpec.upto legSoundSpec)

/-- 'dialtonelaw38.LegGood', WHERE WHAT IT READS IS OF BULK AT MOST 1048576: true; the input reads as it did. -/
def legGoodUptoRow : OpenClaim := { program := "ytnpbhgeffapojaagreatdoor", sum := "944b6a70c5f44fcb353a456b8ffa8c414d6be3a2acc3e7c8d8aa245938db1b87", func := "dialtone/dialtonelaw38.LegGood", spec := "legGood", inPlace := ["internal/abi.NoEscape", "internal/bytealg.MakeNoZero"], unfollowed := true, recurses := true, named := ["dialtone/digest.round"], apart := false, laid := [("dialtone/digest.round", laid_dialtone_digest_round)], narrowed := true }
def LegGoodUptoSaid : Prop := legGoodUptoRow.holds Tryz.pinned (OpenSpec.upto legGoodSpec)

/-- 'dialtonelaw38.LegPays', WHERE WHAT IT READS IS OF BULK AT MOST 1048576: true; the input reads as it did. -/
def legPaysUptoRow : OpenClaim := { program := "ytnpbhgeffapojaagreatdoor", sum := "944b6a70c5f44fcb353a456b8ffa8c414d6be3a2acc3e7c8d8aa245938db1b87", func := "dialtone/dialtonelaw38.LegPays", spec := "legPays", inPlace := ["internal/abi.NoEscape", "internal/bytealg.MakeNoZero"], unfollowed := true, recurses := true, named := ["dialtone/digest.round"], apart := false, laid := [("dialtone/digest.round", laid_dialtone_digest_round)], narrowed := true }
def LegPaysUptoSaid : Prop := legPaysUptoRow.holds Tryz.pinned (OpenSpec.upto legPaysSpec)

/-- 'dialtonelaw38.LegAmounts', WHERE WHAT IT READS IS OF BULK AT MOST 1048576: true; the input reads as it did. -/
def legAmountsUptoRow : OpenClaim := { program := "ytnpbhgeffapojaagreatdoor", sum := "944b6a70c5f44fcb353a456b8ffa8c414d6be3a2acc3e7c8d8aa245938db1b87", func := "dialtone/dialtonelaw38.LegAmounts", spec := "legAmounts", inPlace := ["internal/abi.NoEscape", "internal/bytealg.MakeNoZero"], unfollowed := true, recurses := true, named := ["dialtone/digest.round"], apart := false, laid := [("dialtone/digest.round", laid_dialtone_digest_round)], narrowed := true }
def LegAmountsUptoSaid : Prop := legAmountsUptoRow.holds Tryz.pinned (OpenSpec.upto legAmountsSpec)

/-- 'dialtonelaw38.LegContradicts', WHERE WHAT IT READS IS OF BULK AT MOST 1048576: true; the input reads as it did. -/
def legContradictsUptoRow : OpenClaim := { program := "ytnpbhgeffapojaagreatdoor", sum := "944b6a70c5f44fcb353a456b8ffa8c414d6be3a2acc3e7c8d8aa245938db1b87", func := "dialtone/dialtonelaw38.LegContradicts", spec := "legContradicts", inPlace := ["internal/abi.NoEscape", "internal/bytealg.MakeNoZero"], unfollowed := true, recurses := true, named := ["dialtone/digest.round"], apart := false, laid := [("dialtone/digest.round", laid_dialtone_digest_round)], narrowed := true }
def LegContradictsUptoSaid : Prop := legContradictsUptoRow.holds Tryz.pinned (OpenSpec.upto legContradictsSpec)

/-- 'dialtonelaw38.LegFirst', WHERE WHAT IT READS IS OF BULK AT MOST 1048576: true; the input reads as it did. -/
def legFirstUptoRow : OpenClaim := { program := "ytnpbhgeffapojaagreatdoor", sum := "944b6a70c5f44fcb353a456b8ffa8c414d6be3a2acc3e7c8d8aa245938db1b87", func := "dialtone/dialtonelaw38.LegFirst", spec := "legFirst", inPlace := ["internal/abi.NoEscape", "internal/bytealg.MakeNoZero"], unfollowed := true, recurses := true, named := ["dialtone/digest.round"], apart := false, laid := [("dialtone/digest.round", laid_dialtone_digest_round)], narrowed := true }
def LegFirstUptoSaid : Prop := legFirstUptoRow.holds Tryz.pinned (OpenSpec.upto legFirstSpec)

/-- 'dialtonelaw38.LegRoutes', WHERE WHAT IT READS IS OF BULK AT MOST 1048576: true; the input reads as it did. -/
def legRoutesUptoRow : OpenClaim := { program := "ytnpbhgeffapojaagreatdoor", sum := "944b6a70c5f44fcb353a456b8ffa8c414d6be3a2acc3e7c8d8aa245938db1b87", func := "dialtone/dialtonelaw38.LegRoutes", spec := "legRoutes", inPlace := ["internal/abi.NoEscape", "internal/bytealg.MakeNoZero"], unfollowed := true, recurses := true, named := ["dialtone/digest.round"], apart := false, laid := [("dialtone/digest.round", laid_dialtone_digest_round)], narrowed := true }
def LegRoutesUptoSaid : Prop := legRoutesUptoRow.holds Tryz.pinned (OpenSpec.upto legRoutesSpec)

end Rows
end Go.Proofs.YtnpbhgeffapojaaGreatDoor

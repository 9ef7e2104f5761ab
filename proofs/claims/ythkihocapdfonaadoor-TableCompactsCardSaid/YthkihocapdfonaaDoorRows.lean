/-
  NARROWER THAN 'FOR EVERY INPUT', by the rows' own cells (each row's printed sentence says how): TableSteps: laid · TableLast: laid · TableBetween: laid · TableLate: laid · TableDiffers: laid · TablePrefixes: laid · TableMoves: laid · TableCompacts: laid.
  DERIVED. THE GIVEN ROWS OF THIS SEAT. 8 by the template 'for every input the law returns true; each argument reads behind the call as it read before'; 0 by the template 'total and deterministic' (their statements: YthkihocapdfonaaDoorTotals.lean).
  GIVEN WITH THE SEED: the statements are not yours to turn. If you find one false, say at which input.
  Laid BY PROGRAM, IN A SANDBOX (cutbox-rows.mjs): the forced cells as the released guide's own fill.sh prints them over the translation c26d782b5daaa1c0… (all of the seat's roots in one cut). By AI agents, Wed Nov 11 2026. No macro, syntax, notation, axiom, sorry.
-/
import Derived.Test.YthkihocapdfonaaDoorChecked
import GoSem.Claim
import GoSem.ClaimJoined
import GoSem.ClaimMapViews
import Derived.JoinedTies
import Derived.KernelRfl
namespace Go.Proofs.YthkihocapdfonaaDoor
/- THE CELL 'sum', in the pinned program and in every row, IS THE sha256 OF THE DUMP (.gsa) THAT YthkihocapdfonaaDoorProg.lean LOADS. Nothing in Lean hashes anything: it is a label: what it is worth is what the hold of that sum in a sandbox is worth. -/
noncomputable def Tryd.pinned : Pinned := { name := "ythkihocapdfonaadoor", sum := "c26d782b5daaa1c0b62d34d033a2df8de149d57e3f71ec076d6ba11251acbc8e", checked := Tryd.checked }
namespace Rows
def none {H : Type} : Left H := { results := [], args := [] }

/- WHAT THE LISTED PACKAGE-LEVEL VARIABLES READ AS WHEN THE CALL BEGINS. Each datum BY PROGRAM (the guide's laid-datum.mjs) off the statement by which the dump's own 'gosem.cut.vars' lays the variable. In a bare row this is a premise. The card (YthkihocapdfonaaDoorCards.lean) ties it to the program's text. -/
def laid_dialtone_digest_round {H : Type} : DataW H := .agg [.lit (.int .u32 1116352408), .lit (.int .u32 1899447441), .lit (.int .u32 3049323471), .lit (.int .u32 3921009573), .lit (.int .u32 961987163), .lit (.int .u32 1508970993), .lit (.int .u32 2453635748), .lit (.int .u32 2870763221), .lit (.int .u32 3624381080), .lit (.int .u32 310598401), .lit (.int .u32 607225278), .lit (.int .u32 1426881987), .lit (.int .u32 1925078388), .lit (.int .u32 2162078206), .lit (.int .u32 2614888103), .lit (.int .u32 3248222580), .lit (.int .u32 3835390401), .lit (.int .u32 4022224774), .lit (.int .u32 264347078), .lit (.int .u32 604807628), .lit (.int .u32 770255983), .lit (.int .u32 1249150122), .lit (.int .u32 1555081692), .lit (.int .u32 1996064986), .lit (.int .u32 2554220882), .lit (.int .u32 2821834349), .lit (.int .u32 2952996808), .lit (.int .u32 3210313671), .lit (.int .u32 3336571891), .lit (.int .u32 3584528711), .lit (.int .u32 113926993), .lit (.int .u32 338241895), .lit (.int .u32 666307205), .lit (.int .u32 773529912), .lit (.int .u32 1294757372), .lit (.int .u32 1396182291), .lit (.int .u32 1695183700), .lit (.int .u32 1986661051), .lit (.int .u32 2177026350), .lit (.int .u32 2456956037), .lit (.int .u32 2730485921), .lit (.int .u32 2820302411), .lit (.int .u32 3259730800), .lit (.int .u32 3345764771), .lit (.int .u32 3516065817), .lit (.int .u32 3600352804), .lit (.int .u32 4094571909), .lit (.int .u32 275423344), .lit (.int .u32 430227734), .lit (.int .u32 506948616), .lit (.int .u32 659060556), .lit (.int .u32 883997877), .lit (.int .u32 958139571), .lit (.int .u32 1322822218), .lit (.int .u32 1537002063), .lit (.int .u32 1747873779), .lit (.int .u32 1955562222), .lit (.int .u32 2024104815), .lit (.int .u32 2227730452), .lit (.int .u32 2361852424), .lit (.int .u32 2428436474), .lit (.int .u32 2756734187), .lit (.int .u32 3204031479), .lit (.int .u32 3329325298)]

/-- 'dialtonelaw23.TableSteps': WHATEVER THE INPUT: true; the input reads as it did. -/
def tableStepsSpec : ChangeSpec := { name := "tableSteps", fn := fun _ => fun
  | [d1, d2] => { results := [.lit (.bool true)], args := [d1, d2] }
  | _ => none }
def tableStepsRow : OpenClaim := { program := "ythkihocapdfonaadoor", sum := "c26d782b5daaa1c0b62d34d033a2df8de149d57e3f71ec076d6ba11251acbc8e", func := "dialtone/dialtonelaw23.TableSteps", spec := "tableSteps", inPlace := ["internal/abi.NoEscape", "internal/bytealg.MakeNoZero"], unfollowed := true, recurses := true, named := ["dialtone/digest.round"], apart := false, laid := [("dialtone/digest.round", laid_dialtone_digest_round)] }
def TableStepsSaid : Prop := tableStepsRow.holds Tryd.pinned (OpenSpec.ofChange tableStepsSpec)

/-- ITS FALSE NEIGHBOUR: 'it returns false'. Refute it at one input. -/
def tableStepsWrong : ChangeSpec := { name := "tableSteps", fn := fun _ => fun
  | [d1, d2] => { results := [.lit (.bool false)], args := [d1, d2] }
  | _ => none }
def TableStepsWrongFalsely : Prop := tableStepsRow.holds Tryd.pinned (OpenSpec.ofChange tableStepsWrong)

/-- 'dialtonelaw23.TableLast': WHATEVER THE INPUT: true; the input reads as it did. -/
def tableLastSpec : ChangeSpec := { name := "tableLast", fn := fun _ => fun
  | [d1, d2, d3, d4] => { results := [.lit (.bool true)], args := [d1, d2, d3, d4] }
  | _ => none }
def tableLastRow : OpenClaim := { program := "ythkihocapdfonaadoor", sum := "c26d782b5daaa1c0b62d34d033a2df8de149d57e3f71ec076d6ba11251acbc8e", func := "dialtone/dialtonelaw23.TableLast", spec := "tableLast", inPlace := ["internal/abi.NoEscape", "internal/bytealg.MakeNoZero"], unfollowed := true, recurses := true, named := ["dialtone/digest.round"], apart := false, laid := [("dialtone/digest.round", laid_dialtone_digest_round)] }
def TableLastSaid : Prop := tableLastRow.holds Tryd.pinned (OpenSpec.ofChange tableLastSpec)

/-- ITS FALSE NEIGHBOUR: 'it returns false'. Refute it at one input. -/
def tableLastWrong : ChangeSpec := { name := "tableLast", fn := fun _ => fun
  | [d1, d2, d3, d4] => { results := [.lit (.bool false)], args := [d1, d2, d3, d4] }
  | _ => none }
def TableLastWrongFalsely : Prop := tableLastRow.holds Tryd.pinned (OpenSpec.ofChange tableLastWrong)

/-- 'dialtonelaw23.TableBetween': WHATEVER THE INPUT: true; the input reads as it did. -/
def tableBetweenSpec : ChangeSpec := { name := "tableBetween", fn := fun _ => fun
  | [d1, d2, d3, d4, d5] => { results := [.lit (.bool true)], args := [d1, d2, d3, d4, d5] }
  | _ => none }
def tableBetweenRow : OpenClaim := { program := "ythkihocapdfonaadoor", sum := "c26d782b5daaa1c0b62d34d033a2df8de149d57e3f71ec076d6ba11251acbc8e", func := "dialtone/dialtonelaw23.TableBetween", spec := "tableBetween", inPlace := ["internal/abi.NoEscape", "internal/bytealg.MakeNoZero"], unfollowed := true, recurses := true, named := ["dialtone/digest.round"], apart := false, laid := [("dialtone/digest.round", laid_dialtone_digest_round)] }
def TableBetweenSaid : Prop := tableBetweenRow.holds Tryd.pinned (OpenSpec.ofChange tableBetweenSpec)

/-- ITS FALSE NEIGHBOUR: 'it returns false'. Refute it at one input. -/
def tableBetweenWrong : ChangeSpec := { name := "tableBetween", fn := fun _ => fun
  | [d1, d2, d3, d4, d5] => { results := [.lit (.bool false)], args := [d1, d2, d3, d4, d5] }
  | _ => none }
def TableBetweenWrongFalsely : Prop := tableBetweenRow.holds Tryd.pinned (OpenSpec.ofChange tableBetweenWrong)

/-- 'dialtonelaw23.TableLate': WHATEVER THE INPUT: true; the input reads as it did. -/
def tableLateSpec : ChangeSpec := { name := "tableLate", fn := fun _ => fun
  | [d1, d2, d3, d4, d5, d6, d7] => { results := [.lit (.bool true)], args := [d1, d2, d3, d4, d5, d6, d7] }
  | _ => none }
def tableLateRow : OpenClaim := { program := "ythkihocapdfonaadoor", sum := "c26d782b5daaa1c0b62d34d033a2df8de149d57e3f71ec076d6ba11251acbc8e", func := "dialtone/dialtonelaw23.TableLate", spec := "tableLate", inPlace := ["internal/abi.NoEscape", "internal/bytealg.MakeNoZero"], unfollowed := true, recurses := true, named := ["dialtone/digest.round"], apart := false, laid := [("dialtone/digest.round", laid_dialtone_digest_round)] }
def TableLateSaid : Prop := tableLateRow.holds Tryd.pinned (OpenSpec.ofChange tableLateSpec)

/-- ITS FALSE NEIGHBOUR: 'it returns false'. Refute it at one input. -/
def tableLateWrong : ChangeSpec := { name := "tableLate", fn := fun _ => fun
  | [d1, d2, d3, d4, d5, d6, d7] => { results := [.lit (.bool false)], args := [d1, d2, d3, d4, d5, d6, d7] }
  | _ => none }
def TableLateWrongFalsely : Prop := tableLateRow.holds Tryd.pinned (OpenSpec.ofChange tableLateWrong)

/-- 'dialtonelaw23.TableDiffers': WHATEVER THE INPUT: true; the input reads as it did. -/
def tableDiffersSpec : ChangeSpec := { name := "tableDiffers", fn := fun _ => fun
  | [d1, d2, d3, d4, d5] => { results := [.lit (.bool true)], args := [d1, d2, d3, d4, d5] }
  | _ => none }
def tableDiffersRow : OpenClaim := { program := "ythkihocapdfonaadoor", sum := "c26d782b5daaa1c0b62d34d033a2df8de149d57e3f71ec076d6ba11251acbc8e", func := "dialtone/dialtonelaw23.TableDiffers", spec := "tableDiffers", inPlace := ["internal/abi.NoEscape", "internal/bytealg.MakeNoZero"], unfollowed := true, recurses := true, named := ["dialtone/digest.round"], apart := false, laid := [("dialtone/digest.round", laid_dialtone_digest_round)] }
def TableDiffersSaid : Prop := tableDiffersRow.holds Tryd.pinned (OpenSpec.ofChange tableDiffersSpec)

/-- ITS FALSE NEIGHBOUR: 'it returns false'. Refute it at one input. -/
def tableDiffersWrong : ChangeSpec := { name := "tableDiffers", fn := fun _ => fun
  | [d1, d2, d3, d4, d5] => { results := [.lit (.bool false)], args := [d1, d2, d3, d4, d5] }
  | _ => none }
def TableDiffersWrongFalsely : Prop := tableDiffersRow.holds Tryd.pinned (OpenSpec.ofChange tableDiffersWrong)

/-- 'dialtonelaw23.TablePrefixes': WHATEVER THE INPUT: true; the input reads as it did. -/
def tablePrefixesSpec : ChangeSpec := { name := "tablePrefixes", fn := fun _ => fun
  | [d1, d2, d3] => { results := [.lit (.bool true)], args := [d1, d2, d3] }
  | _ => none }
def tablePrefixesRow : OpenClaim := { program := "ythkihocapdfonaadoor", sum := "c26d782b5daaa1c0b62d34d033a2df8de149d57e3f71ec076d6ba11251acbc8e", func := "dialtone/dialtonelaw23.TablePrefixes", spec := "tablePrefixes", inPlace := ["internal/abi.NoEscape", "internal/bytealg.MakeNoZero"], unfollowed := true, recurses := true, named := ["dialtone/digest.round"], apart := false, laid := [("dialtone/digest.round", laid_dialtone_digest_round)] }
def TablePrefixesSaid : Prop := tablePrefixesRow.holds Tryd.pinned (OpenSpec.ofChange tablePrefixesSpec)

/-- ITS FALSE NEIGHBOUR: 'it returns false'. Refute it at one input. -/
def tablePrefixesWrong : ChangeSpec := { name := "tablePrefixes", fn := fun _ => fun
  | [d1, d2, d3] => { results := [.lit (.bool false)], args := [d1, d2, d3] }
  | _ => none }
def TablePrefixesWrongFalsely : Prop := tablePrefixesRow.holds Tryd.pinned (OpenSpec.ofChange tablePrefixesWrong)

/-- 'dialtonelaw23.TableMoves': WHATEVER THE INPUT: true; the input reads as it did. -/
def tableMovesSpec : ChangeSpec := { name := "tableMoves", fn := fun _ => fun
  | [d1, d2, d3] => { results := [.lit (.bool true)], args := [d1, d2, d3] }
  | _ => none }
def tableMovesRow : OpenClaim := { program := "ythkihocapdfonaadoor", sum := "c26d782b5daaa1c0b62d34d033a2df8de149d57e3f71ec076d6ba11251acbc8e", func := "dialtone/dialtonelaw23.TableMoves", spec := "tableMoves", inPlace := ["internal/abi.NoEscape", "internal/bytealg.MakeNoZero"], unfollowed := true, recurses := true, named := ["dialtone/digest.round"], apart := false, laid := [("dialtone/digest.round", laid_dialtone_digest_round)] }
def TableMovesSaid : Prop := tableMovesRow.holds Tryd.pinned (OpenSpec.ofChange tableMovesSpec)

/-- ITS FALSE NEIGHBOUR: 'it returns false'. Refute it at one input. -/
def tableMovesWrong : ChangeSpec := { name := "tableMoves", fn := fun _ => fun
  | [d1, d2, d3] => { results := [.lit (.bool false)], args := [d1, d2, d3] }
  | _ => none }
def TableMovesWrongFalsely : Prop := tableMovesRow.holds Tryd.pinned (OpenSpec.ofChange tableMovesWrong)

/-- 'dialtonelaw23.TableCompacts': WHATEVER THE INPUT: true; the input reads as it did. -/
def tableCompactsSpec : ChangeSpec := { name := "tableCompacts", fn := fun _ => fun
  | [d] => { results := [.lit (.bool true)], args := [d] }
  | _ => none }
def tableCompactsRow : OpenClaim := { program := "ythkihocapdfonaadoor", sum := "c26d782b5daaa1c0b62d34d033a2df8de149d57e3f71ec076d6ba11251acbc8e", func := "dialtone/dialtonelaw23.TableCompacts", spec := "tableCompacts", inPlace := ["internal/abi.NoEscape", "internal/bytealg.MakeNoZero"], unfollowed := true, recurses := true, named := ["dialtone/digest.round"], apart := false, laid := [("dialtone/digest.round", laid_dialtone_digest_round)] }
def TableCompactsSaid : Prop := tableCompactsRow.holds Tryd.pinned (OpenSpec.ofChange tableCompactsSpec)

/-- ITS FALSE NEIGHBOUR: 'it returns false'. Refute it at one input. -/
def tableCompactsWrong : ChangeSpec := { name := "tableCompacts", fn := fun _ => fun
  | [d] => { results := [.lit (.bool false)], args := [d] }
  | _ => none }
def TableCompactsWrongFalsely : Prop := tableCompactsRow.holds Tryd.pinned (OpenSpec.ofChange tableCompactsWrong)

/- THE SECOND FORM. 'bulk': how many values and letters a reading holds, each counted each time it is reached (what is shared counts as often as it is met; a slice's spare places count too). A statement '..UptoSaid' is the law's where the arguments, and the package variables that the reading takes, are together of bulk at most 1048576: NARROWER than '..Said'. Prove '..Said' where nothing that the law and all that it calls make is longer than what came in: it says more and counts as full. Else prove '..UptoSaid'. A law counts once. -/
mutual
def uptoBulk {H : Type} : DataW H → Nat
  | .lit (.string bytes) => bytes.length + 1
  | .lit _ => 1
  | .nil => 1
  | .ptr d => uptoBulk d + 1
  | .slice elems spare => uptoBulkAll elems + uptoBulkAll spare + 1
  | .agg parts => uptoBulkAll parts + 1
  | .iface _ d => uptoBulk d + 1
  | .map entries => uptoBulkEntries entries + 1
  | .held _ => 1
def uptoBulkAll {H : Type} : List (DataW H) → Nat
  | [] => 0
  | d :: r => uptoBulk d + uptoBulkAll r
def uptoBulkEntries {H : Type} : List (Lit × DataW H) → Nat
  | [] => 0
  | x :: r => uptoBulkEntry x + uptoBulkEntries r
def uptoBulkEntry {H : Type} : Lit × DataW H → Nat
  | (.string bytes, d) => bytes.length + uptoBulk d + 1
  | (_, d) => uptoBulk d + 1
 end
def uptoSmall : (H : Type) → List (DataW H) → Bool := fun _ ds => decide (uptoBulkAll ds ≤ 1048576)
def OpenSpec.upto (s : _root_.Go.ChangeSpec) : _root_.Go.OpenSpec := { _root_.Go.OpenSpec.ofChange s with cond := some uptoSmall }

/-- 'dialtonelaw23.TableSteps', WHERE WHAT IT READS IS OF BULK AT MOST 1048576: true; the input reads as it did. -/
def tableStepsUptoRow : OpenClaim := { program := "ythkihocapdfonaadoor", sum := "c26d782b5daaa1c0b62d34d033a2df8de149d57e3f71ec076d6ba11251acbc8e", func := "dialtone/dialtonelaw23.TableSteps", spec := "tableSteps", inPlace := ["internal/abi.NoEscape", "internal/bytealg.MakeNoZero"], unfollowed := true, recurses := true, named := ["dialtone/digest.round"], apart := false, laid := [("dialtone/digest.round", laid_dialtone_digest_round)], narrowed := true }
def TableStepsUptoSaid : Prop := tableStepsUptoRow.holds Tryd.pinned (OpenSpec.upto tableStepsSpec)

/-- 'dialtonelaw23.TableLast', WHERE WHAT IT READS IS OF BULK AT MOST 1048576: true; the input reads as it did. -/
def tableLastUptoRow : OpenClaim := { program := "ythkihocapdfonaadoor", sum := "c26d782b5daaa1c0b62d34d033a2df8de149d57e3f71ec076d6ba11251acbc8e", func := "dialtone/dialtonelaw23.TableLast", spec := "tableLast", inPlace := ["internal/abi.NoEscape", "internal/bytealg.MakeNoZero"], unfollowed := true, recurses := true, named := ["dialtone/digest.round"], apart := false, laid := [("dialtone/digest.round", laid_dialtone_digest_round)], narrowed := true }
def TableLastUptoSaid : Prop := tableLastUptoRow.holds Tryd.pinned (OpenSpec.upto tableLastSpec)

/-- 'dialtonelaw23.TableBetween', WHERE WHAT IT READS IS OF BULK AT MOST 1048576: true; the input reads as it did. -/
def tableBetweenUptoRow : OpenClaim := { program := "ythkihocapdfonaadoor", sum := "c26d782b5daaa1c0b62d34d033a2df8de149d57e3f71ec076d6ba11251acbc8e", func := "dialtone/dialtonelaw23.TableBetween", spec := "tableBetween", inPlace := ["internal/abi.NoEscape", "internal/bytealg.MakeNoZero"], unfollowed := true, recurses := true, named := ["dialtone/digest.round"], apart := false, laid := [("dialtone/digest.round", laid_dialtone_digest_round)], narrowed := true }
def TableBetweenUptoSaid : Prop := tableBetweenUptoRow.holds Tryd.pinned (OpenSpec.upto tableBetweenSpec)

/-- 'dialtonelaw23.TableLate', WHERE WHAT IT READS IS OF BULK AT MOST 1048576: true; the input reads as it did. -/
def tableLateUptoRow : OpenClaim := { program := "ythkihocapdfonaadoor", sum := "c26d782b5daaa1c0b62d34d033a2df8de149d57e3f71ec076d6ba11251acbc8e", func := "dialtone/dialtonelaw23.TableLate", spec := "tableLate", inPlace := ["internal/abi.NoEscape", "internal/bytealg.MakeNoZero"], unfollowed := true, recurses := true, named := ["dialtone/digest.round"], apart := false, laid := [("dialtone/digest.round", laid_dialtone_digest_round)], narrowed := true }
def TableLateUptoSaid : Prop := tableLateUptoRow.holds Tryd.pinned (OpenSpec.upto tableLateSpec)

/-- 'dialtonelaw23.TableDiffers', WHERE WHAT IT READS IS OF BULK AT MOST 1048576: true; the input reads as it did. -/
def tableDiffersUptoRow : OpenClaim := { program := "ythkihocapdfonaadoor", sum := "c26d782b5daaa1c0b62d34d033a2df8de149d57e3f71ec076d6ba11251acbc8e", func := "dialtone/dialtonelaw23.TableDiffers", spec := "tableDiffers", inPlace := ["internal/abi.NoEscape", "internal/bytealg.MakeNoZero"], unfollowed := true, recurses := true, named := ["dialtone/digest.round"], apart := false, laid := [("dialtone/digest.round", laid_dialtone_digest_round)], narrowed := true }
def TableDiffersUptoSaid : Prop := tableDiffersUptoRow.holds Tryd.pinned (OpenSpec.upto tableDiffersSpec)

/-- 'dialtonelaw23.TablePrefixes', WHERE WHAT IT READS IS OF BULK AT MOST 1048576: true; the input reads as it did. -/
def tablePrefixesUptoRow : OpenClaim := { program := "ythkihocapdfonaadoor", sum := "c26d782b5daaa1c0b62d34d033a2df8de149d57e3f71ec076d6ba11251acbc8e", func := "dialtone/dialtonelaw23.TablePrefixes", spec := "tablePrefixes", inPlace := ["internal/abi.NoEscape", "internal/bytealg.MakeNoZero"], unfollowed := true, recurses := true, named := ["dialtone/digest.round"], apart := false, laid := [("dialtone/digest.round", laid_dialtone_digest_round)], narrowed := true }
def TablePrefixesUptoSaid : Prop := tablePrefixesUptoRow.holds Tryd.pinned (OpenSpec.upto tablePrefixesSpec)

/-- 'dialtonelaw23.TableMoves', WHERE WHAT IT READS IS OF BULK AT MOST 1048576: true; the input reads as it did. -/
def tableMovesUptoRow : OpenClaim := { program := "ythkihocapdfonaadoor", sum := "c26d782b5daaa1c0b62d34d033a2df8de149d57e3f71ec076d6ba11251acbc8e", func := "dialtone/dialtonelaw23.TableMoves", spec := "tableMoves", inPlace := ["internal/abi.NoEscape", "internal/bytealg.MakeNoZero"], unfollowed := true, recurses := true, named := ["dialtone/digest.round"], apart := false, laid := [("dialtone/digest.round", laid_dialtone_digest_round)], narrowed := true }
def TableMovesUptoSaid : Prop := tableMovesUptoRow.holds Tryd.pinned (OpenSpec.upto tableMovesSpec)

/-- 'dialtonelaw23.TableCompacts', WHERE WHAT IT READS IS OF BULK AT MOST 1048576: true; the input reads as it did. -/
def tableCompactsUptoRow : OpenClaim := { program := "ythkihocapdfonaadoor", sum := "c26d782b5daaa1c0b62d34d033a2df8de149d57e3f71ec076d6ba11251acbc8e", func := "dialtone/dialtonelaw23.TableCompacts", spec := "tableCompacts", inPlace := ["internal/abi.NoEscape", "internal/bytealg.MakeNoZero"], unfollowed := true, recurses := true, named := ["dialtone/digest.round"], apart := false, laid := [("dialtone/digest.round", laid_dialtone_digest_round)], narrowed := true }
def TableCompactsUptoSaid : Prop := tableCompactsUptoRow.holds Tryd.pinned (OpenSpec.upto tableCompactsSpec)

end Rows
end Go.Proofs.YthkihocapdfonaaDoor

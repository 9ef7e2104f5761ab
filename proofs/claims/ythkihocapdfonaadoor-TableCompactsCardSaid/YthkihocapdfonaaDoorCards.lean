/-
  DERIVED. GIVEN WITH THE SEED: THE CARDS: each row of YthkihocapdfonaaDoorRows.lean that lists a variable, with what it lists TIED to the program's text (the seventh form; the later family's looks); each row that meets fmt, with fmt's text TOLD by the authors' own Lean function (tested against real Go, not proved from fmt's source: count such statements apart). THE CARD IS WHAT COUNTS. Prove the row's statement (the work); the ties are given (YthkihocapdfonaaDoorTie.lean); close each card by the builder's one call (the guide's Derived/Test/ToyasCard.lean, 'card_holds'). Laid BY PROGRAM, IN A SANDBOX (cutbox-door.mjs). By AI agents, Wed Nov 11 2026. No macro, syntax, notation, axiom, sorry.
-/
import Derived.Test.YthkihocapdfonaaDoorRows
import GoSem.ClaimSeven
namespace Go.Proofs.YthkihocapdfonaaDoor
namespace Rows

/-- THE TIED CARD OF 'dialtonelaw23.TableSteps'. -/
def tableStepsCard : Claim7 := { stood := { row := tableStepsRow, standIns := [], harness := (true, "a7fbe88a3d6af073a3870589c160493439a8c551a37f68fc5a20ba86f7e405cd"), looks := false }, kinds := [], alts := [], laidByText := true, laidKinds := [.data], laidTests := true, laidLooks := .later }
def TableStepsCardSaid : Prop := Claim7.holds Tryd.pinned (.plain (OpenSpec.ofChange tableStepsSpec)) tableStepsCard

/-- THE TIED CARD OF 'dialtonelaw23.TableLast'. -/
def tableLastCard : Claim7 := { stood := { row := tableLastRow, standIns := [], harness := (true, "a7fbe88a3d6af073a3870589c160493439a8c551a37f68fc5a20ba86f7e405cd"), looks := false }, kinds := [], alts := [], laidByText := true, laidKinds := [.data], laidTests := true, laidLooks := .later }
def TableLastCardSaid : Prop := Claim7.holds Tryd.pinned (.plain (OpenSpec.ofChange tableLastSpec)) tableLastCard

/-- THE TIED CARD OF 'dialtonelaw23.TableBetween'. -/
def tableBetweenCard : Claim7 := { stood := { row := tableBetweenRow, standIns := [], harness := (true, "a7fbe88a3d6af073a3870589c160493439a8c551a37f68fc5a20ba86f7e405cd"), looks := false }, kinds := [], alts := [], laidByText := true, laidKinds := [.data], laidTests := true, laidLooks := .later }
def TableBetweenCardSaid : Prop := Claim7.holds Tryd.pinned (.plain (OpenSpec.ofChange tableBetweenSpec)) tableBetweenCard

/-- THE TIED CARD OF 'dialtonelaw23.TableLate'. -/
def tableLateCard : Claim7 := { stood := { row := tableLateRow, standIns := [], harness := (true, "a7fbe88a3d6af073a3870589c160493439a8c551a37f68fc5a20ba86f7e405cd"), looks := false }, kinds := [], alts := [], laidByText := true, laidKinds := [.data], laidTests := true, laidLooks := .later }
def TableLateCardSaid : Prop := Claim7.holds Tryd.pinned (.plain (OpenSpec.ofChange tableLateSpec)) tableLateCard

/-- THE TIED CARD OF 'dialtonelaw23.TableDiffers'. -/
def tableDiffersCard : Claim7 := { stood := { row := tableDiffersRow, standIns := [], harness := (true, "a7fbe88a3d6af073a3870589c160493439a8c551a37f68fc5a20ba86f7e405cd"), looks := false }, kinds := [], alts := [], laidByText := true, laidKinds := [.data], laidTests := true, laidLooks := .later }
def TableDiffersCardSaid : Prop := Claim7.holds Tryd.pinned (.plain (OpenSpec.ofChange tableDiffersSpec)) tableDiffersCard

/-- THE TIED CARD OF 'dialtonelaw23.TablePrefixes'. -/
def tablePrefixesCard : Claim7 := { stood := { row := tablePrefixesRow, standIns := [], harness := (true, "a7fbe88a3d6af073a3870589c160493439a8c551a37f68fc5a20ba86f7e405cd"), looks := false }, kinds := [], alts := [], laidByText := true, laidKinds := [.data], laidTests := true, laidLooks := .later }
def TablePrefixesCardSaid : Prop := Claim7.holds Tryd.pinned (.plain (OpenSpec.ofChange tablePrefixesSpec)) tablePrefixesCard

/-- THE TIED CARD OF 'dialtonelaw23.TableMoves'. -/
def tableMovesCard : Claim7 := { stood := { row := tableMovesRow, standIns := [], harness := (true, "a7fbe88a3d6af073a3870589c160493439a8c551a37f68fc5a20ba86f7e405cd"), looks := false }, kinds := [], alts := [], laidByText := true, laidKinds := [.data], laidTests := true, laidLooks := .later }
def TableMovesCardSaid : Prop := Claim7.holds Tryd.pinned (.plain (OpenSpec.ofChange tableMovesSpec)) tableMovesCard

/-- THE TIED CARD OF 'dialtonelaw23.TableCompacts'. -/
def tableCompactsCard : Claim7 := { stood := { row := tableCompactsRow, standIns := [], harness := (true, "a7fbe88a3d6af073a3870589c160493439a8c551a37f68fc5a20ba86f7e405cd"), looks := false }, kinds := [], alts := [], laidByText := true, laidKinds := [.data], laidTests := true, laidLooks := .later }
def TableCompactsCardSaid : Prop := Claim7.holds Tryd.pinned (.plain (OpenSpec.ofChange tableCompactsSpec)) tableCompactsCard

/-- THE SECOND FORM's CARD OF 'dialtonelaw23.TableSteps'. -/
def tableStepsUptoCard : Claim7 := { stood := { row := tableStepsUptoRow, standIns := [], harness := (true, "a7fbe88a3d6af073a3870589c160493439a8c551a37f68fc5a20ba86f7e405cd"), looks := false }, kinds := [], alts := [], laidByText := true, laidKinds := [.data], laidTests := true, laidLooks := .later }
def TableStepsUptoCardSaid : Prop := Claim7.holds Tryd.pinned (.plain (OpenSpec.upto tableStepsSpec)) tableStepsUptoCard

/-- THE SECOND FORM's CARD OF 'dialtonelaw23.TableLast'. -/
def tableLastUptoCard : Claim7 := { stood := { row := tableLastUptoRow, standIns := [], harness := (true, "a7fbe88a3d6af073a3870589c160493439a8c551a37f68fc5a20ba86f7e405cd"), looks := false }, kinds := [], alts := [], laidByText := true, laidKinds := [.data], laidTests := true, laidLooks := .later }
def TableLastUptoCardSaid : Prop := Claim7.holds Tryd.pinned (.plain (OpenSpec.upto tableLastSpec)) tableLastUptoCard

/-- THE SECOND FORM's CARD OF 'dialtonelaw23.TableBetween'. -/
def tableBetweenUptoCard : Claim7 := { stood := { row := tableBetweenUptoRow, standIns := [], harness := (true, "a7fbe88a3d6af073a3870589c160493439a8c551a37f68fc5a20ba86f7e405cd"), looks := false }, kinds := [], alts := [], laidByText := true, laidKinds := [.data], laidTests := true, laidLooks := .later }
def TableBetweenUptoCardSaid : Prop := Claim7.holds Tryd.pinned (.plain (OpenSpec.upto tableBetweenSpec)) tableBetweenUptoCard

/-- THE SECOND FORM's CARD OF 'dialtonelaw23.TableLate'. -/
def tableLateUptoCard : Claim7 := { stood := { row := tableLateUptoRow, standIns := [], harness := (true, "a7fbe88a3d6af073a3870589c160493439a8c551a37f68fc5a20ba86f7e405cd"), looks := false }, kinds := [], alts := [], laidByText := true, laidKinds := [.data], laidTests := true, laidLooks := .later }
def TableLateUptoCardSaid : Prop := Claim7.holds Tryd.pinned (.plain (OpenSpec.upto tableLateSpec)) tableLateUptoCard

/-- THE SECOND FORM's CARD OF 'dialtonelaw23.TableDiffers'. -/
def tableDiffersUptoCard : Claim7 := { stood := { row := tableDiffersUptoRow, standIns := [], harness := (true, "a7fbe88a3d6af073a3870589c160493439a8c551a37f68fc5a20ba86f7e405cd"), looks := false }, kinds := [], alts := [], laidByText := true, laidKinds := [.data], laidTests := true, laidLooks := .later }
def TableDiffersUptoCardSaid : Prop := Claim7.holds Tryd.pinned (.plain (OpenSpec.upto tableDiffersSpec)) tableDiffersUptoCard

/-- THE SECOND FORM's CARD OF 'dialtonelaw23.TablePrefixes'. -/
def tablePrefixesUptoCard : Claim7 := { stood := { row := tablePrefixesUptoRow, standIns := [], harness := (true, "a7fbe88a3d6af073a3870589c160493439a8c551a37f68fc5a20ba86f7e405cd"), looks := false }, kinds := [], alts := [], laidByText := true, laidKinds := [.data], laidTests := true, laidLooks := .later }
def TablePrefixesUptoCardSaid : Prop := Claim7.holds Tryd.pinned (.plain (OpenSpec.upto tablePrefixesSpec)) tablePrefixesUptoCard

/-- THE SECOND FORM's CARD OF 'dialtonelaw23.TableMoves'. -/
def tableMovesUptoCard : Claim7 := { stood := { row := tableMovesUptoRow, standIns := [], harness := (true, "a7fbe88a3d6af073a3870589c160493439a8c551a37f68fc5a20ba86f7e405cd"), looks := false }, kinds := [], alts := [], laidByText := true, laidKinds := [.data], laidTests := true, laidLooks := .later }
def TableMovesUptoCardSaid : Prop := Claim7.holds Tryd.pinned (.plain (OpenSpec.upto tableMovesSpec)) tableMovesUptoCard

/-- THE SECOND FORM's CARD OF 'dialtonelaw23.TableCompacts'. -/
def tableCompactsUptoCard : Claim7 := { stood := { row := tableCompactsUptoRow, standIns := [], harness := (true, "a7fbe88a3d6af073a3870589c160493439a8c551a37f68fc5a20ba86f7e405cd"), looks := false }, kinds := [], alts := [], laidByText := true, laidKinds := [.data], laidTests := true, laidLooks := .later }
def TableCompactsUptoCardSaid : Prop := Claim7.holds Tryd.pinned (.plain (OpenSpec.upto tableCompactsSpec)) tableCompactsUptoCard
end Rows
end Go.Proofs.YthkihocapdfonaaDoor

/-
  DERIVED. GIVEN WITH THE SEED: THE CARDS: each row of YthkihocapdfonaaGreatDoorRows.lean that lists a variable, with what it lists TIED to the program's text (the seventh form; the later family's looks); each row that meets fmt, with fmt's text TOLD by the authors' own Lean function (tested against real Go, not proved from fmt's source: count such statements apart). THE CARD IS WHAT COUNTS. Prove the row's statement (the work); the ties are given (YthkihocapdfonaaGreatDoorTie.lean); close each card by the builder's one call (the guide's Derived/Test/ToyasCard.lean, 'card_holds'). Laid BY PROGRAM, IN A SANDBOX (cutbox-door.mjs). By AI agents, Wed Nov 11 2026. No macro, syntax, notation, axiom, sorry.
-/
import Derived.Test.YthkihocapdfonaaGreatDoorRows
import GoSem.ClaimSeven
namespace Go.Proofs.YthkihocapdfonaaGreatDoor
namespace Rows

/-- THE TIED CARD OF 'dialtonelaw23.TableHeads'. -/
def tableHeadsCard : Claim7 := { stood := { row := tableHeadsRow, standIns := [], harness := (true, "4c8f8c949bc4f2625d4fe47a2fd5753e9a349a40582759a62b7e2e7c484e30b1"), looks := false }, kinds := [], alts := [], laidByText := true, laidKinds := [.data], laidTests := true, laidLooks := .later }
def TableHeadsCardSaid : Prop := Claim7.holds Tryz.pinned (.plain (OpenSpec.ofChange tableHeadsSpec)) tableHeadsCard

/-- THE TIED CARD OF 'dialtonelaw23.TableMatchesReference'. -/
def tableMatchesReferenceCard : Claim7 := { stood := { row := tableMatchesReferenceRow, standIns := [], harness := (true, "4c8f8c949bc4f2625d4fe47a2fd5753e9a349a40582759a62b7e2e7c484e30b1"), looks := false }, kinds := [], alts := [], laidByText := true, laidKinds := [.data], laidTests := true, laidLooks := .later }
def TableMatchesReferenceCardSaid : Prop := Claim7.holds Tryz.pinned (.plain (OpenSpec.ofChange tableMatchesReferenceSpec)) tableMatchesReferenceCard

/-- THE SECOND FORM's CARD OF 'dialtonelaw23.TableHeads'. -/
def tableHeadsUptoCard : Claim7 := { stood := { row := tableHeadsUptoRow, standIns := [], harness := (true, "4c8f8c949bc4f2625d4fe47a2fd5753e9a349a40582759a62b7e2e7c484e30b1"), looks := false }, kinds := [], alts := [], laidByText := true, laidKinds := [.data], laidTests := true, laidLooks := .later }
def TableHeadsUptoCardSaid : Prop := Claim7.holds Tryz.pinned (.plain (OpenSpec.upto tableHeadsSpec)) tableHeadsUptoCard

/-- THE SECOND FORM's CARD OF 'dialtonelaw23.TableMatchesReference'. -/
def tableMatchesReferenceUptoCard : Claim7 := { stood := { row := tableMatchesReferenceUptoRow, standIns := [], harness := (true, "4c8f8c949bc4f2625d4fe47a2fd5753e9a349a40582759a62b7e2e7c484e30b1"), looks := false }, kinds := [], alts := [], laidByText := true, laidKinds := [.data], laidTests := true, laidLooks := .later }
def TableMatchesReferenceUptoCardSaid : Prop := Claim7.holds Tryz.pinned (.plain (OpenSpec.upto tableMatchesReferenceSpec)) tableMatchesReferenceUptoCard
end Rows
end Go.Proofs.YthkihocapdfonaaGreatDoor

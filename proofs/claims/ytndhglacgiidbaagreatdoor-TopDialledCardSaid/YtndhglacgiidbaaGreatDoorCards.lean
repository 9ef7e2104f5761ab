/-
  DERIVED. GIVEN WITH THE SEED: THE CARDS: each row of YtndhglacgiidbaaGreatDoorRows.lean that lists a variable, with what it lists TIED to the program's text (the seventh form; the later family's looks); each row that meets fmt, with fmt's text TOLD by the authors' own Lean function (tested against real Go, not proved from fmt's source: count such statements apart). THE CARD IS WHAT COUNTS. Prove the row's statement (the work); the ties are given (YtndhglacgiidbaaGreatDoorTie.lean); close each card by the builder's one call (the guide's Derived/Test/ToyasCard.lean, 'card_holds'). Laid BY PROGRAM, IN A SANDBOX (cutbox-door.mjs). By AI agents, Wed Nov 11 2026. No macro, syntax, notation, axiom, sorry.
-/
import Derived.Test.YtndhglacgiidbaaGreatDoorRows
import GoSem.ClaimSeven
namespace Go.Proofs.YtndhglacgiidbaaGreatDoor
namespace Rows

/-- THE TIED CARD OF 'dialtonetop.TopDialled'. -/
def topDialledCard : Claim7 := { stood := { row := topDialledRow, standIns := [], harness := (true, "b3fc8c976cdf61439cc6cc311d04f0c039f2159e44d183da1da704034143103b"), looks := true }, kinds := [], alts := [], laidByText := true, laidKinds := [.data, .data, .data, .data, .sentinel, .sentinel, .pinned], laidTests := true, laidLooks := .later }
def TopDialledCardSaid : Prop := Claim7.holds Tryz.pinned (.plain (OpenSpec.ofChange topDialledSpec)) topDialledCard

/-- THE SECOND FORM's CARD OF 'dialtonetop.TopDialled'. -/
def topDialledUptoCard : Claim7 := { stood := { row := topDialledUptoRow, standIns := [], harness := (true, "b3fc8c976cdf61439cc6cc311d04f0c039f2159e44d183da1da704034143103b"), looks := true }, kinds := [], alts := [], laidByText := true, laidKinds := [.data, .data, .data, .data, .sentinel, .sentinel, .pinned], laidTests := true, laidLooks := .later }
def TopDialledUptoCardSaid : Prop := Claim7.holds Tryz.pinned (.plain (OpenSpec.upto topDialledSpec)) topDialledUptoCard
end Rows
end Go.Proofs.YtndhglacgiidbaaGreatDoor

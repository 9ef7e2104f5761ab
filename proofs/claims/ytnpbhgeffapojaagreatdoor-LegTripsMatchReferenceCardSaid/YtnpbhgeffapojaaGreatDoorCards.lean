/-
  DERIVED. GIVEN WITH THE SEED: THE CARDS: each row of YtnpbhgeffapojaaGreatDoorRows.lean that lists a variable, with what it lists TIED to the program's text (the seventh form; the later family's looks); each row that meets fmt, with fmt's text TOLD by the authors' own Lean function (tested against real Go, not proved from fmt's source: count such statements apart). THE CARD IS WHAT COUNTS. Prove the row's statement (the work); the ties are given (YtnpbhgeffapojaaGreatDoorTie.lean); close each card by the builder's one call (the guide's Derived/Test/ToyasCard.lean, 'card_holds'). Laid BY PROGRAM, IN A SANDBOX (cutbox-door.mjs). By AI agents, Wed Nov 11 2026. No macro, syntax, notation, axiom, sorry.
-/
import Derived.Test.YtnpbhgeffapojaaGreatDoorRows
import GoSem.ClaimSeven
namespace Go.Proofs.YtnpbhgeffapojaaGreatDoor
namespace Rows

/-- THE TIED CARD OF 'dialtonelaw38.LegMatchesReference'. -/
def legMatchesReferenceCard : Claim7 := { stood := { row := legMatchesReferenceRow, standIns := [], harness := (true, "43ff5d6d438086e88ed6ccc25955440aba0cd482b19469407fb38ba16744b6d5"), looks := false }, kinds := [], alts := [], laidByText := true, laidKinds := [.data], laidTests := true, laidLooks := .later }
def LegMatchesReferenceCardSaid : Prop := Claim7.holds Tryz.pinned (.plain (OpenSpec.ofChange legMatchesReferenceSpec)) legMatchesReferenceCard

/-- THE TIED CARD OF 'dialtonelaw38.LegTripsMatchReference'. -/
def legTripsMatchReferenceCard : Claim7 := { stood := { row := legTripsMatchReferenceRow, standIns := [], harness := (true, "43ff5d6d438086e88ed6ccc25955440aba0cd482b19469407fb38ba16744b6d5"), looks := false }, kinds := [], alts := [], laidByText := true, laidKinds := [.data], laidTests := true, laidLooks := .later }
def LegTripsMatchReferenceCardSaid : Prop := Claim7.holds Tryz.pinned (.plain (OpenSpec.ofChange legTripsMatchReferenceSpec)) legTripsMatchReferenceCard

/-- THE TIED CARD OF 'dialtonelaw38.LegSound'. -/
def legSoundCard : Claim7 := { stood := { row := legSoundRow, standIns := [], harness := (true, "43ff5d6d438086e88ed6ccc25955440aba0cd482b19469407fb38ba16744b6d5"), looks := false }, kinds := [], alts := [], laidByText := true, laidKinds := [.data], laidTests := true, laidLooks := .later }
def LegSoundCardSaid : Prop := Claim7.holds Tryz.pinned (.plain (OpenSpec.ofChange legSoundSpec)) legSoundCard

/-- THE TIED CARD OF 'dialtonelaw38.LegGood'. -/
def legGoodCard : Claim7 := { stood := { row := legGoodRow, standIns := [], harness := (true, "43ff5d6d438086e88ed6ccc25955440aba0cd482b19469407fb38ba16744b6d5"), looks := false }, kinds := [], alts := [], laidByText := true, laidKinds := [.data], laidTests := true, laidLooks := .later }
def LegGoodCardSaid : Prop := Claim7.holds Tryz.pinned (.plain (OpenSpec.ofChange legGoodSpec)) legGoodCard

/-- THE TIED CARD OF 'dialtonelaw38.LegPays'. -/
def legPaysCard : Claim7 := { stood := { row := legPaysRow, standIns := [], harness := (true, "43ff5d6d438086e88ed6ccc25955440aba0cd482b19469407fb38ba16744b6d5"), looks := false }, kinds := [], alts := [], laidByText := true, laidKinds := [.data], laidTests := true, laidLooks := .later }
def LegPaysCardSaid : Prop := Claim7.holds Tryz.pinned (.plain (OpenSpec.ofChange legPaysSpec)) legPaysCard

/-- THE TIED CARD OF 'dialtonelaw38.LegAmounts'. -/
def legAmountsCard : Claim7 := { stood := { row := legAmountsRow, standIns := [], harness := (true, "43ff5d6d438086e88ed6ccc25955440aba0cd482b19469407fb38ba16744b6d5"), looks := false }, kinds := [], alts := [], laidByText := true, laidKinds := [.data], laidTests := true, laidLooks := .later }
def LegAmountsCardSaid : Prop := Claim7.holds Tryz.pinned (.plain (OpenSpec.ofChange legAmountsSpec)) legAmountsCard

/-- THE TIED CARD OF 'dialtonelaw38.LegContradicts'. -/
def legContradictsCard : Claim7 := { stood := { row := legContradictsRow, standIns := [], harness := (true, "43ff5d6d438086e88ed6ccc25955440aba0cd482b19469407fb38ba16744b6d5"), looks := false }, kinds := [], alts := [], laidByText := true, laidKinds := [.data], laidTests := true, laidLooks := .later }
def LegContradictsCardSaid : Prop := Claim7.holds Tryz.pinned (.plain (OpenSpec.ofChange legContradictsSpec)) legContradictsCard

/-- THE TIED CARD OF 'dialtonelaw38.LegFirst'. -/
def legFirstCard : Claim7 := { stood := { row := legFirstRow, standIns := [], harness := (true, "43ff5d6d438086e88ed6ccc25955440aba0cd482b19469407fb38ba16744b6d5"), looks := false }, kinds := [], alts := [], laidByText := true, laidKinds := [.data], laidTests := true, laidLooks := .later }
def LegFirstCardSaid : Prop := Claim7.holds Tryz.pinned (.plain (OpenSpec.ofChange legFirstSpec)) legFirstCard

/-- THE TIED CARD OF 'dialtonelaw38.LegRoutes'. -/
def legRoutesCard : Claim7 := { stood := { row := legRoutesRow, standIns := [], harness := (true, "43ff5d6d438086e88ed6ccc25955440aba0cd482b19469407fb38ba16744b6d5"), looks := false }, kinds := [], alts := [], laidByText := true, laidKinds := [.data], laidTests := true, laidLooks := .later }
def LegRoutesCardSaid : Prop := Claim7.holds Tryz.pinned (.plain (OpenSpec.ofChange legRoutesSpec)) legRoutesCard

/-- THE SECOND FORM's CARD OF 'dialtonelaw38.LegMatchesReference'. -/
def legMatchesReferenceUptoCard : Claim7 := { stood := { row := legMatchesReferenceUptoRow, standIns := [], harness := (true, "43ff5d6d438086e88ed6ccc25955440aba0cd482b19469407fb38ba16744b6d5"), looks := false }, kinds := [], alts := [], laidByText := true, laidKinds := [.data], laidTests := true, laidLooks := .later }
def LegMatchesReferenceUptoCardSaid : Prop := Claim7.holds Tryz.pinned (.plain (OpenSpec.upto legMatchesReferenceSpec)) legMatchesReferenceUptoCard

/-- THE SECOND FORM's CARD OF 'dialtonelaw38.LegTripsMatchReference'. -/
def legTripsMatchReferenceUptoCard : Claim7 := { stood := { row := legTripsMatchReferenceUptoRow, standIns := [], harness := (true, "43ff5d6d438086e88ed6ccc25955440aba0cd482b19469407fb38ba16744b6d5"), looks := false }, kinds := [], alts := [], laidByText := true, laidKinds := [.data], laidTests := true, laidLooks := .later }
def LegTripsMatchReferenceUptoCardSaid : Prop := Claim7.holds Tryz.pinned (.plain (OpenSpec.upto legTripsMatchReferenceSpec)) legTripsMatchReferenceUptoCard

/-- THE SECOND FORM's CARD OF 'dialtonelaw38.LegSound'. -/
def legSoundUptoCard : Claim7 := { stood := { row := legSoundUptoRow, standIns := [], harness := (true, "43ff5d6d438086e88ed6ccc25955440aba0cd482b19469407fb38ba16744b6d5"), looks := false }, kinds := [], alts := [], laidByText := true, laidKinds := [.data], laidTests := true, laidLooks := .later }
def LegSoundUptoCardSaid : Prop := Claim7.holds Tryz.pinned (.plain (OpenSpec.upto legSoundSpec)) legSoundUptoCard

/-- THE SECOND FORM's CARD OF 'dialtonelaw38.LegGood'. -/
def legGoodUptoCard : Claim7 := { stood := { row := legGoodUptoRow, standIns := [], harness := (true, "43ff5d6d438086e88ed6ccc25955440aba0cd482b19469407fb38ba16744b6d5"), looks := false }, kinds := [], alts := [], laidByText := true, laidKinds := [.data], laidTests := true, laidLooks := .later }
def LegGoodUptoCardSaid : Prop := Claim7.holds Tryz.pinned (.plain (OpenSpec.upto legGoodSpec)) legGoodUptoCard

/-- THE SECOND FORM's CARD OF 'dialtonelaw38.LegPays'. -/
def legPaysUptoCard : Claim7 := { stood := { row := legPaysUptoRow, standIns := [], harness := (true, "43ff5d6d438086e88ed6ccc25955440aba0cd482b19469407fb38ba16744b6d5"), looks := false }, kinds := [], alts := [], laidByText := true, laidKinds := [.data], laidTests := true, laidLooks := .later }
def LegPaysUptoCardSaid : Prop := Claim7.holds Tryz.pinned (.plain (OpenSpec.upto legPaysSpec)) legPaysUptoCard

/-- THE SECOND FORM's CARD OF 'dialtonelaw38.LegAmounts'. -/
def legAmountsUptoCard : Claim7 := { stood := { row := legAmountsUptoRow, standIns := [], harness := (true, "43ff5d6d438086e88ed6ccc25955440aba0cd482b19469407fb38ba16744b6d5"), looks := false }, kinds := [], alts := [], laidByText := true, laidKinds := [.data], laidTests := true, laidLooks := .later }
def LegAmountsUptoCardSaid : Prop := Claim7.holds Tryz.pinned (.plain (OpenSpec.upto legAmountsSpec)) legAmountsUptoCard

/-- THE SECOND FORM's CARD OF 'dialtonelaw38.LegContradicts'. -/
def legContradictsUptoCard : Claim7 := { stood := { row := legContradictsUptoRow, standIns := [], harness := (true, "43ff5d6d438086e88ed6ccc25955440aba0cd482b19469407fb38ba16744b6d5"), looks := false }, kinds := [], alts := [], laidByText := true, laidKinds := [.data], laidTests := true, laidLooks := .later }
def LegContradictsUptoCardSaid : Prop := Claim7.holds Tryz.pinned (.plain (OpenSpec.upto legContradictsSpec)) legContradictsUptoCard

/-- THE SECOND FORM's CARD OF 'dialtonelaw38.LegFirst'. -/
def legFirstUptoCard : Claim7 := { stood := { row := legFirstUptoRow, standIns := [], harness := (true, "43ff5d6d438086e88ed6ccc25955440aba0cd482b19469407fb38ba16744b6d5"), looks := false }, kinds := [], alts := [], laidByText := true, laidKinds := [.data], laidTests := true, laidLooks := .later }
def LegFirstUptoCardSaid : Prop := Claim7.holds Tryz.pinned (.plain (OpenSpec.upto legFirstSpec)) legFirstUptoCard

/-- THE SECOND FORM's CARD OF 'dialtonelaw38.LegRoutes'. -/
def legRoutesUptoCard : Claim7 := { stood := { row := legRoutesUptoRow, standIns := [], harness := (true, "43ff5d6d438086e88ed6ccc25955440aba0cd482b19469407fb38ba16744b6d5"), looks := false }, kinds := [], alts := [], laidByText := true, laidKinds := [.data], laidTests := true, laidLooks := .later }
def LegRoutesUptoCardSaid : Prop := Claim7.holds Tryz.pinned (.plain (OpenSpec.upto legRoutesSpec)) legRoutesUptoCard
end Rows
end Go.Proofs.YtnpbhgeffapojaaGreatDoor

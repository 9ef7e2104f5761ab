/-
  DERIVED. GIVEN WITH THE SEED: THE CARDS: each row of YtlecbpkidomjbaaGreatDoorRows.lean that lists a variable, with what it lists TIED to the program's text (the seventh form; the later family's looks); each row that meets fmt, with fmt's text TOLD by the authors' own Lean function (tested against real Go, not proved from fmt's source: count such statements apart). THE CARD IS WHAT COUNTS. Prove the row's statement (the work); the ties are given (YtlecbpkidomjbaaGreatDoorTie.lean); close each card by the builder's one call (the guide's Derived/Test/ToyasCard.lean, 'card_holds'). Laid BY PROGRAM, IN A SANDBOX (cutbox-door.mjs). By AI agents, Wed Nov 11 2026. No macro, syntax, notation, axiom, sorry.
-/
import Derived.Test.YtlecbpkidomjbaaGreatDoorRows
import GoSem.ClaimSeven
namespace Go.Proofs.YtlecbpkidomjbaaGreatDoor
namespace Rows

/-- THE TIED CARD OF 'dialtonelaw40.AuditTripsMatchReference'. -/
def auditTripsMatchReferenceCard : Claim7 := { stood := { row := auditTripsMatchReferenceRow, standIns := [], harness := (true, "fc0b41ce325a880f6124cc12a5a60d2cc18f91db4f72b25421ccb5b55b6447f3"), looks := false }, kinds := [], alts := [], laidByText := true, laidKinds := [.data], laidTests := true, laidLooks := .later }
def AuditTripsMatchReferenceCardSaid : Prop := Claim7.holds Tryz.pinned (.plain (OpenSpec.ofChange auditTripsMatchReferenceSpec)) auditTripsMatchReferenceCard

/-- THE TIED CARD OF 'dialtonelaw40.AuditTrips'. -/
def auditTripsCard : Claim7 := { stood := { row := auditTripsRow, standIns := [], harness := (true, "fc0b41ce325a880f6124cc12a5a60d2cc18f91db4f72b25421ccb5b55b6447f3"), looks := false }, kinds := [], alts := [], laidByText := true, laidKinds := [.data], laidTests := true, laidLooks := .later }
def AuditTripsCardSaid : Prop := Claim7.holds Tryz.pinned (.plain (OpenSpec.ofChange auditTripsSpec)) auditTripsCard

/-- THE SECOND FORM's CARD OF 'dialtonelaw40.AuditTripsMatchReference'. -/
def auditTripsMatchReferenceUptoCard : Claim7 := { stood := { row := auditTripsMatchReferenceUptoRow, standIns := [], harness := (true, "fc0b41ce325a880f6124cc12a5a60d2cc18f91db4f72b25421ccb5b55b6447f3"), looks := false }, kinds := [], alts := [], laidByText := true, laidKinds := [.data], laidTests := true, laidLooks := .later }
def AuditTripsMatchReferenceUptoCardSaid : Prop := Claim7.holds Tryz.pinned (.plain (OpenSpec.upto auditTripsMatchReferenceSpec)) auditTripsMatchReferenceUptoCard

/-- THE SECOND FORM's CARD OF 'dialtonelaw40.AuditTrips'. -/
def auditTripsUptoCard : Claim7 := { stood := { row := auditTripsUptoRow, standIns := [], harness := (true, "fc0b41ce325a880f6124cc12a5a60d2cc18f91db4f72b25421ccb5b55b6447f3"), looks := false }, kinds := [], alts := [], laidByText := true, laidKinds := [.data], laidTests := true, laidLooks := .later }
def AuditTripsUptoCardSaid : Prop := Claim7.holds Tryz.pinned (.plain (OpenSpec.upto auditTripsSpec)) auditTripsUptoCard
end Rows
end Go.Proofs.YtlecbpkidomjbaaGreatDoor

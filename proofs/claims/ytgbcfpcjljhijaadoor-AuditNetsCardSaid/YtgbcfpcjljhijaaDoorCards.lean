/-
  DERIVED. GIVEN WITH THE SEED: THE CARDS: each row of YtgbcfpcjljhijaaDoorRows.lean that lists a variable, with what it lists TIED to the program's text (the seventh form; the later family's looks); each row that meets fmt, with fmt's text TOLD by the authors' own Lean function (tested against real Go, not proved from fmt's source: count such statements apart). THE CARD IS WHAT COUNTS. Prove the row's statement (the work); the ties are given (YtgbcfpcjljhijaaDoorTie.lean); close each card by the builder's one call (the guide's Derived/Test/ToyasCard.lean, 'card_holds'). Laid BY PROGRAM, IN A SANDBOX (cutbox-door.mjs). By AI agents, Wed Nov 11 2026. No macro, syntax, notation, axiom, sorry.
-/
import Derived.Test.YtgbcfpcjljhijaaDoorRows
import GoSem.ClaimSeven
namespace Go.Proofs.YtgbcfpcjljhijaaDoor
namespace Rows

/-- THE TIED CARD OF 'dialtonelaw40.AuditMatchesReference'. -/
def auditMatchesReferenceCard : Claim7 := { stood := { row := auditMatchesReferenceRow, standIns := [], harness := (true, "15e72945ea0d842684219eb61c4c3078e08fef8eedac21bc7f2d20fbaca9026f"), looks := false }, kinds := [], alts := [], laidByText := true, laidKinds := [.data], laidTests := true, laidLooks := .later }
def AuditMatchesReferenceCardSaid : Prop := Claim7.holds Tryd.pinned (.plain (OpenSpec.ofChange auditMatchesReferenceSpec)) auditMatchesReferenceCard

/-- THE TIED CARD OF 'dialtonelaw40.AuditTotals'. -/
def auditTotalsCard : Claim7 := { stood := { row := auditTotalsRow, standIns := [], harness := (true, "15e72945ea0d842684219eb61c4c3078e08fef8eedac21bc7f2d20fbaca9026f"), looks := false }, kinds := [], alts := [], laidByText := true, laidKinds := [.data], laidTests := true, laidLooks := .later }
def AuditTotalsCardSaid : Prop := Claim7.holds Tryd.pinned (.plain (OpenSpec.ofChange auditTotalsSpec)) auditTotalsCard

/-- THE TIED CARD OF 'dialtonelaw40.AuditOwn'. -/
def auditOwnCard : Claim7 := { stood := { row := auditOwnRow, standIns := [], harness := (true, "15e72945ea0d842684219eb61c4c3078e08fef8eedac21bc7f2d20fbaca9026f"), looks := false }, kinds := [], alts := [], laidByText := true, laidKinds := [.data], laidTests := true, laidLooks := .later }
def AuditOwnCardSaid : Prop := Claim7.holds Tryd.pinned (.plain (OpenSpec.ofChange auditOwnSpec)) auditOwnCard

/-- THE TIED CARD OF 'dialtonelaw40.AuditTogether'. -/
def auditTogetherCard : Claim7 := { stood := { row := auditTogetherRow, standIns := [], harness := (true, "15e72945ea0d842684219eb61c4c3078e08fef8eedac21bc7f2d20fbaca9026f"), looks := false }, kinds := [], alts := [], laidByText := true, laidKinds := [.data], laidTests := true, laidLooks := .later }
def AuditTogetherCardSaid : Prop := Claim7.holds Tryd.pinned (.plain (OpenSpec.ofChange auditTogetherSpec)) auditTogetherCard

/-- THE TIED CARD OF 'dialtonelaw40.AuditHides'. -/
def auditHidesCard : Claim7 := { stood := { row := auditHidesRow, standIns := [], harness := (true, "15e72945ea0d842684219eb61c4c3078e08fef8eedac21bc7f2d20fbaca9026f"), looks := false }, kinds := [], alts := [], laidByText := true, laidKinds := [.data], laidTests := true, laidLooks := .later }
def AuditHidesCardSaid : Prop := Claim7.holds Tryd.pinned (.plain (OpenSpec.ofChange auditHidesSpec)) auditHidesCard

/-- THE TIED CARD OF 'dialtonelaw40.AuditBinds'. -/
def auditBindsCard : Claim7 := { stood := { row := auditBindsRow, standIns := [], harness := (true, "15e72945ea0d842684219eb61c4c3078e08fef8eedac21bc7f2d20fbaca9026f"), looks := false }, kinds := [], alts := [], laidByText := true, laidKinds := [.data], laidTests := true, laidLooks := .later }
def AuditBindsCardSaid : Prop := Claim7.holds Tryd.pinned (.plain (OpenSpec.ofChange auditBindsSpec)) auditBindsCard

/-- THE TIED CARD OF 'dialtonelaw40.AuditGrows'. -/
def auditGrowsCard : Claim7 := { stood := { row := auditGrowsRow, standIns := [], harness := (true, "15e72945ea0d842684219eb61c4c3078e08fef8eedac21bc7f2d20fbaca9026f"), looks := false }, kinds := [], alts := [], laidByText := true, laidKinds := [.data], laidTests := true, laidLooks := .later }
def AuditGrowsCardSaid : Prop := Claim7.holds Tryd.pinned (.plain (OpenSpec.ofChange auditGrowsSpec)) auditGrowsCard

/-- THE TIED CARD OF 'dialtonelaw40.AuditNets'. -/
def auditNetsCard : Claim7 := { stood := { row := auditNetsRow, standIns := [], harness := (true, "15e72945ea0d842684219eb61c4c3078e08fef8eedac21bc7f2d20fbaca9026f"), looks := false }, kinds := [], alts := [], laidByText := true, laidKinds := [.data], laidTests := true, laidLooks := .later }
def AuditNetsCardSaid : Prop := Claim7.holds Tryd.pinned (.plain (OpenSpec.ofChange auditNetsSpec)) auditNetsCard

/-- THE SECOND FORM's CARD OF 'dialtonelaw40.AuditMatchesReference'. -/
def auditMatchesReferenceUptoCard : Claim7 := { stood := { row := auditMatchesReferenceUptoRow, standIns := [], harness := (true, "15e72945ea0d842684219eb61c4c3078e08fef8eedac21bc7f2d20fbaca9026f"), looks := false }, kinds := [], alts := [], laidByText := true, laidKinds := [.data], laidTests := true, laidLooks := .later }
def AuditMatchesReferenceUptoCardSaid : Prop := Claim7.holds Tryd.pinned (.plain (OpenSpec.upto auditMatchesReferenceSpec)) auditMatchesReferenceUptoCard

/-- THE SECOND FORM's CARD OF 'dialtonelaw40.AuditTotals'. -/
def auditTotalsUptoCard : Claim7 := { stood := { row := auditTotalsUptoRow, standIns := [], harness := (true, "15e72945ea0d842684219eb61c4c3078e08fef8eedac21bc7f2d20fbaca9026f"), looks := false }, kinds := [], alts := [], laidByText := true, laidKinds := [.data], laidTests := true, laidLooks := .later }
def AuditTotalsUptoCardSaid : Prop := Claim7.holds Tryd.pinned (.plain (OpenSpec.upto auditTotalsSpec)) auditTotalsUptoCard

/-- THE SECOND FORM's CARD OF 'dialtonelaw40.AuditOwn'. -/
def auditOwnUptoCard : Claim7 := { stood := { row := auditOwnUptoRow, standIns := [], harness := (true, "15e72945ea0d842684219eb61c4c3078e08fef8eedac21bc7f2d20fbaca9026f"), looks := false }, kinds := [], alts := [], laidByText := true, laidKinds := [.data], laidTests := true, laidLooks := .later }
def AuditOwnUptoCardSaid : Prop := Claim7.holds Tryd.pinned (.plain (OpenSpec.upto auditOwnSpec)) auditOwnUptoCard

/-- THE SECOND FORM's CARD OF 'dialtonelaw40.AuditTogether'. -/
def auditTogetherUptoCard : Claim7 := { stood := { row := auditTogetherUptoRow, standIns := [], harness := (true, "15e72945ea0d842684219eb61c4c3078e08fef8eedac21bc7f2d20fbaca9026f"), looks := false }, kinds := [], alts := [], laidByText := true, laidKinds := [.data], laidTests := true, laidLooks := .later }
def AuditTogetherUptoCardSaid : Prop := Claim7.holds Tryd.pinned (.plain (OpenSpec.upto auditTogetherSpec)) auditTogetherUptoCard

/-- THE SECOND FORM's CARD OF 'dialtonelaw40.AuditHides'. -/
def auditHidesUptoCard : Claim7 := { stood := { row := auditHidesUptoRow, standIns := [], harness := (true, "15e72945ea0d842684219eb61c4c3078e08fef8eedac21bc7f2d20fbaca9026f"), looks := false }, kinds := [], alts := [], laidByText := true, laidKinds := [.data], laidTests := true, laidLooks := .later }
def AuditHidesUptoCardSaid : Prop := Claim7.holds Tryd.pinned (.plain (OpenSpec.upto auditHidesSpec)) auditHidesUptoCard

/-- THE SECOND FORM's CARD OF 'dialtonelaw40.AuditBinds'. -/
def auditBindsUptoCard : Claim7 := { stood := { row := auditBindsUptoRow, standIns := [], harness := (true, "15e72945ea0d842684219eb61c4c3078e08fef8eedac21bc7f2d20fbaca9026f"), looks := false }, kinds := [], alts := [], laidByText := true, laidKinds := [.data], laidTests := true, laidLooks := .later }
def AuditBindsUptoCardSaid : Prop := Claim7.holds Tryd.pinned (.plain (OpenSpec.upto auditBindsSpec)) auditBindsUptoCard

/-- THE SECOND FORM's CARD OF 'dialtonelaw40.AuditGrows'. -/
def auditGrowsUptoCard : Claim7 := { stood := { row := auditGrowsUptoRow, standIns := [], harness := (true, "15e72945ea0d842684219eb61c4c3078e08fef8eedac21bc7f2d20fbaca9026f"), looks := false }, kinds := [], alts := [], laidByText := true, laidKinds := [.data], laidTests := true, laidLooks := .later }
def AuditGrowsUptoCardSaid : Prop := Claim7.holds Tryd.pinned (.plain (OpenSpec.upto auditGrowsSpec)) auditGrowsUptoCard

/-- THE SECOND FORM's CARD OF 'dialtonelaw40.AuditNets'. -/
def auditNetsUptoCard : Claim7 := { stood := { row := auditNetsUptoRow, standIns := [], harness := (true, "15e72945ea0d842684219eb61c4c3078e08fef8eedac21bc7f2d20fbaca9026f"), looks := false }, kinds := [], alts := [], laidByText := true, laidKinds := [.data], laidTests := true, laidLooks := .later }
def AuditNetsUptoCardSaid : Prop := Claim7.holds Tryd.pinned (.plain (OpenSpec.upto auditNetsSpec)) auditNetsUptoCard
end Rows
end Go.Proofs.YtgbcfpcjljhijaaDoor

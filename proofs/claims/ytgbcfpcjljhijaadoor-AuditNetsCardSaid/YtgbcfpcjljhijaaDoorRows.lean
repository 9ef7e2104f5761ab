/-
  NARROWER THAN 'FOR EVERY INPUT', by the rows' own cells (each row's printed sentence says how): AuditMatchesReference: laid · AuditTotals: laid · AuditOwn: laid · AuditTogether: laid · AuditHides: laid · AuditBinds: laid · AuditGrows: laid · AuditNets: laid.
  DERIVED. THE GIVEN ROWS OF THIS SEAT. 8 by the template 'for every input the law returns true; each argument reads behind the call as it read before'; 0 by the template 'total and deterministic' (their statements: YtgbcfpcjljhijaaDoorTotals.lean).
  GIVEN WITH THE SEED: the statements are not yours to turn. If you find one false, say at which input.
  Laid BY PROGRAM, IN A SANDBOX (cutbox-rows.mjs): the forced cells as the released guide's own fill.sh prints them over the translation e130809fc727ba7a… (all of the seat's roots in one cut). By AI agents, Wed Nov 11 2026. No macro, syntax, notation, axiom, sorry.
-/
import Derived.Test.YtgbcfpcjljhijaaDoorChecked
import GoSem.Claim
import GoSem.ClaimJoined
import GoSem.ClaimMapViews
import Derived.JoinedTies
import Derived.KernelRfl
namespace Go.Proofs.YtgbcfpcjljhijaaDoor
/- THE CELL 'sum', in the pinned program and in every row, IS THE sha256 OF THE DUMP (.gsa) THAT YtgbcfpcjljhijaaDoorProg.lean LOADS. Nothing in Lean hashes anything: it is a label: what it is worth is what the hold of that sum in a sandbox is worth. -/
noncomputable def Tryd.pinned : Pinned := { name := "ytgbcfpcjljhijaadoor", sum := "e130809fc727ba7ac749ede61eb34c95fa8a880d0eb4978617bd2144731734cc", checked := Tryd.checked }
namespace Rows
def none {H : Type} : Left H := { results := [], args := [] }

/- WHAT THE LISTED PACKAGE-LEVEL VARIABLES READ AS WHEN THE CALL BEGINS. Each datum BY PROGRAM (the guide's laid-datum.mjs) off the statement by which the dump's own 'gosem.cut.vars' lays the variable. In a bare row this is a premise. The card (YtgbcfpcjljhijaaDoorCards.lean) ties it to the program's text. -/
def laid_dialtone_digest_round {H : Type} : DataW H := .agg [.lit (.int .u32 1116352408), .lit (.int .u32 1899447441), .lit (.int .u32 3049323471), .lit (.int .u32 3921009573), .lit (.int .u32 961987163), .lit (.int .u32 1508970993), .lit (.int .u32 2453635748), .lit (.int .u32 2870763221), .lit (.int .u32 3624381080), .lit (.int .u32 310598401), .lit (.int .u32 607225278), .lit (.int .u32 1426881987), .lit (.int .u32 1925078388), .lit (.int .u32 2162078206), .lit (.int .u32 2614888103), .lit (.int .u32 3248222580), .lit (.int .u32 3835390401), .lit (.int .u32 4022224774), .lit (.int .u32 264347078), .lit (.int .u32 604807628), .lit (.int .u32 770255983), .lit (.int .u32 1249150122), .lit (.int .u32 1555081692), .lit (.int .u32 1996064986), .lit (.int .u32 2554220882), .lit (.int .u32 2821834349), .lit (.int .u32 2952996808), .lit (.int .u32 3210313671), .lit (.int .u32 3336571891), .lit (.int .u32 3584528711), .lit (.int .u32 113926993), .lit (.int .u32 338241895), .lit (.int .u32 666307205), .lit (.int .u32 773529912), .lit (.int .u32 1294757372), .lit (.int .u32 1396182291), .lit (.int .u32 1695183700), .lit (.int .u32 1986661051), .lit (.int .u32 2177026350), .lit (.int .u32 2456956037), .lit (.int .u32 2730485921), .lit (.int .u32 2820302411), .lit (.int .u32 3259730800), .lit (.int .u32 3345764771), .lit (.int .u32 3516065817), .lit (.int .u32 3600352804), .lit (.int .u32 4094571909), .lit (.int .u32 275423344), .lit (.int .u32 430227734), .lit (.int .u32 506948616), .lit (.int .u32 659060556), .lit (.int .u32 883997877), .lit (.int .u32 958139571), .lit (.int .u32 1322822218), .lit (.int .u32 1537002063), .lit (.int .u32 1747873779), .lit (.int .u32 1955562222), .lit (.int .u32 2024104815), .lit (.int .u32 2227730452), .lit (.int .u32 2361852424), .lit (.int .u32 2428436474), .lit (.int .u32 2756734187), .lit (.int .u32 3204031479), .lit (.int .u32 3329325298)]

/-- 'dialtonelaw40.AuditMatchesReference': WHATEVER THE INPUT: true; the input reads as it did. -/
def auditMatchesReferenceSpec : ChangeSpec := { name := "auditMatchesReference", fn := fun _ => fun
  | [d1, d2, d3, d4, d5, d6, d7, d8] => { results := [.lit (.bool true)], args := [d1, d2, d3, d4, d5, d6, d7, d8] }
  | _ => none }
def auditMatchesReferenceRow : OpenClaim := { program := "ytgbcfpcjljhijaadoor", sum := "e130809fc727ba7ac749ede61eb34c95fa8a880d0eb4978617bd2144731734cc", func := "dialtone/dialtonelaw40.AuditMatchesReference", spec := "auditMatchesReference", inPlace := ["internal/abi.NoEscape", "internal/bytealg.MakeNoZero"], unfollowed := true, recurses := true, named := ["dialtone/digest.round"], apart := false, laid := [("dialtone/digest.round", laid_dialtone_digest_round)] }
def AuditMatchesReferenceSaid : Prop := auditMatchesReferenceRow.holds Tryd.pinned (OpenSpec.ofChange auditMatchesReferenceSpec)

/-- ITS FALSE NEIGHBOUR: 'it returns false'. Refute it at one input. -/
def auditMatchesReferenceWrong : ChangeSpec := { name := "auditMatchesReference", fn := fun _ => fun
  | [d1, d2, d3, d4, d5, d6, d7, d8] => { results := [.lit (.bool false)], args := [d1, d2, d3, d4, d5, d6, d7, d8] }
  | _ => none }
def AuditMatchesReferenceWrongFalsely : Prop := auditMatchesReferenceRow.holds Tryd.pinned (OpenSpec.ofChange auditMatchesReferenceWrong)

/-- 'dialtonelaw40.AuditTotals': WHATEVER THE INPUT: true; the input reads as it did. -/
def auditTotalsSpec : ChangeSpec := { name := "auditTotals", fn := fun _ => fun
  | [d1, d2] => { results := [.lit (.bool true)], args := [d1, d2] }
  | _ => none }
def auditTotalsRow : OpenClaim := { program := "ytgbcfpcjljhijaadoor", sum := "e130809fc727ba7ac749ede61eb34c95fa8a880d0eb4978617bd2144731734cc", func := "dialtone/dialtonelaw40.AuditTotals", spec := "auditTotals", inPlace := ["internal/abi.NoEscape", "internal/bytealg.MakeNoZero"], unfollowed := true, recurses := true, named := ["dialtone/digest.round"], apart := false, laid := [("dialtone/digest.round", laid_dialtone_digest_round)] }
def AuditTotalsSaid : Prop := auditTotalsRow.holds Tryd.pinned (OpenSpec.ofChange auditTotalsSpec)

/-- ITS FALSE NEIGHBOUR: 'it returns false'. Refute it at one input. -/
def auditTotalsWrong : ChangeSpec := { name := "auditTotals", fn := fun _ => fun
  | [d1, d2] => { results := [.lit (.bool false)], args := [d1, d2] }
  | _ => none }
def AuditTotalsWrongFalsely : Prop := auditTotalsRow.holds Tryd.pinned (OpenSpec.ofChange auditTotalsWrong)

/-- 'dialtonelaw40.AuditOwn': WHATEVER THE INPUT: true; the input reads as it did. -/
def auditOwnSpec : ChangeSpec := { name := "auditOwn", fn := fun _ => fun
  | [d1, d2, d3, d4, d5, d6, d7] => { results := [.lit (.bool true)], args := [d1, d2, d3, d4, d5, d6, d7] }
  | _ => none }
def auditOwnRow : OpenClaim := { program := "ytgbcfpcjljhijaadoor", sum := "e130809fc727ba7ac749ede61eb34c95fa8a880d0eb4978617bd2144731734cc", func := "dialtone/dialtonelaw40.AuditOwn", spec := "auditOwn", inPlace := ["internal/abi.NoEscape", "internal/bytealg.MakeNoZero"], unfollowed := true, recurses := true, named := ["dialtone/digest.round"], apart := false, laid := [("dialtone/digest.round", laid_dialtone_digest_round)] }
def AuditOwnSaid : Prop := auditOwnRow.holds Tryd.pinned (OpenSpec.ofChange auditOwnSpec)

/-- ITS FALSE NEIGHBOUR: 'it returns false'. Refute it at one input. -/
def auditOwnWrong : ChangeSpec := { name := "auditOwn", fn := fun _ => fun
  | [d1, d2, d3, d4, d5, d6, d7] => { results := [.lit (.bool false)], args := [d1, d2, d3, d4, d5, d6, d7] }
  | _ => none }
def AuditOwnWrongFalsely : Prop := auditOwnRow.holds Tryd.pinned (OpenSpec.ofChange auditOwnWrong)

/-- 'dialtonelaw40.AuditTogether': WHATEVER THE INPUT: true; the input reads as it did. -/
def auditTogetherSpec : ChangeSpec := { name := "auditTogether", fn := fun _ => fun
  | [d1, d2, d3, d4, d5, d6, d7] => { results := [.lit (.bool true)], args := [d1, d2, d3, d4, d5, d6, d7] }
  | _ => none }
def auditTogetherRow : OpenClaim := { program := "ytgbcfpcjljhijaadoor", sum := "e130809fc727ba7ac749ede61eb34c95fa8a880d0eb4978617bd2144731734cc", func := "dialtone/dialtonelaw40.AuditTogether", spec := "auditTogether", inPlace := ["internal/abi.NoEscape", "internal/bytealg.MakeNoZero"], unfollowed := true, recurses := true, named := ["dialtone/digest.round"], apart := false, laid := [("dialtone/digest.round", laid_dialtone_digest_round)] }
def AuditTogetherSaid : Prop := auditTogetherRow.holds Tryd.pinned (OpenSpec.ofChange auditTogetherSpec)

/-- ITS FALSE NEIGHBOUR: 'it returns false'. Refute it at one input. -/
def auditTogetherWrong : ChangeSpec := { name := "auditTogether", fn := fun _ => fun
  | [d1, d2, d3, d4, d5, d6, d7] => { results := [.lit (.bool false)], args := [d1, d2, d3, d4, d5, d6, d7] }
  | _ => none }
def AuditTogetherWrongFalsely : Prop := auditTogetherRow.holds Tryd.pinned (OpenSpec.ofChange auditTogetherWrong)

/-- 'dialtonelaw40.AuditHides': WHATEVER THE INPUT: true; the input reads as it did. -/
def auditHidesSpec : ChangeSpec := { name := "auditHides", fn := fun _ => fun
  | [d1, d2, d3, d4, d5] => { results := [.lit (.bool true)], args := [d1, d2, d3, d4, d5] }
  | _ => none }
def auditHidesRow : OpenClaim := { program := "ytgbcfpcjljhijaadoor", sum := "e130809fc727ba7ac749ede61eb34c95fa8a880d0eb4978617bd2144731734cc", func := "dialtone/dialtonelaw40.AuditHides", spec := "auditHides", inPlace := ["internal/abi.NoEscape", "internal/bytealg.MakeNoZero"], unfollowed := true, recurses := true, named := ["dialtone/digest.round"], apart := false, laid := [("dialtone/digest.round", laid_dialtone_digest_round)] }
def AuditHidesSaid : Prop := auditHidesRow.holds Tryd.pinned (OpenSpec.ofChange auditHidesSpec)

/-- ITS FALSE NEIGHBOUR: 'it returns false'. Refute it at one input. -/
def auditHidesWrong : ChangeSpec := { name := "auditHides", fn := fun _ => fun
  | [d1, d2, d3, d4, d5] => { results := [.lit (.bool false)], args := [d1, d2, d3, d4, d5] }
  | _ => none }
def AuditHidesWrongFalsely : Prop := auditHidesRow.holds Tryd.pinned (OpenSpec.ofChange auditHidesWrong)

/-- 'dialtonelaw40.AuditBinds': WHATEVER THE INPUT: true; the input reads as it did. -/
def auditBindsSpec : ChangeSpec := { name := "auditBinds", fn := fun _ => fun
  | [d1, d2, d3, d4, d5, d6] => { results := [.lit (.bool true)], args := [d1, d2, d3, d4, d5, d6] }
  | _ => none }
def auditBindsRow : OpenClaim := { program := "ytgbcfpcjljhijaadoor", sum := "e130809fc727ba7ac749ede61eb34c95fa8a880d0eb4978617bd2144731734cc", func := "dialtone/dialtonelaw40.AuditBinds", spec := "auditBinds", inPlace := ["internal/abi.NoEscape", "internal/bytealg.MakeNoZero"], unfollowed := true, recurses := true, named := ["dialtone/digest.round"], apart := false, laid := [("dialtone/digest.round", laid_dialtone_digest_round)] }
def AuditBindsSaid : Prop := auditBindsRow.holds Tryd.pinned (OpenSpec.ofChange auditBindsSpec)

/-- ITS FALSE NEIGHBOUR: 'it returns false'. Refute it at one input. -/
def auditBindsWrong : ChangeSpec := { name := "auditBinds", fn := fun _ => fun
  | [d1, d2, d3, d4, d5, d6] => { results := [.lit (.bool false)], args := [d1, d2, d3, d4, d5, d6] }
  | _ => none }
def AuditBindsWrongFalsely : Prop := auditBindsRow.holds Tryd.pinned (OpenSpec.ofChange auditBindsWrong)

/-- 'dialtonelaw40.AuditGrows': WHATEVER THE INPUT: true; the input reads as it did. -/
def auditGrowsSpec : ChangeSpec := { name := "auditGrows", fn := fun _ => fun
  | [d1, d2, d3, d4] => { results := [.lit (.bool true)], args := [d1, d2, d3, d4] }
  | _ => none }
def auditGrowsRow : OpenClaim := { program := "ytgbcfpcjljhijaadoor", sum := "e130809fc727ba7ac749ede61eb34c95fa8a880d0eb4978617bd2144731734cc", func := "dialtone/dialtonelaw40.AuditGrows", spec := "auditGrows", inPlace := ["internal/abi.NoEscape", "internal/bytealg.MakeNoZero"], unfollowed := true, recurses := true, named := ["dialtone/digest.round"], apart := false, laid := [("dialtone/digest.round", laid_dialtone_digest_round)] }
def AuditGrowsSaid : Prop := auditGrowsRow.holds Tryd.pinned (OpenSpec.ofChange auditGrowsSpec)

/-- ITS FALSE NEIGHBOUR: 'it returns false'. Refute it at one input. -/
def auditGrowsWrong : ChangeSpec := { name := "auditGrows", fn := fun _ => fun
  | [d1, d2, d3, d4] => { results := [.lit (.bool false)], args := [d1, d2, d3, d4] }
  | _ => none }
def AuditGrowsWrongFalsely : Prop := auditGrowsRow.holds Tryd.pinned (OpenSpec.ofChange auditGrowsWrong)

/-- 'dialtonelaw40.AuditNets': WHATEVER THE INPUT: true; the input reads as it did. -/
def auditNetsSpec : ChangeSpec := { name := "auditNets", fn := fun _ => fun
  | [d1, d2] => { results := [.lit (.bool true)], args := [d1, d2] }
  | _ => none }
def auditNetsRow : OpenClaim := { program := "ytgbcfpcjljhijaadoor", sum := "e130809fc727ba7ac749ede61eb34c95fa8a880d0eb4978617bd2144731734cc", func := "dialtone/dialtonelaw40.AuditNets", spec := "auditNets", inPlace := ["internal/abi.NoEscape", "internal/bytealg.MakeNoZero"], unfollowed := true, recurses := true, named := ["dialtone/digest.round"], apart := false, laid := [("dialtone/digest.round", laid_dialtone_digest_round)] }
def AuditNetsSaid : Prop := auditNetsRow.holds Tryd.pinned (OpenSpec.ofChange auditNetsSpec)

/-- ITS FALSE NEIGHBOUR: 'it returns false'. Refute it at one input. -/
def auditNetsWrong : ChangeSpec := { name := "auditNets", fn := fun _ => fun
  | [d1, d2] => { results := [.lit (.bool false)], args := [d1, d2] }
  | _ => none }
def AuditNetsWrongFalsely : Prop := auditNetsRow.holds Tryd.pinned (OpenSpec.ofChange auditNetsWrong)

/- THE SECOND FORM. 'bulk': how many values and letters a reading holds, each counted each time it is reached (what is shared counts as often as it is met; a slice's spare places count too). A statement '..UptoSaid' is the law's where the arguments, and the package variables that the reading takes, are together of bulk at most 1048576: NARROWER than '..Said'. Prove '..Said' where nothing that the law and all that it calls make is longer than what came in: it says more and counts as full. Else prove '..UptoSaid'. A law counts once. -/
mutual
def uptoBulk {H : Type} : DataW H → Nat
  | .lit (.string bytes) => bytes.length + 1
  | .lit _ => 1
  | .nil => 1
  | .ptr d => uptoBulk d + 1
  | .slice elems spare => uptoBulkAll elems + uptoBulkAll spare + 1
  | .agg parts => uptoBulkAll parts + 1
  | .iface _ d => uptoBulk d + 1
  | .map entries => uptoBulkEntries entries + 1
  | .held _ => 1
def uptoBulkAll {H : Type} : List (DataW H) → Nat
  | [] => 0
  | d :: r => uptoBulk d + uptoBulkAll r
def uptoBulkEntries {H : Type} : List (Lit × DataW H) → Nat
  | [] => 0
  | x :: r => uptoBulkEntry x + uptoBulkEntries r
def uptoBulkEntry {H : Type} : Lit × DataW H → Nat
  | (.string bytes, d) => bytes.length + uptoBulk d + 1
  | (_, d) => uptoBulk d + 1
 end
def uptoSmall : (H : Type) → List (DataW H) → Bool := fun _ ds => decide (uptoBulkAll ds ≤ 1048576)
def OpenSpec.upto (s : _root_.Go.ChangeSpec) : _root_.Go.OpenSpec := { _root_.Go.OpenSpec.ofChange s with cond := some uptoSmall }

/-- 'dialtonelaw40.AuditMatchesReference', WHERE WHAT IT READS IS OF BULK AT MOST 1048576: true; the input reads as it did. -/
def auditMatchesReferenceUptoRow : OpenClaim := { program := "ytgbcfpcjljhijaadoor", sum := "e130809fc727ba7ac749ede61eb34c95fa8a880d0eb4978617bd2144731734cc", func := "dialtone/dialtonelaw40.AuditMatchesReference", spec := "auditMatchesReference", inPlace := ["internal/abi.NoEscape", "internal/bytealg.MakeNoZero"], unfollowed := true, recurses := true, named := ["dialtone/digest.round"], apart := false, laid := [("dialtone/digest.round", laid_dialtone_digest_round)], narrowed := true }
def AuditMatchesReferenceUptoSaid : Prop := auditMatchesReferenceUptoRow.holds Tryd.pinned (OpenSpec.upto auditMatchesReferenceSpec)

/-- 'dialtonelaw40.AuditTotals', WHERE WHAT IT READS IS OF BULK AT MOST 1048576: true; the input reads as it did. -/
def auditTotalsUptoRow : OpenClaim := { program := "ytgbcfpcjljhijaadoor", sum := "e130809fc727ba7ac749ede61eb34c95fa8a880d0eb4978617bd2144731734cc", func := "dialtone/dialtonelaw40.AuditTotals", spec := "auditTotals", inPlace := ["internal/abi.NoEscape", "internal/bytealg.MakeNoZero"], unfollowed := true, recurses := true, named := ["dialtone/digest.round"], apart := false, laid := [("dialtone/digest.round", laid_dialtone_digest_round)], narrowed := true }
def AuditTotalsUptoSaid : Prop := auditTotalsUptoRow.holds Tryd.pinned (OpenSpec.upto auditTotalsSpec)

/-- 'dialtonelaw40.AuditOwn', WHERE WHAT IT READS IS OF BULK AT MOST 1048576: true; the input reads as it did. -/
def auditOwnUptoRow : OpenClaim := { program := "ytgbcfpcjljhijaadoor", sum := "e130809fc727ba7ac749ede61eb34c95fa8a880d0eb4978617bd2144731734cc", func := "dialtone/dialtonelaw40.AuditOwn", spec := "auditOwn", inPlace := ["internal/abi.NoEscape", "internal/bytealg.MakeNoZero"], unfollowed := true, recurses := true, named := ["dialtone/digest.round"], apart := false, laid := [("dialtone/digest.round", laid_dialtone_digest_round)], narrowed := true }
def AuditOwnUptoSaid : Prop := auditOwnUptoRow.holds Tryd.pinned (OpenSpec.upto auditOwnSpec)

/-- 'dialtonelaw40.AuditTogether', WHERE WHAT IT READS IS OF BULK AT MOST 1048576: true; the input reads as it did. -/
def auditTogetherUptoRow : OpenClaim := { program := "ytgbcfpcjljhijaadoor", sum := "e130809fc727ba7ac749ede61eb34c95fa8a880d0eb4978617bd2144731734cc", func := "dialtone/dialtonelaw40.AuditTogether", spec := "auditTogether", inPlace := ["internal/abi.NoEscape", "internal/bytealg.MakeNoZero"], unfollowed := true, recurses := true, named := ["dialtone/digest.round"], apart := false, laid := [("dialtone/digest.round", laid_dialtone_digest_round)], narrowed := true }
def AuditTogetherUptoSaid : Prop := auditTogetherUptoRow.holds Tryd.pinned (OpenSpec.upto auditTogetherSpec)

/-- 'dialtonelaw40.AuditHides', WHERE WHAT IT READS IS OF BULK AT MOST 1048576: true; the input reads as it did. -/
def auditHidesUptoRow : OpenClaim := { program := "ytgbcfpcjljhijaadoor", sum := "e130809fc727ba7ac749ede61eb34c95fa8a880d0eb4978617bd2144731734cc", func := "dialtone/dialtonelaw40.AuditHides", spec := "auditHides", inPlace := ["internal/abi.NoEscape", "internal/bytealg.MakeNoZero"], unfollowed := true, recurses := true, named := ["dialtone/digest.round"], apart := false, laid := [("dialtone/digest.round", laid_dialtone_digest_round)], narrowed := true }
def AuditHidesUptoSaid : Prop := auditHidesUptoRow.holds Tryd.pinned (OpenSpec.upto auditHidesSpec)

/-- 'dialtonelaw40.AuditBinds', WHERE WHAT IT READS IS OF BULK AT MOST 1048576: true; the input reads as it did. -/
def auditBindsUptoRow : OpenClaim := { program := "ytgbcfpcjljhijaadoor", sum := "e130809fc727ba7ac749ede61eb34c95fa8a880d0eb4978617bd2144731734cc", func := "dialtone/dialtonelaw40.AuditBinds", spec := "auditBinds", inPlace := ["internal/abi.NoEscape", "internal/bytealg.MakeNoZero"], unfollowed := true, recurses := true, named := ["dialtone/digest.round"], apart := false, laid := [("dialtone/digest.round", laid_dialtone_digest_round)], narrowed := true }
def AuditBindsUptoSaid : Prop := auditBindsUptoRow.holds Tryd.pinned (OpenSpec.upto auditBindsSpec)

/-- 'dialtonelaw40.AuditGrows', WHERE WHAT IT READS IS OF BULK AT MOST 1048576: true; the input reads as it did. -/
def auditGrowsUptoRow : OpenClaim := { program := "ytgbcfpcjljhijaadoor", sum := "e130809fc727ba7ac749ede61eb34c95fa8a880d0eb4978617bd2144731734cc", func := "dialtone/dialtonelaw40.AuditGrows", spec := "auditGrows", inPlace := ["internal/abi.NoEscape", "internal/bytealg.MakeNoZero"], unfollowed := true, recurses := true, named := ["dialtone/digest.round"], apart := false, laid := [("dialtone/digest.round", laid_dialtone_digest_round)], narrowed := true }
def AuditGrowsUptoSaid : Prop := auditGrowsUptoRow.holds Tryd.pinned (OpenSpec.upto auditGrowsSpec)

/-- 'dialtonelaw40.AuditNets', WHERE WHAT IT READS IS OF BULK AT MOST 1048576: true; the input reads as it did. -/
def auditNetsUptoRow : OpenClaim := { program := "ytgbcfpcjljhijaadoor", sum := "e130809fc727ba7ac749ede61eb34c95fa8a880d0eb4978617bd2144731734cc", func := "dialtone/dialtonelaw40.AuditNets", spec := "auditNets", inPlace := ["internal/abi.NoEscape", "internal/bytealg.MakeNoZero"], unfollowed := true, recurses := true, named := ["dialtone/digest.round"], apart := false, laid := [("dialtone/digest.round", laid_dialtone_digest_round)], narrowed := true }
def AuditNetsUptoSaid : Prop := auditNetsUptoRow.holds Tryd.pinned (OpenSpec.upto auditNetsSpec)

end Rows
end Go.Proofs.YtgbcfpcjljhijaaDoor

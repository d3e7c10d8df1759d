/-
  DERIVED. GIVEN WITH THE SEED: THE CARDS: each row of YtnmhaipjfpongabGreatDoorRows.lean that lists a variable, with what it lists TIED to the program's text (the seventh form; the later family's looks); each row that meets fmt, with fmt's text TOLD by the authors' own Lean function (tested against real Go, not proved from fmt's source: count such statements apart). THE CARD IS WHAT COUNTS. Prove the row's statement (the work); the ties are given (YtnmhaipjfpongabGreatDoorTie.lean); close each card by the builder's one call (the guide's Derived/Test/ToyasCard.lean, 'card_holds'). Laid BY PROGRAM, IN A SANDBOX (cutbox-door.mjs). By AI agents, Wed Nov 11 2026. No macro, syntax, notation, axiom, sorry.
-/
import Derived.Test.YtnmhaipjfpongabGreatDoorRows
import GoSem.ClaimSeven
namespace Go.Proofs.YtnmhaipjfpongabGreatDoor
namespace Rows

/-- THE TIED CARD OF 'kilnyardlaw3.SideWants'. -/
def sideWantsCard : Claim7 := { stood := { row := sideWantsRow, standIns := [], harness := (true, "fcae3d443ead1d0f4a4083792d6af34a29749f498631e65007d3c96b11b5b324"), looks := true }, kinds := [], alts := [], goes := true, laidByText := true, laidKinds := [.data, .data, .data, .data, .handle, .sentinel, .sentinel, .sentinel, .sentinel, .sentinel, .sentinel, .sentinel, .sentinel, .sentinel, .sentinel, .sentinel, .sentinel, .sentinel, .sentinel, .pinned], laidTests := true, laidLooks := .later }
def SideWantsCardSaid : Prop := Claim7.holds Tryz.pinned (.plain (OpenSpec.ofChange sideWantsSpec)) sideWantsCard

/-- THE TIED CARD OF 'kilnyardlaw1.ActHeads'. -/
def actHeadsCard : Claim7 := { stood := { row := actHeadsRow, standIns := [], harness := (true, "fcae3d443ead1d0f4a4083792d6af34a29749f498631e65007d3c96b11b5b324"), looks := true }, kinds := [], alts := [], goes := true, laidByText := true, laidKinds := [.data, .data, .data, .data, .sentinel, .sentinel, .sentinel, .sentinel, .sentinel, .pinned], laidTests := true, laidLooks := .later }
def ActHeadsCardSaid : Prop := Claim7.holds Tryz.pinned (.plain (OpenSpec.ofChange actHeadsSpec)) actHeadsCard

/-- THE TIED CARD OF 'kilnyardlaw1.TreeReads'. -/
def treeReadsCard : Claim7 := { stood := { row := treeReadsRow, standIns := [], harness := (true, "fcae3d443ead1d0f4a4083792d6af34a29749f498631e65007d3c96b11b5b324"), looks := true }, kinds := [], alts := [], goes := true, laidByText := true, laidKinds := [.data, .data, .data, .data, .handle, .sentinel, .sentinel, .sentinel, .sentinel, .sentinel, .sentinel, .sentinel, .sentinel, .sentinel, .sentinel, .sentinel, .sentinel, .sentinel, .sentinel, .pinned], laidTests := true, laidLooks := .later }
def TreeReadsCardSaid : Prop := Claim7.holds Tryz.pinned (.plain (OpenSpec.ofChange treeReadsSpec)) treeReadsCard

/-- THE TIED CARD OF 'kilnyardlaw1.GraphWhole'. -/
def graphWholeCard : Claim7 := { stood := { row := graphWholeRow, standIns := [], harness := (true, "fcae3d443ead1d0f4a4083792d6af34a29749f498631e65007d3c96b11b5b324"), looks := true }, kinds := [], alts := [], goes := true, laidByText := true, laidKinds := [.data, .data, .data, .data, .sentinel, .sentinel, .sentinel, .sentinel, .sentinel, .sentinel, .sentinel, .sentinel, .sentinel, .sentinel, .pinned], laidTests := true, laidLooks := .later }
def GraphWholeCardSaid : Prop := Claim7.holds Tryz.pinned (.plain (OpenSpec.ofChange graphWholeSpec)) graphWholeCard

/-- THE TIED CARD OF 'kilnyardlaw1.ActRuns'. -/
def actRunsCard : Claim7 := { stood := { row := actRunsRow, standIns := [], harness := (true, "fcae3d443ead1d0f4a4083792d6af34a29749f498631e65007d3c96b11b5b324"), looks := true }, kinds := [], alts := [], goes := true, laidByText := true, laidKinds := [.data, .data, .data, .data, .handle, .sentinel, .sentinel, .sentinel, .sentinel, .sentinel, .sentinel, .sentinel, .sentinel, .sentinel, .sentinel, .sentinel, .sentinel, .sentinel, .sentinel, .pinned], laidTests := true, laidLooks := .later }
def ActRunsCardSaid : Prop := Claim7.holds Tryz.pinned (.plain (OpenSpec.ofChange actRunsSpec)) actRunsCard

/-- THE TIED CARD OF 'kilnyardlaw1.GraphEither'. -/
def graphEitherCard : Claim7 := { stood := { row := graphEitherRow, standIns := [], harness := (true, "fcae3d443ead1d0f4a4083792d6af34a29749f498631e65007d3c96b11b5b324"), looks := true }, kinds := [], alts := [], goes := true, laidByText := true, laidKinds := [.data, .data, .data, .data, .sentinel, .sentinel, .sentinel, .sentinel, .sentinel, .sentinel, .sentinel, .sentinel, .sentinel, .pinned], laidTests := true, laidLooks := .later }
def GraphEitherCardSaid : Prop := Claim7.holds Tryz.pinned (.plain (OpenSpec.ofChange graphEitherSpec)) graphEitherCard

/-- THE TIED CARD OF 'kilnyardlaw2.WantLeaves'. -/
def wantLeavesCard : Claim7 := { stood := { row := wantLeavesRow, standIns := [], harness := (true, "fcae3d443ead1d0f4a4083792d6af34a29749f498631e65007d3c96b11b5b324"), looks := true }, kinds := [], alts := [], goes := true, laidByText := true, laidKinds := [.data, .data, .data, .data, .sentinel, .sentinel, .sentinel, .sentinel, .sentinel, .sentinel, .sentinel, .sentinel, .sentinel, .sentinel, .sentinel, .pinned], laidTests := true, laidLooks := .later }
def WantLeavesCardSaid : Prop := Claim7.holds Tryz.pinned (.plain (OpenSpec.ofChange wantLeavesSpec)) wantLeavesCard

/-- THE TIED CARD OF 'kilnyardlaw2.BuildOnce'. -/
def buildOnceCard : Claim7 := { stood := { row := buildOnceRow, standIns := [], harness := (true, "fcae3d443ead1d0f4a4083792d6af34a29749f498631e65007d3c96b11b5b324"), looks := true }, kinds := [], alts := [], goes := true, laidByText := true, laidKinds := [.data, .data, .data, .data, .sentinel, .sentinel, .sentinel, .sentinel, .sentinel, .sentinel, .sentinel, .sentinel, .sentinel, .sentinel, .sentinel, .sentinel, .sentinel, .pinned], laidTests := true, laidLooks := .later }
def BuildOnceCardSaid : Prop := Claim7.holds Tryz.pinned (.plain (OpenSpec.ofChange buildOnceSpec)) buildOnceCard

/-- THE TIED CARD OF 'kilnyardlaw1.RuleSheets'. -/
def ruleSheetsCard : Claim7 := { stood := { row := ruleSheetsRow, standIns := [], harness := (true, "fcae3d443ead1d0f4a4083792d6af34a29749f498631e65007d3c96b11b5b324"), looks := true }, kinds := [], alts := [], goes := true, laidByText := true, laidKinds := [.data, .data, .data, .data, .handle, .sentinel, .sentinel, .sentinel, .sentinel, .sentinel, .sentinel, .sentinel, .sentinel, .sentinel, .sentinel, .sentinel, .sentinel, .sentinel, .sentinel, .pinned], laidTests := true, laidLooks := .later }
def RuleSheetsCardSaid : Prop := Claim7.holds Tryz.pinned (.plain (OpenSpec.ofChange ruleSheetsSpec)) ruleSheetsCard

/-- THE TIED CARD OF 'kilnyardlaw2.BuildSame'. -/
def buildSameCard : Claim7 := { stood := { row := buildSameRow, standIns := [], harness := (true, "fcae3d443ead1d0f4a4083792d6af34a29749f498631e65007d3c96b11b5b324"), looks := true }, kinds := [], alts := [], goes := true, laidByText := true, laidKinds := [.data, .data, .data, .data, .sentinel, .sentinel, .sentinel, .sentinel, .sentinel, .sentinel, .sentinel, .sentinel, .sentinel, .sentinel, .sentinel, .sentinel, .sentinel, .pinned], laidTests := true, laidLooks := .later }
def BuildSameCardSaid : Prop := Claim7.holds Tryz.pinned (.plain (OpenSpec.ofChange buildSameSpec)) buildSameCard

/-- THE TIED CARD OF 'kilnyardlaw1.GraphTells'. -/
def graphTellsCard : Claim7 := { stood := { row := graphTellsRow, standIns := [], harness := (true, "fcae3d443ead1d0f4a4083792d6af34a29749f498631e65007d3c96b11b5b324"), looks := true }, kinds := [], alts := [], goes := true, laidByText := true, laidKinds := [.data, .data, .data, .data, .handle, .sentinel, .sentinel, .sentinel, .sentinel, .sentinel, .sentinel, .sentinel, .sentinel, .sentinel, .sentinel, .sentinel, .sentinel, .sentinel, .sentinel, .pinned], laidTests := true, laidLooks := .later }
def GraphTellsCardSaid : Prop := Claim7.holds Tryz.pinned (.plain (OpenSpec.ofChange graphTellsSpec)) graphTellsCard

/-- THE TIED CARD OF 'kilnyardlaw3.PickSame'. -/
def pickSameCard : Claim7 := { stood := { row := pickSameRow, standIns := [], harness := (true, "fcae3d443ead1d0f4a4083792d6af34a29749f498631e65007d3c96b11b5b324"), looks := true }, kinds := [], alts := [], goes := true, laidByText := true, laidKinds := [.data, .data, .data, .data, .sentinel, .sentinel, .sentinel, .sentinel, .sentinel, .sentinel, .sentinel, .sentinel, .sentinel, .sentinel, .sentinel, .sentinel, .sentinel, .pinned], laidTests := true, laidLooks := .later }
def PickSameCardSaid : Prop := Claim7.holds Tryz.pinned (.plain (OpenSpec.ofChange pickSameSpec)) pickSameCard

/-- THE SECOND FORM's CARD OF 'kilnyardlaw3.SideWants'. -/
def sideWantsUptoCard : Claim7 := { stood := { row := sideWantsUptoRow, standIns := [], harness := (true, "fcae3d443ead1d0f4a4083792d6af34a29749f498631e65007d3c96b11b5b324"), looks := true }, kinds := [], alts := [], goes := true, laidByText := true, laidKinds := [.data, .data, .data, .data, .handle, .sentinel, .sentinel, .sentinel, .sentinel, .sentinel, .sentinel, .sentinel, .sentinel, .sentinel, .sentinel, .sentinel, .sentinel, .sentinel, .sentinel, .pinned], laidTests := true, laidLooks := .later }
def SideWantsUptoCardSaid : Prop := Claim7.holds Tryz.pinned (.plain (OpenSpec.upto sideWantsSpec)) sideWantsUptoCard

/-- THE SECOND FORM's CARD OF 'kilnyardlaw1.ActHeads'. -/
def actHeadsUptoCard : Claim7 := { stood := { row := actHeadsUptoRow, standIns := [], harness := (true, "fcae3d443ead1d0f4a4083792d6af34a29749f498631e65007d3c96b11b5b324"), looks := true }, kinds := [], alts := [], goes := true, laidByText := true, laidKinds := [.data, .data, .data, .data, .sentinel, .sentinel, .sentinel, .sentinel, .sentinel, .pinned], laidTests := true, laidLooks := .later }
def ActHeadsUptoCardSaid : Prop := Claim7.holds Tryz.pinned (.plain (OpenSpec.upto actHeadsSpec)) actHeadsUptoCard

/-- THE SECOND FORM's CARD OF 'kilnyardlaw1.TreeReads'. -/
def treeReadsUptoCard : Claim7 := { stood := { row := treeReadsUptoRow, standIns := [], harness := (true, "fcae3d443ead1d0f4a4083792d6af34a29749f498631e65007d3c96b11b5b324"), looks := true }, kinds := [], alts := [], goes := true, laidByText := true, laidKinds := [.data, .data, .data, .data, .handle, .sentinel, .sentinel, .sentinel, .sentinel, .sentinel, .sentinel, .sentinel, .sentinel, .sentinel, .sentinel, .sentinel, .sentinel, .sentinel, .sentinel, .pinned], laidTests := true, laidLooks := .later }
def TreeReadsUptoCardSaid : Prop := Claim7.holds Tryz.pinned (.plain (OpenSpec.upto treeReadsSpec)) treeReadsUptoCard

/-- THE SECOND FORM's CARD OF 'kilnyardlaw1.GraphWhole'. -/
def graphWholeUptoCard : Claim7 := { stood := { row := graphWholeUptoRow, standIns := [], harness := (true, "fcae3d443ead1d0f4a4083792d6af34a29749f498631e65007d3c96b11b5b324"), looks := true }, kinds := [], alts := [], goes := true, laidByText := true, laidKinds := [.data, .data, .data, .data, .sentinel, .sentinel, .sentinel, .sentinel, .sentinel, .sentinel, .sentinel, .sentinel, .sentinel, .sentinel, .pinned], laidTests := true, laidLooks := .later }
def GraphWholeUptoCardSaid : Prop := Claim7.holds Tryz.pinned (.plain (OpenSpec.upto graphWholeSpec)) graphWholeUptoCard

/-- THE SECOND FORM's CARD OF 'kilnyardlaw1.ActRuns'. -/
def actRunsUptoCard : Claim7 := { stood := { row := actRunsUptoRow, standIns := [], harness := (true, "fcae3d443ead1d0f4a4083792d6af34a29749f498631e65007d3c96b11b5b324"), looks := true }, kinds := [], alts := [], goes := true, laidByText := true, laidKinds := [.data, .data, .data, .data, .handle, .sentinel, .sentinel, .sentinel, .sentinel, .sentinel, .sentinel, .sentinel, .sentinel, .sentinel, .sentinel, .sentinel, .sentinel, .sentinel, .sentinel, .pinned], laidTests := true, laidLooks := .later }
def ActRunsUptoCardSaid : Prop := Claim7.holds Tryz.pinned (.plain (OpenSpec.upto actRunsSpec)) actRunsUptoCard

/-- THE SECOND FORM's CARD OF 'kilnyardlaw1.GraphEither'. -/
def graphEitherUptoCard : Claim7 := { stood := { row := graphEitherUptoRow, standIns := [], harness := (true, "fcae3d443ead1d0f4a4083792d6af34a29749f498631e65007d3c96b11b5b324"), looks := true }, kinds := [], alts := [], goes := true, laidByText := true, laidKinds := [.data, .data, .data, .data, .sentinel, .sentinel, .sentinel, .sentinel, .sentinel, .sentinel, .sentinel, .sentinel, .sentinel, .pinned], laidTests := true, laidLooks := .later }
def GraphEitherUptoCardSaid : Prop := Claim7.holds Tryz.pinned (.plain (OpenSpec.upto graphEitherSpec)) graphEitherUptoCard

/-- THE SECOND FORM's CARD OF 'kilnyardlaw2.WantLeaves'. -/
def wantLeavesUptoCard : Claim7 := { stood := { row := wantLeavesUptoRow, standIns := [], harness := (true, "fcae3d443ead1d0f4a4083792d6af34a29749f498631e65007d3c96b11b5b324"), looks := true }, kinds := [], alts := [], goes := true, laidByText := true, laidKinds := [.data, .data, .data, .data, .sentinel, .sentinel, .sentinel, .sentinel, .sentinel, .sentinel, .sentinel, .sentinel, .sentinel, .sentinel, .sentinel, .pinned], laidTests := true, laidLooks := .later }
def WantLeavesUptoCardSaid : Prop := Claim7.holds Tryz.pinned (.plain (OpenSpec.upto wantLeavesSpec)) wantLeavesUptoCard

/-- THE SECOND FORM's CARD OF 'kilnyardlaw2.BuildOnce'. -/
def buildOnceUptoCard : Claim7 := { stood := { row := buildOnceUptoRow, standIns := [], harness := (true, "fcae3d443ead1d0f4a4083792d6af34a29749f498631e65007d3c96b11b5b324"), looks := true }, kinds := [], alts := [], goes := true, laidByText := true, laidKinds := [.data, .data, .data, .data, .sentinel, .sentinel, .sentinel, .sentinel, .sentinel, .sentinel, .sentinel, .sentinel, .sentinel, .sentinel, .sentinel, .sentinel, .sentinel, .pinned], laidTests := true, laidLooks := .later }
def BuildOnceUptoCardSaid : Prop := Claim7.holds Tryz.pinned (.plain (OpenSpec.upto buildOnceSpec)) buildOnceUptoCard

/-- THE SECOND FORM's CARD OF 'kilnyardlaw1.RuleSheets'. -/
def ruleSheetsUptoCard : Claim7 := { stood := { row := ruleSheetsUptoRow, standIns := [], harness := (true, "fcae3d443ead1d0f4a4083792d6af34a29749f498631e65007d3c96b11b5b324"), looks := true }, kinds := [], alts := [], goes := true, laidByText := true, laidKinds := [.data, .data, .data, .data, .handle, .sentinel, .sentinel, .sentinel, .sentinel, .sentinel, .sentinel, .sentinel, .sentinel, .sentinel, .sentinel, .sentinel, .sentinel, .sentinel, .sentinel, .pinned], laidTests := true, laidLooks := .later }
def RuleSheetsUptoCardSaid : Prop := Claim7.holds Tryz.pinned (.plain (OpenSpec.upto ruleSheetsSpec)) ruleSheetsUptoCard

/-- THE SECOND FORM's CARD OF 'kilnyardlaw2.BuildSame'. -/
def buildSameUptoCard : Claim7 := { stood := { row := buildSameUptoRow, standIns := [], harness := (true, "fcae3d443ead1d0f4a4083792d6af34a29749f498631e65007d3c96b11b5b324"), looks := true }, kinds := [], alts := [], goes := true, laidByText := true, laidKinds := [.data, .data, .data, .data, .sentinel, .sentinel, .sentinel, .sentinel, .sentinel, .sentinel, .sentinel, .sentinel, .sentinel, .sentinel, .sentinel, .sentinel, .sentinel, .pinned], laidTests := true, laidLooks := .later }
def BuildSameUptoCardSaid : Prop := Claim7.holds Tryz.pinned (.plain (OpenSpec.upto buildSameSpec)) buildSameUptoCard

/-- THE SECOND FORM's CARD OF 'kilnyardlaw1.GraphTells'. -/
def graphTellsUptoCard : Claim7 := { stood := { row := graphTellsUptoRow, standIns := [], harness := (true, "fcae3d443ead1d0f4a4083792d6af34a29749f498631e65007d3c96b11b5b324"), looks := true }, kinds := [], alts := [], goes := true, laidByText := true, laidKinds := [.data, .data, .data, .data, .handle, .sentinel, .sentinel, .sentinel, .sentinel, .sentinel, .sentinel, .sentinel, .sentinel, .sentinel, .sentinel, .sentinel, .sentinel, .sentinel, .sentinel, .pinned], laidTests := true, laidLooks := .later }
def GraphTellsUptoCardSaid : Prop := Claim7.holds Tryz.pinned (.plain (OpenSpec.upto graphTellsSpec)) graphTellsUptoCard

/-- THE SECOND FORM's CARD OF 'kilnyardlaw3.PickSame'. -/
def pickSameUptoCard : Claim7 := { stood := { row := pickSameUptoRow, standIns := [], harness := (true, "fcae3d443ead1d0f4a4083792d6af34a29749f498631e65007d3c96b11b5b324"), looks := true }, kinds := [], alts := [], goes := true, laidByText := true, laidKinds := [.data, .data, .data, .data, .sentinel, .sentinel, .sentinel, .sentinel, .sentinel, .sentinel, .sentinel, .sentinel, .sentinel, .sentinel, .sentinel, .sentinel, .sentinel, .pinned], laidTests := true, laidLooks := .later }
def PickSameUptoCardSaid : Prop := Claim7.holds Tryz.pinned (.plain (OpenSpec.upto pickSameSpec)) pickSameUptoCard
end Rows
end Go.Proofs.YtnmhaipjfpongabGreatDoor

/-
  DERIVED. GIVEN WITH THE SEED: THE CARDS: each row of YtnmhaipjfpongacGreatDoorRows.lean that lists a variable, with what it lists TIED to the program's text (the seventh form; the later family's looks); each row that meets fmt, with fmt's text TOLD by the authors' own Lean function (tested against real Go, not proved from fmt's source: count such statements apart). THE CARD IS WHAT COUNTS. Prove the row's statement (the work); the ties are given (YtnmhaipjfpongacGreatDoorTie.lean); close each card by the builder's one call (the guide's Derived/Test/ToyasCard.lean, 'card_holds'). Laid BY PROGRAM, IN A SANDBOX (cutbox-door.mjs). By AI agents, Wed Nov 11 2026. No macro, syntax, notation, axiom, sorry.
-/
import Derived.Test.YtnmhaipjfpongacGreatDoorRows
import GoSem.ClaimSeven
namespace Go.Proofs.YtnmhaipjfpongacGreatDoor
namespace Rows

/-- THE TIED CARD OF 'kilnyardlaw2.WantTells'. -/
def wantTellsCard : Claim7 := { stood := { row := wantTellsRow, standIns := [], harness := (true, "6b878412220ebe24a52cf6135f5dc0162e1a4a0b6688278ace26b5f30789a7c1"), looks := true }, kinds := [], alts := [], laidByText := true, laidKinds := [.data, .data, .data, .data, .handle, .sentinel, .sentinel, .sentinel, .sentinel, .sentinel, .sentinel, .sentinel, .sentinel, .sentinel, .sentinel, .sentinel, .sentinel, .sentinel, .sentinel, .pinned], laidTests := true, laidLooks := .later }
def WantTellsCardSaid : Prop := Claim7.holds Tryz.pinned (.plain (OpenSpec.ofChange wantTellsSpec)) wantTellsCard

/-- THE TIED CARD OF 'kilnyardlaw2.YardFresh'. -/
def yardFreshCard : Claim7 := { stood := { row := yardFreshRow, standIns := [], harness := (true, "6b878412220ebe24a52cf6135f5dc0162e1a4a0b6688278ace26b5f30789a7c1"), looks := true }, kinds := [], alts := [], laidByText := true, laidKinds := [.data, .data, .data, .data, .sentinel, .sentinel, .sentinel, .sentinel, .sentinel, .sentinel, .sentinel, .sentinel, .sentinel, .sentinel, .sentinel, .sentinel, .sentinel, .pinned], laidTests := true, laidLooks := .later }
def YardFreshCardSaid : Prop := Claim7.holds Tryz.pinned (.plain (OpenSpec.ofChange yardFreshSpec)) yardFreshCard

/-- THE TIED CARD OF 'kilnyardlaw3.PickLevels'. -/
def pickLevelsCard : Claim7 := { stood := { row := pickLevelsRow, standIns := [], harness := (true, "6b878412220ebe24a52cf6135f5dc0162e1a4a0b6688278ace26b5f30789a7c1"), looks := true }, kinds := [], alts := [], laidByText := true, laidKinds := [.data, .data, .data, .data, .handle, .sentinel, .sentinel, .sentinel, .sentinel, .sentinel, .sentinel, .sentinel, .sentinel, .sentinel, .sentinel, .sentinel, .sentinel, .sentinel, .sentinel, .pinned], laidTests := true, laidLooks := .later }
def PickLevelsCardSaid : Prop := Claim7.holds Tryz.pinned (.plain (OpenSpec.ofChange pickLevelsSpec)) pickLevelsCard

/-- THE TIED CARD OF 'kilnyardlaw2.BuildRuns'. -/
def buildRunsCard : Claim7 := { stood := { row := buildRunsRow, standIns := [], harness := (true, "6b878412220ebe24a52cf6135f5dc0162e1a4a0b6688278ace26b5f30789a7c1"), looks := true }, kinds := [], alts := [], laidByText := true, laidKinds := [.data, .data, .data, .data, .handle, .sentinel, .sentinel, .sentinel, .sentinel, .sentinel, .sentinel, .sentinel, .sentinel, .sentinel, .sentinel, .sentinel, .sentinel, .sentinel, .sentinel, .pinned], laidTests := true, laidLooks := .later }
def BuildRunsCardSaid : Prop := Claim7.holds Tryz.pinned (.plain (OpenSpec.ofChange buildRunsSpec)) buildRunsCard

/-- THE TIED CARD OF 'kilnyardlaw3.PickRuns'. -/
def pickRunsCard : Claim7 := { stood := { row := pickRunsRow, standIns := [], harness := (true, "6b878412220ebe24a52cf6135f5dc0162e1a4a0b6688278ace26b5f30789a7c1"), looks := true }, kinds := [], alts := [], laidByText := true, laidKinds := [.data, .data, .data, .data, .handle, .sentinel, .sentinel, .sentinel, .sentinel, .sentinel, .sentinel, .sentinel, .sentinel, .sentinel, .sentinel, .sentinel, .sentinel, .sentinel, .sentinel, .pinned], laidTests := true, laidLooks := .later }
def PickRunsCardSaid : Prop := Claim7.holds Tryz.pinned (.plain (OpenSpec.ofChange pickRunsSpec)) pickRunsCard

/-- THE TIED CARD OF 'kilnyardlaw2.YardActs'. -/
def yardActsCard : Claim7 := { stood := { row := yardActsRow, standIns := [], harness := (true, "6b878412220ebe24a52cf6135f5dc0162e1a4a0b6688278ace26b5f30789a7c1"), looks := true }, kinds := [], alts := [], laidByText := true, laidKinds := [.data, .data, .data, .data, .handle, .sentinel, .sentinel, .sentinel, .sentinel, .sentinel, .sentinel, .sentinel, .sentinel, .sentinel, .sentinel, .sentinel, .sentinel, .sentinel, .sentinel, .pinned], laidTests := true, laidLooks := .later }
def YardActsCardSaid : Prop := Claim7.holds Tryz.pinned (.plain (OpenSpec.ofChange yardActsSpec)) yardActsCard

/-- THE TIED CARD OF 'kilnyardlaw3.PlayAgain'. -/
def playAgainCard : Claim7 := { stood := { row := playAgainRow, standIns := [], harness := (true, "6b878412220ebe24a52cf6135f5dc0162e1a4a0b6688278ace26b5f30789a7c1"), looks := true }, kinds := [], alts := [], laidByText := true, laidKinds := [.data, .data, .data, .data, .handle, .sentinel, .sentinel, .sentinel, .sentinel, .sentinel, .sentinel, .sentinel, .sentinel, .sentinel, .sentinel, .sentinel, .sentinel, .sentinel, .sentinel, .pinned], laidTests := true, laidLooks := .later }
def PlayAgainCardSaid : Prop := Claim7.holds Tryz.pinned (.plain (OpenSpec.ofChange playAgainSpec)) playAgainCard

/-- THE TIED CARD OF 'kilnyardlaw3.PlayRuns'. -/
def playRunsCard : Claim7 := { stood := { row := playRunsRow, standIns := [], harness := (true, "6b878412220ebe24a52cf6135f5dc0162e1a4a0b6688278ace26b5f30789a7c1"), looks := true }, kinds := [], alts := [], laidByText := true, laidKinds := [.data, .data, .data, .data, .handle, .sentinel, .sentinel, .sentinel, .sentinel, .sentinel, .sentinel, .sentinel, .sentinel, .sentinel, .sentinel, .sentinel, .sentinel, .sentinel, .sentinel, .pinned], laidTests := true, laidLooks := .later }
def PlayRunsCardSaid : Prop := Claim7.holds Tryz.pinned (.plain (OpenSpec.ofChange playRunsSpec)) playRunsCard

/-- THE TIED CARD OF 'kilnyardlaw3.ScriptAgain'. -/
def scriptAgainCard : Claim7 := { stood := { row := scriptAgainRow, standIns := [], harness := (true, "6b878412220ebe24a52cf6135f5dc0162e1a4a0b6688278ace26b5f30789a7c1"), looks := true }, kinds := [], alts := [], laidByText := true, laidKinds := [.data, .data, .data, .data, .handle, .sentinel, .sentinel, .sentinel, .sentinel, .sentinel, .sentinel, .sentinel, .sentinel, .sentinel, .sentinel, .sentinel, .sentinel, .sentinel, .sentinel, .pinned], laidTests := true, laidLooks := .later }
def ScriptAgainCardSaid : Prop := Claim7.holds Tryz.pinned (.plain (OpenSpec.ofChange scriptAgainSpec)) scriptAgainCard

/-- THE TIED CARD OF 'kilnyardlaw3.ScriptPlays'. -/
def scriptPlaysCard : Claim7 := { stood := { row := scriptPlaysRow, standIns := [], harness := (true, "6b878412220ebe24a52cf6135f5dc0162e1a4a0b6688278ace26b5f30789a7c1"), looks := true }, kinds := [], alts := [], laidByText := true, laidKinds := [.data, .data, .data, .data, .handle, .sentinel, .sentinel, .sentinel, .sentinel, .sentinel, .sentinel, .sentinel, .sentinel, .sentinel, .sentinel, .sentinel, .sentinel, .sentinel, .sentinel, .pinned], laidTests := true, laidLooks := .later }
def ScriptPlaysCardSaid : Prop := Claim7.holds Tryz.pinned (.plain (OpenSpec.ofChange scriptPlaysSpec)) scriptPlaysCard

/-- THE TIED CARD OF 'kilnyardlaw3.ScriptReads'. -/
def scriptReadsCard : Claim7 := { stood := { row := scriptReadsRow, standIns := [], harness := (true, "6b878412220ebe24a52cf6135f5dc0162e1a4a0b6688278ace26b5f30789a7c1"), looks := true }, kinds := [], alts := [], laidByText := true, laidKinds := [.data, .data, .data, .data, .handle, .sentinel, .sentinel, .sentinel, .sentinel, .sentinel, .sentinel, .sentinel, .sentinel, .sentinel, .sentinel, .sentinel, .sentinel, .sentinel, .sentinel, .pinned], laidTests := true, laidLooks := .later }
def ScriptReadsCardSaid : Prop := Claim7.holds Tryz.pinned (.plain (OpenSpec.ofChange scriptReadsSpec)) scriptReadsCard

/-- THE SECOND FORM's CARD OF 'kilnyardlaw2.WantTells'. -/
def wantTellsUptoCard : Claim7 := { stood := { row := wantTellsUptoRow, standIns := [], harness := (true, "6b878412220ebe24a52cf6135f5dc0162e1a4a0b6688278ace26b5f30789a7c1"), looks := true }, kinds := [], alts := [], laidByText := true, laidKinds := [.data, .data, .data, .data, .handle, .sentinel, .sentinel, .sentinel, .sentinel, .sentinel, .sentinel, .sentinel, .sentinel, .sentinel, .sentinel, .sentinel, .sentinel, .sentinel, .sentinel, .pinned], laidTests := true, laidLooks := .later }
def WantTellsUptoCardSaid : Prop := Claim7.holds Tryz.pinned (.plain (OpenSpec.upto wantTellsSpec)) wantTellsUptoCard

/-- THE SECOND FORM's CARD OF 'kilnyardlaw2.YardFresh'. -/
def yardFreshUptoCard : Claim7 := { stood := { row := yardFreshUptoRow, standIns := [], harness := (true, "6b878412220ebe24a52cf6135f5dc0162e1a4a0b6688278ace26b5f30789a7c1"), looks := true }, kinds := [], alts := [], laidByText := true, laidKinds := [.data, .data, .data, .data, .sentinel, .sentinel, .sentinel, .sentinel, .sentinel, .sentinel, .sentinel, .sentinel, .sentinel, .sentinel, .sentinel, .sentinel, .sentinel, .pinned], laidTests := true, laidLooks := .later }
def YardFreshUptoCardSaid : Prop := Claim7.holds Tryz.pinned (.plain (OpenSpec.upto yardFreshSpec)) yardFreshUptoCard

/-- THE SECOND FORM's CARD OF 'kilnyardlaw3.PickLevels'. -/
def pickLevelsUptoCard : Claim7 := { stood := { row := pickLevelsUptoRow, standIns := [], harness := (true, "6b878412220ebe24a52cf6135f5dc0162e1a4a0b6688278ace26b5f30789a7c1"), looks := true }, kinds := [], alts := [], laidByText := true, laidKinds := [.data, .data, .data, .data, .handle, .sentinel, .sentinel, .sentinel, .sentinel, .sentinel, .sentinel, .sentinel, .sentinel, .sentinel, .sentinel, .sentinel, .sentinel, .sentinel, .sentinel, .pinned], laidTests := true, laidLooks := .later }
def PickLevelsUptoCardSaid : Prop := Claim7.holds Tryz.pinned (.plain (OpenSpec.upto pickLevelsSpec)) pickLevelsUptoCard

/-- THE SECOND FORM's CARD OF 'kilnyardlaw2.BuildRuns'. -/
def buildRunsUptoCard : Claim7 := { stood := { row := buildRunsUptoRow, standIns := [], harness := (true, "6b878412220ebe24a52cf6135f5dc0162e1a4a0b6688278ace26b5f30789a7c1"), looks := true }, kinds := [], alts := [], laidByText := true, laidKinds := [.data, .data, .data, .data, .handle, .sentinel, .sentinel, .sentinel, .sentinel, .sentinel, .sentinel, .sentinel, .sentinel, .sentinel, .sentinel, .sentinel, .sentinel, .sentinel, .sentinel, .pinned], laidTests := true, laidLooks := .later }
def BuildRunsUptoCardSaid : Prop := Claim7.holds Tryz.pinned (.plain (OpenSpec.upto buildRunsSpec)) buildRunsUptoCard

/-- THE SECOND FORM's CARD OF 'kilnyardlaw3.PickRuns'. -/
def pickRunsUptoCard : Claim7 := { stood := { row := pickRunsUptoRow, standIns := [], harness := (true, "6b878412220ebe24a52cf6135f5dc0162e1a4a0b6688278ace26b5f30789a7c1"), looks := true }, kinds := [], alts := [], laidByText := true, laidKinds := [.data, .data, .data, .data, .handle, .sentinel, .sentinel, .sentinel, .sentinel, .sentinel, .sentinel, .sentinel, .sentinel, .sentinel, .sentinel, .sentinel, .sentinel, .sentinel, .sentinel, .pinned], laidTests := true, laidLooks := .later }
def PickRunsUptoCardSaid : Prop := Claim7.holds Tryz.pinned (.plain (OpenSpec.upto pickRunsSpec)) pickRunsUptoCard

/-- THE SECOND FORM's CARD OF 'kilnyardlaw2.YardActs'. -/
def yardActsUptoCard : Claim7 := { stood := { row := yardActsUptoRow, standIns := [], harness := (true, "6b878412220ebe24a52cf6135f5dc0162e1a4a0b6688278ace26b5f30789a7c1"), looks := true }, kinds := [], alts := [], laidByText := true, laidKinds := [.data, .data, .data, .data, .handle, .sentinel, .sentinel, .sentinel, .sentinel, .sentinel, .sentinel, .sentinel, .sentinel, .sentinel, .sentinel, .sentinel, .sentinel, .sentinel, .sentinel, .pinned], laidTests := true, laidLooks := .later }
def YardActsUptoCardSaid : Prop := Claim7.holds Tryz.pinned (.plain (OpenSpec.upto yardActsSpec)) yardActsUptoCard

/-- THE SECOND FORM's CARD OF 'kilnyardlaw3.PlayAgain'. -/
def playAgainUptoCard : Claim7 := { stood := { row := playAgainUptoRow, standIns := [], harness := (true, "6b878412220ebe24a52cf6135f5dc0162e1a4a0b6688278ace26b5f30789a7c1"), looks := true }, kinds := [], alts := [], laidByText := true, laidKinds := [.data, .data, .data, .data, .handle, .sentinel, .sentinel, .sentinel, .sentinel, .sentinel, .sentinel, .sentinel, .sentinel, .sentinel, .sentinel, .sentinel, .sentinel, .sentinel, .sentinel, .pinned], laidTests := true, laidLooks := .later }
def PlayAgainUptoCardSaid : Prop := Claim7.holds Tryz.pinned (.plain (OpenSpec.upto playAgainSpec)) playAgainUptoCard

/-- THE SECOND FORM's CARD OF 'kilnyardlaw3.PlayRuns'. -/
def playRunsUptoCard : Claim7 := { stood := { row := playRunsUptoRow, standIns := [], harness := (true, "6b878412220ebe24a52cf6135f5dc0162e1a4a0b6688278ace26b5f30789a7c1"), looks := true }, kinds := [], alts := [], laidByText := true, laidKinds := [.data, .data, .data, .data, .handle, .sentinel, .sentinel, .sentinel, .sentinel, .sentinel, .sentinel, .sentinel, .sentinel, .sentinel, .sentinel, .sentinel, .sentinel, .sentinel, .sentinel, .pinned], laidTests := true, laidLooks := .later }
def PlayRunsUptoCardSaid : Prop := Claim7.holds Tryz.pinned (.plain (OpenSpec.upto playRunsSpec)) playRunsUptoCard

/-- THE SECOND FORM's CARD OF 'kilnyardlaw3.ScriptAgain'. -/
def scriptAgainUptoCard : Claim7 := { stood := { row := scriptAgainUptoRow, standIns := [], harness := (true, "6b878412220ebe24a52cf6135f5dc0162e1a4a0b6688278ace26b5f30789a7c1"), looks := true }, kinds := [], alts := [], laidByText := true, laidKinds := [.data, .data, .data, .data, .handle, .sentinel, .sentinel, .sentinel, .sentinel, .sentinel, .sentinel, .sentinel, .sentinel, .sentinel, .sentinel, .sentinel, .sentinel, .sentinel, .sentinel, .pinned], laidTests := true, laidLooks := .later }
def ScriptAgainUptoCardSaid : Prop := Claim7.holds Tryz.pinned (.plain (OpenSpec.upto scriptAgainSpec)) scriptAgainUptoCard

/-- THE SECOND FORM's CARD OF 'kilnyardlaw3.ScriptPlays'. -/
def scriptPlaysUptoCard : Claim7 := { stood := { row := scriptPlaysUptoRow, standIns := [], harness := (true, "6b878412220ebe24a52cf6135f5dc0162e1a4a0b6688278ace26b5f30789a7c1"), looks := true }, kinds := [], alts := [], laidByText := true, laidKinds := [.data, .data, .data, .data, .handle, .sentinel, .sentinel, .sentinel, .sentinel, .sentinel, .sentinel, .sentinel, .sentinel, .sentinel, .sentinel, .sentinel, .sentinel, .sentinel, .sentinel, .pinned], laidTests := true, laidLooks := .later }
def ScriptPlaysUptoCardSaid : Prop := Claim7.holds Tryz.pinned (.plain (OpenSpec.upto scriptPlaysSpec)) scriptPlaysUptoCard

/-- THE SECOND FORM's CARD OF 'kilnyardlaw3.ScriptReads'. -/
def scriptReadsUptoCard : Claim7 := { stood := { row := scriptReadsUptoRow, standIns := [], harness := (true, "6b878412220ebe24a52cf6135f5dc0162e1a4a0b6688278ace26b5f30789a7c1"), looks := true }, kinds := [], alts := [], laidByText := true, laidKinds := [.data, .data, .data, .data, .handle, .sentinel, .sentinel, .sentinel, .sentinel, .sentinel, .sentinel, .sentinel, .sentinel, .sentinel, .sentinel, .sentinel, .sentinel, .sentinel, .sentinel, .pinned], laidTests := true, laidLooks := .later }
def ScriptReadsUptoCardSaid : Prop := Claim7.holds Tryz.pinned (.plain (OpenSpec.upto scriptReadsSpec)) scriptReadsUptoCard
end Rows
end Go.Proofs.YtnmhaipjfpongacGreatDoor

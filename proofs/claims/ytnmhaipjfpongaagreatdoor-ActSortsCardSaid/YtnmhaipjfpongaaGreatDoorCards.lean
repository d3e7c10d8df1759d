/-
  DERIVED. GIVEN WITH THE SEED: THE CARDS: each row of YtnmhaipjfpongaaGreatDoorRows.lean that lists a variable, with what it lists TIED to the program's text (the seventh form; the later family's looks); each row that meets fmt, with fmt's text TOLD by the authors' own Lean function (tested against real Go, not proved from fmt's source: count such statements apart). THE CARD IS WHAT COUNTS. Prove the row's statement (the work); the ties are given (YtnmhaipjfpongaaGreatDoorTie.lean); close each card by the builder's one call (the guide's Derived/Test/ToyasCard.lean, 'card_holds'). Laid BY PROGRAM, IN A SANDBOX (cutbox-door.mjs). By AI agents, Wed Nov 11 2026. No macro, syntax, notation, axiom, sorry.
-/
import Derived.Test.YtnmhaipjfpongaaGreatDoorRows
import GoSem.ClaimSeven
namespace Go.Proofs.YtnmhaipjfpongaaGreatDoor
namespace Rows

/-- THE TIED CARD OF 'kilnyardlaw3.SidePlays'. -/
def sidePlaysCard : Claim7 := { stood := { row := sidePlaysRow, standIns := [], harness := (true, "88d9b077c75cadb0e09363eec352f394f7e7b6ab77746905225a24f97e676566"), looks := true }, kinds := [], alts := [], goes := true, laidByText := true, laidKinds := [.data, .data, .data, .data, .handle, .sentinel, .sentinel, .sentinel, .sentinel, .sentinel, .sentinel, .sentinel, .sentinel, .sentinel, .sentinel, .sentinel, .sentinel, .sentinel, .sentinel, .pinned], laidTests := true, laidLooks := .later }
def SidePlaysCardSaid : Prop := Claim7.holds Tryz.pinned (.plain (OpenSpec.ofChange sidePlaysSpec)) sidePlaysCard

/-- THE TIED CARD OF 'kilnyardlaw1.TreeActs'. -/
def treeActsCard : Claim7 := { stood := { row := treeActsRow, standIns := [], harness := (true, "88d9b077c75cadb0e09363eec352f394f7e7b6ab77746905225a24f97e676566"), looks := true }, kinds := [], alts := [], goes := true, laidByText := true, laidKinds := [.data, .data, .data, .data, .handle, .sentinel, .sentinel, .sentinel, .sentinel, .sentinel, .sentinel, .sentinel, .sentinel, .sentinel, .sentinel, .sentinel, .sentinel, .pinned], laidTests := true, laidLooks := .later }
def TreeActsCardSaid : Prop := Claim7.holds Tryz.pinned (.plain (OpenSpec.ofChange treeActsSpec)) treeActsCard

/-- THE TIED CARD OF 'kilnyardlaw1.TreeBack'. -/
def treeBackCard : Claim7 := { stood := { row := treeBackRow, standIns := [], harness := (true, "88d9b077c75cadb0e09363eec352f394f7e7b6ab77746905225a24f97e676566"), looks := true }, kinds := [], alts := [], goes := true, laidByText := true, laidKinds := [.data, .data, .data, .data, .sentinel, .sentinel, .sentinel, .sentinel, .sentinel, .sentinel, .sentinel, .sentinel, .sentinel, .pinned], laidTests := true, laidLooks := .later }
def TreeBackCardSaid : Prop := Claim7.holds Tryz.pinned (.plain (OpenSpec.ofChange treeBackSpec)) treeBackCard

/-- THE TIED CARD OF 'kilnyardlaw1.ActSorts'. -/
def actSortsCard : Claim7 := { stood := { row := actSortsRow, standIns := [], harness := (true, "88d9b077c75cadb0e09363eec352f394f7e7b6ab77746905225a24f97e676566"), looks := true }, kinds := [], alts := [], goes := true, laidByText := true, laidKinds := [.data, .data, .data, .data, .sentinel, .sentinel, .sentinel, .sentinel, .sentinel, .pinned], laidTests := true, laidLooks := .later }
def ActSortsCardSaid : Prop := Claim7.holds Tryz.pinned (.plain (OpenSpec.ofChange actSortsSpec)) actSortsCard

/-- THE SECOND FORM's CARD OF 'kilnyardlaw3.SidePlays'. -/
def sidePlaysUptoCard : Claim7 := { stood := { row := sidePlaysUptoRow, standIns := [], harness := (true, "88d9b077c75cadb0e09363eec352f394f7e7b6ab77746905225a24f97e676566"), looks := true }, kinds := [], alts := [], goes := true, laidByText := true, laidKinds := [.data, .data, .data, .data, .handle, .sentinel, .sentinel, .sentinel, .sentinel, .sentinel, .sentinel, .sentinel, .sentinel, .sentinel, .sentinel, .sentinel, .sentinel, .sentinel, .sentinel, .pinned], laidTests := true, laidLooks := .later }
def SidePlaysUptoCardSaid : Prop := Claim7.holds Tryz.pinned (.plain (OpenSpec.upto sidePlaysSpec)) sidePlaysUptoCard

/-- THE SECOND FORM's CARD OF 'kilnyardlaw1.TreeActs'. -/
def treeActsUptoCard : Claim7 := { stood := { row := treeActsUptoRow, standIns := [], harness := (true, "88d9b077c75cadb0e09363eec352f394f7e7b6ab77746905225a24f97e676566"), looks := true }, kinds := [], alts := [], goes := true, laidByText := true, laidKinds := [.data, .data, .data, .data, .handle, .sentinel, .sentinel, .sentinel, .sentinel, .sentinel, .sentinel, .sentinel, .sentinel, .sentinel, .sentinel, .sentinel, .sentinel, .pinned], laidTests := true, laidLooks := .later }
def TreeActsUptoCardSaid : Prop := Claim7.holds Tryz.pinned (.plain (OpenSpec.upto treeActsSpec)) treeActsUptoCard

/-- THE SECOND FORM's CARD OF 'kilnyardlaw1.TreeBack'. -/
def treeBackUptoCard : Claim7 := { stood := { row := treeBackUptoRow, standIns := [], harness := (true, "88d9b077c75cadb0e09363eec352f394f7e7b6ab77746905225a24f97e676566"), looks := true }, kinds := [], alts := [], goes := true, laidByText := true, laidKinds := [.data, .data, .data, .data, .sentinel, .sentinel, .sentinel, .sentinel, .sentinel, .sentinel, .sentinel, .sentinel, .sentinel, .pinned], laidTests := true, laidLooks := .later }
def TreeBackUptoCardSaid : Prop := Claim7.holds Tryz.pinned (.plain (OpenSpec.upto treeBackSpec)) treeBackUptoCard

/-- THE SECOND FORM's CARD OF 'kilnyardlaw1.ActSorts'. -/
def actSortsUptoCard : Claim7 := { stood := { row := actSortsUptoRow, standIns := [], harness := (true, "88d9b077c75cadb0e09363eec352f394f7e7b6ab77746905225a24f97e676566"), looks := true }, kinds := [], alts := [], goes := true, laidByText := true, laidKinds := [.data, .data, .data, .data, .sentinel, .sentinel, .sentinel, .sentinel, .sentinel, .pinned], laidTests := true, laidLooks := .later }
def ActSortsUptoCardSaid : Prop := Claim7.holds Tryz.pinned (.plain (OpenSpec.upto actSortsSpec)) actSortsUptoCard
end Rows
end Go.Proofs.YtnmhaipjfpongaaGreatDoor

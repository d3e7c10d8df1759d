/-
  DERIVED. GIVEN WITH THE SEED: THE CARDS: each row of YtnmhaipjfpongaaDoorRows.lean that lists a variable, with what it lists TIED to the program's text (the seventh form; the later family's looks); each row that meets fmt, with fmt's text TOLD by the authors' own Lean function (tested against real Go, not proved from fmt's source: count such statements apart). THE CARD IS WHAT COUNTS. Prove the row's statement (the work); the ties are given (YtnmhaipjfpongaaDoorTie.lean); close each card by the builder's one call (the guide's Derived/Test/ToyasCard.lean, 'card_holds'). Laid BY PROGRAM, IN A SANDBOX (cutbox-door.mjs). By AI agents, Wed Nov 11 2026. No macro, syntax, notation, axiom, sorry.
-/
import Derived.Test.YtnmhaipjfpongaaDoorRows
import GoSem.ClaimSeven
namespace Go.Proofs.YtnmhaipjfpongaaDoor
namespace Rows

/-- THE TIED CARD OF 'kilnyardlaw2.CacheNew'. -/
def cacheNewCard : Claim7 := { stood := { row := cacheNewRow, standIns := [], harness := (true, "e088ad06d09fab2ab731d3a3c756f0a3700867ae4db88276acf1620a84739d8f"), looks := true }, kinds := [], alts := [], laidByText := true, laidKinds := [.sentinel], laidTests := true, laidLooks := .later }
def CacheNewCardSaid : Prop := Claim7.holds Tryd.pinned (.plain (OpenSpec.ofChange cacheNewSpec)) cacheNewCard

/-- THE TIED CARD OF 'kilnyardlaw1.Names'. -/
def namesCard : Claim7 := { stood := { row := namesRow, standIns := [], harness := (true, "e088ad06d09fab2ab731d3a3c756f0a3700867ae4db88276acf1620a84739d8f"), looks := true }, kinds := [], alts := [], laidByText := true, laidKinds := [.handle, .sentinel, .sentinel, .sentinel, .sentinel, .sentinel, .sentinel, .sentinel, .sentinel, .sentinel, .sentinel, .sentinel, .sentinel], laidTests := true, laidLooks := .later }
def NamesCardSaid : Prop := Claim7.holds Tryd.pinned (.plain (OpenSpec.ofChange namesSpec)) namesCard

/-- THE TIED CARD OF 'kilnyardlaw2.CacheActs'. -/
def cacheActsCard : Claim7 := { stood := { row := cacheActsRow, standIns := [], harness := (true, "e088ad06d09fab2ab731d3a3c756f0a3700867ae4db88276acf1620a84739d8f"), looks := true }, kinds := [], alts := [], laidByText := true, laidKinds := [.handle, .sentinel, .sentinel, .sentinel, .sentinel, .sentinel, .sentinel, .sentinel, .sentinel, .sentinel, .sentinel, .sentinel, .sentinel], laidTests := true, laidLooks := .later }
def CacheActsCardSaid : Prop := Claim7.holds Tryd.pinned (.plain (OpenSpec.ofChange cacheActsSpec)) cacheActsCard

/-- THE TIED CARD OF 'kilnyardlaw2.CacheKeys'. -/
def cacheKeysCard : Claim7 := { stood := { row := cacheKeysRow, standIns := [], harness := (true, "e088ad06d09fab2ab731d3a3c756f0a3700867ae4db88276acf1620a84739d8f"), looks := true }, kinds := [], alts := [], laidByText := true, laidKinds := [.data, .data, .data, .sentinel], laidTests := true, laidLooks := .later }
def CacheKeysCardSaid : Prop := Claim7.holds Tryd.pinned (.plain (OpenSpec.ofChange cacheKeysSpec)) cacheKeysCard

/-- THE TIED CARD OF 'kilnyardlaw1.PathStays'. -/
def pathStaysCard : Claim7 := { stood := { row := pathStaysRow, standIns := [], harness := (true, "e088ad06d09fab2ab731d3a3c756f0a3700867ae4db88276acf1620a84739d8f"), looks := true }, kinds := [], alts := [], laidByText := true, laidKinds := [.data, .sentinel, .sentinel, .sentinel, .sentinel, .pinned], laidTests := true, laidLooks := .later }
def PathStaysCardSaid : Prop := Claim7.holds Tryd.pinned (.plain (OpenSpec.ofChange pathStaysSpec)) pathStaysCard

/-- THE TIED CARD OF 'kilnyardlaw1.PathStars'. -/
def pathStarsCard : Claim7 := { stood := { row := pathStarsRow, standIns := [], harness := (true, "e088ad06d09fab2ab731d3a3c756f0a3700867ae4db88276acf1620a84739d8f"), looks := true }, kinds := [], alts := [], laidByText := true, laidKinds := [.data, .sentinel, .sentinel, .sentinel, .sentinel, .pinned], laidTests := true, laidLooks := .later }
def PathStarsCardSaid : Prop := Claim7.holds Tryd.pinned (.plain (OpenSpec.ofChange pathStarsSpec)) pathStarsCard

/-- THE TIED CARD OF 'kilnyardlaw1.PathCleans'. -/
def pathCleansCard : Claim7 := { stood := { row := pathCleansRow, standIns := [], harness := (true, "e088ad06d09fab2ab731d3a3c756f0a3700867ae4db88276acf1620a84739d8f"), looks := true }, kinds := [], alts := [], laidByText := true, laidKinds := [.data, .handle, .sentinel, .sentinel, .sentinel, .sentinel, .sentinel, .sentinel, .sentinel, .sentinel, .sentinel, .sentinel, .sentinel, .sentinel, .pinned], laidTests := true, laidLooks := .later }
def PathCleansCardSaid : Prop := Claim7.holds Tryd.pinned (.plain (OpenSpec.ofChange pathCleansSpec)) pathCleansCard

/-- THE TIED CARD OF 'kilnyardlaw1.PathMatches'. -/
def pathMatchesCard : Claim7 := { stood := { row := pathMatchesRow, standIns := [], harness := (true, "e088ad06d09fab2ab731d3a3c756f0a3700867ae4db88276acf1620a84739d8f"), looks := true }, kinds := [], alts := [], laidByText := true, laidKinds := [.data, .handle, .sentinel, .sentinel, .sentinel, .sentinel, .sentinel, .sentinel, .sentinel, .sentinel, .sentinel, .sentinel, .sentinel, .sentinel, .pinned], laidTests := true, laidLooks := .later }
def PathMatchesCardSaid : Prop := Claim7.holds Tryd.pinned (.plain (OpenSpec.ofChange pathMatchesSpec)) pathMatchesCard

/-- THE SECOND FORM's CARD OF 'kilnyardlaw2.CacheNew'. -/
def cacheNewUptoCard : Claim7 := { stood := { row := cacheNewUptoRow, standIns := [], harness := (true, "e088ad06d09fab2ab731d3a3c756f0a3700867ae4db88276acf1620a84739d8f"), looks := true }, kinds := [], alts := [], laidByText := true, laidKinds := [.sentinel], laidTests := true, laidLooks := .later }
def CacheNewUptoCardSaid : Prop := Claim7.holds Tryd.pinned (.plain (OpenSpec.upto cacheNewSpec)) cacheNewUptoCard

/-- THE SECOND FORM's CARD OF 'kilnyardlaw1.Names'. -/
def namesUptoCard : Claim7 := { stood := { row := namesUptoRow, standIns := [], harness := (true, "e088ad06d09fab2ab731d3a3c756f0a3700867ae4db88276acf1620a84739d8f"), looks := true }, kinds := [], alts := [], laidByText := true, laidKinds := [.handle, .sentinel, .sentinel, .sentinel, .sentinel, .sentinel, .sentinel, .sentinel, .sentinel, .sentinel, .sentinel, .sentinel, .sentinel], laidTests := true, laidLooks := .later }
def NamesUptoCardSaid : Prop := Claim7.holds Tryd.pinned (.plain (OpenSpec.upto namesSpec)) namesUptoCard

/-- THE SECOND FORM's CARD OF 'kilnyardlaw2.CacheActs'. -/
def cacheActsUptoCard : Claim7 := { stood := { row := cacheActsUptoRow, standIns := [], harness := (true, "e088ad06d09fab2ab731d3a3c756f0a3700867ae4db88276acf1620a84739d8f"), looks := true }, kinds := [], alts := [], laidByText := true, laidKinds := [.handle, .sentinel, .sentinel, .sentinel, .sentinel, .sentinel, .sentinel, .sentinel, .sentinel, .sentinel, .sentinel, .sentinel, .sentinel], laidTests := true, laidLooks := .later }
def CacheActsUptoCardSaid : Prop := Claim7.holds Tryd.pinned (.plain (OpenSpec.upto cacheActsSpec)) cacheActsUptoCard

/-- THE SECOND FORM's CARD OF 'kilnyardlaw2.CacheKeys'. -/
def cacheKeysUptoCard : Claim7 := { stood := { row := cacheKeysUptoRow, standIns := [], harness := (true, "e088ad06d09fab2ab731d3a3c756f0a3700867ae4db88276acf1620a84739d8f"), looks := true }, kinds := [], alts := [], laidByText := true, laidKinds := [.data, .data, .data, .sentinel], laidTests := true, laidLooks := .later }
def CacheKeysUptoCardSaid : Prop := Claim7.holds Tryd.pinned (.plain (OpenSpec.upto cacheKeysSpec)) cacheKeysUptoCard

/-- THE SECOND FORM's CARD OF 'kilnyardlaw1.PathStays'. -/
def pathStaysUptoCard : Claim7 := { stood := { row := pathStaysUptoRow, standIns := [], harness := (true, "e088ad06d09fab2ab731d3a3c756f0a3700867ae4db88276acf1620a84739d8f"), looks := true }, kinds := [], alts := [], laidByText := true, laidKinds := [.data, .sentinel, .sentinel, .sentinel, .sentinel, .pinned], laidTests := true, laidLooks := .later }
def PathStaysUptoCardSaid : Prop := Claim7.holds Tryd.pinned (.plain (OpenSpec.upto pathStaysSpec)) pathStaysUptoCard

/-- THE SECOND FORM's CARD OF 'kilnyardlaw1.PathStars'. -/
def pathStarsUptoCard : Claim7 := { stood := { row := pathStarsUptoRow, standIns := [], harness := (true, "e088ad06d09fab2ab731d3a3c756f0a3700867ae4db88276acf1620a84739d8f"), looks := true }, kinds := [], alts := [], laidByText := true, laidKinds := [.data, .sentinel, .sentinel, .sentinel, .sentinel, .pinned], laidTests := true, laidLooks := .later }
def PathStarsUptoCardSaid : Prop := Claim7.holds Tryd.pinned (.plain (OpenSpec.upto pathStarsSpec)) pathStarsUptoCard

/-- THE SECOND FORM's CARD OF 'kilnyardlaw1.PathCleans'. -/
def pathCleansUptoCard : Claim7 := { stood := { row := pathCleansUptoRow, standIns := [], harness := (true, "e088ad06d09fab2ab731d3a3c756f0a3700867ae4db88276acf1620a84739d8f"), looks := true }, kinds := [], alts := [], laidByText := true, laidKinds := [.data, .handle, .sentinel, .sentinel, .sentinel, .sentinel, .sentinel, .sentinel, .sentinel, .sentinel, .sentinel, .sentinel, .sentinel, .sentinel, .pinned], laidTests := true, laidLooks := .later }
def PathCleansUptoCardSaid : Prop := Claim7.holds Tryd.pinned (.plain (OpenSpec.upto pathCleansSpec)) pathCleansUptoCard

/-- THE SECOND FORM's CARD OF 'kilnyardlaw1.PathMatches'. -/
def pathMatchesUptoCard : Claim7 := { stood := { row := pathMatchesUptoRow, standIns := [], harness := (true, "e088ad06d09fab2ab731d3a3c756f0a3700867ae4db88276acf1620a84739d8f"), looks := true }, kinds := [], alts := [], laidByText := true, laidKinds := [.data, .handle, .sentinel, .sentinel, .sentinel, .sentinel, .sentinel, .sentinel, .sentinel, .sentinel, .sentinel, .sentinel, .sentinel, .sentinel, .pinned], laidTests := true, laidLooks := .later }
def PathMatchesUptoCardSaid : Prop := Claim7.holds Tryd.pinned (.plain (OpenSpec.upto pathMatchesSpec)) pathMatchesUptoCard
end Rows
end Go.Proofs.YtnmhaipjfpongaaDoor

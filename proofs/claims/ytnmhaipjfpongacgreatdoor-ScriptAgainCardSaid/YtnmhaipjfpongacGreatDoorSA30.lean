/- Texts of this seat laid together for one claim: Z28, Bm3, Bm11. No condition of its own: what each proves stands with its theorems. -/
import Derived.Test.YtnmhaipjfpongacGreatDoorSA18
import Derived.Test.YtnmhaipjfpongacGreatDoorSA20
import Derived.Test.YtnmhaipjfpongacGreatDoorSA21
import Derived.Test.YtnmhaipjfpongacGreatDoorSA29
import Derived.Deep.RegionHeld3
import Derived.Deep.RegionLaw
import Derived.OrdersHeld
import Derived.Test.YtnmhaipjfpongacGreatDoorSA0
import Derived.Test.YtnmhaipjfpongacGreatDoorSA5
import Derived.Test.YtnmhaipjfpongacGreatDoorSA23
import Derived.Test.YtnmhaipjfpongacGreatDoorSA8
import Derived.Test.YtnmhaipjfpongacGreatDoorSA27
namespace Go.Proofs.YtnmhaipjfpongacGreatDoor
open Go.ChangeShapes Go.WideShapes Go.ChangeAt Go.RowKit

abbrev HD := (Option Addr × Nat × Nat) × List Nat
section
variable {w wr w' : World} {mb : Nat} {L L' : List (B × Nat)} {v v' : Value} {rs : List HD}
end
end Go.Proofs.YtnmhaipjfpongacGreatDoor

namespace Go.Proofs.YtnmhaipjfpongacGreatDoor
open Go.ChangeShapes Go.WideShapes Go.ChangeAt Go.RowKit

section
variable {w0 w w' : World} {E : BE} {K : MK} {s : BS} {o : List Nat} {is : Nat → Bool}
theorem mst_le (hI : BInv E s) (i : Nat) : mst E s i ≤ 4 := by
 unfold mst
 split
 ·exact (hI.rng i ‹_›).2
 ·exact Nat.zero_le _
theorem mst_one {i : Nat} (h : mst E s i = 1) : i ∈ E.sm ∧ s.st i = 1 := by
 unfold mst at h
 split at h
 ·exact ⟨‹_›, h⟩
 ·cases h
end
end Go.Proofs.YtnmhaipjfpongacGreatDoor

namespace Go.Proofs.YtnmhaipjfpongacGreatDoor
open Go.ChangeShapes Go.WideShapes Go.ChangeAt Go.RowKit

end Go.Proofs.YtnmhaipjfpongacGreatDoor

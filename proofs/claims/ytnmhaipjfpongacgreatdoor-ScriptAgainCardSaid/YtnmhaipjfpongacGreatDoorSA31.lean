/- Texts of this seat laid together for one claim: Bm4. No condition of its own: what each proves stands with its theorems. -/
import Derived.Test.YtnmhaipjfpongacGreatDoorSA30
namespace Go.Proofs.YtnmhaipjfpongacGreatDoor
open Go.ChangeShapes Go.WideShapes Go.ChangeAt Go.RowKit

section
variable {w0 w w' : World} {E : BE} {K : MK} {s : BS} {o : List Nat} {is : Nat → Bool}
end
end Go.Proofs.YtnmhaipjfpongacGreatDoor

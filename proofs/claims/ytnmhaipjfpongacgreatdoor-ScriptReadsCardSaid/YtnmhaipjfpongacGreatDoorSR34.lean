/- Texts of this seat laid together for one claim: Bm5. No condition of its own: what each proves stands with its theorems. -/
import Derived.Test.YtnmhaipjfpongacGreatDoorSR0
import Derived.Test.YtnmhaipjfpongacGreatDoorSR2
import Derived.Test.YtnmhaipjfpongacGreatDoorSR7
import Derived.Test.YtnmhaipjfpongacGreatDoorSR5
namespace Go.Proofs.YtnmhaipjfpongacGreatDoor
open Go.ChangeShapes Go.WideShapes Go.ChangeAt Go.RowKit

end Go.Proofs.YtnmhaipjfpongacGreatDoor

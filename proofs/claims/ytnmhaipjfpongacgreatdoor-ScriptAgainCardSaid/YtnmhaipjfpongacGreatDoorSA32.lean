/- Texts of this seat laid together for one claim: Bm5. No condition of its own: what each proves stands with its theorems. -/
import Derived.Test.YtnmhaipjfpongacGreatDoorSA0
import Derived.Test.YtnmhaipjfpongacGreatDoorSA2
import Derived.Test.YtnmhaipjfpongacGreatDoorSA8
import Derived.Test.YtnmhaipjfpongacGreatDoorSA5
namespace Go.Proofs.YtnmhaipjfpongacGreatDoor
open Go.ChangeShapes Go.WideShapes Go.ChangeAt Go.RowKit

end Go.Proofs.YtnmhaipjfpongacGreatDoor

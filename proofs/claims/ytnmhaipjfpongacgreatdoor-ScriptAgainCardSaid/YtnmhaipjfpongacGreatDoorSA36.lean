/- Texts of this seat laid together for one claim: F15, F16, S10. No condition of its own: what each proves stands with its theorems. -/
import Derived.Test.YtnmhaipjfpongacGreatDoorSA35
import Derived.Test.YtnmhaipjfpongacGreatDoorSA12
import Derived.Test.YtnmhaipjfpongacGreatDoorSA9
import Derived.Test.YtnmhaipjfpongacGreatDoorSA5
import Derived.Test.YtnmhaipjfpongacGreatDoorSA23
import Derived.Test.YtnmhaipjfpongacGreatDoorSA7
namespace Go.Proofs.YtnmhaipjfpongacGreatDoor
open Go.ChangeShapes Go.WideShapes Go.ChangeAt Go.RowKit

end Go.Proofs.YtnmhaipjfpongacGreatDoor

namespace Go.Proofs.YtnmhaipjfpongacGreatDoor
open Go.ChangeShapes Go.WideShapes Go.ChangeAt Go.RowKit

end Go.Proofs.YtnmhaipjfpongacGreatDoor

namespace Go.Proofs.YtnmhaipjfpongacGreatDoor
open Go.ChangeShapes Go.WideShapes Go.ChangeAt Go.RowKit

end Go.Proofs.YtnmhaipjfpongacGreatDoor

/- Texts of this seat laid together for one claim: Bm5. No condition of its own: what each proves stands with its theorems. -/
import Derived.Test.YtnmhaipjfpongacGreatDoorPA0
import Derived.Test.YtnmhaipjfpongacGreatDoorPA3
import Derived.Test.YtnmhaipjfpongacGreatDoorPA9
import Derived.Test.YtnmhaipjfpongacGreatDoorPA7
namespace Go.Proofs.YtnmhaipjfpongacGreatDoor
open Go.ChangeShapes Go.WideShapes Go.ChangeAt Go.RowKit

end Go.Proofs.YtnmhaipjfpongacGreatDoor

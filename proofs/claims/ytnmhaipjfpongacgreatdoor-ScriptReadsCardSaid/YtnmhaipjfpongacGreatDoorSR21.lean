/- Texts of this seat laid together for one claim: F12. No condition of its own: what each proves stands with its theorems. -/
import Derived.BigQuiet
import Derived.Test.YtnmhaipjfpongacGreatDoorSR12
namespace Go.Proofs.YtnmhaipjfpongacGreatDoor
open Go.ChangeShapes Go.WideShapes Go.ChangeAt Go.RowKit

end Go.Proofs.YtnmhaipjfpongacGreatDoor

/- Texts of this seat laid together for one claim: F14, F15. No condition of its own: what each proves stands with its theorems. -/
import Derived.Lib.Replace
import Derived.Test.YtnmhaipjfpongacGreatDoorSR21
namespace Go.Proofs.YtnmhaipjfpongacGreatDoor
open Go.ChangeShapes Go.WideShapes Go.ChangeAt Go.RowKit

theorem Row.down {b b' : Nat} {w : World} {v : Value} {l : List B} (h : Row b' w v l) (hb : b ≤ b') : Row b w v l :=
 ⟨h.1, h.2.imp id fun ⟨g, cap, cur, e, hg, r⟩ => ⟨g, cap, cur, e, Nat.le_trans hb hg, r⟩⟩

end Go.Proofs.YtnmhaipjfpongacGreatDoor

namespace Go.Proofs.YtnmhaipjfpongacGreatDoor
open Go.ChangeShapes Go.WideShapes Go.ChangeAt Go.RowKit

end Go.Proofs.YtnmhaipjfpongacGreatDoor

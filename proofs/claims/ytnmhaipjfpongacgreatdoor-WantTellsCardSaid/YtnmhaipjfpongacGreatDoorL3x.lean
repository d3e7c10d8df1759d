/- What the rows' facts ask of the program alone. No condition. -/
import Derived.Test.YtnmhaipjfpongacGreatDoorChecked
import Derived.Test.YtnmhaipjfpongacGreatDoorRows
import Derived.JoinedOf
namespace Go.Proofs.YtnmhaipjfpongacGreatDoor
theorem prog_laidOut : laidOutB Tryz.pinned.checked.prog = true := by kernel_rfl
theorem prog_mapsRowed : mapsRowed Tryz.pinned.checked.prog = true := by kernel_rfl
theorem prog_stops : (Tryz.pinned.checked.prog.stops == []) = true := by kernel_rfl
theorem prog_stopKnobs : (Tryz.pinned.checked.prog.stopKnobs == []) = true := by kernel_rfl
theorem prog_stopsHeard : Tryz.pinned.checked.prog.stopsHeard = true := by kernel_rfl
theorem prog_mayEnter : Tryz.pinned.checked.prog.mayEnter = true := by kernel_rfl
end Go.Proofs.YtnmhaipjfpongacGreatDoor

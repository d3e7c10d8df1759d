/- Texts of this seat laid together for one claim: Pl10c. No condition of its own: what each proves stands with its theorems. -/
import Derived.ChangeMaps5
import Derived.LaidMore
import Derived.Lay
import Derived.Lib.LaidTab
import Derived.OpenShut
import Derived.SevenTiedAt
import Derived.SliceStrings
import Derived.Stop.Joined
import Derived.Stop.LaidErr
import Derived.Test.YtnmhaipjfpongacGreatDoorCards
import Derived.Test.YtnmhaipjfpongacGreatDoorTie
import Derived.Test.YtnmhaipjfpongacGreatDoorPA31
import Derived.Test.YtnmhaipjfpongacGreatDoorPA50
import Derived.Test.YtnmhaipjfpongacGreatDoorPA41
import Derived.Test.YtnmhaipjfpongacGreatDoorPA49
namespace Go.Proofs.YtnmhaipjfpongacGreatDoor.playAgainDone
open Go.ChangeShapes Go.WideShapes Go.ChangeAt Go.RowKit

theorem plain (f : FuncId) (fn : Func) (hf : Tryz.pinned.checked.prog.funcNamed "kilnyard/kilnyardlaw3.PlayAgain" = some f) (hfn : Tryz.pinned.checked.prog.funcs[f]? = some fn) :
  true = Tryz.pinned.checked.prog.looks [] ∧ ∀ (j : Nat) t, fn.params[j]? = some t → Tryz.pinned.checked.prog.wantsStandIn t = false := by
 obtain rfl : f = 9 := Option.some.inj ((show Tryz.prog.funcNamed "kilnyard/kilnyardlaw3.PlayAgain" = some 9 by kernel_rfl).symm.trans hf) |>.symm
 obtain rfl : fn = Tryz.f9 := (Option.some.inj (Tryz.func9.symm.trans hfn)).symm
 refine ⟨by kernel_rfl, fun j t ht => ?_⟩
 rw [Tryz.params9] at ht
 have hm : t ∈ [46] := by simpa using Array.mem_of_getElem? ht
 have hall : ([46].all fun u => !Tryz.prog.wantsStandIn u) = true := by kernel_rfl
 exact (show Tryz.prog.wantsStandIn t = false by simpa using List.all_eq_true.1 hall t hm)

theorem wf : Rows.playAgainRow.wfByText (OpenSpec.ofChange Rows.playAgainSpec) = true := by kernel_rfl
theorem isMain : Tryz.pinned.checked.prog.mainIs = some (Rows.playAgainCard.stood.harness.1, Rows.playAgainCard.stood.harness.2.toList) := by kernel_rfl
theorem goes : false = Rows.playAgainRow.goesBy Tryz.pinned.checked.prog := by kernel_rfl
theorem proved : Rows.PlayAgainCardSaid :=
 holds_tied_goes .later _ _ _ _ _ said wf playAgain_row_tie rfl ⟨rfl, rfl⟩ isMain rfl plain goes
end Go.Proofs.YtnmhaipjfpongacGreatDoor.playAgainDone

/- Texts of this seat laid together for one claim: Z33c. No condition of its own: what each proves stands with its theorems. -/
import Derived.ChangeMaps5
import Derived.LaidMore
import Derived.Lay
import Derived.Lib.LaidTab
import Derived.OpenShut
import Derived.SevenTiedAt
import Derived.SliceStrings
import Derived.Stop.Joined
import Derived.Stop.LaidErr
import Derived.Test.YtnmhaipjfpongabGreatDoorCards
import Derived.Test.YtnmhaipjfpongabGreatDoorTie
import Derived.Test.YtnmhaipjfpongabGreatDoorPS0
import Derived.Test.YtnmhaipjfpongabGreatDoorPS49
import Derived.Test.YtnmhaipjfpongabGreatDoorPS45
import Derived.Test.YtnmhaipjfpongabGreatDoorPS48
import Derived.Test.YtnmhaipjfpongabGreatDoorPS50
namespace Go.Proofs.YtnmhaipjfpongabGreatDoor.pickSameDone
open Go.ChangeShapes Go.WideShapes Go.ChangeAt Go.RowKit

theorem plain (f : FuncId) (fn : Func) (hf : Tryz.pinned.checked.prog.funcNamed "kilnyard/kilnyardlaw3.PickSame" = some f) (hfn : Tryz.pinned.checked.prog.funcs[f]? = some fn) :
  true = Tryz.pinned.checked.prog.looks [] ∧ ∀ (j : Nat) t, fn.params[j]? = some t → Tryz.pinned.checked.prog.wantsStandIn t = false := by
 obtain rfl : f = 14 := Option.some.inj ((show Tryz.prog.funcNamed "kilnyard/kilnyardlaw3.PickSame" = some 14 by kernel_rfl).symm.trans hf) |>.symm
 obtain rfl : fn = Tryz.f14 := (Option.some.inj (Tryz.func14.symm.trans hfn)).symm
 refine ⟨by kernel_rfl, fun j t ht => ?_⟩
 rw [Tryz.params14] at ht
 have hm : t ∈ [22, 23, 63, 63] := by simpa using Array.mem_of_getElem? ht
 have hall : ([22, 23, 63, 63].all fun u => !Tryz.prog.wantsStandIn u) = true := by kernel_rfl
 exact (show Tryz.prog.wantsStandIn t = false by simpa using List.all_eq_true.1 hall t hm)

theorem wf : Rows.pickSameRow.wfByText (OpenSpec.ofChange Rows.pickSameSpec) = true := by kernel_rfl
theorem isMain : Tryz.pinned.checked.prog.mainIs = some (Rows.pickSameCard.stood.harness.1, Rows.pickSameCard.stood.harness.2.toList) := by kernel_rfl
theorem goes : true = Rows.pickSameRow.goesBy Tryz.pinned.checked.prog := by kernel_rfl
theorem proved : Rows.PickSameCardSaid :=
 holds_tied_goes .later _ _ _ _ _ said wf pickSame_row_tie rfl ⟨rfl, rfl⟩ isMain rfl plain goes
end Go.Proofs.YtnmhaipjfpongabGreatDoor.pickSameDone

/- Texts of this seat laid together for one claim: Z39c. No condition of its own: what each proves stands with its theorems. -/
import Derived.ChangeMaps5
import Derived.LaidMore
import Derived.Lay
import Derived.Lib.LaidTab
import Derived.OpenShut
import Derived.SevenTiedAt
import Derived.SliceStrings
import Derived.Stop.Joined
import Derived.Stop.LaidErr
import Derived.Test.YtnmhaipjfpongacGreatDoorCards
import Derived.Test.YtnmhaipjfpongacGreatDoorTie
import Derived.Test.YtnmhaipjfpongacGreatDoorBR50
import Derived.Test.YtnmhaipjfpongacGreatDoorBR0
import Derived.Test.YtnmhaipjfpongacGreatDoorBR7
import Derived.Test.YtnmhaipjfpongacGreatDoorBR35
namespace Go.Proofs.YtnmhaipjfpongacGreatDoor.buildRunsDone
open Go.ChangeShapes Go.WideShapes Go.ChangeAt Go.RowKit

theorem plain (f : FuncId) (fn : Func) (hf : Tryz.pinned.checked.prog.funcNamed "kilnyard/kilnyardlaw2.BuildRuns" = some f) (hfn : Tryz.pinned.checked.prog.funcs[f]? = some fn) :
  true = Tryz.pinned.checked.prog.looks [] ∧ ∀ (j : Nat) t, fn.params[j]? = some t → Tryz.pinned.checked.prog.wantsStandIn t = false := by
 obtain rfl : f = 6 := Option.some.inj ((show Tryz.prog.funcNamed "kilnyard/kilnyardlaw2.BuildRuns" = some 6 by kernel_rfl).symm.trans hf) |>.symm
 obtain rfl : fn = Tryz.f6 := (Option.some.inj (Tryz.func6.symm.trans hfn)).symm
 refine ⟨by kernel_rfl, fun j t ht => ?_⟩
 rw [Tryz.params6] at ht
 have hm : t ∈ [22, 23, 53, 3, 46] := by simpa using Array.mem_of_getElem? ht
 have hall : ([22, 23, 53, 3, 46].all fun u => !Tryz.prog.wantsStandIn u) = true := by kernel_rfl
 exact (show Tryz.prog.wantsStandIn t = false by simpa using List.all_eq_true.1 hall t hm)

theorem wf : Rows.buildRunsRow.wfByText (OpenSpec.ofChange Rows.buildRunsSpec) = true := by kernel_rfl
theorem isMain : Tryz.pinned.checked.prog.mainIs = some (Rows.buildRunsCard.stood.harness.1, Rows.buildRunsCard.stood.harness.2.toList) := by kernel_rfl
theorem goes : false = Rows.buildRunsRow.goesBy Tryz.pinned.checked.prog := by kernel_rfl
theorem proved : Rows.BuildRunsCardSaid :=
 holds_tied_goes .later _ _ _ _ _ said wf buildRuns_row_tie rfl ⟨rfl, rfl⟩ isMain rfl plain goes
end Go.Proofs.YtnmhaipjfpongacGreatDoor.buildRunsDone

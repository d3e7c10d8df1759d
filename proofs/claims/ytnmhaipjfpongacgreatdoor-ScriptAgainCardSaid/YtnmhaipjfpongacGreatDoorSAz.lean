/- Texts of this seat laid together for one claim: Sa7c. No condition of its own: what each proves stands with its theorems. -/
import Derived.ChangeMaps5
import Derived.LaidMore
import Derived.Lay
import Derived.Lib.LaidTab
import Derived.OpenShut
import Derived.SevenTiedAt
import Derived.SliceStrings
import Derived.Stop.Joined
import Derived.Stop.LaidErr
import Derived.Test.YtnmhaipjfpongacGreatDoorCards
import Derived.Test.YtnmhaipjfpongacGreatDoorTie
import Derived.Test.YtnmhaipjfpongacGreatDoorSA0
import Derived.Test.YtnmhaipjfpongacGreatDoorSA48
import Derived.Test.YtnmhaipjfpongacGreatDoorSA23
import Derived.Test.YtnmhaipjfpongacGreatDoorSA50
namespace Go.Proofs.YtnmhaipjfpongacGreatDoor.scriptAgainDone
open Go.ChangeShapes Go.WideShapes Go.ChangeAt Go.RowKit

theorem plain (f : FuncId) (fn : Func) (hf : Tryz.pinned.checked.prog.funcNamed "kilnyard/kilnyardlaw3.ScriptAgain" = some f) (hfn : Tryz.pinned.checked.prog.funcs[f]? = some fn) :
  true = Tryz.pinned.checked.prog.looks [] ∧ ∀ (j : Nat) t, fn.params[j]? = some t → Tryz.pinned.checked.prog.wantsStandIn t = false := by
 obtain rfl : f = 11 := Option.some.inj ((show Tryz.prog.funcNamed "kilnyard/kilnyardlaw3.ScriptAgain" = some 11 by kernel_rfl).symm.trans hf) |>.symm
 obtain rfl : fn = Tryz.f11 := (Option.some.inj (Tryz.func11.symm.trans hfn)).symm
 refine ⟨by kernel_rfl, fun j t ht => ?_⟩
 rw [Tryz.params11] at ht
 have hm : t ∈ [133, 3] := by simpa using Array.mem_of_getElem? ht
 have hall : ([133, 3].all fun u => !Tryz.prog.wantsStandIn u) = true := by kernel_rfl
 exact (show Tryz.prog.wantsStandIn t = false by simpa using List.all_eq_true.1 hall t hm)

theorem wf : Rows.scriptAgainRow.wfByText (OpenSpec.ofChange Rows.scriptAgainSpec) = true := by kernel_rfl
theorem isMain : Tryz.pinned.checked.prog.mainIs = some (Rows.scriptAgainCard.stood.harness.1, Rows.scriptAgainCard.stood.harness.2.toList) := by kernel_rfl
theorem goes : false = Rows.scriptAgainRow.goesBy Tryz.pinned.checked.prog := by kernel_rfl
theorem proved : Rows.ScriptAgainCardSaid :=
 holds_tied_goes .later _ _ _ _ _ said wf scriptAgain_row_tie rfl ⟨rfl, rfl⟩ isMain rfl plain goes
end Go.Proofs.YtnmhaipjfpongacGreatDoor.scriptAgainDone

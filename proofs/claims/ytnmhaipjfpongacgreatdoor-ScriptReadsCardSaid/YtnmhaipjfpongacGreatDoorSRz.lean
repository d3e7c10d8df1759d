/- Texts of this seat laid together for one claim: Sc15c. No condition of its own: what each proves stands with its theorems. -/
import Derived.ChangeMaps5
import Derived.LaidMore
import Derived.Lay
import Derived.Lib.LaidTab
import Derived.OpenShut
import Derived.SevenTiedAt
import Derived.SliceStrings
import Derived.Stop.Joined
import Derived.Stop.LaidErr
import Derived.Test.YtnmhaipjfpongacGreatDoorCards
import Derived.Test.YtnmhaipjfpongacGreatDoorTie
import Derived.Test.YtnmhaipjfpongacGreatDoorSR23
import Derived.Test.YtnmhaipjfpongacGreatDoorSR50
import Derived.Test.YtnmhaipjfpongacGreatDoorSR49
namespace Go.Proofs.YtnmhaipjfpongacGreatDoor.scriptReadsDone
open Go.ChangeShapes Go.WideShapes Go.ChangeAt Go.RowKit

theorem plain (f : FuncId) (fn : Func) (hf : Tryz.pinned.checked.prog.funcNamed "kilnyard/kilnyardlaw3.ScriptReads" = some f) (hfn : Tryz.pinned.checked.prog.funcs[f]? = some fn) :
  true = Tryz.pinned.checked.prog.looks [] ∧ ∀ (j : Nat) t, fn.params[j]? = some t → Tryz.pinned.checked.prog.wantsStandIn t = false := by
 obtain rfl : f = 13 := Option.some.inj ((show Tryz.prog.funcNamed "kilnyard/kilnyardlaw3.ScriptReads" = some 13 by kernel_rfl).symm.trans hf) |>.symm
 obtain rfl : fn = Tryz.f13 := (Option.some.inj (Tryz.func13.symm.trans hfn)).symm
 refine ⟨by kernel_rfl, fun j t ht => ?_⟩
 rw [Tryz.params13] at ht
 have hm : t ∈ [53] := by simpa using Array.mem_of_getElem? ht
 have hall : ([53].all fun u => !Tryz.prog.wantsStandIn u) = true := by kernel_rfl
 exact (show Tryz.prog.wantsStandIn t = false by simpa using List.all_eq_true.1 hall t hm)

theorem wf : Rows.scriptReadsRow.wfByText (OpenSpec.ofChange Rows.scriptReadsSpec) = true := by kernel_rfl
theorem isMain : Tryz.pinned.checked.prog.mainIs = some (Rows.scriptReadsCard.stood.harness.1, Rows.scriptReadsCard.stood.harness.2.toList) := by kernel_rfl
theorem goes : false = Rows.scriptReadsRow.goesBy Tryz.pinned.checked.prog := by kernel_rfl
theorem proved : Rows.ScriptReadsCardSaid :=
 holds_tied_goes .later _ _ _ _ _ said wf scriptReads_row_tie rfl ⟨rfl, rfl⟩ isMain rfl plain goes
end Go.Proofs.YtnmhaipjfpongacGreatDoor.scriptReadsDone

/- GraphWhole: the card. No condition. (Printed by gen_claim.py.) -/
import Derived.Test.YtnmhaipjfpongabGreatDoorJ8x
import Derived.Test.YtnmhaipjfpongabGreatDoorJ6x
import Derived.Test.YtnmhaipjfpongabGreatDoorO2x
import Derived.Test.YtnmhaipjfpongabGreatDoorJ8fx
import Derived.Test.YtnmhaipjfpongabGreatDoorGc
import Derived.Test.YtnmhaipjfpongabGreatDoorGh
import Derived.Test.YtnmhaipjfpongabGreatDoorCards
import Derived.Test.YtnmhaipjfpongabGreatDoorTie
import Derived.LaidMore
import Derived.OpenShut
import Derived.Stop.Joined
import Derived.SevenTiedAt
import Derived.SliceStrings
import Derived.ChangeMaps5
import Derived.Lib.LaidTab
import Derived.Stop.LaidErr
import Derived.Lay
namespace Go.Proofs.YtnmhaipjfpongabGreatDoor.graphWholeDone
open Go.ChangeShapes Go.WideShapes Go.ChangeAt Go.RowKit

theorem plain (f : FuncId) (fn : Func) (hf : Tryz.pinned.checked.prog.funcNamed "kilnyard/kilnyardlaw1.GraphWhole" = some f) (hfn : Tryz.pinned.checked.prog.funcs[f]? = some fn) :
    true = Tryz.pinned.checked.prog.looks [] ∧ ∀ (j : Nat) t, fn.params[j]? = some t → Tryz.pinned.checked.prog.wantsStandIn t = false := by
  obtain rfl : f = 6 := Option.some.inj ((show Tryz.prog.funcNamed "kilnyard/kilnyardlaw1.GraphWhole" = some 6 by kernel_rfl).symm.trans hf) |>.symm
  obtain rfl : fn = Tryz.f6 := (Option.some.inj (Tryz.func6.symm.trans hfn)).symm
  refine ⟨by kernel_rfl, fun j t ht => ?_⟩
  rw [Tryz.params6] at ht
  have hm : t ∈ [23, 3] := by simpa using Array.mem_of_getElem? ht
  have hall : ([23, 3].all fun u => !Tryz.prog.wantsStandIn u) = true := by kernel_rfl
  exact (show Tryz.prog.wantsStandIn t = false by simpa using List.all_eq_true.1 hall t hm)

theorem wf : Rows.graphWholeRow.wfByText (OpenSpec.ofChange Rows.graphWholeSpec) = true := by kernel_rfl
theorem isMain : Tryz.pinned.checked.prog.mainIs = some (Rows.graphWholeCard.stood.harness.1, Rows.graphWholeCard.stood.harness.2.toList) := by kernel_rfl
theorem goes : true = Rows.graphWholeRow.goesBy Tryz.pinned.checked.prog := by kernel_rfl
/-- The card. -/
theorem proved : Rows.GraphWholeCardSaid :=
  holds_tied_goes .later _ _ _ _ _ said wf graphWhole_row_tie rfl ⟨rfl, rfl⟩ isMain rfl plain goes
#print axioms proved
end Go.Proofs.YtnmhaipjfpongabGreatDoor.graphWholeDone

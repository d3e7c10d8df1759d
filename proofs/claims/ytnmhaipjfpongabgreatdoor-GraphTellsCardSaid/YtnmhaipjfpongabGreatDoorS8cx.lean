/- GraphTells: the card. No condition. (Printed by gen_claim.py.) -/
import Derived.Test.YtnmhaipjfpongabGreatDoorS8x
import Derived.Test.YtnmhaipjfpongabGreatDoorS7x
import Derived.Test.YtnmhaipjfpongabGreatDoorO2x
import Derived.Test.YtnmhaipjfpongabGreatDoorS8fx
import Derived.Test.YtnmhaipjfpongabGreatDoorGc
import Derived.Test.YtnmhaipjfpongabGreatDoorGh
import Derived.Test.YtnmhaipjfpongabGreatDoorCards
import Derived.Test.YtnmhaipjfpongabGreatDoorTie
import Derived.LaidMore
import Derived.OpenShut
import Derived.Stop.Joined
import Derived.SevenTiedAt
import Derived.SliceStrings
import Derived.ChangeMaps5
import Derived.Lib.LaidTab
import Derived.Stop.LaidErr
import Derived.Lay
namespace Go.Proofs.YtnmhaipjfpongabGreatDoor.graphTellsDone
open Go.ChangeShapes Go.WideShapes Go.ChangeAt Go.RowKit

theorem plain (f : FuncId) (fn : Func) (hf : Tryz.pinned.checked.prog.funcNamed "kilnyard/kilnyardlaw1.GraphTells" = some f) (hfn : Tryz.pinned.checked.prog.funcs[f]? = some fn) :
    true = Tryz.pinned.checked.prog.looks [] ∧ ∀ (j : Nat) t, fn.params[j]? = some t → Tryz.pinned.checked.prog.wantsStandIn t = false := by
  obtain rfl : f = 13 := Option.some.inj ((show Tryz.prog.funcNamed "kilnyard/kilnyardlaw1.GraphTells" = some 13 by kernel_rfl).symm.trans hf) |>.symm
  obtain rfl : fn = Tryz.f13 := (Option.some.inj (Tryz.func13.symm.trans hfn)).symm
  refine ⟨by kernel_rfl, fun j t ht => ?_⟩
  rw [Tryz.params13] at ht
  have hm : t ∈ [23, 24] := by simpa using Array.mem_of_getElem? ht
  have hall : ([23, 24].all fun u => !Tryz.prog.wantsStandIn u) = true := by kernel_rfl
  exact (show Tryz.prog.wantsStandIn t = false by simpa using List.all_eq_true.1 hall t hm)

theorem wf : Rows.graphTellsRow.wfByText (OpenSpec.ofChange Rows.graphTellsSpec) = true := by kernel_rfl
theorem isMain : Tryz.pinned.checked.prog.mainIs = some (Rows.graphTellsCard.stood.harness.1, Rows.graphTellsCard.stood.harness.2.toList) := by kernel_rfl
theorem goes : true = Rows.graphTellsRow.goesBy Tryz.pinned.checked.prog := by kernel_rfl
/-- The card. -/
theorem proved : Rows.GraphTellsCardSaid :=
  holds_tied_goes .later _ _ _ _ _ said wf graphTells_row_tie rfl ⟨rfl, rfl⟩ isMain rfl plain goes
#print axioms proved
end Go.Proofs.YtnmhaipjfpongabGreatDoor.graphTellsDone

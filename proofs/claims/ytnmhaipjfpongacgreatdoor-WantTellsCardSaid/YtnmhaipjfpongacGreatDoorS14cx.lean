/- WantTells: the card. No condition. (Printed by gen_claim.py.) -/
import Derived.Test.YtnmhaipjfpongacGreatDoorS14x
import Derived.Test.YtnmhaipjfpongacGreatDoorS13x
import Derived.Test.YtnmhaipjfpongacGreatDoorO2x
import Derived.Test.YtnmhaipjfpongacGreatDoorO3x
import Derived.Test.YtnmhaipjfpongacGreatDoorS14fx
import Derived.Test.YtnmhaipjfpongacGreatDoorGc
import Derived.Test.YtnmhaipjfpongacGreatDoorGh
import Derived.Test.YtnmhaipjfpongacGreatDoorCards
import Derived.Test.YtnmhaipjfpongacGreatDoorTie
import Derived.LaidMore
import Derived.OpenShut
import Derived.Stop.Joined
import Derived.SevenTiedAt
import Derived.SliceStrings
import Derived.ChangeMaps5
import Derived.Lib.LaidTab
import Derived.Stop.LaidErr
import Derived.Lay
namespace Go.Proofs.YtnmhaipjfpongacGreatDoor.wantTellsDone
open Go.ChangeShapes Go.WideShapes Go.ChangeAt Go.RowKit

theorem plain (f : FuncId) (fn : Func) (hf : Tryz.pinned.checked.prog.funcNamed "kilnyard/kilnyardlaw2.WantTells" = some f) (hfn : Tryz.pinned.checked.prog.funcs[f]? = some fn) :
    true = Tryz.pinned.checked.prog.looks [] ∧ ∀ (j : Nat) t, fn.params[j]? = some t → Tryz.pinned.checked.prog.wantsStandIn t = false := by
  obtain rfl : f = 3 := Option.some.inj ((show Tryz.prog.funcNamed "kilnyard/kilnyardlaw2.WantTells" = some 3 by kernel_rfl).symm.trans hf) |>.symm
  obtain rfl : fn = Tryz.f3 := (Option.some.inj (Tryz.func3.symm.trans hfn)).symm
  refine ⟨by kernel_rfl, fun j t ht => ?_⟩
  rw [Tryz.params3] at ht
  have hm : t ∈ [22, 23, 9] := by simpa using Array.mem_of_getElem? ht
  have hall : ([22, 23, 9].all fun u => !Tryz.prog.wantsStandIn u) = true := by kernel_rfl
  exact (show Tryz.prog.wantsStandIn t = false by simpa using List.all_eq_true.1 hall t hm)

theorem wf : Rows.wantTellsRow.wfByText (OpenSpec.ofChange Rows.wantTellsSpec) = true := by kernel_rfl
theorem isMain : Tryz.pinned.checked.prog.mainIs = some (Rows.wantTellsCard.stood.harness.1, Rows.wantTellsCard.stood.harness.2.toList) := by kernel_rfl
theorem goes : false = Rows.wantTellsRow.goesBy Tryz.pinned.checked.prog := by kernel_rfl
/-- The card. -/
theorem proved : Rows.WantTellsCardSaid :=
  holds_tied_goes .later _ _ _ _ _ said wf wantTells_row_tie rfl ⟨rfl, rfl⟩ isMain rfl plain goes
#print axioms proved
end Go.Proofs.YtnmhaipjfpongacGreatDoor.wantTellsDone

/- BuildOnce: the card. No condition. (Printed by gen_claim.py.) -/
import Derived.Test.YtnmhaipjfpongabGreatDoorZ22x
import Derived.Test.YtnmhaipjfpongabGreatDoorZ21x
import Derived.Test.YtnmhaipjfpongabGreatDoorO2x
import Derived.Test.YtnmhaipjfpongabGreatDoorO3x
import Derived.Test.YtnmhaipjfpongabGreatDoorO4x
import Derived.Test.YtnmhaipjfpongabGreatDoorZ22fx
import Derived.Test.YtnmhaipjfpongabGreatDoorGc
import Derived.Test.YtnmhaipjfpongabGreatDoorGh
import Derived.Test.YtnmhaipjfpongabGreatDoorCards
import Derived.Test.YtnmhaipjfpongabGreatDoorTie
import Derived.LaidMore
import Derived.OpenShut
import Derived.Stop.Joined
import Derived.SevenTiedAt
import Derived.SliceStrings
import Derived.ChangeMaps5
import Derived.Lib.LaidTab
import Derived.Stop.LaidErr
import Derived.Lay
namespace Go.Proofs.YtnmhaipjfpongabGreatDoor.buildOnceDone
open Go.ChangeShapes Go.WideShapes Go.ChangeAt Go.RowKit

theorem plain (f : FuncId) (fn : Func) (hf : Tryz.pinned.checked.prog.funcNamed "kilnyard/kilnyardlaw2.BuildOnce" = some f) (hfn : Tryz.pinned.checked.prog.funcs[f]? = some fn) :
    true = Tryz.pinned.checked.prog.looks [] ∧ ∀ (j : Nat) t, fn.params[j]? = some t → Tryz.pinned.checked.prog.wantsStandIn t = false := by
  obtain rfl : f = 10 := Option.some.inj ((show Tryz.prog.funcNamed "kilnyard/kilnyardlaw2.BuildOnce" = some 10 by kernel_rfl).symm.trans hf) |>.symm
  obtain rfl : fn = Tryz.f10 := (Option.some.inj (Tryz.func10.symm.trans hfn)).symm
  refine ⟨by kernel_rfl, fun j t ht => ?_⟩
  rw [Tryz.params10] at ht
  have hm : t ∈ [22, 23, 63] := by simpa using Array.mem_of_getElem? ht
  have hall : ([22, 23, 63].all fun u => !Tryz.prog.wantsStandIn u) = true := by kernel_rfl
  exact (show Tryz.prog.wantsStandIn t = false by simpa using List.all_eq_true.1 hall t hm)

theorem wf : Rows.buildOnceRow.wfByText (OpenSpec.ofChange Rows.buildOnceSpec) = true := by kernel_rfl
theorem isMain : Tryz.pinned.checked.prog.mainIs = some (Rows.buildOnceCard.stood.harness.1, Rows.buildOnceCard.stood.harness.2.toList) := by kernel_rfl
theorem goes : true = Rows.buildOnceRow.goesBy Tryz.pinned.checked.prog := by kernel_rfl
/-- The card. -/
theorem proved : Rows.BuildOnceCardSaid :=
  holds_tied_goes .later _ _ _ _ _ said wf buildOnce_row_tie rfl ⟨rfl, rfl⟩ isMain rfl plain goes
#print axioms proved
end Go.Proofs.YtnmhaipjfpongabGreatDoor.buildOnceDone

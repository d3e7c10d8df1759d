/- ActRuns: the card. No condition. (Printed by gen_claim.py.) -/
import Derived.Test.YtnmhaipjfpongabGreatDoorF17x
import Derived.Test.YtnmhaipjfpongabGreatDoorF16x
import Derived.Test.YtnmhaipjfpongabGreatDoorF17fx
import Derived.Test.YtnmhaipjfpongabGreatDoorGc
import Derived.Test.YtnmhaipjfpongabGreatDoorGh
import Derived.Test.YtnmhaipjfpongabGreatDoorCards
import Derived.Test.YtnmhaipjfpongabGreatDoorTie
import Derived.LaidMore
import Derived.OpenShut
import Derived.Stop.Joined
import Derived.SevenTiedAt
import Derived.SliceStrings
import Derived.ChangeMaps5
import Derived.Lib.LaidTab
import Derived.Stop.LaidErr
import Derived.Lay
namespace Go.Proofs.YtnmhaipjfpongabGreatDoor.actRunsDone
open Go.ChangeShapes Go.WideShapes Go.ChangeAt Go.RowKit

theorem plain (f : FuncId) (fn : Func) (hf : Tryz.pinned.checked.prog.funcNamed "kilnyard/kilnyardlaw1.ActRuns" = some f) (hfn : Tryz.pinned.checked.prog.funcs[f]? = some fn) :
    true = Tryz.pinned.checked.prog.looks [] ∧ ∀ (j : Nat) t, fn.params[j]? = some t → Tryz.pinned.checked.prog.wantsStandIn t = false := by
  obtain rfl : f = 7 := Option.some.inj ((show Tryz.prog.funcNamed "kilnyard/kilnyardlaw1.ActRuns" = some 7 by kernel_rfl).symm.trans hf) |>.symm
  obtain rfl : fn = Tryz.f7 := (Option.some.inj (Tryz.func7.symm.trans hfn)).symm
  refine ⟨by kernel_rfl, fun j t ht => ?_⟩
  rw [Tryz.params7] at ht
  have hm : t ∈ [9, 9, 24] := by simpa using Array.mem_of_getElem? ht
  have hall : ([9, 9, 24].all fun u => !Tryz.prog.wantsStandIn u) = true := by kernel_rfl
  exact (show Tryz.prog.wantsStandIn t = false by simpa using List.all_eq_true.1 hall t hm)

/-- The card. -/
theorem proved : Rows.ActRunsCardSaid :=
  holds_tied_goes .later _ _ _ _ _ said (by kernel_rfl) actRuns_row_tie rfl ⟨rfl, rfl⟩ (by kernel_rfl) rfl plain (by kernel_rfl)
#print axioms proved
end Go.Proofs.YtnmhaipjfpongabGreatDoor.actRunsDone

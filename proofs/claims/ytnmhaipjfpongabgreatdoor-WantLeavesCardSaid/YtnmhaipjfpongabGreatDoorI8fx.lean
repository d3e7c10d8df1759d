/- The facts of WantLeaves's row that the kernel reckons, each by itself. No condition. (Printed by gen_facts.py.) -/
import Derived.Test.YtnmhaipjfpongabGreatDoorL3x
import Derived.Test.YtnmhaipjfpongabGreatDoorRows
import Derived.JoinedOf
namespace Go.Proofs.YtnmhaipjfpongabGreatDoor.wantLeavesFacts
theorem k0 : Rows.wantLeavesRow.wf (OpenSpec.ofChange Rows.wantLeavesSpec) = true := by kernel_rfl
theorem k3 : Tryz.f9.params.all (Tryz.pinned.checked.prog.readableRec ·) = true := by kernel_rfl
theorem k4 : namedTie Tryz.pinned.checked.prog Rows.wantLeavesRow.named Rows.wantLeavesSpec.vars = true := by kernel_rfl
theorem k5 : (Rows.wantLeavesRow.stops == []) = true := by kernel_rfl
theorem k7 : (Rows.wantLeavesRow.knobs == []) = true := by kernel_rfl
theorem k9 : (Rows.wantLeavesRow.inPlace == Tryz.pinned.checked.prog.inPlace 9) = true := by kernel_rfl
theorem k10 : (Rows.wantLeavesRow.unfollowed == Tryz.pinned.checked.prog.unfollowed 9) = true := by kernel_rfl
theorem k11 : (Rows.wantLeavesRow.recurses == Tryz.pinned.checked.prog.recurses 9) = true := by kernel_rfl
theorem k12 : (Rows.wantLeavesRow.named == Tryz.pinned.checked.prog.varsNamed 9) = true := by kernel_rfl
theorem k13 : (Rows.wantLeavesRow.maps == (Tryz.f9.params.toList ++ Rows.wantLeavesSpec.plain.varTypes Tryz.pinned.checked.prog).any (Tryz.pinned.checked.prog.mapsRec ·)) = true := by kernel_rfl
theorem k14 : (Rows.wantLeavesRow.ifaces == (Tryz.f9.params.toList ++ Rows.wantLeavesSpec.plain.varTypes Tryz.pinned.checked.prog).any (Tryz.pinned.checked.prog.ifacesRec ·)) = true := by kernel_rfl
theorem k15 : (Rows.wantLeavesRow.mapsOut == Tryz.pinned.checked.prog.mapsAmong Tryz.f9.resultTypes.toList) = true := by kernel_rfl
theorem k16 : (Rows.wantLeavesRow.loops == (Tryz.f9.params.toList ++ Rows.wantLeavesSpec.plain.varTypes Tryz.pinned.checked.prog).any (Tryz.pinned.checked.prog.loopsFrom ·)) = true := by kernel_rfl
theorem k17 : (Rows.wantLeavesRow.wideKeys == (Tryz.f9.params.toList ++ Rows.wantLeavesSpec.plain.varTypes Tryz.pinned.checked.prog ++ Tryz.f9.resultTypes.toList).any (Tryz.pinned.checked.prog.wideKeysFrom ·)) = true := by kernel_rfl
theorem k18 : Rows.wantLeavesSpec.vars.all (Tryz.pinned.checked.prog.varReadable ·) = true := by kernel_rfl
theorem k19 : Tryz.f9.resultTypes.all (fun t => Tryz.pinned.checked.prog.readableRec t && decide (t < Tryz.pinned.checked.prog.types.size)) = true := by kernel_rfl
theorem k20 : (Rows.wantLeavesRow.ifacesOut == Tryz.f9.resultTypes.toList.any (Tryz.pinned.checked.prog.ifacesRec ·)) = true := by kernel_rfl
theorem k21 : (Rows.wantLeavesRow.loopsOut == Tryz.f9.resultTypes.toList.any (Tryz.pinned.checked.prog.loopsFrom ·)) = true := by kernel_rfl
theorem k22 : (Rows.wantLeavesRow.plainKeys == Tryz.pinned.checked.prog.plainKeys) = true := by kernel_rfl
theorem k23 : Rows.wantLeavesRow.shortTexts.isNone = true := by kernel_rfl
theorem k26 : (Rows.wantLeavesRow.lifted == Tryz.pinned.checked.prog.liftsFinal) = true := by kernel_rfl
theorem k27 : (Tryz.pinned.checked.prog.make == some Rows.wantLeavesRow.make) = true := by kernel_rfl
theorem k28 : (Rows.wantLeavesRow.kinds == (if Rows.wantLeavesRow.domain.isEmpty then [] else Tryz.f9.params.toList.map fun t => match Tryz.pinned.checked.prog.underlying t with | some (.int k) => some k | _ => none)) = true := by kernel_rfl
theorem k29 : (Rows.wantLeavesRow.pinned == Rows.wantLeavesRow.pinnedBy) = true := by kernel_rfl
theorem k30 : (Rows.wantLeavesRow.veiled == (Tryz.f9.params.toList ++ Rows.wantLeavesSpec.plain.varTypes Tryz.pinned.checked.prog ++ Tryz.f9.resultTypes.toList).any (Tryz.pinned.checked.prog.veiledRec ·)) = true := by kernel_rfl
theorem k31 : Rows.wantLeavesRow.veiledFits Tryz.pinned.checked.prog Tryz.f9.params.toList (Tryz.f9.params.toList ++ Rows.wantLeavesSpec.plain.varTypes Tryz.pinned.checked.prog ++ Tryz.f9.resultTypes.toList) = true := by kernel_rfl
set_option maxRecDepth 100000 in
theorem facts : joinedFacts Tryz.pinned.checked.prog 9 Tryz.f9 Rows.wantLeavesSpec Rows.wantLeavesRow = true := by
  unfold joinedFacts
  simp only [Bool.and_eq_true]
  repeat' apply And.intro
  · exact k0
  · exact prog_laidOut
  · exact prog_mapsRowed
  · exact k3
  · exact k4
  · exact k5
  · exact prog_stops
  · exact k7
  · exact prog_stopKnobs
  · exact k9
  · exact k10
  · exact k11
  · exact k12
  · exact k13
  · exact k14
  · exact k15
  · exact k16
  · exact k17
  · exact k18
  · exact k19
  · exact k20
  · exact k21
  · exact k22
  · exact k23
  · exact prog_stopsHeard
  · exact prog_mayEnter
  · exact k26
  · exact k27
  · exact k28
  · exact k29
  · exact k30
  · exact k31
end Go.Proofs.YtnmhaipjfpongabGreatDoor.wantLeavesFacts

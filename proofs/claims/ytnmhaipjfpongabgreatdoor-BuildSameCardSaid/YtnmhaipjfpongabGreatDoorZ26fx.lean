/- The facts of BuildSame's row that the kernel reckons, each by itself. No condition. (Printed by gen_facts.py.) -/
import Derived.Test.YtnmhaipjfpongabGreatDoorL3x
import Derived.Test.YtnmhaipjfpongabGreatDoorRows
import Derived.JoinedOf
namespace Go.Proofs.YtnmhaipjfpongabGreatDoor.buildSameFacts
theorem k0 : Rows.buildSameRow.wf (OpenSpec.ofChange Rows.buildSameSpec) = true := by kernel_rfl
theorem k3 : Tryz.f12.params.all (Tryz.pinned.checked.prog.readableRec ·) = true := by kernel_rfl
theorem k4 : namedTie Tryz.pinned.checked.prog Rows.buildSameRow.named Rows.buildSameSpec.vars = true := by kernel_rfl
theorem k5 : (Rows.buildSameRow.stops == []) = true := by kernel_rfl
theorem k7 : (Rows.buildSameRow.knobs == []) = true := by kernel_rfl
theorem k9 : (Rows.buildSameRow.inPlace == Tryz.pinned.checked.prog.inPlace 12) = true := by kernel_rfl
theorem k10 : (Rows.buildSameRow.unfollowed == Tryz.pinned.checked.prog.unfollowed 12) = true := by kernel_rfl
theorem k11 : (Rows.buildSameRow.recurses == Tryz.pinned.checked.prog.recurses 12) = true := by kernel_rfl
theorem k12 : (Rows.buildSameRow.named == Tryz.pinned.checked.prog.varsNamed 12) = true := by kernel_rfl
theorem k13 : (Rows.buildSameRow.maps == (Tryz.f12.params.toList ++ Rows.buildSameSpec.plain.varTypes Tryz.pinned.checked.prog).any (Tryz.pinned.checked.prog.mapsRec ·)) = true := by kernel_rfl
theorem k14 : (Rows.buildSameRow.ifaces == (Tryz.f12.params.toList ++ Rows.buildSameSpec.plain.varTypes Tryz.pinned.checked.prog).any (Tryz.pinned.checked.prog.ifacesRec ·)) = true := by kernel_rfl
theorem k15 : (Rows.buildSameRow.mapsOut == Tryz.pinned.checked.prog.mapsAmong Tryz.f12.resultTypes.toList) = true := by kernel_rfl
theorem k16 : (Rows.buildSameRow.loops == (Tryz.f12.params.toList ++ Rows.buildSameSpec.plain.varTypes Tryz.pinned.checked.prog).any (Tryz.pinned.checked.prog.loopsFrom ·)) = true := by kernel_rfl
theorem k17 : (Rows.buildSameRow.wideKeys == (Tryz.f12.params.toList ++ Rows.buildSameSpec.plain.varTypes Tryz.pinned.checked.prog ++ Tryz.f12.resultTypes.toList).any (Tryz.pinned.checked.prog.wideKeysFrom ·)) = true := by kernel_rfl
theorem k18 : Rows.buildSameSpec.vars.all (Tryz.pinned.checked.prog.varReadable ·) = true := by kernel_rfl
theorem k19 : Tryz.f12.resultTypes.all (fun t => Tryz.pinned.checked.prog.readableRec t && decide (t < Tryz.pinned.checked.prog.types.size)) = true := by kernel_rfl
theorem k20 : (Rows.buildSameRow.ifacesOut == Tryz.f12.resultTypes.toList.any (Tryz.pinned.checked.prog.ifacesRec ·)) = true := by kernel_rfl
theorem k21 : (Rows.buildSameRow.loopsOut == Tryz.f12.resultTypes.toList.any (Tryz.pinned.checked.prog.loopsFrom ·)) = true := by kernel_rfl
theorem k22 : (Rows.buildSameRow.plainKeys == Tryz.pinned.checked.prog.plainKeys) = true := by kernel_rfl
theorem k23 : Rows.buildSameRow.shortTexts.isNone = true := by kernel_rfl
theorem k26 : (Rows.buildSameRow.lifted == Tryz.pinned.checked.prog.liftsFinal) = true := by kernel_rfl
theorem k27 : (Tryz.pinned.checked.prog.make == some Rows.buildSameRow.make) = true := by kernel_rfl
theorem k28 : (Rows.buildSameRow.kinds == (if Rows.buildSameRow.domain.isEmpty then [] else Tryz.f12.params.toList.map fun t => match Tryz.pinned.checked.prog.underlying t with | some (.int k) => some k | _ => none)) = true := by kernel_rfl
theorem k29 : (Rows.buildSameRow.pinned == Rows.buildSameRow.pinnedBy) = true := by kernel_rfl
theorem k30 : (Rows.buildSameRow.veiled == (Tryz.f12.params.toList ++ Rows.buildSameSpec.plain.varTypes Tryz.pinned.checked.prog ++ Tryz.f12.resultTypes.toList).any (Tryz.pinned.checked.prog.veiledRec ·)) = true := by kernel_rfl
theorem k31 : Rows.buildSameRow.veiledFits Tryz.pinned.checked.prog Tryz.f12.params.toList (Tryz.f12.params.toList ++ Rows.buildSameSpec.plain.varTypes Tryz.pinned.checked.prog ++ Tryz.f12.resultTypes.toList) = true := by kernel_rfl
set_option maxRecDepth 100000 in
theorem facts : joinedFacts Tryz.pinned.checked.prog 12 Tryz.f12 Rows.buildSameSpec Rows.buildSameRow = true := by
  unfold joinedFacts
  simp only [Bool.and_eq_true]
  repeat' apply And.intro
  · exact k0
  · exact prog_laidOut
  · exact prog_mapsRowed
  · exact k3
  · exact k4
  · exact k5
  · exact prog_stops
  · exact k7
  · exact prog_stopKnobs
  · exact k9
  · exact k10
  · exact k11
  · exact k12
  · exact k13
  · exact k14
  · exact k15
  · exact k16
  · exact k17
  · exact k18
  · exact k19
  · exact k20
  · exact k21
  · exact k22
  · exact k23
  · exact prog_stopsHeard
  · exact prog_mayEnter
  · exact k26
  · exact k27
  · exact k28
  · exact k29
  · exact k30
  · exact k31
end Go.Proofs.YtnmhaipjfpongabGreatDoor.buildSameFacts

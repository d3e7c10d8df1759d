/- The facts of GraphTells's row that the kernel reckons, each by itself. No condition. (Printed by gen_facts.py.) -/
import Derived.Test.YtnmhaipjfpongabGreatDoorL3x
import Derived.Test.YtnmhaipjfpongabGreatDoorRows
import Derived.JoinedOf
namespace Go.Proofs.YtnmhaipjfpongabGreatDoor.graphTellsFacts
theorem k0 : Rows.graphTellsRow.wf (OpenSpec.ofChange Rows.graphTellsSpec) = true := by kernel_rfl
theorem k3 : Tryz.f13.params.all (Tryz.pinned.checked.prog.readableRec ·) = true := by kernel_rfl
theorem k4 : namedTie Tryz.pinned.checked.prog Rows.graphTellsRow.named Rows.graphTellsSpec.vars = true := by kernel_rfl
theorem k5 : (Rows.graphTellsRow.stops == []) = true := by kernel_rfl
theorem k7 : (Rows.graphTellsRow.knobs == []) = true := by kernel_rfl
theorem k9 : (Rows.graphTellsRow.inPlace == Tryz.pinned.checked.prog.inPlace 13) = true := by kernel_rfl
theorem k10 : (Rows.graphTellsRow.unfollowed == Tryz.pinned.checked.prog.unfollowed 13) = true := by kernel_rfl
theorem k11 : (Rows.graphTellsRow.recurses == Tryz.pinned.checked.prog.recurses 13) = true := by kernel_rfl
theorem k12 : (Rows.graphTellsRow.named == Tryz.pinned.checked.prog.varsNamed 13) = true := by kernel_rfl
theorem k13 : (Rows.graphTellsRow.maps == (Tryz.f13.params.toList ++ Rows.graphTellsSpec.plain.varTypes Tryz.pinned.checked.prog).any (Tryz.pinned.checked.prog.mapsRec ·)) = true := by kernel_rfl
theorem k14 : (Rows.graphTellsRow.ifaces == (Tryz.f13.params.toList ++ Rows.graphTellsSpec.plain.varTypes Tryz.pinned.checked.prog).any (Tryz.pinned.checked.prog.ifacesRec ·)) = true := by kernel_rfl
theorem k15 : (Rows.graphTellsRow.mapsOut == Tryz.pinned.checked.prog.mapsAmong Tryz.f13.resultTypes.toList) = true := by kernel_rfl
theorem k16 : (Rows.graphTellsRow.loops == (Tryz.f13.params.toList ++ Rows.graphTellsSpec.plain.varTypes Tryz.pinned.checked.prog).any (Tryz.pinned.checked.prog.loopsFrom ·)) = true := by kernel_rfl
theorem k17 : (Rows.graphTellsRow.wideKeys == (Tryz.f13.params.toList ++ Rows.graphTellsSpec.plain.varTypes Tryz.pinned.checked.prog ++ Tryz.f13.resultTypes.toList).any (Tryz.pinned.checked.prog.wideKeysFrom ·)) = true := by kernel_rfl
theorem k18 : Rows.graphTellsSpec.vars.all (Tryz.pinned.checked.prog.varReadable ·) = true := by kernel_rfl
theorem k19 : Tryz.f13.resultTypes.all (fun t => Tryz.pinned.checked.prog.readableRec t && decide (t < Tryz.pinned.checked.prog.types.size)) = true := by kernel_rfl
theorem k20 : (Rows.graphTellsRow.ifacesOut == Tryz.f13.resultTypes.toList.any (Tryz.pinned.checked.prog.ifacesRec ·)) = true := by kernel_rfl
theorem k21 : (Rows.graphTellsRow.loopsOut == Tryz.f13.resultTypes.toList.any (Tryz.pinned.checked.prog.loopsFrom ·)) = true := by kernel_rfl
theorem k22 : (Rows.graphTellsRow.plainKeys == Tryz.pinned.checked.prog.plainKeys) = true := by kernel_rfl
theorem k23 : Rows.graphTellsRow.shortTexts.isNone = true := by kernel_rfl
theorem k26 : (Rows.graphTellsRow.lifted == Tryz.pinned.checked.prog.liftsFinal) = true := by kernel_rfl
theorem k27 : (Tryz.pinned.checked.prog.make == some Rows.graphTellsRow.make) = true := by kernel_rfl
theorem k28 : (Rows.graphTellsRow.kinds == (if Rows.graphTellsRow.domain.isEmpty then [] else Tryz.f13.params.toList.map fun t => match Tryz.pinned.checked.prog.underlying t with | some (.int k) => some k | _ => none)) = true := by kernel_rfl
theorem k29 : (Rows.graphTellsRow.pinned == Rows.graphTellsRow.pinnedBy) = true := by kernel_rfl
theorem k30 : (Rows.graphTellsRow.veiled == (Tryz.f13.params.toList ++ Rows.graphTellsSpec.plain.varTypes Tryz.pinned.checked.prog ++ Tryz.f13.resultTypes.toList).any (Tryz.pinned.checked.prog.veiledRec ·)) = true := by kernel_rfl
theorem k31 : Rows.graphTellsRow.veiledFits Tryz.pinned.checked.prog Tryz.f13.params.toList (Tryz.f13.params.toList ++ Rows.graphTellsSpec.plain.varTypes Tryz.pinned.checked.prog ++ Tryz.f13.resultTypes.toList) = true := by kernel_rfl
set_option maxRecDepth 100000 in
theorem facts : joinedFacts Tryz.pinned.checked.prog 13 Tryz.f13 Rows.graphTellsSpec Rows.graphTellsRow = true := by
  unfold joinedFacts
  simp only [Bool.and_eq_true]
  repeat' apply And.intro
  · exact k0
  · exact prog_laidOut
  · exact prog_mapsRowed
  · exact k3
  · exact k4
  · exact k5
  · exact prog_stops
  · exact k7
  · exact prog_stopKnobs
  · exact k9
  · exact k10
  · exact k11
  · exact k12
  · exact k13
  · exact k14
  · exact k15
  · exact k16
  · exact k17
  · exact k18
  · exact k19
  · exact k20
  · exact k21
  · exact k22
  · exact k23
  · exact prog_stopsHeard
  · exact prog_mayEnter
  · exact k26
  · exact k27
  · exact k28
  · exact k29
  · exact k30
  · exact k31
end Go.Proofs.YtnmhaipjfpongabGreatDoor.graphTellsFacts

/- The facts of TreeReads's row that the kernel reckons, each by itself. No condition. (Printed by gen_facts.py.) -/
import Derived.Test.YtnmhaipjfpongabGreatDoorL3x
import Derived.Test.YtnmhaipjfpongabGreatDoorRows
import Derived.JoinedOf
namespace Go.Proofs.YtnmhaipjfpongabGreatDoor.treeReadsFacts
theorem k0 : Rows.treeReadsRow.wf (OpenSpec.ofChange Rows.treeReadsSpec) = true := by kernel_rfl
theorem k3 : Tryz.f5.params.all (Tryz.pinned.checked.prog.readableRec ·) = true := by kernel_rfl
theorem k4 : namedTie Tryz.pinned.checked.prog Rows.treeReadsRow.named Rows.treeReadsSpec.vars = true := by kernel_rfl
theorem k5 : (Rows.treeReadsRow.stops == []) = true := by kernel_rfl
theorem k7 : (Rows.treeReadsRow.knobs == []) = true := by kernel_rfl
theorem k9 : (Rows.treeReadsRow.inPlace == Tryz.pinned.checked.prog.inPlace 5) = true := by kernel_rfl
theorem k10 : (Rows.treeReadsRow.unfollowed == Tryz.pinned.checked.prog.unfollowed 5) = true := by kernel_rfl
theorem k11 : (Rows.treeReadsRow.recurses == Tryz.pinned.checked.prog.recurses 5) = true := by kernel_rfl
theorem k12 : (Rows.treeReadsRow.named == Tryz.pinned.checked.prog.varsNamed 5) = true := by kernel_rfl
theorem k13 : (Rows.treeReadsRow.maps == (Tryz.f5.params.toList ++ Rows.treeReadsSpec.plain.varTypes Tryz.pinned.checked.prog).any (Tryz.pinned.checked.prog.mapsRec ·)) = true := by kernel_rfl
theorem k14 : (Rows.treeReadsRow.ifaces == (Tryz.f5.params.toList ++ Rows.treeReadsSpec.plain.varTypes Tryz.pinned.checked.prog).any (Tryz.pinned.checked.prog.ifacesRec ·)) = true := by kernel_rfl
theorem k15 : (Rows.treeReadsRow.mapsOut == Tryz.pinned.checked.prog.mapsAmong Tryz.f5.resultTypes.toList) = true := by kernel_rfl
theorem k16 : (Rows.treeReadsRow.loops == (Tryz.f5.params.toList ++ Rows.treeReadsSpec.plain.varTypes Tryz.pinned.checked.prog).any (Tryz.pinned.checked.prog.loopsFrom ·)) = true := by kernel_rfl
theorem k17 : (Rows.treeReadsRow.wideKeys == (Tryz.f5.params.toList ++ Rows.treeReadsSpec.plain.varTypes Tryz.pinned.checked.prog ++ Tryz.f5.resultTypes.toList).any (Tryz.pinned.checked.prog.wideKeysFrom ·)) = true := by kernel_rfl
theorem k18 : Rows.treeReadsSpec.vars.all (Tryz.pinned.checked.prog.varReadable ·) = true := by kernel_rfl
theorem k19 : Tryz.f5.resultTypes.all (fun t => Tryz.pinned.checked.prog.readableRec t && decide (t < Tryz.pinned.checked.prog.types.size)) = true := by kernel_rfl
theorem k20 : (Rows.treeReadsRow.ifacesOut == Tryz.f5.resultTypes.toList.any (Tryz.pinned.checked.prog.ifacesRec ·)) = true := by kernel_rfl
theorem k21 : (Rows.treeReadsRow.loopsOut == Tryz.f5.resultTypes.toList.any (Tryz.pinned.checked.prog.loopsFrom ·)) = true := by kernel_rfl
theorem k22 : (Rows.treeReadsRow.plainKeys == Tryz.pinned.checked.prog.plainKeys) = true := by kernel_rfl
theorem k23 : Rows.treeReadsRow.shortTexts.isNone = true := by kernel_rfl
theorem k26 : (Rows.treeReadsRow.lifted == Tryz.pinned.checked.prog.liftsFinal) = true := by kernel_rfl
theorem k27 : (Tryz.pinned.checked.prog.make == some Rows.treeReadsRow.make) = true := by kernel_rfl
theorem k28 : (Rows.treeReadsRow.kinds == (if Rows.treeReadsRow.domain.isEmpty then [] else Tryz.f5.params.toList.map fun t => match Tryz.pinned.checked.prog.underlying t with | some (.int k) => some k | _ => none)) = true := by kernel_rfl
theorem k29 : (Rows.treeReadsRow.pinned == Rows.treeReadsRow.pinnedBy) = true := by kernel_rfl
theorem k30 : (Rows.treeReadsRow.veiled == (Tryz.f5.params.toList ++ Rows.treeReadsSpec.plain.varTypes Tryz.pinned.checked.prog ++ Tryz.f5.resultTypes.toList).any (Tryz.pinned.checked.prog.veiledRec ·)) = true := by kernel_rfl
theorem k31 : Rows.treeReadsRow.veiledFits Tryz.pinned.checked.prog Tryz.f5.params.toList (Tryz.f5.params.toList ++ Rows.treeReadsSpec.plain.varTypes Tryz.pinned.checked.prog ++ Tryz.f5.resultTypes.toList) = true := by kernel_rfl
set_option maxRecDepth 100000 in
theorem facts : joinedFacts Tryz.pinned.checked.prog 5 Tryz.f5 Rows.treeReadsSpec Rows.treeReadsRow = true := by
  unfold joinedFacts
  simp only [Bool.and_eq_true]
  repeat' apply And.intro
  · exact k0
  · exact prog_laidOut
  · exact prog_mapsRowed
  · exact k3
  · exact k4
  · exact k5
  · exact prog_stops
  · exact k7
  · exact prog_stopKnobs
  · exact k9
  · exact k10
  · exact k11
  · exact k12
  · exact k13
  · exact k14
  · exact k15
  · exact k16
  · exact k17
  · exact k18
  · exact k19
  · exact k20
  · exact k21
  · exact k22
  · exact k23
  · exact prog_stopsHeard
  · exact prog_mayEnter
  · exact k26
  · exact k27
  · exact k28
  · exact k29
  · exact k30
  · exact k31
end Go.Proofs.YtnmhaipjfpongabGreatDoor.treeReadsFacts

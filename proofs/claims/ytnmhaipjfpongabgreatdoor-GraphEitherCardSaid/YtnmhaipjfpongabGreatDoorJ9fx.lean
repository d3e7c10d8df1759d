/- The facts of GraphEither's row that the kernel reckons, each by itself. No condition. (Printed by gen_facts.py.) -/
import Derived.Test.YtnmhaipjfpongabGreatDoorL3x
import Derived.Test.YtnmhaipjfpongabGreatDoorRows
import Derived.JoinedOf
namespace Go.Proofs.YtnmhaipjfpongabGreatDoor.graphEitherFacts
theorem k0 : Rows.graphEitherRow.wf (OpenSpec.ofChange Rows.graphEitherSpec) = true := by kernel_rfl
theorem k3 : Tryz.f8.params.all (Tryz.pinned.checked.prog.readableRec ·) = true := by kernel_rfl
theorem k4 : namedTie Tryz.pinned.checked.prog Rows.graphEitherRow.named Rows.graphEitherSpec.vars = true := by kernel_rfl
theorem k5 : (Rows.graphEitherRow.stops == []) = true := by kernel_rfl
theorem k7 : (Rows.graphEitherRow.knobs == []) = true := by kernel_rfl
theorem k9 : (Rows.graphEitherRow.inPlace == Tryz.pinned.checked.prog.inPlace 8) = true := by kernel_rfl
theorem k10 : (Rows.graphEitherRow.unfollowed == Tryz.pinned.checked.prog.unfollowed 8) = true := by kernel_rfl
theorem k11 : (Rows.graphEitherRow.recurses == Tryz.pinned.checked.prog.recurses 8) = true := by kernel_rfl
theorem k12 : (Rows.graphEitherRow.named == Tryz.pinned.checked.prog.varsNamed 8) = true := by kernel_rfl
theorem k13 : (Rows.graphEitherRow.maps == (Tryz.f8.params.toList ++ Rows.graphEitherSpec.plain.varTypes Tryz.pinned.checked.prog).any (Tryz.pinned.checked.prog.mapsRec ·)) = true := by kernel_rfl
theorem k14 : (Rows.graphEitherRow.ifaces == (Tryz.f8.params.toList ++ Rows.graphEitherSpec.plain.varTypes Tryz.pinned.checked.prog).any (Tryz.pinned.checked.prog.ifacesRec ·)) = true := by kernel_rfl
theorem k15 : (Rows.graphEitherRow.mapsOut == Tryz.pinned.checked.prog.mapsAmong Tryz.f8.resultTypes.toList) = true := by kernel_rfl
theorem k16 : (Rows.graphEitherRow.loops == (Tryz.f8.params.toList ++ Rows.graphEitherSpec.plain.varTypes Tryz.pinned.checked.prog).any (Tryz.pinned.checked.prog.loopsFrom ·)) = true := by kernel_rfl
theorem k17 : (Rows.graphEitherRow.wideKeys == (Tryz.f8.params.toList ++ Rows.graphEitherSpec.plain.varTypes Tryz.pinned.checked.prog ++ Tryz.f8.resultTypes.toList).any (Tryz.pinned.checked.prog.wideKeysFrom ·)) = true := by kernel_rfl
theorem k18 : Rows.graphEitherSpec.vars.all (Tryz.pinned.checked.prog.varReadable ·) = true := by kernel_rfl
theorem k19 : Tryz.f8.resultTypes.all (fun t => Tryz.pinned.checked.prog.readableRec t && decide (t < Tryz.pinned.checked.prog.types.size)) = true := by kernel_rfl
theorem k20 : (Rows.graphEitherRow.ifacesOut == Tryz.f8.resultTypes.toList.any (Tryz.pinned.checked.prog.ifacesRec ·)) = true := by kernel_rfl
theorem k21 : (Rows.graphEitherRow.loopsOut == Tryz.f8.resultTypes.toList.any (Tryz.pinned.checked.prog.loopsFrom ·)) = true := by kernel_rfl
theorem k22 : (Rows.graphEitherRow.plainKeys == Tryz.pinned.checked.prog.plainKeys) = true := by kernel_rfl
theorem k23 : Rows.graphEitherRow.shortTexts.isNone = true := by kernel_rfl
theorem k26 : (Rows.graphEitherRow.lifted == Tryz.pinned.checked.prog.liftsFinal) = true := by kernel_rfl
theorem k27 : (Tryz.pinned.checked.prog.make == some Rows.graphEitherRow.make) = true := by kernel_rfl
theorem k28 : (Rows.graphEitherRow.kinds == (if Rows.graphEitherRow.domain.isEmpty then [] else Tryz.f8.params.toList.map fun t => match Tryz.pinned.checked.prog.underlying t with | some (.int k) => some k | _ => none)) = true := by kernel_rfl
theorem k29 : (Rows.graphEitherRow.pinned == Rows.graphEitherRow.pinnedBy) = true := by kernel_rfl
theorem k30 : (Rows.graphEitherRow.veiled == (Tryz.f8.params.toList ++ Rows.graphEitherSpec.plain.varTypes Tryz.pinned.checked.prog ++ Tryz.f8.resultTypes.toList).any (Tryz.pinned.checked.prog.veiledRec ·)) = true := by kernel_rfl
theorem k31 : Rows.graphEitherRow.veiledFits Tryz.pinned.checked.prog Tryz.f8.params.toList (Tryz.f8.params.toList ++ Rows.graphEitherSpec.plain.varTypes Tryz.pinned.checked.prog ++ Tryz.f8.resultTypes.toList) = true := by kernel_rfl
set_option maxRecDepth 100000 in
theorem facts : joinedFacts Tryz.pinned.checked.prog 8 Tryz.f8 Rows.graphEitherSpec Rows.graphEitherRow = true := by
  unfold joinedFacts
  simp only [Bool.and_eq_true]
  repeat' apply And.intro
  · exact k0
  · exact prog_laidOut
  · exact prog_mapsRowed
  · exact k3
  · exact k4
  · exact k5
  · exact prog_stops
  · exact k7
  · exact prog_stopKnobs
  · exact k9
  · exact k10
  · exact k11
  · exact k12
  · exact k13
  · exact k14
  · exact k15
  · exact k16
  · exact k17
  · exact k18
  · exact k19
  · exact k20
  · exact k21
  · exact k22
  · exact k23
  · exact prog_stopsHeard
  · exact prog_mayEnter
  · exact k26
  · exact k27
  · exact k28
  · exact k29
  · exact k30
  · exact k31
end Go.Proofs.YtnmhaipjfpongabGreatDoor.graphEitherFacts

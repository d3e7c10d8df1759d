/- The facts of BuildOnce's row that the kernel reckons, each by itself. No condition. (Printed by gen_facts.py.) -/
import Derived.Test.YtnmhaipjfpongabGreatDoorL3x
import Derived.Test.YtnmhaipjfpongabGreatDoorRows
import Derived.JoinedOf
namespace Go.Proofs.YtnmhaipjfpongabGreatDoor.buildOnceFacts
theorem k0 : Rows.buildOnceRow.wf (OpenSpec.ofChange Rows.buildOnceSpec) = true := by kernel_rfl
theorem k3 : Tryz.f10.params.all (Tryz.pinned.checked.prog.readableRec ·) = true := by kernel_rfl
theorem k4 : namedTie Tryz.pinned.checked.prog Rows.buildOnceRow.named Rows.buildOnceSpec.vars = true := by kernel_rfl
theorem k5 : (Rows.buildOnceRow.stops == []) = true := by kernel_rfl
theorem k7 : (Rows.buildOnceRow.knobs == []) = true := by kernel_rfl
theorem k9 : (Rows.buildOnceRow.inPlace == Tryz.pinned.checked.prog.inPlace 10) = true := by kernel_rfl
theorem k10 : (Rows.buildOnceRow.unfollowed == Tryz.pinned.checked.prog.unfollowed 10) = true := by kernel_rfl
theorem k11 : (Rows.buildOnceRow.recurses == Tryz.pinned.checked.prog.recurses 10) = true := by kernel_rfl
theorem k12 : (Rows.buildOnceRow.named == Tryz.pinned.checked.prog.varsNamed 10) = true := by kernel_rfl
theorem k13 : (Rows.buildOnceRow.maps == (Tryz.f10.params.toList ++ Rows.buildOnceSpec.plain.varTypes Tryz.pinned.checked.prog).any (Tryz.pinned.checked.prog.mapsRec ·)) = true := by kernel_rfl
theorem k14 : (Rows.buildOnceRow.ifaces == (Tryz.f10.params.toList ++ Rows.buildOnceSpec.plain.varTypes Tryz.pinned.checked.prog).any (Tryz.pinned.checked.prog.ifacesRec ·)) = true := by kernel_rfl
theorem k15 : (Rows.buildOnceRow.mapsOut == Tryz.pinned.checked.prog.mapsAmong Tryz.f10.resultTypes.toList) = true := by kernel_rfl
theorem k16 : (Rows.buildOnceRow.loops == (Tryz.f10.params.toList ++ Rows.buildOnceSpec.plain.varTypes Tryz.pinned.checked.prog).any (Tryz.pinned.checked.prog.loopsFrom ·)) = true := by kernel_rfl
theorem k17 : (Rows.buildOnceRow.wideKeys == (Tryz.f10.params.toList ++ Rows.buildOnceSpec.plain.varTypes Tryz.pinned.checked.prog ++ Tryz.f10.resultTypes.toList).any (Tryz.pinned.checked.prog.wideKeysFrom ·)) = true := by kernel_rfl
theorem k18 : Rows.buildOnceSpec.vars.all (Tryz.pinned.checked.prog.varReadable ·) = true := by kernel_rfl
theorem k19 : Tryz.f10.resultTypes.all (fun t => Tryz.pinned.checked.prog.readableRec t && decide (t < Tryz.pinned.checked.prog.types.size)) = true := by kernel_rfl
theorem k20 : (Rows.buildOnceRow.ifacesOut == Tryz.f10.resultTypes.toList.any (Tryz.pinned.checked.prog.ifacesRec ·)) = true := by kernel_rfl
theorem k21 : (Rows.buildOnceRow.loopsOut == Tryz.f10.resultTypes.toList.any (Tryz.pinned.checked.prog.loopsFrom ·)) = true := by kernel_rfl
theorem k22 : (Rows.buildOnceRow.plainKeys == Tryz.pinned.checked.prog.plainKeys) = true := by kernel_rfl
theorem k23 : Rows.buildOnceRow.shortTexts.isNone = true := by kernel_rfl
theorem k26 : (Rows.buildOnceRow.lifted == Tryz.pinned.checked.prog.liftsFinal) = true := by kernel_rfl
theorem k27 : (Tryz.pinned.checked.prog.make == some Rows.buildOnceRow.make) = true := by kernel_rfl
theorem k28 : (Rows.buildOnceRow.kinds == (if Rows.buildOnceRow.domain.isEmpty then [] else Tryz.f10.params.toList.map fun t => match Tryz.pinned.checked.prog.underlying t with | some (.int k) => some k | _ => none)) = true := by kernel_rfl
theorem k29 : (Rows.buildOnceRow.pinned == Rows.buildOnceRow.pinnedBy) = true := by kernel_rfl
theorem k30 : (Rows.buildOnceRow.veiled == (Tryz.f10.params.toList ++ Rows.buildOnceSpec.plain.varTypes Tryz.pinned.checked.prog ++ Tryz.f10.resultTypes.toList).any (Tryz.pinned.checked.prog.veiledRec ·)) = true := by kernel_rfl
theorem k31 : Rows.buildOnceRow.veiledFits Tryz.pinned.checked.prog Tryz.f10.params.toList (Tryz.f10.params.toList ++ Rows.buildOnceSpec.plain.varTypes Tryz.pinned.checked.prog ++ Tryz.f10.resultTypes.toList) = true := by kernel_rfl
set_option maxRecDepth 100000 in
theorem facts : joinedFacts Tryz.pinned.checked.prog 10 Tryz.f10 Rows.buildOnceSpec Rows.buildOnceRow = true := by
  unfold joinedFacts
  simp only [Bool.and_eq_true]
  repeat' apply And.intro
  · exact k0
  · exact prog_laidOut
  · exact prog_mapsRowed
  · exact k3
  · exact k4
  · exact k5
  · exact prog_stops
  · exact k7
  · exact prog_stopKnobs
  · exact k9
  · exact k10
  · exact k11
  · exact k12
  · exact k13
  · exact k14
  · exact k15
  · exact k16
  · exact k17
  · exact k18
  · exact k19
  · exact k20
  · exact k21
  · exact k22
  · exact k23
  · exact prog_stopsHeard
  · exact prog_mayEnter
  · exact k26
  · exact k27
  · exact k28
  · exact k29
  · exact k30
  · exact k31
end Go.Proofs.YtnmhaipjfpongabGreatDoor.buildOnceFacts

/- Texts of this seat laid together for one claim: L3, Z37f, Z37. No condition of its own: what each proves stands with its theorems. -/
import Derived.JoinedOf
import Derived.Test.YtnmhaipjfpongacGreatDoorChecked
import Derived.Test.YtnmhaipjfpongacGreatDoorRows
import Derived.ChangeMaps5
import Derived.LaidMore
import Derived.Lay
import Derived.Lib.LaidTab
import Derived.OpenShut
import Derived.SevenTiedAt
import Derived.SliceStrings
import Derived.Stop.Joined
import Derived.Stop.LaidErr
import Derived.Test.YtnmhaipjfpongacGreatDoorCards
import Derived.Test.YtnmhaipjfpongacGreatDoorTie
import Derived.Test.YtnmhaipjfpongacGreatDoorPL44
import Derived.Test.YtnmhaipjfpongacGreatDoorPL49
import Derived.Test.YtnmhaipjfpongacGreatDoorPL48
namespace Go.Proofs.YtnmhaipjfpongacGreatDoor
theorem prog_laidOut : laidOutB Tryz.pinned.checked.prog = true := by kernel_rfl
theorem prog_mapsRowed : mapsRowed Tryz.pinned.checked.prog = true := by kernel_rfl
theorem prog_stops : (Tryz.pinned.checked.prog.stops == []) = true := by kernel_rfl
theorem prog_stopKnobs : (Tryz.pinned.checked.prog.stopKnobs == []) = true := by kernel_rfl
theorem prog_stopsHeard : Tryz.pinned.checked.prog.stopsHeard = true := by kernel_rfl
theorem prog_mayEnter : Tryz.pinned.checked.prog.mayEnter = true := by kernel_rfl
end Go.Proofs.YtnmhaipjfpongacGreatDoor

namespace Go.Proofs.YtnmhaipjfpongacGreatDoor.pickLevelsFacts
theorem k0 : Rows.pickLevelsRow.wf (OpenSpec.ofChange Rows.pickLevelsSpec) = true := by kernel_rfl
theorem k3 : Tryz.f5.params.all (Tryz.pinned.checked.prog.readableRec ·) = true := by kernel_rfl
theorem k4 : namedTie Tryz.pinned.checked.prog Rows.pickLevelsRow.named Rows.pickLevelsSpec.vars = true := by kernel_rfl
theorem k5 : (Rows.pickLevelsRow.stops == []) = true := by kernel_rfl
theorem k7 : (Rows.pickLevelsRow.knobs == []) = true := by kernel_rfl
theorem k9 : (Rows.pickLevelsRow.inPlace == Tryz.pinned.checked.prog.inPlace 5) = true := by kernel_rfl
theorem k10 : (Rows.pickLevelsRow.unfollowed == Tryz.pinned.checked.prog.unfollowed 5) = true := by kernel_rfl
theorem k11 : (Rows.pickLevelsRow.recurses == Tryz.pinned.checked.prog.recurses 5) = true := by kernel_rfl
theorem k12 : (Rows.pickLevelsRow.named == Tryz.pinned.checked.prog.varsNamed 5) = true := by kernel_rfl
theorem k13 : (Rows.pickLevelsRow.maps == (Tryz.f5.params.toList ++ Rows.pickLevelsSpec.plain.varTypes Tryz.pinned.checked.prog).any (Tryz.pinned.checked.prog.mapsRec ·)) = true := by kernel_rfl
theorem k14 : (Rows.pickLevelsRow.ifaces == (Tryz.f5.params.toList ++ Rows.pickLevelsSpec.plain.varTypes Tryz.pinned.checked.prog).any (Tryz.pinned.checked.prog.ifacesRec ·)) = true := by kernel_rfl
theorem k15 : (Rows.pickLevelsRow.mapsOut == Tryz.pinned.checked.prog.mapsAmong Tryz.f5.resultTypes.toList) = true := by kernel_rfl
theorem k16 : (Rows.pickLevelsRow.loops == (Tryz.f5.params.toList ++ Rows.pickLevelsSpec.plain.varTypes Tryz.pinned.checked.prog).any (Tryz.pinned.checked.prog.loopsFrom ·)) = true := by kernel_rfl
theorem k17 : (Rows.pickLevelsRow.wideKeys == (Tryz.f5.params.toList ++ Rows.pickLevelsSpec.plain.varTypes Tryz.pinned.checked.prog ++ Tryz.f5.resultTypes.toList).any (Tryz.pinned.checked.prog.wideKeysFrom ·)) = true := by kernel_rfl
theorem k18 : Rows.pickLevelsSpec.vars.all (Tryz.pinned.checked.prog.varReadable ·) = true := by kernel_rfl
theorem k19 : Tryz.f5.resultTypes.all (fun t => Tryz.pinned.checked.prog.readableRec t && decide (t < Tryz.pinned.checked.prog.types.size)) = true := by kernel_rfl
theorem k20 : (Rows.pickLevelsRow.ifacesOut == Tryz.f5.resultTypes.toList.any (Tryz.pinned.checked.prog.ifacesRec ·)) = true := by kernel_rfl
theorem k21 : (Rows.pickLevelsRow.loopsOut == Tryz.f5.resultTypes.toList.any (Tryz.pinned.checked.prog.loopsFrom ·)) = true := by kernel_rfl
theorem k22 : (Rows.pickLevelsRow.plainKeys == Tryz.pinned.checked.prog.plainKeys) = true := by kernel_rfl
theorem k23 : Rows.pickLevelsRow.shortTexts.isNone = true := by kernel_rfl
theorem k26 : (Rows.pickLevelsRow.lifted == Tryz.pinned.checked.prog.liftsFinal) = true := by kernel_rfl
theorem k27 : (Tryz.pinned.checked.prog.make == some Rows.pickLevelsRow.make) = true := by kernel_rfl
theorem k28 : (Rows.pickLevelsRow.kinds == (if Rows.pickLevelsRow.domain.isEmpty then [] else Tryz.f5.params.toList.map fun t => match Tryz.pinned.checked.prog.underlying t with | some (.int k) => some k | _ => none)) = true := by kernel_rfl
theorem k29 : (Rows.pickLevelsRow.pinned == Rows.pickLevelsRow.pinnedBy) = true := by kernel_rfl
theorem k30 : (Rows.pickLevelsRow.veiled == (Tryz.f5.params.toList ++ Rows.pickLevelsSpec.plain.varTypes Tryz.pinned.checked.prog ++ Tryz.f5.resultTypes.toList).any (Tryz.pinned.checked.prog.veiledRec ·)) = true := by kernel_rfl
theorem k31 : Rows.pickLevelsRow.veiledFits Tryz.pinned.checked.prog Tryz.f5.params.toList (Tryz.f5.params.toList ++ Rows.pickLevelsSpec.plain.varTypes Tryz.pinned.checked.prog ++ Tryz.f5.resultTypes.toList) = true := by kernel_rfl
set_option maxRecDepth 100000 in
theorem facts : joinedFacts Tryz.pinned.checked.prog 5 Tryz.f5 Rows.pickLevelsSpec Rows.pickLevelsRow = true := by
 unfold joinedFacts
 simp only [Bool.and_eq_true]
 repeat' apply And.intro
 ·exact k0
 ·exact prog_laidOut
 ·exact prog_mapsRowed
 ·exact k3
 ·exact k4
 ·exact k5
 ·exact prog_stops
 ·exact k7
 ·exact prog_stopKnobs
 ·exact k9
 ·exact k10
 ·exact k11
 ·exact k12
 ·exact k13
 ·exact k14
 ·exact k15
 ·exact k16
 ·exact k17
 ·exact k18
 ·exact k19
 ·exact k20
 ·exact k21
 ·exact k22
 ·exact k23
 ·exact prog_stopsHeard
 ·exact prog_mayEnter
 ·exact k26
 ·exact k27
 ·exact k28
 ·exact k29
 ·exact k30
 ·exact k31
end Go.Proofs.YtnmhaipjfpongacGreatDoor.pickLevelsFacts

namespace Go.Proofs.YtnmhaipjfpongacGreatDoor.pickLevelsDone
open Go.ChangeShapes Go.WideShapes Go.ChangeAt Go.RowKit

theorem own : ownKnob Tryz.prog.godebug = none := by kernel_rfl
theorem laidOut : laidOutB Tryz.prog = true := by kernel_rfl

theorem max_of {W : World} (h : W.ShapedOpen Tryz.prog) : HasMax W :=
 cell_of_shapedOpen_int (zero := #[.int .i64 0]) (t := 3) h (of_decide_eq_true (by kernel_rfl)) (by kernel_rfl) rfl (by kernel_rfl) (by kernel_rfl) Tryz.underlying3

theorem sents {W : World} (h : laidMetH Tryz.prog Rows.pickLevelsRow.laid W) : ∃ p, Sents W p := by
 have h' : laidMet Tryz.prog (Rows.pickLevelsRow.laid.filter fun x => x.2.handleName?.isNone) W ∧ handlesMet Tryz.prog (Rows.pickLevelsRow.laid.filter fun x => x.2.handleName?.isSome) W := h
 exact sents_of h'.1 h'.2 (by decide +kernel) (by decide +kernel) (List.mem_cons_self ..)

theorem pow_of {W : World} (h : laidMetH Tryz.prog Rows.pickLevelsRow.laid W) : Pow W := by
 have h' : laidMet Tryz.prog (Rows.pickLevelsRow.laid.filter fun x => x.2.handleName?.isNone) W ∧ handlesMet Tryz.prog (Rows.pickLevelsRow.laid.filter fun x => x.2.handleName?.isSome) W := h
 have h2 := (h'.1).tail.tail
 exact Lib.tabIs_of_head (g := 13) (by kernel_rfl) (by kernel_rfl) Tryz.underlying359 Tryz.underlying309 (by kernel_rfl) (by kernel_rfl) h2

theorem atoi_of {W : World} (h : laidMetH Tryz.prog Rows.pickLevelsRow.laid W) : AtoiVars W := by
 have h' : laidMet Tryz.prog (Rows.pickLevelsRow.laid.filter fun x => x.2.handleName?.isNone) W ∧ handlesMet Tryz.prog (Rows.pickLevelsRow.laid.filter fun x => x.2.handleName?.isSome) W := h
 obtain ⟨a1, e1⟩ := one_of_laid h'.1 (n := "strconv.ErrSyntax") (g := 17) (by kernel_rfl) (by kernel_rfl) (by decide +kernel)
 obtain ⟨a2, e2⟩ := one_of_laid h'.1 (n := "strconv.ErrRange") (g := 18) (by kernel_rfl) (by kernel_rfl) (by decide +kernel)
 exact ⟨⟨_, _, e1⟩, _, _, e2⟩

theorem start_met (os : Os) (args : Array Value) : laidMetH Tryz.prog Rows.pickLevelsRow.laid (((World.doorLaid Tryz.prog 400 os).layVars Tryz.prog (Rows.pickLevelsRow.laid.filter fun x => x.2.handleName?.isNone)).forCall (fun _ _ => 0) ⟨#[], args, []⟩).memory :=
 laidMetH_of_parts3 (fuel := 8) (laidMet_over args (by kernel_rfl) (by kernel_rfl)) (by kernel_rfl) (by kernel_rfl)

set_option maxRecDepth 100000 in
theorem lifted (os : Os) (started : os.Started) (H : Type) (enc : TypeId × Value → H) :
  ReturnsInHanded {} Tryz.checked os 5 .any (fun w args => (Rows.pickLevelsSpec.pre enc Tryz.prog Tryz.f5 [] false w args ∧ laidMetH Tryz.prog Rows.pickLevelsRow.laid w) ∧ sizedMet enc Tryz.prog Tryz.f5 (OpenSpec.ofChange Rows.pickLevelsSpec) false w args)
   (Rows.pickLevelsSpec.post enc Tryz.prog Tryz.f5 false true false false) := by
 refine handed_both (C := Tryz.checked) (X := fun w _ => laidMetH Tryz.prog Rows.pickLevelsRow.laid w) (fun _ _ _ hh h => h.of_heap hh) own started (by kernel_rfl) Tryz.func5
  (ChangeSpec.witness_shaped (enc := enc) (C := Tryz.checked) (os := os) (X := fun w _ => laidMetH Tryz.prog Rows.pickLevelsRow.laid w) false ((World.doorLaid Tryz.prog 400 os).layVars Tryz.prog (Rows.pickLevelsRow.laid.filter fun x => x.2.handleName?.isNone)) #[.slice none 0 0] 8 (World.layVars_os _ _ _) (World.shaped_of_ZipB (by kernel_rfl) (by kernel_rfl)) (by kernel_rfl) (by kernel_rfl) (by kernel_rfl) (start_met os _)) ?_
 intro W base args ds gs before hval0 hW _ hsz0 hL hsh _
 have hval : ∀ (j : Nat) t v, Tryz.f5.params[j]? = some t → args[j]? = some v → Value.okWide Tryz.prog W .any base t v := hval0
 have hsz : (DataW.weightsEach Tryz.prog (Tryz.f5.params.toList ++ Rows.pickLevelsSpec.plain.varTypes Tryz.prog) (ds ++ gs)).all (· ≤ reachBytes) = true := hsz0
 clear hsz0
 have hW' := hW
 obtain ⟨p, q, hA0, hV, rfl, hfz, hnd⟩ := hW
 have hA : DataW.TrodAll enc Tryz.prog W 0 (fun _ => true) true Tryz.f5.params.toList args.toList ds p := hA0
 rw [Tryz.params5] at hA hval hsz
 obtain ⟨v0, vs0, d0, ds0, p0, q0, hargs, rfl, rfl, h0, r0⟩ := trodAll_cons hA
 obtain ⟨rfl, rfl, rfl⟩ := trodAll_nil r0
 obtain rfl : args = #[v0] := by cases args; simp_all
 obtain ⟨rfl, rfl⟩ := trodVars_none hV
 have k0 := h0
 have lt0 : ∀ x ∈ p0, x.block < W.heap.size := by obtain ⟨m, hm⟩ := k0; exact DataW.trod_lt m _ _ _ hm
 have rc0 := reach_arg hsz (j := 0) (t := 23) (d := d0) rfl rfl
 obtain ⟨a0, len0, cap0, rfl⟩ := okWide_slice Tryz.underlying23 (hval 0 23 v0 rfl rfl)
 obtain ⟨fuel0, hf0⟩ := h0
 obtain ⟨l0, hlen0, rd0, rb0⟩ := open_rules (x := (d0, p0)) (by simpa [Value.cells] using hf0) rc0
 clear hA0 hval0
 simp only [List.append_nil] at hW'
 obtain ⟨pt, hs⟩ := sents hL
 have hmax := max_of hsh
 have hav := atoi_of hL
 have hpow := pow_of hL
 have walk : Calls Tryz.prog 5 #[.slice a0 len0 cap0] W fun e w' => e = .returned (.bool true) ∧ Ext W w' :=
  walkPickLevels W pt _ l0 rd0 ⟨hs.errs _, hmax, hav, hpow⟩ hs
 refine walk.mono fun e W' ⟨he, hext⟩ => ?_
 subst he
 have bel := hext.extBelow
 exact ⟨_, rfl, _, _, _, [], _, [], hW', trodAll_mk1 (shut_bool Tryz.underlying4 _), (trodAll_cons_mk (Below.trod laidOut (by kernel_rfl) (of_decide_eq_true (by kernel_rfl)) k0 bel lt0) trodAll_mk0), rfl, bel.frame _, fun h => by cases h⟩

theorem fnNamed : Tryz.pinned.checked.prog.funcNamed Rows.pickLevelsRow.func = some 5 := by kernel_rfl
theorem facts : joinedFacts Tryz.pinned.checked.prog 5 Tryz.f5 Rows.pickLevelsSpec Rows.pickLevelsRow = true := pickLevelsFacts.facts
theorem inst : Tryz.f5.isInstance Tryz.pinned.checked.prog Rows.pickLevelsRow.origin Rows.pickLevelsRow.targs := of_decide_eq_true (by kernel_rfl)
theorem wrap : Tryz.f5.isWrapper Tryz.pinned.checked.prog Rows.pickLevelsRow.wrapper Rows.pickLevelsRow.mainSum := by
 unfold Func.isWrapper
 first | (rw [if_pos (by decide +kernel)]; kernel_rfl) | (rw [if_neg (by decide +kernel)]; exact ⟨rfl, rfl⟩)
theorem said : Rows.PickLevelsSaid :=
 OpenClaim.holds_of_wide 5 Tryz.f5 rfl rfl rfl rfl rfl rfl rfl ⟨rfl, rfl, rfl, rfl, rfl⟩ rfl rfl rfl rfl rfl fnNamed Tryz.func5 facts
  inst wrap (fun os started H enc _ => lifted os started H enc)
end Go.Proofs.YtnmhaipjfpongacGreatDoor.pickLevelsDone

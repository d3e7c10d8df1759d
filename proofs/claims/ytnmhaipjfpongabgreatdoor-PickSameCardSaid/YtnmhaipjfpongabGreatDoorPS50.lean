/- Texts of this seat laid together for one claim: L3, Z33f, Z33. No condition of its own: what each proves stands with its theorems. -/
import Derived.JoinedOf
import Derived.Test.YtnmhaipjfpongabGreatDoorChecked
import Derived.Test.YtnmhaipjfpongabGreatDoorRows
import Derived.ChangeMaps5
import Derived.LaidMore
import Derived.Lay
import Derived.Lib.LaidTab
import Derived.OpenShut
import Derived.SevenTiedAt
import Derived.SliceStrings
import Derived.Stop.Joined
import Derived.Stop.LaidErr
import Derived.Test.YtnmhaipjfpongabGreatDoorCards
import Derived.Test.YtnmhaipjfpongabGreatDoorTie
import Derived.Test.YtnmhaipjfpongabGreatDoorPS0
import Derived.Test.YtnmhaipjfpongabGreatDoorPS49
import Derived.Test.YtnmhaipjfpongabGreatDoorPS45
import Derived.Test.YtnmhaipjfpongabGreatDoorPS48
namespace Go.Proofs.YtnmhaipjfpongabGreatDoor
theorem prog_laidOut : laidOutB Tryz.pinned.checked.prog = true := by kernel_rfl
theorem prog_mapsRowed : mapsRowed Tryz.pinned.checked.prog = true := by kernel_rfl
theorem prog_stops : (Tryz.pinned.checked.prog.stops == []) = true := by kernel_rfl
theorem prog_stopKnobs : (Tryz.pinned.checked.prog.stopKnobs == []) = true := by kernel_rfl
theorem prog_stopsHeard : Tryz.pinned.checked.prog.stopsHeard = true := by kernel_rfl
theorem prog_mayEnter : Tryz.pinned.checked.prog.mayEnter = true := by kernel_rfl
end Go.Proofs.YtnmhaipjfpongabGreatDoor

namespace Go.Proofs.YtnmhaipjfpongabGreatDoor.pickSameFacts
theorem k0 : Rows.pickSameRow.wf (OpenSpec.ofChange Rows.pickSameSpec) = true := by kernel_rfl
theorem k3 : Tryz.f14.params.all (Tryz.pinned.checked.prog.readableRec ·) = true := by kernel_rfl
theorem k4 : namedTie Tryz.pinned.checked.prog Rows.pickSameRow.named Rows.pickSameSpec.vars = true := by kernel_rfl
theorem k5 : (Rows.pickSameRow.stops == []) = true := by kernel_rfl
theorem k7 : (Rows.pickSameRow.knobs == []) = true := by kernel_rfl
theorem k9 : (Rows.pickSameRow.inPlace == Tryz.pinned.checked.prog.inPlace 14) = true := by kernel_rfl
theorem k10 : (Rows.pickSameRow.unfollowed == Tryz.pinned.checked.prog.unfollowed 14) = true := by kernel_rfl
theorem k11 : (Rows.pickSameRow.recurses == Tryz.pinned.checked.prog.recurses 14) = true := by kernel_rfl
theorem k12 : (Rows.pickSameRow.named == Tryz.pinned.checked.prog.varsNamed 14) = true := by kernel_rfl
theorem k13 : (Rows.pickSameRow.maps == (Tryz.f14.params.toList ++ Rows.pickSameSpec.plain.varTypes Tryz.pinned.checked.prog).any (Tryz.pinned.checked.prog.mapsRec ·)) = true := by kernel_rfl
theorem k14 : (Rows.pickSameRow.ifaces == (Tryz.f14.params.toList ++ Rows.pickSameSpec.plain.varTypes Tryz.pinned.checked.prog).any (Tryz.pinned.checked.prog.ifacesRec ·)) = true := by kernel_rfl
theorem k15 : (Rows.pickSameRow.mapsOut == Tryz.pinned.checked.prog.mapsAmong Tryz.f14.resultTypes.toList) = true := by kernel_rfl
theorem k16 : (Rows.pickSameRow.loops == (Tryz.f14.params.toList ++ Rows.pickSameSpec.plain.varTypes Tryz.pinned.checked.prog).any (Tryz.pinned.checked.prog.loopsFrom ·)) = true := by kernel_rfl
theorem k17 : (Rows.pickSameRow.wideKeys == (Tryz.f14.params.toList ++ Rows.pickSameSpec.plain.varTypes Tryz.pinned.checked.prog ++ Tryz.f14.resultTypes.toList).any (Tryz.pinned.checked.prog.wideKeysFrom ·)) = true := by kernel_rfl
theorem k18 : Rows.pickSameSpec.vars.all (Tryz.pinned.checked.prog.varReadable ·) = true := by kernel_rfl
theorem k19 : Tryz.f14.resultTypes.all (fun t => Tryz.pinned.checked.prog.readableRec t && decide (t < Tryz.pinned.checked.prog.types.size)) = true := by kernel_rfl
theorem k20 : (Rows.pickSameRow.ifacesOut == Tryz.f14.resultTypes.toList.any (Tryz.pinned.checked.prog.ifacesRec ·)) = true := by kernel_rfl
theorem k21 : (Rows.pickSameRow.loopsOut == Tryz.f14.resultTypes.toList.any (Tryz.pinned.checked.prog.loopsFrom ·)) = true := by kernel_rfl
theorem k22 : (Rows.pickSameRow.plainKeys == Tryz.pinned.checked.prog.plainKeys) = true := by kernel_rfl
theorem k23 : Rows.pickSameRow.shortTexts.isNone = true := by kernel_rfl
theorem k26 : (Rows.pickSameRow.lifted == Tryz.pinned.checked.prog.liftsFinal) = true := by kernel_rfl
theorem k27 : (Tryz.pinned.checked.prog.make == some Rows.pickSameRow.make) = true := by kernel_rfl
theorem k28 : (Rows.pickSameRow.kinds == (if Rows.pickSameRow.domain.isEmpty then [] else Tryz.f14.params.toList.map fun t => match Tryz.pinned.checked.prog.underlying t with | some (.int k) => some k | _ => none)) = true := by kernel_rfl
theorem k29 : (Rows.pickSameRow.pinned == Rows.pickSameRow.pinnedBy) = true := by kernel_rfl
theorem k30 : (Rows.pickSameRow.veiled == (Tryz.f14.params.toList ++ Rows.pickSameSpec.plain.varTypes Tryz.pinned.checked.prog ++ Tryz.f14.resultTypes.toList).any (Tryz.pinned.checked.prog.veiledRec ·)) = true := by kernel_rfl
theorem k31 : Rows.pickSameRow.veiledFits Tryz.pinned.checked.prog Tryz.f14.params.toList (Tryz.f14.params.toList ++ Rows.pickSameSpec.plain.varTypes Tryz.pinned.checked.prog ++ Tryz.f14.resultTypes.toList) = true := by kernel_rfl
set_option maxRecDepth 100000 in
theorem facts : joinedFacts Tryz.pinned.checked.prog 14 Tryz.f14 Rows.pickSameSpec Rows.pickSameRow = true := by
 unfold joinedFacts
 simp only [Bool.and_eq_true]
 repeat' apply And.intro
 ·exact k0
 ·exact prog_laidOut
 ·exact prog_mapsRowed
 ·exact k3
 ·exact k4
 ·exact k5
 ·exact prog_stops
 ·exact k7
 ·exact prog_stopKnobs
 ·exact k9
 ·exact k10
 ·exact k11
 ·exact k12
 ·exact k13
 ·exact k14
 ·exact k15
 ·exact k16
 ·exact k17
 ·exact k18
 ·exact k19
 ·exact k20
 ·exact k21
 ·exact k22
 ·exact k23
 ·exact prog_stopsHeard
 ·exact prog_mayEnter
 ·exact k26
 ·exact k27
 ·exact k28
 ·exact k29
 ·exact k30
 ·exact k31
end Go.Proofs.YtnmhaipjfpongabGreatDoor.pickSameFacts

namespace Go.Proofs.YtnmhaipjfpongabGreatDoor.pickSameDone
open Go.ChangeShapes Go.WideShapes Go.ChangeAt Go.RowKit

theorem own : ownKnob Tryz.prog.godebug = none := by kernel_rfl
theorem laidOut : laidOutB Tryz.prog = true := by kernel_rfl

theorem max_of {W : World} (h : W.ShapedOpen Tryz.prog) : HasMax W :=
 cell_of_shapedOpen_int (zero := #[.int .i64 0]) (t := 3) h (of_decide_eq_true (by kernel_rfl)) (by kernel_rfl) rfl (by kernel_rfl) (by kernel_rfl) Tryz.underlying3

theorem errs {W : World} (h : laidMetH Tryz.prog Rows.pickSameRow.laid W) : ∃ p : Nat → Addr, Errs W p [1, 2, 3, 4, 5, 6, 7, 8, 9, 10, 11] := by
 have h' : laidMet Tryz.prog Rows.pickSameRow.laid W := h
 obtain ⟨h1, _⟩ := held_of_laid h' (by decide +kernel)
 obtain ⟨aBound, _, _, hBound, _⟩ := h1 "kilnyard/api.ErrBound" (by decide) (by decide +kernel)
 obtain ⟨aShape, _, _, hShape, _⟩ := h1 "kilnyard/api.ErrShape" (by decide) (by decide +kernel)
 obtain ⟨aName, _, _, hName, _⟩ := h1 "kilnyard/api.ErrName" (by decide) (by decide +kernel)
 obtain ⟨aKind, _, _, hKind, _⟩ := h1 "kilnyard/api.ErrKind" (by decide) (by decide +kernel)
 obtain ⟨aNone, _, _, hNone, _⟩ := h1 "kilnyard/api.ErrNone" (by decide) (by decide +kernel)
 obtain ⟨aExist, _, _, hExist, _⟩ := h1 "kilnyard/api.ErrExist" (by decide) (by decide +kernel)
 obtain ⟨aFull, _, _, hFull, _⟩ := h1 "kilnyard/api.ErrFull" (by decide) (by decide +kernel)
 obtain ⟨aCycle, _, _, hCycle, _⟩ := h1 "kilnyard/api.ErrCycle" (by decide) (by decide +kernel)
 obtain ⟨aLong, _, _, hLong, _⟩ := h1 "kilnyard/api.ErrLong" (by decide) (by decide +kernel)
 obtain ⟨aTurn, _, _, hTurn, _⟩ := h1 "kilnyard/api.ErrTurn" (by decide) (by decide +kernel)
 obtain ⟨aDone, _, _, hDone, _⟩ := h1 "kilnyard/api.ErrDone" (by decide) (by decide +kernel)
 refine ⟨fun i => if i = 1 then aBound else if i = 2 then aShape else if i = 3 then aName else if i = 4 then aKind else if i = 5 then aNone else if i = 6 then aExist else if i = 7 then aFull else if i = 8 then aCycle else if i = 9 then aLong else if i = 10 then aTurn else if i = 11 then aDone else ⟨0, 0, none⟩, ⟨fun i g hi hg => ?_⟩⟩
 simp only [List.mem_cons, List.not_mem_nil, or_false] at hi
 rcases hi with rfl | rfl | rfl | rfl | rfl | rfl | rfl | rfl | rfl | rfl | rfl
 ·obtain rfl : 6 = g := Option.some.inj hg
  simpa using World.var?_cell (g := 6) (by kernel_rfl) hBound 0
 ·obtain rfl : 2 = g := Option.some.inj hg
  simpa using World.var?_cell (g := 2) (by kernel_rfl) hShape 0
 ·obtain rfl : 11 = g := Option.some.inj hg
  simpa using World.var?_cell (g := 11) (by kernel_rfl) hName 0
 ·obtain rfl : 4 = g := Option.some.inj hg
  simpa using World.var?_cell (g := 4) (by kernel_rfl) hKind 0
 ·obtain rfl : 3 = g := Option.some.inj hg
  simpa using World.var?_cell (g := 3) (by kernel_rfl) hNone 0
 ·obtain rfl : 7 = g := Option.some.inj hg
  simpa using World.var?_cell (g := 7) (by kernel_rfl) hExist 0
 ·obtain rfl : 8 = g := Option.some.inj hg
  simpa using World.var?_cell (g := 8) (by kernel_rfl) hFull 0
 ·obtain rfl : 5 = g := Option.some.inj hg
  simpa using World.var?_cell (g := 5) (by kernel_rfl) hCycle 0
 ·obtain rfl : 0 = g := Option.some.inj hg
  simpa using World.var?_cell (g := 0) (by kernel_rfl) hLong 0
 ·obtain rfl : 10 = g := Option.some.inj hg
  simpa using World.var?_cell (g := 10) (by kernel_rfl) hTurn 0
 ·obtain rfl : 9 = g := Option.some.inj hg
  simpa using World.var?_cell (g := 9) (by kernel_rfl) hDone 0

theorem pow_of {W : World} (h : laidMetH Tryz.prog Rows.pickSameRow.laid W) : Pow W := by
 have h' : laidMet Tryz.prog Rows.pickSameRow.laid W := h
 have h2 := (h').tail.tail
 exact Lib.tabIs_of_head (g := 14) (by kernel_rfl) (by kernel_rfl) Tryz.underlying393 Tryz.underlying275 (by kernel_rfl) (by kernel_rfl) h2

theorem atoi_of {W : World} (h : laidMetH Tryz.prog Rows.pickSameRow.laid W) : AtoiVars W := by
 have h' : laidMet Tryz.prog Rows.pickSameRow.laid W := h
 obtain ⟨a1, e1⟩ := one_of_laid h' (n := "strconv.ErrSyntax") (g := 15) (by kernel_rfl) (by kernel_rfl) (by decide +kernel)
 obtain ⟨a2, e2⟩ := one_of_laid h' (n := "strconv.ErrRange") (g := 16) (by kernel_rfl) (by kernel_rfl) (by decide +kernel)
 exact ⟨⟨_, _, e1⟩, _, _, e2⟩

set_option maxRecDepth 100000 in
theorem lifted (os : Os) (started : os.Started) (H : Type) (enc : TypeId × Value → H) :
  ReturnsInHanded {} Tryz.checked os 14 .any (fun w args => (Rows.pickSameSpec.pre enc Tryz.prog Tryz.f14 [] false w args ∧ laidMetH Tryz.prog Rows.pickSameRow.laid w) ∧ sizedMet enc Tryz.prog Tryz.f14 (OpenSpec.ofChange Rows.pickSameSpec) false w args)
   (Rows.pickSameSpec.post enc Tryz.prog Tryz.f14 false true false false) := by
 refine handed_both (C := Tryz.checked) (X := fun w _ => laidMetH Tryz.prog Rows.pickSameRow.laid w) (fun _ _ _ hh h => h.of_heap hh) own started (by kernel_rfl) Tryz.func14
  (ChangeSpec.witness_shaped (enc := enc) (C := Tryz.checked) (os := os) (X := fun w _ => laidMetH Tryz.prog Rows.pickSameRow.laid w) false (World.laidAll Tryz.prog os Rows.pickSameRow.laid) #[.slice none 0 0, .slice none 0 0, .slice none 0 0, .slice none 0 0] 8 (World.laidAll_os _ _ _) (World.shaped_of_ZipB (by kernel_rfl) (by kernel_rfl)) (by kernel_rfl) (by kernel_rfl) (by kernel_rfl) (by rw [MakeChecks.laidMetH_plain _ _ _ (by kernel_rfl)]; exact laidMet_laidAll _ (by kernel_rfl) (by kernel_rfl))) ?_
 intro W base args ds gs before hval0 hW _ hsz0 hL hsh _
 have hval : ∀ (j : Nat) t v, Tryz.f14.params[j]? = some t → args[j]? = some v → Value.okWide Tryz.prog W .any base t v := hval0
 have hsz : (DataW.weightsEach Tryz.prog (Tryz.f14.params.toList ++ Rows.pickSameSpec.plain.varTypes Tryz.prog) (ds ++ gs)).all (· ≤ reachBytes) = true := hsz0
 clear hsz0
 have hW' := hW
 obtain ⟨p, q, hA0, hV, rfl, hfz, hnd⟩ := hW
 have hA : DataW.TrodAll enc Tryz.prog W 0 (fun _ => true) true Tryz.f14.params.toList args.toList ds p := hA0
 rw [Tryz.params14] at hA hval hsz
 obtain ⟨v0, vs0, d0, ds0, p0, q0, hargs, rfl, rfl, h0, r0⟩ := trodAll_cons hA
 obtain ⟨v1, vs1, d1, ds1, p1, q1, rfl, rfl, rfl, h1, r1⟩ := trodAll_cons r0
 obtain ⟨v2, vs2, d2, ds2, p2, q2, rfl, rfl, rfl, h2, r2⟩ := trodAll_cons r1
 obtain ⟨v3, vs3, d3, ds3, p3, q3, rfl, rfl, rfl, h3, r3⟩ := trodAll_cons r2
 obtain ⟨rfl, rfl, rfl⟩ := trodAll_nil r3
 obtain rfl : args = #[v0, v1, v2, v3] := by cases args; simp_all
 obtain ⟨rfl, rfl⟩ := trodVars_none hV
 have k0 := h0
 have lt0 : ∀ x ∈ p0, x.block < W.heap.size := by obtain ⟨m, hm⟩ := k0; exact DataW.trod_lt m _ _ _ hm
 have rc0 := reach_arg hsz (j := 0) (t := 22) (d := d0) rfl rfl
 obtain ⟨a0, len0, cap0, rfl⟩ := okWide_slice Tryz.underlying22 (hval 0 22 v0 rfl rfl)
 obtain ⟨fuel0, hf0⟩ := h0
 obtain ⟨l0, hlen0, rd0, rb0⟩ := open_files (x := (d0, p0)) (by simpa [Value.cells] using hf0) rc0
 have k1 := h1
 have lt1 : ∀ x ∈ p1, x.block < W.heap.size := by obtain ⟨m, hm⟩ := k1; exact DataW.trod_lt m _ _ _ hm
 have rc1 := reach_arg hsz (j := 1) (t := 23) (d := d1) rfl rfl
 obtain ⟨a1, len1, cap1, rfl⟩ := okWide_slice Tryz.underlying23 (hval 1 23 v1 rfl rfl)
 obtain ⟨fuel1, hf1⟩ := h1
 obtain ⟨l1, hlen1, rd1, rb1⟩ := open_rules (x := (d1, p1)) (by simpa [Value.cells] using hf1) rc1
 have k2 := h2
 have lt2 : ∀ x ∈ p2, x.block < W.heap.size := by obtain ⟨m, hm⟩ := k2; exact DataW.trod_lt m _ _ _ hm
 have rc2 := reach_arg hsz (j := 2) (t := 63) (d := d2) rfl rfl
 obtain ⟨a2, len2, cap2, rfl⟩ := okWide_slice Tryz.underlying63 (hval 2 63 v2 rfl rfl)
 obtain ⟨fuel2, hf2⟩ := h2
 obtain ⟨l2, hlen2, rd2, rb2⟩ := open_nums64 (x := (d2, p2)) (by simpa [Value.cells] using hf2) rc2
 have k3 := h3
 have lt3 : ∀ x ∈ p3, x.block < W.heap.size := by obtain ⟨m, hm⟩ := k3; exact DataW.trod_lt m _ _ _ hm
 have rc3 := reach_arg hsz (j := 3) (t := 63) (d := d3) rfl rfl
 obtain ⟨a3, len3, cap3, rfl⟩ := okWide_slice Tryz.underlying63 (hval 3 63 v3 rfl rfl)
 obtain ⟨fuel3, hf3⟩ := h3
 obtain ⟨l3, hlen3, rd3, rb3⟩ := open_nums64 (x := (d3, p3)) (by simpa [Value.cells] using hf3) rc3
 clear hA0 hval0
 simp only [List.append_nil] at hW'
 obtain ⟨pt, hs⟩ := errs hL
 have hmax := max_of hsh
 have hav := atoi_of hL
 have hpow := pow_of hL
 have walk : Calls Tryz.prog 14 #[.slice a0 len0 cap0, .slice a1 len1 cap1, .slice a2 len2 cap2, .slice a3 len3 cap3] W fun e w' => e = .returned (.bool true) ∧ Ext W w' :=
  walkPickSame W pt l0 _ _ _ _ l1 l2 l3 rd0 rd1 rd2 rd3 rb2 rb3 ⟨hs, hmax, hav, hpow⟩
 refine walk.mono fun e W' ⟨he, hext⟩ => ?_
 subst he
 have bel := hext.extBelow
 exact ⟨_, rfl, _, _, _, [], _, [], hW', trodAll_mk1 (shut_bool Tryz.underlying4 _), (trodAll_cons_mk (Below.trod laidOut (by kernel_rfl) (of_decide_eq_true (by kernel_rfl)) k0 bel lt0) (trodAll_cons_mk (Below.trod laidOut (by kernel_rfl) (of_decide_eq_true (by kernel_rfl)) k1 bel lt1) (trodAll_cons_mk (Below.trod laidOut (by kernel_rfl) (of_decide_eq_true (by kernel_rfl)) k2 bel lt2) (trodAll_cons_mk (Below.trod laidOut (by kernel_rfl) (of_decide_eq_true (by kernel_rfl)) k3 bel lt3) trodAll_mk0)))), rfl, bel.frame _, fun h => by cases h⟩

theorem fnNamed : Tryz.pinned.checked.prog.funcNamed Rows.pickSameRow.func = some 14 := by kernel_rfl
theorem facts : joinedFacts Tryz.pinned.checked.prog 14 Tryz.f14 Rows.pickSameSpec Rows.pickSameRow = true := pickSameFacts.facts
theorem inst : Tryz.f14.isInstance Tryz.pinned.checked.prog Rows.pickSameRow.origin Rows.pickSameRow.targs := of_decide_eq_true (by kernel_rfl)
theorem wrap : Tryz.f14.isWrapper Tryz.pinned.checked.prog Rows.pickSameRow.wrapper Rows.pickSameRow.mainSum := by
 unfold Func.isWrapper
 first | (rw [if_pos (by decide +kernel)]; kernel_rfl) | (rw [if_neg (by decide +kernel)]; exact ⟨rfl, rfl⟩)
theorem said : Rows.PickSameSaid :=
 OpenClaim.holds_of_wide_leaving 14 Tryz.f14 rfl rfl rfl rfl rfl rfl rfl ⟨rfl, rfl, rfl, rfl, rfl⟩ rfl rfl rfl rfl rfl fnNamed Tryz.func14 facts
  inst wrap (fun os started H enc _ => leaving_of_handed (lifted os started H enc))
end Go.Proofs.YtnmhaipjfpongabGreatDoor.pickSameDone

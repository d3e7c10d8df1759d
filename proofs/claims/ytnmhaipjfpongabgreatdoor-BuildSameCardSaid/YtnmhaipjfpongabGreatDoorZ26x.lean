/- BuildSame, whole: for every input the law returns true and its arguments read as before. Beyond the row's own: no condition; the row lists package-level variables, the card ties them. (Printed by gen_claim.py.) -/
import Derived.Test.YtnmhaipjfpongabGreatDoorZ25x
import Derived.Test.YtnmhaipjfpongabGreatDoorO2x
import Derived.Test.YtnmhaipjfpongabGreatDoorO3x
import Derived.Test.YtnmhaipjfpongabGreatDoorO4x
import Derived.Test.YtnmhaipjfpongabGreatDoorZ26fx
import Derived.Test.YtnmhaipjfpongabGreatDoorGc
import Derived.Test.YtnmhaipjfpongabGreatDoorGh
import Derived.Test.YtnmhaipjfpongabGreatDoorCards
import Derived.Test.YtnmhaipjfpongabGreatDoorTie
import Derived.LaidMore
import Derived.OpenShut
import Derived.Stop.Joined
import Derived.SevenTiedAt
import Derived.SliceStrings
import Derived.ChangeMaps5
import Derived.Lib.LaidTab
import Derived.Stop.LaidErr
import Derived.Lay
namespace Go.Proofs.YtnmhaipjfpongabGreatDoor.buildSameDone
open Go.ChangeShapes Go.WideShapes Go.ChangeAt Go.RowKit

theorem own : ownKnob Tryz.prog.godebug = none := by kernel_rfl
theorem laidOut : laidOutB Tryz.prog = true := by kernel_rfl

theorem max_of {W : World} (h : W.ShapedOpen Tryz.prog) : HasMax W :=
  cell_of_shapedOpen_int (zero := #[.int .i64 0]) (t := 3) h (of_decide_eq_true (by kernel_rfl)) (by kernel_rfl) rfl (by kernel_rfl) (by kernel_rfl) Tryz.underlying3

theorem errs {W : World} (h : laidMetH Tryz.prog Rows.buildSameRow.laid W) : ∃ p : Nat → Addr, Errs W p [1, 2, 3, 4, 5, 6, 7, 8, 9, 10, 11] := by
  have h' : laidMet Tryz.prog Rows.buildSameRow.laid W := h
  obtain ⟨h1, _⟩ := held_of_laid h' (by decide +kernel)
  obtain ⟨aBound, _, _, hBound, _⟩ := h1 "kilnyard/api.ErrBound" (by decide) (by decide +kernel)
  obtain ⟨aShape, _, _, hShape, _⟩ := h1 "kilnyard/api.ErrShape" (by decide) (by decide +kernel)
  obtain ⟨aName, _, _, hName, _⟩ := h1 "kilnyard/api.ErrName" (by decide) (by decide +kernel)
  obtain ⟨aKind, _, _, hKind, _⟩ := h1 "kilnyard/api.ErrKind" (by decide) (by decide +kernel)
  obtain ⟨aNone, _, _, hNone, _⟩ := h1 "kilnyard/api.ErrNone" (by decide) (by decide +kernel)
  obtain ⟨aExist, _, _, hExist, _⟩ := h1 "kilnyard/api.ErrExist" (by decide) (by decide +kernel)
  obtain ⟨aFull, _, _, hFull, _⟩ := h1 "kilnyard/api.ErrFull" (by decide) (by decide +kernel)
  obtain ⟨aCycle, _, _, hCycle, _⟩ := h1 "kilnyard/api.ErrCycle" (by decide) (by decide +kernel)
  obtain ⟨aLong, _, _, hLong, _⟩ := h1 "kilnyard/api.ErrLong" (by decide) (by decide +kernel)
  obtain ⟨aTurn, _, _, hTurn, _⟩ := h1 "kilnyard/api.ErrTurn" (by decide) (by decide +kernel)
  obtain ⟨aDone, _, _, hDone, _⟩ := h1 "kilnyard/api.ErrDone" (by decide) (by decide +kernel)
  refine ⟨fun i => if i = 1 then aBound else if i = 2 then aShape else if i = 3 then aName else if i = 4 then aKind else if i = 5 then aNone else if i = 6 then aExist else if i = 7 then aFull else if i = 8 then aCycle else if i = 9 then aLong else if i = 10 then aTurn else if i = 11 then aDone else ⟨0, 0, none⟩, ⟨fun i g hi hg => ?_⟩⟩
  simp only [List.mem_cons, List.not_mem_nil, or_false] at hi
  rcases hi with rfl | rfl | rfl | rfl | rfl | rfl | rfl | rfl | rfl | rfl | rfl
  · obtain rfl : 6 = g := Option.some.inj hg
    simpa using World.var?_cell (g := 6) (by kernel_rfl) hBound 0
  · obtain rfl : 2 = g := Option.some.inj hg
    simpa using World.var?_cell (g := 2) (by kernel_rfl) hShape 0
  · obtain rfl : 11 = g := Option.some.inj hg
    simpa using World.var?_cell (g := 11) (by kernel_rfl) hName 0
  · obtain rfl : 4 = g := Option.some.inj hg
    simpa using World.var?_cell (g := 4) (by kernel_rfl) hKind 0
  · obtain rfl : 3 = g := Option.some.inj hg
    simpa using World.var?_cell (g := 3) (by kernel_rfl) hNone 0
  · obtain rfl : 7 = g := Option.some.inj hg
    simpa using World.var?_cell (g := 7) (by kernel_rfl) hExist 0
  · obtain rfl : 8 = g := Option.some.inj hg
    simpa using World.var?_cell (g := 8) (by kernel_rfl) hFull 0
  · obtain rfl : 5 = g := Option.some.inj hg
    simpa using World.var?_cell (g := 5) (by kernel_rfl) hCycle 0
  · obtain rfl : 0 = g := Option.some.inj hg
    simpa using World.var?_cell (g := 0) (by kernel_rfl) hLong 0
  · obtain rfl : 10 = g := Option.some.inj hg
    simpa using World.var?_cell (g := 10) (by kernel_rfl) hTurn 0
  · obtain rfl : 9 = g := Option.some.inj hg
    simpa using World.var?_cell (g := 9) (by kernel_rfl) hDone 0

theorem pow_of {W : World} (h : laidMetH Tryz.prog Rows.buildSameRow.laid W) : Pow W := by
  have h' : laidMet Tryz.prog Rows.buildSameRow.laid W := h
  have h2 := (h').tail.tail
  exact Lib.tabIs_of_head (g := 14) (by kernel_rfl) (by kernel_rfl) Tryz.underlying393 Tryz.underlying275 (by kernel_rfl) (by kernel_rfl) h2

theorem atoi_of {W : World} (h : laidMetH Tryz.prog Rows.buildSameRow.laid W) : AtoiVars W := by
  have h' : laidMet Tryz.prog Rows.buildSameRow.laid W := h
  obtain ⟨a1, e1⟩ := one_of_laid h' (n := "strconv.ErrSyntax") (g := 15) (by kernel_rfl) (by kernel_rfl) (by decide +kernel)
  obtain ⟨a2, e2⟩ := one_of_laid h' (n := "strconv.ErrRange") (g := 16) (by kernel_rfl) (by kernel_rfl) (by decide +kernel)
  exact ⟨⟨_, _, e1⟩, _, _, e2⟩

set_option maxRecDepth 100000 in
theorem lifted (os : Os) (started : os.Started) (H : Type) (enc : TypeId × Value → H) :
    ReturnsInHanded {} Tryz.checked os 12 .any (fun w args => (Rows.buildSameSpec.pre enc Tryz.prog Tryz.f12 [] false w args ∧ laidMetH Tryz.prog Rows.buildSameRow.laid w) ∧ sizedMet enc Tryz.prog Tryz.f12 (OpenSpec.ofChange Rows.buildSameSpec) false w args)
      (Rows.buildSameSpec.post enc Tryz.prog Tryz.f12 false true false false) := by
  refine handed_both (C := Tryz.checked) (X := fun w _ => laidMetH Tryz.prog Rows.buildSameRow.laid w) (fun _ _ _ hh h => h.of_heap hh) own started (by kernel_rfl) Tryz.func12
    (ChangeSpec.witness_shaped (enc := enc) (C := Tryz.checked) (os := os) (X := fun w _ => laidMetH Tryz.prog Rows.buildSameRow.laid w) false (World.laidAll Tryz.prog os Rows.buildSameRow.laid) #[.slice none 0 0, .slice none 0 0, .slice none 0 0, .int .i64 0] 8 (World.laidAll_os _ _ _) (World.shaped_of_ZipB (by kernel_rfl) (by kernel_rfl)) (by kernel_rfl) (by kernel_rfl) (by kernel_rfl) (by rw [MakeChecks.laidMetH_plain _ _ _ (by kernel_rfl)]; exact laidMet_laidAll _ (by kernel_rfl) (by kernel_rfl))) ?_
  intro W base args ds gs before hval0 hW _ hsz0 hL hsh _
  have hval : ∀ (j : Nat) t v, Tryz.f12.params[j]? = some t → args[j]? = some v → Value.okWide Tryz.prog W .any base t v := hval0
  have hsz : (DataW.weightsEach Tryz.prog (Tryz.f12.params.toList ++ Rows.buildSameSpec.plain.varTypes Tryz.prog) (ds ++ gs)).all (· ≤ reachBytes) = true := hsz0
  clear hsz0
  have hW' := hW
  obtain ⟨p, q, hA0, hV, rfl, hfz, hnd⟩ := hW
  have hA : DataW.TrodAll enc Tryz.prog W 0 (fun _ => true) true Tryz.f12.params.toList args.toList ds p := hA0
  rw [Tryz.params12] at hA hval hsz
  obtain ⟨v0, vs0, d0, ds0, p0, q0, hargs, rfl, rfl, h0, r0⟩ := trodAll_cons hA
  obtain ⟨v1, vs1, d1, ds1, p1, q1, rfl, rfl, rfl, h1, r1⟩ := trodAll_cons r0
  obtain ⟨v2, vs2, d2, ds2, p2, q2, rfl, rfl, rfl, h2, r2⟩ := trodAll_cons r1
  obtain ⟨v3, vs3, d3, ds3, p3, q3, rfl, rfl, rfl, h3, r3⟩ := trodAll_cons r2
  obtain ⟨rfl, rfl, rfl⟩ := trodAll_nil r3
  obtain rfl : args = #[v0, v1, v2, v3] := by cases args; simp_all
  obtain ⟨rfl, rfl⟩ := trodVars_none hV
  have k0 := h0
  have lt0 : ∀ x ∈ p0, x.block < W.heap.size := by obtain ⟨m, hm⟩ := k0; exact DataW.trod_lt m _ _ _ hm
  have rc0 := reach_arg hsz (j := 0) (t := 22) (d := d0) rfl rfl
  obtain ⟨a0, len0, cap0, rfl⟩ := okWide_slice Tryz.underlying22 (hval 0 22 v0 rfl rfl)
  obtain ⟨fuel0, hf0⟩ := h0
  obtain ⟨l0, hlen0, rd0, rb0⟩ := open_files (x := (d0, p0)) (by simpa [Value.cells] using hf0) rc0
  have k1 := h1
  have lt1 : ∀ x ∈ p1, x.block < W.heap.size := by obtain ⟨m, hm⟩ := k1; exact DataW.trod_lt m _ _ _ hm
  have rc1 := reach_arg hsz (j := 1) (t := 23) (d := d1) rfl rfl
  obtain ⟨a1, len1, cap1, rfl⟩ := okWide_slice Tryz.underlying23 (hval 1 23 v1 rfl rfl)
  obtain ⟨fuel1, hf1⟩ := h1
  obtain ⟨l1, hlen1, rd1, rb1⟩ := open_rules (x := (d1, p1)) (by simpa [Value.cells] using hf1) rc1
  have k2 := h2
  have lt2 : ∀ x ∈ p2, x.block < W.heap.size := by obtain ⟨m, hm⟩ := k2; exact DataW.trod_lt m _ _ _ hm
  have rc2 := reach_arg hsz (j := 2) (t := 63) (d := d2) rfl rfl
  obtain ⟨a2, len2, cap2, rfl⟩ := okWide_slice Tryz.underlying63 (hval 2 63 v2 rfl rfl)
  obtain ⟨fuel2, hf2⟩ := h2
  obtain ⟨l2, hlen2, rd2, rb2⟩ := open_nums (x := (d2, p2)) (by simpa [Value.cells] using hf2) rc2
  obtain ⟨z3, rfl, rfl, rfl, wz3⟩ := open_int Tryz.underlying3 (hval 3 3 v3 rfl rfl) h3
  clear hA0 hval0
  simp only [List.append_nil] at hW'
  obtain ⟨pt, hs⟩ := errs hL
  have hmax := max_of hsh
  have hav := atoi_of hL
  have hpow := pow_of hL
  have walk : Calls Tryz.prog 12 #[.slice a0 len0 cap0, .slice a1 len1 cap1, .slice a2 len2 cap2, I z3] W fun e w' => e = .returned (.bool true) ∧ Ext W w' :=
    walkBuildSame W pt l0 _ _ _ l1 l2 z3 rd0 rd1 rd2 ⟨hs, hmax, hav, hpow⟩
  refine walk.mono fun e W' ⟨he, hext⟩ => ?_
  subst he
  have bel := hext.extBelow
  exact ⟨_, rfl, _, _, _, [], _, [], hW', trodAll_mk1 (shut_bool Tryz.underlying4 _), (trodAll_cons_mk (Below.trod laidOut (by kernel_rfl) (of_decide_eq_true (by kernel_rfl)) k0 bel lt0) (trodAll_cons_mk (Below.trod laidOut (by kernel_rfl) (of_decide_eq_true (by kernel_rfl)) k1 bel lt1) (trodAll_cons_mk (Below.trod laidOut (by kernel_rfl) (of_decide_eq_true (by kernel_rfl)) k2 bel lt2) (trodAll_cons_mk (shut_int Tryz.underlying3 wz3) trodAll_mk0)))), rfl, bel.frame _, fun h => by cases h⟩

theorem fnNamed : Tryz.pinned.checked.prog.funcNamed Rows.buildSameRow.func = some 12 := by kernel_rfl
theorem facts : joinedFacts Tryz.pinned.checked.prog 12 Tryz.f12 Rows.buildSameSpec Rows.buildSameRow = true := buildSameFacts.facts
theorem inst : Tryz.f12.isInstance Tryz.pinned.checked.prog Rows.buildSameRow.origin Rows.buildSameRow.targs := of_decide_eq_true (by kernel_rfl)
theorem wrap : Tryz.f12.isWrapper Tryz.pinned.checked.prog Rows.buildSameRow.wrapper Rows.buildSameRow.mainSum := by
  unfold Func.isWrapper
  first | (rw [if_pos (by decide +kernel)]; kernel_rfl) | (rw [if_neg (by decide +kernel)]; exact ⟨rfl, rfl⟩)
theorem said : Rows.BuildSameSaid :=
  OpenClaim.holds_of_wide_leaving 12 Tryz.f12 rfl rfl rfl rfl rfl rfl rfl ⟨rfl, rfl, rfl, rfl, rfl⟩ rfl rfl rfl rfl rfl fnNamed Tryz.func12 facts
    inst wrap (fun os started H enc _ => leaving_of_handed (lifted os started H enc))
end Go.Proofs.YtnmhaipjfpongabGreatDoor.buildSameDone

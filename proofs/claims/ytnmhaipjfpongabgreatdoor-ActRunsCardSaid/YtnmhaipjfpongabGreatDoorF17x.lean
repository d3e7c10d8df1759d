/- ActRuns, whole: for every input the law returns true and its arguments read as before. Beyond the row's own: no condition; the row lists package-level variables, the card ties them. (Printed by gen_claim.py.) -/
import Derived.Test.YtnmhaipjfpongabGreatDoorF16x
import Derived.Test.YtnmhaipjfpongabGreatDoorF17fx
import Derived.Test.YtnmhaipjfpongabGreatDoorGc
import Derived.Test.YtnmhaipjfpongabGreatDoorGh
import Derived.Test.YtnmhaipjfpongabGreatDoorCards
import Derived.Test.YtnmhaipjfpongabGreatDoorTie
import Derived.LaidMore
import Derived.OpenShut
import Derived.Stop.Joined
import Derived.SevenTiedAt
import Derived.SliceStrings
import Derived.ChangeMaps5
import Derived.Lib.LaidTab
import Derived.Stop.LaidErr
import Derived.Lay
namespace Go.Proofs.YtnmhaipjfpongabGreatDoor.actRunsDone
open Go.ChangeShapes Go.WideShapes Go.ChangeAt Go.RowKit

theorem own : ownKnob Tryz.prog.godebug = none := by kernel_rfl
theorem laidOut : laidOutB Tryz.prog = true := by kernel_rfl

theorem max_of {W : World} (h : W.ShapedOpen Tryz.prog) : HasMax W :=
  cell_of_shapedOpen_int (zero := #[.int .i64 0]) (t := 3) h (of_decide_eq_true (by kernel_rfl)) (by kernel_rfl) rfl (by kernel_rfl) (by kernel_rfl) Tryz.underlying3

theorem sents {W : World} (h : laidMetH Tryz.prog Rows.actRunsRow.laid W) : ∃ p, Sents W p := by
  have h' : laidMet Tryz.prog (Rows.actRunsRow.laid.filter fun x => x.2.handleName?.isNone) W ∧ handlesMet Tryz.prog (Rows.actRunsRow.laid.filter fun x => x.2.handleName?.isSome) W := h
  exact sents_of h'.1 h'.2 (by decide +kernel) (by decide +kernel) (List.mem_cons_self ..)

theorem pow_of {W : World} (h : laidMetH Tryz.prog Rows.actRunsRow.laid W) : Pow W := by
  have h' : laidMet Tryz.prog (Rows.actRunsRow.laid.filter fun x => x.2.handleName?.isNone) W ∧ handlesMet Tryz.prog (Rows.actRunsRow.laid.filter fun x => x.2.handleName?.isSome) W := h
  have h2 := (h'.1).tail.tail
  exact Lib.tabIs_of_head (g := 14) (by kernel_rfl) (by kernel_rfl) Tryz.underlying393 Tryz.underlying275 (by kernel_rfl) (by kernel_rfl) h2

theorem atoi_of {W : World} (h : laidMetH Tryz.prog Rows.actRunsRow.laid W) : AtoiVars W := by
  have h' : laidMet Tryz.prog (Rows.actRunsRow.laid.filter fun x => x.2.handleName?.isNone) W ∧ handlesMet Tryz.prog (Rows.actRunsRow.laid.filter fun x => x.2.handleName?.isSome) W := h
  obtain ⟨a1, e1⟩ := one_of_laid h'.1 (n := "strconv.ErrSyntax") (g := 15) (by kernel_rfl) (by kernel_rfl) (by decide +kernel)
  obtain ⟨a2, e2⟩ := one_of_laid h'.1 (n := "strconv.ErrRange") (g := 16) (by kernel_rfl) (by kernel_rfl) (by decide +kernel)
  exact ⟨⟨_, _, e1⟩, _, _, e2⟩

/-- The start meets the condition. -/
theorem start_met (os : Os) (args : Array Value) : laidMetH Tryz.prog Rows.actRunsRow.laid (((World.doorLaid Tryz.prog 400 os).layVars Tryz.prog (Rows.actRunsRow.laid.filter fun x => x.2.handleName?.isNone)).forCall (fun _ _ => 0) ⟨#[], args, []⟩).memory :=
  laidMetH_of_parts3 (fuel := 8) (laidMet_over args (by kernel_rfl) (by kernel_rfl)) (by kernel_rfl) (by kernel_rfl)

set_option maxRecDepth 100000 in
theorem lifted (os : Os) (started : os.Started) (H : Type) (enc : TypeId × Value → H) :
    ReturnsInHanded {} Tryz.checked os 7 .any (fun w args => (Rows.actRunsSpec.pre enc Tryz.prog Tryz.f7 [] false w args ∧ laidMetH Tryz.prog Rows.actRunsRow.laid w) ∧ sizedMet enc Tryz.prog Tryz.f7 (OpenSpec.ofChange Rows.actRunsSpec) false w args)
      (Rows.actRunsSpec.post enc Tryz.prog Tryz.f7 false true false false) := by
  refine handed_both (C := Tryz.checked) (X := fun w _ => laidMetH Tryz.prog Rows.actRunsRow.laid w) (fun _ _ _ hh h => h.of_heap hh) own started (by kernel_rfl) Tryz.func7
    (ChangeSpec.witness_shaped (enc := enc) (C := Tryz.checked) (os := os) (X := fun w _ => laidMetH Tryz.prog Rows.actRunsRow.laid w) false ((World.doorLaid Tryz.prog 400 os).layVars Tryz.prog (Rows.actRunsRow.laid.filter fun x => x.2.handleName?.isNone)) #[S [], S [], .slice none 0 0] 8 (World.layVars_os _ _ _) (World.shaped_of_ZipB (by kernel_rfl) (by kernel_rfl)) (by kernel_rfl) (by kernel_rfl) (by kernel_rfl) (start_met os _)) ?_
  intro W base args ds gs before hval0 hW _ hsz0 hL hsh _
  have hval : ∀ (j : Nat) t v, Tryz.f7.params[j]? = some t → args[j]? = some v → Value.okWide Tryz.prog W .any base t v := hval0
  have hsz : (DataW.weightsEach Tryz.prog (Tryz.f7.params.toList ++ Rows.actRunsSpec.plain.varTypes Tryz.prog) (ds ++ gs)).all (· ≤ reachBytes) = true := hsz0
  clear hsz0
  have hW' := hW
  obtain ⟨p, q, hA0, hV, rfl, hfz, hnd⟩ := hW
  have hA : DataW.TrodAll enc Tryz.prog W 0 (fun _ => true) true Tryz.f7.params.toList args.toList ds p := hA0
  rw [Tryz.params7] at hA hval hsz
  obtain ⟨v0, vs0, d0, ds0, p0, q0, hargs, rfl, rfl, h0, r0⟩ := trodAll_cons hA
  obtain ⟨v1, vs1, d1, ds1, p1, q1, rfl, rfl, rfl, h1, r1⟩ := trodAll_cons r0
  obtain ⟨v2, vs2, d2, ds2, p2, q2, rfl, rfl, rfl, h2, r2⟩ := trodAll_cons r1
  obtain ⟨rfl, rfl, rfl⟩ := trodAll_nil r2
  obtain rfl : args = #[v0, v1, v2] := by cases args; simp_all
  obtain ⟨rfl, rfl⟩ := trodVars_none hV
  have k0 := h0
  have lt0 : ∀ x ∈ p0, x.block < W.heap.size := by obtain ⟨m, hm⟩ := k0; exact DataW.trod_lt m _ _ _ hm
  have rc0 := reach_arg hsz (j := 0) (t := 9) (d := d0) rfl rfl
  obtain ⟨s0, rfl⟩ := open_text h0 (hval 0 9 v0 rfl rfl)
  have k1 := h1
  have lt1 : ∀ x ∈ p1, x.block < W.heap.size := by obtain ⟨m, hm⟩ := k1; exact DataW.trod_lt m _ _ _ hm
  have rc1 := reach_arg hsz (j := 1) (t := 9) (d := d1) rfl rfl
  obtain ⟨s1, rfl⟩ := open_text h1 (hval 1 9 v1 rfl rfl)
  have k2 := h2
  have lt2 : ∀ x ∈ p2, x.block < W.heap.size := by obtain ⟨m, hm⟩ := k2; exact DataW.trod_lt m _ _ _ hm
  have rc2 := reach_arg hsz (j := 2) (t := 24) (d := d2) rfl rfl
  obtain ⟨l2, rd2⟩ := open_texts h2 (hval 2 24 v2 rfl rfl)
  clear hA0 hval0
  simp only [List.append_nil] at hW'
  obtain ⟨pt, hs⟩ := sents hL
  have hmax := max_of hsh
  have hav := atoi_of hL
  have hpow := pow_of hL
  have walk : Calls Tryz.prog 7 #[S s0, S s1, v2] W fun e w' => e = .returned (.bool true) ∧ Ext W w' :=
    runs_main W pt s0 s1 v2 l2 rd2 ⟨hs.errs _, hmax, hav, hpow⟩ hs
  refine walk.mono fun e W' ⟨he, hext⟩ => ?_
  subst he
  have bel := hext.extBelow
  exact ⟨_, rfl, _, _, _, [], _, [], hW', trodAll_mk1 (shut_bool Tryz.underlying4 _), (trodAll_cons_mk (Below.trod laidOut (by kernel_rfl) (of_decide_eq_true (by kernel_rfl)) k0 bel lt0) (trodAll_cons_mk (Below.trod laidOut (by kernel_rfl) (of_decide_eq_true (by kernel_rfl)) k1 bel lt1) (trodAll_cons_mk (Below.trod laidOut (by kernel_rfl) (of_decide_eq_true (by kernel_rfl)) k2 bel lt2) trodAll_mk0))), rfl, bel.frame _, fun h => by cases h⟩

theorem fnNamed : Tryz.pinned.checked.prog.funcNamed Rows.actRunsRow.func = some 7 := by kernel_rfl
theorem facts : joinedFacts Tryz.pinned.checked.prog 7 Tryz.f7 Rows.actRunsSpec Rows.actRunsRow = true := actRunsFacts.facts
theorem inst : Tryz.f7.isInstance Tryz.pinned.checked.prog Rows.actRunsRow.origin Rows.actRunsRow.targs := of_decide_eq_true (by kernel_rfl)
theorem wrap : Tryz.f7.isWrapper Tryz.pinned.checked.prog Rows.actRunsRow.wrapper Rows.actRunsRow.mainSum := by
  unfold Func.isWrapper
  first | (rw [if_pos (by decide +kernel)]; kernel_rfl) | (rw [if_neg (by decide +kernel)]; exact ⟨rfl, rfl⟩)
theorem said : Rows.ActRunsSaid :=
  OpenClaim.holds_of_wide_leaving 7 Tryz.f7 rfl rfl rfl rfl rfl rfl rfl ⟨rfl, rfl, rfl, rfl, rfl⟩ rfl rfl rfl rfl rfl fnNamed Tryz.func7 facts
    inst wrap (fun os started H enc _ => leaving_of_handed (lifted os started H enc))
end Go.Proofs.YtnmhaipjfpongabGreatDoor.actRunsDone

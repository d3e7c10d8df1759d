/- WantTells, whole: for every input the law returns true and its arguments read as before. Beyond the row's own: no condition; the row lists package-level variables, the card ties them. (Printed by gen_claim.py.) -/
import Derived.Test.YtnmhaipjfpongacGreatDoorS13x
import Derived.Test.YtnmhaipjfpongacGreatDoorO2x
import Derived.Test.YtnmhaipjfpongacGreatDoorO3x
import Derived.Test.YtnmhaipjfpongacGreatDoorS14fx
import Derived.Test.YtnmhaipjfpongacGreatDoorGc
import Derived.Test.YtnmhaipjfpongacGreatDoorGh
import Derived.Test.YtnmhaipjfpongacGreatDoorCards
import Derived.Test.YtnmhaipjfpongacGreatDoorTie
import Derived.LaidMore
import Derived.OpenShut
import Derived.Stop.Joined
import Derived.SevenTiedAt
import Derived.SliceStrings
import Derived.ChangeMaps5
import Derived.Lib.LaidTab
import Derived.Stop.LaidErr
import Derived.Lay
namespace Go.Proofs.YtnmhaipjfpongacGreatDoor.wantTellsDone
open Go.ChangeShapes Go.WideShapes Go.ChangeAt Go.RowKit

theorem own : ownKnob Tryz.prog.godebug = none := by kernel_rfl
theorem laidOut : laidOutB Tryz.prog = true := by kernel_rfl

theorem max_of {W : World} (h : W.ShapedOpen Tryz.prog) : HasMax W :=
  cell_of_shapedOpen_int (zero := #[.int .i64 0]) (t := 3) h (of_decide_eq_true (by kernel_rfl)) (by kernel_rfl) rfl (by kernel_rfl) (by kernel_rfl) Tryz.underlying3

theorem sents {W : World} (h : laidMetH Tryz.prog Rows.wantTellsRow.laid W) : ∃ p, Sents W p := by
  have h' : laidMet Tryz.prog (Rows.wantTellsRow.laid.filter fun x => x.2.handleName?.isNone) W ∧ handlesMet Tryz.prog (Rows.wantTellsRow.laid.filter fun x => x.2.handleName?.isSome) W := h
  exact sents_of h'.1 h'.2 (by decide +kernel) (by decide +kernel) (List.mem_cons_self ..)

theorem pow_of {W : World} (h : laidMetH Tryz.prog Rows.wantTellsRow.laid W) : Pow W := by
  have h' : laidMet Tryz.prog (Rows.wantTellsRow.laid.filter fun x => x.2.handleName?.isNone) W ∧ handlesMet Tryz.prog (Rows.wantTellsRow.laid.filter fun x => x.2.handleName?.isSome) W := h
  have h2 := (h'.1).tail.tail
  exact Lib.tabIs_of_head (g := 13) (by kernel_rfl) (by kernel_rfl) Tryz.underlying359 Tryz.underlying309 (by kernel_rfl) (by kernel_rfl) h2

theorem atoi_of {W : World} (h : laidMetH Tryz.prog Rows.wantTellsRow.laid W) : AtoiVars W := by
  have h' : laidMet Tryz.prog (Rows.wantTellsRow.laid.filter fun x => x.2.handleName?.isNone) W ∧ handlesMet Tryz.prog (Rows.wantTellsRow.laid.filter fun x => x.2.handleName?.isSome) W := h
  obtain ⟨a1, e1⟩ := one_of_laid h'.1 (n := "strconv.ErrSyntax") (g := 17) (by kernel_rfl) (by kernel_rfl) (by decide +kernel)
  obtain ⟨a2, e2⟩ := one_of_laid h'.1 (n := "strconv.ErrRange") (g := 18) (by kernel_rfl) (by kernel_rfl) (by decide +kernel)
  exact ⟨⟨_, _, e1⟩, _, _, e2⟩

/-- The start meets the condition. -/
theorem start_met (os : Os) (args : Array Value) : laidMetH Tryz.prog Rows.wantTellsRow.laid (((World.doorLaid Tryz.prog 400 os).layVars Tryz.prog (Rows.wantTellsRow.laid.filter fun x => x.2.handleName?.isNone)).forCall (fun _ _ => 0) ⟨#[], args, []⟩).memory :=
  laidMetH_of_parts3 (fuel := 8) (laidMet_over args (by kernel_rfl) (by kernel_rfl)) (by kernel_rfl) (by kernel_rfl)

set_option maxRecDepth 100000 in
theorem lifted (os : Os) (started : os.Started) (H : Type) (enc : TypeId × Value → H) :
    ReturnsInHanded {} Tryz.checked os 3 .any (fun w args => (Rows.wantTellsSpec.pre enc Tryz.prog Tryz.f3 [] false w args ∧ laidMetH Tryz.prog Rows.wantTellsRow.laid w) ∧ sizedMet enc Tryz.prog Tryz.f3 (OpenSpec.ofChange Rows.wantTellsSpec) false w args)
      (Rows.wantTellsSpec.post enc Tryz.prog Tryz.f3 false true false false) := by
  refine handed_both (C := Tryz.checked) (X := fun w _ => laidMetH Tryz.prog Rows.wantTellsRow.laid w) (fun _ _ _ hh h => h.of_heap hh) own started (by kernel_rfl) Tryz.func3
    (ChangeSpec.witness_shaped (enc := enc) (C := Tryz.checked) (os := os) (X := fun w _ => laidMetH Tryz.prog Rows.wantTellsRow.laid w) false ((World.doorLaid Tryz.prog 400 os).layVars Tryz.prog (Rows.wantTellsRow.laid.filter fun x => x.2.handleName?.isNone)) #[.slice none 0 0, .slice none 0 0, S []] 8 (World.layVars_os _ _ _) (World.shaped_of_ZipB (by kernel_rfl) (by kernel_rfl)) (by kernel_rfl) (by kernel_rfl) (by kernel_rfl) (start_met os _)) ?_
  intro W base args ds gs before hval0 hW _ hsz0 hL hsh _
  have hval : ∀ (j : Nat) t v, Tryz.f3.params[j]? = some t → args[j]? = some v → Value.okWide Tryz.prog W .any base t v := hval0
  have hsz : (DataW.weightsEach Tryz.prog (Tryz.f3.params.toList ++ Rows.wantTellsSpec.plain.varTypes Tryz.prog) (ds ++ gs)).all (· ≤ reachBytes) = true := hsz0
  clear hsz0
  have hW' := hW
  obtain ⟨p, q, hA0, hV, rfl, hfz, hnd⟩ := hW
  have hA : DataW.TrodAll enc Tryz.prog W 0 (fun _ => true) true Tryz.f3.params.toList args.toList ds p := hA0
  rw [Tryz.params3] at hA hval hsz
  obtain ⟨v0, vs0, d0, ds0, p0, q0, hargs, rfl, rfl, h0, r0⟩ := trodAll_cons hA
  obtain ⟨v1, vs1, d1, ds1, p1, q1, rfl, rfl, rfl, h1, r1⟩ := trodAll_cons r0
  obtain ⟨v2, vs2, d2, ds2, p2, q2, rfl, rfl, rfl, h2, r2⟩ := trodAll_cons r1
  obtain ⟨rfl, rfl, rfl⟩ := trodAll_nil r2
  obtain rfl : args = #[v0, v1, v2] := by cases args; simp_all
  obtain ⟨rfl, rfl⟩ := trodVars_none hV
  have k0 := h0
  have lt0 : ∀ x ∈ p0, x.block < W.heap.size := by obtain ⟨m, hm⟩ := k0; exact DataW.trod_lt m _ _ _ hm
  have rc0 := reach_arg hsz (j := 0) (t := 22) (d := d0) rfl rfl
  obtain ⟨a0, len0, cap0, rfl⟩ := okWide_slice Tryz.underlying22 (hval 0 22 v0 rfl rfl)
  obtain ⟨fuel0, hf0⟩ := h0
  obtain ⟨l0, hlen0, rd0, rb0⟩ := open_files (x := (d0, p0)) (by simpa [Value.cells] using hf0) rc0
  have k1 := h1
  have lt1 : ∀ x ∈ p1, x.block < W.heap.size := by obtain ⟨m, hm⟩ := k1; exact DataW.trod_lt m _ _ _ hm
  have rc1 := reach_arg hsz (j := 1) (t := 23) (d := d1) rfl rfl
  obtain ⟨a1, len1, cap1, rfl⟩ := okWide_slice Tryz.underlying23 (hval 1 23 v1 rfl rfl)
  obtain ⟨fuel1, hf1⟩ := h1
  obtain ⟨l1, hlen1, rd1, rb1⟩ := open_rules (x := (d1, p1)) (by simpa [Value.cells] using hf1) rc1
  have k2 := h2
  have lt2 : ∀ x ∈ p2, x.block < W.heap.size := by obtain ⟨m, hm⟩ := k2; exact DataW.trod_lt m _ _ _ hm
  have rc2 := reach_arg hsz (j := 2) (t := 9) (d := d2) rfl rfl
  obtain ⟨s2, rfl⟩ := open_text h2 (hval 2 9 v2 rfl rfl)
  clear hA0 hval0
  simp only [List.append_nil] at hW'
  obtain ⟨pt, hs⟩ := sents hL
  have hmax := max_of hsh
  have hav := atoi_of hL
  have hpow := pow_of hL
  have walk : Calls Tryz.prog 3 #[.slice a0 len0 cap0, .slice a1 len1 cap1, S s2] W fun e w' => e = .returned (.bool true) ∧ Ext W w' :=
    walkWantTells W pt l0 _ _ l1 s2 rd0 rd1 ⟨hs.errs _, hmax, hav, hpow⟩ hs
  refine walk.mono fun e W' ⟨he, hext⟩ => ?_
  subst he
  have bel := hext.extBelow
  exact ⟨_, rfl, _, _, _, [], _, [], hW', trodAll_mk1 (shut_bool Tryz.underlying4 _), (trodAll_cons_mk (Below.trod laidOut (by kernel_rfl) (of_decide_eq_true (by kernel_rfl)) k0 bel lt0) (trodAll_cons_mk (Below.trod laidOut (by kernel_rfl) (of_decide_eq_true (by kernel_rfl)) k1 bel lt1) (trodAll_cons_mk (Below.trod laidOut (by kernel_rfl) (of_decide_eq_true (by kernel_rfl)) k2 bel lt2) trodAll_mk0))), rfl, bel.frame _, fun h => by cases h⟩

theorem fnNamed : Tryz.pinned.checked.prog.funcNamed Rows.wantTellsRow.func = some 3 := by kernel_rfl
theorem facts : joinedFacts Tryz.pinned.checked.prog 3 Tryz.f3 Rows.wantTellsSpec Rows.wantTellsRow = true := wantTellsFacts.facts
theorem inst : Tryz.f3.isInstance Tryz.pinned.checked.prog Rows.wantTellsRow.origin Rows.wantTellsRow.targs := of_decide_eq_true (by kernel_rfl)
theorem wrap : Tryz.f3.isWrapper Tryz.pinned.checked.prog Rows.wantTellsRow.wrapper Rows.wantTellsRow.mainSum := by
  unfold Func.isWrapper
  first | (rw [if_pos (by decide +kernel)]; kernel_rfl) | (rw [if_neg (by decide +kernel)]; exact ⟨rfl, rfl⟩)
theorem said : Rows.WantTellsSaid :=
  OpenClaim.holds_of_wide 3 Tryz.f3 rfl rfl rfl rfl rfl rfl rfl ⟨rfl, rfl, rfl, rfl, rfl⟩ rfl rfl rfl rfl rfl fnNamed Tryz.func3 facts
    inst wrap (fun os started H enc _ => lifted os started H enc)
end Go.Proofs.YtnmhaipjfpongacGreatDoor.wantTellsDone

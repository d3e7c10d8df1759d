/- ActHeads, whole: for every input the law returns true and its arguments read as before. Beyond the row's own: no condition; the row lists package-level variables, the card ties them. (Printed by gen_claim.py.) -/
import Derived.Test.YtnmhaipjfpongabGreatDoorF9x
import Derived.Test.YtnmhaipjfpongabGreatDoorF13fx
import Derived.Test.YtnmhaipjfpongabGreatDoorGc
import Derived.Test.YtnmhaipjfpongabGreatDoorGh
import Derived.Test.YtnmhaipjfpongabGreatDoorCards
import Derived.Test.YtnmhaipjfpongabGreatDoorTie
import Derived.LaidMore
import Derived.OpenShut
import Derived.Stop.Joined
import Derived.SevenTiedAt
import Derived.SliceStrings
import Derived.ChangeMaps5
import Derived.Lib.LaidTab
import Derived.Stop.LaidErr
import Derived.Lay
namespace Go.Proofs.YtnmhaipjfpongabGreatDoor.actHeadsDone
open Go.ChangeShapes Go.WideShapes Go.ChangeAt Go.RowKit

theorem own : ownKnob Tryz.prog.godebug = none := by kernel_rfl
theorem laidOut : laidOutB Tryz.prog = true := by kernel_rfl

theorem max_of {W : World} (h : W.ShapedOpen Tryz.prog) : HasMax W :=
  cell_of_shapedOpen_int (zero := #[.int .i64 0]) (t := 3) h (of_decide_eq_true (by kernel_rfl)) (by kernel_rfl) rfl (by kernel_rfl) (by kernel_rfl) Tryz.underlying3

theorem errs {W : World} (h : laidMetH Tryz.prog Rows.actHeadsRow.laid W) : ∃ p : Nat → Addr, Errs W p [2, 4, 9] := by
  have h' : laidMet Tryz.prog Rows.actHeadsRow.laid W := h
  obtain ⟨h1, _⟩ := held_of_laid h' (by decide +kernel)
  obtain ⟨aShape, _, _, hShape, _⟩ := h1 "kilnyard/api.ErrShape" (by decide) (by decide +kernel)
  obtain ⟨aKind, _, _, hKind, _⟩ := h1 "kilnyard/api.ErrKind" (by decide) (by decide +kernel)
  obtain ⟨aLong, _, _, hLong, _⟩ := h1 "kilnyard/api.ErrLong" (by decide) (by decide +kernel)
  refine ⟨fun i => if i = 2 then aShape else if i = 4 then aKind else if i = 9 then aLong else ⟨0, 0, none⟩, ⟨fun i g hi hg => ?_⟩⟩
  simp only [List.mem_cons, List.not_mem_nil, or_false] at hi
  rcases hi with rfl | rfl | rfl
  · obtain rfl : 2 = g := Option.some.inj hg
    simpa using World.var?_cell (g := 2) (by kernel_rfl) hShape 0
  · obtain rfl : 4 = g := Option.some.inj hg
    simpa using World.var?_cell (g := 4) (by kernel_rfl) hKind 0
  · obtain rfl : 0 = g := Option.some.inj hg
    simpa using World.var?_cell (g := 0) (by kernel_rfl) hLong 0

theorem pow_of {W : World} (h : laidMetH Tryz.prog Rows.actHeadsRow.laid W) : Pow W := by
  have h' : laidMet Tryz.prog Rows.actHeadsRow.laid W := h
  have h2 := (h').tail.tail
  exact Lib.tabIs_of_head (g := 14) (by kernel_rfl) (by kernel_rfl) Tryz.underlying393 Tryz.underlying275 (by kernel_rfl) (by kernel_rfl) h2

theorem atoi_of {W : World} (h : laidMetH Tryz.prog Rows.actHeadsRow.laid W) : AtoiVars W := by
  have h' : laidMet Tryz.prog Rows.actHeadsRow.laid W := h
  obtain ⟨a1, e1⟩ := one_of_laid h' (n := "strconv.ErrSyntax") (g := 15) (by kernel_rfl) (by kernel_rfl) (by decide +kernel)
  obtain ⟨a2, e2⟩ := one_of_laid h' (n := "strconv.ErrRange") (g := 16) (by kernel_rfl) (by kernel_rfl) (by decide +kernel)
  exact ⟨⟨_, _, e1⟩, _, _, e2⟩

set_option maxRecDepth 100000 in
theorem lifted (os : Os) (started : os.Started) (H : Type) (enc : TypeId × Value → H) :
    ReturnsInHanded {} Tryz.checked os 4 .any (fun w args => (Rows.actHeadsSpec.pre enc Tryz.prog Tryz.f4 [] false w args ∧ laidMetH Tryz.prog Rows.actHeadsRow.laid w) ∧ sizedMet enc Tryz.prog Tryz.f4 (OpenSpec.ofChange Rows.actHeadsSpec) false w args)
      (Rows.actHeadsSpec.post enc Tryz.prog Tryz.f4 false true false false) := by
  refine handed_both (C := Tryz.checked) (X := fun w _ => laidMetH Tryz.prog Rows.actHeadsRow.laid w) (fun _ _ _ hh h => h.of_heap hh) own started (by kernel_rfl) Tryz.func4
    (ChangeSpec.witness_shaped (enc := enc) (C := Tryz.checked) (os := os) (X := fun w _ => laidMetH Tryz.prog Rows.actHeadsRow.laid w) false (World.laidAll Tryz.prog os Rows.actHeadsRow.laid) #[S [], .int .i64 0, .int .i64 0] 8 (World.laidAll_os _ _ _) (World.shaped_of_ZipB (by kernel_rfl) (by kernel_rfl)) (by kernel_rfl) (by kernel_rfl) (by kernel_rfl) (by rw [MakeChecks.laidMetH_plain _ _ _ (by kernel_rfl)]; exact laidMet_laidAll _ (by kernel_rfl) (by kernel_rfl))) ?_
  intro W base args ds gs before hval0 hW _ hsz0 hL hsh _
  have hval : ∀ (j : Nat) t v, Tryz.f4.params[j]? = some t → args[j]? = some v → Value.okWide Tryz.prog W .any base t v := hval0
  have hsz : (DataW.weightsEach Tryz.prog (Tryz.f4.params.toList ++ Rows.actHeadsSpec.plain.varTypes Tryz.prog) (ds ++ gs)).all (· ≤ reachBytes) = true := hsz0
  clear hsz0
  have hW' := hW
  obtain ⟨p, q, hA0, hV, rfl, hfz, hnd⟩ := hW
  have hA : DataW.TrodAll enc Tryz.prog W 0 (fun _ => true) true Tryz.f4.params.toList args.toList ds p := hA0
  rw [Tryz.params4] at hA hval hsz
  obtain ⟨v0, vs0, d0, ds0, p0, q0, hargs, rfl, rfl, h0, r0⟩ := trodAll_cons hA
  obtain ⟨v1, vs1, d1, ds1, p1, q1, rfl, rfl, rfl, h1, r1⟩ := trodAll_cons r0
  obtain ⟨v2, vs2, d2, ds2, p2, q2, rfl, rfl, rfl, h2, r2⟩ := trodAll_cons r1
  obtain ⟨rfl, rfl, rfl⟩ := trodAll_nil r2
  obtain rfl : args = #[v0, v1, v2] := by cases args; simp_all
  obtain ⟨rfl, rfl⟩ := trodVars_none hV
  have k0 := h0
  have lt0 : ∀ x ∈ p0, x.block < W.heap.size := by obtain ⟨m, hm⟩ := k0; exact DataW.trod_lt m _ _ _ hm
  have rc0 := reach_arg hsz (j := 0) (t := 9) (d := d0) rfl rfl
  obtain ⟨s0, rfl⟩ := open_text h0 (hval 0 9 v0 rfl rfl)
  obtain ⟨z1, rfl, rfl, rfl, wz1⟩ := open_int Tryz.underlying3 (hval 1 3 v1 rfl rfl) h1
  obtain ⟨z2, rfl, rfl, rfl, wz2⟩ := open_int Tryz.underlying3 (hval 2 3 v2 rfl rfl) h2
  clear hA0 hval0
  simp only [List.append_nil] at hW'
  obtain ⟨pt, hs⟩ := errs hL
  have hmax := max_of hsh
  have hav := atoi_of hL
  have hpow := pow_of hL
  have walk : Calls Tryz.prog 4 #[S s0, I z1, I z2] W fun e w' => e = .returned (.bool true) ∧ Ext W w' := by
    have hAV : ActVars W pt := ⟨hs, hmax, hav, hpow⟩
    by_cases h : 1500 < s0.length ∨ z1 < 0 ∨ 999 < z1 ∨ z2 < 0 ∨ 999 < z2
    · exact heads_out W pt s0 z1 z2 hAV h
    · obtain ⟨a, rfl⟩ := Int.eq_ofNat_of_zero_le (show 0 ≤ z1 by omega)
      obtain ⟨b, rfl⟩ := Int.eq_ofNat_of_zero_le (show 0 ≤ z2 by omega)
      refine heads_main W pt s0 a b (min a b) hAV (by omega) (by omega) (by omega) rfl ?_
      by_cases hb : b < a
      · rw [decide_eq_true (by omega), decide_eq_true (by omega)]
      · rw [decide_eq_false (by omega), decide_eq_false (by omega)]
  refine walk.mono fun e W' ⟨he, hext⟩ => ?_
  subst he
  have bel := hext.extBelow
  exact ⟨_, rfl, _, _, _, [], _, [], hW', trodAll_mk1 (shut_bool Tryz.underlying4 _), (trodAll_cons_mk (Below.trod laidOut (by kernel_rfl) (of_decide_eq_true (by kernel_rfl)) k0 bel lt0) (trodAll_cons_mk (shut_int Tryz.underlying3 wz1) (trodAll_cons_mk (shut_int Tryz.underlying3 wz2) trodAll_mk0))), rfl, bel.frame _, fun h => by cases h⟩

theorem fnNamed : Tryz.pinned.checked.prog.funcNamed Rows.actHeadsRow.func = some 4 := by kernel_rfl
theorem facts : joinedFacts Tryz.pinned.checked.prog 4 Tryz.f4 Rows.actHeadsSpec Rows.actHeadsRow = true := actHeadsFacts.facts
theorem inst : Tryz.f4.isInstance Tryz.pinned.checked.prog Rows.actHeadsRow.origin Rows.actHeadsRow.targs := of_decide_eq_true (by kernel_rfl)
theorem wrap : Tryz.f4.isWrapper Tryz.pinned.checked.prog Rows.actHeadsRow.wrapper Rows.actHeadsRow.mainSum := by
  unfold Func.isWrapper
  first | (rw [if_pos (by decide +kernel)]; kernel_rfl) | (rw [if_neg (by decide +kernel)]; exact ⟨rfl, rfl⟩)
theorem said : Rows.ActHeadsSaid :=
  OpenClaim.holds_of_wide_leaving 4 Tryz.f4 rfl rfl rfl rfl rfl rfl rfl ⟨rfl, rfl, rfl, rfl, rfl⟩ rfl rfl rfl rfl rfl fnNamed Tryz.func4 facts
    inst wrap (fun os started H enc _ => leaving_of_handed (lifted os started H enc))

theorem plain (f : FuncId) (fn : Func) (hf : Tryz.pinned.checked.prog.funcNamed "kilnyard/kilnyardlaw1.ActHeads" = some f) (hfn : Tryz.pinned.checked.prog.funcs[f]? = some fn) :
    true = Tryz.pinned.checked.prog.looks [] ∧ ∀ (j : Nat) t, fn.params[j]? = some t → Tryz.pinned.checked.prog.wantsStandIn t = false := by
  obtain rfl : f = 4 := Option.some.inj ((show Tryz.prog.funcNamed "kilnyard/kilnyardlaw1.ActHeads" = some 4 by kernel_rfl).symm.trans hf) |>.symm
  obtain rfl : fn = Tryz.f4 := (Option.some.inj (Tryz.func4.symm.trans hfn)).symm
  refine ⟨by kernel_rfl, fun j t ht => ?_⟩
  rw [Tryz.params4] at ht
  have hm : t ∈ [9, 3, 3] := by simpa using Array.mem_of_getElem? ht
  have hall : ([9, 3, 3].all fun u => !Tryz.prog.wantsStandIn u) = true := by kernel_rfl
  exact (show Tryz.prog.wantsStandIn t = false by simpa using List.all_eq_true.1 hall t hm)

/-- The card. -/
theorem proved : Rows.ActHeadsCardSaid :=
  holds_tied_goes .later _ _ _ _ _ said (by kernel_rfl) actHeads_row_tie rfl ⟨rfl, rfl⟩ (by kernel_rfl) rfl plain (by kernel_rfl)
#print axioms proved
end Go.Proofs.YtnmhaipjfpongabGreatDoor.actHeadsDone

/- TreeBack, whole: for every input the law returns true and its arguments read as before. Beyond the row's own: no condition; the row lists package-level variables, the card ties them. (Printed by gen_claim.py.) -/
import Derived.Test.YtnmhaipjfpongaaGreatDoorV18x
import Derived.Test.YtnmhaipjfpongaaGreatDoorGc
import Derived.Test.YtnmhaipjfpongaaGreatDoorGh
import Derived.Test.YtnmhaipjfpongaaGreatDoorCards
import Derived.Test.YtnmhaipjfpongaaGreatDoorTie
import Derived.LaidMore
import Derived.OpenShut
import Derived.Stop.Joined
import Derived.SevenTiedAt
import Derived.SliceStrings
import Derived.ChangeMaps5
import Derived.Lib.LaidTab
import Derived.Stop.LaidErr
import Derived.Lay
namespace Go.Proofs.YtnmhaipjfpongaaGreatDoor.treeBackDone
open Go.ChangeShapes Go.WideShapes Go.ChangeAt Go.RowKit

theorem own : ownKnob Tryz.prog.godebug = none := by kernel_rfl
theorem laidOut : laidOutB Tryz.prog = true := by kernel_rfl

theorem max_of {W : World} (h : W.ShapedOpen Tryz.prog) : HasMax W :=
  cell_of_shapedOpen_int (zero := #[.int .i64 0]) (t := 3) h (of_decide_eq_true (by kernel_rfl)) (by kernel_rfl) rfl (by kernel_rfl) (by kernel_rfl) Tryz.underlying3

theorem errs {W : World} (h : laidMetH Tryz.prog Rows.treeBackRow.laid W) : ∃ p : Nat → Addr, Errs W p [0, 1, 2, 3, 5, 6, 7] := by
  have h' : laidMet Tryz.prog Rows.treeBackRow.laid W := h
  obtain ⟨h1, _⟩ := held_of_laid h' (by decide +kernel)
  obtain ⟨aText, _, _, hText, _⟩ := h1 "kilnyard/api.ErrText" (by decide) (by decide +kernel)
  obtain ⟨aBound, _, _, hBound, _⟩ := h1 "kilnyard/api.ErrBound" (by decide) (by decide +kernel)
  obtain ⟨aShape, _, _, hShape, _⟩ := h1 "kilnyard/api.ErrShape" (by decide) (by decide +kernel)
  obtain ⟨aName, _, _, hName, _⟩ := h1 "kilnyard/api.ErrName" (by decide) (by decide +kernel)
  obtain ⟨aNone, _, _, hNone, _⟩ := h1 "kilnyard/api.ErrNone" (by decide) (by decide +kernel)
  obtain ⟨aExist, _, _, hExist, _⟩ := h1 "kilnyard/api.ErrExist" (by decide) (by decide +kernel)
  obtain ⟨aFull, _, _, hFull, _⟩ := h1 "kilnyard/api.ErrFull" (by decide) (by decide +kernel)
  refine ⟨fun i => if i = 0 then aText else if i = 1 then aBound else if i = 2 then aShape else if i = 3 then aName else if i = 5 then aNone else if i = 6 then aExist else if i = 7 then aFull else ⟨0, 0, none⟩, ⟨fun i g hi hg => ?_⟩⟩
  simp only [List.mem_cons, List.not_mem_nil, or_false] at hi
  rcases hi with rfl | rfl | rfl | rfl | rfl | rfl | rfl
  · obtain rfl : 4 = g := Option.some.inj hg
    simpa using World.var?_cell (g := 4) (by kernel_rfl) hText 0
  · obtain rfl : 0 = g := Option.some.inj hg
    simpa using World.var?_cell (g := 0) (by kernel_rfl) hBound 0
  · obtain rfl : 5 = g := Option.some.inj hg
    simpa using World.var?_cell (g := 5) (by kernel_rfl) hShape 0
  · obtain rfl : 7 = g := Option.some.inj hg
    simpa using World.var?_cell (g := 7) (by kernel_rfl) hName 0
  · obtain rfl : 3 = g := Option.some.inj hg
    simpa using World.var?_cell (g := 3) (by kernel_rfl) hNone 0
  · obtain rfl : 1 = g := Option.some.inj hg
    simpa using World.var?_cell (g := 1) (by kernel_rfl) hExist 0
  · obtain rfl : 2 = g := Option.some.inj hg
    simpa using World.var?_cell (g := 2) (by kernel_rfl) hFull 0

theorem pow_of {W : World} (h : laidMetH Tryz.prog Rows.treeBackRow.laid W) : Pow W := by
  have h' : laidMet Tryz.prog Rows.treeBackRow.laid W := h
  have h2 := (h').tail.tail
  exact Lib.tabIs_of_head (g := 13) (by kernel_rfl) (by kernel_rfl) Tryz.underlying332 Tryz.underlying161 (by kernel_rfl) (by kernel_rfl) h2

set_option maxRecDepth 100000 in
theorem lifted (os : Os) (started : os.Started) (H : Type) (enc : TypeId × Value → H) :
    ReturnsInHanded {} Tryz.checked os 5 .any (fun w args => (Rows.treeBackSpec.pre enc Tryz.prog Tryz.f5 [] false w args ∧ laidMetH Tryz.prog Rows.treeBackRow.laid w) ∧ sizedMet enc Tryz.prog Tryz.f5 (OpenSpec.ofChange Rows.treeBackSpec) false w args)
      (Rows.treeBackSpec.post enc Tryz.prog Tryz.f5 false true false false) := by
  refine handed_both (C := Tryz.checked) (X := fun w _ => laidMetH Tryz.prog Rows.treeBackRow.laid w) (fun _ _ _ hh h => h.of_heap hh) own started (by kernel_rfl) Tryz.func5
    (ChangeSpec.witness_shaped (enc := enc) (C := Tryz.checked) (os := os) (X := fun w _ => laidMetH Tryz.prog Rows.treeBackRow.laid w) false (World.laidAll Tryz.prog os Rows.treeBackRow.laid) #[.slice none 0 0] 8 (World.laidAll_os _ _ _) (World.shaped_of_ZipB (by kernel_rfl) (by kernel_rfl)) (by kernel_rfl) (by kernel_rfl) (by kernel_rfl) (by rw [MakeChecks.laidMetH_plain _ _ _ (by kernel_rfl)]; exact laidMet_laidAll _ (by kernel_rfl) (by kernel_rfl))) ?_
  intro W base args ds gs before hval0 hW _ hsz0 hL hsh _
  have hval : ∀ (j : Nat) t v, Tryz.f5.params[j]? = some t → args[j]? = some v → Value.okWide Tryz.prog W .any base t v := hval0
  have hsz : (DataW.weightsEach Tryz.prog (Tryz.f5.params.toList ++ Rows.treeBackSpec.plain.varTypes Tryz.prog) (ds ++ gs)).all (· ≤ reachBytes) = true := hsz0
  clear hsz0
  have hW' := hW
  obtain ⟨p, q, hA0, hV, rfl, hfz, hnd⟩ := hW
  have hA : DataW.TrodAll enc Tryz.prog W 0 (fun _ => true) true Tryz.f5.params.toList args.toList ds p := hA0
  rw [Tryz.params5] at hA hval hsz
  obtain ⟨v0, vs0, d0, ds0, p0, q0, hargs, rfl, rfl, h0, r0⟩ := trodAll_cons hA
  obtain ⟨rfl, rfl, rfl⟩ := trodAll_nil r0
  obtain rfl : args = #[v0] := by cases args; simp_all
  obtain ⟨rfl, rfl⟩ := trodVars_none hV
  have k0 := h0
  have lt0 : ∀ x ∈ p0, x.block < W.heap.size := by obtain ⟨m, hm⟩ := k0; exact DataW.trod_lt m _ _ _ hm
  have rc0 := reach_arg hsz (j := 0) (t := 39) (d := d0) rfl rfl
  obtain ⟨a0, len0, cap0, rfl⟩ := okWide_slice Tryz.underlying39 (hval 0 39 v0 rfl rfl)
  obtain ⟨fuel0, hf0⟩ := h0
  obtain ⟨l0, hlen0, rd0, rb0⟩ := open_acts (x := (d0, p0)) (by simpa [Value.cells] using hf0) rc0
  clear hA0 hval0
  simp only [List.append_nil] at hW'
  obtain ⟨pt, hs⟩ := errs hL
  have hmax := max_of hsh
  have hpow := pow_of hL
  have walk : Calls Tryz.prog 5 #[.slice a0 len0 cap0] W fun e w' => e = .returned (.bool true) ∧ Ext W w' := by
    by_cases h80 : 80 < len0
    · refine back_long W pt (hs.sub (by decide)) hmax hpow a0 len0 cap0 h80 ?_
      obtain ⟨a', cap', hv, hc, hm, _⟩ := rd0
      unfold maxLen at hm
      cases hv
      omega
    · subst hlen0
      exact walkTreeBack W _ l0 pt rd0 (by omega) (fun y hy => (rb0 y hy).2.2) hs hmax hpow
  refine walk.mono fun e W' ⟨he, hext⟩ => ?_
  subst he
  have bel := hext.extBelow
  exact ⟨_, rfl, _, _, _, [], _, [], hW', trodAll_mk1 (shut_bool Tryz.underlying4 _), (trodAll_cons_mk (Below.trod laidOut (by kernel_rfl) (of_decide_eq_true (by kernel_rfl)) k0 bel lt0) trodAll_mk0), rfl, bel.frame _, fun h => by cases h⟩

theorem fnNamed : Tryz.pinned.checked.prog.funcNamed Rows.treeBackRow.func = some 5 := by kernel_rfl
theorem facts : joinedFacts Tryz.pinned.checked.prog 5 Tryz.f5 Rows.treeBackSpec Rows.treeBackRow = true := by kernel_rfl
theorem inst : Tryz.f5.isInstance Tryz.pinned.checked.prog Rows.treeBackRow.origin Rows.treeBackRow.targs := of_decide_eq_true (by kernel_rfl)
theorem wrap : Tryz.f5.isWrapper Tryz.pinned.checked.prog Rows.treeBackRow.wrapper Rows.treeBackRow.mainSum := by
  unfold Func.isWrapper
  first | (rw [if_pos (by decide +kernel)]; kernel_rfl) | (rw [if_neg (by decide +kernel)]; exact ⟨rfl, rfl⟩)
theorem said : Rows.TreeBackSaid :=
  OpenClaim.holds_of_wide_leaving 5 Tryz.f5 rfl rfl rfl rfl rfl rfl rfl ⟨rfl, rfl, rfl, rfl, rfl⟩ rfl rfl rfl rfl rfl fnNamed Tryz.func5 facts
    inst wrap (fun os started H enc _ => leaving_of_handed (lifted os started H enc))

theorem plain (f : FuncId) (fn : Func) (hf : Tryz.pinned.checked.prog.funcNamed "kilnyard/kilnyardlaw1.TreeBack" = some f) (hfn : Tryz.pinned.checked.prog.funcs[f]? = some fn) :
    true = Tryz.pinned.checked.prog.looks [] ∧ ∀ (j : Nat) t, fn.params[j]? = some t → Tryz.pinned.checked.prog.wantsStandIn t = false := by
  obtain rfl : f = 5 := Option.some.inj ((show Tryz.prog.funcNamed "kilnyard/kilnyardlaw1.TreeBack" = some 5 by kernel_rfl).symm.trans hf) |>.symm
  obtain rfl : fn = Tryz.f5 := (Option.some.inj (Tryz.func5.symm.trans hfn)).symm
  refine ⟨by kernel_rfl, fun j t ht => ?_⟩
  rw [Tryz.params5] at ht
  have hm : t ∈ [39] := by simpa using Array.mem_of_getElem? ht
  have hall : ([39].all fun u => !Tryz.prog.wantsStandIn u) = true := by kernel_rfl
  exact (show Tryz.prog.wantsStandIn t = false by simpa using List.all_eq_true.1 hall t hm)

/-- The card. -/
theorem proved : Rows.TreeBackCardSaid :=
  holds_tied_goes .later _ _ _ _ _ said (by kernel_rfl) treeBack_row_tie rfl ⟨rfl, rfl⟩ (by kernel_rfl) rfl plain (by kernel_rfl)
#print axioms proved
end Go.Proofs.YtnmhaipjfpongaaGreatDoor.treeBackDone

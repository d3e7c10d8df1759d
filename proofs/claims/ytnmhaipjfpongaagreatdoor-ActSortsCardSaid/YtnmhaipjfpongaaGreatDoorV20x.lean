/- ActSorts, whole: for every input the law returns true and its arguments read as before. Beyond the row's own: no condition; the row lists package-level variables, the card ties them. (Printed by gen_claim.py.) -/
import Derived.Test.YtnmhaipjfpongaaGreatDoorF8x
import Derived.Test.YtnmhaipjfpongaaGreatDoorGc
import Derived.Test.YtnmhaipjfpongaaGreatDoorGh
import Derived.Test.YtnmhaipjfpongaaGreatDoorCards
import Derived.Test.YtnmhaipjfpongaaGreatDoorTie
import Derived.LaidMore
import Derived.OpenShut
import Derived.Stop.Joined
import Derived.SevenTiedAt
import Derived.SliceStrings
import Derived.ChangeMaps5
import Derived.Lib.LaidTab
import Derived.Stop.LaidErr
import Derived.Lay
namespace Go.Proofs.YtnmhaipjfpongaaGreatDoor.actSortsDone
open Go.ChangeShapes Go.WideShapes Go.ChangeAt Go.RowKit

theorem own : ownKnob Tryz.prog.godebug = none := by kernel_rfl
theorem laidOut : laidOutB Tryz.prog = true := by kernel_rfl

theorem max_of {W : World} (h : W.ShapedOpen Tryz.prog) : HasMax W :=
  cell_of_shapedOpen_int (zero := #[.int .i64 0]) (t := 3) h (of_decide_eq_true (by kernel_rfl)) (by kernel_rfl) rfl (by kernel_rfl) (by kernel_rfl) Tryz.underlying3

theorem errs {W : World} (h : laidMetH Tryz.prog Rows.actSortsRow.laid W) : ∃ p : Nat → Addr, Errs W p [2, 4, 9] := by
  have h' : laidMet Tryz.prog Rows.actSortsRow.laid W := h
  obtain ⟨h1, _⟩ := held_of_laid h' (by decide +kernel)
  obtain ⟨aShape, _, _, hShape, _⟩ := h1 "kilnyard/api.ErrShape" (by decide) (by decide +kernel)
  obtain ⟨aKind, _, _, hKind, _⟩ := h1 "kilnyard/api.ErrKind" (by decide) (by decide +kernel)
  obtain ⟨aLong, _, _, hLong, _⟩ := h1 "kilnyard/api.ErrLong" (by decide) (by decide +kernel)
  refine ⟨fun i => if i = 2 then aShape else if i = 4 then aKind else if i = 9 then aLong else ⟨0, 0, none⟩, ⟨fun i g hi hg => ?_⟩⟩
  simp only [List.mem_cons, List.not_mem_nil, or_false] at hi
  rcases hi with rfl | rfl | rfl
  · obtain rfl : 5 = g := Option.some.inj hg
    simpa using World.var?_cell (g := 5) (by kernel_rfl) hShape 0
  · obtain rfl : 8 = g := Option.some.inj hg
    simpa using World.var?_cell (g := 8) (by kernel_rfl) hKind 0
  · obtain rfl : 6 = g := Option.some.inj hg
    simpa using World.var?_cell (g := 6) (by kernel_rfl) hLong 0

theorem pow_of {W : World} (h : laidMetH Tryz.prog Rows.actSortsRow.laid W) : Pow W := by
  have h' : laidMet Tryz.prog Rows.actSortsRow.laid W := h
  have h2 := (h').tail.tail
  exact Lib.tabIs_of_head (g := 13) (by kernel_rfl) (by kernel_rfl) Tryz.underlying332 Tryz.underlying161 (by kernel_rfl) (by kernel_rfl) h2

theorem atoi_of {W : World} (h : laidMetH Tryz.prog Rows.actSortsRow.laid W) : AtoiVars W := by
  have h' : laidMet Tryz.prog Rows.actSortsRow.laid W := h
  obtain ⟨a1, e1⟩ := one_of_laid h' (n := "strconv.ErrSyntax") (g := 15) (by kernel_rfl) (by kernel_rfl) (by decide +kernel)
  obtain ⟨a2, e2⟩ := one_of_laid h' (n := "strconv.ErrRange") (g := 16) (by kernel_rfl) (by kernel_rfl) (by decide +kernel)
  exact ⟨⟨_, _, e1⟩, _, _, e2⟩

set_option maxRecDepth 100000 in
theorem lifted (os : Os) (started : os.Started) (H : Type) (enc : TypeId × Value → H) :
    ReturnsInHanded {} Tryz.checked os 6 .any (fun w args => (Rows.actSortsSpec.pre enc Tryz.prog Tryz.f6 [] false w args ∧ laidMetH Tryz.prog Rows.actSortsRow.laid w) ∧ sizedMet enc Tryz.prog Tryz.f6 (OpenSpec.ofChange Rows.actSortsSpec) false w args)
      (Rows.actSortsSpec.post enc Tryz.prog Tryz.f6 false true false false) := by
  refine handed_both (C := Tryz.checked) (X := fun w _ => laidMetH Tryz.prog Rows.actSortsRow.laid w) (fun _ _ _ hh h => h.of_heap hh) own started (by kernel_rfl) Tryz.func6
    (ChangeSpec.witness_shaped (enc := enc) (C := Tryz.checked) (os := os) (X := fun w _ => laidMetH Tryz.prog Rows.actSortsRow.laid w) false (World.laidAll Tryz.prog os Rows.actSortsRow.laid) #[S [], S [], S []] 8 (World.laidAll_os _ _ _) (World.shaped_of_ZipB (by kernel_rfl) (by kernel_rfl)) (by kernel_rfl) (by kernel_rfl) (by kernel_rfl) (by rw [MakeChecks.laidMetH_plain _ _ _ (by kernel_rfl)]; exact laidMet_laidAll _ (by kernel_rfl) (by kernel_rfl))) ?_
  intro W base args ds gs before hval0 hW _ hsz0 hL hsh _
  have hval : ∀ (j : Nat) t v, Tryz.f6.params[j]? = some t → args[j]? = some v → Value.okWide Tryz.prog W .any base t v := hval0
  have hsz : (DataW.weightsEach Tryz.prog (Tryz.f6.params.toList ++ Rows.actSortsSpec.plain.varTypes Tryz.prog) (ds ++ gs)).all (· ≤ reachBytes) = true := hsz0
  clear hsz0
  have hW' := hW
  obtain ⟨p, q, hA0, hV, rfl, hfz, hnd⟩ := hW
  have hA : DataW.TrodAll enc Tryz.prog W 0 (fun _ => true) true Tryz.f6.params.toList args.toList ds p := hA0
  rw [Tryz.params6] at hA hval hsz
  obtain ⟨v0, vs0, d0, ds0, p0, q0, hargs, rfl, rfl, h0, r0⟩ := trodAll_cons hA
  obtain ⟨v1, vs1, d1, ds1, p1, q1, rfl, rfl, rfl, h1, r1⟩ := trodAll_cons r0
  obtain ⟨v2, vs2, d2, ds2, p2, q2, rfl, rfl, rfl, h2, r2⟩ := trodAll_cons r1
  obtain ⟨rfl, rfl, rfl⟩ := trodAll_nil r2
  obtain rfl : args = #[v0, v1, v2] := by cases args; simp_all
  obtain ⟨rfl, rfl⟩ := trodVars_none hV
  have k0 := h0
  have lt0 : ∀ x ∈ p0, x.block < W.heap.size := by obtain ⟨m, hm⟩ := k0; exact DataW.trod_lt m _ _ _ hm
  have rc0 := reach_arg hsz (j := 0) (t := 9) (d := d0) rfl rfl
  obtain ⟨s0, rfl⟩ := open_text h0 (hval 0 9 v0 rfl rfl)
  have k1 := h1
  have lt1 : ∀ x ∈ p1, x.block < W.heap.size := by obtain ⟨m, hm⟩ := k1; exact DataW.trod_lt m _ _ _ hm
  have rc1 := reach_arg hsz (j := 1) (t := 9) (d := d1) rfl rfl
  obtain ⟨s1, rfl⟩ := open_text h1 (hval 1 9 v1 rfl rfl)
  have k2 := h2
  have lt2 : ∀ x ∈ p2, x.block < W.heap.size := by obtain ⟨m, hm⟩ := k2; exact DataW.trod_lt m _ _ _ hm
  have rc2 := reach_arg hsz (j := 2) (t := 9) (d := d2) rfl rfl
  obtain ⟨s2, rfl⟩ := open_text h2 (hval 2 9 v2 rfl rfl)
  clear hA0 hval0
  simp only [List.append_nil] at hW'
  obtain ⟨pt, hs⟩ := errs hL
  have hmax := max_of hsh
  have hav := atoi_of hL
  have hpow := pow_of hL
  have walk : Calls Tryz.prog 6 #[S s0, S s1, S s2] W fun e w' => e = .returned (.bool true) ∧ Ext W w' := by
    have hA : ActVars W pt := ⟨hs, hmax, hav, hpow⟩
    by_cases h : 500 < s0.length ∨ 500 < s1.length ∨ 500 < s2.length
    · exact sorts_long W pt s0 s1 s2 hA h
    · exact walkActSorts W pt s0 s1 s2 hA (by omega) (by omega) (by omega)
  refine walk.mono fun e W' ⟨he, hext⟩ => ?_
  subst he
  have bel := hext.extBelow
  exact ⟨_, rfl, _, _, _, [], _, [], hW', trodAll_mk1 (shut_bool Tryz.underlying4 _), (trodAll_cons_mk (Below.trod laidOut (by kernel_rfl) (of_decide_eq_true (by kernel_rfl)) k0 bel lt0) (trodAll_cons_mk (Below.trod laidOut (by kernel_rfl) (of_decide_eq_true (by kernel_rfl)) k1 bel lt1) (trodAll_cons_mk (Below.trod laidOut (by kernel_rfl) (of_decide_eq_true (by kernel_rfl)) k2 bel lt2) trodAll_mk0))), rfl, bel.frame _, fun h => by cases h⟩

theorem fnNamed : Tryz.pinned.checked.prog.funcNamed Rows.actSortsRow.func = some 6 := by kernel_rfl
theorem facts : joinedFacts Tryz.pinned.checked.prog 6 Tryz.f6 Rows.actSortsSpec Rows.actSortsRow = true := by kernel_rfl
theorem inst : Tryz.f6.isInstance Tryz.pinned.checked.prog Rows.actSortsRow.origin Rows.actSortsRow.targs := of_decide_eq_true (by kernel_rfl)
theorem wrap : Tryz.f6.isWrapper Tryz.pinned.checked.prog Rows.actSortsRow.wrapper Rows.actSortsRow.mainSum := by
  unfold Func.isWrapper
  first | (rw [if_pos (by decide +kernel)]; kernel_rfl) | (rw [if_neg (by decide +kernel)]; exact ⟨rfl, rfl⟩)
theorem said : Rows.ActSortsSaid :=
  OpenClaim.holds_of_wide_leaving 6 Tryz.f6 rfl rfl rfl rfl rfl rfl rfl ⟨rfl, rfl, rfl, rfl, rfl⟩ rfl rfl rfl rfl rfl fnNamed Tryz.func6 facts
    inst wrap (fun os started H enc _ => leaving_of_handed (lifted os started H enc))

theorem plain (f : FuncId) (fn : Func) (hf : Tryz.pinned.checked.prog.funcNamed "kilnyard/kilnyardlaw1.ActSorts" = some f) (hfn : Tryz.pinned.checked.prog.funcs[f]? = some fn) :
    true = Tryz.pinned.checked.prog.looks [] ∧ ∀ (j : Nat) t, fn.params[j]? = some t → Tryz.pinned.checked.prog.wantsStandIn t = false := by
  obtain rfl : f = 6 := Option.some.inj ((show Tryz.prog.funcNamed "kilnyard/kilnyardlaw1.ActSorts" = some 6 by kernel_rfl).symm.trans hf) |>.symm
  obtain rfl : fn = Tryz.f6 := (Option.some.inj (Tryz.func6.symm.trans hfn)).symm
  refine ⟨by kernel_rfl, fun j t ht => ?_⟩
  rw [Tryz.params6] at ht
  have hm : t ∈ [9, 9, 9] := by simpa using Array.mem_of_getElem? ht
  have hall : ([9, 9, 9].all fun u => !Tryz.prog.wantsStandIn u) = true := by kernel_rfl
  exact (show Tryz.prog.wantsStandIn t = false by simpa using List.all_eq_true.1 hall t hm)

/-- The card. -/
theorem proved : Rows.ActSortsCardSaid :=
  holds_tied_goes .later _ _ _ _ _ said (by kernel_rfl) actSorts_row_tie rfl ⟨rfl, rfl⟩ (by kernel_rfl) rfl plain (by kernel_rfl)
#print axioms proved
end Go.Proofs.YtnmhaipjfpongaaGreatDoor.actSortsDone

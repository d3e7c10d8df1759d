/- PathStars, whole: for every input the law returns true and its arguments read as before. Beyond the row's own: no condition; the row lists package-level variables, the card ties them. (Printed by gen_path.py.) -/
import Derived.Test.YtnmhaipjfpongaaDoorT2
import Derived.Test.YtnmhaipjfpongaaDoorL1
import Derived.Test.YtnmhaipjfpongaaDoorH1
import Derived.Test.YtnmhaipjfpongaaDoorCards
import Derived.Test.YtnmhaipjfpongaaDoorTie
import Derived.LaidMore
import Derived.OpenShut
import Derived.Stop.Joined
import Derived.SevenTiedAt
import Derived.SliceStrings
import Derived.Lay
namespace Go.Proofs.YtnmhaipjfpongaaDoor.pathStarsDone
open Go.ChangeShapes Go.WideShapes Go.ChangeAt Go.RowKit

theorem own : ownKnob Tryd.prog.godebug = none := by kernel_rfl
theorem laidOut : laidOutB Tryd.prog = true := by kernel_rfl

theorem max_of {W : World} (h : W.ShapedOpen Tryd.prog) : HasMax W :=
  cell_of_shapedOpen_int (zero := #[.int .i64 0]) (t := 3) h (of_decide_eq_true (by kernel_rfl)) (by kernel_rfl) rfl (by kernel_rfl) (by kernel_rfl) Tryd.underlying3

theorem errs {W : World} (h : laidMetH Tryd.prog Rows.pathStarsRow.laid W) (hm : HasMax W) : ∃ aB aS aN aE, PathErrs W aB aS aN aE := by
  have h' : laidMet Tryd.prog Rows.pathStarsRow.laid W := h
  obtain ⟨h1, _⟩ := held_of_laid h' (by decide +kernel)
  obtain ⟨aB, _, _, hB, _⟩ := h1 "kilnyard/api.ErrBound" (by decide) (by decide +kernel)
  obtain ⟨aS, _, _, hS, _⟩ := h1 "kilnyard/api.ErrShape" (by decide) (by decide +kernel)
  obtain ⟨aN, _, _, hN, _⟩ := h1 "kilnyard/api.ErrName" (by decide) (by decide +kernel)
  obtain ⟨aE, _, _, hE, _⟩ := h1 "kilnyard/api.ErrNone" (by decide) (by decide +kernel)
  exact ⟨aB, aS, aN, aE, hm, by simpa using World.var?_cell (g := 1) (by kernel_rfl) hB 0, by simpa using World.var?_cell (g := 2) (by kernel_rfl) hS 0, by simpa using World.var?_cell (g := 3) (by kernel_rfl) hN 0, by simpa using World.var?_cell (g := 5) (by kernel_rfl) hE 0⟩

set_option maxRecDepth 100000 in
theorem lifted (os : Os) (started : os.Started) (H : Type) (enc : TypeId × Value → H) :
    ReturnsInHanded {} Tryd.checked os 8 .any (fun w args => (Rows.pathStarsSpec.pre enc Tryd.prog Tryd.f8 [] false w args ∧ laidMetH Tryd.prog Rows.pathStarsRow.laid w) ∧ sizedMet enc Tryd.prog Tryd.f8 (OpenSpec.ofChange Rows.pathStarsSpec) false w args)
      (Rows.pathStarsSpec.post enc Tryd.prog Tryd.f8 false true false false) := by
  refine handed_both (C := Tryd.checked) (X := fun w _ => laidMetH Tryd.prog Rows.pathStarsRow.laid w) (fun _ _ _ hh h => h.of_heap hh) own started (by kernel_rfl) Tryd.func8
    (ChangeSpec.witness_shaped (enc := enc) (C := Tryd.checked) (os := os) (X := fun w _ => laidMetH Tryd.prog Rows.pathStarsRow.laid w) false (World.laidAll Tryd.prog os Rows.pathStarsRow.laid) #[S []] 8 (World.laidAll_os _ _ _) (World.shaped_of_ZipB (by kernel_rfl) (by kernel_rfl)) (by kernel_rfl) (by kernel_rfl) (by kernel_rfl) (by rw [MakeChecks.laidMetH_plain _ _ _ (by kernel_rfl)]; exact laidMet_laidAll _ (by kernel_rfl) (by kernel_rfl))) ?_
  intro W base args ds gs before hval0 hW _ _ hL hsh _
  have hval : ∀ (j : Nat) t v, Tryd.f8.params[j]? = some t → args[j]? = some v → Value.okWide Tryd.prog W .any base t v := hval0
  have hW' := hW
  obtain ⟨p, q, hA0, hV, rfl, hfz, hnd⟩ := hW
  have hA : DataW.TrodAll enc Tryd.prog W 0 (fun _ => true) true Tryd.f8.params.toList args.toList ds p := hA0
  rw [Tryd.params8] at hA hval
  obtain ⟨v0, vs0, d0, ds0, p0, q0, hargs, rfl, rfl, h0, r0⟩ := trodAll_cons hA
  obtain ⟨rfl, rfl, rfl⟩ := trodAll_nil r0
  obtain rfl : args = #[v0] := by cases args; simp_all
  obtain ⟨rfl, rfl⟩ := trodVars_none hV
  obtain ⟨s0, rfl⟩ := open_text h0 (hval 0 9 v0 rfl rfl)
  have lt0 : ∀ x ∈ p0, x.block < W.heap.size := by obtain ⟨m, hm⟩ := h0; exact DataW.trod_lt m _ _ _ hm
  clear hA0 hval0
  simp only [List.append_nil] at hW'
  obtain ⟨aB, aS, aN, aE, he⟩ := errs hL (max_of hsh)
  refine (walkPathStars W s0 aB aS aN aE he).mono fun e W' ⟨he, hext⟩ => ?_
  subst he
  have bel := hext.extBelow
  exact ⟨_, rfl, _, _, _, [], _, [], hW', trodAll_mk1 (shut_bool Tryd.underlying4 _), (trodAll_cons_mk (Below.trod laidOut (by kernel_rfl) (of_decide_eq_true (by kernel_rfl)) h0 bel lt0) trodAll_mk0), rfl, bel.frame _, fun h => by cases h⟩

theorem said : Rows.PathStarsSaid :=
  OpenClaim.holds_of_wide 8 Tryd.f8 rfl rfl rfl rfl rfl rfl rfl ⟨rfl, rfl, rfl, rfl, rfl⟩ rfl rfl rfl rfl rfl (by kernel_rfl) Tryd.func8 (by kernel_rfl)
    (of_decide_eq_true (by kernel_rfl)) (by unfold Func.isWrapper; first | (rw [if_pos (by decide +kernel)]; kernel_rfl) | (rw [if_neg (by decide +kernel)]; exact ⟨rfl, rfl⟩))
    (fun os started H enc _ => lifted os started H enc)

theorem plain (f : FuncId) (fn : Func) (hf : Tryd.pinned.checked.prog.funcNamed "kilnyard/kilnyardlaw1.PathStars" = some f) (hfn : Tryd.pinned.checked.prog.funcs[f]? = some fn) :
    true = Tryd.pinned.checked.prog.looks [] ∧ ∀ (j : Nat) t, fn.params[j]? = some t → Tryd.pinned.checked.prog.wantsStandIn t = false := by
  obtain rfl : f = 8 := Option.some.inj ((show Tryd.prog.funcNamed "kilnyard/kilnyardlaw1.PathStars" = some 8 by kernel_rfl).symm.trans hf) |>.symm
  obtain rfl : fn = Tryd.f8 := (Option.some.inj (Tryd.func8.symm.trans hfn)).symm
  refine ⟨by kernel_rfl, fun j t ht => ?_⟩
  rw [Tryd.params8] at ht
  have hm : t ∈ [9] := by simpa using Array.mem_of_getElem? ht
  have hall : ([9].all fun u => !Tryd.prog.wantsStandIn u) = true := by kernel_rfl
  exact (show Tryd.prog.wantsStandIn t = false by simpa using List.all_eq_true.1 hall t hm)

/-- The card. -/
theorem proved : Rows.PathStarsCardSaid :=
  Claim7.holds_tied_plain_at .later [] _ _ _ _ said (fun _ h => by cases h) (by kernel_rfl) (fun _ h => by cases h) pathStars_row_tie rfl ⟨rfl, rfl⟩ (by kernel_rfl) rfl plain (by kernel_rfl)
#print axioms proved
end Go.Proofs.YtnmhaipjfpongaaDoor.pathStarsDone

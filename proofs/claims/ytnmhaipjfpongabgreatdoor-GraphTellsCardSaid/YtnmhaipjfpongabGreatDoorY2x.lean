/- The model's KeyOf, and OwnTexts. No condition but how the lists lie, and their lengths. -/
import Derived.Test.YtnmhaipjfpongabGreatDoorGe
import Derived.Test.YtnmhaipjfpongabGreatDoorGi
namespace Go.Proofs.YtnmhaipjfpongabGreatDoor
open Go.ChangeShapes Go.WideShapes Go.ChangeAt Go.RowKit

theorem ownTexts_any (w : World) (v : Value) (l : List B) (hv : Rd S w v l) (hl : l.length ≤ 1000000) :
    Calls Tryz.prog 22 #[v] w fun e w' => ∃ v', e = .returned v' ∧ Rd S w' v' l ∧ Ext w w' := by
  obtain ⟨a, cap, rfl, _, _, hc⟩ := hv
  cases l with
  | nil =>
    clear hc
    cases a with
    | none =>
      go_enter Tryz.func22, Tryz.ntmps22
      go_wp2_with fail
      go_ret
      exact ⟨_, rfl, Rd.nil _ _, Only.refl _ _⟩
    | some a =>
      go_enter Tryz.func22, Tryz.ntmps22
      go_wp2_with fail
      go_ret
      exact ⟨_, rfl, Rd.nil _ _, Only.refl _ _⟩
  | cons x r =>
    obtain ⟨b, off, rfl, hcell⟩ := hc (by simp)
    obtain ⟨l, hL⟩ : ∃ l, l = x :: r := ⟨_, rfl⟩
    rw [← hL] at hl hcell ⊢
    have hadd : ∀ j, (⟨b, off, none⟩ : Addr).add j = ⟨b, off + j, none⟩ := fun j => by
      unfold Addr.add
      split
      · subst_vars; rfl
      · rfl
    have hnews : ∀ j u, (l.map S)[j]? = some u → w.cell? ((⟨b, off, none⟩ : Addr).add j) = some u := fun j u hu => by
      rw [List.getElem?_map] at hu
      obtain ⟨y, hy, rfl⟩ := Option.map_eq_some_iff.1 hu
      rw [hadd]
      exact hcell j y hy
    have hone : ∀ u ∈ l.map S, u.oneCell' = true := fun u hu => by
      obtain ⟨y, _, rfl⟩ := List.mem_map.1 hu
      rfl
    have HN := Lib.hid hnews
    have HO := Lib.hid hone
    obtain ⟨i0, hi, hz0, hz1, hz2⟩ := info_parts infoStr
    have HI := Lib.hid hi
    have HZ := Lib.hid (And.intro hz0 (And.intro hz1 hz2))
    clear hc hcell hadd hnews hone hz0 hz1 hz2 hi
    go_enter Tryz.func22, Tryz.ntmps22
    go_wp2_with (at_builtin; refine wpList_append_own_at w rfl (.tmp 4) (.tmp 5) 24 rfl w.heap.size 9 i0 (.string ⟨#[]⟩) 1 16 Tryz.underlying24 HI.out HZ.out.1 HZ.out.2.1 HZ.out.2.2 rfl (by decide) _ 0 [] rfl (World.ownsRow_nil _ _ _ _) ⟨b, off, none⟩ l.length cap (l.map S) rfl (by simp) HN.out HO.out ?h1 ?h2 (Nat.le_refl _) ?_; (case h1 => unfold maxLen; omega); (case h2 => omega); intro v' w' ho hg _ _)
    go_wp2_with fail
    go_ret
    exact ⟨_, rfl, Rd.of_row (base := w.heap.size) (e := 9) (n := 0 + l.length) (by simpa using ho), (Only.of_grown hg).mono (fun _ _ h => by cases h)⟩

end Go.Proofs.YtnmhaipjfpongabGreatDoor

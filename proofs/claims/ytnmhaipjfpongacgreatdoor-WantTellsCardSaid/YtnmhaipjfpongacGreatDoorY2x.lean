/- The model's KeyOf, and OwnTexts. No condition but how the lists lie, and their lengths. -/
import Derived.Test.YtnmhaipjfpongacGreatDoorGe
import Derived.Test.YtnmhaipjfpongacGreatDoorC5x
namespace Go.Proofs.YtnmhaipjfpongacGreatDoor
open Go.ChangeShapes Go.WideShapes Go.ChangeAt Go.RowKit

theorem ownTexts_any (w : World) (v : Value) (l : List B) (hv : Rd S w v l) (hl : l.length ≤ 1000000) :
    Calls Tryz.prog 53 #[v] w fun e w' => ∃ v', e = .returned v' ∧ Rd S w' v' l ∧ Ext w w' := by
  obtain ⟨a, cap, rfl, _, _, hc⟩ := hv
  cases l with
  | nil =>
    clear hc
    cases a with
    | none =>
      go_enter Tryz.func53, Tryz.ntmps53
      go_wp2_with fail
      go_ret
      exact ⟨_, rfl, Rd.nil _ _, Only.refl _ _⟩
    | some a =>
      go_enter Tryz.func53, Tryz.ntmps53
      go_wp2_with fail
      go_ret
      exact ⟨_, rfl, Rd.nil _ _, Only.refl _ _⟩
  | cons x r =>
    obtain ⟨b, off, rfl, hcell⟩ := hc (by simp)
    obtain ⟨l, hL⟩ : ∃ l, l = x :: r := ⟨_, rfl⟩
    rw [← hL] at hl hcell ⊢
    have hadd : ∀ j, (⟨b, off, none⟩ : Addr).add j = ⟨b, off + j, none⟩ := fun j => by
      unfold Addr.add
      split
      · subst_vars; rfl
      · rfl
    have hnews : ∀ j u, (l.map S)[j]? = some u → w.cell? ((⟨b, off, none⟩ : Addr).add j) = some u := fun j u hu => by
      rw [List.getElem?_map] at hu
      obtain ⟨y, hy, rfl⟩ := Option.map_eq_some_iff.1 hu
      rw [hadd]
      exact hcell j y hy
    have hone : ∀ u ∈ l.map S, u.oneCell' = true := fun u hu => by
      obtain ⟨y, _, rfl⟩ := List.mem_map.1 hu
      rfl
    have HN := Lib.hid hnews
    have HO := Lib.hid hone
    obtain ⟨i0, hi, hz0, hz1, hz2⟩ := info_parts infoStr
    have HI := Lib.hid hi
    have HZ := Lib.hid (And.intro hz0 (And.intro hz1 hz2))
    clear hc hcell hadd hnews hone hz0 hz1 hz2 hi
    go_enter Tryz.func53, Tryz.ntmps53
    go_wp2_with (at_builtin; refine wpList_append_own_at w rfl (.tmp 4) (.tmp 5) 53 rfl w.heap.size 9 i0 (.string ⟨#[]⟩) 1 16 Tryz.underlying53 HI.out HZ.out.1 HZ.out.2.1 HZ.out.2.2 rfl (by decide) _ 0 [] rfl (World.ownsRow_nil _ _ _ _) ⟨b, off, none⟩ l.length cap (l.map S) rfl (by simp) HN.out HO.out ?h1 ?h2 (Nat.le_refl _) ?_; (case h1 => unfold maxLen; omega); (case h2 => omega); intro v' w' ho hg _ _)
    go_wp2_with fail
    go_ret
    exact ⟨_, rfl, Rd.of_row (base := w.heap.size) (e := 9) (n := 0 + l.length) (by simpa using ho), (Only.of_grown hg).mono (fun _ _ h => by cases h)⟩

theorem cnt_ba (s : B) : ((⟨(Lib.decDigits s.length).toArray⟩ : ByteArray) ++ ⟨#[58]⟩ ++ ⟨s.toArray⟩) = ⟨(cnt s).toArray⟩ := by
  rw [show (⟨#[58]⟩ : ByteArray) = ⟨([58] : B).toArray⟩ from rfl, ba_app, ba_app]
  simp [cnt]

set_option maxHeartbeats 1000000 in
theorem keyOf_any (w : World) (kind word : B) (v : Value) (ins : List B) (hv : Rd S w v ins) (h1 : kind.length ≤ 100) (h2 : word.length ≤ 100) (h3 : ins.length ≤ 10) (h4 : ∀ x ∈ ins, x.length ≤ 300) :
    Calls Tryz.prog 129 #[S kind, S word, v] w fun e w' => e = .returned (S (keyT kind word ins)) ∧ Ext w w' := by
  obtain ⟨a, cap, rfl, _, _, hc⟩ := hv
  have l1 := dec_le kind.length (by omega)
  have l2 := dec_le word.length (by omega)
  have l3 := cnt_len kind (by omega)
  have l4 := cnt_len word (by omega)
  have hdk := decimal_any w kind.length (by omega)
  have hdw := fun w1 => decimal_any w1 word.length (by omega)
  obtain ⟨K, hK⟩ : ∃ K, K = keyT kind word ins := ⟨_, rfl⟩
  obtain ⟨C, hC⟩ : ∃ C, C = cnt kind ++ cnt word := ⟨_, rfl⟩
  have hCl : C.length ≤ 242 := by rw [hC]; simp; omega
  have hKe : K = C ++ ins.flatMap cnt := by rw [hK, hC]; rfl
  have hCe : ((⟨(Lib.decDigits kind.length).toArray⟩ : ByteArray) ++ ⟨#[58]⟩ ++ ⟨kind.toArray⟩ ++ ⟨(Lib.decDigits word.length).toArray⟩ ++ ⟨#[58]⟩ ++ ⟨word.toArray⟩) = ⟨C.toArray⟩ := by
    rw [show (⟨#[58]⟩ : ByteArray) = ⟨([58] : B).toArray⟩ from rfl]
    simp only [ba_app]
    rw [hC]
    simp [cnt]
  rw [← hK]
  generalize Lib.decDigits kind.length = dk at l1 hdk hCe
  generalize Lib.decDigits word.length = dw at l2 hdw hCe
  have q1 : ¬ 9223372036854775807 < dk.length + 1 := by omega
  have q2 : ¬ 9223372036854775807 < dk.length + 1 + kind.length := by omega
  have q3 : ¬ 9223372036854775807 < dk.length + 1 + kind.length + dw.length := by omega
  have q4 : ¬ 9223372036854775807 < dk.length + 1 + kind.length + dw.length + 1 := by omega
  have q5 : ¬ 9223372036854775807 < dk.length + 1 + kind.length + dw.length + 1 + word.length := by omega
  have HKE := Lib.hid hKe
  have HCE := Lib.hid hCe
  have HDK := Lib.hid hdk
  have HDW := Lib.hid hdw
  have HC := Lib.hid hc
  have H4 := Lib.hid h4
  clear hc hKe hCe hdk hdw hK hC h4 l1 l2 l3 l4 h1 h2
  go_enter Tryz.func129, Tryz.ntmps129
  go_wp2_with fail
  refine HDK.out.mono ?_
  rintro e w1 ⟨rfl, ho⟩
  have HO1 := Lib.hid ho
  clear ho
  go_wp2_with fail
  refine (HDW.out _).mono ?_
  rintro e w2 ⟨rfl, ho⟩
  have HO2 := Lib.hid (HO1.out.ext ho)
  clear ho
  go_wp2_with fail
  rw [HCE.out]
  clear q1 q2 q3 q4 q5 HDK HDW HCE HO1
  go_loopw [7, 8] (fun o i wr => ∃ j : Nat, j ≤ ins.length ∧ i = .int .i64 j ∧ o = S (C ++ (ins.take j).flatMap cnt) ∧ Hid (Ext w wr)) (fun _ i _ => ins.length - (intOf i).toNat)
  case atStart => exact ⟨0, Nat.zero_le _, rfl, by simp, HO2⟩
  case round =>
    obtain ⟨j, hj, rfl, rfl, HX⟩ := hrel
    by_cases hlt : j < ins.length
    · have hltz : (j : Int) < (ins.length : Int) := by omega
      obtain ⟨b0, off, rfl, hcell⟩ := HC.out (by intro h; rw [h] at hlt; simp at hlt)
      obtain ⟨x, hx⟩ : ∃ y, ins[j]? = some y := ⟨_, List.getElem?_eq_getElem hlt⟩
      have d0 : wr.cell? ⟨b0, off + j, none⟩ = some (S x) := HX.out.cellOf (hcell j x hx) (fun h => h)
      have hxl := H4.out x (List.mem_of_getElem? hx)
      have hst := flat_take_step hx
      have hfl := flat_take_len H4.out j
      have hdx := fun w1 => decimal_any w1 x.length (by omega)
      have hdl := dec_le x.length (by omega)
      have hcx := cnt_ba x
      obtain ⟨F, hF⟩ : ∃ F, F = C ++ (ins.take j).flatMap cnt := ⟨_, rfl⟩
      have hFl : F.length ≤ 10000 := by rw [hF, List.length_append]; omega
      have hFs : C ++ (ins.take (j + 1)).flatMap cnt = F ++ cnt x := by rw [hst, hF]; simp
      rw [← hF]
      have hce : ((⟨F.toArray⟩ : ByteArray) ++ ⟨(Lib.decDigits x.length).toArray⟩ ++ ⟨#[58]⟩ ++ ⟨x.toArray⟩) = ⟨(F ++ cnt x).toArray⟩ := by
        rw [show (⟨#[58]⟩ : ByteArray) = ⟨([58] : B).toArray⟩ from rfl]
        simp only [ba_app]
        simp [cnt]
      generalize Lib.decDigits x.length = dx at hdx hdl hce
      have q1 : ¬ 9223372036854775807 < F.length + dx.length := by omega
      have q2 : ¬ 9223372036854775807 < F.length + dx.length + 1 := by omega
      have q3 : ¬ 9223372036854775807 < F.length + dx.length + 1 + x.length := by omega
      have HFS := Lib.hid hFs
      have HDX := Lib.hid hdx
      have HCX := Lib.hid hce
      clear hcell hx hst hcx hF hdx hfl hFs hce hdl hFl
      go_wp2_with fail
      go_region_law (go_simp; go_at_call 109; refine (HDX.out _).mono ?_; rintro e w5 ⟨rfl, ho⟩; have HX5 : Hid (Ext w w5) := Lib.hid (Only.ext (by first | exact HX.out | exact HX.out.thenDrew) ho); have d1 : w5.cell? ⟨b0, off + j, none⟩ = some (S x) := ho.cellOf (by simpa using d0) (fun h => h); clear ho)
      all_goals go_wp2
      all_goals
        refine ⟨⟨j + 1, by omega, by go_num, ?_, HX5⟩, (by simp [intOf]; omega)⟩
        rw [HCX.out, HFS.out]
    · have hltz : ¬ ((j : Int) < (ins.length : Int)) := by omega
      have ht : ins.take j = ins := List.take_of_length_le (by omega)
      rw [ht, ← HKE.out]
      go_wp2_with fail
      go_ret
      exact ⟨rfl, HX.out⟩
end Go.Proofs.YtnmhaipjfpongacGreatDoor

/- Package path: Join; the law's closed fact; what PathStays runs. No condition but lengths, and what the variables hold. -/
import Derived.Test.YtnmhaipjfpongaaDoorR4
namespace Go.Proofs.YtnmhaipjfpongaaDoor
open Go.ChangeShapes Go.WideShapes Go.ChangeAt Go.RowKit

theorem ba_cat (a b : B) : ((⟨a.toArray⟩ : ByteArray) ++ ⟨b.toArray⟩) = ⟨(a ++ b).toArray⟩ := by
  ext1
  simp [ByteArray.data_append]

theorem clean_is {w : World} {s t : B} {k : Nat} {aB aS aN aE : Addr} (he : PathErrs w aB aS aN aE) (h : cleanR s = (t, k)) :
    Calls Tryd.prog 32 #[S s] w fun e w' => e = .returned (.tuple #[S t, cleanErr aB aS aN aE k]) ∧ Ext w w' := by
  have := clean_any w s aB aS aN aE he
  unfold CleanIs at this
  rw [h] at this
  exact this

theorem clean_is0 {w : World} {s t : B} {aB aS aN aE : Addr} (he : PathErrs w aB aS aN aE) (h : cleanR s = (t, 0)) :
    Calls Tryd.prog 32 #[S s] w fun e w' => e = .returned (.tuple #[S t, .nilIface]) ∧ Ext w w' := clean_is he h

theorem cleanErr_bad (aB aS aN aE : Addr) {k : Nat} (h : k ≠ 0) : ∃ a, cleanErr aB aS aN aE k = errV a := by
  unfold cleanErr
  split
  · exact absurd rfl h
  all_goals exact ⟨_, rfl⟩

set_option maxRecDepth 100000 in
theorem joinP_any (w : World) (a b : B) (aB aS aN aE : Addr) (he : PathErrs w aB aS aN aE) (ha : a.length ≤ 1000000) (hb : b.length ≤ 1000000) :
    Calls Tryd.prog 36 #[S a, S b] w (CleanIs w aB aS aN aE (a ++ 47 :: b)) := by
  obtain ⟨c, hc⟩ : ∃ c, c = a ++ 47 :: b := ⟨_, rfl⟩
  have hcat : ((⟨a.toArray⟩ : ByteArray) ++ ⟨#[47]⟩ ++ ⟨b.toArray⟩) = ⟨c.toArray⟩ := by
    rw [show (⟨#[47]⟩ : ByteArray) = ⟨([47] : B).toArray⟩ from rfl, ba_cat, ba_cat, hc]
    simp
  rw [← hc]
  have HC := Lib.hid (clean_any w c aB aS aN aE he)
  have HCAT := Lib.hid hcat
  have q1 : ¬ 9223372036854775807 < a.length + 1 := by omega
  have q2 : ¬ 9223372036854775807 < a.length + 1 + b.length := by omega
  unfold CleanIs
  obtain ⟨t, ht⟩ : ∃ t, t = (cleanR c).1 := ⟨_, rfl⟩
  obtain ⟨ev, hev⟩ : ∃ ev, ev = cleanErr aB aS aN aE (cleanR c).2 := ⟨_, rfl⟩
  unfold CleanIs at HC
  rw [← ht, ← hev] at HC ⊢
  clear hc hcat he ht hev
  go_enter Tryd.func36, Tryd.ntmps36
  go_wp2_with fail
  rw [HCAT.out]
  refine HC.out.mono ?_
  rintro e w' ⟨rfl, ho⟩
  have HO := Lib.hid ho
  clear ho
  go_wp2
  go_ret2
  exact ⟨rfl, HO.out⟩

theorem joinP_is {w : World} {a b t : B} {k : Nat} {aB aS aN aE : Addr} (he : PathErrs w aB aS aN aE) (ha : a.length ≤ 1000000) (hb : b.length ≤ 1000000) (h : cleanR (a ++ 47 :: b) = (t, k)) :
    Calls Tryd.prog 36 #[S a, S b] w fun e w' => e = .returned (.tuple #[S t, cleanErr aB aS aN aE k]) ∧ Ext w w' := by
  have := joinP_any w a b aB aS aN aE he ha hb
  unfold CleanIs at this
  rw [h] at this
  exact this

theorem pathed_clean : cleanR [97, 47, 46, 47, 98, 47, 46, 46, 47, 99] = ([97, 47, 99], 0) := by decide +kernel

set_option maxRecDepth 100000 in
theorem pathed_any (w : World) (aB aS aN aE : Addr) (he : PathErrs w aB aS aN aE) : Calls Tryd.prog 31 #[] w fun e w' => e = .returned (.bool true) ∧ Ext w w' := by
  have HC := Lib.hid (clean_is0 he pathed_clean)
  have HL := Lib.hid (fun w1 (h : Ext w w1) => lastP_any w1 [97, 47, 99] (by decide) (he.max.ext h))
  have hl : (if pathOk [97, 47, 99] then (cut [97, 47, 99]).getLastD [] else []) = [99] := by decide +kernel
  rw [hl] at HL
  clear he hl
  go_enter Tryd.func31, Tryd.ntmps31
  go_wp2_with fail
  refine HC.out.mono ?_
  rintro e w1 ⟨rfl, ho⟩
  have HO := Lib.hid ho
  clear ho
  go_wp2_with fail
  refine (HL.out _ HO.out).mono ?_
  rintro e w2 ⟨rfl, ho⟩
  have HO2 := Lib.hid (HO.out.ext ho)
  clear ho
  go_wp2_with fail
  go_ret
  exact ⟨rfl, HO2.out⟩

/-! ### PathStays -/
set_option maxRecDepth 100000 in
theorem stays_long (w : World) (a : B) (aB aS aN aE : Addr) (he : PathErrs w aB aS aN aE) (h : 250 < a.length) : Calls Tryd.prog 7 #[S a] w fun e w' => e = .returned (.bool true) ∧ Ext w w' := by
  have HP := Lib.hid (pathed_any w aB aS aN aE he)
  have hz : decide ((250 : Int) < (a.length : Int)) = true := decide_eq_true (by omega)
  clear he h
  go_enter Tryd.func7, Tryd.ntmps7
  go_wp2_with fail
  refine HP.out.mono ?_
  rintro e w1 ⟨rfl, ho⟩
  have HO := Lib.hid ho
  clear ho
  go_wp2_with fail
  go_ret
  exact ⟨rfl, HO.out⟩

set_option maxRecDepth 100000 in
theorem stays_bad (w : World) (a : B) (aB aS aN aE : Addr) (he : PathErrs w aB aS aN aE) (h : ¬ 250 < a.length) {t : B} {k : Nat} (hc : cleanR a = (t, k)) (hk : k ≠ 0) : Calls Tryd.prog 7 #[S a] w fun e w' => e = .returned (.bool true) ∧ Ext w w' := by
  have HP := Lib.hid (pathed_any w aB aS aN aE he)
  have hz : decide ((250 : Int) < (a.length : Int)) = false := decide_eq_false (by omega)
  obtain rfl := cleanR_bad hc hk
  obtain ⟨ea, hea⟩ := cleanErr_bad aB aS aN aE hk
  have HC := Lib.hid (fun w1 (h1 : Ext w w1) => clean_is (he.ext h1) hc)
  rw [hea] at HC
  clear he h hc hk hea
  go_enter Tryd.func7, Tryd.ntmps7
  go_wp2_with fail
  refine HP.out.mono ?_
  rintro e w1 ⟨rfl, ho⟩
  have HO := Lib.hid ho
  clear ho
  go_wp2_with fail
  refine (HC.out _ HO.out).mono ?_
  rintro e w2 ⟨rfl, ho⟩
  have HO2 := Lib.hid (HO.out.ext ho)
  clear ho
  go_wp2_with fail
  go_ret
  exact ⟨rfl, HO2.out⟩

/-- What is clean: plain words. -/
theorem clean_facts {a t : B} (hc : cleanR a = (t, 0)) : t ≠ [] ∧ t.length ≤ 100 ∧ cleanR t = (t, 0) ∧ pathOk t = true ∧ cleanR (t ++ 47 :: [120, 47, 46, 46]) = (t, 0) ∧
    ((joinS (cut t).dropLast = [] ∧ (cut t).dropLast = []) ∨ (joinS (cut t).dropLast ≠ [] ∧ joinS (cut t).dropLast ++ 47 :: (cut t).getLastD [] = t)) := by
  obtain ⟨l, hne, rfl, hcut, hn, h5⟩ := cleanR_ok hc
  have hs : ∀ x ∈ l, (47 : UInt8) ∉ x := fun x hx => mem_cut (joinS l) x (by rw [hcut]; exact hx)
  have hlen : (joinS l).length ≤ 65 := by
    have h1 := joinS_len l 12 (fun x hx => nameOk_len (hn x hx))
    have : l.length * 13 ≤ 5 * 13 := Nat.mul_le_mul_right _ h5
    omega
  have hnn : ∀ x ∈ l, x ≠ [] := fun x hx => nameOk_ne (hn x hx)
  refine ⟨fun e => hne ((joinS_eq_nil hnn).1 e), by omega, cleanR_names hne hn h5 hs (.inr hcut) (by omega), ?_, ?_, ?_⟩
  · unfold pathOk; rw [hcut]; exact partsOk_mk h5 hn
  · refine cleanR_names hne hn h5 hs (.inl ?_) (by simp; omega)
    rw [cut_app_any, hcut]; rfl
  · rw [hcut]
    have e : l = l.dropLast ++ [l.getLast hne] := (List.dropLast_concat_getLast hne).symm
    by_cases hd : l.dropLast = []
    · left; exact ⟨by rw [hd]; rfl, hd⟩
    · right
      refine ⟨fun e2 => hd ((joinS_eq_nil (fun x hx => hnn x (List.mem_of_mem_take (by rw [List.dropLast_eq_take] at hx; exact hx)))).1 e2), ?_⟩
      have e3 : l.getLastD [] = l.getLast hne := by rw [List.getLastD_eq_getLast?, List.getLast?_eq_some_getLast hne]; rfl
      rw [e3]
      conv => rhs; rw [e]
      rw [joinS_app _ _ hd (by simp), joinS_one]
end Go.Proofs.YtnmhaipjfpongaaDoor

/- PathStays: what it runs where the text is cleaned. No condition but lengths, and what the variables hold. -/
import Derived.Test.YtnmhaipjfpongaaDoorR5
namespace Go.Proofs.YtnmhaipjfpongaaDoor
open Go.ChangeShapes Go.WideShapes Go.ChangeAt Go.RowKit

theorem joinP_is0 {w : World} {a b t : B} {aB aS aN aE : Addr} (he : PathErrs w aB aS aN aE) (ha : a.length ≤ 1000000) (hb : b.length ≤ 1000000) (h : cleanR (a ++ 47 :: b) = (t, 0)) :
    Calls Tryd.prog 36 #[S a, S b] w fun e w' => e = .returned (.tuple #[S t, .nilIface]) ∧ Ext w w' := joinP_is he ha hb h

theorem check_ok {w : World} {s : B} {aB aS aN aE : Addr} (he : PathErrs w aB aS aN aE) (hs : s.length ≤ 1000000) (h : pathOk s = true) : Calls Tryd.prog 33 #[S s] w fun e w' => e = .returned .nilIface ∧ Ext w w' := by
  have := check_any w s aN hs he.max he.name
  rw [h] at this
  exact this

set_option maxRecDepth 100000 in
set_option maxHeartbeats 1000000 in
theorem stays_ok (w : World) (a : B) (aB aS aN aE : Addr) (he : PathErrs w aB aS aN aE) (h : ¬ 250 < a.length) {t : B} (hc : cleanR a = (t, 0)) : Calls Tryd.prog 7 #[S a] w fun e w' => e = .returned (.bool true) ∧ Ext w w' := by
  have HP := Lib.hid (pathed_any w aB aS aN aE he)
  have hz : decide ((250 : Int) < (a.length : Int)) = false := decide_eq_false (by omega)
  obtain ⟨f1, f2, f3, f4, f5, f6⟩ := clean_facts hc
  have HC := Lib.hid (fun w1 (h1 : Ext w w1) => clean_is0 (he.ext h1) hc)
  have HC2 := Lib.hid (fun w1 (h1 : Ext w w1) => clean_is0 (he.ext h1) f3)
  have HK := Lib.hid (fun w1 (h1 : Ext w w1) => check_ok (he.ext h1) (by omega) f4)
  have HJ := Lib.hid (fun w1 (h1 : Ext w w1) => joinP_is0 (he.ext h1) (by omega) (by decide) f5)
  have hd := fun w1 (h1 : Ext w w1) => dir_any w1 t (by omega) (he.max.ext h1)
  have hla := fun w1 (h1 : Ext w w1) => lastP_any w1 t (by omega) (he.max.ext h1)
  rw [f4, if_pos rfl] at hd hla
  obtain ⟨d, hdd⟩ : ∃ d, d = joinS (cut t).dropLast := ⟨_, rfl⟩
  obtain ⟨z, hzz⟩ : ∃ z, z = (cut t).getLastD [] := ⟨_, rfl⟩
  rw [← hdd] at hd f6
  rw [← hzz] at hla f6
  have HD := Lib.hid hd
  have HL := Lib.hid hla
  have hxx : (t != t) = false := by simp
  have hyy : (t == t) = true := by simp
  clear h hc f1 f3 f4 f5 hd hla hdd hzz
  by_cases h0 : d = []
  · subst h0
    clear f6
    go_enter Tryd.func7, Tryd.ntmps7
    go_wp2_with fail
    refine HP.out.mono ?_
    rintro e w1 ⟨rfl, ho⟩
    have HO := Lib.hid ho
    clear ho
    go_wp2_with fail
    refine (HC.out _ HO.out).mono ?_
    rintro e w2 ⟨rfl, ho⟩
    have HO2 := Lib.hid (HO.out.ext ho)
    clear ho
    go_wp2_with fail
    refine (HC2.out _ HO2.out).mono ?_
    rintro e w3 ⟨rfl, ho⟩
    have HO3 := Lib.hid (HO2.out.ext ho)
    clear ho
    go_wp2_with fail
    refine (HK.out _ HO3.out).mono ?_
    rintro e w4 ⟨rfl, ho⟩
    have HO4 := Lib.hid (HO3.out.ext ho)
    clear ho
    go_wp2_with fail
    refine (HD.out _ HO4.out).mono ?_
    rintro e w5 ⟨rfl, ho⟩
    have HO5 := Lib.hid (HO4.out.ext ho)
    clear ho
    go_wp2_with fail
    refine (HJ.out _ HO5.out).mono ?_
    rintro e w6 ⟨rfl, ho⟩
    have HO6 := Lib.hid (HO5.out.ext ho)
    clear ho
    go_wp2_with fail
    go_ret
    exact ⟨rfl, HO6.out⟩
  · have hcat : d ++ 47 :: z = t := by
      rcases f6 with ⟨e, _⟩ | ⟨_, e⟩
      · exact absurd e h0
      · exact e
    have hba : ((⟨d.toArray⟩ : ByteArray) ++ ⟨#[47]⟩ ++ ⟨z.toArray⟩) = ⟨t.toArray⟩ := by
      rw [show (⟨#[47]⟩ : ByteArray) = ⟨([47] : B).toArray⟩ from rfl, ba_cat, ba_cat, ← hcat]
      simp
    have HBA := Lib.hid hba
    have hdl : d.length + 1 + z.length ≤ 100 := by
      have := congrArg List.length hcat
      rw [List.length_append, List.length_cons] at this
      omega
    have g0 : (d == []) = false := beq_eq_false_iff_ne.2 h0
    have q1 : ¬ 9223372036854775807 < d.length + 1 := by omega
    have q2 : ¬ 9223372036854775807 < d.length + 1 + z.length := by omega
    clear f6 hcat hba h0
    go_enter Tryd.func7, Tryd.ntmps7
    go_wp2_with fail
    refine HP.out.mono ?_
    rintro e w1 ⟨rfl, ho⟩
    have HO := Lib.hid ho
    clear ho
    go_wp2_with fail
    refine (HC.out _ HO.out).mono ?_
    rintro e w2 ⟨rfl, ho⟩
    have HO2 := Lib.hid (HO.out.ext ho)
    clear ho
    go_wp2_with fail
    refine (HC2.out _ HO2.out).mono ?_
    rintro e w3 ⟨rfl, ho⟩
    have HO3 := Lib.hid (HO2.out.ext ho)
    clear ho
    go_wp2_with fail
    refine (HK.out _ HO3.out).mono ?_
    rintro e w4 ⟨rfl, ho⟩
    have HO4 := Lib.hid (HO3.out.ext ho)
    clear ho
    go_wp2_with fail
    refine (HD.out _ HO4.out).mono ?_
    rintro e w5 ⟨rfl, ho⟩
    have HO5 := Lib.hid (HO4.out.ext ho)
    clear ho
    go_wp2_with fail
    refine (HD.out _ HO5.out).mono ?_
    rintro e w6 ⟨rfl, ho⟩
    have HO6 := Lib.hid (HO5.out.ext ho)
    clear ho
    go_wp2_with fail
    refine (HL.out _ HO6.out).mono ?_
    rintro e w7 ⟨rfl, ho⟩
    have HO7 := Lib.hid (HO6.out.ext ho)
    clear ho
    go_wp2_with fail
    rw [HBA.out]
    refine (HJ.out _ HO7.out).mono ?_
    rintro e w8 ⟨rfl, ho⟩
    have HO8 := Lib.hid (HO7.out.ext ho)
    clear ho
    go_wp2_with fail
    go_ret
    exact ⟨rfl, HO8.out⟩

theorem walkPathStays (w : World) (a : B) (aB aS aN aE : Addr) (he : PathErrs w aB aS aN aE) : Calls Tryd.prog 7 #[S a] w fun e w' => e = .returned (.bool true) ∧ Ext w w' := by
  by_cases h : 250 < a.length
  · exact stays_long w a aB aS aN aE he h
  · obtain ⟨⟨t, k⟩, hc⟩ : ∃ r, cleanR a = r := ⟨_, rfl⟩
    by_cases hk : k = 0
    · subst hk; exact stays_ok w a aB aS aN aE he h hc
    · exact stays_bad w a aB aS aN aE he h hc hk
end Go.Proofs.YtnmhaipjfpongaaDoor

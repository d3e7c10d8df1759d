/- PathMatches: what it runs. No condition but lengths, and what the variables hold. (Printed by gen_t11.py.) -/
import Derived.Test.YtnmhaipjfpongaaDoorT10
import Derived.Test.YtnmhaipjfpongaaDoorT7
namespace Go.Proofs.YtnmhaipjfpongaaDoor
open Go.ChangeShapes Go.WideShapes Go.ChangeAt Go.RowKit

set_option maxRecDepth 100000 in
set_option maxHeartbeats 2000000 in
theorem matches_longA (w : World) (a b : B) (p : Nat → Addr) (hs : Sents w p) (hm : HasMax w) (h : 100 < a.length) : Calls Tryd.prog 10 #[S a, S b] w fun e w' => e = .returned (.bool true) ∧ Ext w w' := by
  have HP := Lib.hid (pathed_any w _ _ _ _ (hs.path hm))
  have hz : decide ((100 : Int) < (a.length : Int)) = true := decide_eq_true (by omega)
  clear hs hm h
  go_enter Tryd.func10, Tryd.ntmps10
  go_wp2_with fail
  refine (HP.out).mono ?_
  rintro e w1 ⟨rfl, ho⟩
  have HO1 := Lib.hid (ho)
  clear ho
  go_wp2_with fail
  go_ret
  exact ⟨rfl, HO1.out⟩

set_option maxRecDepth 100000 in
set_option maxHeartbeats 2000000 in
theorem matches_longB (w : World) (a b : B) (p : Nat → Addr) (hs : Sents w p) (hm : HasMax w) (h : ¬ 100 < a.length) (h' : 100 < b.length) : Calls Tryd.prog 10 #[S a, S b] w fun e w' => e = .returned (.bool true) ∧ Ext w w' := by
  have HP := Lib.hid (pathed_any w _ _ _ _ (hs.path hm))
  have hz : decide ((100 : Int) < (a.length : Int)) = false := decide_eq_false (by omega)
  have hz2 : decide ((100 : Int) < (b.length : Int)) = true := decide_eq_true (by omega)
  clear h'
  clear hs hm h
  go_enter Tryd.func10, Tryd.ntmps10
  go_wp2_with fail
  refine (HP.out).mono ?_
  rintro e w1 ⟨rfl, ho⟩
  have HO1 := Lib.hid (ho)
  clear ho
  go_wp2_with fail
  go_ret
  exact ⟨rfl, HO1.out⟩

set_option maxRecDepth 100000 in
set_option maxHeartbeats 2000000 in
theorem matches_true (w : World) (a b : B) (p : Nat → Addr) (hs : Sents w p) (hm : HasMax w) (h : ¬ 100 < a.length) (h' : ¬ 100 < b.length) (hb : matchOk a b = true) : Calls Tryd.prog 10 #[S a, S b] w fun e w' => e = .returned (.bool true) ∧ Ext w w' := by
  have HP := Lib.hid (pathed_any w _ _ _ _ (hs.path hm))
  have hz : decide ((100 : Int) < (a.length : Int)) = false := decide_eq_false (by omega)
  have hz2 : decide ((100 : Int) < (b.length : Int)) = false := decide_eq_false (by omega)
  obtain ⟨v, hv⟩ : ∃ v, v = fitsB (cut a) (cut b) := ⟨_, rfl⟩
  have hma : ∀ w1, Ext w w1 → Calls Tryd.prog 37 #[S a, S b] w1 fun e w' => e = .returned (.tuple #[.bool v, .nilIface]) ∧ Ext w1 w' := fun w1 h1 => by
    have := match_any w1 a b (p 3) (by omega) (by omega) (hm.ext h1) ((hs.ext h1).var 3 _ rfl)
    unfold MatchIs at this
    rw [hb] at this
    rw [hv]
    exact this
  have hrm : ∀ w1, Calls Tryd.prog 42 #[S a, S b] w1 fun e w' => e = .returned (.tuple #[.bool v, I 0]) ∧ Ext w1 w' := fun w1 => by
    have := refMatch_any w1 a b (by omega) (by omega)
    unfold RefMatchIs at this
    rw [hb] at this
    rw [hv]
    exact this
  have HMA := Lib.hid hma
  have HRM := Lib.hid hrm
  have HCK := Lib.hid (fun w1 (_ : Ext w w1) => coded_nil w1)
  have z1 : (v == v) = true := by simp
  clear hma hrm hv hb h h' hs hm
  go_enter Tryd.func10, Tryd.ntmps10
  go_wp2_with fail
  refine (HP.out).mono ?_
  rintro e w1 ⟨rfl, ho⟩
  have HO1 := Lib.hid (ho)
  clear ho
  go_wp2_with fail
  refine (HMA.out _ HO1.out).mono ?_
  rintro e w2 ⟨rfl, ho⟩
  have HO2 := Lib.hid (HO1.out.ext ho)
  clear ho
  go_wp2_with fail
  refine (HRM.out _).mono ?_
  rintro e w3 ⟨rfl, ho⟩
  have HO3 := Lib.hid (HO2.out.ext ho)
  clear ho
  go_wp2_with fail
  refine (HCK.out _ HO3.out).mono ?_
  rintro e w4 ⟨rfl, ho⟩
  have HO4 := Lib.hid (HO3.out.ext ho)
  clear ho
  go_wp2_with fail
  go_ret
  exact ⟨rfl, HO4.out⟩

set_option maxRecDepth 100000 in
set_option maxHeartbeats 2000000 in
theorem matches_false (w : World) (a b : B) (p : Nat → Addr) (hs : Sents w p) (hm : HasMax w) (h : ¬ 100 < a.length) (h' : ¬ 100 < b.length) (hb : matchOk a b = false) : Calls Tryd.prog 10 #[S a, S b] w fun e w' => e = .returned (.bool true) ∧ Ext w w' := by
  have HP := Lib.hid (pathed_any w _ _ _ _ (hs.path hm))
  have hz : decide ((100 : Int) < (a.length : Int)) = false := decide_eq_false (by omega)
  have hz2 : decide ((100 : Int) < (b.length : Int)) = false := decide_eq_false (by omega)
  obtain ⟨v, hv⟩ : ∃ v, v = false := ⟨_, rfl⟩
  have hma : ∀ w1, Ext w w1 → Calls Tryd.prog 37 #[S a, S b] w1 fun e w' => e = .returned (.tuple #[.bool v, errV (p 3)]) ∧ Ext w1 w' := fun w1 h1 => by
    have := match_any w1 a b (p 3) (by omega) (by omega) (hm.ext h1) ((hs.ext h1).var 3 _ rfl)
    unfold MatchIs at this
    rw [hb] at this
    rw [hv]
    exact this
  have hrm : ∀ w1, Calls Tryd.prog 42 #[S a, S b] w1 fun e w' => e = .returned (.tuple #[.bool v, I 4]) ∧ Ext w1 w' := fun w1 => by
    have := refMatch_any w1 a b (by omega) (by omega)
    unfold RefMatchIs at this
    rw [hb] at this
    rw [hv]
    exact this
  have HMA := Lib.hid hma
  have HRM := Lib.hid hrm
  have HCK := Lib.hid (fun w1 (h1 : Ext w w1) => coded_err w1 p (hs.ext h1) 3 (by decide) 4 rfl)
  have z1 : (v == v) = true := by simp
  clear hma hrm hv hb h h' hs hm
  go_enter Tryd.func10, Tryd.ntmps10
  go_wp2_with fail
  refine (HP.out).mono ?_
  rintro e w1 ⟨rfl, ho⟩
  have HO1 := Lib.hid (ho)
  clear ho
  go_wp2_with fail
  refine (HMA.out _ HO1.out).mono ?_
  rintro e w2 ⟨rfl, ho⟩
  have HO2 := Lib.hid (HO1.out.ext ho)
  clear ho
  go_wp2_with fail
  refine (HRM.out _).mono ?_
  rintro e w3 ⟨rfl, ho⟩
  have HO3 := Lib.hid (HO2.out.ext ho)
  clear ho
  go_wp2_with fail
  refine (HCK.out _ HO3.out).mono ?_
  rintro e w4 ⟨rfl, ho⟩
  have HO4 := Lib.hid (HO3.out.ext ho)
  clear ho
  go_wp2_with fail
  go_ret
  exact ⟨rfl, HO4.out⟩

theorem walkPathMatches (w : World) (a b : B) (p : Nat → Addr) (hs : Sents w p) (hm : HasMax w) : Calls Tryd.prog 10 #[S a, S b] w fun e w' => e = .returned (.bool true) ∧ Ext w w' := by
  by_cases h : 100 < a.length
  · exact matches_longA w a b p hs hm h
  by_cases h' : 100 < b.length
  · exact matches_longB w a b p hs hm h h'
  cases hb : matchOk a b with
  | true => exact matches_true w a b p hs hm h h' hb
  | false => exact matches_false w a b p hs hm h h' hb
end Go.Proofs.YtnmhaipjfpongaaDoor

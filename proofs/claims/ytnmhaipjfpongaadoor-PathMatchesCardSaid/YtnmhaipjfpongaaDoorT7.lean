/- PathCleans: what it runs. No condition but lengths, and what the variables hold. (Printed by gen_t7.py.) -/
import Derived.Test.YtnmhaipjfpongaaDoorT6
import Derived.Test.YtnmhaipjfpongaaDoorR6
import Derived.Test.YtnmhaipjfpongaaDoorE4
namespace Go.Proofs.YtnmhaipjfpongaaDoor
open Go.ChangeShapes Go.WideShapes Go.ChangeAt Go.RowKit

theorem Sents.path {w : World} {p : Nat → Addr} (h : Sents w p) (hm : HasMax w) : PathErrs w (p 1) (p 2) (p 3) (p 5) :=
  ⟨hm, h.var 1 _ rfl, h.var 2 _ rfl, h.var 3 _ rfl, h.var 5 _ rfl⟩

theorem coded_err (w : World) (p : Nat → Addr) (hs : Sents w p) (i : Nat) (hi : i < 12) (d : Int) (hd : d = i + 1) : Calls Tryd.prog 19 #[errV (p i), I d] w fun e w' => e = .returned (.bool true) ∧ Ext w w' := by
  subst hd
  obtain ⟨c, t, hr⟩ := hs.row i hi
  have h := code_err w p hs (p i) i (by omega) (fun _ => rfl) (fun j hj hne e => hne (hs.apart j i hj hi e)) c t hr
  rw [if_pos hi] at h
  have := coded1_any w _ _ _ ((i : Int) + 1) h
  simpa using this

theorem coded_nil (w : World) : Calls Tryd.prog 19 #[.nilIface, I 0] w fun e w' => e = .returned (.bool true) ∧ Ext w w' := by
  have := coded1_any w _ _ _ 0 (code_nil w)
  simpa using this

theorem cleanR_code (s : B) : (cleanR s).2 = 0 ∨ (cleanR s).2 = 2 ∨ (cleanR s).2 = 3 ∨ (cleanR s).2 = 4 ∨ (cleanR s).2 = 6 := by
  unfold cleanR
  split
  · simp
  · split
    · simp
    · split
      · simp
      · split <;> simp

theorem coded_clean (w : World) (p : Nat → Addr) (hs : Sents w p) (s : B) : Calls Tryd.prog 19 #[cleanErr (p 1) (p 2) (p 3) (p 5) (cleanR s).2, I (cleanR s).2] w fun e w' => e = .returned (.bool true) ∧ Ext w w' := by
  rcases cleanR_code s with h | h | h | h | h <;> rw [h]
  · exact coded_nil w
  · exact coded_err w p hs 1 (by decide) _ rfl
  · exact coded_err w p hs 2 (by decide) _ rfl
  · exact coded_err w p hs 3 (by decide) _ rfl
  · exact coded_err w p hs 5 (by decide) _ rfl

theorem check_no {w : World} {s : B} {aB aS aN aE : Addr} (he : PathErrs w aB aS aN aE) (hs : s.length ≤ 1000000) (h : pathOk s = false) : Calls Tryd.prog 33 #[S s] w fun e w' => e = .returned (errV aN) ∧ Ext w w' := by
  have := check_any w s aN hs he.max he.name
  rw [h] at this
  exact this

theorem splitR_eq (s : B) : splitR s = (if pathOk s then joinS (cut s).dropLast else [], if pathOk s then (cut s).getLastD [] else []) := by
  unfold splitR; cases pathOk s <;> rfl

set_option maxRecDepth 100000 in
set_option maxHeartbeats 2000000 in
theorem cleans_longA (w : World) (a b : B) (p : Nat → Addr) (hs : Sents w p) (hm : HasMax w) (h : 250 < a.length) : Calls Tryd.prog 9 #[S a, S b] w fun e w' => e = .returned (.bool true) ∧ Ext w w' := by
  have HP := Lib.hid (pathed_any w _ _ _ _ (hs.path hm))
  have hz : decide ((250 : Int) < (a.length : Int)) = true := decide_eq_true (by omega)
  clear hs hm h
  go_enter Tryd.func9, Tryd.ntmps9
  go_wp2_with fail
  refine (HP.out).mono ?_
  rintro e w1 ⟨rfl, ho⟩
  have HO1 := Lib.hid (ho)
  clear ho
  go_wp2_with fail
  go_ret
  exact ⟨rfl, HO1.out⟩

set_option maxRecDepth 100000 in
set_option maxHeartbeats 2000000 in
theorem cleans_longB (w : World) (a b : B) (p : Nat → Addr) (hs : Sents w p) (hm : HasMax w) (h : ¬ 250 < a.length) (h' : 250 < b.length) : Calls Tryd.prog 9 #[S a, S b] w fun e w' => e = .returned (.bool true) ∧ Ext w w' := by
  have HP := Lib.hid (pathed_any w _ _ _ _ (hs.path hm))
  have hz : decide ((250 : Int) < (a.length : Int)) = false := decide_eq_false (by omega)
  have hz2 : decide ((250 : Int) < (b.length : Int)) = true := decide_eq_true (by omega)
  clear h'
  clear hs hm h
  go_enter Tryd.func9, Tryd.ntmps9
  go_wp2_with fail
  refine (HP.out).mono ?_
  rintro e w1 ⟨rfl, ho⟩
  have HO1 := Lib.hid (ho)
  clear ho
  go_wp2_with fail
  go_ret
  exact ⟨rfl, HO1.out⟩

set_option maxRecDepth 100000 in
set_option maxHeartbeats 2000000 in
theorem cleans_true (w : World) (a b : B) (p : Nat → Addr) (hs : Sents w p) (hm : HasMax w) (h : ¬ 250 < a.length) (h' : ¬ 250 < b.length) (hb : pathOk a = true) : Calls Tryd.prog 9 #[S a, S b] w fun e w' => e = .returned (.bool true) ∧ Ext w w' := by
  have he : ∀ w1, Ext w w1 → PathErrs w1 (p 1) (p 2) (p 3) (p 5) := fun w1 h1 => (hs.ext h1).path (hm.ext h1)
  have HP := Lib.hid (pathed_any w _ _ _ _ (hs.path hm))
  have hz : decide ((250 : Int) < (a.length : Int)) = false := decide_eq_false (by omega)
  have hz2 : decide ((250 : Int) < (b.length : Int)) = false := decide_eq_false (by omega)
  have hi := fun w1 => isPath_any w1 a (by omega)
  rw [hb] at hi
  have HI := Lib.hid hi
  have HK := Lib.hid (fun w1 (h1 : Ext w w1) => check_ok (he w1 h1) (by omega) hb)
  have HCK := Lib.hid (fun w1 (_ : Ext w w1) => coded_nil w1)
  obtain ⟨c, hc⟩ : ∃ c, c = a ++ 47 :: b := ⟨_, rfl⟩
  have hcl1 := fun w1 (h1 : Ext w w1) => clean_is (t := (cleanR a).1) (k := (cleanR a).2) (he w1 h1) rfl
  have hjo := fun w1 (h1 : Ext w w1) => joinP_is (a := a) (b := b) (t := (cleanR c).1) (k := (cleanR c).2) (he w1 h1) (by omega) (by omega) (by rw [hc])
  have hrc1 := fun w1 => refClean_any w1 a (t := (cleanR a).1) (k := (cleanR a).2) rfl
  have hrc2 := fun w1 => refClean_any w1 c (t := (cleanR c).1) (k := (cleanR c).2) rfl
  have hco1 := fun w1 (h1 : Ext w w1) => coded_clean w1 p (hs.ext h1) a
  have hco2 := fun w1 (h1 : Ext w w1) => coded_clean w1 p (hs.ext h1) c
  have hsp := fun w1 => splitOf_any w1 a (by omega)
  have hdi := fun w1 (h1 : Ext w w1) => dir_any w1 a (by omega) (hm.ext h1)
  have hla := fun w1 (h1 : Ext w w1) => lastP_any w1 a (by omega) (hm.ext h1)
  rw [splitR_eq] at hsp
  have HB := Lib.hid (show ((⟨a.toArray⟩ : ByteArray) ++ ⟨#[47]⟩ ++ ⟨b.toArray⟩) = ⟨c.toArray⟩ by
    rw [show (⟨#[47]⟩ : ByteArray) = ⟨([47] : B).toArray⟩ from rfl, ba_cat, ba_cat, hc]; simp)
  obtain ⟨x, hx⟩ : ∃ x, x = (cleanR a).1 := ⟨_, rfl⟩
  obtain ⟨k1, hk1⟩ : ∃ k1, k1 = (cleanR a).2 := ⟨_, rfl⟩
  obtain ⟨y, hy⟩ : ∃ y, y = (cleanR c).1 := ⟨_, rfl⟩
  obtain ⟨k2, hk2⟩ : ∃ k2, k2 = (cleanR c).2 := ⟨_, rfl⟩
  obtain ⟨E1, hE1⟩ : ∃ E1, E1 = cleanErr (p 1) (p 2) (p 3) (p 5) k1 := ⟨_, rfl⟩
  obtain ⟨E2, hE2⟩ : ∃ E2, E2 = cleanErr (p 1) (p 2) (p 3) (p 5) k2 := ⟨_, rfl⟩
  obtain ⟨D, hD⟩ : ∃ D, D = (if pathOk a then joinS (cut a).dropLast else []) := ⟨_, rfl⟩
  obtain ⟨Z, hZ⟩ : ∃ Z, Z = (if pathOk a then (cut a).getLastD [] else []) := ⟨_, rfl⟩
  rw [← hx, ← hk1, ← hE1] at hcl1
  rw [← hy, ← hk2, ← hE2] at hjo
  rw [← hx, ← hk1] at hrc1
  rw [← hy, ← hk2] at hrc2
  rw [← hk1, ← hE1] at hco1
  rw [← hk2, ← hE2] at hco2
  rw [← hD, ← hZ] at hsp
  rw [← hD] at hdi
  rw [← hZ] at hla
  have HCL1 := Lib.hid hcl1
  have HJO := Lib.hid hjo
  have HRC1 := Lib.hid hrc1
  have HRC2 := Lib.hid hrc2
  have HCO1 := Lib.hid hco1
  have HCO2 := Lib.hid hco2
  have HSP := Lib.hid hsp
  have HDI := Lib.hid hdi
  have HLA := Lib.hid hla
  have z1 : (x != x) = false := by simp
  have z2 : (y != y) = false := by simp
  have z3 : (D == D) = true := by simp
  have z4 : (Z == Z) = true := by simp
  have al : a.length ≤ 250 := by omega
  have bl : b.length ≤ 250 := by omega
  have q1 : ¬ 9223372036854775807 < a.length + 1 := by omega
  have q2 : ¬ 9223372036854775807 < a.length + 1 + b.length := by omega
  clear hi hcl1 hjo hrc1 hrc2 hco1 hco2 hsp hdi hla hx hk1 hy hk2 hE1 hE2 hD hZ hc hb h h' hs hm he
  go_enter Tryd.func9, Tryd.ntmps9
  go_wp2_with fail
  refine (HP.out).mono ?_
  rintro e w1 ⟨rfl, ho⟩
  have HO1 := Lib.hid (ho)
  clear ho
  go_wp2_with fail
  refine (HI.out _).mono ?_
  rintro e w2 ⟨rfl, ho⟩
  have HO2 := Lib.hid (HO1.out.ext ho)
  clear ho
  go_wp2_with fail
  refine (HCL1.out _ HO2.out).mono ?_
  rintro e w3 ⟨rfl, ho⟩
  have HO3 := Lib.hid (HO2.out.ext ho)
  clear ho
  go_wp2_with fail
  refine (HJO.out _ HO3.out).mono ?_
  rintro e w4 ⟨rfl, ho⟩
  have HO4 := Lib.hid (HO3.out.ext ho)
  clear ho
  go_wp2_with fail
  refine (HRC1.out _).mono ?_
  rintro e w5 ⟨rfl, ho⟩
  have HO5 := Lib.hid (HO4.out.ext ho)
  clear ho
  go_wp2_with fail
  rw [HB.out]
  refine (HRC2.out _).mono ?_
  rintro e w6 ⟨rfl, ho⟩
  have HO6 := Lib.hid (HO5.out.ext ho)
  clear ho
  go_wp2_with fail
  refine (HK.out _ HO6.out).mono ?_
  rintro e w7 ⟨rfl, ho⟩
  have HO7 := Lib.hid (HO6.out.ext ho)
  clear ho
  go_wp2_with fail
  refine (HCK.out _ HO7.out).mono ?_
  rintro e w8 ⟨rfl, ho⟩
  have HO8 := Lib.hid (HO7.out.ext ho)
  clear ho
  go_wp2_with fail
  refine (HCO1.out _ HO8.out).mono ?_
  rintro e w9 ⟨rfl, ho⟩
  have HO9 := Lib.hid (HO8.out.ext ho)
  clear ho
  go_wp2_with fail
  refine (HCO2.out _ HO9.out).mono ?_
  rintro e w10 ⟨rfl, ho⟩
  have HO10 := Lib.hid (HO9.out.ext ho)
  clear ho
  go_wp2_with fail
  refine (HSP.out _).mono ?_
  rintro e w11 ⟨rfl, ho⟩
  have HO11 := Lib.hid (HO10.out.ext ho)
  clear ho
  go_wp2_with fail
  refine (HDI.out _ HO11.out).mono ?_
  rintro e w12 ⟨rfl, ho⟩
  have HO12 := Lib.hid (HO11.out.ext ho)
  clear ho
  go_wp2_with fail
  refine (HLA.out _ HO12.out).mono ?_
  rintro e w13 ⟨rfl, ho⟩
  have HO13 := Lib.hid (HO12.out.ext ho)
  clear ho
  go_wp2_with fail
  go_ret
  exact ⟨rfl, HO13.out⟩

set_option maxRecDepth 100000 in
set_option maxHeartbeats 2000000 in
theorem cleans_false (w : World) (a b : B) (p : Nat → Addr) (hs : Sents w p) (hm : HasMax w) (h : ¬ 250 < a.length) (h' : ¬ 250 < b.length) (hb : pathOk a = false) : Calls Tryd.prog 9 #[S a, S b] w fun e w' => e = .returned (.bool true) ∧ Ext w w' := by
  have he : ∀ w1, Ext w w1 → PathErrs w1 (p 1) (p 2) (p 3) (p 5) := fun w1 h1 => (hs.ext h1).path (hm.ext h1)
  have HP := Lib.hid (pathed_any w _ _ _ _ (hs.path hm))
  have hz : decide ((250 : Int) < (a.length : Int)) = false := decide_eq_false (by omega)
  have hz2 : decide ((250 : Int) < (b.length : Int)) = false := decide_eq_false (by omega)
  have hi := fun w1 => isPath_any w1 a (by omega)
  rw [hb] at hi
  have HI := Lib.hid hi
  have HK := Lib.hid (fun w1 (h1 : Ext w w1) => check_no (he w1 h1) (by omega) hb)
  have HCK := Lib.hid (fun w1 (h1 : Ext w w1) => coded_err w1 p (hs.ext h1) 3 (by decide) 4 rfl)
  obtain ⟨c, hc⟩ : ∃ c, c = a ++ 47 :: b := ⟨_, rfl⟩
  have hcl1 := fun w1 (h1 : Ext w w1) => clean_is (t := (cleanR a).1) (k := (cleanR a).2) (he w1 h1) rfl
  have hjo := fun w1 (h1 : Ext w w1) => joinP_is (a := a) (b := b) (t := (cleanR c).1) (k := (cleanR c).2) (he w1 h1) (by omega) (by omega) (by rw [hc])
  have hrc1 := fun w1 => refClean_any w1 a (t := (cleanR a).1) (k := (cleanR a).2) rfl
  have hrc2 := fun w1 => refClean_any w1 c (t := (cleanR c).1) (k := (cleanR c).2) rfl
  have hco1 := fun w1 (h1 : Ext w w1) => coded_clean w1 p (hs.ext h1) a
  have hco2 := fun w1 (h1 : Ext w w1) => coded_clean w1 p (hs.ext h1) c
  have hsp := fun w1 => splitOf_any w1 a (by omega)
  have hdi := fun w1 (h1 : Ext w w1) => dir_any w1 a (by omega) (hm.ext h1)
  have hla := fun w1 (h1 : Ext w w1) => lastP_any w1 a (by omega) (hm.ext h1)
  rw [splitR_eq] at hsp
  have HB := Lib.hid (show ((⟨a.toArray⟩ : ByteArray) ++ ⟨#[47]⟩ ++ ⟨b.toArray⟩) = ⟨c.toArray⟩ by
    rw [show (⟨#[47]⟩ : ByteArray) = ⟨([47] : B).toArray⟩ from rfl, ba_cat, ba_cat, hc]; simp)
  obtain ⟨x, hx⟩ : ∃ x, x = (cleanR a).1 := ⟨_, rfl⟩
  obtain ⟨k1, hk1⟩ : ∃ k1, k1 = (cleanR a).2 := ⟨_, rfl⟩
  obtain ⟨y, hy⟩ : ∃ y, y = (cleanR c).1 := ⟨_, rfl⟩
  obtain ⟨k2, hk2⟩ : ∃ k2, k2 = (cleanR c).2 := ⟨_, rfl⟩
  obtain ⟨E1, hE1⟩ : ∃ E1, E1 = cleanErr (p 1) (p 2) (p 3) (p 5) k1 := ⟨_, rfl⟩
  obtain ⟨E2, hE2⟩ : ∃ E2, E2 = cleanErr (p 1) (p 2) (p 3) (p 5) k2 := ⟨_, rfl⟩
  obtain ⟨D, hD⟩ : ∃ D, D = (if pathOk a then joinS (cut a).dropLast else []) := ⟨_, rfl⟩
  obtain ⟨Z, hZ⟩ : ∃ Z, Z = (if pathOk a then (cut a).getLastD [] else []) := ⟨_, rfl⟩
  rw [← hx, ← hk1, ← hE1] at hcl1
  rw [← hy, ← hk2, ← hE2] at hjo
  rw [← hx, ← hk1] at hrc1
  rw [← hy, ← hk2] at hrc2
  rw [← hk1, ← hE1] at hco1
  rw [← hk2, ← hE2] at hco2
  rw [← hD, ← hZ] at hsp
  rw [← hD] at hdi
  rw [← hZ] at hla
  have HCL1 := Lib.hid hcl1
  have HJO := Lib.hid hjo
  have HRC1 := Lib.hid hrc1
  have HRC2 := Lib.hid hrc2
  have HCO1 := Lib.hid hco1
  have HCO2 := Lib.hid hco2
  have HSP := Lib.hid hsp
  have HDI := Lib.hid hdi
  have HLA := Lib.hid hla
  have z1 : (x != x) = false := by simp
  have z2 : (y != y) = false := by simp
  have z3 : (D == D) = true := by simp
  have z4 : (Z == Z) = true := by simp
  have al : a.length ≤ 250 := by omega
  have bl : b.length ≤ 250 := by omega
  have q1 : ¬ 9223372036854775807 < a.length + 1 := by omega
  have q2 : ¬ 9223372036854775807 < a.length + 1 + b.length := by omega
  clear hi hcl1 hjo hrc1 hrc2 hco1 hco2 hsp hdi hla hx hk1 hy hk2 hE1 hE2 hD hZ hc hb h h' hs hm he
  go_enter Tryd.func9, Tryd.ntmps9
  go_wp2_with fail
  refine (HP.out).mono ?_
  rintro e w1 ⟨rfl, ho⟩
  have HO1 := Lib.hid (ho)
  clear ho
  go_wp2_with fail
  refine (HI.out _).mono ?_
  rintro e w2 ⟨rfl, ho⟩
  have HO2 := Lib.hid (HO1.out.ext ho)
  clear ho
  go_wp2_with fail
  refine (HCL1.out _ HO2.out).mono ?_
  rintro e w3 ⟨rfl, ho⟩
  have HO3 := Lib.hid (HO2.out.ext ho)
  clear ho
  go_wp2_with fail
  refine (HJO.out _ HO3.out).mono ?_
  rintro e w4 ⟨rfl, ho⟩
  have HO4 := Lib.hid (HO3.out.ext ho)
  clear ho
  go_wp2_with fail
  refine (HRC1.out _).mono ?_
  rintro e w5 ⟨rfl, ho⟩
  have HO5 := Lib.hid (HO4.out.ext ho)
  clear ho
  go_wp2_with fail
  rw [HB.out]
  refine (HRC2.out _).mono ?_
  rintro e w6 ⟨rfl, ho⟩
  have HO6 := Lib.hid (HO5.out.ext ho)
  clear ho
  go_wp2_with fail
  refine (HK.out _ HO6.out).mono ?_
  rintro e w7 ⟨rfl, ho⟩
  have HO7 := Lib.hid (HO6.out.ext ho)
  clear ho
  go_wp2_with fail
  refine (HCK.out _ HO7.out).mono ?_
  rintro e w8 ⟨rfl, ho⟩
  have HO8 := Lib.hid (HO7.out.ext ho)
  clear ho
  go_wp2_with fail
  refine (HCO1.out _ HO8.out).mono ?_
  rintro e w9 ⟨rfl, ho⟩
  have HO9 := Lib.hid (HO8.out.ext ho)
  clear ho
  go_wp2_with fail
  refine (HCO2.out _ HO9.out).mono ?_
  rintro e w10 ⟨rfl, ho⟩
  have HO10 := Lib.hid (HO9.out.ext ho)
  clear ho
  go_wp2_with fail
  refine (HSP.out _).mono ?_
  rintro e w11 ⟨rfl, ho⟩
  have HO11 := Lib.hid (HO10.out.ext ho)
  clear ho
  go_wp2_with fail
  refine (HDI.out _ HO11.out).mono ?_
  rintro e w12 ⟨rfl, ho⟩
  have HO12 := Lib.hid (HO11.out.ext ho)
  clear ho
  go_wp2_with fail
  refine (HLA.out _ HO12.out).mono ?_
  rintro e w13 ⟨rfl, ho⟩
  have HO13 := Lib.hid (HO12.out.ext ho)
  clear ho
  go_wp2_with fail
  go_ret
  exact ⟨rfl, HO13.out⟩

theorem walkPathCleans (w : World) (a b : B) (p : Nat → Addr) (hs : Sents w p) (hm : HasMax w) : Calls Tryd.prog 9 #[S a, S b] w fun e w' => e = .returned (.bool true) ∧ Ext w w' := by
  by_cases h : 250 < a.length
  · exact cleans_longA w a b p hs hm h
  by_cases h' : 250 < b.length
  · exact cleans_longB w a b p hs hm h h'
  cases hb : pathOk a with
  | true => exact cleans_true w a b p hs hm h h' hb
  | false => exact cleans_false w a b p hs hm h h' hb
end Go.Proofs.YtnmhaipjfpongaaDoor

/- PathStars: plain laws of patterns, and what it runs. No condition but lengths, and what the variables hold. (Printed by gen_t2.py.) -/
import Derived.Test.YtnmhaipjfpongaaDoorT1
import Derived.Test.YtnmhaipjfpongaaDoorR6
import Derived.Test.YtnmhaipjfpongaaDoorQ9
namespace Go.Proofs.YtnmhaipjfpongaaDoor
open Go.ChangeShapes Go.WideShapes Go.ChangeAt Go.RowKit

/-! ### plain laws -/
theorem byteOk_mono {c : UInt8} (h : byteOk false c = true) : byteOk true c = true := by
  unfold byteOk at *; simp at h; simp [h]
theorem byteOk_star {c : UInt8} (h : byteOk false c = true) : c ≠ 42 := by
  intro e; subst e; revert h; decide
theorem nameOk_mono {s : B} (h : nameOk false s = true) : nameOk true s = true := by
  have h4 := nameOk_all h
  unfold nameOk at h ⊢
  simp only [Bool.and_eq_true, List.all_eq_true] at h ⊢
  exact ⟨h.1, fun c hc => byteOk_mono (h4 c hc)⟩
theorem partsOk_mono {l : List B} (h : partsOk false l = true) : partsOk true l = true := partsOk_mk (partsOk_len h) fun x hx => nameOk_mono (partsOk_all h x hx)
theorem nameOk_star {s : B} (h : nameOk false s = true) : (42 : UInt8) ∉ s := fun hm => byteOk_star (nameOk_all h 42 hm) rfl
theorem nameOk_stars {s : B} (h : nameOk false s = true) : s ≠ [42, 42] := fun e => nameOk_star h (by rw [e]; exact .head _)

theorem starB_self (s : B) (h : (42 : UInt8) ∉ s) : starB s s = true := by
  induction s with
  | nil => unfold starB; rw [glob_nil]; rfl
  | cons c s ih =>
    have hc : (c == 42) = false := beq_eq_false_iff_ne.2 fun e => h (by rw [e]; exact .head _)
    have := ih (fun hm => h (.tail _ hm))
    unfold starB at *
    rw [glob_one (st := fun c => c == 42) (eq := fun c d => d == c) c s c s hc, this]
    simp

theorem starB_tail (s : B) (h : (42 : UInt8) ∉ s) : starB (s ++ [42]) s = true := by
  have := starB_self s h
  unfold starB at *
  exact (glob_snoc_star (st := fun c => c == 42) 42 rfl s s).2 ⟨s.length, Nat.le_refl _, by rw [List.take_length]; exact this⟩

theorem fitsB_self (l : List B) (h : ∀ x ∈ l, nameOk false x = true) : fitsB l l = true := by
  induction l with
  | nil => unfold fitsB; rw [glob_nil]; rfl
  | cons x l ih =>
    have hx := h x (.head _)
    have hs : (x == [42, 42]) = false := beq_eq_false_iff_ne.2 (nameOk_stars hx)
    have := ih (fun y hy => h y (.tail _ hy))
    unfold fitsB at *
    rw [glob_one (st := fun x => x == [42, 42]) (eq := fun x y => starB x y) x l x l hs, this, starB_self x (nameOk_star hx)]
    rfl

theorem stars_ok : nameOk true [42, 42] = true := by decide

/-- What PathStars asks. -/
structure StarFacts (s : B) : Prop where
  self : matchOk s s = true ∧ fitsB (cut s) (cut s) = true
  any : matchOk [42, 42] s = true ∧ fitsB (cut [42, 42]) (cut s) = true
  below : (cut s).length < 5 → matchOk ([42, 42, 47] ++ s) s = true ∧ fitsB (cut ([42, 42, 47] ++ s)) (cut s) = true
  above : (cut s).length < 5 → matchOk (s ++ [47, 42, 42]) s = true ∧ fitsB (cut (s ++ [47, 42, 42])) (cut s) = true
  tail : ((cut s).getLastD []).length < 12 → matchOk (s ++ [42]) s = true ∧ fitsB (cut (s ++ [42])) (cut s) = true

theorem cut_snoc (s : B) (c : UInt8) (hc : c ≠ 47) : ∃ dl z, cut s = dl ++ [z] ∧ cut (s ++ [c]) = dl ++ [z ++ [c]] := by
  induction s with
  | nil => exact ⟨[], [], rfl, by rw [List.nil_append, cut, if_neg hc]; rfl⟩
  | cons d s ih =>
    obtain ⟨dl, z, h1, h2⟩ := ih
    rw [List.cons_append, cut, cut, h1, h2]
    by_cases hd : d = 47
    · rw [if_pos hd, if_pos hd]; exact ⟨[] :: dl, z, rfl, rfl⟩
    · rw [if_neg hd, if_neg hd]
      cases dl with
      | nil => exact ⟨[], d :: z, rfl, rfl⟩
      | cons y dl => exact ⟨(d :: y) :: dl, z, rfl, rfl⟩

theorem starFacts {s : B} (h : pathOk s = true) : StarFacts s := by
  have hp : partsOk false (cut s) = true := h
  have hl := partsOk_len hp
  have hn := partsOk_all hp
  have hm := partsOk_mono hp
  have hmk : ∀ q, partsOk true (cut q) = true → matchOk q s = true := fun q hq => by unfold matchOk; rw [hq, h]; rfl
  have h42 : cut [42, 42] = [[42, 42]] := by decide
  refine ⟨⟨hmk s hm, fitsB_self _ hn⟩, ⟨hmk _ (by rw [h42]; decide), ?_⟩, fun h5 => ?_, fun h5 => ?_, fun h12 => ?_⟩
  · rw [h42]
    unfold fitsB
    exact glob_stars_any (st := fun x => x == [42, 42]) [42, 42] rfl _
  · have hc : cut ([42, 42, 47] ++ s) = [42, 42] :: cut s := by
      rw [show ([42, 42, 47] : B) ++ s = [42, 42] ++ 47 :: s from rfl, cut_app _ _ (by decide)]
    refine ⟨hmk _ ?_, ?_⟩
    · rw [hc]
      refine partsOk_mk (by simp; omega) fun x hx => ?_
      rcases List.mem_cons.1 hx with rfl | hx
      · exact stars_ok
      · exact nameOk_mono (hn x hx)
    · rw [hc]
      have := fitsB_self _ hn
      cases hcs : cut s with
      | nil => exact absurd hcs (cut_ne s)
      | cons y ys =>
        rw [hcs] at this
        unfold fitsB at *
        rw [glob_star (st := fun x => x == [42, 42]) (eq := fun x y => starB x y) [42, 42] (y :: ys) y ys rfl, this]
        rfl
  · have hc : cut (s ++ [47, 42, 42]) = cut s ++ [[42, 42]] := by rw [cut_app_any, h42]
    refine ⟨hmk _ ?_, ?_⟩
    · rw [hc]
      refine partsOk_mk (by simp; omega) fun x hx => ?_
      rcases List.mem_append.1 hx with hx | hx
      · exact nameOk_mono (hn x hx)
      · simp at hx; subst hx; exact stars_ok
    · rw [hc]
      have := fitsB_self _ hn
      unfold fitsB at *
      exact (glob_snoc_star (st := fun x => x == [42, 42]) [42, 42] rfl _ _).2 ⟨_, Nat.le_refl _, by rw [List.take_length]; exact this⟩
  · obtain ⟨dl, z, h1, h2⟩ := cut_snoc s 42 (by decide)
    have hz : nameOk false z = true := hn z (by rw [h1]; simp)
    have hzl : z.length < 12 := by
      rw [h1, List.getLastD_eq_getLast?, List.getLast?_append] at h12
      simpa using h12
    have hzs : z ++ [42] ≠ [42, 42] := fun e => by
      have : z = [42] := by simpa using congrArg List.dropLast e
      exact nameOk_star hz (by rw [this]; exact .head _)
    have hzn : nameOk true (z ++ [42]) = true := by
      have h4 := nameOk_all hz
      have h5 := nameOk_ne hz
      unfold nameOk
      simp only [Bool.and_eq_true, bne_iff_ne, decide_eq_true_eq, List.all_eq_true]
      refine ⟨⟨⟨⟨by simp, by simp; omega⟩, fun e => ?_⟩, fun e => ?_⟩, fun c hc => ?_⟩
      · have := congrArg List.getLast? e; simp at this
      · have := congrArg List.getLast? e; simp at this
      · rcases List.mem_append.1 hc with hc | hc
        · exact byteOk_mono (h4 c hc)
        · simp at hc; subst hc; decide
    refine ⟨hmk _ ?_, ?_⟩
    · rw [h2]
      refine partsOk_mk (by rw [h1] at hl; simpa using hl) fun x hx => ?_
      rcases List.mem_append.1 hx with hx | hx
      · exact nameOk_mono (hn x (by rw [h1]; exact List.mem_append_left _ hx))
      · simp at hx; subst hx; exact hzn
    · rw [h2, h1]
      have hd := fitsB_self dl (fun x hx => hn x (by rw [h1]; exact List.mem_append_left _ hx))
      unfold fitsB at *
      rw [glob_snoc_one (st := fun x => x == [42, 42]) (eq := fun x y => starB x y) (z ++ [42]) (beq_eq_false_iff_ne.2 hzs) z dl dl, hd, starB_tail z (nameOk_star hz)]
      rfl

/-! ### the walk -/
theorem match_ok {w : World} {p s : B} {aB aS aN aE : Addr} (he : PathErrs w aB aS aN aE) (hp : p.length ≤ 999999) (hs : s.length ≤ 999999) (h : matchOk p s = true ∧ fitsB (cut p) (cut s) = true) :
    Calls Tryd.prog 37 #[S p, S s] w fun e w' => e = .returned (.tuple #[.bool true, .nilIface]) ∧ Ext w w' := by
  have := match_any w p s aN hp hs he.max he.name
  unfold MatchIs at this
  rw [h.1, h.2] at this
  exact this

theorem check_bad {w : World} {s : B} {aB aS aN aE : Addr} (he : PathErrs w aB aS aN aE) (hs : s.length ≤ 1000000) (h : pathOk s = false) : Calls Tryd.prog 33 #[S s] w fun e w' => e = .returned (errV aN) ∧ Ext w w' := by
  have := check_any w s aN hs he.max he.name
  rw [h] at this
  exact this

set_option maxRecDepth 100000 in
set_option maxHeartbeats 2000000 in
theorem stars_long (w : World) (s : B) (aB aS aN aE : Addr) (he : PathErrs w aB aS aN aE) (h : 100 < s.length) : Calls Tryd.prog 8 #[S s] w fun e w' => e = .returned (.bool true) ∧ Ext w w' := by
  have HP := Lib.hid (pathed_any w aB aS aN aE he)
  have hz : decide ((100 : Int) < (s.length : Int)) = true := decide_eq_true (by omega)
  clear he h
  go_enter Tryd.func8, Tryd.ntmps8
  go_wp2_with fail
  refine (HP.out).mono ?_
  rintro e w1 ⟨rfl, ho⟩
  have HO1 := Lib.hid (ho)
  clear ho
  go_wp2_with fail
  go_ret
  exact ⟨rfl, HO1.out⟩

set_option maxRecDepth 100000 in
set_option maxHeartbeats 2000000 in
theorem stars_bad (w : World) (s : B) (aB aS aN aE : Addr) (he : PathErrs w aB aS aN aE) (h : ¬ 100 < s.length) (hb : pathOk s = false) : Calls Tryd.prog 8 #[S s] w fun e w' => e = .returned (.bool true) ∧ Ext w w' := by
  have HP := Lib.hid (pathed_any w aB aS aN aE he)
  have hz : decide ((100 : Int) < (s.length : Int)) = false := decide_eq_false (by omega)
  have HC := Lib.hid (fun w1 (h1 : Ext w w1) => check_bad (he.ext h1) (by omega) hb)
  clear he h hb
  go_enter Tryd.func8, Tryd.ntmps8
  go_wp2_with fail
  refine (HP.out).mono ?_
  rintro e w1 ⟨rfl, ho⟩
  have HO1 := Lib.hid (ho)
  clear ho
  go_wp2_with fail
  refine (HC.out _ HO1.out).mono ?_
  rintro e w2 ⟨rfl, ho⟩
  have HO2 := Lib.hid (HO1.out.ext ho)
  clear ho
  go_wp2_with fail
  go_ret
  exact ⟨rfl, HO2.out⟩

set_option maxRecDepth 100000 in
set_option maxHeartbeats 2000000 in
theorem stars_fs (w : World) (s : B) (aB aS aN aE : Addr) (he : PathErrs w aB aS aN aE) (h : ¬ 100 < s.length) (hb : pathOk s = true) (h5 : (cut s).length < 5) (h12 : ((cut s).getLastD []).length < 12) : Calls Tryd.prog 8 #[S s] w fun e w' => e = .returned (.bool true) ∧ Ext w w' := by
  have HP := Lib.hid (pathed_any w aB aS aN aE he)
  have hz : decide ((100 : Int) < (s.length : Int)) = false := decide_eq_false (by omega)
  have HC := Lib.hid (fun w1 (h1 : Ext w w1) => check_ok (he.ext h1) (by omega) hb)
  have HM1 := Lib.hid (fun w1 (h1 : Ext w w1) => match_ok (he.ext h1) (by omega) (by omega) (starFacts hb).self)
  have HM2 := Lib.hid (fun w1 (h1 : Ext w w1) => match_ok (he.ext h1) (by decide) (by omega) (starFacts hb).any)
  have HR := Lib.hid (fun w1 => refCut_any w1 s (by omega))
  have hla := fun w1 (h1 : Ext w w1) => lastP_any w1 s (by omega) (he.max.ext h1)
  rw [hb, if_pos rfl] at hla
  obtain ⟨z, hzz⟩ : ∃ z, z = (cut s).getLastD [] := ⟨_, rfl⟩
  rw [← hzz] at hla h12
  have HL := Lib.hid hla
  have hsl : s.length ≤ 100 := by omega
  obtain ⟨n, hn⟩ : ∃ n, n = (cut s).length := ⟨_, rfl⟩
  have h5c := h5
  rw [← hn] at h5 HR
  have HM3 := Lib.hid (fun w1 (h1 : Ext w w1) => match_ok (he.ext h1) (by simp; omega) (by omega) ((starFacts hb).below h5c))
  have HM4 := Lib.hid (fun w1 (h1 : Ext w w1) => match_ok (he.ext h1) (by simp; omega) (by omega) ((starFacts hb).above h5c))
  have hn5 : (n : Int) < 5 := by omega
  have HB3 := Lib.hid (show ((⟨#[42, 42, 47]⟩ : ByteArray) ++ ⟨s.toArray⟩) = ⟨([42, 42, 47] ++ s).toArray⟩ by rw [show (⟨#[42, 42, 47]⟩ : ByteArray) = ⟨([42, 42, 47] : B).toArray⟩ from rfl, ba_cat])
  have HB4 := Lib.hid (show ((⟨s.toArray⟩ : ByteArray) ++ ⟨#[47, 42, 42]⟩) = ⟨(s ++ [47, 42, 42]).toArray⟩ by rw [show (⟨#[47, 42, 42]⟩ : ByteArray) = ⟨([47, 42, 42] : B).toArray⟩ from rfl, ba_cat])
  have q1 : ¬ 9223372036854775807 < 3 + s.length := by omega
  have q2 : ¬ 9223372036854775807 < s.length + 3 := by omega
  have HM5 := Lib.hid (fun w1 (h1 : Ext w w1) => match_ok (he.ext h1) (by simp; omega) (by omega) ((starFacts hb).tail (by rw [← hzz]; exact h12)))
  have hz12 : ¬ ((12 : Int) ≤ (z.length : Int)) := by omega
  have HB5 := Lib.hid (show ((⟨s.toArray⟩ : ByteArray) ++ ⟨#[42]⟩) = ⟨(s ++ [42]).toArray⟩ by rw [show (⟨#[42]⟩ : ByteArray) = ⟨([42] : B).toArray⟩ from rfl, ba_cat])
  have q3 : ¬ 9223372036854775807 < s.length + 1 := by omega
  clear hb h hla hzz hn h5c
  go_enter Tryd.func8, Tryd.ntmps8
  go_wp2_with fail
  refine (HP.out).mono ?_
  rintro e w1 ⟨rfl, ho⟩
  have HO1 := Lib.hid (ho)
  clear ho
  go_wp2_with fail
  refine (HC.out _ HO1.out).mono ?_
  rintro e w2 ⟨rfl, ho⟩
  have HO2 := Lib.hid (HO1.out.ext ho)
  clear ho
  go_wp2_with fail
  refine (HM1.out _ HO2.out).mono ?_
  rintro e w3 ⟨rfl, ho⟩
  have HO3 := Lib.hid (HO2.out.ext ho)
  clear ho
  go_wp2_with fail
  refine (HM2.out _ HO3.out).mono ?_
  rintro e w4 ⟨rfl, ho⟩
  have HO4 := Lib.hid (HO3.out.ext ho)
  clear ho
  go_wp2_with fail
  refine (HR.out _).mono ?_
  rintro e w5 ⟨g, cap, rfl, _, ho⟩
  have HO5 := Lib.hid (HO4.out.ext ho)
  clear ho
  go_wp2_with fail
  rw [HB3.out]
  refine (HM3.out _ HO5.out).mono ?_
  rintro e w6 ⟨rfl, ho⟩
  have HO6 := Lib.hid (HO5.out.ext ho)
  clear ho
  go_wp2_with fail
  rw [HB4.out]
  refine (HM4.out _ HO6.out).mono ?_
  rintro e w7 ⟨rfl, ho⟩
  have HO7 := Lib.hid (HO6.out.ext ho)
  clear ho
  go_wp2_with fail
  refine (HL.out _ HO7.out).mono ?_
  rintro e w8 ⟨rfl, ho⟩
  have HO8 := Lib.hid (HO7.out.ext ho)
  clear ho
  go_wp2_with fail
  rw [HB5.out]
  refine (HM5.out _ HO8.out).mono ?_
  rintro e w9 ⟨rfl, ho⟩
  have HO9 := Lib.hid (HO8.out.ext ho)
  clear ho
  go_wp2_with fail
  go_ret
  exact ⟨rfl, HO9.out⟩

set_option maxRecDepth 100000 in
set_option maxHeartbeats 2000000 in
theorem stars_fl (w : World) (s : B) (aB aS aN aE : Addr) (he : PathErrs w aB aS aN aE) (h : ¬ 100 < s.length) (hb : pathOk s = true) (h5 : (cut s).length < 5) (h12 : ¬ ((cut s).getLastD []).length < 12) : Calls Tryd.prog 8 #[S s] w fun e w' => e = .returned (.bool true) ∧ Ext w w' := by
  have HP := Lib.hid (pathed_any w aB aS aN aE he)
  have hz : decide ((100 : Int) < (s.length : Int)) = false := decide_eq_false (by omega)
  have HC := Lib.hid (fun w1 (h1 : Ext w w1) => check_ok (he.ext h1) (by omega) hb)
  have HM1 := Lib.hid (fun w1 (h1 : Ext w w1) => match_ok (he.ext h1) (by omega) (by omega) (starFacts hb).self)
  have HM2 := Lib.hid (fun w1 (h1 : Ext w w1) => match_ok (he.ext h1) (by decide) (by omega) (starFacts hb).any)
  have HR := Lib.hid (fun w1 => refCut_any w1 s (by omega))
  have hla := fun w1 (h1 : Ext w w1) => lastP_any w1 s (by omega) (he.max.ext h1)
  rw [hb, if_pos rfl] at hla
  obtain ⟨z, hzz⟩ : ∃ z, z = (cut s).getLastD [] := ⟨_, rfl⟩
  rw [← hzz] at hla h12
  have HL := Lib.hid hla
  have hsl : s.length ≤ 100 := by omega
  obtain ⟨n, hn⟩ : ∃ n, n = (cut s).length := ⟨_, rfl⟩
  have h5c := h5
  rw [← hn] at h5 HR
  have HM3 := Lib.hid (fun w1 (h1 : Ext w w1) => match_ok (he.ext h1) (by simp; omega) (by omega) ((starFacts hb).below h5c))
  have HM4 := Lib.hid (fun w1 (h1 : Ext w w1) => match_ok (he.ext h1) (by simp; omega) (by omega) ((starFacts hb).above h5c))
  have hn5 : (n : Int) < 5 := by omega
  have HB3 := Lib.hid (show ((⟨#[42, 42, 47]⟩ : ByteArray) ++ ⟨s.toArray⟩) = ⟨([42, 42, 47] ++ s).toArray⟩ by rw [show (⟨#[42, 42, 47]⟩ : ByteArray) = ⟨([42, 42, 47] : B).toArray⟩ from rfl, ba_cat])
  have HB4 := Lib.hid (show ((⟨s.toArray⟩ : ByteArray) ++ ⟨#[47, 42, 42]⟩) = ⟨(s ++ [47, 42, 42]).toArray⟩ by rw [show (⟨#[47, 42, 42]⟩ : ByteArray) = ⟨([47, 42, 42] : B).toArray⟩ from rfl, ba_cat])
  have q1 : ¬ 9223372036854775807 < 3 + s.length := by omega
  have q2 : ¬ 9223372036854775807 < s.length + 3 := by omega
  have hz12 : (12 : Int) ≤ (z.length : Int) := by omega
  clear hb h hla hzz hn h5c
  go_enter Tryd.func8, Tryd.ntmps8
  go_wp2_with fail
  refine (HP.out).mono ?_
  rintro e w1 ⟨rfl, ho⟩
  have HO1 := Lib.hid (ho)
  clear ho
  go_wp2_with fail
  refine (HC.out _ HO1.out).mono ?_
  rintro e w2 ⟨rfl, ho⟩
  have HO2 := Lib.hid (HO1.out.ext ho)
  clear ho
  go_wp2_with fail
  refine (HM1.out _ HO2.out).mono ?_
  rintro e w3 ⟨rfl, ho⟩
  have HO3 := Lib.hid (HO2.out.ext ho)
  clear ho
  go_wp2_with fail
  refine (HM2.out _ HO3.out).mono ?_
  rintro e w4 ⟨rfl, ho⟩
  have HO4 := Lib.hid (HO3.out.ext ho)
  clear ho
  go_wp2_with fail
  refine (HR.out _).mono ?_
  rintro e w5 ⟨g, cap, rfl, _, ho⟩
  have HO5 := Lib.hid (HO4.out.ext ho)
  clear ho
  go_wp2_with fail
  rw [HB3.out]
  refine (HM3.out _ HO5.out).mono ?_
  rintro e w6 ⟨rfl, ho⟩
  have HO6 := Lib.hid (HO5.out.ext ho)
  clear ho
  go_wp2_with fail
  rw [HB4.out]
  refine (HM4.out _ HO6.out).mono ?_
  rintro e w7 ⟨rfl, ho⟩
  have HO7 := Lib.hid (HO6.out.ext ho)
  clear ho
  go_wp2_with fail
  refine (HL.out _ HO7.out).mono ?_
  rintro e w8 ⟨rfl, ho⟩
  have HO8 := Lib.hid (HO7.out.ext ho)
  clear ho
  go_wp2_with fail
  go_ret
  exact ⟨rfl, HO8.out⟩

set_option maxRecDepth 100000 in
set_option maxHeartbeats 2000000 in
theorem stars_ms (w : World) (s : B) (aB aS aN aE : Addr) (he : PathErrs w aB aS aN aE) (h : ¬ 100 < s.length) (hb : pathOk s = true) (h5 : ¬ (cut s).length < 5) (h12 : ((cut s).getLastD []).length < 12) : Calls Tryd.prog 8 #[S s] w fun e w' => e = .returned (.bool true) ∧ Ext w w' := by
  have HP := Lib.hid (pathed_any w aB aS aN aE he)
  have hz : decide ((100 : Int) < (s.length : Int)) = false := decide_eq_false (by omega)
  have HC := Lib.hid (fun w1 (h1 : Ext w w1) => check_ok (he.ext h1) (by omega) hb)
  have HM1 := Lib.hid (fun w1 (h1 : Ext w w1) => match_ok (he.ext h1) (by omega) (by omega) (starFacts hb).self)
  have HM2 := Lib.hid (fun w1 (h1 : Ext w w1) => match_ok (he.ext h1) (by decide) (by omega) (starFacts hb).any)
  have HR := Lib.hid (fun w1 => refCut_any w1 s (by omega))
  have hla := fun w1 (h1 : Ext w w1) => lastP_any w1 s (by omega) (he.max.ext h1)
  rw [hb, if_pos rfl] at hla
  obtain ⟨z, hzz⟩ : ∃ z, z = (cut s).getLastD [] := ⟨_, rfl⟩
  rw [← hzz] at hla h12
  have HL := Lib.hid hla
  have hsl : s.length ≤ 100 := by omega
  obtain ⟨n, hn⟩ : ∃ n, n = (cut s).length := ⟨_, rfl⟩
  have h5c := h5
  rw [← hn] at h5 HR
  have hn5 : ¬ ((n : Int) < 5) := by omega
  have HM5 := Lib.hid (fun w1 (h1 : Ext w w1) => match_ok (he.ext h1) (by simp; omega) (by omega) ((starFacts hb).tail (by rw [← hzz]; exact h12)))
  have hz12 : ¬ ((12 : Int) ≤ (z.length : Int)) := by omega
  have HB5 := Lib.hid (show ((⟨s.toArray⟩ : ByteArray) ++ ⟨#[42]⟩) = ⟨(s ++ [42]).toArray⟩ by rw [show (⟨#[42]⟩ : ByteArray) = ⟨([42] : B).toArray⟩ from rfl, ba_cat])
  have q3 : ¬ 9223372036854775807 < s.length + 1 := by omega
  clear hb h hla hzz hn h5c
  go_enter Tryd.func8, Tryd.ntmps8
  go_wp2_with fail
  refine (HP.out).mono ?_
  rintro e w1 ⟨rfl, ho⟩
  have HO1 := Lib.hid (ho)
  clear ho
  go_wp2_with fail
  refine (HC.out _ HO1.out).mono ?_
  rintro e w2 ⟨rfl, ho⟩
  have HO2 := Lib.hid (HO1.out.ext ho)
  clear ho
  go_wp2_with fail
  refine (HM1.out _ HO2.out).mono ?_
  rintro e w3 ⟨rfl, ho⟩
  have HO3 := Lib.hid (HO2.out.ext ho)
  clear ho
  go_wp2_with fail
  refine (HM2.out _ HO3.out).mono ?_
  rintro e w4 ⟨rfl, ho⟩
  have HO4 := Lib.hid (HO3.out.ext ho)
  clear ho
  go_wp2_with fail
  refine (HR.out _).mono ?_
  rintro e w5 ⟨g, cap, rfl, _, ho⟩
  have HO5 := Lib.hid (HO4.out.ext ho)
  clear ho
  go_wp2_with fail
  refine (HL.out _ HO5.out).mono ?_
  rintro e w6 ⟨rfl, ho⟩
  have HO6 := Lib.hid (HO5.out.ext ho)
  clear ho
  go_wp2_with fail
  rw [HB5.out]
  refine (HM5.out _ HO6.out).mono ?_
  rintro e w7 ⟨rfl, ho⟩
  have HO7 := Lib.hid (HO6.out.ext ho)
  clear ho
  go_wp2_with fail
  go_ret
  exact ⟨rfl, HO7.out⟩

set_option maxRecDepth 100000 in
set_option maxHeartbeats 2000000 in
theorem stars_ml (w : World) (s : B) (aB aS aN aE : Addr) (he : PathErrs w aB aS aN aE) (h : ¬ 100 < s.length) (hb : pathOk s = true) (h5 : ¬ (cut s).length < 5) (h12 : ¬ ((cut s).getLastD []).length < 12) : Calls Tryd.prog 8 #[S s] w fun e w' => e = .returned (.bool true) ∧ Ext w w' := by
  have HP := Lib.hid (pathed_any w aB aS aN aE he)
  have hz : decide ((100 : Int) < (s.length : Int)) = false := decide_eq_false (by omega)
  have HC := Lib.hid (fun w1 (h1 : Ext w w1) => check_ok (he.ext h1) (by omega) hb)
  have HM1 := Lib.hid (fun w1 (h1 : Ext w w1) => match_ok (he.ext h1) (by omega) (by omega) (starFacts hb).self)
  have HM2 := Lib.hid (fun w1 (h1 : Ext w w1) => match_ok (he.ext h1) (by decide) (by omega) (starFacts hb).any)
  have HR := Lib.hid (fun w1 => refCut_any w1 s (by omega))
  have hla := fun w1 (h1 : Ext w w1) => lastP_any w1 s (by omega) (he.max.ext h1)
  rw [hb, if_pos rfl] at hla
  obtain ⟨z, hzz⟩ : ∃ z, z = (cut s).getLastD [] := ⟨_, rfl⟩
  rw [← hzz] at hla h12
  have HL := Lib.hid hla
  have hsl : s.length ≤ 100 := by omega
  obtain ⟨n, hn⟩ : ∃ n, n = (cut s).length := ⟨_, rfl⟩
  have h5c := h5
  rw [← hn] at h5 HR
  have hn5 : ¬ ((n : Int) < 5) := by omega
  have hz12 : (12 : Int) ≤ (z.length : Int) := by omega
  clear hb h hla hzz hn h5c
  go_enter Tryd.func8, Tryd.ntmps8
  go_wp2_with fail
  refine (HP.out).mono ?_
  rintro e w1 ⟨rfl, ho⟩
  have HO1 := Lib.hid (ho)
  clear ho
  go_wp2_with fail
  refine (HC.out _ HO1.out).mono ?_
  rintro e w2 ⟨rfl, ho⟩
  have HO2 := Lib.hid (HO1.out.ext ho)
  clear ho
  go_wp2_with fail
  refine (HM1.out _ HO2.out).mono ?_
  rintro e w3 ⟨rfl, ho⟩
  have HO3 := Lib.hid (HO2.out.ext ho)
  clear ho
  go_wp2_with fail
  refine (HM2.out _ HO3.out).mono ?_
  rintro e w4 ⟨rfl, ho⟩
  have HO4 := Lib.hid (HO3.out.ext ho)
  clear ho
  go_wp2_with fail
  refine (HR.out _).mono ?_
  rintro e w5 ⟨g, cap, rfl, _, ho⟩
  have HO5 := Lib.hid (HO4.out.ext ho)
  clear ho
  go_wp2_with fail
  refine (HL.out _ HO5.out).mono ?_
  rintro e w6 ⟨rfl, ho⟩
  have HO6 := Lib.hid (HO5.out.ext ho)
  clear ho
  go_wp2_with fail
  go_ret
  exact ⟨rfl, HO6.out⟩

theorem walkPathStars (w : World) (s : B) (aB aS aN aE : Addr) (he : PathErrs w aB aS aN aE) : Calls Tryd.prog 8 #[S s] w fun e w' => e = .returned (.bool true) ∧ Ext w w' := by
  by_cases h : 100 < s.length
  · exact stars_long w s aB aS aN aE he h
  cases hb : pathOk s with
  | false => exact stars_bad w s aB aS aN aE he h hb
  | true =>
    by_cases h5 : (cut s).length < 5 <;> by_cases h12 : ((cut s).getLastD []).length < 12
    · exact stars_fs w s aB aS aN aE he h hb h5 h12
    · exact stars_fl w s aB aS aN aE he h hb h5 h12
    · exact stars_ms w s aB aS aN aE he h hb h5 h12
    · exact stars_ml w s aB aS aN aE he h hb h5 h12
end Go.Proofs.YtnmhaipjfpongaaDoor

/- The reference's ActOf; ActRuns' walk: any command. No condition but lengths, and what the variables hold. -/
import Derived.Test.YtnmhaipjfpongacGreatDoorF15x
import Derived.Test.YtnmhaipjfpongacGreatDoorJ0x
import Derived.Test.YtnmhaipjfpongacGreatDoorGh
import Derived.Test.YtnmhaipjfpongacGreatDoorY2x
namespace Go.Proofs.YtnmhaipjfpongacGreatDoor
open Go.ChangeShapes Go.WideShapes Go.ChangeAt Go.RowKit

theorem repl_len (p q : B) (hp : p ≠ []) : ∀ (n : Nat) (s : B), s.length ≤ n → (Lib.replaceAll s p q).length ≤ s.length * (1 + q.length)
  | 0, s, h => by
    rw [List.length_eq_zero_iff.1 (Nat.le_zero.1 h), repl_nil hp]
    simp
  | n + 1, [], _ => by rw [repl_nil hp]; simp
  | n + 1, c :: r, h => by
    have hp1 : 1 ≤ p.length := List.length_pos_iff.2 hp
    cases hh : p.isPrefixOf (c :: r) with
    | true =>
      rw [repl_here hp hh, List.length_append]
      have hle : ((c :: r).drop p.length).length ≤ r.length := by rw [List.length_drop, List.length_cons]; omega
      have h1 := repl_len p q hp n ((c :: r).drop p.length) (by simp at h; omega)
      have h2 : ((c :: r).drop p.length).length * (1 + q.length) ≤ r.length * (1 + q.length) := Nat.mul_le_mul_right _ hle
      have h3 : (c :: r).length * (1 + q.length) = r.length * (1 + q.length) + (1 + q.length) := by rw [List.length_cons, Nat.succ_mul]
      omega
    | false =>
      rw [repl_skip hp hh, List.length_cons]
      have h1 := repl_len p q hp n r (by simpa using h)
      have h3 : (c :: r).length * (1 + q.length) = r.length * (1 + q.length) + (1 + q.length) := by rw [List.length_cons, Nat.succ_mul]
      omega

theorem refMade_any (w : World) (k : Kd) (wd : B) (l : List B) (v : Value) (hk : k ≠ .write) (hv : Rd S w v l) (hb : sumLen l + l.length ≤ 900000) (hw : wd.length ≤ 1000) (h1 : k.least ≤ l.length) (h2 : k.word wd = true) :
    Calls Tryz.prog 171 #[S k.name, S wd, v] w (RetE (S (k.run wd l)) w) := by
  have hx : ∀ x r, l = x :: r → x.length ≤ 900000 := fun x r e => by subst e; rw [sum_cons] at hb; omega
  have he := kdIs k
  cases k with
  | write => exact absurd rfl hk
  | join => exact made_join w _ wd l v he hv h1 hb hw
  | sort => exact made_sort w _ wd l v he hv hb (by
      have h3 : (wd == [] || wd == [111, 110, 99, 101]) = true := h2
      rw [Bool.or_eq_true, beq_iff_eq, beq_iff_eq] at h3
      exact h3)
  | count => exact made_count w _ wd l v he hv hb
  | upper =>
    cases l with
    | nil => simp [Kd.least] at h1
    | cons x r => exact made_upper w _ wd x r v he hv (hx x r rfl)
  | lines =>
    cases l with
    | nil => simp [Kd.least] at h1
    | cons x r => exact made_lines w _ wd x r v he hv (hx x r rfl) hw
  | swap =>
    cases l with
    | nil => simp [Kd.least] at h1
    | cons x r =>
      have hxl := hx x r rfl
      refine made_swap w _ wd x r v he hv hxl hw h2 ?_
      have h3 := repl_len (cut1 61 wd).1 (cut1 61 wd).2.1 (pair_cut h2) x.length x (Nat.le_refl _)
      have h4 := (cut1_len 61 wd).2
      have h5 : x.length * (1 + (cut1 61 wd).2.1.length) ≤ 900000 * 1001 := Nat.mul_le_mul hxl (by omega)
      omega
  | head =>
    cases l with
    | nil => simp [Kd.least] at h1
    | cons x r =>
      obtain ⟨n, hn⟩ := Option.isSome_iff_exists.1 h2
      have := made_head w _ wd x r v n he hv (hx x r rfl) hw hn
      show Calls _ _ _ _ (RetE (S (endedB ((linesB x).take ((numB 3 wd).getD 0)))) w)
      rw [hn]
      exact this

set_option maxRecDepth 100000 in
set_option maxHeartbeats 2000000 in
theorem actOf_any (w : World) (name wd : B) (l : List B) (v : Value) (hv : Rd S w v l) (hb : sumLen l + l.length ≤ 900000) (hw : wd.length ≤ 1000) :
    Calls Tryz.prog 97 #[S name, S wd, v] w (RetE (.tuple #[S (runOut name wd l), I (runCode name wd l)]) w) := by
  have HE := Lib.hid (actError_any w name wd l.length (by omega))
  cases hc : actCode name wd l.length with
  | succ c =>
    have e1 : runCode name wd l = c + 1 := by unfold runCode; rw [hc, if_neg (Nat.succ_ne_zero _)]
    have e2 : runOut name wd l = [] := by unfold runOut; rw [e1, if_neg (Nat.succ_ne_zero _)]
    rw [e1, e2]
    rw [hc] at HE
    obtain ⟨a, cap, rfl, _, _, _⟩ := hv
    have hcz : (0 : Int) < ((c + 1 : Nat) : Int) := by omega
    generalize ((c + 1 : Nat) : Int) = z at *
    clear e1 e2 hc hb hw
    go_enter Tryz.func97, Tryz.ntmps97
    go_wp2_with fail
    refine (HE.out).mono ?_
    rintro e w1 ⟨rfl, ho⟩
    have HO := Lib.hid ho
    clear ho
    go_wp2_with fail
    go_ret2
    exact ⟨rfl, HO.out⟩
  | zero =>
    obtain ⟨k, hk, h1, h2, h3⟩ := actCode_ok hc
    obtain rfl := kind_name hk
    have e0 : actOut k.name wd l = k.run wd l := by unfold actOut; rw [hk]
    have e1 : runCode k.name wd l = if 2000 < (k.run wd l).length then 10 else 0 := by unfold runCode; rw [hc, if_pos rfl, e0]
    have e2 : runOut k.name wd l = if 2000 < (k.run wd l).length then [] else k.run wd l := by
      unfold runOut
      rw [e1, e0]
      by_cases h : 2000 < (k.run wd l).length
      · rw [if_pos h, if_pos h, if_neg (by decide)]
      · rw [if_neg h, if_neg h, if_pos rfl]
    rw [e1, e2]
    rw [hc] at HE
    by_cases hwr : k = .write
    · subst hwr
      show Calls _ _ _ _ (RetE (.tuple #[S (if 2000 < wd.length then [] else wd), I (if 2000 < wd.length then 10 else 0 : Nat)]) w)
      rw [if_neg (by omega), if_neg (by omega)]
      have hlz : ¬ (2000 : Int) < (wd.length : Int) := by omega
      obtain ⟨_, _, _, _, _, _, _, e8⟩ := kdIs .write
      change _ = true at e8
      obtain ⟨a, cap, rfl, _, _, _⟩ := hv
      generalize Kd.write.name = nm at *
      clear e0 e1 e2 hk h1 h2 h3 hc hb hw
      go_enter Tryz.func97, Tryz.ntmps97
      go_wp2_with fail
      refine (HE.out).mono ?_
      rintro e w1 ⟨rfl, ho⟩
      have HO := Lib.hid ho
      clear ho
      go_wp2_with fail
      go_ret2
      exact ⟨rfl, HO.out⟩
    · have HM := Lib.hid (fun W (hW : Ext w W) => refMade_any W k wd l v hwr (hv.ext hW) hb hw h1 h2)
      obtain ⟨_, _, _, _, _, _, _, e8⟩ := kdIs k
      have e9 : Kd.isN 7 k = false := by cases k <;> first | rfl | exact absurd rfl hwr
      rw [e9] at e8
      obtain ⟨a, cap, rfl, _, _, _⟩ := hv
      generalize k.run wd l = out at *
      generalize k.name = nm at *
      clear e0 e1 e2 hk h1 h2 h3 hc hb hw e9 hwr
      by_cases hl : 2000 < out.length
      · rw [if_pos hl, if_pos hl]
        have hlz : (2000 : Int) < (out.length : Int) := by omega
        clear hl
        go_enter Tryz.func97, Tryz.ntmps97
        go_wp2_with fail
        refine (HE.out).mono ?_
        rintro e w1 ⟨rfl, ho⟩
        have HO := Lib.hid ho
        clear ho
        go_wp2_with fail
        refine (HM.out _ HO.out).mono ?_
        rintro e w2 ⟨rfl, ho⟩
        have HO2 := Lib.hid (HO.out.then ho)
        clear ho
        go_wp2_with fail
        go_ret2
        exact ⟨rfl, HO2.out⟩
      · rw [if_neg hl, if_neg hl]
        have hlz : ¬ (2000 : Int) < (out.length : Int) := by omega
        clear hl
        go_enter Tryz.func97, Tryz.ntmps97
        go_wp2_with fail
        refine (HE.out).mono ?_
        rintro e w1 ⟨rfl, ho⟩
        have HO := Lib.hid ho
        clear ho
        go_wp2_with fail
        refine (HM.out _ HO.out).mono ?_
        rintro e w2 ⟨rfl, ho⟩
        have HO2 := Lib.hid (HO.out.then ho)
        clear ho
        go_wp2_with fail
        go_ret2
        exact ⟨rfl, HO2.out⟩

theorem runCode_le (a b : B) (l : List B) : runCode a b l ≤ 12 := by
  unfold runCode
  have := actCode_le a b l.length
  repeat' split
  all_goals omega

end Go.Proofs.YtnmhaipjfpongacGreatDoor

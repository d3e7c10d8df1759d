/- The reference's ActOf; ActRuns' walk: any command. No condition but lengths, and what the variables hold. -/
import Derived.Test.YtnmhaipjfpongabGreatDoorF15x
import Derived.Test.YtnmhaipjfpongabGreatDoorJ0x
import Derived.Test.YtnmhaipjfpongabGreatDoorGh
import Derived.Test.YtnmhaipjfpongabGreatDoorY2x
namespace Go.Proofs.YtnmhaipjfpongabGreatDoor
open Go.ChangeShapes Go.WideShapes Go.ChangeAt Go.RowKit

theorem repl_len (p q : B) (hp : p ≠ []) : ∀ (n : Nat) (s : B), s.length ≤ n → (Lib.replaceAll s p q).length ≤ s.length * (1 + q.length)
  | 0, s, h => by
    rw [List.length_eq_zero_iff.1 (Nat.le_zero.1 h), repl_nil hp]
    simp
  | n + 1, [], _ => by rw [repl_nil hp]; simp
  | n + 1, c :: r, h => by
    have hp1 : 1 ≤ p.length := List.length_pos_iff.2 hp
    cases hh : p.isPrefixOf (c :: r) with
    | true =>
      rw [repl_here hp hh, List.length_append]
      have hle : ((c :: r).drop p.length).length ≤ r.length := by rw [List.length_drop, List.length_cons]; omega
      have h1 := repl_len p q hp n ((c :: r).drop p.length) (by simp at h; omega)
      have h2 : ((c :: r).drop p.length).length * (1 + q.length) ≤ r.length * (1 + q.length) := Nat.mul_le_mul_right _ hle
      have h3 : (c :: r).length * (1 + q.length) = r.length * (1 + q.length) + (1 + q.length) := by rw [List.length_cons, Nat.succ_mul]
      omega
    | false =>
      rw [repl_skip hp hh, List.length_cons]
      have h1 := repl_len p q hp n r (by simpa using h)
      have h3 : (c :: r).length * (1 + q.length) = r.length * (1 + q.length) + (1 + q.length) := by rw [List.length_cons, Nat.succ_mul]
      omega

theorem made_any (w : World) (k : Kd) (wd : B) (l : List B) (v : Value) (hk : k ≠ .write) (hv : Rd S w v l) (hb : sumLen l + l.length ≤ 900000) (hw : wd.length ≤ 1000) (h1 : k.least ≤ l.length) (h2 : k.word wd = true) :
    Calls Tryz.prog 111 #[S k.name, S wd, v] w (RetE (S (k.run wd l)) w) := by
  have hx : ∀ x r, l = x :: r → x.length ≤ 900000 := fun x r e => by subst e; rw [sum_cons] at hb; omega
  have he := kdIs k
  cases k with
  | write => exact absurd rfl hk
  | join => exact made_join w _ wd l v he hv h1 hb hw
  | sort => exact made_sort w _ wd l v he hv hb (by
      have h3 : (wd == [] || wd == [111, 110, 99, 101]) = true := h2
      rw [Bool.or_eq_true, beq_iff_eq, beq_iff_eq] at h3
      exact h3)
  | count => exact made_count w _ wd l v he hv hb
  | upper =>
    cases l with
    | nil => simp [Kd.least] at h1
    | cons x r => exact made_upper w _ wd x r v he hv (hx x r rfl)
  | lines =>
    cases l with
    | nil => simp [Kd.least] at h1
    | cons x r => exact made_lines w _ wd x r v he hv (hx x r rfl) hw
  | swap =>
    cases l with
    | nil => simp [Kd.least] at h1
    | cons x r =>
      have hxl := hx x r rfl
      refine made_swap w _ wd x r v he hv hxl hw h2 ?_
      have h3 := repl_len (cut1 61 wd).1 (cut1 61 wd).2.1 (pair_cut h2) x.length x (Nat.le_refl _)
      have h4 := (cut1_len 61 wd).2
      have h5 : x.length * (1 + (cut1 61 wd).2.1.length) ≤ 900000 * 1001 := Nat.mul_le_mul hxl (by omega)
      omega
  | head =>
    cases l with
    | nil => simp [Kd.least] at h1
    | cons x r =>
      obtain ⟨n, hn⟩ := Option.isSome_iff_exists.1 h2
      have := made_head w _ wd x r v n he hv (hx x r rfl) hw hn
      show Calls _ _ _ _ (RetE (S (endedB ((linesB x).take ((numB 3 wd).getD 0)))) w)
      rw [hn]
      exact this

set_option maxRecDepth 100000 in
set_option maxHeartbeats 2000000 in
theorem actOf_any (w : World) (name wd : B) (l : List B) (v : Value) (hv : Rd S w v l) (hb : sumLen l + l.length ≤ 900000) (hw : wd.length ≤ 1000) :
    Calls Tryz.prog 44 #[S name, S wd, v] w (RetE (.tuple #[S (runOut name wd l), I (runCode name wd l)]) w) := by
  have HE := Lib.hid (actError_any w name wd l.length (by omega))
  cases hc : actCode name wd l.length with
  | succ c =>
    have e1 : runCode name wd l = c + 1 := by unfold runCode; rw [hc, if_neg (Nat.succ_ne_zero _)]
    have e2 : runOut name wd l = [] := by unfold runOut; rw [e1, if_neg (Nat.succ_ne_zero _)]
    rw [e1, e2]
    rw [hc] at HE
    obtain ⟨a, cap, rfl, _, _, _⟩ := hv
    have hcz : (0 : Int) < ((c + 1 : Nat) : Int) := by omega
    generalize ((c + 1 : Nat) : Int) = z at *
    clear e1 e2 hc hb hw
    go_enter Tryz.func44, Tryz.ntmps44
    go_wp2_with fail
    refine (HE.out).mono ?_
    rintro e w1 ⟨rfl, ho⟩
    have HO := Lib.hid ho
    clear ho
    go_wp2_with fail
    go_ret2
    exact ⟨rfl, HO.out⟩
  | zero =>
    obtain ⟨k, hk, h1, h2, h3⟩ := actCode_ok hc
    obtain rfl := kind_name hk
    have e0 : actOut k.name wd l = k.run wd l := by unfold actOut; rw [hk]
    have e1 : runCode k.name wd l = if 2000 < (k.run wd l).length then 10 else 0 := by unfold runCode; rw [hc, if_pos rfl, e0]
    have e2 : runOut k.name wd l = if 2000 < (k.run wd l).length then [] else k.run wd l := by
      unfold runOut
      rw [e1, e0]
      by_cases h : 2000 < (k.run wd l).length
      · rw [if_pos h, if_pos h, if_neg (by decide)]
      · rw [if_neg h, if_neg h, if_pos rfl]
    rw [e1, e2]
    rw [hc] at HE
    by_cases hwr : k = .write
    · subst hwr
      show Calls _ _ _ _ (RetE (.tuple #[S (if 2000 < wd.length then [] else wd), I (if 2000 < wd.length then 10 else 0 : Nat)]) w)
      rw [if_neg (by omega), if_neg (by omega)]
      have hlz : ¬ (2000 : Int) < (wd.length : Int) := by omega
      obtain ⟨_, _, _, _, _, _, _, e8⟩ := kdIs .write
      change _ = true at e8
      obtain ⟨a, cap, rfl, _, _, _⟩ := hv
      generalize Kd.write.name = nm at *
      clear e0 e1 e2 hk h1 h2 h3 hc hb hw
      go_enter Tryz.func44, Tryz.ntmps44
      go_wp2_with fail
      refine (HE.out).mono ?_
      rintro e w1 ⟨rfl, ho⟩
      have HO := Lib.hid ho
      clear ho
      go_wp2_with fail
      go_ret2
      exact ⟨rfl, HO.out⟩
    · have HM := Lib.hid (fun W (hW : Ext w W) => made_any W k wd l v hwr (hv.ext hW) hb hw h1 h2)
      obtain ⟨_, _, _, _, _, _, _, e8⟩ := kdIs k
      have e9 : Kd.isN 7 k = false := by cases k <;> first | rfl | exact absurd rfl hwr
      rw [e9] at e8
      obtain ⟨a, cap, rfl, _, _, _⟩ := hv
      generalize k.run wd l = out at *
      generalize k.name = nm at *
      clear e0 e1 e2 hk h1 h2 h3 hc hb hw e9 hwr
      by_cases hl : 2000 < out.length
      · rw [if_pos hl, if_pos hl]
        have hlz : (2000 : Int) < (out.length : Int) := by omega
        clear hl
        go_enter Tryz.func44, Tryz.ntmps44
        go_wp2_with fail
        refine (HE.out).mono ?_
        rintro e w1 ⟨rfl, ho⟩
        have HO := Lib.hid ho
        clear ho
        go_wp2_with fail
        refine (HM.out _ HO.out).mono ?_
        rintro e w2 ⟨rfl, ho⟩
        have HO2 := Lib.hid (HO.out.then ho)
        clear ho
        go_wp2_with fail
        go_ret2
        exact ⟨rfl, HO2.out⟩
      · rw [if_neg hl, if_neg hl]
        have hlz : ¬ (2000 : Int) < (out.length : Int) := by omega
        clear hl
        go_enter Tryz.func44, Tryz.ntmps44
        go_wp2_with fail
        refine (HE.out).mono ?_
        rintro e w1 ⟨rfl, ho⟩
        have HO := Lib.hid ho
        clear ho
        go_wp2_with fail
        refine (HM.out _ HO.out).mono ?_
        rintro e w2 ⟨rfl, ho⟩
        have HO2 := Lib.hid (HO.out.then ho)
        clear ho
        go_wp2_with fail
        go_ret2
        exact ⟨rfl, HO2.out⟩

theorem runCode_le (a b : B) (l : List B) : runCode a b l ≤ 12 := by
  unfold runCode
  have := actCode_le a b l.length
  repeat' split
  all_goals omega

set_option maxRecDepth 100000 in
set_option maxHeartbeats 4000000 in
theorem runs_main (w : World) (P : Nat → Addr) (name wd : B) (v : Value) (l : List B) (hv : Rd S w v l) (hA : ActVars w P) (hS : Sents w P) :
    Calls Tryz.prog 7 #[S name, S wd, v] w (RetE (.bool true) w) := by
  have HT := Lib.hid (acted_any w P hA)
  have HVV := Lib.hid hv
  have HAA := Lib.hid hA
  have HSS := Lib.hid hS
  obtain ⟨av, cv, rfl, _, _, _⟩ := hv
  clear hA hS
  by_cases h1 : 60 < name.length
  · have h1z : (60 : Int) < (name.length : Int) := by omega
    clear h1
    go_enter Tryz.func7, Tryz.ntmps7
    go_wp2_with fail
    refine (HT.out).mono ?_
    rintro e w1 ⟨rfl, ho⟩
    have HO := Lib.hid ho
    clear ho
    go_wp2_with fail
    go_ret
    exact ⟨rfl, HO.out⟩
  · have h1z : ¬ (60 : Int) < (name.length : Int) := by omega
    by_cases h2 : 150 < wd.length
    · have h2z : (150 : Int) < (wd.length : Int) := by omega
      clear h1 h2
      go_enter Tryz.func7, Tryz.ntmps7
      go_wp2_with fail
      refine (HT.out).mono ?_
      rintro e w1 ⟨rfl, ho⟩
      have HO := Lib.hid ho
      clear ho
      go_wp2_with fail
      go_ret
      exact ⟨rfl, HO.out⟩
    · have h2z : ¬ (150 : Int) < (wd.length : Int) := by omega
      have HWD : Hid (wd.length ≤ 150) := Lib.hid (by omega)
      clear h1 h2
      go_enter Tryz.func7, Tryz.ntmps7
      go_wp2_with fail
      refine (HT.out).mono ?_
      rintro e w1 ⟨rfl, ho⟩
      have HO := Lib.hid ho
      clear ho
      have HV1 := Lib.hid (Rd.ext HVV.out HO.out)
      go_wp2_with fail
      refine (longTexts_any w1 _ l 12 3000 HV1.out (by decide)).mono ?_
      rintro e w2 ⟨⟨r, rfl, hr, hz⟩, rfl⟩
      rcases hr with rfl | rfl
      · obtain ⟨hl, hx⟩ := hz rfl
        have hsum : sumLen l ≤ 12 * 3000 := by
          have h3 : ∀ k : List B, (∀ x ∈ k, x.length ≤ 3000) → sumLen k ≤ k.length * 3000 := by
            intro k
            induction k with
            | nil => intro _; simp [sumLen]
            | cons x k ih =>
              intro hk
              rw [sum_cons, List.length_cons, Nat.succ_mul]
              have := ih fun y hy => hk y (.tail _ hy)
              have := hk x (.head _)
              omega
          have h4 := h3 l fun x hm => by have := hx x hm; omega
          have h5 : l.length * 3000 ≤ 12 * 3000 := Nat.mul_le_mul_right _ (by omega)
          omega
        have HB : Hid (sumLen l + l.length ≤ 900000) := Lib.hid (by omega)
        have hl9 : (l.length : Int) ≤ 12 := hl
        have HL9 : Hid (l.length ≤ 1000000) := Lib.hid (by omega)
        clear hz hx hsum hl
        go_wp2_with fail
        refine (ownTexts_any _ _ l HV1.out HL9.out).mono ?_
        rintro e w3 ⟨v3, rfl, hr, ho⟩
        have HR3 := Lib.hid hr
        have HO3 := Lib.hid (HO.out.then ho)
        clear hr
        clear ho
        obtain ⟨a3, c3, rfl, _, _, _⟩ := HR3.out
        go_wp2_with fail
        refine (actRun_any w3 P name wd l _ HR3.out HB.out (by have := HWD.out; omega) (HAA.out.ext HO3.out)).mono ?_
        rintro e w4 ⟨rfl, ho⟩
        have HO4 := Lib.hid (HO3.out.then ho)
        have HRL := Lib.hid (runCode_le name wd l)
        clear ho
        obtain ⟨R, hR⟩ : ∃ R, R = runCode name wd l := ⟨_, rfl⟩
        obtain ⟨O, hO⟩ : ∃ O, O = runOut name wd l := ⟨_, rfl⟩
        rw [← hR] at HRL ⊢
        rw [← hO]
        have HRR := Lib.hid hR
        have HOO := Lib.hid hO
        clear hR hO
        obtain ⟨E, hE⟩ : ∃ E, E = errC P R := ⟨_, rfl⟩
        rw [← hE]
        have HEE := Lib.hid hE
        clear hE
        go_wp2_with fail
        refine (actOf_any w4 name wd l _ (Rd.ext HVV.out HO4.out) HB.out (by have := HWD.out; omega)).mono ?_
        rintro e w5 ⟨rfl, ho⟩
        have HO5 := Lib.hid (HO4.out.then ho)
        clear ho
        rw [← HRR.out, ← HOO.out]
        go_wp2_with fail
        refine (actCheck_any w5 P name wd l.length (by have := HWD.out; omega) (HAA.out.ext HO5.out)).mono ?_
        rintro e w6 ⟨rfl, ho⟩
        have HO6 := Lib.hid (HO5.out.then ho)
        clear ho
        have HCL := Lib.hid (actCode_le name wd l.length)
        have HER := Lib.hid (actError_any w6 name wd l.length (by have := HWD.out; omega))
        generalize actCode name wd l.length = C at *
        obtain ⟨F, hF⟩ : ∃ F, F = errC P C := ⟨_, rfl⟩
        rw [← hF]
        have HFF := Lib.hid hF
        clear hF
        go_wp2_with fail
        refine (HER.out).mono ?_
        rintro e w7 ⟨rfl, ho⟩
        have HO7 := Lib.hid (HO6.out.then ho)
        clear ho
        have HC1 := Lib.hid (codedC w7 P (HSS.out.ext HO7.out) C HCL.out)
        rw [← HFF.out] at HC1
        go_wp2_with fail
        refine (HC1.out).mono ?_
        rintro e w8 ⟨rfl, ho⟩
        have HO8 := Lib.hid (HO7.out.then ho)
        clear ho
        have HC2 := Lib.hid (codedC w8 P (HSS.out.ext HO8.out) R HRL.out)
        rw [← HEE.out] at HC2
        have hoo : (O == O) = true := by simp
        go_wp2_with fail
        refine (HC2.out).mono ?_
        rintro e w9 ⟨rfl, ho⟩
        have HO9 := Lib.hid (HO8.out.then ho)
        clear ho
        go_wp2_with fail
        go_ret
        exact ⟨rfl, HO9.out⟩
      · clear hz
        go_wp2_with fail
        go_ret
        exact ⟨rfl, HO.out⟩
end Go.Proofs.YtnmhaipjfpongabGreatDoor

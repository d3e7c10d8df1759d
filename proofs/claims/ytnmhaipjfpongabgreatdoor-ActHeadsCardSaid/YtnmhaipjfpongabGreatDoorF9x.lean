/- ActHeads' walk: the head of a head is the shorter one. No condition but lengths, and what the variables hold. -/
import Derived.Test.YtnmhaipjfpongabGreatDoorGj
import Derived.Test.YtnmhaipjfpongabGreatDoorGe
import Derived.Deep.RegionHeld3
import Derived.IntWalk
import Derived.Deep.DeepCutAuto
import Derived.Deep.CutBlock
import Derived.Deep.LoopGhost
namespace Go.Proofs.YtnmhaipjfpongabGreatDoor
open Go.ChangeShapes Go.WideShapes Go.ChangeAt Go.RowKit

theorem num_dec3 {u : Nat} (h : u < 1000) : numB 3 (Lib.decDigits u) = some u := by
  have h4 := num_dec (u := u) (by omega)
  have hl : (Lib.decDigits u).length ≤ 3 := by rw [Lib.decDigits_length]; exact nDigits_le 3 u (by decide) h
  obtain ⟨h1, _, _⟩ := numB_some h4
  unfold numB
  rw [h1]
  simp only
  rw [if_pos ⟨hl, by omega, rfl⟩]
  rfl

theorem lines_whole (s : B) : s.length ≤ (endedB (linesB s)).length := by
  have h := ended_cut s
  unfold linesB
  by_cases hl : (cutc 10 s).getLast? = some []
  · rw [if_pos hl]
    have e : cutc 10 s = (cutc 10 s).dropLast ++ [[]] := by
      have h1 := (List.dropLast_concat_getLast (cutc_ne 10 s)).symm
      rw [List.getLast?_eq_some_getLast (cutc_ne 10 s)] at hl
      rw [Option.some.inj hl] at h1
      exact h1
    rw [e, ended_app] at h
    have h2 : endedB (cutc 10 s).dropLast ++ [10] = s ++ [10] := by simpa [endedB] using h
    have := List.append_cancel_right h2
    rw [this]
    exact Nat.le_refl _
  · rw [if_neg hl, h]
    simp

theorem act_head (wd : B) (l : List B) : actOut [104, 101, 97, 100] wd l = endedB ((linesB (l.headD [])).take ((numB 3 wd).getD 0)) := by kernel_rfl
theorem act_lines (wd : B) (l : List B) : actOut [108, 105, 110, 101, 115] wd l = endedB ((linesB (l.headD [])).filter (hasB wd)) := by kernel_rfl
theorem actCode_head {u : Nat} (h : u < 1000) : actCode [104, 101, 97, 100] (Lib.decDigits u) 1 = 0 := by
  have e : kinds.lookup [104, 101, 97, 100] = some Kd.head := by kernel_rfl
  have hl : (Lib.decDigits u).length ≤ 3 := by rw [Lib.decDigits_length]; exact nDigits_le 3 u (by decide) h
  unfold actCode
  rw [e]
  simp only [Kd.least, Kd.most, Kd.word, num_dec3 h]
  rw [if_neg (by simp), if_neg (by omega)]

theorem headR_ok (w : World) (P : Nat → Addr) (u : Nat) (s : B) (hu : u < 1000) (hs : s.length ≤ 1600) (hA : ActVars w P) :
    Calls Tryz.prog 29 #[S [104, 101, 97, 100], S (Lib.decDigits u), .slice (some ⟨w.heap.size, 0, none⟩) 1 1] (w.alloc (.cells #[S s] 9 (0, 0))) (RunOk (endedB ((linesB s).take u)) w) := by
  have e : actOut [104, 101, 97, 100] (Lib.decDigits u) [s] = endedB ((linesB s).take u) := by
    rw [act_head, num_dec3 hu]
    rfl
  have hl := dec_le u (by omega)
  have h1 := ended_lines s
  have h2 := ended_sub (List.take_sublist u (linesB s))
  exact run1_ok w P _ _ s _ (by omega) (by omega) hA (run_zero (actCode_head hu) (by rw [e]; omega)) e

set_option maxRecDepth 100000 in
set_option maxHeartbeats 4000000 in
theorem heads_out (w : World) (P : Nat → Addr) (s : B) (a b : Int) (hA : ActVars w P) (h : 1500 < s.length ∨ a < 0 ∨ 999 < a ∨ b < 0 ∨ 999 < b) :
    Calls Tryz.prog 4 #[S s, I a, I b] w (RetE (.bool true) w) := by
  have HT := Lib.hid (acted_any w P hA)
  clear hA
  by_cases h1 : 1500 < s.length
  · have h1z : (1500 : Int) < (s.length : Int) := by omega
    clear h h1
    go_enter Tryz.func4, Tryz.ntmps4
    go_wp2_with fail
    refine (HT.out).mono ?_
    rintro e w1 ⟨rfl, ho⟩
    have HO := Lib.hid ho
    clear ho
    go_wp2_with fail
    go_ret
    exact ⟨rfl, HO.out⟩
  · have h1z : ¬ (1500 : Int) < (s.length : Int) := by omega
    by_cases h2 : a < 0
    · clear h h1
      go_enter Tryz.func4, Tryz.ntmps4
      go_wp2_with fail
      refine (HT.out).mono ?_
      rintro e w1 ⟨rfl, ho⟩
      have HO := Lib.hid ho
      clear ho
      go_wp2_with fail
      go_ret
      exact ⟨rfl, HO.out⟩
    · by_cases h3 : 999 < a
      · clear h h1
        go_enter Tryz.func4, Tryz.ntmps4
        go_wp2_with fail
        refine (HT.out).mono ?_
        rintro e w1 ⟨rfl, ho⟩
        have HO := Lib.hid ho
        clear ho
        go_wp2_with fail
        go_ret
        exact ⟨rfl, HO.out⟩
      · by_cases h4 : b < 0
        · clear h h1
          go_enter Tryz.func4, Tryz.ntmps4
          go_wp2_with fail
          refine (HT.out).mono ?_
          rintro e w1 ⟨rfl, ho⟩
          have HO := Lib.hid ho
          clear ho
          go_wp2_with fail
          go_ret
          exact ⟨rfl, HO.out⟩
        · have h5 : 999 < b := by omega
          clear h h1
          go_enter Tryz.func4, Tryz.ntmps4
          go_wp2_with fail
          refine (HT.out).mono ?_
          rintro e w1 ⟨rfl, ho⟩
          have HO := Lib.hid ho
          clear ho
          go_wp2_with fail
          go_ret
          exact ⟨rfl, HO.out⟩

set_option linter.unusedSimpArgs false in
set_option maxRecDepth 100000 in
set_option maxHeartbeats 16000000 in
theorem heads_main (w : World) (P : Nat → Addr) (s : B) (a b m : Nat) (hA : ActVars w P) (hs : s.length ≤ 1500) (ha : a < 1000) (hb : b < 1000) (hm : m = min a b) (hlt : decide ((b : Int) < (a : Int)) = decide (m ≠ a)) :
    Calls Tryz.prog 4 #[S s, I a, I b] w (RetE (.bool true) w) := by
  have hT := acted_any w P hA
  have hmu : m < 1000 := by omega
  have hel := ended_lines s
  have hge := lines_whole s
  have hnl : ∀ x ∈ linesB s, (10 : UInt8) ∉ x := fun x hx => mem_lines hx
  have s1 := fun W (hW : Ext w W) => headR_ok W P a s ha (by omega) (hA.ext hW)
  have s3 := fun W (hW : Ext w W) => headR_ok W P m s hmu (by omega) (hA.ext hW)
  have hx := ended_sub (List.take_sublist a (linesB s))
  have s2 := fun W (hW : Ext w W) => headR_ok W P b (endedB ((linesB s).take a)) hb (by omega) (hA.ext hW)
  have e2 : (linesB (endedB ((linesB s).take a))).take b = (linesB s).take m := by
    rw [lines_ended fun x hx => hnl x (List.mem_of_mem_take hx), List.take_take, hm, Nat.min_comm]
  have hf : (linesB s).filter (hasB []) = linesB s := List.filter_eq_self.2 fun x _ => by unfold hasB Lib.contains; rw [Lib.index_empty]; rfl
  have o4 : actOut [108, 105, 110, 101, 115] [] [s] = endedB (linesB s) := by
    rw [act_lines]
    show endedB ((linesB s).filter (hasB [])) = _
    rw [hf]
  have s4 := fun W (hW : Ext w W) => run1_ok W P [108, 105, 110, 101, 115] [] s _ (by decide) (by omega) (hA.ext hW) (run_zero (by kernel_rfl) (by rw [o4]; omega)) o4
  have hll := lines_ended hnl
  have o5 : actOut [99, 111, 117, 110, 116] [] [endedB (linesB s)] = Lib.decDigits (linesB s).length ++ 32 :: (Lib.decDigits (sumLen [endedB (linesB s)]) ++ [10]) := by
    rw [act_count, show allB [endedB (linesB s)] = linesB s by simp [allB, hll]]
    simp
  have hln := len_ended (linesB s)
  have hd1 := dec_le (linesB s).length (by omega)
  have hd2 := dec_le (sumLen [endedB (linesB s)]) (by simp [sumLen]; omega)
  have s5 := fun W (hW : Ext w W) => run1_ok W P [99, 111, 117, 110, 116] [] (endedB (linesB s)) _ (by decide) (by omega) (hA.ext hW) (run_zero (by kernel_rfl) (by rw [o5]; simp; omega)) o5
  have s6 := fun W => refLines_any W (endedB (linesB s)) (by omega)
  have s7 := fun W => cut_head W (Lib.decDigits (linesB s).length) (Lib.decDigits (sumLen [endedB (linesB s)]) ++ [10]) (dec_no32 _) (by simp; omega)
  have s8 := fun W => decimal_any W (linesB s).length (by omega)
  have hpre : (endedB (linesB s)).take (endedB ((linesB s).take a)).length = endedB ((linesB s).take a) := by
    conv => lhs; arg 2; rw [← List.take_append_drop a (linesB s), ended_app]
    simp
  rw [hll] at s6
  rw [e2] at s2
  have hd := fun W => decimal_any W a (by omega)
  have hdb := fun W => decimal_any W b (by omega)
  have hdm := fun W => decimal_any W m (by omega)
  have H1 := Lib.hid s1
  have H2 := Lib.hid s2
  have H3 := Lib.hid s3
  have H4 := Lib.hid s4
  have H5 := Lib.hid s5
  have H6 := Lib.hid s6
  have H7 := Lib.hid s7
  have H8 := Lib.hid s8
  have HD := Lib.hid hd
  have HDB := Lib.hid hdb
  have HDM := Lib.hid hdm
  have HT := Lib.hid hT
  clear s1 s2 s3 s4 s5 s6 s7 s8 hd hdb hdm hT
  have hsz : ¬ (1500 : Int) < (s.length : Int) := by omega
  have haz : (0 : Int) ≤ (a : Int) := by omega
  have hbz : (0 : Int) ≤ (b : Int) := by omega
  have hay : ¬ (a : Int) < 0 := by omega
  have hby : ¬ (b : Int) < 0 := by omega
  have hax : ¬ (999 : Int) < (a : Int) := by omega
  have hbx : ¬ (999 : Int) < (b : Int) := by omega
  have hLz : ((linesB s).length : Int) ≤ 1600 := by omega
  have hlen1 : (s.length : Int) ≤ ((endedB (linesB s)).length : Int) := by omega
  have hlen2 : ((endedB (linesB s)).length : Int) ≤ (s.length : Int) + 1 := by omega
  have hlen3 : ((endedB ((linesB s).take a)).length : Int) ≤ ((endedB (linesB s)).length : Int) := by omega
  have hwk : IntKind.i64.wrap ((s.length : Int) + 1) = (s.length : Int) + 1 := IntWalk.i64_in _ (by omega)
  have HWK := Lib.hid hwk
  generalize endedB ((linesB s).take m) = z at *
  generalize endedB ((linesB s).take a) = x at *
  generalize hL : endedB (linesB s) = l at *
  generalize linesB s = L at *
  generalize hdl : Lib.decDigits L.length = d at *
  generalize d ++ 32 :: (Lib.decDigits (sumLen [l]) ++ [10]) = n at *
  generalize Lib.decDigits a = da at *
  generalize Lib.decDigits b = db at *
  generalize Lib.decDigits m = dm at *
  have HPRE := Lib.hid hpre
  clear hel hge hnl hx e2 hf o4 hll o5 hln hd1 hd2 hpre hA hs ha hb hmu hwk hL hdl
  go_enter Tryz.func4, Tryz.ntmps4
  go_wp2_with fail
  refine (HT.out).mono ?_
  rintro e w1 ⟨rfl, ho⟩
  have HO1 := Lib.hid ho
  clear ho
  go_upto_if 48 with fail
  go_cut [8] (fun c wx => c = I m ∧ wx = w1)
  case first =>
    by_cases hba : b < a
    · have hbaz : (b : Int) < (a : Int) := by omega
      obtain rfl : m = b := by omega
      clear hm hlt
      go_wp2_with fail
      go_meet
      exact ⟨rfl, rfl⟩
    · have hbaz : ¬ (b : Int) < (a : Int) := by omega
      obtain rfl : m = a := by omega
      clear hm hlt
      go_wp2_with fail
      go_meet
      exact ⟨rfl, rfl⟩
  case rest =>
    obtain ⟨rfl, rfl⟩ := hcut
    clear hlt hm
    go_wp2_with fail
    refine (HD.out wc).mono ?_
    rintro e w2 ⟨rfl, ho⟩
    have HO2 := Lib.hid (HO1.out.then ho)
    clear ho
    go_wp2_with fail
    refine (H1.out w2 HO2.out).mono ?_
    rintro e w3 ⟨rfl, ho⟩
    have HO3 := Lib.hid (HO2.out.then ho)
    clear ho
    go_wp2_with fail
    refine (HDB.out w3).mono ?_
    rintro e w4 ⟨rfl, ho⟩
    have HO4 := Lib.hid (HO3.out.then ho)
    clear ho
    go_wp2_with fail
    refine (H2.out w4 HO4.out).mono ?_
    rintro e w5 ⟨rfl, ho⟩
    have HO5 := Lib.hid (HO4.out.then ho)
    clear ho
    go_wp2_with fail
    refine (HDM.out w5).mono ?_
    rintro e w6 ⟨rfl, ho⟩
    have HO6 := Lib.hid (HO5.out.then ho)
    clear ho
    go_wp2_with fail
    refine (H3.out w6 HO6.out).mono ?_
    rintro e w7 ⟨rfl, ho⟩
    have HO7 := Lib.hid (HO6.out.then ho)
    clear ho
    go_wp2_with fail
    refine (H4.out w7 HO7.out).mono ?_
    rintro e w8 ⟨rfl, ho⟩
    have HO8 := Lib.hid (HO7.out.then ho)
    clear ho
    go_wp2_with fail
    refine (H5.out w8 HO8.out).mono ?_
    rintro e w9 ⟨rfl, ho⟩
    have HO9 := Lib.hid (HO8.out.then ho)
    clear ho
    have hzz : (z == z) = true := by simp
    go_wp2_with fail
    refine (H6.out w9).mono ?_
    rintro e wA ⟨vA, rfl, ho, hr⟩
    have HOA := Lib.hid (HO9.out.then ho)
    have HRA := Lib.hid hr
    clear hr ho
    obtain ⟨aA, cA, rfl, _, _, _⟩ := HRA.out
    have hdd : (d == d) = true := by simp
    have hm1 := ba_mid l 0 x.length
    rw [List.drop_zero, HPRE.out] at hm1
    have hxx : (x == x) = true := by simp
    have hwk := HWK.out
    clear hzz HT HD HDB HDM H1 H2 H3 H4 H5 H6 HO1 HO2 HO3 HO4 HO5 HO6 HO7 HO8 HO9 HRA HPRE HWK hsz haz hbz hay hby hax hbx
    go_wp2_with fail
    refine wp_region_held_drew (S := fun w' => Hid (Ext wA w')) (by kernel_rfl) (Lib.hid (Only.drew _ _)) (fun hHeld => ?_)
    refine wpAnyH_take (i := 0) (oi := { dst := some 111, op := Op.move (Operand.tmp 15), type := 9, pos := "more.go:99", after := #[], guard := none }) (v := ?_) rfl (by kernel_rfl) (by kernel_rfl) (by kernel_rfl) (fun _ _ _ h => h) (Or.inl ⟨by rfl, ?_⟩) (by assumption) ?_
    rotate_left
    · (intro w hSw; (try dsimp only at hSw); go_simp; try with_reducible rfl)
    try simp only [Act.put, List.setIfInBounds_toArray, List.set_cons_zero, List.set_cons_succ]
    refine wpAnyH_take (i := 1) (oi := { dst := some 112, op := Op.call { callee := Callee.builtin Builtin.len, args := #[Operand.tmp 111], argTypes := #[9] }, type := 3, pos := "more.go:99", after := #[{ on := 0, ground := Ground.data }], guard := none }) (v := ?_) rfl (by kernel_rfl) (by kernel_rfl) (by kernel_rfl) (fun _ _ _ h => h) (Or.inl ⟨by rfl, ?_⟩) (by assumption) ?_
    rotate_left
    · (intro w hSw; (try dsimp only at hSw); go_simp; try with_reducible rfl)
    try simp only [Act.put, List.setIfInBounds_toArray, List.set_cons_zero, List.set_cons_succ]
    refine wpAnyH_take (i := 2) (oi := { dst := some 113, op := Op.move (Operand.tmp 0), type := 9, pos := "more.go:99", after := #[], guard := none }) (v := ?_) rfl (by kernel_rfl) (by kernel_rfl) (by kernel_rfl) (fun _ _ _ h => h) (Or.inl ⟨by rfl, ?_⟩) (by assumption) ?_
    rotate_left
    · (intro w hSw; (try dsimp only at hSw); go_simp; try with_reducible rfl)
    try simp only [Act.put, List.setIfInBounds_toArray, List.set_cons_zero, List.set_cons_succ]
    refine wpAnyH_take (i := 3) (oi := { dst := some 114, op := Op.call { callee := Callee.builtin Builtin.len, args := #[Operand.tmp 113], argTypes := #[9] }, type := 3, pos := "more.go:99", after := #[{ on := 2, ground := Ground.data }], guard := none }) (v := ?_) rfl (by kernel_rfl) (by kernel_rfl) (by kernel_rfl) (fun _ _ _ h => h) (Or.inl ⟨by rfl, ?_⟩) (by assumption) ?_
    rotate_left
    · (intro w hSw; (try dsimp only at hSw); go_simp; try with_reducible rfl)
    try simp only [Act.put, List.setIfInBounds_toArray, List.set_cons_zero, List.set_cons_succ]
    refine wpAnyH_take (i := 4) (oi := { dst := some 115, op := Op.binOp BinOp.geq 3 (Operand.tmp 112) (Operand.tmp 114) 3, type := 4, pos := "more.go:99", after := #[{ on := 1, ground := Ground.data }, { on := 3, ground := Ground.data }], guard := none }) (v := ?_) rfl (by kernel_rfl) (by kernel_rfl) (by kernel_rfl) (fun _ _ _ h => h) (Or.inl ⟨by rfl, ?_⟩) (by assumption) ?_
    rotate_left
    · (intro w hSw; (try dsimp only at hSw); go_simp; try with_reducible rfl)
    try simp only [Act.put, List.setIfInBounds_toArray, List.set_cons_zero, List.set_cons_succ]
    refine wpAnyH_take (i := 5) (oi := { dst := some 116, op := Op.move (Operand.tmp 115), type := 4, pos := "more.go:99", after := #[{ on := 4, ground := Ground.data }], guard := none }) (v := ?_) rfl (by kernel_rfl) (by kernel_rfl) (by kernel_rfl) (fun _ _ _ h => h) (Or.inl ⟨by rfl, ?_⟩) (by assumption) ?_
    rotate_left
    · (intro w hSw; (try dsimp only at hSw); go_simp; try with_reducible rfl)
    try simp only [Act.put, List.setIfInBounds_toArray, List.set_cons_zero, List.set_cons_succ]
    refine wpAnyH_take (i := 6) (oi := { dst := some 117, op := Op.move (Operand.tmp 15), type := 9, pos := "more.go:99", after := #[{ on := 5, ground := Ground.guard }], guard := some (5, true) }) (v := ?_) rfl (by kernel_rfl) (by kernel_rfl) (by kernel_rfl) (fun _ _ _ h => h) (Or.inl ⟨by rfl, ?_⟩) (by assumption) ?_
    rotate_left
    · (intro w hSw; (try dsimp only at hSw); go_simp; try with_reducible rfl)
    try simp only [Act.put, List.setIfInBounds_toArray, List.set_cons_zero, List.set_cons_succ]
    refine wpAnyH_take (i := 7) (oi := { dst := some 118, op := Op.call { callee := Callee.builtin Builtin.len, args := #[Operand.tmp 117], argTypes := #[9] }, type := 3, pos := "more.go:99", after := #[{ on := 6, ground := Ground.data }, { on := 5, ground := Ground.guard }], guard := some (5, true) }) (v := ?_) rfl (by kernel_rfl) (by kernel_rfl) (by kernel_rfl) (fun _ _ _ h => h) (Or.inl ⟨by rfl, ?_⟩) (by assumption) ?_
    rotate_left
    · (intro w hSw; (try dsimp only at hSw); go_simp; try with_reducible rfl)
    try simp only [Act.put, List.setIfInBounds_toArray, List.set_cons_zero, List.set_cons_succ]
    refine wpAnyH_take (i := 8) (oi := { dst := some 119, op := Op.move (Operand.tmp 0), type := 9, pos := "more.go:99", after := #[{ on := 5, ground := Ground.guard }], guard := some (5, true) }) (v := ?_) rfl (by kernel_rfl) (by kernel_rfl) (by kernel_rfl) (fun _ _ _ h => h) (Or.inl ⟨by rfl, ?_⟩) (by assumption) ?_
    rotate_left
    · (intro w hSw; (try dsimp only at hSw); go_simp; try with_reducible rfl)
    try simp only [Act.put, List.setIfInBounds_toArray, List.set_cons_zero, List.set_cons_succ]
    refine wpAnyH_take (i := 9) (oi := { dst := some 120, op := Op.call { callee := Callee.builtin Builtin.len, args := #[Operand.tmp 119], argTypes := #[9] }, type := 3, pos := "more.go:99", after := #[{ on := 8, ground := Ground.data }, { on := 5, ground := Ground.guard }], guard := some (5, true) }) (v := ?_) rfl (by kernel_rfl) (by kernel_rfl) (by kernel_rfl) (fun _ _ _ h => h) (Or.inl ⟨by rfl, ?_⟩) (by assumption) ?_
    rotate_left
    · (intro w hSw; (try dsimp only at hSw); go_simp; try with_reducible rfl)
    try simp only [Act.put, List.setIfInBounds_toArray, List.set_cons_zero, List.set_cons_succ]
    refine wpAnyH_take (i := 10) (oi := { dst := some 121, op := Op.binOp BinOp.add 3 (Operand.tmp 120) (Operand.const (Value.int IntKind.i64 1)) 3, type := 3, pos := "more.go:99", after := #[{ on := 9, ground := Ground.data }, { on := 5, ground := Ground.guard }], guard := some (5, true) }) (v := ?_) rfl (by kernel_rfl) (by kernel_rfl) (by kernel_rfl) (fun _ _ _ h => h) (Or.inl ⟨by rfl, ?_⟩) (by assumption) ?_
    rotate_left
    · (intro w hSw; (try dsimp only at hSw); go_simp; try with_reducible rfl)
    try simp only [Act.put, List.setIfInBounds_toArray, List.set_cons_zero, List.set_cons_succ]
    refine wpAnyH_take (i := 11) (oi := { dst := some 122, op := Op.binOp BinOp.leq 3 (Operand.tmp 118) (Operand.tmp 121) 3, type := 4, pos := "more.go:99", after := #[{ on := 7, ground := Ground.data }, { on := 10, ground := Ground.data }, { on := 5, ground := Ground.guard }], guard := some (5, true) }) (v := ?_) rfl (by kernel_rfl) (by kernel_rfl) (by kernel_rfl) (fun _ _ _ h => h) (Or.inl ⟨by rfl, ?_⟩) (by assumption) ?_
    rotate_left
    · (intro w hSw; (try dsimp only at hSw); go_simp; try with_reducible rfl)
    try simp only [Act.put, List.setIfInBounds_toArray, List.set_cons_zero, List.set_cons_succ]
    refine wpAnyH_take (i := 12) (oi := { dst := some 123, op := Op.pick (Operand.tmp 116) (Operand.tmp 122) (Operand.const (Value.bool false)), type := 4, pos := "more.go:99", after := #[{ on := 5, ground := Ground.data }, { on := 11, ground := Ground.data }], guard := none }) (v := ?_) rfl (by kernel_rfl) (by kernel_rfl) (by kernel_rfl) (fun _ _ _ h => h) (Or.inl ⟨by rfl, ?_⟩) (by assumption) ?_
    rotate_left
    · (intro w hSw; (try dsimp only at hSw); go_simp; try with_reducible rfl)
    try simp only [Act.put, List.setIfInBounds_toArray, List.set_cons_zero, List.set_cons_succ]
    refine wpAnyH_take (i := 13) (oi := { dst := some 124, op := Op.move (Operand.tmp 123), type := 4, pos := "more.go:99", after := #[{ on := 12, ground := Ground.data }, { on := 5, ground := Ground.chain }], guard := none }) (v := ?_) rfl (by kernel_rfl) (by kernel_rfl) (by kernel_rfl) (fun _ _ _ h => h) (Or.inl ⟨by rfl, ?_⟩) (by assumption) ?_
    rotate_left
    · (intro w hSw; (try dsimp only at hSw); go_simp; try with_reducible rfl)
    try simp only [Act.put, List.setIfInBounds_toArray, List.set_cons_zero, List.set_cons_succ]
    refine wpAnyH_take (i := 14) (oi := { dst := some 125, op := Op.move (Operand.tmp 17), type := 9, pos := "more.go:99", after := #[{ on := 13, ground := Ground.guard }], guard := some (13, true) }) (v := ?_) rfl (by kernel_rfl) (by kernel_rfl) (by kernel_rfl) (fun _ _ _ h => h) (Or.inl ⟨by rfl, ?_⟩) (by assumption) ?_
    rotate_left
    · (intro w hSw; (try dsimp only at hSw); go_simp; try with_reducible rfl)
    try simp only [Act.put, List.setIfInBounds_toArray, List.set_cons_zero, List.set_cons_succ]
    refine wpAnyH_take (i := 18) (oi := { dst := some 129, op := Op.move (Operand.tmp 19), type := 24, pos := "more.go:99", after := #[{ on := 13, ground := Ground.guard }], guard := some (13, true) }) (v := ?_) rfl (by kernel_rfl) (by kernel_rfl) (by kernel_rfl) (fun _ _ _ h => h) (Or.inl ⟨by rfl, ?_⟩) (by assumption) ?_
    rotate_left
    · (intro w hSw; (try dsimp only at hSw); go_simp; try with_reducible rfl)
    try simp only [Act.put, List.setIfInBounds_toArray, List.set_cons_zero, List.set_cons_succ]
    refine wpAnyH_take (i := 19) (oi := { dst := some 130, op := Op.call { callee := Callee.builtin Builtin.len, args := #[Operand.tmp 129], argTypes := #[24] }, type := 3, pos := "more.go:99", after := #[{ on := 18, ground := Ground.data }, { on := 13, ground := Ground.guard }], guard := some (13, true) }) (v := ?_) rfl (by kernel_rfl) (by kernel_rfl) (by kernel_rfl) (fun _ _ _ h => h) (Or.inl ⟨by rfl, ?_⟩) (by assumption) ?_
    rotate_left
    · (intro w hSw; (try dsimp only at hSw); go_simp; try with_reducible rfl)
    try simp only [Act.put, List.setIfInBounds_toArray, List.set_cons_zero, List.set_cons_succ]
    refine wpAnyH_ready (rs := [15]) (by kernel_rfl) (by simp) ?_
    refine AllReadyH.cons (o := { dst := some 126, op := Op.call { callee := Callee.value (Operand.func 32), args := #[Operand.tmp 125, Operand.const (Value.int IntKind.u8 32)], argTypes := #[9, 5] }, type := 24, pos := "more.go:99", after := #[{ on := 14, ground := Ground.data }, { on := 13, ground := Ground.chain }, { on := 13, ground := Ground.guard }], guard := some (13, true) }) rfl (fun K hK => ?_) AllReadyH.nil
    go_simp
    go_at_call 32
    refine (H7.out _).mono ?_
    rintro e w5 ⟨g5, n5, c5, rfl, hc5, ho5⟩
    have HZ5 := Lib.hid ((Only.drew _ _ : Ext wA wA.drew).then ho5)
    refine hK.out _ _ (HZ5) (fun hHeld => ?_)
    clear hK K
    try simp only [Act.put, List.setIfInBounds_toArray, List.set_cons_zero, List.set_cons_succ]
    refine heldMono (S' := fun w' => Hid (Ext wA w') ∧ w'.cell? ⟨g5, 0, none⟩ = some (S d)) (fun _ h => h.1) _ _ _ _ ?_
    have hH5 : Hid (Ext wA w5) ∧ w5.cell? ⟨g5, 0, none⟩ = some (S d) := ⟨HZ5, hc5⟩
    clear hHeld
    refine wpAnyH_take (i := 16) (oi := { dst := some 127, op := Op.indexAddr 24 (Operand.tmp 126) (Operand.const (Value.int IntKind.i64 0)), type := 0, pos := "more.go:99", after := #[{ on := 15, ground := Ground.data }, { on := 13, ground := Ground.guard }], guard := some (13, true) }) (v := ?_) rfl (by kernel_rfl) (by kernel_rfl) (by kernel_rfl) (fun _ _ _ h => h) (Or.inl ⟨by rfl, ?_⟩) (by assumption) ?_
    rotate_left
    · (intro w hSw; (try dsimp only at hSw); go_simp; try with_reducible rfl)
    try simp only [Act.put, List.setIfInBounds_toArray, List.set_cons_zero, List.set_cons_succ]
    refine wpAnyH_take (i := 17) (oi := { dst := some 128, op := Op.load 9 (Operand.tmp 127), type := 9, pos := "more.go:99", after := #[{ on := 16, ground := Ground.data }, { on := 13, ground := Ground.guard }], guard := some (13, true) }) (v := ?_) rfl (by kernel_rfl) (by kernel_rfl) (by kernel_rfl) (fun _ _ _ h => h) (Or.inl ⟨by rfl, ?_⟩) (by assumption) ?_
    rotate_left
    · (intro w hSw; (try dsimp only at hSw); go_simp; try with_reducible rfl)
    try simp only [Act.put, List.setIfInBounds_toArray, List.set_cons_zero, List.set_cons_succ]
    refine wpAnyH_ready (rs := [20]) (by kernel_rfl) (by simp) ?_
    refine AllReadyH.cons (o := { dst := some 131, op := Op.call { callee := Callee.value (Operand.func 30), args := #[Operand.tmp 130], argTypes := #[3] }, type := 9, pos := "more.go:99", after := #[{ on := 19, ground := Ground.data }, { on := 15, ground := Ground.chain }, { on := 13, ground := Ground.guard }], guard := some (13, true) }) rfl (fun K hK => ?_) AllReadyH.nil
    go_simp
    go_at_call 30
    refine (H8.out _).mono ?_
    rintro e w6 ⟨rfl, ho6⟩
    have HZ6 := Lib.hid (HZ5.out.then ho6)
    refine hK.out _ _ (⟨HZ6, ho6.cellOf hc5 (fun h => h)⟩) (fun hHeld => ?_)
    clear hK K
    try simp only [Act.put, List.setIfInBounds_toArray, List.set_cons_zero, List.set_cons_succ]
    clear hH5
    refine wpAnyH_take (i := 21) (oi := { dst := some 132, op := Op.binOp BinOp.eql 9 (Operand.tmp 128) (Operand.tmp 131) 9, type := 4, pos := "more.go:99", after := #[{ on := 17, ground := Ground.data }, { on := 20, ground := Ground.data }, { on := 13, ground := Ground.guard }], guard := some (13, true) }) (v := ?_) rfl (by kernel_rfl) (by kernel_rfl) (by kernel_rfl) (fun _ _ _ h => h) (Or.inl ⟨by rfl, ?_⟩) (by assumption) ?_
    rotate_left
    · (intro w hSw; (try dsimp only at hSw); go_simp; try with_reducible rfl)
    try simp only [Act.put, List.setIfInBounds_toArray, List.set_cons_zero, List.set_cons_succ]
    refine wpAnyH_take (i := 22) (oi := { dst := some 133, op := Op.pick (Operand.tmp 124) (Operand.tmp 132) (Operand.const (Value.bool false)), type := 4, pos := "more.go:99", after := #[{ on := 13, ground := Ground.data }, { on := 21, ground := Ground.data }], guard := none }) (v := ?_) rfl (by kernel_rfl) (by kernel_rfl) (by kernel_rfl) (fun _ _ _ h => h) (Or.inl ⟨by rfl, ?_⟩) (by assumption) ?_
    rotate_left
    · (intro w hSw; (try dsimp only at hSw); go_simp; try with_reducible rfl)
    try simp only [Act.put, List.setIfInBounds_toArray, List.set_cons_zero, List.set_cons_succ]
    refine wpAnyH_take (i := 23) (oi := { dst := some 134, op := Op.move (Operand.tmp 133), type := 4, pos := "more.go:99", after := #[{ on := 22, ground := Ground.data }, { on := 20, ground := Ground.chain }], guard := none }) (v := ?_) rfl (by kernel_rfl) (by kernel_rfl) (by kernel_rfl) (fun _ _ _ h => h) (Or.inl ⟨by rfl, ?_⟩) (by assumption) ?_
    rotate_left
    · (intro w hSw; (try dsimp only at hSw); go_simp; try with_reducible rfl)
    try simp only [Act.put, List.setIfInBounds_toArray, List.set_cons_zero, List.set_cons_succ]
    refine wpAnyH_take (i := 24) (oi := { dst := some 135, op := Op.move (Operand.tmp 9), type := 9, pos := "more.go:99", after := #[{ on := 23, ground := Ground.guard }], guard := some (23, true) }) (v := ?_) rfl (by kernel_rfl) (by kernel_rfl) (by kernel_rfl) (fun _ _ _ h => h) (Or.inl ⟨by rfl, ?_⟩) (by assumption) ?_
    rotate_left
    · (intro w hSw; (try dsimp only at hSw); go_simp; try with_reducible rfl)
    try simp only [Act.put, List.setIfInBounds_toArray, List.set_cons_zero, List.set_cons_succ]
    refine wpAnyH_take (i := 25) (oi := { dst := some 136, op := Op.call { callee := Callee.builtin Builtin.len, args := #[Operand.tmp 135], argTypes := #[9] }, type := 3, pos := "more.go:99", after := #[{ on := 24, ground := Ground.data }, { on := 23, ground := Ground.guard }], guard := some (23, true) }) (v := ?_) rfl (by kernel_rfl) (by kernel_rfl) (by kernel_rfl) (fun _ _ _ h => h) (Or.inl ⟨by rfl, ?_⟩) (by assumption) ?_
    rotate_left
    · (intro w hSw; (try dsimp only at hSw); go_simp; try with_reducible rfl)
    try simp only [Act.put, List.setIfInBounds_toArray, List.set_cons_zero, List.set_cons_succ]
    refine wpAnyH_take (i := 26) (oi := { dst := some 137, op := Op.move (Operand.tmp 15), type := 9, pos := "more.go:99", after := #[{ on := 23, ground := Ground.guard }], guard := some (23, true) }) (v := ?_) rfl (by kernel_rfl) (by kernel_rfl) (by kernel_rfl) (fun _ _ _ h => h) (Or.inl ⟨by rfl, ?_⟩) (by assumption) ?_
    rotate_left
    · (intro w hSw; (try dsimp only at hSw); go_simp; try with_reducible rfl)
    try simp only [Act.put, List.setIfInBounds_toArray, List.set_cons_zero, List.set_cons_succ]
    refine wpAnyH_take (i := 27) (oi := { dst := some 138, op := Op.call { callee := Callee.builtin Builtin.len, args := #[Operand.tmp 137], argTypes := #[9] }, type := 3, pos := "more.go:99", after := #[{ on := 26, ground := Ground.data }, { on := 23, ground := Ground.guard }], guard := some (23, true) }) (v := ?_) rfl (by kernel_rfl) (by kernel_rfl) (by kernel_rfl) (fun _ _ _ h => h) (Or.inl ⟨by rfl, ?_⟩) (by assumption) ?_
    rotate_left
    · (intro w hSw; (try dsimp only at hSw); go_simp; try with_reducible rfl)
    try simp only [Act.put, List.setIfInBounds_toArray, List.set_cons_zero, List.set_cons_succ]
    refine wpAnyH_take (i := 28) (oi := { dst := some 139, op := Op.binOp BinOp.leq 3 (Operand.tmp 136) (Operand.tmp 138) 3, type := 4, pos := "more.go:99", after := #[{ on := 25, ground := Ground.data }, { on := 27, ground := Ground.data }, { on := 23, ground := Ground.guard }], guard := some (23, true) }) (v := ?_) rfl (by kernel_rfl) (by kernel_rfl) (by kernel_rfl) (fun _ _ _ h => h) (Or.inl ⟨by rfl, ?_⟩) (by assumption) ?_
    rotate_left
    · (intro w hSw; (try dsimp only at hSw); go_simp; try with_reducible rfl)
    try simp only [Act.put, List.setIfInBounds_toArray, List.set_cons_zero, List.set_cons_succ]
    refine wpAnyH_take (i := 29) (oi := { dst := some 140, op := Op.pick (Operand.tmp 134) (Operand.tmp 139) (Operand.const (Value.bool false)), type := 4, pos := "more.go:99", after := #[{ on := 23, ground := Ground.data }, { on := 28, ground := Ground.data }], guard := none }) (v := ?_) rfl (by kernel_rfl) (by kernel_rfl) (by kernel_rfl) (fun _ _ _ h => h) (Or.inl ⟨by rfl, ?_⟩) (by assumption) ?_
    rotate_left
    · (intro w hSw; (try dsimp only at hSw); go_simp; try with_reducible rfl)
    try simp only [Act.put, List.setIfInBounds_toArray, List.set_cons_zero, List.set_cons_succ]
    refine wpAnyH_take (i := 30) (oi := { dst := some 141, op := Op.move (Operand.tmp 140), type := 4, pos := "more.go:99", after := #[{ on := 29, ground := Ground.data }, { on := 23, ground := Ground.chain }], guard := none }) (v := ?_) rfl (by kernel_rfl) (by kernel_rfl) (by kernel_rfl) (fun _ _ _ h => h) (Or.inl ⟨by rfl, ?_⟩) (by assumption) ?_
    rotate_left
    · (intro w hSw; (try dsimp only at hSw); go_simp; try with_reducible rfl)
    try simp only [Act.put, List.setIfInBounds_toArray, List.set_cons_zero, List.set_cons_succ]
    refine wpAnyH_take (i := 31) (oi := { dst := some 142, op := Op.move (Operand.tmp 15), type := 9, pos := "more.go:99", after := #[{ on := 30, ground := Ground.guard }], guard := some (30, true) }) (v := ?_) rfl (by kernel_rfl) (by kernel_rfl) (by kernel_rfl) (fun _ _ _ h => h) (Or.inl ⟨by rfl, ?_⟩) (by assumption) ?_
    rotate_left
    · (intro w hSw; (try dsimp only at hSw); go_simp; try with_reducible rfl)
    try simp only [Act.put, List.setIfInBounds_toArray, List.set_cons_zero, List.set_cons_succ]
    refine wpAnyH_take (i := 32) (oi := { dst := some 143, op := Op.move (Operand.tmp 9), type := 9, pos := "more.go:99", after := #[{ on := 30, ground := Ground.guard }], guard := some (30, true) }) (v := ?_) rfl (by kernel_rfl) (by kernel_rfl) (by kernel_rfl) (fun _ _ _ h => h) (Or.inl ⟨by rfl, ?_⟩) (by assumption) ?_
    rotate_left
    · (intro w hSw; (try dsimp only at hSw); go_simp; try with_reducible rfl)
    try simp only [Act.put, List.setIfInBounds_toArray, List.set_cons_zero, List.set_cons_succ]
    refine wpAnyH_take (i := 33) (oi := { dst := some 144, op := Op.call { callee := Callee.builtin Builtin.len, args := #[Operand.tmp 143], argTypes := #[9] }, type := 3, pos := "more.go:99", after := #[{ on := 32, ground := Ground.data }, { on := 30, ground := Ground.guard }], guard := some (30, true) }) (v := ?_) rfl (by kernel_rfl) (by kernel_rfl) (by kernel_rfl) (fun _ _ _ h => h) (Or.inl ⟨by rfl, ?_⟩) (by assumption) ?_
    rotate_left
    · (intro w hSw; (try dsimp only at hSw); go_simp; try with_reducible rfl)
    try simp only [Act.put, List.setIfInBounds_toArray, List.set_cons_zero, List.set_cons_succ]
    refine wpAnyH_take (i := 34) (oi := { dst := some 145, op := Op.slice 9 (Operand.tmp 142) none (some (Operand.tmp 144)) none, type := 9, pos := "more.go:99", after := #[{ on := 31, ground := Ground.data }, { on := 33, ground := Ground.data }, { on := 30, ground := Ground.guard }], guard := some (30, true) }) (v := ?_) rfl (by kernel_rfl) (by kernel_rfl) (by kernel_rfl) (fun _ _ _ h => h) (Or.inl ⟨by rfl, ?_⟩) (by assumption) ?_
    rotate_left
    · (intro w hSw; (try dsimp only at hSw); go_simp; try with_reducible rfl)
    try simp only [Act.put, List.setIfInBounds_toArray, List.set_cons_zero, List.set_cons_succ]
    refine wpAnyH_take (i := 35) (oi := { dst := some 146, op := Op.move (Operand.tmp 9), type := 9, pos := "more.go:99", after := #[{ on := 30, ground := Ground.guard }], guard := some (30, true) }) (v := ?_) rfl (by kernel_rfl) (by kernel_rfl) (by kernel_rfl) (fun _ _ _ h => h) (Or.inl ⟨by rfl, ?_⟩) (by assumption) ?_
    rotate_left
    · (intro w hSw; (try dsimp only at hSw); go_simp; try with_reducible rfl)
    try simp only [Act.put, List.setIfInBounds_toArray, List.set_cons_zero, List.set_cons_succ]
    refine wpAnyH_take (i := 36) (oi := { dst := some 147, op := Op.binOp BinOp.eql 9 (Operand.tmp 145) (Operand.tmp 146) 9, type := 4, pos := "more.go:99", after := #[{ on := 34, ground := Ground.data }, { on := 35, ground := Ground.data }, { on := 30, ground := Ground.guard }], guard := some (30, true) }) (v := ?_) rfl (by kernel_rfl) (by kernel_rfl) (by kernel_rfl) (fun _ _ _ h => h) (Or.inl ⟨by rfl, ?_⟩) (by assumption) ?_
    rotate_left
    · (intro w hSw; (try dsimp only at hSw); go_simp; try with_reducible rfl)
    try simp only [Act.put, List.setIfInBounds_toArray, List.set_cons_zero, List.set_cons_succ]
    refine wpAnyH_take (i := 37) (oi := { dst := some 148, op := Op.pick (Operand.tmp 141) (Operand.tmp 147) (Operand.const (Value.bool false)), type := 4, pos := "more.go:99", after := #[{ on := 30, ground := Ground.data }, { on := 36, ground := Ground.data }], guard := none }) (v := ?_) rfl (by kernel_rfl) (by kernel_rfl) (by kernel_rfl) (fun _ _ _ h => h) (Or.inl ⟨by rfl, ?_⟩) (by assumption) ?_
    rotate_left
    · (intro w hSw; (try dsimp only at hSw); go_simp; try with_reducible rfl)
    try simp only [Act.put, List.setIfInBounds_toArray, List.set_cons_zero, List.set_cons_succ]
    refine wpAnyH_take (i := 38) (oi := { dst := some 6, op := Op.assign (Operand.tmp 148), type := 4, pos := "more.go:99", after := #[{ on := 37, ground := Ground.data }, { on := 30, ground := Ground.chain }, { on := 0, ground := Ground.phase }, { on := 1, ground := Ground.phase }, { on := 2, ground := Ground.phase }, { on := 3, ground := Ground.phase }, { on := 4, ground := Ground.phase }, { on := 5, ground := Ground.phase }, { on := 6, ground := Ground.phase }, { on := 7, ground := Ground.phase }, { on := 8, ground := Ground.phase }, { on := 9, ground := Ground.phase }, { on := 10, ground := Ground.phase }, { on := 11, ground := Ground.phase }, { on := 12, ground := Ground.phase }, { on := 13, ground := Ground.phase }, { on := 14, ground := Ground.phase }, { on := 15, ground := Ground.phase }, { on := 16, ground := Ground.phase }, { on := 17, ground := Ground.phase }, { on := 18, ground := Ground.phase }, { on := 19, ground := Ground.phase }, { on := 20, ground := Ground.phase }, { on := 21, ground := Ground.phase }, { on := 22, ground := Ground.phase }, { on := 23, ground := Ground.phase }, { on := 24, ground := Ground.phase }, { on := 25, ground := Ground.phase }, { on := 26, ground := Ground.phase }, { on := 27, ground := Ground.phase }, { on := 28, ground := Ground.phase }, { on := 29, ground := Ground.phase }, { on := 30, ground := Ground.phase }, { on := 31, ground := Ground.phase }, { on := 32, ground := Ground.phase }, { on := 33, ground := Ground.phase }, { on := 34, ground := Ground.phase }, { on := 35, ground := Ground.phase }, { on := 36, ground := Ground.phase }, { on := 37, ground := Ground.phase }], guard := none }) (v := ?_) rfl (by kernel_rfl) (by kernel_rfl) (by kernel_rfl) (fun _ _ _ h => h) (Or.inl ⟨by rfl, ?_⟩) (by assumption) ?_
    rotate_left
    · (intro w hSw; (try dsimp only at hSw); go_simp; try with_reducible rfl)
    try simp only [Act.put, List.setIfInBounds_toArray, List.set_cons_zero, List.set_cons_succ]
    refine wpAnyH_done (by kernel_rfl) ?_ _
    go_wp2_with fail
    go_ret
    exact ⟨rfl, HOA.out.then HZ6.out⟩
end Go.Proofs.YtnmhaipjfpongabGreatDoor

/- ActSorts' walk: sorted lines rise, and are all lines. No condition but lengths, and what the variables hold. -/
import Derived.Test.YtnmhaipjfpongaaGreatDoorGj
import Derived.Deep.RegionHeld3
import Derived.Deep.RegionLaw
import Derived.Deep.DeepCutAuto
import Derived.Deep.LoopGhost
import Derived.Deep.CutBlock
import Derived.IntWalk
import Derived.Deep.DrawnRows
namespace Go.Proofs.YtnmhaipjfpongaaGreatDoor
open Go.ChangeShapes Go.WideShapes Go.ChangeAt Go.RowKit
attribute [local go_sem ↓] Go.wp_at_zero Go.wp_at_succ

set_option maxRecDepth 100000 in
set_option maxHeartbeats 2000000 in
theorem sorts_long (w : World) (P : Nat → Addr) (a b c : B) (hA : ActVars w P) (h : 500 < a.length ∨ 500 < b.length ∨ 500 < c.length) :
    Calls Tryz.prog 6 #[S a, S b, S c] w (RetE (.bool true) w) := by
  have HT := Lib.hid (acted_any w P hA)
  clear hA
  by_cases h1 : 500 < a.length
  · have h1z : (500 : Int) < (a.length : Int) := by omega
    clear h h1
    go_enter Tryz.func6, Tryz.ntmps6
    go_wp2_with fail
    refine (HT.out).mono ?_
    rintro e w1 ⟨rfl, ho⟩
    have HO := Lib.hid ho
    clear ho
    go_wp2_with fail
    go_ret
    exact ⟨rfl, HO.out⟩
  · have h1z : ¬ (500 : Int) < (a.length : Int) := by omega
    by_cases h2 : 500 < b.length
    · have h2z : (500 : Int) < (b.length : Int) := by omega
      clear h h1 h2
      go_enter Tryz.func6, Tryz.ntmps6
      go_wp2_with fail
      refine (HT.out).mono ?_
      rintro e w1 ⟨rfl, ho⟩
      have HO := Lib.hid ho
      clear ho
      go_wp2_with fail
      go_ret
      exact ⟨rfl, HO.out⟩
    · have h2z : ¬ (500 : Int) < (b.length : Int) := by omega
      have h3z : (500 : Int) < (c.length : Int) := by omega
      clear h h1 h2
      go_enter Tryz.func6, Tryz.ntmps6
      go_wp2_with fail
      refine (HT.out).mono ?_
      rintro e w1 ⟨rfl, ho⟩
      have HO := Lib.hid ho
      clear ho
      go_wp2_with fail
      go_ret
      exact ⟨rfl, HO.out⟩

set_option linter.unusedSimpArgs false in
set_option maxRecDepth 100000 in
set_option maxHeartbeats 16000000 in
theorem walkActSorts (w : World) (P : Nat → Addr) (a b c : B) (hA : ActVars w P) (ha : a.length ≤ 500) (hb : b.length ≤ 500) (hc : c.length ≤ 500) :
    Calls Tryz.prog 6 #[S a, S b, S c] w (RetE (.bool true) w) := by
  have hT := acted_any w P hA
  -- what is computed
  have hsum : sumLen [a, b, c] ≤ 1500 := by simp [sumLen]; omega
  have hel := ended_all [a, b, c]
  have hperm : (allB [c, a, b]).Perm (allB [a, b, c]) := by
    have e1 : allB [c, a, b] = linesB c ++ (linesB a ++ linesB b) := by simp [allB]
    have e2 : allB [a, b, c] = (linesB a ++ linesB b) ++ linesB c := by simp [allB]
    rw [e1, e2]
    exact List.perm_append_comm
  have hsame := sortB_perm hperm
  have hnl : ∀ x ∈ sortB (allB [a, b, c]), (10 : UInt8) ∉ x := fun x hx => mem_all (mem_sort hx)
  have hlx := lines_ended hnl
  have hidem := sortB_idem (allB [a, b, c])
  have hstep := fun i x y => sortB_step (l := allB [a, b, c]) (i := i) (x := x) (y := y)
  have hpl : (endedB (sortB (allB [a, b, c]))).length = (endedB (allB [a, b, c])).length := ended_perm (List.mergeSort_perm _ _)
  have hll : (sortB (allB [a, b, c])).length = (allB [a, b, c]).length := sortB_len _
  have s1 : actOut [115, 111, 114, 116] [] [a, b, c] = endedB (sortB (allB [a, b, c])) := act_sort _ _
  have s2 : actOut [115, 111, 114, 116] [] [c, a, b] = endedB (sortB (allB [a, b, c])) := by rw [act_sort, ← hsame]; rfl
  have s3 : actOut [99, 111, 117, 110, 116] [] [a, b, c] = Lib.decDigits (sortB (allB [a, b, c])).length ++ 32 :: (Lib.decDigits (sumLen [a, b, c]) ++ [10]) := by rw [act_count, hll]; simp
  generalize sortB (allB [a, b, c]) = L at *
  have hx1 : allB [endedB L] = L := by simp [allB, hlx]
  have s4 : actOut [115, 111, 114, 116] [] [endedB L] = endedB L := by
    rw [act_sort, hx1]
    show endedB (sortB L) = _
    rw [hidem]
  have s5 : actOut [115, 111, 114, 116] [111, 110, 99, 101] [endedB L] = endedB (Lib.compact L) := by
    rw [act_sort, hx1]
    show endedB (Lib.compact (sortB L)) = _
    rw [hidem]
  have s6 : actOut [99, 111, 117, 110, 116] [] [endedB L] = Lib.decDigits L.length ++ 32 :: (Lib.decDigits (sumLen [endedB L]) ++ [10]) := by rw [act_count, hx1]; simp
  have hxl : (endedB L).length ≤ 1503 := by simp at hel; omega
  have hul : (endedB (Lib.compact L)).length ≤ 1503 := Nat.le_trans (ended_sub (compact_sublist L)) hxl
  have hLn : L.length ≤ 1503 := Nat.le_trans (len_ended L) hxl
  have hlu : linesB (endedB (Lib.compact L)) = Lib.compact L := lines_ended fun x hx => hnl x ((compact_sublist L).subset hx)
  have hd1 := dec_le L.length (by omega)
  have hd2 := dec_le (sumLen [a, b, c]) (by omega)
  have hd3 := dec_le (sumLen [endedB L]) (by simp [sumLen]; omega)
  have H1 := Lib.hid (fun W (hW : Ext w W) => run3_ok W P [115, 111, 114, 116] [] a b c _ (by decide) (by omega) (by omega) (by omega) (hA.ext hW) (run_zero (by kernel_rfl) (by rw [s1]; omega)) s1)
  have H2 := Lib.hid (fun W (hW : Ext w W) => run3_ok W P [115, 111, 114, 116] [] c a b _ (by decide) (by omega) (by omega) (by omega) (hA.ext hW) (run_zero (by kernel_rfl) (by rw [s2]; omega)) s2)
  have H3 := Lib.hid (fun W (hW : Ext w W) => run3_ok W P [99, 111, 117, 110, 116] [] a b c _ (by decide) (by omega) (by omega) (by omega) (hA.ext hW) (run_zero (by kernel_rfl) (by rw [s3]; simp; omega)) s3)
  have H4 := Lib.hid (fun W (hW : Ext w W) => run1_ok W P [115, 111, 114, 116] [] (endedB L) _ (by decide) (by omega) (hA.ext hW) (run_zero (by kernel_rfl) (by rw [s4]; omega)) s4)
  have H5 := Lib.hid (fun W (hW : Ext w W) => run1_ok W P [115, 111, 114, 116] [111, 110, 99, 101] (endedB L) _ (by decide) (by omega) (hA.ext hW) (run_zero (by kernel_rfl) (by rw [s5]; omega)) s5)
  have H6 := Lib.hid (fun W (hW : Ext w W) => run1_ok W P [99, 111, 117, 110, 116] [] (endedB L) _ (by decide) (by omega) (hA.ext hW) (run_zero (by kernel_rfl) (by rw [s6]; simp; omega)) s6)
  have H7 := Lib.hid (fun W => refLines_any W (endedB L) (by omega))
  have H8 := Lib.hid (fun W => refLines_any W (endedB (Lib.compact L)) (by omega))
  have H9 := Lib.hid (fun W => cut_head W (Lib.decDigits L.length) (Lib.decDigits (sumLen [a, b, c]) ++ [10]) (dec_no32 _) (by simp; omega))
  have H10 := Lib.hid (fun W => cut_head W (Lib.decDigits L.length) (Lib.decDigits (sumLen [endedB L]) ++ [10]) (dec_no32 _) (by simp; omega))
  rw [hlx] at H7
  rw [hlu] at H8
  have HST := Lib.hid hstep
  have HT := Lib.hid hT
  generalize endedB L = x at *
  generalize endedB (Lib.compact L) = u at *
  generalize Lib.decDigits L.length = d at *
  generalize d ++ 32 :: (Lib.decDigits (sumLen [a, b, c]) ++ [10]) = n at *
  generalize d ++ 32 :: (Lib.decDigits (sumLen [x]) ++ [10]) = m at *
  have h1z : ¬ (500 : Int) < (a.length : Int) := by omega
  have h2z : ¬ (500 : Int) < (b.length : Int) := by omega
  have h3z : ¬ (500 : Int) < (c.length : Int) := by omega
  have hLz : (L.length : Int) ≤ 1503 := by omega
  clear hT hsum hel hperm hsame hnl hlx hidem hstep hpl hll s1 s2 s3 hx1 s4 s5 s6 hxl hul hlu hd1 hd2 hd3 hA ha hb hc hLn
  go_enter Tryz.func6, Tryz.ntmps6
  go_wp2_with fail
  refine (HT.out).mono ?_
  rintro e w1 ⟨rfl, ho⟩
  have HO1 := Lib.hid ho
  clear ho
  go_wp2_with fail
  refine (H1.out w1 HO1.out).mono ?_
  rintro e w2 ⟨rfl, ho⟩
  have HO2 := Lib.hid (HO1.out.then ho)
  clear ho
  go_wp2_with fail
  refine (H2.out w2 HO2.out).mono ?_
  rintro e w3 ⟨rfl, ho⟩
  have HO3 := Lib.hid (HO2.out.then ho)
  clear ho
  go_wp2_with fail
  refine (H4.out w3 HO3.out).mono ?_
  rintro e w4 ⟨rfl, ho⟩
  have HO4 := Lib.hid (HO3.out.then ho)
  clear ho
  go_wp2_with fail
  refine (H5.out w4 HO4.out).mono ?_
  rintro e w5 ⟨rfl, ho⟩
  have HO5 := Lib.hid (HO4.out.then ho)
  clear ho
  go_wp2_with fail
  refine (H3.out w5 HO5.out).mono ?_
  rintro e w6 ⟨rfl, ho⟩
  have HO6 := Lib.hid (HO5.out.then ho)
  clear ho
  go_wp2_with fail
  refine (H6.out w6 HO6.out).mono ?_
  rintro e w7 ⟨rfl, ho⟩
  have HO7 := Lib.hid (HO6.out.then ho)
  clear ho
  go_wp2_with fail
  refine (H7.out w7).mono ?_
  rintro e w8 ⟨v8, rfl, ho, hr⟩
  have HO8 := Lib.hid (HO7.out.then ho)
  have HR8 := Lib.hid hr
  clear hr ho
  obtain ⟨a8, c8, rfl, hcap8, _, hc8⟩ := HR8.out
  have HC8 := Lib.hid hc8
  clear hc8
  go_wp2_with fail
  go_loopw [21] (fun i wq => ∃ j : Nat, 1 ≤ j ∧ j ≤ L.length + 1 ∧ i = .int .i64 j ∧ Hid (Ext w8 wq)) (fun i _ => L.length - (intOf i).toNat)
  case atStart => exact ⟨1, Nat.le_refl _, by omega, rfl, Lib.hid (Only.refl _ _)⟩
  case round =>
    obtain ⟨j, hj1, hj, rfl, HX⟩ := hrel
    by_cases hlt : j < L.length
    · have hltz : (j : Int) < (L.length : Int) := by omega
      have hj0 : (0 : Int) ≤ (j : Int) := by omega
      obtain ⟨b8, off8, rfl, hcell⟩ := HC8.out (by intro h; rw [h] at hlt; simp at hlt)
      obtain ⟨k, hk⟩ : ∃ k, j = k + 1 := ⟨j - 1, by omega⟩
      obtain ⟨y, hy⟩ : ∃ y, L[j]? = some y := ⟨_, List.getElem?_eq_getElem hlt⟩
      obtain ⟨y', hy'⟩ : ∃ y, L[k]? = some y := ⟨_, List.getElem?_eq_getElem (by omega)⟩
      have d0 := HX.out.cellOf (hcell j y hy) (fun h => h)
      have d1 := HX.out.cellOf (hcell k y' hy') (fun h => h)
      have hbl := HST.out k y' y hy' (hk ▸ hy)
      have hwk : IntKind.i64.wrap ((j : Int) - 1) = (k : Int) := by rw [show (j : Int) - 1 = (k : Int) by omega]; exact IntWalk.i64_in _ (by omega)
      have hk0 : (0 : Int) ≤ (k : Int) := by omega
      have hkl : (k : Int) < (L.length : Int) := by omega
      clear hcell hy hy' hk
      go_wp2_with fail
      go_quiet (fail)
      clear hwk
      go_wp2_with fail
      go_roundw
      case rel => exact ⟨j + 1, by omega, by omega, by go_num, Lib.hid (HX.out.thenDrewN _)⟩
      case measure => simp [intOf]; omega
    · have hltz : ¬ (j : Int) < (L.length : Int) := by omega
      have HO9 := Lib.hid (HO8.out.then HX.out)
      go_wp2_with fail
      refine (H8.out wr).mono ?_
      rintro e w9 ⟨v9, rfl, ho, hr⟩
      have HOA := Lib.hid (HO9.out.then ho)
      have HX9 := Lib.hid (HX.out.then ho)
      have HR9 := Lib.hid hr
      clear hr ho
      obtain ⟨a9, c9, rfl, hcap9, hm9, hc9⟩ := HR9.out
      have HC9 := Lib.hid hc9
      have hcl := Lib.compact_length_le L
      clear hc9 hlt hltz
      go_wp2_with fail
      go_loopw [23, 24] (fun o i wq => ∃ j : Nat, j ≤ L.length ∧ i = .int .i64 j ∧ ∃ q : Nat, o = .int .i64 q ∧ q ≤ (Lib.compact L).length ∧ Hid (q = (keptB L j).length) ∧ Hid (Ext w9 wq)) (fun _ i _ => L.length - (intOf i).toNat)
      case atStart => exact ⟨0, Nat.zero_le _, rfl, 0, rfl, Nat.zero_le _, Lib.hid rfl, Lib.hid (Only.refl _ _)⟩
      case round =>
        obtain ⟨j, hj, rfl, q, rfl, hq, HQ, HX⟩ := hrel
        by_cases hlt : j < L.length
        · have hltz : (j : Int) < (L.length : Int) := by omega
          have hj0 : (0 : Int) ≤ (j : Int) := by omega
          obtain ⟨b8, off8, rfl, hcell⟩ := HC8.out (by intro h; rw [h] at hlt; simp at hlt)
          obtain ⟨y, hy⟩ : ∃ y, L[j]? = some y := ⟨_, List.getElem?_eq_getElem hlt⟩
          have d0 := HX.out.cellOf (HX9.out.cellOf (hcell j y hy) (fun h => h)) (fun h => h)
          have HCE := Lib.hid hcell
          by_cases hold : ∃ k, j = k + 1 ∧ L[k]? = some y
          · obtain ⟨k, hk, hy'⟩ := hold
            have d1 := HX.out.cellOf (HX9.out.cellOf (hcell k y hy') (fun h => h)) (fun h => h)
            have HKO := Lib.hid (kept_old (hk ▸ hy) hy')
            have hwk : IntKind.i64.wrap ((j : Int) - 1) = (k : Int) := by rw [show (j : Int) - 1 = (k : Int) by omega]; exact IntWalk.i64_in _ (by omega)
            have hk0 : (0 : Int) ≤ (k : Int) := by omega
            have hkl : (k : Int) < (L.length : Int) := by omega
            have hg : decide (0 < j) = true := decide_eq_true (by omega)
            have hee : (y == y) = true := by simp
            have HK := Lib.hid hk
            clear hcell hy hy' hk
            go_wp2_with fail
            go_quiet (fail)
            clear hwk
            go_wp2_with fail
            go_roundw
            case rel => exact ⟨j + 1, by omega, by go_num, q, rfl, hq, Lib.hid (by rw [HQ.out, HK.out, HKO.out]), Lib.hid (HX.out.thenDrewN _)⟩
            case measure => simp [intOf]; omega
          · have hnew : ∀ k z, j = k + 1 → L[k]? = some z → y ≠ z := fun k z e1 e2 e3 => hold ⟨k, e1, by rw [e3]; exact e2⟩
            have hat := kept_at hy hnew
            have HKN := Lib.hid (kept_new hy hnew)
            have HNE := Lib.hid hnew
            rw [← HQ.out] at hat
            have hql := (List.getElem?_eq_some_iff.1 hat).1
            obtain ⟨b9, off9, rfl, hcell9⟩ := HC9.out (by intro h; rw [h] at hql; simp at hql)
            have d2 := HX.out.cellOf (hcell9 q y hat) (fun h => h)
            clear hcell hy hold hnew hat hcell9
            go_upto_region 23 with fail
            go_cut [147] (fun cc wx => cc = .bool false ∧ Hid (Ext wr wx))
            case first =>
              by_cases h0 : j = 0
              · have d0' : wr.cell? ⟨b8, off8, none⟩ = some (S y) := by simpa [h0] using d0
                clear d0
                subst h0
                go_quiet (fail)
                go_wp2_with fail
                go_meet
                exact ⟨rfl, Lib.hid (Only.drewN _ _ _)⟩
              · obtain ⟨k, hk⟩ : ∃ k, j = k + 1 := ⟨j - 1, by omega⟩
                obtain ⟨y', hy'⟩ : ∃ y, L[k]? = some y := ⟨_, List.getElem?_eq_getElem (by omega)⟩
                have d1 := HX.out.cellOf (HX9.out.cellOf (HCE.out k y' hy') (fun h => h)) (fun h => h)
                have hee : (y == y') = false := beq_eq_false_iff_ne.2 (HNE.out k y' hk hy')
                have hwk : IntKind.i64.wrap ((j : Int) - 1) = (k : Int) := by rw [show (j : Int) - 1 = (k : Int) by omega]; exact IntWalk.i64_in _ (by omega)
                have hk0 : (0 : Int) ≤ (k : Int) := by omega
                have hkl : (k : Int) < (L.length : Int) := by omega
                have hg : decide (0 < j) = true := decide_eq_true (by omega)
                clear hy' hk
                go_quiet (fail)
                go_wp2_with fail
                go_meet
                exact ⟨rfl, Lib.hid (Only.drewN _ _ _)⟩
            case rest =>
              obtain ⟨rfl, HXW⟩ := hcut
              have e0 := HXW.out.cellOf d0 (fun h => h)
              have e2 := HXW.out.cellOf d2 (fun h => h)
              have hqz : decide ((Lib.compact L).length ≤ q) = false := decide_eq_false (by omega)
              have hq0 : (0 : Int) ≤ (q : Int) := by omega
              have hq1 : (q : Int) < ((Lib.compact L).length : Int) := by omega
              have hee : (y == y) = true := by simp
              clear d0 d2
              go_wp2_with fail
              go_quiet (fail)
              go_wp2_with fail
              go_roundw
              case rel => exact ⟨j + 1, by omega, by go_num, q + 1, by go_num, hql, Lib.hid (by rw [HKN.out, List.length_append, ← HQ.out]; rfl), Lib.hid ((HX.out.then HXW.out).thenDrewN _)⟩
              case measure => simp [intOf]; omega
        · have hltz : ¬ (j : Int) < (L.length : Int) := by omega
          obtain rfl : j = L.length := by omega
          have hqe : q = (Lib.compact L).length := by rw [HQ.out, kept_all]
          subst hqe
          have hxx : (x == x) = true := by simp
          have hdd : (d == d) = true := by simp
          have HOB := Lib.hid (HOA.out.then HX.out)
          clear hq hlt
          go_wp2_with fail
          have H910 : Hid (∀ W y, (y = n ∨ y = m) → Calls Tryz.prog 34 #[S y, .int .u8 32] W (RetHead d W)) := Lib.hid (fun W y h => by rcases h with rfl | rfl; exact H9.out W; exact H10.out W)
          clear H9 H10 H1 H2 H3 H4 H5 H6 H7 H8 HST HT HO1 HO2 HO3 HO4 HO5 HO6 HO7 HO8 HO9 HOA HC8 HC9 HQ HX9 HR8 HR9 h1z h2z h3z hLz
          refine wp_region_held_drew (S := fun w' => Hid (Ext wr w')) (by kernel_rfl) (Lib.hid (Only.drew _ _)) (fun hHeld => ?_)
          refine wpAnyH_take (i := 0) (oi := { dst := some 165, op := Op.move (Operand.tmp 8), type := 9, pos := "files.go:283", after := #[], guard := none }) (v := ?_) rfl (by kernel_rfl) (by kernel_rfl) (by kernel_rfl) (fun _ _ _ h => h) (Or.inl ⟨by rfl, ?_⟩) (by assumption) ?_
          rotate_left
          · (intro w hSw; (try dsimp only at hSw); go_simp; try with_reducible rfl)
          try simp only [Act.put, List.setIfInBounds_toArray, List.set_cons_zero, List.set_cons_succ]
          refine wpAnyH_take (i := 1) (oi := { dst := some 166, op := Op.move (Operand.tmp 10), type := 9, pos := "files.go:283", after := #[], guard := none }) (v := ?_) rfl (by kernel_rfl) (by kernel_rfl) (by kernel_rfl) (fun _ _ _ h => h) (Or.inl ⟨by rfl, ?_⟩) (by assumption) ?_
          rotate_left
          · (intro w hSw; (try dsimp only at hSw); go_simp; try with_reducible rfl)
          try simp only [Act.put, List.setIfInBounds_toArray, List.set_cons_zero, List.set_cons_succ]
          refine wpAnyH_take (i := 2) (oi := { dst := some 167, op := Op.binOp BinOp.eql 9 (Operand.tmp 165) (Operand.tmp 166) 9, type := 4, pos := "files.go:283", after := #[{ on := 0, ground := Ground.data }, { on := 1, ground := Ground.data }], guard := none }) (v := ?_) rfl (by kernel_rfl) (by kernel_rfl) (by kernel_rfl) (fun _ _ _ h => h) (Or.inl ⟨by rfl, ?_⟩) (by assumption) ?_
          rotate_left
          · (intro w hSw; (try dsimp only at hSw); go_simp; try with_reducible rfl)
          try simp only [Act.put, List.setIfInBounds_toArray, List.set_cons_zero, List.set_cons_succ]
          refine wpAnyH_take (i := 3) (oi := { dst := some 168, op := Op.move (Operand.tmp 167), type := 4, pos := "files.go:283", after := #[{ on := 2, ground := Ground.data }], guard := none }) (v := ?_) rfl (by kernel_rfl) (by kernel_rfl) (by kernel_rfl) (fun _ _ _ h => h) (Or.inl ⟨by rfl, ?_⟩) (by assumption) ?_
          rotate_left
          · (intro w hSw; (try dsimp only at hSw); go_simp; try with_reducible rfl)
          try simp only [Act.put, List.setIfInBounds_toArray, List.set_cons_zero, List.set_cons_succ]
          refine wpAnyH_take (i := 4) (oi := { dst := some 169, op := Op.move (Operand.tmp 8), type := 9, pos := "files.go:283", after := #[{ on := 3, ground := Ground.guard }], guard := some (3, true) }) (v := ?_) rfl (by kernel_rfl) (by kernel_rfl) (by kernel_rfl) (fun _ _ _ h => h) (Or.inl ⟨by rfl, ?_⟩) (by assumption) ?_
          rotate_left
          · (intro w hSw; (try dsimp only at hSw); go_simp; try with_reducible rfl)
          try simp only [Act.put, List.setIfInBounds_toArray, List.set_cons_zero, List.set_cons_succ]
          refine wpAnyH_take (i := 5) (oi := { dst := some 170, op := Op.move (Operand.tmp 12), type := 9, pos := "files.go:283", after := #[{ on := 3, ground := Ground.guard }], guard := some (3, true) }) (v := ?_) rfl (by kernel_rfl) (by kernel_rfl) (by kernel_rfl) (fun _ _ _ h => h) (Or.inl ⟨by rfl, ?_⟩) (by assumption) ?_
          rotate_left
          · (intro w hSw; (try dsimp only at hSw); go_simp; try with_reducible rfl)
          try simp only [Act.put, List.setIfInBounds_toArray, List.set_cons_zero, List.set_cons_succ]
          refine wpAnyH_take (i := 6) (oi := { dst := some 171, op := Op.binOp BinOp.eql 9 (Operand.tmp 169) (Operand.tmp 170) 9, type := 4, pos := "files.go:283", after := #[{ on := 4, ground := Ground.data }, { on := 5, ground := Ground.data }, { on := 3, ground := Ground.guard }], guard := some (3, true) }) (v := ?_) rfl (by kernel_rfl) (by kernel_rfl) (by kernel_rfl) (fun _ _ _ h => h) (Or.inl ⟨by rfl, ?_⟩) (by assumption) ?_
          rotate_left
          · (intro w hSw; (try dsimp only at hSw); go_simp; try with_reducible rfl)
          try simp only [Act.put, List.setIfInBounds_toArray, List.set_cons_zero, List.set_cons_succ]
          refine wpAnyH_take (i := 7) (oi := { dst := some 172, op := Op.pick (Operand.tmp 168) (Operand.tmp 171) (Operand.const (Value.bool false)), type := 4, pos := "files.go:283", after := #[{ on := 3, ground := Ground.data }, { on := 6, ground := Ground.data }], guard := none }) (v := ?_) rfl (by kernel_rfl) (by kernel_rfl) (by kernel_rfl) (fun _ _ _ h => h) (Or.inl ⟨by rfl, ?_⟩) (by assumption) ?_
          rotate_left
          · (intro w hSw; (try dsimp only at hSw); go_simp; try with_reducible rfl)
          try simp only [Act.put, List.setIfInBounds_toArray, List.set_cons_zero, List.set_cons_succ]
          refine wpAnyH_take (i := 8) (oi := { dst := some 173, op := Op.move (Operand.tmp 172), type := 4, pos := "files.go:283", after := #[{ on := 7, ground := Ground.data }, { on := 3, ground := Ground.chain }], guard := none }) (v := ?_) rfl (by kernel_rfl) (by kernel_rfl) (by kernel_rfl) (fun _ _ _ h => h) (Or.inl ⟨by rfl, ?_⟩) (by assumption) ?_
          rotate_left
          · (intro w hSw; (try dsimp only at hSw); go_simp; try with_reducible rfl)
          try simp only [Act.put, List.setIfInBounds_toArray, List.set_cons_zero, List.set_cons_succ]
          refine wpAnyH_take (i := 9) (oi := { dst := some 174, op := Op.move (Operand.tmp 23), type := 3, pos := "files.go:283", after := #[{ on := 8, ground := Ground.guard }], guard := some (8, true) }) (v := ?_) rfl (by kernel_rfl) (by kernel_rfl) (by kernel_rfl) (fun _ _ _ h => h) (Or.inl ⟨by rfl, ?_⟩) (by assumption) ?_
          rotate_left
          · (intro w hSw; (try dsimp only at hSw); go_simp; try with_reducible rfl)
          try simp only [Act.put, List.setIfInBounds_toArray, List.set_cons_zero, List.set_cons_succ]
          refine wpAnyH_take (i := 10) (oi := { dst := some 175, op := Op.move (Operand.tmp 22), type := 25, pos := "files.go:283", after := #[{ on := 8, ground := Ground.guard }], guard := some (8, true) }) (v := ?_) rfl (by kernel_rfl) (by kernel_rfl) (by kernel_rfl) (fun _ _ _ h => h) (Or.inl ⟨by rfl, ?_⟩) (by assumption) ?_
          rotate_left
          · (intro w hSw; (try dsimp only at hSw); go_simp; try with_reducible rfl)
          try simp only [Act.put, List.setIfInBounds_toArray, List.set_cons_zero, List.set_cons_succ]
          refine wpAnyH_take (i := 11) (oi := { dst := some 176, op := Op.call { callee := Callee.builtin Builtin.len, args := #[Operand.tmp 175], argTypes := #[25] }, type := 3, pos := "files.go:283", after := #[{ on := 10, ground := Ground.data }, { on := 8, ground := Ground.guard }], guard := some (8, true) }) (v := ?_) rfl (by kernel_rfl) (by kernel_rfl) (by kernel_rfl) (fun _ _ _ h => h) (Or.inl ⟨by rfl, ?_⟩) (by assumption) ?_
          rotate_left
          · (intro w hSw; (try dsimp only at hSw); go_simp; try with_reducible rfl)
          try simp only [Act.put, List.setIfInBounds_toArray, List.set_cons_zero, List.set_cons_succ]
          refine wpAnyH_take (i := 12) (oi := { dst := some 177, op := Op.binOp BinOp.eql 3 (Operand.tmp 174) (Operand.tmp 176) 3, type := 4, pos := "files.go:283", after := #[{ on := 9, ground := Ground.data }, { on := 11, ground := Ground.data }, { on := 8, ground := Ground.guard }], guard := some (8, true) }) (v := ?_) rfl (by kernel_rfl) (by kernel_rfl) (by kernel_rfl) (fun _ _ _ h => h) (Or.inl ⟨by rfl, ?_⟩) (by assumption) ?_
          rotate_left
          · (intro w hSw; (try dsimp only at hSw); go_simp; try with_reducible rfl)
          try simp only [Act.put, List.setIfInBounds_toArray, List.set_cons_zero, List.set_cons_succ]
          refine wpAnyH_take (i := 13) (oi := { dst := some 178, op := Op.pick (Operand.tmp 173) (Operand.tmp 177) (Operand.const (Value.bool false)), type := 4, pos := "files.go:283", after := #[{ on := 8, ground := Ground.data }, { on := 12, ground := Ground.data }], guard := none }) (v := ?_) rfl (by kernel_rfl) (by kernel_rfl) (by kernel_rfl) (fun _ _ _ h => h) (Or.inl ⟨by rfl, ?_⟩) (by assumption) ?_
          rotate_left
          · (intro w hSw; (try dsimp only at hSw); go_simp; try with_reducible rfl)
          try simp only [Act.put, List.setIfInBounds_toArray, List.set_cons_zero, List.set_cons_succ]
          refine wpAnyH_take (i := 14) (oi := { dst := some 179, op := Op.move (Operand.tmp 178), type := 4, pos := "files.go:283", after := #[{ on := 13, ground := Ground.data }, { on := 8, ground := Ground.chain }], guard := none }) (v := ?_) rfl (by kernel_rfl) (by kernel_rfl) (by kernel_rfl) (fun _ _ _ h => h) (Or.inl ⟨by rfl, ?_⟩) (by assumption) ?_
          rotate_left
          · (intro w hSw; (try dsimp only at hSw); go_simp; try with_reducible rfl)
          try simp only [Act.put, List.setIfInBounds_toArray, List.set_cons_zero, List.set_cons_succ]
          refine wpAnyH_take (i := 15) (oi := { dst := some 180, op := Op.move (Operand.tmp 16), type := 9, pos := "files.go:283", after := #[{ on := 14, ground := Ground.guard }], guard := some (14, true) }) (v := ?_) rfl (by kernel_rfl) (by kernel_rfl) (by kernel_rfl) (fun _ _ _ h => h) (Or.inl ⟨by rfl, ?_⟩) (by assumption) ?_
          rotate_left
          · (intro w hSw; (try dsimp only at hSw); go_simp; try with_reducible rfl)
          try simp only [Act.put, List.setIfInBounds_toArray, List.set_cons_zero, List.set_cons_succ]
          refine wpAnyH_take (i := 19) (oi := { dst := some 184, op := Op.move (Operand.tmp 18), type := 9, pos := "files.go:283", after := #[{ on := 14, ground := Ground.guard }], guard := some (14, true) }) (v := ?_) rfl (by kernel_rfl) (by kernel_rfl) (by kernel_rfl) (fun _ _ _ h => h) (Or.inl ⟨by rfl, ?_⟩) (by assumption) ?_
          rotate_left
          · (intro w hSw; (try dsimp only at hSw); go_simp; try with_reducible rfl)
          try simp only [Act.put, List.setIfInBounds_toArray, List.set_cons_zero, List.set_cons_succ]
          refine wpAnyH_ready (rs := [16]) (by kernel_rfl) (by simp) ?_
          refine AllReadyH.cons (o := { dst := some 181, op := Op.call { callee := Callee.value (Operand.func 34), args := #[Operand.tmp 180, Operand.const (Value.int IntKind.u8 32)], argTypes := #[9, 5] }, type := 25, pos := "files.go:283", after := #[{ on := 15, ground := Ground.data }, { on := 14, ground := Ground.chain }, { on := 14, ground := Ground.guard }], guard := some (14, true) }) rfl (fun K hK => ?_) AllReadyH.nil
          go_simp
          go_at_call 34
          refine (H910.out _ n (.inl rfl)).mono ?_
          rintro e w5 ⟨g5, n5, c5, rfl, hc5, ho5⟩
          have HZ5 := Lib.hid ((Only.drew _ _ : Ext wr wr.drew).then ho5)
          refine hK.out _ _ (HZ5) (fun hHeld => ?_)
          clear hK K
          try simp only [Act.put, List.setIfInBounds_toArray, List.set_cons_zero, List.set_cons_succ]
          refine heldMono (S' := fun w' => Hid (Ext wr w') ∧ w'.cell? ⟨g5, 0, none⟩ = some (S d)) (fun _ h => h.1) _ _ _ _ ?_
          have hH5 : Hid (Ext wr w5) ∧ w5.cell? ⟨g5, 0, none⟩ = some (S d) := ⟨HZ5, hc5⟩
          clear hHeld
          refine wpAnyH_take (i := 17) (oi := { dst := some 182, op := Op.indexAddr 25 (Operand.tmp 181) (Operand.const (Value.int IntKind.i64 0)), type := 0, pos := "files.go:283", after := #[{ on := 16, ground := Ground.data }, { on := 14, ground := Ground.guard }], guard := some (14, true) }) (v := ?_) rfl (by kernel_rfl) (by kernel_rfl) (by kernel_rfl) (fun _ _ _ h => h) (Or.inl ⟨by rfl, ?_⟩) (by assumption) ?_
          rotate_left
          · (intro w hSw; (try dsimp only at hSw); go_simp; try with_reducible rfl)
          try simp only [Act.put, List.setIfInBounds_toArray, List.set_cons_zero, List.set_cons_succ]
          refine wpAnyH_take (i := 18) (oi := { dst := some 183, op := Op.load 9 (Operand.tmp 182), type := 9, pos := "files.go:283", after := #[{ on := 17, ground := Ground.data }, { on := 14, ground := Ground.guard }], guard := some (14, true) }) (v := ?_) rfl (by kernel_rfl) (by kernel_rfl) (by kernel_rfl) (fun _ _ _ h => h) (Or.inl ⟨by rfl, ?_⟩) (by assumption) ?_
          rotate_left
          · (intro w hSw; (try dsimp only at hSw); go_simp; try with_reducible rfl)
          try simp only [Act.put, List.setIfInBounds_toArray, List.set_cons_zero, List.set_cons_succ]
          refine wpAnyH_ready (rs := [20]) (by kernel_rfl) (by simp) ?_
          refine AllReadyH.cons (o := { dst := some 185, op := Op.call { callee := Callee.value (Operand.func 34), args := #[Operand.tmp 184, Operand.const (Value.int IntKind.u8 32)], argTypes := #[9, 5] }, type := 25, pos := "files.go:283", after := #[{ on := 19, ground := Ground.data }, { on := 16, ground := Ground.chain }, { on := 14, ground := Ground.guard }], guard := some (14, true) }) rfl (fun K hK => ?_) AllReadyH.nil
          go_simp
          go_at_call 34
          refine (H910.out _ m (.inr rfl)).mono ?_
          rintro e w6 ⟨g6, n6, c6, rfl, hc6, ho6⟩
          have HZ6 := Lib.hid (HZ5.out.then ho6)
          refine hK.out _ _ (⟨HZ6, ho6.cellOf hc5 (fun h => h)⟩) (fun hHeld => ?_)
          clear hK K
          try simp only [Act.put, List.setIfInBounds_toArray, List.set_cons_zero, List.set_cons_succ]
          refine heldMono (S' := fun w' => (Hid (Ext wr w') ∧ w'.cell? ⟨g5, 0, none⟩ = some (S d)) ∧ w'.cell? ⟨g6, 0, none⟩ = some (S d)) (fun _ h => h.1) _ _ _ _ ?_
          have hH6 : (Hid (Ext wr w6) ∧ w6.cell? ⟨g5, 0, none⟩ = some (S d)) ∧ w6.cell? ⟨g6, 0, none⟩ = some (S d) := ⟨hHeld, hc6⟩
          clear hHeld
          refine wpAnyH_take (i := 21) (oi := { dst := some 186, op := Op.indexAddr 25 (Operand.tmp 185) (Operand.const (Value.int IntKind.i64 0)), type := 0, pos := "files.go:283", after := #[{ on := 20, ground := Ground.data }, { on := 14, ground := Ground.guard }], guard := some (14, true) }) (v := ?_) rfl (by kernel_rfl) (by kernel_rfl) (by kernel_rfl) (fun _ _ _ h => h) (Or.inl ⟨by rfl, ?_⟩) (by assumption) ?_
          rotate_left
          · (intro w hSw; (try dsimp only at hSw); go_simp; try with_reducible rfl)
          try simp only [Act.put, List.setIfInBounds_toArray, List.set_cons_zero, List.set_cons_succ]
          refine wpAnyH_take (i := 22) (oi := { dst := some 187, op := Op.load 9 (Operand.tmp 186), type := 9, pos := "files.go:283", after := #[{ on := 21, ground := Ground.data }, { on := 14, ground := Ground.guard }], guard := some (14, true) }) (v := ?_) rfl (by kernel_rfl) (by kernel_rfl) (by kernel_rfl) (fun _ _ _ h => h) (Or.inl ⟨by rfl, ?_⟩) (by assumption) ?_
          rotate_left
          · (intro w hSw; (try dsimp only at hSw); go_simp; try with_reducible rfl)
          try simp only [Act.put, List.setIfInBounds_toArray, List.set_cons_zero, List.set_cons_succ]
          refine wpAnyH_take (i := 23) (oi := { dst := some 188, op := Op.binOp BinOp.eql 9 (Operand.tmp 183) (Operand.tmp 187) 9, type := 4, pos := "files.go:283", after := #[{ on := 18, ground := Ground.data }, { on := 22, ground := Ground.data }, { on := 14, ground := Ground.guard }], guard := some (14, true) }) (v := ?_) rfl (by kernel_rfl) (by kernel_rfl) (by kernel_rfl) (fun _ _ _ h => h) (Or.inl ⟨by rfl, ?_⟩) (by assumption) ?_
          rotate_left
          · (intro w hSw; (try dsimp only at hSw); go_simp; try with_reducible rfl)
          try simp only [Act.put, List.setIfInBounds_toArray, List.set_cons_zero, List.set_cons_succ]
          refine wpAnyH_take (i := 24) (oi := { dst := some 189, op := Op.pick (Operand.tmp 179) (Operand.tmp 188) (Operand.const (Value.bool false)), type := 4, pos := "files.go:283", after := #[{ on := 14, ground := Ground.data }, { on := 23, ground := Ground.data }], guard := none }) (v := ?_) rfl (by kernel_rfl) (by kernel_rfl) (by kernel_rfl) (fun _ _ _ h => h) (Or.inl ⟨by rfl, ?_⟩) (by assumption) ?_
          rotate_left
          · (intro w hSw; (try dsimp only at hSw); go_simp; try with_reducible rfl)
          try simp only [Act.put, List.setIfInBounds_toArray, List.set_cons_zero, List.set_cons_succ]
          refine wpAnyH_take (i := 25) (oi := { dst := some 6, op := Op.assign (Operand.tmp 189), type := 4, pos := "files.go:283", after := #[{ on := 24, ground := Ground.data }, { on := 20, ground := Ground.chain }, { on := 0, ground := Ground.phase }, { on := 1, ground := Ground.phase }, { on := 2, ground := Ground.phase }, { on := 3, ground := Ground.phase }, { on := 4, ground := Ground.phase }, { on := 5, ground := Ground.phase }, { on := 6, ground := Ground.phase }, { on := 7, ground := Ground.phase }, { on := 8, ground := Ground.phase }, { on := 9, ground := Ground.phase }, { on := 10, ground := Ground.phase }, { on := 11, ground := Ground.phase }, { on := 12, ground := Ground.phase }, { on := 13, ground := Ground.phase }, { on := 14, ground := Ground.phase }, { on := 15, ground := Ground.phase }, { on := 16, ground := Ground.phase }, { on := 17, ground := Ground.phase }, { on := 18, ground := Ground.phase }, { on := 19, ground := Ground.phase }, { on := 20, ground := Ground.phase }, { on := 21, ground := Ground.phase }, { on := 22, ground := Ground.phase }, { on := 23, ground := Ground.phase }, { on := 24, ground := Ground.phase }], guard := none }) (v := ?_) rfl (by kernel_rfl) (by kernel_rfl) (by kernel_rfl) (fun _ _ _ h => h) (Or.inl ⟨by rfl, ?_⟩) (by assumption) ?_
          rotate_left
          · (intro w hSw; (try dsimp only at hSw); go_simp; try with_reducible rfl)
          try simp only [Act.put, List.setIfInBounds_toArray, List.set_cons_zero, List.set_cons_succ]
          refine wpAnyH_done (by kernel_rfl) ?_ _
          go_wp2_with fail
          go_ret
          exact ⟨rfl, HOB.out.then HZ6.out⟩
end Go.Proofs.YtnmhaipjfpongaaGreatDoor

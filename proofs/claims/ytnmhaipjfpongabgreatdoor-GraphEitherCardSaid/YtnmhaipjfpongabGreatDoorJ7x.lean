/- GraphEither's walk. No condition but how the rules lie, and what the variables hold. -/
import Derived.Test.YtnmhaipjfpongabGreatDoorJ5x
import Derived.Test.YtnmhaipjfpongabGreatDoorG7x
namespace Go.Proofs.YtnmhaipjfpongabGreatDoor
open Go.ChangeShapes Go.WideShapes Go.ChangeAt Go.RowKit

theorem many_all (n : Nat) : manyB n (fun _ => true) = n := by
  unfold manyB
  rw [List.filter_eq_self.2 (fun _ _ => rfl), List.length_range]
theorem order_mem {n : Nat} {nd : Nat → Nat → Bool} {o : List Nat} (h : orderB n nd (fun _ => true) = some o) : Ordered n nd (fun _ => true) o ∧ o.length = n ∧ ∀ i < n, i ∈ o := by
  obtain ⟨h1, h2⟩ := orderB_some h
  rw [many_all] at h2
  refine ⟨h1, h2, fun i hi => Classical.byContradiction fun hn => ?_⟩
  have := nodup_len (a := i :: o) (b := List.range n) (List.nodup_cons.2 ⟨hn, h1.nodup⟩) (fun x hx => by
    rcases List.mem_cons.1 hx with rfl | hx
    · exact List.mem_range.2 hi
    · exact List.mem_range.2 (h1.lt x hx))
  rw [List.length_range, List.length_cons] at this
  omega
theorem cyc_none {n : Nat} {nd : Nat → Nat → Bool} {o c : List Nat} (hnd : ∀ i j, nd i j = true → j < n) (h : orderB n nd (fun _ => true) = some o) (hc : CycOk n nd c) : c = [] := by
  obtain ⟨h1, _, h3⟩ := order_mem h
  rcases hc with ⟨rfl, _⟩ | ⟨i, m, f, hi, _, _, _, hl, rfl⟩
  · rfl
  · exact absurd hl.2.1 (h1.no_circle hnd (h3 i hi) hl.1)
theorem cyc_some {n : Nat} {nd : Nat → Nat → Bool} {c : List Nat} (hnd : ∀ i j, nd i j = true → j < n) (h : orderB n nd (fun _ => true) = none) (hc : CycOk n nd c) : Circle n nd c := by
  obtain ⟨i, s, hi, _, hs, hw⟩ := orderB_circle h (fun i j _ _ hij => ⟨hnd i j hij, rfl⟩)
  rcases hc with ⟨rfl, hno⟩ | ⟨i', m, f, hi', _, hfo, _, hl, rfl⟩
  · exact absurd hw (hno i hi s hs)
  · exact circle_way hi' hnd hfo.least hfo.at_ hl

set_option maxRecDepth 100000 in
set_option maxHeartbeats 8000000 in
theorem walkGraphEither (w : World) (P : Nat → Addr) (l : List Rule) (v : Value) (hv : RdR w v l) (hV : PV w P [1, 2, 3, 4, 6, 8, 9]) :
    Calls Tryz.prog 8 #[v] w (RetE (.bool true) w) := by
  have HRD := Lib.hid hv
  have HVV := Lib.hid hV
  have HAH := Lib.hid (ahead_any w P hV)
  obtain ⟨a, cap, rfl, _, _, hc⟩ := hv
  clear hV hc
  go_enter Tryz.func8, Tryz.ntmps8
  go_wp2_with fail
  refine (HAH.out).mono ?_
  rintro e w1 ⟨rfl, ho⟩
  have HX1 := Lib.hid ho
  clear ho
  go_wp2_with fail
  refine (longRules_any w1 _ l 30 (HRD.out.ext HX1.out)).mono ?_
  rintro e w2 ⟨⟨r, rfl, hr, hz⟩, rfl⟩
  have HZ := Lib.hid hz
  clear hz
  rcases hr with rfl | rfl
  case inr =>
    go_wp2_with fail
    go_ret
    exact ⟨rfl, HX1.out⟩
  case inl =>
    have HSH := Lib.hid (HZ.out rfl).2
    have HSM : Hid (∀ r ∈ l, RuleSm 900000 r) := Lib.hid (fun r hr => (HSH.out r hr).sm)
    have h41 : l.length ≤ 41 := by rcases (HZ.out rfl).1 with h | h <;> omega
    have hlz : (l.length : Int) ≤ 41 := by omega
    have HIL : Hid (∀ r ∈ l, r.ins.length ≤ 1000000) := Lib.hid (fun r hr => by have := (HSH.out r hr).many; omega)
    have HOR := Lib.hid (fun W (hW : Ext w W) => ownRules_any W _ l (HRD.out.ext hW) (by omega) HIL.out)
    clear HZ HSH
    go_wp2_with fail
    refine (HOR.out w1 HX1.out).mono ?_
    rintro e w3 ⟨v3, rfl, hr3, ho3⟩
    have HR3 := Lib.hid hr3
    have HX3 := Lib.hid (HX1.out.then ho3)
    clear hr3 ho3
    have HCY := Lib.hid (graphCycle_any w3 P l v3 HR3.out HSM.out ((HVV.out.ext HX3.out).sub (by decide)))
    obtain ⟨a3, c3, rfl, _, _, _⟩ := HR3.out
    go_wp2_with fail
    refine HCY.out.mono ?_
    rintro e w4 ⟨vc, ev, c, rfl, hr4, he4, ho4, hc4⟩
    have HX4 := Lib.hid (HX3.out.then ho4)
    have HC4 := Lib.hid hr4.rd
    clear ho4 hr4
    by_cases h0 : (sheetFault l).1 = 0
    · obtain rfl := he4.zero h0
      rcases hc4 with ⟨h, _⟩ | ⟨_, hok⟩
      · exact absurd h0 h
      have HOK := Lib.hid hok
      obtain ⟨a4, c4, rfl, _, _, _⟩ := HC4.out
      have HN0 := Lib.hid h0
      clear he4 hok h0
      go_wp2_with fail
      refine (HOR.out w4 HX4.out).mono ?_
      rintro e w5 ⟨v5, rfl, hr5, ho5⟩
      have HR5 := Lib.hid hr5
      have HX5 := Lib.hid (HX4.out.then ho5)
      have HC5 := Lib.hid (HC4.out.ext ho5)
      clear hr5 ho5
      have HOD := Lib.hid (graphOrder_any w5 P l v5 HR5.out HSM.out (HVV.out.ext HX5.out))
      obtain ⟨a5, c5, rfl, _, _, _⟩ := HR5.out
      go_wp2_with fail
      refine HOD.out.mono ?_
      rintro e w6 ⟨vo, ev, rfl, hr6, he6, ho6⟩
      have HX6 := Lib.hid (HX5.out.then ho6)
      have HC6 := Lib.hid (HC5.out.ext ho6)
      have HO6 := Lib.hid hr6.rd
      have hf : orderFault l = if (orderL l).isSome then (0, -1) else (9, -1) := if_neg (by have := HN0.out; simpa using this)
      have hoo : orderOut l = (orderL l).getD [] := if_neg (by have := HN0.out; simpa using this)
      rw [hf] at he6
      rw [hoo] at HO6
      clear hf hoo ho6 hr6
      cases hol : orderL l with
      | none =>
        rw [hol] at he6
        obtain ⟨t, p, rfl⟩ := he6.some (by show (9 : Nat) ≠ 0; decide)
        have HCI := Lib.hid (cyc_some (needB_right l) hol HOK.out)
        have hcp : 0 < c.length := List.length_pos_iff.2 HCI.out.1
        have hcpz : (0 : Int) < (c.length : Int) := by omega
        have hcm : c.length ≤ 9223372036854775807 := by
          obtain ⟨_, _, h, _, h2, _⟩ := HC6.out
          unfold maxLen at h2
          have := HC6.out
          obtain ⟨x1, x2, x3, x4, x5, _⟩ := this
          unfold maxLen at x5
          omega
        clear he6 hol HO6
        go_wp2_with fail
        go_loopw [7, 8] (fun i _ wr => ∃ j : Nat, j ≤ c.length ∧ i = .int .i64 j ∧ Hid (Ext w6 wr)) (fun i _ _ => c.length - (intOf i).toNat)
        case atStart => exact ⟨0, Nat.zero_le _, rfl, Lib.hid (Only.refl _ _)⟩
        case round =>
          obtain ⟨j, hj, rfl, HX⟩ := hrel
          by_cases hlt : j < c.length
          · have hltz : (j : Int) < (c.length : Int) := by omega
            have hj0 : (0 : Int) ≤ (j : Int) := by omega
            obtain ⟨m, hm⟩ : ∃ m, m = (j + 1) % c.length := ⟨_, rfl⟩
            have hml : m < c.length := by rw [hm]; exact Nat.mod_lt _ hcp
            have hmz : (m : Int) < (c.length : Int) := by omega
            have hm0 : (0 : Int) ≤ (m : Int) := by omega
            obtain ⟨x, hx⟩ : ∃ y, c[j]? = some y := ⟨_, List.getElem?_eq_getElem hlt⟩
            obtain ⟨y, hy⟩ : ∃ y, c[m]? = some y := ⟨_, List.getElem?_eq_getElem hml⟩
            have hxn := HCI.out.2.1 x (List.mem_of_getElem? hx)
            have hyn := HCI.out.2.1 y (List.mem_of_getElem? hy)
            have hnd := HCI.out.2.2 j x y hx (by rw [← hm]; exact hy)
            have hxz : (x : Int) < (l.length : Int) := by omega
            have hyz : (y : Int) < (l.length : Int) := by omega
            have hx0 : (0 : Int) ≤ (x : Int) := by omega
            have hy0 : (0 : Int) ≤ (y : Int) := by omega
            obtain ⟨a7, c7, h7, _, _, hcell⟩ := HC6.out
            obtain ⟨b, off, hb, hce⟩ := hcell (by intro e; rw [e] at hlt; simp at hlt)
            subst hb
            cases h7
            have d0 := HX.out.cellOf (hce j x hx) (fun h => h)
            have d1 := HX.out.cellOf (hce m y hy) (fun h => h)
            have hmod : ((j : Int) + 1).tmod (c.length : Int) = (m : Int) := by rw [hm]; exact (Int.ofNat_tmod (j + 1) c.length).symm
            have hne : ¬ (c.length : Int) = 0 := by omega
            have HNR := needsRule_any wr _ l x y hxn hyn (HRD.out.ext (HX6.out.then HX.out))
            rw [hnd] at HNR
            have HNR := Lib.hid HNR
            clear hm hx hy hxn hyn hnd hcell hce
            go_wp2_with fail
            refine (HNR.out).mono ?_
            rintro e w7 ⟨rfl, ho⟩
            have HX7 := Lib.hid (HX.out.then ho)
            clear ho
            go_wp2_with fail
            go_roundw
            case rel => exact ⟨j + 1, by omega, by go_num, HX7⟩
            case measure => simp [intOf]; omega
          · have hltz : ¬ (j : Int) < (c.length : Int) := by omega
            go_wp2_with fail
            go_ret
            exact ⟨rfl, HX6.out.then HX.out⟩
      | some o =>
        rw [hol] at he6 HO6
        obtain rfl := he6.zero rfl
        obtain ⟨ho1, ho2, _⟩ := order_mem hol
        have HOD := Lib.hid ho1
        obtain rfl := cyc_none (needB_right l) hol HOK.out
        have HO6 : Hid (Rd IN w6 vo o) := HO6
        clear he6 hol ho1 HCY HOK
        obtain ⟨ao, co, hvo, _, _, _⟩ := HO6.out
        rw [ho2] at hvo
        subst hvo
        have HOL := Lib.hid ho2
        have hmk := run_marks l.length (by omega) w6
        clear ho2
        go_wp2_with fail
        have HM0 := Lib.hid (MarkAt.start w6 l.length)
        generalize (w6.alloc (.cells (Array.replicate l.length (.bool false)) 4 (0, 0))) = wm at HM0 ⊢
        obtain ⟨ib, hib⟩ : ∃ ib, ib = w6.heap.size := ⟨_, rfl⟩
        rw [← hib] at HM0 ⊢
        clear hmk hib
        go_loopw [10, 11] (fun i _ wr => ∃ j : Nat, j ≤ l.length ∧ i = .int .i64 j ∧ Hid (MarkAt w6 wr ib l.length (o.take j))) (fun i _ _ => l.length - (intOf i).toNat)
        case atStart => exact ⟨0, Nat.zero_le _, rfl, HM0⟩
        case round =>
          clear HM0
          obtain ⟨j, hj, rfl, HM⟩ := hrel
          by_cases hlt : j < l.length
          · have hltz : (j : Int) < (l.length : Int) := by omega
            have hj0 : (0 : Int) ≤ (j : Int) := by omega
            obtain ⟨x, hx⟩ : ∃ y, o[j]? = some y := ⟨_, List.getElem?_eq_getElem (by rw [HOL.out]; exact hlt)⟩
            have hxn := HOD.out.lt x (List.mem_of_getElem? hx)
            have hxz : (x : Int) < (l.length : Int) := by omega
            have hx0 : (0 : Int) ≤ (x : Int) := by omega
            obtain ⟨a7, c7, h7, _, _, hcell⟩ := HO6.out
            obtain ⟨b, off, hb, hce⟩ := hcell (by intro e; rw [e] at hx; simp at hx)
            subst hb
            rw [HOL.out] at h7
            cases h7
            have hce0 := hce j x hx
            have d0 := HM.out.ext.cellOf hce0 (fun h => h)
            have hnx : x ∉ o.take j := fun h => by
              obtain ⟨t, ht⟩ := List.getElem?_of_mem h
              rw [List.getElem?_take] at ht
              split at ht
              · have := nodup_inj HOD.out.nodup ht hx
                omega
              · cases ht
            have d1 := HM.out.tab.cell hxn
            simp only [decide_eq_false hnx] at d1
            have HTK : Hid (o.take (j + 1) = o.take j ++ [x]) := Lib.hid (by rw [List.take_add_one, hx]; rfl)
            have HND : Hid (∀ k < l.length, needB l x k = true → k ∈ o.take j) := Lib.hid (HOD.out.need j x hx)
            have HXN := Lib.hid hxn
            have HCE := Lib.hid hce0
            have hdx : decide ((x : Int) < 0) = false := decide_eq_false (by omega)
            have hdl : decide (l.length ≤ x) = false := decide_eq_false (by omega)
            clear hcell hce hnx hx hxn hce0
            go_wp2_with fail
            clear d0 d1
            go_loopw [11] (fun i wx => ∃ k : Nat, k ≤ l.length ∧ i = .int .i64 k ∧ Hid (MarkAt w6 wx ib l.length (o.take j))) (fun i _ => l.length - (intOf i).toNat)
            case atStart => exact ⟨0, Nat.zero_le _, rfl, HM⟩
            case round =>
              clear HM
              obtain ⟨k, hk, rfl, HM⟩ := hrel
              have d0 := HM.out.ext.cellOf HCE.out (fun h => h)
              by_cases hkl : k < l.length
              · have hkz : (k : Int) < (l.length : Int) := by omega
                have hk0 : (0 : Int) ≤ (k : Int) := by omega
                have hnr := needsRule_any wr _ l x k HXN.out hkl (HRD.out.ext (HX6.out.then HM.out.ext))
                have HKM : Hid (needB l x k = true → decide (k ∈ o.take j) = true) := Lib.hid (fun h => decide_eq_true (HND.out k hkl h))
                have HKL := Lib.hid hkl
                cases hq : needB l x k with
                | true =>
                  rw [hq] at hnr
                  have HNR := Lib.hid hnr
                  have hin := HKM.out hq
                  clear hq hnr
                  go_wp2_with fail
                  refine (HNR.out).mono ?_
                  rintro e w7 ⟨rfl, ho⟩
                  have HM7 := Lib.hid (HM.out.grow ho)
                  clear ho
                  have e1 := HM7.out.tab.cell HKL.out
                  simp only [hin] at e1
                  go_wp2_with fail
                  go_roundw
                  case rel => exact ⟨k + 1, by omega, by go_num, HM7⟩
                  case measure => simp [intOf]; omega
                | false =>
                  rw [hq] at hnr
                  have HNR := Lib.hid hnr
                  clear hq hnr
                  go_wp2_with fail
                  refine (HNR.out).mono ?_
                  rintro e w7 ⟨rfl, ho⟩
                  have HM7 := Lib.hid (HM.out.grow ho)
                  clear ho
                  go_wp2_with fail
                  go_roundw
                  case rel => exact ⟨k + 1, by omega, by go_num, HM7⟩
                  case measure => simp [intOf]; omega
              · have hkz : ¬ (k : Int) < (l.length : Int) := by omega
                have e1 := HM.out.tab.cell HXN.out
                have e2 := HM.out.tab.free x
                have HM8 : Hid (MarkAt w6 (wr.setCell ⟨ib, x, none⟩ (.bool true)) ib l.length (o.take (j + 1))) := Lib.hid (by rw [HTK.out]; exact HM.out.mark x)
                go_wp2_with fail
                go_roundw
                case rel => exact ⟨j + 1, by omega, by go_num, HM8⟩
                case measure => simp [intOf]; omega
          · have hltz : ¬ (j : Int) < (l.length : Int) := by omega
            go_wp2_with fail
            go_ret
            exact ⟨rfl, HX6.out.then HM.out.ext⟩
    · obtain ⟨t, p, rfl⟩ := he4.some h0
      rcases hc4 with ⟨_, rfl⟩ | ⟨h, _⟩
      · obtain ⟨aa, ca, rfl, _, _, _⟩ := HC4.out
        clear he4 h0
        go_wp2_with fail
        go_ret
        exact ⟨rfl, HX4.out⟩
      · exact absurd h h0
end Go.Proofs.YtnmhaipjfpongabGreatDoor

/- GraphWhole's walk. No condition but how the rules lie, and what the variables hold. -/
import Derived.Test.YtnmhaipjfpongabGreatDoorJ5x
import Derived.Deep.RegionLaw
namespace Go.Proofs.YtnmhaipjfpongabGreatDoor
open Go.ChangeShapes Go.WideShapes Go.ChangeAt Go.RowKit

theorem run_marks' (n : Nat) (hn : n ≤ 1000000) : ∀ w : World, (Instr.makeSlice 66 (.int .i64 (n : Int)) (.int .i64 (n : Int))).run Tryz.prog w =
    .ok (.slice (some ⟨w.heap.size, 0, none⟩) n n) (w.alloc (.cells (Array.replicate n (.bool false)) 4 (0, 0))) := fun w => run_marks n hn w

theorem lit_rdS (w : World) (o : B) : Rd S (w.alloc (.cells #[S o] 9 (0, 0))) (.slice (some ⟨w.heap.size, 0, none⟩) 1 1) [o] := by
  refine ⟨_, 1, rfl, by simp, by decide, fun _ => ⟨w.heap.size, 0, rfl, fun i y hy => ?_⟩⟩
  obtain ⟨h1, h2⟩ := List.getElem?_eq_some_iff.1 hy
  obtain rfl : i = 0 := by simpa using h1
  rw [cell_of_heap (MapKept.heap_alloc w _).1, ← h2]
  rfl

/-- Behind the second need: what is there. -/
structure Wh (w wc : World) (l : List Rule) (va vs qv : Value) (sm : List Nat) : Prop where
  ext : Ext w wc
  all : Rd IN wc va (List.range l.length)
  some : Rd IN wc vs sm
  outs : Rd S wc qv (l.map Rule.out)

set_option maxRecDepth 100000 in
set_option maxHeartbeats 8000000 in
theorem walkGraphWhole (w : World) (P : Nat → Addr) (l : List Rule) (v : Value) (one : Int) (hv : RdR w v l) (hV : PV w P [1, 2, 3, 4, 5, 6, 8, 9]) :
    Calls Tryz.prog 6 #[v, .int .i64 one] w (RetE (.bool true) w) := by
  have HRD := Lib.hid hv
  have HVV := Lib.hid hV
  have HAH := Lib.hid (ahead_any w P (hV.sub (by decide)))
  obtain ⟨a, cap, rfl, _, _, hc⟩ := hv
  have HC := Lib.hid hc
  clear hV hc
  go_enter Tryz.func6, Tryz.ntmps6
  go_wp2_with fail
  refine (HAH.out).mono ?_
  rintro e w1 ⟨rfl, ho⟩
  have HX1 := Lib.hid ho
  clear ho
  go_wp2_with fail
  refine (longRules_any w1 _ l 20 (HRD.out.ext HX1.out)).mono ?_
  rintro e w2 ⟨⟨r, rfl, hr, hz⟩, rfl⟩
  have HZ := Lib.hid hz
  clear hz
  rcases hr with rfl | rfl
  case inr =>
    go_wp2_with fail
    go_ret
    exact ⟨rfl, HX1.out⟩
  case inl =>
    have HSH := Lib.hid (HZ.out rfl).2
    have HSM : Hid (∀ r ∈ l, RuleSm 900000 r) := Lib.hid (fun r hr => (HSH.out r hr).sm)
    have h41 : l.length ≤ 41 := by rcases (HZ.out rfl).1 with h | h <;> omega
    have hlz : (l.length : Int) ≤ 41 := by omega
    have HIL : Hid (∀ r ∈ l, r.ins.length ≤ 1000000) := Lib.hid (fun r hr => by have := (HSH.out r hr).many; omega)
    have HIS : Hid (∀ r ∈ l, r.ins.length ≤ 20000) := Lib.hid (fun r hr => by have := (HSH.out r hr).many; omega)
    clear HZ HSH
    by_cases hneg : one < 0
    · go_wp2_with fail
      go_ret
      exact ⟨rfl, HX1.out⟩
    by_cases hbig : (l.length : Int) ≤ one
    · go_wp2_with fail
      go_ret
      exact ⟨rfl, HX1.out⟩
    obtain ⟨k, rfl⟩ : ∃ k : Nat, one = (k : Int) := ⟨one.toNat, by omega⟩
    have hkl : k < l.length := by omega
    have hkz : (k : Int) < (l.length : Int) := by omega
    have hk0 : (0 : Int) ≤ (k : Int) := by omega
    have hdk : decide ((k : Int) < 0) = false := decide_eq_false (by omega)
    have hdl : decide (l.length ≤ k) = false := decide_eq_false (by omega)
    clear hneg hbig
    go_wp2_with fail
    obtain ⟨bs, hbs⟩ : ∃ bs, bs = w1.heap.size := ⟨_, rfl⟩
    have HBS : Hid (w.heap.size ≤ bs ∧ bs ≤ w1.heap.size) := Lib.hid ⟨by rw [hbs]; exact HX1.out.size, by omega⟩
    clear hbs
    go_loopw [6, 7] (fun q i wr => ∃ (j : Nat) (qv : Value), qv = q ∧ j ≤ l.length ∧ i = .int .i64 j ∧ Hid (Row bs wr qv ((l.take j).map Rule.out)) ∧ Hid (Ext w wr) ∧ Hid (bs ≤ wr.heap.size)) (fun _ i _ => l.length - (intOf i).toNat)
    case atStart => exact ⟨0, _, rfl, Nat.zero_le _, rfl, Lib.hid (Row.nil _ _), HX1, Lib.hid HBS.out.2⟩
    case round =>
      obtain ⟨j, qv, rfl, hj, rfl, HQ, HX, HB⟩ := hrel
      by_cases hlt : j < l.length
      · have hltz : (j : Int) < (l.length : Int) := by omega
        have hj0 : (0 : Int) ≤ (j : Int) := by omega
        obtain ⟨b, off, rfl, hcell⟩ := HC.out (by intro h; rw [h] at hlt; simp at hlt)
        obtain ⟨r, hq⟩ : ∃ y, l[j]? = some y := ⟨_, List.getElem?_eq_getElem hlt⟩
        obtain ⟨u, hu, c0, c1, c2, c3⟩ := hcell j r hq
        have d0 := HX.out.cellOf c0 (fun h => h)
        have HST : Hid ((l.take (j + 1)).map Rule.out = (l.take j).map Rule.out ++ [r.out]) := Lib.hid (by rw [List.take_add_one, hq]; simp)
        have hql : ((l.take j).map Rule.out).length ≤ 1000000 := by rw [List.length_map, List.length_take]; omega
        have HQL := Lib.hid hql
        clear hcell hq c0 c1 c2 c3 hql hu
        generalize (l.take j).map Rule.out = X at HQ HST HQL
        go_wp2_with (at_builtin; refine wpText rfl (.tmp 42) (.tmp 48) w bs _ X r.out wr rfl rfl rfl rfl HQ.out HQL.out HB.out HX.out HBS.out.1 ?_; intro g5 cap5 w5 HR5 HX6 HG5; have HB6 : Hid (bs ≤ w5.heap.size) := Lib.hid (Nat.le_trans HB.out (Only.of_grown HG5.out).size))
        go_roundw
        case rel => exact ⟨j + 1, _, rfl, by omega, by go_num, by rw [HST.out]; exact HR5, HX6, HB6⟩
        case measure => simp [intOf]; omega
      · have hltz : ¬ (j : Int) < (l.length : Int) := by omega
        obtain rfl : j = l.length := by omega
        rw [List.take_length] at HQ
        have HOR := Lib.hid (fun W (hW : Ext w W) => ownRules_any W _ l (HRD.out.ext hW) (by omega) HIL.out)
        have HOL : Hid ((l.map Rule.out).length ≤ 1000) := Lib.hid (by rw [List.length_map]; omega)
        clear hj hlt
        obtain ⟨aq, cq, hqf, _, _, _⟩ := HQ.out.rd
        rw [List.length_map] at hqf
        subst hqf
        go_wp2_with fail
        refine (HOR.out wr HX.out).mono ?_
        rintro e w3 ⟨v3, rfl, hr3, ho3⟩
        have HR3 := Lib.hid hr3
        have HX3 := Lib.hid (HX.out.then ho3)
        have HQ3 := Lib.hid (HQ.out.rd.ext ho3)
        clear hr3 ho3
        have HNE := Lib.hid (graphNeeds_any w3 P l (l.map Rule.out) v3 _ HR3.out HQ3.out HOL.out HSM.out ((HVV.out.ext HX3.out).sub (by decide)))
        obtain ⟨a3, c3, rfl, _, _, _⟩ := HR3.out
        go_wp2_with fail
        refine HNE.out.mono ?_
        rintro e w4 ⟨va, ev, all, rfl, hr4, he4, ho4, hc4⟩
        have HX4 := Lib.hid (HX3.out.then ho4)
        have HQ4 := Lib.hid (HQ3.out.ext ho4)
        have HA4 := Lib.hid hr4.rd
        clear ho4 hr4
        by_cases h0 : (sheetFault l).1 = 0
        · have hnf : needFault l (l.map Rule.out) = (0, -1) := by unfold needFault; rw [if_neg (by simpa using h0), bad_all]
          rw [hnf] at he4 hc4
          obtain rfl := he4.zero rfl
          rcases hc4 with ⟨h, _⟩ | ⟨_, hok⟩
          · exact absurd rfl h
          have HRT := Lib.hid (sheet_ok.1 h0)
          rw [needKs_all HRT.out.2.2] at hok
          obtain rfl := need_all hok
          have hnf2 : ∀ o, madeB l o = true → needFault l [o] = (0, -1) := fun o ho => by
            unfold needFault
            rw [if_neg (by simpa using h0), bad_none (by intro x hx; rw [List.mem_singleton.1 hx]; exact ho)]
          have hsf : sheetFault l = (0, -1) := sheet_zero h0
          have HSF := Lib.hid hsf
          obtain ⟨b, off, rfl, hcell⟩ := HC.out (by intro h; rw [h] at hkl; simp at hkl)
          obtain ⟨r, hq⟩ : ∃ y, l[k]? = some y := ⟨_, List.getElem?_eq_getElem hkl⟩
          obtain ⟨u, hu, c0, _, _, _⟩ := hcell k r hq
          have d0 := HX4.out.cellOf c0 (fun h => h)
          have HO2 : Hid (∀ W, Ext w4 W → Calls Tryz.prog 21 #[.slice (some ⟨b, off, none⟩) l.length cap] W (fun e w' => ∃ v, e = .returned v ∧ RdR w' v l ∧ Ext W w' ∧ Ext w4 w')) := Lib.hid (fun W hW => by
            refine (ownRules_any W _ l (HRD.out.ext (HX4.out.then hW)) (by omega) HIL.out).mono ?_
            rintro e w' ⟨v, rfl, h1, h2⟩
            exact ⟨v, rfl, h1, h2, hW.then h2⟩)
          have HB0 : Hid (∀ W, Ext w4 W → W.cell? ⟨b, off + k * 4, none⟩ = some (S r.out)) := Lib.hid (fun W hW => hW.cellOf d0 (fun h => h))
          have HN2 : Hid (∀ W v5 b, Ext w4 W → RdR W v5 l → Rd S W (.slice (some ⟨b, 0, none⟩) 1 1) [r.out] → Calls Tryz.prog 40 #[v5, .slice (some ⟨b, 0, none⟩) 1 1] W (fun e w' => ∃ v sm, e = .returned (.tuple #[v, .nilIface]) ∧ Rd IN w' v sm ∧ NeedIs l.length (needB l) k sm ∧ Ext w4 w')) := Lib.hid (fun W v5 b hW h5 hb => by
            refine (graphNeeds_any W P l [r.out] v5 _ h5 hb (by simp) HSM.out ((HVV.out.ext (HX4.out.then hW)).sub (by decide))).mono ?_
            rintro e w' ⟨v, ev, sm, rfl, hr, he, hx, hok⟩
            rw [hnf2 _ (madeB_out (List.mem_of_getElem? hq))] at he hok
            obtain rfl := he.zero rfl
            rcases hok with ⟨h, _⟩ | ⟨_, hok⟩
            · exact absurd rfl h
            have e1 : needKs l [r.out] = [k] := by unfold needKs; rw [List.map_cons, List.map_nil, madeI_out HRT.out.2.2 hq]
            rw [e1] at hok
            exact ⟨v, sm, rfl, hr.rd, need_is hkl hok, hW.then hx⟩)
          obtain ⟨aa, ca, hva, _, _, _⟩ := HA4.out
          rw [List.length_range] at hva
          subst hva
          have hne : ((l.length : Int) != (l.length : Int)) = false := by simp
          clear he4 hok hcell hq hu c0 hnf hnf2 hsf h0
          go_upto_region 14 with fail
          go_cut [9, 10] (fun ev vs wc => ∃ (vs' : Value) (sm : List Nat), vs' = vs ∧ ev = .nilIface ∧ Hid (NeedIs l.length (needB l) k sm) ∧ Hid (Wh w wc l (.slice aa l.length ca) vs' (.slice aq l.length cq) sm))
          case first =>
            go_region_law (first
              | (go_simp; go_at_call 21; refine (HO2.out _ ?hx).mono ?_; (case hx => repeat' (with_reducible first | exact Only.refl _ _ | apply Only.thenAlloc | apply Only.thenDrew)); rintro e w5 ⟨v5, rfl, hr5, he5, hx5⟩; have HR5 := Lib.hid hr5; have HE5 := Lib.hid he5; have HX5 := Lib.hid hx5; have d5 := HB0.out _ hx5; clear hr5 he5 hx5)
              | (go_simp; go_at_call 40; refine (HN2.out _ _ _ ?h1 ?h2 ?h3).mono ?_; (case h1 => first | exact HX5.out | exact HX5.out.thenAlloc _); (case h2 => first | exact HR5.out | exact HR5.out.ext (Only.alloc _ _ _)); (case h3 => first | exact lit_rdS _ _ | exact (lit_rdS _ _).ext HE5.out | exact ((lit_rdS _ _).ext (Only.drew (fun _ => False) _)).ext HE5.out); rintro e w6 ⟨vs, sm, rfl, hrs, hni, hx6⟩; have HNI := Lib.hid hni; have HW : Hid (Wh w w6 l (.slice aa l.length ca) vs (.slice aq l.length cq) sm) := Lib.hid ⟨HX4.out.then hx6, HA4.out.ext hx6, hrs, HQ4.out.ext hx6⟩; clear hrs hni hx6))
            all_goals
              go_wp2_with fail
              go_meet
              exact ⟨_, _, rfl, rfl, HNI, HW⟩
          case rest =>
            obtain ⟨vs, sm, rfl, rfl, HNI, HW⟩ := hcut
            clear HO2 HN2 HB0 d0 HX4 HA4 HQ4
            obtain ⟨asl, csl, hvs, _, _, _⟩ := HW.out.some
            subst hvs
            have hsl := HNI.out.len
            have hslz : (sm.length : Int) ≤ 41 := by omega
            have hmk := run_marks l.length (by omega) wc
            go_wp2_with fail
            have HM0 := Lib.hid (MarkAt.start wc l.length)
            generalize (wc.alloc (.cells (Array.replicate l.length (.bool false)) 4 (0, 0))) = wm at HM0 ⊢
            obtain ⟨ib, hib⟩ : ∃ ib, ib = wc.heap.size := ⟨_, rfl⟩
            rw [← hib] at HM0 ⊢
            clear hmk hib
            go_loopw [12] (fun i wr => ∃ j : Nat, j ≤ sm.length ∧ i = .int .i64 j ∧ Hid (MarkAt wc wr ib l.length (sm.take j))) (fun i _ => sm.length - (intOf i).toNat)
            case atStart => exact ⟨0, Nat.zero_le _, rfl, HM0⟩
            case round =>
              clear HM0
              obtain ⟨j, hj, rfl, HM⟩ := hrel
              by_cases hlt : j < sm.length
              · have hltz : (j : Int) < (sm.length : Int) := by omega
                have hj0 : (0 : Int) ≤ (j : Int) := by omega
                have hjl : (j : Int) < (l.length : Int) := by omega
                obtain ⟨x, hx⟩ : ∃ y, sm[j]? = some y := ⟨_, List.getElem?_eq_getElem hlt⟩
                have hxn := HNI.out.lt x (List.mem_of_getElem? hx)
                have hxz : (x : Int) < (l.length : Int) := by omega
                have hx0 : (0 : Int) ≤ (x : Int) := by omega
                obtain ⟨a7, c7, h7, _, _, hcell⟩ := HW.out.some
                obtain ⟨b7, off7, hb7, hce⟩ := hcell (by intro e; rw [e] at hlt; simp at hlt)
                subst hb7
                cases h7
                obtain ⟨a8, c8, h8, _, _, hcell8⟩ := HW.out.all
                obtain ⟨b8, off8, hb8, hce8⟩ := hcell8 (by intro e; have := congrArg List.length e; rw [List.length_range, List.length_nil] at this; omega)
                subst hb8
                rw [List.length_range] at h8
                cases h8
                have d0 := HM.out.ext.cellOf (hce j x hx) (fun h => h)
                have d1 := HM.out.ext.cellOf (hce8 j j (List.getElem?_range (by omega))) (fun h => h)
                have d2 := HM.out.tab.cell hxn
                have d3 := HM.out.tab.free x
                have HM8 : Hid (MarkAt wc (wr.setCell ⟨ib, x, none⟩ (.bool true)) ib l.length (sm.take (j + 1))) := Lib.hid (by rw [List.take_add_one, hx]; exact HM.out.mark x)
                have hjj : ((j : Int) != (j : Int)) = false := by simp
                clear hcell hce hcell8 hce8 hx hxn
                go_wp2_with fail
                go_roundw
                case rel => exact ⟨j + 1, by omega, by go_num, HM8⟩
                case measure => simp [intOf]; omega
              · have hltz : ¬ (j : Int) < (sm.length : Int) := by omega
                rw [List.take_of_length_le (by omega)] at HM
                clear hlt hj
                go_wp2_with fail
                go_loopw [13, 14] (fun i _ wr => ∃ j : Nat, j ≤ l.length ∧ i = .int .i64 j ∧ Hid (MarkAt wc wr ib l.length sm)) (fun i _ _ => l.length - (intOf i).toNat)
                case atStart => exact ⟨0, Nat.zero_le _, rfl, HM⟩
                case round =>
                  clear HM
                  obtain ⟨j, hj, rfl, HM⟩ := hrel
                  by_cases hlt : j < l.length
                  · have hltz : (j : Int) < (l.length : Int) := by omega
                    have hj0 : (0 : Int) ≤ (j : Int) := by omega
                    have HJL := Lib.hid hlt
                    go_wp2_with fail
                    go_loopw [14] (fun i wr => ∃ t : Nat, t ≤ l.length ∧ i = .int .i64 t ∧ Hid (MarkAt wc wr ib l.length sm)) (fun i _ => l.length - (intOf i).toNat)
                    case atStart => exact ⟨0, Nat.zero_le _, rfl, HM⟩
                    case round =>
                      clear HM
                      obtain ⟨t, ht, rfl, HM⟩ := hrel
                      by_cases htl : t < l.length
                      · have htz : (t : Int) < (l.length : Int) := by omega
                        have ht0 : (0 : Int) ≤ (t : Int) := by omega
                        have HTL := Lib.hid htl
                        have d0 := HM.out.tab.cell HJL.out
                        by_cases hin : j ∈ sm
                        · simp only [decide_eq_true hin] at d0
                          have hnr := needsRule_any wr _ l j t HJL.out htl (HRD.out.ext (HW.out.ext.then HM.out.ext))
                          have HKM : Hid (needB l j t = true → decide (t ∈ sm) = true) := Lib.hid (fun h => decide_eq_true (HNI.out.closed j hin t htl h))
                          clear hin
                          cases hq : needB l j t with
                          | true =>
                            rw [hq] at hnr
                            have HNR := Lib.hid hnr
                            have htin := HKM.out hq
                            clear hq hnr htl
                            go_wp2_with fail
                            refine (HNR.out).mono ?_
                            rintro e w7 ⟨rfl, ho⟩
                            have HM7 := Lib.hid (HM.out.grow ho)
                            clear ho
                            have e1 := HM7.out.tab.cell HTL.out
                            simp only [htin] at e1
                            go_wp2_with fail
                            go_roundw
                            case rel => exact ⟨t + 1, by have := HTL.out; omega, by go_num, HM7⟩
                            case measure => have := HTL.out; simp [intOf]; omega
                          | false =>
                            rw [hq] at hnr
                            have HNR := Lib.hid hnr
                            clear hq hnr htl
                            go_wp2_with fail
                            refine (HNR.out).mono ?_
                            rintro e w7 ⟨rfl, ho⟩
                            have HM7 := Lib.hid (HM.out.grow ho)
                            clear ho
                            go_wp2_with fail
                            go_roundw
                            case rel => exact ⟨t + 1, by have := HTL.out; omega, by go_num, HM7⟩
                            case measure => have := HTL.out; simp [intOf]; omega
                        · simp only [decide_eq_false hin] at d0
                          clear hin htl
                          go_wp2_with fail
                          go_roundw
                          case rel => exact ⟨t + 1, by have := HTL.out; omega, by go_num, HM⟩
                          case measure => have := HTL.out; simp [intOf]; omega
                      · have htz : ¬ (t : Int) < (l.length : Int) := by omega
                        clear htl ht
                        go_wp2_with fail
                        go_roundw
                        case rel => exact ⟨j + 1, by omega, by go_num, HM⟩
                        case measure => simp [intOf]; omega
                  · have hltz : ¬ (j : Int) < (l.length : Int) := by omega
                    have HXW := Lib.hid (HW.out.ext.then HM.out.ext)
                    clear hlt hj
                    go_wp2_with fail
                    refine (HOR.out _ HXW.out).mono ?_
                    rintro e w7 ⟨v7, rfl, hr7, ho7⟩
                    have HR7 := Lib.hid hr7
                    have HX7 := Lib.hid (HXW.out.then ho7)
                    have HM7 := Lib.hid (HM.out.grow ho7)
                    clear hr7 ho7
                    have HLV := Lib.hid (graphLeaves_any w7 P l v7 HR7.out HSM.out HIS.out ((HVV.out.ext HX7.out).sub (by decide)))
                    obtain ⟨a7, c7, rfl, _, _, _⟩ := HR7.out
                    go_wp2_with fail
                    refine HLV.out.mono ?_
                    rintro e w8 ⟨vl, ev, rfl, hrl, hel, ho8⟩
                    obtain rfl := hel.zero (by rw [HSF.out])
                    have HX8 := Lib.hid (HX7.out.then ho8)
                    have HM8 := Lib.hid (HM7.out.grow ho8)
                    have hlo : leavesOut l = leavesB l := if_neg (by rw [HSF.out]; decide)
                    rw [hlo] at hrl
                    have HRL := Lib.hid hrl.rd
                    have HLI : Hid (∀ x ∈ leavesB l, idx (fun y => y == x) (l.map Rule.out) = -1) := Lib.hid (fun x hx => leaf_not hx)
                    have HLS : Hid (∀ (i : Nat) x y, (leavesB l)[i]? = some y → (leavesB l)[i + 1]? = some x → (Op.bytesLess x y || x == y) = false) := Lib.hid (fun i x y hy hx => leaves_rise l hy hx)
                    have HQ8 := Lib.hid (HW.out.outs.ext ((HM7.out.grow ho8).ext))
                    clear hel ho8 hrl hlo HLV
                    generalize leavesB l = LV at HRL HLI HLS
                    obtain ⟨al, cl, hvl, _, hml, _⟩ := HRL.out
                    subst hvl
                    have hlm : LV.length ≤ 9223372036854775807 := by
                      obtain ⟨_, _, h, h1, h2, _⟩ := HRL.out
                      unfold maxLen at h2
                      omega
                    clear hml
                    go_wp2_with fail
                    go_loopw [16] (fun i wr => ∃ t : Nat, t ≤ LV.length ∧ i = .int .i64 t ∧ Hid (Ext w8 wr)) (fun i _ => LV.length - (intOf i).toNat)
                    case atStart => exact ⟨0, Nat.zero_le _, rfl, Lib.hid (Only.refl _ _)⟩
                    case round =>
                      obtain ⟨t, ht, rfl, HX⟩ := hrel
                      by_cases hlt : t < LV.length
                      · have hltz : (t : Int) < (LV.length : Int) := by omega
                        have ht0 : (0 : Int) ≤ (t : Int) := by omega
                        obtain ⟨x, hx⟩ : ∃ y, LV[t]? = some y := ⟨_, List.getElem?_eq_getElem hlt⟩
                        obtain ⟨a9, c9, h9, _, _, hcell⟩ := HRL.out
                        obtain ⟨b9, off9, hb9, hce⟩ := hcell (by intro e; rw [e] at hlt; simp at hlt)
                        subst hb9
                        cases h9
                        have d0 := HX.out.cellOf (hce t x hx) (fun h => h)
                        have hix := fun n => indexRef_any (wr.drewN n) _ (l.map Rule.out) x ((HQ8.out.ext HX.out).ext (Only.drewN _ _ n))
                        rw [HLI.out x (List.mem_of_getElem? hx)] at hix
                        have HIX := Lib.hid hix
                        by_cases htn : t = 0
                        · have ht1 : decide (0 < t) = false := decide_eq_false (by omega)
                          have ht2 : ¬ 0 < t := by omega
                          clear hix hcell hce hx htn
                          go_wp2_with fail
                          go_quiet ((go_at_call 43; exact Calls.quiet_of_same ((HIX.out _).mono fun _ _ h => ⟨h.1, h.2.symm⟩)))
                          go_wp2_with fail
                          go_roundw
                          case rel => exact ⟨t + 1, by omega, by go_num, Lib.hid (HX.out.thenDrewN _)⟩
                          case measure => simp [intOf]; omega
                        · obtain ⟨t, rfl⟩ : ∃ m, t = m + 1 := ⟨t - 1, by omega⟩
                          obtain ⟨y, hy⟩ : ∃ y, LV[t]? = some y := ⟨_, List.getElem?_eq_getElem (by omega)⟩
                          have d1 := HX.out.cellOf (hce t y hy) (fun h => h)
                          have hor := HLS.out t x y hy hx
                          clear hix hcell hce hx hy htn
                          go_wp2_with fail
                          go_quiet ((go_at_call 43; exact Calls.quiet_of_same ((HIX.out _).mono fun _ _ h => ⟨h.1, h.2.symm⟩)))
                          go_wp2_with fail
                          go_roundw
                          case rel => exact ⟨t + 1 + 1, by omega, by go_num, Lib.hid (HX.out.thenDrewN _)⟩
                          case measure => simp [intOf]; omega
                      · have hltz : ¬ (t : Int) < (LV.length : Int) := by omega
                        have e1 := (HM8.out.grow HX.out).tab.cell hkl
                        simp only [decide_eq_true HNI.out.one] at e1
                        go_wp2_with fail
                        go_ret
                        exact ⟨rfl, HX8.out.then HX.out⟩
        · have hnf : needFault l (l.map Rule.out) = sheetFault l := if_pos h0
          rw [hnf] at he4 hc4
          obtain ⟨t, p, rfl⟩ := he4.some h0
          rcases hc4 with ⟨_, rfl⟩ | ⟨h, _⟩
          · obtain ⟨aa, ca, rfl, _, _, _⟩ := HA4.out
            clear he4 hnf h0
            go_wp2_with fail
            go_ret
            exact ⟨rfl, HX4.out⟩
          · exact absurd h h0
end Go.Proofs.YtnmhaipjfpongabGreatDoor

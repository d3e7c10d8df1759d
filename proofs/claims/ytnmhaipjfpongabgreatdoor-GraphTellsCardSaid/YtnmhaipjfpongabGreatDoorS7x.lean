/- GraphTells' walk. No condition but how rules and outs lie, and what the variables hold. -/
import Derived.Test.YtnmhaipjfpongabGreatDoorS6x
import Derived.Test.YtnmhaipjfpongabGreatDoorS3x
import Derived.Test.YtnmhaipjfpongabGreatDoorS4x
import Derived.Test.YtnmhaipjfpongabGreatDoorS5x
import Derived.Test.YtnmhaipjfpongabGreatDoorG7x
import Derived.Test.YtnmhaipjfpongabGreatDoorG10x
import Derived.Test.YtnmhaipjfpongabGreatDoorY2x
namespace Go.Proofs.YtnmhaipjfpongabGreatDoor
open Go.ChangeShapes Go.WideShapes Go.ChangeAt Go.RowKit

theorem rowI_nil {base : Nat} {w : World} {v : Value} (h : RowI base w v []) : ∃ a c, v = .slice a 0 c := by
  obtain ⟨a, c, rfl, _⟩ := h.rd
  exact ⟨a, c, rfl⟩
theorem row_nil {base : Nat} {w : World} {v : Value} (h : Row base w v []) : ∃ a c, v = .slice a 0 c := by
  obtain ⟨a, c, rfl, _⟩ := h.rd
  exact ⟨a, c, rfl⟩
theorem sheet_le (l : List Rule) : (sheetFault l).1 ≤ 12 := by
  unfold sheetFault
  split
  · decide
  · have key : ∀ (k : List Rule) (seen : List B) (i : Nat), (sheetGo seen i k).1 ≤ 12 := by
      intro k
      induction k with
      | nil => intro seen i; simp [sheetGo]
      | cons r k ih =>
        intro seen i
        rw [sheetGo]
        split
        · exact ruleCode_le r
        · split
          · exact (by decide : 7 ≤ 12)
          · exact ih _ _
    exact key l [] 0

set_option maxRecDepth 100000 in
set_option maxHeartbeats 16000000 in
theorem walkGraphTells (w : World) (P : Nat → Addr) (l : List Rule) (outs : List B) (v vo : Value) (hv : RdR w v l) (hvo : Rd S w vo outs) (hV : PV w P [1, 2, 3, 4, 5, 6, 8, 9]) (hS : Sents w P) :
    Calls Tryz.prog 13 #[v, vo] w (RetE (.bool true) w) := by
  have HRD := Lib.hid hv
  have HRO := Lib.hid hvo
  have HVV := Lib.hid hV
  have HSS := Lib.hid hS
  have HAH := Lib.hid (ahead_any w P (hV.sub (by decide)))
  obtain ⟨a, cap, rfl, _, _, _⟩ := hv
  obtain ⟨ao, co, rfl, _, _, _⟩ := hvo
  clear hV hS
  go_enter Tryz.func13, Tryz.ntmps13
  go_wp2_with fail
  refine (HAH.out).mono ?_
  rintro e w1 ⟨rfl, ho⟩
  have HX1 := Lib.hid ho
  clear ho
  go_wp2_with fail
  refine (longRules_any w1 _ l 20 (HRD.out.ext HX1.out)).mono ?_
  rintro e w2 ⟨⟨r, rfl, hr, hz⟩, rfl⟩
  have HZ := Lib.hid hz
  clear hz
  rcases hr with rfl | rfl
  case inr =>
    go_wp2_with fail
    go_ret
    exact ⟨rfl, HX1.out⟩
  case inl =>
    have HSH := Lib.hid (HZ.out rfl).2
    have HSM : Hid (∀ r ∈ l, RuleSm 900000 r) := Lib.hid (fun r hr => (HSH.out r hr).sm)
    have h41 : l.length ≤ 41 := by rcases (HZ.out rfl).1 with h | h <;> omega
    have hlz : (l.length : Int) ≤ 41 := by omega
    have HIL : Hid (∀ r ∈ l, r.ins.length ≤ 1000000) := Lib.hid (fun r hr => by have := (HSH.out r hr).many; omega)
    have HIS : Hid (∀ r ∈ l, r.ins.length ≤ 20000) := Lib.hid (fun r hr => by have := (HSH.out r hr).many; omega)
    clear HZ HSH
    go_wp2_with fail
    refine (longTexts_any w1 _ outs 10 300 (HRO.out.ext HX1.out) (by decide)).mono ?_
    rintro e w2 ⟨⟨r, rfl, hr, hz⟩, rfl⟩
    have HZ := Lib.hid hz
    clear hz
    rcases hr with rfl | rfl
    case inr =>
      go_wp2_with fail
      go_ret
      exact ⟨rfl, HX1.out⟩
    case inl =>
      have hno : outs.length ≤ 1000 := by have := (HZ.out rfl).1; omega
      have HNO := Lib.hid hno
      have HOR := Lib.hid (fun W (hW : Ext w W) => ownRules_any W _ l (HRD.out.ext hW) (by omega) HIL.out)
      have HOT := Lib.hid (fun W (hW : Ext w W) => ownTexts_any W _ outs (HRO.out.ext hW) (by omega))
      clear HZ hno
      -- Order
      go_wp2_with fail
      refine (HOR.out w1 HX1.out).mono ?_
      rintro e w3 ⟨v3, rfl, hr3, ho3⟩
      have HR3 := Lib.hid hr3
      have HX3 := Lib.hid (HX1.out.then ho3)
      clear hr3 ho3
      have HGO := Lib.hid (graphOrder_any w3 P l v3 HR3.out HSM.out ((HVV.out.ext HX3.out).sub (by decide)))
      obtain ⟨a3, c3, rfl, _, _, _⟩ := HR3.out
      go_wp2_with fail
      refine (HGO.out).mono ?_
      rintro e w4 ⟨vo, e1, rfl, hro, he1, ho4⟩
      have HX4 := Lib.hid (HX3.out.then ho4)
      have HRW1 := Lib.hid hro
      have HE1 := Lib.hid he1
      clear hro he1 ho4
      -- Cycle
      go_wp2_with fail
      refine (HOR.out w4 HX4.out).mono ?_
      rintro e w5 ⟨v5, rfl, hr5, ho5⟩
      have HR5 := Lib.hid hr5
      have HX5 := Lib.hid (HX4.out.then ho5)
      have HP5 := Lib.hid ho5
      clear hr5 ho5
      have HGC := Lib.hid (graphCycle_any w5 P l v5 HR5.out HSM.out ((HVV.out.ext HX5.out).sub (by decide)))
      obtain ⟨a5, c5, rfl, _, _, _⟩ := HR5.out
      go_wp2_with fail
      refine (HGC.out).mono ?_
      rintro e w6 ⟨vc, e2, cy, rfl, hrc, he2, ho6, hcy⟩
      have HX6 := Lib.hid (HX5.out.then ho6)
      have HP6 := Lib.hid (HP5.out.then ho6)
      have HRW2 := Lib.hid hrc
      have HE2 := Lib.hid he2
      have HCY := Lib.hid hcy
      clear hrc he2 hcy ho6
      -- Needs
      go_wp2_with fail
      refine (HOR.out w6 HX6.out).mono ?_
      rintro e w7 ⟨v7, rfl, hr7, ho7⟩
      have HX7 := Lib.hid (HX6.out.then ho7)
      have HP7 := Lib.hid (HP6.out.then ho7)
      have HQ7 := Lib.hid ho7
      have HR7 := Lib.hid hr7
      clear ho7 hr7
      obtain ⟨a7, c7, rfl, _, _, _⟩ := HR7.out
      go_wp2_with fail
      refine (HOT.out w7 HX7.out).mono ?_
      rintro e w8 ⟨v8, rfl, hr8, ho8⟩
      have HRO8 := Lib.hid hr8
      have HX8 := Lib.hid (HX7.out.then ho8)
      have HP8 := Lib.hid (HP7.out.then ho8)
      have HQ8 := Lib.hid (HQ7.out.then ho8)
      have HR8 := Lib.hid (HR7.out.ext ho8)
      clear hr8 ho8
      have HGN := Lib.hid (graphNeeds_any w8 P l outs _ v8 HR8.out HRO8.out HNO.out HSM.out ((HVV.out.ext HX8.out).sub (by decide)))
      obtain ⟨a8, c8, rfl, _, _, _⟩ := HRO8.out
      go_wp2_with fail
      refine (HGN.out).mono ?_
      rintro e w9 ⟨vn, e3, ns, rfl, hrn, he3, ho9, hns⟩
      have HX9 := Lib.hid (HX8.out.then ho9)
      have HP9 := Lib.hid (HP8.out.then ho9)
      have HQ9 := Lib.hid (HQ8.out.then ho9)
      have HRW3 := Lib.hid hrn
      have HE3 := Lib.hid he3
      have HNS := Lib.hid hns
      clear hrn he3 hns ho9
      -- Leaves
      go_wp2_with fail
      refine (HOR.out w9 HX9.out).mono ?_
      rintro e w10 ⟨v10, rfl, hr10, ho10⟩
      have HR10 := Lib.hid hr10
      have HX10 := Lib.hid (HX9.out.then ho10)
      have HP10 := Lib.hid (HP9.out.then ho10)
      have HQ10 := Lib.hid (HQ9.out.then ho10)
      have HT10 := Lib.hid ho10
      clear hr10 ho10
      have HGL := Lib.hid (graphLeaves_any w10 P l v10 HR10.out HSM.out HIS.out ((HVV.out.ext HX10.out).sub (by decide)))
      obtain ⟨a10, c10, rfl, _, _, _⟩ := HR10.out
      go_wp2_with fail
      refine (HGL.out).mono ?_
      rintro e w11 ⟨vl, e4, rfl, hrl, he4, ho11⟩
      have HX11 := Lib.hid (HX10.out.then ho11)
      have HP11 := Lib.hid (HP10.out.then ho11)
      have HQ11 := Lib.hid (HQ10.out.then ho11)
      have HT11 := Lib.hid (HT10.out.then ho11)
      have HRW4 := Lib.hid hrl
      have HE4 := Lib.hid he4
      clear hrl he4 ho11
      -- the reference's fault
      have hrs := refSheet_any w11 l _ (HRD.out.ext HX11.out) HSM.out
      have HF12 := Lib.hid (sheet_le l)
      have HFZ := Lib.hid (fun h => sheet_zero (l := l) h)
      obtain ⟨F, hF⟩ : ∃ F, F = sheetFault l := ⟨_, rfl⟩
      rw [← hF] at hrs HF12 HFZ
      have HF := Lib.hid hF
      obtain ⟨c, t⟩ := F
      have HRS := Lib.hid hrs
      clear hF hrs
      by_cases hc : c = 0
      case neg =>
        go_wp2_with fail
        refine (HRS.out).mono ?_
        rintro e w12 ⟨rfl, ho12⟩
        have HX12 := Lib.hid (HX11.out.then ho12)
        have HP12 := Lib.hid (HP11.out.then ho12)
        have HQ12 := Lib.hid (HQ11.out.then ho12)
        have HT12 := Lib.hid (HT11.out.then ho12)
        have HU12 := Lib.hid ho12
        clear ho12
        have HB := Lib.hid (MapKept.heap_alloc w12 (.cells #[IN c, I t] 40 (0, 0))).1
        have HAL : Hid (Ext w12 (w12.alloc (.cells #[IN c, I t] 40 (0, 0)))) := Lib.hid (Only.alloc _ _ _)
        have hne : (sheetFault l).1 ≠ 0 := by rw [← HF.out]; exact hc
        have hof : orderFault l = (c, t) := by unfold orderFault; rw [if_pos hne, ← HF.out]
        have hoo : orderOut l = [] := by unfold orderOut; rw [if_pos hne]
        have hnf : needFault l outs = (c, t) := by unfold needFault; rw [if_pos hne, ← HF.out]
        have hlo : leavesOut l = [] := by unfold leavesOut; rw [if_pos hne]
        have hcn : cy = [] := by
          rcases HCY.out with ⟨_, h⟩ | ⟨h, _⟩
          · exact h
          · exact absurd h hne
        have hnn : ns = [] := by
          rcases HNS.out with ⟨_, h⟩ | ⟨h, _⟩
          · exact h
          · rw [hnf] at h; exact absurd h hc
        have hf0 : c = 0 → t = -1 := fun h => absurd h hc
        have he1 := HE1.out
        have he2 := HE2.out
        have he3 := HE3.out
        have he4 := HE4.out
        rw [hof] at he1
        rw [← HF.out] at he2 he4
        rw [hnf] at he3
        have HFA := Lib.hid (fun (wq : World) (hx : Ext w12 wq) => (show Calls Tryz.prog 63 #[e1, AggF (c, t)] wq (RetE (.bool true) wq) ∧ Calls Tryz.prog 63 #[e2, AggF (c, t)] wq (RetE (.bool true) wq) ∧ Calls Tryz.prog 63 #[e3, AggF (c, t)] wq (RetE (.bool true) wq) ∧ Calls Tryz.prog 63 #[e4, AggF (c, t)] wq (RetE (.bool true) wq) from by
          have hs := HSS.out.ext (HX12.out.then hx)
          exact ⟨faulted1_any wq e1 (c, t) (c, t) (code_at wq P hs e1 (c, t) (he1.ext (HP12.out.then hx)) HF12.out hf0) rfl, faulted1_any wq e2 (c, t) (c, t) (code_at wq P hs e2 (c, t) (he2.ext (HQ12.out.then hx)) HF12.out hf0) rfl, faulted1_any wq e3 (c, t) (c, t) (code_at wq P hs e3 (c, t) (he3.ext (HT12.out.then hx)) HF12.out hf0) rfl, faulted1_any wq e4 (c, t) (c, t) (code_at wq P hs e4 (c, t) (he4.ext (HU12.out.then hx)) HF12.out hf0) rfl⟩))
        have hr1 := HRW1.out
        have hr2 := HRW2.out
        have hr3 := HRW3.out
        have hr4 := HRW4.out
        rw [hoo] at hr1
        rw [hcn] at hr2
        rw [hnn] at hr3
        rw [hlo] at hr4
        obtain ⟨b1, k1, rfl⟩ := rowI_nil hr1
        obtain ⟨b2, k2, rfl⟩ := rowI_nil hr2
        obtain ⟨b3, k3, rfl⟩ := rowI_nil hr3
        obtain ⟨b4, k4, rfl⟩ := row_nil hr4
        have hcz : (0 : Int) < (c : Int) := by omega
        clear hne hof hoo hnf hlo hcn hnn hf0 he1 he2 he3 he4 hr1 hr2 hr3 hr4 hc
        go_wp2_with fail
        refine (HFA.out _ HAL.out).1.mono ?_
        rintro e w14 ⟨rfl, ho14⟩
        have HX14 := Lib.hid (HAL.out.then ho14)
        have HB14 := Lib.hid (ho14.heapOf HB.out (fun h => h))
        clear ho14
        have c0 := (cell_of_heap HB14.out 0).trans (rfl : _ = some (IN c))
        have c1 := (cell_of_heap HB14.out 1).trans (rfl : _ = some (I t))
        go_wp2_with fail
        clear c0 c1
        refine (HFA.out _ HX14.out).2.1.mono ?_
        rintro e w15 ⟨rfl, ho15⟩
        have HX15 := Lib.hid (HX14.out.then ho15)
        have HB15 := Lib.hid (ho15.heapOf HB14.out (fun h => h))
        clear ho15
        have c0 := (cell_of_heap HB15.out 0).trans (rfl : _ = some (IN c))
        have c1 := (cell_of_heap HB15.out 1).trans (rfl : _ = some (I t))
        go_wp2_with fail
        clear c0 c1
        refine (HFA.out _ HX15.out).2.2.1.mono ?_
        rintro e w16 ⟨rfl, ho16⟩
        have HX16 := Lib.hid (HX15.out.then ho16)
        have HB16 := Lib.hid (ho16.heapOf HB15.out (fun h => h))
        clear ho16
        have c0 := (cell_of_heap HB16.out 0).trans (rfl : _ = some (IN c))
        have c1 := (cell_of_heap HB16.out 1).trans (rfl : _ = some (I t))
        go_wp2_with fail
        clear c0 c1
        refine (HFA.out _ HX16.out).2.2.2.mono ?_
        rintro e w17 ⟨rfl, ho17⟩
        have HX17 := Lib.hid (HX16.out.then ho17)
        have HB17 := Lib.hid (ho17.heapOf HB16.out (fun h => h))
        clear ho17
        go_wp2_with fail
        go_ret
        exact ⟨rfl, HX12.out.then HX17.out⟩
      case pos =>
        subst hc
        obtain rfl : t = -1 := by
          exact (Prod.mk.inj (HFZ.out rfl)).2
        have h00 : (sheetFault l).1 = 0 := by rw [← HF.out]
        have HR := Lib.hid (sheet_ok.1 h00)
        have h40 : l.length ≤ 40 := HR.out.1
        have hnne : ¬ (sheetFault l).1 ≠ 0 := by rw [h00]; simp
        have hcy : CycOk l.length (needB l) cy := by
          rcases HCY.out with ⟨h, _⟩ | ⟨_, h⟩
          · exact absurd h00 h
          · exact h
        have HCOK := Lib.hid hcy
        have hlo : leavesOut l = leavesB l := by unfold leavesOut; rw [if_neg hnne]
        rw [hlo] at HRW4
        have HNF : Hid (needFault l outs = match badOf l outs with | some i => (6, (i : Int)) | none => (0, -1)) := Lib.hid (by unfold needFault; rw [if_neg hnne]; cases badOf l outs <;> rfl)
        have he2 := HE2.out
        have he4 := HE4.out
        rw [← HF.out] at he2 he4
        obtain rfl := he2.zero rfl
        obtain rfl := he4.zero rfl
        have HNN := Lib.hid hnne
        clear hcy hlo he2 he4 h00 hnne
        go_wp2_with fail
        refine (HRS.out).mono ?_
        rintro e w12 ⟨rfl, ho12⟩
        have HX12 := Lib.hid (HX11.out.then ho12)
        have HP12 := Lib.hid (HP11.out.then ho12)
        have HQ12 := Lib.hid (HQ11.out.then ho12)
        have HT12 := Lib.hid (HT11.out.then ho12)
        have HU12 := Lib.hid ho12
        clear ho12
        have HAL : Hid (Ext w12 (w12.alloc (.cells #[.int .i64 0, .int .i64 (-1)] 40 (0, 0)))) := Lib.hid (Only.alloc _ _ _)
        go_wp2_with fail
        refine (allOf_any _ l.length (by omega)).mono ?_
        rintro e w14 ⟨rfl, ht14, ho14⟩
        have HX14 := Lib.hid (HAL.out.then ho14)
        obtain ⟨tb0, htb0⟩ : ∃ tb0, tb0 = (w12.alloc (.cells #[.int .i64 0, .int .i64 (-1)] 40 (0, 0))).heap.size := ⟨_, rfl⟩
        rw [← htb0] at ht14
        rw [← htb0]
        clear htb0
        have horc : Calls Tryz.prog 74 _ w14 (RetOrder (orderL l) w14) := orderOf_any w14 l _ _ (fun _ => true) (HRD.out.ext (HX12.out.then HX14.out)) (by omega) ht14
        have HORC := Lib.hid horc
        clear ht14 ho14 horc
        go_wp2_with fail
        refine HORC.out.mono ?_
        rintro e w15 ⟨vq, rfl, hrq, ho15⟩
        have HX15 := Lib.hid (HX14.out.then ho15)
        have HRQ := Lib.hid hrq
        clear hrq ho15
        cases hol : orderL l with
        | some od =>
          have hof : orderFault l = (0, -1) := by unfold orderFault; rw [if_neg HNN.out, hol]; rfl
          have hoo : orderOut l = od := by unfold orderOut; rw [if_neg HNN.out, hol]; rfl
          have he1 := HE1.out
          rw [hof] at he1
          obtain rfl := he1.zero rfl
          have hr1 := HRW1.out
          have hrq := HRQ.out
          rw [hoo] at hr1
          rw [hol] at hrq
          have hsi := sameInts_any w15 vo vq _ _ (hr1.ext (HP12.out.then HX15.out)).rd.ints hrq.rd.ints
          change Calls _ _ _ _ (fun e w' => e = .returned (.bool (od.map (fun k : Nat => (k : Int)) == od.map (fun k : Nat => (k : Int)))) ∧ Drawn w15 w') at hsi
          rw [beq_self_eq_true] at hsi
          have HSI := Lib.hid hsi
          clear hof hoo he1 hr1 hrq hsi hol HRQ
          go_wp2_with fail
          refine HSI.out.mono ?_
          rintro e w16 ⟨rfl, hd⟩
          have HX16 := Lib.hid (HX15.out.then hd.ext)
          clear hd
          have HCY2 := Lib.hid (cycleOf_any w16 l _ (HRD.out.ext (HX12.out.then HX16.out)) h40)
          go_wp2_with fail
          refine HCY2.out.mono ?_
          rintro e w17 ⟨vq2, c2, rfl, hrw2, ho17, hcr⟩
          obtain rfl := cyc_same (fun _ _ h => (needB_lt h).2) HCOK.out hcr
          have HX17 := Lib.hid (HX16.out.then ho17)
          have hsi := sameInts_any w17 vc vq2 _ _ (HRW2.out.ext (HQ12.out.then HX17.out)).rd.ints hrw2.rd.ints
          rw [beq_self_eq_true] at hsi
          have HSI2 := Lib.hid hsi
          clear hrw2 ho17 hcr hsi
          go_wp2_with fail
          refine HSI2.out.mono ?_
          rintro e w18 ⟨rfl, hd⟩
          have HX18 := Lib.hid (HX17.out.then hd.ext)
          clear hd
          have HLV2 := Lib.hid (leavesOf_any w18 l _ (HRD.out.ext (HX12.out.then HX18.out)) h40 HIS.out)
          go_wp2_with fail
          refine HLV2.out.mono ?_
          rintro e w19 ⟨vq3, rfl, ho19, hrw3⟩
          have HX19 := Lib.hid (HX18.out.then ho19)
          have hst := sameTexts_any w19 vl vq3 _ _ (HRW4.out.ext (HU12.out.then HX19.out)).rd hrw3.rd
          rw [beq_self_eq_true] at hst
          have HST2 := Lib.hid hst
          clear hrw3 ho19 hst
          go_wp2_with fail
          refine HST2.out.mono ?_
          rintro e w20 ⟨rfl, hd⟩
          have HX20 := Lib.hid (HX19.out.then hd.ext)
          clear hd
          have HND2 := Lib.hid (neededOf_any w20 l outs _ _ (HRD.out.ext (HX12.out.then HX20.out)) (HRO.out.ext (HX12.out.then HX20.out)) HR.out)
          go_wp2_with fail
          refine HND2.out.mono ?_
          rintro e w21 ⟨ho21, hcase⟩
          have HX21 := Lib.hid (HX20.out.then ho21)
          clear ho21
          rcases hcase with ⟨i, hb, rfl⟩ | ⟨hb, tb, rfl, htab⟩
          · have hnf := HNF.out
            rw [hb] at hnf
            have he3 := HE3.out
            rw [hnf] at he3
            have hfa := faulted1_any w21 e3 (6, (i : Int)) (6, (i : Int)) (code_at w21 P (HSS.out.ext (HX12.out.then HX21.out)) e3 (6, (i : Int)) (he3.ext (HT12.out.then HX21.out)) (show 6 ≤ 12 by decide) (fun h => by cases h)) rfl
            have HFA := Lib.hid hfa
            have hnn : ns = [] := by
              rcases HNS.out with ⟨_, h⟩ | ⟨h, _⟩
              · exact h
              · rw [hnf] at h; cases h
            have hr3 := HRW3.out
            rw [hnn] at hr3
            obtain ⟨b3, k3, rfl⟩ := rowI_nil hr3
            have hi0 : (0 : Int) ≤ (i : Int) := by omega
            clear hb hnf he3 hfa hnn hr3
            go_wp2_with fail
            refine HFA.out.mono ?_
            rintro e w22 ⟨rfl, ho22⟩
            have HX22 := Lib.hid (HX21.out.then ho22)
            clear ho22
            go_wp2_with fail
            go_ret
            exact ⟨rfl, HX12.out.then HX22.out⟩
          · have hnf := HNF.out
            rw [hb] at hnf
            have he3 := HE3.out
            rw [hnf] at he3
            obtain rfl := he3.zero rfl
            have hns : ns = needL l outs := by
              rcases HNS.out with ⟨h, _⟩ | ⟨_, h⟩
              · rw [hnf] at h; exact absurd rfl h
              · exact needOk_eq h
            have HNB := Lib.hid (numbers_any w21 tb l.length (reachB l outs) htab (by omega))
            have hr3 := HRW3.out
            rw [hns] at hr3
            have HR3 := Lib.hid hr3
            clear hb hnf he3 hns htab hr3
            go_wp2_with fail
            refine HNB.out.mono ?_
            rintro e w22 ⟨vq4, rfl, hrw4, ho22⟩
            have HX22 := Lib.hid (HX21.out.then ho22)
            have hsi := sameInts_any w22 vn vq4 _ _ (HR3.out.ext (HT12.out.then HX22.out)).rd.ints hrw4.rd.ints
            change Calls _ _ _ _ (fun e w' => e = .returned (.bool ((needL l outs).map (fun k : Nat => (k : Int)) == (needL l outs).map (fun k : Nat => (k : Int)))) ∧ Drawn w22 w') at hsi
            rw [beq_self_eq_true] at hsi
            have HSI4 := Lib.hid hsi
            clear hrw4 ho22 hsi
            go_wp2_with fail
            refine HSI4.out.mono ?_
            rintro e w23 ⟨rfl, hd⟩
            have HX23 := Lib.hid (HX22.out.then hd.ext)
            clear hd
            go_wp2_with fail
            go_ret
            exact ⟨rfl, HX12.out.then HX23.out⟩
        | none =>
          have hof : orderFault l = (9, -1) := by unfold orderFault; rw [if_neg HNN.out, hol]; rfl
          have hoo : orderOut l = [] := by unfold orderOut; rw [if_neg HNN.out, hol]; rfl
          have he1 := HE1.out
          rw [hof] at he1
          obtain rfl : e1 = errV (P 8) := by
            rcases he1 with ⟨h, _⟩ | ⟨_, _, h⟩ | ⟨_, h, _⟩
            · cases h
            · exact h
            · exact absurd h (by decide)
          have hr1 := HRW1.out
          rw [hoo] at hr1
          obtain ⟨b1, k1, rfl⟩ := rowI_nil hr1
          have hco := codedE w15 P (HSS.out.ext (HX12.out.then HX15.out)) 8 (by decide) 9
          rw [show (((8 : Nat) : Int) + 1 == 9) = true from by decide] at hco
          have HCO := Lib.hid hco
          clear hof hoo he1 hr1 hco hol HRQ
          go_wp2_with fail
          refine HCO.out.mono ?_
          rintro e w16 ⟨rfl, ho16⟩
          have HX16 := Lib.hid (HX15.out.then ho16)
          clear ho16
          have HCY2 := Lib.hid (cycleOf_any w16 l _ (HRD.out.ext (HX12.out.then HX16.out)) h40)
          go_wp2_with fail
          refine HCY2.out.mono ?_
          rintro e w17 ⟨vq2, c2, rfl, hrw2, ho17, hcr⟩
          obtain rfl := cyc_same (fun _ _ h => (needB_lt h).2) HCOK.out hcr
          have HX17 := Lib.hid (HX16.out.then ho17)
          have hsi := sameInts_any w17 vc vq2 _ _ (HRW2.out.ext (HQ12.out.then HX17.out)).rd.ints hrw2.rd.ints
          rw [beq_self_eq_true] at hsi
          have HSI2 := Lib.hid hsi
          clear hrw2 ho17 hcr hsi
          go_wp2_with fail
          refine HSI2.out.mono ?_
          rintro e w18 ⟨rfl, hd⟩
          have HX18 := Lib.hid (HX17.out.then hd.ext)
          clear hd
          have HLV2 := Lib.hid (leavesOf_any w18 l _ (HRD.out.ext (HX12.out.then HX18.out)) h40 HIS.out)
          go_wp2_with fail
          refine HLV2.out.mono ?_
          rintro e w19 ⟨vq3, rfl, ho19, hrw3⟩
          have HX19 := Lib.hid (HX18.out.then ho19)
          have hst := sameTexts_any w19 vl vq3 _ _ (HRW4.out.ext (HU12.out.then HX19.out)).rd hrw3.rd
          rw [beq_self_eq_true] at hst
          have HST2 := Lib.hid hst
          clear hrw3 ho19 hst
          go_wp2_with fail
          refine HST2.out.mono ?_
          rintro e w20 ⟨rfl, hd⟩
          have HX20 := Lib.hid (HX19.out.then hd.ext)
          clear hd
          have HND2 := Lib.hid (neededOf_any w20 l outs _ _ (HRD.out.ext (HX12.out.then HX20.out)) (HRO.out.ext (HX12.out.then HX20.out)) HR.out)
          go_wp2_with fail
          refine HND2.out.mono ?_
          rintro e w21 ⟨ho21, hcase⟩
          have HX21 := Lib.hid (HX20.out.then ho21)
          clear ho21
          rcases hcase with ⟨i, hb, rfl⟩ | ⟨hb, tb, rfl, htab⟩
          · have hnf := HNF.out
            rw [hb] at hnf
            have he3 := HE3.out
            rw [hnf] at he3
            have hfa := faulted1_any w21 e3 (6, (i : Int)) (6, (i : Int)) (code_at w21 P (HSS.out.ext (HX12.out.then HX21.out)) e3 (6, (i : Int)) (he3.ext (HT12.out.then HX21.out)) (show 6 ≤ 12 by decide) (fun h => by cases h)) rfl
            have HFA := Lib.hid hfa
            have hnn : ns = [] := by
              rcases HNS.out with ⟨_, h⟩ | ⟨h, _⟩
              · exact h
              · rw [hnf] at h; cases h
            have hr3 := HRW3.out
            rw [hnn] at hr3
            obtain ⟨b3, k3, rfl⟩ := rowI_nil hr3
            have hi0 : (0 : Int) ≤ (i : Int) := by omega
            clear hb hnf he3 hfa hnn hr3
            go_wp2_with fail
            refine HFA.out.mono ?_
            rintro e w22 ⟨rfl, ho22⟩
            have HX22 := Lib.hid (HX21.out.then ho22)
            clear ho22
            go_wp2_with fail
            go_ret
            exact ⟨rfl, HX12.out.then HX22.out⟩
          · have hnf := HNF.out
            rw [hb] at hnf
            have he3 := HE3.out
            rw [hnf] at he3
            obtain rfl := he3.zero rfl
            have hns : ns = needL l outs := by
              rcases HNS.out with ⟨h, _⟩ | ⟨_, h⟩
              · rw [hnf] at h; exact absurd rfl h
              · exact needOk_eq h
            have HNB := Lib.hid (numbers_any w21 tb l.length (reachB l outs) htab (by omega))
            have hr3 := HRW3.out
            rw [hns] at hr3
            have HR3 := Lib.hid hr3
            clear hb hnf he3 hns htab hr3
            go_wp2_with fail
            refine HNB.out.mono ?_
            rintro e w22 ⟨vq4, rfl, hrw4, ho22⟩
            have HX22 := Lib.hid (HX21.out.then ho22)
            have hsi := sameInts_any w22 vn vq4 _ _ (HR3.out.ext (HT12.out.then HX22.out)).rd.ints hrw4.rd.ints
            change Calls _ _ _ _ (fun e w' => e = .returned (.bool ((needL l outs).map (fun k : Nat => (k : Int)) == (needL l outs).map (fun k : Nat => (k : Int)))) ∧ Drawn w22 w') at hsi
            rw [beq_self_eq_true] at hsi
            have HSI4 := Lib.hid hsi
            clear hrw4 ho22 hsi
            go_wp2_with fail
            refine HSI4.out.mono ?_
            rintro e w23 ⟨rfl, hd⟩
            have HX23 := Lib.hid (HX22.out.then hd.ext)
            clear hd
            go_wp2_with fail
            go_ret
            exact ⟨rfl, HX12.out.then HX23.out⟩
end Go.Proofs.YtnmhaipjfpongabGreatDoor

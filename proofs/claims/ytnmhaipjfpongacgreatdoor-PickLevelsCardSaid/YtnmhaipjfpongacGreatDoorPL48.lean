/- Texts of this seat laid together for one claim: Z36. No condition of its own: what each proves stands with its theorems. -/
import Derived.Deep.CutBlock
import Derived.Deep.DeepCutAuto
import Derived.Test.YtnmhaipjfpongacGreatDoorPL47
import Derived.Test.YtnmhaipjfpongacGreatDoorPL46
import Derived.Test.YtnmhaipjfpongacGreatDoorPL34
namespace Go.Proofs.YtnmhaipjfpongacGreatDoor
open Go.ChangeShapes Go.WideShapes Go.ChangeAt Go.RowKit

theorem sheet_le3 (l : List Rule) : (sheetFault l).1 ≤ 12 := by
 unfold sheetFault
 split
 ·decide
 ·have key : ∀ (k : List Rule) (seen : List B) (i : Nat), (sheetGo seen i k).1 ≤ 12 := by
   intro k
   induction k with
   | nil => intro seen i; simp [sheetGo]
   | cons r k ih =>
    intro seen i
    rw [sheetGo]
    split
    ·exact ruleCode_le r
    ·split
     ·exact (by decide : 7 ≤ 12)
     ·exact ih _ _
  exact key l [] 0
theorem orderFault_le3 (l : List Rule) : (orderFault l).1 ≤ 12 := by
 unfold orderFault
 split
 ·exact sheet_le3 l
 ·split <;> decide

set_option maxRecDepth 100000 in
set_option maxHeartbeats 16000000 in
theorem walkPickLevels (w : World) (P : Nat → Addr) (v0 : Value) (l : List Rule) (hv0 : RdR w v0 l) (hV : PV w P [1, 2, 3, 4, 5, 6, 7, 8, 9, 10, 11]) (hS : Sents w P) :
  Calls Tryz.prog 5 #[v0] w (RetE (.bool true) w) := by
 have H0 := Lib.hid hv0
 have HVV := Lib.hid hV
 have HSS := Lib.hid hS
 have HPK := Lib.hid (picked_any w P hV)
 obtain ⟨a0, p0, rfl, _, _, _⟩ := hv0
 clear hV hS
 go_enter Tryz.func5, Tryz.ntmps5
 go_wp2_with fail
 refine (HPK.out).mono ?_
 rintro e w1 ⟨rfl, ho⟩
 have HX1 := Lib.hid ho
 clear ho
 go_wp2_with fail
 refine (longRules_any w1 _ l 16 (H0.out.ext HX1.out)).mono ?_
 rintro e w2 ⟨⟨r, rfl, hr, hz⟩, rfl⟩
 have HZ2 := Lib.hid hz
 clear hz
 rcases hr with rfl | rfl
 case inr =>
  go_wp2_with fail
  go_ret
  exact ⟨rfl, HX1.out⟩
 case inl =>
  have HSH := Lib.hid (HZ2.out rfl).2
  have HSM : Hid (∀ r ∈ l, RuleSm 900000 r) := Lib.hid (fun r hr => (HSH.out r hr).sm)
  have h41 : l.length ≤ 41 := by rcases (HZ2.out rfl).1 with h | h <;> omega
  have hlz : (l.length : Int) ≤ 41 := by omega
  have HIL : Hid (∀ r ∈ l, r.ins.length ≤ 1000000) := Lib.hid (fun r hr => by have := (HSH.out r hr).many; omega)
  clear HZ2 HSH HPK
  go_wp2_with fail
  refine (ownRules_any w1 _ l (H0.out.ext HX1.out) (by omega) HIL.out).mono ?_
  rintro e w3 ⟨v3, rfl, hr3, ho3⟩
  have HX3 := Lib.hid (HX1.out.then ho3)
  have HLV := Lib.hid (levels_any w3 P l v3 hr3 HSM.out ((HVV.out.ext HX3.out).sub (by decide)))
  obtain ⟨a3, p3, rfl, _, _, _⟩ := hr3
  clear ho3
  go_wp2_with fail
  refine HLV.out.mono ?_
  rintro e w4 ⟨vx, e1, rfl, he1, ho4, hres⟩
  have HX4 := Lib.hid (HX3.out.then ho4)
  have HE1 := Lib.hid he1
  obtain ⟨N, hN⟩ : ∃ N, N = if (orderFault l).1 = 0 then (levelsL l).length else 0 := ⟨_, rfl⟩
  obtain ⟨ax, cx, rfl⟩ : ∃ ax cx, vx = .slice ax N cx := by
   rcases hres with ⟨h, rfl⟩ | ⟨h, hr⟩
   ·rw [hN, if_neg h]; exact ⟨_, _, rfl⟩
   ·rw [hN, if_pos h]
    obtain ⟨a1, c1, h1, _⟩ := hr
    exact ⟨a1, c1, h1⟩
  have HRES := Lib.hid hres
  have HN := Lib.hid hN
  clear he1 ho4 hres HLV hN
  go_wp2_with fail
  refine (ownRules_any w4 _ l (H0.out.ext HX4.out) (by omega) HIL.out).mono ?_
  rintro e w5 ⟨v5, rfl, hr5, ho5⟩
  have HX5 := Lib.hid (HX4.out.then ho5)
  have hdp := deep_any w5 P l v5 hr5 HSM.out ((HVV.out.ext HX5.out).sub (by decide))
  rw [← HN.out] at hdp
  have HDP := Lib.hid hdp
  obtain ⟨a5, p5, rfl, _, _, _⟩ := hr5
  have HY5 := Lib.hid ho5
  clear ho5 hdp
  go_wp2_with fail
  refine HDP.out.mono ?_
  rintro e w10 ⟨e2, rfl, he2, ho10⟩
  have HY10 := Lib.hid (HY5.out.then ho10)
  have HX10 := Lib.hid (HX5.out.then ho10)
  have HE2 := Lib.hid he2
  clear he2 ho10 HDP HX5 HY5
  obtain ⟨F, hF⟩ : ∃ F, F = sheetFault l := ⟨_, rfl⟩
  have hrs := refSheet_any w10 l _ (H0.out.ext HX10.out) HSM.out
  rw [← hF] at hrs
  have HF := Lib.hid hF
  obtain ⟨c, t⟩ := F
  have HRS := Lib.hid hrs
  clear hF hrs
  go_wp2_with fail
  refine HRS.out.mono ?_
  rintro e w11 ⟨rfl, ho11⟩
  have HX11 := Lib.hid (HX10.out.then ho11)
  have HY11 := Lib.hid (HY10.out.then ho11)
  have HE21 := Lib.hid (HE2.out.ext ho11)
  clear ho11 HE2 HRS HX10 HY10
  have HB := Lib.hid (MapKept.heap_alloc w11 (.cells #[IN c, I t] 37 (0, 0))).1
  go_upto_if 40 with fail
  have HXB : Hid (Ext w11 (w11.alloc (.cells #[IN c, I t] 37 (0, 0)))) := Lib.hid (Only.alloc _ _ _)
  generalize (w11.alloc (.cells #[IN c, I t] 37 (0, 0))) = wB at HXB HB ⊢
  obtain ⟨gb, hgb⟩ : ∃ gb, gb = w11.heap.size := ⟨_, rfl⟩
  rw [← hgb] at HB
  rw [← hgb]
  have HGB : Hid (w11.heap.size ≤ gb) := Lib.hid (by omega)
  clear hgb
  go_cut [] (fun wx => ∃ (c2 : Nat) (t2 : Int), Hid ((c2, t2) = orderFault l) ∧ Hid (wx.heap[gb]? = some (.cells #[IN c2, I t2] 37 (0, 0))) ∧ Hid (Ext w11 wx))
  case first =>
   by_cases hc : c = 0
   case neg =>
    have hof : orderFault l = (c, t) := by
     have hne : (sheetFault l).1 ≠ 0 := by rw [← HF.out]; exact hc
     unfold orderFault; rw [if_pos hne, ← HF.out]
    have HOF := Lib.hid hof.symm
    have hce : ((c : Int) == 0) = false := beq_eq_false_iff_ne.2 (by omega)
    have hcz : ¬ (c : Int) = 0 := by omega
    have c0 := (cell_of_heap HB.out 0).trans (rfl : _ = some (IN c))
    clear hof hc
    go_wp2_with fail
    go_meet
    exact ⟨c, t, HOF, HB, HXB⟩
   case pos =>
    subst hc
    have h00 : (sheetFault l).1 = 0 := by rw [← HF.out]
    obtain rfl : t = -1 := by
     have h1 := sheet_zero h00
     rw [← HF.out] at h1
     exact (Prod.mk.inj h1).2
    have HZ : Hid (¬ (sheetFault l).1 ≠ 0) := Lib.hid (by rw [h00]; simp)
    have HRB := Lib.hid (H0.out.ext (HX11.out.then HXB.out))
    have c0 := (cell_of_heap HB.out 0).trans (rfl : _ = some (Value.int .i64 0))
    clear h00
    go_wp2_with fail
    refine (allOf_any wB l.length (by omega)).mono ?_
    rintro e w14 ⟨rfl, ht14, ho14⟩
    have HX14 := Lib.hid ho14
    obtain ⟨tb0, htb0⟩ : ∃ tb0, tb0 = wB.heap.size := ⟨_, rfl⟩
    rw [← htb0] at ht14
    rw [← htb0]
    clear htb0
    have HORC : Hid (Calls Tryz.prog 26 _ w14 (RetOrder (orderL l) w14)) := Lib.hid (orderOf_any w14 l _ _ (fun _ => true) (HRB.out.ext ho14) (by omega) ht14)
    clear ht14 ho14
    go_wp2_with fail
    refine HORC.out.mono ?_
    rintro e w15 ⟨vq, rfl, hrq, ho15⟩
    have HX15 := Lib.hid (HX14.out.then ho15)
    clear ho15 HORC
    cases hol : orderL l with
    | some od =>
     rw [hol] at hrq
     have hof : orderFault l = (0, -1) := by unfold orderFault; rw [if_neg HZ.out, hol]; rfl
     have HOF := Lib.hid hof.symm
     obtain ⟨aq, cq, rfl, _, _, _⟩ := hrq.rd
     clear hof hrq hol
     go_wp2_with fail
     go_meet
     exact ⟨0, -1, HOF, Lib.hid (HX15.out.heapOf HB.out (fun h => h)), Lib.hid (HXB.out.then HX15.out)⟩
    | none =>
     rw [hol] at hrq
     have hof : orderFault l = (9, -1) := by unfold orderFault; rw [if_neg HZ.out, hol]; rfl
     have HOF := Lib.hid hof.symm
     obtain ⟨aq, cq, rfl, _, _, _⟩ := hrq.rd
     clear hof hrq hol
     go_wp2_with fail
     refine (refBare_any w15 9).mono ?_
     rintro e w16 ⟨rfl, ho16⟩
     have HX16 := Lib.hid (HX15.out.then ho16)
     have HB16 := Lib.hid (HX16.out.heapOf HB.out (fun h => h))
     have f0 := free_of_heap HB16.out 0
     have f1 := free_of_heap HB16.out 1
     have r0 := (cell_of_heap HB16.out 0).trans (rfl : _ = some (Value.int .i64 0))
     have r1 := (cell_of_heap HB16.out 1).trans (rfl : _ = some (Value.int .i64 (-1)))
     clear ho16
     go_wp2_with fail
     go_meet
     exact ⟨9, -1, HOF, Lib.hid ((heap_setCell_same (heap_setCell_same HB16.out 0 (IN 9)) 1 (I (-1))).trans (by simp)), Lib.hid (ext_setS1 (ext_setS1 (HXB.out.then HX16.out) _ _ HGB.out) _ _ HGB.out)⟩
  case rest =>
   obtain ⟨c2, t2, HOF, HBC, HEC⟩ := hcut
   have HXC := Lib.hid (HX11.out.then HEC.out)
   have HYC := Lib.hid (HY11.out.then HEC.out)
   have HE1C := Lib.hid (HE1.out.ext HYC.out)
   have HE2C := Lib.hid (HE21.out.ext HEC.out)
   rw [← HOF.out] at HE1C HE2C
   clear HB HXB HF HE1 HE21
   by_cases hc : c2 = 0
   case neg =>
    have hn0 : N = 0 := by rw [HN.out, if_neg (by rw [← HOF.out]; exact hc)]
    subst hn0
    have HC1 := Lib.hid (faulted3_any wc e1 (c2, t2) (c2, t2) (code_at wc P (HSS.out.ext HXC.out) e1 (c2, t2) HE1C.out (by rw [HOF.out]; exact orderFault_le3 l) (fun h => absurd h hc)) rfl)
    have HC2 := Lib.hid (fun w1 (hx : Ext wc w1) => faulted3_any w1 e2 (c2, t2) (c2, t2) (code_at w1 P (HSS.out.ext (HXC.out.then hx)) e2 (c2, t2) (HE2C.out.ext hx) (by rw [HOF.out]; exact orderFault_le3 l) (fun h => absurd h hc)) rfl)
    have hcz : (0 : Int) < (c2 : Int) := by omega
    have c0 := (cell_of_heap HBC.out 0).trans (rfl : _ = some (IN c2))
    have c1 := (cell_of_heap HBC.out 1).trans (rfl : _ = some (I t2))
    have HK0 := Lib.hid c0
    have HK1 := Lib.hid c1
    clear hc
    go_wp2_with fail
    refine HC1.out.mono ?_
    rintro e w17 ⟨rfl, ho17⟩
    have HX17 := Lib.hid ho17
    have d0 := ho17.cellOf HK0.out (fun h => h)
    have d1 := ho17.cellOf HK1.out (fun h => h)
    clear ho17 c0 c1
    go_wp2_with fail
    refine (HC2.out w17 HX17.out).mono ?_
    rintro e w18 ⟨rfl, ho18⟩
    have HX18 := Lib.hid (HXC.out.then (HX17.out.then ho18))
    clear ho18 d0 d1
    go_wp2_with fail
    go_ret
    exact ⟨rfl, HX18.out⟩
   case pos =>
    subst hc
    obtain rfl := HE1C.out.zero rfl
    obtain rfl := HE2C.out.zero rfl
    have hz : (orderFault l).1 = 0 := by rw [← HOF.out]
    have hrl : RdLL w4 (.slice ax N cx) (levelsL l) := by
     rcases HRES.out with ⟨h, _⟩ | ⟨_, h⟩
     ·exact absurd hz h
     ·exact h
    have hG := levels_good hz
    obtain ⟨o, ho⟩ : ∃ o, o = orderOut l := ⟨_, rfl⟩
    obtain ⟨E, hE⟩ : ∃ E, E = levelsL l := ⟨_, rfl⟩
    have hNE : N = E.length := by rw [HN.out, if_pos hz, hE]
    subst hNE
    rw [← hE] at hrl hG
    rw [← ho] at hG
    have HG := Lib.hid hG
    have HLO := Lib.hid (fun (i : Nat) (hi : i ∈ o) => level_any w (.slice a0 l.length p0) l o (lvV l o) (fun i => o.idxOf i) H0.out (by omega) hG.lt hG.lvl hG.le hG.down (o.idxOf i + 1) i hi (Nat.lt_succ_self _))
    obtain ⟨ax', cx', hax, _, _, hcx⟩ := hrl
    cases hax
    have HCX := Lib.hid hcx
    have hel := hG.few
    have helz : (E.length : Int) ≤ 1000 := by omega
    have c0 := (cell_of_heap HBC.out 0).trans (rfl : _ = some (Value.int .i64 0))
    have hsz := hG.sum
    clear hG hcx ho hE hz HOF HRES HN HE1C HE2C HBC
    go_wp2_with fail
    clear c0
    go_loopw [11, 12, 13, 14] (fun m k _ _ wr => ∃ (t mn : Nat), t ≤ E.length ∧ m = .int .i64 mn ∧ k = .int .i64 t ∧ Hid (mn = ((E.take t).map List.length).sum) ∧ Hid (Ext wc wr)) (fun _ k _ _ _ => E.length - (intOf k).toNat)
    case atStart => exact ⟨0, 0, Nat.zero_le _, rfl, rfl, Lib.hid rfl, Lib.hid (Only.refl _ _)⟩
    case round =>
     obtain ⟨t, mn, ht, rfl, rfl, HMN, HX⟩ := hrel
     by_cases htl : t < E.length
     ·have htz : (t : Int) < (E.length : Int) := by omega
      have ht0 : (0 : Int) ≤ (t : Int) := by omega
      have ht1 : ¬ (t : Int) < 0 := by omega
      have ht2 : ¬ (E.length : Int) ≤ (t : Int) := by omega
      obtain ⟨bx, ox, rfl, hcell⟩ := HCX.out (by intro h; rw [h] at htl; simp at htl)
      obtain ⟨r, hr⟩ : ∃ r, E[t]? = some r := ⟨_, List.getElem?_eq_getElem htl⟩
      obtain ⟨u, hu, k0⟩ := hcell t r hr
      obtain ⟨hr1, hr2, hr3, hr4⟩ := HG.out.row t r hr
      have HK0 := Lib.hid k0
      have HST := Lib.hid (sumL_take hr)
      rw [← HMN.out] at HST
      have hmn : mn + r.length ≤ 41 := by
       have h1 := sumL_le (E := E) (t + 1)
       rw [HST.out, hsz] at h1
       omega
      have HMB := Lib.hid hmn
      obtain ⟨au, cu, rfl, _, _, hcu⟩ := hu
      have HCU := Lib.hid hcu
      have HRI := Lib.hid hr2
      have HRP := Lib.hid hr3
      have hrl0 : ((r.length : Int) == 0) = false := beq_eq_false_iff_ne.2 (fun e => hr1 (List.eq_nil_of_length_eq_zero (by omega)))
      have hrln : ¬ (r.length : Int) = 0 := fun e => hr1 (List.eq_nil_of_length_eq_zero (by omega))
      have hrlz : (r.length : Int) ≤ 1000 := by omega
      have d0 := (HYC.out.then HX.out).cellOf k0 (fun h => h)
      have HTL := Lib.hid htl
      clear hcell hr k0 hr1 hr2 hr3 hr4 hcu hmn htl HMN
      go_wp2_with fail
      clear d0
      go_loopw [11, 13, 14] (fun m i _ wx => ∃ (x mx : Nat), x ≤ r.length ∧ m = .int .i64 mx ∧ i = .int .i64 x ∧ Hid (mx = mn + x) ∧ Hid (Ext wc wx)) (fun _ i _ _ => r.length - (intOf i).toNat)
      case atStart => exact ⟨0, mn, Nat.zero_le _, rfl, rfl, Lib.hid rfl, HX⟩
      case round =>
       clear HX
       obtain ⟨x, mx, hx, rfl, rfl, HMX, HX⟩ := hrel
       have d0 := (HYC.out.then HX.out).cellOf HK0.out (fun h => h)
       by_cases hxl : x < r.length
       ·have hxz : (x : Int) < (r.length : Int) := by omega
        have hx0 : (0 : Int) ≤ (x : Int) := by omega
        have hx1 : ¬ (x : Int) < 0 := by omega
        have hx2 : ¬ (r.length : Int) ≤ (x : Int) := by omega
        obtain ⟨bu, ou, rfl, hcellu⟩ := HCU.out (by intro h; rw [h] at hxl; simp at hxl)
        obtain ⟨j, hj⟩ : ∃ y, r[x]? = some y := ⟨_, List.getElem?_eq_getElem hxl⟩
        obtain ⟨hjo, hjl⟩ := HRI.out j (List.mem_of_getElem? hj)
        have g0 := (HYC.out.then HX.out).cellOf (hcellu x j hj) (fun h => h)
        have hjn := HG.out.lt j hjo
        have hjz : (j : Int) < (l.length : Int) := by omega
        have hj0 : ¬ (j : Int) < 0 := by omega
        have hj2 : ¬ (l.length : Int) ≤ (j : Int) := by omega
        have hlv := HLO.out j hjo wr (HXC.out.then HX.out)
        rw [hjl] at hlv
        have HLV := Lib.hid hlv
        have HXL := Lib.hid hxl
        have hmx : (mx : Int) ≤ 41 := by have := HMX.out; have := HMB.out; omega
        by_cases hxp : 0 < x
        ·have hxpz : (0 : Int) < (x : Int) := by omega
         obtain ⟨y, hy⟩ : ∃ y, x = y + 1 := ⟨x - 1, by omega⟩
         have hyz : (x : Int) - 1 = (y : Int) := by omega
         have hy0 : (0 : Int) ≤ (y : Int) := by omega
         have hy1 : ¬ (y : Int) < 0 := by omega
         have hy2 : (y : Int) < (r.length : Int) := by omega
         have hy3 : ¬ (r.length : Int) ≤ (y : Int) := by omega
         obtain ⟨q, hq⟩ : ∃ q, r[y]? = some q := ⟨_, List.getElem?_eq_getElem (by omega)⟩
         have g1 := (HYC.out.then HX.out).cellOf (hcellu y q hq) (fun h => h)
         have hlt : q < j := by
          have h1 := List.pairwise_iff_getElem.1 HRP.out y x (by omega) hxl (by omega)
          rw [(List.getElem?_eq_some_iff.1 hq).2, (List.getElem?_eq_some_iff.1 hj).2] at h1
          exact h1
         have hqz : (q : Int) < (j : Int) := by omega
         have hqn : ¬ (j : Int) ≤ (q : Int) := by omega
         clear hcellu hj hjo hjl hjn hlv hxl hy hq hlt hxp
         go_wp2_with fail
         refine HLV.out.mono ?_
         rintro e w20 ⟨rfl, ho20⟩
         have HX20 := Lib.hid (HX.out.then ho20)
         clear ho20 d0 g0 g1
         go_wp2_with fail
         go_roundw
         case rel => exact ⟨x + 1, mx + 1, HXL.out, by go_num, by go_num, Lib.hid (by have := HMX.out; omega), HX20⟩
         case measure => have := HXL.out; simp [intOf]; omega
        ·have hxpz : ¬ (0 : Int) < (x : Int) := by omega
         clear hcellu hj hjo hjl hjn hlv hxl hxp
         go_wp2_with fail
         refine HLV.out.mono ?_
         rintro e w20 ⟨rfl, ho20⟩
         have HX20 := Lib.hid (HX.out.then ho20)
         clear ho20 d0 g0
         go_wp2_with fail
         go_roundw
         case rel => exact ⟨x + 1, mx + 1, HXL.out, by go_num, by go_num, Lib.hid (by have := HMX.out; omega), HX20⟩
         case measure => have := HXL.out; simp [intOf]; omega
       ·have hxz : ¬ (x : Int) < (r.length : Int) := by omega
        have hxe : x = r.length := by omega
        have HXE := Lib.hid hxe
        clear hxl hx hxe
        go_wp2_with fail
        go_roundw
        case rel => exact ⟨t + 1, mx, HTL.out, by first | trivial | rfl, by go_num, Lib.hid (by rw [HST.out, HMX.out, HXE.out]), HX⟩
        case measure => have := HTL.out; simp [intOf]; omega
     ·have htz : ¬ (t : Int) < (E.length : Int) := by omega
      have hmn : mn = l.length := by
       have h1 := HMN.out
       rw [List.take_of_length_le (by omega), hsz] at h1
       exact h1
      subst hmn
      go_wp2_with fail
      go_ret
      exact ⟨by simp, HXC.out.then HX.out⟩
end Go.Proofs.YtnmhaipjfpongacGreatDoor

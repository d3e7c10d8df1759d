/- Texts of this seat laid together for one claim: Br3. No condition of its own: what each proves stands with its theorems. -/
import Derived.Deep.CutBlock
import Derived.Deep.DeepCutAuto
import Derived.Test.YtnmhaipjfpongacGreatDoorBR48
import Derived.Test.YtnmhaipjfpongacGreatDoorBR45
namespace Go.Proofs.YtnmhaipjfpongacGreatDoor
open Go.ChangeShapes Go.WideShapes Go.ChangeAt Go.RowKit

theorem doneB_is {n : Nat} (h : n ≤ 4) : (stateM n == [100, 111, 110, 101]) = (n == 2) ∧ (stateM n == [119, 97, 105, 116, 115]) = (n == 1) := by
 rcases (show n = 0 ∨ n = 1 ∨ n = 2 ∨ n = 3 ∨ n = 4 by omega) with rfl | rfl | rfl | rfl | rfl <;> exact ⟨rfl, rfl⟩
section
variable {w w0 : World} {P : Nat → Addr} {base : Nat} {E : BE} {K : BK} {Km : MK} {s : BS} {o : List Nat} {is : Nat → Bool}
structure RowFacts (E : BE) (s : BS) (t : Nat) (sx ox : B) (ob wb : Bool) (wx : Nat) : Prop where
 st : stateZ E s (t : Int) = sx
 res : resZ E s (t : Int) = (ox, ob)
 why : whyZ E s (t : Int) = wx
 done : (sx == [100, 111, 110, 101]) = ob
 nil : ob = false → ox = []
 wait : (sx == [119, 97, 105, 116, 115]) = wb
 next : waitM E s (t + 1) = waitM E s t + if wb = true then 1 else 0
 mst : S (stateM (mst E s t)) = S sx
 mou : S (outM E s t) = S ox
 mwh : IN (whyM E s t) = IN wx
 le : wx ≤ 12
theorem rowFacts (hW : BWell E o is) (hI : BInv E s) (t : Nat) : ∃ sx ox ob wb wx, RowFacts E s t sx ox ob wb wx := by
 have h4 := mst_le hI t
 have hd := doneB_is h4
 have hz := stateM_Z hI t
 refine ⟨stateZ E s (t : Int), (resZ E s (t : Int)).1, (resZ E s (t : Int)).2, mst E s t == 1, whyZ E s (t : Int), rfl, rfl, rfl, ?_, resZ_nil, ?_, waitM_step E s t, by rw [hz], by rw [resZ_M], by rw [whyZ_M], whyZ_le hW _⟩
 ·rw [← hz, hd.1, resZ_two]
 ·rw [← hz, hd.2]

set_option maxRecDepth 100000 in
set_option maxHeartbeats 8000000 in
theorem asBuild_any (hb : BldAt w P base E K s) (hm : MBldAt w0 w E Km s) (hI : BInv E s) (hW : BWell E o is) (hL : BLens E) (hs : Sents w P) :
  Calls Tryz.prog 58 #[PTR K.b, PTR Km.b] w (RetE (.bool true) w) := by
 have HB := Lib.hid hb
 have HM := Lib.hid hm
 have HI := Lib.hid hI
 have HW := Lib.hid hW
 have HL := Lib.hid hL
 have HS := Lib.hid hs
 have hl40 := hW.right.1
 have hlz : (E.l.length : Int) ≤ 40 := by omega
 have HRR := Lib.hid (readyL_any hb hW hL.many hL.few)
 have HRM := Lib.hid (fun (w1 : World) (hx : Ext w w1) => readyLM_any (hm.grow hx) hW hI)
 generalize readyL E s = rl at HRR HRM
 clear hb hm hI hW hL hs
 go_enter Tryz.func58, Tryz.ntmps58
 go_wp2_with fail
 refine HRR.out.mono ?_
 rintro e w1 ⟨v1, rfl, hr1, ho1⟩
 have HR1 := Lib.hid hr1.rd
 have HX1 := Lib.hid ho1
 obtain ⟨a1, c1, rfl, _, _, _⟩ := hr1.rd
 clear hr1 ho1
 go_wp2_with fail
 refine (HRM.out w1 HX1.out).mono ?_
 rintro e w2 ⟨v2, rfl, hr2, ho2⟩
 have HX2 := Lib.hid (HX1.out.then ho2)
 have hsi := sameInts_any w2 _ _ _ _ ((HR1.out.ext ho2).ints) hr2.rd.ints
 rw [beq_self_eq_true] at hsi
 have HSI := Lib.hid hsi
 obtain ⟨a2, c2, rfl, _, _, _⟩ := hr2.rd
 clear hr2 ho2 hsi HRR HRM HR1
 go_wp2_with fail
 refine HSI.out.mono ?_
 rintro e w3 ⟨rfl, hd⟩
 have HX3 := Lib.hid (HX2.out.then hd.ext)
 clear hd HSI
 go_wp2_with fail
 go_loopw [5, 6] (fun q i wr => ∃ (z : Int), -1 ≤ z ∧ z ≤ (E.l.length : Int) + 1 ∧ i = .int .i64 z ∧ q = IN (waitM E s z.toNat) ∧ Hid (Ext w wr)) (fun _ i _ => (E.l.length + 1 - intOf i).toNat)
 case atStart => exact ⟨-1, by omega, by omega, rfl, rfl, HX3⟩
 case round =>
  obtain ⟨z, hz1, hz2, rfl, rfl, HX⟩ := hrel
  by_cases hgo : z ≤ (E.l.length : Int)
  case neg =>
   have hzn : z = (E.l.length : Int) + 1 := by omega
   subst hzn
   have e1 : waitM E s ((E.l.length : Int) + 1).toNat = waitM E s E.l.length := by
    rw [show ((E.l.length : Int) + 1).toNat = E.l.length + 1 by omega, waitM_step, mst_out (fun h => Nat.lt_irrefl _ (HW.out.lt _ h))]
    rfl
   rw [e1]
   have HOV := Lib.hid (waitM_end (s := s) HW.out)
   have HOA := Lib.hid (fun (wq : World) (hx : Ext w wq) => over_any (HB.out.ext hx) HW.out.rise HL.out.few)
   have HCN := Lib.hid (countB_any wr P base E K s (HB.out.ext HX.out) HW.out.rise HL.out.few HI.out)
   have HM1 := Lib.hid (fun (wq : World) (hx : Ext w wq) => manyM_any (HM.out.grow hx) HW.out HI.out 2 (by decide) [100, 111, 110, 101] rfl false)
   have HM2 := Lib.hid (fun (wq : World) (hx : Ext w wq) => manyM_any (HM.out.grow hx) HW.out HI.out 2 (by decide) [100, 111, 110, 101] rfl true)
   have HM3 := Lib.hid (fun (wq : World) (hx : Ext w wq) => manyM_any (HM.out.grow hx) HW.out HI.out 3 (by decide) [102, 97, 105, 108, 101, 100] rfl false)
   have HM4 := Lib.hid (fun (wq : World) (hx : Ext w wq) => manyM_any (HM.out.grow hx) HW.out HI.out 4 (by decide) [108, 101, 102, 116] rfl false)
   rw [many_ran HW.out] at HM1
   rw [many_hit HW.out] at HM2
   rw [many_fail HW.out] at HM3
   rw [many_left HW.out] at HM4
   obtain ⟨n1, n2, n3, n4, hcn, e1, e2, e3, e4⟩ : ∃ n1 n2 n3 n4 : Nat, cntV s E.sm = #[IN n1, IN n2, IN n3, IN n4] ∧ E.sm.countP (cRan s) = n1 ∧ E.sm.countP (cHit s) = n2 ∧ E.sm.countP (cFail s) = n3 ∧ E.sm.countP (cLeft s) = n4 := ⟨_, _, _, _, rfl, rfl, rfl, rfl, rfl⟩
   rw [e1] at HM1
   rw [e2] at HM2
   rw [e3] at HM3
   rw [e4] at HM4
   rw [hcn] at HCN
   clear hcn e1 e2 e3 e4
   have HM1 : Hid (∀ wq : World, Ext w wq → Calls Tryz.prog 136 #[PTR Km.b, Value.string { data := #[100, 111, 110, 101] }, .bool false] wq (RetE (IN n1) wq)) := HM1
   have HM2 : Hid (∀ wq : World, Ext w wq → Calls Tryz.prog 136 #[PTR Km.b, Value.string { data := #[100, 111, 110, 101] }, .bool true] wq (RetE (IN n2) wq)) := HM2
   have HM3 : Hid (∀ wq : World, Ext w wq → Calls Tryz.prog 136 #[PTR Km.b, Value.string { data := #[102, 97, 105, 108, 101, 100] }, .bool false] wq (RetE (IN n3) wq)) := HM3
   have HM4 : Hid (∀ wq : World, Ext w wq → Calls Tryz.prog 136 #[PTR Km.b, Value.string { data := #[108, 101, 102, 116] }, .bool false] wq (RetE (IN n4) wq)) := HM4
   generalize waitM E s E.l.length = wn at HOV
   have HOA : Hid (∀ wq : World, Ext w wq → Calls Tryz.prog 67 #[PTR K.b] wq (RetE (.bool ((wn : Int) == 0)) wq)) := Lib.hid (fun wq hx => by rw [← HOV.out]; exact HOA.out wq hx)
   have g1 := ((HM.out.grow HX.out).cell 1).trans (rfl : _ = some (Value.slice Km.la E.l.length Km.lc))
   have hge : ¬ (E.l.length : Int) + 1 ≤ (E.l.length : Int) := by omega
   clear hz1 hz2 HOV e1 hgo
   go_wp2_with fail
   refine HCN.out.mono ?_
   rintro e w4 ⟨rfl, ho4⟩
   have HX4 := Lib.hid (HX.out.then ho4)
   clear ho4
   have hg := (MapKept.heap_alloc w4 (.cells #[IN n1, IN n2, IN n3, IN n4] 70 (0, 0))).1
   have k0 := (cell_of_heap hg 0).trans (rfl : _ = some (IN n1))
   have k1 := (cell_of_heap hg 1).trans (rfl : _ = some (IN n2))
   have k2 := (cell_of_heap hg 2).trans (rfl : _ = some (IN n3))
   have k3 := (cell_of_heap hg 3).trans (rfl : _ = some (IN n4))
   have HX5 : Hid (Ext w (w4.alloc (.cells #[IN n1, IN n2, IN n3, IN n4] 70 (0, 0)))) := Lib.hid (HX4.out.thenAlloc _)
   have HK : Hid (∀ wq, Ext (w4.alloc (.cells #[IN n1, IN n2, IN n3, IN n4] 70 (0, 0))) wq → wq.cell? ⟨w4.heap.size, 0, none⟩ = some (IN n1) ∧ wq.cell? ⟨w4.heap.size, 1, none⟩ = some (IN n2) ∧ wq.cell? ⟨w4.heap.size, 2, none⟩ = some (IN n3) ∧ wq.cell? ⟨w4.heap.size, 3, none⟩ = some (IN n4)) := Lib.hid (fun wq hx => ⟨hx.cellOf k0 (fun h => h), hx.cellOf k1 (fun h => h), hx.cellOf k2 (fun h => h), hx.cellOf k3 (fun h => h)⟩)
   clear hg
   go_wp2_with fail
   generalize w4.alloc (.cells #[IN n1, IN n2, IN n3, IN n4] 70 (0, 0)) = wA at k0 k1 k2 k3 HX5 HK ⊢
   clear k0 k1 k2 k3 g1
   go_region_held3 (fun w' => w'.cell? ⟨w4.heap.size, 0, none⟩ = some (IN n1) ∧ w'.cell? ⟨w4.heap.size, 1, none⟩ = some (IN n2) ∧ w'.cell? ⟨w4.heap.size, 2, none⟩ = some (IN n3) ∧ w'.cell? ⟨w4.heap.size, 3, none⟩ = some (IN n4)) (first | exact HK.out _ (Only.refl _ _) | exact HK.out _ (Only.drew _ _) | exact HK.out _ HA4.out | exact HK.out _ HA4.out.thenDrew | exact HK.out _ HA3.out | exact HK.out _ HA3.out.thenDrew | exact HK.out _ HA2.out | exact HK.out _ HA2.out.thenDrew | exact HK.out _ HA1.out | exact HK.out _ HA1.out.thenDrew | go_keep)
    ((first
     | (go_at_call 136; have hq4 := HA3; clear hq4; refine (HM4.out _ (HX5.out.then (by first | exact HA3.out | exact HA3.out.thenDrew))).mono ?_; rintro e w24 ⟨rfl, ho4⟩; have HA4 : Hid (Ext wA w24) := Lib.hid (Only.ext (by first | exact HA3.out | exact HA3.out.thenDrew) ho4); clear ho4)
     | (go_at_call 136; have hq3 := HA2; clear hq3; refine (HM3.out _ (HX5.out.then (by first | exact HA2.out | exact HA2.out.thenDrew))).mono ?_; rintro e w23 ⟨rfl, ho3⟩; have HA3 : Hid (Ext wA w23) := Lib.hid (Only.ext (by first | exact HA2.out | exact HA2.out.thenDrew) ho3); clear ho3)
     | (go_at_call 136; have hq2 := HA1; clear hq2; refine (HM2.out _ (HX5.out.then (by first | exact HA1.out | exact HA1.out.thenDrew))).mono ?_; rintro e w22 ⟨rfl, ho2⟩; have HA2 : Hid (Ext wA w22) := Lib.hid (Only.ext (by first | exact HA1.out | exact HA1.out.thenDrew) ho2); clear ho2)
     | (go_at_call 136; refine (HM1.out _ (HX5.out.then (by first | exact Only.refl _ _ | exact Only.drew _ _))).mono ?_; rintro e w21 ⟨rfl, ho1⟩; have HA1 : Hid (Ext wA w21) := Lib.hid (Only.ext (by first | exact Only.refl _ _ | exact Only.drew _ _) ho1); clear ho1)))
   all_goals
    go_wp2_with fail
    refine (HOA.out _ (HX5.out.then (by first | exact HA4.out | exact HA4.out.thenDrew))).mono ?_
    rintro e w30 ⟨rfl, ho⟩
    have HX30 := Lib.hid (Only.ext (HX5.out.then (by first | exact HA4.out | exact HA4.out.thenDrew)) ho)
    clear ho
    go_wp2_with fail
    go_ret
    exact ⟨by simp, HX30.out⟩
  case pos =>
   by_cases hin : 0 ≤ z ∧ z < (E.l.length : Int)
   case neg =>
    have hlt : ∀ k ∈ E.sm, (k : Int) ≠ z := fun k hk e => hin (by have := HW.out.lt k hk; omega)
    have g1 := ((HM.out.grow HX.out).cell 1).trans (rfl : _ = some (Value.slice Km.la E.l.length Km.lc))
    have HRS := Lib.hid (result_any (HB.out.ext HX.out) z)
    have HST := Lib.hid (fun (wq : World) (hx : Ext w wq) => state_any (HB.out.ext hx) HI.out z)
    have HWY := Lib.hid (fun (wq : World) (hx : Ext w wq) => why_any (HB.out.ext hx) z)
    rw [resZ_out hlt] at HRS
    rw [stateZ_out hlt] at HST
    rw [whyZ_out hlt] at HWY
    have HRS : Hid (Calls Tryz.prog 68 #[PTR K.b, I z] wr (RetSt (.tuple #[S [], .bool false]) wr)) := HRS
    have HWY : Hid (∀ wq : World, Ext w wq → Calls Tryz.prog 134 #[PTR K.b, I z] wq (RetSt .nilIface wq)) := HWY
    have hend : (z < 0 ∧ waitM E s (z + 1).toNat = waitM E s z.toNat) ∨ (¬ z < 0 ∧ z = (E.l.length : Int) ∧ waitM E s (z + 1).toNat = waitM E s z.toNat) := by
     by_cases hn : z < 0
     ·exact .inl ⟨hn, by rw [show (z + 1).toNat = 0 by omega, show z.toNat = 0 by omega]⟩
     ·have hze : z = (E.l.length : Int) := by omega
      refine .inr ⟨hn, hze, ?_⟩
      rw [hze, show ((E.l.length : Int) + 1).toNat = E.l.length + 1 by omega, Int.toNat_natCast, waitM_step, mst_out (fun h => Nat.lt_irrefl _ (HW.out.lt _ h))]
      rfl
    have HEN := Lib.hid (show waitM E s (z + 1).toNat = waitM E s z.toNat by rcases hend with h | h; exact h.2; exact h.2.2)
    have hend : z < 0 ∨ (¬ z < 0 ∧ z = (E.l.length : Int)) := hend.imp (·.1) fun h => ⟨h.1, h.2.1⟩
    have HZ : Hid (-1 ≤ z ∧ z ≤ (E.l.length : Int)) := Lib.hid ⟨hz1, hgo⟩
    have hgo' : z ≤ (E.l.length : Int) := hgo
    clear hlt hin hz1 hz2 hgo
    rcases hend with hn | ⟨hn, hze⟩
    ·-- below
     have hzm : z = -1 := by have := HZ.out; omega
     subst hzm
     go_wp2_with fail
     refine HRS.out.mono ?_
     rintro e w4 ⟨rfl, rfl⟩
     go_wp2_with fail
     refine (HST.out _ HX.out).mono ?_
     rintro e w5 ⟨rfl, ho5⟩
     have HX5 := Lib.hid (HX.out.then ho5)
     clear ho5
     go_wp2_with fail
     refine (HWY.out _ HX5.out).mono ?_
     rintro e w6 ⟨rfl, rfl⟩
     go_wp2_with fail
     go_roundw
     case rel => exact ⟨0, by omega, by omega, rfl, rfl, HX5⟩
     case measure => simp [intOf] <;> omega
    ·-- behind
     subst hze
     go_wp2_with fail
     refine HRS.out.mono ?_
     rintro e w4 ⟨rfl, rfl⟩
     go_wp2_with fail
     refine (HST.out _ HX.out).mono ?_
     rintro e w5 ⟨rfl, ho5⟩
     have HX5 := Lib.hid (HX.out.then ho5)
     clear ho5
     go_wp2_with fail
     refine (HWY.out _ HX5.out).mono ?_
     rintro e w6 ⟨rfl, rfl⟩
     go_wp2_with fail
     go_roundw
     case rel => exact ⟨(E.l.length : Int) + 1, by have := HZ.out; omega, by have := HZ.out; omega, by go_num, by have := HEN.out; rw [this, Int.toNat_natCast], HX5⟩
     case measure => simp [intOf] <;> omega
   case pos =>
    obtain ⟨t, rfl⟩ : ∃ t : Nat, z = (t : Int) := ⟨z.toNat, by omega⟩
    have htl : t < E.l.length := by omega
    have HTL := Lib.hid htl
    obtain ⟨sx, ox, ob, wb, wx, hf⟩ := rowFacts (s := s) HW.out HI.out t
    have hdn := hf.done
    have hwt := hf.wait
    have HF := Lib.hid hf
    have HKT := Lib.hid (fun (wq : World) (hx : Ext w wq) => (show wq.cell? ⟨Km.b, 2, none⟩ = some (TabS Km.st E.l.length) ∧ wq.cell? ⟨Km.b, 3, none⟩ = some (TabS Km.ou E.l.length) ∧ wq.cell? ⟨Km.b, 5, none⟩ = some (TabS Km.wh E.l.length) ∧ wq.cell? ⟨Km.st, t, none⟩ = some (S sx) ∧ wq.cell? ⟨Km.ou, t, none⟩ = some (S ox) ∧ wq.cell? ⟨Km.wh, t, none⟩ = some (IN wx) from by
     have hm := HM.out.grow hx
     refine ⟨hm.cell 2, hm.cell 3, hm.cell 5, ?_, ?_, ?_⟩
     ·rw [← hf.mst]; exact hm.tab.st.cell htl
     ·rw [← hf.mou]; exact hm.tab.ou.cell htl
     ·rw [← hf.mwh]; exact hm.tab.wh.cell htl))
    have HRS := Lib.hid (result_any (HB.out.ext HX.out) (t : Int))
    have HST := Lib.hid (fun (wq : World) (hx : Ext w wq) => state_any (HB.out.ext hx) HI.out (t : Int))
    have HWY := Lib.hid (fun (wq : World) (hx : Ext w wq) => why_any (HB.out.ext hx) (t : Int))
    have HCO := Lib.hid (fun (wq : World) (hx : Ext w wq) => coded2C wq P (HS.out.ext hx) wx hf.le)
    rw [hf.res] at HRS
    rw [hf.st] at HST
    rw [hf.why] at HWY
    have HNX := Lib.hid hf.next
    have HNL := Lib.hid hf.nil
    have hwl := waitM_le E s t
    obtain ⟨wn, hwn⟩ : ∃ wn, wn = waitM E s t := ⟨_, rfl⟩
    rw [← hwn] at HNX hwl
    rw [Int.toNat_natCast, ← hwn]
    have g1 := ((HM.out.grow HX.out).cell 1).trans (rfl : _ = some (Value.slice Km.la E.l.length Km.lc))
    obtain ⟨g2, g3, g5, t2, t3, t5⟩ := HKT.out wr HX.out
    have htz : (t : Int) < (E.l.length : Int) := by omega
    have htz' : (t : Int) ≤ (E.l.length : Int) := by omega
    have hte : ((t : Int) == (E.l.length : Int)) = false := beq_eq_false_iff_ne.2 (by omega)
    have htd : decide ((t : Int) < 0) = false := decide_eq_false (by omega)
    have ht0 : (0 : Int) ≤ (t : Int) := by omega
    have ht1 : ¬ (t : Int) < 0 := by omega
    have ht2 : ¬ (E.l.length : Int) ≤ (t : Int) := by omega
    clear hz1 hz2 hgo hin hf hwn htl
    cases ob with
    | true =>
     go_wp2_with fail
     refine HRS.out.mono ?_
     rintro e w4 ⟨rfl, rfl⟩
     go_wp2_with fail
     clear g1 g2 g3 g5 t2 t3 t5
     refine wp_region_held_drew (S := fun w' => w'.cell? ⟨Km.b, 2, none⟩ = some (TabS Km.st E.l.length) ∧ w'.cell? ⟨Km.b, 3, none⟩ = some (TabS Km.ou E.l.length) ∧ w'.cell? ⟨Km.b, 5, none⟩ = some (TabS Km.wh E.l.length) ∧ w'.cell? ⟨Km.st, t, none⟩ = some (S sx) ∧ w'.cell? ⟨Km.ou, t, none⟩ = some (S ox) ∧ w'.cell? ⟨Km.wh, t, none⟩ = some (IN wx)) (by kernel_rfl) (HKT.out _ HX.out.thenDrew) (fun hHeld => ?_)
     refine takeN 0 ?_
     refine takeN 1 ?_
     refine takeN 3 ?_
     refine takeN 4 ?_
     refine takeN 5 ?_
     refine takeN 6 ?_
     refine takeN 7 ?_
     refine takeN 8 ?_
     refine takeN 9 ?_
     refine wpAnyH_ready (rs := [2]) (by kernel_rfl) (by simp) ?_
     refine AllReadyH.cons (o := { dst := some 70, op := Op.call { callee := Callee.value (Operand.func 69), args := #[Operand.tmp 68, Operand.tmp 69], argTypes := #[84, 3] }, type := 9, pos := "builds.go:166", after := #[{ on := 0, ground := Ground.data }, { on := 1, ground := Ground.data }], guard := none }) rfl (fun K hK => ?_) AllReadyH.nil
     go_simp
     go_at_call 69
     refine (HST.out _ HX.out.thenDrew).mono ?_
     rintro e w5 ⟨rfl, ho5⟩
     have HX5 := Lib.hid (HX.out.thenDrew.then ho5)
     refine hK.out _ _ (HKT.out _ HX5.out) (fun hHeld => ?_)
     clear hK K
     try simp only [Act.put, List.setIfInBounds_toArray, List.set_cons_zero, List.set_cons_succ]
     refine takeN 10 ?_
     refine takeN 11 ?_
     refine takeN 12 ?_
     refine takeN 13 ?_
     refine takeN 14 ?_
     refine takeN 15 ?_
     refine takeN 16 ?_
     refine takeN 17 ?_
     refine takeN 18 ?_
     refine takeN 19 ?_
     refine takeN 20 ?_
     refine takeN 21 ?_
     refine takeN 22 ?_
     refine takeN 23 ?_
     refine takeN 24 ?_
     refine takeN 25 ?_
     refine takeN 26 ?_
     refine takeN 27 ?_
     refine takeN 28 ?_
     refine takeN 29 ?_
     refine takeN 30 ?_
     refine takeN 31 ?_
     refine takeN 32 ?_
     refine takeN 33 ?_
     refine skipN 34 ?_
     refine skipN 35 ?_
     refine takeN 36 ?_
     refine takeN 37 ?_
     refine takeN 38 ?_
     refine takeN 39 ?_
     refine takeN 40 ?_
     refine takeN 42 ?_
     refine takeN 43 ?_
     refine takeN 44 ?_
     refine takeN 45 ?_
     refine takeN 46 ?_
     refine takeN 47 ?_
     refine takeN 48 ?_
     refine wpAnyH_ready (rs := [41]) (by kernel_rfl) (by simp) ?_
     refine AllReadyH.cons (o := { dst := some 109, op := Op.call { callee := Callee.value (Operand.func 134), args := #[Operand.tmp 107, Operand.tmp 108], argTypes := #[84, 3] }, type := 32, pos := "builds.go:166", after := #[{ on := 39, ground := Ground.data }, { on := 40, ground := Ground.data }, { on := 38, ground := Ground.chain }, { on := 38, ground := Ground.guard }], guard := some (38, false) }) rfl (fun K hK => ?_) AllReadyH.nil
     go_simp
     go_at_call 134
     refine (HWY.out _ HX5.out).mono ?_
     rintro e w6 ⟨rfl, rfl⟩
     refine hK.out _ _ (HKT.out _ HX5.out) (fun hHeld => ?_)
     clear hK K
     try simp only [Act.put, List.setIfInBounds_toArray, List.set_cons_zero, List.set_cons_succ]
     refine wpAnyH_ready (rs := [49]) (by kernel_rfl) (by simp) ?_
     refine AllReadyH.cons (o := { dst := some 117, op := Op.call { callee := Callee.value (Operand.func 23), args := #[Operand.tmp 109, Operand.tmp 116], argTypes := #[32, 3] }, type := 4, pos := "builds.go:166", after := #[{ on := 41, ground := Ground.data }, { on := 48, ground := Ground.data }, { on := 41, ground := Ground.chain }, { on := 38, ground := Ground.guard }], guard := some (38, false) }) rfl (fun K hK => ?_) AllReadyH.nil
     go_simp
     go_at_call 23
     refine (HCO.out _ HX5.out).mono ?_
     rintro e w7 ⟨rfl, ho7⟩
     have HX7 := Lib.hid (HX5.out.then ho7)
     refine hK.out _ _ (HKT.out _ HX7.out) (fun hHeld => ?_)
     clear hK K
     try simp only [Act.put, List.setIfInBounds_toArray, List.set_cons_zero, List.set_cons_succ]
     refine takeN 50 ?_
     refine takeN 51 ?_
     refine wpAnyH_done (by kernel_rfl) ?_ _
     obtain ⟨g2, g3, g5, t2, t3, t5⟩ := HKT.out _ HX7.out
     cases wb
     all_goals
      go_wp2_with fail
      go_roundw
      case rel => exact ⟨(t : Int) + 1, by omega, by omega, by go_num, by rw [show ((t : Int) + 1).toNat = t + 1 by omega, HNX.out]; first | rfl | go_num, HX7⟩
      case measure => simp [intOf]; omega
    | false =>
     obtain rfl := HNL.out rfl
     go_wp2_with fail
     refine HRS.out.mono ?_
     rintro e w4 ⟨rfl, rfl⟩
     go_wp2_with fail
     clear g1 g2 g3 g5 t2 t3 t5
     refine wp_region_held_drew (S := fun w' => w'.cell? ⟨Km.b, 2, none⟩ = some (TabS Km.st E.l.length) ∧ w'.cell? ⟨Km.b, 3, none⟩ = some (TabS Km.ou E.l.length) ∧ w'.cell? ⟨Km.b, 5, none⟩ = some (TabS Km.wh E.l.length) ∧ w'.cell? ⟨Km.st, t, none⟩ = some (S sx) ∧ w'.cell? ⟨Km.ou, t, none⟩ = some (S []) ∧ w'.cell? ⟨Km.wh, t, none⟩ = some (IN wx)) (by kernel_rfl) (HKT.out _ HX.out.thenDrew) (fun hHeld => ?_)
     refine takeN 0 ?_
     refine takeN 1 ?_
     refine takeN 3 ?_
     refine takeN 4 ?_
     refine takeN 5 ?_
     refine takeN 6 ?_
     refine takeN 7 ?_
     refine takeN 8 ?_
     refine takeN 9 ?_
     refine wpAnyH_ready (rs := [2]) (by kernel_rfl) (by simp) ?_
     refine AllReadyH.cons (o := { dst := some 70, op := Op.call { callee := Callee.value (Operand.func 69), args := #[Operand.tmp 68, Operand.tmp 69], argTypes := #[84, 3] }, type := 9, pos := "builds.go:166", after := #[{ on := 0, ground := Ground.data }, { on := 1, ground := Ground.data }], guard := none }) rfl (fun K hK => ?_) AllReadyH.nil
     go_simp
     go_at_call 69
     refine (HST.out _ HX.out.thenDrew).mono ?_
     rintro e w5 ⟨rfl, ho5⟩
     have HX5 := Lib.hid (HX.out.thenDrew.then ho5)
     refine hK.out _ _ (HKT.out _ HX5.out) (fun hHeld => ?_)
     clear hK K
     try simp only [Act.put, List.setIfInBounds_toArray, List.set_cons_zero, List.set_cons_succ]
     refine takeN 10 ?_
     refine takeN 11 ?_
     refine takeN 12 ?_
     refine takeN 13 ?_
     refine takeN 14 ?_
     refine takeN 15 ?_
     refine takeN 16 ?_
     refine takeN 17 ?_
     refine takeN 18 ?_
     refine skipN 19 ?_
     refine skipN 20 ?_
     refine skipN 21 ?_
     refine skipN 22 ?_
     refine skipN 23 ?_
     refine skipN 24 ?_
     refine skipN 25 ?_
     refine skipN 26 ?_
     refine skipN 27 ?_
     refine takeN 28 ?_
     refine takeN 29 ?_
     refine takeN 30 ?_
     refine takeN 31 ?_
     refine takeN 32 ?_
     refine takeN 33 ?_
     refine takeN 34 ?_
     refine takeN 35 ?_
     refine takeN 36 ?_
     refine takeN 37 ?_
     refine takeN 38 ?_
     refine takeN 39 ?_
     refine takeN 40 ?_
     refine takeN 42 ?_
     refine takeN 43 ?_
     refine takeN 44 ?_
     refine takeN 45 ?_
     refine takeN 46 ?_
     refine takeN 47 ?_
     refine takeN 48 ?_
     refine wpAnyH_ready (rs := [41]) (by kernel_rfl) (by simp) ?_
     refine AllReadyH.cons (o := { dst := some 109, op := Op.call { callee := Callee.value (Operand.func 134), args := #[Operand.tmp 107, Operand.tmp 108], argTypes := #[84, 3] }, type := 32, pos := "builds.go:166", after := #[{ on := 39, ground := Ground.data }, { on := 40, ground := Ground.data }, { on := 38, ground := Ground.chain }, { on := 38, ground := Ground.guard }], guard := some (38, false) }) rfl (fun K hK => ?_) AllReadyH.nil
     go_simp
     go_at_call 134
     refine (HWY.out _ HX5.out).mono ?_
     rintro e w6 ⟨rfl, rfl⟩
     refine hK.out _ _ (HKT.out _ HX5.out) (fun hHeld => ?_)
     clear hK K
     try simp only [Act.put, List.setIfInBounds_toArray, List.set_cons_zero, List.set_cons_succ]
     refine wpAnyH_ready (rs := [49]) (by kernel_rfl) (by simp) ?_
     refine AllReadyH.cons (o := { dst := some 117, op := Op.call { callee := Callee.value (Operand.func 23), args := #[Operand.tmp 109, Operand.tmp 116], argTypes := #[32, 3] }, type := 4, pos := "builds.go:166", after := #[{ on := 41, ground := Ground.data }, { on := 48, ground := Ground.data }, { on := 41, ground := Ground.chain }, { on := 38, ground := Ground.guard }], guard := some (38, false) }) rfl (fun K hK => ?_) AllReadyH.nil
     go_simp
     go_at_call 23
     refine (HCO.out _ HX5.out).mono ?_
     rintro e w7 ⟨rfl, ho7⟩
     have HX7 := Lib.hid (HX5.out.then ho7)
     refine hK.out _ _ (HKT.out _ HX7.out) (fun hHeld => ?_)
     clear hK K
     try simp only [Act.put, List.setIfInBounds_toArray, List.set_cons_zero, List.set_cons_succ]
     refine takeN 50 ?_
     refine takeN 51 ?_
     refine wpAnyH_done (by kernel_rfl) ?_ _
     obtain ⟨g2, g3, g5, t2, t3, t5⟩ := HKT.out _ HX7.out
     cases wb
     all_goals
      go_wp2_with fail
      go_roundw
      case rel => exact ⟨(t : Int) + 1, by omega, by omega, by go_num, by rw [show ((t : Int) + 1).toNat = t + 1 by omega, HNX.out]; first | rfl | go_num, HX7⟩
      case measure => simp [intOf]; omega
end
end Go.Proofs.YtnmhaipjfpongacGreatDoor

/- Texts of this seat laid together for one claim: Yf2, L3, Yf3f, Yf3. No condition of its own: what each proves stands with its theorems. -/
import Derived.Deep.CutBlock
import Derived.Deep.DeepCutAuto
import Derived.Deep.RegionHeld3
import Derived.Test.YtnmhaipjfpongacGreatDoorYF33
import Derived.Test.YtnmhaipjfpongacGreatDoorYF48
import Derived.Test.YtnmhaipjfpongacGreatDoorYF49
import Derived.JoinedOf
import Derived.Test.YtnmhaipjfpongacGreatDoorChecked
import Derived.Test.YtnmhaipjfpongacGreatDoorRows
import Derived.ChangeMaps5
import Derived.LaidMore
import Derived.Lay
import Derived.Lib.LaidTab
import Derived.OpenShut
import Derived.SevenTiedAt
import Derived.SliceStrings
import Derived.Stop.Joined
import Derived.Stop.LaidErr
import Derived.Test.YtnmhaipjfpongacGreatDoorCards
import Derived.Test.YtnmhaipjfpongacGreatDoorTie
import Derived.Test.YtnmhaipjfpongacGreatDoorYF0
import Derived.Test.YtnmhaipjfpongacGreatDoorYF7
import Derived.Test.YtnmhaipjfpongacGreatDoorYF13
namespace Go.Proofs.YtnmhaipjfpongacGreatDoor
open Go.ChangeShapes Go.WideShapes Go.ChangeAt Go.RowKit

set_option maxRecDepth 100000 in
set_option maxHeartbeats 16000000 in
theorem walkYardFresh (w : World) (P : Nat → Addr) (l : List Rule) (es : List FL) (v0 v1 : Value) (hv0 : RdR w v0 l) (hv1 : RdFF w v1 es) (hV : PV w P [1, 2, 3, 4, 5, 6, 7, 8, 9, 10, 11]) :
  Calls Tryz.prog 4 #[v0, v1] w (RetE (.bool true) w) := by
 have H0 := Lib.hid hv0
 have HVV := Lib.hid hV
 have HYD := Lib.hid (yarded_any w P hV)
 obtain ⟨a0, q0, rfl, _, hm0, hc0⟩ := hv0
 obtain ⟨a1, q1, rfl, _, hm1, hc1⟩ := hv1
 have HC0 := Lib.hid hc0
 have HC1 := Lib.hid hc1
 have hr1 : es.length ≤ 9223372036854775807 := by unfold maxLen at hm1; omega
 clear hV hm0 hm1 hc0 hc1
 go_enter Tryz.func4, Tryz.ntmps4
 go_wp2_with fail
 refine (HYD.out).mono ?_
 rintro e w1 ⟨rfl, ho⟩
 have HX1 := Lib.hid ho
 clear ho
 go_wp2_with fail
 refine (longRules_any w1 _ l 12 (H0.out.ext HX1.out)).mono ?_
 rintro e w2 ⟨⟨r, rfl, hr, hz⟩, rfl⟩
 have HZ2 := Lib.hid hz
 clear hz
 rcases hr with rfl | rfl
 case inr =>
  go_wp2_with fail
  go_ret
  exact ⟨rfl, HX1.out⟩
 case inl =>
  have HSH : Hid (∀ r ∈ l, ShortR r) := Lib.hid (HZ2.out rfl).2
  have HSM : Hid (∀ r ∈ l, RuleSm 900000 r) := Lib.hid (fun r hr => (HSH.out r hr).sm)
  have h41 : l.length ≤ 41 := by rcases (HZ2.out rfl).1 with h | h <;> omega
  have hlz : (l.length : Int) ≤ 41 := by omega
  have HIL : Hid (∀ r ∈ l, r.ins.length ≤ 1000000) := Lib.hid (fun r hr => by have := (HSH.out r hr).many; omega)
  have HL41 : Hid (l.length ≤ 12 ∨ l.length = 41) := Lib.hid (by rcases (HZ2.out rfl).1 with h | h <;> omega)
  clear HZ2 h41
  by_cases he6 : (6 : Int) < (es.length : Int)
  ·go_wp2_with fail
   go_ret
   exact ⟨rfl, HX1.out⟩
  have HE6 : Hid (es.length ≤ 6) := Lib.hid (by omega)
  go_wp2_with fail
  refine (yardNew_any 100 w1 P ((HVV.out.ext HX1.out).errs.sub (by decide))).mono ?_
  rintro e w2 (⟨h, _⟩ | ⟨k, hk, rfl, hy, hs⟩)
  ·omega
  obtain rfl : k = 100 := by omega
  generalize (fun i => w1.heap.size ≤ i ∧ i < w1.heap.size + 7) = D at hy
  obtain ⟨n, hn⟩ : ∃ n, n = w1.heap.size := ⟨_, rfl⟩
  rw [← hn] at hy ⊢
  have HY := Lib.hid hy
  clear hy hn hs hk
  go_wp2_with fail
  refine (ownRules_any w2 _ l (H0.out.ext (HX1.out.then HY.out.ext)) (by omega) HIL.out).mono ?_
  rintro e w3 ⟨v3, rfl, hr3, ho3⟩
  have hru := yardRules_any P _ (HY.out.grow ho3) hr3 HSM.out (HVV.out.ext ((HX1.out.then HY.out.ext).then ho3))
  have HRU := Lib.hid hru
  clear hr3 ho3 hru
  go_wp2_with fail
  refine HRU.out.mono ?_
  rintro e w4 ⟨ev, lv, D4, rfl, he, hy4, _⟩
  by_cases hof : (orderFault l).1 = 0
  case neg =>
   obtain ⟨t, p, rfl⟩ := he.some hof
   have HX4 := Lib.hid (HX1.out.then hy4.ext)
   clear he hy4 hof HRU HY
   go_wp2_with fail
   go_ret
   exact ⟨rfl, HX4.out⟩
  case pos =>
   obtain rfl := he.zero hof
   have hry : rulesY [] l = l := if_pos hof
   rw [hry] at hy4
   have HOF := Lib.hid hof
   have HY4 := Lib.hid hy4
   have HX4 := Lib.hid (HX1.out.then hy4.ext)
   have HR : Hid (RightS l) := Lib.hid (orderFault_ok hof).1
   have HL12 : Hid (l.length ≤ 12) := Lib.hid (by
    have := (orderFault_ok hof).1.1
    rcases HL41.out with h | h <;> omega)
   clear he hry hy4 hof HRU HY
   go_wp2_with fail
   go_loopw [8, 9, 10] (fun i _ _ wr => ∃ k : Nat, k ≤ l.length ∧ i = .int .i64 k ∧ Hid (∀ r ∈ l.take k, ∀ q ∈ l, r.out.length + 1 < q.out.length → q.out.take (r.out.length + 1) ≠ r.out ++ [47]) ∧ Hid (Ext w4 wr)) (fun i _ _ _ => l.length - (intOf i).toNat)
   case atStart => exact ⟨0, Nat.zero_le _, rfl, Lib.hid (fun r hr => by cases hr), Lib.hid (Only.refl _ _)⟩
   case round =>
    obtain ⟨k, hk, rfl, HN, HXR⟩ := hrel
    by_cases hlt : k < l.length
    case pos =>
     have hltz : (k : Int) < (l.length : Int) := by omega
     have hk0 : (0 : Int) ≤ (k : Int) := by omega
     obtain ⟨b0, off0, rfl, hcell⟩ := HC0.out (by intro h; rw [h] at hlt; simp at hlt)
     obtain ⟨r, hr⟩ : ∃ y, l[k]? = some y := ⟨_, List.getElem?_eq_getElem hlt⟩
     obtain ⟨u, hu, c0, _, _, _⟩ := hcell k r hr
     have HRC : Hid (∀ wq, Ext w4 wq → wq.cell? ⟨b0, off0 + k * 4, none⟩ = some (S r.out)) := Lib.hid (fun wq hq => (HX4.out.then hq).cellOf c0 (fun h => h))
     have HQC : Hid (∀ (t : Nat) q, l[t]? = some q → ∀ wq, Ext w4 wq → wq.cell? ⟨b0, off0 + t * 4, none⟩ = some (S q.out)) := Lib.hid (fun t q hq wq hx => by
      obtain ⟨_, _, c, _⟩ := hcell t q hq
      exact (HX4.out.then hx).cellOf c (fun h => h))
     have HRK := Lib.hid hr
     have HK := Lib.hid hlt
     have hro : r.out.length ≤ 100 := (HSH.out r (List.mem_of_getElem? hr)).out
     have hroz : (r.out.length : Int) ≤ 100 := by omega
     have hbp := ba_slash r.out
     clear hcell hu c0 hr hk hlt
     go_wp2_with fail
     go_loopw [9, 10] (fun i _ wx => ∃ t : Nat, t ≤ l.length ∧ i = .int .i64 t ∧ Hid (∀ q ∈ l.take t, r.out.length + 1 < q.out.length → q.out.take (r.out.length + 1) ≠ r.out ++ [47]) ∧ Hid (Ext w4 wx)) (fun i _ _ => l.length - (intOf i).toNat)
     case atStart => exact ⟨0, Nat.zero_le _, rfl, Lib.hid (fun r hr => by cases hr), HXR⟩
     case round =>
      clear HXR
      obtain ⟨t, ht, rfl, HT, HXT⟩ := hrel
      by_cases htl : t < l.length
      case pos =>
       have htz : (t : Int) < (l.length : Int) := by omega
       have ht0 : (0 : Int) ≤ (t : Int) := by omega
       obtain ⟨q, hq⟩ : ∃ y, l[t]? = some y := ⟨_, List.getElem?_eq_getElem htl⟩
       have d0 := HRC.out _ HXT.out
       have d1 := HQC.out t q hq _ HXT.out
       have hqo : q.out.length ≤ 100 := (HSH.out q (List.mem_of_getElem? hq)).out
       have hqoz : (q.out.length : Int) ≤ 100 := by omega
       have HTL := Lib.hid htl
       have HQ := Lib.hid hq
       have hm := ba_mid q.out 0 (r.out.length + 1)
       rw [List.drop_zero] at hm
       clear hq ht htl
       by_cases hlen : r.out.length + 1 < q.out.length
       case pos =>
        have hz : decide ((r.out.length : Int) + 1 < (q.out.length : Int)) = true := decide_eq_true (by omega)
        have hz1 : (r.out.length : Int) + 1 < (q.out.length : Int) := of_decide_eq_true hz
        cases h2 : (q.out.take (r.out.length + 1) == r.out ++ [47]) with
        | true =>
         go_wp2_with fail
         go_ret
         exact ⟨rfl, HX4.out.then HXT.out⟩
        | false =>
         have HNE := Lib.hid h2
         go_wp2_with fail
         go_roundw
         case rel => exact ⟨t + 1, HTL.out, by go_num, Lib.hid (fun y hy _ => by
          rw [List.take_add_one, HQ.out] at hy
          rcases List.mem_append.1 hy with hy | hy
          ·exact HT.out y hy ‹_›
          ·rw [Option.toList_some, List.mem_singleton] at hy
           subst hy
           simpa using HNE.out), HXT⟩
         case measure => have := HTL.out; simp [intOf]; omega
       case neg =>
        have hz : decide ((r.out.length : Int) + 1 < (q.out.length : Int)) = false := decide_eq_false (by omega)
        have hz1 : ¬ (r.out.length : Int) + 1 < (q.out.length : Int) := of_decide_eq_false hz
        have HNE := Lib.hid hlen
        clear hlen
        go_wp2_with fail
        go_roundw
        case rel => exact ⟨t + 1, HTL.out, by go_num, Lib.hid (fun y hy hl => by
         rw [List.take_add_one, HQ.out] at hy
         rcases List.mem_append.1 hy with hy | hy
         ·exact HT.out y hy hl
         ·rw [Option.toList_some, List.mem_singleton] at hy
          subst hy
          exact absurd hl HNE.out), HXT⟩
        case measure => have := HTL.out; simp [intOf]; omega
      case neg =>
       have htz : ¬ (t : Int) < (l.length : Int) := by omega
       rw [List.take_of_length_le (by omega)] at HT
       go_wp2_with fail
       go_roundw
       case rel => exact ⟨k + 1, HK.out, by go_num, Lib.hid (fun y hy q hq hl => by
        rw [List.take_add_one, HRK.out] at hy
        rcases List.mem_append.1 hy with hy | hy
        ·exact HN.out y hy q hq hl
        ·rw [Option.toList_some, List.mem_singleton] at hy
         subst hy
         exact HT.out q hq hl), HXT⟩
       case measure => have := HK.out; simp [intOf]; omega
    case neg =>
     have hltz : ¬ (k : Int) < (l.length : Int) := by omega
     rw [List.take_of_length_le (by omega)] at HN
     have HNC := Lib.hid (noClash_of HR.out HN.out)
     have HF0 : Hid (FrAt w1 wr l n D4 (.slice none 0 0) lv [] [] [] 0) := Lib.hid ⟨HY4.out.grow HXR.out, FTA.nil, OutIn.nil l, [], ⟨List.nodup_nil, fun k hk => by cases hk⟩, Nat.le_refl _⟩
     clear HN hk hlt HXR HY4 HX4
     go_wp2_with fail
     go_loopw [11, 12, 13, 14, 15, 16, 17, 18, 19, 20] (fun i _ _ _ _ _ _ _ _ _ wx => ∃ (j : Nat) (D : Nat → Prop) (sv : Value) (T O L : FL), j ≤ es.length ∧ i = .int .i64 j ∧ Hid (FrAt w1 wx l n D sv lv T O L j)) (fun i _ _ _ _ _ _ _ _ _ _ => es.length - (intOf i).toNat)
     case atStart => exact ⟨0, _, _, _, _, _, Nat.zero_le _, rfl, HF0⟩
     case round =>
      clear HF0
      obtain ⟨j, D, sv, T, O, L, hj, rfl, HF⟩ := hrel
      by_cases hlt : j < es.length
      case neg =>
       have hltz : ¬ (j : Int) < (es.length : Int) := by omega
       go_wp2_with fail
       go_ret
       exact ⟨rfl, HX1.out.then HF.out.yard.ext⟩
      case pos =>
       have hltz : (j : Int) < (es.length : Int) := by omega
       have hj0 : (0 : Int) ≤ (j : Int) := by omega
       obtain ⟨b1, off1, rfl, hcell⟩ := HC1.out (by intro h; rw [h] at hlt; simp at hlt)
       obtain ⟨fs, hfs⟩ : ∃ y, es[j]? = some y := ⟨_, List.getElem?_eq_getElem hlt⟩
       obtain ⟨u, hu, hrs⟩ := hcell j fs hfs
       have HUC : Hid (∀ wq, Ext w1 wq → wq.cell? ⟨b1, off1 + j, none⟩ = some u) := Lib.hid (fun wq hq => (HX1.out.then hq).cellOf hu (fun h => h))
       have HRS : Hid (RdS 2 encF w1 u fs) := Lib.hid (hrs.ext HX1.out)
       have HJ := Lib.hid hlt
       have HJ6 : Hid (j < 6) := Lib.hid (by have := HE6.out; omega)
       obtain ⟨au, cu, rfl, _, _, hcf⟩ := hrs
       have HCF := Lib.hid hcf
       have du := HUC.out _ HF.out.yard.ext
       clear hcell hfs hu hcf hj hlt
       go_wp2_with fail
       refine (longFiles2_any _ _ fs (HRS.out.ext HF.out.yard.ext)).mono ?_
       rintro e w5 ⟨r, rfl, hz, rfl⟩
       have HZ0 := Lib.hid hz
       clear hz
       cases r with
       | true =>
        go_wp2_with fail
        go_ret
        exact ⟨rfl, HX1.out.then HF.out.yard.ext⟩
       | false =>
        have hf30 := (HZ0.out (by simp)).1
        have hfz : (fs.length : Int) ≤ 30 := by omega
        have HFP := Lib.hid (HZ0.out (by simp)).2
        clear HZ0 du
        go_wp2_with fail
        go_loopw [12] (fun i wx => ∃ (t : Nat) (U : FL), t ≤ fs.length ∧ i = .int .i64 t ∧ Hid (FrAt w1 wx l n D sv lv U O L j)) (fun i _ => fs.length - (intOf i).toNat)
        case atStart => exact ⟨0, _, Nat.zero_le _, rfl, HF⟩
        case round =>
         clear HF
         obtain ⟨t, U, ht, rfl, HF⟩ := hrel
         by_cases htl : t < fs.length
         case pos =>
          have htz : (t : Int) < (fs.length : Int) := by omega
          have ht0 : (0 : Int) ≤ (t : Int) := by omega
          obtain ⟨b2, off2, rfl, hcell⟩ := HCF.out (by intro h; rw [h] at htl; simp at htl)
          obtain ⟨⟨p, x⟩, hp⟩ : ∃ y, fs[t]? = some y := ⟨_, List.getElem?_eq_getElem htl⟩
          have HPC : Hid (∀ wq, Ext w1 wq → wq.cell? ⟨b2, off2 + t * 2, none⟩ = some (S p)) := Lib.hid (fun wq hq => (HX1.out.then hq).cellOf (hcell t _ hp 0 _ rfl) (fun h => h))
          have HXC : Hid (∀ wq, Ext w1 wq → wq.cell? ⟨b2, off2 + t * 2 + 1, none⟩ = some (S x)) := Lib.hid (fun wq hq => (HX1.out.then hq).cellOf (hcell t _ hp 1 _ rfl) (fun h => h))
          have HPL : Hid (p.length ≤ 100) := Lib.hid (HFP.out _ (List.mem_of_getElem? hp))
          have HTL := Lib.hid htl
          have du := HUC.out _ HF.out.yard.ext
          have d0 := HPC.out _ HF.out.yard.ext
          have d1 := HXC.out _ HF.out.yard.ext
          have HYT : Hid (∀ wq, Ext wr wq → Calls Tryz.prog 36 #[PTR (n + 6)] wq (RetSt (PTR (n + 3)) wq)) := Lib.hid (fun wq hq => yardTree_any (HF.out.yard.grow hq))
          clear hcell hp ht htl
          by_cases hx : x = []
          case pos =>
           subst hx
           have HRM : Hid (∀ wq, Ext wr wq → Calls Tryz.prog 37 #[PTR (n + 3), S p] wq (fun e w' => ∃ ev, e = .returned ev ∧ FrAt w1 w' l n D sv lv (delT U p) O L j)) := Lib.hid (fun wq hq => by
            refine ((HF.out.yard.grow hq).remove P (((HVV.out.ext HX1.out).ext (HF.out.yard.ext.then hq)).errs.sub (by decide)) p).mono ?_
            rintro e w' ⟨rfl, h1, _⟩
            exact ⟨_, rfl, HF.out.files h1 (HF.out.ft.del p)⟩)
           go_wp2_with fail
           go_region_held3 (fun w' => w'.cell? ⟨b1, off1 + j, none⟩ = some (.slice (some ⟨b2, off2, none⟩) fs.length cu) ∧ w'.cell? ⟨b2, off2 + t * 2, none⟩ = some (S p)) (first | exact ⟨HUC.out _ HF9.out.yard.ext, HPC.out _ HF9.out.yard.ext⟩ | exact ⟨du, d0⟩ | go_keep)
            (first
            | (go_at_call 36; refine (HYT.out _ (by first | exact Only.refl _ _ | exact Only.drew _ _ | exact Only.drewN _ _ _)).mono ?_; rintro e w9 ⟨rfl, rfl⟩)
            | (go_at_call 37; refine (HRM.out _ (by first | exact Only.refl _ _ | exact Only.drew _ _ | exact Only.drewN _ _ _)).mono ?_; rintro e w9 ⟨ev, rfl, hf9⟩; have HF9 := Lib.hid hf9; clear hf9))
           all_goals
            go_wp2_with fail
            go_roundw
            case rel => exact ⟨t + 1, _, HTL.out, by go_num, HF9⟩
            case measure => have := HTL.out; simp [intOf]; omega
          case neg =>
           have hxb : (x == []) = false := beq_eq_false_iff_ne.2 hx
           have HPT : Hid (∀ wq, Ext wr wq → Calls Tryz.prog 38 #[PTR (n + 3), S p, S x] wq (fun e w' => ∃ ev, e = .returned ev ∧ FrAt w1 w' l n D sv lv (putT U p x) O L j)) := Lib.hid (fun wq hq => by
            refine ((HF.out.yard.grow hq).put P HF.out.ft.ft (((HVV.out.ext HX1.out).ext (HF.out.yard.ext.then hq)).errs.sub (by decide)) ((HVV.out.ext HX1.out).ext (HF.out.yard.ext.then hq)).max p x (by have := HPL.out; omega)).mono ?_
            rintro e w' ⟨rfl, h1, _⟩
            exact ⟨_, rfl, HF.out.files h1 (HF.out.ft.put p x (by have := HPL.out; omega))⟩)
           go_wp2_with fail
           go_region_held3 (fun w' => w'.cell? ⟨b1, off1 + j, none⟩ = some (.slice (some ⟨b2, off2, none⟩) fs.length cu) ∧ w'.cell? ⟨b2, off2 + t * 2, none⟩ = some (S p) ∧ w'.cell? ⟨b2, off2 + t * 2 + 1, none⟩ = some (S x)) (first | exact ⟨HUC.out _ HF9.out.yard.ext, HPC.out _ HF9.out.yard.ext, HXC.out _ HF9.out.yard.ext⟩ | exact ⟨du, d0, d1⟩ | go_keep)
            (first
            | (go_at_call 36; refine (HYT.out _ (by first | exact Only.refl _ _ | exact Only.drew _ _ | exact Only.drewN _ _ _)).mono ?_; rintro e w9 ⟨rfl, rfl⟩)
            | (go_at_call 38; refine (HPT.out _ (by first | exact Only.refl _ _ | exact Only.drew _ _ | exact Only.drewN _ _ _)).mono ?_; rintro e w9 ⟨ev, rfl, hf9⟩; have HF9 := Lib.hid hf9; clear hf9))
           all_goals
            go_wp2_with fail
            go_roundw
            case rel => exact ⟨t + 1, _, HTL.out, by go_num, HF9⟩
            case measure => have := HTL.out; simp [intOf]; omega
         case neg =>
          have htz : ¬ (t : Int) < (fs.length : Int) := by omega
          have du := HUC.out _ HF.out.yard.ext
          have hmk := yardMake_any P (.slice none 0 0) [] (l.map Rule.out) HF.out.yard (Rd.nil _ _) (by decide) (if_pos rfl).symm HOF.out HF.out.ft.ft (HF.out.oi.ftree HR.out) (HVV.out.ext HX1.out)
          unfold RetMk at hmk
          rw [newFault_all HOF.out] at hmk
          have HMK := Lib.hid hmk
          clear hmk ht htl
          go_wp2_with fail
          refine HMK.out.mono ?_
          rintro e w5 ⟨cv, ev, rfl, he, hcase⟩
          obtain rfl := he.zero rfl
          rcases hcase with ⟨h, _⟩ | ⟨_, D5, sv5, s, L5, ha1, hi1, ho1, rfl, hy5, _⟩
          ·exact absurd rfl h
          obtain ⟨a, b, c, d, hcv⟩ : ∃ a b c d : Nat, cntV s (needL l (l.map Rule.out)) = #[IN a, IN b, IN c, IN d] := ⟨_, _, _, _, rfl⟩
          rw [hcv]
          have HCV := Lib.hid hcv
          have HA1 := Lib.hid ha1
          have HI1 := Lib.hid hi1
          have HO1 := Lib.hid ho1
          have hst := fresh_stale (O := O) HOF.out HF.out.ft.ft HNC.out HF.out.oi hi1 ho1
          have HFT1 : Hid (FTree (outY (newE l (l.map Rule.out) U) s O (orderOut l))) := Lib.hid ((fresh_in HOF.out HF.out.oi).ftree HR.out)
          have HB5 := Lib.hid (MapKept.heap_alloc w5 (.cells #[IN a, IN b, IN c, IN d] 70 (0, 0))).1
          have hy6 := hy5.grow (Only.alloc _ w5 (.cells #[IN a, IN b, IN c, IN d] 70 (0, 0)))
          have HDX : Hid (∀ i, D5 i → i < w5.heap.size) := Lib.hid hy5.lt
          have hsl := yardStale_any P hy6 HOF.out HF.out.ft.ft ((HVV.out.ext HX1.out).sub (by decide))
          rw [hst] at hsl
          have HSL := Lib.hid hsl
          have HY6 := Lib.hid hy6
          clear he ha1 hi1 ho1 hst hy5 hy6 hsl hcv HMK
          go_wp2_with fail
          refine HSL.out.mono ?_
          rintro e w7 ⟨v7, rfl, hr7, ho7⟩
          obtain ⟨a7, c7, rfl, _, _, _⟩ := hr7.rd
          have hs0 : (sortB []).length = 0 := by simp [sortB]
          rw [hs0]
          have HY7 := Lib.hid (HY6.out.grow ho7)
          have HB7 := Lib.hid (ho7.heapOf HB5.out (fun h => h))
          have hmk := yardMake_any P (.slice none 0 0) [] (l.map Rule.out) HY7.out (Rd.nil _ _) (by decide) (if_pos rfl).symm HOF.out HF.out.ft.ft HFT1.out (HVV.out.ext HX1.out)
          unfold RetMk at hmk
          rw [newFault_all HOF.out] at hmk
          have HMK := Lib.hid hmk
          clear hr7 ho7 hs0 hmk HSL HY6 HB5 du
          go_wp2_with fail
          refine HMK.out.mono ?_
          rintro e w8 ⟨cv, ev, rfl, he, hcase⟩
          obtain rfl := he.zero rfl
          rcases hcase with ⟨h, _⟩ | ⟨_, D8, sv8, s8, L8, ha2, hi2, ho2, rfl, hy8, hm8⟩
          ·exact absurd rfl h
          obtain ⟨hf8, a', b', c', d', hc1, hc2, hab⟩ := HF.out.twice HJ6.out HOF.out HL12.out HA1.out HI1.out HO1.out ha2 hi2 ho2 hy8
          rw [HCV.out] at hc1
          have e4 : a = a' ∧ b = b' ∧ c = c' ∧ d = d' := by
           simp only [Array.mk.injEq, List.cons.injEq, Value.int.injEq, true_and, and_true] at hc1
           omega
          obtain ⟨rfl, rfl, rfl, rfl⟩ := e4
          rw [hc2, show IN (a + b) = Value.int .i64 ((a : Int) + (b : Int)) by simp]
          have HSAME : Hid (∀ t O2, OutIn l O2 → BInv (newE l (l.map Rule.out) U) t → (∀ i ∈ needL l (l.map Rule.out), t.st i ≠ 1) → outY (newE l (l.map Rule.out) U) t O2 (orderOut l) = outY (newE l (l.map Rule.out) U) s8 (outY (newE l (l.map Rule.out) U) s O (orderOut l)) (orderOut l)) := Lib.hid (fun t O2 h1 h2 h3 => fresh_same HOF.out HF.out.ft.ft HNC.out h1 (fresh_in HOF.out HF.out.oi) h2 h3 hi2 ho2)
          have HOI : Hid (OutIn l (outY (newE l (l.map Rule.out) U) s8 (outY (newE l (l.map Rule.out) U) s O (orderOut l)) (orderOut l))) := Lib.hid hf8.oi
          have HFTA := Lib.hid hf8.ft
          generalize outY (newE l (l.map Rule.out) U) s8 (outY (newE l (l.map Rule.out) U) s O (orderOut l)) (orderOut l) = O8 at hf8 HSAME HOI
          have HB8 := Lib.hid (hm8.1.heapOf HB7.out (fun e => by have := HDX.out _ e; omega))
          have HZ8 : Hid (w5.heap.size < w8.heap.size) := Lib.hid (lt_of_heap HB8.out)
          have ha0 : (0 : Int) ≤ (a : Int) := by omega
          have hb0 : (0 : Int) ≤ (b : Int) := by omega
          have haz : (a : Int) ≤ 12 := by omega
          have hbz : (b : Int) ≤ 12 := by omega
          have HF9 := Lib.hid (hf8.grow (Only.alloc _ w8 (.cells #[.int .i64 0, .int .i64 ((a : Int) + (b : Int)), IN c, IN d] 70 (0, 0))))
          have hx9 := (Only.alloc (fun _ => False) w8 (.cells #[.int .i64 0, .int .i64 ((a : Int) + (b : Int)), IN c, IN d] 70 (0, 0))).heapOf HB8.out (fun h => h)
          have hd9 := (MapKept.heap_alloc w8 (.cells #[.int .i64 0, .int .i64 ((a : Int) + (b : Int)), IN c, IN d] 70 (0, 0))).1
          have cx0 := (cell_of_heap hx9 0).trans (rfl : _ = some (IN a))
          have cx1 := (cell_of_heap hx9 1).trans (rfl : _ = some (IN b))
          have cx2 := (cell_of_heap hx9 2).trans (rfl : _ = some (IN c))
          have cx3 := (cell_of_heap hx9 3).trans (rfl : _ = some (IN d))
          have cd0 := (cell_of_heap hd9 0).trans (rfl : _ = some (Value.int .i64 0))
          have cd1 := (cell_of_heap hd9 1).trans (rfl : _ = some (Value.int .i64 ((a : Int) + (b : Int))))
          have cd2 := (cell_of_heap hd9 2).trans (rfl : _ = some (IN c))
          have cd3 := (cell_of_heap hd9 3).trans (rfl : _ = some (IN d))
          have HYN := Lib.hid (yardNew_any 1 (w8.alloc (.cells #[.int .i64 0, .int .i64 ((a : Int) + (b : Int)), IN c, IN d] 70 (0, 0))) P ((HVV.out.ext (HX1.out.then HF9.out.yard.ext)).errs.sub (by decide)))
          clear he ha2 hi2 ho2 hy8 hm8 hf8 hc1 hc2 hab hx9 hd9 HMK HY7 HB7 HB8 HCV HA1 HI1 HO1 HDX HF HFT1
          go_wp2_with fail
          clear cx0 cx1 cx2 cx3 cd0 cd1 cd2 cd3
          generalize (w8.alloc (.cells #[.int .i64 0, .int .i64 ((a : Int) + (b : Int)), IN c, IN d] 70 (0, 0))) = wB at HYN HF9 ⊢
          refine HYN.out.mono ?_
          rintro e w10 (⟨h, _⟩ | ⟨k, hk, rfl, hz10, hs⟩)
          ·omega
          obtain rfl : k = 1 := by omega
          generalize (fun i => wB.heap.size ≤ i ∧ i < wB.heap.size + 7) = DZ at hz10
          obtain ⟨m, hn⟩ : ∃ m, m = wB.heap.size := ⟨_, rfl⟩
          rw [← hn] at hz10 ⊢
          have HZ10 := Lib.hid hz10
          clear hz10 hn hs hk HYN
          go_wp2_with fail
          refine (ownRules_any w10 _ l (H0.out.ext (HX1.out.then (HF9.out.yard.ext.then HZ10.out.ext))) (by omega) HIL.out).mono ?_
          rintro e w11 ⟨v11, rfl, hr11, ho11⟩
          have hru := yardRules_any P _ (HZ10.out.grow ho11) hr11 HSM.out (HVV.out.ext (HX1.out.then (HF9.out.yard.ext.then (HZ10.out.ext.then ho11))))
          have HRU := Lib.hid hru
          clear hr11 ho11 hru HZ10
          go_wp2_with fail
          refine HRU.out.mono ?_
          rintro e w12 ⟨ev, lvz, DZ2, rfl, he, hz12, _⟩
          obtain rfl := he.zero HOF.out
          rw [show rulesY [] l = l from if_pos HOF.out] at hz12
          have HZ12 := Lib.hid hz12
          have HY12 := Lib.hid (HF9.out.grow hz12.ext)
          clear he hz12 HRU
          go_wp2_with fail
          refine (yardTree_any HY12.out.yard).mono ?_
          rintro e w13 ⟨rfl, rfl⟩
          go_wp2_with fail
          refine (paths_any w12 (n + 3) (n + 2) U HY12.out.yard.tree HFTA.out.ft.fits.rising (fun q hq => by have := HFTA.out.ft.lens q hq; omega) (by have := HFTA.out.ft.fits.few; omega)).mono ?_
          rintro e w13 ⟨vp, rfl, hrp, ho13, _⟩
          obtain ⟨ps, hps⟩ : ∃ ps, ps = U.map (·.1) := ⟨_, rfl⟩
          rw [← hps] at hrp
          have HPS := Lib.hid hps
          have HZ13 := Lib.hid (HZ12.out.grow ho13)
          have hp60 : ps.length ≤ 60 := by rw [hps, List.length_map]; exact HFTA.out.ft.fits.few
          have hpz : (ps.length : Int) ≤ 60 := by omega
          have HRP := Lib.hid hrp
          obtain ⟨ap, cp, rfl, _, _, _⟩ := hrp
          clear hps ho13 HZ12 HY12
          go_wp2_with fail
          go_loopw [18, 19, 20] (fun i _ _ wx => ∃ t : Nat, t ≤ ps.length ∧ i = .int .i64 t ∧ Hid (YardAt wB wx DZ2 m (.slice none 0 0) lvz 1 (U.take t) [] [] l) ∧ Hid (Rd S wx (.slice ap ps.length cp) ps)) (fun i _ _ _ => ps.length - (intOf i).toNat)
          case atStart => exact ⟨0, Nat.zero_le _, rfl, HZ13, HRP⟩
          case round =>
           clear HZ13 HRP
           obtain ⟨t, ht, rfl, HZ, HRP⟩ := hrel
           by_cases htl : t < ps.length
           case pos =>
            have htz : (t : Int) < (ps.length : Int) := by omega
            have ht0 : (0 : Int) ≤ (t : Int) := by omega
            obtain ⟨_, _, ee, _, _, hc0⟩ := HRP.out
            cases ee
            obtain ⟨bp, offp, rfl, hc⟩ := hc0 (by intro h; rw [h] at htl; simp at htl)
            obtain ⟨⟨p, x⟩, hU⟩ : ∃ y, U[t]? = some y := ⟨_, List.getElem?_eq_getElem (by rw [HPS.out, List.length_map] at htl; exact htl)⟩
            have hp : ps[t]? = some p := by rw [HPS.out, List.getElem?_map, hU]; rfl
            have d0 := hc t p hp
            have hlk := lookup_of_mem HFTA.out.ft.fits.rising.nodup (List.mem_of_getElem? hU)
            obtain ⟨hpc, hpt⟩ := take_put HFTA.out.ft.fits HFTA.out.ap hU
            have hpl : p.length ≤ 1000 := HFTA.out.ft.lens _ (List.mem_of_getElem? hU)
            have HTL := Lib.hid htl
            have HPP := Lib.hid hp
            have hyt := fun k => yardTree_any (HF9.out.yard.grow (HZ.out.ext.then (Only.drewN (fun _ => False) wr k)))
            have hgt := fun k => treeGet_any (wr.drewN k) (n + 3) (n + 2) U p (HF9.out.yard.grow (HZ.out.ext.then (Only.drewN (fun _ => False) wr k))).tree
            rw [hlk] at hgt
            have HYT := Lib.hid hyt
            have HGT := Lib.hid hgt
            have HPT : Hid (∀ wq, Ext wr wq → Calls Tryz.prog 38 #[PTR (m + 3), S p, S x] wq (fun e w' => e = .returned .nilIface ∧ YardAt wB w' DZ2 m (.slice none 0 0) lvz 1 (U.take (t + 1)) [] [] l ∧ Rd S w' (.slice (some ⟨bp, offp, none⟩) ps.length cp) ps)) := Lib.hid (fun wq hq => by
             have hg := HZ.out.grow hq
             have hv := HVV.out.ext (HX1.out.then (HF9.out.yard.ext.then hg.ext))
             refine (hg.put P (HFTA.out.ft.take t) (hv.errs.sub (by decide)) hv.max p x (by omega)).mono ?_
             rintro e w' ⟨rfl, h1, h2⟩
             rw [hpc]
             rw [hpt] at h1
             exact ⟨rfl, h1, Rd.offMap (HRP.out.ext hq) hg.tree.map h2⟩)
            have HZT : Hid (∀ wq, Ext wr wq → Calls Tryz.prog 36 #[PTR (m + 6)] wq (RetSt (PTR (m + 3)) wq)) := Lib.hid (fun wq hq => yardTree_any (HZ.out.grow hq))
            clear hc hc0 hU hp hlk hpc hpt hpl ht htl hyt hgt
            go_wp2_with fail
            go_quiet (first
             | (go_at_call 36; exact Calls.quiet_of_same ((HYT.out _).mono fun _ _ h => ⟨h.1, h.2.symm⟩))
             | (go_at_call 42; exact Calls.quiet_of_same ((HGT.out _).mono fun _ _ h => ⟨h.1, h.2.symm⟩)))
            have hxd : Ext wr (wr.drewN nq) := Only.drewN _ _ _
            have d1 := hxd.cellOf d0 (fun h => h)
            have HXD := Lib.hid hxd
            generalize wr.drewN nq = wd at HXD d1 ⊢
            clear d0 hxd
            go_wp2_with fail
            go_region_held3 (fun w' => w'.cell? ⟨bp, offp + t, none⟩ = some (S p)) (first | exact d1 | exact HD14.out | go_keep)
             (first
             | (go_at_call 36; refine (HZT.out _ (by first | exact HXD.out | exact HXD.out.thenDrew | exact HXD.out.thenDrewN _)).mono ?_; rintro e w9 ⟨rfl, rfl⟩)
             | (go_at_call 38; refine (HPT.out _ (by first | exact HXD.out | exact HXD.out.thenDrew | exact HXD.out.thenDrewN _)).mono ?_; rintro e w14 ⟨rfl, hz14, hr14⟩; have HZ14 := Lib.hid hz14; have HR14 := Lib.hid hr14; have HD14 : Hid (w14.cell? ⟨bp, offp + t, none⟩ = some (S p)) := Lib.hid (by
         obtain ⟨_, _, ee, _, _, hc0⟩ := hr14
         cases ee
         obtain ⟨_, _, ee, hc⟩ := hc0 (by intro h; rw [h] at htz; simp at htz; omega)
         cases ee
         exact hc t p HPP.out); clear hz14 hr14))
            all_goals
             go_wp2_with fail
             go_roundw
             case rel => exact ⟨t + 1, HTL.out, by go_num, HZ14, HR14⟩
             case measure => have := HTL.out; simp [intOf]; omega
           case neg =>
            have htz : ¬ (t : Int) < (ps.length : Int) := by omega
            have hpsl : ps.length = U.length := by rw [HPS.out, List.length_map]
            rw [List.take_of_length_le (by omega)] at HZ
            have hmk := yardMake_any P (.slice none 0 0) [] (l.map Rule.out) HZ.out (Rd.nil _ _) (by decide) (if_pos rfl).symm HOF.out HFTA.out.ft FTree.nil (HVV.out.ext (HX1.out.then HF9.out.yard.ext))
            unfold RetMk at hmk
            rw [newFault_all HOF.out] at hmk
            have HMK := Lib.hid hmk
            clear hmk ht htl hpsl HRP
            go_wp2_with fail
            refine HMK.out.mono ?_
            rintro e w16 ⟨cv, ev, rfl, he, hcase⟩
            obtain rfl := he.zero rfl
            rcases hcase with ⟨h, _⟩ | ⟨_, D16, sv16, s16, L16, _, hi16, ho16, _, hy16, _⟩
            ·exact absurd rfl h
            rw [HSAME.out _ _ (OutIn.nil l) hi16 ho16] at hy16
            have HZ16 := Lib.hid hy16
            have HFY := Lib.hid (HF9.out.grow hy16.ext)
            have hfo := HOI.out.ftree HR.out
            have htx := fun W b mb (h : TreeAt W b mb O8) (hp : Pow W) => text_any W b mb O8 h hfo.fits.rising hfo.lens hfo.fits.bytes hfo.fits.few hp
            generalize textT O8 = tx at htx
            have HTX := Lib.hid htx
            clear he hi16 ho16 hy16 hfo htx HMK
            go_wp2_with fail
            refine (yardOut_any HZ16.out).mono ?_
            rintro e w17 ⟨rfl, rfl⟩
            go_wp2_with fail
            refine (HTX.out _ _ _ HZ16.out.out (HVV.out.ext (HX1.out.then (HF9.out.yard.ext.then HZ16.out.ext))).pow).mono ?_
            rintro e w17 ⟨rfl, ho17⟩
            have HY17 := Lib.hid (HFY.out.grow ho17)
            clear ho17
            go_wp2_with fail
            refine (yardOut_any HY17.out.yard).mono ?_
            rintro e w18 ⟨rfl, rfl⟩
            go_wp2_with fail
            refine (HTX.out _ _ _ HY17.out.yard.out (HVV.out.ext (HX1.out.then HY17.out.yard.ext)).pow).mono ?_
            rintro e w18 ⟨rfl, ho18⟩
            have HY18 := Lib.hid (HY17.out.grow ho18)
            clear ho18
            go_wp2_with fail
            go_roundw
            case rel => exact ⟨j + 1, _, _, _, _, _, HJ.out, by go_num, HY18⟩
            case measure => have := HJ.out; simp [intOf]; omega
end Go.Proofs.YtnmhaipjfpongacGreatDoor

namespace Go.Proofs.YtnmhaipjfpongacGreatDoor
theorem prog_laidOut : laidOutB Tryz.pinned.checked.prog = true := by kernel_rfl
theorem prog_mapsRowed : mapsRowed Tryz.pinned.checked.prog = true := by kernel_rfl
theorem prog_stops : (Tryz.pinned.checked.prog.stops == []) = true := by kernel_rfl
theorem prog_stopKnobs : (Tryz.pinned.checked.prog.stopKnobs == []) = true := by kernel_rfl
theorem prog_stopsHeard : Tryz.pinned.checked.prog.stopsHeard = true := by kernel_rfl
theorem prog_mayEnter : Tryz.pinned.checked.prog.mayEnter = true := by kernel_rfl
end Go.Proofs.YtnmhaipjfpongacGreatDoor

namespace Go.Proofs.YtnmhaipjfpongacGreatDoor.yardFreshFacts
theorem k0 : Rows.yardFreshRow.wf (OpenSpec.ofChange Rows.yardFreshSpec) = true := by kernel_rfl
theorem k3 : Tryz.f4.params.all (Tryz.pinned.checked.prog.readableRec ·) = true := by kernel_rfl
theorem k4 : namedTie Tryz.pinned.checked.prog Rows.yardFreshRow.named Rows.yardFreshSpec.vars = true := by kernel_rfl
theorem k5 : (Rows.yardFreshRow.stops == []) = true := by kernel_rfl
theorem k7 : (Rows.yardFreshRow.knobs == []) = true := by kernel_rfl
theorem k9 : (Rows.yardFreshRow.inPlace == Tryz.pinned.checked.prog.inPlace 4) = true := by kernel_rfl
theorem k10 : (Rows.yardFreshRow.unfollowed == Tryz.pinned.checked.prog.unfollowed 4) = true := by kernel_rfl
theorem k11 : (Rows.yardFreshRow.recurses == Tryz.pinned.checked.prog.recurses 4) = true := by kernel_rfl
theorem k12 : (Rows.yardFreshRow.named == Tryz.pinned.checked.prog.varsNamed 4) = true := by kernel_rfl
theorem k13 : (Rows.yardFreshRow.maps == (Tryz.f4.params.toList ++ Rows.yardFreshSpec.plain.varTypes Tryz.pinned.checked.prog).any (Tryz.pinned.checked.prog.mapsRec ·)) = true := by kernel_rfl
theorem k14 : (Rows.yardFreshRow.ifaces == (Tryz.f4.params.toList ++ Rows.yardFreshSpec.plain.varTypes Tryz.pinned.checked.prog).any (Tryz.pinned.checked.prog.ifacesRec ·)) = true := by kernel_rfl
theorem k15 : (Rows.yardFreshRow.mapsOut == Tryz.pinned.checked.prog.mapsAmong Tryz.f4.resultTypes.toList) = true := by kernel_rfl
theorem k16 : (Rows.yardFreshRow.loops == (Tryz.f4.params.toList ++ Rows.yardFreshSpec.plain.varTypes Tryz.pinned.checked.prog).any (Tryz.pinned.checked.prog.loopsFrom ·)) = true := by kernel_rfl
theorem k17 : (Rows.yardFreshRow.wideKeys == (Tryz.f4.params.toList ++ Rows.yardFreshSpec.plain.varTypes Tryz.pinned.checked.prog ++ Tryz.f4.resultTypes.toList).any (Tryz.pinned.checked.prog.wideKeysFrom ·)) = true := by kernel_rfl
theorem k18 : Rows.yardFreshSpec.vars.all (Tryz.pinned.checked.prog.varReadable ·) = true := by kernel_rfl
theorem k19 : Tryz.f4.resultTypes.all (fun t => Tryz.pinned.checked.prog.readableRec t && decide (t < Tryz.pinned.checked.prog.types.size)) = true := by kernel_rfl
theorem k20 : (Rows.yardFreshRow.ifacesOut == Tryz.f4.resultTypes.toList.any (Tryz.pinned.checked.prog.ifacesRec ·)) = true := by kernel_rfl
theorem k21 : (Rows.yardFreshRow.loopsOut == Tryz.f4.resultTypes.toList.any (Tryz.pinned.checked.prog.loopsFrom ·)) = true := by kernel_rfl
theorem k22 : (Rows.yardFreshRow.plainKeys == Tryz.pinned.checked.prog.plainKeys) = true := by kernel_rfl
theorem k23 : Rows.yardFreshRow.shortTexts.isNone = true := by kernel_rfl
theorem k26 : (Rows.yardFreshRow.lifted == Tryz.pinned.checked.prog.liftsFinal) = true := by kernel_rfl
theorem k27 : (Tryz.pinned.checked.prog.make == some Rows.yardFreshRow.make) = true := by kernel_rfl
theorem k28 : (Rows.yardFreshRow.kinds == (if Rows.yardFreshRow.domain.isEmpty then [] else Tryz.f4.params.toList.map fun t => match Tryz.pinned.checked.prog.underlying t with | some (.int k) => some k | _ => none)) = true := by kernel_rfl
theorem k29 : (Rows.yardFreshRow.pinned == Rows.yardFreshRow.pinnedBy) = true := by kernel_rfl
theorem k30 : (Rows.yardFreshRow.veiled == (Tryz.f4.params.toList ++ Rows.yardFreshSpec.plain.varTypes Tryz.pinned.checked.prog ++ Tryz.f4.resultTypes.toList).any (Tryz.pinned.checked.prog.veiledRec ·)) = true := by kernel_rfl
theorem k31 : Rows.yardFreshRow.veiledFits Tryz.pinned.checked.prog Tryz.f4.params.toList (Tryz.f4.params.toList ++ Rows.yardFreshSpec.plain.varTypes Tryz.pinned.checked.prog ++ Tryz.f4.resultTypes.toList) = true := by kernel_rfl
set_option maxRecDepth 100000 in
theorem facts : joinedFacts Tryz.pinned.checked.prog 4 Tryz.f4 Rows.yardFreshSpec Rows.yardFreshRow = true := by
 unfold joinedFacts
 simp only [Bool.and_eq_true]
 repeat' apply And.intro
 ·exact k0
 ·exact prog_laidOut
 ·exact prog_mapsRowed
 ·exact k3
 ·exact k4
 ·exact k5
 ·exact prog_stops
 ·exact k7
 ·exact prog_stopKnobs
 ·exact k9
 ·exact k10
 ·exact k11
 ·exact k12
 ·exact k13
 ·exact k14
 ·exact k15
 ·exact k16
 ·exact k17
 ·exact k18
 ·exact k19
 ·exact k20
 ·exact k21
 ·exact k22
 ·exact k23
 ·exact prog_stopsHeard
 ·exact prog_mayEnter
 ·exact k26
 ·exact k27
 ·exact k28
 ·exact k29
 ·exact k30
 ·exact k31
end Go.Proofs.YtnmhaipjfpongacGreatDoor.yardFreshFacts

namespace Go.Proofs.YtnmhaipjfpongacGreatDoor.yardFreshDone
open Go.ChangeShapes Go.WideShapes Go.ChangeAt Go.RowKit

theorem own : ownKnob Tryz.prog.godebug = none := by kernel_rfl
theorem laidOut : laidOutB Tryz.prog = true := by kernel_rfl

theorem max_of {W : World} (h : W.ShapedOpen Tryz.prog) : HasMax W :=
 cell_of_shapedOpen_int (zero := #[.int .i64 0]) (t := 3) h (of_decide_eq_true (by kernel_rfl)) (by kernel_rfl) rfl (by kernel_rfl) (by kernel_rfl) Tryz.underlying3

theorem errs {W : World} (h : laidMetH Tryz.prog Rows.yardFreshRow.laid W) : ∃ p : Nat → Addr, Errs W p [1, 2, 3, 4, 5, 6, 7, 8, 9, 10, 11] := by
 have h' : laidMet Tryz.prog Rows.yardFreshRow.laid W := h
 obtain ⟨h1, _⟩ := held_of_laid h' (by decide +kernel)
 obtain ⟨aBound, _, _, hBound, _⟩ := h1 "kilnyard/api.ErrBound" (by decide) (by decide +kernel)
 obtain ⟨aShape, _, _, hShape, _⟩ := h1 "kilnyard/api.ErrShape" (by decide) (by decide +kernel)
 obtain ⟨aName, _, _, hName, _⟩ := h1 "kilnyard/api.ErrName" (by decide) (by decide +kernel)
 obtain ⟨aKind, _, _, hKind, _⟩ := h1 "kilnyard/api.ErrKind" (by decide) (by decide +kernel)
 obtain ⟨aNone, _, _, hNone, _⟩ := h1 "kilnyard/api.ErrNone" (by decide) (by decide +kernel)
 obtain ⟨aExist, _, _, hExist, _⟩ := h1 "kilnyard/api.ErrExist" (by decide) (by decide +kernel)
 obtain ⟨aFull, _, _, hFull, _⟩ := h1 "kilnyard/api.ErrFull" (by decide) (by decide +kernel)
 obtain ⟨aCycle, _, _, hCycle, _⟩ := h1 "kilnyard/api.ErrCycle" (by decide) (by decide +kernel)
 obtain ⟨aLong, _, _, hLong, _⟩ := h1 "kilnyard/api.ErrLong" (by decide) (by decide +kernel)
 obtain ⟨aTurn, _, _, hTurn, _⟩ := h1 "kilnyard/api.ErrTurn" (by decide) (by decide +kernel)
 obtain ⟨aDone, _, _, hDone, _⟩ := h1 "kilnyard/api.ErrDone" (by decide) (by decide +kernel)
 refine ⟨fun i => if i = 1 then aBound else if i = 2 then aShape else if i = 3 then aName else if i = 4 then aKind else if i = 5 then aNone else if i = 6 then aExist else if i = 7 then aFull else if i = 8 then aCycle else if i = 9 then aLong else if i = 10 then aTurn else if i = 11 then aDone else ⟨0, 0, none⟩, ⟨fun i g hi hg => ?_⟩⟩
 simp only [List.mem_cons, List.not_mem_nil, or_false] at hi
 rcases hi with rfl | rfl | rfl | rfl | rfl | rfl | rfl | rfl | rfl | rfl | rfl
 ·obtain rfl : 2 = g := Option.some.inj hg
  simpa using World.var?_cell (g := 2) (by kernel_rfl) hBound 0
 ·obtain rfl : 0 = g := Option.some.inj hg
  simpa using World.var?_cell (g := 0) (by kernel_rfl) hShape 0
 ·obtain rfl : 9 = g := Option.some.inj hg
  simpa using World.var?_cell (g := 9) (by kernel_rfl) hName 0
 ·obtain rfl : 10 = g := Option.some.inj hg
  simpa using World.var?_cell (g := 10) (by kernel_rfl) hKind 0
 ·obtain rfl : 1 = g := Option.some.inj hg
  simpa using World.var?_cell (g := 1) (by kernel_rfl) hNone 0
 ·obtain rfl : 3 = g := Option.some.inj hg
  simpa using World.var?_cell (g := 3) (by kernel_rfl) hExist 0
 ·obtain rfl : 4 = g := Option.some.inj hg
  simpa using World.var?_cell (g := 4) (by kernel_rfl) hFull 0
 ·obtain rfl : 7 = g := Option.some.inj hg
  simpa using World.var?_cell (g := 7) (by kernel_rfl) hCycle 0
 ·obtain rfl : 11 = g := Option.some.inj hg
  simpa using World.var?_cell (g := 11) (by kernel_rfl) hLong 0
 ·obtain rfl : 6 = g := Option.some.inj hg
  simpa using World.var?_cell (g := 6) (by kernel_rfl) hTurn 0
 ·obtain rfl : 5 = g := Option.some.inj hg
  simpa using World.var?_cell (g := 5) (by kernel_rfl) hDone 0

theorem pow_of {W : World} (h : laidMetH Tryz.prog Rows.yardFreshRow.laid W) : Pow W := by
 have h' : laidMet Tryz.prog Rows.yardFreshRow.laid W := h
 have h2 := (h').tail.tail
 exact Lib.tabIs_of_head (g := 13) (by kernel_rfl) (by kernel_rfl) Tryz.underlying359 Tryz.underlying309 (by kernel_rfl) (by kernel_rfl) h2

theorem atoi_of {W : World} (h : laidMetH Tryz.prog Rows.yardFreshRow.laid W) : AtoiVars W := by
 have h' : laidMet Tryz.prog Rows.yardFreshRow.laid W := h
 obtain ⟨a1, e1⟩ := one_of_laid h' (n := "strconv.ErrSyntax") (g := 17) (by kernel_rfl) (by kernel_rfl) (by decide +kernel)
 obtain ⟨a2, e2⟩ := one_of_laid h' (n := "strconv.ErrRange") (g := 18) (by kernel_rfl) (by kernel_rfl) (by decide +kernel)
 exact ⟨⟨_, _, e1⟩, _, _, e2⟩

set_option maxRecDepth 100000 in
theorem lifted (os : Os) (started : os.Started) (H : Type) (enc : TypeId × Value → H) :
  ReturnsInHanded {} Tryz.checked os 4 .any (fun w args => (Rows.yardFreshSpec.pre enc Tryz.prog Tryz.f4 [] false w args ∧ laidMetH Tryz.prog Rows.yardFreshRow.laid w) ∧ sizedMet enc Tryz.prog Tryz.f4 (OpenSpec.ofChange Rows.yardFreshSpec) false w args)
   (Rows.yardFreshSpec.post enc Tryz.prog Tryz.f4 false true false false) := by
 refine handed_both (C := Tryz.checked) (X := fun w _ => laidMetH Tryz.prog Rows.yardFreshRow.laid w) (fun _ _ _ hh h => h.of_heap hh) own started (by kernel_rfl) Tryz.func4
  (ChangeSpec.witness_shaped (enc := enc) (C := Tryz.checked) (os := os) (X := fun w _ => laidMetH Tryz.prog Rows.yardFreshRow.laid w) false (World.laidAll Tryz.prog os Rows.yardFreshRow.laid) #[.slice none 0 0, .slice none 0 0] 8 (World.laidAll_os _ _ _) (World.shaped_of_ZipB (by kernel_rfl) (by kernel_rfl)) (by kernel_rfl) (by kernel_rfl) (by kernel_rfl) (by rw [MakeChecks.laidMetH_plain _ _ _ (by kernel_rfl)]; exact laidMet_laidAll _ (by kernel_rfl) (by kernel_rfl))) ?_
 intro W base args ds gs before hval0 hW _ hsz0 hL hsh _
 have hval : ∀ (j : Nat) t v, Tryz.f4.params[j]? = some t → args[j]? = some v → Value.okWide Tryz.prog W .any base t v := hval0
 have hsz : (DataW.weightsEach Tryz.prog (Tryz.f4.params.toList ++ Rows.yardFreshSpec.plain.varTypes Tryz.prog) (ds ++ gs)).all (· ≤ reachBytes) = true := hsz0
 clear hsz0
 have hW' := hW
 obtain ⟨p, q, hA0, hV, rfl, hfz, hnd⟩ := hW
 have hA : DataW.TrodAll enc Tryz.prog W 0 (fun _ => true) true Tryz.f4.params.toList args.toList ds p := hA0
 rw [Tryz.params4] at hA hval hsz
 obtain ⟨v0, vs0, d0, ds0, p0, q0, hargs, rfl, rfl, h0, r0⟩ := trodAll_cons hA
 obtain ⟨v1, vs1, d1, ds1, p1, q1, rfl, rfl, rfl, h1, r1⟩ := trodAll_cons r0
 obtain ⟨rfl, rfl, rfl⟩ := trodAll_nil r1
 obtain rfl : args = #[v0, v1] := by cases args; simp_all
 obtain ⟨rfl, rfl⟩ := trodVars_none hV
 have k0 := h0
 have lt0 : ∀ x ∈ p0, x.block < W.heap.size := by obtain ⟨m, hm⟩ := k0; exact DataW.trod_lt m _ _ _ hm
 have rc0 := reach_arg hsz (j := 0) (t := 23) (d := d0) rfl rfl
 obtain ⟨a0, len0, cap0, rfl⟩ := okWide_slice Tryz.underlying23 (hval 0 23 v0 rfl rfl)
 obtain ⟨fuel0, hf0⟩ := h0
 obtain ⟨l0, hlen0, rd0, rb0⟩ := open_rules (x := (d0, p0)) (by simpa [Value.cells] using hf0) rc0
 have k1 := h1
 have lt1 : ∀ x ∈ p1, x.block < W.heap.size := by obtain ⟨m, hm⟩ := k1; exact DataW.trod_lt m _ _ _ hm
 have rc1 := reach_arg hsz (j := 1) (t := 59) (d := d1) rfl rfl
 obtain ⟨a1, len1, cap1, rfl⟩ := okWide_slice Tryz.underlying59 (hval 1 59 v1 rfl rfl)
 obtain ⟨fuel1, hf1⟩ := h1
 obtain ⟨l1, hlen1, rd1, rb1⟩ := open_edits (x := (d1, p1)) (by simpa [Value.cells] using hf1) rc1
 clear hA0 hval0
 simp only [List.append_nil] at hW'
 obtain ⟨pt, hs⟩ := errs hL
 have hmax := max_of hsh
 have hav := atoi_of hL
 have hpow := pow_of hL
 have walk : Calls Tryz.prog 4 #[.slice a0 len0 cap0, .slice a1 len1 cap1] W fun e w' => e = .returned (.bool true) ∧ Ext W w' :=
  walkYardFresh W pt l0 l1 _ _ rd0 rd1 ⟨hs, hmax, hav, hpow⟩
 refine walk.mono fun e W' ⟨he, hext⟩ => ?_
 subst he
 have bel := hext.extBelow
 exact ⟨_, rfl, _, _, _, [], _, [], hW', trodAll_mk1 (shut_bool Tryz.underlying4 _), (trodAll_cons_mk (Below.trod laidOut (by kernel_rfl) (of_decide_eq_true (by kernel_rfl)) k0 bel lt0) (trodAll_cons_mk (Below.trod laidOut (by kernel_rfl) (of_decide_eq_true (by kernel_rfl)) k1 bel lt1) trodAll_mk0)), rfl, bel.frame _, fun h => by cases h⟩

theorem fnNamed : Tryz.pinned.checked.prog.funcNamed Rows.yardFreshRow.func = some 4 := by kernel_rfl
theorem facts : joinedFacts Tryz.pinned.checked.prog 4 Tryz.f4 Rows.yardFreshSpec Rows.yardFreshRow = true := yardFreshFacts.facts
theorem inst : Tryz.f4.isInstance Tryz.pinned.checked.prog Rows.yardFreshRow.origin Rows.yardFreshRow.targs := of_decide_eq_true (by kernel_rfl)
theorem wrap : Tryz.f4.isWrapper Tryz.pinned.checked.prog Rows.yardFreshRow.wrapper Rows.yardFreshRow.mainSum := by
 unfold Func.isWrapper
 first | (rw [if_pos (by decide +kernel)]; kernel_rfl) | (rw [if_neg (by decide +kernel)]; exact ⟨rfl, rfl⟩)
theorem said : Rows.YardFreshSaid :=
 OpenClaim.holds_of_wide 4 Tryz.f4 rfl rfl rfl rfl rfl rfl rfl ⟨rfl, rfl, rfl, rfl, rfl⟩ rfl rfl rfl rfl rfl fnNamed Tryz.func4 facts
  inst wrap (fun os started H enc _ => lifted os started H enc)
end Go.Proofs.YtnmhaipjfpongacGreatDoor.yardFreshDone

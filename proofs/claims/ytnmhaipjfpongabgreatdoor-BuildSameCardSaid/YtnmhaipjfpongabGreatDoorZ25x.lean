/- BuildSame's walk. No condition but how rules, files and numbers lie, and what the variables hold. (Printed by gen_z25.py.) -/
import Derived.Test.YtnmhaipjfpongabGreatDoorZ24x
import Derived.Test.YtnmhaipjfpongabGreatDoorZ15x
import Derived.Test.YtnmhaipjfpongabGreatDoorGm
namespace Go.Proofs.YtnmhaipjfpongabGreatDoor
open Go.ChangeShapes Go.WideShapes Go.ChangeAt Go.RowKit

set_option maxRecDepth 100000 in
set_option maxHeartbeats 16000000 in
theorem walkBuildSame (w : World) (P : Nat → Addr) (fs : FL) (v0 v1 v2 : Value) (l : List Rule) (rs : List Int) (many : Int) (hv0 : RdS 2 encF w v0 fs) (hv1 : RdR w v1 l) (hv2 : Rd I w v2 rs) (hV : PV w P [1, 2, 3, 4, 5, 6, 7, 8, 9, 10, 11]) :
  Calls Tryz.prog 12 #[v0, v1, v2, I many] w (RetE (.bool true) w) := by
 have H0 := Lib.hid hv0
 have H1 := Lib.hid hv1
 have H2 := Lib.hid hv2
 have HVV := Lib.hid hV
 have HBU := Lib.hid (built_any w P hV)
 obtain ⟨a0, p0, rfl, _, _, _⟩ := hv0
 obtain ⟨a1, p1, rfl, _, _, hc1⟩ := hv1
 obtain ⟨a2, p2, rfl, _, hm2, hc2⟩ := hv2
 have HC1 := Lib.hid hc1
 have HC2 := Lib.hid hc2
 have hr2 : rs.length ≤ 9223372036854775807 := by unfold maxLen at hm2; omega
 clear hV hc1 hc2 hm2
 go_enter Tryz.func12, Tryz.ntmps12
 go_wp2_with fail
 refine (HBU.out).mono ?_
 rintro e w1 ⟨rfl, ho⟩
 have HX1 := Lib.hid ho
 clear ho
 go_wp2_with fail
 refine (longFiles2_any w1 _ fs (RdS.ext H0.out HX1.out)).mono ?_
 rintro e w2 ⟨r, rfl, hz, rfl⟩
 have HZ0 := Lib.hid hz
 clear hz
 cases r with
 | true =>
  go_wp2_with fail
  go_ret
  exact ⟨rfl, HX1.out⟩
 | false =>
  go_wp2_with fail
  refine (longRules_any w1 _ l 12 (H1.out.ext HX1.out)).mono ?_
  rintro e w2 ⟨⟨r, rfl, hr, hz⟩, rfl⟩
  have HZ2 := Lib.hid hz
  clear hz
  rcases hr with rfl | rfl
  case inr =>
   go_wp2_with fail
   go_ret
   exact ⟨rfl, HX1.out⟩
  case inl =>
   have HSH := Lib.hid (HZ2.out rfl).2
   have HSM : Hid (∀ r ∈ l, RuleSm 900000 r) := Lib.hid (fun r hr => (HSH.out r hr).sm)
   have h41 : l.length ≤ 41 := by rcases (HZ2.out rfl).1 with h | h <;> omega
   have hlz : (l.length : Int) ≤ 41 := by omega
   have HIL : Hid (∀ r ∈ l, r.ins.length ≤ 1000000) := Lib.hid (fun r hr => by have := (HSH.out r hr).many; omega)
   have HSS : Hid (∀ r ∈ l, ShortR r) := HSH
   have hf30 := (HZ0.out (by simp)).1
   have HFP := Lib.hid (HZ0.out (by simp)).2
   clear HZ2 HSH HZ0
   by_cases hlo : (60 : Int) < (rs.length : Int)
   ·go_wp2_with fail
    go_ret
    exact ⟨rfl, HX1.out⟩
   have hrz : (rs.length : Int) ≤ 60 := by omega
   by_cases hm1 : many < 1
   ·go_wp2_with fail
    go_ret
    exact ⟨rfl, HX1.out⟩
   by_cases hm2 : (100 : Int) < many
   ·go_wp2_with fail
    go_ret
    exact ⟨rfl, HX1.out⟩
   obtain ⟨n, rfl⟩ : ∃ n : Nat, many = (n : Int) := ⟨many.toNat, by omega⟩
   have hn1 : 1 ≤ n := by omega
   have hn2 : n ≤ 100 := by omega
   go_wp2_with fail
   refine (fileTree2_any w1 P _ fs (RdS.ext H0.out HX1.out) (by omega) HFP.out ((HVV.out.ext HX1.out).errs.sub (by decide)) (HVV.out.ext HX1.out).max).mono ?_
   rintro e w3 ⟨b1, mb1, m1, slv1, rfl, hT1⟩
   have HX3 := Lib.hid (HX1.out.then hT1.ext)
   have HTR : Hid (TreeAt w3 b1 mb1 (treeOfF fs)) := Lib.hid hT1.tree
   have HFT : Hid (FTree (treeOfF fs)) := Lib.hid (by have := ftree_of HFP.out fs.length; rwa [List.take_length] at this)
   clear hT1 hlo
   generalize treeOfF fs = T at HTR HFT
   go_wp2_with fail
   clear hm1 hm2
   refine (cacheNew_any n w3 hn1 hn2).mono ?_
   rintro e w4 ⟨rfl, hc4, ho4, hs4⟩
   have HC4 := Lib.hid hc4
   have HX34 := Lib.hid ho4
   have HX4 := Lib.hid (HX3.out.then ho4)
   have HS4 := Lib.hid hs4
   clear hc4 ho4 hs4
   obtain ⟨cb, hcb⟩ : ∃ cb, cb = w3.heap.size + 1 := ⟨_, rfl⟩
   rw [← hcb] at HC4
   rw [← hcb]
   have HCB := Lib.hid hcb
   clear hcb
   go_wp2_with fail
   obtain ⟨bs, hbs⟩ : ∃ bs, bs = w4.heap.size := ⟨_, rfl⟩
   have HBS : Hid (w4.heap.size ≤ bs ∧ bs ≤ w4.heap.size) := Lib.hid ⟨by omega, by omega⟩
   clear hbs
   go_loopw [14, 15] (fun q i wr => ∃ (j : Nat) (qv : Value), qv = q ∧ j ≤ l.length ∧ i = .int .i64 j ∧ Hid (Row bs wr qv ((l.take j).map Rule.out)) ∧ Hid (Ext w4 wr)) (fun _ i _ => l.length - (intOf i).toNat)
   case atStart => exact ⟨0, _, rfl, Nat.zero_le _, rfl, Lib.hid (Row.nil _ _), Lib.hid (Only.refl _ _)⟩
   case round =>
    obtain ⟨j, qv, rfl, hj, rfl, HQ, HX⟩ := hrel
    by_cases hlt : j < l.length
    ·have hltz : (j : Int) < (l.length : Int) := by omega
     have hj0 : (0 : Int) ≤ (j : Int) := by omega
     obtain ⟨b, off, rfl, hcell⟩ := HC1.out (by intro h; rw [h] at hlt; simp at hlt)
     obtain ⟨r, hq⟩ : ∃ y, l[j]? = some y := ⟨_, List.getElem?_eq_getElem hlt⟩
     obtain ⟨u, hu, c0, _, _, _⟩ := hcell j r hq
     have d0 := (HX4.out.then HX.out).cellOf c0 (fun h => h)
     have HTK : Hid ((l.take (j + 1)).map Rule.out = (l.take j).map Rule.out ++ [r.out]) := Lib.hid (by rw [List.take_add_one, hq]; simp)
     have HQL : Hid (((l.take j).map Rule.out).length ≤ 1000000) := Lib.hid (by rw [List.length_map, List.length_take]; omega)
     clear hcell hq hu c0
     generalize (l.take j).map Rule.out = os at HQ HTK HQL
     go_wp2_with (at_builtin; refine wpText rfl (.tmp 84) (.tmp 90) w4 bs _ os r.out wr rfl rfl rfl rfl HQ.out HQL.out (Nat.le_trans HBS.out.2 HX.out.size) HX.out HBS.out.1 ?_; intro g5 cap5 w5 HR5 HX5 _)
     go_roundw
     case rel => exact ⟨j + 1, _, rfl, by omega, by go_num, by rw [HTK.out]; exact HR5, HX5⟩
     case measure => simp [intOf]; omega
    ·-- THE END OF LOOP 1
     have hltz : ¬ (j : Int) < (l.length : Int) := by omega
     rw [List.take_of_length_le (by omega)] at HQ
     obtain ⟨os, hos⟩ : ∃ os, os = l.map Rule.out := ⟨_, rfl⟩
     rw [← hos] at HQ
     have HOS := Lib.hid hos
     have hol : os.length ≤ 1000 := by rw [hos, List.length_map]; omega
     have HOL := Lib.hid hol
     clear hos hol hj hlt
     have HRQ := Lib.hid HQ.out.rd
     have hrdq := HQ.out.rd
     obtain ⟨aq, pq, rfl, _, _, _⟩ := hrdq
     have HY4 := Lib.hid (HX34.out.then HX.out)
     have HX4 := Lib.hid (HX4.out.then HX.out)
     by_cases hf : (newFault l os).1 = 0
     case neg =>
      go_wp2_with fail
      refine (ownRules_any wr _ l (H1.out.ext HX4.out) (by omega) HIL.out).mono ?_
      rintro e w5 ⟨v5, rfl, hr5, ho5⟩
      have HX5 := Lib.hid (HX4.out.then ho5)
      have HY5 := Lib.hid (HY4.out.then ho5)
      have HNEW := Lib.hid (new_any w5 P b1 mb1 T v5 (.slice aq os.length pq) (some ⟨cb, 0, none⟩) l os (HTR.out.ext HY5.out) hr5 (HRQ.out.ext ho5) HOL.out HSM.out ((HVV.out.ext HX5.out).sub (by decide)))
      obtain ⟨a5, p5, rfl, _, _, _⟩ := hr5
      have HQ5 := Lib.hid ho5
      clear ho5
      go_wp2_with fail
      refine HNEW.out.mono ?_
      rintro e w6 ⟨vb, ev, rfl, he, ho6, hcase⟩
      have HX6 := Lib.hid (HX5.out.then ho6)
      have HY6 := Lib.hid (HY5.out.then ho6)
      have HO6 := Lib.hid ho6
      have HQ6 := Lib.hid (HQ5.out.then ho6)
      rcases hcase with ⟨_, rfl⟩ | ⟨hf0, _⟩
      case inr => exact absurd hf0 hf
      obtain ⟨t5, q5, rfl⟩ := he.some hf
      clear he ho6 HNEW
      go_wp2_with fail
      refine (ownRules_any w6 _ l (H1.out.ext HX6.out) (by omega) HIL.out).mono ?_
      rintro e w7 ⟨v7, rfl, hr7, ho7⟩
      have HX7 := Lib.hid (HX6.out.then ho7)
      have HY7 := Lib.hid (HY6.out.then ho7)
      have HZ7 := Lib.hid ho7.size
      have HQ7 := Lib.hid (HQ6.out.then ho7)
      have HNEW := Lib.hid (new_any w7 P b1 mb1 T v7 (.slice aq os.length pq) none l os (HTR.out.ext HY7.out) hr7 (HRQ.out.ext HQ7.out) HOL.out HSM.out ((HVV.out.ext HX7.out).sub (by decide)))
      obtain ⟨a7, p7, rfl, _, _, _⟩ := hr7
      clear ho7
      go_wp2_with fail
      refine HNEW.out.mono ?_
      rintro e w8 ⟨vb, ev, rfl, he, ho8, hcase⟩
      have HX8 := Lib.hid (HX7.out.then ho8)
      have HY8 := Lib.hid (HY7.out.then ho8)
      have HO8 := Lib.hid ho8
      have HQ8 := Lib.hid (HQ7.out.then ho8)
      rcases hcase with ⟨_, rfl⟩ | ⟨hf0, _⟩
      case inr => exact absurd hf0 hf
      obtain ⟨t7, q7, rfl⟩ := he.some hf
      clear he ho8 HNEW
      go_wp2_with fail
      refine (ownRules_any w8 _ l (H1.out.ext HX8.out) (by omega) HIL.out).mono ?_
      rintro e w9 ⟨v9, rfl, hr9, ho9⟩
      have HX9 := Lib.hid (HX8.out.then ho9)
      have HY9 := Lib.hid (HY8.out.then ho9)
      have HZ9 := Lib.hid ho9.size
      have HQ9 := Lib.hid (HQ8.out.then ho9)
      have HNEW := Lib.hid (new_any w9 P b1 mb1 T v9 (.slice aq os.length pq) (some ⟨cb, 0, none⟩) l os (HTR.out.ext HY9.out) hr9 (HRQ.out.ext HQ9.out) HOL.out HSM.out ((HVV.out.ext HX9.out).sub (by decide)))
      obtain ⟨a9, p9, rfl, _, _, _⟩ := hr9
      clear ho9
      go_wp2_with fail
      refine HNEW.out.mono ?_
      rintro e w10 ⟨vb, ev, rfl, he, ho10, hcase⟩
      have HX10 := Lib.hid (HX9.out.then ho10)
      have HY10 := Lib.hid (HY9.out.then ho10)
      have HO10 := Lib.hid ho10
      have HQ10 := Lib.hid (HQ9.out.then ho10)
      rcases hcase with ⟨_, rfl⟩ | ⟨hf0, _⟩
      case inr => exact absurd hf0 hf
      obtain ⟨t9, q9, rfl⟩ := he.some hf
      clear he ho10 HNEW
      go_wp2_with fail
      go_ret
      exact ⟨rfl, HX10.out⟩
     case pos =>
      go_wp2_with fail
      refine (ownRules_any wr _ l (H1.out.ext HX4.out) (by omega) HIL.out).mono ?_
      rintro e w5 ⟨v5, rfl, hr5, ho5⟩
      have HX5 := Lib.hid (HX4.out.then ho5)
      have HY5 := Lib.hid (HY4.out.then ho5)
      have HNEW := Lib.hid (new_any w5 P b1 mb1 T v5 (.slice aq os.length pq) (some ⟨cb, 0, none⟩) l os (HTR.out.ext HY5.out) hr5 (HRQ.out.ext ho5) HOL.out HSM.out ((HVV.out.ext HX5.out).sub (by decide)))
      obtain ⟨a5, p5, rfl, _, _, _⟩ := hr5
      have HQ5 := Lib.hid ho5
      clear ho5
      go_wp2_with fail
      refine HNEW.out.mono ?_
      rintro e w6 ⟨vb, ev, rfl, he, ho6, hcase⟩
      have HX6 := Lib.hid (HX5.out.then ho6)
      have HY6 := Lib.hid (HY5.out.then ho6)
      have HO6 := Lib.hid ho6
      have HQ6 := Lib.hid (HQ5.out.then ho6)
      rcases hcase with ⟨hf0, _⟩ | ⟨_, Ka, rfl, hcp5, hb6⟩
      case inl => exact absurd hf hf0
      obtain rfl := he.zero hf
      have HCP5 := Lib.hid hcp5
      have HB6 := Lib.hid hb6
      have HS6 := Lib.hid ho6.size
      clear he ho6 HNEW hcp5 hb6
      go_wp2_with fail
      refine (ownRules_any w6 _ l (H1.out.ext HX6.out) (by omega) HIL.out).mono ?_
      rintro e w7 ⟨v7, rfl, hr7, ho7⟩
      have HX7 := Lib.hid (HX6.out.then ho7)
      have HY7 := Lib.hid (HY6.out.then ho7)
      have HZ7 := Lib.hid ho7.size
      have HW67 := Lib.hid ho7
      have HQ7 := Lib.hid (HQ6.out.then ho7)
      have HNEW := Lib.hid (new_any w7 P b1 mb1 T v7 (.slice aq os.length pq) none l os (HTR.out.ext HY7.out) hr7 (HRQ.out.ext HQ7.out) HOL.out HSM.out ((HVV.out.ext HX7.out).sub (by decide)))
      obtain ⟨a7, p7, rfl, _, _, _⟩ := hr7
      clear ho7
      go_wp2_with fail
      refine HNEW.out.mono ?_
      rintro e w8 ⟨vb, ev, rfl, he, ho8, hcase⟩
      have HX8 := Lib.hid (HX7.out.then ho8)
      have HY8 := Lib.hid (HY7.out.then ho8)
      have HO8 := Lib.hid ho8
      have HR6 := Lib.hid (HW67.out.then ho8)
      have HQ8 := Lib.hid (HQ7.out.then ho8)
      rcases hcase with ⟨hf0, _⟩ | ⟨_, Kb, rfl, hcp7, hb8⟩
      case inl => exact absurd hf hf0
      obtain rfl := he.zero hf
      have HCP7 := Lib.hid hcp7
      have HB8 := Lib.hid hb8
      have HS8 := Lib.hid ho8.size
      clear he ho8 HNEW hcp7 hb8
      go_wp2_with fail
      refine (ownRules_any w8 _ l (H1.out.ext HX8.out) (by omega) HIL.out).mono ?_
      rintro e w9 ⟨v9, rfl, hr9, ho9⟩
      have HX9 := Lib.hid (HX8.out.then ho9)
      have HY9 := Lib.hid (HY8.out.then ho9)
      have HZ9 := Lib.hid ho9.size
      have HR6 := Lib.hid (HR6.out.then ho9)
      have HR8 := Lib.hid ho9
      have HQ9 := Lib.hid (HQ8.out.then ho9)
      have HNEW := Lib.hid (new_any w9 P b1 mb1 T v9 (.slice aq os.length pq) (some ⟨cb, 0, none⟩) l os (HTR.out.ext HY9.out) hr9 (HRQ.out.ext HQ9.out) HOL.out HSM.out ((HVV.out.ext HX9.out).sub (by decide)))
      obtain ⟨a9, p9, rfl, _, _, _⟩ := hr9
      clear ho9
      go_wp2_with fail
      refine HNEW.out.mono ?_
      rintro e w10 ⟨vb, ev, rfl, he, ho10, hcase⟩
      have HX10 := Lib.hid (HX9.out.then ho10)
      have HY10 := Lib.hid (HY9.out.then ho10)
      have HO10 := Lib.hid ho10
      have HR6 := Lib.hid (HR6.out.then ho10)
      have HR8 := Lib.hid (HR8.out.then ho10)
      have HQ10 := Lib.hid (HQ9.out.then ho10)
      rcases hcase with ⟨hf0, _⟩ | ⟨_, Kd, rfl, hcp9, hb10⟩
      case inl => exact absurd hf hf0
      obtain rfl := he.zero hf
      have HCP9 := Lib.hid hcp9
      have HB10 := Lib.hid hb10
      have HS10 := Lib.hid ho10.size
      clear he ho10 HNEW hcp9 hb10
      obtain ⟨hrs, _, o, hpo⟩ := newFault_ok hf
      have hall : needL l os = List.range l.length := by rw [HOS.out]; exact need_rng hrs.2.2
      have HWL : Hid (OnceW (newE l os T) o (fun i => (needL l os).contains i) l) := Lib.hid ⟨new_well hrs hpo HFT.out.bytes, rfl, hall⟩
      have HLN : Hid (BLens (newE l os T)) := Lib.hid (BLens.of hrs HSS.out (fun i hi => by rw [hall] at hi; exact List.mem_range.1 hi) (by rw [hall, List.length_range]; omega))
      have HPO : Hid (partB l (List.range l.length) = some o) := Lib.hid (by rw [← hall]; exact hpo)
      have HET : Hid ((newE l os T).T = T) := Lib.hid rfl
      generalize (fun i => (needL l os).contains i) = is at HWL
      generalize newE l os T = E at HWL HLN HET HB6 HB8 HB10
      have HSL : Hid (E.sm.length = l.length) := Lib.hid (by rw [HWL.out.all, List.length_range])
      have z5 := HX34.out.size
      have z5' := HX.out.size
      have z5'' := HQ5.out.size
      have z6 := HS6.out
      have z7 : w6.heap.size ≤ w7.heap.size := HZ7.out
      have z8 := HS8.out
      have z9 : w8.heap.size ≤ w9.heap.size := HZ9.out
      have z10 := HS10.out
      have HG : Hid (SameG E Ka Kb Kd cb n w3.heap.size w5.heap.size w7.heap.size w9.heap.size w10.heap.size) := Lib.hid ⟨fun i hi => ⟨HB6.out.ge i hi, by have := HB6.out.lt i hi; omega⟩, fun i hi => ⟨HB8.out.ge i hi, by have := HB8.out.lt i hi; omega⟩, fun i hi => ⟨HB10.out.ge i hi, HB10.out.lt i hi⟩, ⟨by omega, by omega, by omega, by omega⟩, HCP5.out, HCP7.out, HCP9.out, hn2⟩
      have HS0 : Hid (SameAt w3 P E Ka Kb Kd cb w3.heap.size n w5.heap.size w7.heap.size w9.heap.size w10.heap.size [] [] .new .new .new w10) := Lib.hid ⟨HB6.out.ext HR6.out, HB8.out.ext HR8.out, HB10.out, BInv.new _, BInv.new _, BInv.new _, HY10.out, Nat.le_refl _, ⟨_, HC4.out.later (HX.out.then HQ10.out) (fun _ _ h => h), fun i hi => .inl (by
       have h4 := HS4.out
       have hb := HCB.out
       rcases hi with h | h | h
       ·omega
       ·omega
       ·cases h), CacheOk.nil, Nat.zero_le _, fun _ => ⟨List.nodup_nil, (fun k hk => by cases hk), (fun i hi h => by cases h)⟩, (fun x hx => by cases hx)⟩, (fun x hx => by cases hx), (fun _ => rfl), (fun _ i hi h => by cases h)⟩
      clear hrs hpo hall hf HB6 HB8 HB10 z5 z5' z5'' z6 z7 z8 z9 z10 HQ HRQ
      go_wp2_with fail
      go_loopw [22] (fun i wx => ∃ (j : Nat) (s : BS) (L : FL), j ≤ rs.length ∧ i = .int .i64 j ∧ Hid (SameAt w3 P E Ka Kb Kd cb w3.heap.size n w5.heap.size w7.heap.size w9.heap.size w10.heap.size [] L s .new .new wx)) (fun i _ => rs.length - (intOf i).toNat)
      case atStart => exact ⟨0, .new, [], Nat.zero_le _, rfl, HS0⟩
      case round =>
       clear HS0
       obtain ⟨j, s, L, hj, rfl, HO⟩ := hrel
       by_cases hlt : j < rs.length
       ·have hltz : (j : Int) < (rs.length : Int) := by omega
        have hj0 : (0 : Int) ≤ (j : Int) := by omega
        obtain ⟨b2, off2, rfl, hcell2⟩ := HC2.out (by intro h; rw [h] at hlt; simp at hlt)
        obtain ⟨x, hx⟩ : ∃ y, rs[j]? = some y := ⟨_, List.getElem?_eq_getElem hlt⟩
        have d2 := (HX3.out.then HO.out.ext).cellOf (hcell2 j x hx) (fun h => h)
        have HRUN := Lib.hid (HO.out.runA HG.out HWL.out.well HLN.out ((HVV.out.ext HX3.out).sub (by decide)) (fun _ _ => rfl) x)
        clear hcell2 hx
        go_wp2_with fail
        refine HRUN.out.mono ?_
        rintro e w11 ⟨rfl, ho⟩
        have HO11 := Lib.hid ho
        clear ho
        go_wp2_with fail
        go_roundw
        case rel => exact ⟨j + 1, _, _, by omega, by go_num, HO11⟩
        case measure => simp [intOf]; omega
       ·have hltz : ¬ (j : Int) < (rs.length : Int) := by omega
        have HPV : Hid (PV w3 P [2, 4, 5, 9, 10, 11]) := Lib.hid ((HVV.out.ext HX3.out).sub (by decide))
        have HALL := Lib.hid (buildAll_any _ _ _ P _ E Ka o is [] _ (s, L) (SameAt.keepA HG.out HWL.out.well HLN.out HPV.out (fun _ _ => rfl)) HO.out HWL.out.well HLN.out)
        clear hlt hj
        go_wp2_with fail
        refine HALL.out.mono ?_
        rintro e w12 ⟨⟨sa, L1⟩, rfl, hA, hov, _⟩
        have HA12 := Lib.hid hA
        have HOVA := Lib.hid hov
        obtain ⟨x0, x1, x2, x3, hx, hxc⟩ := cnt_four sa E.sm (hA.ia.over hov)
        rw [hx]
        have HXC := Lib.hid hxc
        clear hA hov hx hxc HALL HO
        have HS13 := Lib.hid (HA12.out.add (Only.alloc _ _ (.cells #[IN x0, IN x1, IN x2, IN x3] 105 (0, 0))) (MapKept.heap_alloc w12 (.cells #[IN x0, IN x1, IN x2, IN x3] 105 (0, 0))).1)
        have HALLB := Lib.hid (buildAll_any _ _ _ P _ E Kb o is [(w12.heap.size, (.cells #[IN x0, IN x1, IN x2, IN x3] 105 (0, 0)))] _ BS.new (SameAt.keepB HG.out HWL.out.well HLN.out HPV.out) HS13.out HWL.out.well HLN.out)
        go_wp2_with fail
        refine HALLB.out.mono ?_
        rintro e w14 ⟨sb, rfl, hA, hov, _⟩
        have HA14 := Lib.hid hA
        have HOVB := Lib.hid hov
        obtain ⟨y0, y1, y2, y3, hy, hyc⟩ := cnt_four sb E.sm (hA.ib.over hov)
        rw [hy]
        have HYC := Lib.hid hyc
        clear hA hov hy hyc HALLB HS13 HA12
        have HS15 := Lib.hid (HA14.out.add (Only.alloc _ _ (.cells #[IN y0, IN y1, IN y2, IN y3] 105 (0, 0))) (MapKept.heap_alloc w14 (.cells #[IN y0, IN y1, IN y2, IN y3] 105 (0, 0))).1)
        have HALLD := Lib.hid (buildAll_any _ _ _ P _ E Kd o is [(w14.heap.size, (.cells #[IN y0, IN y1, IN y2, IN y3] 105 (0, 0))), (w12.heap.size, (.cells #[IN x0, IN x1, IN x2, IN x3] 105 (0, 0)))] _ (BS.new, L1) (SameAt.keepD HG.out HWL.out.well HLN.out HPV.out HOVA.out) HS15.out HWL.out.well HLN.out)
        go_wp2_with fail
        refine HALLD.out.mono ?_
        rintro e w16 ⟨⟨sd, L2⟩, rfl, hA, hov, _⟩
        have HA16 := Lib.hid hA
        have HOVD := Lib.hid hov
        obtain ⟨z0, z1, z2, z3, hz, hzc⟩ := cnt_four sd E.sm (hA.id.over hov)
        rw [hz]
        have HZC := Lib.hid hzc
        clear hA hov hz hzc HALLD HS15 HA14
        have HPVA := HVV
        have HIW : Hid (∀ r ∈ l, r.ins.length ≤ 12 ∧ r.word.length ≤ 1000) := Lib.hid (fun r hr => ⟨(HSS.out r hr).many, by have := (HSS.out r hr).word; omega⟩)
        have hz0z : l.length ≤ n → z0 = 0 := fun hm => by rw [HZC.out.1]; exact cnt_allhit (HA16.out.hits (by rw [HSL.out]; exact hm))
        by_cases hmn : (l.length : Int) ≤ (n : Int)
        case pos =>
         obtain rfl := hz0z (by omega)
         clear hz0z
         have HS17 := Lib.hid (HA16.out.add (Only.alloc _ _ (.cells #[(.int .i64 0), IN z1, IN z2, IN z3] 105 (0, 0))) (MapKept.heap_alloc w16 (.cells #[(.int .i64 0), IN z1, IN z2, IN z3] 105 (0, 0))).1)
         have kx := (HS17.out.kept (w12.heap.size, (.cells #[IN x0, IN x1, IN x2, IN x3] 105 (0, 0))) (by simp)).1
         have ky := (HS17.out.kept (w14.heap.size, (.cells #[IN y0, IN y1, IN y2, IN y3] 105 (0, 0))) (by simp)).1
         have kz := (HS17.out.kept (w16.heap.size, (.cells #[(.int .i64 0), IN z1, IN z2, IN z3] 105 (0, 0))) (by simp)).1
         have cx0 := (cell_of_heap kx 0).trans (rfl : _ = some (IN x0))
         have cx1 := (cell_of_heap kx 1).trans (rfl : _ = some (IN x1))
         have cx2 := (cell_of_heap kx 2).trans (rfl : _ = some (IN x2))
         have cx3 := (cell_of_heap kx 3).trans (rfl : _ = some (IN x3))
         have cy0 := (cell_of_heap ky 0).trans (rfl : _ = some (IN y0))
         have cy1 := (cell_of_heap ky 1).trans (rfl : _ = some (IN y1))
         have cy2 := (cell_of_heap ky 2).trans (rfl : _ = some (IN y2))
         have cy3 := (cell_of_heap ky 3).trans (rfl : _ = some (IN y3))
         have cz0 := (cell_of_heap kz 0).trans (rfl : _ = some (Value.int .i64 0))
         have cz1 := (cell_of_heap kz 1).trans (rfl : _ = some (IN z1))
         have cz2 := (cell_of_heap kz 2).trans (rfl : _ = some (IN z2))
         have cz3 := (cell_of_heap kz 3).trans (rfl : _ = some (IN z3))
         obtain ⟨hx0, hx1, hx4, hx2⟩ := HXC.out
         obtain ⟨hy0, hy1, hy4, hy2⟩ := HYC.out
         obtain ⟨hzz0, hzz1, hzz4, hzz2⟩ := HZC.out
         have hfa := HWL.out.well.final HS17.out.ia HOVA.out
         have hfd := HWL.out.well.final HS17.out.id HOVD.out
         have hsl := HSL.out
         rw [hsl] at hx4 hy4 hzz4
         have hyn : y1 = 0 := by rw [hy1]; exact cnt_nohit HS17.out.nohit _
         have hxz : x0 + x1 = 0 + z1 := by rw [hx2, hzz2]; exact cnt_fin hfa hfd
         subst hyn
         have hx0b : (x0 : Int) ≤ 41 := by omega
         have hx1b : (x1 : Int) ≤ 41 := by omega
         have hx2b : (x2 : Int) ≤ 41 := by omega
         have hx3b : (x3 : Int) ≤ 41 := by omega
         have hz1b : (z1 : Int) ≤ 41 := by omega
         have hz2b : (z2 : Int) ≤ 41 := by omega
         have hz3b : (z3 : Int) ≤ 41 := by omega
         have hy0b : (y0 : Int) ≤ 41 := by omega
         have hy2b : (y2 : Int) ≤ 41 := by omega
         have hy3b : (y3 : Int) ≤ 41 := by omega
         have hxs : (x0 : Int) + (x1 : Int) + (x2 : Int) + (x3 : Int) = (l.length : Int) := by omega
         have hys : (y0 : Int) + (y2 : Int) + (y3 : Int) = (l.length : Int) := by omega
         have hzs : (z1 : Int) + (z2 : Int) + (z3 : Int) = (l.length : Int) := by omega
         have hxa : (x0 : Int) + (x1 : Int) ≤ 41 := by omega
         have hxb : (x0 : Int) + (x1 : Int) + (x2 : Int) ≤ 41 := by omega
         have hya : (y0 : Int) + (y2 : Int) ≤ 41 := by omega
         have hza : (z1 : Int) + (z2 : Int) ≤ 41 := by omega
         have hzx : (z1 : Int) ≤ (x0 : Int) + (x1 : Int) := by omega
         have hz11 : (x0 : Int) + (x1 : Int) = (z1 : Int) := by omega
         clear kx ky kz hx0 hx1 hx2 hx4 hy0 hy1 hy2 hy4 hzz0 hzz1 hzz2 hzz4 hfa hfd hsl hxz HXC HYC HZC HA16
         have HO0 := HS17
         clear HS17
         go_wp2_with fail
         clear cx0 cx1 cx2 cx3 cy0 cy1 cy2 cy3 cz0 cz1 cz2 cz3
         go_loopw [27, 28, 29, 30, 31, 32, 33, 34, 35] (fun i _ _ _ _ _ _ _ _ wx => ∃ (k : Nat) (X : List (Nat × Obj)), k ≤ l.length ∧ i = .int .i64 k ∧ Hid (SameAt w3 P E Ka Kb Kd cb w3.heap.size n w5.heap.size w7.heap.size w9.heap.size w10.heap.size X L2 sa sb sd wx)) (fun i _ _ _ _ _ _ _ _ _ => l.length - (intOf i).toNat)
         case atStart => exact ⟨0, _, Nat.zero_le _, rfl, HO0⟩
         case round =>
          clear HO0
          obtain ⟨k, X, hk, rfl, HO⟩ := hrel
          by_cases hkl : k < l.length
          ·have hkz : (k : Int) < (l.length : Int) := by omega
           have hk0 : (0 : Int) ≤ (k : Int) := by omega
           have hk1 : ¬ (k : Int) < 0 := by omega
           have hk2 : ¬ (l.length : Int) ≤ (k : Int) := by omega
           have HKL := Lib.hid hkl
           obtain ⟨b, off, rfl, hcell⟩ := HC1.out (by intro h; rw [h] at hkl; simp at hkl)
           have hre : l[k]? = some (E.rule k) := by
            have := BE.rule_at (E := E) (i := k) (by rw [HWL.out.rules]; exact hkl)
            rwa [HWL.out.rules] at this
           obtain ⟨u, _, c0, _⟩ := hcell k _ hre
           obtain ⟨ro, hro⟩ : ∃ ro, ro = (E.rule k).out := ⟨_, rfl⟩
           rw [← hro] at c0
           have hrc := (HX3.out.then HO.out.ext).cellOf c0 (fun h => h)
           have HRO := Lib.hid hrc
           have hwt := HWL.out.want HPO.out hkl
           rw [HET.out, ← hro] at hwt
           have HWT := Lib.hid hwt
           have HZT : Hid ((E.ans k).2 ≠ 0 → (E.ans k).1 = []) := Lib.hid (fun h => (HWL.out.well.ok (E.rule k).out).zero h)
           have HOWN := Lib.hid (fun (wq : World) (hx : Ext wr wq) => (ownRules_any wq _ l (H1.out.ext (HX3.out.then (HO.out.ext.then hx))) (by omega) HIL.out).mono (fun e w' h => (show ∃ v, e = .returned v ∧ RdR w' v l ∧ Ext wr w' from by
            obtain ⟨v, rfl, h1, h2⟩ := h
            exact ⟨v, rfl, h1, hx.then h2⟩)))
           clear hcell hre c0 hro hwt hkl
           by_cases ha0 : (E.ans k).2 = 0
           case pos =>
            have HWANT := Lib.hid (fun (wq : World) (vq : Value) (hx : Ext wr wq) (hr : RdR wq vq l) => (show Calls Tryz.prog 53 #[.pointer (some ⟨b1, 0, none⟩), vq, S ro] wq (fun e w' => e = .returned (.tuple #[S (E.ans k).1, .nilIface]) ∧ Ext wr w') from (wantOf_any wq P b1 mb1 T vq l ro (HTR.out.ext (HO.out.ext.then hx)) HFT.out.bytes hr HSM.out HIW.out ((HPVA.out.ext (HX3.out.then (HO.out.ext.then hx))).sub (by decide))).mono (fun e w' h => by
             rw [HWT.out] at h
             obtain ⟨ev, rfl, he, ho⟩ := h
             obtain rfl := he.zero ha0
             exact ⟨rfl, hx.then ho⟩)))
            have HRES := Lib.hid (fun (wq : World) (hx : Ext wr wq) => (show Calls Tryz.prog 73 #[PTR Ka.b, IN k] wq (RetSt (.tuple #[S (E.ans k).1, .bool true]) wq) ∧ Calls Tryz.prog 73 #[PTR Kb.b, IN k] wq (RetSt (.tuple #[S (E.ans k).1, .bool true]) wq) ∧ Calls Tryz.prog 73 #[PTR Kd.b, IN k] wq (RetSt (.tuple #[S (E.ans k).1, .bool true]) wq) from by
             have g := HO.out.grow hx
             have r1 := result_any g.a (k : Int)
             have r2 := result_any g.b (k : Int)
             have r3 := result_any g.d (k : Int)
             rw [HWL.out.well.tells g.ia HOVA.out (HWL.out.mem.2 HKL.out)] at r1
             rw [HWL.out.well.tells g.ib HOVB.out (HWL.out.mem.2 HKL.out)] at r2
             rw [HWL.out.well.tells g.id HOVD.out (HWL.out.mem.2 HKL.out)] at r3
             rw [show ((E.ans k).2 == 0) = true from beq_iff_eq.2 ha0] at r1 r2 r3
             exact ⟨r1, r2, r3⟩))
            clear ha0
            go_wp2_with fail
            go_region_held3 (fun w' => w'.cell? ⟨b, off + k * 4, none⟩ = some (S ro)) (first | exact HX22.out.cellOf HRO.out (fun h => h) | exact HX20.out.cellOf HRO.out (fun h => h) | exact HRO.out | go_keep)
             ((first
              | (go_at_call 21; refine (HOWN.out _ (by first | exact Only.refl _ _ | exact Only.drew _ _ | exact Only.drewN _ _ _)).mono ?_; rintro e w20 ⟨v20, rfl, hr20, ho20⟩; have HX20 : Hid (Ext wr w20) := Lib.hid ho20; have HR20 : Hid (RdR w20 v20 l) := Lib.hid hr20; obtain ⟨a20, p20, rfl, _, _, _⟩ := hr20; clear ho20)
              | (go_at_call 53; refine (HWANT.out _ _ (by first | exact HX20.out | exact HX20.out.thenDrew | exact HX20.out.thenDrewN _) (by first | exact HR20.out | exact HR20.out.ext (Only.drew _ _) | exact HR20.out.ext (Only.drewN _ _ _))).mono ?_; rintro e w22 ⟨rfl, ho⟩; have HX22 : Hid (Ext wr w22) := Lib.hid ho; clear ho)))
            all_goals
             obtain ⟨hr1, hr2, hr3⟩ := HRES.out _ HX22.out
             have HR1 := Lib.hid hr1
             have HR2 := Lib.hid hr2
             have HR3 := Lib.hid hr3
             have HO22 := Lib.hid (HO.out.grow HX22.out)
             clear hr1 hr2 hr3 HRES HWANT HOWN
             go_wp2_with fail
             refine HR1.out.mono ?_
             rintro e w23 ⟨rfl, rfl⟩
             go_wp2_with fail
             refine HR2.out.mono ?_
             rintro e w23 ⟨rfl, rfl⟩
             go_wp2_with fail
             refine HR3.out.mono ?_
             rintro e w23 ⟨rfl, rfl⟩
             go_wp2_with fail
             go_roundw
             case rel => exact ⟨k + 1, X, HKL.out, by go_num, HO22⟩
             case measure => have := HKL.out; simp [intOf]; omega
           case neg =>
            have HWANT := Lib.hid (fun (wq : World) (vq : Value) (hx : Ext wr wq) (hr : RdR wq vq l) => (show Calls Tryz.prog 53 #[.pointer (some ⟨b1, 0, none⟩), vq, S ro] wq (fun e w' => ∃ t q, e = .returned (.tuple #[S [], .iface t q]) ∧ Ext wr w') from (wantOf_any wq P b1 mb1 T vq l ro (HTR.out.ext (HO.out.ext.then hx)) HFT.out.bytes hr HSM.out HIW.out ((HPVA.out.ext (HX3.out.then (HO.out.ext.then hx))).sub (by decide))).mono (fun e w' h => by
             rw [HWT.out] at h
             obtain ⟨ev, rfl, he, ho⟩ := h
             obtain ⟨t, q, rfl⟩ := he.some ha0
             rw [HZT.out ha0]
             exact ⟨t, q, rfl, hx.then ho⟩)))
            have HRES := Lib.hid (fun (wq : World) (hx : Ext wr wq) => (show Calls Tryz.prog 73 #[PTR Ka.b, IN k] wq (RetSt (.tuple #[S [], .bool false]) wq) ∧ Calls Tryz.prog 73 #[PTR Kb.b, IN k] wq (RetSt (.tuple #[S [], .bool false]) wq) ∧ Calls Tryz.prog 73 #[PTR Kd.b, IN k] wq (RetSt (.tuple #[S [], .bool false]) wq) from by
             have g := HO.out.grow hx
             have r1 := result_any g.a (k : Int)
             have r2 := result_any g.b (k : Int)
             have r3 := result_any g.d (k : Int)
             rw [HWL.out.well.tells g.ia HOVA.out (HWL.out.mem.2 HKL.out)] at r1
             rw [HWL.out.well.tells g.ib HOVB.out (HWL.out.mem.2 HKL.out)] at r2
             rw [HWL.out.well.tells g.id HOVD.out (HWL.out.mem.2 HKL.out)] at r3
             rw [HZT.out ha0, show ((E.ans k).2 == 0) = false from beq_eq_false_iff_ne.2 ha0] at r1 r2 r3
             exact ⟨r1, r2, r3⟩))
            clear ha0
            go_wp2_with fail
            go_region_held3 (fun w' => w'.cell? ⟨b, off + k * 4, none⟩ = some (S ro)) (first | exact HX22.out.cellOf HRO.out (fun h => h) | exact HX20.out.cellOf HRO.out (fun h => h) | exact HRO.out | go_keep)
             ((first
              | (go_at_call 21; refine (HOWN.out _ (by first | exact Only.refl _ _ | exact Only.drew _ _ | exact Only.drewN _ _ _)).mono ?_; rintro e w20 ⟨v20, rfl, hr20, ho20⟩; have HX20 : Hid (Ext wr w20) := Lib.hid ho20; have HR20 : Hid (RdR w20 v20 l) := Lib.hid hr20; obtain ⟨a20, p20, rfl, _, _, _⟩ := hr20; clear ho20)
              | (go_at_call 53; refine (HWANT.out _ _ (by first | exact HX20.out | exact HX20.out.thenDrew | exact HX20.out.thenDrewN _) (by first | exact HR20.out | exact HR20.out.ext (Only.drew _ _) | exact HR20.out.ext (Only.drewN _ _ _))).mono ?_; rintro e w22 ⟨t, q, rfl, ho⟩; have HX22 : Hid (Ext wr w22) := Lib.hid ho; clear ho)))
            all_goals
             obtain ⟨hr1, hr2, hr3⟩ := HRES.out _ HX22.out
             have HR1 := Lib.hid hr1
             have HR2 := Lib.hid hr2
             have HR3 := Lib.hid hr3
             have HO22 := Lib.hid (HO.out.grow HX22.out)
             clear hr1 hr2 hr3 HRES HWANT HOWN
             go_wp2_with fail
             refine HR1.out.mono ?_
             rintro e w23 ⟨rfl, rfl⟩
             go_wp2_with fail
             refine HR2.out.mono ?_
             rintro e w23 ⟨rfl, rfl⟩
             go_wp2_with fail
             refine HR3.out.mono ?_
             rintro e w23 ⟨rfl, rfl⟩
             go_wp2_with fail
             go_roundw
             case rel => exact ⟨k + 1, X, HKL.out, by go_num, HO22⟩
             case measure => have := HKL.out; simp [intOf]; omega
          ·have hkz : ¬ (k : Int) < (l.length : Int) := by omega
           have ov : ∀ s : BS, (∀ i ∈ E.sm, s.st i ≠ 1) → overP E s = true := fun s h => by
            unfold overP
            rw [List.filter_eq_nil_iff.2 (fun i hi => by have := h i hi; simpa using this)]
            rfl
           have HV1 := Lib.hid (over_any HO.out.a HWL.out.well.rise HLN.out.few)
           rw [ov sa HOVA.out] at HV1
           have HV2 := Lib.hid (fun (wq : World) (hx : Ext wr wq) => by
            have h := over_any (HO.out.grow hx).b HWL.out.well.rise HLN.out.few
            rewrite [ov sb HOVB.out] at h
            exact h)
           have HV3 := Lib.hid (fun (wq : World) (hx : Ext wr wq) => by
            have h := over_any (HO.out.grow hx).d HWL.out.well.rise HLN.out.few
            rewrite [ov sd HOVD.out] at h
            exact h)
           have HXE := Lib.hid (HX3.out.then HO.out.ext)
           clear ov hkl hk
           go_wp2_with fail
           refine HV1.out.mono ?_
           rintro e w20 ⟨rfl, ho20⟩
           have HX20 := Lib.hid ho20
           clear ho20
           go_wp2_with fail
           refine (HV2.out _ HX20.out).mono ?_
           rintro e w21 ⟨rfl, ho21⟩
           have HX21 := Lib.hid (HX20.out.then ho21)
           clear ho21
           go_wp2_with fail
           refine (HV3.out _ HX21.out).mono ?_
           rintro e w22 ⟨rfl, ho22⟩
           have HX22 := Lib.hid (HXE.out.then (HX21.out.then ho22))
           clear ho22
           go_wp2_with fail
           go_ret
           exact ⟨rfl, HX22.out⟩
        case neg =>
         clear hz0z
         have HS17 := Lib.hid (HA16.out.add (Only.alloc _ _ (.cells #[IN z0, IN z1, IN z2, IN z3] 105 (0, 0))) (MapKept.heap_alloc w16 (.cells #[IN z0, IN z1, IN z2, IN z3] 105 (0, 0))).1)
         have kx := (HS17.out.kept (w12.heap.size, (.cells #[IN x0, IN x1, IN x2, IN x3] 105 (0, 0))) (by simp)).1
         have ky := (HS17.out.kept (w14.heap.size, (.cells #[IN y0, IN y1, IN y2, IN y3] 105 (0, 0))) (by simp)).1
         have kz := (HS17.out.kept (w16.heap.size, (.cells #[IN z0, IN z1, IN z2, IN z3] 105 (0, 0))) (by simp)).1
         have cx0 := (cell_of_heap kx 0).trans (rfl : _ = some (IN x0))
         have cx1 := (cell_of_heap kx 1).trans (rfl : _ = some (IN x1))
         have cx2 := (cell_of_heap kx 2).trans (rfl : _ = some (IN x2))
         have cx3 := (cell_of_heap kx 3).trans (rfl : _ = some (IN x3))
         have cy0 := (cell_of_heap ky 0).trans (rfl : _ = some (IN y0))
         have cy1 := (cell_of_heap ky 1).trans (rfl : _ = some (IN y1))
         have cy2 := (cell_of_heap ky 2).trans (rfl : _ = some (IN y2))
         have cy3 := (cell_of_heap ky 3).trans (rfl : _ = some (IN y3))
         have cz0 := (cell_of_heap kz 0).trans (rfl : _ = some (IN z0))
         have cz1 := (cell_of_heap kz 1).trans (rfl : _ = some (IN z1))
         have cz2 := (cell_of_heap kz 2).trans (rfl : _ = some (IN z2))
         have cz3 := (cell_of_heap kz 3).trans (rfl : _ = some (IN z3))
         obtain ⟨hx0, hx1, hx4, hx2⟩ := HXC.out
         obtain ⟨hy0, hy1, hy4, hy2⟩ := HYC.out
         obtain ⟨hzz0, hzz1, hzz4, hzz2⟩ := HZC.out
         have hfa := HWL.out.well.final HS17.out.ia HOVA.out
         have hfd := HWL.out.well.final HS17.out.id HOVD.out
         have hsl := HSL.out
         rw [hsl] at hx4 hy4 hzz4
         have hyn : y1 = 0 := by rw [hy1]; exact cnt_nohit HS17.out.nohit _
         have hxz : x0 + x1 = z0 + z1 := by rw [hx2, hzz2]; exact cnt_fin hfa hfd
         subst hyn
         have hx0b : (x0 : Int) ≤ 41 := by omega
         have hx1b : (x1 : Int) ≤ 41 := by omega
         have hx2b : (x2 : Int) ≤ 41 := by omega
         have hx3b : (x3 : Int) ≤ 41 := by omega
         have hz0b : (z0 : Int) ≤ 41 := by omega
         have hz1b : (z1 : Int) ≤ 41 := by omega
         have hz2b : (z2 : Int) ≤ 41 := by omega
         have hz3b : (z3 : Int) ≤ 41 := by omega
         have hy0b : (y0 : Int) ≤ 41 := by omega
         have hy2b : (y2 : Int) ≤ 41 := by omega
         have hy3b : (y3 : Int) ≤ 41 := by omega
         have hxs : (x0 : Int) + (x1 : Int) + (x2 : Int) + (x3 : Int) = (l.length : Int) := by omega
         have hys : (y0 : Int) + (y2 : Int) + (y3 : Int) = (l.length : Int) := by omega
         have hzs : (z0 : Int) + (z1 : Int) + (z2 : Int) + (z3 : Int) = (l.length : Int) := by omega
         have hxa : (x0 : Int) + (x1 : Int) ≤ 41 := by omega
         have hxb : (x0 : Int) + (x1 : Int) + (x2 : Int) ≤ 41 := by omega
         have hya : (y0 : Int) + (y2 : Int) ≤ 41 := by omega
         have hza : (z0 : Int) + (z1 : Int) ≤ 41 := by omega
         have hzb : (z0 : Int) + (z1 : Int) + (z2 : Int) ≤ 41 := by omega
         have hzx : (z1 : Int) ≤ (x0 : Int) + (x1 : Int) := by omega
         clear kx ky kz hx0 hx1 hx2 hx4 hy0 hy1 hy2 hy4 hzz0 hzz1 hzz2 hzz4 hfa hfd hsl hxz HXC HYC HZC HA16
         have HO0 := HS17
         clear HS17
         go_wp2_with fail
         clear cx0 cx1 cx2 cx3 cy0 cy1 cy2 cy3 cz0 cz1 cz2 cz3
         go_loopw [27, 28, 29, 30, 31, 32, 33, 34, 35] (fun i _ _ _ _ _ _ _ _ wx => ∃ (k : Nat) (X : List (Nat × Obj)), k ≤ l.length ∧ i = .int .i64 k ∧ Hid (SameAt w3 P E Ka Kb Kd cb w3.heap.size n w5.heap.size w7.heap.size w9.heap.size w10.heap.size X L2 sa sb sd wx)) (fun i _ _ _ _ _ _ _ _ _ => l.length - (intOf i).toNat)
         case atStart => exact ⟨0, _, Nat.zero_le _, rfl, HO0⟩
         case round =>
          clear HO0
          obtain ⟨k, X, hk, rfl, HO⟩ := hrel
          by_cases hkl : k < l.length
          ·have hkz : (k : Int) < (l.length : Int) := by omega
           have hk0 : (0 : Int) ≤ (k : Int) := by omega
           have hk1 : ¬ (k : Int) < 0 := by omega
           have hk2 : ¬ (l.length : Int) ≤ (k : Int) := by omega
           have HKL := Lib.hid hkl
           obtain ⟨b, off, rfl, hcell⟩ := HC1.out (by intro h; rw [h] at hkl; simp at hkl)
           have hre : l[k]? = some (E.rule k) := by
            have := BE.rule_at (E := E) (i := k) (by rw [HWL.out.rules]; exact hkl)
            rwa [HWL.out.rules] at this
           obtain ⟨u, _, c0, _⟩ := hcell k _ hre
           obtain ⟨ro, hro⟩ : ∃ ro, ro = (E.rule k).out := ⟨_, rfl⟩
           rw [← hro] at c0
           have hrc := (HX3.out.then HO.out.ext).cellOf c0 (fun h => h)
           have HRO := Lib.hid hrc
           have hwt := HWL.out.want HPO.out hkl
           rw [HET.out, ← hro] at hwt
           have HWT := Lib.hid hwt
           have HZT : Hid ((E.ans k).2 ≠ 0 → (E.ans k).1 = []) := Lib.hid (fun h => (HWL.out.well.ok (E.rule k).out).zero h)
           have HOWN := Lib.hid (fun (wq : World) (hx : Ext wr wq) => (ownRules_any wq _ l (H1.out.ext (HX3.out.then (HO.out.ext.then hx))) (by omega) HIL.out).mono (fun e w' h => (show ∃ v, e = .returned v ∧ RdR w' v l ∧ Ext wr w' from by
            obtain ⟨v, rfl, h1, h2⟩ := h
            exact ⟨v, rfl, h1, hx.then h2⟩)))
           clear hcell hre c0 hro hwt hkl
           by_cases ha0 : (E.ans k).2 = 0
           case pos =>
            have HWANT := Lib.hid (fun (wq : World) (vq : Value) (hx : Ext wr wq) (hr : RdR wq vq l) => (show Calls Tryz.prog 53 #[.pointer (some ⟨b1, 0, none⟩), vq, S ro] wq (fun e w' => e = .returned (.tuple #[S (E.ans k).1, .nilIface]) ∧ Ext wr w') from (wantOf_any wq P b1 mb1 T vq l ro (HTR.out.ext (HO.out.ext.then hx)) HFT.out.bytes hr HSM.out HIW.out ((HPVA.out.ext (HX3.out.then (HO.out.ext.then hx))).sub (by decide))).mono (fun e w' h => by
             rw [HWT.out] at h
             obtain ⟨ev, rfl, he, ho⟩ := h
             obtain rfl := he.zero ha0
             exact ⟨rfl, hx.then ho⟩)))
            have HRES := Lib.hid (fun (wq : World) (hx : Ext wr wq) => (show Calls Tryz.prog 73 #[PTR Ka.b, IN k] wq (RetSt (.tuple #[S (E.ans k).1, .bool true]) wq) ∧ Calls Tryz.prog 73 #[PTR Kb.b, IN k] wq (RetSt (.tuple #[S (E.ans k).1, .bool true]) wq) ∧ Calls Tryz.prog 73 #[PTR Kd.b, IN k] wq (RetSt (.tuple #[S (E.ans k).1, .bool true]) wq) from by
             have g := HO.out.grow hx
             have r1 := result_any g.a (k : Int)
             have r2 := result_any g.b (k : Int)
             have r3 := result_any g.d (k : Int)
             rw [HWL.out.well.tells g.ia HOVA.out (HWL.out.mem.2 HKL.out)] at r1
             rw [HWL.out.well.tells g.ib HOVB.out (HWL.out.mem.2 HKL.out)] at r2
             rw [HWL.out.well.tells g.id HOVD.out (HWL.out.mem.2 HKL.out)] at r3
             rw [show ((E.ans k).2 == 0) = true from beq_iff_eq.2 ha0] at r1 r2 r3
             exact ⟨r1, r2, r3⟩))
            clear ha0
            go_wp2_with fail
            go_region_held3 (fun w' => w'.cell? ⟨b, off + k * 4, none⟩ = some (S ro)) (first | exact HX22.out.cellOf HRO.out (fun h => h) | exact HX20.out.cellOf HRO.out (fun h => h) | exact HRO.out | go_keep)
             ((first
              | (go_at_call 21; refine (HOWN.out _ (by first | exact Only.refl _ _ | exact Only.drew _ _ | exact Only.drewN _ _ _)).mono ?_; rintro e w20 ⟨v20, rfl, hr20, ho20⟩; have HX20 : Hid (Ext wr w20) := Lib.hid ho20; have HR20 : Hid (RdR w20 v20 l) := Lib.hid hr20; obtain ⟨a20, p20, rfl, _, _, _⟩ := hr20; clear ho20)
              | (go_at_call 53; refine (HWANT.out _ _ (by first | exact HX20.out | exact HX20.out.thenDrew | exact HX20.out.thenDrewN _) (by first | exact HR20.out | exact HR20.out.ext (Only.drew _ _) | exact HR20.out.ext (Only.drewN _ _ _))).mono ?_; rintro e w22 ⟨rfl, ho⟩; have HX22 : Hid (Ext wr w22) := Lib.hid ho; clear ho)))
            all_goals
             obtain ⟨hr1, hr2, hr3⟩ := HRES.out _ HX22.out
             have HR1 := Lib.hid hr1
             have HR2 := Lib.hid hr2
             have HR3 := Lib.hid hr3
             have HO22 := Lib.hid (HO.out.grow HX22.out)
             clear hr1 hr2 hr3 HRES HWANT HOWN
             go_wp2_with fail
             refine HR1.out.mono ?_
             rintro e w23 ⟨rfl, rfl⟩
             go_wp2_with fail
             refine HR2.out.mono ?_
             rintro e w23 ⟨rfl, rfl⟩
             go_wp2_with fail
             refine HR3.out.mono ?_
             rintro e w23 ⟨rfl, rfl⟩
             go_wp2_with fail
             go_roundw
             case rel => exact ⟨k + 1, X, HKL.out, by go_num, HO22⟩
             case measure => have := HKL.out; simp [intOf]; omega
           case neg =>
            have HWANT := Lib.hid (fun (wq : World) (vq : Value) (hx : Ext wr wq) (hr : RdR wq vq l) => (show Calls Tryz.prog 53 #[.pointer (some ⟨b1, 0, none⟩), vq, S ro] wq (fun e w' => ∃ t q, e = .returned (.tuple #[S [], .iface t q]) ∧ Ext wr w') from (wantOf_any wq P b1 mb1 T vq l ro (HTR.out.ext (HO.out.ext.then hx)) HFT.out.bytes hr HSM.out HIW.out ((HPVA.out.ext (HX3.out.then (HO.out.ext.then hx))).sub (by decide))).mono (fun e w' h => by
             rw [HWT.out] at h
             obtain ⟨ev, rfl, he, ho⟩ := h
             obtain ⟨t, q, rfl⟩ := he.some ha0
             rw [HZT.out ha0]
             exact ⟨t, q, rfl, hx.then ho⟩)))
            have HRES := Lib.hid (fun (wq : World) (hx : Ext wr wq) => (show Calls Tryz.prog 73 #[PTR Ka.b, IN k] wq (RetSt (.tuple #[S [], .bool false]) wq) ∧ Calls Tryz.prog 73 #[PTR Kb.b, IN k] wq (RetSt (.tuple #[S [], .bool false]) wq) ∧ Calls Tryz.prog 73 #[PTR Kd.b, IN k] wq (RetSt (.tuple #[S [], .bool false]) wq) from by
             have g := HO.out.grow hx
             have r1 := result_any g.a (k : Int)
             have r2 := result_any g.b (k : Int)
             have r3 := result_any g.d (k : Int)
             rw [HWL.out.well.tells g.ia HOVA.out (HWL.out.mem.2 HKL.out)] at r1
             rw [HWL.out.well.tells g.ib HOVB.out (HWL.out.mem.2 HKL.out)] at r2
             rw [HWL.out.well.tells g.id HOVD.out (HWL.out.mem.2 HKL.out)] at r3
             rw [HZT.out ha0, show ((E.ans k).2 == 0) = false from beq_eq_false_iff_ne.2 ha0] at r1 r2 r3
             exact ⟨r1, r2, r3⟩))
            clear ha0
            go_wp2_with fail
            go_region_held3 (fun w' => w'.cell? ⟨b, off + k * 4, none⟩ = some (S ro)) (first | exact HX22.out.cellOf HRO.out (fun h => h) | exact HX20.out.cellOf HRO.out (fun h => h) | exact HRO.out | go_keep)
             ((first
              | (go_at_call 21; refine (HOWN.out _ (by first | exact Only.refl _ _ | exact Only.drew _ _ | exact Only.drewN _ _ _)).mono ?_; rintro e w20 ⟨v20, rfl, hr20, ho20⟩; have HX20 : Hid (Ext wr w20) := Lib.hid ho20; have HR20 : Hid (RdR w20 v20 l) := Lib.hid hr20; obtain ⟨a20, p20, rfl, _, _, _⟩ := hr20; clear ho20)
              | (go_at_call 53; refine (HWANT.out _ _ (by first | exact HX20.out | exact HX20.out.thenDrew | exact HX20.out.thenDrewN _) (by first | exact HR20.out | exact HR20.out.ext (Only.drew _ _) | exact HR20.out.ext (Only.drewN _ _ _))).mono ?_; rintro e w22 ⟨t, q, rfl, ho⟩; have HX22 : Hid (Ext wr w22) := Lib.hid ho; clear ho)))
            all_goals
             obtain ⟨hr1, hr2, hr3⟩ := HRES.out _ HX22.out
             have HR1 := Lib.hid hr1
             have HR2 := Lib.hid hr2
             have HR3 := Lib.hid hr3
             have HO22 := Lib.hid (HO.out.grow HX22.out)
             clear hr1 hr2 hr3 HRES HWANT HOWN
             go_wp2_with fail
             refine HR1.out.mono ?_
             rintro e w23 ⟨rfl, rfl⟩
             go_wp2_with fail
             refine HR2.out.mono ?_
             rintro e w23 ⟨rfl, rfl⟩
             go_wp2_with fail
             refine HR3.out.mono ?_
             rintro e w23 ⟨rfl, rfl⟩
             go_wp2_with fail
             go_roundw
             case rel => exact ⟨k + 1, X, HKL.out, by go_num, HO22⟩
             case measure => have := HKL.out; simp [intOf]; omega
          ·have hkz : ¬ (k : Int) < (l.length : Int) := by omega
           have ov : ∀ s : BS, (∀ i ∈ E.sm, s.st i ≠ 1) → overP E s = true := fun s h => by
            unfold overP
            rw [List.filter_eq_nil_iff.2 (fun i hi => by have := h i hi; simpa using this)]
            rfl
           have HV1 := Lib.hid (over_any HO.out.a HWL.out.well.rise HLN.out.few)
           rw [ov sa HOVA.out] at HV1
           have HV2 := Lib.hid (fun (wq : World) (hx : Ext wr wq) => by
            have h := over_any (HO.out.grow hx).b HWL.out.well.rise HLN.out.few
            rewrite [ov sb HOVB.out] at h
            exact h)
           have HV3 := Lib.hid (fun (wq : World) (hx : Ext wr wq) => by
            have h := over_any (HO.out.grow hx).d HWL.out.well.rise HLN.out.few
            rewrite [ov sd HOVD.out] at h
            exact h)
           have HXE := Lib.hid (HX3.out.then HO.out.ext)
           clear ov hkl hk
           go_wp2_with fail
           refine HV1.out.mono ?_
           rintro e w20 ⟨rfl, ho20⟩
           have HX20 := Lib.hid ho20
           clear ho20
           go_wp2_with fail
           refine (HV2.out _ HX20.out).mono ?_
           rintro e w21 ⟨rfl, ho21⟩
           have HX21 := Lib.hid (HX20.out.then ho21)
           clear ho21
           go_wp2_with fail
           refine (HV3.out _ HX21.out).mono ?_
           rintro e w22 ⟨rfl, ho22⟩
           have HX22 := Lib.hid (HXE.out.then (HX21.out.then ho22))
           clear ho22
           go_wp2_with fail
           go_ret
           exact ⟨rfl, HX22.out⟩
end Go.Proofs.YtnmhaipjfpongabGreatDoor

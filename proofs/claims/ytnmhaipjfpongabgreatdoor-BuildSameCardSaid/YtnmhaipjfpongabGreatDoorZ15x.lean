/- The closed fact 'built': two builds beside one cache. No condition but what the variables hold. -/
import Derived.Test.YtnmhaipjfpongabGreatDoorGn
import Derived.Test.YtnmhaipjfpongabGreatDoorGl
import Derived.Test.YtnmhaipjfpongabGreatDoorGm
namespace Go.Proofs.YtnmhaipjfpongabGreatDoor
open Go.ChangeShapes Go.WideShapes Go.ChangeAt Go.RowKit

abbrev EB : BE := ⟨[ruleUp], [0], [([97], [120])]⟩
theorem built_e : newE [ruleUp] [[98]] [([97], [120])] = EB := by
  show BE.mk _ _ _ = _
  rw [wanted_need]
theorem built_fault : newFault [ruleUp] [[98]] = (0, -1) := by
  have e1 : needFault [ruleUp] [[98]] = (0, -1) := by kernel_rfl
  have e2 : partFault [ruleUp] [0] = (0, -1) := by kernel_rfl
  unfold newFault
  rw [e1, if_neg (by simp), wanted_need, e2]
theorem built_well : ∃ o is, BWell EB o is := by
  have e1 : (sheetFault [ruleUp]).1 = 0 := by kernel_rfl
  have e2 : partB [ruleUp] (needL [ruleUp] [[98]]) = some [0] := by rw [wanted_need]; kernel_rfl
  have h := new_well (T := [([97], [120])]) (sheet_ok.1 e1) e2 (fun p s h => by have := mem_of_lookup h; simp at this; rw [this.2]; decide)
  rw [built_e] at h
  exact ⟨_, _, h⟩
theorem built_lens : BLens EB := ⟨by decide, fun i hi => by rw [List.mem_singleton] at hi; subst hi; decide, fun i hi => by rw [List.mem_singleton] at hi; subst hi; decide, fun i hi => by rw [List.mem_singleton] at hi; subst hi; decide⟩
theorem built_ans : EB.ans 0 = ([88], 0) := by kernel_rfl
theorem built_run : EB.ans 0 = (runOut (EB.rule 0).kind (EB.rule 0).word (EB.args 0), runCode (EB.rule 0).kind (EB.rule 0).word (EB.args 0)) := by kernel_rfl
theorem built_ready : readyP EB .new 0 = true := by kernel_rfl
theorem built_in : ∀ q ∈ (EB.rule 0).ins, (EB.W q).2 = 0 := by
  intro q hq
  have e : (EB.rule 0).ins = [[97]] := by kernel_rfl
  rw [e, List.mem_singleton] at hq
  subst hq
  exact (by kernel_rfl : (EB.W [97]).2 = 0)
theorem built_look : (putL 3 [] (EB.key 0) (EB.ans 0).1).lookup (EB.key 0) = some (EB.ans 0).1 := by
  show List.lookup _ (if 3 < _ then _ else _) = _
  rw [if_neg (by simp)]
  simp

set_option maxRecDepth 100000 in
set_option maxHeartbeats 8000000 in
theorem built_any (w : World) (P : Nat → Addr) (hV : PV w P [1, 2, 3, 4, 5, 6, 7, 8, 9, 10, 11]) : Calls Tryz.prog 54 #[] w (RetE (.bool true) w) := by
  have HVV := Lib.hid hV
  have e1 : putCode [] [97] [120] = 0 := by decide +kernel
  have e2 : putT [] [97] [120] = [([97], [120])] := by decide +kernel
  have E1 := Lib.hid e1
  have E2 := Lib.hid e2
  obtain ⟨o, is, hW⟩ := built_well
  have HW := Lib.hid hW
  clear hV e1 e2 hW
  go_enter Tryz.func54, Tryz.ntmps54
  go_wp2_with fail
  refine (treeNew_any w).mono ?_
  rintro e w1 ⟨rfl, ht, ho, hs1⟩
  have HT := Lib.hid ht
  have HO := Lib.hid ho
  have HS1 := Lib.hid hs1
  clear ht ho hs1
  obtain ⟨tb, htb⟩ : ∃ tb, tb = w.heap.size + 1 := ⟨_, rfl⟩
  rw [← htb] at HT
  rw [← htb]
  have HTB := Lib.hid htb
  clear htb
  go_wp2_with fail
  refine (cacheNew_any 3 w1 (by decide) (by decide)).mono ?_
  rintro e w2 ⟨rfl, hc, ho2, hs2⟩
  have HC := Lib.hid hc
  have HX2 := Lib.hid (HO.out.then ho2)
  have HS2 := Lib.hid hs2
  have HT2 := Lib.hid (HT.out.ext ho2)
  clear hc ho2 hs2
  obtain ⟨cb, hcb⟩ : ∃ cb, cb = w1.heap.size + 1 := ⟨_, rfl⟩
  rw [← hcb] at HC
  rw [← hcb]
  have HCB := Lib.hid hcb
  clear hcb
  have hput := treePut_any w2 P tb w.heap.size [] [97] [120] HT2.out Fits.nil ((HVV.out.ext HX2.out).errs.sub (by decide)) (HVV.out.ext HX2.out).max (by decide) (by simp)
  unfold PutIs at hput
  rw [E1.out, E2.out, show errC P 0 = .nilIface from rfl] at hput
  have HPU := Lib.hid hput
  clear hput
  go_wp2_with fail
  refine HPU.out.mono ?_
  rintro e w3 ⟨rfl, ht3, ho3⟩
  have HX3 : Hid (Ext w w3) := Lib.hid (HX2.out.trans ho3 (fun _ _ h => h) (fun i hi e => by omega))
  have HC3 : Hid (CacheAt w3 cb w1.heap.size (.slice none 0 0) 3 []) := Lib.hid (HC.out.later ho3 (fun i hi e => by
    have := HS1.out
    have := HCB.out
    rcases hi with h | h | h
    · omega
    · omega
    · cases h))
  have hx4 : Ext w3 (wantedW w3) := (Only.alloc _ w3 _).thenAlloc _
  have hx5 : Ext w3 ((wantedW w3).alloc (.cells #[S [98]] 9 (0, 0))) := hx4.thenAlloc _
  have hn1 := new_any ((wantedW w3).alloc (.cells #[S [98]] 9 (0, 0))) P tb w.heap.size [([97], [120])] _ _ (some ⟨cb, 0, none⟩) [ruleUp] [[98]] (ht3.ext hx5) ((wanted_rd w3).ext (Only.alloc _ _ _)) (lit_rd (wantedW w3) [98]) (by decide)
    (fun r hr => by rw [List.mem_singleton] at hr; subst hr; exact ⟨by decide, by decide, by decide, by decide, by decide⟩) ((HVV.out.ext (HX3.out.then hx5)).sub (by decide))
  unfold RetNew at hn1
  rw [built_fault, built_e] at hn1
  have hz4 : (wantedW w3).heap.size = w3.heap.size + 2 := by simp
  rw [hz4] at hn1
  have HN1 := Lib.hid hn1
  have HX5 := Lib.hid hx5
  have HRD5 := Lib.hid ((wanted_rd w3).ext (Only.alloc (fun _ => False) _ (.cells #[S [98]] 9 (0, 0))))
  have HT5 := Lib.hid (ht3.ext hx5)
  clear ht3 ho3 hx4 hx5 hn1 hz4
  go_wp2_with fail
  refine HN1.out.mono ?_
  rintro e w5 ⟨v1, ev1, rfl, he, ho5, hcase⟩
  obtain rfl := he.zero rfl
  rcases hcase with ⟨h, _⟩ | ⟨_, K1, rfl, hcp1, hb1⟩
  · exact absurd rfl h
  have HX6 : Hid (Ext w3 w5) := Lib.hid (HX5.out.then ho5)
  have hsz : w3.heap.size + 3 = ((wantedW w3).alloc (.cells #[S [98]] 9 (0, 0))).heap.size := by simp
  have HBS : Hid (∀ i, InBld EB K1 i → w3.heap.size ≤ i ∧ i < w5.heap.size) := Lib.hid (fun i hi => ⟨by have := hb1.ge i hi; omega, hb1.lt i hi⟩)
  have HB1 := Lib.hid hb1
  have HCP1 := Lib.hid hcp1
  have hn2 := new_any (w5.alloc (.cells #[S [98]] 9 (0, 0))) P tb w.heap.size [([97], [120])] _ _ (some ⟨cb, 0, none⟩) [ruleUp] [[98]] (HT5.out.ext (ho5.thenAlloc _)) (HRD5.out.ext (ho5.thenAlloc _)) (lit_rd w5 [98]) (by decide)
    (fun r hr => by rw [List.mem_singleton] at hr; subst hr; exact ⟨by decide, by decide, by decide, by decide, by decide⟩) ((HVV.out.ext (HX3.out.then (HX6.out.thenAlloc _))).sub (by decide))
  unfold RetNew at hn2
  rw [built_fault, built_e] at hn2
  have HN2 := Lib.hid hn2
  clear hn2 hb1 hcp1 ho5 he hsz
  go_wp2_with fail
  refine HN2.out.mono ?_
  rintro e w7 ⟨v2, ev2, rfl, he2, ho7, hcase⟩
  obtain rfl := he2.zero rfl
  rcases hcase with ⟨h, _⟩ | ⟨_, K2, rfl, hcp2, hb2⟩
  · exact absurd rfl h
  have hsz : w5.heap.size + 1 = (w5.alloc (.cells #[S [98]] 9 (0, 0))).heap.size := by simp
  have HX7 : Hid (Ext w5 w7) := Lib.hid (Only.then (Only.alloc (fun _ => False) w5 (.cells #[S [98]] 9 (0, 0))) ho7)
  have HBS2 : Hid (∀ i, InBld EB K2 i → w5.heap.size ≤ i ∧ i < w7.heap.size) := Lib.hid (fun i hi => ⟨by have := hb2.ge i hi; omega, hb2.lt i hi⟩)
  have HB17 := Lib.hid (HB1.out.ext HX7.out)
  have HB27 := Lib.hid hb2
  have HCP2 := Lib.hid hcp2
  have HX37 := Lib.hid (HX6.out.then HX7.out)
  have HXW7 := Lib.hid (HX3.out.then HX37.out)
  have HCL : Hid (∀ i, InCache cb w1.heap.size (.slice none 0 0) i → w.heap.size ≤ i ∧ i < w3.heap.size) := Lib.hid (fun i hi => ⟨(by
    have := HS1.out
    have := HCB.out
    rcases hi with h | h | h
    · omega
    · omega
    · cases h), HC3.out.lt i hi⟩)
  have HCC7 : Hid (CchAt w7 EB K1 cb w1.heap.size (.slice none 0 0) 3 []) := Lib.hid ⟨HC3.out.later HX37.out (fun _ _ h => h), CacheOk.nil, by decide, by decide, fun i hi e => by have := (HCL.out i hi).2; have := (HBS.out i e).1; omega⟩
  have hsz3 := HX3.out.size
  have hsz5 := HX6.out.size
  have hsz7 := HX7.out.size
  have HAV : Hid (ActVars w P) := Lib.hid (HVV.out.act (by decide))
  have HRN1 := Lib.hid (runC_good HB17.out HCP1.out HCC7.out HW.out (BInv.new _) built_lens HXW7.out (fun j hj => by
    rcases hj with h | h
    · have := (HBS.out j h.bld).1; omega
    · exact (HCL.out j h).1) HAV.out (i := 0) (List.mem_singleton.2 rfl) built_ready built_in built_run (by rw [built_ans]) rfl)
  clear he2 ho7 hb2 hcp2 hsz
  go_wp2_with fail
  refine HRN1.out.mono ?_
  intro e w8 hr8
  have hr8' : ∃ sv', e = .returned (.tuple #[.bool false, .nilIface]) ∧ BldAt w8 P _ EB K1 _ ∧ CchAt w8 EB K1 cb w1.heap.size sv' 3 (putL 3 [] (EB.key 0) (EB.ans 0).1) ∧ Only (fun i => InSteps EB K1 i ∨ InCache cb w1.heap.size (.slice none 0 0) i) w7 w8 ∧ ∀ i, InCache cb w1.heap.size sv' i → InCache cb w1.heap.size (.slice none 0 0) i ∨ w7.heap.size ≤ i := hr8
  obtain ⟨sv1, rfl, _, hcc8, ho8, hn8⟩ := hr8'
  have HXW8 : Hid (Ext w w8) := Lib.hid (HXW7.out.trans ho8 (fun _ _ h => h) (fun i hi e => by
    rcases e with h | h
    · have := (HBS.out i h.bld).1; omega
    · have := (HCL.out i h).1; omega))
  have HB28 := Lib.hid (HB27.out.later ho8 (fun i hi e => by
    have := HBS2.out i hi
    rcases e with h | h
    · have := (HBS.out i h.bld).2; omega
    · have := (HCL.out i h).2; omega))
  have HCC8 : Hid (CchAt w8 EB K2 cb w1.heap.size sv1 3 (putL 3 [] (EB.key 0) (EB.ans 0).1)) := Lib.hid ⟨hcc8.cache, hcc8.ok, hcc8.len, by decide, fun i hi e => by
    have := HBS2.out i e
    rcases hn8 i hi with h | h
    · have := (HCL.out i h).2; omega
    · omega⟩
  have HRN2 := Lib.hid (runC_hit HB28.out HCP2.out HCC8.out HW.out (BInv.new _) built_lens HXW8.out (fun j hj => by
    rcases hj with h | h
    · have := (HBS2.out j h.bld).1; omega
    · rcases hn8 j h with h | h
      · exact (HCL.out j h).1
      · omega) HAV.out (i := 0) (List.mem_singleton.2 rfl) built_ready built_in built_run built_look)
  have HLO : Hid (∀ j, InSteps EB K2 j ∨ InCache cb w1.heap.size sv1 j → w.heap.size ≤ j) := Lib.hid (fun j hj => by
    rcases hj with h | h
    · have := (HBS2.out j h.bld).1; omega
    · rcases hn8 j h with h | h
      · exact (HCL.out j h).1
      · omega)
  clear hr8 hcc8 ho8 hn8
  go_wp2_with fail
  refine HRN2.out.mono ?_
  intro e w9 hr9
  have hr9' : ∃ sv', e = .returned (.tuple #[.bool true, .nilIface]) ∧ BldAt w9 P _ EB K2 (doneP .new 0 true) ∧ CchAt w9 EB K2 cb w1.heap.size sv' 3 _ ∧ Only (fun i => InSteps EB K2 i ∨ InCache cb w1.heap.size sv1 i) w8 w9 ∧ ∀ i, InCache cb w1.heap.size sv' i → InCache cb w1.heap.size sv1 i ∨ w8.heap.size ≤ i := hr9
  obtain ⟨sv2, rfl, hb29, _, ho9, _⟩ := hr9'
  have HXW9 : Hid (Ext w w9) := Lib.hid (HXW8.out.trans ho9 (fun _ _ h => h) (fun i hi e => by have := HLO.out i e; omega))
  have hres := result_any hb29 ((0 : Nat) : Int)
  rw [resZ_in (List.mem_singleton.2 rfl) rfl, built_ans] at hres
  have HRES := Lib.hid hres
  have hov := over_any hb29 (List.pairwise_singleton _ _) (by decide)
  rw [show overP EB (doneP .new 0 true) = true by kernel_rfl] at hov
  have HOV := Lib.hid hov
  clear hr9 hb29 ho9 hres hov
  go_wp2_with fail
  refine HRES.out.mono ?_
  rintro e w10 ⟨rfl, rfl⟩
  go_wp2_with fail
  refine HOV.out.mono ?_
  rintro e w11 ⟨rfl, ho11⟩
  have HXE := Lib.hid (HXW9.out.then ho11)
  clear ho11
  go_wp2_with fail
  go_ret
  exact ⟨rfl, HXE.out⟩
end Go.Proofs.YtnmhaipjfpongabGreatDoor

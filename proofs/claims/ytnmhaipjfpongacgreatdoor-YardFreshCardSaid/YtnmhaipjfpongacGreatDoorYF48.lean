/- Texts of this seat laid together for one claim: Yb6, Yc1. No condition of its own: what each proves stands with its theorems. -/
import Derived.Deep.CutBlock
import Derived.Deep.DeepCutAuto
import Derived.Deep.RegionHeld3
import Derived.Test.YtnmhaipjfpongacGreatDoorYF33
import Derived.Test.YtnmhaipjfpongacGreatDoorYF46
import Derived.Test.YtnmhaipjfpongacGreatDoorYF47
import Derived.Test.YtnmhaipjfpongacGreatDoorYF37
namespace Go.Proofs.YtnmhaipjfpongacGreatDoor
open Go.ChangeShapes Go.WideShapes Go.ChangeAt Go.RowKit

theorem want_in {l : List Rule} {T : FL} (hof : (orderFault l).1 = 0) {out : B} (hm : madeB l out = true) : wantRes l T out = ((wantW l T out).1, ((wantW l T out).2, -1)) := by
 obtain ⟨hr, ho⟩ := orderFault_ok hof
 unfold wantRes
 rw [if_neg (by rw [sheet_ok.2 hr]; simp), if_neg (by rw [hm]; simp)]
 cases hq : partB l (needL l [out]) with
 | some o2 => rfl
 | none =>
  have hc := Clo.need l [out]
  obtain ⟨k, s, hk, hks, hs, hw⟩ := orderB_circle hq (fun a b ha hia hn => by
   have hb := (needB_lt hn).2
   exact ⟨hb, by simpa using hc.clos a (by simpa using hia) b hb hn⟩)
  exact absurd hw (Ordered.no_circle (orderB_some ho).1 (fun _ _ hn => (needB_lt hn).2) (order_covers ho hk rfl) hs)
def staleP (l : List Rule) (T O : FL) (p : B) : Bool := ((O.lookup p).isSome != ((wantW l T p).2 == 0)) || ((O.lookup p).isSome && (O.lookup p).getD [] != (wantW l T p).1)
def staleL (l : List Rule) (T O : FL) : List B := (l.map Rule.out).filter (staleP l T O)
section
variable {w0 w : World} {D : Nat → Prop} {n : Nat} {sv lv : Value} {many : Nat} {T O L : FL} {l : List Rule}
set_option maxRecDepth 100000 in
set_option maxHeartbeats 8000000 in
theorem yardStale_any (P : Nat → Addr) (h : YardAt w0 w D n sv lv many T O L l) (hof : (orderFault l).1 = 0) (hT : FTree T) (hV : PV w0 P [1, 2, 3, 4, 5, 6, 8, 9]) :
  Calls Tryz.prog 40 #[PTR (n + 6)] w (RetOuts (sortB (staleL l T O)) w) := by
 obtain ⟨ss, hss⟩ : ∃ ss, ss = staleL l T O := ⟨_, rfl⟩
 rw [← hss]
 have HSSE := Lib.hid hss
 clear hss
 obtain ⟨hR, _⟩ := orderFault_ok hof
 have hsh := right_short hR
 have h40 := hR.1
 have HSM : Hid (∀ r ∈ l, RuleSm 900000 r) := Lib.hid (fun r hr => (hsh r hr).sm)
 have HSH : Hid (∀ r ∈ l, r.ins.length ≤ 12 ∧ r.word.length ≤ 1000) := Lib.hid (fun r hr => ⟨(hsh r hr).many, by have := (hsh r hr).word; omega⟩)
 have HOF := Lib.hid hof
 have HH := Lib.hid h
 have HV := Lib.hid hV
 have HT := Lib.hid hT.bytes
 obtain ⟨al, cl, hlv, _, _, _⟩ := h.rules.rd
 subst hlv
 obtain ⟨os, hos⟩ : ∃ os, os = l.map Rule.out := ⟨_, rfl⟩
 have HOS := Lib.hid hos
 have HOL : Hid (os.length ≤ 40) := Lib.hid (by rw [hos, List.length_map]; exact h40)
 clear h hR hsh hof hV hT hos
 go_enter Tryz.func40, Tryz.ntmps40
 go_wp2_with fail
 refine (yardOuts_any HH.out (by omega)).mono ?_
 rintro e w1 ⟨v1, rfl, hr1, ho1⟩
 rw [← HOS.out] at hr1
 have HO1 := Lib.hid ho1
 obtain ⟨a1, c1, rfl, _, _, hc1⟩ := hr1.rd
 have HC1 := Lib.hid hc1
 have hoz : (os.length : Int) ≤ 40 := by have := HOL.out; omega
 obtain ⟨bs, hbs⟩ : ∃ bs, bs = w1.heap.size := ⟨_, rfl⟩
 have HBS : Hid (w1.heap.size ≤ bs ∧ bs ≤ w1.heap.size) := Lib.hid ⟨by omega, by omega⟩
 clear hbs
 clear hr1 ho1 hc1
 go_wp2_with fail
 go_loopw [3, 5, 6, 7, 8, 9, 13] (fun q _ _ _ _ _ i wr => ∃ (j : Nat) (qv : Value), qv = q ∧ j ≤ os.length ∧ i = .int .i64 j ∧ Hid (Row bs wr qv ((os.take j).filter (staleP l T O))) ∧ Hid (Ext w1 wr)) (fun _ _ _ _ _ _ i _ => os.length - (intOf i).toNat)
 case atStart => exact ⟨0, _, rfl, Nat.zero_le _, rfl, Lib.hid (Row.nil _ _), Lib.hid (Only.refl _ _)⟩
 case round =>
  obtain ⟨j, qv, rfl, hj, rfl, HQ, HX⟩ := hrel
  by_cases hlt : j < os.length
  ·have hltz : (j : Int) < (os.length : Int) := by omega
   have hj0 : (0 : Int) ≤ (j : Int) := by omega
   obtain ⟨b, off, rfl, hcell⟩ := HC1.out (by intro h; rw [h] at hlt; simp at hlt)
   obtain ⟨p, hp⟩ : ∃ y, os[j]? = some y := ⟨_, List.getElem?_eq_getElem hlt⟩
   have d0 := HX.out.cellOf (hcell j p hp) (fun h => h)
   have hyr := HH.out.grow (HO1.out.then HX.out)
   have k0 := (hyr.cell 0).trans (rfl : _ = some (PTR (n + 3)))
   have k2 := (hyr.cell 2).trans (rfl : _ = some (Value.slice al l.length cl))
   have HK0 := Lib.hid k0
   have HK2 := Lib.hid k2
   have hmade : madeB l p = true := by
    have hmem : p ∈ l.map Rule.out := HOS.out ▸ List.mem_of_getElem? hp
    obtain ⟨r, hr, rfl⟩ := List.mem_map.1 hmem
    exact made_out hr
   have HWA : Hid (∀ wq, Ext wr wq → Calls Tryz.prog 18 #[PTR (n + 3), .slice al l.length cl, S p] wq (fun e w' => ∃ ev, e = .returned (.tuple #[S (wantW l T p).1, ev]) ∧ ErrAt w' P ((wantW l T p).2, -1) ev ∧ Ext wr w')) := Lib.hid (fun wq hq => by
    have hyq := hyr.grow hq
    refine (wantOf_any wq P (n + 3) (n + 2) T _ l p hyq.tree HT.out hyq.rules.rd HSM.out HSH.out (HV.out.ext hyq.ext)).mono ?_
    rintro e w' ⟨ev, rfl, he, hx⟩
    rw [want_in HOF.out hmade] at he ⊢
    exact ⟨ev, rfl, he, hq.then hx⟩)
   have HTK : Hid ((os.take (j + 1)).filter (staleP l T O) = (os.take j).filter (staleP l T O) ++ if staleP l T O p then [p] else []) := Lib.hid (by rw [List.take_add_one, hp]; simp [List.filter_append, List.filter_cons])
   have HQL : Hid (((os.take j).filter (staleP l T O)).length ≤ 1000000) := Lib.hid (by have := List.length_filter_le (staleP l T O) (os.take j); rw [List.length_take] at this; omega)
   have HJ := Lib.hid hlt
   have HYR := Lib.hid hyr
   have HSP : Hid (staleP l T O p = (((O.lookup p).isSome != ((wantW l T p).2 == 0)) || ((O.lookup p).isSome && (O.lookup p).getD [] != (wantW l T p).1))) := Lib.hid rfl
   generalize (os.take j).filter (staleP l T O) = qs at HQ HTK HQL
   generalize staleP l T O p = st at HTK HSP
   generalize wantW l T p = wx at HWA HSP
   obtain ⟨ws, wc⟩ := wx
   clear hcell hp hyr hmade hj hlt
   go_wp2_with fail
   go_region_held3 (fun w' => w'.cell? ⟨n + 6, 0, none⟩ = some (PTR (n + 3)) ∧ w'.cell? ⟨n + 6, 2, none⟩ = some (.slice al l.length cl)) (first | exact ⟨HX3.out.cellOf HK0.out (fun h => h), HX3.out.cellOf HK2.out (fun h => h)⟩ | exact ⟨k0, k2⟩ | go_keep)
    ((go_at_call 18; refine (HWA.out _ (by first | exact Only.refl _ _ | exact Only.drew _ _ | exact Only.drewN _ _ _)).mono ?_; rintro e w3 ⟨ev, rfl, hee, hx3⟩; have HX3 := Lib.hid hx3; have HEE := Lib.hid hee; clear hx3 hee))
   all_goals
    have k1 := ((HYR.out.grow HX3.out).cell 1).trans (rfl : _ = some (PTR (n + 5)))
    have hget := treeGet_any w3 (n + 5) (n + 4) O p (HYR.out.grow HX3.out).out
    cases hl : O.lookup p with
    | none =>
     rw [hl] at hget HSP
     have HGET := Lib.hid hget
     clear hget hl
     by_cases hw : wc = 0
     ·obtain rfl := HEE.out.zero hw
      go_wp2_with fail
      refine HGET.out.mono ?_
      rintro e w4 ⟨rfl, rfl⟩
      have hst : st = true := by rw [HSP.out]; simp [hw]
      subst hst
      have HTK2 : Hid ((os.take (j + 1)).filter (staleP l T O) = qs ++ [p]) := Lib.hid (by rw [HTK.out, if_pos rfl])
      have HX3A := Lib.hid ((HX.out.then HX3.out).thenAlloc (.cells #[S p] 9 (0, 0)))
      have HQA := Lib.hid ((HX3.out.thenAlloc (.cells #[S p] 9 (0, 0))).row HQ.out (fun _ _ h => h))
      clear HTK HSP HWA HGET HEE d0 k0 k1 k2
      go_wp2_with (at_builtin; refine wpText rfl (.tmp 51) (.tmp 53) w1 bs _ qs p w3 rfl rfl rfl rfl (HX3.out.row HQ.out (fun _ _ h => h)) HQL.out (Nat.le_trans HBS.out.2 (HX.out.then HX3.out).size) (HX.out.then HX3.out) HBS.out.1 ?_; intro g5 cap5 w5 HR5 HX5 _)
      go_roundw
      case rel => exact ⟨j + 1, _, rfl, HJ.out, by go_num, by rw [HTK2.out]; exact HR5, HX5⟩
      case measure => have := HJ.out; simp [intOf]; omega
     ·obtain ⟨t, q, rfl⟩ := HEE.out.some hw
      go_wp2_with fail
      refine HGET.out.mono ?_
      rintro e w4 ⟨rfl, rfl⟩
      have hst : st = false := by rw [HSP.out]; simp [hw]
      subst hst
      have HTK2 : Hid ((os.take (j + 1)).filter (staleP l T O) = qs) := Lib.hid (by rw [HTK.out, if_neg (by decide), List.append_nil])
      clear HTK HSP HWA HGET HEE d0 k0 k1 k2
      go_wp2_with fail
      go_roundw
      case rel => exact ⟨j + 1, _, rfl, HJ.out, by go_num, by rw [HTK2.out]; exact HX3.out.row HQ.out (fun _ _ h => h), Lib.hid (HX.out.then HX3.out)⟩
      case measure => have := HJ.out; simp [intOf]; omega
    | some y =>
     rw [hl] at hget HSP
     have HGET := Lib.hid hget
     clear hget hl
     by_cases hw : wc = 0
     ·obtain rfl := HEE.out.zero hw
      by_cases hy : y = ws
      ·subst hy
       go_wp2_with fail
       refine HGET.out.mono ?_
       rintro e w4 ⟨rfl, rfl⟩
       have hst : st = false := by rw [HSP.out]; simp [hw]
       subst hst
       have HTK2 : Hid ((os.take (j + 1)).filter (staleP l T O) = qs) := Lib.hid (by rw [HTK.out, if_neg (by decide), List.append_nil])
       clear HTK HSP HWA HGET HEE d0 k0 k1 k2
       go_wp2_with fail
       go_roundw
       case rel => exact ⟨j + 1, _, rfl, HJ.out, by go_num, by rw [HTK2.out]; exact HX3.out.row HQ.out (fun _ _ h => h), Lib.hid (HX.out.then HX3.out)⟩
       case measure => have := HJ.out; simp [intOf]; omega
      ·have hyb : (y == ws) = false := beq_eq_false_iff_ne.2 hy
       go_wp2_with fail
       refine HGET.out.mono ?_
       rintro e w4 ⟨rfl, rfl⟩
       have hst : st = true := by rw [HSP.out]; simp [hw, hy]
       subst hst
       have HTK2 : Hid ((os.take (j + 1)).filter (staleP l T O) = qs ++ [p]) := Lib.hid (by rw [HTK.out, if_pos rfl])
       have HX3A := Lib.hid ((HX.out.then HX3.out).thenAlloc (.cells #[S p] 9 (0, 0)))
       have HQA := Lib.hid ((HX3.out.thenAlloc (.cells #[S p] 9 (0, 0))).row HQ.out (fun _ _ h => h))
       clear HTK HSP HWA HGET HEE d0 k0 k1 k2
       go_wp2_with (at_builtin; refine wpText rfl (.tmp 51) (.tmp 53) w1 bs _ qs p w3 rfl rfl rfl rfl (HX3.out.row HQ.out (fun _ _ h => h)) HQL.out (Nat.le_trans HBS.out.2 (HX.out.then HX3.out).size) (HX.out.then HX3.out) HBS.out.1 ?_; intro g5 cap5 w5 HR5 HX5 _)
       go_roundw
       case rel => exact ⟨j + 1, _, rfl, HJ.out, by go_num, by rw [HTK2.out]; exact HR5, HX5⟩
       case measure => have := HJ.out; simp [intOf]; omega
     ·obtain ⟨t, q, rfl⟩ := HEE.out.some hw
      go_wp2_with fail
      refine HGET.out.mono ?_
      rintro e w4 ⟨rfl, rfl⟩
      have hst : st = true := by rw [HSP.out]; simp [hw]
      subst hst
      have HTK2 : Hid ((os.take (j + 1)).filter (staleP l T O) = qs ++ [p]) := Lib.hid (by rw [HTK.out, if_pos rfl])
      have HX3A := Lib.hid ((HX.out.then HX3.out).thenAlloc (.cells #[S p] 9 (0, 0)))
      have HQA := Lib.hid ((HX3.out.thenAlloc (.cells #[S p] 9 (0, 0))).row HQ.out (fun _ _ h => h))
      clear HTK HSP HWA HGET HEE d0 k0 k1 k2
      go_wp2_with (at_builtin; refine wpText rfl (.tmp 51) (.tmp 53) w1 bs _ qs p w3 rfl rfl rfl rfl (HX3.out.row HQ.out (fun _ _ h => h)) HQL.out (Nat.le_trans HBS.out.2 (HX.out.then HX3.out).size) (HX.out.then HX3.out) HBS.out.1 ?_; intro g5 cap5 w5 HR5 HX5 _)
      go_roundw
      case rel => exact ⟨j + 1, _, rfl, HJ.out, by go_num, by rw [HTK2.out]; exact HR5, HX5⟩
      case measure => have := HJ.out; simp [intOf]; omega
  ·have hltz : ¬ (j : Int) < (os.length : Int) := by omega
   rw [List.take_of_length_le (by omega)] at HQ
   have hso := sort_row wr bs qv _ HQ.out (by have := List.length_filter_le (staleP l T O) os; have := HOL.out; omega)
   obtain ⟨aq, cq, hqf, _, _, _⟩ := HQ.out.rd
   have HSO := Lib.hid hso
   have HQB := Lib.hid HQ.out.base
   have HE : Hid (os.filter (staleP l T O) = ss) := Lib.hid (by rw [HSSE.out, HOS.out]; rfl)
   clear hso
   rw [HE.out] at HSO HQ hqf
   subst hqf
   go_wp2_with fail
   refine HSO.out.mono ?_
   rintro e w5 ⟨rfl, hr5, ho5⟩
   have HR5 := Lib.hid hr5
   have HX5 := Lib.hid ho5
   clear hr5 ho5
   go_wp2_with fail
   go_ret
   exact ⟨_, rfl, HR5.out.down (by have := HO1.out.size; have := HBS.out; omega), (HO1.out.then HX.out).trans HX5.out (fun _ _ h => h) (fun i hi e => by have := HQB.out i e; have := HBS.out; have := HO1.out.size; omega)⟩
end
end Go.Proofs.YtnmhaipjfpongacGreatDoor

namespace Go.Proofs.YtnmhaipjfpongacGreatDoor
open Go.ChangeShapes Go.WideShapes Go.ChangeAt Go.RowKit

theorem yarded_all {s : BS} {L' : FL} (h : AllTo EB (·.1) (stepM EB) (.new, some (3, [])) (s, some (3, L'))) : s.st 0 = 2 ∧ s.hit 0 = false := by
 have e0 : readyL EB .new = [0] := by kernel_rfl
 cases h with
 | stop h1 =>
  have h1 : readyL EB .new = [] := h1
  rw [e0] at h1
  cases h1
 | more h1 h2 =>
  have h1 : readyL EB .new = _ := h1
  rw [e0] at h1
  obtain ⟨rfl, rfl⟩ := List.cons.inj h1
  have e1 : stepM EB (.new, some (3, [])) 0 = (doneP .new 0 false, some (3, putL 3 [] (EB.key 0) (EB.ans 0).1)) := by
   unfold stepM
   rw [runZ_in (by decide)]
   show ((runP EB (some (3, [])) BS.new 0).2.1, (runP EB (some (3, [])) BS.new 0).2.2) = _
   unfold runP
   rw [if_neg (by decide), if_neg (by decide), if_neg (by rw [built_ready]; decide), if_neg (by rw [built_ans]; decide)]
   rfl
  rw [e1] at h2
  have e2 : readyL EB (doneP .new 0 false) = [] := by kernel_rfl
  cases h2 with
  | stop _ => exact ⟨rfl, rfl⟩
  | more h3 _ =>
   have h3 : readyL EB (doneP .new 0 false) = _ := h3
   rw [e2] at h3
   cases h3
theorem yarded_fault : orderFault [ruleUp] = (0, -1) := by kernel_rfl
theorem yarded_rules : rulesY [] [ruleUp] = [ruleUp] := by unfold rulesY; rw [yarded_fault, if_pos rfl]
theorem yarded_order : orderOut [ruleUp] = [0] := by kernel_rfl
theorem yarded_out {s : BS} (h : s.st 0 = 2) : outY EB s [] [0] = [([98], [88])] := by
 show layY EB s [] 0 = _
 unfold layY
 rw [mst_in (by decide), h, if_pos rfl, built_ans]
 exact (by decide +kernel : putT [] [98] [88] = [([98], [88])])
theorem yarded_stale : staleL [ruleUp] [([97], [120])] [([98], [88])] = [] := by
 have h2 : wantW [ruleUp] [([97], [120])] [98] = ([88], 0) := by kernel_rfl
 show List.filter _ [[98]] = []
 rw [List.filter_cons_of_neg]
 ·rfl
 ·unfold staleP
  rw [h2]
  decide
theorem yarded_cnt {s : BS} (h : s.st 0 = 2) (h2 : s.hit 0 = false) : cntV s [0] = #[IN 1, IN 0, IN 0, IN 0] := by
 simp [cntV, cRan, cHit, cFail, cLeft, h, h2]
theorem ruleUp_sm : ∀ r ∈ [ruleUp], RuleSm 900000 r := fun r hr => by rw [List.mem_singleton] at hr; subst hr; exact ⟨by decide, by decide, by decide, by decide, by decide⟩

set_option maxRecDepth 100000 in
set_option maxHeartbeats 8000000 in
theorem yarded_any (w : World) (P : Nat → Addr) (hV : PV w P [1, 2, 3, 4, 5, 6, 7, 8, 9, 10, 11]) : Calls Tryz.prog 33 #[] w (RetE (.bool true) w) := by
 have HVV := Lib.hid hV
 have e1 : putCode [] [97] [120] = 0 := by decide +kernel
 have e2 : putT [] [97] [120] = [([97], [120])] := by decide +kernel
 have hft : FTree [([97], [120])] := by rw [← e2]; exact FTree.nil.put _ _ (by decide)
 have E1 := Lib.hid e1
 have E2 := Lib.hid e2
 have HFT := Lib.hid hft
 clear hV e1 e2 hft
 go_enter Tryz.func33, Tryz.ntmps33
 go_wp2_with fail
 refine (yardNew_any 3 w P (HVV.out.errs.sub (by decide))).mono ?_
 rintro e w1 (⟨h, _⟩ | ⟨k, hk, rfl, hy, hs⟩)
 ·omega
 obtain rfl : k = 3 := by omega
 generalize (fun i => w.heap.size ≤ i ∧ i < w.heap.size + 7) = D at hy
 obtain ⟨n, hn⟩ : ∃ n, n = w.heap.size := ⟨_, rfl⟩
 rw [← hn] at hy ⊢
 have HY := Lib.hid hy
 clear hy hn hs hk
 go_wp2_with fail
 refine (yardTree_any HY.out).mono ?_
 rintro e w2 ⟨rfl, rfl⟩
 have hput := HY.out.put P FTree.nil ((HVV.out.ext HY.out.ext).errs.sub (by decide)) (HVV.out.ext HY.out.ext).max [97] [120] (by decide)
 rw [E1.out, E2.out, show errC P 0 = .nilIface from rfl] at hput
 have HPU := Lib.hid hput
 clear hput
 go_wp2_with fail
 refine HPU.out.mono ?_
 rintro e w2 ⟨rfl, hy2, _⟩
 have HY2 := Lib.hid hy2
 have hx3 : Ext w2 (wantedW w2) := (Only.alloc _ w2 _).thenAlloc _
 have hru := yardRules_any P _ (hy2.grow hx3) (wanted_rd w2) ruleUp_sm (HVV.out.ext (hy2.ext.then hx3))
 have HRU := Lib.hid hru
 clear hy2 hx3 hru HPU HY
 go_wp2_with fail
 refine HRU.out.mono ?_
 rintro e w3 ⟨ev, v2, D2, rfl, he, hy3, _⟩
 obtain rfl := he.zero (by rw [yarded_fault])
 rw [yarded_rules] at hy3
 have hmk := yardMake_any P (.slice none 0 0) [] [[98]] hy3 (Rd.nil _ _) (by decide) rfl (by rw [yarded_fault]) HFT.out FTree.nil HVV.out
 unfold RetMk at hmk
 rw [built_fault, built_e, wanted_need, yarded_order] at hmk
 have HY3 := Lib.hid hy3
 have HMK := Lib.hid hmk
 clear he hy3 hmk HRU HY2
 go_wp2_with fail
 refine HMK.out.mono ?_
 rintro e w4 ⟨cv, ev, rfl, he, hcase⟩
 obtain rfl := he.zero rfl
 rcases hcase with ⟨h, _⟩ | ⟨_, D4, sv4, s, L4, hto, _, _, rfl, hy4, _⟩
 ·exact absurd rfl h
 obtain ⟨hs2, hh⟩ := yarded_all hto
 rw [yarded_out hs2] at hy4
 rw [yarded_cnt hs2 hh]
 have HY4 := Lib.hid (hy4.grow (Only.alloc _ w4 (.cells #[IN 1, IN 0, IN 0, IN 0] 70 (0, 0))))
 have hb := (MapKept.heap_alloc w4 (.cells #[IN 1, IN 0, IN 0, IN 0] 70 (0, 0))).1
 have c0 := (cell_of_heap hb 0).trans (rfl : _ = some (IN 1))
 have HB := Lib.hid hb
 clear he hto hs2 hh hy4 hb HMK HY3
 go_wp2_with fail
 refine (yardOut_any HY4.out).mono ?_
 rintro e w5 ⟨rfl, rfl⟩
 have hget := treeGet_any _ (n + 5) (n + 4) [([98], [88])] [98] HY4.out.out
 rw [show ([([98], [88])] : FL).lookup [98] = some [88] from rfl] at hget
 have HGET := Lib.hid hget
 clear hget
 go_wp2_with fail
 refine HGET.out.mono ?_
 rintro e w5 ⟨rfl, rfl⟩
 have hst := yardStale_any P HY4.out (by rw [yarded_fault]) HFT.out (HVV.out.sub (by decide))
 rw [yarded_stale] at hst
 have HST := Lib.hid hst
 clear hst HGET
 go_wp2_with fail
 refine HST.out.mono ?_
 rintro e w6 ⟨v, rfl, hr, ho⟩
 obtain ⟨a6, c6, rfl, _, _, _⟩ := hr.rd
 have hl : (sortB []).length = 0 := by simp [sortB]
 rw [hl]
 have HX := Lib.hid (HY4.out.ext.then ho)
 clear hr ho hl HST c0
 go_wp2_with fail
 go_ret
 exact ⟨rfl, HX.out⟩
end Go.Proofs.YtnmhaipjfpongacGreatDoor

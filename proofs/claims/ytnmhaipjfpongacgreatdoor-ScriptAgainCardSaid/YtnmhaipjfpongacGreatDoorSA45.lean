/- Texts of this seat laid together for one claim: Sc6, Sc7, Sc8. No condition of its own: what each proves stands with its theorems. -/
import Derived.Deep.CutBlock
import Derived.Deep.DeepCutAuto
import Derived.Test.YtnmhaipjfpongacGreatDoorSA41
import Derived.Test.YtnmhaipjfpongacGreatDoorSA44
import Derived.Test.YtnmhaipjfpongacGreatDoorSA40
import Derived.Test.YtnmhaipjfpongacGreatDoorSA18
import Derived.Test.YtnmhaipjfpongacGreatDoorSA38
namespace Go.Proofs.YtnmhaipjfpongacGreatDoor
open Go.ChangeShapes Go.WideShapes Go.ChangeAt Go.RowKit

def fourB (a b c d : Nat) : List B := [Lib.decDigits a, Lib.decDigits b, Lib.decDigits c, Lib.decDigits d]
section
variable {w0 w w' w2 : World} {D D2 : Nat → Prop} {n pb : Nat} {y y' : YS} {P : Nat → Addr} {R : Act1}
def RetMkP (P : Nat → Addr) (w0 w : World) (D : Nat → Prop) (n pb : Nat) (R : Act1) (e : Ending) (w' : World) : Prop :=
 ∃ (a b c d : Nat) (ev : Value) (at_ : Int), e = .returned (.tuple #[.agg #[IN a, IN b, IN c, IN d], ev]) ∧ ErrAt w' P (R.2.2, at_) ev ∧ a ≤ 1000 ∧ b ≤ 1000 ∧ c ≤ 1000 ∧ d ≤ 1000 ∧ (R.2.2 = 0 → Lib.join (fourB a b c d) [32] = R.2.1) ∧ ScTo w0 w D n pb R.1 w'
theorem ScAt.make (h : ScAt w0 w D n pb y) (vo : Value) (outs : List B) (hvo : Rd S w vo outs) (hno : outs.length ≤ 1000) (hV : PVS w0 P) : Calls Tryz.prog 39 #[PTR (n + 6), vo] w (RetMkP P w0 w D n pb (makeS y outs)) := by
 obtain ⟨sv, lv, hy⟩ := h.at_
 refine (yardMake_any P vo outs _ hy hvo hno rfl h.ok.of h.ok.ft h.ok.fo hV.two).mono ?_
 rintro e w' ⟨cv, ev, rfl, he, hcase⟩
 rcases hcase with ⟨h0, rfl, ho⟩ | ⟨h0, D2, sv', s, L', hto, _, _, rfl, hy2, hmv⟩
 ·have hm : makeS y outs = (y, [], (newFault y.l (outsY y.l outs)).1) := by unfold makeS; rw [if_neg h0]
  rw [hm]
  refine ⟨0, 0, 0, 0, ev, _, rfl, he, by decide, by decide, by decide, by decide, fun k => absurd k h0, ScTo.same (h.grow ho) ho⟩
 ·have hend : mkEnd y.l 8 y.x (outsY y.l outs) = (s, some (8, L')) := allEnd_is hto
  have hmk := h.ok.make outs
  have hm : makeS y outs = (⟨⟨y.x.T, outY (newE y.l (outsY y.l outs) y.x.T) s y.x.O (orderOut y.l), L'⟩, y.l⟩, Lib.join (countsP y (outsY y.l outs)) [32], 0) := by
   unfold makeS
   rw [if_pos h0]
   unfold makeP
   rw [if_pos h0, hend]
   rfl
  have hcn : countsP y (outsY y.l outs) = fourB ((needL y.l (outsY y.l outs)).countP (cRan s)) ((needL y.l (outsY y.l outs)).countP (cHit s)) ((needL y.l (outsY y.l outs)).countP (cFail s)) ((needL y.l (outsY y.l outs)).countP (cLeft s)) := by unfold countsP; rw [hend]; rfl
  rw [hm] at hmk ⊢
  have h40 := (orderFault_ok h.ok.of).1.1
  have hnl : (needL y.l (outsY y.l outs)).length ≤ 40 := by
   have := List.length_filter_le (reachB y.l (outsY y.l outs)) (List.range y.l.length)
   rw [List.length_range] at this
   unfold needL
   omega
  have hc : ∀ p, (needL y.l (outsY y.l outs)).countP p ≤ 1000 := fun p => by have := List.countP_le_length (p := p) (l := needL y.l (outsY y.l outs)); omega
  exact ⟨_, _, _, _, ev, (newFault y.l (outsY y.l outs)).2, rfl, by rw [show (0, (newFault y.l (outsY y.l outs)).2) = newFault y.l (outsY y.l outs) from by rw [← h0]]; exact he, hc _, hc _, hc _, hc _, fun _ => by rw [hcn], ScAt.to (y' := ⟨⟨y.x.T, outY (newE y.l (outsY y.l outs) y.x.T) s y.x.O (orderOut y.l), L'⟩, y.l⟩) h hy2 hmv hmk⟩
set_option maxRecDepth 100000 in
set_option maxHeartbeats 8000000 in
theorem playerMake_any (h : ScAt w0 w D n pb y) (vo : Value) (outs : List B) (hvo : Rd S w vo outs) (hno : outs.length ≤ 1000) (hV : PVS w0 P) : Calls Tryz.prog 202 #[PTR pb, vo] w (RetPl P w0 w D n pb (makeS y outs)) := by
 have HV := Lib.hid (fun W (hW : Ext w0 W) => hV.ext hW)
 have c0 := h.cell
 have HMK := Lib.hid (h.make vo outs hvo hno hV)
 obtain ⟨R, hR⟩ : ∃ R, R = makeS y outs := ⟨_, rfl⟩
 rw [← hR] at HMK ⊢
 obtain ⟨ao, co, rfl, _, _, _⟩ := hvo
 clear h hV hR hno
 go_enter Tryz.func202, Tryz.ntmps202
 go_wp2_with fail
 refine HMK.out.mono ?_
 rintro e w2 ⟨a, b, c, d, ev, at_, rfl, he, ha, hb, hc, hd, hj, hto⟩
 have hA := Only.alloc (fun _ => False) w2 (.cells #[IN a, IN b, IN c, IN d] 70 (0, 0))
 have hm := (MapKept.heap_alloc w2 (.cells #[IN a, IN b, IN c, IN d] 70 (0, 0))).1
 have k0 := (cell_of_heap hm 0).trans (rfl : _ = some (IN a))
 have k1 := (cell_of_heap hm 1).trans (rfl : _ = some (IN b))
 have k2 := (cell_of_heap hm 2).trans (rfl : _ = some (IN c))
 have k3 := (cell_of_heap hm 3).trans (rfl : _ = some (IN d))
 have hA2 := Only.alloc (fun _ => False) (w2.alloc (.cells #[IN a, IN b, IN c, IN d] 70 (0, 0))) (.cells #[IN a, IN b, IN c, IN d] 3 (0, 0))
 have hr4 := rd_litI (zs := [(a : Int), b, c, d]) (MapKept.heap_alloc (w2.alloc (.cells #[IN a, IN b, IN c, IN d] 70 (0, 0))) (.cells #[IN a, IN b, IN c, IN d] 3 (0, 0))).1 rfl (by simp)
 rw [show (w2.alloc (.cells #[IN a, IN b, IN c, IN d] 70 (0, 0))).heap.size = w2.heap.size + 1 by simp] at hr4
 have hr4 : Rd I _ (.slice (some ⟨w2.heap.size + 1, 0, none⟩) 4 4) [(a : Int), b, c, d] := hr4
 have HE := Lib.hid ((he.ext hA).ext hA2)
 have HTO := Lib.hid ((hto.grow hA).grow hA2)
 have HJ := Lib.hid hj
 have HPW : Hid (Pow ((w2.alloc (.cells #[IN a, IN b, IN c, IN d] 70 (0, 0))).alloc (.cells #[IN a, IN b, IN c, IN d] 3 (0, 0)))) := Lib.hid (by
  obtain ⟨D2, h2, _⟩ := hto
  exact ((HV.out _ h2.ext).ext (hA.then hA2)).pow)
 have HR4 := Lib.hid hr4
 have HB : Hid (∀ j, ∀ z, [a, b, c, d][j]? = some z → z ≤ 1000) := Lib.hid (fun j z hz => by
  have : ∀ z ∈ [a, b, c, d], z ≤ 1000 := by simp [ha, hb, hc, hd]
  exact this z (List.mem_of_getElem? hz))
 clear he hto hj hm hr4 hA hA2 ha hb hc hd c0
 obtain ⟨w4, hw4⟩ : ∃ w4, w4 = (w2.alloc (.cells #[IN a, IN b, IN c, IN d] 70 (0, 0))).alloc (.cells #[IN a, IN b, IN c, IN d] 3 (0, 0)) := ⟨_, rfl⟩
 rw [← hw4] at HE HTO HPW HR4
 have HW4 := Lib.hid hw4.symm
 obtain ⟨g4, hg4⟩ : ∃ g4, g4 = w2.heap.size + 1 := ⟨_, rfl⟩
 rw [← hg4] at HR4
 have HG4 := Lib.hid hg4.symm
 obtain ⟨bs, hbs⟩ : ∃ bs, bs = w4.heap.size := ⟨_, rfl⟩
 have HBS : Hid (w4.heap.size ≤ bs ∧ bs ≤ w4.heap.size) := Lib.hid ⟨by omega, by omega⟩
 have HLB : Hid (fourB a b c d = [a, b, c, d].map Lib.decDigits) := Lib.hid rfl
 have HLI : Hid ([(a : Int), b, c, d] = [a, b, c, d].map fun (z : Nat) => (z : Int)) := Lib.hid rfl
 have hl4 : [a, b, c, d].length = 4 := rfl
 obtain ⟨zs, hzs⟩ : ∃ zs, zs = [a, b, c, d] := ⟨_, rfl⟩
 rw [← hzs] at HLB HLI HB hl4
 have HL4 := Lib.hid hl4
 rw [HLI.out] at HR4
 generalize fourB a b c d = L at HJ HLB
 clear hw4 hg4 hbs hzs hl4 HLI
 go_wp2_with fail
 rw [HW4.out, HG4.out]
 clear k0 k1 k2 k3
 go_loopw [8, 10, 30] (fun q _ i wr => ∃ (j : Nat) (qv : Value), qv = q ∧ j ≤ 4 ∧ i = .int .i64 j ∧ Hid (Row bs wr qv (L.take j)) ∧ Hid (Ext w4 wr)) (fun _ _ i _ => 4 - (intOf i).toNat)
 case atStart => exact ⟨0, _, rfl, Nat.zero_le _, rfl, Lib.hid (by rw [List.take_zero]; exact Row.nil _ _), Lib.hid (Only.refl _ _)⟩
 case round =>
  obtain ⟨j, qv, rfl, hj, rfl, HQ, HX⟩ := hrel
  by_cases hlt : j < 4
  case pos =>
   have hltz : (j : Int) < 4 := by omega
   have hj0 : (0 : Int) ≤ (j : Int) := by omega
   obtain ⟨z, hz⟩ : ∃ z, zs[j]? = some z := ⟨_, List.getElem?_eq_getElem (by have := HL4.out; omega)⟩
   obtain ⟨_, _, ee, _, _, hc0⟩ := HR4.out.ext HX.out
   simp only [Value.slice.injEq] at ee
   obtain ⟨rfl, -, rfl⟩ := ee
   obtain ⟨b9, o9, ee, hc⟩ := hc0 (by intro h; have := HL4.out; have h := congrArg List.length h; rw [List.length_map] at h; simp at h; rw [h] at this; simp at this)
   cases ee
   have d0 := hc j (z : Int) (by rw [List.getElem?_map, hz]; rfl)
   rw [Nat.zero_add] at d0
   have hz1 := HB.out j z hz
   have HIT := Lib.hid (itoa_any wr z (by omega) (HPW.out.ext HX.out))
   have HTK : Hid (L.take (j + 1) = L.take j ++ [Lib.decDigits z]) := Lib.hid (by rw [List.take_add_one, HLB.out, List.getElem?_map, hz]; rfl)
   have HLL : Hid ((L.take j).length ≤ 1000) := Lib.hid (by rw [List.length_take]; omega)
   have HJL := Lib.hid hlt
   clear hc hc0 hz hj hlt hz1
   generalize L.take j = lj at HQ HTK HLL
   generalize Lib.decDigits z = dz at HIT HTK
   go_wp2_with fail
   refine HIT.out.mono ?_
   rintro e w5 ⟨rfl, ho5⟩
   have HX5 := Lib.hid (HX.out.then ho5)
   have HQ5 := Lib.hid (ho5.row HQ.out (fun _ _ h => h))
   clear ho5 d0
   go_wp2_with (at_builtin; refine wpText rfl (.tmp 34) (.tmp 37) w4 bs qv lj dz w5 rfl rfl rfl rfl HQ5.out (Nat.le_trans HLL.out (by decide)) (Nat.le_trans HBS.out.2 HX5.out.size) HX5.out HBS.out.1 ?_; intro g6 cap6 w6 HR6 HX6 _)
   go_roundw
   case rel => exact ⟨j + 1, _, rfl, HJL.out, by go_num, by rw [HTK.out]; exact HR6, HX6⟩
   case measure => have := HJL.out; simp [intOf]; omega
  case neg =>
   obtain rfl : j = 4 := by omega
   have hlen : L.length = 4 := by rw [HLB.out, List.length_map, HL4.out]
   rw [List.take_of_length_le (by omega)] at HQ
   have hdl : ∀ s ∈ L, s.length ≤ 20 := by
    rw [HLB.out]
    intro s hs
    obtain ⟨z, hz, rfl⟩ := List.mem_map.1 hs
    obtain ⟨i, hi⟩ := List.getElem?_of_mem hz
    exact dec_le z (by have := HB.out i z hi; omega)
   have h3 := join_le [32] L
   have h5 := sum_le (l := L) fun s hs => by have := hdl s hs; omega
   have HJN := Lib.hid (joined_any wr qv L (Row.rd HQ.out) (by omega) (by simp only [List.length_cons, List.length_nil] at h3; omega))
   have HJE : Hid (joinedP L = Lib.join L [32]) := Lib.hid (by unfold joinedP; rw [if_neg (by intro h; rw [h] at hlen; simp at hlen)])
   clear hlen hdl h3 h5 hlt hj
   go_wp2_with fail
   refine HJN.out.mono ?_
   rintro e w5 ⟨rfl, ho5⟩
   have HX5 := Lib.hid (HX.out.then ho5)
   clear ho5
   go_wp2_with fail
   go_ret2
   exact ⟨_, _, at_, rfl, HE.out.ext HX5.out, fun h => by rw [HJE.out]; exact HJ.out h, HTO.out.grow HX5.out⟩
end
end Go.Proofs.YtnmhaipjfpongacGreatDoor

namespace Go.Proofs.YtnmhaipjfpongacGreatDoor
open Go.ChangeShapes Go.WideShapes Go.ChangeAt Go.RowKit

section
variable {w0 w w' w2 : World} {D D2 : Nat → Prop} {n pb : Nat} {y y' : YS} {P : Nat → Addr} {R : Act1}
theorem YSok.small {y : YS} (h : YSok y) : ∀ r ∈ y.l, RuleSm 900000 r := fun r hr => (right_short (orderFault_ok h.of).1 r hr).sm
theorem ScAt.sheet (h : ScAt w0 w D n pb y) : Calls Tryz.prog 201 #[PTR (n + 6)] w (RetRulesO w y.l) := by
 obtain ⟨sv, lv, hy⟩ := h.at_
 exact yardSheet_any hy (orderFault_ok h.ok.of).1.1 h.ok.small
def outsO (l : List Rule) (o : List Nat) : List B := o.map fun i => ((l[i]?).map Rule.out).getD []
set_option maxRecDepth 100000 in
set_option maxHeartbeats 8000000 in
theorem playerOrder_any (h : ScAt w0 w D n pb y) (hV : PVS w0 P) : Calls Tryz.prog 199 #[PTR pb] w (RetPl P w0 w D n pb (y, joinedP (outsO y.l (orderOut y.l)), 0)) := by
 have HH := Lib.hid h
 have HV := Lib.hid (fun W (hW : Ext w W) => hV.ext (h.ext.then hW))
 have c0 := h.cell
 have HSH := Lib.hid h.sheet
 have hof := h.ok.of
 have hrs := (orderFault_ok hof).1
 have hsm := h.ok.small
 have HSO := Lib.hid (right_short hrs)
 have h40 := hrs.1
 have HOR := Lib.hid (fun W v (hv : RdR W v y.l) (hW : Ext w W) => graphOrder_any W P y.l v hv hsm ((HV.out W hW).sub (by decide)))
 obtain ⟨od, hod⟩ : ∃ od, od = orderOut y.l := ⟨_, rfl⟩
 rw [← hod] at HOR ⊢
 have HOL : Hid (∀ i ∈ od, i < y.l.length) := Lib.hid (fun i hi => (order_all hof).1 (hod ▸ hi))
 have hnd : od.length ≤ y.l.length := by
  have hp := orderB_some (orderFault_ok hof).2
  have := nodup_len (b := List.range y.l.length) hp.1.nodup (fun x hx => List.mem_range.2 (hp.1.lt x hx))
  rw [List.length_range] at this
  rw [hod]
  exact this
 have hodz : (od.length : Int) ≤ 40 := by omega
 have hlz : (y.l.length : Int) ≤ 40 := by omega
 have HF : Hid ((orderFault y.l).1 = 0) := Lib.hid hof
 obtain ⟨L, hL⟩ : ∃ L, L = outsO y.l od := ⟨_, rfl⟩
 rw [← hL]
 have HL := Lib.hid hL
 clear h hV hof hrs hsm hod hL hnd h40
 go_enter Tryz.func199, Tryz.ntmps199
 go_wp2_with fail
 refine HSH.out.mono ?_
 rintro e w2 ⟨v2, rfl, hr2, ho2⟩
 have HO2 := Lib.hid (HOR.out w2 v2 hr2.rd ho2)
 have HR2 := Lib.hid hr2.rd
 have HX2 := Lib.hid ho2
 obtain ⟨a2, c2, rfl, _⟩ := hr2.rd
 clear hr2 ho2
 go_wp2_with fail
 refine HO2.out.mono ?_
 rintro e w3 ⟨v3, ev, rfl, hr3, he, ho3⟩
 obtain rfl := he.zero HF.out
 obtain ⟨a3, c3, hv3, _⟩ := hr3.rd
 subst hv3
 have HR3 := Lib.hid hr3.rd
 have HX3 := Lib.hid (HX2.out.then ho3)
 have HRL := Lib.hid (HR2.out.ext ho3)
 obtain ⟨bs, hbs⟩ : ∃ bs, bs = w3.heap.size := ⟨_, rfl⟩
 have HBS : Hid (w3.heap.size ≤ bs ∧ bs ≤ w3.heap.size) := Lib.hid ⟨by omega, by omega⟩
 clear hr3 he ho3 hbs
 go_wp2_with fail
 go_loopw [7, 9, 22] (fun q _ i wr => ∃ (j : Nat) (qv : Value), qv = q ∧ j ≤ od.length ∧ i = .int .i64 j ∧ Hid (Row bs wr qv (outsO y.l (od.take j))) ∧ Hid (Ext w3 wr)) (fun _ _ i _ => od.length - (intOf i).toNat)
 case atStart => exact ⟨0, _, rfl, Nat.zero_le _, rfl, Lib.hid (by rw [List.take_zero]; exact Row.nil _ _), Lib.hid (Only.refl _ _)⟩
 case round =>
  obtain ⟨j, qv, rfl, hj, rfl, HQ, HX⟩ := hrel
  by_cases hlt : j < od.length
  case pos =>
   have hltz : (j : Int) < (od.length : Int) := by omega
   have hj0 : (0 : Int) ≤ (j : Int) := by omega
   obtain ⟨_, _, ee, _, _, hc0⟩ := HR3.out.ext HX.out
   cases ee
   obtain ⟨b9, o9, rfl, hc⟩ := hc0 (by intro h; rw [h] at hlt; simp at hlt)
   obtain ⟨i, hi⟩ : ∃ z, od[j]? = some z := ⟨_, List.getElem?_eq_getElem hlt⟩
   have d0 := hc j i hi
   have hil := HOL.out i (List.mem_of_getElem? hi)
   have hilz : (i : Int) < (y.l.length : Int) := by omega
   have hi0 : (0 : Int) ≤ (i : Int) := by omega
   obtain ⟨_, _, ee, _, _, hcr0⟩ := HRL.out.ext HX.out
   cases ee
   obtain ⟨br, offr, rfl, hcr⟩ := hcr0 (by intro h; rw [h] at hil; simp at hil)
   obtain ⟨r, hri⟩ : ∃ r, y.l[i]? = some r := ⟨_, List.getElem?_eq_getElem hil⟩
   obtain ⟨_, _, e0, _⟩ := hcr i r hri
   have HTK : Hid (outsO y.l (od.take (j + 1)) = outsO y.l (od.take j) ++ [r.out]) := Lib.hid (by unfold outsO; rw [List.take_add_one, hi, Option.toList_some, List.map_append, List.map_cons, hri]; rfl)
   have HLL : Hid ((outsO y.l (od.take j)).length ≤ 1000) := Lib.hid (by unfold outsO; rw [List.length_map, List.length_take]; omega)
   have HJL := Lib.hid hlt
   clear hc hc0 hcr hcr0 hi hri hj hlt hil
   generalize outsO y.l (od.take j) = lj at HQ HTK HLL
   generalize r.out = ro at e0 HTK
   go_wp2_with (at_builtin; refine wpText rfl (.tmp 26) (.tmp 32) w3 bs qv lj ro wr rfl rfl rfl rfl HQ.out (Nat.le_trans HLL.out (by decide)) (Nat.le_trans HBS.out.2 HX.out.size) HX.out HBS.out.1 ?_; intro g6 cap6 w6 HR6 HX6 _)
   go_roundw
   case rel => exact ⟨j + 1, _, rfl, HJL.out, by go_num, by rw [HTK.out]; exact HR6, HX6⟩
   case measure => have := HJL.out; simp [intOf]; omega
  case neg =>
   rw [List.take_of_length_le (by omega), ← HL.out] at HQ
   have hltz : ¬ (j : Int) < (od.length : Int) := by omega
   have hlen : L.length ≤ 40 := by rw [HL.out]; unfold outsO; rw [List.length_map]; omega
   have hdl : ∀ s ∈ L, s.length ≤ 2000 := by
    rw [HL.out]
    intro s hs
    obtain ⟨i, hi, rfl⟩ := List.mem_map.1 hs
    have hil := HOL.out i hi
    rw [List.getElem?_eq_getElem hil]
    have := (HSO.out _ (List.getElem_mem hil)).out
    show (y.l[i]).out.length ≤ 2000
    omega
   have h3 := join_le [32] L
   have h5 := sum_le hdl
   have HJN := Lib.hid (joined_any wr qv L (Row.rd HQ.out) (by omega) (by simp only [List.length_cons, List.length_nil] at h3; omega))
   clear hlen hdl h3 h5 hlt hj
   go_wp2_with fail
   refine HJN.out.mono ?_
   rintro e w5 ⟨rfl, ho5⟩
   have HX5 := Lib.hid (HX3.out.then (HX.out.then ho5))
   clear ho5
   go_wp2_with fail
   go_ret2
   exact ⟨_, _, -1, rfl, ErrAt.nil _ _ _, fun _ => rfl, ScTo.same (HH.out.grow HX5.out) HX5.out⟩
end
end Go.Proofs.YtnmhaipjfpongacGreatDoor

namespace Go.Proofs.YtnmhaipjfpongacGreatDoor
open Go.ChangeShapes Go.WideShapes Go.ChangeAt Go.RowKit

theorem rdR_of_row {base : Nat} {w : World} {v : Value} {ps : List (Rule × Option Addr × Nat × Nat)} {l : List Rule} (h : w.ownsRow base 55 4 v ps.length (ps.flatMap encR)) (ht : ∀ p ∈ ps, Rd S w (SV p.2) p.1.ins) (hl : ps.map Prod.fst = l) : RdR w v l := by
 have hs := RdS.of_row encR_len h
 obtain ⟨a, cap, h1, h2, h3, h4⟩ := hs
 have hlen : ps.length = l.length := by rw [← hl, List.length_map]
 refine ⟨a, cap, by rw [← hlen]; exact h1, by omega, h3, fun hne => ?_⟩
 obtain ⟨b, off, h5, h6⟩ := h4 (by intro e; rw [e] at hl; exact hne hl.symm)
 refine ⟨b, off, h5, fun i r hi => ?_⟩
 rw [← hl, List.getElem?_map] at hi
 obtain ⟨p, hp, rfl⟩ := Option.map_eq_some_iff.1 hi
 refine ⟨SV p.2, ht p (List.mem_of_getElem? hp), ?_, ?_, ?_, ?_⟩
 ·have := h6 i p hp 0 _ rfl; rwa [Nat.add_zero] at this
 ·exact h6 i p hp 1 _ rfl
 ·exact h6 i p hp 2 _ rfl
 ·exact h6 i p hp 3 _ rfl
theorem step_appR {P : Program} (hP : P = Tryz.prog) {ops : Array Oper} {o : Oper} {a : Act} {K : Act → World → Prop} {Q : Exit → Act → World → Prop} {E : Prop} (s x : Operand) (w1 W : World) (v2 vk : Value) (l l2 : List Rule) (hgd : o.guard = none)
  (ho : o.op = .call { callee := .builtin .append, args := #[s, x], argTypes := #[23, 23] }) (hs : a.eval s = v2) (hx : a.eval x = vk) (hv : RulesIn (fun i => w1.heap.size ≤ i) W v2 l) (hxt : Ext w1 W) (hk : RdR w1 vk l2) (hne : l2 ≠ []) (hl : l.length + l2.length ≤ 100000)
  (hK : ∀ L av cv w3, Hid (L = l ++ l2) → Hid (RdR w3 (.slice av L.length cv) L) → Hid (Ext w1 w3) → K (a.put o.dst (.slice av L.length cv)) w3) : if Region.wanted o (yielded ops a.tmps) = true then Oper.wp P o a W K Q else E := by
 subst hP
 simp only [Region.wanted, hgd, if_true]
 obtain ⟨ps, hps, hrow, hbl, hpt⟩ := hv
 obtain ⟨a2, cap2, rfl, _, _, _⟩ := id hk
 obtain ⟨b, off, qs, rfl, hq1, hq2, hq3⟩ := hk.parts hne
 obtain ⟨i0, hi, hz0, hz1, hz2⟩ := info_parts (P := Tryz.prog) infoRule
 have hpl : ps.length = l.length := by rw [← hps, List.length_map]
 have hql : qs.length = l2.length := by rw [← hq1, List.length_map]
 have hb : (l.length + l2.length) * 72 ≤ 100000 * 72 := Nat.mul_le_mul_right _ hl
 obtain ⟨v', w', hr, h2, h3, _, _⟩ := run_append_own_at (P := Tryz.prog) W 0 23 o.type 55 i0 _ 4 72 Tryz.underlying23 hi hz0 hz1 hz2 rfl (by decide) v2 l.length (ps.flatMap encR) hrow ⟨b, off, none⟩ l2.length cap2 (qs.flatMap encR) (by rw [← hql]; exact flat_len encR_len qs) (fun j u hu => by rw [addrAdd]; exact hxt.cellOf (hq3 j u hu) (fun h => h)) (fun u hu => by
  obtain ⟨y, _, hy⟩ := List.mem_flatMap.1 hu
  exact encR_one y u hy) (by unfold maxLen; omega) (by omega) (Nat.zero_le _)
 have ho3 : Only (fun i => v2.ownBlock = some i) W w' := Only.of_grown h3
 have hx3 : Ext w1 w' := hxt.trans ho3 (fun _ _ h => h) (fun i hi e => by have := hbl i e; omega)
 have hrd : RdR w' v' (l ++ l2) := rdR_of_row (base := 0) (ps := ps ++ qs) (by rw [List.length_append, List.flatMap_append, hpl, hql]; exact h2) (fun p hp => by
  rcases List.mem_append.1 hp with hp | hp
  ·exact Row.rd (ho3.row (hpt p hp).1 (fun i e1 e2 => Row.apart (hpt p hp).1 hrow e1 e2))
  ·exact (hq2 p hp).ext hx3) (by rw [List.map_append, hps, hq1])
 obtain ⟨av, cv, hve, _⟩ := id hrd
 subst hve
 unfold Oper.wp execOp
 simp only [ho, resolve, invoke, builtin, Sem.run_bind, Sem.run_pure, Result.andThen_ok, List.map_toArray, List.map_cons, List.map_nil, hs, hx, hr]
 exact hK _ _ _ w' (Lib.hid rfl) (Lib.hid hrd) (Lib.hid hx3)
section
variable {w0 w w' w2 : World} {D D2 : Nat → Prop} {n pb : Nat} {y y' : YS} {P : Nat → Addr} {R : Act1}
theorem ScAt.rules (h : ScAt w0 w D n pb y) {v : Value} {l : List Rule} (hv : RdR w v l) (hs : ∀ r ∈ l, RuleSm 900000 r) (hV : PVS w0 P) : Calls Tryz.prog 35 #[PTR (n + 6), v] w (fun e w' => ∃ ev, e = .returned ev ∧ ErrAt w' P (orderFault l) ev ∧ ScTo w0 w D n pb ⟨y.x, rulesY y.l l⟩ w') := by
 obtain ⟨sv, lv, hy⟩ := h.at_
 refine (yardRules_any P v hy hv hs (hV.two.ext hy.ext)).mono ?_
 rintro e w' ⟨ev, v2, D2, rfl, he, hy2, hm⟩
 exact ⟨ev, rfl, he, ScAt.to (y' := ⟨y.x, rulesY y.l l⟩) h hy2 hm ⟨rulesY_of h.ok.of, h.ok.ft, h.ok.fo⟩⟩
set_option linter.unusedSimpArgs false in
set_option maxRecDepth 100000 in
set_option maxHeartbeats 8000000 in
theorem playerRule_any (h : ScAt w0 w D n pb y) (s : B) (hs : s.length ≤ 9000) (hV : PVS w0 P) : Calls Tryz.prog 205 #[PTR pb, S s] w (RetPl P w0 w D n pb (ruleS y s)) := by
 have HH := Lib.hid h
 have HV0 := Lib.hid hV
 have hrd := read_any w P (s ++ [10]) (cutc 10 s) (by rw [List.length_append]; simp; omega) (by rw [cutc_app_any 10 s []]; rfl) ((hV.ext h.ext).sub (by decide))
 have hba := ba_app s [10]
 have hl1 : ¬ 9223372036854775807 < s.length + 1 := by omega
 have HNE : Hid ((readSh (cutc 10 s)).1 = 0 → (readSh (cutc 10 s)).2 ≠ [] ∧ (readSh (cutc 10 s)).2.length ≤ 10000) := Lib.hid (fun hz => by
  unfold readSh at hz ⊢
  cases hq : linesP (cutc 10 s) with
  | none => rw [hq] at hz; cases hz
  | some l =>
   rw [hq] at hz
   have hz : (if (sheetFault l).1 = 0 then (0, l) else ((sheetFault l).1, [])).1 = 0 := hz
   have hl := linesP_len hq
   have hp := cutc_pos 10 s
   have hc := cutc_len_le 10 s
   by_cases h0 : (sheetFault l).1 = 0
   ·show (if (sheetFault l).1 = 0 then (0, l) else ((sheetFault l).1, [])).2 ≠ [] ∧ (if (sheetFault l).1 = 0 then (0, l) else ((sheetFault l).1, [])).2.length ≤ 10000
    rw [if_pos h0]
    exact ⟨fun e => by have e : l = [] := e; rw [e] at hl; simp at hl; omega, by show l.length ≤ 10000; omega⟩
   ·rw [if_neg h0] at hz; exact absurd hz h0)
 have HRD := Lib.hid hrd
 obtain ⟨R, hR⟩ : ∃ R, R = ruleS y s := ⟨_, rfl⟩
 rw [← hR]
 unfold ruleS at hR
 have HR := Lib.hid hR
 have c0 := h.cell
 generalize readSh (cutc 10 s) = q at HRD HR HNE
 obtain ⟨code, l2⟩ := q
 clear h hV hrd hR hs
 by_cases hz : code = 0
 case neg =>
  have HRE : Hid (R = (y, [], code)) := Lib.hid (by rw [HR.out, if_pos hz])
  have HZ := Lib.hid hz
  go_enter Tryz.func205, Tryz.ntmps205
  go_wp2_with fail
  refine HRD.out.mono ?_
  rintro e w1 ⟨v1, ev, at_, rfl, he, ho1, hr1, _⟩
  obtain ⟨t1, q1, rfl⟩ := he.some hz
  obtain ⟨a1, c1, rfl, _⟩ := hr1
  have HE := Lib.hid he
  have HX := Lib.hid ho1
  clear he ho1 hz
  go_wp2_with fail
  go_ret2
  exact ⟨[], _, at_, rfl, by rw [HRE.out]; exact HE.out, fun h => by rw [HRE.out] at h; exact absurd h HZ.out, by rw [HRE.out]; exact ScTo.same (HH.out.grow HX.out) HX.out⟩
 case pos =>
  subst hz
  have HN := Lib.hid (HNE.out rfl)
  clear HNE
  have HRE : Hid (R = (⟨y.x, rulesY y.l (y.l ++ l2)⟩, okB, (orderFault (y.l ++ l2)).1)) := Lib.hid (by rw [HR.out, if_neg (by simp)])
  go_enter Tryz.func205, Tryz.ntmps205
  go_wp2_with fail
  refine HRD.out.mono ?_
  rintro e w1 ⟨v1, ev, at_, rfl, he, ho1, hr1, hs1⟩
  obtain rfl := he.zero rfl
  have HR1 := Lib.hid (hr1.ext (Only.drew (fun _ => False) w1))
  have HX1 := Lib.hid (ho1.thenDrew)
  have HS1 := Lib.hid hs1
  obtain ⟨a1, c1, rfl, _⟩ := hr1
  have HH1 := Lib.hid (HH.out.grow HX1.out)
  have HC0 := Lib.hid (fun W (hW : Ext w W) => (HH.out.grow hW).cell)
  have HSH := Lib.hid HH1.out.sheet
  clear he ho1 hs1 c0
  have c0 := HC0.out _ HX1.out
  clear c0
  have hlen : y.l.length + l2.length ≤ 100000 := by have := (orderFault_ok HH.out.ok.of).1.1; have := HN.out.2; omega
  have HLEN := Lib.hid hlen
  clear hlen
  go_wp2_with fail
  refine wp_region_held_drew (S := fun w' => w'.cell? ⟨pb, 0, none⟩ = some (PTR (n + 6))) (by kernel_rfl) (HC0.out _ HX1.out) (fun hHeld => ?_)
  refine takeN 0 ?_
  refine takeN 1 ?_
  refine takeN 2 ?_
  refine takeN 3 ?_
  refine takeN 4 ?_
  refine takeN 5 ?_
  refine takeN 6 ?_
  refine takeN 7 ?_
  refine takeN 9 ?_
  refine wpAnyH_ready (rs := [8]) (by kernel_rfl) (by simp) ?_
  refine AllReadyH.cons (o := _) rfl (fun K hK => ?_) AllReadyH.nil
  go_simp
  go_at_call 201
  refine (HSH.out).mono ?_
  rintro e w2 ⟨v2, rfl, hr2, ho2⟩
  have HR2 := Lib.hid hr2
  have HX2 := Lib.hid ho2
  refine hK.out _ _ (HC0.out _ (HX1.out.then HX2.out)) (fun hHeld => ?_)
  clear hK K
  try simp only [Act.put, List.setIfInBounds_toArray, List.set_cons_zero, List.set_cons_succ]
  clear hr2 ho2
  refine wpAnyH_ready (rs := [10]) (by kernel_rfl) (by simp) ?_
  refine AllReadyH.cons rfl (fun K hK => ?_) AllReadyH.nil
  refine step_appR rfl (.tmp 25) (.tmp 26) _ w2 v2 _ y.l l2 rfl rfl rfl rfl HR2.out HX2.out HR1.out HN.out.1 HLEN.out ?_
  intro L3 av cv w3 HL3 HR3 HX3
  rw [← HL3.out] at HRE
  refine hK.out _ _ (HC0.out _ (HX1.out.then HX3.out)) (fun hHeld => ?_)
  clear hK K
  try simp only [Act.put, List.setIfInBounds_toArray, List.set_cons_zero, List.set_cons_succ]
  have HRU := Lib.hid ((HH1.out.grow HX3.out).rules HR3.out (fun r hr => by
   rw [HL3.out] at hr
   rcases List.mem_append.1 hr with hr | hr
   ·exact HH.out.ok.small r hr
   ·exact (HS1.out r hr).mono (by decide)) HV0.out)
  refine wpAnyH_ready (rs := [11]) (by kernel_rfl) (by simp) ?_
  refine AllReadyH.cons (o := _) rfl (fun K hK => ?_) AllReadyH.nil
  go_simp
  go_at_call 35
  refine (HRU.out).mono ?_
  rintro e w4 ⟨ev, rfl, he4, hto4⟩
  have HE4 := Lib.hid he4
  have HTO4 := Lib.hid hto4
  refine hK.out _ _ ((by obtain ⟨D4, h4, _⟩ := hto4; exact h4.cell)) (fun hHeld => ?_)
  clear hK K
  try simp only [Act.put, List.setIfInBounds_toArray, List.set_cons_zero, List.set_cons_succ]
  clear he4 hto4
  refine takeN 12 ?_
  refine takeN 13 ?_
  refine wpAnyH_done (by kernel_rfl) ?_ _
  go_wp2_with fail
  go_ret2
  exact ⟨okB, _, _, rfl, by rw [HRE.out]; exact HE4.out, fun _ => by rw [HRE.out], by rw [HRE.out]; exact HTO4.out.from (HX1.out.then HX3.out)⟩
end
end Go.Proofs.YtnmhaipjfpongacGreatDoor

/- Texts of this seat laid together for one claim: Sc10, Sc11. No condition of its own: what each proves stands with its theorems. -/
import Derived.Test.YtnmhaipjfpongacGreatDoorSA19
import Derived.Test.YtnmhaipjfpongacGreatDoorSA46
import Derived.Test.YtnmhaipjfpongacGreatDoorSA4
namespace Go.Proofs.YtnmhaipjfpongacGreatDoor
open Go.ChangeShapes Go.WideShapes Go.ChangeAt Go.RowKit

theorem joined_fits {L : List B} (h : ∀ s ∈ L, s.length ≤ 2000) (hn : L.length ≤ 1000000) : (Lib.join L [32]).length ≤ 140737488355328 := by
 have h3 := join_le [32] L
 have h5 := sum_le h
 simp only [List.length_cons, List.length_nil] at h3
 omega
theorem leaves_short {l : List Rule} (hr : RightS l) : (leavesB l).length ≤ 1000000 ∧ ∀ s ∈ leavesB l, s.length ≤ 2000 := by
 have hsh := right_short hr
 have h40 := hr.1
 have hsub := compact_sublist (sortB ((l.flatMap Rule.ins).filter (leafB l)))
 have hlv := lvs_len (l := l) (fun r hq => by have := (hsh r hq).many; omega) l.length
 have he : lvs l l.length = (l.flatMap Rule.ins).filter (leafB l) := by unfold lvs; rw [List.take_length]
 rw [he] at hlv
 have h5 : l.length * 20000 ≤ 40 * 20000 := Nat.mul_le_mul_right _ h40
 refine ⟨?_, fun s hs => ?_⟩
 ·have := hsub.length_le
  rw [sortB_len] at this
  show (Lib.compact _).length ≤ _
  omega
 ·have hs := (List.mergeSort_perm _ _).mem_iff.1 (hsub.subset hs)
  obtain ⟨hs, _⟩ := List.mem_filter.1 hs
  obtain ⟨r, hq, hs⟩ := List.mem_flatMap.1 hs
  have := (hsh r hq).ins s hs
  omega
section
variable {w0 w w' w2 : World} {D D2 : Nat → Prop} {n pb : Nat} {y y' : YS} {P : Nat → Addr} {R : Act1}
theorem ScAt.stale (h : ScAt w0 w D n pb y) (hV : PVS w0 P) : Calls Tryz.prog 40 #[PTR (n + 6)] w (RetOuts (sortB (staleL y.l y.x.T y.x.O)) w) := by
 obtain ⟨sv, lv, hy⟩ := h.at_
 exact yardStale_any P hy h.ok.of h.ok.ft (hV.two.sub (by decide))
theorem ScAt.paths (h : ScAt w0 w D n pb y) : Calls Tryz.prog 41 #[PTR (n + 3)] w fun e w' => ∃ v, e = .returned v ∧ Rd S w' v (y.x.T.map (·.1)) ∧ Ext w w' := by
 obtain ⟨sv, lv, hy⟩ := h.at_
 refine (paths_any w (n + 3) (n + 2) y.x.T hy.tree h.ok.ft.fits.rising (fun q hq => by have := h.ok.ft.lens q hq; omega) (by have := h.ok.ft.fits.few; omega)).mono ?_
 rintro e w' ⟨v, h1, h2, h3, _⟩
 exact ⟨v, h1, h2, h3⟩
theorem ScAt.leaves (h : ScAt w0 w D n pb y) {v : Value} (hv : RdR w v y.l) (hV : PVS w0 P) : Calls Tryz.prog 200 #[v] w (fun e w' => ∃ v, e = .returned (.tuple #[v, .nilIface]) ∧ Rd S w' v (leavesB y.l) ∧ Ext w w') := by
 obtain ⟨hr, _⟩ := orderFault_ok h.ok.of
 have hsh := right_short hr
 have h0 := sheet_ok.2 hr
 refine (graphLeaves_any w P y.l v hv h.ok.small (fun r hq => by have := (hsh r hq).many; omega) ((hV.ext h.ext).sub (by decide))).mono ?_
 rintro e w' ⟨v, ev, rfl, h1, h2, h3⟩
 obtain rfl := h2.zero h0
 have : leavesOut y.l = leavesB y.l := by unfold leavesOut; rw [if_neg (by simpa using h0)]
 rw [this] at h1
 exact ⟨v, rfl, h1.rd, h3⟩
theorem stale_len {y : YS} (h : YSok y) : (sortB (staleL y.l y.x.T y.x.O)).length ≤ 100000 ∧ ∀ s ∈ sortB (staleL y.l y.x.T y.x.O), s.length ≤ 2000 := by
 obtain ⟨hr, _⟩ := orderFault_ok h.of
 have h40 := hr.1
 refine ⟨?_, fun s hs => ?_⟩
 ·rw [sortB_len]
  unfold staleL
  have := List.length_filter_le (staleP y.l y.x.T y.x.O) (y.l.map Rule.out)
  rw [List.length_map] at this
  omega
 ·have hs := (List.mergeSort_perm _ _).mem_iff.1 hs
  obtain ⟨hs, _⟩ := List.mem_filter.1 hs
  obtain ⟨r, hq, rfl⟩ := List.mem_map.1 hs
  have := (right_short hr r hq).out
  omega
theorem ScAt.lt (h : ScAt w0 w D n pb y) : ∀ i, D i → i < w.heap.size := fun i hi => by
 obtain ⟨sv, lv, hy⟩ := h.at_
 exact hy.lt i hi
theorem paths_len {y : YS} (h : YSok y) : (y.x.T.map (·.1)).length ≤ 1000000 ∧ ∀ s ∈ y.x.T.map (·.1), s.length ≤ 2000 := by
 refine ⟨by rw [List.length_map]; have := h.ft.fits.few; omega, fun s hs => ?_⟩
 obtain ⟨q, hq, rfl⟩ := List.mem_map.1 hs
 have := h.ft.lens q hq
 omega
set_option maxRecDepth 100000 in
set_option maxHeartbeats 16000000 in
theorem playerPlay_any (h : ScAt w0 w D n pb y) (s : B) (hs : s.length ≤ 999) (hV : PVS w0 P) : Calls Tryz.prog 149 #[PTR pb, S s] w (RetPl P w0 w D n pb (playS y s)) := by
 have HH := Lib.hid (fun W (hW : Ext w W) => h.grow hW)
 have HV0 := Lib.hid hV
 have HV := Lib.hid (fun W (hW : Ext w W) => hV.ext (h.ext.then hW))
 have HOK := Lib.hid h.ok
 have c0 := h.cell
 have HC0 := Lib.hid (fun W (hW : Ext w W) => (h.grow hW).cell)
 obtain ⟨R, hR⟩ : ∃ R, R = playS y s := ⟨_, rfl⟩
 rw [← hR]
 unfold playS at hR
 have HTOLD : Hid (∀ W tx v, Ext w W → R = (y, tx, 0) → v = .tuple #[S tx, .nilIface] → RetPl P w0 w D n pb R (.returned v) W) := Lib.hid (fun W tx v hW hRE hv => ⟨tx, .nilIface, -1, congrArg _ hv, by rw [hRE]; exact ErrAt.nil _ _ _, fun _ => by rw [hRE], by rw [hRE]; exact ScTo.same (h.grow hW) hW⟩)
 have HHW := Lib.hid h
 clear h hV
 by_cases h1 : s = [99, 108, 101, 97, 114]
 ·have HRE : Hid (R = (⟨y.x, []⟩, okB, 0)) := Lib.hid (by rw [hR, if_pos h1])
  have HRU := Lib.hid (HHW.out.rules (RdR.nil w) (fun r hr => by cases hr) HV0.out)
  subst h1
  clear hR
  go_enter Tryz.func149, Tryz.ntmps149
  go_wp2_with fail
  refine HRU.out.mono ?_
  rintro e w2 ⟨ev, rfl, he, hto⟩
  rw [show rulesY y.l [] = [] from if_pos (by rw [orderFault_nil])] at hto
  rw [orderFault_nil] at he
  obtain rfl := he.zero rfl
  have HTO := Lib.hid hto
  clear he hto
  go_wp2_with fail
  go_ret2
  exact ⟨okB, _, -1, rfl, by rw [HRE.out]; exact ErrAt.nil _ _ _, fun _ => by rw [HRE.out], by rw [HRE.out]; exact HTO.out⟩
 have b1 : (s == [99, 108, 101, 97, 114]) = false := beq_eq_false_iff_ne.2 h1
 rw [if_neg h1] at hR
 by_cases h2 : s = [115, 116, 97, 108, 101]
 ·have HRE : Hid (R = (y, joinedP (sortB (staleL y.l y.x.T y.x.O)), 0)) := Lib.hid (by rw [hR, if_pos h2])
  have HST := Lib.hid (HHW.out.stale HV0.out)
  obtain ⟨hl1, hl2⟩ := stale_len HOK.out
  generalize sortB (staleL y.l y.x.T y.x.O) = L at HRE HST hl1 hl2
  have HJN := Lib.hid (fun W v (hv : Rd S W v L) => joined_any W v L hv (by omega) (joined_fits hl2 (by omega)))
  subst h2
  clear hR h1 hl1 hl2
  go_enter Tryz.func149, Tryz.ntmps149
  go_wp2_with fail
  refine HST.out.mono ?_
  rintro e w2 ⟨v2, rfl, hr2, ho2⟩
  have HJ2 := Lib.hid (HJN.out w2 v2 hr2.rd)
  have HX2 := Lib.hid ho2
  clear hr2 ho2
  go_wp2_with fail
  refine HJ2.out.mono ?_
  rintro e w3 ⟨rfl, ho3⟩
  have HX3 := Lib.hid (HX2.out.then ho3)
  clear ho3
  go_wp2_with fail
  go_ret2
  exact HTOLD.out _ _ _ HX3.out HRE.out rfl
 have b2 : (s == [115, 116, 97, 108, 101]) = false := beq_eq_false_iff_ne.2 h2
 rw [if_neg h2] at hR
 by_cases h3 : s = [111, 114, 100, 101, 114]
 ·have HRE : Hid (R = (y, joinedP (outsO y.l (orderOut y.l)), 0)) := Lib.hid (by rw [hR, if_pos h3]; rfl)
  have HOR := Lib.hid (playerOrder_any HHW.out HV0.out)
  rw [← HRE.out] at HOR
  subst h3
  clear hR h1 h2
  go_enter Tryz.func149, Tryz.ntmps149
  go_wp2_with fail
  refine HOR.out.mono ?_
  rintro e w2 ⟨sv, ev, at_, rfl, he, hsv, hto⟩
  have HE := Lib.hid he
  have HSV := Lib.hid hsv
  have HTO := Lib.hid hto
  clear he hsv hto
  go_wp2_with fail
  go_ret2
  exact ⟨sv, ev, at_, rfl, HE.out, HSV.out, HTO.out⟩
 have b3 : (s == [111, 114, 100, 101, 114]) = false := beq_eq_false_iff_ne.2 h3
 rw [if_neg h3] at hR
 by_cases h4 : s = [108, 101, 97, 118, 101, 115]
 ·have HRE : Hid (R = (y, joinedP (leavesB y.l), 0)) := Lib.hid (by rw [hR, if_pos h4])
  have HSH := Lib.hid HHW.out.sheet
  have HLV := Lib.hid (fun W v (hW : Ext w W) (hv : RdR W v y.l) => (HH.out W hW).leaves hv HV0.out)
  obtain ⟨hl1, hl2⟩ := leaves_short (orderFault_ok HOK.out.of).1
  generalize leavesB y.l = L at HRE HLV hl1 hl2
  have HJN := Lib.hid (fun W v (hv : Rd S W v L) => joined_any W v L hv (by omega) (joined_fits hl2 (by omega)))
  subst h4
  clear hR h1 h2 h3 hl1 hl2
  go_enter Tryz.func149, Tryz.ntmps149
  go_wp2_with fail
  refine HSH.out.mono ?_
  rintro e w2 ⟨v2, rfl, hr2, ho2⟩
  have HL2 := Lib.hid (HLV.out w2 v2 ho2 hr2.rd)
  have HX2 := Lib.hid ho2
  clear hr2 ho2
  go_wp2_with fail
  refine HL2.out.mono ?_
  rintro e w3 ⟨v3, rfl, hr3, ho3⟩
  have HJ3 := Lib.hid (HJN.out w3 v3 hr3)
  have HX3 := Lib.hid (HX2.out.then ho3)
  clear hr3 ho3
  go_wp2_with fail
  refine HJ3.out.mono ?_
  rintro e w4 ⟨rfl, ho4⟩
  have HX4 := Lib.hid (HX3.out.then ho4)
  clear ho4
  go_wp2_with fail
  go_ret2
  exact HTOLD.out _ _ _ HX4.out HRE.out rfl
 have b4 : (s == [108, 101, 97, 118, 101, 115]) = false := beq_eq_false_iff_ne.2 h4
 rw [if_neg h4] at hR
 by_cases h5 : s = [102, 105, 108, 101, 115]
 ·have HRE : Hid (R = (y, joinedP (y.x.T.map (·.1)), 0)) := Lib.hid (by rw [hR, if_pos h5])
  have HTR := Lib.hid HHW.out.tree
  have HPA := Lib.hid HHW.out.paths
  obtain ⟨hl1, hl2⟩ := paths_len HOK.out
  generalize y.x.T.map (·.1) = L at HRE HPA hl1 hl2
  have HJN := Lib.hid (fun W v (hv : Rd S W v L) => joined_any W v L hv (by omega) (joined_fits hl2 (by omega)))
  subst h5
  clear hR h1 h2 h3 h4 hl1 hl2
  go_enter Tryz.func149, Tryz.ntmps149
  go_wp2_with fail
  refine HTR.out.mono ?_
  rintro e w1 ⟨rfl, rfl⟩
  go_wp2_with fail
  refine HPA.out.mono ?_
  rintro e w2 ⟨v2, rfl, hr2, ho2⟩
  have HJ2 := Lib.hid (HJN.out w2 v2 hr2)
  have HX2 := Lib.hid ho2
  clear hr2 ho2
  go_wp2_with fail
  refine HJ2.out.mono ?_
  rintro e w3 ⟨rfl, ho3⟩
  have HX3 := Lib.hid (HX2.out.then ho3)
  clear ho3
  go_wp2_with fail
  go_ret2
  exact HTOLD.out _ _ _ HX3.out HRE.out rfl
 have b5 : (s == [102, 105, 108, 101, 115]) = false := beq_eq_false_iff_ne.2 h5
 rw [if_neg h5] at hR
 by_cases h6 : s = [109, 97, 107, 101]
 ·have HRE : Hid (R = makeS y []) := Lib.hid (by rw [hR, if_pos h6])
  have HMK := Lib.hid (playerMake_any HHW.out (.slice none 0 0) [] (Rd.nil _ _) (by decide) HV0.out)
  rw [← HRE.out] at HMK
  subst h6
  clear hR h1 h2 h3 h4 h5
  go_enter Tryz.func149, Tryz.ntmps149
  go_wp2_with fail
  refine HMK.out.mono ?_
  rintro e w2 ⟨sv, ev, at_, rfl, he, hsv, hto⟩
  have HE := Lib.hid he
  have HSV := Lib.hid hsv
  have HTO := Lib.hid hto
  clear he hsv hto
  go_wp2_with fail
  go_ret2
  exact ⟨sv, ev, at_, rfl, HE.out, HSV.out, HTO.out⟩
 have b6 : (s == [109, 97, 107, 101]) = false := beq_eq_false_iff_ne.2 h6
 rw [if_neg h6] at hR
 clear h1 h2 h3 h4 h5 h6
 have HCU := Lib.hid (cutD_any w 32 s (by omega) (HV.out w (Only.refl _ _)).max)
 have hln := cut1_len 32 s
 generalize cut1 32 s = q at HCU hR hln
 obtain ⟨word, rest, is⟩ := q
 have hrl : rest.length ≤ 999 := Nat.le_trans hln.2 hs
 have HRL := Lib.hid hrl
 have HR : Hid (R = if is = false then (y, [], 1) else if word = [112, 117, 116] then putS y rest else if word = [114, 117, 108, 101] then ruleS y rest else aboutS y word (cutc 32 rest)) := Lib.hid hR
 clear hln hs hrl hR
 cases is
 ·have HRE : Hid (R = (y, [], 1)) := Lib.hid (by rw [HR.out, if_pos rfl])
  have HE0 := Lib.hid (fun W (hW : Ext w W) => (HV.out W hW).errs.var 0 _ (by decide) rfl)
  go_enter Tryz.func149, Tryz.ntmps149
  go_wp2_with fail
  refine HCU.out.mono ?_
  rintro e w1 ⟨rfl, ho⟩
  have HX := Lib.hid ho
  have hE := HE0.out _ ho
  clear ho
  go_wp2_with fail
  go_quiet (fail)
  go_wp2_with fail
  go_ret2
  exact ⟨[], _, -1, rfl, by rw [HRE.out]; exact .inr (.inl ⟨Nat.succ_ne_zero _, rfl, rfl⟩), (fun h => by rw [HRE.out] at h; cases h), by rw [HRE.out]; exact ScTo.same (HH.out _ (HX.out.thenDrewN _)) (HX.out.thenDrewN _)⟩
 rw [if_neg (by decide)] at HR
 by_cases h7 : word = [112, 117, 116]
 ·have HRE : Hid (R = putS y rest) := Lib.hid (by rw [HR.out, if_pos h7])
  have HPU := Lib.hid (fun W (hW : Ext w W) => playerPut_any (HH.out W hW) rest (by have := HRL.out; omega) HV0.out)
  rw [← HRE.out] at HPU
  subst h7
  clear HR
  go_enter Tryz.func149, Tryz.ntmps149
  go_wp2_with fail
  refine HCU.out.mono ?_
  rintro e w1 ⟨rfl, ho⟩
  have HX := Lib.hid ho
  clear ho
  go_wp2_with fail
  refine (HPU.out _ HX.out).mono ?_
  rintro e w2 ⟨sv, ev, at_, rfl, he, hsv, hto⟩
  have HE := Lib.hid he
  have HSV := Lib.hid hsv
  have HTO := Lib.hid (hto.from HX.out)
  clear he hsv hto
  go_wp2_with fail
  go_ret2
  exact ⟨sv, ev, at_, rfl, HE.out, HSV.out, HTO.out⟩
 have b7 : (word == [112, 117, 116]) = false := beq_eq_false_iff_ne.2 h7
 rw [if_neg h7] at HR
 by_cases h8 : word = [114, 117, 108, 101]
 ·have HRE : Hid (R = ruleS y rest) := Lib.hid (by rw [HR.out, if_pos h8])
  have HPU := Lib.hid (fun W (hW : Ext w W) => playerRule_any (HH.out W hW) rest (by have := HRL.out; omega) HV0.out)
  rw [← HRE.out] at HPU
  subst h8
  clear HR h7
  go_enter Tryz.func149, Tryz.ntmps149
  go_wp2_with fail
  refine HCU.out.mono ?_
  rintro e w1 ⟨rfl, ho⟩
  have HX := Lib.hid ho
  clear ho
  go_wp2_with fail
  refine (HPU.out _ HX.out).mono ?_
  rintro e w2 ⟨sv, ev, at_, rfl, he, hsv, hto⟩
  have HE := Lib.hid he
  have HSV := Lib.hid hsv
  have HTO := Lib.hid (hto.from HX.out)
  clear he hsv hto
  go_wp2_with fail
  go_ret2
  exact ⟨sv, ev, at_, rfl, HE.out, HSV.out, HTO.out⟩
 have b8 : (word == [114, 117, 108, 101]) = false := beq_eq_false_iff_ne.2 h8
 rw [if_neg h8] at HR
 have HSP := Lib.hid (fun W (hW : Ext w W) => splitC_any W 32 rest (by have := HRL.out; omega) (HV.out W hW).max)
 have HCL : Hid ((cutc 32 rest).length ≤ 1000 ∧ ∀ s ∈ cutc 32 rest, s.length ≤ 999) := Lib.hid ⟨by have := cutc_len_le 32 rest; have := HRL.out; omega, fun s hs => Nat.le_trans (cutc_part 32 rest s hs) HRL.out⟩
 generalize cutc 32 rest = ps at HSP HCL HR
 clear h7 h8
 go_enter Tryz.func149, Tryz.ntmps149
 go_wp2_with fail
 refine HCU.out.mono ?_
 rintro e w1 ⟨rfl, ho⟩
 have HX := Lib.hid ho
 clear ho
 go_wp2_with fail
 refine (HSP.out _ HX.out).mono ?_
 rintro e w2 ⟨rfl, hw2⟩
 have hX2 : Ext w1 w2 := by rw [hw2]; exact Only.alloc _ _ _
 have hrd := row_new (w := w1) (W := w1) (Nat.le_refl _) ps (by have := HCL.out.1; unfold maxLen; omega)
 rw [← hw2] at hrd
 have HAB := Lib.hid (playerAbout_any (HH.out _ (HX.out.then hX2)) word _ ps (Row.rd hrd) HCL.out.1 (fun s hs => by have := HCL.out.2 s hs; omega) (fun i e k => by
  have e : w1.heap.size = i := Option.some.inj e
  have := (HH.out _ HX.out).lt i k
  omega) HV0.out)
 have HX2 := Lib.hid (HX.out.then hX2)
 rw [← HR.out] at HAB
 clear hw2 hX2 hrd HR
 go_wp2_with fail
 refine HAB.out.mono ?_
 rintro e w3 ⟨sv, ev, at_, rfl, he, hsv, hto⟩
 have HE := Lib.hid he
 have HSV := Lib.hid hsv
 have HTO := Lib.hid (hto.from HX2.out)
 clear he hsv hto
 go_wp2_with fail
 go_ret2
 exact ⟨sv, ev, at_, rfl, HE.out, HSV.out, HTO.out⟩
end
end Go.Proofs.YtnmhaipjfpongacGreatDoor

namespace Go.Proofs.YtnmhaipjfpongacGreatDoor
open Go.ChangeShapes Go.WideShapes Go.ChangeAt Go.RowKit

def ErrTexts (w : World) (P : Nat → Addr) : Prop := ∀ i, i < 12 → w.cell? (P i) = some (S (errB (i + 1)))
theorem ErrTexts.ext {w w' : World} {P : Nat → Addr} (h : ErrTexts w P) (ho : Ext w w') : ErrTexts w' P := fun i hi => ho.cellOf (h i hi) (fun h => h)
set_option maxRecDepth 100000 in
set_option maxHeartbeats 4000000 in
theorem bare_any (w : World) (P : Nat → Addr) (hs : Sents w P) (ev : Value) (f : Nat × Int) (he : ErrAt w P f ev) (h0 : f.1 ≠ 0) : Calls Tryz.prog 150 #[ev] w (RetE (errV (P (f.1 - 1))) w) := by
 rcases he with ⟨e0, _⟩ | ⟨_, _, rfl⟩ | ⟨_, _, b, rfl, hb⟩
 ·exact absurd e0 h0
 ·have HS := Lib.hid hs
  clear hs h0
  generalize P (f.1 - 1) = a
  go_enter Tryz.func150, Tryz.ntmps150
  go_wp2_with fail
  refine (as_miss a ⟨w.heap.size, 0, none⟩ _ ((Only.alloc (fun _ => False) w _).cellOf HS.out.typ (fun h => h))).mono ?_
  rintro e w2 ⟨rfl, ho⟩
  have HX2 : Hid (Ext w w2) := Lib.hid ((Only.alloc (fun _ => False) w _).ext ho)
  clear ho
  go_wp2_with fail
  go_ret
  exact ⟨rfl, HX2.out⟩
 ·have HS := Lib.hid hs
  have HA1 := Lib.hid ((cell_of_heap hb 1).trans (rfl : _ = some (errV (P (f.1 - 1)))))
  clear hs h0 hb
  generalize P (f.1 - 1) = a at HA1 ⊢
  go_enter Tryz.func150, Tryz.ntmps150
  go_wp2_with fail
  refine (as_hit ⟨b, 0, none⟩ ⟨w.heap.size, 0, none⟩ (.pointer none) _ ((Only.alloc (fun _ => False) w _).cellOf HS.out.typ (fun h => h)) (by simp) (by simp)).mono ?_
  rintro e w2 ⟨rfl, hw2⟩
  have hb2 : w2.cell? ⟨w.heap.size, 0, none⟩ = some (.pointer (some ⟨b, 0, none⟩)) := by
   rw [hw2]
   refine cell_set_same _ _ _ (Only.cellOf (p := fun _ => False) ?_ ((cell_of_heap (MapKept.heap_alloc w (.cells #[.pointer none] 226)).1 0).trans rfl) (fun h => h)) rfl
   repeat' (first | with_reducible exact Only.refl _ _ | apply Only.thenAlloc)
  have h2 : Ext w w2 := by
   rw [hw2]
   refine Only.thenSet ?_ _ (.inr (Nat.le_refl _))
   repeat' (first | with_reducible exact Only.refl _ _ | apply Only.thenAlloc)
  clear hw2
  have c1 := h2.cellOf HA1.out (fun h => h)
  have HX2 := Lib.hid h2
  clear h2
  go_wp2_with fail
  go_ret
  exact ⟨rfl, HX2.out⟩
set_option maxRecDepth 100000 in
set_option maxHeartbeats 2000000 in
theorem errorText_any (w : World) (a : Addr) (s : B) (ha : w.cell? a = some (S s)) : Calls Tryz.prog 395 #[.pointer (some a)] w (RetS (S s) w) := by
 obtain ⟨b, o, sp⟩ := a
 cases sp with
 | some k =>
  exfalso
  unfold World.cell? at ha
  cases hh : w.heap[b]? with
  | none => rw [hh] at ha; cases ha
  | some ob =>
   rw [hh] at ha
   cases ob <;> simp at ha
 | none =>
  go_enter Tryz.func395, Tryz.ntmps395
  go_wp2_with fail
  go_ret
  exact ⟨rfl, rfl⟩
theorem wpTextP {P : Program} (hP : P = Tryz.prog) {ops : Array Oper} {rest : List Oper} {o : Oper} {a : Act} {Q : Exit → Act → World → Prop} (s x : Operand) (base : Nat) (v : Value) (l : List B) (k : B) (W : World) (hgd : o.guard = none)
  (ho : o.op = .call { callee := .builtin .append, args := #[s, x], argTypes := #[53, 53] }) (hs : a.eval s = v) (hx : a.eval x = .slice (some ⟨W.heap.size, 0, none⟩) 1 1)
  (hrow : Row base W v l) (hl : l.length ≤ 1000000) (hbase : base ≤ W.heap.size)
  (hK : ∀ g cap w', Hid (Row base w' (.slice (some ⟨g, 0, none⟩) (l.length + 1) cap) (l ++ [k])) → Hid (W.grownBy w' v.ownBlock) → Hid (∀ i, Value.ownBlock (.slice (some ⟨g, 0, none⟩) (l.length + 1) cap) = some i → v.ownBlock = some i ∨ W.heap.size ≤ i) →
   wpList P ops Q rest (a.put o.dst (.slice (some ⟨g, 0, none⟩) (l.length + 1) cap)) w') :
  wpList P ops Q (o :: rest) a (W.alloc (.cells #[S k] 9 (0, 0))) := by
 subst hP
 refine wpList_appS (fun s => [S s]) 53 9 1 16 _ infoStr Tryz.underlying53 rfl (by decide) (fun _ => rfl) (fun _ u hu => by cases List.mem_singleton.1 hu; rfl) (by decide) s x base v l k W _ rfl hgd ho hs hx (by rw [flat_one]; exact hrow) hl hbase ?_
 intro g cap w' h1 h2 h3
 rw [flat_one] at h1
 refine hK g cap w' (Lib.hid ?_) (Lib.hid h2) (Lib.hid h3)
 show World.ownsRow _ _ _ _ _ (l ++ [k]).length _
 rw [List.length_append]
 exact h1
theorem method_Error (a : Value) (w : World) : (Go.method 529 390 a "Error").run Tryz.prog w = .ok (395, a) w := by kernel_rfl
def RetRun (ss : List B) (w : World) (e : Ending) (w' : World) : Prop := ∃ v, e = .returned (.tuple #[v, .nilIface]) ∧ Row w.heap.size w' v ss ∧ Ext w w'
structure ScGo (w0 : World) (n pb bs : Nat) (y : YS) (cs : List B) (qv : Value) (wr : World) : Prop where
 at_ : ∃ D, ScAt w0 wr D n pb y ∧ (∀ i, D i → w0.heap.size ≤ i) ∧ ∀ i, qv.ownBlock = some i → ¬ D i ∧ i ≠ pb
 row : Row bs wr qv cs
 pge : w0.heap.size ≤ pb
section
variable {w0 w w' wr : World} {D : Nat → Prop} {n pb bs : Nat} {y y' : YS} {cs : List B} {qv qv' : Value} {P : Nat → Addr} {R : Act1}
theorem ScGo.ext (h : ScGo w0 n pb bs y cs qv wr) : Ext w0 wr := by
 obtain ⟨D, h1, _⟩ := h.at_
 exact h1.ext
theorem ScGo.grow (h : ScGo w0 n pb bs y cs qv wr) (ho : Ext wr w') : ScGo w0 n pb bs y cs qv w' := by
 obtain ⟨D, h1, h2, h3⟩ := h.at_
 exact ⟨⟨D, h1.grow ho, h2, h3⟩, ho.row h.row (fun _ _ h => h), h.pge⟩
theorem ScAt.other {q : Nat → Prop} (h : ScAt w0 w D n pb y) (ho : Only q w w') (hq : ∀ i, q i → w0.heap.size ≤ i ∧ ¬ D i ∧ i ≠ pb) : ScAt w0 w' D n pb y := by
 obtain ⟨sv, lv, hy⟩ := h.at_
 exact ⟨⟨sv, lv, hy.other ho (fun i e => ⟨(hq i e).1, (hq i e).2.1⟩)⟩, h.ok, ho.heapOf h.p (fun e => (hq pb e).2.2 rfl), h.pd⟩
theorem ScGo.push {c : B} (h : ScGo w0 n pb bs y cs qv wr) (hb : w0.heap.size ≤ bs) (hr : Row bs w' qv' (cs ++ [c])) (hg : wr.grownBy w' qv.ownBlock) (hn : ∀ i, qv'.ownBlock = some i → qv.ownBlock = some i ∨ wr.heap.size ≤ i) : ScGo w0 n pb bs y (cs ++ [c]) qv' w' := by
 obtain ⟨D, h1, h2, h3⟩ := h.at_
 have ho : Only (fun i => qv.ownBlock = some i) wr w' := Only.of_grown hg
 refine ⟨⟨D, h1.other ho (fun i e => ⟨by have := (h.row.lt i e).1; omega, h3 i e⟩), h2, fun i e => ?_⟩, hr, h.pge⟩
 rcases hn i e with k | k
 ·exact h3 i k
 ·refine ⟨fun e2 => ?_, fun e2 => ?_⟩
  ·have := h1.lt i e2; omega
  ·have := lt_of_heap h1.p; omega
def RetGo (P : Nat → Addr) (w0 : World) (n pb bs : Nat) (R : Act1) (cs : List B) (qv : Value) (e : Ending) (w' : World) : Prop :=
 ∃ sv ev at_, e = .returned (.tuple #[S sv, ev]) ∧ ErrAt w' P (R.2.2, at_) ev ∧ (R.2.2 = 0 → sv = R.2.1) ∧ ScGo w0 n pb bs R.1 cs qv w'
theorem ScGo.play (h : ScGo w0 n pb bs y cs qv wr) (s : B) (hs : s.length ≤ 999) (hV : PVS w0 P) : Calls Tryz.prog 149 #[PTR pb, S s] wr (RetGo P w0 n pb bs (playS y s) cs qv) := by
 obtain ⟨D, h1, h2, h3⟩ := h.at_
 refine (playerPlay_any h1 s hs hV).mono ?_
 rintro e w' ⟨sv, ev, at_, rfl, he, hsv, D2, k1, k2⟩
 refine ⟨sv, ev, at_, rfl, he, hsv, ⟨D2, k1, fun i e => (k2.2 i e).elim (h2 i) (fun e => by have := h1.ext.size; omega), fun i e => ⟨fun e2 => ?_, (h3 i e).2⟩⟩, k2.1.row h.row (fun i e e2 => (h3 i e).1 e2), h.pge⟩
 rcases k2.2 i e2 with k | k
 ·exact (h3 i e).1 k
 ·have := (h.row.lt i e).2; omega
set_option maxRecDepth 100000 in
set_option maxHeartbeats 16000000 in
theorem scriptRun_any (w : World) (P : Nat → Addr) (v : Value) (ss : List B) (hv : Rd S w v ss) (hn : ss.length ≤ 100) (hl : ∀ s ∈ ss, s.length ≤ 999) (hV : PVS w P) (hS : Sents w P) (hT : ErrTexts w P) : Calls Tryz.prog 86 #[v] w (RetRun (runS ⟨⟨[], [], []⟩, []⟩ ss).2 w) := by
 have HRD := Lib.hid hv
 have HV := Lib.hid hV
 have HS := Lib.hid hS
 have HT := Lib.hid hT
 have HL := Lib.hid hl
 have HYN := Lib.hid (yardNew_any 8 w P (hV.errs.sub (by decide)))
 obtain ⟨av, cv, rfl, _, _, _⟩ := hv
 have hnz : (ss.length : Int) ≤ 100 := by omega
 have HN := Lib.hid hn
 clear hV hS hT hl hn
 go_enter Tryz.func86, Tryz.ntmps86
 go_wp2_with fail
 refine HYN.out.mono ?_
 rintro e w1 (⟨h, _⟩ | ⟨k, hk, rfl, hy, hs⟩)
 ·omega
 obtain rfl : k = 8 := by omega
 have hx1 := hy.ext
 have hA := Only.alloc (fun _ => False) w1 (.cells #[PTR (w.heap.size + 6)] 217 (0, 0))
 have hm := (MapKept.heap_alloc w1 (.cells #[PTR (w.heap.size + 6)] 217 (0, 0))).1
 have HGO : Hid (ScGo w w.heap.size w1.heap.size w.heap.size ⟨⟨[], [], []⟩, []⟩ [] (.slice none 0 0) (w1.alloc (.cells #[PTR (w.heap.size + 6)] 217 (0, 0)))) := Lib.hid ⟨⟨_, ⟨⟨_, _, hy.grow hA⟩, YSok.start, hm, fun e => by have := hy.lt _ e; omega⟩, fun i e => hy.ge i e, fun i e => by cases e⟩, Row.nil _ _, hx1.size⟩
 obtain ⟨n, hn⟩ : ∃ n, n = w.heap.size := ⟨_, rfl⟩
 obtain ⟨pb, hpb⟩ : ∃ pb, pb = w1.heap.size := ⟨_, rfl⟩
 obtain ⟨bs, hbs⟩ : ∃ bs, bs = w.heap.size := ⟨_, rfl⟩
 have HGO : Hid (ScGo w n pb bs ⟨⟨[], [], []⟩, []⟩ [] (.slice none 0 0) (w1.alloc (.cells #[PTR (n + 6)] 217 (0, 0)))) := by rw [hn, hpb, hbs]; exact HGO
 rw [← hn]
 have HPB := Lib.hid hpb.symm
 have HBS : Hid (w.heap.size ≤ bs ∧ bs ≤ w.heap.size) := Lib.hid ⟨by omega, by omega⟩
 clear hk hy hs hx1 hA hm hn hpb hbs HYN
 go_wp2_with fail
 rw [HPB.out]
 go_loopw [7, 9, 10, 11, 28] (fun q _ _ _ i wr => ∃ (j : Nat) (qv : Value), qv = q ∧ j ≤ ss.length ∧ i = .int .i64 j ∧ Hid (ScGo w n pb bs (runS ⟨⟨[], [], []⟩, []⟩ (ss.take j)).1 (runS ⟨⟨[], [], []⟩, []⟩ (ss.take j)).2 qv wr)) (fun _ _ _ _ i _ => ss.length - (intOf i).toNat)
 case atStart => exact ⟨0, _, rfl, Nat.zero_le _, rfl, HGO⟩
 case round =>
  clear HGO
  obtain ⟨j, qv, rfl, hj, rfl, HG⟩ := hrel
  have hj0 : (0 : Int) ≤ (j : Int) := by omega
  by_cases hlt : j < ss.length
  case pos =>
   have hltz : (j : Int) < (ss.length : Int) := by omega
   obtain ⟨_, _, ee, _, _, hc0⟩ := HRD.out.ext HG.out.ext
   cases ee
   obtain ⟨b, off, rfl, hc⟩ := hc0 (by intro h; rw [h] at hlt; simp at hlt)
   obtain ⟨s, hsj⟩ : ∃ s, ss[j]? = some s := ⟨_, List.getElem?_eq_getElem hlt⟩
   have d0 := hc j s hsj
   have HST := Lib.hid (runS_step (y := ⟨⟨[], [], []⟩, []⟩) hsj)
   have HLC : Hid ((runS ⟨⟨[], [], []⟩, []⟩ (ss.take j)).2.length ≤ 1000000) := Lib.hid (by rw [runS_len, List.length_take]; omega)
   have HPL := Lib.hid (HG.out.play s (HL.out s (List.mem_of_getElem? hsj)) HV.out)
   have HCD := Lib.hid (play_code (YSok.run YSok.start (ss.take j)) s)
   have HJ := Lib.hid hlt
   clear hc hc0 hsj hj hlt
   generalize runS ⟨⟨[], [], []⟩, []⟩ (ss.take j) = XX at HG HST HLC HPL HCD
   obtain ⟨y, cs⟩ := XX
   have HST : Hid (runS ⟨⟨[], [], []⟩, []⟩ (ss.take (j + 1)) = ((playS y s).1, cs ++ [tellP (playS y s)])) := HST
   have HPL : Hid (Calls Tryz.prog 149 #[PTR pb, S s] wr (RetGo P w n pb bs (playS y s) cs qv)) := HPL
   have HCD : Hid ((playS y s).2.2 ≤ 12) := HCD
   have HLC : Hid (cs.length ≤ 1000000) := HLC
   generalize playS y s = R at HST HPL HCD
   go_wp2_with fail
   refine HPL.out.mono ?_
   rintro e w3 ⟨sv, ev, at_, rfl, he, hsv, hgo⟩
   have HG3 := Lib.hid hgo
   by_cases hz : R.2.2 = 0
   case pos =>
    obtain rfl := he.zero hz
    have HTL : Hid (runS ⟨⟨[], [], []⟩, []⟩ (ss.take (j + 1)) = (R.1, cs ++ [sv])) := Lib.hid (by rw [HST.out]; unfold tellP; rw [if_pos hz, hsv hz])
    clear he hsv hgo hz d0
    go_wp2_with (at_builtin; refine wpTextP rfl (.tmp 43) (.tmp 45) bs qv cs sv w3 rfl rfl rfl rfl HG3.out.row HLC.out (Nat.le_trans HBS.out.2 HG3.out.ext.size) ?_; intro g6 cap6 w6 HR6 HG6 HN6)
    go_roundw
    case rel => exact ⟨j + 1, _, rfl, HJ.out, by go_num, by rw [HTL.out]; exact Lib.hid (HG3.out.push HBS.out.1 HR6.out HG6.out HN6.out)⟩
    case measure => have := HJ.out; simp [intOf]; omega
   case neg =>
    obtain ⟨t1, q1, rfl⟩ := he.some hz
    have hx3 := hgo.ext
    have HBA := Lib.hid (bare_any w3 P (HS.out.ext hx3) _ _ he hz)
    have HTL : Hid (runS ⟨⟨[], [], []⟩, []⟩ (ss.take (j + 1)) = (R.1, cs ++ [errB R.2.2])) := Lib.hid (by rw [HST.out]; unfold tellP; rw [if_neg hz])
    have ht := (HT.out.ext hx3) (R.2.2 - 1) (by have := HCD.out; omega)
    rw [show R.2.2 - 1 + 1 = R.2.2 by omega] at ht
    have HTX := Lib.hid ht
    have mE := method_Error
    clear he hsv hgo hz d0 ht hx3
    have HBA : Hid (Calls Tryz.prog 150 #[.iface t1 q1] w3 (RetE (errV (P (R.2.2 - 1))) w3)) := HBA
    generalize P (R.2.2 - 1) = a at HBA HTX
    generalize errB R.2.2 = eb at HTX HTL
    go_wp2_with fail
    refine HBA.out.mono ?_
    rintro e w4 ⟨rfl, ho4⟩
    have HG4 := Lib.hid (HG3.out.grow ho4)
    have HER := Lib.hid (errorText_any w4 a eb (ho4.cellOf HTX.out (fun h => h)))
    clear ho4
    go_wp2_with fail
    refine HER.out.mono ?_
    rintro e w5 ⟨rfl, rfl⟩
    clear mE
    go_wp2_with (at_builtin; refine wpTextP rfl (.tmp 43) (.tmp 45) bs qv cs eb _ rfl rfl rfl rfl HG4.out.row HLC.out (Nat.le_trans HBS.out.2 HG4.out.ext.size) ?_; intro g6 cap6 w6 HR6 HG6 HN6)
    go_roundw
    case rel => exact ⟨j + 1, _, rfl, HJ.out, by go_num, by rw [HTL.out]; exact Lib.hid (HG4.out.push HBS.out.1 HR6.out HG6.out HN6.out)⟩
    case measure => have := HJ.out; simp [intOf]; omega
  case neg =>
   have hltz : ¬ (j : Int) < (ss.length : Int) := by omega
   rw [List.take_of_length_le (by omega)] at HG
   clear hlt hj
   go_wp2_with fail
   go_ret2
   exact ⟨_, rfl, World.ownsRow.mono HG.out.row HBS.out.1, HG.out.ext⟩
end
end Go.Proofs.YtnmhaipjfpongacGreatDoor

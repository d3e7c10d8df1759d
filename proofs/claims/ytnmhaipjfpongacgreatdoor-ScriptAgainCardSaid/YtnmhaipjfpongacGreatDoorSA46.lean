/- Texts of this seat laid together for one claim: Sc9. No condition of its own: what each proves stands with its theorems. -/
import Derived.Test.YtnmhaipjfpongacGreatDoorSA23
import Derived.Test.YtnmhaipjfpongacGreatDoorSA45
namespace Go.Proofs.YtnmhaipjfpongacGreatDoor
open Go.ChangeShapes Go.WideShapes Go.ChangeAt Go.RowKit

theorem want_len {y : YS} (h : YSok y) (p : B) : (wantRes y.l y.x.T p).1.length ≤ 2000 := by
 unfold wantRes
 split
 ·simp
 split
 ·simp
 split
 ·simp
 ·exact (wantF_ok h.ft.bytes _ p).len
theorem about_bad {y : YS} {word : B} {ps : List B} (h : ps.all pathOk = false) : aboutS y word ps = (y, [], 1) := by unfold aboutS; rw [if_pos h]
theorem about_make {y : YS} {ps : List B} (h : ps.all pathOk = true) : aboutS y [109, 97, 107, 101] ps = makeS y ps := by unfold aboutS; rw [if_neg (by rw [h]; decide), if_pos rfl]
theorem about_many {y : YS} {word : B} {ps : List B} (h : ps.all pathOk = true) (hw : word ≠ [109, 97, 107, 101]) (h1 : ps.length ≠ 1) : aboutS y word ps = (y, [], 1) := by
 unfold aboutS
 rw [if_neg (by rw [h]; decide), if_neg hw]
 match ps, h1 with
 | [], _ => rfl
 | [_], h1 => exact absurd rfl h1
 | _ :: _ :: _, _ => rfl
theorem about_one {y : YS} {word p : B} (h : [p].all pathOk = true) (hw : word ≠ [109, 97, 107, 101]) : aboutS y word [p] = if word = [100, 114, 111, 112] then dropS y p else if word = [115, 104, 111, 119] then showS y p else if word = [119, 97, 110, 116] then wantS y p else (y, [], 1) := by
 unfold aboutS
 rw [if_neg (by rw [h]; decide), if_neg hw]
section
variable {w0 w w' w2 : World} {D D2 : Nat → Prop} {n pb : Nat} {y y' : YS} {P : Nat → Addr} {R : Act1}
theorem ScAt.remove (h : ScAt w0 w D n pb y) (p : B) (hV : PVS w0 P) : Calls Tryz.prog 37 #[PTR (n + 3), S p] w (fun e w' => ∃ ev at_, e = .returned ev ∧ ErrAt w' P ((dropS y p).2.2, at_) ev ∧ ScTo w0 w D n pb (dropS y p).1 w') := by
 obtain ⟨sv, lv, hy⟩ := h.at_
 have hd2 := hy.own (n + 2) (by omega) (by omega)
 refine (hy.remove P ((hV.ext hy.ext).errs.sub (by decide)) p).mono ?_
 rintro e w' ⟨rfl, h1, h2⟩
 exact ⟨_, -1, rfl, ErrAt.errC _ _ _, ScAt.to (y' := (dropS y p).1) h h1 ⟨h2.mono (fun i _ e => by rw [e]; exact hd2), fun _ h => .inl h⟩ ⟨h.ok.of, h.ok.ft.remove p, h.ok.fo⟩⟩
theorem ScAt.want (h : ScAt w0 w D n pb y) {v : Value} (hv : RdR w v y.l) (p : B) (hV : PVS w0 P) : Calls Tryz.prog 18 #[PTR (n + 3), v, S p] w (RetWant P (wantRes y.l y.x.T p) w) := by
 obtain ⟨sv, lv, hy⟩ := h.at_
 have hsh := right_short (orderFault_ok h.ok.of).1
 exact wantOf_any w P (n + 3) (n + 2) y.x.T v y.l p hy.tree h.ok.ft.bytes hv h.ok.small (fun r hr => ⟨(hsh r hr).many, by have := (hsh r hr).word; omega⟩) ((hV.ext hy.ext).sub (by decide))
theorem ScAt.tree (h : ScAt w0 w D n pb y) : Calls Tryz.prog 36 #[PTR (n + 6)] w (RetSt (PTR (n + 3)) w) := by
 obtain ⟨sv, lv, hy⟩ := h.at_
 exact yardTree_any hy
set_option linter.unusedSimpArgs false in
set_option maxRecDepth 100000 in
set_option maxHeartbeats 16000000 in
theorem playerAbout_any (h : ScAt w0 w D n pb y) (word : B) (v : Value) (ps : List B) (hv : Rd S w v ps) (hn : ps.length ≤ 1000) (hl : ∀ s ∈ ps, s.length ≤ 100000) (hb : ∀ i, v.ownBlock = some i → ¬ D i) (hV : PVS w0 P) : Calls Tryz.prog 206 #[PTR pb, S word, v] w (RetPl P w0 w D n pb (aboutS y word ps)) := by
 have HH := Lib.hid (fun W (hW : Ext w W) => h.grow hW)
 have HV0 := Lib.hid hV
 have HV := Lib.hid (fun W (hW : Ext w W) => hV.ext (h.ext.then hW))
 have HOK := Lib.hid h.ok
 have HL := Lib.hid hl
 have HRD := Lib.hid (fun W (hW : Ext w W) => hv.ext hW)
 have HN := Lib.hid hn
 obtain ⟨av, cv, rfl, _, _, _⟩ := hv
 have HB0 := Lib.hid hb
 obtain ⟨R, hR⟩ : ∃ R, R = aboutS y word ps := ⟨_, rfl⟩
 rw [← hR]
 have HR := Lib.hid hR
 have hnz : (ps.length : Int) ≤ 1000 := by omega
 have HBAD : Hid (∀ W, Ext w W → R = (y, [], 1) → RetPl P w0 w D n pb R (.returned (.tuple #[S [], errV (P 0)])) W) := Lib.hid (fun W hW hRE => ⟨[], _, -1, rfl, by rw [hRE]; exact .inr (.inl ⟨Nat.succ_ne_zero _, rfl, rfl⟩), (fun h => by rw [hRE] at h; cases h), by rw [hRE]; exact ScTo.same (HH.out W hW) hW⟩)
 clear h hV hl hR hn hb
 go_enter Tryz.func206, Tryz.ntmps206
 go_wp2_with fail
 go_loopw [9, 14] (fun _ i wr => ∃ (j : Nat), j ≤ ps.length ∧ i = .int .i64 j ∧ Hid ((ps.take j).all pathOk = true) ∧ Hid (Ext w wr)) (fun _ i _ => ps.length - (intOf i).toNat)
 case atStart => exact ⟨0, Nat.zero_le _, rfl, Lib.hid (by rw [List.take_zero]; rfl), Lib.hid (Only.refl _ _)⟩
 case round =>
  obtain ⟨j, hj, rfl, HP, HX⟩ := hrel
  have hj0 : (0 : Int) ≤ (j : Int) := by omega
  by_cases hlt : j < ps.length
  case pos =>
   have hltz : (j : Int) < (ps.length : Int) := by omega
   obtain ⟨_, _, ee, _, _, hc0⟩ := HRD.out _ HX.out
   cases ee
   obtain ⟨b, off, rfl, hc⟩ := hc0 (by intro h; rw [h] at hlt; simp at hlt)
   obtain ⟨s, hs⟩ : ∃ s, ps[j]? = some s := ⟨_, List.getElem?_eq_getElem hlt⟩
   have d0 := hc j s hs
   have HSL : Hid (s.length ≤ 100000) := Lib.hid (HL.out s (List.mem_of_getElem? hs))
   have HCK := Lib.hid (pathC_any wr P s (by have := HSL.out; omega) (HV.out _ HX.out).max ((HV.out _ HX.out).errs.sub (by decide)))
   have HSM := Lib.hid (List.mem_of_getElem? hs)
   have HTK : Hid ((ps.take (j + 1)).all pathOk = ((ps.take j).all pathOk && pathOk s)) := Lib.hid (by rw [List.take_add_one, hs]; simp)
   have HJ := Lib.hid hlt
   clear hc hc0 hs hj hlt
   by_cases hk : pathOk s = false
   case pos =>
    have HRE : Hid (R = (y, [], 1)) := Lib.hid (by
     rw [HR.out]
     refine about_bad ?_
     rw [Bool.eq_false_iff]
     intro ha
     have := List.all_eq_true.1 ha s HSM.out
     rw [hk] at this
     cases this)
    have HE0 := Lib.hid (fun W (hW : Ext w W) => (HV.out W hW).errs.var 0 _ (by decide) rfl)
    rw [if_pos hk] at HCK
    have HCK : Hid (Calls Tryz.prog 112 #[S s] wr (RetE (errV (P 3)) wr)) := HCK
    clear hk
    go_wp2_with fail
    refine HCK.out.mono ?_
    rintro e w2 ⟨rfl, ho⟩
    have HX2 := Lib.hid (HX.out.then ho)
    have hE := HE0.out _ HX2.out
    clear ho d0
    go_wp2_with fail
    go_quiet (fail)
    go_wp2_with fail
    go_ret2
    exact HBAD.out _ (HX2.out.thenDrewN _) HRE.out
   case neg =>
    rw [if_neg hk] at HCK
    have HCK : Hid (Calls Tryz.prog 112 #[S s] wr (RetE .nilIface wr)) := HCK
    have HPN : Hid ((ps.take (j + 1)).all pathOk = true) := Lib.hid (by rw [HTK.out, HP.out]; simpa using hk)
    clear hk
    go_wp2_with fail
    refine HCK.out.mono ?_
    rintro e w2 ⟨rfl, ho⟩
    have HX2 := Lib.hid (HX.out.then ho)
    clear ho d0
    go_wp2_with fail
    go_roundw
    case rel => exact ⟨j + 1, HJ.out, by go_num, HPN, HX2⟩
    case measure => have := HJ.out; simp [intOf]; omega
  case neg =>
   have hltz : ¬ (j : Int) < (ps.length : Int) := by omega
   rw [List.take_of_length_le (by omega)] at HP
   have HE0 := Lib.hid (fun W (hW : Ext w W) => (HV.out W hW).errs.var 0 _ (by decide) rfl)
   have HC0 := Lib.hid (fun W (hW : Ext w W) => (HH.out W hW).cell)
   clear hlt hj
   by_cases hmk : word = [109, 97, 107, 101]
   case pos =>
    have HRE : Hid (R = makeS y ps) := Lib.hid (by rw [HR.out, hmk, about_make HP.out])
    have HMK := Lib.hid (playerMake_any (HH.out _ HX.out) _ ps (HRD.out _ HX.out) HN.out HV0.out)
    rw [← HRE.out] at HMK
    subst hmk
    clear HR HBAD
    go_wp2_with fail
    refine HMK.out.mono ?_
    rintro e w2 ⟨sv, ev, at_, rfl, he, hsv, hto⟩
    have HE := Lib.hid he
    have HSV := Lib.hid hsv
    have HTO := Lib.hid (hto.from HX.out)
    clear he hsv hto
    go_wp2_with fail
    go_ret2
    exact ⟨sv, ev, at_, rfl, HE.out, HSV.out, HTO.out⟩
   case neg =>
    have hmb : (word == [109, 97, 107, 101]) = false := beq_eq_false_iff_ne.2 hmk
    have HMK := Lib.hid hmk
    by_cases h1 : ps.length = 1
    case neg =>
     have hl1 : ((ps.length : Int) == 1) = false := beq_eq_false_iff_ne.2 (by omega)
     have hE := HE0.out _ HX.out
     have HRE : Hid (R = (y, [], 1)) := Lib.hid (by rw [HR.out, about_many HP.out hmk h1])
     clear h1 hmk
     go_wp2_with fail
     go_quiet (fail)
     go_wp2_with fail
     go_ret2
     exact HBAD.out _ (HX.out.thenDrewN _) HRE.out
    case pos =>
     obtain ⟨p, rfl⟩ : ∃ p, ps = [p] := List.length_eq_one_iff.1 h1
     have HR1 : Hid (R = if word = [100, 114, 111, 112] then dropS y p else if word = [115, 104, 111, 119] then showS y p else if word = [119, 97, 110, 116] then wantS y p else (y, [], 1)) := Lib.hid (by rw [HR.out, about_one HP.out hmk])
     obtain ⟨_, _, ee, _, _, hc0⟩ := HRD.out _ (Only.refl _ _)
     cases ee
     obtain ⟨b, off, rfl, hc⟩ := hc0 (by simp)
     have HD0 := Lib.hid (fun W (hW : Ext w W) => hW.cellOf (hc 0 p rfl) (fun h => h))
     have HS2 : Hid (∀ W, Ext w W → W.cell? ⟨pb, 0, none⟩ = some (PTR (n + 6)) ∧ W.cell? ⟨b, off + 0, none⟩ = some (S p)) := Lib.hid (fun W hW => ⟨HC0.out W hW, HD0.out W hW⟩)
     have hj1 : ¬ (j : Int) < 1 := by simpa using hltz
     clear hltz hnz
     simp only [List.length_cons, List.length_nil, Nat.zero_add, Nat.add_zero] at *
     clear hc hc0 h1 hmk
     by_cases hdr : word = [100, 114, 111, 112]
     case pos =>
      have HRE : Hid (R = dropS y p) := Lib.hid (by rw [HR1.out, if_pos hdr])
      subst hdr
      have HTR := Lib.hid (fun W (hW : Ext w W) => (HH.out W hW).tree)
      have HRM := Lib.hid (fun W (hW : Ext w W) => (HH.out W hW).remove p HV0.out)
      have HS2D := Lib.hid (HS2.out _ HX.out.thenDrew)
      have HRE1 : Hid (R.1 = (dropS y p).1 ∧ R.2.2 = (dropS y p).2.2 ∧ R.2.1 = okB) := Lib.hid (by rw [HRE.out]; exact ⟨rfl, rfl, rfl⟩)
      have HDM : Hid (∀ W3 D3, Moved D wr.drew W3 D3 → W3.cell? ⟨b, off, none⟩ = some (S p)) := Lib.hid (fun W3 D3 hm => hm.1.cellOf (HD0.out _ HX.out.thenDrew) (HB0.out b rfl))
      generalize (dropS y p) = dd at HRM HRE1
      clear HR HR1 HBAD HRE
      go_wp2_with fail
      refine wp_region_held_drew (S := fun W => W.cell? ⟨pb, 0, none⟩ = some (PTR (n + 6)) ∧ W.cell? ⟨b, off, none⟩ = some (S p)) (by kernel_rfl) HS2D.out (fun hHeld => ?_)
      refine takeN 0 ?_
      refine takeN 1 ?_
      refine takeN 2 ?_
      refine takeN 3 ?_
      refine takeN 5 ?_
      refine takeN 6 ?_
      refine takeN 7 ?_
      refine wpAnyH_ready (rs := [4]) (by kernel_rfl) (by simp) ?_
      refine AllReadyH.cons (o := _) rfl (fun K hK => ?_) AllReadyH.nil
      go_simp
      go_at_call 36
      refine (HTR.out _ HX.out.thenDrew).mono ?_
      rintro e w2 ⟨rfl, rfl⟩
      refine hK.out _ _ (HS2D.out) (fun hHeld => ?_)
      clear hK K
      try simp only [Act.put, List.setIfInBounds_toArray, List.set_cons_zero, List.set_cons_succ]
      refine wpAnyH_ready (rs := [8]) (by kernel_rfl) (by simp) ?_
      refine AllReadyH.cons rfl (fun K hK => ?_) AllReadyH.nil
      go_simp
      go_at_call 37
      refine (HRM.out _ HX.out.thenDrew).mono ?_
      rintro e w3 ⟨ev, at_, rfl, he3, hto3⟩
      have HE3 := Lib.hid he3
      have HTO3 := Lib.hid hto3
      refine hK.out _ _ ?_ (fun hHeld => ?_)
      ·obtain ⟨D3, h3, hm3⟩ := hto3
       exact ⟨h3.cell, HDM.out _ _ hm3⟩
      clear hK K he3 hto3
      try simp only [Act.put, List.setIfInBounds_toArray, List.set_cons_zero, List.set_cons_succ]
      refine takeN 9 ?_
      refine takeN 10 ?_
      refine wpAnyH_done (by kernel_rfl) ?_ _
      go_wp2_with fail
      go_ret2
      exact ⟨okB, _, at_, rfl, by rw [HRE1.out.2.1]; exact HE3.out, fun _ => HRE1.out.2.2.symm, by rw [HRE1.out.1]; exact HTO3.out.from HX.out.thenDrew⟩
     case neg =>
      have hdb : (word == [100, 114, 111, 112]) = false := beq_eq_false_iff_ne.2 hdr
      rw [if_neg hdr] at HR1
      clear hdr
      by_cases hsh : word = [115, 104, 111, 119]
      case pos =>
       have HRE : Hid (R = showS y p) := Lib.hid (by rw [HR1.out, if_pos hsh])
       subst hsh
       have HSW := Lib.hid (playerShow_any (HH.out _ HX.out) p HV0.out)
       rw [← HRE.out] at HSW
       have d0 := HD0.out _ HX.out
       clear HR HR1 HBAD HRE
       go_wp2_with fail
       refine HSW.out.mono ?_
       rintro e w2 ⟨sv, ev, at_, rfl, he, hsv, hto⟩
       have HE := Lib.hid he
       have HSV := Lib.hid hsv
       have HTO := Lib.hid (hto.from HX.out)
       clear he hsv hto d0
       go_wp2_with fail
       go_ret2
       exact ⟨sv, ev, at_, rfl, HE.out, HSV.out, HTO.out⟩
      case neg =>
       have hsb : (word == [115, 104, 111, 119]) = false := beq_eq_false_iff_ne.2 hsh
       rw [if_neg hsh] at HR1
       clear hsh
       by_cases hwt : word = [119, 97, 110, 116]
       case pos =>
        have HRE : Hid (R = (y, shownP (wantRes y.l y.x.T p).1, (wantRes y.l y.x.T p).2.1)) := Lib.hid (by rw [HR1.out, if_pos hwt]; rfl)
        subst hwt
        have HTR := Lib.hid (fun W (hW : Ext w W) => (HH.out W hW).tree)
        have HSE := Lib.hid (fun W (hW : Ext w W) => (HH.out W hW).sheet)
        have HWN := Lib.hid (fun W v (hW : Ext w W) (hr : RdR W v y.l) => (HH.out W hW).want hr p HV0.out)
        have HWL := Lib.hid (want_len HOK.out p)
        have HS2D := Lib.hid (HS2.out _ HX.out.thenDrew)
        obtain ⟨ww, hww⟩ : ∃ ww, ww = wantRes y.l y.x.T p := ⟨_, rfl⟩
        rw [← hww] at HRE HWN HWL
        obtain ⟨wt, wf⟩ := ww
        clear HR HR1 HBAD hww
        go_wp2_with fail
        refine wp_region_held_drew (S := fun W => W.cell? ⟨pb, 0, none⟩ = some (PTR (n + 6)) ∧ W.cell? ⟨b, off, none⟩ = some (S p)) (by kernel_rfl) HS2D.out (fun hHeld => ?_)
        refine takeN 0 ?_
        refine takeN 1 ?_
        refine takeN 2 ?_
        refine takeN 3 ?_
        refine takeN 5 ?_
        refine takeN 6 ?_
        refine takeN 7 ?_
        refine takeN 8 ?_
        refine takeN 10 ?_
        refine takeN 11 ?_
        refine takeN 12 ?_
        refine wpAnyH_ready (rs := [4]) (by kernel_rfl) (by simp) ?_
        refine AllReadyH.cons (o := _) rfl (fun K hK => ?_) AllReadyH.nil
        go_simp
        go_at_call 36
        refine (HTR.out _ HX.out.thenDrew).mono ?_
        rintro e w2 ⟨rfl, rfl⟩
        refine hK.out _ _ (HS2D.out) (fun hHeld => ?_)
        clear hK K
        try simp only [Act.put, List.setIfInBounds_toArray, List.set_cons_zero, List.set_cons_succ]
        refine wpAnyH_ready (rs := [9]) (by kernel_rfl) (by simp) ?_
        refine AllReadyH.cons (o := _) rfl (fun K hK => ?_) AllReadyH.nil
        go_simp
        go_at_call 201
        refine (HSE.out _ HX.out.thenDrew).mono ?_
        rintro e w3 ⟨v3, rfl, hr3, ho3⟩
        have HR3 := Lib.hid hr3.rd
        have HX3 := Lib.hid (HX.out.thenDrew.then ho3)
        refine hK.out _ _ (HS2.out _ HX3.out) (fun hHeld => ?_)
        clear hK K
        try simp only [Act.put, List.setIfInBounds_toArray, List.set_cons_zero, List.set_cons_succ]
        clear hr3 ho3
        refine wpAnyH_ready (rs := [13]) (by kernel_rfl) (by simp) ?_
        refine AllReadyH.cons (o := _) rfl (fun K hK => ?_) AllReadyH.nil
        go_simp
        go_at_call 18
        refine (HWN.out _ _ HX3.out HR3.out).mono ?_
        rintro e w4 ⟨ev, rfl, he4, ho4⟩
        have HE4 := Lib.hid he4
        have HX4 := Lib.hid (HX3.out.then ho4)
        refine hK.out _ _ (HS2.out _ HX4.out) (fun hHeld => ?_)
        clear hK K
        try simp only [Act.put, List.setIfInBounds_toArray, List.set_cons_zero, List.set_cons_succ]
        clear he4 ho4
        refine takeN 14 ?_
        refine takeN 15 ?_
        refine takeN 16 ?_
        refine takeN 17 ?_
        refine takeN 18 ?_
        refine wpAnyH_done (by kernel_rfl) ?_ _
        have HSN := Lib.hid (shown_any w4 wt (by have := HWL.out; omega) (HV.out _ HX4.out).max)
        go_wp2_with fail
        refine HSN.out.mono ?_
        rintro e w5 ⟨rfl, ho5⟩
        have HX5 := Lib.hid (HX4.out.then ho5)
        have HE5 := Lib.hid (HE4.out.ext ho5)
        clear ho5
        go_wp2_with fail
        go_ret2
        exact ⟨_, _, wf.2, rfl, by rw [HRE.out]; exact HE5.out, fun _ => by rw [HRE.out], by rw [HRE.out]; exact ScTo.same (HH.out _ HX5.out) HX5.out⟩
       case neg =>
        have hwb : (word == [119, 97, 110, 116]) = false := beq_eq_false_iff_ne.2 hwt
        have HRE : Hid (R = (y, [], 1)) := Lib.hid (by rw [HR1.out, if_neg hwt])
        have hE := HE0.out _ HX.out
        clear hwt HR HR1
        go_wp2_with fail
        go_quiet (fail)
        go_wp2_with fail
        go_ret2
        exact HBAD.out _ (HX.out.thenDrewN _) HRE.out
end
end Go.Proofs.YtnmhaipjfpongacGreatDoor

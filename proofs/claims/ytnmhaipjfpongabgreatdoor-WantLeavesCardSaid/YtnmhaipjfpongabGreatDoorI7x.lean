/- WantLeaves' walk. No condition but how rules and files lie, and what the variables hold. -/
import Derived.Test.YtnmhaipjfpongabGreatDoorI6x
import Derived.Deep.RegionLaw
namespace Go.Proofs.YtnmhaipjfpongabGreatDoor
open Go.ChangeShapes Go.WideShapes Go.ChangeAt Go.RowKit

/-! ### what a map's step leaves -/
theorem cell_not_map {w : World} {b o mb : Nat} {v : Value} {d : TypeDesc} {l : List (Value × Value)} (h : w.cell? ⟨b, o, none⟩ = some v) (hm : MapAt d w mb l) : b ≠ mb := by
  rintro rfl
  obtain ⟨es, c, h1, _⟩ := hm
  simp [World.cell?, h1] at h
theorem Rd.mapStep {α : Type} {enc : α → Value} {w w' : World} {v : Value} {l : List α} (h : Rd enc w v l) {mb : Nat} {d : TypeDesc} {L : List (Value × Value)} (hm : MapAt d w mb L) (ho : Only (fun i => i = mb) w w') : Rd enc w' v l := by
  obtain ⟨a, cap, h1, h2, h3, h4⟩ := h
  refine ⟨a, cap, h1, h2, h3, fun hl => ?_⟩
  obtain ⟨b, off, h5, h6⟩ := h4 hl
  exact ⟨b, off, h5, fun i x hx => ho.cellOf (h6 i x hx) (cell_not_map (h6 i x hx) hm)⟩
theorem RdR.mapStep {w w' : World} {v : Value} {l : List Rule} (h : RdR w v l) {mb : Nat} {d : TypeDesc} {L : List (Value × Value)} (hm : MapAt d w mb L) (ho : Only (fun i => i = mb) w w') : RdR w' v l := by
  obtain ⟨a, cap, h1, h2, h3, h4⟩ := h
  refine ⟨a, cap, h1, h2, h3, fun hl => ?_⟩
  obtain ⟨b, off, h5, h6⟩ := h4 hl
  refine ⟨b, off, h5, fun i r hr => ?_⟩
  obtain ⟨u, c, c0, c1, c2, c3⟩ := h6 i r hr
  exact ⟨u, c.mapStep hm ho, ho.cellOf c0 (cell_not_map c0 hm), ho.cellOf c1 (cell_not_map c1 hm), ho.cellOf c2 (cell_not_map c2 hm), ho.cellOf c3 (cell_not_map c3 hm)⟩

theorem lookup_perm {L M : FL} (hn : (L.map (·.1)).Nodup) (hp : L.Perm M) (q : B) : L.lookup q = M.lookup q := by
  have hn2 : (M.map (·.1)).Nodup := (hp.map _).nodup_iff.1 hn
  cases h : L.lookup q with
  | some x => exact (lookup_of_mem hn2 (hp.mem_iff.1 (mem_of_lookup h))).symm
  | none =>
    cases h2 : M.lookup q with
    | none => rfl
    | some x => rw [lookup_of_mem hn (hp.mem_iff.2 (mem_of_lookup h2))] at h; cases h
theorem lookup_filterF {k s : B} : ∀ (L : FL), s ≠ k → (L.filter fun p => !(p.1 == k)).lookup s = L.lookup s
  | [], _ => rfl
  | (a, x) :: L, h => by
    by_cases ha : a = k
    · subst ha
      have hs : (s == a) = false := beq_eq_false_iff_ne.2 h
      rw [List.filter_cons_of_neg (by simp), lookup_filterF L h, List.lookup, hs]
    · rw [List.filter_cons_of_pos (by simpa using ha)]
      simp only [List.lookup]
      rw [lookup_filterF L h]
theorem lookup_putT {L : FL} (hr : Rising L) {p x q : B} (hq : q ≠ p) : (putT L p x).lookup q = L.lookup q := by
  by_cases h : putCode L p x = 0
  · have e : putT L p x = setT L p x := if_pos h
    have hn := (hr.put p x).nodup
    rw [e] at hn ⊢
    rw [lookup_perm hn (set_perm hr p x).symm q, List.lookup]
    have : (q == p) = false := beq_eq_false_iff_ne.2 hq
    rw [this]
    exact lookup_filterF L hq
  · have e : putT L p x = L := if_neg h
    rw [e]

/-- The second tree, as more files come. -/
structure UAt (wB wr : World) (b mb : Nat) (T U : FL) (lv : List B) : Prop where
  only : Only (fun i => i = mb) wB wr
  tree : TreeAt wr b mb U
  ft : FTree U
  same : ∀ p ∈ lv, U.lookup p = T.lookup p
theorem UAt.grow {wB wr w' : World} {b mb : Nat} {T U : FL} {lv : List B} (h : UAt wB wr b mb T U lv) (ho : Ext wr w') : UAt wB w' b mb T U lv := ⟨h.only.ext ho, h.tree.ext ho, h.ft, h.same⟩
theorem UAt.put {wB wr : World} {P : Nat → Addr} {b mb : Nat} {T U : FL} {lv : List B} (h : UAt wB wr b mb T U lv) (hs : Errs wr P [1, 3, 6, 7]) (hm : HasMax wr) (p x : B) (hp : p.length ≤ 1000) (hl : p ∉ lv) :
    Calls Tryz.prog 52 #[.pointer (some ⟨b, 0, none⟩), S p, S x] wr fun r w' => r = .returned (errC P (putCode U p x)) ∧ UAt wB w' b mb T (putT U p x) lv :=
  (treePut_any wr P b mb U p x h.tree h.ft.fits hs hm (by omega) (fun q hq => by have := h.ft.lens q hq; omega)).mono fun _ _ ⟨h1, h2, h3⟩ =>
    ⟨h1, h.only.then h3, h2, h.ft.put p x hp, fun q hq => by
      have hne : q ≠ p := fun e => hl (by rw [← e]; exact hq)
      rw [lookup_putT h.ft.fits.rising hne]; exact h.same q hq⟩

theorem wantRes_bad {l : List Rule} {T : FL} {out : B} (hT : ∀ p s, T.lookup p = some s → s.length ≤ 2000) (h : (wantRes l T out).2.1 ≠ 0) : (wantRes l T out).1 = [] := by
  unfold wantRes at h ⊢
  by_cases h0 : (sheetFault l).1 ≠ 0
  · rw [if_pos h0]
  · rw [if_neg h0] at h ⊢
    by_cases h1 : madeB l out = false
    · rw [if_pos h1]
    · rw [if_neg h1] at h ⊢
      cases h2 : partB l (needL l [out]) with
      | none => rfl
      | some o =>
        rw [h2] at h
        exact (wantF_ok hT _ out).zero h

set_option maxRecDepth 100000 in
set_option maxHeartbeats 16000000 in
theorem walkWantLeaves (w : World) (P : Nat → Addr) (fs ms : FL) (v0 v1 v2 : Value) (l : List Rule) (out : B) (hv0 : RdS 2 encF w v0 fs) (hv1 : RdS 2 encF w v1 ms) (hv2 : RdR w v2 l) (hV : PV w P [1, 2, 3, 4, 5, 6, 7, 8, 9]) :
    Calls Tryz.prog 9 #[v0, v1, v2, S out] w (RetE (.bool true) w) := by
  have H0 := Lib.hid hv0
  have H1 := Lib.hid hv1
  have H2 := Lib.hid hv2
  have HVV := Lib.hid hV
  have HWA := Lib.hid (wanted_any w P hV)
  obtain ⟨a0, p0, rfl, _, _, _⟩ := hv0
  obtain ⟨a1, p1, rfl, _, hm1, hc1⟩ := hv1
  obtain ⟨a2, p2, rfl, _, _, hc2⟩ := hv2
  have HC1 := Lib.hid hc1
  have HC2 := Lib.hid hc2
  clear hV hc1 hc2 hm1
  go_enter Tryz.func9, Tryz.ntmps9
  go_wp2_with fail
  refine (HWA.out).mono ?_
  rintro e w1 ⟨rfl, ho⟩
  have HX1 := Lib.hid ho
  clear ho
  go_wp2_with fail
  refine (longFiles2_any w1 _ fs (RdS.ext H0.out HX1.out)).mono ?_
  rintro e w2 ⟨r, rfl, hz, rfl⟩
  have HZ0 := Lib.hid hz
  clear hz
  cases r with
  | true =>
    go_wp2_with fail
    go_ret
    exact ⟨rfl, HX1.out⟩
  | false =>
    go_wp2_with fail
    refine (longFiles2_any w1 _ ms (RdS.ext H1.out HX1.out)).mono ?_
    rintro e w2 ⟨r, rfl, hz, rfl⟩
    have HZ1 := Lib.hid hz
    clear hz
    cases r with
    | true =>
      go_wp2_with fail
      go_ret
      exact ⟨rfl, HX1.out⟩
    | false =>
      go_wp2_with fail
      refine (longRules_any w1 _ l 12 (H2.out.ext HX1.out)).mono ?_
      rintro e w2 ⟨⟨r, rfl, hr, hz⟩, rfl⟩
      have HZ2 := Lib.hid hz
      clear hz
      rcases hr with rfl | rfl
      case inr =>
        go_wp2_with fail
        go_ret
        exact ⟨rfl, HX1.out⟩
      case inl =>
        have HSH := Lib.hid (HZ2.out rfl).2
        have HSM : Hid (∀ r ∈ l, RuleSm 900000 r) := Lib.hid (fun r hr => (HSH.out r hr).sm)
        have h41 : l.length ≤ 41 := by rcases (HZ2.out rfl).1 with h | h <;> omega
        have hlz : (l.length : Int) ≤ 41 := by omega
        have HIL : Hid (∀ r ∈ l, r.ins.length ≤ 1000000) := Lib.hid (fun r hr => by have := (HSH.out r hr).many; omega)
        have HIW : Hid (∀ r ∈ l, r.ins.length ≤ 12 ∧ r.word.length ≤ 1000) := Lib.hid (fun r hr => ⟨(HSH.out r hr).many, by have := (HSH.out r hr).word; omega⟩)
        have hf30 := (HZ0.out (by simp)).1
        have hm30 := (HZ1.out (by simp)).1
        have HFP := Lib.hid (HZ0.out (by simp)).2
        have HMP := Lib.hid (HZ1.out (by simp)).2
        clear HZ2 HSH HZ0 HZ1
        by_cases hlo : (100 : Int) < (out.length : Int)
        · go_wp2_with fail
          go_ret
          exact ⟨rfl, HX1.out⟩
        go_wp2_with fail
        refine (fileTree2_any w1 P _ fs (RdS.ext H0.out HX1.out) (by omega) HFP.out ((HVV.out.ext HX1.out).errs.sub (by decide)) (HVV.out.ext HX1.out).max).mono ?_
        rintro e w3 ⟨b1, mb1, m1, slv1, rfl, hT1⟩
        have HT1 := Lib.hid hT1
        have HX3 := Lib.hid (HX1.out.then hT1.ext)
        clear hT1
        go_wp2_with fail
        refine (fileTree2_any w3 P _ fs (RdS.ext H0.out HX3.out) (by omega) HFP.out ((HVV.out.ext HX3.out).errs.sub (by decide)) (HVV.out.ext HX3.out).max).mono ?_
        rintro e w4 ⟨b2, mb2, m2, slv2, rfl, hT2⟩
        have HT2 := Lib.hid hT2
        have HX4 := Lib.hid (HX3.out.then hT2.ext)
        have HFT : Hid (FTree (treeOfF fs)) := Lib.hid (by have := ftree_of HFP.out fs.length; rwa [List.take_length] at this)
        have HTR1 : Hid (TreeAt w4 b1 mb1 (treeOfF fs)) := Lib.hid (HT1.out.tree.ext hT2.ext)
        have HTR2 : Hid (TreeAt w4 b2 mb2 (treeOfF fs)) := Lib.hid hT2.tree
        have HNE : Hid (b1 ≠ mb2 ∧ mb1 ≠ mb2 ∧ w.heap.size ≤ mb2) := Lib.hid ⟨by have := lt_of_heap HT1.out.tree.cells; have := hT2.nmb; omega, by have := HT1.out.tree.map.lt; have := hT2.nmb; omega, by have := hT2.nmb; have := HX3.out.size; omega⟩
        clear hT2 HT1 HT2 HX3
        generalize treeOfF fs = T at HFT HTR1 HTR2
        go_wp2_with fail
        refine (ownRules_any w4 _ l (H2.out.ext HX4.out) (by omega) HIL.out).mono ?_
        rintro e w5 ⟨v5, rfl, hr5, ho5⟩
        have HX5 := Lib.hid (HX4.out.then ho5)
        have HTA := Lib.hid (HTR1.out.ext ho5)
        have HTB := Lib.hid (HTR2.out.ext ho5)
        have HND := Lib.hid (graphNeeds_any (w5.alloc (.cells #[S out] 9 (0, 0))) P l [out] v5 (.slice (some ⟨w5.heap.size, 0, none⟩) 1 1) (hr5.ext (Only.alloc _ _ _)) (lit_rd w5 out) (by simp) HSM.out ((HVV.out.ext (HX5.out.thenAlloc _)).sub (by decide)))
        obtain ⟨a5, p5, rfl, _, _, _⟩ := hr5
        clear ho5 HTR1 HTR2
        go_wp2_with fail
        refine HND.out.mono ?_
        rintro e w6 ⟨v6, ev, sm, rfl, hrow, he, ho, hcase⟩
        have HX6 := Lib.hid ((HX5.out.thenAlloc _).then ho)
        by_cases hn0 : (needFault l [out]).1 = 0
        case neg =>
          have hout : sm = [] := by
            rcases hcase with ⟨_, h⟩ | ⟨h, _⟩
            · exact h
            · exact absurd h hn0
          subst hout
          obtain ⟨t, p, rfl⟩ := he.some hn0
          obtain ⟨a6, p6, rfl, _, _, _⟩ := hrow.rd
          clear he ho hcase hn0 hrow
          go_wp2_with fail
          go_ret
          exact ⟨rfl, HX6.out⟩
        have hok : NeedOk l.length (needB l) (needKs l [out]) sm := by
          rcases hcase with ⟨h, _⟩ | ⟨_, h⟩
          · exact absurd hn0 h
          · exact h
        have hsm := needOk_eq hok
        have hsf : (sheetFault l).1 = 0 := by
          unfold needFault at hn0
          by_cases h : (sheetFault l).1 = 0
          · exact h
          · rw [if_pos h] at hn0; exact absurd hn0 h
        have hmd : madeB l out = true := by
          unfold needFault at hn0
          rw [if_neg (by rw [hsf]; simp)] at hn0
          unfold badOf at hn0
          cases hm : madeB l out with
          | true => rfl
          | false => simp [List.findIdx?_cons, hm] at hn0
        obtain rfl := he.zero hn0
        have HRS := Lib.hid (sheet_ok.1 hsf)
        have HMD := Lib.hid hmd
        have HTA6 := Lib.hid (HTA.out.ext ((Only.alloc (fun _ => False) w5 _).then ho))
        have HTB6 := Lib.hid (HTB.out.ext ((Only.alloc (fun _ => False) w5 _).then ho))
        have HCL : Hid (Clo l sm) := Lib.hid (hsm ▸ Clo.need l [out])
        have HSMQ := Lib.hid hsm
        have HR6 := Lib.hid hrow.rd
        obtain ⟨a6, p6, rfl, _, hml6, hc6⟩ := hrow.rd
        have HC6 := Lib.hid hc6
        have hsl : sm.length ≤ 41 := by
          have := nodup_len (b := List.range l.length) (clo_nodup HCL.out) fun x hx => List.mem_range.2 (HCL.out.lt x hx)
          rw [List.length_range] at this
          omega
        have hslz : (sm.length : Int) ≤ 41 := by omega
        clear he ho hcase hn0 hrow hok hsm hsf hmd hc6 hml6 HTA HTB
        go_wp2_with fail
        go_loopw [16, 17] (fun q i wr => ∃ (j : Nat) (ps : List (Rule × Option Addr × Nat × Nat)), j ≤ sm.length ∧ i = .int .i64 j ∧ Hid (ps.map Prod.fst = partR l (sm.take j)) ∧ Hid (PartAt w6 wr q ps)) (fun _ i _ => sm.length - (intOf i).toNat)
        case atStart => exact ⟨0, [], Nat.zero_le _, rfl, Lib.hid rfl, Lib.hid (PartAt.nil _)⟩
        case round =>
          obtain ⟨j, ps, hj, rfl, HPS, HPA⟩ := hrel
          by_cases hlt : j < sm.length
          · have hltz : (j : Int) < (sm.length : Int) := by omega
            have hj0 : (0 : Int) ≤ (j : Int) := by omega
            obtain ⟨b6, off6, rfl, hcell6⟩ := HC6.out (by intro h; rw [h] at hlt; simp at hlt)
            obtain ⟨x, hx⟩ : ∃ y, sm[j]? = some y := ⟨_, List.getElem?_eq_getElem hlt⟩
            have d := HPA.out.ext.cellOf (hcell6 j x hx) (fun h => h)
            have hxl := HCL.out.lt x (List.mem_of_getElem? hx)
            have hxz : (x : Int) < (l.length : Int) := by omega
            have hx0 : (0 : Int) ≤ (x : Int) := by omega
            have hx1 : ¬ (x : Int) < 0 := by omega
            have hx2 : ¬ (l.length : Int) ≤ (x : Int) := by omega
            have hr := ruleAt_eq hxl
            obtain ⟨b2', off2', rfl, hcell2⟩ := HC2.out (by intro h; rw [h] at hxl; simp at hxl)
            obtain ⟨u, hu, c0, c1, c2, c3⟩ := hcell2 x (ruleAt l x) hr
            have hxx := HX6.out.then HPA.out.ext
            have d0 := hxx.cellOf c0 (fun h => h)
            have d1 := hxx.cellOf c1 (fun h => h)
            have d2 := hxx.cellOf c2 (fun h => h)
            have d3 := hxx.cellOf c3 (fun h => h)
            have HPS2 : Hid (∀ u, (ps ++ [(ruleAt l x, u)]).map Prod.fst = partR l (sm.take (j + 1))) := Lib.hid (fun u => by
              rw [List.map_append, HPS.out, List.take_add_one, hx]
              unfold partR
              simp)
            have HPL : Hid (ps.length ≤ 1000000) := Lib.hid (by
              have := congrArg List.length HPS.out
              unfold partR at this
              rw [List.length_map, List.length_map, List.length_take] at this
              omega)
            have HU := Lib.hid (hu.ext HX6.out)
            obtain ⟨au, nu, cu, rfl⟩ : ∃ au nu cu, u = .slice au nu cu := by obtain ⟨au, cu, h, _⟩ := hu; exact ⟨au, _, cu, h⟩
            generalize ruleAt l x = r at *
            have HBZ : Hid (w6.heap.size ≤ wr.heap.size) := Lib.hid HPA.out.ext.size
            clear hcell6 hcell2 hx hxl hr hu c0 c1 c2 c3 hxx
            go_wp2_with (at_builtin; refine wpList_appS encR 23 62 4 72 _ infoRule Tryz.underlying23 rfl (by decide) encR_len encR_one (by decide) (.tmp 95) (.tmp 103) w6.heap.size _ ps (r, au, nu, cu) wr #[S r.out, S r.kind, S r.word, .slice au nu cu] rfl rfl rfl rfl rfl HPA.out.row HPL.out HBZ.out ?_; intro g5 cap5 w7 ho5 hg5 _; have HP5 := Lib.hid (HPA.out.push HU.out ho5 hg5); clear ho5 hg5)
            go_roundw
            case rel => exact ⟨j + 1, _, by omega, by go_num, Lib.hid (HPS2.out _), HP5⟩
            case measure => simp [intOf]; omega
          · have hltz : ¬ (j : Int) < (sm.length : Int) := by omega
            rw [List.take_of_length_le (by omega)] at HPS
            have hprd := HPA.out.rd HPS.out
            have HPR := Lib.hid hprd
            have hpr := part_right HCL.out HRS.out
            have HPRT := Lib.hid hpr
            have hpm : ∀ r ∈ partR l sm, r ∈ l := fun r hr => by
              unfold partR at hr
              obtain ⟨i, hi, rfl⟩ := List.mem_map.1 hr
              exact List.mem_of_getElem? (ruleAt_eq (HCL.out.lt i hi))
            have HPM := Lib.hid hpm
            have HWS := Lib.hid (fun (U : FL) (hU : FTree U) (h : ∀ p ∈ leavesB (partR l sm), U.lookup p = T.lookup p) => want_leaves (l := l) (T := T) (U := U) (out := out) HRS.out HMD.out HFT.out.bytes hU.bytes (by rw [← HSMQ.out]; exact h))
            rw [← HSMQ.out] at HWS
            obtain ⟨L2, hL2⟩ : ∃ L2, L2 = partR l sm := ⟨_, rfl⟩
            rw [← hL2] at HPR HPRT HPM HWS hprd
            have hl2 : L2.length ≤ 40 := HPRT.out.1
            have hl2z : (L2.length : Int) ≤ 40 := by omega
            have HXR := Lib.hid (HX6.out.then HPA.out.ext)
            have HTA7 := Lib.hid (HTA6.out.ext HPA.out.ext)
            have HTB7 := Lib.hid (HTB6.out.ext HPA.out.ext)
            obtain ⟨a7, p7, rfl, _, _, _⟩ := hprd
            clear hj hlt hpr hpm hL2 HPA HPS HTA6 HTB6
            go_wp2_with fail
            refine (ownRules_any wr _ L2 HPR.out (by omega) (fun r hr => HIL.out r (HPM.out r hr))).mono ?_
            rintro e w8 ⟨v8, rfl, hr8, ho8⟩
            have HX8 := Lib.hid (HXR.out.then ho8)
            have HO8 := Lib.hid ho8
            have HLV := Lib.hid (graphLeaves_any w8 P L2 v8 hr8 (fun r hr => HSM.out r (HPM.out r hr)) (fun r hr => by have := HIW.out r (HPM.out r hr); omega) ((HVV.out.ext HX8.out).sub (by decide)))
            obtain ⟨a8, p8, rfl, _, _, _⟩ := hr8
            clear ho8
            go_wp2_with fail
            refine HLV.out.mono ?_
            rintro e w9 ⟨v9, ev, rfl, hrl, hel, ho9⟩
            obtain rfl := hel.zero (sheet_ok.2 HPRT.out)
            have hlo2 : leavesOut L2 = leavesB L2 := if_neg (by rw [sheet_ok.2 HPRT.out]; simp)
            rw [hlo2] at hrl
            have HX9 := Lib.hid (HX8.out.then ho9)
            have HRL := Lib.hid hrl.rd
            have HPR9 := Lib.hid (HPR.out.ext (HO8.out.then ho9))
            have HTA9 := Lib.hid (HTA7.out.ext (HO8.out.then ho9))
            have HU9 : Hid (UAt w9 w9 b2 mb2 T T (leavesB L2)) := Lib.hid ⟨Only.refl _ _, HTB7.out.ext (HO8.out.then ho9), HFT.out, fun _ _ => rfl⟩
            obtain ⟨a9, p9, hv9, _, _, _⟩ := hrl.rd
            subst hv9
            clear hrl hel ho9 hlo2 HLV HO8 HPR HTA7 HTB7
            go_wp2_with fail
            have HM9 : Hid (KMap .string S S w9 mb2 T) := Lib.hid HU9.out.tree.map
            go_loopw [19] (fun i wx => ∃ (j : Nat) (U : FL), j ≤ ms.length ∧ i = .int .i64 j ∧ Hid (UAt w9 wx b2 mb2 T U (leavesB L2))) (fun i _ => ms.length - (intOf i).toNat)
            case atStart => exact ⟨0, _, Nat.zero_le _, rfl, HU9⟩
            case round =>
              clear HU9
              obtain ⟨j, U, hj, rfl, HU⟩ := hrel
              have HXX : Hid (Ext w wr) := Lib.hid (HX9.out.trans HU.out.only (fun _ _ h => h) (fun i hi e => by have := HNE.out.2.2; omega))
              by_cases hlt : j < ms.length
              · have hltz : (j : Int) < (ms.length : Int) := by omega
                have hj0 : (0 : Int) ≤ (j : Int) := by omega
                obtain ⟨bq, offq, rfl, hcellq⟩ := HC1.out (by intro h; rw [h] at hlt; simp at hlt)
                obtain ⟨⟨p, x⟩, hq⟩ : ∃ y, ms[j]? = some y := ⟨_, List.getElem?_eq_getElem hlt⟩
                have HD1 : Hid (w.cell? ⟨bq, offq + j * 2, none⟩ = some (S p)) := Lib.hid (hcellq j _ hq 0 _ rfl)
                have HD2 : Hid (w.cell? ⟨bq, offq + j * 2 + 1, none⟩ = some (S x)) := Lib.hid (hcellq j _ hq 1 _ rfl)
                have d1 := HXX.out.cellOf HD1.out (fun h => h)
                have d2 := HXX.out.cellOf HD2.out (fun h => h)
                have HPL : Hid (p.length ≤ 1000) := Lib.hid (by have := HMP.out _ (List.mem_of_getElem? hq); simp only at this; omega)
                have HIX := Lib.hid (indexRef_any wr _ (leavesB L2) p (HRL.out.mapStep HM9.out HU.out.only))
                clear hcellq hq
                rcases idx_cases (fun y => y == p) (leavesB L2) with ⟨k, hk, _, _⟩ | ⟨hk, hany⟩
                · rw [hk] at HIX
                  have hk0 : ¬ (k : Int) < 0 := by omega
                  clear hk
                  go_wp2_with fail
                  refine (HIX.out).mono ?_
                  rintro e w10 ⟨rfl, rfl⟩
                  go_wp2_with fail
                  go_roundw
                  case rel => exact ⟨j + 1, _, by omega, by go_num, HU⟩
                  case measure => simp [intOf]; omega
                · rw [hk] at HIX
                  have HNL : Hid (p ∉ leavesB L2) := Lib.hid (fun hm => by
                    rw [List.any_eq_false] at hany
                    exact hany p hm (beq_iff_eq.2 rfl))
                  clear hk hany
                  go_wp2_with fail
                  refine (HIX.out).mono ?_
                  rintro e w10 ⟨rfl, rfl⟩
                  go_wp2_with fail
                  go_region_held3 (fun w' => w'.cell? ⟨bq, offq + j * 2, none⟩ = some (S p) ∧ w'.cell? ⟨bq, offq + j * 2 + 1, none⟩ = some (S x)) (first | exact ⟨(HX9.out.trans HT.out.only (fun _ _ h => h) (fun i hi e => by have := HNE.out.2.2; omega)).cellOf HD1.out (fun h => h), (HX9.out.trans HT.out.only (fun _ _ h => h) (fun i hi e => by have := HNE.out.2.2; omega)).cellOf HD2.out (fun h => h)⟩ | exact ⟨d1, d2⟩ | go_keep)
                    ((go_at_call 52; refine (UAt.put (wB := w9) (b := b2) (mb := mb2) (T := T) (U := U) (P := P) (lv := leavesB L2) (by first | exact HU.out | exact HU.out.grow (Only.drew _ _) | exact HU.out.grow (Only.drewN _ _ _)) (by first | exact (HVV.out.ext HXX.out).errs.sub (by decide) | exact (HVV.out.ext (HXX.out.thenDrew)).errs.sub (by decide) | exact (HVV.out.ext (HXX.out.thenDrewN _)).errs.sub (by decide)) (by first | exact (HVV.out.ext HXX.out).max | exact (HVV.out.ext (HXX.out.thenDrew)).max | exact (HVV.out.ext (HXX.out.thenDrewN _)).max) p x HPL.out HNL.out).mono ?_; rintro e w5 ⟨rfl, hT⟩; have HT := Lib.hid hT; clear hT))
                  all_goals
                    go_wp2_with fail
                    go_roundw
                    case rel => exact ⟨j + 1, _, by omega, by go_num, HT⟩
                    case measure => simp [intOf]; omega
              · have hltz : ¬ (j : Int) < (ms.length : Int) := by omega
                have HTQ := Lib.hid (HTA9.out.later HU.out.only HNE.out.1 HNE.out.2.1)
                have HPQ := Lib.hid (HPR9.out.mapStep HM9.out HU.out.only)
                have HTU := Lib.hid HU.out.tree
                have HFU := Lib.hid HU.out.ft
                have hws := HWS.out U HU.out.ft HU.out.same
                obtain ⟨X, hX⟩ : ∃ X, X = wantRes l T out := ⟨_, rfl⟩
                rw [← hX] at hws
                have HWQ := Lib.hid hws
                have HXB : Hid (X.2.1 ≠ 0 → X.1 = []) := Lib.hid (fun h => by rw [hX] at h ⊢; exact wantRes_bad HFT.out.bytes h)
                have HXE := Lib.hid hX
                clear hws hX hlt hj HU
                go_wp2_with fail
                refine (ownRules_any wr _ l (H2.out.ext HXX.out) (by omega) HIL.out).mono ?_
                rintro e w11 ⟨v11, rfl, hr11, ho11⟩
                have HX11 := Lib.hid (HXX.out.then ho11)
                have HO11 := Lib.hid ho11
                have hwo := wantOf_any w11 P b1 mb1 T v11 l out (HTQ.out.ext ho11) HFT.out.bytes hr11 HSM.out HIW.out ((HVV.out.ext HX11.out).sub (by decide))
                rw [← HXE.out] at hwo
                have HWO := Lib.hid hwo
                obtain ⟨a11, p11, rfl, _, _, _⟩ := hr11
                clear ho11 hwo
                go_wp2_with fail
                refine HWO.out.mono ?_
                rintro e w12 ⟨e1, rfl, he1, ho12⟩
                have HE1 := Lib.hid he1
                have HO12 := Lib.hid (HO11.out.then ho12)
                have HX12 := Lib.hid (HXX.out.then HO12.out)
                clear he1 ho12
                go_wp2_with fail
                refine (ownRules_any w12 _ L2 (HPQ.out.ext HO12.out) (by omega) (fun r hr => HIL.out r (HPM.out r hr))).mono ?_
                rintro e w13 ⟨v13, rfl, hr13, ho13⟩
                have HX13 := Lib.hid (HX12.out.then ho13)
                have hwo := wantOf_any w13 P b2 mb2 U v13 L2 out (HTU.out.ext (HO12.out.then ho13)) HFU.out.bytes hr13 (fun r hr => HSM.out r (HPM.out r hr)) (fun r hr => HIW.out r (HPM.out r hr)) ((HVV.out.ext HX13.out).sub (by decide))
                rw [HWQ.out] at hwo
                have HWO2 := Lib.hid hwo
                obtain ⟨a13, p13, rfl, _, _, _⟩ := hr13
                clear ho13 hwo
                go_wp2_with fail
                refine HWO2.out.mono ?_
                rintro e w14 ⟨e2, rfl, he2, ho14⟩
                have HX14 := Lib.hid (HX13.out.then ho14)
                obtain ⟨xs, xf⟩ := X
                by_cases hx0 : xf.1 = 0
                · obtain rfl := HE1.out.zero hx0
                  obtain rfl := he2.zero hx0
                  clear he2 ho14 hx0 HE1 HXB HXE HWQ HWO HWO2
                  go_wp2_with fail
                  go_ret
                  exact ⟨by simp, HX14.out⟩
                · obtain ⟨t1, q1, rfl⟩ := HE1.out.some hx0
                  obtain ⟨t2, q2, rfl⟩ := he2.some hx0
                  have hxs : xs = [] := HXB.out hx0
                  subst hxs
                  clear he2 ho14 hx0 HE1 HXB HXE HWQ HWO HWO2
                  go_wp2_with fail
                  go_ret
                  exact ⟨rfl, HX14.out⟩
end Go.Proofs.YtnmhaipjfpongabGreatDoor

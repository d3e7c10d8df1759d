/- Texts of this seat laid together for one claim: Br5, L3, Z39f, Z39. No condition of its own: what each proves stands with its theorems. -/
import Derived.Test.YtnmhaipjfpongacGreatDoorBR49
import Derived.Test.YtnmhaipjfpongacGreatDoorBR48
import Derived.Test.YtnmhaipjfpongacGreatDoorBR47
import Derived.Test.YtnmhaipjfpongacGreatDoorBR45
import Derived.Test.YtnmhaipjfpongacGreatDoorBR31
import Derived.JoinedOf
import Derived.Test.YtnmhaipjfpongacGreatDoorChecked
import Derived.Test.YtnmhaipjfpongacGreatDoorRows
import Derived.ChangeMaps5
import Derived.LaidMore
import Derived.Lay
import Derived.Lib.LaidTab
import Derived.OpenShut
import Derived.SevenTiedAt
import Derived.SliceStrings
import Derived.Stop.Joined
import Derived.Stop.LaidErr
import Derived.Test.YtnmhaipjfpongacGreatDoorCards
import Derived.Test.YtnmhaipjfpongacGreatDoorTie
import Derived.Test.YtnmhaipjfpongacGreatDoorBR0
import Derived.Test.YtnmhaipjfpongacGreatDoorBR7
import Derived.Test.YtnmhaipjfpongacGreatDoorBR35
namespace Go.Proofs.YtnmhaipjfpongacGreatDoor
open Go.ChangeShapes Go.WideShapes Go.ChangeAt Go.RowKit

set_option maxRecDepth 100000 in
set_option maxHeartbeats 16000000 in
theorem walkBuildRuns (w : World) (P : Nat → Addr) (fs : FL) (v0 v1 v2 v3 : Value) (l : List Rule) (outs : List B) (many : Int) (ps : List Int) (hv0 : RdS 2 encF w v0 fs) (hv1 : RdR w v1 l) (hv2 : Rd S w v2 outs) (hv3 : Rd I w v3 ps) (hV : PV w P [1, 2, 3, 4, 5, 6, 7, 8, 9, 10, 11]) (hS : Sents w P) :
  Calls Tryz.prog 6 #[v0, v1, v2, I many, v3] w (RetE (.bool true) w) := by
 have H0 := Lib.hid hv0
 have H1 := Lib.hid hv1
 have H2 := Lib.hid hv2
 have H3 := Lib.hid hv3
 have HVV := Lib.hid hV
 have HSS := Lib.hid hS
 have HBU := Lib.hid (built_any w P hV)
 obtain ⟨a0, q0, rfl, _, _, _⟩ := hv0
 obtain ⟨a1, q1, rfl, _, _, _⟩ := hv1
 obtain ⟨a2, q2, rfl, _, hm2, _⟩ := hv2
 obtain ⟨a3, q3, rfl, _, hm3, hc3⟩ := hv3
 have HC3 := Lib.hid hc3
 have hr3 : ps.length ≤ 9223372036854775807 := by unfold maxLen at hm3; omega
 have hr2 : outs.length ≤ 9223372036854775807 := by unfold maxLen at hm2; omega
 clear hV hS hm2 hm3 hc3
 go_enter Tryz.func6, Tryz.ntmps6
 go_wp2_with fail
 refine (HBU.out).mono ?_
 rintro e w1 ⟨rfl, ho⟩
 have HX1 := Lib.hid ho
 clear ho
 go_wp2_with fail
 refine (longFiles2_any w1 _ fs (RdS.ext H0.out HX1.out)).mono ?_
 rintro e w2 ⟨r, rfl, hz, rfl⟩
 have HZ0 := Lib.hid hz
 clear hz
 cases r with
 | true =>
  go_wp2_with fail
  go_ret
  exact ⟨rfl, HX1.out⟩
 | false =>
  go_wp2_with fail
  refine (longRules_any w1 _ l 12 (H1.out.ext HX1.out)).mono ?_
  rintro e w2 ⟨⟨r, rfl, hr, hz⟩, rfl⟩
  have HZ2 := Lib.hid hz
  clear hz
  rcases hr with rfl | rfl
  case inr =>
   go_wp2_with fail
   go_ret
   exact ⟨rfl, HX1.out⟩
  case inl =>
   have HSH : Hid (∀ r ∈ l, ShortR r) := Lib.hid (HZ2.out rfl).2
   have HSM : Hid (∀ r ∈ l, RuleSm 900000 r) := Lib.hid (fun r hr => (HSH.out r hr).sm)
   have h41 : l.length ≤ 41 := by rcases (HZ2.out rfl).1 with h | h <;> omega
   have hlz : (l.length : Int) ≤ 41 := by omega
   have HIL : Hid (∀ r ∈ l, r.ins.length ≤ 1000000) := Lib.hid (fun r hr => by have := (HSH.out r hr).many; omega)
   have hf30 := (HZ0.out (by simp)).1
   have HFP := Lib.hid (HZ0.out (by simp)).2
   clear HZ2 HZ0
   go_wp2_with fail
   refine (longTexts_any w1 _ outs 10 300 (H2.out.ext HX1.out) (by decide)).mono ?_
   rintro e w2 ⟨⟨r, rfl, hr, hz⟩, rfl⟩
   have HZ3 := Lib.hid hz
   clear hz
   rcases hr with rfl | rfl
   case inr =>
    go_wp2_with fail
    go_ret
    exact ⟨rfl, HX1.out⟩
   case inl =>
    have ho10 : outs.length ≤ 10 := by have := (HZ3.out rfl).1; omega
    have hoz : (outs.length : Int) ≤ 10 := by omega
    clear HZ3
    by_cases hlp : (60 : Int) < (ps.length : Int)
    ·go_wp2_with fail
     go_ret
     exact ⟨rfl, HX1.out⟩
    have hpz : (ps.length : Int) ≤ 60 := by omega
    go_wp2_with fail
    refine (fileTree2_any w1 P _ fs (RdS.ext H0.out HX1.out) (by omega) HFP.out ((HVV.out.ext HX1.out).errs.sub (by decide)) (HVV.out.ext HX1.out).max).mono ?_
    rintro e w3 ⟨b1, mb1, m, slv, rfl, hT1⟩
    have HX3 := Lib.hid (HX1.out.then hT1.ext)
    have HFT : Hid (FTree (treeOfF fs)) := Lib.hid (by have := ftree_of HFP.out fs.length; rwa [List.take_length] at this)
    have HTR : Hid (TreeAt w3 b1 mb1 (treeOfF fs)) := Lib.hid hT1.tree
    have HMR := Lib.hid hT1.model
    clear hT1 hf30 HFP hlp
    generalize treeOfF fs = T at HFT HTR HMR
    go_wp2_with fail
    refine (newNil_any w3 P _ _ _ ((HVV.out.ext HX3.out).errs.sub (by decide))).mono ?_
    rintro e w4 ⟨rfl, ho4⟩
    have HX4 := Lib.hid (HX3.out.then ho4)
    have HO4 := Lib.hid ho4
    have HCD := Lib.hid (coded2C w4 P (HSS.out.ext HX4.out) 3 (by decide))
    clear ho4
    go_wp2_with fail
    refine HCD.out.mono ?_
    rintro e w5 ⟨rfl, ho5⟩
    have HX5 := Lib.hid (HX4.out.then ho5)
    have HO5 := Lib.hid (HO4.out.then ho5)
    clear ho5 HCD
    go_wp2_with fail
    refine (cacheAll_any many w5 P ((HVV.out.ext HX5.out).errs.sub (by decide))).mono ?_
    rintro e w6 ⟨ca, ev, rfl, ho6, hca⟩
    have HX6 := Lib.hid (HX5.out.then ho6)
    have HO6 := Lib.hid (HO5.out.then ho6)
    have HZ6 := Lib.hid ho6.size
    have HZ5 := Lib.hid HO5.out.size
    have HCA := Lib.hid hca
    clear ho6 hca
    obtain ⟨ca', ma', hstart⟩ : ∃ ca' ma' : Option Addr, (ca' = none ∧ ma' = none ∧ ev = errV (P 1)) ∨ (ca' = ca ∧ ma' = some ⟨w6.heap.size, 0, none⟩ ∧ ∃ n : Nat, many = (n : Int) ∧ n ≤ 100 ∧ ev = .nilIface ∧ ca = some ⟨w5.heap.size + 1, 0, none⟩ ∧ CacheAt w6 (w5.heap.size + 1) w5.heap.size (.slice none 0 0) n []) := by
     rcases HCA.out with h | h
     ·exact ⟨none, none, .inl ⟨rfl, rfl, h.2⟩⟩
     ·exact ⟨ca, _, .inr ⟨rfl, rfl, h⟩⟩
    clear HCA
    rcases hstart with ⟨hcaE, hmaE, rfl⟩ | ⟨hcaE, hmaE, n, rfl, hn, rfl, hca, hc⟩
    case' inl =>
     have HS0 : Hid (CchB w3 w6 (.pointer ca') (.pointer ma') none) := Lib.hid (by
      rw [hcaE, hmaE]
      exact ⟨HO6.out, rfl, rfl⟩)
     have HCAE := Lib.hid hcaE
     have HMAE := Lib.hid hmaE
     clear hcaE hmaE
    case' inr =>
     have HS0 : Hid (CchB w3 (w6.alloc (.cells #[I n, .slice none 0 0] 93 (0, 0))) (.pointer ca') (.pointer ma') (some (n, []))) := Lib.hid (by
      have hM := (MapKept.heap_alloc w6 (.cells #[I n, .slice none 0 0] 93 (0, 0))).1
      have hA := Only.alloc (fun _ => False) w6 (.cells #[I n, .slice none 0 0] 93 (0, 0))
      have hlt := hc.lt
      rw [hcaE, hmaE, hca]
      exact ⟨HO6.out.then hA, w5.heap.size + 1, w5.heap.size, .slice none 0 0, w6.heap.size, .slice none 0 0, rfl, rfl, hc.later hA (fun _ _ h => h), CacheOk.nil, Nat.zero_le _, hn, ⟨hM, ⟨none, 0, rfl, Nat.le_refl _, Nat.zero_le _, fun h => absurd rfl h⟩, CacheOk.nil, List.nodup_nil, Nat.zero_le _, hn, (fun i e => by cases e)⟩, fun i hi => ⟨(by
       have := HZ5.out
       rcases hi with h | h | h
       ·omega
       ·omega
       ·cases h), fun e => by have := hlt i hi; omega, (fun e => by cases e)⟩, Nat.le_trans HZ5.out HZ6.out, by have := lt_of_heap hM; omega, (fun i e => by cases e)⟩)
     have HCAE := Lib.hid hcaE
     have HMAE := Lib.hid hmaE
     clear hn hca hc hcaE hmaE
    all_goals
     go_wp2_with fail
     go_loopw [18, 19, 20, 21, 22, 23, 24, 25, 26, 27] (fun k _ _ _ _ _ _ _ _ _ wr => ∃ (j : Nat) (C : CS), j ≤ 2 ∧ k = .int .i64 j ∧ Hid (CchB w3 wr (.pointer ca') (.pointer ma') C)) (fun k _ _ _ _ _ _ _ _ _ _ => 2 - (intOf k).toNat)
     case atStart => exact ⟨0, _, by omega, rfl, HS0⟩
     case round =>
      clear HS0
      obtain ⟨j, C, hj, rfl, HC⟩ := hrel
      by_cases hj2 : j < 2
      case neg =>
       have hjz : ¬ (j : Int) < 2 := by omega
       go_wp2_with fail
       go_ret
       exact ⟨rfl, HX3.out.then HC.out.1⟩
      case pos =>
       have hjz : (j : Int) < 2 := by omega
       have HXr := Lib.hid (HX3.out.then HC.out.1)
       clear hj
       go_wp2_with fail
       refine (ownRules_any wr _ l (H1.out.ext HXr.out) (by omega) HIL.out).mono ?_
       rintro e w11 ⟨v11, rfl, hr11, ho11⟩
       have HX11 := Lib.hid (HXr.out.then ho11)
       have HO11 := Lib.hid (HC.out.1.then ho11)
       have HY11 := Lib.hid ho11
       have HR11 := Lib.hid hr11
       obtain ⟨a11, p11, rfl, _, _, _⟩ := hr11
       clear ho11
       go_wp2_with fail
       refine (ownTextsRow_any w11 _ outs (H2.out.ext HX11.out) (by omega)).mono ?_
       rintro e w12 ⟨v12, rfl, ho12, hr12⟩
       have HX12 := Lib.hid (HX11.out.then ho12)
       have HO12 := Lib.hid (HO11.out.then ho12)
       have HY12 := Lib.hid (HY11.out.then ho12)
       have HNEW := Lib.hid (new_any w12 P b1 mb1 T (.slice a11 l.length p11) v12 ca' l outs (HTR.out.ext HO12.out) (HR11.out.ext ho12) hr12.rd (by omega) HSM.out ((HVV.out.ext HX12.out).sub (by decide)))
       obtain ⟨a12, p12, rfl, _, _, _⟩ := hr12.rd
       clear ho12 hr12
       rw [HCAE.out] at HNEW
       go_wp2_with fail
       refine HNEW.out.mono ?_
       rintro e w13 ⟨vb, ev, rfl, he, ho13, hcase⟩
       have HX13 := Lib.hid (HX12.out.then ho13)
       have HO13 := Lib.hid (HO12.out.then ho13)
       have HY13 := Lib.hid ho13
       have HBF := Lib.hid (buildFault_any w13 l outs _ _ (H1.out.ext HX13.out) (H2.out.ext HX13.out) HSM.out)
       rw [nFault_new] at HBF
       by_cases hf : (newFault l outs).1 = 0
       case neg =>
        rcases hcase with ⟨_, rfl⟩ | ⟨hf0, _⟩
        case inr => exact absurd hf0 hf
        have HEV := Lib.hid he
        have h12 := newFault_le l outs
        generalize newFault l outs = F at HBF HEV hf h12
        obtain ⟨c, t⟩ := F
        have hcz : (0 : Int) < (c : Int) := by simp at hf; omega
        have HBF : Hid (Calls Tryz.prog 54 #[.slice a1 l.length q1, .slice a2 outs.length q2] w13 (RetE (.agg #[IN c, I t]) w13)) := HBF
        clear he ho13 HNEW
        go_wp2_with fail
        refine HBF.out.mono ?_
        rintro e w14 ⟨rfl, ho14⟩
        have HX14 := Lib.hid ((HX13.out.then ho14).thenAlloc (.cells #[IN c, I t] 37 (0, 0)))
        have HE14 := Lib.hid (HEV.out.ext (ho14.thenAlloc (.cells #[IN c, I t] 37 (0, 0))))
        have hb := (MapKept.heap_alloc w14 (.cells #[IN c, I t] 37 (0, 0))).1
        have c0 := (cell_of_heap hb 0).trans (rfl : _ = some (IN c))
        have c1 := (cell_of_heap hb 1).trans (rfl : _ = some (I t))
        have HFA := Lib.hid (faulted2_any _ ev (c, t) (c, t) (code_at _ P (HSS.out.ext HX14.out) ev (c, t) HE14.out h12 (fun h => absurd h hf)) rfl)
        clear ho14 hb hf
        go_wp2_with fail
        refine HFA.out.mono ?_
        rintro e w15 ⟨rfl, ho15⟩
        have HX15 := Lib.hid (HX14.out.then ho15)
        clear ho15
        go_wp2_with fail
        go_ret
        exact ⟨rfl, HX15.out⟩
       case pos =>
        rcases hcase with ⟨hf0, _⟩ | ⟨_, K, rfl, hcp, hb⟩
        case inl => exact absurd hf hf0
        obtain rfl := he.zero hf
        obtain ⟨hrs, hmade, o, hpo⟩ := newFault_ok hf
        have HRS := Lib.hid hrs
        have HBN := Lib.hid (bad_none hmade)
        have hsml : (needL l outs).length ≤ 1000 := by
         have := List.length_filter_le (reachB l outs) (List.range l.length)
         rw [List.length_range] at this
         unfold needL
         omega
        have HWL : Hid (BWell (newE l outs T) o (fun i => (needL l outs).contains i)) := Lib.hid (new_well hrs hpo HFT.out.bytes)
        have HLN : Hid (BLens (newE l outs T)) := Lib.hid (BLens.of hrs HSH.out (fun i hi => (mem_needL.1 hi).1) hsml)
        have HTL : Hid (T.length ≤ 1000000) := Lib.hid (by have := HFT.out.fits.few; omega)
        have HTE : Hid ((newE l outs T).T.length ≤ 1000000) := HTL
        have hcz : ¬ (0 : Int) < (((newFault l outs).1 : Nat) : Int) := by rw [hf]; simp
        have HCP : Hid (K.cp = .pointer ca') := Lib.hid (by rw [HCAE.out]; exact hcp)
        have HB := Lib.hid hb
        generalize newFault l outs = F at HBF hcz
        obtain ⟨c, t⟩ := F
        have hcz : ¬ (0 : Int) < (c : Int) := hcz
        have HBF : Hid (Calls Tryz.prog 54 #[.slice a1 l.length q1, .slice a2 outs.length q2] w13 (RetE (.agg #[IN c, I t]) w13)) := HBF
        clear he ho13 HNEW hf hrs hmade hpo hsml hcp hb
        go_wp2_with fail
        refine HBF.out.mono ?_
        rintro e w14 ⟨rfl, ho14⟩
        have HX14 := Lib.hid ((HX13.out.then ho14).thenAlloc (.cells #[IN c, I t] 37 (0, 0)))
        have HO14 := Lib.hid ((HO13.out.then ho14).thenAlloc (.cells #[IN c, I t] 37 (0, 0)))
        have HY14 := Lib.hid (ho14.thenAlloc (.cells #[IN c, I t] 37 (0, 0)))
        have hb := (MapKept.heap_alloc w14 (.cells #[IN c, I t] 37 (0, 0))).1
        have c0 := (cell_of_heap hb 0).trans (rfl : _ = some (IN c))
        have HNM := Lib.hid (newBuild_any _ w1.heap.size m slv (.slice a1 l.length q1) (.slice a2 outs.length q2) ma' l outs T (HMR.out.ext HO14.out) HTL.out (H1.out.ext HX14.out) (H2.out.ext HX14.out) HRS.out HBN.out)
        rw [HMAE.out] at HNM
        clear ho14 hb HBF
        go_wp2_with fail
        refine HNM.out.mono ?_
        rintro e w15 ⟨Km, rfl, hcm, hlv, hmb, hge⟩
        have HM15 : MBldAt w3 w15 (newE l outs T) Km .new := hmb.older HO14.out (by rw [← show Value.slice a1 l.length q1 = .slice Km.la (newE l outs T).l.length Km.lc from hlv]; exact H1.out.ext HX3.out)
        have HMP : Hid (Km.cp = .pointer ma') := Lib.hid (by rw [HMAE.out]; exact hcm)
        obtain ⟨cb, cmb, cbm, sv, cv, hboth⟩ := HC.out.make HY12.out HY13.out HB.out HCP.out HY14.out hmb.ext HM15 HMP.out hge
        have HBO := Lib.hid hboth
        have HPV : Hid (PV w3 P [2, 4, 5, 9, 10, 11]) := Lib.hid ((HVV.out.ext HX3.out).sub (by decide))
        generalize (fun i => (needL l outs).contains i) = is at HWL
        obtain ⟨E, hEq⟩ : ∃ E, newE l outs T = E := ⟨_, rfl⟩
        rw [hEq] at HWL HLN HBO
        have HTE : Hid (E.T.length ≤ 1000000) := by rw [← hEq]; exact HTE
        clear hEq
        clear hcm hlv hmb hge HM15 hboth HNM HB HY11 HY12 HY13 HY14 HR11 HRS HBN HC HX11 HX12 HX13 HX14 HO11 HO12 HO13 HO14 hcz c0
        go_wp2_with fail
        go_loopw [23, 24, 25, 26, 27] (fun i _ _ _ _ wx => ∃ (t : Nat) (sv cv : Value) (x : BS × CS), t ≤ ps.length ∧ i = .int .i64 t ∧ Hid (BothAt w3 P w12.heap.size E K Km cb cmb cbm sv cv wx x x)) (fun i _ _ _ _ _ => ps.length - (intOf i).toNat)
        case atStart => exact ⟨0, _, _, _, Nat.zero_le _, rfl, HBO⟩
        case round =>
         clear HBO
         obtain ⟨t, sv, cv, x, ht, rfl, HBO⟩ := hrel
         by_cases htl : t < ps.length
         ·have htz : (t : Int) < (ps.length : Int) := by omega
          have ht0 : (0 : Int) ≤ (t : Int) := by omega
          obtain ⟨b3, off3, rfl, hcell⟩ := HC3.out (by intro h; rw [h] at htl; simp at htl)
          obtain ⟨z, hz⟩ : ∃ z, ps[t]? = some z := ⟨_, List.getElem?_eq_getElem htl⟩
          have HD := Lib.hid (fun (wq : World) (hx : Ext w3 wq) => (HX3.out.then hx).cellOf (hcell t z hz) (fun h => h))
          have d2 := HD.out _ HBO.out.real.ext
          have HR1 := Lib.hid (HBO.out.runR HWL.out HLN.out HPV.out z)
          have HTT := Lib.hid htl
          obtain ⟨R, hR⟩ : ∃ R, runZ E x.2 x.1 z = R := ⟨_, rfl⟩
          have hle := runZ_le E x.2 x.1 z
          rw [hR] at HR1 hle
          have HRE := Lib.hid hR
          clear hcell hz hR ht htl
          obtain ⟨⟨rb, rc⟩, rs, rcs⟩ := R
          have HR1 : Hid (Calls Tryz.prog 56 #[PTR K.b, I z] wr (fun e w' => ∃ sv', e = .returned (.tuple #[.bool rb, errC P rc]) ∧ BothAt w3 P w12.heap.size E K Km cb cmb cbm sv' cv w' (rs, rcs) x)) := HR1
          go_wp2_with fail
          refine HR1.out.mono ?_
          rintro e w20 ⟨sv', rfl, hb20⟩
          have d3 := HD.out _ hb20.real.ext
          have HB20 := Lib.hid hb20
          have HR2 := Lib.hid (hb20.runM HWL.out HLN.out HTE.out z)
          rw [HRE.out] at HR2
          have HR2 : Hid (Calls Tryz.prog 57 #[PTR Km.b, I z] w20 (fun e w' => ∃ cv', e = .returned (.tuple #[.bool rb, IN rc]) ∧ BothAt w3 P w12.heap.size E K Km cb cmb cbm sv' cv' w' (rs, rcs) (rs, rcs))) := HR2
          clear hb20 d2 HR1
          go_wp2_with fail
          refine HR2.out.mono ?_
          rintro e w21 ⟨cv', rfl, hb21⟩
          have HCO := Lib.hid (coded2C w21 P (HSS.out.ext (HX3.out.then hb21.real.ext)) rc hle)
          have HB21 := Lib.hid hb21
          clear hb21 HR2
          go_wp2_with fail
          refine HCO.out.mono ?_
          rintro e w22 ⟨rfl, ho22⟩
          have HB22 := Lib.hid (HB21.out.grow ho22)
          clear ho22 HCO
          go_wp2_with fail
          go_roundw
          case rel => exact ⟨t + 1, _, _, _, HTT.out, by go_num, HB22⟩
          case measure => have := HTT.out; simp [intOf]; omega
         ·have htz : ¬ (t : Int) < (ps.length : Int) := by omega
          have HA1 := Lib.hid (asBuild_any HBO.out.real.bld HBO.out.mod.bld HBO.out.real.inv HWL.out HLN.out (HSS.out.ext (HX3.out.then HBO.out.real.ext)))
          clear ht htl
          go_wp2_with fail
          refine HA1.out.mono ?_
          rintro e w23 ⟨rfl, ho23⟩
          have HB23 := Lib.hid (HBO.out.grow ho23)
          have HA2 := Lib.hid (HB23.out.allR HWL.out HLN.out HPV.out)
          clear ho23 HA1
          go_wp2_with fail
          refine HA2.out.mono ?_
          rintro e w24 ⟨sv2, x2, rfl, hb24, hto⟩
          have HA3 := Lib.hid (hb24.allM HWL.out HLN.out HTE.out)
          have HTO := Lib.hid hto
          clear hb24 hto HA2
          go_wp2_with fail
          refine HA3.out.mono ?_
          rintro e w25 ⟨vv, out, cv2, y2, rfl, hri, hb25, hao⟩
          obtain rfl := HTO.out.out hao
          have HB25 := Lib.hid hb25
          have HA4 := Lib.hid (asBuild_any hb25.real.bld hb25.mod.bld hb25.real.inv HWL.out HLN.out (HSS.out.ext (HX3.out.then hb25.real.ext)))
          clear hri hb25 hao HTO HA3
          go_wp2_with fail
          refine HA4.out.mono ?_
          rintro e w26 ⟨rfl, ho26⟩
          have HB26 := Lib.hid (HB25.out.grow ho26)
          clear ho26 HA4
          go_wp2_with fail
          go_roundw
          case rel => exact ⟨j + 1, x2.2, hj2, by go_num, Lib.hid (by have := HB26.out.cache; rwa [HCP.out, HMP.out] at this)⟩
          case measure => simp [intOf]; omega
end Go.Proofs.YtnmhaipjfpongacGreatDoor

namespace Go.Proofs.YtnmhaipjfpongacGreatDoor
theorem prog_laidOut : laidOutB Tryz.pinned.checked.prog = true := by kernel_rfl
theorem prog_mapsRowed : mapsRowed Tryz.pinned.checked.prog = true := by kernel_rfl
theorem prog_stops : (Tryz.pinned.checked.prog.stops == []) = true := by kernel_rfl
theorem prog_stopKnobs : (Tryz.pinned.checked.prog.stopKnobs == []) = true := by kernel_rfl
theorem prog_stopsHeard : Tryz.pinned.checked.prog.stopsHeard = true := by kernel_rfl
theorem prog_mayEnter : Tryz.pinned.checked.prog.mayEnter = true := by kernel_rfl
end Go.Proofs.YtnmhaipjfpongacGreatDoor

namespace Go.Proofs.YtnmhaipjfpongacGreatDoor.buildRunsFacts
theorem k0 : Rows.buildRunsRow.wf (OpenSpec.ofChange Rows.buildRunsSpec) = true := by kernel_rfl
theorem k3 : Tryz.f6.params.all (Tryz.pinned.checked.prog.readableRec ·) = true := by kernel_rfl
theorem k4 : namedTie Tryz.pinned.checked.prog Rows.buildRunsRow.named Rows.buildRunsSpec.vars = true := by kernel_rfl
theorem k5 : (Rows.buildRunsRow.stops == []) = true := by kernel_rfl
theorem k7 : (Rows.buildRunsRow.knobs == []) = true := by kernel_rfl
theorem k9 : (Rows.buildRunsRow.inPlace == Tryz.pinned.checked.prog.inPlace 6) = true := by kernel_rfl
theorem k10 : (Rows.buildRunsRow.unfollowed == Tryz.pinned.checked.prog.unfollowed 6) = true := by kernel_rfl
theorem k11 : (Rows.buildRunsRow.recurses == Tryz.pinned.checked.prog.recurses 6) = true := by kernel_rfl
theorem k12 : (Rows.buildRunsRow.named == Tryz.pinned.checked.prog.varsNamed 6) = true := by kernel_rfl
theorem k13 : (Rows.buildRunsRow.maps == (Tryz.f6.params.toList ++ Rows.buildRunsSpec.plain.varTypes Tryz.pinned.checked.prog).any (Tryz.pinned.checked.prog.mapsRec ·)) = true := by kernel_rfl
theorem k14 : (Rows.buildRunsRow.ifaces == (Tryz.f6.params.toList ++ Rows.buildRunsSpec.plain.varTypes Tryz.pinned.checked.prog).any (Tryz.pinned.checked.prog.ifacesRec ·)) = true := by kernel_rfl
theorem k15 : (Rows.buildRunsRow.mapsOut == Tryz.pinned.checked.prog.mapsAmong Tryz.f6.resultTypes.toList) = true := by kernel_rfl
theorem k16 : (Rows.buildRunsRow.loops == (Tryz.f6.params.toList ++ Rows.buildRunsSpec.plain.varTypes Tryz.pinned.checked.prog).any (Tryz.pinned.checked.prog.loopsFrom ·)) = true := by kernel_rfl
theorem k17 : (Rows.buildRunsRow.wideKeys == (Tryz.f6.params.toList ++ Rows.buildRunsSpec.plain.varTypes Tryz.pinned.checked.prog ++ Tryz.f6.resultTypes.toList).any (Tryz.pinned.checked.prog.wideKeysFrom ·)) = true := by kernel_rfl
theorem k18 : Rows.buildRunsSpec.vars.all (Tryz.pinned.checked.prog.varReadable ·) = true := by kernel_rfl
theorem k19 : Tryz.f6.resultTypes.all (fun t => Tryz.pinned.checked.prog.readableRec t && decide (t < Tryz.pinned.checked.prog.types.size)) = true := by kernel_rfl
theorem k20 : (Rows.buildRunsRow.ifacesOut == Tryz.f6.resultTypes.toList.any (Tryz.pinned.checked.prog.ifacesRec ·)) = true := by kernel_rfl
theorem k21 : (Rows.buildRunsRow.loopsOut == Tryz.f6.resultTypes.toList.any (Tryz.pinned.checked.prog.loopsFrom ·)) = true := by kernel_rfl
theorem k22 : (Rows.buildRunsRow.plainKeys == Tryz.pinned.checked.prog.plainKeys) = true := by kernel_rfl
theorem k23 : Rows.buildRunsRow.shortTexts.isNone = true := by kernel_rfl
theorem k26 : (Rows.buildRunsRow.lifted == Tryz.pinned.checked.prog.liftsFinal) = true := by kernel_rfl
theorem k27 : (Tryz.pinned.checked.prog.make == some Rows.buildRunsRow.make) = true := by kernel_rfl
theorem k28 : (Rows.buildRunsRow.kinds == (if Rows.buildRunsRow.domain.isEmpty then [] else Tryz.f6.params.toList.map fun t => match Tryz.pinned.checked.prog.underlying t with | some (.int k) => some k | _ => none)) = true := by kernel_rfl
theorem k29 : (Rows.buildRunsRow.pinned == Rows.buildRunsRow.pinnedBy) = true := by kernel_rfl
theorem k30 : (Rows.buildRunsRow.veiled == (Tryz.f6.params.toList ++ Rows.buildRunsSpec.plain.varTypes Tryz.pinned.checked.prog ++ Tryz.f6.resultTypes.toList).any (Tryz.pinned.checked.prog.veiledRec ·)) = true := by kernel_rfl
theorem k31 : Rows.buildRunsRow.veiledFits Tryz.pinned.checked.prog Tryz.f6.params.toList (Tryz.f6.params.toList ++ Rows.buildRunsSpec.plain.varTypes Tryz.pinned.checked.prog ++ Tryz.f6.resultTypes.toList) = true := by kernel_rfl
set_option maxRecDepth 100000 in
theorem facts : joinedFacts Tryz.pinned.checked.prog 6 Tryz.f6 Rows.buildRunsSpec Rows.buildRunsRow = true := by
 unfold joinedFacts
 simp only [Bool.and_eq_true]
 repeat' apply And.intro
 ·exact k0
 ·exact prog_laidOut
 ·exact prog_mapsRowed
 ·exact k3
 ·exact k4
 ·exact k5
 ·exact prog_stops
 ·exact k7
 ·exact prog_stopKnobs
 ·exact k9
 ·exact k10
 ·exact k11
 ·exact k12
 ·exact k13
 ·exact k14
 ·exact k15
 ·exact k16
 ·exact k17
 ·exact k18
 ·exact k19
 ·exact k20
 ·exact k21
 ·exact k22
 ·exact k23
 ·exact prog_stopsHeard
 ·exact prog_mayEnter
 ·exact k26
 ·exact k27
 ·exact k28
 ·exact k29
 ·exact k30
 ·exact k31
end Go.Proofs.YtnmhaipjfpongacGreatDoor.buildRunsFacts

namespace Go.Proofs.YtnmhaipjfpongacGreatDoor.buildRunsDone
open Go.ChangeShapes Go.WideShapes Go.ChangeAt Go.RowKit

theorem own : ownKnob Tryz.prog.godebug = none := by kernel_rfl
theorem laidOut : laidOutB Tryz.prog = true := by kernel_rfl

theorem max_of {W : World} (h : W.ShapedOpen Tryz.prog) : HasMax W :=
 cell_of_shapedOpen_int (zero := #[.int .i64 0]) (t := 3) h (of_decide_eq_true (by kernel_rfl)) (by kernel_rfl) rfl (by kernel_rfl) (by kernel_rfl) Tryz.underlying3

theorem sents {W : World} (h : laidMetH Tryz.prog Rows.buildRunsRow.laid W) : ∃ p, Sents W p := by
 have h' : laidMet Tryz.prog (Rows.buildRunsRow.laid.filter fun x => x.2.handleName?.isNone) W ∧ handlesMet Tryz.prog (Rows.buildRunsRow.laid.filter fun x => x.2.handleName?.isSome) W := h
 exact sents_of h'.1 h'.2 (by decide +kernel) (by decide +kernel) (List.mem_cons_self ..)

theorem pow_of {W : World} (h : laidMetH Tryz.prog Rows.buildRunsRow.laid W) : Pow W := by
 have h' : laidMet Tryz.prog (Rows.buildRunsRow.laid.filter fun x => x.2.handleName?.isNone) W ∧ handlesMet Tryz.prog (Rows.buildRunsRow.laid.filter fun x => x.2.handleName?.isSome) W := h
 have h2 := (h'.1).tail.tail
 exact Lib.tabIs_of_head (g := 13) (by kernel_rfl) (by kernel_rfl) Tryz.underlying359 Tryz.underlying309 (by kernel_rfl) (by kernel_rfl) h2

theorem atoi_of {W : World} (h : laidMetH Tryz.prog Rows.buildRunsRow.laid W) : AtoiVars W := by
 have h' : laidMet Tryz.prog (Rows.buildRunsRow.laid.filter fun x => x.2.handleName?.isNone) W ∧ handlesMet Tryz.prog (Rows.buildRunsRow.laid.filter fun x => x.2.handleName?.isSome) W := h
 obtain ⟨a1, e1⟩ := one_of_laid h'.1 (n := "strconv.ErrSyntax") (g := 17) (by kernel_rfl) (by kernel_rfl) (by decide +kernel)
 obtain ⟨a2, e2⟩ := one_of_laid h'.1 (n := "strconv.ErrRange") (g := 18) (by kernel_rfl) (by kernel_rfl) (by decide +kernel)
 exact ⟨⟨_, _, e1⟩, _, _, e2⟩

theorem start_met (os : Os) (args : Array Value) : laidMetH Tryz.prog Rows.buildRunsRow.laid (((World.doorLaid Tryz.prog 400 os).layVars Tryz.prog (Rows.buildRunsRow.laid.filter fun x => x.2.handleName?.isNone)).forCall (fun _ _ => 0) ⟨#[], args, []⟩).memory :=
 laidMetH_of_parts3 (fuel := 8) (laidMet_over args (by kernel_rfl) (by kernel_rfl)) (by kernel_rfl) (by kernel_rfl)

set_option maxRecDepth 100000 in
theorem lifted (os : Os) (started : os.Started) (H : Type) (enc : TypeId × Value → H) :
  ReturnsInHanded {} Tryz.checked os 6 .any (fun w args => (Rows.buildRunsSpec.pre enc Tryz.prog Tryz.f6 [] false w args ∧ laidMetH Tryz.prog Rows.buildRunsRow.laid w) ∧ sizedMet enc Tryz.prog Tryz.f6 (OpenSpec.ofChange Rows.buildRunsSpec) false w args)
   (Rows.buildRunsSpec.post enc Tryz.prog Tryz.f6 false true false false) := by
 refine handed_both (C := Tryz.checked) (X := fun w _ => laidMetH Tryz.prog Rows.buildRunsRow.laid w) (fun _ _ _ hh h => h.of_heap hh) own started (by kernel_rfl) Tryz.func6
  (ChangeSpec.witness_shaped (enc := enc) (C := Tryz.checked) (os := os) (X := fun w _ => laidMetH Tryz.prog Rows.buildRunsRow.laid w) false ((World.doorLaid Tryz.prog 400 os).layVars Tryz.prog (Rows.buildRunsRow.laid.filter fun x => x.2.handleName?.isNone)) #[.slice none 0 0, .slice none 0 0, .slice none 0 0, .int .i64 0, .slice none 0 0] 8 (World.layVars_os _ _ _) (World.shaped_of_ZipB (by kernel_rfl) (by kernel_rfl)) (by kernel_rfl) (by kernel_rfl) (by kernel_rfl) (start_met os _)) ?_
 intro W base args ds gs before hval0 hW _ hsz0 hL hsh _
 have hval : ∀ (j : Nat) t v, Tryz.f6.params[j]? = some t → args[j]? = some v → Value.okWide Tryz.prog W .any base t v := hval0
 have hsz : (DataW.weightsEach Tryz.prog (Tryz.f6.params.toList ++ Rows.buildRunsSpec.plain.varTypes Tryz.prog) (ds ++ gs)).all (· ≤ reachBytes) = true := hsz0
 clear hsz0
 have hW' := hW
 obtain ⟨p, q, hA0, hV, rfl, hfz, hnd⟩ := hW
 have hA : DataW.TrodAll enc Tryz.prog W 0 (fun _ => true) true Tryz.f6.params.toList args.toList ds p := hA0
 rw [Tryz.params6] at hA hval hsz
 obtain ⟨v0, vs0, d0, ds0, p0, q0, hargs, rfl, rfl, h0, r0⟩ := trodAll_cons hA
 obtain ⟨v1, vs1, d1, ds1, p1, q1, rfl, rfl, rfl, h1, r1⟩ := trodAll_cons r0
 obtain ⟨v2, vs2, d2, ds2, p2, q2, rfl, rfl, rfl, h2, r2⟩ := trodAll_cons r1
 obtain ⟨v3, vs3, d3, ds3, p3, q3, rfl, rfl, rfl, h3, r3⟩ := trodAll_cons r2
 obtain ⟨v4, vs4, d4, ds4, p4, q4, rfl, rfl, rfl, h4, r4⟩ := trodAll_cons r3
 obtain ⟨rfl, rfl, rfl⟩ := trodAll_nil r4
 obtain rfl : args = #[v0, v1, v2, v3, v4] := by cases args; simp_all
 obtain ⟨rfl, rfl⟩ := trodVars_none hV
 have k0 := h0
 have lt0 : ∀ x ∈ p0, x.block < W.heap.size := by obtain ⟨m, hm⟩ := k0; exact DataW.trod_lt m _ _ _ hm
 have rc0 := reach_arg hsz (j := 0) (t := 22) (d := d0) rfl rfl
 obtain ⟨a0, len0, cap0, rfl⟩ := okWide_slice Tryz.underlying22 (hval 0 22 v0 rfl rfl)
 obtain ⟨fuel0, hf0⟩ := h0
 obtain ⟨l0, hlen0, rd0, rb0⟩ := open_files (x := (d0, p0)) (by simpa [Value.cells] using hf0) rc0
 have k1 := h1
 have lt1 : ∀ x ∈ p1, x.block < W.heap.size := by obtain ⟨m, hm⟩ := k1; exact DataW.trod_lt m _ _ _ hm
 have rc1 := reach_arg hsz (j := 1) (t := 23) (d := d1) rfl rfl
 obtain ⟨a1, len1, cap1, rfl⟩ := okWide_slice Tryz.underlying23 (hval 1 23 v1 rfl rfl)
 obtain ⟨fuel1, hf1⟩ := h1
 obtain ⟨l1, hlen1, rd1, rb1⟩ := open_rules (x := (d1, p1)) (by simpa [Value.cells] using hf1) rc1
 have k2 := h2
 have lt2 : ∀ x ∈ p2, x.block < W.heap.size := by obtain ⟨m, hm⟩ := k2; exact DataW.trod_lt m _ _ _ hm
 have rc2 := reach_arg hsz (j := 2) (t := 53) (d := d2) rfl rfl
 obtain ⟨l2, rd2⟩ := open_texts h2 (hval 2 53 v2 rfl rfl)
 obtain ⟨z3, rfl, rfl, rfl, wz3⟩ := open_int Tryz.underlying3 (hval 3 3 v3 rfl rfl) h3
 have k4 := h4
 have lt4 : ∀ x ∈ p4, x.block < W.heap.size := by obtain ⟨m, hm⟩ := k4; exact DataW.trod_lt m _ _ _ hm
 have rc4 := reach_arg hsz (j := 4) (t := 46) (d := d4) rfl rfl
 obtain ⟨a4, len4, cap4, rfl⟩ := okWide_slice Tryz.underlying46 (hval 4 46 v4 rfl rfl)
 obtain ⟨fuel4, hf4⟩ := h4
 obtain ⟨l4, hlen4, rd4, rb4⟩ := open_nums64 (x := (d4, p4)) (by simpa [Value.cells] using hf4) rc4
 clear hA0 hval0
 simp only [List.append_nil] at hW'
 obtain ⟨pt, hs⟩ := sents hL
 have hmax := max_of hsh
 have hav := atoi_of hL
 have hpow := pow_of hL
 have walk : Calls Tryz.prog 6 #[.slice a0 len0 cap0, .slice a1 len1 cap1, v2, .int .i64 z3, .slice a4 len4 cap4] W fun e w' => e = .returned (.bool true) ∧ Ext W w' :=
  walkBuildRuns W pt l0 _ _ _ _ l1 l2 z3 l4 rd0 rd1 rd2 rd4 ⟨hs.errs _, hmax, hav, hpow⟩ hs
 refine walk.mono fun e W' ⟨he, hext⟩ => ?_
 subst he
 have bel := hext.extBelow
 exact ⟨_, rfl, _, _, _, [], _, [], hW', trodAll_mk1 (shut_bool Tryz.underlying4 _), (trodAll_cons_mk (Below.trod laidOut (by kernel_rfl) (of_decide_eq_true (by kernel_rfl)) k0 bel lt0) (trodAll_cons_mk (Below.trod laidOut (by kernel_rfl) (of_decide_eq_true (by kernel_rfl)) k1 bel lt1) (trodAll_cons_mk (Below.trod laidOut (by kernel_rfl) (of_decide_eq_true (by kernel_rfl)) k2 bel lt2) (trodAll_cons_mk (shut_int Tryz.underlying3 wz3) (trodAll_cons_mk (Below.trod laidOut (by kernel_rfl) (of_decide_eq_true (by kernel_rfl)) k4 bel lt4) trodAll_mk0))))), rfl, bel.frame _, fun h => by cases h⟩

theorem fnNamed : Tryz.pinned.checked.prog.funcNamed Rows.buildRunsRow.func = some 6 := by kernel_rfl
theorem facts : joinedFacts Tryz.pinned.checked.prog 6 Tryz.f6 Rows.buildRunsSpec Rows.buildRunsRow = true := buildRunsFacts.facts
theorem inst : Tryz.f6.isInstance Tryz.pinned.checked.prog Rows.buildRunsRow.origin Rows.buildRunsRow.targs := of_decide_eq_true (by kernel_rfl)
theorem wrap : Tryz.f6.isWrapper Tryz.pinned.checked.prog Rows.buildRunsRow.wrapper Rows.buildRunsRow.mainSum := by
 unfold Func.isWrapper
 first | (rw [if_pos (by decide +kernel)]; kernel_rfl) | (rw [if_neg (by decide +kernel)]; exact ⟨rfl, rfl⟩)
theorem said : Rows.BuildRunsSaid :=
 OpenClaim.holds_of_wide 6 Tryz.f6 rfl rfl rfl rfl rfl rfl rfl ⟨rfl, rfl, rfl, rfl, rfl⟩ rfl rfl rfl rfl rfl fnNamed Tryz.func6 facts
  inst wrap (fun os started H enc _ => lifted os started H enc)
end Go.Proofs.YtnmhaipjfpongacGreatDoor.buildRunsDone

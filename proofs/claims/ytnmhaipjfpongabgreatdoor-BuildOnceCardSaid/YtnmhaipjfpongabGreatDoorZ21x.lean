/- BuildOnce's walk. No condition but how rules, files and numbers lie, and what the variables hold. -/
import Derived.Test.YtnmhaipjfpongabGreatDoorGn
import Derived.Test.YtnmhaipjfpongabGreatDoorZ15x
import Derived.Test.YtnmhaipjfpongabGreatDoorGm
import Derived.Test.YtnmhaipjfpongabGreatDoorJ6x
namespace Go.Proofs.YtnmhaipjfpongabGreatDoor
open Go.ChangeShapes Go.WideShapes Go.ChangeAt Go.RowKit

set_option maxRecDepth 100000 in
set_option maxHeartbeats 16000000 in
theorem walkBuildOnce (w : World) (P : Nat → Addr) (fs : FL) (v0 v1 v2 : Value) (l : List Rule) (rs : List Int) (hv0 : RdS 2 encF w v0 fs) (hv1 : RdR w v1 l) (hv2 : Rd I w v2 rs) (hV : PV w P [1, 2, 3, 4, 5, 6, 7, 8, 9, 10, 11]) :
    Calls Tryz.prog 10 #[v0, v1, v2] w (RetE (.bool true) w) := by
  have H0 := Lib.hid hv0
  have H1 := Lib.hid hv1
  have H2 := Lib.hid hv2
  have HVV := Lib.hid hV
  have HBU := Lib.hid (built_any w P hV)
  obtain ⟨a0, p0, rfl, _, _, _⟩ := hv0
  obtain ⟨a1, p1, rfl, _, _, hc1⟩ := hv1
  obtain ⟨a2, p2, rfl, _, hm2, hc2⟩ := hv2
  have HC1 := Lib.hid hc1
  have HC2 := Lib.hid hc2
  have hr2 : rs.length ≤ 9223372036854775807 := by unfold maxLen at hm2; omega
  clear hV hc1 hc2 hm2
  go_enter Tryz.func10, Tryz.ntmps10
  go_wp2_with fail
  refine (HBU.out).mono ?_
  rintro e w1 ⟨rfl, ho⟩
  have HX1 := Lib.hid ho
  clear ho
  go_wp2_with fail
  refine (longFiles2_any w1 _ fs (RdS.ext H0.out HX1.out)).mono ?_
  rintro e w2 ⟨r, rfl, hz, rfl⟩
  have HZ0 := Lib.hid hz
  clear hz
  cases r with
  | true =>
    go_wp2_with fail
    go_ret
    exact ⟨rfl, HX1.out⟩
  | false =>
    go_wp2_with fail
    refine (longRules_any w1 _ l 12 (H1.out.ext HX1.out)).mono ?_
    rintro e w2 ⟨⟨r, rfl, hr, hz⟩, rfl⟩
    have HZ2 := Lib.hid hz
    clear hz
    rcases hr with rfl | rfl
    case inr =>
      go_wp2_with fail
      go_ret
      exact ⟨rfl, HX1.out⟩
    case inl =>
      have HSH := Lib.hid (HZ2.out rfl).2
      have HSM : Hid (∀ r ∈ l, RuleSm 900000 r) := Lib.hid (fun r hr => (HSH.out r hr).sm)
      have h41 : l.length ≤ 41 := by rcases (HZ2.out rfl).1 with h | h <;> omega
      have hlz : (l.length : Int) ≤ 41 := by omega
      have HIL : Hid (∀ r ∈ l, r.ins.length ≤ 1000000) := Lib.hid (fun r hr => by have := (HSH.out r hr).many; omega)
      have HSS : Hid (∀ r ∈ l, ShortR r) := HSH
      have hf30 := (HZ0.out (by simp)).1
      have HFP := Lib.hid (HZ0.out (by simp)).2
      clear HZ2 HSH HZ0
      by_cases hlo : (60 : Int) < (rs.length : Int)
      · go_wp2_with fail
        go_ret
        exact ⟨rfl, HX1.out⟩
      have hrz : (rs.length : Int) ≤ 60 := by omega
      go_wp2_with fail
      refine (fileTree2_any w1 P _ fs (RdS.ext H0.out HX1.out) (by omega) HFP.out ((HVV.out.ext HX1.out).errs.sub (by decide)) (HVV.out.ext HX1.out).max).mono ?_
      rintro e w3 ⟨b1, mb1, m1, slv1, rfl, hT1⟩
      have HX3 := Lib.hid (HX1.out.then hT1.ext)
      have HTR : Hid (TreeAt w3 b1 mb1 (treeOfF fs)) := Lib.hid hT1.tree
      have HFT : Hid (FTree (treeOfF fs)) := Lib.hid (by have := ftree_of HFP.out fs.length; rwa [List.take_length] at this)
      clear hT1 hlo
      generalize treeOfF fs = T at HTR HFT
      go_wp2_with fail
      obtain ⟨bs, hbs⟩ : ∃ bs, bs = w3.heap.size := ⟨_, rfl⟩
      have HBS : Hid (w3.heap.size ≤ bs ∧ bs ≤ w3.heap.size) := Lib.hid ⟨by omega, by omega⟩
      clear hbs
      go_loopw [10, 11] (fun q i wr => ∃ (j : Nat) (qv : Value), qv = q ∧ j ≤ l.length ∧ i = .int .i64 j ∧ Hid (Row bs wr qv ((l.take j).map Rule.out)) ∧ Hid (Ext w3 wr)) (fun _ i _ => l.length - (intOf i).toNat)
      case atStart => exact ⟨0, _, rfl, Nat.zero_le _, rfl, Lib.hid (Row.nil _ _), Lib.hid (Only.refl _ _)⟩
      case round =>
        obtain ⟨j, qv, rfl, hj, rfl, HQ, HX⟩ := hrel
        by_cases hlt : j < l.length
        · have hltz : (j : Int) < (l.length : Int) := by omega
          have hj0 : (0 : Int) ≤ (j : Int) := by omega
          obtain ⟨b, off, rfl, hcell⟩ := HC1.out (by intro h; rw [h] at hlt; simp at hlt)
          obtain ⟨r, hq⟩ : ∃ y, l[j]? = some y := ⟨_, List.getElem?_eq_getElem hlt⟩
          obtain ⟨u, hu, c0, _, _, _⟩ := hcell j r hq
          have d0 := (HX3.out.then HX.out).cellOf c0 (fun h => h)
          have HTK : Hid ((l.take (j + 1)).map Rule.out = (l.take j).map Rule.out ++ [r.out]) := Lib.hid (by rw [List.take_add_one, hq]; simp)
          have HQL : Hid (((l.take j).map Rule.out).length ≤ 1000000) := Lib.hid (by rw [List.length_map, List.length_take]; omega)
          clear hcell hq hu c0
          generalize (l.take j).map Rule.out = os at HQ HTK HQL
          go_wp2_with (at_builtin; refine wpText rfl (.tmp 56) (.tmp 62) w3 bs _ os r.out wr rfl rfl rfl rfl HQ.out HQL.out (Nat.le_trans HBS.out.2 HX.out.size) HX.out HBS.out.1 ?_; intro g5 cap5 w5 HR5 HX5 _)
          go_roundw
          case rel => exact ⟨j + 1, _, rfl, by omega, by go_num, by rw [HTK.out]; exact HR5, HX5⟩
          case measure => simp [intOf]; omega
        · -- THE END OF LOOP 1
          have hltz : ¬ (j : Int) < (l.length : Int) := by omega
          rw [List.take_of_length_le (by omega)] at HQ
          obtain ⟨os, hos⟩ : ∃ os, os = l.map Rule.out := ⟨_, rfl⟩
          rw [← hos] at HQ
          have HOS := Lib.hid hos
          have hol : os.length ≤ 1000 := by rw [hos, List.length_map]; omega
          have HOL := Lib.hid hol
          clear hos hol hj hlt
          have hrdq := HQ.out.rd
          obtain ⟨aq, pq, rfl, _, _, _⟩ := hrdq
          go_wp2_with fail
          refine (ownRules_any wr _ l (H1.out.ext (HX3.out.then HX.out)) (by omega) HIL.out).mono ?_
          rintro e w5 ⟨v5, rfl, hr5, ho5⟩
          have HX5 := Lib.hid ((HX3.out.then HX.out).then ho5)
          have HNEW := Lib.hid (new_any w5 P b1 mb1 T v5 (.slice aq os.length pq) none l os (HTR.out.ext (HX.out.then ho5)) hr5 (HQ.out.rd.ext ho5) HOL.out HSM.out ((HVV.out.ext HX5.out).sub (by decide)))
          obtain ⟨a5, p5, rfl, _, _, _⟩ := hr5
          clear ho5
          go_wp2_with fail
          refine HNEW.out.mono ?_
          rintro e w6 ⟨vb, ev, rfl, he, ho6, hcase⟩
          have HX6 := Lib.hid (HX5.out.then ho6)
          rcases hcase with ⟨hf, rfl⟩ | ⟨hf, K, rfl, hcp, hb6⟩
          · obtain ⟨t, p, rfl⟩ := he.some hf
            clear he ho6 hf hltz
            go_wp2_with fail
            go_ret
            exact ⟨rfl, HX6.out⟩
          · obtain rfl := he.zero hf
            obtain ⟨hrs, _, o, hpo⟩ := newFault_ok hf
            have hall : needL l os = List.range l.length := by rw [HOS.out]; exact need_rng hrs.2.2
            have HWL : Hid (OnceW (newE l os T) o (fun i => (needL l os).contains i) l) := Lib.hid ⟨new_well hrs hpo HFT.out.bytes, rfl, hall⟩
            have HLN : Hid (BLens (newE l os T)) := Lib.hid (BLens.of hrs HSS.out (fun i hi => by rw [hall] at hi; exact List.mem_range.1 hi) (by rw [hall, List.length_range]; omega))
            generalize (fun i => (needL l os).contains i) = is at HWL
            generalize newE l os T = E at HWL HLN hb6
            have HCP := Lib.hid hcp
            have HSL : Hid (E.sm.length = l.length) := Lib.hid (by rw [HWL.out.all, List.length_range])
            have HBG : Hid (∀ i, InBld E K i → w5.heap.size ≤ i) := Lib.hid (fun i hi => hb6.ge i hi)
            have HO0 : Hid (OnceAt (w6.alloc (.cells (Array.replicate l.length (.bool false)) 4 (0, 0))) (w6.alloc (.cells (Array.replicate l.length (.bool false)) 4 (0, 0))) P w5.heap.size E K w6.heap.size l.length .new (ranP .new)) := Lib.hid ⟨hb6.ext (Only.alloc _ _ _), BInv.new _, Only.refl _ _, (TabAt.made w6 4 l.length (.bool false)).congr (fun k _ => rfl), fun h => by have := hb6.lt _ h; omega⟩
            have hmk := run_marks' l.length (by omega)
            have HXB : Hid (Ext w (w6.alloc (.cells (Array.replicate l.length (.bool false)) 4 (0, 0)))) := Lib.hid (HX6.out.thenAlloc _)
            have h5 := HX5.out.size
            have h6 := HX6.out.size
            clear he ho6 hf hrs hpo hall hb6 hcp hltz HNEW HTR HFT HQ HX
            go_wp2_with fail
            clear hmk
            go_loopw [15, 16, 17, 18, 19, 20, 21, 22] (fun i _ _ _ _ _ _ _ wr => ∃ (j : Nat) (s : BS), j ≤ rs.length + l.length ∧ i = .int .i64 j ∧ Hid (OnceAt (w6.alloc (.cells (Array.replicate l.length (.bool false)) 4 (0, 0))) wr P w5.heap.size E K w6.heap.size l.length s (ranP s)) ∧ Hid (Prog E s (j - rs.length))) (fun i _ _ _ _ _ _ _ _ => rs.length + l.length - (intOf i).toNat)
            case atStart => exact ⟨0, .new, Nat.zero_le _, rfl, HO0, Lib.hid (by rw [Nat.zero_sub]; exact prog_zero _ _)⟩
            case round =>
              clear HO0
              obtain ⟨j, s, hj, rfl, HO, HPR⟩ := hrel
              have HXV : Hid (Ext w wr) := Lib.hid (HO.out.vars HXB.out h5 (fun i hi => HBG.out i hi.bld) h6)
              by_cases hlt : j < rs.length + l.length
              · have hltz : (j : Int) < (rs.length : Int) + (l.length : Int) := by omega
                have hj0 : (0 : Int) ≤ (j : Int) := by omega
                have HRL := Lib.hid (readyL_any HO.out.bld HWL.out.well HLN.out.many HLN.out.few)
                obtain ⟨R, hR⟩ : ∃ R, R = readyL E s := ⟨_, rfl⟩
                rw [← hR] at HRL
                have HRM : Hid (∀ p ∈ R, p < l.length ∧ s.st p = 1 ∧ ∀ k, k < l.length → needB l p k = true → s.st k = 2) := Lib.hid (fun p hp => by
                  rw [hR] at hp
                  obtain ⟨h1, h2⟩ := List.mem_filter.1 hp
                  obtain ⟨h3, h4⟩ := ready_iff.1 h2
                  exact ⟨HWL.out.mem.1 h1, h3, fun k hk hn => h4 k (HWL.out.mem.2 hk) (by rw [HWL.out.nd]; exact hn)⟩)
                have HRQ := Lib.hid hR
                clear hR
                go_wp2_with fail
                refine HRL.out.mono ?_
                rintro e w7 ⟨v7, rfl, hr7, ho7⟩
                have HO7 := Lib.hid (HO.out.grow ho7)
                have HR7 := Lib.hid hr7.rd
                obtain ⟨a7, p7, rfl, _, hm7, hc7⟩ := hr7.rd
                have HC7 := Lib.hid hc7
                have hRl : R.length ≤ 41 := by
                  rw [HRQ.out]
                  have := List.length_filter_le (readyP E s) E.sm
                  have := HSL.out
                  unfold readyL
                  omega
                have hRlz : (R.length : Int) ≤ 41 := by omega
                clear hr7 ho7 hm7 hc7
                go_wp2_with fail
                go_loopw [17, 18, 19] (fun i _ _ wx => ∃ (t : Nat), t ≤ R.length ∧ i = .int .i64 t ∧ Hid (OnceAt (w6.alloc (.cells (Array.replicate l.length (.bool false)) 4 (0, 0))) wx P w5.heap.size E K w6.heap.size l.length s (ranP s)) ∧ Hid (Ext w7 wx)) (fun i _ _ _ => R.length - (intOf i).toNat)
                case atStart => exact ⟨0, Nat.zero_le _, rfl, HO7, Lib.hid (Only.refl _ _)⟩
                case round =>
                  clear HO7
                  obtain ⟨t, ht, rfl, HO8, HX8⟩ := hrel
                  by_cases htl : t < R.length
                  · have htz : (t : Int) < (R.length : Int) := by omega
                    have ht0 : (0 : Int) ≤ (t : Int) := by omega
                    have HTL := Lib.hid htl
                    obtain ⟨b7, off7, rfl, hcell7⟩ := HC7.out (by intro h; rw [h] at htl; simp at htl)
                    obtain ⟨p, hp⟩ : ∃ y, R[t]? = some y := ⟨_, List.getElem?_eq_getElem htl⟩
                    have dp := HX8.out.cellOf (hcell7 t p hp) (fun h => h)
                    obtain ⟨hpl, hp1, hpn⟩ := HRM.out p (List.mem_of_getElem? hp)
                    have hpz : (p : Int) < (l.length : Int) := by omega
                    have hp0 : ¬ (p : Int) < 0 := by omega
                    have hp2 : ¬ (l.length : Int) ≤ (p : Int) := by omega
                    have hp3 : (0 : Int) ≤ (p : Int) := by omega
                    have hst := state_any HO8.out.bld HO8.out.inv (p : Int)
                    rw [stateZ_in (HWL.out.mem.2 hpl), hp1, show stateB 1 = [119, 97, 105, 116, 115] from rfl] at hst
                    have HST := Lib.hid hst
                    have HPL := Lib.hid hpl
                    have HPN := Lib.hid hpn
                    clear hcell7 hp hpl hp1 hpn hst
                    go_wp2_with fail
                    refine HST.out.mono ?_
                    rintro e w9 ⟨rfl, ho9⟩
                    have HO9 := Lib.hid (HO8.out.grow ho9)
                    have HX9 := Lib.hid (HX8.out.then ho9)
                    clear ho9
                    go_wp2_with fail
                    go_loopw [19] (fun i wy => ∃ (k : Nat), k ≤ l.length ∧ i = .int .i64 k ∧ Hid (OnceAt (w6.alloc (.cells (Array.replicate l.length (.bool false)) 4 (0, 0))) wy P w5.heap.size E K w6.heap.size l.length s (ranP s)) ∧ Hid (Ext w7 wy)) (fun i _ => l.length - (intOf i).toNat)
                    case atStart => exact ⟨0, Nat.zero_le _, rfl, HO9, HX9⟩
                    case round =>
                      clear HO9 HX9 HO8 HX8
                      obtain ⟨k, hk, rfl, HO8, HX8⟩ := hrel
                      by_cases hkl : k < l.length
                      · have hkz : (k : Int) < (l.length : Int) := by omega
                        have hk0 : (0 : Int) ≤ (k : Int) := by omega
                        have HKL := Lib.hid hkl
                        have hnr := needsRule_any wr _ l p k HPL.out hkl (H1.out.ext (HO8.out.vars HXB.out h5 (fun i hi => HBG.out i hi.bld) h6))
                        cases hq : needB l p k with
                        | true =>
                          rw [hq] at hnr
                          have hst := state_any HO8.out.bld HO8.out.inv (k : Int)
                          rw [stateZ_in (HWL.out.mem.2 hkl), HPN.out k hkl hq, show stateB 2 = [100, 111, 110, 101] from rfl] at hst
                          have HNR := Lib.hid hnr
                          have HST2 := Lib.hid (fun w10 (ho : Ext wr w10) => (by
                            have h := state_any (HO8.out.bld.ext ho) HO8.out.inv (k : Int)
                            rewrite [stateZ_in (HWL.out.mem.2 hkl), HPN.out k hkl hq, show stateB 2 = [100, 111, 110, 101] from rfl] at h
                            exact h))
                          clear hst hq hnr hkl
                          go_wp2_with fail
                          refine HNR.out.mono ?_
                          rintro e w10 ⟨rfl, ho10⟩
                          have HO10 := Lib.hid (HO8.out.grow ho10)
                          have HX10 := Lib.hid (HX8.out.then ho10)
                          have HST3 := Lib.hid (HST2.out w10 ho10)
                          clear ho10
                          go_wp2_with fail
                          refine HST3.out.mono ?_
                          rintro e w11 ⟨rfl, ho11⟩
                          have HO11 := Lib.hid (HO10.out.grow ho11)
                          have HX11 := Lib.hid (HX10.out.then ho11)
                          clear ho11
                          go_wp2_with fail
                          go_roundw
                          case rel => exact ⟨k + 1, by have := HKL.out; omega, by go_num, HO11, HX11⟩
                          case measure => have := HKL.out; simp [intOf]; omega
                        | false =>
                          rw [hq] at hnr
                          have HNR := Lib.hid hnr
                          clear hq hnr hkl
                          go_wp2_with fail
                          refine HNR.out.mono ?_
                          rintro e w10 ⟨rfl, ho10⟩
                          have HO10 := Lib.hid (HO8.out.grow ho10)
                          have HX10 := Lib.hid (HX8.out.then ho10)
                          clear ho10
                          go_wp2_with fail
                          go_roundw
                          case rel => exact ⟨k + 1, by have := HKL.out; omega, by go_num, HO10, HX10⟩
                          case measure => have := HKL.out; simp [intOf]; omega
                      · have hkz : ¬ (k : Int) < (l.length : Int) := by omega
                        clear hkl hk
                        go_wp2_with fail
                        go_roundw
                        case rel => exact ⟨t + 1, by have := HTL.out; omega, by go_num, HO8, HX8⟩
                        case measure => have := HTL.out; simp [intOf]; omega
                  · have htz : ¬ (t : Int) < (R.length : Int) := by omega
                    clear htl ht
                    by_cases hjr : j < rs.length
                    · have hjz : (j : Int) < (rs.length : Int) := by omega
                      obtain ⟨b2, off2, rfl, hcell2⟩ := HC2.out (by intro h; rw [h] at hjr; simp at hjr)
                      obtain ⟨z, hz⟩ : ∃ y, rs[j]? = some y := ⟨_, List.getElem?_eq_getElem hjr⟩
                      have dz := (HO8.out.vars HXB.out h5 (fun i hi => HBG.out i hi.bld) h6).cellOf (hcell2 j z hz) (fun h => h)
                      have HPZ : Hid (∀ s' c, RanIs E s s' z c → Prog E s' (j + 1 - rs.length)) := Lib.hid (fun s' _ _ => by rw [show j + 1 - rs.length = 0 by omega]; exact prog_zero _ _)
                      clear hcell2 hz hjr
                      have HRUN := Lib.hid (HO8.out.runs HCP.out HWL.out.well HLN.out ((HVV.out.ext (HO8.out.vars HXB.out h5 (fun i hi => HBG.out i hi.bld) h6)).sub (by decide)) z)
                      go_wp2_with fail
                      refine HRUN.out.mono ?_
                      rintro e w9 ⟨b, c, s', rfl, ho9, hcase⟩
                      have HPN := Lib.hid (HPZ.out _ _ hcase)
                      rcases hcase with ⟨hc, rfl, _⟩ | ⟨rfl, i, hi, hzi, hr, hs'⟩
                      · obtain ⟨c', rfl⟩ : ∃ c', c = c' + 1 := ⟨c - 1, by omega⟩
                        rw [show errC P (c' + 1) = errV (P c') from rfl]
                        have HO9 := Lib.hid ho9
                        clear ho9 hc
                        go_wp2_with fail
                        go_roundw
                        case rel => exact ⟨j + 1, _, by omega, by go_num, HO9, HPN⟩
                        case measure => simp [intOf]; omega
                      · rw [show errC P 0 = .nilIface from rfl]
                        have hil := HWL.out.mem.1 hi
                        have hiz : (i : Int) < (l.length : Int) := by omega
                        have hi0 : ¬ (i : Int) < 0 := by omega
                        have hi1 : (0 : Int) ≤ (i : Int) := by omega
                        have hi2 : ¬ (l.length : Int) ≤ (i : Int) := by omega
                        have d0 := ho9.tab.cell hil
                        rw [ready_not_ran hr] at d0
                        have f0 := ho9.tab.free i
                        have HO9 : Hid (OnceAt (w6.alloc (.cells (Array.replicate l.length (.bool false)) 4 (0, 0))) (w9.setCell ⟨w6.heap.size, i, none⟩ (.bool true)) P w5.heap.size E K w6.heap.size l.length s' (ranP s')) := Lib.hid (ho9.mark i (fun k _ => hs' k))
                        clear ho9 hi hil hr hs'
                        rw [hzi]
                        clear hzi
                        go_wp2_with fail
                        go_roundw
                        case rel => exact ⟨j + 1, _, by omega, by go_num, HO9, HPN⟩
                        case measure => simp [intOf]; omega
                    · have hjz : ¬ (j : Int) < (rs.length : Int) := by omega
                      by_cases hRp : 0 < R.length
                      case neg =>
                        have hRn : R = [] := List.length_eq_zero_iff.1 (by omega)
                        have hRp0 : ¬ (0 : Int) < (R.length : Int) := by omega
                        have hne : ∀ k, k < l.length → s.st k ≠ 1 := fun k hk => HWL.out.well.over HO8.out.inv (fun i hi => by
                          cases hr : readyP E s i with
                          | false => rfl
                          | true =>
                            have h9 : i ∈ readyL E s := List.mem_filter.2 ⟨hi, hr⟩
                            rw [← HRQ.out, hRn] at h9
                            cases h9) k (HWL.out.mem.2 hk)
                        have HO := HO8
                        clear HO8 hjr hRp hRn
                        have HNE := Lib.hid hne
                        have HNG : Hid (∀ k, k < l.length → s.st k = 2 ∨ s.st k = 3 ∨ s.st k = 4) := Lib.hid (fun k hk => by
                          have h1 := HO.out.inv.rng k (HWL.out.mem.2 hk)
                          have h2 := hne k hk
                          omega)
                        have hov := over_any HO.out.bld HWL.out.well.rise HLN.out.few
                        have HOV := Lib.hid (show overP E s = true by
                          unfold overP
                          rw [List.filter_eq_nil_iff.2 (fun k hk => by have := hne k (HWL.out.mem.1 hk); simpa using this)]
                          rfl)
                        clear hne hov hlt hj
                        go_wp2_with fail
                        go_loopw [23, 24, 25, 26] (fun i _ _ _ wx => ∃ (k : Nat), k ≤ l.length ∧ i = .int .i64 k ∧ Hid (OnceAt (w6.alloc (.cells (Array.replicate l.length (.bool false)) 4 (0, 0))) wx P w5.heap.size E K w6.heap.size l.length s (ranP s))) (fun i _ _ _ _ => l.length - (intOf i).toNat)
                        case atStart => exact ⟨0, Nat.zero_le _, rfl, HO⟩
                        case round =>
                          clear HO
                          obtain ⟨k, hk, rfl, HO⟩ := hrel
                          by_cases hkl : k < l.length
                          · have hkz : (k : Int) < (l.length : Int) := by omega
                            have hk0 : (0 : Int) ≤ (k : Int) := by omega
                            have HKL := Lib.hid hkl
                            obtain ⟨sv, hsv⟩ : ∃ sv, sv = stateB (s.st k) := ⟨_, rfl⟩
                            have hst := state_any HO.out.bld HO.out.inv (k : Int)
                            rw [stateZ_in (HWL.out.mem.2 hkl), ← hsv] at hst
                            have HST := Lib.hid hst
                            have HSV := Lib.hid hsv
                            clear hst hsv hkl
                            go_wp2_with fail
                            refine HST.out.mono ?_
                            rintro e w7 ⟨rfl, ho7⟩
                            have HO7 := Lib.hid (HO.out.grow ho7)
                            clear ho7
                            go_wp2_with fail
                            go_loopw [25, 26] (fun f i wy => ∃ (t : Nat), t ≤ l.length ∧ f = .bool (badP l s k t) ∧ i = .int .i64 t ∧ Hid (OnceAt (w6.alloc (.cells (Array.replicate l.length (.bool false)) 4 (0, 0))) wy P w5.heap.size E K w6.heap.size l.length s (ranP s))) (fun _ i _ => l.length - (intOf i).toNat)
                            case atStart => exact ⟨0, Nat.zero_le _, rfl, rfl, HO7⟩
                            case round =>
                              clear HO7 HO
                              obtain ⟨t, ht, rfl, rfl, HO⟩ := hrel
                              by_cases htl : t < l.length
                              · have htz : (t : Int) < (l.length : Int) := by omega
                                have ht0 : (0 : Int) ≤ (t : Int) := by omega
                                have HTL := Lib.hid htl
                                have hnr := needsRule_any wr _ l k t HKL.out htl (H1.out.ext (HO.out.vars HXB.out h5 (fun i hi => HBG.out i hi.bld) h6))
                                have HSTt := Lib.hid (fun w10 (ho : Ext wr w10) => (by
                                  have h := state_any (HO.out.bld.ext ho) HO.out.inv (t : Int)
                                  rewrite [stateZ_in (HWL.out.mem.2 htl)] at h
                                  exact h))
                                have HBS := Lib.hid (badP_step (l := l) (s := s) (i := k) (t := t))
                                generalize badP l s k t = f at *
                                cases hq : needB l k t with
                                | false =>
                                  rw [hq] at hnr
                                  have HNR := Lib.hid hnr
                                  have HF : Hid (f = badP l s k (t + 1)) := Lib.hid (by rw [HBS.out, hq]; simp)
                                  clear hq hnr htl
                                  go_wp2_with fail
                                  refine HNR.out.mono ?_
                                  rintro e w10 ⟨rfl, ho10⟩
                                  have HO10 := Lib.hid (HO.out.grow ho10)
                                  clear ho10
                                  go_wp2_with fail
                                  go_roundw
                                  case rel => exact ⟨t + 1, by have := HTL.out; omega, by rw [HF.out], by go_num, HO10⟩
                                  case measure => have := HTL.out; simp [intOf]; omega
                                | true =>
                                  rw [hq] at hnr
                                  have HNR := Lib.hid hnr
                                  have HF : Hid (badP l s k (t + 1) = (f || decide (3 ≤ s.st t))) := Lib.hid (by rw [HBS.out, hq, Bool.true_and])
                                  clear hq hnr
                                  go_wp2_with fail
                                  refine HNR.out.mono ?_
                                  rintro e w10 ⟨rfl, ho10⟩
                                  have HO10 := Lib.hid (HO.out.grow ho10)
                                  have hs10 := HSTt.out w10 ho10
                                  have hng := HNG.out t htl
                                  generalize s.st t = n at hs10 hng HF HSTt
                                  rcases hng with rfl | rfl | rfl
                                  · rw [show stateB 2 = [100, 111, 110, 101] from rfl] at hs10
                                    have hs2 := fun w11 ho => HSTt.out w11 ho
                                    rw [show stateB 2 = [100, 111, 110, 101] from rfl] at hs2
                                    have HA := Lib.hid hs10
                                    have HA2 := Lib.hid (fun w11 (ho : Ext w10 w11) => hs2 w11 (ho10.then ho))
                                    clear hs10 hs2 ho10 htl
                                    go_wp2_with fail
                                    refine HA.out.mono ?_
                                    rintro e w11 ⟨rfl, ho11⟩
                                    have HO11 := Lib.hid (HO10.out.grow ho11)
                                    have HA3 := Lib.hid (HA2.out w11 ho11)
                                    clear ho11
                                    go_wp2_with fail
                                    refine HA3.out.mono ?_
                                    rintro e w12 ⟨rfl, ho12⟩
                                    have HO12 := Lib.hid (HO11.out.grow ho12)
                                    clear ho12
                                    go_wp2_with fail
                                    go_roundw
                                    case rel => exact ⟨t + 1, by have := HTL.out; omega, by rw [HF.out]; simp, by go_num, HO12⟩
                                    case measure => have := HTL.out; simp [intOf]; omega
                                  · rw [show stateB 3 = [102, 97, 105, 108, 101, 100] from rfl] at hs10
                                    have HA := Lib.hid hs10
                                    clear hs10 ho10 htl
                                    go_wp2_with fail
                                    refine HA.out.mono ?_
                                    rintro e w11 ⟨rfl, ho11⟩
                                    have HO11 := Lib.hid (HO10.out.grow ho11)
                                    clear ho11
                                    go_wp2_with fail
                                    go_roundw
                                    case rel => exact ⟨t + 1, by have := HTL.out; omega, by rw [HF.out]; simp, by go_num, HO11⟩
                                    case measure => have := HTL.out; simp [intOf]; omega
                                  · rw [show stateB 4 = [108, 101, 102, 116] from rfl] at hs10
                                    have hs2 := fun w11 ho => HSTt.out w11 ho
                                    rw [show stateB 4 = [108, 101, 102, 116] from rfl] at hs2
                                    have HA := Lib.hid hs10
                                    have HA2 := Lib.hid (fun w11 (ho : Ext w10 w11) => hs2 w11 (ho10.then ho))
                                    clear hs10 hs2 ho10 htl
                                    go_wp2_with fail
                                    refine HA.out.mono ?_
                                    rintro e w11 ⟨rfl, ho11⟩
                                    have HO11 := Lib.hid (HO10.out.grow ho11)
                                    have HA3 := Lib.hid (HA2.out w11 ho11)
                                    clear ho11
                                    go_wp2_with fail
                                    refine HA3.out.mono ?_
                                    rintro e w12 ⟨rfl, ho12⟩
                                    have HO12 := Lib.hid (HO11.out.grow ho12)
                                    clear ho12
                                    go_wp2_with fail
                                    go_roundw
                                    case rel => exact ⟨t + 1, by have := HTL.out; omega, by rw [HF.out]; simp, by go_num, HO12⟩
                                    case measure => have := HTL.out; simp [intOf]; omega
                              · have htz : ¬ (t : Int) < (l.length : Int) := by omega
                                have hbe := badP_end HWL.out HO.out.inv HKL.out (HNE.out k HKL.out)
                                rw [show t = l.length by omega, hbe]
                                have d0 := HO.out.tab.cell HKL.out
                                have hng := HNG.out k HKL.out
                                have hsv := HSV.out
                                have hk2 : ¬ (k : Int) < 0 := by omega
                                have hk3 : ¬ (l.length : Int) ≤ (k : Int) := by omega
                                unfold ranP at d0
                                generalize s.st k = n at d0 hng hsv
                                clear htl ht hbe
                                rcases hng with rfl | rfl | rfl
                                all_goals
                                  subst hsv
                                  go_wp2_with fail
                                  go_roundw
                                  case rel => exact ⟨k + 1, by have := HKL.out; omega, by go_num, HO⟩
                                  case measure => have := HKL.out; simp [intOf]; omega
                          · have hkz : ¬ (k : Int) < (l.length : Int) := by omega
                            have hov := over_any HO.out.bld HWL.out.well.rise HLN.out.few
                            rw [HOV.out] at hov
                            have HOV2 := Lib.hid hov
                            have HXE := Lib.hid (HO.out.vars HXB.out h5 (fun i hi => HBG.out i hi.bld) h6)
                            clear hov hkl hk
                            go_wp2_with fail
                            refine HOV2.out.mono ?_
                            rintro e w7 ⟨rfl, ho7⟩
                            have HXF := Lib.hid (HXE.out.then ho7)
                            clear ho7
                            go_wp2_with fail
                            go_ret
                            exact ⟨rfl, HXF.out⟩
                      case pos =>
                        have hRp0 : (0 : Int) < (R.length : Int) := by omega
                        have hRp1 : ¬ (R.length : Int) - 1 < 0 := by omega
                        have hRp2 : (R.length : Int) - 1 < (R.length : Int) := by omega
                        have hRp3 : ¬ (R.length : Int) ≤ (R.length : Int) - 1 := by omega
                        have hRp4 : (0 : Int) ≤ (R.length : Int) - 1 := by omega
                        obtain ⟨b7, off7, rfl, hcell7⟩ := HC7.out (by intro h; rw [h] at hRp; simp at hRp)
                        obtain ⟨p, hp⟩ : ∃ y, R[R.length - 1]? = some y := ⟨_, List.getElem?_eq_getElem (by omega)⟩
                        have dp := HX8.out.cellOf (hcell7 (R.length - 1) p hp) (fun h => h)
                        have dp' : wr.cell? ⟨b7, off7 + ((R.length : Int) - 1).toNat, none⟩ = some (IN p) := by rw [show ((R.length : Int) - 1).toNat = R.length - 1 by omega]; exact dp
                        have HPZ : Hid (∀ s' c, RanIs E s s' (p : Int) c → Prog E s' (j + 1 - rs.length)) := Lib.hid (fun s' _ h => by rw [show j + 1 - rs.length = j - rs.length + 1 by omega]; exact prog_round HWL.out.well HO8.out.inv h (.inr ⟨p, by rw [← HRQ.out]; exact List.mem_of_getElem? hp, rfl⟩) HPR.out)
                        clear hjr hcell7 hp hRp
                        have HRUN := Lib.hid (HO8.out.runs HCP.out HWL.out.well HLN.out ((HVV.out.ext (HO8.out.vars HXB.out h5 (fun i hi => HBG.out i hi.bld) h6)).sub (by decide)) (p : Int))
                        go_wp2_with fail
                        refine HRUN.out.mono ?_
                        rintro e w9 ⟨b, c, s', rfl, ho9, hcase⟩
                        have HPN := Lib.hid (HPZ.out _ _ hcase)
                        rcases hcase with ⟨hc, rfl, _⟩ | ⟨rfl, i, hi, hzi, hr, hs'⟩
                        · obtain ⟨c', rfl⟩ : ∃ c', c = c' + 1 := ⟨c - 1, by omega⟩
                          rw [show errC P (c' + 1) = errV (P c') from rfl]
                          have HO9 := Lib.hid ho9
                          clear ho9 hc
                          go_wp2_with fail
                          go_roundw
                          case rel => exact ⟨j + 1, _, by omega, by go_num, HO9, HPN⟩
                          case measure => simp [intOf]; omega
                        · rw [show errC P 0 = .nilIface from rfl]
                          have hil := HWL.out.mem.1 hi
                          have hiz : (i : Int) < (l.length : Int) := by omega
                          have hi0 : ¬ (i : Int) < 0 := by omega
                          have hi1 : (0 : Int) ≤ (i : Int) := by omega
                          have hi2 : ¬ (l.length : Int) ≤ (i : Int) := by omega
                          have d0 := ho9.tab.cell hil
                          rw [ready_not_ran hr] at d0
                          have f0 := ho9.tab.free i
                          have HO9 : Hid (OnceAt (w6.alloc (.cells (Array.replicate l.length (.bool false)) 4 (0, 0))) (w9.setCell ⟨w6.heap.size, i, none⟩ (.bool true)) P w5.heap.size E K w6.heap.size l.length s' (ranP s')) := Lib.hid (ho9.mark i (fun k _ => hs' k))
                          clear ho9 hi hil hr hs'
                          obtain rfl : p = i := by omega
                          go_wp2_with fail
                          go_roundw
                          case rel => exact ⟨j + 1, _, by omega, by go_num, HO9, HPN⟩
                          case measure => simp [intOf]; omega
              · have hltz : ¬ (j : Int) < (rs.length : Int) + (l.length : Int) := by omega
                have hne : ∀ k, k < l.length → s.st k ≠ 1 := fun k hk => prog_end (by
                  have h := HPR.out
                  rw [show j - rs.length = E.sm.length by have := HSL.out; omega] at h
                  exact h) k (HWL.out.mem.2 hk)
                have HNE := Lib.hid hne
                have HNG : Hid (∀ k, k < l.length → s.st k = 2 ∨ s.st k = 3 ∨ s.st k = 4) := Lib.hid (fun k hk => by
                  have h1 := HO.out.inv.rng k (HWL.out.mem.2 hk)
                  have h2 := hne k hk
                  omega)
                have hov := over_any HO.out.bld HWL.out.well.rise HLN.out.few
                have HOV := Lib.hid (show overP E s = true by
                  unfold overP
                  rw [List.filter_eq_nil_iff.2 (fun k hk => by have := hne k (HWL.out.mem.1 hk); simpa using this)]
                  rfl)
                clear hne hov hlt hj
                go_wp2_with fail
                go_loopw [23, 24, 25, 26] (fun i _ _ _ wx => ∃ (k : Nat), k ≤ l.length ∧ i = .int .i64 k ∧ Hid (OnceAt (w6.alloc (.cells (Array.replicate l.length (.bool false)) 4 (0, 0))) wx P w5.heap.size E K w6.heap.size l.length s (ranP s))) (fun i _ _ _ _ => l.length - (intOf i).toNat)
                case atStart => exact ⟨0, Nat.zero_le _, rfl, HO⟩
                case round =>
                  clear HO
                  obtain ⟨k, hk, rfl, HO⟩ := hrel
                  by_cases hkl : k < l.length
                  · have hkz : (k : Int) < (l.length : Int) := by omega
                    have hk0 : (0 : Int) ≤ (k : Int) := by omega
                    have HKL := Lib.hid hkl
                    obtain ⟨sv, hsv⟩ : ∃ sv, sv = stateB (s.st k) := ⟨_, rfl⟩
                    have hst := state_any HO.out.bld HO.out.inv (k : Int)
                    rw [stateZ_in (HWL.out.mem.2 hkl), ← hsv] at hst
                    have HST := Lib.hid hst
                    have HSV := Lib.hid hsv
                    clear hst hsv hkl
                    go_wp2_with fail
                    refine HST.out.mono ?_
                    rintro e w7 ⟨rfl, ho7⟩
                    have HO7 := Lib.hid (HO.out.grow ho7)
                    clear ho7
                    go_wp2_with fail
                    go_loopw [25, 26] (fun f i wy => ∃ (t : Nat), t ≤ l.length ∧ f = .bool (badP l s k t) ∧ i = .int .i64 t ∧ Hid (OnceAt (w6.alloc (.cells (Array.replicate l.length (.bool false)) 4 (0, 0))) wy P w5.heap.size E K w6.heap.size l.length s (ranP s))) (fun _ i _ => l.length - (intOf i).toNat)
                    case atStart => exact ⟨0, Nat.zero_le _, rfl, rfl, HO7⟩
                    case round =>
                      clear HO7 HO
                      obtain ⟨t, ht, rfl, rfl, HO⟩ := hrel
                      by_cases htl : t < l.length
                      · have htz : (t : Int) < (l.length : Int) := by omega
                        have ht0 : (0 : Int) ≤ (t : Int) := by omega
                        have HTL := Lib.hid htl
                        have hnr := needsRule_any wr _ l k t HKL.out htl (H1.out.ext (HO.out.vars HXB.out h5 (fun i hi => HBG.out i hi.bld) h6))
                        have HSTt := Lib.hid (fun w10 (ho : Ext wr w10) => (by
                          have h := state_any (HO.out.bld.ext ho) HO.out.inv (t : Int)
                          rewrite [stateZ_in (HWL.out.mem.2 htl)] at h
                          exact h))
                        have HBS := Lib.hid (badP_step (l := l) (s := s) (i := k) (t := t))
                        generalize badP l s k t = f at *
                        cases hq : needB l k t with
                        | false =>
                          rw [hq] at hnr
                          have HNR := Lib.hid hnr
                          have HF : Hid (f = badP l s k (t + 1)) := Lib.hid (by rw [HBS.out, hq]; simp)
                          clear hq hnr htl
                          go_wp2_with fail
                          refine HNR.out.mono ?_
                          rintro e w10 ⟨rfl, ho10⟩
                          have HO10 := Lib.hid (HO.out.grow ho10)
                          clear ho10
                          go_wp2_with fail
                          go_roundw
                          case rel => exact ⟨t + 1, by have := HTL.out; omega, by rw [HF.out], by go_num, HO10⟩
                          case measure => have := HTL.out; simp [intOf]; omega
                        | true =>
                          rw [hq] at hnr
                          have HNR := Lib.hid hnr
                          have HF : Hid (badP l s k (t + 1) = (f || decide (3 ≤ s.st t))) := Lib.hid (by rw [HBS.out, hq, Bool.true_and])
                          clear hq hnr
                          go_wp2_with fail
                          refine HNR.out.mono ?_
                          rintro e w10 ⟨rfl, ho10⟩
                          have HO10 := Lib.hid (HO.out.grow ho10)
                          have hs10 := HSTt.out w10 ho10
                          have hng := HNG.out t htl
                          generalize s.st t = n at hs10 hng HF HSTt
                          rcases hng with rfl | rfl | rfl
                          · rw [show stateB 2 = [100, 111, 110, 101] from rfl] at hs10
                            have hs2 := fun w11 ho => HSTt.out w11 ho
                            rw [show stateB 2 = [100, 111, 110, 101] from rfl] at hs2
                            have HA := Lib.hid hs10
                            have HA2 := Lib.hid (fun w11 (ho : Ext w10 w11) => hs2 w11 (ho10.then ho))
                            clear hs10 hs2 ho10 htl
                            go_wp2_with fail
                            refine HA.out.mono ?_
                            rintro e w11 ⟨rfl, ho11⟩
                            have HO11 := Lib.hid (HO10.out.grow ho11)
                            have HA3 := Lib.hid (HA2.out w11 ho11)
                            clear ho11
                            go_wp2_with fail
                            refine HA3.out.mono ?_
                            rintro e w12 ⟨rfl, ho12⟩
                            have HO12 := Lib.hid (HO11.out.grow ho12)
                            clear ho12
                            go_wp2_with fail
                            go_roundw
                            case rel => exact ⟨t + 1, by have := HTL.out; omega, by rw [HF.out]; simp, by go_num, HO12⟩
                            case measure => have := HTL.out; simp [intOf]; omega
                          · rw [show stateB 3 = [102, 97, 105, 108, 101, 100] from rfl] at hs10
                            have HA := Lib.hid hs10
                            clear hs10 ho10 htl
                            go_wp2_with fail
                            refine HA.out.mono ?_
                            rintro e w11 ⟨rfl, ho11⟩
                            have HO11 := Lib.hid (HO10.out.grow ho11)
                            clear ho11
                            go_wp2_with fail
                            go_roundw
                            case rel => exact ⟨t + 1, by have := HTL.out; omega, by rw [HF.out]; simp, by go_num, HO11⟩
                            case measure => have := HTL.out; simp [intOf]; omega
                          · rw [show stateB 4 = [108, 101, 102, 116] from rfl] at hs10
                            have hs2 := fun w11 ho => HSTt.out w11 ho
                            rw [show stateB 4 = [108, 101, 102, 116] from rfl] at hs2
                            have HA := Lib.hid hs10
                            have HA2 := Lib.hid (fun w11 (ho : Ext w10 w11) => hs2 w11 (ho10.then ho))
                            clear hs10 hs2 ho10 htl
                            go_wp2_with fail
                            refine HA.out.mono ?_
                            rintro e w11 ⟨rfl, ho11⟩
                            have HO11 := Lib.hid (HO10.out.grow ho11)
                            have HA3 := Lib.hid (HA2.out w11 ho11)
                            clear ho11
                            go_wp2_with fail
                            refine HA3.out.mono ?_
                            rintro e w12 ⟨rfl, ho12⟩
                            have HO12 := Lib.hid (HO11.out.grow ho12)
                            clear ho12
                            go_wp2_with fail
                            go_roundw
                            case rel => exact ⟨t + 1, by have := HTL.out; omega, by rw [HF.out]; simp, by go_num, HO12⟩
                            case measure => have := HTL.out; simp [intOf]; omega
                      · have htz : ¬ (t : Int) < (l.length : Int) := by omega
                        have hbe := badP_end HWL.out HO.out.inv HKL.out (HNE.out k HKL.out)
                        rw [show t = l.length by omega, hbe]
                        have d0 := HO.out.tab.cell HKL.out
                        have hng := HNG.out k HKL.out
                        have hsv := HSV.out
                        have hk2 : ¬ (k : Int) < 0 := by omega
                        have hk3 : ¬ (l.length : Int) ≤ (k : Int) := by omega
                        unfold ranP at d0
                        generalize s.st k = n at d0 hng hsv
                        clear htl ht hbe
                        rcases hng with rfl | rfl | rfl
                        all_goals
                          subst hsv
                          go_wp2_with fail
                          go_roundw
                          case rel => exact ⟨k + 1, by have := HKL.out; omega, by go_num, HO⟩
                          case measure => have := HKL.out; simp [intOf]; omega
                  · have hkz : ¬ (k : Int) < (l.length : Int) := by omega
                    have hov := over_any HO.out.bld HWL.out.well.rise HLN.out.few
                    rw [HOV.out] at hov
                    have HOV2 := Lib.hid hov
                    have HXE := Lib.hid (HO.out.vars HXB.out h5 (fun i hi => HBG.out i hi.bld) h6)
                    clear hov hkl hk
                    go_wp2_with fail
                    refine HOV2.out.mono ?_
                    rintro e w7 ⟨rfl, ho7⟩
                    have HXF := Lib.hid (HXE.out.then ho7)
                    clear ho7
                    go_wp2_with fail
                    go_ret
                    exact ⟨rfl, HXF.out⟩
end Go.Proofs.YtnmhaipjfpongabGreatDoor

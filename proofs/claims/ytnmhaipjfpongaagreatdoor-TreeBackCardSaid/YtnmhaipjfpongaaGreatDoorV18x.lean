/- TreeBack's walk: a tree is read as it was written. No condition but lengths, and what the variables hold. -/
import Derived.Test.YtnmhaipjfpongaaGreatDoorGh
import Derived.Deep.RegionHeld3
import Derived.Deep.DeepCutAuto
import Derived.Deep.LoopGhost
import Derived.Deep.CutBlock
namespace Go.Proofs.YtnmhaipjfpongaaGreatDoor
open Go.ChangeShapes Go.WideShapes Go.ChangeAt Go.RowKit

structure TB (w wr : World) (b mb : Nat) (L : FL) : Prop where
  ext : Ext w wr
  nb : w.heap.size ≤ b
  nmb : w.heap.size ≤ mb
  tree : TreeAt wr b mb L
  fits : Fits L
  apart : Apart L
  lens : ∀ q ∈ L, q.1.length ≤ 1000

theorem TB.later {w wr w' : World} {b mb : Nat} {L : FL} (J : TB w wr b mb L) (h : Ext wr w') : TB w w' b mb L := ⟨J.ext.then h, J.nb, J.nmb, J.tree.ext h, J.fits, J.apart, J.lens⟩

theorem TB.put {w wr : World} {b mb : Nat} {L : FL} {P : Nat → Addr} (J : TB w wr b mb L) (hs : Errs w P [1, 3, 6, 7]) (hm : HasMax w) (p x : B) (hp : p.length ≤ 1000) :
    Calls Tryz.prog 17 #[.pointer (some ⟨b, 0, none⟩), S p, S x] wr fun r w' => r = .returned (errC P (putCode L p x)) ∧ TB w w' b mb (putT L p x) :=
  (treePut_any wr P b mb L p x J.tree J.fits (hs.ext J.ext) (hm.ext J.ext) (by omega) (fun q hq => by have := J.lens q hq; omega)).mono fun _ _ ⟨h1, h2, h3⟩ =>
    ⟨h1, J.ext.trans h3 (fun _ _ h => h) (fun i hi e => by have := J.nmb; omega), J.nb, J.nmb, h2, J.fits.put p x, J.apart.put J.fits.rising p x, lens_put J.fits.rising J.lens p x hp⟩

theorem TB.remove {w wr : World} {b mb : Nat} {L : FL} {P : Nat → Addr} (J : TB w wr b mb L) (hs : Errs w P [5]) (p : B) :
    Calls Tryz.prog 19 #[.pointer (some ⟨b, 0, none⟩), S p] wr fun r w' => r = .returned (errC P (remCode L p)) ∧ TB w w' b mb (delT L p) :=
  (treeRemove_any wr b mb L p (P 5) J.tree ((hs.ext J.ext).var 5 _ (by decide) rfl)).mono fun _ _ ⟨h1, h2, h3⟩ =>
    ⟨by rw [h1]; unfold remCode; split <;> rfl, J.ext.trans h3 (fun _ _ h => h) (fun i hi e => by have := J.nmb; omega), J.nb, J.nmb, h2, J.fits.del p, J.apart.del p, lens_del J.lens p⟩

set_option maxHeartbeats 4000000 in
set_option maxRecDepth 100000 in
theorem back_long (w : World) (P : Nat → Addr) (hs : Errs w P [1, 3, 6, 7]) (hm : HasMax w) (hp : Pow w) (a : Option Addr) (len cap : Nat) (h : 80 < len) (hlen : len ≤ 9223372036854775807) :
    Calls Tryz.prog 5 #[.slice a len cap] w fun e w' => e = .returned (.bool true) ∧ Ext w w' := by
  have h3 : 80 < (len : Int) := by omega
  have HT := Lib.hid (treed_any w P hs hm hp)
  clear h hs hm hp
  go_enter Tryz.func5, Tryz.ntmps5
  go_wp2_with fail
  refine (HT.out).mono ?_
  rintro e w1 ⟨rfl, ho⟩
  have HO := Lib.hid ho
  clear ho
  go_wp2_with fail
  go_ret
  exact ⟨rfl, HO.out⟩

theorem rise_pair {l : FL} (h : Rising l) {k : Nat} {p p' : B} (h1 : (l.map (·.1))[k + 1]? = some p) (h2 : (l.map (·.1))[k]? = some p') : p' < p := by
  rw [List.getElem?_map] at h1 h2
  obtain ⟨q, e1, rfl⟩ := Option.map_eq_some_iff.1 h1
  obtain ⟨q', e2, rfl⟩ := Option.map_eq_some_iff.1 h2
  exact h.next e2 e1

theorem apart_pair {l : FL} (h : Apart l) {k i : Nat} {p p' : B} (h1 : (l.map (·.1))[i]? = some p) (h2 : (l.map (·.1))[k]? = some p') (hlt : p.length < p'.length) : (p'.take (p.length + 1) == p ++ [47]) = false := by
  rw [List.getElem?_map] at h1 h2
  obtain ⟨q, e1, rfl⟩ := Option.map_eq_some_iff.1 h1
  obtain ⟨q', e2, rfl⟩ := Option.map_eq_some_iff.1 h2
  have := h q (List.mem_of_getElem? e1) q' (List.mem_of_getElem? e2)
  unfold aboveB at this
  rw [prefix_take] at this
  simpa [show q.1.length + 1 ≤ q'.1.length by omega] using this

set_option maxHeartbeats 8000000 in
set_option maxRecDepth 100000 in
theorem walkTreeBack (w : World) (v : Value) (l : List (B × B × B)) (P : Nat → Addr) (hv : RdS 3 encA w v l) (hl : l.length ≤ 80) (hx : ∀ a ∈ l, a.2.2.length ≤ 140737488351232) (hs : Errs w P [0, 1, 2, 3, 5, 6, 7]) (hm : HasMax w) (hp : Pow w) :
    Calls Tryz.prog 5 #[v] w fun e w' => e = .returned (.bool true) ∧ Ext w w' := by
  obtain ⟨a, cap, rfl, hcap, hml, hc⟩ := hv
  have hx3 : ¬ (80 < (l.length : Int)) := by omega
  have HTR := Lib.hid (treed_any w P (hs.sub (by decide)) hm hp)
  have HC := Lib.hid hc
  have HX := Lib.hid hx
  have HS := Lib.hid hs
  have HMX := Lib.hid hm
  have HPW := Lib.hid hp
  clear hc hx hs hm hp
  clear hml hcap
  go_enter Tryz.func5, Tryz.ntmps5
  go_wp2_with fail
  refine (HTR.out).mono ?_
  rintro e w1 ⟨rfl, hw1⟩
  have HW1 := Lib.hid hw1
  clear hw1
  go_wp2_with fail
  refine (treeNew_any w1).mono ?_
  rintro e w2 ⟨rfl, ht, ho, hsz⟩
  have HO := Lib.hid (HW1.out.then ho)
  have HT := Lib.hid ht
  have HZ := Lib.hid HW1.out.size
  clear ht ho hsz
  obtain ⟨b, hb⟩ : ∃ b, b = w1.heap.size + 1 := ⟨_, rfl⟩
  obtain ⟨mb, hmb⟩ : ∃ mb, mb = w1.heap.size := ⟨_, rfl⟩
  rw [← hb, ← hmb] at HT
  rw [← hb]
  have HI : Hid (TB w w2 b mb []) := Lib.hid ⟨HO.out, by have := HZ.out; omega, by have := HZ.out; omega, HT.out, Fits.nil, Apart.nil, by simp⟩
  clear hb hmb HT HO
  go_wp2_with fail
  go_loopg [5, 6] l.length (fun g n i wr => ∃ (k : Nat) (nn : Int) (L : FL), k + g = l.length ∧ i = .int .i64 k ∧ n = .int .i64 nn ∧ 0 ≤ nn ∧ nn ≤ 10000 ∧ Hid (TB w wr b mb L))
  case atStart => exact ⟨0, 0, [], Nat.zero_add _, rfl, rfl, by omega, by omega, HI⟩
  case round =>
    clear HI
    obtain ⟨k, nn, L, hk, rfl, rfl, hn0, hn1, HI⟩ := hrel
    by_cases hlt : k < l.length
    · have hltz : (k : Int) < (l.length : Int) := by omega
      have hk0 : (0 : Int) ≤ (k : Int) := by omega
      obtain ⟨b0, off0, rfl, hcell⟩ := HC.out (by intro h; rw [h] at hlt; simp at hlt)
      obtain ⟨⟨kd, p, x⟩, hxk⟩ : ∃ y, l[k]? = some y := ⟨_, List.getElem?_eq_getElem hlt⟩
      have d0 : wr.cell? ⟨b0, off0 + k * 3, none⟩ = some (S kd) := HI.out.ext.cellOf (hcell k _ hxk 0 _ rfl) (fun h => h)
      have d1 : wr.cell? ⟨b0, off0 + k * 3 + 1, none⟩ = some (S p) := HI.out.ext.cellOf (hcell k _ hxk 1 _ rfl) (fun h => h)
      have d2 : wr.cell? ⟨b0, off0 + k * 3 + 2, none⟩ = some (S x) := HI.out.ext.cellOf (hcell k _ hxk 2 _ rfl) (fun h => h)
      have hxl : x.length ≤ 140737488351232 := HX.out _ (List.mem_of_getElem? hxk)
      have HD1 := Lib.hid (hcell k _ hxk 1 _ rfl)
      have HD2 := Lib.hid (hcell k _ hxk 2 _ rfl)
      clear hcell hxk
      by_cases hk1 : 100 < p.length
      · have hk1z : decide ((100 : Int) < (p.length : Int)) = true := decide_eq_true (by omega)
        clear hk1
        go_wp2_with fail
        go_ret
        exact ⟨rfl, HI.out.ext⟩
      have hk1z : decide ((100 : Int) < (p.length : Int)) = false := decide_eq_false (by omega)
      have HPL : Hid (p.length ≤ 1000) := Lib.hid (by omega)
      clear hk1
      by_cases hk2 : 10000 < nn + x.length
      · go_wp2_with fail
        go_ret
        exact ⟨rfl, HI.out.ext⟩
      cases hkr : (kd == [114, 101, 109, 111, 118, 101]) with
      | true =>
        go_wp2_with fail
        refine (HI.out.remove (HS.out.sub (by decide)) p).mono ?_
        rintro e w5 ⟨rfl, hT⟩
        have HT := Lib.hid hT
        clear hT
        go_wp2_with fail
        go_roundg (l.length - (k + 1))
        case rel => exact ⟨k + 1, _, _, by omega, by go_num, rfl, by omega, by omega, HT⟩
        case measure => omega
      | false =>
        go_wp2_with fail
        go_region_held3 (fun w' => w'.cell? ⟨b0, off0 + k * 3 + 1, none⟩ = some (S p) ∧ w'.cell? ⟨b0, off0 + k * 3 + 2, none⟩ = some (S x)) (first | exact ⟨HT.out.ext.cellOf HD1.out (fun h => h), HT.out.ext.cellOf HD2.out (fun h => h)⟩ | exact ⟨d1, d2⟩ | go_keep)
          ((go_at_call 17; refine (TB.put (w := w) (b := b) (mb := mb) (L := L) (P := P) (by first | exact HI.out | exact HI.out.later (Only.drew _ _) | exact HI.out.later (Only.drewN _ _ _)) (HS.out.sub (by decide)) HMX.out p x HPL.out).mono ?_; rintro e w5 ⟨rfl, hT⟩; have HT := Lib.hid hT; clear hT))
        all_goals
          go_wp2_with fail
          go_roundg (l.length - (k + 1))
          case rel => exact ⟨k + 1, _, _, by omega, by go_num, rfl, by omega, by omega, HT⟩
          case measure => omega
    · have hltz : ¬ ((k : Int) < (l.length : Int)) := by omega
      have J := HI.out
      have hrb := read_back J.fits J.apart
      have h1 := fun W (hW : Ext wr W) => text_any W b mb L (J.tree.ext hW) J.fits.rising J.lens J.fits.bytes J.fits.few (HPW.out.ext (J.ext.then hW))
      have h1x := fun W b2 mb2 (hW : Ext wr W) (h : TreeAt W b2 mb2 L) => text_any W b2 mb2 L h J.fits.rising J.lens J.fits.bytes J.fits.few (HPW.out.ext (J.ext.then hW))
      have hpt := fun W b2 mb2 (h : TreeAt W b2 mb2 L) => paths_any W b2 mb2 L h J.fits.rising (fun q hq => by have := J.lens q hq; omega) (by have := J.fits.few; omega)
      have htl : (textT L).length ≤ 900000 := by
        have := text_take_len J.lens J.fits.bytes L.length
        rw [List.take_length] at this
        have := J.fits.few
        omega
      have hrd := fun W (hW : Ext wr W) => read_any W (textT L) P htl ((HS.out.ext (J.ext.then hW)).sub (by decide)) (HMX.out.ext (J.ext.then hW)) (.inr (by
        intro h
        have := readC_none h
        rw [hrb.1] at this
        cases this)) (HPW.out.ext (J.ext.then hW))
      have HRB := Lib.hid hrb
      have H1 := Lib.hid h1
      have HTX := Lib.hid h1x
      have HPT := Lib.hid hpt
      have HRD := Lib.hid hrd
      clear h1 h1x hpt hrd
      have htt : (textT L == textT L) = true := by simp
      have hpp : (L.map (·.1) == L.map (·.1)) = true := by simp
      have HPP := Lib.hid hpp
      obtain ⟨T, hT⟩ : ∃ T, T = textT L := ⟨_, rfl⟩
      rw [← hT] at H1 HTX HRD HRB htt
      have HR3 := Lib.hid J.fits.rising
      have HLE := Lib.hid J.lens
      have HA3 := Lib.hid J.apart
      have hfew : (L.length : Int) ≤ 60 := by have := J.fits.few; omega
      have HE0 := Lib.hid J.ext
      have HTR0 := Lib.hid J.tree
      clear hrb J hpp hlt htl hT HI
      go_wp2_with fail
      refine (H1.out _ (Only.refl _ _)).mono ?_
      rintro e wA ⟨rfl, hoA⟩
      have HA := Lib.hid hoA
      clear hoA
      go_wp2_with fail
      refine (HRD.out wA HA.out).mono ?_
      rintro e wB rI
      obtain ⟨b2, mb2, rfl, ht2, hoB, _, _⟩ := rI.2 HRB.out.1
      clear rI
      rw [HRB.out.2] at ht2
      have HB := Lib.hid (HA.out.then hoB)
      have HT2 := Lib.hid ht2
      clear ht2
      clear hoB
      go_wp2_with fail
      refine (HTX.out _ b2 mb2 HB.out HT2.out).mono ?_
      rintro e wC ⟨rfl, hoC⟩
      have HCX := Lib.hid (HB.out.then hoC)
      have HT3 := Lib.hid (HT2.out.ext hoC)
      clear hoC
      go_wp2_with fail
      refine (H1.out _ HCX.out).mono ?_
      rintro e wD ⟨rfl, hoD⟩
      have HDX := Lib.hid (HCX.out.then hoD)
      have HT4 := Lib.hid (HT3.out.ext hoD)
      clear hoD
      go_wp2_with fail
      refine (HPT.out _ b2 mb2 HT4.out).mono ?_
      rintro e wE ⟨vE, rfl, hrE, hoE, _⟩
      have HEX := Lib.hid (HDX.out.then hoE)
      have HRE := Lib.hid hrE
      clear hrE hoE
      go_wp2_with fail
      refine (HPT.out _ b mb (HTR0.out.ext HEX.out)).mono ?_
      rintro e wF ⟨vF, rfl, hrF, hoF, _⟩
      have HFX := Lib.hid (HEX.out.then hoF)
      have HRF := Lib.hid hrF
      have HRE2 := Lib.hid (HRE.out.ext hoF)
      clear hrF hoF
      go_wp2_with fail
      refine (sameTexts_any _ _ _ _ _ HRE2.out HRF.out).mono ?_
      rintro e wG ⟨rfl, hd⟩
      have HGX := Lib.hid (HFX.out.then hd.ext)
      clear hd
      rw [HPP.out]
      go_wp2_with fail
      refine (HPT.out _ b mb (HTR0.out.ext HGX.out)).mono ?_
      rintro e wH ⟨vH, rfl, hrH, hoH, _⟩
      have HHX := Lib.hid (HE0.out.then (HGX.out.then hoH))
      have HRH := Lib.hid hrH
      clear hrH hoH
      obtain ⟨ps, hps⟩ : ∃ ps, ps = L.map (·.1) := ⟨_, rfl⟩
      have hpl : ps.length = L.length := by rw [hps]; simp
      have HRI := Lib.hid (fun k p p' (h1 : ps[k + 1]? = some p) (h2 : ps[k]? = some p') => rise_pair (k := k) HR3.out (hps ▸ h1) (hps ▸ h2))
      have HAP := Lib.hid (fun i k p p' (h1 : ps[i]? = some p) (h2 : ps[k]? = some p') hlt => apart_pair (k := k) HA3.out (hps ▸ h1) (hps ▸ h2) hlt)
      have hpb : ∀ p ∈ ps, p.length ≤ 1000 := by
        intro p hp
        rw [hps] at hp
        obtain ⟨q, hq, rfl⟩ := List.mem_map.1 hp
        exact HLE.out q hq
      rw [← hps] at HRH
      obtain ⟨aH, capH, rfl, hcapH, _, hcH⟩ := HRH.out
      have hfew' : (ps.length : Int) ≤ 60 := by omega
      have HCH := Lib.hid hcH
      have HPB := Lib.hid hpb
      clear hps hpl hcH hpb HRH hfew HRF HRE2 HRE HT4 HT3 HT2
      go_wp2_with fail
      go_loopw [10, 11] (fun i _ wq => ∃ j : Nat, j ≤ ps.length ∧ i = .int .i64 j ∧ Hid (Ext wH wq)) (fun i _ _ => ps.length - (intOf i).toNat)
      case atStart => exact ⟨0, Nat.zero_le _, rfl, Lib.hid (Only.refl _ _)⟩
      case round =>
        obtain ⟨j, hj, rfl, HX⟩ := hrel
        by_cases hlt : j < ps.length
        · have hltz : (j : Int) < (ps.length : Int) := by omega
          have hj0 : (0 : Int) ≤ (j : Int) := by omega
          obtain ⟨bH, offH, rfl, hcell⟩ := HCH.out (by intro h; rw [h] at hlt; simp at hlt)
          obtain ⟨p, hq⟩ : ∃ y, ps[j]? = some y := ⟨_, List.getElem?_eq_getElem hlt⟩
          have d0 := HX.out.cellOf (hcell j p hq) (fun h => h)
          have HQ := Lib.hid hq
          have HCE := Lib.hid hcell
          have hpb : p.length ≤ 1000 := HPB.out p (List.mem_of_getElem? hq)
          clear hq hcell
          go_upto_region 24 with fail
          go_cut [122] (fun c wx => c = .bool false ∧ Hid (Ext wH wx))
          case first =>
            by_cases h0 : j = 0
            · have d0' : wr.cell? ⟨bH, offH, none⟩ = some (S p) := by simpa [h0] using d0
              clear d0
              subst h0
              go_quiet (fail)
              go_wp2_with fail
              go_meet
              exact ⟨rfl, Lib.hid (HX.out.thenDrewN _)⟩
            · obtain ⟨k, hk⟩ : ∃ k, j = k + 1 := ⟨j - 1, by omega⟩
              obtain ⟨p', hq'⟩ : ∃ y, ps[k]? = some y := ⟨_, List.getElem?_eq_getElem (by omega)⟩
              have d2 := HX.out.cellOf (HCE.out k p' hq') (fun h => h)
              have hlt2 := HRI.out k p p' (hk ▸ HQ.out) hq'
              have hbl := bytesLess_eq p p'
              rw [decide_eq_false (List.lt_asymm hlt2)] at hbl
              have hbe : (p == p') = false := beq_eq_false_iff_ne.2 fun e => ltB_irrefl _ (e ▸ hlt2)
              have hwk : IntKind.i64.wrap ((j : Int) - 1) = (k : Int) := by rw [show (j : Int) - 1 = (k : Int) by omega]; exact IntWalk.i64_in _ (by omega)
              have hg : decide (0 < j) = true := decide_eq_true (by omega)
              have hk0 : (0 : Int) ≤ (k : Int) := by omega
              have hkl : (k : Int) < (ps.length : Int) := by omega
              clear hq' hlt2 hk h0
              go_quiet (fail)
              go_wp2_with fail
              go_meet
              exact ⟨rfl, Lib.hid (HX.out.thenDrewN _)⟩
          case rest =>
            obtain ⟨rfl, HX⟩ := hcut
            clear d0
            go_wp2_with fail
            go_loopw [11] (fun i wq => ∃ k : Nat, k ≤ ps.length ∧ i = .int .i64 k ∧ Hid (Ext wH wq)) (fun i _ => ps.length - (intOf i).toNat)
            case atStart => exact ⟨0, Nat.zero_le _, rfl, HX⟩
            case round =>
              obtain ⟨k, hk, rfl, HX⟩ := hrel
              have d0 := HX.out.cellOf (HCE.out j p HQ.out) (fun h => h)
              by_cases hlt2 : k < ps.length
              · have hltz2 : (k : Int) < (ps.length : Int) := by omega
                have hk0 : (0 : Int) ≤ (k : Int) := by omega
                obtain ⟨p', hq'⟩ : ∃ y, ps[k]? = some y := ⟨_, List.getElem?_eq_getElem hlt2⟩
                have d2 := HX.out.cellOf (HCE.out k p' hq') (fun h => h)
                have hpb' : p'.length ≤ 1000 := HPB.out p' (List.mem_of_getElem? hq')
                by_cases hgt : p.length < p'.length
                · have hg : decide (p.length < p'.length) = true := decide_eq_true hgt
                  have hap := HAP.out j k p p' HQ.out hq' hgt
                  have hwk : IntKind.i64.wrap ((p.length : Int) + 1) = (p.length : Int) + 1 := IntWalk.i64_in _ (by omega)
                  have hm := ba_mid p' 0 (p.length + 1)
                  rw [List.drop_zero] at hm
                  have hba : ((⟨p.toArray⟩ : ByteArray) ++ ⟨#[47]⟩) = ⟨(p ++ [47]).toArray⟩ := ba_app p [47]
                  have q1 : (p.length : Int) + 1 ≤ (p'.length : Int) := by omega
                  have q2 : (0 : Int) ≤ (p.length : Int) + 1 := by omega
                  have q3 : ¬ 9223372036854775807 < p.length + 1 := by omega
                  have q4 : ((p.length : Int) + 1).toNat = p.length + 1 := by omega
                  clear hq'
                  go_wp2_with fail
                  go_quiet (fail)
                  clear hwk hm hba
                  go_wp2_with fail
                  go_roundw
                  case rel => exact ⟨k + 1, by omega, by go_num, Lib.hid (HX.out.thenDrewN _)⟩
                  case measure => simp [intOf]; omega
                · have hg : decide (p.length < p'.length) = false := decide_eq_false hgt
                  clear hq' hgt
                  go_wp2_with fail
                  go_quiet (fail)
                  go_wp2_with fail
                  go_roundw
                  case rel => exact ⟨k + 1, by omega, by go_num, Lib.hid (HX.out.thenDrewN _)⟩
                  case measure => simp [intOf]; omega
              · have hltz2 : ¬ (k : Int) < (ps.length : Int) := by omega
                go_wp2_with fail
                go_roundw
                case rel => exact ⟨j + 1, by omega, by go_num, HX⟩
                case measure => simp [intOf]; omega
        · have hltz : ¬ ((j : Int) < (ps.length : Int)) := by omega
          go_wp2_with fail
          go_ret
          exact ⟨rfl, HHX.out.then HX.out⟩
end Go.Proofs.YtnmhaipjfpongaaGreatDoor

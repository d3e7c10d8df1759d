/- Texts of this seat laid together for one claim: Bm4. No condition of its own: what each proves stands with its theorems. -/
import Derived.Test.YtnmhaipjfpongacGreatDoorPA37
namespace Go.Proofs.YtnmhaipjfpongacGreatDoor
open Go.ChangeShapes Go.WideShapes Go.ChangeAt Go.RowKit

section
variable {w0 w w' : World} {E : BE} {K : MK} {s : BS} {o : List Nat} {is : Nat → Bool}
theorem setP_st (s : BS) (i x k : Nat) : (setP s i x).st k = if k = i then x else s.st k := rfl
theorem fail_is2 {i x : Nat} (h1 : s.st i = 1) : (failP E s i).st x = 2 ↔ s.st x = 2 := by
 unfold failP
 rcases spread_cases (E := E) (s := setP s i 3) x with ⟨_, h, h2⟩ | ⟨_, h⟩
 ·rw [setP_st] at h2
  rw [h]
  by_cases e : x = i
  ·rw [if_pos e] at h2; omega
  ·rw [if_neg e] at h2; omega
 ·rw [h, setP_st]
  by_cases e : x = i
  ·rw [if_pos e, e]; omega
  ·rw [if_neg e]
theorem fail_is3 {i x : Nat} : (failP E s i).st x = 3 ↔ x = i ∨ s.st x = 3 := by
 unfold failP
 rcases spread_cases (E := E) (s := setP s i 3) x with ⟨_, h, h2⟩ | ⟨_, h⟩
 ·rw [setP_st] at h2
  rw [h]
  by_cases e : x = i
  ·rw [if_pos e] at h2; omega
  ·rw [if_neg e] at h2; omega
 ·rw [h, setP_st]
  by_cases e : x = i
  ·rw [if_pos e]; simp [e]
  ·rw [if_neg e]; simp [e]
theorem outM_fail {i : Nat} (h1 : s.st i = 1) (x : Nat) : outM E (failP E s i) x = outM E s x := by
 unfold outM
 by_cases hx : x ∈ E.sm
 ·rw [mst_in hx, mst_in hx]
  by_cases h2 : s.st x = 2
  ·rw [if_pos ((fail_is2 h1).2 h2), if_pos h2]
  ·rw [if_neg (fun e => h2 ((fail_is2 h1).1 e)), if_neg h2]
 ·rw [mst_out hx, mst_out hx]
theorem hitM_fail {i : Nat} (h1 : s.st i = 1) (x : Nat) : hitM E (failP E s i) x = hitM E s x := by
 unfold hitM
 by_cases hx : x ∈ E.sm
 ·rw [mst_in hx, mst_in hx]
  have e : ((failP E s i).st x == 2) = (s.st x == 2) := by
   rw [Bool.eq_iff_iff, beq_iff_eq, beq_iff_eq]
   exact fail_is2 h1
  rw [e]
  rfl
 ·rw [mst_out hx, mst_out hx]; rfl
theorem whyM_fail {i : Nat} (hi : i ∈ E.sm) (x : Nat) : whyM E (failP E s i) x = if x = i then (E.ans i).2 else whyM E s x := by
 unfold whyM
 by_cases e : x = i
 ·subst e
  rw [if_pos rfl, mst_in hi, if_pos ((fail_is3).2 (.inl rfl))]
 ·rw [if_neg e]
  by_cases hx : x ∈ E.sm
  ·rw [mst_in hx, mst_in hx]
   by_cases h3 : s.st x = 3
   ·rw [if_pos ((fail_is3).2 (.inr h3)), if_pos h3]
   ·rw [if_neg (fun e2 => ((fail_is3).1 e2).elim e h3), if_neg h3]
  ·rw [mst_out hx, mst_out hx]
theorem FOk.le {t : BS} {g : Nat → Nat} (h : FOk E t g) (hl : ∀ x, mst E t x ≤ 4) (x : Nat) : g x ≤ 4 := by
 rcases h x with e | ⟨_, e, _⟩
 ·rw [e]; exact hl x
 ·omega
theorem mst_set {i : Nat} (hi : i ∈ E.sm) (x k : Nat) : mst E (setP s i x) k = if k = i then x else mst E s k := by
 unfold mst
 rw [setP_st]
 by_cases e : k = i
 ·subst e; rw [if_pos hi, if_pos rfl, if_pos rfl]
 ·rw [if_neg e]; rw [if_neg e]

def FailMPost (w0 w : World) (E : BE) (K : MK) (s : BS) (e : Ending) (w' : World) : Prop := e = .returned (.tuple #[]) ∧ MBldAt w0 w' E K s ∧ Only (InM K) w w'
set_option maxRecDepth 100000 in
set_option maxHeartbeats 8000000 in
theorem failM_any (h : MBldAt w0 w E K s) (hW : BWell E o is) (hI : BInv E s) {i : Nat} (hi : i ∈ E.sm) (h1 : s.st i = 1) (c : Nat) (hc : (E.ans i).2 = c) :
  Calls Tryz.prog 128 #[PTR K.b, I i, I c] w (FailMPost w0 w E K (failP E s i)) := by
 have hin := hW.lt i hi
 have hl40 := hW.right.1
 have hlz : (E.l.length : Int) ≤ 40 := by omega
 have hiz : (i : Int) < (E.l.length : Int) := by omega
 have hi0 : (0 : Int) ≤ (i : Int) := by omega
 have hi1 : ¬ (i : Int) < 0 := by omega
 have hi2 : ¬ (E.l.length : Int) ≤ (i : Int) := by omega
 have HLT := Lib.hid hW.lt
 have HIN := Lib.hid hin
 have hle : ∀ x, mst E (setP s i 3) x ≤ 4 := fun x => by
  rw [mst_set hi]
  split
  ·omega
  ·exact mst_le hI x
 have HLE := Lib.hid hle
 obtain ⟨hA, ho1⟩ := h.setSt i 3 (g' := mst E (setP s i 3)) (fun x => mst_set hi 3 x)
 obtain ⟨hB, ho2⟩ := hA.setWh i c (wh' := whyM E (failP E s i)) (fun x => by rw [whyM_fail hi x, hc])
 have hB' := hB.congr (fun _ _ => rfl) (fun x _ => (outM_fail h1 x).symm) (fun x _ => (hitM_fail h1 x).symm) (fun _ _ => rfl)
 have HRD := Lib.hid (fun (wr : World) (f : Nat → Nat) (hm : MAt w0 wr E K f (outM E (failP E s i)) (hitM E (failP E s i)) (whyM E (failP E s i))) => hm.rules.ext hm.ext)
 have HFE : Hid (∀ g, FOk E (setP s i 3) g → Closed1 E.l.length (needB E.l) g → ∀ x, g x = mst E (failP E s i) x) := Lib.hid (fun g h1 h2 => fok_end hW.lt h1 h2)
 have HF0 : Hid (mst E (setP s i 3) i ≠ 1) := Lib.hid (by rw [mst_set hi, if_pos rfl]; omega)
 have HB2 := Lib.hid hB'
 have HO2 := Lib.hid (ho1.then ho2)
 have c2 := (h.cell 2).trans (rfl : _ = some (TabS K.st E.l.length))
 have c5 := (hA.cell 5).trans (rfl : _ = some (TabS K.wh E.l.length))
 have t0 := h.tab.st.cell hin
 have f0 := h.tab.st.free i
 have t5 := hA.tab.wh.cell hin
 have f5 := hA.tab.wh.free i
 obtain ⟨ou, hou⟩ : ∃ ou, ou = outM E (failP E s i) := ⟨_, rfl⟩
 obtain ⟨hi', hhi⟩ : ∃ hi', hi' = hitM E (failP E s i) := ⟨_, rfl⟩
 obtain ⟨wh, hwh⟩ : ∃ wh, wh = whyM E (failP E s i) := ⟨_, rfl⟩
 rw [← hou, ← hhi, ← hwh] at HB2 HRD
 have HOU := Lib.hid hou
 have HHI := Lib.hid hhi
 have HWH := Lib.hid hwh
 have e3 : stateM 3 = [102, 97, 105, 108, 101, 100] := rfl
 rw [e3] at HB2 HO2 c5 t5 f5
 obtain ⟨wB, hwB⟩ : ∃ wB, wB = ((w.setCell ⟨K.st, i, none⟩ (S [102, 97, 105, 108, 101, 100])).setCell ⟨K.wh, i, none⟩ (IN c)) := ⟨_, rfl⟩
 rw [← hwB] at HB2 HO2
 have HWB := Lib.hid hwB
 generalize stateM (mst E s i) = sv at t0
 clear h hW hI hi hin hle hA ho1 hB ho2 hB' hou hhi hwh hc h1 e3 hwB
 go_enter Tryz.func128, Tryz.ntmps128
 go_wp2_with fail
 rw [show ((w.setCell ⟨K.st, i, none⟩ (.string ⟨#[102, 97, 105, 108, 101, 100]⟩)).setCell ⟨K.wh, i, none⟩ (.int .i64 (c : Int))) = wB from HWB.out.symm]
 clear c2 c5 t0 f0 t5 f5
 go_loopw [6, 7, 8, 9] (fun r _ _ _ wr => ∃ (t : Nat) (f : Nat → Nat), t ≤ E.l.length ∧ r = .int .i64 t ∧ Hid (MAt w0 wr E K f ou hi' wh) ∧ Hid (Only (InM K) w wr) ∧ Hid (FRds E.l.length (needB E.l) (mst E (setP s i 3)) f t) ∧ Hid (FOk E (setP s i 3) f)) (fun r _ _ _ _ => E.l.length - (intOf r).toNat)
 case atStart => exact ⟨0, _, Nat.zero_le _, rfl, HB2, HO2, Lib.hid (FRds.start _ _ _), Lib.hid (FOk.start _ _)⟩
 case round =>
  clear HB2 HO2
  obtain ⟨t, f, ht, rfl, HM, HO, HRS, HOK⟩ := hrel
  have d1 := (HM.out.cell 1).trans (rfl : _ = some (Value.slice K.la E.l.length K.lc))
  by_cases htl : t < E.l.length
  ·have htz : (t : Int) < (E.l.length : Int) := by omega
   have HTL := Lib.hid htl
   clear htl ht
   go_wp2_with fail
   clear d1
   go_loopw [7, 8, 9] (fun r _ _ wr => ∃ (u : Nat) (g : Nat → Nat), u ≤ E.l.length ∧ r = .int .i64 u ∧ Hid (MAt w0 wr E K g ou hi' wh) ∧ Hid (Only (InM K) w wr) ∧ Hid (FRnd E.l.length (needB E.l) f g u 0) ∧ Hid (FOk E (setP s i 3) g)) (fun r _ _ _ => E.l.length - (intOf r).toNat)
   case atStart => exact ⟨0, f, Nat.zero_le _, rfl, HM, HO, Lib.hid (FRnd.start _ _ _), HOK⟩
   case round =>
    clear HM HO HOK
    obtain ⟨u, g, hu, rfl, HM, HO, HRN, HOK⟩ := hrel
    have d1 := (HM.out.cell 1).trans (rfl : _ = some (Value.slice K.la E.l.length K.lc))
    by_cases hul : u < E.l.length
    ·have huz : (u : Int) < (E.l.length : Int) := by omega
     have hu0 : (0 : Int) ≤ (u : Int) := by omega
     have hu1 : ¬ (u : Int) < 0 := by omega
     have hu2 : ¬ (E.l.length : Int) ≤ (u : Int) := by omega
     have HUL := Lib.hid hul
     clear hul hu
     go_wp2_with fail
     clear d1
     go_loopw [8, 9] (fun r _ wr => ∃ (v : Nat) (g : Nat → Nat), v ≤ E.l.length ∧ r = .int .i64 v ∧ Hid (MAt w0 wr E K g ou hi' wh) ∧ Hid (Only (InM K) w wr) ∧ Hid (FRnd E.l.length (needB E.l) f g u v) ∧ Hid (FOk E (setP s i 3) g)) (fun r _ _ => E.l.length - (intOf r).toNat)
     case atStart => exact ⟨0, g, Nat.zero_le _, rfl, HM, HO, HRN, HOK⟩
     case round =>
      clear HM HO HRN HOK
      obtain ⟨v, g, hv, rfl, HM, HO, HRN, HOK⟩ := hrel
      have d1 := (HM.out.cell 1).trans (rfl : _ = some (Value.slice K.la E.l.length K.lc))
      by_cases hvl : v < E.l.length
      ·have hvz : (v : Int) < (E.l.length : Int) := by omega
       have hv0 : (0 : Int) ≤ (v : Int) := by omega
       have hv1 : ¬ (v : Int) < 0 := by omega
       have hv2 : ¬ (E.l.length : Int) ≤ (v : Int) := by omega
       have HVL := Lib.hid hvl
       have d2 := (HM.out.cell 2).trans (rfl : _ = some (TabS K.st E.l.length))
       have b3 := stateM_failed (HOK.out.le HLE.out v)
       have b4 := stateM_left (HOK.out.le HLE.out v)
       have bk := stateM_waits (HOK.out.le HLE.out u)
       have tv := HM.out.tab.st.cell hvl
       have tu := HM.out.tab.st.cell HUL.out
       have HNR := Lib.hid (fun (w1 : World) (hx : Ext wr w1) => needsRule_any w1 _ E.l u v HUL.out hvl ((HRD.out wr g HM.out).ext hx))
       clear hvl hv
       by_cases h3 : g v = 3
       ·rw [show (g v == 3) = true from beq_iff_eq.2 h3] at b3
        have hge : 3 ≤ g v := by omega
        clear b4
        by_cases h1 : g u = 1
        ·rw [show (g u == 1) = true from beq_iff_eq.2 h1] at bk
         cases hn : needB E.l u v with
         | false =>
          have HSK : Hid (¬ (g u = 1 ∧ 3 ≤ g v ∧ needB E.l u v = true)) := Lib.hid (fun h => by rw [hn] at h; cases h.2.2)
          rw [hn] at HNR
          clear h3 h1 hge hn
          have HRN2 := Lib.hid (HRN.out.skip HSK.out)
          generalize stateM (g v) = sv at b3 tv
          generalize stateM (g u) = su at bk tu
          go_wp2_with fail
          refine (HNR.out wr (Only.refl _ _)).mono ?_
          rintro e w3 ⟨rfl, ho⟩
          have HM3 := Lib.hid (HM.out.grow ho)
          have HO3 : Hid (Only (InM K) w w3) := Lib.hid (Only.ext HO.out ho)
          clear ho d1 d2 tv tu
          go_wp2_with fail
          go_roundw
          case rel => exact ⟨v + 1, g, HVL.out, by go_num, HM3, HO3, HRN2, HOK⟩
          case measure => have := HVL.out; simp [intOf]; omega
         | true =>
          have HMK : Hid (g u = 1 ∧ 3 ≤ g v ∧ needB E.l u v = true) := Lib.hid ⟨h1, hge, hn⟩
          rw [hn] at HNR
          clear h3 h1 hge hn
          have HRN2 := Lib.hid (HRN.out.mark HMK.out.1 HMK.out.2.1 HMK.out.2.2 HUL.out HVL.out (g' := fun x => if x = u then 4 else g x) (fun _ => rfl))
          have HOK2 := Lib.hid (HOK.out.mark HMK.out.1 HMK.out.2.1 HMK.out.2.2 (g' := fun x => if x = u then 4 else g x) (fun _ => rfl))
          generalize stateM (g v) = sv at b3 tv
          generalize stateM (g u) = su at bk tu
          go_wp2_with fail
          refine (HNR.out wr (Only.refl _ _)).mono ?_
          rintro e w3 ⟨rfl, ho⟩
          have hm3 := HM.out.grow ho
          have e2 := (hm3.cell 2).trans (rfl : _ = some (TabS K.st E.l.length))
          have eu := hm3.tab.st.cell HUL.out
          have f2 := hm3.tab.st.free u
          obtain ⟨hm4, ho4⟩ := hm3.setSt u 4 (g' := fun x => if x = u then 4 else g x) (fun _ => rfl)
          rw [show stateM 4 = [108, 101, 102, 116] from rfl] at hm4 ho4
          have HM4 := Lib.hid hm4
          have HO4 : Hid (Only (InM K) w _) := Lib.hid ((Only.ext HO.out ho).then ho4)
          clear ho hm3 hm4 ho4 d1 d2 tv tu
          generalize stateM (g u) = sx at eu
          go_wp2_with fail
          go_roundw
          case rel => exact ⟨v + 1, _, HVL.out, by go_num, HM4, HO4, HRN2, HOK2⟩
          case measure => have := HVL.out; simp [intOf]; omega
        ·rw [show (g u == 1) = false from beq_eq_false_iff_ne.2 h1] at bk
         have HSK : Hid (¬ (g u = 1 ∧ 3 ≤ g v ∧ needB E.l u v = true)) := Lib.hid (fun h => h1 h.1)
         clear h3 h1 hge
         have HRN2 := Lib.hid (HRN.out.skip HSK.out)
         generalize stateM (g v) = sv at b3 tv
         generalize stateM (g u) = su at bk tu
         go_wp2_with fail
         go_roundw
         case rel => exact ⟨v + 1, g, HVL.out, by go_num, HM, HO, HRN2, HOK⟩
         case measure => have := HVL.out; simp [intOf]; omega
       by_cases h4 : g v = 4
       ·rw [show (g v == 3) = false from beq_eq_false_iff_ne.2 h3] at b3
        rw [show (g v == 4) = true from beq_iff_eq.2 h4] at b4
        have hge : 3 ≤ g v := by omega
        by_cases h1 : g u = 1
        ·rw [show (g u == 1) = true from beq_iff_eq.2 h1] at bk
         cases hn : needB E.l u v with
         | false =>
          have HSK : Hid (¬ (g u = 1 ∧ 3 ≤ g v ∧ needB E.l u v = true)) := Lib.hid (fun h => by rw [hn] at h; cases h.2.2)
          rw [hn] at HNR
          clear h3 h4 h1 hge hn
          have HRN2 := Lib.hid (HRN.out.skip HSK.out)
          generalize stateM (g v) = sv at b3 b4 tv
          generalize stateM (g u) = su at bk tu
          go_wp2_with fail
          refine (HNR.out wr (Only.refl _ _)).mono ?_
          rintro e w3 ⟨rfl, ho⟩
          have HM3 := Lib.hid (HM.out.grow ho)
          have HO3 : Hid (Only (InM K) w w3) := Lib.hid (Only.ext HO.out ho)
          clear ho d1 d2 tv tu
          go_wp2_with fail
          go_roundw
          case rel => exact ⟨v + 1, g, HVL.out, by go_num, HM3, HO3, HRN2, HOK⟩
          case measure => have := HVL.out; simp [intOf]; omega
         | true =>
          have HMK : Hid (g u = 1 ∧ 3 ≤ g v ∧ needB E.l u v = true) := Lib.hid ⟨h1, hge, hn⟩
          rw [hn] at HNR
          clear h3 h4 h1 hge hn
          have HRN2 := Lib.hid (HRN.out.mark HMK.out.1 HMK.out.2.1 HMK.out.2.2 HUL.out HVL.out (g' := fun x => if x = u then 4 else g x) (fun _ => rfl))
          have HOK2 := Lib.hid (HOK.out.mark HMK.out.1 HMK.out.2.1 HMK.out.2.2 (g' := fun x => if x = u then 4 else g x) (fun _ => rfl))
          generalize stateM (g v) = sv at b3 b4 tv
          generalize stateM (g u) = su at bk tu
          go_wp2_with fail
          refine (HNR.out wr (Only.refl _ _)).mono ?_
          rintro e w3 ⟨rfl, ho⟩
          have hm3 := HM.out.grow ho
          have e2 := (hm3.cell 2).trans (rfl : _ = some (TabS K.st E.l.length))
          have eu := hm3.tab.st.cell HUL.out
          have f2 := hm3.tab.st.free u
          obtain ⟨hm4, ho4⟩ := hm3.setSt u 4 (g' := fun x => if x = u then 4 else g x) (fun _ => rfl)
          rw [show stateM 4 = [108, 101, 102, 116] from rfl] at hm4 ho4
          have HM4 := Lib.hid hm4
          have HO4 : Hid (Only (InM K) w _) := Lib.hid ((Only.ext HO.out ho).then ho4)
          clear ho hm3 hm4 ho4 d1 d2 tv tu
          generalize stateM (g u) = sx at eu
          go_wp2_with fail
          go_roundw
          case rel => exact ⟨v + 1, _, HVL.out, by go_num, HM4, HO4, HRN2, HOK2⟩
          case measure => have := HVL.out; simp [intOf]; omega
        ·rw [show (g u == 1) = false from beq_eq_false_iff_ne.2 h1] at bk
         have HSK : Hid (¬ (g u = 1 ∧ 3 ≤ g v ∧ needB E.l u v = true)) := Lib.hid (fun h => h1 h.1)
         clear h3 h4 h1 hge
         have HRN2 := Lib.hid (HRN.out.skip HSK.out)
         generalize stateM (g v) = sv at b3 b4 tv
         generalize stateM (g u) = su at bk tu
         go_wp2_with fail
         go_roundw
         case rel => exact ⟨v + 1, g, HVL.out, by go_num, HM, HO, HRN2, HOK⟩
         case measure => have := HVL.out; simp [intOf]; omega
       ·rw [show (g v == 3) = false from beq_eq_false_iff_ne.2 h3] at b3
        rw [show (g v == 4) = false from beq_eq_false_iff_ne.2 h4] at b4
        have hge : ¬ 3 ≤ g v := by have := HOK.out.le HLE.out v; omega
        by_cases h1 : g u = 1
        ·rw [show (g u == 1) = true from beq_iff_eq.2 h1] at bk
         have HSK : Hid (¬ (g u = 1 ∧ 3 ≤ g v ∧ needB E.l u v = true)) := Lib.hid (fun h => hge h.2.1)
         clear h3 h4 h1 hge
         have HRN2 := Lib.hid (HRN.out.skip HSK.out)
         generalize stateM (g v) = sv at b3 b4 tv
         generalize stateM (g u) = su at bk tu
         go_wp2_with fail
         go_roundw
         case rel => exact ⟨v + 1, g, HVL.out, by go_num, HM, HO, HRN2, HOK⟩
         case measure => have := HVL.out; simp [intOf]; omega
        ·rw [show (g u == 1) = false from beq_eq_false_iff_ne.2 h1] at bk
         have HSK : Hid (¬ (g u = 1 ∧ 3 ≤ g v ∧ needB E.l u v = true)) := Lib.hid (fun h => h1 h.1)
         clear h3 h4 h1 hge
         have HRN2 := Lib.hid (HRN.out.skip HSK.out)
         generalize stateM (g v) = sv at b3 b4 tv
         generalize stateM (g u) = su at bk tu
         go_wp2_with fail
         go_roundw
         case rel => exact ⟨v + 1, g, HVL.out, by go_num, HM, HO, HRN2, HOK⟩
         case measure => have := HVL.out; simp [intOf]; omega
      ·have hvz : ¬ (v : Int) < (E.l.length : Int) := by omega
       have hve : v = E.l.length := by omega
       rw [hve] at HRN
       have HRN2 := Lib.hid HRN.out.line
       clear hvl hv hve
       go_wp2_with fail
       go_roundw
       case rel => exact ⟨u + 1, g, HUL.out, by go_num, HM, HO, HRN2, HOK⟩
       case measure => have := HUL.out; simp [intOf]; omega
    ·have huz : ¬ (u : Int) < (E.l.length : Int) := by omega
     have hue : u = E.l.length := by omega
     rw [hue] at HRN
     have HRS2 := Lib.hid (HRS.out.next HRN.out)
     clear hul hu hue
     go_wp2_with fail
     go_roundw
     case rel => exact ⟨t + 1, g, HTL.out, by go_num, HM, HO, HRS2, HOK⟩
     case measure => have := HTL.out; simp [intOf]; omega
  ·have htz : ¬ (t : Int) < (E.l.length : Int) := by omega
   have hte : t = E.l.length := by omega
   rw [hte] at HRS
   have HCL := Lib.hid (HFE.out f HOK.out (HRS.out.done HIN.out HF0.out))
   clear htl ht hte
   go_wp2_with fail
   go_end0
   rw [HOU.out, HHI.out, HWH.out] at HM
   exact ⟨rfl, HM.out.congr (fun x _ => HCL.out x) (fun _ _ => rfl) (fun _ _ => rfl) (fun _ _ => rfl), HO.out⟩
end
end Go.Proofs.YtnmhaipjfpongacGreatDoor

/- TreeReads' walk: any text as a tree. No condition but what the variables hold. -/
import Derived.Test.YtnmhaipjfpongabGreatDoorW5x
namespace Go.Proofs.YtnmhaipjfpongabGreatDoor
open Go.ChangeShapes Go.WideShapes Go.ChangeAt Go.RowKit

theorem putCode_le12 (T : FL) (p x : B) : putCode T p x ≤ 12 := Nat.le_trans (putCode_le T p x) (by decide)
theorem putsC_le : ∀ (l : FL) (T : FL), putsC T l ≤ 12
  | [], _ => by simp [putsC]
  | q :: l, T => by
    unfold putsC
    split
    · exact putsC_le l _
    · exact putCode_le12 _ _ _
theorem readC_le (s : B) : readC s ≤ 12 := by
  unfold readC
  have h := fun l => putsC_le l []
  cases filesB (s.length + 1) s with
  | none => decide
  | some l =>
    simp only
    have := h l
    split
    · split <;> decide
    · exact this

set_option maxRecDepth 100000 in
set_option maxHeartbeats 4000000 in
theorem walkTreeReads (w : World) (P : Nat → Addr) (s : B) (hS : Sents w P) (hm : HasMax w) (hv : AtoiVars w) (hp : Pow w) :
    Calls Tryz.prog 5 #[S s] w (RetE (.bool true) w) := by
  have HT := Lib.hid (treed_any w P (hS.errs _) hm hp)
  by_cases hl : 3000 < s.length
  · have hlz : (3000 : Int) < (s.length : Int) := by omega
    clear hl
    go_enter Tryz.func5, Tryz.ntmps5
    go_wp2_with fail
    refine (HT.out).mono ?_
    rintro e w1 ⟨rfl, ho⟩
    have HO := Lib.hid ho
    clear ho
    go_wp2_with fail
    go_ret
    exact ⟨rfl, HO.out⟩
  · have hlz : ¬ (3000 : Int) < (s.length : Int) := by omega
    have HR := Lib.hid (fun W (hW : Ext w W) => read_any W s P (by omega) ((hS.errs _).ext hW) (hm.ext hW) (.inl (hv.ext hW)) (hp.ext hW))
    have HO2 := Lib.hid (fun W => treeOf_any W s (by omega))
    have HC := Lib.hid (fun W (hW : Ext w W) => codedC W P (hS.ext hW) (readC s) (readC_le s))
    have HPW := Lib.hid hp
    cases hc : readC s with
    | succ c =>
      have HCC := Lib.hid hc
      rw [hc] at HC
      have hcz : (0 : Int) < ((c + 1 : Nat) : Int) := by omega
      clear hc hl hS hm hv hp
      go_enter Tryz.func5, Tryz.ntmps5
      go_wp2_with fail
      refine (HT.out).mono ?_
      rintro e w1 ⟨rfl, ho⟩
      have HX1 := Lib.hid ho
      clear ho
      go_wp2_with fail
      refine (HR.out w1 HX1.out).mono ?_
      rintro e w2 hri
      obtain ⟨rfl, ho⟩ := hri.1 (by rw [HCC.out]; exact Nat.succ_ne_zero _)
      have HX2 := Lib.hid (HX1.out.then ho)
      rw [HCC.out]
      rw [show errC P (c + 1) = errV (P c) from rfl] at HC ⊢
      clear hri ho
      go_wp2_with fail
      refine (HO2.out w2).mono ?_
      rintro e w3 hri
      obtain ⟨rfl, ho⟩ := hri.1 (by rw [HCC.out]; exact Nat.succ_ne_zero _)
      have HX3 := Lib.hid (HX2.out.then ho)
      rw [HCC.out]
      clear hri ho
      go_wp2_with fail
      refine (HC.out w3 HX3.out).mono ?_
      rintro e w4 ⟨rfl, ho⟩
      have HX4 := Lib.hid (HX3.out.then ho)
      clear ho
      go_wp2_with fail
      go_ret
      exact ⟨rfl, HX4.out⟩
    | zero =>
      have HCC := Lib.hid hc
      rw [hc, show errC P 0 = .nilIface from rfl] at HC
      have HTS := Lib.hid (read_same hc)
      have hft := read_fits s
      have hpl : ∀ q ∈ readT s, q.1.length ≤ 1000 := fun q hq => by have := (path_bytes (hft.path q hq)).2.2; omega
      have HT1 := Lib.hid (fun W b mb (hW : Ext w W) (h : TreeAt W b mb (readT s)) => text_any W b mb (readT s) h hft.rising hpl hft.bytes hft.few (hp.ext hW))
      have HT2 := Lib.hid (fun W base m slv (h : RTree W base m slv (readT s)) => textM_any W base m slv (readT s) h hpl hft.bytes hft.few)
      rw [HTS.out] at HT1 HT2
      have hss : (s == s) = true := by simp
      clear hc hl hS hm hv hp hft hpl
      go_enter Tryz.func5, Tryz.ntmps5
      go_wp2_with fail
      refine (HT.out).mono ?_
      rintro e w1 ⟨rfl, ho⟩
      have HX1 := Lib.hid ho
      clear ho
      go_wp2_with fail
      refine (HR.out w1 HX1.out).mono ?_
      rintro e w2 hri
      obtain ⟨b, mb, rfl, ht, ho, _, _⟩ := hri.2 HCC.out
      have HX2 := Lib.hid (HX1.out.then ho)
      have HTA := Lib.hid ht
      clear hri ho ht
      go_wp2_with fail
      refine (HO2.out w2).mono ?_
      rintro e w3 hri
      obtain ⟨m, slv, rfl, hrt, ho, _⟩ := hri.2 HCC.out
      have HX3 := Lib.hid (HX2.out.then ho)
      have HTA3 := Lib.hid (TreeAt.ext HTA.out ho)
      have HRT3 := Lib.hid hrt
      clear hri ho hrt
      go_wp2_with fail
      refine (HC.out w3 HX3.out).mono ?_
      rintro e w4 ⟨rfl, ho⟩
      have HX4 := Lib.hid (HX3.out.then ho)
      have HTA4 := Lib.hid (TreeAt.ext HTA3.out ho)
      have HRT4 := Lib.hid (HRT3.out.ext ho)
      clear ho
      go_wp2_with fail
      refine (HT1.out w4 b mb HX4.out HTA4.out).mono ?_
      rintro e w5 ⟨rfl, ho⟩
      have HX5 := Lib.hid (HX4.out.then ho)
      have HTA5 := Lib.hid (TreeAt.ext HTA4.out ho)
      have HRT5 := Lib.hid (HRT4.out.ext ho)
      clear ho
      go_wp2_with fail
      refine (HT2.out w5 _ m slv HRT5.out).mono ?_
      rintro e w6 ⟨rfl, ho⟩
      have HX6 := Lib.hid (HX5.out.then ho)
      have HTA6 := Lib.hid (TreeAt.ext HTA5.out ho)
      clear ho
      go_wp2_with fail
      refine (HT1.out w6 b mb HX6.out HTA6.out).mono ?_
      rintro e w7 ⟨rfl, ho⟩
      have HX7 := Lib.hid (HX6.out.then ho)
      clear ho
      go_wp2_with fail
      go_ret
      exact ⟨rfl, HX7.out⟩
end Go.Proofs.YtnmhaipjfpongabGreatDoor

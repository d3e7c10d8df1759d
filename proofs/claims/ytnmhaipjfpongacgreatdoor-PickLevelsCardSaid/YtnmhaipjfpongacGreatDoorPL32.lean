/- Texts of this seat laid together for one claim: F11. No condition of its own: what each proves stands with its theorems. -/
import Derived.Test.YtnmhaipjfpongacGreatDoorPL19
namespace Go.Proofs.YtnmhaipjfpongacGreatDoor
open Go.ChangeShapes Go.WideShapes Go.ChangeAt Go.RowKit

def Kd.name : Kd → B
 | .head => [104, 101, 97, 100]
 | .swap => [115, 119, 97, 112]
 | .count => [99, 111, 117, 110, 116]
 | .sort => [115, 111, 114, 116]
 | .lines => [108, 105, 110, 101, 115]
 | .upper => [117, 112, 112, 101, 114]
 | .join => [106, 111, 105, 110]
 | .write => [119, 114, 105, 116, 101]

def Kd.num : Kd → Nat
 | .head => 0
 | .swap => 1
 | .count => 2
 | .sort => 3
 | .lines => 4
 | .upper => 5
 | .join => 6
 | .write => 7
def Kd.isN (i : Nat) (k : Kd) : Bool := k.num == i

theorem kind_name {name : B} {k : Kd} (h : kinds.lookup name = some k) : name = k.name := by
 unfold kinds at h
 simp only [List.lookup] at h
 repeat' split at h
 all_goals first
  | (rename_i e; cases h; exact beq_iff_eq.1 e)
  | cases h

theorem kind_not {name : B} (h : kinds.lookup name = none) : (name == [104, 101, 97, 100]) = false ∧ (name == [115, 119, 97, 112]) = false ∧ (name == [99, 111, 117, 110, 116]) = false ∧ (name == [115, 111, 114, 116]) = false ∧
  (name == [108, 105, 110, 101, 115]) = false ∧ (name == [117, 112, 112, 101, 114]) = false ∧ (name == [106, 111, 105, 110]) = false ∧ (name == [119, 114, 105, 116, 101]) = false := by
 unfold kinds at h
 simp only [List.lookup] at h
 repeat' split at h
 all_goals first
  | cases h; done
  | skip
 all_goals (refine ⟨?_, ?_, ?_, ?_, ?_, ?_, ?_, ?_⟩ <;> assumption)

theorem pair_len (wd : B) : (decide ((cutc 61 wd).length = 2) && !(wd.head? == some 61)) = pairB wd := by
 unfold pairB
 rw [cutc_length]
 congr 1
 rw [Bool.eq_iff_iff, decide_eq_true_eq, beq_iff_eq]
 omega

theorem num_isSome (wd : B) : decide (0 ≤ numI 3 wd) = (numB 3 wd).isSome := by
 unfold numI
 cases numB 3 wd with
 | none => rfl
 | some n => exact decide_eq_true (Int.natCast_nonneg n)

set_option maxRecDepth 100000 in
set_option maxHeartbeats 4000000 in
theorem actError_any (w : World) (name wd : B) (n : Nat) (hw : wd.length ≤ 900000) :
  Calls Tryz.prog 170 #[S name, S wd, I n] w (RetE (I (actCode name wd n)) w) := by
 cases hk : kinds.lookup name with
 | none =>
  have hc : actCode name wd n = 5 := by unfold actCode; rw [hk]
  rw [hc]
  obtain ⟨e1, e2, e3, e4, e5, e6, e7, e8⟩ := kind_not hk
  clear hk hc
  go_enter Tryz.func170, Tryz.ntmps170
  go_wp2_with fail
  go_ret
  exact ⟨rfl, Only.refl _ _⟩
 | some k =>
  have hcode : actCode name wd n = if n < k.least ∨ k.most < n ∨ k.word wd = false then 3 else if 100 < wd.length then 10 else 0 := by unfold actCode; rw [hk]
  obtain rfl := kind_name hk
  rw [hcode]
  obtain ⟨R, hR⟩ : ∃ R : Nat, R = if n < k.least ∨ k.most < n ∨ k.word wd = false then 3 else if 100 < wd.length then 10 else 0 := ⟨_, rfl⟩
  rw [← hR]
  have HR := Lib.hid hR
  clear hR
  have HNU := Lib.hid (fun W => numberOf_any W wd 3 (by decide) (by omega))
  have HCU := Lib.hid (fun W => refCutC_any W 61 61 (by decide) wd (by omega))
  have HPL := Lib.hid (pair_len wd)
  have HNI := Lib.hid (num_isSome wd)
  have e1 : (k.name == [104, 101, 97, 100]) = Kd.isN 0 k := by cases k <;> rfl
  have e2 : (k.name == [115, 119, 97, 112]) = Kd.isN 1 k := by cases k <;> rfl
  have e3 : (k.name == [99, 111, 117, 110, 116]) = Kd.isN 2 k := by cases k <;> rfl
  have e4 : (k.name == [115, 111, 114, 116]) = Kd.isN 3 k := by cases k <;> rfl
  have e5 : (k.name == [108, 105, 110, 101, 115]) = Kd.isN 4 k := by cases k <;> rfl
  have e6 : (k.name == [117, 112, 112, 101, 114]) = Kd.isN 5 k := by cases k <;> rfl
  have e7 : (k.name == [106, 111, 105, 110]) = Kd.isN 6 k := by cases k <;> rfl
  have e8 : (k.name == [119, 114, 105, 116, 101]) = Kd.isN 7 k := by cases k <;> rfl
  generalize k.name = nm at *
  clear hk hcode
  go_enter Tryz.func170, Tryz.ntmps170
  go_upto_block 0 with fail
  go_cut [7, 8, 9] (fun a b c wx => a = I k.least ∧ b = I k.most ∧ c = .bool (k.word wd) ∧ Hid (Ext w wx))
  case first =>
   cases k with
   | write =>
    first | change _ = true at e1 | change _ = false at e1
    first | change _ = true at e2 | change _ = false at e2
    first | change _ = true at e3 | change _ = false at e3
    first | change _ = true at e4 | change _ = false at e4
    first | change _ = true at e5 | change _ = false at e5
    first | change _ = true at e6 | change _ = false at e6
    first | change _ = true at e7 | change _ = false at e7
    first | change _ = true at e8 | change _ = false at e8
    go_wp2_with fail
    go_meet
    exact ⟨rfl, rfl, rfl, Lib.hid (Only.refl _ _)⟩
   | join =>
    first | change _ = true at e1 | change _ = false at e1
    first | change _ = true at e2 | change _ = false at e2
    first | change _ = true at e3 | change _ = false at e3
    first | change _ = true at e4 | change _ = false at e4
    first | change _ = true at e5 | change _ = false at e5
    first | change _ = true at e6 | change _ = false at e6
    first | change _ = true at e7 | change _ = false at e7
    first | change _ = true at e8 | change _ = false at e8
    go_wp2_with fail
    go_meet
    exact ⟨rfl, rfl, rfl, Lib.hid (Only.refl _ _)⟩
   | upper =>
    first | change _ = true at e1 | change _ = false at e1
    first | change _ = true at e2 | change _ = false at e2
    first | change _ = true at e3 | change _ = false at e3
    first | change _ = true at e4 | change _ = false at e4
    first | change _ = true at e5 | change _ = false at e5
    first | change _ = true at e6 | change _ = false at e6
    first | change _ = true at e7 | change _ = false at e7
    first | change _ = true at e8 | change _ = false at e8
    go_wp2_with fail
    go_meet
    exact ⟨rfl, rfl, by cases wd <;> rfl, Lib.hid (Only.refl _ _)⟩
   | lines =>
    first | change _ = true at e1 | change _ = false at e1
    first | change _ = true at e2 | change _ = false at e2
    first | change _ = true at e3 | change _ = false at e3
    first | change _ = true at e4 | change _ = false at e4
    first | change _ = true at e5 | change _ = false at e5
    first | change _ = true at e6 | change _ = false at e6
    first | change _ = true at e7 | change _ = false at e7
    first | change _ = true at e8 | change _ = false at e8
    go_wp2_with fail
    go_meet
    exact ⟨rfl, rfl, rfl, Lib.hid (Only.refl _ _)⟩
   | sort =>
    first | change _ = true at e1 | change _ = false at e1
    first | change _ = true at e2 | change _ = false at e2
    first | change _ = true at e3 | change _ = false at e3
    first | change _ = true at e4 | change _ = false at e4
    first | change _ = true at e5 | change _ = false at e5
    first | change _ = true at e6 | change _ = false at e6
    first | change _ = true at e7 | change _ = false at e7
    first | change _ = true at e8 | change _ = false at e8
    cases hq : wd == [] with
    | true =>
     go_wp2_with fail
     go_meet
     exact ⟨rfl, rfl, by show _ = Value.bool (wd == [] || wd == [111, 110, 99, 101]); rw [hq]; rfl, Lib.hid (Only.refl _ _)⟩
    | false =>
     go_wp2_with fail
     go_meet
     exact ⟨rfl, rfl, by show _ = Value.bool (wd == [] || wd == [111, 110, 99, 101]); rw [hq]; rfl, Lib.hid (Only.refl _ _)⟩
   | count =>
    first | change _ = true at e1 | change _ = false at e1
    first | change _ = true at e2 | change _ = false at e2
    first | change _ = true at e3 | change _ = false at e3
    first | change _ = true at e4 | change _ = false at e4
    first | change _ = true at e5 | change _ = false at e5
    first | change _ = true at e6 | change _ = false at e6
    first | change _ = true at e7 | change _ = false at e7
    first | change _ = true at e8 | change _ = false at e8
    go_wp2_with fail
    go_meet
    exact ⟨rfl, rfl, by cases wd <;> rfl, Lib.hid (Only.refl _ _)⟩
   | swap =>
    first | change _ = true at e1 | change _ = false at e1
    first | change _ = true at e2 | change _ = false at e2
    first | change _ = true at e3 | change _ = false at e3
    first | change _ = true at e4 | change _ = false at e4
    first | change _ = true at e5 | change _ = false at e5
    first | change _ = true at e6 | change _ = false at e6
    first | change _ = true at e7 | change _ = false at e7
    first | change _ = true at e8 | change _ = false at e8
    have HW : Hid (Kd.swap.word wd = (decide ((cutc 61 wd).length = 2) && !(wd.head? == some 61))) := Lib.hid HPL.out.symm
    have hl := cutc_length 61 wd
    have hcl := List.count_le_length (a := (61 : UInt8)) (l := wd)
    generalize (cutc 61 wd).length = m at *
    by_cases h2 : m = 2
    ·subst h2
     cases wd with
     | nil => simp at hl
     | cons c r =>
      have hg := ba_get (l := c :: r) (j := 0) (c := c) rfl
      have hlen : (0 : Int) < ((c :: r : B).length : Int) := by simp
      obtain ⟨q, hq⟩ : ∃ q, ((c.toNat : Int) == 61) = q := ⟨_, rfl⟩
      have HQ : Hid ((c == 61) = q) := Lib.hid (by
       rw [← hq, Bool.eq_iff_iff, beq_iff_eq, beq_iff_eq]
       constructor
       ·intro e; rw [e]; rfl
       ·intro e; exact UInt8.toNat_inj.1 (by rw [show (61 : UInt8).toNat = 61 from rfl]; omega))
      have HW2 : Hid (Kd.swap.word (c :: r) = !q) := Lib.hid (by rw [HW.out, ← HQ.out]; simp)
      clear hl hcl HNU HNI HPL HW
      generalize (c :: r : B) = wd at *
      go_wp2_with fail
      refine (HCU.out w).mono ?_
      rintro e w1 ⟨g, cap, rfl, hr, ho⟩
      have HO := Lib.hid ho
      clear ho hr
      have HHQ := Lib.hid hq
      clear hq
      go_wp2_with fail
      go_meet
      exact ⟨rfl, rfl, by rw [HW2.out, ← HHQ.out]; rfl, HO⟩
    ·have hmz : ((m : Int) == 2) = false := beq_eq_false_iff_ne.2 (by omega)
     have HW2 : Hid (Kd.swap.word wd = false) := Lib.hid (by rw [HW.out, decide_eq_false h2]; rfl)
     clear hl hcl HNU HNI HPL HW h2
     go_wp2_with fail
     refine (HCU.out w).mono ?_
     rintro e w1 ⟨g, cap, rfl, hr, ho⟩
     have HO := Lib.hid ho
     clear ho hr
     go_wp2_with fail
     go_meet
     exact ⟨rfl, rfl, by rw [HW2.out], HO⟩
   | head =>
    first | change _ = true at e1 | change _ = false at e1
    first | change _ = true at e2 | change _ = false at e2
    first | change _ = true at e3 | change _ = false at e3
    first | change _ = true at e4 | change _ = false at e4
    first | change _ = true at e5 | change _ = false at e5
    first | change _ = true at e6 | change _ = false at e6
    first | change _ = true at e7 | change _ = false at e7
    first | change _ = true at e8 | change _ = false at e8
    go_wp2_with fail
    refine (HNU.out w).mono ?_
    rintro e w1 ⟨rfl, rfl⟩
    go_wp2_with fail
    go_meet
    exact ⟨rfl, rfl, by rw [HNI.out]; rfl, Lib.hid (Only.refl _ _)⟩
  case rest =>
   obtain ⟨rfl, rfl, rfl, HO⟩ := hcut
   clear e1 e2 e3 e4 e5 e6 e7 e8 HNU HCU HPL HNI
   have hR := HR.out
   clear HR
   generalize k.least = lo at *
   generalize k.most = hi at *
   generalize k.word wd = r at *
   by_cases h1 : n < lo
   ·rw [if_pos (.inl h1)] at hR
    have h1z : (n : Int) < (lo : Int) := by omega
    subst hR
    clear h1
    go_wp2_with fail
    go_ret
    exact ⟨rfl, HO.out⟩
   ·have h1z : ¬ (n : Int) < (lo : Int) := by omega
    by_cases h2 : hi < n
    ·rw [if_pos (.inr (.inl h2))] at hR
     have h2z : (hi : Int) < (n : Int) := by omega
     subst hR
     clear h1 h2
     go_wp2_with fail
     go_ret
     exact ⟨rfl, HO.out⟩
    ·have h2z : ¬ (hi : Int) < (n : Int) := by omega
     cases r with
     | false =>
      rw [if_pos (.inr (.inr rfl))] at hR
      subst hR
      clear h1 h2
      go_wp2_with fail
      go_ret
      exact ⟨rfl, HO.out⟩
     | true =>
      rw [if_neg (by simp; omega)] at hR
      clear h1 h2
      by_cases h3 : 100 < wd.length
      ·rw [if_pos h3] at hR
       have h3z : (100 : Int) < (wd.length : Int) := by omega
       subst hR
       clear h3
       go_wp2_with fail
       go_ret
       exact ⟨rfl, HO.out⟩
      ·rw [if_neg h3] at hR
       have h3z : ¬ (100 : Int) < (wd.length : Int) := by omega
       subst hR
       clear h3
       go_wp2_with fail
       go_ret
       exact ⟨rfl, HO.out⟩
end Go.Proofs.YtnmhaipjfpongacGreatDoor

/- Package path: fits. No condition but how the lists lie. (Printed by gen_q7.py.) -/
import Derived.Test.YtnmhaipjfpongaaGreatDoorQ6
import Derived.Deep.RegionHeld3
import Derived.Deep.DrawnRows
namespace Go.Proofs.YtnmhaipjfpongaaGreatDoor
open Go.ChangeShapes Go.WideShapes Go.ChangeAt Go.RowKit
open Go.MapKept (heap_alloc)

attribute [local go_sem ↓] Go.wp_at_zero Go.wp_at_succ

set_option maxRecDepth 100000 in
set_option maxHeartbeats 1000000 in
theorem fits_nil (w : World) (a : Option Addr) (c : Nat) (a2 : Option Addr) (m c2 : Nat) (hm : m ≤ 1000000) : Calls Tryz.prog 82 #[.slice a 0 c, .slice a2 m c2] w (StarIs w (m == 0)) := by
  cases m with
  | zero =>
    go_enter Tryz.func82, Tryz.ntmps82
    go_wp2_with fail
    go_ret
    exact ⟨rfl, 0, rfl⟩
  | succ m =>
    have g0 : ((m : Int) + 1 == 0) = false := beq_eq_false_iff_ne.2 (by omega)
    go_enter Tryz.func82, Tryz.ntmps82
    go_wp2_with fail
    go_ret
    exact ⟨rfl, 0, rfl⟩

set_option maxRecDepth 100000 in
set_option maxHeartbeats 2000000 in
theorem fits_s1A (w : World) (bp op np kp : Nat) (_hkp : np ≤ kp + 1) (_hmp : kp ≤ 1000000) (hx : w.cell? ⟨bp, op, none⟩ = some (S [42, 42])) (v2 : Value) (h : Calls Tryz.prog 82 #[(.slice (some ⟨bp, op + 1, none⟩) np (kp + 1)), v2] w (StarIs w true)) : Calls Tryz.prog 82 #[(.slice (some ⟨bp, op, none⟩) (np + 1) (kp + 2)), v2] w (StarIs w true) := by
  have g0 : ((np : Int) + 1 == 0) = false := beq_eq_false_iff_ne.2 (by omega)
  have H := Lib.hid h
  clear h
  go_enter Tryz.func82, Tryz.ntmps82
  go_wp2_with fail
  refine H.out.mono ?_
  rintro e w' ⟨rfl, m, rfl⟩
  go_wp2_with fail
  go_ret
  exact ⟨rfl, m, rfl⟩

set_option maxRecDepth 100000 in
set_option maxHeartbeats 2000000 in
theorem fits_s2A (w : World) (bp op np kp : Nat) (_hkp : np ≤ kp + 1) (_hmp : kp ≤ 1000000) (hx : w.cell? ⟨bp, op, none⟩ = some (S [42, 42])) (a2 : Option Addr) (c2 : Nat) (h : Calls Tryz.prog 82 #[(.slice (some ⟨bp, op + 1, none⟩) np (kp + 1)), .slice a2 0 c2] w (StarIs w false)) : Calls Tryz.prog 82 #[(.slice (some ⟨bp, op, none⟩) (np + 1) (kp + 2)), .slice a2 0 c2] w (StarIs w false) := by
  have g0 : ((np : Int) + 1 == 0) = false := beq_eq_false_iff_ne.2 (by omega)
  have H := Lib.hid h
  clear h
  go_enter Tryz.func82, Tryz.ntmps82
  go_wp2_with fail
  refine H.out.mono ?_
  rintro e w' ⟨rfl, m, rfl⟩
  go_wp2_with fail
  go_ret
  exact ⟨rfl, m, rfl⟩

set_option maxRecDepth 100000 in
set_option maxHeartbeats 2000000 in
theorem fits_s3AA (w : World) (bp op np kp : Nat) (_hkp : np ≤ kp + 1) (_hmp : kp ≤ 1000000) (bq oq nq kq : Nat) (_hkq : nq ≤ kq + 1) (_hmq : kq ≤ 1000000) (hx : w.cell? ⟨bp, op, none⟩ = some (S [42, 42])) (r : Bool) (h : Calls Tryz.prog 82 #[(.slice (some ⟨bp, op + 1, none⟩) np (kp + 1)), (.slice (some ⟨bq, oq, none⟩) (nq + 1) (kq + 2))] w (StarIs w false)) (h2 : ∀ m, Calls Tryz.prog 82 #[(.slice (some ⟨bp, op, none⟩) (np + 1) (kp + 2)), (.slice (some ⟨bq, oq + 1, none⟩) nq (kq + 1))] (w.drewN m) (StarIs (w.drewN m) r)) : Calls Tryz.prog 82 #[(.slice (some ⟨bp, op, none⟩) (np + 1) (kp + 2)), (.slice (some ⟨bq, oq, none⟩) (nq + 1) (kq + 2))] w (StarIs w r) := by
  have g0 : ((np : Int) + 1 == 0) = false := beq_eq_false_iff_ne.2 (by omega)
  have g1 : ((nq : Int) + 1 == 0) = false := beq_eq_false_iff_ne.2 (by omega)
  have g2 : (0 : Int) < (nq : Int) + 1 := by omega
  have H := Lib.hid h
  have H2 := Lib.hid h2
  clear h h2
  go_enter Tryz.func82, Tryz.ntmps82
  go_wp2_with fail
  refine H.out.mono ?_
  rintro e w' ⟨rfl, m, rfl⟩
  go_wp2_with fail
  refine (H2.out _).mono ?_
  rintro e w2 ⟨rfl, m2, rfl⟩
  go_wp2_with fail
  go_ret
  exact ⟨rfl, _, rfl⟩

set_option maxRecDepth 100000 in
set_option maxHeartbeats 2000000 in
theorem fits_s3AB (w : World) (bp op np kp : Nat) (_hkp : np ≤ kp + 1) (_hmp : kp ≤ 1000000) (bq oq : Nat) (hx : w.cell? ⟨bp, op, none⟩ = some (S [42, 42])) (r : Bool) (h : Calls Tryz.prog 82 #[(.slice (some ⟨bp, op + 1, none⟩) np (kp + 1)), (.slice (some ⟨bq, oq, none⟩) 1 1)] w (StarIs w false)) (h2 : ∀ m, Calls Tryz.prog 82 #[(.slice (some ⟨bp, op, none⟩) (np + 1) (kp + 2)), (.slice (some ⟨bq, oq, none⟩) 0 0)] (w.drewN m) (StarIs (w.drewN m) r)) : Calls Tryz.prog 82 #[(.slice (some ⟨bp, op, none⟩) (np + 1) (kp + 2)), (.slice (some ⟨bq, oq, none⟩) 1 1)] w (StarIs w r) := by
  have g0 : ((np : Int) + 1 == 0) = false := beq_eq_false_iff_ne.2 (by omega)
  have g1 : (1 : Nat) ≤ 1 := Nat.le_refl _
  have g2 : (0 : Int) < 1 := by omega
  have H := Lib.hid h
  have H2 := Lib.hid h2
  clear h h2
  go_enter Tryz.func82, Tryz.ntmps82
  go_wp2_with fail
  refine H.out.mono ?_
  rintro e w' ⟨rfl, m, rfl⟩
  go_wp2_with fail
  refine (H2.out _).mono ?_
  rintro e w2 ⟨rfl, m2, rfl⟩
  go_wp2_with fail
  go_ret
  exact ⟨rfl, _, rfl⟩

set_option maxRecDepth 100000 in
set_option maxHeartbeats 2000000 in
theorem fits_s1B (w : World) (bp op : Nat) (hx : w.cell? ⟨bp, op, none⟩ = some (S [42, 42])) (v2 : Value) (h : Calls Tryz.prog 82 #[(.slice (some ⟨bp, op, none⟩) 0 0), v2] w (StarIs w true)) : Calls Tryz.prog 82 #[(.slice (some ⟨bp, op, none⟩) 1 1), v2] w (StarIs w true) := by
  have g0 : (1 : Nat) ≤ 1 := Nat.le_refl _
  have H := Lib.hid h
  clear h
  go_enter Tryz.func82, Tryz.ntmps82
  go_wp2_with fail
  refine H.out.mono ?_
  rintro e w' ⟨rfl, m, rfl⟩
  go_wp2_with fail
  go_ret
  exact ⟨rfl, m, rfl⟩

set_option maxRecDepth 100000 in
set_option maxHeartbeats 2000000 in
theorem fits_s2B (w : World) (bp op : Nat) (hx : w.cell? ⟨bp, op, none⟩ = some (S [42, 42])) (a2 : Option Addr) (c2 : Nat) (h : Calls Tryz.prog 82 #[(.slice (some ⟨bp, op, none⟩) 0 0), .slice a2 0 c2] w (StarIs w false)) : Calls Tryz.prog 82 #[(.slice (some ⟨bp, op, none⟩) 1 1), .slice a2 0 c2] w (StarIs w false) := by
  have g0 : (1 : Nat) ≤ 1 := Nat.le_refl _
  have H := Lib.hid h
  clear h
  go_enter Tryz.func82, Tryz.ntmps82
  go_wp2_with fail
  refine H.out.mono ?_
  rintro e w' ⟨rfl, m, rfl⟩
  go_wp2_with fail
  go_ret
  exact ⟨rfl, m, rfl⟩

set_option maxRecDepth 100000 in
set_option maxHeartbeats 2000000 in
theorem fits_s3BA (w : World) (bp op : Nat) (bq oq nq kq : Nat) (_hkq : nq ≤ kq + 1) (_hmq : kq ≤ 1000000) (hx : w.cell? ⟨bp, op, none⟩ = some (S [42, 42])) (r : Bool) (h : Calls Tryz.prog 82 #[(.slice (some ⟨bp, op, none⟩) 0 0), (.slice (some ⟨bq, oq, none⟩) (nq + 1) (kq + 2))] w (StarIs w false)) (h2 : ∀ m, Calls Tryz.prog 82 #[(.slice (some ⟨bp, op, none⟩) 1 1), (.slice (some ⟨bq, oq + 1, none⟩) nq (kq + 1))] (w.drewN m) (StarIs (w.drewN m) r)) : Calls Tryz.prog 82 #[(.slice (some ⟨bp, op, none⟩) 1 1), (.slice (some ⟨bq, oq, none⟩) (nq + 1) (kq + 2))] w (StarIs w r) := by
  have g0 : (1 : Nat) ≤ 1 := Nat.le_refl _
  have g1 : ((nq : Int) + 1 == 0) = false := beq_eq_false_iff_ne.2 (by omega)
  have g2 : (0 : Int) < (nq : Int) + 1 := by omega
  have H := Lib.hid h
  have H2 := Lib.hid h2
  clear h h2
  go_enter Tryz.func82, Tryz.ntmps82
  go_wp2_with fail
  refine H.out.mono ?_
  rintro e w' ⟨rfl, m, rfl⟩
  go_wp2_with fail
  refine (H2.out _).mono ?_
  rintro e w2 ⟨rfl, m2, rfl⟩
  go_wp2_with fail
  go_ret
  exact ⟨rfl, _, rfl⟩

set_option maxRecDepth 100000 in
set_option maxHeartbeats 2000000 in
theorem fits_s3BB (w : World) (bp op : Nat) (bq oq : Nat) (hx : w.cell? ⟨bp, op, none⟩ = some (S [42, 42])) (r : Bool) (h : Calls Tryz.prog 82 #[(.slice (some ⟨bp, op, none⟩) 0 0), (.slice (some ⟨bq, oq, none⟩) 1 1)] w (StarIs w false)) (h2 : ∀ m, Calls Tryz.prog 82 #[(.slice (some ⟨bp, op, none⟩) 1 1), (.slice (some ⟨bq, oq, none⟩) 0 0)] (w.drewN m) (StarIs (w.drewN m) r)) : Calls Tryz.prog 82 #[(.slice (some ⟨bp, op, none⟩) 1 1), (.slice (some ⟨bq, oq, none⟩) 1 1)] w (StarIs w r) := by
  have g0 : (1 : Nat) ≤ 1 := Nat.le_refl _
  have g1 : (1 : Nat) ≤ 1 := Nat.le_refl _
  have g2 : (0 : Int) < 1 := by omega
  have H := Lib.hid h
  have H2 := Lib.hid h2
  clear h h2
  go_enter Tryz.func82, Tryz.ntmps82
  go_wp2_with fail
  refine H.out.mono ?_
  rintro e w' ⟨rfl, m, rfl⟩
  go_wp2_with fail
  refine (H2.out _).mono ?_
  rintro e w2 ⟨rfl, m2, rfl⟩
  go_wp2_with fail
  go_ret
  exact ⟨rfl, _, rfl⟩

set_option maxRecDepth 100000 in
set_option maxHeartbeats 2000000 in
theorem fits_n1 (w : World) (bp op np cp : Nat) (x : B) (hnp : np ≤ 1000001) (hx : w.cell? ⟨bp, op, none⟩ = some (S x)) (hne : (x == [42, 42]) = false) (a2 : Option Addr) (c2 : Nat) : Calls Tryz.prog 82 #[(.slice (some ⟨bp, op, none⟩) (np + 1) cp), .slice a2 0 c2] w (StarIs w false) := by
  have g0 : ((np : Int) + 1 == 0) = false := beq_eq_false_iff_ne.2 (by omega)
  go_enter Tryz.func82, Tryz.ntmps82
  go_wp2_with fail
  go_quiet (fail)
  go_wp2
  go_ret
  exact ⟨rfl, _, rfl⟩

set_option maxRecDepth 100000 in
set_option maxHeartbeats 2000000 in
theorem fits_n2AA (w : World) (bp op np kp : Nat) (_hkp : np ≤ kp + 1) (_hmp : kp ≤ 1000000) (bq oq nq kq : Nat) (_hkq : nq ≤ kq + 1) (_hmq : kq ≤ 1000000) (x y : B) (hx : w.cell? ⟨bp, op, none⟩ = some (S x)) (hy : w.cell? ⟨bq, oq, none⟩ = some (S y)) (hne : (x == [42, 42]) = false) (h : ∀ w1, Calls Tryz.prog 137 #[S x, S y] w1 (StarIs w1 false)) : Calls Tryz.prog 82 #[(.slice (some ⟨bp, op, none⟩) (np + 1) (kp + 2)), (.slice (some ⟨bq, oq, none⟩) (nq + 1) (kq + 2))] w (StarIs w false) := by
  have g0 : ((np : Int) + 1 == 0) = false := beq_eq_false_iff_ne.2 (by omega)
  have g1 : ((nq : Int) + 1 == 0) = false := beq_eq_false_iff_ne.2 (by omega)
  have g2 : (0 : Int) < (nq : Int) + 1 := by omega
  have gd : decide ((0 : Int) < (nq : Int) + 1) = true := decide_eq_true (by omega)
  have H := Lib.hid h
  clear h
  go_enter Tryz.func82, Tryz.ntmps82
  go_wp2_with fail
  go_quiet ((go_at_call 137; exact Calls.quiet_of (H.out _)))
  go_wp2
  go_ret
  exact ⟨rfl, _, rfl⟩

set_option maxRecDepth 100000 in
set_option maxHeartbeats 2000000 in
theorem fits_n3AA (w : World) (bp op np kp : Nat) (hkp : np ≤ kp + 1) (_hmp : kp ≤ 1000000) (bq oq nq kq : Nat) (hkq : nq ≤ kq + 1) (_hmq : kq ≤ 1000000) (x y : B) (r : Bool) (hx : w.cell? ⟨bp, op, none⟩ = some (S x)) (hy : w.cell? ⟨bq, oq, none⟩ = some (S y)) (hne : (x == [42, 42]) = false) (h : ∀ w1, Calls Tryz.prog 137 #[S x, S y] w1 (StarIs w1 true)) (h2 : ∀ m, Calls Tryz.prog 82 #[(.slice (some ⟨bp, op + 1, none⟩) np (kp + 1)), (.slice (some ⟨bq, oq + 1, none⟩) nq (kq + 1))] (w.drewN m) (StarIs (w.drewN m) r)) : Calls Tryz.prog 82 #[(.slice (some ⟨bp, op, none⟩) (np + 1) (kp + 2)), (.slice (some ⟨bq, oq, none⟩) (nq + 1) (kq + 2))] w (StarIs w r) := by
  have g0 : ((np : Int) + 1 == 0) = false := beq_eq_false_iff_ne.2 (by omega)
  have g1 : ((nq : Int) + 1 == 0) = false := beq_eq_false_iff_ne.2 (by omega)
  have g2 : (0 : Int) < (nq : Int) + 1 := by omega
  have gd : decide ((0 : Int) < (nq : Int) + 1) = true := decide_eq_true (by omega)
  have g3 : (1 : Int) ≤ (np : Int) + 1 := by omega
  have g4 : (1 : Int) ≤ (nq : Int) + 1 := by omega
  have g5 : ((np : Int) + 1) ≤ (kp : Int) + 2 := by omega
  have g6 : ((nq : Int) + 1) ≤ (kq : Int) + 2 := by omega
  have H := Lib.hid h
  have H2 := Lib.hid h2
  clear h h2
  go_enter Tryz.func82, Tryz.ntmps82
  go_wp2_with fail
  go_quiet (first | (go_at_call 137; exact Calls.quiet_of (H.out _)) | (go_at_call 82; exact Calls.quiet_of (H2.out _)))
  go_wp2
  go_ret
  exact ⟨rfl, _, rfl⟩

set_option maxRecDepth 100000 in
set_option maxHeartbeats 2000000 in
theorem fits_n2AB (w : World) (bp op np kp : Nat) (_hkp : np ≤ kp + 1) (_hmp : kp ≤ 1000000) (bq oq : Nat) (x y : B) (hx : w.cell? ⟨bp, op, none⟩ = some (S x)) (hy : w.cell? ⟨bq, oq, none⟩ = some (S y)) (hne : (x == [42, 42]) = false) (h : ∀ w1, Calls Tryz.prog 137 #[S x, S y] w1 (StarIs w1 false)) : Calls Tryz.prog 82 #[(.slice (some ⟨bp, op, none⟩) (np + 1) (kp + 2)), (.slice (some ⟨bq, oq, none⟩) 1 1)] w (StarIs w false) := by
  have g0 : ((np : Int) + 1 == 0) = false := beq_eq_false_iff_ne.2 (by omega)
  have g1 : (1 : Nat) ≤ 1 := Nat.le_refl _
  have g2 : (0 : Int) < 1 := by omega
  have gd : decide ((0 : Int) < 1) = true := rfl
  have H := Lib.hid h
  clear h
  go_enter Tryz.func82, Tryz.ntmps82
  go_wp2_with fail
  go_quiet ((go_at_call 137; exact Calls.quiet_of (H.out _)))
  go_wp2
  go_ret
  exact ⟨rfl, _, rfl⟩

set_option maxRecDepth 100000 in
set_option maxHeartbeats 2000000 in
theorem fits_n3AB (w : World) (bp op np kp : Nat) (hkp : np ≤ kp + 1) (_hmp : kp ≤ 1000000) (bq oq : Nat) (x y : B) (r : Bool) (hx : w.cell? ⟨bp, op, none⟩ = some (S x)) (hy : w.cell? ⟨bq, oq, none⟩ = some (S y)) (hne : (x == [42, 42]) = false) (h : ∀ w1, Calls Tryz.prog 137 #[S x, S y] w1 (StarIs w1 true)) (h2 : ∀ m, Calls Tryz.prog 82 #[(.slice (some ⟨bp, op + 1, none⟩) np (kp + 1)), (.slice (some ⟨bq, oq, none⟩) 0 0)] (w.drewN m) (StarIs (w.drewN m) r)) : Calls Tryz.prog 82 #[(.slice (some ⟨bp, op, none⟩) (np + 1) (kp + 2)), (.slice (some ⟨bq, oq, none⟩) 1 1)] w (StarIs w r) := by
  have g0 : ((np : Int) + 1 == 0) = false := beq_eq_false_iff_ne.2 (by omega)
  have g1 : (1 : Nat) ≤ 1 := Nat.le_refl _
  have g2 : (0 : Int) < 1 := by omega
  have gd : decide ((0 : Int) < 1) = true := rfl
  have g3 : (1 : Int) ≤ (np : Int) + 1 := by omega
  have g4 : (1 : Int) ≤ 1 := by omega
  have g5 : ((np : Int) + 1) ≤ (kp : Int) + 2 := by omega
  have g6 : (1 : Int) ≤ 1 := by omega
  have H := Lib.hid h
  have H2 := Lib.hid h2
  clear h h2
  go_enter Tryz.func82, Tryz.ntmps82
  go_wp2_with fail
  go_quiet (first | (go_at_call 137; exact Calls.quiet_of (H.out _)) | (go_at_call 82; exact Calls.quiet_of (H2.out _)))
  go_wp2
  go_ret
  exact ⟨rfl, _, rfl⟩

set_option maxRecDepth 100000 in
set_option maxHeartbeats 2000000 in
theorem fits_n2BA (w : World) (bp op : Nat) (bq oq nq kq : Nat) (_hkq : nq ≤ kq + 1) (_hmq : kq ≤ 1000000) (x y : B) (hx : w.cell? ⟨bp, op, none⟩ = some (S x)) (hy : w.cell? ⟨bq, oq, none⟩ = some (S y)) (hne : (x == [42, 42]) = false) (h : ∀ w1, Calls Tryz.prog 137 #[S x, S y] w1 (StarIs w1 false)) : Calls Tryz.prog 82 #[(.slice (some ⟨bp, op, none⟩) 1 1), (.slice (some ⟨bq, oq, none⟩) (nq + 1) (kq + 2))] w (StarIs w false) := by
  have g0 : (1 : Nat) ≤ 1 := Nat.le_refl _
  have g1 : ((nq : Int) + 1 == 0) = false := beq_eq_false_iff_ne.2 (by omega)
  have g2 : (0 : Int) < (nq : Int) + 1 := by omega
  have gd : decide ((0 : Int) < (nq : Int) + 1) = true := decide_eq_true (by omega)
  have H := Lib.hid h
  clear h
  go_enter Tryz.func82, Tryz.ntmps82
  go_wp2_with fail
  go_quiet ((go_at_call 137; exact Calls.quiet_of (H.out _)))
  go_wp2
  go_ret
  exact ⟨rfl, _, rfl⟩

set_option maxRecDepth 100000 in
set_option maxHeartbeats 2000000 in
theorem fits_n3BA (w : World) (bp op : Nat) (bq oq nq kq : Nat) (hkq : nq ≤ kq + 1) (_hmq : kq ≤ 1000000) (x y : B) (r : Bool) (hx : w.cell? ⟨bp, op, none⟩ = some (S x)) (hy : w.cell? ⟨bq, oq, none⟩ = some (S y)) (hne : (x == [42, 42]) = false) (h : ∀ w1, Calls Tryz.prog 137 #[S x, S y] w1 (StarIs w1 true)) (h2 : ∀ m, Calls Tryz.prog 82 #[(.slice (some ⟨bp, op, none⟩) 0 0), (.slice (some ⟨bq, oq + 1, none⟩) nq (kq + 1))] (w.drewN m) (StarIs (w.drewN m) r)) : Calls Tryz.prog 82 #[(.slice (some ⟨bp, op, none⟩) 1 1), (.slice (some ⟨bq, oq, none⟩) (nq + 1) (kq + 2))] w (StarIs w r) := by
  have g0 : (1 : Nat) ≤ 1 := Nat.le_refl _
  have g1 : ((nq : Int) + 1 == 0) = false := beq_eq_false_iff_ne.2 (by omega)
  have g2 : (0 : Int) < (nq : Int) + 1 := by omega
  have gd : decide ((0 : Int) < (nq : Int) + 1) = true := decide_eq_true (by omega)
  have g3 : (1 : Int) ≤ 1 := by omega
  have g4 : (1 : Int) ≤ (nq : Int) + 1 := by omega
  have g5 : (1 : Int) ≤ 1 := by omega
  have g6 : ((nq : Int) + 1) ≤ (kq : Int) + 2 := by omega
  have H := Lib.hid h
  have H2 := Lib.hid h2
  clear h h2
  go_enter Tryz.func82, Tryz.ntmps82
  go_wp2_with fail
  go_quiet (first | (go_at_call 137; exact Calls.quiet_of (H.out _)) | (go_at_call 82; exact Calls.quiet_of (H2.out _)))
  go_wp2
  go_ret
  exact ⟨rfl, _, rfl⟩

set_option maxRecDepth 100000 in
set_option maxHeartbeats 2000000 in
theorem fits_n2BB (w : World) (bp op : Nat) (bq oq : Nat) (x y : B) (hx : w.cell? ⟨bp, op, none⟩ = some (S x)) (hy : w.cell? ⟨bq, oq, none⟩ = some (S y)) (hne : (x == [42, 42]) = false) (h : ∀ w1, Calls Tryz.prog 137 #[S x, S y] w1 (StarIs w1 false)) : Calls Tryz.prog 82 #[(.slice (some ⟨bp, op, none⟩) 1 1), (.slice (some ⟨bq, oq, none⟩) 1 1)] w (StarIs w false) := by
  have g0 : (1 : Nat) ≤ 1 := Nat.le_refl _
  have g1 : (1 : Nat) ≤ 1 := Nat.le_refl _
  have g2 : (0 : Int) < 1 := by omega
  have gd : decide ((0 : Int) < 1) = true := rfl
  have H := Lib.hid h
  clear h
  go_enter Tryz.func82, Tryz.ntmps82
  go_wp2_with fail
  go_quiet ((go_at_call 137; exact Calls.quiet_of (H.out _)))
  go_wp2
  go_ret
  exact ⟨rfl, _, rfl⟩

set_option maxRecDepth 100000 in
set_option maxHeartbeats 2000000 in
theorem fits_n3BB (w : World) (bp op : Nat) (bq oq : Nat) (x y : B) (r : Bool) (hx : w.cell? ⟨bp, op, none⟩ = some (S x)) (hy : w.cell? ⟨bq, oq, none⟩ = some (S y)) (hne : (x == [42, 42]) = false) (h : ∀ w1, Calls Tryz.prog 137 #[S x, S y] w1 (StarIs w1 true)) (h2 : ∀ m, Calls Tryz.prog 82 #[(.slice (some ⟨bp, op, none⟩) 0 0), (.slice (some ⟨bq, oq, none⟩) 0 0)] (w.drewN m) (StarIs (w.drewN m) r)) : Calls Tryz.prog 82 #[(.slice (some ⟨bp, op, none⟩) 1 1), (.slice (some ⟨bq, oq, none⟩) 1 1)] w (StarIs w r) := by
  have g0 : (1 : Nat) ≤ 1 := Nat.le_refl _
  have g1 : (1 : Nat) ≤ 1 := Nat.le_refl _
  have g2 : (0 : Int) < 1 := by omega
  have gd : decide ((0 : Int) < 1) = true := rfl
  have g3 : (1 : Int) ≤ 1 := by omega
  have g4 : (1 : Int) ≤ 1 := by omega
  have g5 : (1 : Int) ≤ 1 := by omega
  have g6 : (1 : Int) ≤ 1 := by omega
  have H := Lib.hid h
  have H2 := Lib.hid h2
  clear h h2
  go_enter Tryz.func82, Tryz.ntmps82
  go_wp2_with fail
  go_quiet (first | (go_at_call 137; exact Calls.quiet_of (H.out _)) | (go_at_call 82; exact Calls.quiet_of (H2.out _)))
  go_wp2
  go_ret
  exact ⟨rfl, _, rfl⟩

def fitsB (p s : List B) : Bool := glob (fun x => x == [42, 42]) (fun x y => starB x y) p s

/-- A slice, its first element, and the slice behind it. -/
def Cut1 (w : World) (v t : Value) (x : B) : Prop :=
  (∃ b o n k, n ≤ k + 1 ∧ k ≤ 1000000 ∧ w.cell? ⟨b, o, none⟩ = some (S x) ∧ v = .slice (some ⟨b, o, none⟩) (n + 1) (k + 2) ∧ t = .slice (some ⟨b, o + 1, none⟩) n (k + 1)) ∨
  (∃ b o, w.cell? ⟨b, o, none⟩ = some (S x) ∧ v = .slice (some ⟨b, o, none⟩) 1 1 ∧ t = .slice (some ⟨b, o, none⟩) 0 0)

def RdC (w : World) (v : Value) (l : List B) : Prop :=
  ∃ a cap, v = .slice a l.length cap ∧ l.length ≤ cap ∧ cap ≤ 1000000 ∧ (l ≠ [] → ∃ b off, a = some ⟨b, off, none⟩ ∧ ∀ i x, l[i]? = some x → w.cell? ⟨b, off + i, none⟩ = some (S x))

theorem RdC.ext {w w' : World} {v : Value} {l : List B} (h : RdC w v l) (ho : Ext w w') : RdC w' v l := by
  obtain ⟨a, cap, rfl, h1, h2, h3⟩ := h
  refine ⟨a, cap, rfl, h1, h2, fun hl => ?_⟩
  obtain ⟨b, off, rfl, hc⟩ := h3 hl
  exact ⟨b, off, rfl, fun i x hx => ho.cellOf (hc i x hx) (fun h => h)⟩

theorem RdC.cut {w : World} {v : Value} {x : B} {r : List B} (h : RdC w v (x :: r)) : ∃ t, Cut1 w v t x ∧ RdC w t r := by
  obtain ⟨a, cap, rfl, h1, h2, h3⟩ := h
  obtain ⟨b, off, rfl, hc⟩ := h3 (by simp)
  simp only [List.length_cons] at h1 ⊢
  have h0 := hc 0 x rfl
  by_cases h : cap = 1
  · subst h
    have hr : r = [] := List.length_eq_zero_iff.1 (by omega)
    subst hr
    exact ⟨_, .inr ⟨b, off, h0, rfl, rfl⟩, ⟨_, 0, rfl, Nat.le_refl _, by omega, fun h => absurd rfl h⟩⟩
  · obtain ⟨k, rfl⟩ : ∃ k, cap = k + 2 := ⟨cap - 2, by omega⟩
    refine ⟨_, .inl ⟨b, off, r.length, k, by omega, by omega, h0, rfl, rfl⟩, ⟨_, k + 1, rfl, by omega, by omega, fun _ => ⟨b, off + 1, rfl, fun i y hy => ?_⟩⟩⟩
    have := hc (i + 1) y hy
    rw [show off + 1 + i = off + (i + 1) by omega]
    exact this

theorem fits_s1 {w : World} {v t v2 : Value} (hc : Cut1 w v t [42, 42]) (h : Calls Tryz.prog 82 #[t, v2] w (StarIs w true)) : Calls Tryz.prog 82 #[v, v2] w (StarIs w true) := by
  rcases hc with ⟨b, o, n, k, h1, h2, hx, rfl, rfl⟩ | ⟨b, o, hx, rfl, rfl⟩
  · exact fits_s1A w b o n k h1 h2 hx v2 h
  · exact fits_s1B w b o hx v2 h
theorem fits_s2 {w : World} {v t : Value} {a2 : Option Addr} {c2 : Nat} (hc : Cut1 w v t [42, 42]) (h : Calls Tryz.prog 82 #[t, .slice a2 0 c2] w (StarIs w false)) : Calls Tryz.prog 82 #[v, .slice a2 0 c2] w (StarIs w false) := by
  rcases hc with ⟨b, o, n, k, h1, h2, hx, rfl, rfl⟩ | ⟨b, o, hx, rfl, rfl⟩
  · exact fits_s2A w b o n k h1 h2 hx a2 c2 h
  · exact fits_s2B w b o hx a2 c2 h
theorem fits_s3 {w : World} {v t v2 t2 : Value} {y : B} {r : Bool} (hc : Cut1 w v t [42, 42]) (hd : Cut1 w v2 t2 y) (h : Calls Tryz.prog 82 #[t, v2] w (StarIs w false)) (h2 : ∀ m, Calls Tryz.prog 82 #[v, t2] (w.drewN m) (StarIs (w.drewN m) r)) : Calls Tryz.prog 82 #[v, v2] w (StarIs w r) := by
  rcases hc with ⟨b, o, n, k, e1, e2, hx, rfl, rfl⟩ | ⟨b, o, hx, rfl, rfl⟩ <;> rcases hd with ⟨b', o', n', k', e1', e2', hx', rfl, rfl⟩ | ⟨b', o', hx', rfl, rfl⟩
  · exact fits_s3AA w b o n k e1 e2 b' o' n' k' e1' e2' hx r h h2
  · exact fits_s3AB w b o n k e1 e2 b' o' hx r h h2
  · exact fits_s3BA w b o b' o' n' k' e1' e2' hx r h h2
  · exact fits_s3BB w b o b' o' hx r h h2
theorem fits_n0 {w : World} {v t : Value} {x : B} (hc : Cut1 w v t x) (hne : (x == [42, 42]) = false) (a2 : Option Addr) (c2 : Nat) : Calls Tryz.prog 82 #[v, .slice a2 0 c2] w (StarIs w false) := by
  rcases hc with ⟨b, o, n, k, h1, h2, hx, rfl, rfl⟩ | ⟨b, o, hx, rfl, rfl⟩
  · exact fits_n1 w b o n _ x (by omega) hx hne a2 c2
  · exact fits_n1 w b o 0 _ x (by omega) hx hne a2 c2
theorem fits_n2 {w : World} {v t v2 t2 : Value} {x y : B} (hc : Cut1 w v t x) (hd : Cut1 w v2 t2 y) (hne : (x == [42, 42]) = false) (h : ∀ w1, Calls Tryz.prog 137 #[S x, S y] w1 (StarIs w1 false)) : Calls Tryz.prog 82 #[v, v2] w (StarIs w false) := by
  rcases hc with ⟨b, o, n, k, e1, e2, hx, rfl, rfl⟩ | ⟨b, o, hx, rfl, rfl⟩ <;> rcases hd with ⟨b', o', n', k', e1', e2', hx', rfl, rfl⟩ | ⟨b', o', hx', rfl, rfl⟩
  · exact fits_n2AA w b o n k e1 e2 b' o' n' k' e1' e2' x y hx hx' hne h
  · exact fits_n2AB w b o n k e1 e2 b' o' x y hx hx' hne h
  · exact fits_n2BA w b o b' o' n' k' e1' e2' x y hx hx' hne h
  · exact fits_n2BB w b o b' o' x y hx hx' hne h
theorem fits_n3 {w : World} {v t v2 t2 : Value} {x y : B} {r : Bool} (hc : Cut1 w v t x) (hd : Cut1 w v2 t2 y) (hne : (x == [42, 42]) = false) (h : ∀ w1, Calls Tryz.prog 137 #[S x, S y] w1 (StarIs w1 true)) (h2 : ∀ m, Calls Tryz.prog 82 #[t, t2] (w.drewN m) (StarIs (w.drewN m) r)) : Calls Tryz.prog 82 #[v, v2] w (StarIs w r) := by
  rcases hc with ⟨b, o, n, k, e1, e2, hx, rfl, rfl⟩ | ⟨b, o, hx, rfl, rfl⟩ <;> rcases hd with ⟨b', o', n', k', e1', e2', hx', rfl, rfl⟩ | ⟨b', o', hx', rfl, rfl⟩
  · exact fits_n3AA w b o n k e1 e2 b' o' n' k' e1' e2' x y r hx hx' hne h h2
  · exact fits_n3AB w b o n k e1 e2 b' o' x y r hx hx' hne h h2
  · exact fits_n3BA w b o b' o' n' k' e1' e2' x y r hx hx' hne h h2
  · exact fits_n3BB w b o b' o' x y r hx hx' hne h h2

theorem fits_any : ∀ (n : Nat) (p s : List B), p.length + s.length ≤ n → ∀ (w : World) (v1 v2 : Value), RdC w v1 p → RdC w v2 s → Calls Tryz.prog 82 #[v1, v2] w (StarIs w (fitsB p s))
  | _, [], s, _, w, v1, v2, h1, h2 => by
    obtain ⟨a, cap, rfl, _, _, _⟩ := h1
    obtain ⟨a2, cap2, rfl, hl, hm, _⟩ := h2
    have : fitsB [] s = (s.length == 0) := by unfold fitsB; rw [glob_nil]; cases s <;> rfl
    rw [this]
    exact fits_nil w a cap a2 s.length cap2 (by omega)
  | 0, c :: q, s, h, _, _, _, _, _ => by simp at h
  | n + 1, c :: q, s, h, w, v1, v2, h1, h2 => by
    have h1' := h1
    obtain ⟨t, hc, ht⟩ := h1.cut
    have dr : ∀ m, Ext w (w.drewN m) := fun m => Only.drewN _ w m
    by_cases hs : c = [42, 42]
    · subst hs
      have g1 := fits_any n q s (by simp at h; omega) w t v2 ht h2
      cases s with
      | nil =>
        obtain ⟨a2, cap2, rfl, _, _, _⟩ := h2
        cases hr : fitsB q [] with
        | true => rw [hr] at g1; rw [show fitsB ([42, 42] :: q) [] = true by unfold fitsB at *; rw [glob_cons_nil, hr]; rfl]; exact fits_s1 hc g1
        | false => rw [hr] at g1; rw [show fitsB ([42, 42] :: q) [] = false by unfold fitsB at *; rw [glob_cons_nil, hr]; rfl]; exact fits_s2 hc g1
      | cons d r =>
        obtain ⟨t2, hd, ht2⟩ := h2.cut
        have g2 := fun m => fits_any n ([42, 42] :: q) r (by simp at h ⊢; omega) (w.drewN m) v1 t2 (h1'.ext (dr m)) (ht2.ext (dr m))
        cases hr : fitsB q (d :: r) with
        | true => rw [hr] at g1; rw [show fitsB ([42, 42] :: q) (d :: r) = true by unfold fitsB at *; rw [glob_star (st := fun x => x == [42, 42]) (eq := fun x y => starB x y) [42, 42] q d r rfl, hr]; rfl]; exact fits_s1 hc g1
        | false => rw [hr] at g1; rw [show fitsB ([42, 42] :: q) (d :: r) = fitsB ([42, 42] :: q) r by unfold fitsB at *; rw [glob_star (st := fun x => x == [42, 42]) (eq := fun x y => starB x y) [42, 42] q d r rfl, hr]; rfl]; exact fits_s3 hc hd g1 g2
    · have hcb : (c == [42, 42]) = false := beq_eq_false_iff_ne.2 hs
      cases s with
      | nil =>
        obtain ⟨a2, cap2, rfl, _, _, _⟩ := h2
        rw [show fitsB (c :: q) [] = false by unfold fitsB; rw [glob_cons_nil, hcb]; rfl]
        exact fits_n0 hc hcb a2 cap2
      | cons d r =>
        obtain ⟨t2, hd, ht2⟩ := h2.cut
        have e : fitsB (c :: q) (d :: r) = (starB c d && fitsB q r) := by unfold fitsB; rw [glob_one (st := fun x => x == [42, 42]) (eq := fun x y => starB x y) c q d r hcb]
        have g1 := fun w1 => star_any _ c d (Nat.le_refl _) w1
        rw [e]
        cases hr : starB c d with
        | false => rw [hr] at g1; exact fits_n2 hc hd hcb g1
        | true =>
          rw [hr] at g1
          rw [Bool.true_and]
          exact fits_n3 hc hd hcb g1 (fun m => fits_any n q r (by simp at h; omega) (w.drewN m) t t2 (ht.ext (dr m)) (ht2.ext (dr m)))
end Go.Proofs.YtnmhaipjfpongaaGreatDoor

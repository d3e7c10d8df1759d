/- Package path: letter. No condition. (Printed by gen_q1.py.) -/
import Derived.Test.YtnmhaipjfpongaaGreatDoorC2
import Derived.Test.YtnmhaipjfpongaaGreatDoorQ2
import Derived.BigQuiet
import Derived.BigGuard
namespace Go.Proofs.YtnmhaipjfpongaaGreatDoor
open Go.ChangeShapes Go.WideShapes Go.ChangeAt Go.RowKit



set_option maxRecDepth 100000 in
set_option maxHeartbeats 1000000 in
theorem letter_a (w : World) (z : Int) (c0 : (decide (97 ≤ z) = true)) (c1 : (decide (z ≤ 122) = true)) : Calls Tryz.prog 197 #[.int .u8 z] w fun e w' => e = .returned (.bool true) ∧ w = w' := by
  go_enter Tryz.func197, Tryz.ntmps197
  go_wp2
  go_ret
  exact ⟨rfl, rfl⟩

set_option maxRecDepth 100000 in
set_option maxHeartbeats 1000000 in
theorem letter_b (w : World) (z : Int) (c0 : (decide (97 ≤ z) = true)) (c1 : (decide (z ≤ 122) = false)) (c2 : (decide (48 ≤ z) = true)) (c3 : (decide (z ≤ 57) = false)) (c4 : ((z == 45) = false)) (c5 : ((z == 46) = false)) (c6 : ((z == 95) = false)) : Calls Tryz.prog 197 #[.int .u8 z] w fun e w' => e = .returned (.bool false) ∧ w = w' := by
  go_enter Tryz.func197, Tryz.ntmps197
  go_wp2
  go_ret
  exact ⟨rfl, rfl⟩

set_option maxRecDepth 100000 in
set_option maxHeartbeats 1000000 in
theorem letter_c (w : World) (z : Int) (c0 : (decide (97 ≤ z) = false)) (c1 : (decide (48 ≤ z) = true)) (c2 : (decide (z ≤ 57) = true)) : Calls Tryz.prog 197 #[.int .u8 z] w fun e w' => e = .returned (.bool true) ∧ w = w' := by
  go_enter Tryz.func197, Tryz.ntmps197
  go_wp2
  go_ret
  exact ⟨rfl, rfl⟩

set_option maxRecDepth 100000 in
set_option maxHeartbeats 1000000 in
theorem letter_d (w : World) (z : Int) (c0 : (decide (97 ≤ z) = false)) (c1 : (decide (48 ≤ z) = true)) (c2 : (decide (z ≤ 57) = false)) (c3 : ((z == 45) = false)) (c4 : ((z == 46) = false)) (c5 : ((z == 95) = true)) : Calls Tryz.prog 197 #[.int .u8 z] w fun e w' => e = .returned (.bool true) ∧ w = w' := by
  go_enter Tryz.func197, Tryz.ntmps197
  go_wp2
  go_ret
  exact ⟨rfl, rfl⟩

set_option maxRecDepth 100000 in
set_option maxHeartbeats 1000000 in
theorem letter_e (w : World) (z : Int) (c0 : (decide (97 ≤ z) = false)) (c1 : (decide (48 ≤ z) = true)) (c2 : (decide (z ≤ 57) = false)) (c3 : ((z == 45) = false)) (c4 : ((z == 46) = false)) (c5 : ((z == 95) = false)) : Calls Tryz.prog 197 #[.int .u8 z] w fun e w' => e = .returned (.bool false) ∧ w = w' := by
  go_enter Tryz.func197, Tryz.ntmps197
  go_wp2
  go_ret
  exact ⟨rfl, rfl⟩

set_option maxRecDepth 100000 in
set_option maxHeartbeats 1000000 in
theorem letter_f (w : World) (z : Int) (c0 : (decide (97 ≤ z) = false)) (c1 : (decide (48 ≤ z) = false)) (c2 : ((z == 45) = true)) : Calls Tryz.prog 197 #[.int .u8 z] w fun e w' => e = .returned (.bool true) ∧ w = w' := by
  go_enter Tryz.func197, Tryz.ntmps197
  go_wp2
  go_ret
  exact ⟨rfl, rfl⟩

set_option maxRecDepth 100000 in
set_option maxHeartbeats 1000000 in
theorem letter_g (w : World) (z : Int) (c0 : (decide (97 ≤ z) = false)) (c1 : (decide (48 ≤ z) = false)) (c2 : ((z == 45) = false)) (c3 : ((z == 46) = true)) : Calls Tryz.prog 197 #[.int .u8 z] w fun e w' => e = .returned (.bool true) ∧ w = w' := by
  go_enter Tryz.func197, Tryz.ntmps197
  go_wp2
  go_ret
  exact ⟨rfl, rfl⟩

set_option maxRecDepth 100000 in
set_option maxHeartbeats 1000000 in
theorem letter_h (w : World) (z : Int) (c0 : (decide (97 ≤ z) = false)) (c1 : (decide (48 ≤ z) = false)) (c2 : ((z == 45) = false)) (c3 : ((z == 46) = false)) (c4 : ((z == 95) = false)) : Calls Tryz.prog 197 #[.int .u8 z] w fun e w' => e = .returned (.bool false) ∧ w = w' := by
  go_enter Tryz.func197, Tryz.ntmps197
  go_wp2
  go_ret
  exact ⟨rfl, rfl⟩

end Go.Proofs.YtnmhaipjfpongaaGreatDoor

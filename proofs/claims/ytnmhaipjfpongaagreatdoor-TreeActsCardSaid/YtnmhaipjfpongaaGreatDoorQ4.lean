/- Package path: name. No condition. -/
import Derived.Test.YtnmhaipjfpongaaGreatDoorQ3
import Derived.Lib.ConvBytes
import Derived.Laws.AppendOwn
namespace Go.Proofs.YtnmhaipjfpongaaGreatDoor
open Go.ChangeShapes Go.WideShapes Go.ChangeAt Go.RowKit
open Go.MapKept (heap_alloc)

theorem enters_name1 : ∀ args w, (callFunc 196 args).run Tryz.prog w = .ok (.enter 196 args) w := fun args w => by kernel_rfl

/-- Where a string's bytes lie as a slice. -/
theorem rd_bytes (w : World) (e : TypeId) (s : B) (h : s.length ≤ maxLen) : Rd U8 (Lib.bytesWorld w e ⟨s.toArray⟩) (.slice (some ⟨w.heap.size, 0, none⟩) s.length (grownCap w s.length 0 e)) s := by
  refine ⟨_, _, rfl, grownCap_ge w _ _ _, grownCap_le_maxLen w _ _ _ h, fun _ => ⟨w.heap.size, 0, rfl, fun i x hx => ?_⟩⟩
  have hi : i < s.length := (List.getElem?_eq_some_iff.1 hx).1
  have h1 := Lib.bytesWorld_cell w e ⟨s.toArray⟩ i (by simpa [ByteArray.size] using hi)
  rw [Nat.zero_add, h1]
  simp [List.getD, hx]

theorem ext_bytes (w : World) (e : TypeId) (s : ByteArray) : Ext w (Lib.bytesWorld w e s) :=
  ⟨rfl, rfl, rfl, by rw [Lib.bytesWorld_size]; omega, fun k hk _ => Lib.bytesWorld_at_old w e s k hk⟩

set_option maxRecDepth 100000 in
set_option maxHeartbeats 1000000 in
theorem name_a (w : World) (st : Bool) : Calls Tryz.prog 136 #[S [], .bool st] w fun e w' => e = .returned (.bool false) ∧ Ext w w' := by
  go_enter Tryz.func136, Tryz.ntmps136
  go_wp2_with fail
  go_ret
  exact ⟨rfl, Only.alloc _ _ _⟩

set_option maxRecDepth 100000 in
set_option maxHeartbeats 1000000 in
theorem name_b (w : World) (st : Bool) (s : B) (h0 : (s == []) = false) (h1 : (decide ((s.length : Int) ≤ 12)) = false) : Calls Tryz.prog 136 #[S s, .bool st] w fun e w' => e = .returned (.bool false) ∧ Ext w w' := by
  go_enter Tryz.func136, Tryz.ntmps136
  go_wp2_with fail
  go_ret
  exact ⟨rfl, Only.alloc _ _ _⟩

set_option maxRecDepth 100000 in
set_option maxHeartbeats 1000000 in
theorem name_c (w : World) (st : Bool) (s : B) (h0 : (s == []) = false) (h1 : (decide ((s.length : Int) ≤ 12)) = true) (h2 : (s == [46]) = true) : Calls Tryz.prog 136 #[S s, .bool st] w fun e w' => e = .returned (.bool false) ∧ Ext w w' := by
  go_enter Tryz.func136, Tryz.ntmps136
  go_wp2_with fail
  go_ret
  exact ⟨rfl, Only.alloc _ _ _⟩

set_option maxRecDepth 100000 in
set_option maxHeartbeats 1000000 in
theorem name_d (w : World) (st : Bool) (s : B) (h0 : (s == []) = false) (h1 : (decide ((s.length : Int) ≤ 12)) = true) (h2 : (s == [46]) = false) (h3 : (s == [46, 46]) = true) : Calls Tryz.prog 136 #[S s, .bool st] w fun e w' => e = .returned (.bool false) ∧ Ext w w' := by
  go_enter Tryz.func136, Tryz.ntmps136
  go_wp2_with fail
  go_ret
  exact ⟨rfl, Only.alloc _ _ _⟩

set_option maxRecDepth 100000 in
set_option maxHeartbeats 1000000 in
theorem name_e (w : World) (st : Bool) (s : B) (h0 : (s == []) = false) (h1 : (decide ((s.length : Int) ≤ 12)) = true) (h2 : (s == [46]) = false) (h3 : (s == [46, 46]) = false) : Calls Tryz.prog 136 #[S s, .bool st] w fun e w' => e = .returned (.bool (s.all (byteOk st))) ∧ Ext w w' := by
  have hlen : s.length ≤ 12 := by have := of_decide_eq_true h1; omega
  obtain ⟨r, hr⟩ : ∃ r, r = s.all (byteOk st) := ⟨_, rfl⟩
  rw [← hr]
  have hconv : ∀ w1 : World, (convert 9 98 (.string ⟨s.toArray⟩)).run Tryz.prog w1 = .ok (.slice (some ⟨w1.heap.size, 0, none⟩) s.length (grownCap w1 s.length 0 5)) (Lib.bytesWorld w1 5 ⟨s.toArray⟩) := fun w1 => by
    have h := Lib.run_convert_string_bytes (P := Tryz.prog) w1 9 98 5 ⟨s.toArray⟩ Tryz.underlying9 Tryz.underlying98 Tryz.underlying5
    simpa [ByteArray.size] using h
  have hcell : (w.alloc (.cells #[.bool st] 4)).cell? ⟨w.heap.size, 0, none⟩ = some (.bool st) := (cell_of_heap (heap_alloc w _).1 0).trans rfl
  have hw1 : Ext w (w.alloc (.cells #[.bool st] 4)) := Only.alloc _ _ _
  have hsz : (w.alloc (.cells #[.bool st] 4)).heap.size = w.heap.size + 1 := by simp
  obtain ⟨w1, hW⟩ : ∃ w1, w.alloc (.cells #[.bool st] 4) = w1 := ⟨_, rfl⟩
  have hcall := containsFunc_b 196 (.pointer (some ⟨w.heap.size, 0, none⟩)) (fun c => !byteOk st c) (Lib.bytesWorld w1 5 ⟨s.toArray⟩) _ s (rd_bytes w1 5 s (by unfold maxLen; omega)) enters_name1
    (fun x => name1_any _ _ st x (by rw [← hW]; exact (ext_bytes _ _ _).cellOf hcell (fun h => h)))
  have hany : (s.any fun c => !byteOk st c) = !r := by rw [hr, List.all_eq_not_any_not]; simp
  rw [hany] at hcall
  have hx2 : Ext w (Lib.bytesWorld w1 5 ⟨s.toArray⟩) := by rw [← hW]; exact hw1.ext (ext_bytes _ _ _)
  have HC := Lib.hid hcall
  have HX := Lib.hid hx2
  have HCV := hconv w1
  clear hcall hx2 hany hr hconv hcell hw1 hsz hlen
  go_enter Tryz.func136, Tryz.ntmps136
  go_wp2_with fail

  refine HC.out.mono ?_
  rintro e w' ⟨rfl, rfl⟩
  go_wp2_with fail
  go_ret
  exact ⟨by simp, HX.out⟩

theorem name_any (w : World) (st : Bool) (s : B) : Calls Tryz.prog 136 #[S s, .bool st] w fun e w' => e = .returned (.bool (nameOk st s)) ∧ Ext w w' := by
  by_cases h0 : s = []
  · subst h0; exact name_a w st
  have h0' : (s == []) = false := beq_eq_false_iff_ne.2 h0
  by_cases h1 : s.length ≤ 12
  · have h1' : (decide ((s.length : Int) ≤ 12)) = true := decide_eq_true (by omega)
    by_cases h2 : s = [46]
    · have : nameOk st s = false := by rw [h2]; simp [nameOk]
      rw [this]; exact name_c w st s h0' h1' (beq_iff_eq.2 h2)
    have h2' : (s == [46]) = false := beq_eq_false_iff_ne.2 h2
    by_cases h3 : s = [46, 46]
    · have : nameOk st s = false := by rw [h3]; simp [nameOk]
      rw [this]; exact name_d w st s h0' h1' h2' (beq_iff_eq.2 h3)
    have h3' : (s == [46, 46]) = false := beq_eq_false_iff_ne.2 h3
    have : nameOk st s = s.all (byteOk st) := by
      unfold nameOk
      simp only [bne, h0', h2', h3', decide_eq_true h1, Bool.not_false, Bool.true_and]
    rw [this]
    exact name_e w st s h0' h1' h2' h3'
  · have : nameOk st s = false := by unfold nameOk; simp [h1]
    rw [this]
    exact name_b w st s h0' (decide_eq_false (by omega))
end Go.Proofs.YtnmhaipjfpongaaGreatDoor

/- Texts of this seat laid together for one claim: Q3, Q4. No condition of its own: what each proves stands with its theorems. -/
import Derived.Test.YtnmhaipjfpongacGreatDoorYF3
import Derived.Laws.AppendOwn
import Derived.Lib.ConvBytes
namespace Go.Proofs.YtnmhaipjfpongacGreatDoor
open Go.ChangeShapes Go.WideShapes Go.ChangeAt Go.RowKit

abbrev U8 (c : UInt8) : Value := .int .u8 c.toNat

theorem letter_any (w : World) (c : UInt8) : Calls Tryz.prog 288 #[U8 c] w fun e w' => e = .returned (.bool (isLet c.toNat)) ∧ w = w' := by
 have dt : ∀ {p : Prop} [Decidable p], p → decide p = true := fun h => decide_eq_true h
 have df : ∀ {p : Prop} [Decidable p], ¬ p → decide p = false := fun h => decide_eq_false h
 obtain ⟨n, hn⟩ : ∃ n, n = c.toNat := ⟨_, rfl⟩
 show Calls _ _ #[.int .u8 (c.toNat : Int)] _ _
 rw [← hn]
 by_cases a1 : 97 ≤ n
 ·by_cases a2 : n ≤ 122
  ·rw [show isLet n = true by simp [isLet]; omega]
   exact letter_a w n (dt (by omega)) (dt (by omega))
  ·rw [show isLet n = false by simp [isLet]; omega]
   exact letter_b w n (dt (by omega)) (df (by omega)) (dt (by omega)) (df (by omega)) (beq_eq_false_iff_ne.2 (by omega)) (beq_eq_false_iff_ne.2 (by omega)) (beq_eq_false_iff_ne.2 (by omega))
 ·by_cases a3 : 48 ≤ n
  ·by_cases a4 : n ≤ 57
   ·rw [show isLet n = true by simp [isLet]; omega]
    exact letter_c w n (df (by omega)) (dt (by omega)) (dt (by omega))
   ·by_cases a5 : n = 95
    ·rw [show isLet n = true by simp [isLet]; omega]
     exact letter_d w n (df (by omega)) (dt (by omega)) (df (by omega)) (beq_eq_false_iff_ne.2 (by omega)) (beq_eq_false_iff_ne.2 (by omega)) (beq_iff_eq.2 (by omega))
    ·rw [show isLet n = false by simp [isLet]; omega]
     exact letter_e w n (df (by omega)) (dt (by omega)) (df (by omega)) (beq_eq_false_iff_ne.2 (by omega)) (beq_eq_false_iff_ne.2 (by omega)) (beq_eq_false_iff_ne.2 (by omega))
  ·by_cases a4 : n = 45
   ·rw [show isLet n = true by simp [isLet]; omega]
    exact letter_f w n (df (by omega)) (df (by omega)) (beq_iff_eq.2 (by omega))
   ·by_cases a5 : n = 46
    ·rw [show isLet n = true by simp [isLet]; omega]
     exact letter_g w n (df (by omega)) (df (by omega)) (beq_eq_false_iff_ne.2 (by omega)) (beq_iff_eq.2 (by omega))
    ·rw [show isLet n = false by simp [isLet]; omega]
     exact letter_h w n (df (by omega)) (df (by omega)) (beq_eq_false_iff_ne.2 (by omega)) (beq_eq_false_iff_ne.2 (by omega)) (beq_eq_false_iff_ne.2 (by omega))

theorem name1_a (w : World) (b : Nat) (z : Int) (hl : Calls Tryz.prog 288 #[.int .u8 z] w fun e w' => e = .returned (.bool true) ∧ w = w') :
  Calls Tryz.prog 287 #[.int .u8 z, .pointer (some ⟨b, 0, none⟩)] w fun e w' => e = .returned (.bool false) ∧ w = w' := by
 have HL := Lib.hid hl
 clear hl
 go_enter Tryz.func287, Tryz.ntmps287
 go_wp2_with fail
 refine HL.out.mono ?_
 rintro e w' ⟨rfl, rfl⟩
 go_wp2
 go_ret
 exact ⟨rfl, rfl⟩

theorem name1_b (w : World) (b : Nat) (z : Int) (h : w.cell? ⟨b, 0, none⟩ = some (.bool false)) (hl : Calls Tryz.prog 288 #[.int .u8 z] w fun e w' => e = .returned (.bool false) ∧ w = w') :
  Calls Tryz.prog 287 #[.int .u8 z, .pointer (some ⟨b, 0, none⟩)] w fun e w' => e = .returned (.bool true) ∧ w = w' := by
 have HL := Lib.hid hl
 clear hl
 go_enter Tryz.func287, Tryz.ntmps287
 go_wp2_with fail
 refine HL.out.mono ?_
 rintro e w' ⟨rfl, rfl⟩
 go_wp2
 go_ret
 exact ⟨rfl, rfl⟩

theorem name1_c (w : World) (b : Nat) (z : Int) (h : w.cell? ⟨b, 0, none⟩ = some (.bool true)) (hz : (z == 42) = true) (hl : Calls Tryz.prog 288 #[.int .u8 z] w fun e w' => e = .returned (.bool false) ∧ w = w') :
  Calls Tryz.prog 287 #[.int .u8 z, .pointer (some ⟨b, 0, none⟩)] w fun e w' => e = .returned (.bool false) ∧ w = w' := by
 have HL := Lib.hid hl
 clear hl
 go_enter Tryz.func287, Tryz.ntmps287
 go_wp2_with fail
 refine HL.out.mono ?_
 rintro e w' ⟨rfl, rfl⟩
 go_wp2
 go_ret
 exact ⟨rfl, rfl⟩

theorem name1_d (w : World) (b : Nat) (z : Int) (h : w.cell? ⟨b, 0, none⟩ = some (.bool true)) (hz : (z == 42) = false) (hl : Calls Tryz.prog 288 #[.int .u8 z] w fun e w' => e = .returned (.bool false) ∧ w = w') :
  Calls Tryz.prog 287 #[.int .u8 z, .pointer (some ⟨b, 0, none⟩)] w fun e w' => e = .returned (.bool true) ∧ w = w' := by
 have HL := Lib.hid hl
 clear hl
 go_enter Tryz.func287, Tryz.ntmps287
 go_wp2_with fail
 refine HL.out.mono ?_
 rintro e w' ⟨rfl, rfl⟩
 go_wp2
 go_ret
 exact ⟨rfl, rfl⟩

theorem name1_any (w : World) (b : Nat) (st : Bool) (c : UInt8) (h : w.cell? ⟨b, 0, none⟩ = some (.bool st)) :
  Calls Tryz.prog 287 #[U8 c, .pointer (some ⟨b, 0, none⟩)] w fun e w' => e = .returned (.bool (!byteOk st c)) ∧ w = w' := by
 have hl := letter_any w c
 unfold byteOk
 cases hlt : isLet c.toNat with
 | true => rw [hlt] at hl; exact name1_a w b _ hl
 | false =>
  rw [hlt] at hl
  cases st with
  | false => exact name1_b w b _ h hl
  | true =>
   by_cases hc : c = 42
   ·subst hc; exact name1_c w b _ h (by decide) hl
   ·have : (c == 42) = false := beq_eq_false_iff_ne.2 hc
    rw [this]
    have hz : ((c.toNat : Int) == 42) = false := by
     refine beq_eq_false_iff_ne.2 fun e => hc ?_
     have e2 : c.toNat = (42 : UInt8).toNat := by rw [show (42 : UInt8).toNat = 42 from rfl]; omega
     exact UInt8.toNat_inj.1 e2
    exact name1_d w b _ h hz hl

def TestsB (g : Nat) (caps : Array Value) (p : UInt8 → Bool) (w : World) : Prop :=
 ∀ x, Calls Tryz.prog g (#[U8 x] ++ caps) w fun e w' => e = .returned (.bool (p x)) ∧ w = w'

set_option maxHeartbeats 400000 in
theorem indexFunc_b (g : Nat) (x0 : Value) (p : UInt8 → Bool) (w : World) (v : Value) (l : B) (hv : Rd U8 w v l) (eg : ∀ args w, (callFunc g args).run Tryz.prog w = .ok (.enter g args) w) (hp : TestsB g #[x0] p w) :
  Calls Tryz.prog 316 #[v, .func (.func g) #[] #[x0]] w fun e w' => (∃ r : Int, e = .returned (I r) ∧ (r ≥ 0 ↔ l.any p = true) ∧ -1 ≤ r) ∧ w = w' := by
 obtain ⟨a, cap, rfl, hcap, hm, hc⟩ := hv
 have hm' : l.length ≤ 9223372036854775807 := by unfold maxLen at hm; omega
 clear hm
 have HP := Lib.hid hp
 have HC := Lib.hid hc
 clear hp hc
 go_enter Tryz.func316, Tryz.ntmps316
 go_wp2
 go_loop [8] (fun i => ∃ k : Nat, k ≤ l.length ∧ i = .int .i64 k ∧ Hid (∀ j x, j < k → l[j]? = some x → p x = false)) (fun i => l.length + 1 - (intOf i).toNat)
 case atStart => exact ⟨0, Nat.zero_le _, rfl, Lib.hid (fun j x h => absurd h (Nat.not_lt_zero _))⟩
 case round =>
  obtain ⟨k, hk, rfl, HB⟩ := hrel
  by_cases hlt : k < l.length
  ·obtain ⟨b, off, rfl, hcell⟩ := HC.out (by intro h; rw [h] at hlt; simp at hlt)
   obtain ⟨x, hx⟩ : ∃ y, l[k]? = some y := ⟨_, List.getElem?_eq_getElem hlt⟩
   have hcl := hcell k x hx
   have hp1 := HP.out x
   have HX := Lib.hid hx
   clear hcell hx
   cases hq : p x with
   | false =>
    rw [hq] at hp1
    have HQ := Lib.hid hq
    have HP1 := Lib.hid hp1
    clear hq hp1
    go_wp2_with fail
    refine HP1.out.mono ?_
    rintro e w' ⟨rfl, rfl⟩
    go_wp2
    go_round
    case rel => exact ⟨k + 1, by omega, by go_num, Lib.hid (fun j y hj hy => by
     rcases Nat.lt_succ_iff_lt_or_eq.1 hj with h | rfl
     ·exact HB.out j y h hy
     ·rw [HX.out] at hy; cases hy; exact HQ.out)⟩
    case measure => simp [intOf]; omega
   | true =>
    rw [hq] at hp1
    have HQ := Lib.hid hq
    have HP1 := Lib.hid hp1
    clear hq hp1
    go_wp2_with fail
    refine HP1.out.mono ?_
    rintro e w' ⟨rfl, rfl⟩
    go_wp2
    go_ret
    exact ⟨⟨k, rfl, ⟨fun _ => List.any_eq_true.2 ⟨x, List.mem_of_getElem? HX.out, HQ.out⟩, fun _ => by omega⟩, by omega⟩, rfl⟩
  ·go_wp2
   go_ret
   refine ⟨⟨-1, rfl, ⟨fun h => by omega, fun h => ?_⟩, by omega⟩, rfl⟩
   obtain ⟨x, hx, hpx⟩ : ∃ x, x ∈ l ∧ p x = true := by simpa using h
   obtain ⟨i, hi⟩ := List.getElem?_of_mem hx
   have := HB.out i x (by have := (List.getElem?_eq_some_iff.1 hi).1; omega) hi
   rw [this] at hpx; cases hpx

theorem containsFunc_b (g : Nat) (x0 : Value) (p : UInt8 → Bool) (w : World) (v : Value) (l : B) (hv : Rd U8 w v l) (eg : ∀ args w, (callFunc g args).run Tryz.prog w = .ok (.enter g args) w) (hp : TestsB g #[x0] p w) :
  Calls Tryz.prog 286 #[v, .func (.func g) #[] #[x0]] w fun e w' => e = .returned (.bool (l.any p)) ∧ w = w' := by
 have hi := indexFunc_b g x0 p w v l hv eg hp
 obtain ⟨a, cap, rfl, hcap, hm, hc⟩ := hv
 obtain ⟨r0, hr0⟩ : ∃ r0, r0 = l.any p := ⟨_, rfl⟩
 rw [← hr0] at hi ⊢
 have HI := Lib.hid hi
 clear hi hc hp hm hr0 eg
 go_enter Tryz.func286, Tryz.ntmps286
 go_wp2_with fail
 refine HI.out.mono ?_
 rintro e w' ⟨⟨r, rfl, hr, hr1⟩, rfl⟩
 cases r0 with
 | true =>
  have h0 : 0 ≤ r := hr.2 rfl
  clear hr
  go_wp2
  go_ret
  exact ⟨rfl, rfl⟩
 | false =>
  have h0 : ¬ 0 ≤ r := fun h => by cases hr.1 h
  clear hr
  go_wp2
  go_ret
  exact ⟨by show Ending.returned (.bool (decide (0 ≤ r))) = _; rw [decide_eq_false (show ¬ 0 ≤ r by omega)], rfl⟩
end Go.Proofs.YtnmhaipjfpongacGreatDoor

namespace Go.Proofs.YtnmhaipjfpongacGreatDoor
open Go.ChangeShapes Go.WideShapes Go.ChangeAt Go.RowKit
open Go.MapKept (heap_alloc)

theorem enters_name1 : ∀ args w, (callFunc 287 args).run Tryz.prog w = .ok (.enter 287 args) w := fun args w => by kernel_rfl

theorem rd_bytes (w : World) (e : TypeId) (s : B) (h : s.length ≤ maxLen) : Rd U8 (Lib.bytesWorld w e ⟨s.toArray⟩) (.slice (some ⟨w.heap.size, 0, none⟩) s.length (grownCap w s.length 0 e)) s := by
 refine ⟨_, _, rfl, grownCap_ge w _ _ _, grownCap_le_maxLen w _ _ _ h, fun _ => ⟨w.heap.size, 0, rfl, fun i x hx => ?_⟩⟩
 have hi : i < s.length := (List.getElem?_eq_some_iff.1 hx).1
 have h1 := Lib.bytesWorld_cell w e ⟨s.toArray⟩ i (by simpa [ByteArray.size] using hi)
 rw [Nat.zero_add, h1]
 simp [List.getD, hx]

theorem ext_bytes (w : World) (e : TypeId) (s : ByteArray) : Ext w (Lib.bytesWorld w e s) :=
 ⟨rfl, rfl, rfl, by rw [Lib.bytesWorld_size]; omega, fun k hk _ => Lib.bytesWorld_at_old w e s k hk⟩

set_option maxRecDepth 100000 in
set_option maxHeartbeats 1000000 in
theorem name_a (w : World) (st : Bool) : Calls Tryz.prog 230 #[S [], .bool st] w fun e w' => e = .returned (.bool false) ∧ Ext w w' := by
 go_enter Tryz.func230, Tryz.ntmps230
 go_wp2_with fail
 go_ret
 exact ⟨rfl, Only.alloc _ _ _⟩

set_option maxRecDepth 100000 in
set_option maxHeartbeats 1000000 in
theorem name_b (w : World) (st : Bool) (s : B) (h0 : (s == []) = false) (h1 : (decide ((s.length : Int) ≤ 12)) = false) : Calls Tryz.prog 230 #[S s, .bool st] w fun e w' => e = .returned (.bool false) ∧ Ext w w' := by
 go_enter Tryz.func230, Tryz.ntmps230
 go_wp2_with fail
 go_ret
 exact ⟨rfl, Only.alloc _ _ _⟩

set_option maxRecDepth 100000 in
set_option maxHeartbeats 1000000 in
theorem name_c (w : World) (st : Bool) (s : B) (h0 : (s == []) = false) (h1 : (decide ((s.length : Int) ≤ 12)) = true) (h2 : (s == [46]) = true) : Calls Tryz.prog 230 #[S s, .bool st] w fun e w' => e = .returned (.bool false) ∧ Ext w w' := by
 go_enter Tryz.func230, Tryz.ntmps230
 go_wp2_with fail
 go_ret
 exact ⟨rfl, Only.alloc _ _ _⟩

set_option maxRecDepth 100000 in
set_option maxHeartbeats 1000000 in
theorem name_d (w : World) (st : Bool) (s : B) (h0 : (s == []) = false) (h1 : (decide ((s.length : Int) ≤ 12)) = true) (h2 : (s == [46]) = false) (h3 : (s == [46, 46]) = true) : Calls Tryz.prog 230 #[S s, .bool st] w fun e w' => e = .returned (.bool false) ∧ Ext w w' := by
 go_enter Tryz.func230, Tryz.ntmps230
 go_wp2_with fail
 go_ret
 exact ⟨rfl, Only.alloc _ _ _⟩

set_option maxRecDepth 100000 in
set_option maxHeartbeats 1000000 in
theorem name_e (w : World) (st : Bool) (s : B) (h0 : (s == []) = false) (h1 : (decide ((s.length : Int) ≤ 12)) = true) (h2 : (s == [46]) = false) (h3 : (s == [46, 46]) = false) : Calls Tryz.prog 230 #[S s, .bool st] w fun e w' => e = .returned (.bool (s.all (byteOk st))) ∧ Ext w w' := by
 have hlen : s.length ≤ 12 := by have := of_decide_eq_true h1; omega
 obtain ⟨r, hr⟩ : ∃ r, r = s.all (byteOk st) := ⟨_, rfl⟩
 rw [← hr]
 have hconv : ∀ w1 : World, (convert 9 167 (.string ⟨s.toArray⟩)).run Tryz.prog w1 = .ok (.slice (some ⟨w1.heap.size, 0, none⟩) s.length (grownCap w1 s.length 0 5)) (Lib.bytesWorld w1 5 ⟨s.toArray⟩) := fun w1 => by
  have h := Lib.run_convert_string_bytes (P := Tryz.prog) w1 9 167 5 ⟨s.toArray⟩ Tryz.underlying9 Tryz.underlying167 Tryz.underlying5
  simpa [ByteArray.size] using h
 have hcell : (w.alloc (.cells #[.bool st] 4)).cell? ⟨w.heap.size, 0, none⟩ = some (.bool st) := (cell_of_heap (heap_alloc w _).1 0).trans rfl
 have hw1 : Ext w (w.alloc (.cells #[.bool st] 4)) := Only.alloc _ _ _
 have hsz : (w.alloc (.cells #[.bool st] 4)).heap.size = w.heap.size + 1 := by simp
 obtain ⟨w1, hW⟩ : ∃ w1, w.alloc (.cells #[.bool st] 4) = w1 := ⟨_, rfl⟩
 have hcall := containsFunc_b 287 (.pointer (some ⟨w.heap.size, 0, none⟩)) (fun c => !byteOk st c) (Lib.bytesWorld w1 5 ⟨s.toArray⟩) _ s (rd_bytes w1 5 s (by unfold maxLen; omega)) enters_name1
  (fun x => name1_any _ _ st x (by rw [← hW]; exact (ext_bytes _ _ _).cellOf hcell (fun h => h)))
 have hany : (s.any fun c => !byteOk st c) = !r := by rw [hr, List.all_eq_not_any_not]; simp
 rw [hany] at hcall
 have hx2 : Ext w (Lib.bytesWorld w1 5 ⟨s.toArray⟩) := by rw [← hW]; exact hw1.ext (ext_bytes _ _ _)
 have HC := Lib.hid hcall
 have HX := Lib.hid hx2
 have HCV := hconv w1
 clear hcall hx2 hany hr hconv hcell hw1 hsz hlen
 go_enter Tryz.func230, Tryz.ntmps230
 go_wp2_with fail

 refine HC.out.mono ?_
 rintro e w' ⟨rfl, rfl⟩
 go_wp2_with fail
 go_ret
 exact ⟨by simp, HX.out⟩

theorem name_any (w : World) (st : Bool) (s : B) : Calls Tryz.prog 230 #[S s, .bool st] w fun e w' => e = .returned (.bool (nameOk st s)) ∧ Ext w w' := by
 by_cases h0 : s = []
 ·subst h0; exact name_a w st
 have h0' : (s == []) = false := beq_eq_false_iff_ne.2 h0
 by_cases h1 : s.length ≤ 12
 ·have h1' : (decide ((s.length : Int) ≤ 12)) = true := decide_eq_true (by omega)
  by_cases h2 : s = [46]
  ·have : nameOk st s = false := by rw [h2]; simp [nameOk]
   rw [this]; exact name_c w st s h0' h1' (beq_iff_eq.2 h2)
  have h2' : (s == [46]) = false := beq_eq_false_iff_ne.2 h2
  by_cases h3 : s = [46, 46]
  ·have : nameOk st s = false := by rw [h3]; simp [nameOk]
   rw [this]; exact name_d w st s h0' h1' h2' (beq_iff_eq.2 h3)
  have h3' : (s == [46, 46]) = false := beq_eq_false_iff_ne.2 h3
  have : nameOk st s = s.all (byteOk st) := by
   unfold nameOk
   simp only [bne, h0', h2', h3', decide_eq_true h1, Bool.not_false, Bool.true_and]
  rw [this]
  exact name_e w st s h0' h1' h2' h3'
 ·have : nameOk st s = false := by unfold nameOk; simp [h1]
  rw [this]
  exact name_b w st s h0' (decide_eq_false (by omega))
end Go.Proofs.YtnmhaipjfpongacGreatDoor

/- Texts of this seat laid together for one claim: Ym1, Ym2, Sa0, Sa1, Sa2, Saj. No condition of its own: what each proves stands with its theorems. -/
import Derived.Deep.CutBlock
import Derived.Deep.DeepCutAuto
import Derived.Test.YtnmhaipjfpongacGreatDoorSA30
import Derived.Test.YtnmhaipjfpongacGreatDoorSA41
import Derived.Test.YtnmhaipjfpongacGreatDoorSA23
import Derived.Test.YtnmhaipjfpongacGreatDoorSA21
import Derived.Test.YtnmhaipjfpongacGreatDoorSA8
import Derived.Deep.RegionHeld3
import Derived.Test.YtnmhaipjfpongacGreatDoorSA40
import Derived.Test.YtnmhaipjfpongacGreatDoorSA37
import Derived.Test.YtnmhaipjfpongacGreatDoorSA5
import Derived.Test.YtnmhaipjfpongacGreatDoorSA13
import Derived.Test.YtnmhaipjfpongacGreatDoorSA35
import Derived.Test.YtnmhaipjfpongacGreatDoorSA12
import Derived.Test.YtnmhaipjfpongacGreatDoorSA36
import Derived.Test.YtnmhaipjfpongacGreatDoorSA48
import Derived.Test.YtnmhaipjfpongacGreatDoorSA7
import Derived.Test.YtnmhaipjfpongacGreatDoorSA29
namespace Go.Proofs.YtnmhaipjfpongacGreatDoor
open Go.ChangeShapes Go.WideShapes Go.ChangeAt Go.RowKit

section
variable {w0 w w' : World} {D : Nat → Prop} {n : Nat} {tv ov lv cv tv' : Value} {many : Nat} {T O L U : FL} {l l0 : List Rule}
end
end Go.Proofs.YtnmhaipjfpongacGreatDoor

namespace Go.Proofs.YtnmhaipjfpongacGreatDoor
open Go.ChangeShapes Go.WideShapes Go.ChangeAt Go.RowKit

section
variable {w0 w wr w' : World} {E : BE} {K : MK} {D D2 D3 : Nat → Prop} {n : Nat} {tv ov ov' lv cv v9 : Value} {many : Nat} {T O U V L : FL} {l : List Rule} {s : BS} {g5 g7 bo : Nat} {od : List Nat}
end
end Go.Proofs.YtnmhaipjfpongacGreatDoor

namespace Go.Proofs.YtnmhaipjfpongacGreatDoor
open Go.ChangeShapes Go.WideShapes Go.ChangeAt Go.RowKit

theorem sumLen_take {l : List B} {j : Nat} {x : B} (h : l[j]? = some x) : sumLen (l.take (j + 1)) = sumLen (l.take j) + x.length := by
 rw [List.take_add_one, h]
 simp [sumLen]

def RetLT (l : List B) (many most : Int) (w : World) (e : Ending) (w' : World) : Prop :=
 (∃ r : Int, e = .returned (.int .i64 r) ∧ (r = 0 ∨ r = 1) ∧ (r = 0 → (l.length : Int) ≤ many ∧ (sumLen l : Int) ≤ most)) ∧ w = w'
theorem longTextsS_any (w : World) (v : Value) (l : List B) (many most : Int) (hv : Rd S w v l) (hm : 0 ≤ most ∧ most ≤ 1000000) :
  Calls Tryz.prog 50 #[v, .int .i64 many, .int .i64 most] w (RetLT l many most w) := by
 obtain ⟨a, cap, rfl, _, hm1, hc⟩ := hv
 have hl1 : l.length ≤ 9223372036854775807 := by unfold maxLen at hm1; omega
 obtain ⟨m0, m1⟩ := hm
 have HC := Lib.hid hc
 clear hc hm1
 by_cases hmany : many < (l.length : Int)
 ·go_enter Tryz.func50, Tryz.ntmps50
  go_wp2_with fail
  go_ret
  exact ⟨⟨1, rfl, .inr rfl, fun h => by cases h⟩, rfl⟩
 ·go_enter Tryz.func50, Tryz.ntmps50
  go_wp2_with fail
  go_loop [7, 8] (fun n i => ∃ (j : Nat) (m : Int), j ≤ l.length ∧ i = .int .i64 j ∧ n = .int .i64 m ∧ 0 ≤ m ∧ m ≤ most ∧ Hid (m = (sumLen (l.take j) : Int))) (fun _ i => l.length - (intOf i).toNat)
  case atStart => exact ⟨0, 0, Nat.zero_le _, rfl, rfl, Int.le_refl _, m0, Lib.hid (by simp [sumLen])⟩
  case round =>
   obtain ⟨j, m, hj, rfl, rfl, hm0, hmm, hb⟩ := hrel
   by_cases hlt : j < l.length
   ·have hltz : (j : Int) < (l.length : Int) := by omega
    obtain ⟨b0, off, rfl, hcell⟩ := HC.out (by intro h; rw [h] at hlt; simp at hlt)
    obtain ⟨x, hx⟩ : ∃ y, l[j]? = some y := ⟨_, List.getElem?_eq_getElem hlt⟩
    have d0 := hcell j x hx
    have HXX := Lib.hid hx
    clear hcell hx
    by_cases h1 : most < (x.length : Int)
    ·go_wp2_with fail
     go_ret
     exact ⟨⟨1, rfl, .inr rfl, fun h => by cases h⟩, rfl⟩
    by_cases h2 : most < m + (x.length : Int)
    ·go_wp2_with fail
     go_ret
     exact ⟨⟨1, rfl, .inr rfl, fun h => by cases h⟩, rfl⟩
    ·go_wp2_with fail
     go_round
     case rel => exact ⟨j + 1, m + x.length, by omega, by go_num, rfl, by omega, by omega, Lib.hid (by rw [sumLen_take HXX.out, hb.out]; omega)⟩
     case measure => simp [intOf]; omega
   ·have hltz : ¬ ((j : Int) < (l.length : Int)) := by omega
    obtain rfl : j = l.length := by omega
    go_wp2_with fail
    go_ret
    refine ⟨⟨0, rfl, .inl rfl, fun _ => ⟨by omega, ?_⟩⟩, rfl⟩
    have := hb.out
    rw [List.take_length] at this
    omega

structure ShortR1 (r : Rule) : Prop where
 out : r.out.length ≤ 100
 kind : r.kind.length ≤ 60
 word : r.word.length ≤ 150
 many : r.ins.length ≤ 12
 sum : sumLen r.ins ≤ 300
def RetL1 (r : Rule) (w : World) (e : Ending) (w' : World) : Prop :=
 (∃ z : Int, e = .returned (.int .i64 z) ∧ (z = 0 ∨ z = 1) ∧ (z = 0 → ShortR1 r)) ∧ w = w'
set_option maxRecDepth 100000 in
set_option maxHeartbeats 4000000 in
theorem longRule1_any (w : World) (v : Value) (r0 : Rule) (hv : RdR w v [r0]) :
  Calls Tryz.prog 16 #[v, .int .i64 1] w (RetL1 r0 w) := by
 obtain ⟨l, hl0⟩ : ∃ l : List Rule, l = [r0] := ⟨_, rfl⟩
 rw [← hl0] at hv
 have hl1 : l.length = 1 := by rw [hl0]; rfl
 have HL0 := Lib.hid hl0
 clear hl0
 obtain ⟨a, cap, rfl, _, hm1, hc⟩ := hv
 have HC := Lib.hid hc
 clear hc hm1
 have hmany : ¬ (1 : Int) < (l.length : Int) := by omega
 go_enter Tryz.func16, Tryz.ntmps16
 go_wp2_with fail
 clear hmany
 go_loop [5] (fun i => ∃ j : Nat, j ≤ l.length ∧ i = .int .i64 j ∧ Hid (∀ i (q : Rule), i < j → l[i]? = some q → ShortR1 q)) (fun i => l.length - (intOf i).toNat)
 case atStart => exact ⟨0, Nat.zero_le _, rfl, Lib.hid (fun i q h => absurd h (Nat.not_lt_zero _))⟩
 case round =>
  obtain ⟨j, hj, rfl, HB⟩ := hrel
  by_cases hlt : j < l.length
  ·have hltz : (j : Int) < (l.length : Int) := by omega
   have hj0 : (0 : Int) ≤ (j : Int) := by omega
   obtain ⟨b, off, rfl, hcell⟩ := HC.out (by intro h; rw [h] at hlt; simp at hlt)
   obtain ⟨r, hq⟩ : ∃ y, l[j]? = some y := ⟨_, List.getElem?_eq_getElem hlt⟩
   obtain ⟨u, hu, c0, c1, c2, c3⟩ := hcell j r hq
   have HQ := Lib.hid hq
   have HLT := Lib.hid (longTextsS_any w u r.ins 12 300 hu (by decide))
   obtain ⟨au, cu, hua, _, _, _⟩ := hu
   generalize hun : r.ins.length = ln at hua
   have HUN := Lib.hid hun
   subst hua
   clear hcell hq hun
   by_cases h1 : (100 : Int) < (r.out.length : Int)
   ·go_wp2_with fail
    go_ret
    exact ⟨⟨1, rfl, .inr rfl, fun h => by cases h⟩, rfl⟩
   by_cases h2 : (60 : Int) < (r.kind.length : Int)
   ·go_wp2_with fail
    go_ret
    exact ⟨⟨1, rfl, .inr rfl, fun h => by cases h⟩, rfl⟩
   by_cases h3 : (150 : Int) < (r.word.length : Int)
   ·go_wp2_with fail
    go_ret
    exact ⟨⟨1, rfl, .inr rfl, fun h => by cases h⟩, rfl⟩
   go_wp2_with fail
   refine HLT.out.mono ?_
   rintro e w2 ⟨⟨x, rfl, hr, hz⟩, rfl⟩
   have HZ := Lib.hid hz
   clear hz
   rcases hr with rfl | rfl
   ·have HS := Lib.hid (show ShortR1 r from ⟨by omega, by omega, by omega, by have := (HZ.out rfl).1; omega, by have := (HZ.out rfl).2; omega⟩)
    clear h1 h2 h3
    go_wp2_with fail
    go_round
    case rel => exact ⟨j + 1, by omega, by go_num, Lib.hid (fun i q hi hq => by
     rcases Nat.lt_succ_iff_lt_or_eq.1 hi with h | rfl
     ·exact HB.out i q h hq
     ·rw [HQ.out] at hq; cases hq; exact HS.out)⟩
    case measure => simp [intOf]; omega
   ·go_wp2_with fail
    go_ret
    exact ⟨⟨1, rfl, .inr rfl, fun h => by cases h⟩, rfl⟩
  ·have hltz : ¬ (j : Int) < (l.length : Int) := by omega
   go_wp2_with fail
   go_ret
   exact ⟨⟨0, rfl, .inl rfl, fun _ => HB.out 0 r0 (by omega) (by rw [HL0.out]; rfl)⟩, rfl⟩
end Go.Proofs.YtnmhaipjfpongacGreatDoor

namespace Go.Proofs.YtnmhaipjfpongacGreatDoor
open Go.ChangeShapes Go.WideShapes Go.ChangeAt Go.RowKit

def RetTx (m n : Nat) (w : World) (e : Ending) (w' : World) : Prop := ∃ t : B, e = .returned (S t) ∧ m ≤ t.length ∧ t.length ≤ n ∧ Ext w w'
theorem midOne {s : B} {j : Nat} {c : UInt8} (h : s[j]? = some c) : (⟨s.toArray⟩ : ByteArray).extract j (j + 1) = ⟨[c].toArray⟩ := by
 obtain ⟨hl, _⟩ := List.getElem?_eq_some_iff.1 h
 rw [ba_mid, List.take_add_one, h, List.drop_append_of_le_length (by rw [List.length_take]; omega), List.drop_take]
 simp
set_option maxRecDepth 100000 in
set_option maxHeartbeats 4000000 in
theorem swapped_any (w : World) (s : B) (hs : s.length ≤ 900) : Calls Tryz.prog 147 #[S s, .int .u8 10, .int .u8 59] w (RetTx 0 s.length w) := by
 have HBY := Lib.hid (fun W => byte_any W 59 (by decide))
 go_enter Tryz.func147, Tryz.ntmps147
 go_wp2_with fail
 go_loopw [7, 8] (fun q i wr => ∃ (j : Nat) (A : B), j ≤ s.length ∧ i = .int .i64 j ∧ q = S A ∧ A.length = j ∧ Hid (Ext w wr)) (fun _ i _ => s.length - (intOf i).toNat)
 case atStart => exact ⟨0, [], Nat.zero_le _, rfl, rfl, rfl, Lib.hid (Only.refl _ _)⟩
 case round =>
  obtain ⟨j, A, hj, rfl, rfl, hA, HX⟩ := hrel
  by_cases hlt : j < s.length
  ·have hltz : (j : Int) < (s.length : Int) := by omega
   have hj0 : (0 : Int) ≤ (j : Int) := by omega
   obtain ⟨c, hq⟩ : ∃ y, s[j]? = some y := ⟨_, List.getElem?_eq_getElem hlt⟩
   have hg := ba_get hq
   have q1 : ¬ 9223372036854775807 < A.length + 1 := by omega
   have HAL := Lib.hid hA
   have hj1 : (j : Int) + 1 ≤ (s.length : Int) := by omega
   have hj2 : (j : Int) ≤ (j : Int) + 1 := by omega
   have HJ := Lib.hid hlt
   have HBA := Lib.hid (fun u : UInt8 => ba_app A [u])
   by_cases hc : c = 10
   ·have hb : ((c.toNat : Int) == 10) = true := by subst hc; rfl
    clear hq hA hc hlt hj
    go_wp2_with fail
    refine (HBY.out _).mono ?_
    rintro e w2 ⟨rfl, ho⟩
    have HX2 := Lib.hid (HX.out.then ho)
    clear ho
    go_wp2_with fail
    go_roundw
    case rel => exact ⟨j + 1, A ++ [59], HJ.out, by go_num, congrArg Value.string (HBA.out _), by simp [HAL.out], HX2⟩
    case measure => have := HJ.out; simp [intOf]; omega
   ·have hb : ((c.toNat : Int) == 10) = false := beq_eq_false_iff_ne.2 fun e => hc (UInt8.toNat_inj.1 (by simp; omega))
    have hmid := midOne hq
    clear hq hA hc hlt hj
    go_wp2_with fail
    go_roundw
    case rel => exact ⟨j + 1, A ++ [c], HJ.out, by go_num, congrArg Value.string (HBA.out _), by simp [HAL.out], HX⟩
    case measure => have := HJ.out; simp [intOf]; omega
  ·have hltz : ¬ (j : Int) < (s.length : Int) := by omega
   have HAL := Lib.hid (show A.length = s.length by omega)
   clear hA hlt
   go_wp2_with fail
   go_ret
   exact ⟨A, rfl, Nat.zero_le _, by rw [HAL.out]; exact Nat.le_refl _, HX.out⟩
end Go.Proofs.YtnmhaipjfpongacGreatDoor

namespace Go.Proofs.YtnmhaipjfpongacGreatDoor
open Go.ChangeShapes Go.WideShapes Go.ChangeAt Go.RowKit

theorem sumLen_take_le (l : List B) (j : Nat) : sumLen (l.take j) ≤ sumLen l := by
 have h0 : ∀ a b : List B, sumLen (a ++ b) = sumLen a + sumLen b := fun a b => by simp [sumLen]
 have h := h0 (l.take j) (l.drop j)
 rw [List.take_append_drop] at h
 omega

set_option maxRecDepth 100000 in
set_option maxHeartbeats 4000000 in
theorem sheetOne_any (w : World) (v : Value) (r : Rule) (hv : RdR w v [r]) (hs : ShortR1 r) : Calls Tryz.prog 148 #[v] w (RetTx 1 800 w) := by
 obtain ⟨a, cap, rfl, _, hm1, hc⟩ := hv
 obtain ⟨b, off, rfl, hcell⟩ := hc (by simp)
 obtain ⟨u, hu, c0, c1, c2, c3⟩ := hcell 0 r rfl
 obtain ⟨au, cu, rfl, _, _, hcu⟩ := hu
 simp only [Nat.zero_mul, Nat.add_zero] at c0 c1 c2 c3
 obtain ⟨l0, l1, l2, l3, l4⟩ := hs
 have hl3z : (r.ins.length : Int) ≤ 12 := by omega
 have HCU := Lib.hid hcu
 have C0 := Lib.hid c0
 have C1 := Lib.hid c1
 have C2 := Lib.hid c2
 have C3 := Lib.hid c3
 have HL := Lib.hid (⟨l0, l1, l2, l4, l3⟩ : r.out.length ≤ 100 ∧ r.kind.length ≤ 60 ∧ r.word.length ≤ 150 ∧ sumLen r.ins ≤ 300 ∧ r.ins.length ≤ 12)
 clear hc hcell hcu hm1 c0 c1 c2 c3 l0 l1 l2 l3 l4
 have hone : (([r] : List Rule).length : Int) = 1 := rfl
 go_enter Tryz.func148, Tryz.ntmps148
 go_wp2_with fail
 go_loopw [3, 4] (fun q i wr => ∃ (j : Nat) (A : B), j ≤ 1 ∧ i = .int .i64 j ∧ q = S A ∧ Hid (A.length ≤ 800 * j ∧ j ≤ A.length) ∧ Hid (Ext w wr)) (fun _ i _ => 1 - (intOf i).toNat)
 case atStart => exact ⟨0, [], Nat.zero_le _, rfl, rfl, Lib.hid (by simp), Lib.hid (Only.refl _ _)⟩
 case round =>
  obtain ⟨j, A, hj, rfl, rfl, hA, HX⟩ := hrel
  by_cases hlt : j < 1
  case pos =>
   obtain rfl : j = 0 := by omega
   have hA0 : A = [] := List.length_eq_zero_iff.1 (by have := hA.out.1; omega)
   subst hA0
   clear hlt hj hA
   have d0 := HX.out.cellOf C0.out (fun h => h)
   have d1 := HX.out.cellOf C1.out (fun h => h)
   have d2 := HX.out.cellOf C2.out (fun h => h)
   have d3 := HX.out.cellOf C3.out (fun h => h)
   have hlo : (r.out.length : Int) ≤ 100 := by have := HL.out.1; omega
   have hlk : (r.kind.length : Int) ≤ 60 := by have := HL.out.2.1; omega
   have hlw : (r.word.length : Int) ≤ 150 := by have := HL.out.2.2.1; omega
   obtain ⟨T0, hT0⟩ : ∃ T0, T0 = r.out ++ [32, 61, 32] ++ r.kind := ⟨_, rfl⟩
   have hba : ((⟨#[]⟩ : ByteArray) ++ ⟨r.out.toArray⟩ ++ ⟨#[32, 61, 32]⟩ ++ ⟨r.kind.toArray⟩) = ⟨T0.toArray⟩ := by rw [hT0, show (⟨#[32, 61, 32]⟩ : ByteArray) = ⟨([32, 61, 32] : B).toArray⟩ from rfl, show (⟨#[]⟩ : ByteArray) = ⟨([] : B).toArray⟩ from rfl, ba_app, ba_app, ba_app, List.nil_append]
   have hTl : T0.length = r.out.length + 3 + r.kind.length := by rw [hT0]; simp only [List.length_append, List.length_cons, List.length_nil]
   have HTL := Lib.hid (show 3 ≤ T0.length ∧ T0.length ≤ 163 by have := HL.out.1; have := HL.out.2.1; omega)
   have hTz : (T0.length : Int) ≤ 163 := by have := HTL.out; omega
   clear hT0 hTl
   by_cases hwe : (!List.isEmpty r.word) = true
   case pos =>
    have HB0 := Lib.hid (ba_app T0 [32, 34])
    go_wp2_with fail
    go_quiet (fail)
    go_wp2_with fail
    go_loopw [3, 6] (fun q i wz => ∃ (k : Nat) (A : B), k ≤ r.word.length ∧ i = .int .i64 k ∧ q = S A ∧ Hid (1 ≤ A.length ∧ A.length ≤ 165 + 2 * k) ∧ Hid (Ext w wz)) (fun _ i _ => r.word.length - (intOf i).toNat)
    case atStart => exact ⟨0, T0 ++ [32, 34], Nat.zero_le _, rfl, by first | rfl | rw [hba, HB0.out] | simp [hba, HB0.out], Lib.hid (by have := HTL.out; simp only [List.length_append, List.length_cons, List.length_nil]; omega), Lib.hid (HX.out.thenDrewN _)⟩
    case round =>
     obtain ⟨k, A, hk, rfl, rfl, hA, HZ⟩ := hrel
     by_cases hlk1 : k < r.word.length
     case pos =>
      have hltz : (k : Int) < (r.word.length : Int) := by omega
      have hk0 : (0 : Int) ≤ (k : Int) := by omega
      have hk1 : (k : Int) + 1 ≤ (r.word.length : Int) := by omega
      have hk2 : (k : Int) ≤ (k : Int) + 1 := by omega
      obtain ⟨c, hq⟩ : ∃ y, r.word[k]? = some y := ⟨_, List.getElem?_eq_getElem hlk1⟩
      have hg := ba_get hq
      have hmid := midOne hq
      have HKL := Lib.hid hlk1
      have hAz : (A.length : Int) ≤ 500 := by have := hA.out; omega
      by_cases hc1 : c = 34
      ·have hb1 : ((c.toNat : Int) == 34) = true := by subst hc1; rfl
       have HBA := Lib.hid (((by rw [show (⟨#[92]⟩ : ByteArray) = ⟨([92] : B).toArray⟩ from rfl, show (⟨#[34]⟩ : ByteArray) = ⟨([34] : B).toArray⟩ from rfl, ba_app, ba_app] : ((⟨A.toArray⟩ : ByteArray) ++ ⟨#[92]⟩ ++ ⟨#[34]⟩) = ⟨(A ++ [92] ++ [34]).toArray⟩)))
       clear hq hlk1 hk
       go_wp2_with fail
       go_roundw
       case rel => exact ⟨k + 1, A ++ [92] ++ [34], HKL.out, by go_num, congrArg Value.string HBA.out, Lib.hid (by have := hA.out; simp only [List.length_append, List.length_cons, List.length_nil]; omega), HZ⟩
       case measure => have := HKL.out; simp [intOf]; omega
      by_cases hc2 : c = 92
      ·have hb1 : ((c.toNat : Int) == 34) = false := beq_eq_false_iff_ne.2 fun e => hc1 (UInt8.toNat_inj.1 (by simp; omega))
       have hb2 : ((c.toNat : Int) == 92) = true := by subst hc2; rfl
       have HBA := Lib.hid (((by rw [show (⟨#[92]⟩ : ByteArray) = ⟨([92] : B).toArray⟩ from rfl, show (⟨#[92]⟩ : ByteArray) = ⟨([92] : B).toArray⟩ from rfl, ba_app, ba_app] : ((⟨A.toArray⟩ : ByteArray) ++ ⟨#[92]⟩ ++ ⟨#[92]⟩) = ⟨(A ++ [92] ++ [92]).toArray⟩)))
       clear hq hlk1 hk
       go_wp2_with fail
       go_roundw
       case rel => exact ⟨k + 1, A ++ [92] ++ [92], HKL.out, by go_num, congrArg Value.string HBA.out, Lib.hid (by have := hA.out; simp only [List.length_append, List.length_cons, List.length_nil]; omega), HZ⟩
       case measure => have := HKL.out; simp [intOf]; omega
      by_cases hc3 : c = 10
      ·have hb1 : ((c.toNat : Int) == 34) = false := beq_eq_false_iff_ne.2 fun e => hc1 (UInt8.toNat_inj.1 (by simp; omega))
       have hb2 : ((c.toNat : Int) == 92) = false := beq_eq_false_iff_ne.2 fun e => hc2 (UInt8.toNat_inj.1 (by simp; omega))
       have hb3 : ((c.toNat : Int) == 10) = true := by subst hc3; rfl
       have HBA := Lib.hid ((ba_app A [92, 110]))
       clear hq hlk1 hk
       go_wp2_with fail
       go_roundw
       case rel => exact ⟨k + 1, A ++ [92, 110], HKL.out, by go_num, congrArg Value.string HBA.out, Lib.hid (by have := hA.out; simp only [List.length_append, List.length_cons, List.length_nil]; omega), HZ⟩
       case measure => have := HKL.out; simp [intOf]; omega
      have hb1 : ((c.toNat : Int) == 34) = false := beq_eq_false_iff_ne.2 fun e => hc1 (UInt8.toNat_inj.1 (by simp; omega))
      have hb2 : ((c.toNat : Int) == 92) = false := beq_eq_false_iff_ne.2 fun e => hc2 (UInt8.toNat_inj.1 (by simp; omega))
      have hb3 : ((c.toNat : Int) == 10) = false := beq_eq_false_iff_ne.2 fun e => hc3 (UInt8.toNat_inj.1 (by simp; omega))
      have HBA := Lib.hid ((ba_app A [c]))
      clear hq hlk1 hk
      go_wp2_with fail
      go_roundw
      case rel => exact ⟨k + 1, A ++ [c], HKL.out, by go_num, congrArg Value.string HBA.out, Lib.hid (by have := hA.out; simp only [List.length_append, List.length_cons, List.length_nil]; omega), HZ⟩
      case measure => have := HKL.out; simp [intOf]; omega
     case neg =>
      have hltz : ¬ (k : Int) < (r.word.length : Int) := by omega
      have hAz : (A.length : Int) ≤ 500 := by have := hA.out; omega
      have HB1 := Lib.hid (ba_app A [34])
      have hAl := Lib.hid (show 1 ≤ (A ++ [34]).length ∧ (A ++ [34]).length ≤ 466 by have := hA.out; have := HL.out.2.2.1; simp only [List.length_append, List.length_cons, List.length_nil]; omega)
      clear hlk1 hk
      go_wp2_with fail
      go_loopw [3, 7] (fun q i wz => ∃ (k : Nat) (A : B), k ≤ r.ins.length ∧ i = .int .i64 k ∧ q = S A ∧ Hid (1 ≤ A.length ∧ A.length ≤ 466 + sumLen (r.ins.take k) + k) ∧ Hid (Ext w wz)) (fun _ i _ => r.ins.length - (intOf i).toNat)
      case atStart => exact ⟨0, A ++ [34], Nat.zero_le _, rfl, by first | rfl | rw [HB1.out] | simp [HB1.out], Lib.hid (by have := hAl.out; simp [sumLen] at this ⊢; omega), HZ⟩
      case round =>
       obtain ⟨k, A, hk, rfl, rfl, hA, HZ⟩ := hrel
       have e3 := HZ.out.cellOf C3.out (fun h => h)
       by_cases hlk2 : k < r.ins.length
       case pos =>
        have hltz : (k : Int) < (r.ins.length : Int) := by omega
        have hk0 : (0 : Int) ≤ (k : Int) := by omega
        obtain ⟨bu, ou, rfl, hcell⟩ := HCU.out (by intro h; rw [h] at hlk2; simp at hlk2)
        obtain ⟨y, hy⟩ : ∃ y, r.ins[k]? = some y := ⟨_, List.getElem?_eq_getElem hlk2⟩
        have e4 := HZ.out.cellOf (hcell k y hy) (fun h => h)
        have hst := sumLen_take hy
        have hsm := sumLen_take_le r.ins (k + 1)
        have hl4 := HL.out.2.2.2.1
        have hl5 := HL.out.2.2.2.2
        have hAl := hA.out
        have q1 : ¬ 9223372036854775807 < A.length + 1 := by omega
        have q2 : ¬ 9223372036854775807 < A.length + 1 + y.length := by omega
        have hba2 : ((⟨A.toArray⟩ : ByteArray) ++ ⟨#[32]⟩ ++ ⟨y.toArray⟩) = ⟨(A ++ [32] ++ y).toArray⟩ := by rw [show (⟨#[32]⟩ : ByteArray) = ⟨([32] : B).toArray⟩ from rfl, ba_app, ba_app]
        have HBA := Lib.hid hba2
        have HKL := Lib.hid hlk2
        have HN := Lib.hid (show 1 ≤ (A ++ [32] ++ y).length ∧ (A ++ [32] ++ y).length ≤ 466 + sumLen (r.ins.take (k + 1)) + (k + 1) by simp only [List.length_append, List.length_cons, List.length_nil]; omega)
        clear hcell hy hst hsm hl4 hl5 hAl hba2 hlk2 hk
        go_wp2_with fail
        go_roundw
        case rel => exact ⟨k + 1, A ++ [32] ++ y, HKL.out, by go_num, congrArg Value.string HBA.out, HN, HZ⟩
        case measure => have := HKL.out; simp [intOf]; omega
       case neg =>
        have hltz : ¬ (k : Int) < (r.ins.length : Int) := by omega
        have hAl := hA.out
        have hsm := sumLen_take_le r.ins k
        have hl4 := HL.out.2.2.2.1
        have hl5 := HL.out.2.2.2.2
        have q1 : ¬ 9223372036854775807 < A.length + 1 := by omega
        have HBA := Lib.hid (ba_app A [10])
        have HN := Lib.hid (show (A ++ [10]).length ≤ 800 ∧ 1 ≤ (A ++ [10]).length by simp only [List.length_append, List.length_cons, List.length_nil]; omega)
        clear hsm hl4 hl5 hAl hlk2 hk
        go_wp2_with fail
        go_roundw
        case rel => exact ⟨1, A ++ [10], Nat.le_refl _, rfl, congrArg Value.string HBA.out, Lib.hid (by have := HN.out; omega), HZ⟩
        case measure => simp [intOf]
   case neg =>
    have hwf : (!List.isEmpty r.word) = false := by simpa using hwe
    clear hwe
    go_wp2_with fail
    go_quiet (fail)
    go_wp2_with fail
    go_loopw [3, 7] (fun q i wz => ∃ (k : Nat) (A : B), k ≤ r.ins.length ∧ i = .int .i64 k ∧ q = S A ∧ Hid (1 ≤ A.length ∧ A.length ≤ 466 + sumLen (r.ins.take k) + k) ∧ Hid (Ext w wz)) (fun _ i _ => r.ins.length - (intOf i).toNat)
    case atStart => exact ⟨0, T0, Nat.zero_le _, rfl, by first | rfl | rw [hba] | simp [hba], Lib.hid (by have := HTL.out; simp [sumLen]; omega), Lib.hid (HX.out.thenDrewN _)⟩
    case round =>
     obtain ⟨k, A, hk, rfl, rfl, hA, HZ⟩ := hrel
     have e3 := HZ.out.cellOf C3.out (fun h => h)
     by_cases hlk2 : k < r.ins.length
     case pos =>
      have hltz : (k : Int) < (r.ins.length : Int) := by omega
      have hk0 : (0 : Int) ≤ (k : Int) := by omega
      obtain ⟨bu, ou, rfl, hcell⟩ := HCU.out (by intro h; rw [h] at hlk2; simp at hlk2)
      obtain ⟨y, hy⟩ : ∃ y, r.ins[k]? = some y := ⟨_, List.getElem?_eq_getElem hlk2⟩
      have e4 := HZ.out.cellOf (hcell k y hy) (fun h => h)
      have hst := sumLen_take hy
      have hsm := sumLen_take_le r.ins (k + 1)
      have hl4 := HL.out.2.2.2.1
      have hl5 := HL.out.2.2.2.2
      have hAl := hA.out
      have q1 : ¬ 9223372036854775807 < A.length + 1 := by omega
      have q2 : ¬ 9223372036854775807 < A.length + 1 + y.length := by omega
      have hba2 : ((⟨A.toArray⟩ : ByteArray) ++ ⟨#[32]⟩ ++ ⟨y.toArray⟩) = ⟨(A ++ [32] ++ y).toArray⟩ := by rw [show (⟨#[32]⟩ : ByteArray) = ⟨([32] : B).toArray⟩ from rfl, ba_app, ba_app]
      have HBA := Lib.hid hba2
      have HKL := Lib.hid hlk2
      have HN := Lib.hid (show 1 ≤ (A ++ [32] ++ y).length ∧ (A ++ [32] ++ y).length ≤ 466 + sumLen (r.ins.take (k + 1)) + (k + 1) by simp only [List.length_append, List.length_cons, List.length_nil]; omega)
      clear hcell hy hst hsm hl4 hl5 hAl hba2 hlk2 hk
      go_wp2_with fail
      go_roundw
      case rel => exact ⟨k + 1, A ++ [32] ++ y, HKL.out, by go_num, congrArg Value.string HBA.out, HN, HZ⟩
      case measure => have := HKL.out; simp [intOf]; omega
     case neg =>
      have hltz : ¬ (k : Int) < (r.ins.length : Int) := by omega
      have hAl := hA.out
      have hsm := sumLen_take_le r.ins k
      have hl4 := HL.out.2.2.2.1
      have hl5 := HL.out.2.2.2.2
      have q1 : ¬ 9223372036854775807 < A.length + 1 := by omega
      have HBA := Lib.hid (ba_app A [10])
      have HN := Lib.hid (show (A ++ [10]).length ≤ 800 ∧ 1 ≤ (A ++ [10]).length by simp only [List.length_append, List.length_cons, List.length_nil]; omega)
      clear hsm hl4 hl5 hAl hlk2 hk
      go_wp2_with fail
      go_roundw
      case rel => exact ⟨1, A ++ [10], Nat.le_refl _, rfl, congrArg Value.string HBA.out, Lib.hid (by have := HN.out; omega), HZ⟩
      case measure => simp [intOf]
  case neg =>
   obtain rfl : j = 1 := by omega
   have hAl := hA.out
   clear hj hlt
   go_wp2_with fail
   go_ret
   exact ⟨A, rfl, hAl.2, by have := hAl.1; omega, HX.out⟩
end Go.Proofs.YtnmhaipjfpongacGreatDoor

namespace Go.Proofs.YtnmhaipjfpongacGreatDoor
open Go.ChangeShapes Go.WideShapes Go.ChangeAt Go.RowKit

set_option maxRecDepth 100000 in
set_option maxHeartbeats 4000000 in
theorem joinedSame_any (w : World) (v : Value) (l : List B) (hv : Rd S w v l) (hn : l.length ≤ 1000) (hb : sumLen l + l.length ≤ 900000) :
  Calls Tryz.prog 146 #[v] w (fun e w' => e = .returned (S (Lib.join l [32])) ∧ w = w') := by
 obtain ⟨a, cap, rfl, _, _, hc⟩ := hv
 have HC := Lib.hid hc
 have hlz : (l.length : Int) ≤ 1000 := by omega
 have HLE : Hid (∀ j, (Lib.join (l.take j) [32]).length ≤ 900000) := Lib.hid (fun j => by
  have h1 := join_take_le l [32] j
  have h2 : l.length * ([32] : B).length = l.length := by simp
  omega)
 obtain ⟨R, hR⟩ : ∃ R, R = Lib.join l [32] := ⟨_, rfl⟩
 rw [← hR]
 have HR := Lib.hid hR
 clear hc hR hb
 go_enter Tryz.func146, Tryz.ntmps146
 go_wp2_with fail
 go_loopw [3, 4] (fun q i wr => ∃ (j : Nat) (x : B), q = S x ∧ j ≤ l.length ∧ i = .int .i64 j ∧ wr = w ∧ Hid (x = Lib.join (l.take j) [32])) (fun _ i _ => l.length - (intOf i).toNat)
 case atStart => exact ⟨0, [], rfl, Nat.zero_le _, rfl, rfl, Lib.hid (by rw [List.take_zero]; rfl)⟩
 case round =>
  obtain ⟨j, x, rfl, hj, rfl, rfl, HX⟩ := hrel
  by_cases hlt : j < l.length
  ·have hltz : (j : Int) < (l.length : Int) := by omega
   have hj0 : (0 : Int) ≤ (j : Int) := by omega
   obtain ⟨b, off, rfl, hcell⟩ := HC.out (by intro h; rw [h] at hlt; simp at hlt)
   obtain ⟨y, hy⟩ : ∃ y, l[j]? = some y := ⟨_, List.getElem?_eq_getElem hlt⟩
   have d0 := hcell j y hy
   have HJ := Lib.hid hlt
   have hle := HLE.out (j + 1)
   by_cases hz : j = 0
   ·have hnz : ¬ (0 : Int) < (j : Int) := by omega
    have hx0 : x = [] := by rw [HX.out, hz, List.take_zero]; rfl
    subst hx0
    have hst : Lib.join (l.take (j + 1)) [32] = y := by
     subst hz
     cases l with
     | nil => simp at hlt
     | cons q r => simp at hy; subst hy; exact join_first _ _ _
    have HST := Lib.hid hst
    rw [hst] at hle
    have hlen : (y.length : Int) ≤ 900000 := by omega
    have hba : ((⟨#[]⟩ : ByteArray) ++ ⟨y.toArray⟩) = ⟨y.toArray⟩ := ba_app [] y
    clear hcell hy hlt hst hj hle hz
    go_wp2_with fail
    go_roundw
    case rel => exact ⟨j + 1, y, by first | rfl | rw [hba] | simp [hba], HJ.out, by go_num, by first | trivial | rfl, Lib.hid HST.out.symm⟩
    case measure => have := HJ.out; simp [intOf]; omega
   ·have hjp : (0 : Int) < (j : Int) := by omega
    have hst := join_step (l := l) (j := j) [32] (by omega) hy
    rw [← HX.out] at hst
    have HST := Lib.hid hst
    rw [hst] at hle
    simp only [List.length_append, List.length_cons, List.length_nil] at hle
    have hba : ((⟨x.toArray⟩ : ByteArray) ++ ⟨#[32]⟩ ++ ⟨y.toArray⟩) = ⟨(x ++ [32] ++ y).toArray⟩ := by rw [show (⟨#[32]⟩ : ByteArray) = ⟨([32] : B).toArray⟩ from rfl, ba_app, ba_app]
    obtain ⟨Z, hZ⟩ : ∃ Z, Z = x ++ [32] ++ y := ⟨_, rfl⟩
    rw [← hZ] at hba HST
    clear hcell hy hlt hst hj hz hZ
    go_wp2_with fail
    go_roundw
    case rel => exact ⟨j + 1, Z, by first | rfl | rw [hba] | simp [hba], HJ.out, by go_num, by first | trivial | rfl, Lib.hid HST.out.symm⟩
    case measure => have := HJ.out; simp [intOf]; omega
  ·have hltz : ¬ (j : Int) < (l.length : Int) := by omega
   have hxe : x = R := by rw [HX.out, HR.out, List.take_of_length_le (by omega)]
   have HXE := Lib.hid hxe
   clear hxe hlt
   go_wp2_with fail
   go_ret
   exact ⟨by first | rfl | rw [HXE.out]; rfl | rw [HXE.out], rfl⟩
end Go.Proofs.YtnmhaipjfpongacGreatDoor

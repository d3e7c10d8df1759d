/- Texts of this seat laid together for one claim: V8, T4, T5, V9. No condition of its own: what each proves stands with its theorems. -/
import Derived.Test.YtnmhaipjfpongacGreatDoorSA6
import Derived.Test.YtnmhaipjfpongacGreatDoorSA4
namespace Go.Proofs.YtnmhaipjfpongacGreatDoor
open Go.ChangeShapes Go.WideShapes Go.ChangeAt Go.RowKit

end Go.Proofs.YtnmhaipjfpongacGreatDoor

namespace Go.Proofs.YtnmhaipjfpongacGreatDoor
open Go.ChangeShapes Go.WideShapes Go.ChangeAt Go.RowKit

theorem letter_cases (n : Nat) (z : Int) (hz : z = n) :
 (isLet n = true ∧ decide (97 ≤ z) = true ∧ decide (z ≤ 122) = true) ∨
 (isLet n = false ∧ decide (97 ≤ z) = true ∧ decide (z ≤ 122) = false ∧ decide (48 ≤ z) = true ∧ decide (z ≤ 57) = false ∧ (z == 45) = false ∧ (z == 46) = false ∧ (z == 95) = false) ∨
 (isLet n = true ∧ decide (97 ≤ z) = false ∧ decide (48 ≤ z) = true ∧ decide (z ≤ 57) = true) ∨
 (isLet n = true ∧ decide (97 ≤ z) = false ∧ decide (48 ≤ z) = true ∧ decide (z ≤ 57) = false ∧ (z == 45) = false ∧ (z == 46) = false ∧ (z == 95) = true) ∨
 (isLet n = false ∧ decide (97 ≤ z) = false ∧ decide (48 ≤ z) = true ∧ decide (z ≤ 57) = false ∧ (z == 45) = false ∧ (z == 46) = false ∧ (z == 95) = false) ∨
 (isLet n = true ∧ decide (97 ≤ z) = false ∧ decide (48 ≤ z) = false ∧ (z == 45) = true) ∨
 (isLet n = true ∧ decide (97 ≤ z) = false ∧ decide (48 ≤ z) = false ∧ (z == 45) = false ∧ (z == 46) = true) ∨
 (isLet n = false ∧ decide (97 ≤ z) = false ∧ decide (48 ≤ z) = false ∧ (z == 45) = false ∧ (z == 46) = false ∧ (z == 95) = false) := by
 subst hz
 by_cases h0 : 97 ≤ n ∧ n ≤ 122
 ·refine .inl ⟨?_, decide_eq_true (by omega), decide_eq_true (by omega)⟩
  simp [isLet]; omega
 by_cases h1 : 97 ≤ n
 ·refine .inr (.inl ⟨?_, decide_eq_true (by omega), decide_eq_false (by omega), decide_eq_true (by omega), decide_eq_false (by omega), beq_eq_false_iff_ne.2 (by omega), beq_eq_false_iff_ne.2 (by omega), beq_eq_false_iff_ne.2 (by omega)⟩)
  simp [isLet]; omega
 by_cases h2 : 48 ≤ n ∧ n ≤ 57
 ·refine .inr (.inr (.inl ⟨?_, decide_eq_false (by omega), decide_eq_true (by omega), decide_eq_true (by omega)⟩))
  simp [isLet]; omega
 by_cases h3 : 48 ≤ n ∧ n = 95
 ·refine .inr (.inr (.inr (.inl ⟨?_, decide_eq_false (by omega), decide_eq_true (by omega), decide_eq_false (by omega), beq_eq_false_iff_ne.2 (by omega), beq_eq_false_iff_ne.2 (by omega), beq_iff_eq.2 (by omega)⟩)))
  simp [isLet]; omega
 by_cases h4 : 48 ≤ n
 ·refine .inr (.inr (.inr (.inr (.inl ⟨?_, decide_eq_false (by omega), decide_eq_true (by omega), decide_eq_false (by omega), beq_eq_false_iff_ne.2 (by omega), beq_eq_false_iff_ne.2 (by omega), beq_eq_false_iff_ne.2 (by omega)⟩))))
  simp [isLet]; omega
 by_cases h5 : n = 45
 ·refine .inr (.inr (.inr (.inr (.inr (.inl ⟨?_, decide_eq_false (by omega), decide_eq_false (by omega), beq_iff_eq.2 (by omega)⟩)))))
  simp [isLet]; omega
 by_cases h6 : n = 46
 ·refine .inr (.inr (.inr (.inr (.inr (.inr (.inl ⟨?_, decide_eq_false (by omega), decide_eq_false (by omega), beq_eq_false_iff_ne.2 (by omega), beq_iff_eq.2 (by omega)⟩))))))
  simp [isLet]; omega
 refine .inr (.inr (.inr (.inr (.inr (.inr (.inr (⟨?_, decide_eq_false (by omega), decide_eq_false (by omega), beq_eq_false_iff_ne.2 (by omega), beq_eq_false_iff_ne.2 (by omega), beq_eq_false_iff_ne.2 (by omega)⟩)))))))
 simp [isLet]; omega

theorem nameOk_split (st : Bool) (s : B) (h0 : s ≠ []) (h1 : s.length ≤ 12) (h2 : s ≠ [46]) (h3 : s ≠ [46, 46]) : nameOk st s = s.all (byteOk st) := by
 unfold nameOk
 simp [h0, h1, h2, h3]

set_option maxRecDepth 100000 in
set_option maxHeartbeats 2000000 in
theorem isName_a (w : World) (st : Bool) (s : B) (_ : decide ((s.length : Int) < 1) = true) : Calls Tryz.prog 225 #[S s, .bool st] w fun e w' => e = .returned (.bool false) ∧ w = w' := by
 go_enter Tryz.func225, Tryz.ntmps225
 go_wp2_with fail
 go_ret
 exact ⟨rfl, rfl⟩

set_option maxRecDepth 100000 in
set_option maxHeartbeats 2000000 in
theorem isName_b (w : World) (st : Bool) (s : B) (_ : decide ((s.length : Int) < 1) = false) (_ : decide (12 < (s.length : Int)) = true) : Calls Tryz.prog 225 #[S s, .bool st] w fun e w' => e = .returned (.bool false) ∧ w = w' := by
 go_enter Tryz.func225, Tryz.ntmps225
 go_wp2_with fail
 go_ret
 exact ⟨rfl, rfl⟩

set_option maxRecDepth 100000 in
set_option maxHeartbeats 2000000 in
theorem isName_c (w : World) (st : Bool) (s : B) (_ : decide ((s.length : Int) < 1) = false) (_ : decide (12 < (s.length : Int)) = false) (_ : (s == [46]) = true) : Calls Tryz.prog 225 #[S s, .bool st] w fun e w' => e = .returned (.bool false) ∧ w = w' := by
 go_enter Tryz.func225, Tryz.ntmps225
 go_wp2_with fail
 go_ret
 exact ⟨rfl, rfl⟩

set_option maxRecDepth 100000 in
set_option maxHeartbeats 2000000 in
theorem isName_d (w : World) (st : Bool) (s : B) (_ : decide ((s.length : Int) < 1) = false) (_ : decide (12 < (s.length : Int)) = false) (_ : (s == [46]) = false) (_ : (s == [46, 46]) = true) : Calls Tryz.prog 225 #[S s, .bool st] w fun e w' => e = .returned (.bool false) ∧ w = w' := by
 go_enter Tryz.func225, Tryz.ntmps225
 go_wp2_with fail
 go_ret
 exact ⟨rfl, rfl⟩

set_option maxRecDepth 100000 in
set_option maxHeartbeats 2000000 in
theorem isName_e (w : World) (st : Bool) (s : B) (g1 : decide ((s.length : Int) < 1) = false) (g2 : decide (12 < (s.length : Int)) = false) (g3 : (s == [46]) = false) (g4 : (s == [46, 46]) = false) : Calls Tryz.prog 225 #[S s, .bool st] w fun e w' => e = .returned (.bool (s.all (byteOk st))) ∧ w = w' := by
 have hl : s.length ≤ 12 := by have := of_decide_eq_false g2; omega
 obtain ⟨r, hr⟩ : ∃ r, r = s.all (byteOk st) := ⟨_, rfl⟩
 rw [← hr]
 have HR := Lib.hid hr
 clear hr
 go_enter Tryz.func225, Tryz.ntmps225
 go_wp2_with fail
 clear g1 g2 g3 g4
 go_loop [5] (fun i => ∃ j : Nat, j ≤ s.length ∧ i = .int .i64 j ∧ Hid (∀ k x, k < j → s[k]? = some x → byteOk st x = true)) (fun i => s.length - (intOf i).toNat)
 case atStart => exact ⟨0, Nat.zero_le _, rfl, Lib.hid (fun k x h => absurd h (Nat.not_lt_zero _))⟩
 case round =>
  obtain ⟨j, hj, rfl, HB⟩ := hrel
  by_cases hlt : j < s.length
  ·have hltz : (j : Int) < (s.length : Int) := by omega
   obtain ⟨c, hc⟩ : ∃ c, s[j]? = some c := ⟨_, List.getElem?_eq_getElem hlt⟩
   have hg := ba_get hc
   have HC := Lib.hid hc
   clear hc
   have good : byteOk st c = true → ∀ k x, k < j + 1 → s[k]? = some x → byteOk st x = true := fun h k x hk hx => by
    rcases Nat.lt_succ_iff_lt_or_eq.1 hk with h' | rfl
    ·exact HB.out k x h' hx
    ·rw [HC.out] at hx; cases hx; exact h
   have bad : byteOk st c = false → s.all (byteOk st) = false := fun h => by
    rw [Bool.eq_false_iff]
    intro hall
    have := List.all_eq_true.1 hall c (List.mem_of_getElem? HC.out)
    rw [h] at this; cases this
   have HG := Lib.hid good
   have HBD := Lib.hid bad
   clear good bad
   obtain ⟨z, hz⟩ : ∃ z : Int, z = (c.toNat : Int) := ⟨_, rfl⟩
   have hg2 : ∀ hh : j < (⟨s.toArray⟩ : ByteArray).size, (((⟨s.toArray⟩ : ByteArray)[j]'hh).toNat : Int) = z := fun hh => by rw [hg hh, hz]
   have hlc := letter_cases c.toNat z hz
   have HZ := Lib.hid hz
   clear hg hz
   rcases hlc with ⟨hL, k0, k1⟩ | ⟨hL, k0, k1, k2, k3, k4, k5, k6⟩ | ⟨hL, k0, k1, k2⟩ | ⟨hL, k0, k1, k2, k3, k4, k5⟩ | ⟨hL, k0, k1, k2, k3, k4, k5⟩ | ⟨hL, k0, k1, k2⟩ | ⟨hL, k0, k1, k2, k3⟩ | ⟨hL, k0, k1, k2, k3, k4⟩
   ·have hb : byteOk st c = true := by unfold byteOk; rw [hL]; rfl
    have HH := Lib.hid (HG.out hb)
    clear hb hL
    go_wp2_with fail
    go_round
    case rel => exact ⟨j + 1, by omega, by go_num, HH⟩
    case measure => simp [intOf]; omega
   ·cases st with
    | false =>
     have hb : byteOk false c = false := by unfold byteOk; rw [hL]; rfl
     have HH := Lib.hid (HR.out.trans (HBD.out hb))
     clear hb hL
     go_wp2_with fail
     go_ret
     exact ⟨by rw [HH.out]; rfl, rfl⟩
    | true =>
     by_cases hs : c = 42
     ·have hb : byteOk true c = true := by unfold byteOk; rw [hs]; decide
      have HH := Lib.hid (HG.out hb)
      have hz : (z == 42) = true := by rw [HZ.out, hs]; rfl
      clear hb hL hs
      go_wp2_with fail
      go_round
      case rel => exact ⟨j + 1, by omega, by go_num, HH⟩
      case measure => simp [intOf]; omega
     ·have hb : byteOk true c = false := by unfold byteOk; rw [hL]; simpa using hs
      have HH := Lib.hid (HR.out.trans (HBD.out hb))
      have hz : (z == 42) = false := by
       rw [HZ.out]
       refine beq_eq_false_iff_ne.2 fun e => hs ?_
       have e2 : c.toNat = (42 : UInt8).toNat := by rw [show (42 : UInt8).toNat = 42 from rfl]; omega
       exact UInt8.toNat_inj.1 e2
      clear hb hL hs
      go_wp2_with fail
      go_ret
      exact ⟨by rw [HH.out]; rfl, rfl⟩
   ·have hb : byteOk st c = true := by unfold byteOk; rw [hL]; rfl
    have HH := Lib.hid (HG.out hb)
    clear hb hL
    go_wp2_with fail
    go_round
    case rel => exact ⟨j + 1, by omega, by go_num, HH⟩
    case measure => simp [intOf]; omega
   ·have hb : byteOk st c = true := by unfold byteOk; rw [hL]; rfl
    have HH := Lib.hid (HG.out hb)
    clear hb hL
    go_wp2_with fail
    go_round
    case rel => exact ⟨j + 1, by omega, by go_num, HH⟩
    case measure => simp [intOf]; omega
   ·cases st with
    | false =>
     have hb : byteOk false c = false := by unfold byteOk; rw [hL]; rfl
     have HH := Lib.hid (HR.out.trans (HBD.out hb))
     clear hb hL
     go_wp2_with fail
     go_ret
     exact ⟨by rw [HH.out]; rfl, rfl⟩
    | true =>
     by_cases hs : c = 42
     ·have hb : byteOk true c = true := by unfold byteOk; rw [hs]; decide
      have HH := Lib.hid (HG.out hb)
      have hz : (z == 42) = true := by rw [HZ.out, hs]; rfl
      clear hb hL hs
      go_wp2_with fail
      go_round
      case rel => exact ⟨j + 1, by omega, by go_num, HH⟩
      case measure => simp [intOf]; omega
     ·have hb : byteOk true c = false := by unfold byteOk; rw [hL]; simpa using hs
      have HH := Lib.hid (HR.out.trans (HBD.out hb))
      have hz : (z == 42) = false := by
       rw [HZ.out]
       refine beq_eq_false_iff_ne.2 fun e => hs ?_
       have e2 : c.toNat = (42 : UInt8).toNat := by rw [show (42 : UInt8).toNat = 42 from rfl]; omega
       exact UInt8.toNat_inj.1 e2
      clear hb hL hs
      go_wp2_with fail
      go_ret
      exact ⟨by rw [HH.out]; rfl, rfl⟩
   ·have hb : byteOk st c = true := by unfold byteOk; rw [hL]; rfl
    have HH := Lib.hid (HG.out hb)
    clear hb hL
    go_wp2_with fail
    go_round
    case rel => exact ⟨j + 1, by omega, by go_num, HH⟩
    case measure => simp [intOf]; omega
   ·have hb : byteOk st c = true := by unfold byteOk; rw [hL]; rfl
    have HH := Lib.hid (HG.out hb)
    clear hb hL
    go_wp2_with fail
    go_round
    case rel => exact ⟨j + 1, by omega, by go_num, HH⟩
    case measure => simp [intOf]; omega
   ·cases st with
    | false =>
     have hb : byteOk false c = false := by unfold byteOk; rw [hL]; rfl
     have HH := Lib.hid (HR.out.trans (HBD.out hb))
     clear hb hL
     go_wp2_with fail
     go_ret
     exact ⟨by rw [HH.out]; rfl, rfl⟩
    | true =>
     by_cases hs : c = 42
     ·have hb : byteOk true c = true := by unfold byteOk; rw [hs]; decide
      have HH := Lib.hid (HG.out hb)
      have hz : (z == 42) = true := by rw [HZ.out, hs]; rfl
      clear hb hL hs
      go_wp2_with fail
      go_round
      case rel => exact ⟨j + 1, by omega, by go_num, HH⟩
      case measure => simp [intOf]; omega
     ·have hb : byteOk true c = false := by unfold byteOk; rw [hL]; simpa using hs
      have HH := Lib.hid (HR.out.trans (HBD.out hb))
      have hz : (z == 42) = false := by
       rw [HZ.out]
       refine beq_eq_false_iff_ne.2 fun e => hs ?_
       have e2 : c.toNat = (42 : UInt8).toNat := by rw [show (42 : UInt8).toNat = 42 from rfl]; omega
       exact UInt8.toNat_inj.1 e2
      clear hb hL hs
      go_wp2_with fail
      go_ret
      exact ⟨by rw [HH.out]; rfl, rfl⟩
  ·have hltz : ¬ ((j : Int) < (s.length : Int)) := by omega
   have hall : r = true := by
    rw [HR.out]
    refine List.all_eq_true.2 fun x hx => ?_
    obtain ⟨k, hk⟩ := List.getElem?_of_mem hx
    exact HB.out k x (by have := (List.getElem?_eq_some_iff.1 hk).1; omega) hk
   subst hall
   go_wp2_with fail
   go_ret
   exact ⟨rfl, rfl⟩

theorem isName_any (w : World) (st : Bool) (s : B) : Calls Tryz.prog 225 #[S s, .bool st] w fun e w' => e = .returned (.bool (nameOk st s)) ∧ w = w' := by
 by_cases h0 : s = []
 ·have : nameOk st s = false := by rw [h0]; rfl
  rw [this]; exact isName_a w st s (by rw [h0]; rfl)
 have hp := List.length_pos_iff.2 h0
 have g1 : decide ((s.length : Int) < 1) = false := decide_eq_false (by omega)
 by_cases h1 : s.length ≤ 12
 ·have g2 : decide (12 < (s.length : Int)) = false := decide_eq_false (by omega)
  by_cases h2 : s = [46]
  ·have : nameOk st s = false := by rw [h2]; simp [nameOk]
   rw [this]; exact isName_c w st s g1 g2 (beq_iff_eq.2 h2)
  by_cases h3 : s = [46, 46]
  ·have : nameOk st s = false := by rw [h3]; simp [nameOk]
   rw [this]; exact isName_d w st s g1 g2 (beq_eq_false_iff_ne.2 h2) (beq_iff_eq.2 h3)
  rw [nameOk_split st s h0 h1 h2 h3]
  exact isName_e w st s g1 g2 (beq_eq_false_iff_ne.2 h2) (beq_eq_false_iff_ne.2 h3)
 ·have : nameOk st s = false := by unfold nameOk; simp [h1]
  rw [this]; exact isName_b w st s g1 (decide_eq_true (by omega))
end Go.Proofs.YtnmhaipjfpongacGreatDoor

namespace Go.Proofs.YtnmhaipjfpongacGreatDoor
open Go.ChangeShapes Go.WideShapes Go.ChangeAt Go.RowKit

theorem rowRd {W : World} {base : Nat} {g cap n : Nat} {l : List B} (h : W.ownsRow base 9 1 (.slice (some ⟨g, 0, none⟩) n cap) n (l.map S)) : ∀ i x, l[i]? = some x → W.cell? ⟨g, i, none⟩ = some (S x) := fun i x hx => by
 rcases h.2 with ⟨h2, _⟩ | ⟨g', cap', cur, hv, _, hh, _, _, hs, ht⟩
 ·cases h2
 ·cases hv
  have hn : l.length = n := by simpa using h.1
  have hi : i < l.length := (List.getElem?_eq_some_iff.1 hx).1
  have hcell : cur[i]? = (cur.toList.take (n * 1))[i]? := by rw [List.getElem?_take_of_lt (by omega)]; simp
  rw [ht, List.getElem?_map, hx] at hcell
  rw [cell_of_heap hh]
  simpa using hcell

def RefPartsIs (w : World) (st : Bool) (s : B) (e : Ending) (w' : World) : Prop :=
 Ext w w' ∧ ((partsOk st (cut s) = true ∧ ∃ g cap, e = .returned (.slice (some ⟨g, 0, none⟩) (cut s).length cap) ∧ ∀ i x, (cut s)[i]? = some x → w'.cell? ⟨g, i, none⟩ = some (S x)) ∨ (partsOk st (cut s) = false ∧ e = .returned (.slice none 0 0)))

set_option maxRecDepth 100000 in
set_option maxHeartbeats 1000000 in
theorem refParts_any (w : World) (st : Bool) (s : B) (hs : s.length ≤ 999999) : Calls Tryz.prog 174 #[S s, .bool st] w (RefPartsIs w st s) := by
 have HC := Lib.hid (refCut_any w s hs)
 have hcl := cut_len_le s
 obtain ⟨l, hl⟩ : ∃ l, l = cut s := ⟨_, rfl⟩
 unfold RefPartsIs
 rw [← hl] at hcl HC ⊢
 have hll : l.length ≤ 1000000 := by omega
 clear hl hs hcl
 by_cases h5 : l.length ≤ 5
 ·have h5' : ¬ ((5 : Int) < (l.length : Int)) := by omega
  go_enter Tryz.func174, Tryz.ntmps174
  go_wp2_with fail
  refine HC.out.mono ?_
  rintro e w1 ⟨g, cap, rfl, hrow, ho⟩
  have HO := Lib.hid ho
  have HD := Lib.hid (rowRd hrow)
  clear ho hrow
  go_wp2_with fail
  go_loop [6] (fun i => ∃ j : Nat, j ≤ l.length ∧ i = .int .i64 j ∧ Hid (∀ k x, k < j → l[k]? = some x → nameOk st x = true)) (fun i => l.length - (intOf i).toNat)
  case atStart => exact ⟨0, Nat.zero_le _, rfl, Lib.hid (fun k x h => absurd h (Nat.not_lt_zero _))⟩
  case round =>
   obtain ⟨j, hj, rfl, HB⟩ := hrel
   by_cases hlt : j < l.length
   ·have hltz : (j : Int) < (l.length : Int) := by omega
    obtain ⟨x, hx⟩ : ∃ x, l[j]? = some x := ⟨_, List.getElem?_eq_getElem hlt⟩
    have c1 := HD.out j x hx
    have HXX := Lib.hid hx
    have hn := isName_any w1 st x
    clear hx
    cases hq : nameOk st x with
    | true =>
     rw [hq] at hn
     have HN := Lib.hid hn
     have HQ := Lib.hid hq
     clear hn hq
     go_wp2_with fail
     refine HN.out.mono ?_
     rintro e w' ⟨rfl, rfl⟩
     go_wp2_with fail
     go_round
     case rel => exact ⟨j + 1, by omega, by go_num, Lib.hid (fun k y hk hy => by
      rcases Nat.lt_succ_iff_lt_or_eq.1 hk with h' | rfl
      ·exact HB.out k y h' hy
      ·rw [HXX.out] at hy; cases hy; exact HQ.out)⟩
     case measure => simp [intOf]; omega
    | false =>
     rw [hq] at hn
     have HN := Lib.hid hn
     have hbad : partsOk st l = false := by
      rw [Bool.eq_false_iff]
      intro h
      have := partsOk_all h x (List.mem_of_getElem? HXX.out)
      rw [hq] at this; cases this
     have HBD := Lib.hid hbad
     clear hn hq hbad
     go_wp2_with fail
     refine HN.out.mono ?_
     rintro e w' ⟨rfl, rfl⟩
     go_wp2_with fail
     go_ret
     exact ⟨HO.out, .inr ⟨HBD.out, rfl⟩⟩
   ·have hltz : ¬ ((j : Int) < (l.length : Int)) := by omega
    have hok : partsOk st l = true := partsOk_mk h5 fun x hx => by
     obtain ⟨k, hk⟩ := List.getElem?_of_mem hx
     exact HB.out k x (by have := (List.getElem?_eq_some_iff.1 hk).1; omega) hk
    have HOK := Lib.hid hok
    clear hok
    go_wp2_with fail
    go_ret
    exact ⟨HO.out, .inl ⟨HOK.out, g, ⟨cap, rfl⟩, HD.out⟩⟩
 ·have h5' : (5 : Int) < (l.length : Int) := by omega
  have hbad : partsOk st l = false := by
   rw [Bool.eq_false_iff]
   intro h
   exact h5 (partsOk_len h)
  have HBD := Lib.hid hbad
  clear hbad h5
  go_enter Tryz.func174, Tryz.ntmps174
  go_wp2_with fail
  refine HC.out.mono ?_
  rintro e w1 ⟨g, cap, rfl, hrow, ho⟩
  have HO := Lib.hid ho
  clear ho hrow
  go_wp2_with fail
  go_ret
  exact ⟨HO.out, .inr ⟨HBD.out, rfl⟩⟩

set_option maxRecDepth 100000 in
theorem isPath_any (w : World) (s : B) (hs : s.length ≤ 999999) : Calls Tryz.prog 104 #[S s] w fun e w' => e = .returned (.bool (pathOk s)) ∧ Ext w w' := by
 have HP := Lib.hid (refParts_any w false s hs)
 obtain ⟨r, hr⟩ : ∃ r, r = pathOk s := ⟨_, rfl⟩
 rw [← hr]
 have HR := Lib.hid hr
 obtain ⟨m, hm⟩ : ∃ m, (cut s).length = m + 1 := ⟨(cut s).length - 1, by have := cut_pos s; omega⟩
 have HM := Lib.hid hm
 have h0 : (0 : Int) < (m : Int) + 1 := by omega
 clear hr hm
 go_enter Tryz.func104, Tryz.ntmps104
 go_wp2_with fail
 refine HP.out.mono ?_
 rintro e w' ⟨ho, ⟨hok, g, cap, rfl, _⟩ | ⟨hok, rfl⟩⟩
 ·have HO := Lib.hid ho
  have hr : r = true := HR.out.trans hok
  subst hr
  rw [HM.out]
  clear ho hok
  go_wp2_with fail
  go_ret
  exact ⟨rfl, HO.out⟩
 ·have HO := Lib.hid ho
  have hr : r = false := HR.out.trans hok
  subst hr
  clear ho hok
  go_wp2_with fail
  go_ret
  exact ⟨rfl, HO.out⟩

end Go.Proofs.YtnmhaipjfpongacGreatDoor

namespace Go.Proofs.YtnmhaipjfpongacGreatDoor
open Go.ChangeShapes Go.WideShapes Go.ChangeAt Go.RowKit

end Go.Proofs.YtnmhaipjfpongacGreatDoor

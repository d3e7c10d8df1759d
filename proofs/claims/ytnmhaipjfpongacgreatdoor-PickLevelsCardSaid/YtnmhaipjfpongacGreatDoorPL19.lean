/- Texts of this seat laid together for one claim: F10. No condition of its own: what each proves stands with its theorems. -/
import Derived.Deep.CutBlock
import Derived.Deep.DeepCutAuto
import Derived.Deep.LoopGhost
import Derived.Deep.RegionHeld3
import Derived.IntWalk
import Derived.Test.YtnmhaipjfpongacGreatDoorPL17
import Derived.Test.YtnmhaipjfpongacGreatDoorPL12
namespace Go.Proofs.YtnmhaipjfpongacGreatDoor
open Go.ChangeShapes Go.WideShapes Go.ChangeAt Go.RowKit

theorem Rd.takeS {α : Type} {enc : α → Value} {w : World} {a : Option Addr} {cap : Nat} {l : List α} (h : Rd enc w (.slice a l.length cap) l) (j : Nat) (hj : j ≤ l.length) : Rd enc w (.slice a j cap) (l.take j) := by
 obtain ⟨a', cap', h1, h2, h3, h4⟩ := h
 cases h1
 have e : (l.take j).length = j := by rw [List.length_take]; omega
 refine ⟨a, cap, by rw [e], by omega, h3, fun hl => ?_⟩
 obtain ⟨b, off, h5, h6⟩ := h4 (fun e => hl (by rw [e]; simp))
 refine ⟨b, off, h5, fun i r hr => h6 i r ?_⟩
 rw [List.getElem?_take] at hr
 split at hr
 ·exact hr
 ·cases hr

def dgB (c : UInt8) : Bool := decide (48 ≤ c.toNat ∧ c.toNat ≤ 57)
def numV (n : Nat) (s : B) : Nat := s.foldl (fun a c => 10 * a + (c.toNat - 48)) n
theorem numV_cons (n : Nat) (c : UInt8) (r : B) : numV n (c :: r) = numV (10 * n + (c.toNat - 48)) r := by unfold numV; rw [List.foldl_cons]
theorem numV_nil (n : Nat) : numV n [] = n := by unfold numV; rw [List.foldl_nil]
def numOk (m : Nat) (s : B) : Bool := decide (1 ≤ s.length ∧ s.length ≤ m ∧ ¬ (1 < s.length ∧ s.head? = some 48)) && s.all dgB
def numI (m : Nat) (s : B) : Int := match numB m s with | some n => (n : Int) | none => -1

theorem numV_app (n : Nat) (a : B) (c : UInt8) : numV n (a ++ [c]) = 10 * numV n a + (c.toNat - 48) := by
 induction a generalizing n with
 | nil => rw [List.nil_append, numV_cons, numV_nil, numV_nil]
 | cons x a ih => rw [List.cons_append, numV_cons, numV_cons]; exact ih _
theorem numV_lt : ∀ (s : B) (n : Nat), s.all dgB = true → numV n s < (n + 1) * 10 ^ s.length
 | [], n, _ => by rw [numV_nil]; simp
 | c :: r, n, h => by
  rw [List.all_cons, Bool.and_eq_true] at h
  have hc := of_decide_eq_true h.1
  have := numV_lt r (10 * n + (c.toNat - 48)) h.2
  rw [numV_cons, List.length_cons, Nat.pow_succ]
  refine Nat.lt_of_lt_of_le this ?_
  rw [Nat.mul_comm (10 ^ r.length) 10, ← Nat.mul_assoc]
  exact Nat.mul_le_mul_right _ (by omega)

theorem dec_of_num : ∀ (n : Nat) (s : B), s.length ≤ n → s ≠ [] → s.all dgB = true → ¬ (1 < s.length ∧ s.head? = some 48) → Lib.decDigits (numV 0 s) = s
 | 0, s, hn, h, _, _ => absurd (List.length_eq_zero_iff.1 (Nat.le_zero.1 hn)) h
 | n + 1, s, hn, h, hd, hz => by
  obtain ⟨t, c, rfl⟩ : ∃ t c, s = t ++ [c] := ⟨_, _, (List.dropLast_concat_getLast h).symm⟩
  have ih := dec_of_num n t (by simp at hn; omega)
  rw [List.all_append, Bool.and_eq_true] at hd
  have hc := of_decide_eq_true (show dgB c = true by simpa using hd.2)
  rw [numV_app]
  have ec : UInt8.ofNat (48 + (c.toNat - 48)) = c := by rw [show 48 + (c.toNat - 48) = c.toNat by omega]; simp
  by_cases ht : t = []
  ·subst ht
   rw [numV_nil, Nat.mul_zero, Nat.zero_add, List.nil_append]
   rw [Lib.decDigits_one (by omega), ec]
  ·have hz' : t.head? ≠ some 48 := fun e => hz ⟨by have := List.length_pos_iff.2 ht; simp; omega, by rw [List.head?_append, e]; rfl⟩
   have h1 : Lib.decDigits (numV 0 t) = t := ih ht hd.1 (fun h => hz' h.2)
   have hp : 1 ≤ numV 0 t := by
    rcases Nat.eq_zero_or_pos (numV 0 t) with e | e
    ·rw [e, Lib.decDigits_one (by omega)] at h1
     rw [← h1] at hz'
     exact absurd rfl hz'
    ·exact e
   rw [Lib.decDigits, dif_neg (by omega)]
   have e1 : (10 * numV 0 t + (c.toNat - 48)) / 10 = numV 0 t := by omega
   have e2 : (10 * numV 0 t + (c.toNat - 48)) % 10 = c.toNat - 48 := by omega
   rw [e1, e2, h1, ec]

theorem dec_head (u : Nat) : 10 ≤ u → (Lib.decDigits u).head? ≠ some 48 := by
 induction u using Nat.strongRecOn with
 | _ u ih =>
  intro h
  rw [Lib.decDigits, dif_neg (by omega)]
  by_cases h2 : u / 10 < 10
  ·rw [Lib.decDigits_one h2]
   intro e
   have e : UInt8.ofNat (48 + u / 10) = 48 := by simpa using e
   have := congrArg UInt8.toNat e
   rw [dig_toNat h2] at this
   have h3 : (48 : UInt8).toNat = 48 := rfl
   omega
  ·have := ih (u / 10) (by omega) (by omega)
   rw [List.head?_append]
   cases hh : (Lib.decDigits (u / 10)).head? with
   | none => exact absurd (List.head?_eq_none_iff.1 hh) (dec_ne _)
   | some x => rw [hh] at this; simpa using this

theorem numB_ok {m : Nat} {s : B} (hm : m ≤ 4) (h : numOk m s = true) : numB m s = some (numV 0 s) := by
 unfold numOk at h
 rw [Bool.and_eq_true] at h
 obtain ⟨h1, h2, h3⟩ := of_decide_eq_true h.1
 have hne : s ≠ [] := List.length_pos_iff.1 h1
 have hd := dec_of_num s.length s (Nat.le_refl _) hne h.2 h3
 have hlt := numV_lt s 0 h.2
 have h4 : numV 0 s < 10000 := by
  have : (10 : Nat) ^ s.length ≤ 10 ^ 4 := Nat.pow_le_pow_right (by omega) (by omega)
  omega
 have hn := (numB_some (num_dec h4)).1
 rw [hd] at hn
 unfold numB
 rw [hn]
 simp only
 rw [if_pos ⟨h2, by omega, by rw [Int.toNat_natCast]; exact hd⟩, Int.toNat_natCast]

theorem numB_no {m : Nat} {s : B} (h : numOk m s = false) : numB m s = none := by
 cases hn : numB m s with
 | none => rfl
 | some n =>
  exfalso
  obtain ⟨_, h2, h3⟩ := numB_some hn
  have h4 : numOk m s = true := by
   unfold numOk
   rw [Bool.and_eq_true]
   refine ⟨decide_eq_true ⟨List.length_pos_iff.2 (h3 ▸ dec_ne n), h2, fun ⟨h5, h6⟩ => ?_⟩, ?_⟩
   ·by_cases h10 : n < 10
    ·rw [← h3, Lib.decDigits_one h10] at h5; simp at h5
    ·exact dec_head n (by omega) (h3 ▸ h6)
   ·rw [List.all_eq_true]
    intro c hc
    rw [← h3] at hc
    exact decide_eq_true (dec_all n c hc)
  rw [h4] at h
  cases h

theorem numI_no {m : Nat} {s : B} (h : numOk m s = false) : numI m s = -1 := by unfold numI; rw [numB_no h]
theorem numI_ok {m : Nat} {s : B} (hm : m ≤ 4) (h : numOk m s = true) : numI m s = (numV 0 s : Int) := by unfold numI; rw [numB_ok hm h]

def RetI (v : Value) (w : World) (e : Ending) (w' : World) : Prop := e = .returned v ∧ w = w'

set_option maxRecDepth 100000 in
set_option maxHeartbeats 2000000 in
theorem numberOf_any (w : World) (s : B) (m : Nat) (hm : m ≤ 4) (hs : s.length ≤ 1000000) :
  Calls Tryz.prog 220 #[S s, I m] w (RetI (I (numI m s)) w) := by
 by_cases h1 : s.length < 1
 ·have hno : numOk m s = false := by unfold numOk; rw [decide_eq_false (by omega)]; rfl
  rw [numI_no hno]
  have h1z : (s.length : Int) < 1 := by omega
  clear h1 hno
  go_enter Tryz.func220, Tryz.ntmps220
  go_wp2_with fail
  go_ret
  exact ⟨rfl, rfl⟩
 ·have h1z : ¬ (s.length : Int) < 1 := by omega
  by_cases h2 : m < s.length
  ·have hno : numOk m s = false := by unfold numOk; rw [decide_eq_false (by omega)]; rfl
   rw [numI_no hno]
   have h2z : (m : Int) < (s.length : Int) := by omega
   clear h1 h2 hno
   go_enter Tryz.func220, Tryz.ntmps220
   go_wp2_with fail
   go_ret
   exact ⟨rfl, rfl⟩
  ·have h2z : ¬ (m : Int) < (s.length : Int) := by omega
   obtain ⟨c, r, rfl⟩ : ∃ c r, s = c :: r := by cases s with
    | nil => simp at h1
    | cons c r => exact ⟨c, r, rfl⟩
   have hg := ba_get (l := c :: r) (j := 0) (c := c) rfl
   by_cases h3 : 1 < (c :: r).length ∧ c = 48
   ·have hno : numOk m (c :: r) = false := by unfold numOk; rw [decide_eq_false (fun h => h.2.2 ⟨h3.1, by rw [h3.2]; rfl⟩)]; rfl
    rw [numI_no hno]
    obtain ⟨h3, rfl⟩ := h3
    have h3z : (1 : Int) < ((48 :: r : B).length : Int) := by omega
    have h0z : (0 : Int) < ((48 :: r : B).length : Int) := by omega
    generalize (48 :: r : B) = s at *
    clear h1 h2 h3 hno
    go_enter Tryz.func220, Tryz.ntmps220
    go_wp2_with fail
    go_ret
    exact ⟨rfl, rfl⟩
   ·have hok : numOk m (c :: r) = (c :: r).all dgB := by
     unfold numOk
     rw [decide_eq_true ⟨by omega, by omega, fun h => h3 ⟨h.1, by simpa using h.2⟩⟩]
     rfl
    have h0z : (0 : Int) < ((c :: r : B).length : Int) := by omega
    have hcz : (decide ((1 : Int) < ((c :: r : B).length : Int)) && ((c.toNat : Int) == 48)) = false := by
     rw [Bool.and_eq_false_iff]
     by_cases h4 : 1 < (c :: r).length
     ·right
      refine beq_eq_false_iff_ne.2 fun e => h3 ⟨h4, UInt8.toNat_inj.1 (by rw [show (48 : UInt8).toNat = 48 from rfl]; omega)⟩
     ·left; exact decide_eq_false (by omega)
    generalize (c :: r : B) = s at *
    have HOK := Lib.hid hok
    have HM := Lib.hid hm
    have HL : Hid (s.length ≤ m) := Lib.hid (by omega)
    have hparts : (¬ (1 : Int) < (s.length : Int)) ∨ ((1 : Int) < (s.length : Int) ∧ ((c.toNat : Int) == 48) = false) := by
     by_cases h4 : (1 : Int) < (s.length : Int)
     ·rw [decide_eq_true h4, Bool.true_and] at hcz; exact .inr ⟨h4, hcz⟩
     ·exact .inl h4
    clear hok h1 h2 h3 hm hcz
    rcases hparts with h4 | ⟨h4, h5⟩
    all_goals
     go_enter Tryz.func220, Tryz.ntmps220
     go_wp2_with fail
     go_loop [5, 6] (fun n i => ∃ (j : Nat) (u : Nat), j ≤ s.length ∧ i = .int .i64 j ∧ n = .int .i64 u ∧ u ≤ 100000 ∧ Hid (u = numV 0 (s.take j)) ∧ Hid ((s.take j).all dgB = true)) (fun _ i => s.length - (intOf i).toNat)
     case atStart => exact ⟨0, 0, Nat.zero_le _, rfl, rfl, by omega, Lib.hid rfl, Lib.hid rfl⟩
     case round =>
      obtain ⟨j, u, hj, rfl, rfl, hu, HU, HA⟩ := hrel
      by_cases hlt : j < s.length
      ·have hltz : (j : Int) < (s.length : Int) := by omega
       obtain ⟨d, hd⟩ : ∃ d, s[j]? = some d := ⟨_, List.getElem?_eq_getElem hlt⟩
       have hgd := ba_get hd
       have ht : s.take (j + 1) = s.take j ++ [d] := by rw [List.take_add_one, hd]; rfl
       by_cases hdg : 48 ≤ d.toNat ∧ d.toNat ≤ 57
       ·obtain ⟨g1, g2⟩ := hdg
        have g1z : ¬ (d.toNat : Int) < 48 := by omega
        have g2z : ¬ (57 : Int) < (d.toNat : Int) := by omega
        obtain ⟨q, hq⟩ : ∃ q : Nat, q = d.toNat - 48 := ⟨_, rfl⟩
        have hall : (s.take (j + 1)).all dgB = true := by rw [ht, List.all_append, HA.out]; simp [dgB, g1, g2]
        have hnu : 10 * u + q = numV 0 (s.take (j + 1)) := by rw [ht, numV_app, ← HU.out, hq]
        have hb : numV 0 (s.take (j + 1)) < 10000 := by
         have h6 := numV_lt (s.take (j + 1)) 0 hall
         have h7 : (10 : Nat) ^ (s.take (j + 1)).length ≤ 10 ^ 4 := Nat.pow_le_pow_right (by omega) (by rw [List.length_take]; have := HL.out; have := HM.out; omega)
         omega
        have hqz : (d.toNat : Int) - 48 = (q : Int) := by omega
        have hw1 : IntKind.u8.wrap (q : Int) = (q : Int) := IntKind.wraps_u8_ q (by omega)
        have hq9 : q ≤ 9 := by omega
        have HN := Lib.hid hnu
        have HAL := Lib.hid hall
        have hbu : 10 * u + q ≤ 100000 := by omega
        clear hd ht hnu hall hb hq
        go_wp2_with fail
        go_round
        case rel => exact ⟨j + 1, 10 * u + q, by omega, by go_num, by go_num, hbu, HN, HAL⟩
        case measure => simp [intOf]; omega
       ·have hno : numOk m s = false := by
         rw [HOK.out]
         refine Bool.eq_false_iff.2 fun h => ?_
         have := List.all_eq_true.1 h d (List.mem_of_getElem? hd)
         exact hdg (of_decide_eq_true this)
        have HN := Lib.hid (numI_no hno)
        have hor : (decide ((d.toNat : Int) < 48) || decide ((57 : Int) < (d.toNat : Int))) = true := by
         by_cases h8 : d.toNat < 48
         ·rw [decide_eq_true (show (d.toNat : Int) < 48 by omega)]; rfl
         ·rw [decide_eq_true (show (57 : Int) < (d.toNat : Int) by omega), Bool.or_true]
        by_cases h8 : (d.toNat : Int) < 48
        ·clear hd ht hno hor hdg
         go_wp2_with fail
         go_ret
         exact ⟨by rw [HN.out]; rfl, rfl⟩
        ·have h9 : (57 : Int) < (d.toNat : Int) := by omega
         clear hd ht hno hor hdg
         go_wp2_with fail
         go_ret
         exact ⟨by rw [HN.out]; rfl, rfl⟩
      ·have hltz : ¬ (j : Int) < (s.length : Int) := by omega
       have ht : s.take j = s := List.take_of_length_le (by omega)
       rw [ht] at HU HA
       have HN := Lib.hid (numI_ok HM.out (by rw [HOK.out, HA.out]))
       go_wp2_with fail
       go_ret
       exact ⟨by rw [HN.out, HU.out]; rfl, rfl⟩

theorem Row.cases {base : Nat} {w : World} {v : Value} {l : List B} (h : Row base w v l) : (v = .slice none 0 0 ∧ l = []) ∨ ∃ g cap, v = .slice (some ⟨g, 0, none⟩) l.length cap := by
 rcases h.2 with ⟨h1, h2⟩ | ⟨g, cap, _, h1, _⟩
 ·exact .inl ⟨h1, by cases l with
   | nil => rfl
   | cons x l => simp at h2⟩
 ·exact .inr ⟨g, cap, h1⟩

end Go.Proofs.YtnmhaipjfpongacGreatDoor

/- Texts of this seat laid together for one claim: Q2, Q1, Q3, Q4, V2. No condition of its own: what each proves stands with its theorems. -/
import Derived.Lib.IndexBytes
import Derived.Lib.Split
import Derived.Test.YtnmhaipjfpongacGreatDoorSA0
import Derived.BigGuard
import Derived.BigQuiet
import Derived.Test.YtnmhaipjfpongacGreatDoorSA2
import Derived.Laws.AppendOwn
import Derived.Lib.ConvBytes
namespace Go.Proofs.YtnmhaipjfpongacGreatDoor

def headOn (c : UInt8) : List B → List B
 | [] => [[c]]
 | x :: xs => (c :: x) :: xs

def cut : B → List B
 | [] => [[]]
 | c :: r => if c = 47 then [] :: cut r else headOn c (cut r)

theorem cut_ne (s : B) : cut s ≠ [] := by
 cases s with
 | nil => simp [cut]
 | cons c r => unfold cut; split; simp; cases cut r <;> simp [headOn]

theorem cut_pos (s : B) : 0 < (cut s).length := List.length_pos_iff.2 (cut_ne s)

theorem cut_plain : ∀ (a : B), (47 : UInt8) ∉ a → cut a = [a]
 | [], _ => rfl
 | c :: r, h => by
  have hc : c ≠ 47 := fun e => h (by simp [e])
  rw [cut, if_neg hc, cut_plain r (fun e => h (List.mem_cons_of_mem _ e))]
  rfl

theorem cut_app : ∀ (a b : B), (47 : UInt8) ∉ a → cut (a ++ 47 :: b) = a :: cut b
 | [], b, _ => by simp [cut]
 | c :: r, b, h => by
  have hc : c ≠ 47 := fun e => h (by simp [e])
  rw [List.cons_append, cut, if_neg hc, cut_app r b (fun e => h (List.mem_cons_of_mem _ e))]
  rfl

def joinS (l : List B) : B := List.intercalate [47] l

theorem joinS_nil : joinS [] = [] := rfl
theorem joinS_one (x : B) : joinS [x] = x := by simp [joinS, List.intercalate]
theorem joinS_cons (x y : B) (l : List B) : joinS (x :: y :: l) = x ++ 47 :: joinS (y :: l) := by
 simp [joinS, List.intercalate, List.intersperse]
theorem joinS_cons_ne (x : B) {l : List B} (h : l ≠ []) : joinS (x :: l) = x ++ 47 :: joinS l := by
 cases l with
 | nil => exact absurd rfl h
 | cons y l => exact joinS_cons x y l

theorem join_cut : ∀ (s : B), joinS (cut s) = s
 | [] => by simp [cut, joinS_one]
 | c :: r => by
  have ih := join_cut r
  rw [cut]
  split
  ·rename_i hc
   rw [joinS_cons_ne [] (cut_ne r), ih, hc]; rfl
  ·cases hr : cut r with
   | nil => exact absurd hr (cut_ne r)
   | cons y ys =>
    rw [hr] at ih
    cases ys with
    | nil => rw [joinS_one] at ih; rw [headOn, joinS_one, ih]
    | cons z zs => rw [joinS_cons] at ih; rw [headOn, joinS_cons, List.cons_append, ih]

theorem joinS_len : ∀ (l : List B) (m : Nat), (∀ x ∈ l, x.length ≤ m) → (joinS l).length ≤ l.length * (m + 1)
 | [], _, _ => by simp [joinS_nil]
 | [x], m, h => by have := h x (.head _); rw [joinS_one]; simp; omega
 | x :: y :: l, m, h => by
  have h1 := h x (.head _)
  have h2 := joinS_len (y :: l) m (fun z hz => h z (.tail _ hz))
  rw [joinS_cons, List.length_append, List.length_cons]
  have : (x :: y :: l).length = (y :: l).length + 1 := rfl
  rw [this, Nat.add_mul]
  omega

theorem index_slash (s : B) : Lib.index s [47] = Lib.indexByte s 47 := Lib.index_one s 47

theorem splitK_cut : ∀ (k : Nat) (s : B), s.count 47 ≤ k → Lib.splitK [47] 0 k s = cut s
 | 0, s, h => by
  have : (47 : UInt8) ∉ s := by
   intro hm
   have := List.count_pos_iff.2 hm
   omega
  rw [cut_plain s this]; rfl
 | k + 1, s, h => by
  unfold Lib.splitK
  rw [index_slash]
  have hge := Lib.indexByte_ge s 47
  by_cases hm : Lib.indexByte s 47 = -1
  ·rw [if_pos (by rw [hm]; rfl)]
   have : (47 : UInt8) ∉ s := by
    intro hx
    obtain ⟨i, hi⟩ := List.getElem?_of_mem hx
    exact Lib.indexByte_none hm i hi
   rw [cut_plain s this]
  ·obtain ⟨o, ho⟩ := Int.eq_ofNat_of_zero_le (show 0 ≤ Lib.indexByte s 47 by omega)
   have ⟨h1, h2⟩ := Lib.indexByte_some ho
   rw [if_neg (by rw [ho]; simp), ho]
   have hlt : o < s.length := (List.getElem?_eq_some_iff.1 h1).1
   have hs : s = s.take o ++ 47 :: s.drop (o + 1) := by
    have := (List.take_append_drop o s).symm
    rw [List.drop_eq_getElem_cons hlt] at this
    have e : s[o] = 47 := by rw [List.getElem?_eq_getElem hlt] at h1; simpa using h1
    rw [e] at this
    exact this
   have hn : (47 : UInt8) ∉ s.take o := by
    intro hx
    obtain ⟨i, hi⟩ := List.getElem?_of_mem hx
    rw [List.getElem?_take] at hi
    split at hi
    ·rename_i hi2; exact h2 i hi2 hi
    ·cases hi
   have hc : (s.drop (o + 1)).count 47 ≤ k := by
    have e2 : s.count 47 = (s.take o ++ 47 :: s.drop (o + 1)).count 47 := by rw [← hs]
    rw [List.count_append, List.count_cons_self] at e2
    omega
   rw [show ((o : Int)).toNat = o from rfl]
   rw [Nat.add_zero, show ([47] : B).length = 1 from rfl, splitK_cut k _ hc]
   conv => rhs; rw [hs]
   rw [cut_app _ _ hn]

def isLet (n : Nat) : Bool := (decide (97 ≤ n) && decide (n ≤ 122)) || (decide (48 ≤ n) && decide (n ≤ 57)) || n == 45 || n == 46 || n == 95

def byteOk (stars : Bool) (c : UInt8) : Bool := isLet c.toNat || (stars && c == 42)
def nameOk (stars : Bool) (s : B) : Bool := s != [] && decide (s.length ≤ 12) && s != [46] && s != [46, 46] && s.all (byteOk stars)
def partsOk (stars : Bool) (l : List B) : Bool := decide (l.length ≤ 5) && l.all (nameOk stars)
def pathOk (s : B) : Bool := partsOk false (cut s)

theorem partsOk_len {st : Bool} {l : List B} (h : partsOk st l = true) : l.length ≤ 5 := by
 unfold partsOk at h; simp only [Bool.and_eq_true, decide_eq_true_eq] at h; exact h.1
theorem partsOk_all {st : Bool} {l : List B} (h : partsOk st l = true) : ∀ x ∈ l, nameOk st x = true := by
 unfold partsOk at h; simp only [Bool.and_eq_true, List.all_eq_true] at h; exact h.2
theorem partsOk_mk {st : Bool} {l : List B} (h : l.length ≤ 5) (h2 : ∀ x ∈ l, nameOk st x = true) : partsOk st l = true := by
 unfold partsOk; simp only [Bool.and_eq_true, decide_eq_true_eq, List.all_eq_true]; exact ⟨h, h2⟩

section
variable {α β : Type} {st : α → Bool} {eq : α → β → Bool}

end
end Go.Proofs.YtnmhaipjfpongacGreatDoor

namespace Go.Proofs.YtnmhaipjfpongacGreatDoor
open Go.ChangeShapes Go.WideShapes Go.ChangeAt Go.RowKit



set_option maxRecDepth 100000 in
set_option maxHeartbeats 1000000 in
theorem letter_a (w : World) (z : Int) (c0 : (decide (97 ≤ z) = true)) (c1 : (decide (z ≤ 122) = true)) : Calls Tryz.prog 288 #[.int .u8 z] w fun e w' => e = .returned (.bool true) ∧ w = w' := by
 go_enter Tryz.func288, Tryz.ntmps288
 go_wp2
 go_ret
 exact ⟨rfl, rfl⟩

set_option maxRecDepth 100000 in
set_option maxHeartbeats 1000000 in
theorem letter_b (w : World) (z : Int) (c0 : (decide (97 ≤ z) = true)) (c1 : (decide (z ≤ 122) = false)) (c2 : (decide (48 ≤ z) = true)) (c3 : (decide (z ≤ 57) = false)) (c4 : ((z == 45) = false)) (c5 : ((z == 46) = false)) (c6 : ((z == 95) = false)) : Calls Tryz.prog 288 #[.int .u8 z] w fun e w' => e = .returned (.bool false) ∧ w = w' := by
 go_enter Tryz.func288, Tryz.ntmps288
 go_wp2
 go_ret
 exact ⟨rfl, rfl⟩

set_option maxRecDepth 100000 in
set_option maxHeartbeats 1000000 in
theorem letter_c (w : World) (z : Int) (c0 : (decide (97 ≤ z) = false)) (c1 : (decide (48 ≤ z) = true)) (c2 : (decide (z ≤ 57) = true)) : Calls Tryz.prog 288 #[.int .u8 z] w fun e w' => e = .returned (.bool true) ∧ w = w' := by
 go_enter Tryz.func288, Tryz.ntmps288
 go_wp2
 go_ret
 exact ⟨rfl, rfl⟩

set_option maxRecDepth 100000 in
set_option maxHeartbeats 1000000 in
theorem letter_d (w : World) (z : Int) (c0 : (decide (97 ≤ z) = false)) (c1 : (decide (48 ≤ z) = true)) (c2 : (decide (z ≤ 57) = false)) (c3 : ((z == 45) = false)) (c4 : ((z == 46) = false)) (c5 : ((z == 95) = true)) : Calls Tryz.prog 288 #[.int .u8 z] w fun e w' => e = .returned (.bool true) ∧ w = w' := by
 go_enter Tryz.func288, Tryz.ntmps288
 go_wp2
 go_ret
 exact ⟨rfl, rfl⟩

set_option maxRecDepth 100000 in
set_option maxHeartbeats 1000000 in
theorem letter_e (w : World) (z : Int) (c0 : (decide (97 ≤ z) = false)) (c1 : (decide (48 ≤ z) = true)) (c2 : (decide (z ≤ 57) = false)) (c3 : ((z == 45) = false)) (c4 : ((z == 46) = false)) (c5 : ((z == 95) = false)) : Calls Tryz.prog 288 #[.int .u8 z] w fun e w' => e = .returned (.bool false) ∧ w = w' := by
 go_enter Tryz.func288, Tryz.ntmps288
 go_wp2
 go_ret
 exact ⟨rfl, rfl⟩

set_option maxRecDepth 100000 in
set_option maxHeartbeats 1000000 in
theorem letter_f (w : World) (z : Int) (c0 : (decide (97 ≤ z) = false)) (c1 : (decide (48 ≤ z) = false)) (c2 : ((z == 45) = true)) : Calls Tryz.prog 288 #[.int .u8 z] w fun e w' => e = .returned (.bool true) ∧ w = w' := by
 go_enter Tryz.func288, Tryz.ntmps288
 go_wp2
 go_ret
 exact ⟨rfl, rfl⟩

set_option maxRecDepth 100000 in
set_option maxHeartbeats 1000000 in
theorem letter_g (w : World) (z : Int) (c0 : (decide (97 ≤ z) = false)) (c1 : (decide (48 ≤ z) = false)) (c2 : ((z == 45) = false)) (c3 : ((z == 46) = true)) : Calls Tryz.prog 288 #[.int .u8 z] w fun e w' => e = .returned (.bool true) ∧ w = w' := by
 go_enter Tryz.func288, Tryz.ntmps288
 go_wp2
 go_ret
 exact ⟨rfl, rfl⟩

set_option maxRecDepth 100000 in
set_option maxHeartbeats 1000000 in
theorem letter_h (w : World) (z : Int) (c0 : (decide (97 ≤ z) = false)) (c1 : (decide (48 ≤ z) = false)) (c2 : ((z == 45) = false)) (c3 : ((z == 46) = false)) (c4 : ((z == 95) = false)) : Calls Tryz.prog 288 #[.int .u8 z] w fun e w' => e = .returned (.bool false) ∧ w = w' := by
 go_enter Tryz.func288, Tryz.ntmps288
 go_wp2
 go_ret
 exact ⟨rfl, rfl⟩

end Go.Proofs.YtnmhaipjfpongacGreatDoor

namespace Go.Proofs.YtnmhaipjfpongacGreatDoor
open Go.ChangeShapes Go.WideShapes Go.ChangeAt Go.RowKit

abbrev U8 (c : UInt8) : Value := .int .u8 c.toNat

theorem letter_any (w : World) (c : UInt8) : Calls Tryz.prog 288 #[U8 c] w fun e w' => e = .returned (.bool (isLet c.toNat)) ∧ w = w' := by
 have dt : ∀ {p : Prop} [Decidable p], p → decide p = true := fun h => decide_eq_true h
 have df : ∀ {p : Prop} [Decidable p], ¬ p → decide p = false := fun h => decide_eq_false h
 obtain ⟨n, hn⟩ : ∃ n, n = c.toNat := ⟨_, rfl⟩
 show Calls _ _ #[.int .u8 (c.toNat : Int)] _ _
 rw [← hn]
 by_cases a1 : 97 ≤ n
 ·by_cases a2 : n ≤ 122
  ·rw [show isLet n = true by simp [isLet]; omega]
   exact letter_a w n (dt (by omega)) (dt (by omega))
  ·rw [show isLet n = false by simp [isLet]; omega]
   exact letter_b w n (dt (by omega)) (df (by omega)) (dt (by omega)) (df (by omega)) (beq_eq_false_iff_ne.2 (by omega)) (beq_eq_false_iff_ne.2 (by omega)) (beq_eq_false_iff_ne.2 (by omega))
 ·by_cases a3 : 48 ≤ n
  ·by_cases a4 : n ≤ 57
   ·rw [show isLet n = true by simp [isLet]; omega]
    exact letter_c w n (df (by omega)) (dt (by omega)) (dt (by omega))
   ·by_cases a5 : n = 95
    ·rw [show isLet n = true by simp [isLet]; omega]
     exact letter_d w n (df (by omega)) (dt (by omega)) (df (by omega)) (beq_eq_false_iff_ne.2 (by omega)) (beq_eq_false_iff_ne.2 (by omega)) (beq_iff_eq.2 (by omega))
    ·rw [show isLet n = false by simp [isLet]; omega]
     exact letter_e w n (df (by omega)) (dt (by omega)) (df (by omega)) (beq_eq_false_iff_ne.2 (by omega)) (beq_eq_false_iff_ne.2 (by omega)) (beq_eq_false_iff_ne.2 (by omega))
  ·by_cases a4 : n = 45
   ·rw [show isLet n = true by simp [isLet]; omega]
    exact letter_f w n (df (by omega)) (df (by omega)) (beq_iff_eq.2 (by omega))
   ·by_cases a5 : n = 46
    ·rw [show isLet n = true by simp [isLet]; omega]
     exact letter_g w n (df (by omega)) (df (by omega)) (beq_eq_false_iff_ne.2 (by omega)) (beq_iff_eq.2 (by omega))
    ·rw [show isLet n = false by simp [isLet]; omega]
     exact letter_h w n (df (by omega)) (df (by omega)) (beq_eq_false_iff_ne.2 (by omega)) (beq_eq_false_iff_ne.2 (by omega)) (beq_eq_false_iff_ne.2 (by omega))

theorem name1_a (w : World) (b : Nat) (z : Int) (hl : Calls Tryz.prog 288 #[.int .u8 z] w fun e w' => e = .returned (.bool true) ∧ w = w') :
  Calls Tryz.prog 287 #[.int .u8 z, .pointer (some ⟨b, 0, none⟩)] w fun e w' => e = .returned (.bool false) ∧ w = w' := by
 have HL := Lib.hid hl
 clear hl
 go_enter Tryz.func287, Tryz.ntmps287
 go_wp2_with fail
 refine HL.out.mono ?_
 rintro e w' ⟨rfl, rfl⟩
 go_wp2
 go_ret
 exact ⟨rfl, rfl⟩

theorem name1_b (w : World) (b : Nat) (z : Int) (h : w.cell? ⟨b, 0, none⟩ = some (.bool false)) (hl : Calls Tryz.prog 288 #[.int .u8 z] w fun e w' => e = .returned (.bool false) ∧ w = w') :
  Calls Tryz.prog 287 #[.int .u8 z, .pointer (some ⟨b, 0, none⟩)] w fun e w' => e = .returned (.bool true) ∧ w = w' := by
 have HL := Lib.hid hl
 clear hl
 go_enter Tryz.func287, Tryz.ntmps287
 go_wp2_with fail
 refine HL.out.mono ?_
 rintro e w' ⟨rfl, rfl⟩
 go_wp2
 go_ret
 exact ⟨rfl, rfl⟩

theorem name1_c (w : World) (b : Nat) (z : Int) (h : w.cell? ⟨b, 0, none⟩ = some (.bool true)) (hz : (z == 42) = true) (hl : Calls Tryz.prog 288 #[.int .u8 z] w fun e w' => e = .returned (.bool false) ∧ w = w') :
  Calls Tryz.prog 287 #[.int .u8 z, .pointer (some ⟨b, 0, none⟩)] w fun e w' => e = .returned (.bool false) ∧ w = w' := by
 have HL := Lib.hid hl
 clear hl
 go_enter Tryz.func287, Tryz.ntmps287
 go_wp2_with fail
 refine HL.out.mono ?_
 rintro e w' ⟨rfl, rfl⟩
 go_wp2
 go_ret
 exact ⟨rfl, rfl⟩

theorem name1_d (w : World) (b : Nat) (z : Int) (h : w.cell? ⟨b, 0, none⟩ = some (.bool true)) (hz : (z == 42) = false) (hl : Calls Tryz.prog 288 #[.int .u8 z] w fun e w' => e = .returned (.bool false) ∧ w = w') :
  Calls Tryz.prog 287 #[.int .u8 z, .pointer (some ⟨b, 0, none⟩)] w fun e w' => e = .returned (.bool true) ∧ w = w' := by
 have HL := Lib.hid hl
 clear hl
 go_enter Tryz.func287, Tryz.ntmps287
 go_wp2_with fail
 refine HL.out.mono ?_
 rintro e w' ⟨rfl, rfl⟩
 go_wp2
 go_ret
 exact ⟨rfl, rfl⟩

theorem name1_any (w : World) (b : Nat) (st : Bool) (c : UInt8) (h : w.cell? ⟨b, 0, none⟩ = some (.bool st)) :
  Calls Tryz.prog 287 #[U8 c, .pointer (some ⟨b, 0, none⟩)] w fun e w' => e = .returned (.bool (!byteOk st c)) ∧ w = w' := by
 have hl := letter_any w c
 unfold byteOk
 cases hlt : isLet c.toNat with
 | true => rw [hlt] at hl; exact name1_a w b _ hl
 | false =>
  rw [hlt] at hl
  cases st with
  | false => exact name1_b w b _ h hl
  | true =>
   by_cases hc : c = 42
   ·subst hc; exact name1_c w b _ h (by decide) hl
   ·have : (c == 42) = false := beq_eq_false_iff_ne.2 hc
    rw [this]
    have hz : ((c.toNat : Int) == 42) = false := by
     refine beq_eq_false_iff_ne.2 fun e => hc ?_
     have e2 : c.toNat = (42 : UInt8).toNat := by rw [show (42 : UInt8).toNat = 42 from rfl]; omega
     exact UInt8.toNat_inj.1 e2
    exact name1_d w b _ h hz hl

def TestsB (g : Nat) (caps : Array Value) (p : UInt8 → Bool) (w : World) : Prop :=
 ∀ x, Calls Tryz.prog g (#[U8 x] ++ caps) w fun e w' => e = .returned (.bool (p x)) ∧ w = w'

set_option maxHeartbeats 400000 in
theorem indexFunc_b (g : Nat) (x0 : Value) (p : UInt8 → Bool) (w : World) (v : Value) (l : B) (hv : Rd U8 w v l) (eg : ∀ args w, (callFunc g args).run Tryz.prog w = .ok (.enter g args) w) (hp : TestsB g #[x0] p w) :
  Calls Tryz.prog 316 #[v, .func (.func g) #[] #[x0]] w fun e w' => (∃ r : Int, e = .returned (I r) ∧ (r ≥ 0 ↔ l.any p = true) ∧ -1 ≤ r) ∧ w = w' := by
 obtain ⟨a, cap, rfl, hcap, hm, hc⟩ := hv
 have hm' : l.length ≤ 9223372036854775807 := by unfold maxLen at hm; omega
 clear hm
 have HP := Lib.hid hp
 have HC := Lib.hid hc
 clear hp hc
 go_enter Tryz.func316, Tryz.ntmps316
 go_wp2
 go_loop [8] (fun i => ∃ k : Nat, k ≤ l.length ∧ i = .int .i64 k ∧ Hid (∀ j x, j < k → l[j]? = some x → p x = false)) (fun i => l.length + 1 - (intOf i).toNat)
 case atStart => exact ⟨0, Nat.zero_le _, rfl, Lib.hid (fun j x h => absurd h (Nat.not_lt_zero _))⟩
 case round =>
  obtain ⟨k, hk, rfl, HB⟩ := hrel
  by_cases hlt : k < l.length
  ·obtain ⟨b, off, rfl, hcell⟩ := HC.out (by intro h; rw [h] at hlt; simp at hlt)
   obtain ⟨x, hx⟩ : ∃ y, l[k]? = some y := ⟨_, List.getElem?_eq_getElem hlt⟩
   have hcl := hcell k x hx
   have hp1 := HP.out x
   have HX := Lib.hid hx
   clear hcell hx
   cases hq : p x with
   | false =>
    rw [hq] at hp1
    have HQ := Lib.hid hq
    have HP1 := Lib.hid hp1
    clear hq hp1
    go_wp2_with fail
    refine HP1.out.mono ?_
    rintro e w' ⟨rfl, rfl⟩
    go_wp2
    go_round
    case rel => exact ⟨k + 1, by omega, by go_num, Lib.hid (fun j y hj hy => by
     rcases Nat.lt_succ_iff_lt_or_eq.1 hj with h | rfl
     ·exact HB.out j y h hy
     ·rw [HX.out] at hy; cases hy; exact HQ.out)⟩
    case measure => simp [intOf]; omega
   | true =>
    rw [hq] at hp1
    have HQ := Lib.hid hq
    have HP1 := Lib.hid hp1
    clear hq hp1
    go_wp2_with fail
    refine HP1.out.mono ?_
    rintro e w' ⟨rfl, rfl⟩
    go_wp2
    go_ret
    exact ⟨⟨k, rfl, ⟨fun _ => List.any_eq_true.2 ⟨x, List.mem_of_getElem? HX.out, HQ.out⟩, fun _ => by omega⟩, by omega⟩, rfl⟩
  ·go_wp2
   go_ret
   refine ⟨⟨-1, rfl, ⟨fun h => by omega, fun h => ?_⟩, by omega⟩, rfl⟩
   obtain ⟨x, hx, hpx⟩ : ∃ x, x ∈ l ∧ p x = true := by simpa using h
   obtain ⟨i, hi⟩ := List.getElem?_of_mem hx
   have := HB.out i x (by have := (List.getElem?_eq_some_iff.1 hi).1; omega) hi
   rw [this] at hpx; cases hpx

theorem containsFunc_b (g : Nat) (x0 : Value) (p : UInt8 → Bool) (w : World) (v : Value) (l : B) (hv : Rd U8 w v l) (eg : ∀ args w, (callFunc g args).run Tryz.prog w = .ok (.enter g args) w) (hp : TestsB g #[x0] p w) :
  Calls Tryz.prog 286 #[v, .func (.func g) #[] #[x0]] w fun e w' => e = .returned (.bool (l.any p)) ∧ w = w' := by
 have hi := indexFunc_b g x0 p w v l hv eg hp
 obtain ⟨a, cap, rfl, hcap, hm, hc⟩ := hv
 obtain ⟨r0, hr0⟩ : ∃ r0, r0 = l.any p := ⟨_, rfl⟩
 rw [← hr0] at hi ⊢
 have HI := Lib.hid hi
 clear hi hc hp hm hr0 eg
 go_enter Tryz.func286, Tryz.ntmps286
 go_wp2_with fail
 refine HI.out.mono ?_
 rintro e w' ⟨⟨r, rfl, hr, hr1⟩, rfl⟩
 cases r0 with
 | true =>
  have h0 : 0 ≤ r := hr.2 rfl
  clear hr
  go_wp2
  go_ret
  exact ⟨rfl, rfl⟩
 | false =>
  have h0 : ¬ 0 ≤ r := fun h => by cases hr.1 h
  clear hr
  go_wp2
  go_ret
  exact ⟨by show Ending.returned (.bool (decide (0 ≤ r))) = _; rw [decide_eq_false (show ¬ 0 ≤ r by omega)], rfl⟩
end Go.Proofs.YtnmhaipjfpongacGreatDoor

namespace Go.Proofs.YtnmhaipjfpongacGreatDoor
open Go.ChangeShapes Go.WideShapes Go.ChangeAt Go.RowKit
open Go.MapKept (heap_alloc)

theorem enters_name1 : ∀ args w, (callFunc 287 args).run Tryz.prog w = .ok (.enter 287 args) w := fun args w => by kernel_rfl

theorem rd_bytes (w : World) (e : TypeId) (s : B) (h : s.length ≤ maxLen) : Rd U8 (Lib.bytesWorld w e ⟨s.toArray⟩) (.slice (some ⟨w.heap.size, 0, none⟩) s.length (grownCap w s.length 0 e)) s := by
 refine ⟨_, _, rfl, grownCap_ge w _ _ _, grownCap_le_maxLen w _ _ _ h, fun _ => ⟨w.heap.size, 0, rfl, fun i x hx => ?_⟩⟩
 have hi : i < s.length := (List.getElem?_eq_some_iff.1 hx).1
 have h1 := Lib.bytesWorld_cell w e ⟨s.toArray⟩ i (by simpa [ByteArray.size] using hi)
 rw [Nat.zero_add, h1]
 simp [List.getD, hx]

theorem ext_bytes (w : World) (e : TypeId) (s : ByteArray) : Ext w (Lib.bytesWorld w e s) :=
 ⟨rfl, rfl, rfl, by rw [Lib.bytesWorld_size]; omega, fun k hk _ => Lib.bytesWorld_at_old w e s k hk⟩

set_option maxRecDepth 100000 in
set_option maxHeartbeats 1000000 in
theorem name_a (w : World) (st : Bool) : Calls Tryz.prog 230 #[S [], .bool st] w fun e w' => e = .returned (.bool false) ∧ Ext w w' := by
 go_enter Tryz.func230, Tryz.ntmps230
 go_wp2_with fail
 go_ret
 exact ⟨rfl, Only.alloc _ _ _⟩

set_option maxRecDepth 100000 in
set_option maxHeartbeats 1000000 in
theorem name_b (w : World) (st : Bool) (s : B) (h0 : (s == []) = false) (h1 : (decide ((s.length : Int) ≤ 12)) = false) : Calls Tryz.prog 230 #[S s, .bool st] w fun e w' => e = .returned (.bool false) ∧ Ext w w' := by
 go_enter Tryz.func230, Tryz.ntmps230
 go_wp2_with fail
 go_ret
 exact ⟨rfl, Only.alloc _ _ _⟩

set_option maxRecDepth 100000 in
set_option maxHeartbeats 1000000 in
theorem name_c (w : World) (st : Bool) (s : B) (h0 : (s == []) = false) (h1 : (decide ((s.length : Int) ≤ 12)) = true) (h2 : (s == [46]) = true) : Calls Tryz.prog 230 #[S s, .bool st] w fun e w' => e = .returned (.bool false) ∧ Ext w w' := by
 go_enter Tryz.func230, Tryz.ntmps230
 go_wp2_with fail
 go_ret
 exact ⟨rfl, Only.alloc _ _ _⟩

set_option maxRecDepth 100000 in
set_option maxHeartbeats 1000000 in
theorem name_d (w : World) (st : Bool) (s : B) (h0 : (s == []) = false) (h1 : (decide ((s.length : Int) ≤ 12)) = true) (h2 : (s == [46]) = false) (h3 : (s == [46, 46]) = true) : Calls Tryz.prog 230 #[S s, .bool st] w fun e w' => e = .returned (.bool false) ∧ Ext w w' := by
 go_enter Tryz.func230, Tryz.ntmps230
 go_wp2_with fail
 go_ret
 exact ⟨rfl, Only.alloc _ _ _⟩

set_option maxRecDepth 100000 in
set_option maxHeartbeats 1000000 in
theorem name_e (w : World) (st : Bool) (s : B) (h0 : (s == []) = false) (h1 : (decide ((s.length : Int) ≤ 12)) = true) (h2 : (s == [46]) = false) (h3 : (s == [46, 46]) = false) : Calls Tryz.prog 230 #[S s, .bool st] w fun e w' => e = .returned (.bool (s.all (byteOk st))) ∧ Ext w w' := by
 have hlen : s.length ≤ 12 := by have := of_decide_eq_true h1; omega
 obtain ⟨r, hr⟩ : ∃ r, r = s.all (byteOk st) := ⟨_, rfl⟩
 rw [← hr]
 have hconv : ∀ w1 : World, (convert 9 167 (.string ⟨s.toArray⟩)).run Tryz.prog w1 = .ok (.slice (some ⟨w1.heap.size, 0, none⟩) s.length (grownCap w1 s.length 0 5)) (Lib.bytesWorld w1 5 ⟨s.toArray⟩) := fun w1 => by
  have h := Lib.run_convert_string_bytes (P := Tryz.prog) w1 9 167 5 ⟨s.toArray⟩ Tryz.underlying9 Tryz.underlying167 Tryz.underlying5
  simpa [ByteArray.size] using h
 have hcell : (w.alloc (.cells #[.bool st] 4)).cell? ⟨w.heap.size, 0, none⟩ = some (.bool st) := (cell_of_heap (heap_alloc w _).1 0).trans rfl
 have hw1 : Ext w (w.alloc (.cells #[.bool st] 4)) := Only.alloc _ _ _
 have hsz : (w.alloc (.cells #[.bool st] 4)).heap.size = w.heap.size + 1 := by simp
 obtain ⟨w1, hW⟩ : ∃ w1, w.alloc (.cells #[.bool st] 4) = w1 := ⟨_, rfl⟩
 have hcall := containsFunc_b 287 (.pointer (some ⟨w.heap.size, 0, none⟩)) (fun c => !byteOk st c) (Lib.bytesWorld w1 5 ⟨s.toArray⟩) _ s (rd_bytes w1 5 s (by unfold maxLen; omega)) enters_name1
  (fun x => name1_any _ _ st x (by rw [← hW]; exact (ext_bytes _ _ _).cellOf hcell (fun h => h)))
 have hany : (s.any fun c => !byteOk st c) = !r := by rw [hr, List.all_eq_not_any_not]; simp
 rw [hany] at hcall
 have hx2 : Ext w (Lib.bytesWorld w1 5 ⟨s.toArray⟩) := by rw [← hW]; exact hw1.ext (ext_bytes _ _ _)
 have HC := Lib.hid hcall
 have HX := Lib.hid hx2
 have HCV := hconv w1
 clear hcall hx2 hany hr hconv hcell hw1 hsz hlen
 go_enter Tryz.func230, Tryz.ntmps230
 go_wp2_with fail

 refine HC.out.mono ?_
 rintro e w' ⟨rfl, rfl⟩
 go_wp2_with fail
 go_ret
 exact ⟨by simp, HX.out⟩

theorem name_any (w : World) (st : Bool) (s : B) : Calls Tryz.prog 230 #[S s, .bool st] w fun e w' => e = .returned (.bool (nameOk st s)) ∧ Ext w w' := by
 by_cases h0 : s = []
 ·subst h0; exact name_a w st
 have h0' : (s == []) = false := beq_eq_false_iff_ne.2 h0
 by_cases h1 : s.length ≤ 12
 ·have h1' : (decide ((s.length : Int) ≤ 12)) = true := decide_eq_true (by omega)
  by_cases h2 : s = [46]
  ·have : nameOk st s = false := by rw [h2]; simp [nameOk]
   rw [this]; exact name_c w st s h0' h1' (beq_iff_eq.2 h2)
  have h2' : (s == [46]) = false := beq_eq_false_iff_ne.2 h2
  by_cases h3 : s = [46, 46]
  ·have : nameOk st s = false := by rw [h3]; simp [nameOk]
   rw [this]; exact name_d w st s h0' h1' h2' (beq_iff_eq.2 h3)
  have h3' : (s == [46, 46]) = false := beq_eq_false_iff_ne.2 h3
  have : nameOk st s = s.all (byteOk st) := by
   unfold nameOk
   simp only [bne, h0', h2', h3', decide_eq_true h1, Bool.not_false, Bool.true_and]
  rw [this]
  exact name_e w st s h0' h1' h2' h3'
 ·have : nameOk st s = false := by unfold nameOk; simp [h1]
  rw [this]
  exact name_b w st s h0' (decide_eq_false (by omega))
end Go.Proofs.YtnmhaipjfpongacGreatDoor

namespace Go.Proofs.YtnmhaipjfpongacGreatDoor

abbrev FL := List (B × B)

def aboveB (a b : B) : Bool := (a ++ [47]).isPrefixOf b
def clash (L : FL) (p : B) : Bool := L.any fun q => aboveB p q.1 || aboveB q.1 p
def Rising (L : FL) : Prop := L.Pairwise fun x y => x.1 < y.1

def insT (L : FL) (p x : B) : FL := L.takeWhile (fun q => decide (q.1 < p)) ++ (p, x) :: L.dropWhile (fun q => decide (q.1 < p))
def chg (p x : B) (q : B × B) : B × B := if q.1 == p then (p, x) else q
def setT (L : FL) (p x : B) : FL := if (L.lookup p).isSome then L.map (chg p x) else insT L p x
def putCode (L : FL) (p x : B) : Nat :=
 if pathOk p then if 2000 < x.length then 2 else if clash L p then 7 else if (L.lookup p).isNone && decide (60 ≤ L.length) then 8 else 0 else 4
def putT (L : FL) (p x : B) : FL := if putCode L p x = 0 then setT L p x else L
def delT (L : FL) (p : B) : FL := L.filter (fun q => !(q.1 == p))

theorem ltB_irrefl (a : B) : ¬ a < a := List.lt_irrefl a
theorem ltB_trans {a b c : B} (h : a < b) (k : b < c) : a < c := List.lt_trans h k
theorem ltB_asymm {a b : B} (h : a < b) : ¬ b < a := fun k => ltB_irrefl _ (ltB_trans h k)
theorem ltB_tri {a b : B} (h : ¬ a < b) (k : ¬ b < a) : a = b := List.le_antisymm (List.not_lt.1 k) (List.not_lt.1 h)
theorem leB_iff {a b : B} : a ≤ b ↔ ¬ b < a := List.not_lt.symm

theorem Rising.nodup {L : FL} (h : Rising L) : (L.map (·.1)).Nodup := by
 rw [List.nodup_iff_pairwise_ne, List.pairwise_map]
 refine List.Pairwise.imp ?_ h
 intro a b hlt e
 rw [e] at hlt
 exact ltB_irrefl _ hlt

theorem Rising.nil : Rising [] := List.Pairwise.nil
theorem Rising.del {L : FL} (h : Rising L) (p : B) : Rising (delT L p) := List.Pairwise.filter _ h

theorem chg_fst (p x : B) (q : B × B) : (chg p x q).1 = q.1 := by
 unfold chg
 split
 ·rename_i h; exact (beq_iff_eq.1 h).symm
 ·rfl

theorem map_chg_fst (L : FL) (p x : B) : (L.map (chg p x)).map (·.1) = L.map (·.1) := by
 rw [List.map_map]
 exact List.map_congr_left fun q _ => chg_fst p x q

theorem Rising.iff {L : FL} : Rising L ↔ (L.map (·.1)).Pairwise (· < ·) := (List.pairwise_map).symm

theorem lookup_none {L : FL} {p : B} (h : L.lookup p = none) : ∀ q ∈ L, q.1 ≠ p := fun q hq e => not_mem_of_lookup h (List.mem_map.2 ⟨q, hq, e⟩)

theorem Rising.ins {L : FL} (h : Rising L) {p : B} (x : B) (hp : L.lookup p = none) : Rising (insT L p x) := by
 have hne := lookup_none hp
 clear hp
 induction L with
 | nil => exact List.pairwise_singleton _ _
 | cons q L ih =>
  have h1 := List.pairwise_cons.1 h
  unfold insT
  by_cases hq : q.1 < p
  ·rw [List.takeWhile_cons_of_pos (by simpa using hq), List.dropWhile_cons_of_pos (by simpa using hq)]
   have := ih h1.2 fun r hr => hne r (.tail _ hr)
   refine List.pairwise_cons.2 ⟨fun r hr => ?_, this⟩
   rcases List.mem_append.1 hr with hr | hr
   ·exact h1.1 r (List.takeWhile_sublist _ |>.mem hr)
   ·rcases List.mem_cons.1 hr with rfl | hr
    ·exact hq
    ·exact h1.1 r (List.dropWhile_sublist _ |>.mem hr)
  ·rw [List.takeWhile_cons_of_neg (by simpa using hq), List.dropWhile_cons_of_neg (by simpa using hq)]
   have hlt : p < q.1 := by
    by_cases hl : p < q.1
    ·exact hl
    ·exact absurd (ltB_tri hq hl) (hne q (.head _))
   refine List.pairwise_cons.2 ⟨fun r hr => ?_, h⟩
   rcases List.mem_cons.1 hr with rfl | hr
   ·exact hlt
   ·exact ltB_trans hlt (h1.1 r hr)

theorem Rising.set {L : FL} (h : Rising L) (p x : B) : Rising (setT L p x) := by
 unfold setT
 cases hl : L.lookup p with
 | some y => rw [if_pos (by simp), Rising.iff, map_chg_fst, ← Rising.iff]; exact h
 | none => rw [if_neg (by simp)]; exact h.ins x hl

theorem Rising.put {L : FL} (h : Rising L) (p x : B) : Rising (putT L p x) := by
 unfold putT
 split
 ·exact h.set p x
 ·exact h

theorem filter_chg (L : FL) (p x : B) : (L.map (chg p x)).filter (fun q => !(q.1 == p)) = L.filter (fun q => !(q.1 == p)) := by
 induction L with
 | nil => rfl
 | cons q L ih =>
  by_cases hq : q.1 = p
  ·rw [List.map_cons, List.filter_cons_of_neg (by rw [chg_fst]; simpa using hq), List.filter_cons_of_neg (by simpa using hq), ih]
  ·rw [List.map_cons, List.filter_cons_of_pos (by rw [chg_fst]; simpa using hq), List.filter_cons_of_pos (by simpa using hq), ih]
   have : chg p x q = q := by unfold chg; rw [if_neg (by simpa using hq)]
   rw [this]

theorem lookup_chg {L : FL} {p : B} (x : B) {y : B} (h : L.lookup p = some y) : (L.map (chg p x)).lookup p = some x := by
 induction L with
 | nil => cases h
 | cons q L ih =>
  obtain ⟨k, z⟩ := q
  by_cases hq : k = p
  ·subst hq
   have : chg k x (k, z) = (k, x) := by unfold chg; rw [if_pos (by simp)]
   rw [List.map_cons, this]; simp [List.lookup]
  ·have hq' : (p == k) = false := beq_eq_false_iff_ne.2 (Ne.symm hq)
   have : chg p x (k, z) = (k, z) := by unfold chg; rw [if_neg (by simpa using hq)]
   rw [List.map_cons, this]
   simp only [List.lookup, hq'] at h ⊢
   exact ih h

theorem set_perm {L : FL} (h : Rising L) (p x : B) : ((p, x) :: delT L p).Perm (setT L p x) := by
 unfold setT
 cases hl : L.lookup p with
 | some y =>
  rw [if_pos (by simp)]
  have hn : ((L.map (chg p x)).map (·.1)).Nodup := by rw [map_chg_fst]; exact h.nodup
  have := perm_of_lookup hn (lookup_chg x hl)
  rw [filter_chg] at this
  exact this.symm
 | none =>
  rw [if_neg (by simp)]
  unfold delT insT
  rw [filter_of_lookup_none hl]
  have := (List.perm_middle (a := (p, x)) (l₁ := L.takeWhile fun q => decide (q.1 < p)) (l₂ := L.dropWhile fun q => decide (q.1 < p))).symm
  rw [List.takeWhile_append_dropWhile] at this
  exact this

theorem sorted_keys {L : FL} (h : Rising L) {ss : List B} (hp : ss.Perm (L.map (·.1))) : ss.mergeSort (fun x y => decide (x ≤ y)) = L.map (·.1) := by
 have hs : (ss.mergeSort (fun x y => decide (x ≤ y))).Pairwise (fun x y => decide (x ≤ y) = true) := List.pairwise_mergeSort (fun a b c h1 h2 => by
  have h1 : a ≤ b := of_decide_eq_true h1
  have h2 : b ≤ c := of_decide_eq_true h2
  exact decide_eq_true (List.le_trans h1 h2)) (fun a b => by
  rcases List.le_total a b with h | h
  ·simp [decide_eq_true h]
  ·simp [decide_eq_true h]) _
 have hk : (L.map (·.1)).Pairwise (fun x y => decide (x ≤ y) = true) := by
  have := Rising.iff.1 h
  exact this.imp fun hlt => decide_eq_true (leB_iff.2 (ltB_asymm hlt))
 refine List.Perm.eq_of_pairwise (fun a b _ _ h1 h2 => ?_) hs hk ((List.mergeSort_perm _ _).trans hp)
 exact List.le_antisymm (of_decide_eq_true h1) (of_decide_eq_true h2)

theorem length_ins (L : FL) (p x : B) : (insT L p x).length = L.length + 1 := by
 have := congrArg List.length (List.takeWhile_append_dropWhile (p := fun q : B × B => decide (q.1 < p)) (l := L))
 unfold insT
 simp only [List.length_append, List.length_cons] at this ⊢
 omega

theorem length_del (L : FL) (p : B) : (delT L p).length ≤ L.length := List.length_filter_le _ _

structure Fits (L : FL) : Prop where
 rising : Rising L
 few : L.length ≤ 60
 path : ∀ q ∈ L, pathOk q.1 = true
 bytes : ∀ q ∈ L, q.2.length ≤ 2000

theorem Fits.nil : Fits [] := ⟨Rising.nil, by simp, by simp, by simp⟩
theorem Fits.del {L : FL} (h : Fits L) (p : B) : Fits (delT L p) :=
 ⟨h.rising.del p, Nat.le_trans (length_del L p) h.few, fun q hq => h.path q (List.mem_filter.1 hq).1, fun q hq => h.bytes q (List.mem_filter.1 hq).1⟩

theorem mem_set {L : FL} (h : Rising L) {p x : B} {q : B × B} (hq : q ∈ setT L p x) : q = (p, x) ∨ q ∈ L := by
 rcases List.mem_cons.1 ((set_perm h p x).mem_iff.2 hq) with h | h
 ·exact .inl h
 ·exact .inr (List.mem_filter.1 h).1

theorem Fits.put {L : FL} (h : Fits L) (p x : B) : Fits (putT L p x) := by
  refine ⟨h.rising.put p x, ?_, ?_, ?_⟩
  all_goals
    unfold putT
    by_cases h0 : putCode L p x = 0
    · rw [if_pos h0]
      unfold putCode at h0
      by_cases h1 : pathOk p = true
      · rw [if_pos h1] at h0
        by_cases h2 : 2000 < x.length
        · rw [if_pos h2] at h0; omega
        · rw [if_neg h2] at h0
          by_cases h3 : clash L p = true
          · rw [if_pos h3] at h0; omega
          · rw [if_neg h3] at h0
            by_cases h4 : ((L.lookup p).isNone && decide (60 ≤ L.length)) = true
            · rw [if_pos h4] at h0; omega
            · first
                | (unfold setT
                   cases hl : L.lookup p with
                   | some y => rw [if_pos (by simp)]; simpa using h.few
                   | none =>
                     rw [hl] at h4
                     rw [if_neg (by simp), length_ins]
                     simp at h4
                     omega)
                | (intro q hq
                   rcases mem_set h.rising hq with rfl | hq
                   · first | exact h1 | (show x.length ≤ 2000; omega)
                   · first | exact h.path q hq | exact h.bytes q hq)
      · rw [if_neg h1] at h0; omega
    · rw [if_neg h0]
      first | exact h.few | exact h.path | exact h.bytes
end Go.Proofs.YtnmhaipjfpongacGreatDoor

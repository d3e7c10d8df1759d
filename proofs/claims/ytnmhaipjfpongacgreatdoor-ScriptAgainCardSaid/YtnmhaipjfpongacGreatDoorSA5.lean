/- Texts of this seat laid together for one claim: U1, E4, B1, W1, D1, Y1, Y2, Y3, Y6. No condition of its own: what each proves stands with its theorems. -/
import Derived.Lib.IndexMore
import Derived.Test.YtnmhaipjfpongacGreatDoorSA4
import Derived.Deep.LoopGhost
import Derived.WalkLawsBesides
import Derived.WalkSpells
import Derived.Lib.AppendIntMem
import Derived.Lib.ItoaLen
import Derived.Lib.SmallJoins
import Derived.Test.YtnmhaipjfpongacGreatDoorSA1
import Derived.IntWalk
import Derived.Lib.AtoiAllCases
import Derived.Laws.BytesString
import Derived.Laws.IdiomStrings
import Derived.Maps.AppendAt
import Derived.Test.YtnmhaipjfpongacGreatDoorSA2
namespace Go.Proofs.YtnmhaipjfpongacGreatDoor
open Go.ChangeShapes Go.WideShapes Go.ChangeAt Go.RowKit

def cutc (d : UInt8) : B → List B
 | [] => [[]]
 | c :: r => if c = d then [] :: cutc d r else headOn c (cutc d r)

theorem cutc_ne (d : UInt8) (s : B) : cutc d s ≠ [] := by
 cases s with
 | nil => simp [cutc]
 | cons c r => unfold cutc; split; simp; cases cutc d r <;> simp [headOn]

theorem cutc_pos (d : UInt8) (s : B) : 0 < (cutc d s).length := List.length_pos_iff.2 (cutc_ne d s)

theorem cutc_plain (d : UInt8) : ∀ (a : B), (d : UInt8) ∉ a → cutc d a = [a]
 | [], _ => rfl
 | c :: r, h => by
  have hc : c ≠ d := fun e => h (by simp [e])
  rw [cutc, if_neg hc, cutc_plain d r (fun e => h (List.mem_cons_of_mem _ e))]
  rfl

theorem cutc_app (d : UInt8) : ∀ (a b : B), (d : UInt8) ∉ a → cutc d (a ++ d :: b) = a :: cutc d b
 | [], b, _ => by simp [cutc]
 | c :: r, b, h => by
  have hc : c ≠ d := fun e => h (by simp [e])
  rw [List.cons_append, cutc, if_neg hc, cutc_app d r b (fun e => h (List.mem_cons_of_mem _ e))]
  rfl

theorem cutc_app_any (d : UInt8) : ∀ (a b : B), cutc d (a ++ d :: b) = cutc d a ++ cutc d b
 | [], b => by simp [cutc]
 | c :: r, b => by
  rw [List.cons_append, cutc, cutc, cutc_app_any d r b]
  split
  ·rfl
  ·cases h : cutc d r with
   | nil => exact absurd h (cutc_ne d r)
   | cons x xs => rfl

def joinc (d : UInt8) (l : List B) : B := List.intercalate [d] l

theorem joinc_one (d : UInt8) (x : B) : joinc d [x] = x := by simp [joinc, List.intercalate]
theorem joinc_cons (d : UInt8) (x y : B) (l : List B) : joinc d (x :: y :: l) = x ++ d :: joinc d (y :: l) := by
 simp [joinc, List.intercalate, List.intersperse]
theorem joinc_cons_ne (d : UInt8) (x : B) {l : List B} (h : l ≠ []) : joinc d (x :: l) = x ++ d :: joinc d l := by
 cases l with
 | nil => exact absurd rfl h
 | cons y l => exact joinc_cons d x y l

theorem join_cut_c (d : UInt8) : ∀ (s : B), joinc d (cutc d s) = s
 | [] => by simp [cutc, joinc_one d]
 | c :: r => by
  have ih := join_cut_c d r
  rw [cutc]
  split
  ·rename_i hc
   rw [joinc_cons_ne d [] (cutc_ne d r), ih, hc]; rfl
  ·cases hr : cutc d r with
   | nil => exact absurd hr (cutc_ne d r)
   | cons y ys =>
    rw [hr] at ih
    cases ys with
    | nil => rw [joinc_one d] at ih; rw [headOn, joinc_one d, ih]
    | cons z zs => rw [joinc_cons d] at ih; rw [headOn, joinc_cons d, List.cons_append, ih]

theorem index_slash_c (d : UInt8) (s : B) : Lib.index s [d] = Lib.indexByte s d := Lib.index_one s d

theorem splitK_cut_c (d : UInt8) : ∀ (k : Nat) (s : B), s.count d ≤ k → Lib.splitK [d] 0 k s = cutc d s
 | 0, s, h => by
  have : (d : UInt8) ∉ s := by
   intro hm
   have := List.count_pos_iff.2 hm
   omega
  rw [cutc_plain d s this]; rfl
 | k + 1, s, h => by
  unfold Lib.splitK
  rw [index_slash_c d]
  have hge := Lib.indexByte_ge s d
  by_cases hm : Lib.indexByte s d = -1
  ·rw [if_pos (by rw [hm]; rfl)]
   have : (d : UInt8) ∉ s := by
    intro hx
    obtain ⟨i, hi⟩ := List.getElem?_of_mem hx
    exact Lib.indexByte_none hm i hi
   rw [cutc_plain d s this]
  ·obtain ⟨o, ho⟩ := Int.eq_ofNat_of_zero_le (show 0 ≤ Lib.indexByte s d by omega)
   have ⟨h1, h2⟩ := Lib.indexByte_some ho
   rw [if_neg (by rw [ho]; simp), ho]
   have hlt : o < s.length := (List.getElem?_eq_some_iff.1 h1).1
   have hs : s = s.take o ++ d :: s.drop (o + 1) := by
    have := (List.take_append_drop o s).symm
    rw [List.drop_eq_getElem_cons hlt] at this
    have e : s[o] = d := by rw [List.getElem?_eq_getElem hlt] at h1; simpa using h1
    rw [e] at this
    exact this
   have hn : (d : UInt8) ∉ s.take o := by
    intro hx
    obtain ⟨i, hi⟩ := List.getElem?_of_mem hx
    rw [List.getElem?_take] at hi
    split at hi
    ·rename_i hi2; exact h2 i hi2 hi
    ·cases hi
   have hc : (s.drop (o + 1)).count d ≤ k := by
    have e2 : s.count d = (s.take o ++ d :: s.drop (o + 1)).count d := by rw [← hs]
    rw [List.count_append, List.count_cons_self] at e2
    omega
   rw [show ((o : Int)).toNat = o from rfl]
   rw [Nat.add_zero, show ([d] : B).length = 1 from rfl, splitK_cut_c d k _ hc]
   conv => rhs; rw [hs]
   rw [cutc_app d _ _ hn]


theorem first_slash_c (d : UInt8) (s : B) : (Lib.index s [d] = -1 ∧ (d : UInt8) ∉ s) ∨ ∃ o : Nat, Lib.index s [d] = o ∧ o < s.length ∧ s = s.take o ++ d :: s.drop (o + 1) ∧ (d : UInt8) ∉ s.take o := by
 rw [index_slash_c d]
 have hge := Lib.indexByte_ge s d
 by_cases hm : Lib.indexByte s d = -1
 ·left
  refine ⟨hm, fun hx => ?_⟩
  obtain ⟨i, hi⟩ := List.getElem?_of_mem hx
  exact Lib.indexByte_none hm i hi
 ·right
  obtain ⟨o, ho⟩ := Int.eq_ofNat_of_zero_le (show 0 ≤ Lib.indexByte s d by omega)
  have ⟨h1, h2⟩ := Lib.indexByte_some ho
  have hlt : o < s.length := (List.getElem?_eq_some_iff.1 h1).1
  refine ⟨o, ho, hlt, ?_, ?_⟩
  ·have := (List.take_append_drop o s).symm
   rw [List.drop_eq_getElem_cons hlt] at this
   have e : s[o] = d := by rw [List.getElem?_eq_getElem hlt] at h1; simpa using h1
   rw [e] at this
   exact this
  ·intro hx
   obtain ⟨i, hi⟩ := List.getElem?_of_mem hx
   rw [List.getElem?_take] at hi
   split at hi
   ·rename_i hi2; exact h2 i hi2 hi
   ·cases hi

theorem count_slash_c (d : UInt8) : ∀ (n : Nat) (s : B), s.length ≤ n → Lib.count s [d] = s.count d
 | n, s, hn => by
  rcases first_slash_c d s with ⟨h, hm⟩ | ⟨o, ho, hlt, hs, hm⟩
  ·rw [Lib.count_miss h, List.count_eq_zero.2 hm]
  ·rw [Lib.count_hit (by simp) ho]
   cases n with
   | zero => omega
   | succ n =>
    have ih := count_slash_c d n (s.drop (o + 1)) (by simp; omega)
    rw [show o + ([d] : B).length = o + 1 from rfl, ih]
    conv => rhs; rw [hs]
    rw [List.count_append, List.count_cons_self, List.count_eq_zero.2 hm]
    omega

theorem cutc_length (d : UInt8) : ∀ (s : B), (cutc d s).length = s.count d + 1
 | [] => rfl
 | c :: r => by
  have ih := cutc_length d r
  rw [cutc]
  split
  ·rename_i hc; subst hc; simp [ih]
  ·rename_i hc
   cases hr : cutc d r with
   | nil => exact absurd hr (cutc_ne d r)
   | cons x xs =>
    rw [hr] at ih
    have hc2 : (c == d) = false := beq_eq_false_iff_ne.2 hc
    simp only [headOn, List.length_cons, List.count_cons, hc2] at ih ⊢
    simpa using ih

theorem splitB_cut_c (d : UInt8) (s : B) : (Lib.splitB ⟨#[d]⟩ 0 (Lib.countB ⟨s.toArray⟩ ⟨#[d]⟩) ⟨s.toArray⟩).map Value.string = (cutc d s).map S := by
 have h1 := Lib.splitB_data ⟨#[d]⟩ 0 (Lib.countB ⟨s.toArray⟩ ⟨#[d]⟩) ⟨s.toArray⟩
 have hc : Lib.countB ⟨s.toArray⟩ ⟨#[d]⟩ = s.count d := count_slash_c d s.length s (Nat.le_refl _)
 rw [hc] at h1 ⊢
 have h2 : (Lib.splitB ⟨#[d]⟩ 0 (s.count d) ⟨s.toArray⟩).map (·.data.toList) = cutc d s := by
  rw [h1]; exact splitK_cut_c d _ s (Nat.le_refl _)
 rw [← h2, List.map_map]
 rfl

theorem cutc_len_le (d : UInt8) (s : B) : (cutc d s).length ≤ s.length + 1 := by rw [cutc_length d]; have := List.count_le_length (a := (d : UInt8)) (l := s); omega

theorem splitC_any (w : World) (d : UInt8) (s : B) (hs : s.length ≤ 1000000) (hm : HasMax w) :
  Calls Tryz.prog 207 #[S s, .string ⟨#[d]⟩] w fun e w' => e = .returned (.slice (some ⟨w.heap.size, 0, none⟩) (cutc d s).length (cutc d s).length) ∧ w' = w.alloc (.cells ((cutc d s).map S).toArray 9) := by
 obtain ⟨m, hm⟩ := hm
 refine (Tryz.strings_Split ⟨s.toArray⟩ ⟨#[d]⟩ m w (by simp [ByteArray.size]; omega) hm (by simp [ByteArray.size])).mono ?_
 rintro e w' ⟨rfl, rfl⟩
 rw [splitB_cut_c, show Lib.countB ⟨s.toArray⟩ ⟨#[d]⟩ = s.count d from count_slash_c d s.length s (Nat.le_refl _), cutc_length]
 exact ⟨rfl, rfl⟩

def cut1 (d : UInt8) : B → B × B × Bool
 | [] => ([], [], false)
 | c :: r => if c = d then ([], r, true) else (c :: (cut1 d r).1, (cut1 d r).2.1, (cut1 d r).2.2)

theorem cut1_hit (d : UInt8) : ∀ (a b : B), d ∉ a → cut1 d (a ++ d :: b) = (a, b, true)
 | [], b, _ => by simp [cut1]
 | c :: r, b, h => by
  have hc : c ≠ d := fun e => h (by simp [e])
  rw [List.cons_append, cut1, if_neg hc, cut1_hit d r b (fun e => h (List.mem_cons_of_mem _ e))]

theorem cut1_miss (d : UInt8) : ∀ (a : B), d ∉ a → cut1 d a = (a, [], false)
 | [], _ => by simp [cut1]
 | c :: r, h => by
  have hc : c ≠ d := fun e => h (by simp [e])
  rw [cut1, if_neg hc, cut1_miss d r (fun e => h (List.mem_cons_of_mem _ e))]

theorem cut1_lib (d : UInt8) (s : B) : Lib.cut s [d] = cut1 d s := by
 unfold Lib.cut
 rcases first_slash_c d s with ⟨h, hm⟩ | ⟨o, ho, hlt, hs, hm⟩
 ·rw [h, if_neg (by decide), cut1_miss d s hm]
 ·rw [ho, if_pos (by omega)]
  have h1 := cut1_hit d (s.take o) (s.drop (o + 1)) hm
  rw [← hs] at h1
  rw [h1]
  rfl

theorem cut1_spec (d : UInt8) : ∀ s : B, d ∉ (cut1 d s).1 ∧ ((cut1 d s).2.2 = true → s = (cut1 d s).1 ++ d :: (cut1 d s).2.1) ∧ ((cut1 d s).2.2 = false → cut1 d s = (s, [], false) ∧ d ∉ s)
 | [] => by simp [cut1]
 | c :: r => by
  obtain ⟨h1, h2, h3⟩ := cut1_spec d r
  by_cases hc : c = d
  ·subst hc; simp [cut1]
  ·rw [cut1, if_neg hc]
   refine ⟨fun h => ?_, fun h => ?_, fun h => ?_⟩
   ·rcases List.mem_cons.1 h with e | e
    ·exact hc e.symm
    ·exact h1 e
   ·have := h2 h
    show c :: r = c :: ((cut1 d r).1 ++ d :: (cut1 d r).2.1)
    rw [← this]
   ·obtain ⟨e1, e2⟩ := h3 h
    refine ⟨by rw [e1], fun hm => ?_⟩
    rcases List.mem_cons.1 hm with e | e
    ·exact hc e.symm
    ·exact e2 e

theorem cut1_len (d : UInt8) : ∀ s : B, (cut1 d s).1.length ≤ s.length ∧ (cut1 d s).2.1.length ≤ s.length
 | [] => by simp [cut1]
 | c :: r => by
  have := cut1_len d r
  rw [cut1]
  split <;> simp <;> omega

theorem cutD_any (w : World) (d : UInt8) (s : B) (hs : s.length ≤ 1000000) (hm : HasMax w) :
  Calls Tryz.prog 203 #[S s, .string ⟨#[d]⟩] w fun e w' => e = .returned (.tuple #[S (cut1 d s).1, S (cut1 d s).2.1, .bool (cut1 d s).2.2]) ∧ Ext w w' := by
 obtain ⟨m, hm⟩ := hm
 refine (Tryz.strings_Cut ⟨s.toArray⟩ ⟨#[d]⟩ m w (by simp [ByteArray.size]; omega) hm).mono ?_
 rintro e w' ⟨rfl, n, rfl⟩
 have := cut1_lib d s
 refine ⟨?_, Only.drewN _ _ _⟩
 simp only [this]
end Go.Proofs.YtnmhaipjfpongacGreatDoor

namespace Go.Proofs.YtnmhaipjfpongacGreatDoor
open Go.ChangeShapes Go.WideShapes Go.ChangeAt Go.RowKit

theorem getElem?_getD' {α : Type} {l : List α} {i : Nat} (d : α) (h : i < l.length) : l[i]? = some (l.getD i d) := by
 rw [List.getD_eq_getElem?_getD, List.getElem?_eq_getElem h]; rfl

def Drawn (w w' : World) : Prop := ∃ n, w' = w.drewN n
theorem Drawn.ext {w w' : World} (h : Drawn w w') : Ext w w' := by obtain ⟨n, rfl⟩ := h; exact Only.drewN _ _ _
theorem Drawn.refl (w : World) : Drawn w w := ⟨0, rfl⟩
theorem Drawn.more {w w' : World} (h : Drawn w w') (n : Nat) : Drawn w (w'.drewN n) := by obtain ⟨m, rfl⟩ := h; exact ⟨m + n, by simp [World.drewN, Nat.add_assoc]⟩

theorem beq_take {α : Type} [BEq α] [LawfulBEq α] (d : α) (a b : List α) (hl : a.length = b.length) (h : ∀ j, j < a.length → a.getD j d = b.getD j d) : a = b := by
 apply List.ext_getElem hl
 intro i h1 h2
 have := h i h1
 rw [List.getD_eq_getElem?_getD, List.getD_eq_getElem?_getD, List.getElem?_eq_getElem h1, List.getElem?_eq_getElem h2] at this
 simpa using this

set_option maxHeartbeats 1000000 in
theorem sameTexts_any (w : World) (v1 v2 : Value) (a b : List B) (h1 : Rd S w v1 a) (h2 : Rd S w v2 b) :
  Calls Tryz.prog 74 #[v1, v2] w fun e w' => e = .returned (.bool (a == b)) ∧ Drawn w w' := by
 obtain ⟨a1, cap1, rfl, _, hm1, hc1⟩ := h1
 obtain ⟨a2, cap2, rfl, _, _, hc2⟩ := h2
 have hl1 : a.length ≤ 9223372036854775807 := by unfold maxLen at hm1; omega
 clear hm1
 have H1 := Lib.hid hc1
 have H2 := Lib.hid hc2
 clear hc1 hc2
 by_cases hl : a.length = b.length
 ·obtain ⟨r, hr⟩ : ∃ r, Hid (r = (a == b)) := ⟨_, Lib.hid rfl⟩
  rw [← hr.out]
  have HL := Lib.hid hl
  have hne : ((a.length : Int) != (a.length : Int)) = false := by simp
  rw [← hl]
  clear hl
  go_enter Tryz.func74, Tryz.ntmps74
  go_wp2_with fail
  go_loopw [5] (fun i wr => ∃ k : Nat, k ≤ a.length ∧ i = .int .i64 k ∧ Drawn w wr ∧ Hid (∀ j, j < k → a.getD j [] = b.getD j [])) (fun i _ => a.length - (intOf i).toNat)
  case atStart => exact ⟨0, Nat.zero_le _, rfl, Drawn.refl _, fun j hj => absurd hj (Nat.not_lt_zero _)⟩
  case round =>
   obtain ⟨k, hk, rfl, hd, hp⟩ := hrel
   have HD := Lib.hid hd
   clear hd
   by_cases hlt : k < a.length
   ·obtain ⟨b1, o1, rfl, d1⟩ := H1.out (by intro h; rw [h] at hlt; simp at hlt)
    obtain ⟨b2, o2, rfl, d2⟩ := H2.out (by intro h; have h2 := HL.out; rw [h] at h2; have h3 : a.length = 0 := h2; omega)
    have e1 := HD.out.ext.cellOf (d1 k _ (getElem?_getD' [] hlt)) (fun h => h)
    have e2 := HD.out.ext.cellOf (d2 k _ (getElem?_getD' [] (by have := HL.out; omega))) (fun h => h)
    clear d1 d2
    have hltz : (k : Int) < (a.length : Int) := by omega
    by_cases hq : a.getD k [] = b.getD k []
    ·have HQ := Lib.hid hq
     rw [hq] at e1
     clear hq
     generalize b.getD k [] = x at e1 e2
     have hxx : (x != x) = false := by simp
     go_wp2_with fail
     go_quiet (fail)
     go_wp2
     go_roundw
     case rel => exact ⟨k + 1, by omega, by go_num, HD.out.more _, fun j hj => by
      rcases Nat.lt_succ_iff_lt_or_eq.1 hj with h | rfl
      ·exact hp.out j h
      ·exact HQ.out⟩
     case measure => simp [intOf]; omega
    ·have hxx : (a.getD k [] == b.getD k []) = false := by simpa using hq
     have hF : (a == b) = false := beq_eq_false_iff_ne.2 fun e => hq (by rw [e])
     have HF := Lib.hid hF
     clear hF hq
     generalize a.getD k [] = x at e1 hxx
     generalize b.getD k [] = y at e2 hxx
     go_wp2_with fail
     go_quiet (fail)
     go_wp2
     go_ret
     exact ⟨by rw [hr.out, HF.out]; rfl, HD.out.more _⟩
   ·have hT : (a == b) = true := by
     rw [beq_iff_eq]
     exact beq_take [] a b HL.out fun j hj => hp.out j (by omega)
    have HT := Lib.hid hT
    clear hT
    go_wp2_with fail
    go_ret
    exact ⟨by rw [hr.out, HT.out]; rfl, HD.out⟩
 ·have hne : ((a.length : Int) != (b.length : Int)) = true := by rw [bne_iff_ne]; omega
  have hF : (a == b) = false := beq_eq_false_iff_ne.2 fun e => hl (by rw [e])
  rw [hF]
  go_enter Tryz.func74, Tryz.ntmps74
  go_wp2_with fail
  go_ret
  exact ⟨rfl, Drawn.refl _⟩
end Go.Proofs.YtnmhaipjfpongacGreatDoor

namespace Go.Proofs.YtnmhaipjfpongacGreatDoor
open Go.ChangeShapes Go.WideShapes Go.ChangeAt Go.RowKit

theorem write_any (n0 b : Nat) (l s : B) (w : World) (h : Lib.IsBuilder 169 5 n0 b (Lib.byteCells l) w) (hlen : l.length + s.length ≤ 140737488355328) (hBw : n0 ≤ w.heap.size) :
  Calls Tryz.prog 106 #[.pointer (some ⟨b, 0, none⟩), S s] w fun e w' => e = .returned (.tuple #[I s.length, .nilIface]) ∧ Lib.IsBuilder 169 5 n0 b (Lib.byteCells (l ++ s)) w' ∧ Below n0 w w' := by
 have hsz : (⟨s.toArray⟩ : ByteArray).size = s.length := by simp [ByteArray.size]
 refine (Any.Builder_WriteString { Tryz.lays156 with } Tryz.Builder_Extra_156 n0 b (Lib.byteCells l) ⟨s.toArray⟩ w h (by rw [Lib.byteCells_length, hsz]; exact hlen) hBw).mono ?_
 rintro e w' ⟨rfl, h1, h2⟩
 refine ⟨by rw [hsz], .inr ?_, h2⟩
 have e1 : Lib.byteCells l ++ Lib.strCells ⟨s.toArray⟩ = Lib.byteCells (l ++ s) := by rw [Lib.strCells_eq]; simp [Lib.byteCells]
 rw [← e1]
 exact h1

abbrev Pow (w : World) : Prop := Lib.TabIs Tryz.prog w "internal/strconv.uint64pow10" .u64 Lib.pow10Tab

theorem Pow.ext {w w' : World} (h : Pow w) (ho : Ext w w') : Pow w' :=
 Go.Joins.tab_stays (g := 13) (by kernel_rfl) h ho.extBelow (Nat.le_refl _)

theorem itoa_any (w : World) (n : Nat) (hn : n ≤ 1000000000) (h : Pow w) : Calls Tryz.prog 107 #[I n] w fun e w' => e = .returned (S (Lib.decDigits n)) ∧ Ext w w' := by
 refine (Tryz.strconv_Itoa n (by omega) (by omega) w h).mono ?_
 rintro e w' ⟨rfl, k, os, rfl⟩
 exact ⟨by rw [Lib.itoa_nonneg], Only.of_below (Lib.below_grow w.heap.size w (Nat.le_refl _) k os)⟩

def cnt (s : B) : B := Lib.decDigits s.length ++ 58 :: s

theorem ba_app (a b : B) : ((⟨a.toArray⟩ : ByteArray) ++ ⟨b.toArray⟩) = ⟨(a ++ b).toArray⟩ := by
 ext1
 simp [ByteArray.data_append]

theorem dec_le (n : Nat) (h : n ≤ 1000000000) : (Lib.decDigits n).length ≤ 20 := by
 rw [Lib.decDigits_length]
 exact Lib.nDigits_le20 n (by omega)

theorem counted_any (w : World) (s : B) (hs : s.length ≤ 1000000) (h : Pow w) : Calls Tryz.prog 189 #[S s] w fun e w' => e = .returned (S (cnt s)) ∧ Ext w w' := by
 have hi := itoa_any w s.length (by omega) h
 have hd := dec_le s.length (by omega)
 have h1 : ¬ 9223372036854775807 < (Lib.decDigits s.length).length + 1 := by omega
 have h2 : ¬ 9223372036854775807 < (Lib.decDigits s.length).length + 1 + s.length := by omega
 have HI := Lib.hid hi
 clear hi h hd
 go_enter Tryz.func189, Tryz.ntmps189
 go_wp2_with (go_at_call 107; refine HI.out.mono ?_; rintro e w1 ⟨rfl, h1⟩)
 go_ret
 refine ⟨?_, h1⟩
 have e1 : ((⟨(Lib.decDigits s.length).toArray⟩ : ByteArray) ++ ⟨#[58]⟩ ++ ⟨s.toArray⟩) = ⟨(cnt s).toArray⟩ := by
  rw [show (⟨#[58]⟩ : ByteArray) = ⟨([58] : B).toArray⟩ from rfl, ba_app, ba_app]
  simp [cnt]
 exact congrArg (fun x => Ending.returned (Value.string x)) e1
end Go.Proofs.YtnmhaipjfpongacGreatDoor

namespace Go.Proofs.YtnmhaipjfpongacGreatDoor
open Go.ChangeShapes Go.WideShapes Go.ChangeAt Go.RowKit

def AtoiVars (w : World) : Prop := (∃ t p, w.cell? ⟨17, 0, none⟩ = some (.iface t p)) ∧ ∃ t p, w.cell? ⟨18, 0, none⟩ = some (.iface t p)
theorem AtoiVars.ext {w w' : World} (h : AtoiVars w) (ho : Ext w w') : AtoiVars w' := by
 obtain ⟨⟨t, p, h1⟩, t', p', h2⟩ := h
 exact ⟨⟨t, p, ho.cellOf h1 (fun h => h)⟩, t', p', ho.cellOf h2 (fun h => h)⟩

theorem atoi_ok (w : World) (s : B) (hs : s.length ≤ 1000000) (v : Int) (h : Lib.atoiAll s = .ok v) :
  Calls Tryz.prog 305 #[S s] w fun e w' => e = .returned (.tuple #[I v, .nilIface]) ∧ Ext w w' := by
 refine (Tryz.strconv_Atoi_ok ⟨s.toArray⟩ (by simp [ByteArray.size]; omega) v h w).mono ?_
 rintro e w' ⟨rfl, rfl | ⟨t, rfl⟩⟩
 ·exact ⟨rfl, Only.refl _ _⟩
 ·exact ⟨rfl, Only.of_below (Lib.bytesWorld_below _ _ _)⟩

def IfaceIs (w : World) (e : Ending) (w' : World) : Prop := ∃ v t p, e = .returned (.tuple #[I v, .iface t p]) ∧ Ext w w'

theorem atoi_bad (w : World) (s : B) (hs : s.length ≤ 1000000) (hv : AtoiVars w) (h : ∀ v, Lib.atoiAll s ≠ .ok v) :
  Calls Tryz.prog 305 #[S s] w (IfaceIs w) := by
 obtain ⟨⟨t, p, h1⟩, t', p', h2⟩ := hv
 cases hq : Lib.atoiAll s with
 | ok v => exact absurd hq (h v)
 | range =>
  refine (Tryz.strconv_Atoi_range ⟨s.toArray⟩ (by simp [ByteArray.size]; omega) hq _ w h2 (.inr ⟨_, _, rfl⟩)).mono ?_
  rintro e w' ⟨N, rfl, _, _, hb⟩
  exact ⟨_, _, _, rfl, Only.of_below hb⟩
 | _ =>
  refine (Any.strconv_Atoi_syntax Tryz.laysC172 ⟨s.toArray⟩ (by simp [ByteArray.size]; omega) hq _ w h1 (.inr ⟨_, _, rfl⟩)).mono ?_
  rintro e w' ⟨N, rfl, _, _, hb⟩
  exact ⟨_, _, _, rfl, Only.of_below hb⟩

def numB (k : Nat) (s : B) : Option Nat :=
 match Lib.atoiAll s with
 | .ok v => if s.length ≤ k ∧ 0 ≤ v ∧ Lib.decDigits v.toNat = s then some v.toNat else none
 | _ => none

theorem parse10_lt : ∀ (l : B) (acc u : Nat), Lib.parseUint10 acc l = .ok u → u < (acc + 1) * 10 ^ l.length
 | [], acc, u, h => by
  simp only [Lib.parseUint10] at h
  injection h with h
  simp; omega
 | c :: r, acc, u, h => by
  simp only [Lib.parseUint10] at h
  split at h
  ·rename_i hc
   split at h
   ·cases h
   ·split at h
    ·cases h
    ·have := parse10_lt r _ u h
     rw [List.length_cons, Nat.pow_succ]
     refine Nat.lt_of_lt_of_le this ?_
     rw [Nat.mul_comm (10 ^ r.length) 10, ← Nat.mul_assoc]
     exact Nat.mul_le_mul_right _ (by omega)
  ·cases h

theorem atoi_lt {s : B} {v : Int} (h : Lib.atoiAll s = .ok v) : v < 10 ^ s.length := by
 cases s with
 | nil => cases h
 | cons c r =>
  simp only [Lib.atoiAll] at h
  split at h
  ·cases h
  ·cases h
  ·rename_i u hu
   have hu2 : (u : Int) < 10 ^ (c :: r).length := by
    have hl : (if c.toNat = 43 ∨ c.toNat = 45 then r else c :: r).length ≤ (c :: r).length := by split <;> simp
    generalize (if c.toNat = 43 ∨ c.toNat = 45 then r else c :: r) = q at hu hl
    unfold Lib.parseMag at hu
    by_cases hq : q = []
    ·rw [if_pos hq] at hu; cases hu
    ·rw [if_neg hq] at hu
     have := parse10_lt _ 0 u hu
     have h2 := Nat.pow_le_pow_right (show 0 < 10 by omega) hl
     have h3 : u < 10 ^ (c :: r).length := by omega
     exact_mod_cast h3
   split at h
   ·cases h
   ·split at h
    ·cases h
    ·injection h with h
     have h0 : (0 : Int) < 10 ^ (c :: r).length := by exact_mod_cast Nat.pow_pos (show 0 < 10 by omega)
     split at h <;> omega

theorem numB_some {k : Nat} {s : B} {n : Nat} (h : numB k s = some n) : Lib.atoiAll s = .ok (n : Int) ∧ s.length ≤ k ∧ Lib.decDigits n = s := by
 unfold numB at h
 split at h
 ·rename_i v hv
  split at h
  ·rename_i hc
   cases h
   obtain ⟨h1, h2, h3⟩ := hc
   exact ⟨by rw [hv, Int.toNat_of_nonneg h2], h1, h3⟩
  ·cases h
 ·cases h

end Go.Proofs.YtnmhaipjfpongacGreatDoor

namespace Go.Proofs.YtnmhaipjfpongacGreatDoor
open Go.ChangeShapes Go.WideShapes Go.ChangeAt Go.RowKit

theorem byte_conv (w : World) (n : Nat) (hn : n < 256) : (convert 167 9 (.slice (some ⟨w.heap.size, 0, none⟩) 1 1)).run Tryz.prog (w.alloc (.cells #[.int .u8 n] 5 (0, 0))) = .ok (S [UInt8.ofNat n]) (w.alloc (.cells #[.int .u8 n] 5 (0, 0))) := by
 refine run_convert_bytes_back _ 167 9 5 ⟨w.heap.size, 0, none⟩ 1 [UInt8.ofNat n] Tryz.underlying167 Tryz.underlying5 Tryz.underlying9 (fun j hj => ?_)
 obtain rfl : j = 0 := by simpa using hj
 have e : (UInt8.ofNat n).toNat = n := by simp; omega
 simp [Addr.add, e]

theorem IntKind.wraps_u8_ (n : Nat) (h : n < 256) : IntKind.u8.wrap (n : Int) = n := by simp [IntKind.wrap, IntKind.bits, IntKind.signed]; omega

theorem byte_any (w : World) (n : Nat) (hn : n < 256) : Calls Tryz.prog 197 #[I n] w fun e w' => e = .returned (S [UInt8.ofNat n]) ∧ Ext w w' := by
 have hw : IntKind.u8.wrap (n : Int) = n := IntKind.wraps_u8_ n hn
 have hc := byte_conv w n hn
 go_enter Tryz.func197, Tryz.ntmps197
 go_wp2
 go_ret
 exact ⟨rfl, Only.alloc _ _ _⟩

end Go.Proofs.YtnmhaipjfpongacGreatDoor

namespace Go.Proofs.YtnmhaipjfpongacGreatDoor
open Go.ChangeShapes Go.WideShapes Go.ChangeAt Go.RowKit

abbrev IsB (n0 b : Nat) (l : B) (w : World) : Prop := Lib.IsBuilder 169 5 n0 b (Lib.byteCells l) w

theorem builderAt_ext {n0 b : Nat} {p : Value} {bs : List Value} {w w' : World} (h : Lib.BuilderAt 169 5 n0 b p bs w) (ho : Ext w w') : Lib.BuilderAt 169 5 n0 b p bs w' := by
 obtain ⟨h1, v, h2, h3, h4⟩ := h
 exact ⟨h1, v, ho.heapOf h2 (fun h => h), ho.row h3 (fun _ _ h => h), h4⟩

theorem IsB.ext {n0 b : Nat} {l : B} {w w' : World} (h : IsB n0 b l w) (ho : Ext w w') : IsB n0 b l w' := by
 rcases h with h | h
 ·exact .inl (builderAt_ext h ho)
 ·exact .inr (builderAt_ext h ho)

theorem IsB.fresh (w : World) : IsB w.heap.size w.heap.size [] (w.alloc (.cells #[.pointer none, .slice none 0 0] 169 (0, 0))) :=
 .inl ⟨Nat.le_refl _, .slice none 0 0, (MapKept.heap_alloc w _).1, World.ownsRow_nil _ _ _ _, by intro h; cases h⟩

theorem ext_below {w w1 w2 : World} (h : Ext w w1) (hb : Below w.heap.size w1 w2) : Ext w w2 := Only.of_below (h.extBelow.trans hb)

def keyT (kind word : B) (ins : List B) : B := cnt kind ++ cnt word ++ ins.flatMap cnt

theorem cnt_len (s : B) (h : s.length ≤ 1000000) : (cnt s).length ≤ 21 + s.length := by
 have := dec_le s.length (by omega)
 simp [cnt]; omega

theorem flat_take_step {ins : List B} {j : Nat} {x : B} (hx : ins[j]? = some x) : (ins.take (j + 1)).flatMap cnt = (ins.take j).flatMap cnt ++ cnt x := by
 rw [List.take_add_one, hx]; simp

end Go.Proofs.YtnmhaipjfpongacGreatDoor

namespace Go.Proofs.YtnmhaipjfpongacGreatDoor
open Go.ChangeShapes Go.WideShapes Go.ChangeAt Go.RowKit

end Go.Proofs.YtnmhaipjfpongacGreatDoor

namespace Go.Proofs.YtnmhaipjfpongacGreatDoor
open Go.ChangeShapes Go.WideShapes Go.ChangeAt Go.RowKit

theorem digit_ne {k : Nat} (h : k < 10) : UInt8.ofNat (48 + k) ≠ 58 := by
 intro e
 have := congrArg UInt8.toNat e
 simp at this
 omega

theorem digit_inj {a b : Nat} (ha : a < 10) (hb : b < 10) (e : UInt8.ofNat (48 + a) = UInt8.ofNat (48 + b)) : a = b := by
 have := congrArg UInt8.toNat e
 simp only [UInt8.toNat_ofNat'] at this
 omega

theorem dec_no (u : Nat) : (58 : UInt8) ∉ Lib.decDigits u := by
 induction u using Nat.strongRecOn with
 | _ u ih =>
  by_cases h : u < 10
  ·rw [Lib.decDigits_one h, List.mem_singleton]
   exact fun e => digit_ne h e.symm
  ·rw [Lib.decDigits, dif_neg h, List.mem_append, List.mem_singleton]
   rintro (e | e)
   ·exact ih (u / 10) (by omega) e
   ·exact digit_ne (Nat.mod_lt u (by decide)) e.symm

theorem dec_neK (u : Nat) : Lib.decDigits u ≠ [] := by
 by_cases h : u < 10
 ·rw [Lib.decDigits_one h]; simp
 ·rw [Lib.decDigits, dif_neg h]; simp

theorem dec_inj : ∀ (u v : Nat), Lib.decDigits u = Lib.decDigits v → u = v := by
 intro u
 induction u using Nat.strongRecOn with
 | _ u ih =>
  intro v e
  by_cases h : u < 10
  ·by_cases h' : v < 10
   ·rw [Lib.decDigits_one h, Lib.decDigits_one h'] at e
    exact digit_inj h h' (by simpa using e)
   ·rw [Lib.decDigits_one h, Lib.decDigits.eq_def v, dif_neg h'] at e
    have := congrArg List.length e
    simp at this
    exact absurd this (dec_neK (v / 10))
  ·by_cases h' : v < 10
   ·rw [Lib.decDigits_one h', Lib.decDigits.eq_def u, dif_neg h] at e
    have := congrArg List.length e
    simp at this
    exact absurd this (dec_neK (u / 10))
   ·rw [Lib.decDigits.eq_def u, Lib.decDigits.eq_def v, dif_neg h, dif_neg h'] at e
    obtain ⟨e1, e2⟩ := List.append_inj' e rfl
    have i1 := ih (u / 10) (by omega) (v / 10) e1
    have i2 := digit_inj (Nat.mod_lt u (by decide)) (Nat.mod_lt v (by decide)) (by simpa using e2)
    omega

theorem split_at {x : UInt8} : ∀ {d d' a a' : B}, x ∉ d → x ∉ d' → d ++ x :: a = d' ++ x :: a' → d = d' ∧ a = a'
 | [], [], a, a', _, _, e => ⟨rfl, by simpa using e⟩
 | [], y :: d', a, a', _, h', e => by
  have : x = y := by simpa using congrArg List.head? e
  exact absurd (this ▸ List.mem_cons_self) h'
 | y :: d, [], a, a', h, _, e => by
  have : y = x := by simpa using congrArg List.head? e
  exact absurd (this ▸ List.mem_cons_self) h
 | y :: d, z :: d', a, a', h, h', e => by
  rw [List.cons_append, List.cons_append, List.cons.injEq] at e
  obtain ⟨rfl, e⟩ := e
  obtain ⟨rfl, rfl⟩ := split_at (fun hm => h (List.mem_cons_of_mem _ hm)) (fun hm => h' (List.mem_cons_of_mem _ hm)) e
  exact ⟨rfl, rfl⟩

theorem cnt_parse {s t r r' : B} (e : cnt s ++ r = cnt t ++ r') : s = t ∧ r = r' := by
 unfold cnt at e
 rw [List.append_assoc, List.append_assoc, List.cons_append, List.cons_append] at e
 obtain ⟨e1, e2⟩ := split_at (dec_no _) (dec_no _) e
 exact List.append_inj e2 (dec_inj _ _ e1)

theorem cnt_ne (s r : B) : cnt s ++ r ≠ [] := by simp [cnt]

theorem flat_inj : ∀ {l l' : List B}, l.flatMap cnt = l'.flatMap cnt → l = l'
 | [], [], _ => rfl
 | [], y :: l', e => by rw [List.flatMap_cons] at e; exact absurd e.symm (cnt_ne _ _)
 | x :: l, [], e => by rw [List.flatMap_cons] at e; exact absurd e (cnt_ne _ _)
 | x :: l, y :: l', e => by
  rw [List.flatMap_cons, List.flatMap_cons] at e
  obtain ⟨h1, h2⟩ := cnt_parse e
  rw [h1, flat_inj h2]

theorem keyT_inj {k w k' w' : B} {l l' : List B} (e : keyT k w l = keyT k' w' l') : k = k' ∧ w = w' ∧ l = l' := by
 unfold keyT at e
 rw [List.append_assoc, List.append_assoc] at e
 obtain ⟨h1, h2⟩ := cnt_parse e
 obtain ⟨h3, h4⟩ := cnt_parse h2
 exact ⟨h1, h3, flat_inj h4⟩
end Go.Proofs.YtnmhaipjfpongacGreatDoor

namespace Go.Proofs.YtnmhaipjfpongacGreatDoor
open Go.ChangeShapes Go.WideShapes Go.ChangeAt Go.RowKit

theorem flat_take_lenK {ins : List B} (h : ∀ x ∈ ins, x.length ≤ 3000) : ∀ j, ((ins.take j).flatMap cnt).length ≤ 4000 * j
 | 0 => by simp
 | j + 1 => by
  have ih := flat_take_lenK h j
  cases hx : ins[j]? with
  | none =>
   have : ins.take (j + 1) = ins.take j := by rw [List.take_add_one, hx]; simp
   rw [this]; omega
  | some x =>
   have hl := cnt_len x (by have := h x (List.mem_of_getElem? hx); omega)
   have := h x (List.mem_of_getElem? hx)
   rw [flat_take_step hx, List.length_append]
   omega

set_option maxHeartbeats 1000000 in
theorem keyBig_any (w : World) (kind word : B) (v : Value) (ins : List B) (hv : Rd S w v ins) (h1 : kind.length ≤ 100) (h2 : word.length ≤ 100) (h3 : ins.length ≤ 12) (h4 : ∀ x ∈ ins, x.length ≤ 3000) (hp : Pow w) :
  Calls Tryz.prog 123 #[S kind, S word, v] w fun e w' => e = .returned (S (keyT kind word ins)) ∧ Ext w w' := by
 obtain ⟨a, cap, rfl, _, _, hc⟩ := hv
 have l1 := cnt_len kind (by omega)
 have l2 := cnt_len word (by omega)
 have hck : ∀ w1, Pow w1 → Calls Tryz.prog 189 #[S kind] w1 _ := fun w1 h => counted_any w1 kind (by omega) h
 have hcw : ∀ w1, Pow w1 → Calls Tryz.prog 189 #[S word] w1 _ := fun w1 h => counted_any w1 word (by omega) h
 obtain ⟨K, hK⟩ : ∃ K, K = keyT kind word ins := ⟨_, rfl⟩
 obtain ⟨ck, hk⟩ : ∃ ck, ck = cnt kind := ⟨_, rfl⟩
 obtain ⟨cw, hw⟩ : ∃ cw, cw = cnt word := ⟨_, rfl⟩
 have hKe : K = ck ++ cw ++ ins.flatMap cnt := by rw [hK, hk, hw]; rfl
 rw [← hK]
 simp only [← hk] at hck
 simp only [← hw] at hcw
 rw [← hk] at l1
 rw [← hw] at l2
 have l3 : ¬ 9223372036854775807 < ck.length + cw.length := by omega
 have l4 : ck.length + cw.length ≤ 242 := by omega
 have HKE := Lib.hid hKe
 have HCK := Lib.hid hck
 have HCW := Lib.hid hcw
 have HC := Lib.hid hc
 have H4 := Lib.hid h4
 have HP := Lib.hid hp
 clear hc hKe hck hcw hK hk hw h4 hp l1 l2 h1 h2
 go_enter Tryz.func123, Tryz.ntmps123
 go_wp2_with fail
 refine (HCK.out _ (HP.out.ext (Only.alloc (fun _ => False) w _))).mono ?_
 rintro e w1 ⟨rfl, ho⟩
 have HO1 := Lib.hid ((Only.alloc (fun _ => False) w (.cells #[.pointer none, .slice none 0 0] 169 (0, 0))).ext ho)
 have HB1 := Lib.hid ((IsB.fresh w).ext ho)
 clear ho
 go_wp2_with fail
 refine (HCW.out _ (HP.out.ext HO1.out)).mono ?_
 rintro e w2 ⟨rfl, ho⟩
 have HO2 := Lib.hid (HO1.out.ext ho)
 have HB2 := Lib.hid (HB1.out.ext ho)
 clear ho
 go_wp2_with fail
 rw [ba_app]
 refine (write_any w.heap.size w.heap.size [] (ck ++ cw) w2 HB2.out (by simp; omega) HO2.out.size).mono ?_
 rintro e w3 ⟨rfl, hb3, hbl⟩
 have HO3 := Lib.hid (ext_below HO2.out hbl)
 have HB3 := Lib.hid hb3
 clear hb3 hbl HB1 HB2 HCK HCW HO1 HO2
 go_wp2_with fail
 obtain ⟨b, hbE⟩ : ∃ b, b = w.heap.size := ⟨_, rfl⟩
 have HB3' : Hid (IsB w.heap.size b (ck ++ cw) w3) := by rw [hbE]; simpa using HB3
 rw [← hbE]
 clear hbE HB3
 go_loopw [18] (fun i wr => ∃ j : Nat, j ≤ ins.length ∧ i = .int .i64 j ∧ Hid (Ext w wr) ∧ Hid (IsB w.heap.size b (ck ++ cw ++ (ins.take j).flatMap cnt) wr)) (fun i _ => ins.length - (intOf i).toNat)
 case atStart => exact ⟨0, Nat.zero_le _, rfl, HO3, by simpa using HB3'⟩
 case round =>
  obtain ⟨j, hj, rfl, HX, HB⟩ := hrel
  by_cases hlt : j < ins.length
  ·have hltz : (j : Int) < (ins.length : Int) := by omega
   obtain ⟨b0, off, rfl, hcell⟩ := HC.out (by intro h; rw [h] at hlt; simp at hlt)
   obtain ⟨x, hx⟩ : ∃ y, ins[j]? = some y := ⟨_, List.getElem?_eq_getElem hlt⟩
   have d0 : wr.cell? ⟨b0, off + j, none⟩ = some (S x) := HX.out.cellOf (hcell j x hx) (fun h => h)
   have hxl := H4.out x (List.mem_of_getElem? hx)
   have hst := flat_take_step hx
   have hfl := flat_take_lenK H4.out j
   have hcx := counted_any wr x (by omega) (HP.out.ext HX.out)
   have hcl := cnt_len x (by omega)
   obtain ⟨cx, hcx'⟩ : ∃ cx, cx = cnt x := ⟨_, rfl⟩
   rw [← hcx'] at hcx hst hcl
   have HST := Lib.hid hst
   have HCX := Lib.hid hcx
   clear hcell hx hst hcx hcx'
   obtain ⟨F, hF⟩ : ∃ F, F = (ins.take j).flatMap cnt := ⟨_, rfl⟩
   rw [← hF] at HB HST hfl
   clear hF
   go_wp2_with fail
   refine HCX.out.mono ?_
   rintro e w5 ⟨rfl, ho⟩
   have HX5 := Lib.hid (HX.out.ext ho)
   have HB5 := Lib.hid (HB.out.ext ho)
   clear ho
   go_wp2_with fail
   refine (write_any w.heap.size b _ cx w5 HB5.out (by simp; omega) HX5.out.size).mono ?_
   rintro e w6 ⟨rfl, hb6, hbl⟩
   have HX6 := Lib.hid (ext_below HX5.out hbl)
   have HB6 := Lib.hid hb6
   clear hb6 hbl
   go_wp2_with fail
   go_roundw
   case rel => exact ⟨j + 1, by omega, by go_num, HX6, Lib.hid (by rw [HST.out]; simpa using HB6.out)⟩
   case measure => simp [intOf]; omega
  ·have hltz : ¬ ((j : Int) < (ins.length : Int)) := by omega
   have ht : ins.take j = ins := List.take_of_length_le (by omega)
   rw [ht, ← HKE.out] at HB
   go_wp2_with fail
   refine (Tryz.Builder_String_any w.heap.size b K wr HB.out HX.out.size).mono ?_
   rintro e w6 ⟨rfl, hbl⟩
   have HX6 := Lib.hid (ext_below HX.out hbl)
   clear hbl
   go_wp2_with fail
   go_ret
   exact ⟨rfl, HX6.out⟩
end Go.Proofs.YtnmhaipjfpongacGreatDoor

/- Texts of this seat laid together for one claim: U1. No condition of its own: what each proves stands with its theorems. -/
import Derived.Lib.IndexMore
import Derived.Test.YtnmhaipjfpongacGreatDoorSR3
namespace Go.Proofs.YtnmhaipjfpongacGreatDoor
open Go.ChangeShapes Go.WideShapes Go.ChangeAt Go.RowKit

def cutc (d : UInt8) : B → List B
 | [] => [[]]
 | c :: r => if c = d then [] :: cutc d r else headOn c (cutc d r)

theorem cutc_ne (d : UInt8) (s : B) : cutc d s ≠ [] := by
 cases s with
 | nil => simp [cutc]
 | cons c r => unfold cutc; split; simp; cases cutc d r <;> simp [headOn]

theorem cutc_pos (d : UInt8) (s : B) : 0 < (cutc d s).length := List.length_pos_iff.2 (cutc_ne d s)

theorem cutc_plain (d : UInt8) : ∀ (a : B), (d : UInt8) ∉ a → cutc d a = [a]
 | [], _ => rfl
 | c :: r, h => by
  have hc : c ≠ d := fun e => h (by simp [e])
  rw [cutc, if_neg hc, cutc_plain d r (fun e => h (List.mem_cons_of_mem _ e))]
  rfl

theorem cutc_app (d : UInt8) : ∀ (a b : B), (d : UInt8) ∉ a → cutc d (a ++ d :: b) = a :: cutc d b
 | [], b, _ => by simp [cutc]
 | c :: r, b, h => by
  have hc : c ≠ d := fun e => h (by simp [e])
  rw [List.cons_append, cutc, if_neg hc, cutc_app d r b (fun e => h (List.mem_cons_of_mem _ e))]
  rfl

theorem cutc_app_any (d : UInt8) : ∀ (a b : B), cutc d (a ++ d :: b) = cutc d a ++ cutc d b
 | [], b => by simp [cutc]
 | c :: r, b => by
  rw [List.cons_append, cutc, cutc, cutc_app_any d r b]
  split
  ·rfl
  ·cases h : cutc d r with
   | nil => exact absurd h (cutc_ne d r)
   | cons x xs => rfl

def joinc (d : UInt8) (l : List B) : B := List.intercalate [d] l

theorem joinc_one (d : UInt8) (x : B) : joinc d [x] = x := by simp [joinc, List.intercalate]
theorem joinc_cons (d : UInt8) (x y : B) (l : List B) : joinc d (x :: y :: l) = x ++ d :: joinc d (y :: l) := by
 simp [joinc, List.intercalate, List.intersperse]
theorem joinc_cons_ne (d : UInt8) (x : B) {l : List B} (h : l ≠ []) : joinc d (x :: l) = x ++ d :: joinc d l := by
 cases l with
 | nil => exact absurd rfl h
 | cons y l => exact joinc_cons d x y l

theorem join_cut_c (d : UInt8) : ∀ (s : B), joinc d (cutc d s) = s
 | [] => by simp [cutc, joinc_one d]
 | c :: r => by
  have ih := join_cut_c d r
  rw [cutc]
  split
  ·rename_i hc
   rw [joinc_cons_ne d [] (cutc_ne d r), ih, hc]; rfl
  ·cases hr : cutc d r with
   | nil => exact absurd hr (cutc_ne d r)
   | cons y ys =>
    rw [hr] at ih
    cases ys with
    | nil => rw [joinc_one d] at ih; rw [headOn, joinc_one d, ih]
    | cons z zs => rw [joinc_cons d] at ih; rw [headOn, joinc_cons d, List.cons_append, ih]

theorem index_slash_c (d : UInt8) (s : B) : Lib.index s [d] = Lib.indexByte s d := Lib.index_one s d

theorem splitK_cut_c (d : UInt8) : ∀ (k : Nat) (s : B), s.count d ≤ k → Lib.splitK [d] 0 k s = cutc d s
 | 0, s, h => by
  have : (d : UInt8) ∉ s := by
   intro hm
   have := List.count_pos_iff.2 hm
   omega
  rw [cutc_plain d s this]; rfl
 | k + 1, s, h => by
  unfold Lib.splitK
  rw [index_slash_c d]
  have hge := Lib.indexByte_ge s d
  by_cases hm : Lib.indexByte s d = -1
  ·rw [if_pos (by rw [hm]; rfl)]
   have : (d : UInt8) ∉ s := by
    intro hx
    obtain ⟨i, hi⟩ := List.getElem?_of_mem hx
    exact Lib.indexByte_none hm i hi
   rw [cutc_plain d s this]
  ·obtain ⟨o, ho⟩ := Int.eq_ofNat_of_zero_le (show 0 ≤ Lib.indexByte s d by omega)
   have ⟨h1, h2⟩ := Lib.indexByte_some ho
   rw [if_neg (by rw [ho]; simp), ho]
   have hlt : o < s.length := (List.getElem?_eq_some_iff.1 h1).1
   have hs : s = s.take o ++ d :: s.drop (o + 1) := by
    have := (List.take_append_drop o s).symm
    rw [List.drop_eq_getElem_cons hlt] at this
    have e : s[o] = d := by rw [List.getElem?_eq_getElem hlt] at h1; simpa using h1
    rw [e] at this
    exact this
   have hn : (d : UInt8) ∉ s.take o := by
    intro hx
    obtain ⟨i, hi⟩ := List.getElem?_of_mem hx
    rw [List.getElem?_take] at hi
    split at hi
    ·rename_i hi2; exact h2 i hi2 hi
    ·cases hi
   have hc : (s.drop (o + 1)).count d ≤ k := by
    have e2 : s.count d = (s.take o ++ d :: s.drop (o + 1)).count d := by rw [← hs]
    rw [List.count_append, List.count_cons_self] at e2
    omega
   rw [show ((o : Int)).toNat = o from rfl]
   rw [Nat.add_zero, show ([d] : B).length = 1 from rfl, splitK_cut_c d k _ hc]
   conv => rhs; rw [hs]
   rw [cutc_app d _ _ hn]


theorem first_slash_c (d : UInt8) (s : B) : (Lib.index s [d] = -1 ∧ (d : UInt8) ∉ s) ∨ ∃ o : Nat, Lib.index s [d] = o ∧ o < s.length ∧ s = s.take o ++ d :: s.drop (o + 1) ∧ (d : UInt8) ∉ s.take o := by
 rw [index_slash_c d]
 have hge := Lib.indexByte_ge s d
 by_cases hm : Lib.indexByte s d = -1
 ·left
  refine ⟨hm, fun hx => ?_⟩
  obtain ⟨i, hi⟩ := List.getElem?_of_mem hx
  exact Lib.indexByte_none hm i hi
 ·right
  obtain ⟨o, ho⟩ := Int.eq_ofNat_of_zero_le (show 0 ≤ Lib.indexByte s d by omega)
  have ⟨h1, h2⟩ := Lib.indexByte_some ho
  have hlt : o < s.length := (List.getElem?_eq_some_iff.1 h1).1
  refine ⟨o, ho, hlt, ?_, ?_⟩
  ·have := (List.take_append_drop o s).symm
   rw [List.drop_eq_getElem_cons hlt] at this
   have e : s[o] = d := by rw [List.getElem?_eq_getElem hlt] at h1; simpa using h1
   rw [e] at this
   exact this
  ·intro hx
   obtain ⟨i, hi⟩ := List.getElem?_of_mem hx
   rw [List.getElem?_take] at hi
   split at hi
   ·rename_i hi2; exact h2 i hi2 hi
   ·cases hi

theorem count_slash_c (d : UInt8) : ∀ (n : Nat) (s : B), s.length ≤ n → Lib.count s [d] = s.count d
 | n, s, hn => by
  rcases first_slash_c d s with ⟨h, hm⟩ | ⟨o, ho, hlt, hs, hm⟩
  ·rw [Lib.count_miss h, List.count_eq_zero.2 hm]
  ·rw [Lib.count_hit (by simp) ho]
   cases n with
   | zero => omega
   | succ n =>
    have ih := count_slash_c d n (s.drop (o + 1)) (by simp; omega)
    rw [show o + ([d] : B).length = o + 1 from rfl, ih]
    conv => rhs; rw [hs]
    rw [List.count_append, List.count_cons_self, List.count_eq_zero.2 hm]
    omega

theorem cutc_length (d : UInt8) : ∀ (s : B), (cutc d s).length = s.count d + 1
 | [] => rfl
 | c :: r => by
  have ih := cutc_length d r
  rw [cutc]
  split
  ·rename_i hc; subst hc; simp [ih]
  ·rename_i hc
   cases hr : cutc d r with
   | nil => exact absurd hr (cutc_ne d r)
   | cons x xs =>
    rw [hr] at ih
    have hc2 : (c == d) = false := beq_eq_false_iff_ne.2 hc
    simp only [headOn, List.length_cons, List.count_cons, hc2] at ih ⊢
    simpa using ih

theorem splitB_cut_c (d : UInt8) (s : B) : (Lib.splitB ⟨#[d]⟩ 0 (Lib.countB ⟨s.toArray⟩ ⟨#[d]⟩) ⟨s.toArray⟩).map Value.string = (cutc d s).map S := by
 have h1 := Lib.splitB_data ⟨#[d]⟩ 0 (Lib.countB ⟨s.toArray⟩ ⟨#[d]⟩) ⟨s.toArray⟩
 have hc : Lib.countB ⟨s.toArray⟩ ⟨#[d]⟩ = s.count d := count_slash_c d s.length s (Nat.le_refl _)
 rw [hc] at h1 ⊢
 have h2 : (Lib.splitB ⟨#[d]⟩ 0 (s.count d) ⟨s.toArray⟩).map (·.data.toList) = cutc d s := by
  rw [h1]; exact splitK_cut_c d _ s (Nat.le_refl _)
 rw [← h2, List.map_map]
 rfl

theorem cutc_len_le (d : UInt8) (s : B) : (cutc d s).length ≤ s.length + 1 := by rw [cutc_length d]; have := List.count_le_length (a := (d : UInt8)) (l := s); omega

structure CuttingC (d : UInt8) (s : B) (o : List B) (fr j : Nat) : Prop where
 le : fr ≤ j
 len : j ≤ s.length
 done : cutc d s = o ++ cutc d (s.drop fr)
 none : ∀ t, fr ≤ t → t < j → s[t]? ≠ some d

theorem CuttingC.olen {d : UInt8} {s : B} {o : List B} {fr j : Nat} (h : CuttingC d s o fr j) : o.length ≤ s.length := by
 have h1 := congrArg List.length h.done
 have h2 := cutc_len_le d s
 have h3 := cutc_pos d (s.drop fr)
 rw [List.length_append] at h1
 omega

theorem CuttingC.plain {d : UInt8} {s : B} {o : List B} {fr j : Nat} (h : CuttingC d s o fr j) : (d : UInt8) ∉ (s.take j).drop fr := by
 intro hm
 obtain ⟨i, hi⟩ := List.getElem?_of_mem hm
 rw [List.getElem?_drop, List.getElem?_take] at hi
 split at hi
 ·rename_i hlt
  exact h.none (fr + i) (by omega) hlt hi
 ·cases hi

theorem CuttingC.hit {d : UInt8} {s : B} {o : List B} {fr j : Nat} (h : CuttingC d s o fr j) (hj : s[j]? = some d) : CuttingC d s (o ++ [(s.take j).drop fr]) (j + 1) (j + 1) := by
 obtain ⟨hlt, he⟩ := List.getElem?_eq_some_iff.1 hj
 refine ⟨Nat.le_refl _, hlt, ?_, fun t h1 h2 => absurd h2 (by omega)⟩
 have hs : s.drop fr = (s.take j).drop fr ++ d :: s.drop (j + 1) := by
  have h1 : s = s.take j ++ s.drop j := (List.take_append_drop j s).symm
  rw [List.drop_eq_getElem_cons hlt, he] at h1
  conv => lhs; rw [h1]
  rw [List.drop_append_of_le_length (by rw [List.length_take]; have := h.le; omega)]
 rw [h.done, hs, cutc_app d _ _ h.plain]
 simp

theorem CuttingC.miss {d : UInt8} {s : B} {o : List B} {fr j : Nat} {c : UInt8} (h : CuttingC d s o fr j) (hj : s[j]? = some c) (hc : c ≠ d) : CuttingC d s o fr (j + 1) := by
 have hlt := (List.getElem?_eq_some_iff.1 hj).1
 refine ⟨by have := h.le; omega, hlt, h.done, fun t h1 h2 => ?_⟩
 rcases Nat.lt_succ_iff_lt_or_eq.1 h2 with h3 | rfl
 ·exact h.none t h1 h3
 ·rw [hj]; intro e; exact hc (by simpa using e)

theorem CuttingC.out {d : UInt8} {s : B} {o : List B} {fr : Nat} (h : CuttingC d s o fr s.length) : cutc d s = o ++ [s.drop fr] := by
 rw [h.done]
 have := h.plain
 rw [List.take_length] at this
 rw [cutc_plain d _ this]

set_option maxRecDepth 100000 in
set_option maxHeartbeats 1000000 in
theorem refCutC_any (w : World) (d : UInt8) (dz : Int) (hdz : dz = d.toNat) (s : B) (hs : s.length ≤ 999999) :
  Calls Tryz.prog 156 #[S s, .int .u8 dz] w fun e w' => ∃ g cap, e = .returned (.slice (some ⟨g, 0, none⟩) (cutc d s).length cap) ∧ w'.ownsRow w.heap.size 9 1 (.slice (some ⟨g, 0, none⟩) (cutc d s).length cap) (cutc d s).length ((cutc d s).map S) ∧ Ext w w' := by
 have HDZ := Lib.hid hdz
 clear hdz
 go_enter Tryz.func156, Tryz.ntmps156
 go_wp2_with fail
 go_loopw [5, 6, 7] (fun v f i wr => ∃ (o : List B) (fr j : Nat), i = .int .i64 j ∧ f = .int .i64 fr ∧ Hid (CuttingC d s o fr j) ∧ Hid (Ext w wr) ∧ Hid (wr.ownsRow w.heap.size 9 1 v o.length (o.map S))) (fun _ _ i _ => s.length - (intOf i).toNat)
 case atStart => exact ⟨[], 0, 0, rfl, rfl, Lib.hid ⟨Nat.le_refl _, Nat.zero_le _, rfl, fun t _ h => absurd h (Nat.not_lt_zero _)⟩, Lib.hid (Only.refl _ _), Lib.hid (World.ownsRow_nil _ _ _ _)⟩
 case round =>
  obtain ⟨o, fr, j, rfl, rfl, HC, HX, HR⟩ := hrel
  have hle := HC.out.le
  have hlen := HC.out.len
  by_cases hlt : j < s.length
  ·have hltz : (j : Int) < (s.length : Int) := by omega
   obtain ⟨c, hc⟩ : ∃ c, s[j]? = some c := ⟨_, List.getElem?_eq_getElem hlt⟩
   have hg := ba_get hc
   have HCC := Lib.hid hc
   clear hc
   by_cases h47 : c = d
   ·subst h47
    have hz : ((c.toNat : Int) == dz) = true := by rw [HDZ.out]; simp
    have he := ba_mid s fr j
    obtain ⟨x, hx⟩ : ∃ x, x = (s.take j).drop fr := ⟨_, rfl⟩
    rw [← hx] at he
    have HXX := Lib.hid hx
    have hol := HC.out.olen
    have q1 : (0 : Int) ≤ (fr : Int) := by omega
    have q2 : (fr : Int) ≤ (j : Int) := by omega
    have q3 : (j : Int) ≤ (s.length : Int) := by omega
    clear hx
    go_wp2_with (at_builtin; refine wpList_text (.tmp 19) (.tmp 24) w.heap.size _ o x _ rfl rfl rfl rfl HR.out (by omega) HX.out.size ?_; intro g5 cap5 w5 ho5 hg5; have HX5 : Hid (Ext w w5) := Lib.hid (HX.out.trans hg5 (fun _ _ h => h) (fun k hk hq => absurd hk (by omega))); have HO5 := Lib.hid ho5; clear ho5 hg5)
    go_roundw
    case rel => exact ⟨o ++ [x], j + 1, j + 1, by go_num, by go_num, Lib.hid (by rw [HXX.out]; exact HC.out.hit HCC.out), HX5, Lib.hid (by rw [List.length_append]; exact HO5.out)⟩
    case measure => simp [intOf]; omega
   ·have hz : ((c.toNat : Int) == dz) = false := by
     refine beq_eq_false_iff_ne.2 fun e => h47 ?_
     rw [HDZ.out] at e
     exact UInt8.toNat_inj.1 (by omega)
    go_wp2_with fail
    go_roundw
    case rel => exact ⟨o, fr, j + 1, by go_num, rfl, Lib.hid (HC.out.miss HCC.out h47), HX, HR⟩
    case measure => simp [intOf]; omega
  ·have hltz : ¬ ((j : Int) < (s.length : Int)) := by omega
   have hj : j = s.length := by omega
   subst hj
   have he := ba_end s fr
   obtain ⟨x, hx⟩ : ∃ x, x = s.drop fr := ⟨_, rfl⟩
   rw [← hx] at he
   have hol := HC.out.olen
   have q1 : (0 : Int) ≤ (fr : Int) := by omega
   have q2 : (fr : Int) ≤ (s.length : Int) := by omega
   have hcut := HC.out.out
   rw [← hx] at hcut
   have HCU := Lib.hid hcut
   clear hx hcut
   go_wp2_with (at_builtin; refine wpList_text (.tmp 28) (.tmp 32) w.heap.size _ o x _ rfl rfl rfl rfl HR.out (by omega) HX.out.size ?_; intro g5 cap5 w5 ho5 hg5; have HX5 : Hid (Ext w w5) := Lib.hid (HX.out.trans hg5 (fun _ _ h => h) (fun k hk hq => absurd hk (by omega))); have HO5 := Lib.hid ho5; clear ho5 hg5)
   go_ret
   refine ⟨g5, cap5, ?_, ?_, HX5.out⟩
   ·rw [HCU.out, List.length_append]; rfl
   ·rw [HCU.out, List.length_append]; exact HO5.out


theorem splitC_any (w : World) (d : UInt8) (s : B) (hs : s.length ≤ 1000000) (hm : HasMax w) :
  Calls Tryz.prog 207 #[S s, .string ⟨#[d]⟩] w fun e w' => e = .returned (.slice (some ⟨w.heap.size, 0, none⟩) (cutc d s).length (cutc d s).length) ∧ w' = w.alloc (.cells ((cutc d s).map S).toArray 9) := by
 obtain ⟨m, hm⟩ := hm
 refine (Tryz.strings_Split ⟨s.toArray⟩ ⟨#[d]⟩ m w (by simp [ByteArray.size]; omega) hm (by simp [ByteArray.size])).mono ?_
 rintro e w' ⟨rfl, rfl⟩
 rw [splitB_cut_c, show Lib.countB ⟨s.toArray⟩ ⟨#[d]⟩ = s.count d from count_slash_c d s.length s (Nat.le_refl _), cutc_length]
 exact ⟨rfl, rfl⟩

def cut1 (d : UInt8) : B → B × B × Bool
 | [] => ([], [], false)
 | c :: r => if c = d then ([], r, true) else (c :: (cut1 d r).1, (cut1 d r).2.1, (cut1 d r).2.2)

theorem cut1_hit (d : UInt8) : ∀ (a b : B), d ∉ a → cut1 d (a ++ d :: b) = (a, b, true)
 | [], b, _ => by simp [cut1]
 | c :: r, b, h => by
  have hc : c ≠ d := fun e => h (by simp [e])
  rw [List.cons_append, cut1, if_neg hc, cut1_hit d r b (fun e => h (List.mem_cons_of_mem _ e))]

theorem cut1_miss (d : UInt8) : ∀ (a : B), d ∉ a → cut1 d a = (a, [], false)
 | [], _ => by simp [cut1]
 | c :: r, h => by
  have hc : c ≠ d := fun e => h (by simp [e])
  rw [cut1, if_neg hc, cut1_miss d r (fun e => h (List.mem_cons_of_mem _ e))]

theorem cut1_lib (d : UInt8) (s : B) : Lib.cut s [d] = cut1 d s := by
 unfold Lib.cut
 rcases first_slash_c d s with ⟨h, hm⟩ | ⟨o, ho, hlt, hs, hm⟩
 ·rw [h, if_neg (by decide), cut1_miss d s hm]
 ·rw [ho, if_pos (by omega)]
  have h1 := cut1_hit d (s.take o) (s.drop (o + 1)) hm
  rw [← hs] at h1
  rw [h1]
  rfl

theorem cut1_spec (d : UInt8) : ∀ s : B, d ∉ (cut1 d s).1 ∧ ((cut1 d s).2.2 = true → s = (cut1 d s).1 ++ d :: (cut1 d s).2.1) ∧ ((cut1 d s).2.2 = false → cut1 d s = (s, [], false) ∧ d ∉ s)
 | [] => by simp [cut1]
 | c :: r => by
  obtain ⟨h1, h2, h3⟩ := cut1_spec d r
  by_cases hc : c = d
  ·subst hc; simp [cut1]
  ·rw [cut1, if_neg hc]
   refine ⟨fun h => ?_, fun h => ?_, fun h => ?_⟩
   ·rcases List.mem_cons.1 h with e | e
    ·exact hc e.symm
    ·exact h1 e
   ·have := h2 h
    show c :: r = c :: ((cut1 d r).1 ++ d :: (cut1 d r).2.1)
    rw [← this]
   ·obtain ⟨e1, e2⟩ := h3 h
    refine ⟨by rw [e1], fun hm => ?_⟩
    rcases List.mem_cons.1 hm with e | e
    ·exact hc e.symm
    ·exact e2 e

theorem cut1_len (d : UInt8) : ∀ s : B, (cut1 d s).1.length ≤ s.length ∧ (cut1 d s).2.1.length ≤ s.length
 | [] => by simp [cut1]
 | c :: r => by
  have := cut1_len d r
  rw [cut1]
  split <;> simp <;> omega

theorem cutD_any (w : World) (d : UInt8) (s : B) (hs : s.length ≤ 1000000) (hm : HasMax w) :
  Calls Tryz.prog 203 #[S s, .string ⟨#[d]⟩] w fun e w' => e = .returned (.tuple #[S (cut1 d s).1, S (cut1 d s).2.1, .bool (cut1 d s).2.2]) ∧ Ext w w' := by
 obtain ⟨m, hm⟩ := hm
 refine (Tryz.strings_Cut ⟨s.toArray⟩ ⟨#[d]⟩ m w (by simp [ByteArray.size]; omega) hm).mono ?_
 rintro e w' ⟨rfl, n, rfl⟩
 have := cut1_lib d s
 refine ⟨?_, Only.drewN _ _ _⟩
 simp only [this]
end Go.Proofs.YtnmhaipjfpongacGreatDoor

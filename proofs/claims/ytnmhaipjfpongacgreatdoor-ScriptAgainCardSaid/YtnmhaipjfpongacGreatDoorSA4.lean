/- Texts of this seat laid together for one claim: Q5, Q6, T1, E3, Q8. No condition of its own: what each proves stands with its theorems. -/
import Derived.Test.YtnmhaipjfpongacGreatDoorSA3
import Derived.Test.YtnmhaipjfpongacGreatDoorSA1
import Derived.Deep.AppendLies
import Derived.Maps.AppendAt
import Derived.Lib.Hide
import Derived.Test.YtnmhaipjfpongacGreatDoorSA0
namespace Go.Proofs.YtnmhaipjfpongacGreatDoor
open Go.ChangeShapes Go.WideShapes Go.ChangeAt Go.RowKit
open Go.MapKept (heap_alloc)

theorem first_slash (s : B) : (Lib.index s [47] = -1 ∧ (47 : UInt8) ∉ s) ∨ ∃ o : Nat, Lib.index s [47] = o ∧ o < s.length ∧ s = s.take o ++ 47 :: s.drop (o + 1) ∧ (47 : UInt8) ∉ s.take o := by
 rw [index_slash]
 have hge := Lib.indexByte_ge s 47
 by_cases hm : Lib.indexByte s 47 = -1
 ·left
  refine ⟨hm, fun hx => ?_⟩
  obtain ⟨i, hi⟩ := List.getElem?_of_mem hx
  exact Lib.indexByte_none hm i hi
 ·right
  obtain ⟨o, ho⟩ := Int.eq_ofNat_of_zero_le (show 0 ≤ Lib.indexByte s 47 by omega)
  have ⟨h1, h2⟩ := Lib.indexByte_some ho
  have hlt : o < s.length := (List.getElem?_eq_some_iff.1 h1).1
  refine ⟨o, ho, hlt, ?_, ?_⟩
  ·have := (List.take_append_drop o s).symm
   rw [List.drop_eq_getElem_cons hlt] at this
   have e : s[o] = 47 := by rw [List.getElem?_eq_getElem hlt] at h1; simpa using h1
   rw [e] at this
   exact this
  ·intro hx
   obtain ⟨i, hi⟩ := List.getElem?_of_mem hx
   rw [List.getElem?_take] at hi
   split at hi
   ·rename_i hi2; exact h2 i hi2 hi
   ·cases hi

theorem count_slash : ∀ (n : Nat) (s : B), s.length ≤ n → Lib.count s [47] = s.count 47
 | n, s, hn => by
  rcases first_slash s with ⟨h, hm⟩ | ⟨o, ho, hlt, hs, hm⟩
  ·rw [Lib.count_miss h, List.count_eq_zero.2 hm]
  ·rw [Lib.count_hit (by simp) ho]
   cases n with
   | zero => omega
   | succ n =>
    have ih := count_slash n (s.drop (o + 1)) (by simp; omega)
    rw [show o + ([47] : B).length = o + 1 from rfl, ih]
    conv => rhs; rw [hs]
    rw [List.count_append, List.count_cons_self, List.count_eq_zero.2 hm]
    omega

theorem cut_length : ∀ (s : B), (cut s).length = s.count 47 + 1
 | [] => rfl
 | c :: r => by
  have ih := cut_length r
  rw [cut]
  split
  ·rename_i hc; subst hc; simp [ih]
  ·rename_i hc
   cases hr : cut r with
   | nil => exact absurd hr (cut_ne r)
   | cons x xs =>
    rw [hr] at ih
    have hc2 : (c == 47) = false := beq_eq_false_iff_ne.2 hc
    simp only [headOn, List.length_cons, List.count_cons, hc2] at ih ⊢
    simpa using ih

theorem splitB_cut (s : B) : (Lib.splitB ⟨#[47]⟩ 0 (Lib.countB ⟨s.toArray⟩ ⟨#[47]⟩) ⟨s.toArray⟩).map Value.string = (cut s).map S := by
 have h1 := Lib.splitB_data ⟨#[47]⟩ 0 (Lib.countB ⟨s.toArray⟩ ⟨#[47]⟩) ⟨s.toArray⟩
 have hc : Lib.countB ⟨s.toArray⟩ ⟨#[47]⟩ = s.count 47 := count_slash s.length s (Nat.le_refl _)
 rw [hc] at h1 ⊢
 have h2 : (Lib.splitB ⟨#[47]⟩ 0 (s.count 47) ⟨s.toArray⟩).map (·.data.toList) = cut s := by
  rw [h1]; exact splitK_cut _ s (Nat.le_refl _)
 rw [← h2, List.map_map]
 rfl

def HasMax (w : World) : Prop := ∃ m : Int, w.cell? ⟨14, 0, none⟩ = some (.int .i64 m)
theorem HasMax.ext {w w' : World} (h : HasMax w) (ho : Ext w w') : HasMax w' := by obtain ⟨m, hm⟩ := h; exact ⟨m, ho.cellOf hm (fun h => h)⟩

theorem split_any (w : World) (s : B) (hs : s.length ≤ 1000000) (hm : HasMax w) :
  Calls Tryz.prog 207 #[S s, .string ⟨#[47]⟩] w fun e w' => e = .returned (.slice (some ⟨w.heap.size, 0, none⟩) (cut s).length (cut s).length) ∧ w' = w.alloc (.cells ((cut s).map S).toArray 9) := by
 obtain ⟨m, hm⟩ := hm
 refine (Tryz.strings_Split ⟨s.toArray⟩ ⟨#[47]⟩ m w (by simp [ByteArray.size]; omega) hm (by decide)).mono ?_
 rintro e w' ⟨rfl, rfl⟩
 rw [splitB_cut, show Lib.countB ⟨s.toArray⟩ ⟨#[47]⟩ = s.count 47 from count_slash s.length s (Nat.le_refl _), cut_length]
 exact ⟨rfl, rfl⟩

def TestsX (g : Nat) (caps : Array Value) (p : B → Bool) (w : World) : Prop :=
 ∀ w1, Ext w w1 → ∀ x, Calls Tryz.prog g (#[S x] ++ caps) w1 fun e w' => e = .returned (.bool (p x)) ∧ Ext w1 w'

set_option maxHeartbeats 400000 in
theorem indexFunc_x (g : Nat) (x0 : Value) (p : B → Bool) (w : World) (v : Value) (l : List B) (hv : Rd S w v l) (eg : ∀ args w, (callFunc g args).run Tryz.prog w = .ok (.enter g args) w) (hp : TestsX g #[x0] p w) :
  Calls Tryz.prog 285 #[v, .func (.func g) #[] #[x0]] w fun e w' => (∃ r : Int, e = .returned (I r) ∧ (r ≥ 0 ↔ l.any p = true) ∧ -1 ≤ r) ∧ Ext w w' := by
 obtain ⟨a, cap, rfl, hcap, hm, hc⟩ := hv
 have hm' : l.length ≤ 9223372036854775807 := by unfold maxLen at hm; omega
 clear hm
 have HP := Lib.hid hp
 have HC := Lib.hid hc
 clear hp hc
 go_enter Tryz.func285, Tryz.ntmps285
 go_wp2
 go_loopw [8] (fun i wr => ∃ k : Nat, k ≤ l.length ∧ i = .int .i64 k ∧ Hid (∀ j x, j < k → l[j]? = some x → p x = false) ∧ Hid (Ext w wr)) (fun i _ => l.length + 1 - (intOf i).toNat)
 case atStart => exact ⟨0, Nat.zero_le _, rfl, Lib.hid (fun j x h => absurd h (Nat.not_lt_zero _)), Lib.hid (Only.refl _ _)⟩
 case round =>
  obtain ⟨k, hk, rfl, HB, HX⟩ := hrel
  by_cases hlt : k < l.length
  ·obtain ⟨b, off, rfl, hcell⟩ := HC.out (by intro h; rw [h] at hlt; simp at hlt)
   obtain ⟨x, hx⟩ : ∃ y, l[k]? = some y := ⟨_, List.getElem?_eq_getElem hlt⟩
   have hcl := HX.out.cellOf (hcell k x hx) (fun h => h)
   have hp1 := HP.out wr HX.out x
   have HXX := Lib.hid hx
   clear hcell hx
   cases hq : p x with
   | false =>
    rw [hq] at hp1
    have HQ := Lib.hid hq
    have HP1 := Lib.hid hp1
    clear hq hp1
    go_wp2_with fail
    refine HP1.out.mono ?_
    rintro e w' ⟨rfl, ho⟩
    have HX2 := Lib.hid (HX.out.ext ho)
    clear ho
    go_wp2
    go_roundw
    case rel => exact ⟨k + 1, by omega, by go_num, Lib.hid (fun j y hj hy => by
     rcases Nat.lt_succ_iff_lt_or_eq.1 hj with h | rfl
     ·exact HB.out j y h hy
     ·rw [HXX.out] at hy; cases hy; exact HQ.out), HX2⟩
    case measure => simp [intOf]; omega
   | true =>
    rw [hq] at hp1
    have HQ := Lib.hid hq
    have HP1 := Lib.hid hp1
    clear hq hp1
    go_wp2_with fail
    refine HP1.out.mono ?_
    rintro e w' ⟨rfl, ho⟩
    have HX2 := Lib.hid (HX.out.ext ho)
    clear ho
    go_wp2
    go_ret
    exact ⟨⟨k, rfl, ⟨fun _ => List.any_eq_true.2 ⟨x, List.mem_of_getElem? HXX.out, HQ.out⟩, fun _ => by omega⟩, by omega⟩, HX2.out⟩
  ·go_wp2
   go_ret
   refine ⟨⟨-1, rfl, ⟨fun h => by omega, fun h => ?_⟩, by omega⟩, HX.out⟩
   obtain ⟨x, hx, hpx⟩ : ∃ x, x ∈ l ∧ p x = true := by simpa using h
   obtain ⟨i, hi⟩ := List.getElem?_of_mem hx
   have := HB.out i x (by have := (List.getElem?_eq_some_iff.1 hi).1; omega) hi
   rw [this] at hpx; cases hpx

theorem containsFunc_x (g : Nat) (x0 : Value) (p : B → Bool) (w : World) (v : Value) (l : List B) (hv : Rd S w v l) (eg : ∀ args w, (callFunc g args).run Tryz.prog w = .ok (.enter g args) w) (hp : TestsX g #[x0] p w) :
  Calls Tryz.prog 228 #[v, .func (.func g) #[] #[x0]] w fun e w' => e = .returned (.bool (l.any p)) ∧ Ext w w' := by
 have hi := indexFunc_x g x0 p w v l hv eg hp
 obtain ⟨a, cap, rfl, hcap, hm, hc⟩ := hv
 obtain ⟨r0, hr0⟩ : ∃ r0, r0 = l.any p := ⟨_, rfl⟩
 rw [← hr0] at hi ⊢
 have HI := Lib.hid hi
 clear hi hc hp hm hr0 eg
 go_enter Tryz.func228, Tryz.ntmps228
 go_wp2_with fail
 refine HI.out.mono ?_
 rintro e w' ⟨⟨r, rfl, hr, hr1⟩, ho⟩
 have HO := Lib.hid ho
 clear ho
 cases r0 with
 | true =>
  have h0 : 0 ≤ r := hr.2 rfl
  clear hr
  go_wp2
  go_ret
  exact ⟨rfl, HO.out⟩
 | false =>
  have h0 : ¬ 0 ≤ r := fun h => by cases hr.1 h
  clear hr
  go_wp2
  go_ret
  exact ⟨by show Ending.returned (.bool (decide (0 ≤ r))) = _; rw [decide_eq_false (show ¬ 0 ≤ r by omega)], HO.out⟩

theorem parts1_any (w : World) (b : Nat) (st : Bool) (s : B) (h : w.cell? ⟨b, 0, none⟩ = some (.bool st)) :
  Calls Tryz.prog 229 #[S s, .pointer (some ⟨b, 0, none⟩)] w fun e w' => e = .returned (.bool (!nameOk st s)) ∧ Ext w w' := by
 have HN := Lib.hid (name_any w st s)
 go_enter Tryz.func229, Tryz.ntmps229
 go_wp2_with fail
 refine HN.out.mono ?_
 rintro e w' ⟨rfl, ho⟩
 have HO := Lib.hid ho
 clear ho
 go_wp2
 go_ret
 exact ⟨rfl, HO.out⟩

theorem enters_parts1 : ∀ args w, (callFunc 229 args).run Tryz.prog w = .ok (.enter 229 args) w := fun args w => by kernel_rfl

def LiesAt (w : World) (b : Nat) (l : List B) : Prop := ∃ t, w.heap[b]? = some (.cells (l.map S).toArray t (0, 0))
theorem LiesAt.ext {w w' : World} {b : Nat} {l : List B} (h : LiesAt w b l) (ho : Ext w w') : LiesAt w' b l := by obtain ⟨t, h⟩ := h; exact ⟨t, ho.heapOf h (fun h => h)⟩
theorem LiesAt.rd {w : World} {b : Nat} {l : List B} (h : LiesAt w b l) (hl : l.length ≤ maxLen) : Rd S w (.slice (some ⟨b, 0, none⟩) l.length l.length) l := by
 obtain ⟨t, h⟩ := h
 refine ⟨_, _, rfl, Nat.le_refl _, hl, fun _ => ⟨b, 0, rfl, fun i x hx => ?_⟩⟩
 rw [cell_of_heap h, Nat.zero_add]
 simp [hx]

def PartsIs (w : World) (st : Bool) (s : B) (e : Ending) (w' : World) : Prop :=
 Ext w w' ∧ ((partsOk st (cut s) = true ∧ ∃ b, e = .returned (.slice (some ⟨b, 0, none⟩) (cut s).length (cut s).length) ∧ LiesAt w' b (cut s)) ∨ (partsOk st (cut s) = false ∧ e = .returned (.slice none 0 0)))

theorem cut_len_le (s : B) : (cut s).length ≤ s.length + 1 := by rw [cut_length]; have := List.count_le_length (a := (47 : UInt8)) (l := s); omega

set_option maxRecDepth 100000 in
set_option maxHeartbeats 1000000 in
theorem parts_any (w : World) (st : Bool) (s : B) (hs : s.length ≤ 1000000) (hm : HasMax w) : Calls Tryz.prog 178 #[S s, .bool st] w (PartsIs w st s) := by
 have hcl := cut_len_le s
 have hA : Ext w (w.alloc (.cells #[.bool st] 4)) := Only.alloc _ _ _
 have hsz : (w.alloc (.cells #[.bool st] 4)).heap.size = w.heap.size + 1 := by simp
 have hspl := split_any _ s hs (hm.ext hA)
 have hcell := (cell_of_heap (heap_alloc w (.cells #[.bool st] 4)).1 0).trans (rfl : (#[Value.bool st] : Array Value)[0]? = some (.bool st))
 obtain ⟨w1, hW⟩ : ∃ w1, w.alloc (.cells #[.bool st] 4) = w1 := ⟨_, rfl⟩
 rw [hW] at hspl hcell hA hsz
 have hB : Ext w1 (w1.alloc (.cells ((cut s).map S).toArray 9)) := Only.alloc _ _ _
 have hL : LiesAt (w1.alloc (.cells ((cut s).map S).toArray 9)) w1.heap.size (cut s) := ⟨_, (heap_alloc w1 _).1⟩
 obtain ⟨w2, hW2⟩ : ∃ w2, w1.alloc (.cells ((cut s).map S).toArray 9) = w2 := ⟨_, rfl⟩
 rw [hW2] at hspl hB hL
 have hcon := containsFunc_x 229 (.pointer (some ⟨w.heap.size, 0, none⟩)) (fun x => !nameOk st x) w2 _ (cut s) (hL.rd (by unfold maxLen; omega)) enters_parts1
  (fun w3 h3 x => parts1_any w3 _ st x (h3.cellOf (hB.cellOf hcell (fun h => h)) (fun h => h)))
 obtain ⟨n, hn⟩ : ∃ n, n = (cut s).length := ⟨_, rfl⟩
 have hpk : partsOk st (cut s) = (decide (n ≤ 5) && !((cut s).any fun x => !nameOk st x)) := by rw [hn]; unfold partsOk; rw [List.all_eq_not_any_not]
 obtain ⟨q, hq⟩ : ∃ q, q = (cut s).any fun x => !nameOk st x := ⟨_, rfl⟩
 rw [← hq] at hpk hcon
 rw [← hn] at hspl hcon hcl
 have HS := Lib.hid hspl
 have HC := Lib.hid hcon
 have HL := Lib.hid hL
 have HE := Lib.hid (hA.ext hB)
 have HP := Lib.hid hpk
 have HN := Lib.hid hn
 clear hspl hcon hL hA hB hsz hcell hpk hq hn hm
 by_cases h5 : n ≤ 5
 ·have h5' : ¬ (5 < (n : Int)) := by omega
  go_enter Tryz.func178, Tryz.ntmps178
  go_wp2_with fail
  refine HS.out.mono ?_
  rintro e w' ⟨rfl, hw'⟩
  subst hw'
  clear hW HS
  go_wp2_with fail
  refine HC.out.mono ?_
  rintro e w' ⟨rfl, ho⟩
  have HO := Lib.hid (HE.out.ext ho)
  have HL2 := Lib.hid (HL.out.ext ho)
  clear ho HC HL HE
  cases q with
  | true =>
   go_wp2
   go_ret
   exact ⟨HO.out, .inr ⟨by rw [HP.out]; simp, rfl⟩⟩
  | false =>
   go_wp2
   go_ret
   exact ⟨HO.out, .inl ⟨by rw [HP.out]; simpa using h5, _, by rw [← HN.out]; rfl, HL2.out⟩⟩
 ·have h5' : (5 < (n : Int)) := by omega
  go_enter Tryz.func178, Tryz.ntmps178
  go_wp2_with fail
  refine HS.out.mono ?_
  rintro e w' ⟨rfl, hw'⟩
  subst hw'
  clear hW HS
  go_wp2
  go_ret
  exact ⟨HE.out, .inr ⟨by rw [HP.out]; simp [h5], rfl⟩⟩
end Go.Proofs.YtnmhaipjfpongacGreatDoor

namespace Go.Proofs.YtnmhaipjfpongacGreatDoor
open Go.ChangeShapes Go.WideShapes Go.ChangeAt Go.RowKit
open Go.MapKept (heap_alloc)

theorem ba_head (c : UInt8) (q : B) (h : 0 < (⟨(c :: q).toArray⟩ : ByteArray).size) : (⟨(c :: q).toArray⟩ : ByteArray)[0]'h = c := rfl
theorem ba_tail (c : UInt8) (q : B) : (⟨(c :: q).toArray⟩ : ByteArray).extract 1 (q.length + 1) = ⟨q.toArray⟩ := by
 apply ByteArray.ext
 apply Array.ext'
 rw [Lib.extract_data]
 simp

attribute [local go_sem] ba_head ba_tail

end Go.Proofs.YtnmhaipjfpongacGreatDoor

namespace Go.Proofs.YtnmhaipjfpongacGreatDoor
open Go.ChangeShapes Go.WideShapes Go.ChangeAt Go.RowKit

theorem infoText : (Tryz.prog.info? 9).map (fun i => (i.zero, i.size, i.bytes)) = some (some (.string ⟨#[]⟩), 1, 16) := by kernel_rfl

theorem wpList_text {ops : Array Oper} {rest : List Oper} {o : Oper} {a : Act} {Q : Exit → Act → World → Prop} (s x : Operand) (base : Nat) (v : Value) (l : List B) (k : B) (W : World) (hgd : o.guard = none)
  (ho : o.op = .call { callee := .builtin .append, args := #[s, x], argTypes := #[53, 53] }) (hs : a.eval s = v) (hx : a.eval x = .slice (some ⟨W.heap.size, 0, none⟩) 1 1)
  (hrow : W.ownsRow base 9 1 v l.length (l.map S)) (hl : l.length ≤ 1000000) (hbase : base ≤ W.heap.size)
  (hK : ∀ g cap w', w'.ownsRow base 9 1 (.slice (some ⟨g, 0, none⟩) (l.length + 1) cap) (l.length + 1) ((l ++ [k]).map S) → Only (fun i => base ≤ i) W w' →
   wpList Tryz.prog ops Q rest (a.put o.dst (.slice (some ⟨g, 0, none⟩) (l.length + 1) cap)) w') :
  wpList Tryz.prog ops Q (o :: rest) a (W.alloc (.cells #[S k] 9 (0, 0))) := by
 obtain ⟨i0, hi, hz0, hz1, hz2⟩ := info_parts infoText
 refine wpList_append_lies _ hgd s x 53 ho base 9 i0 (.string ⟨#[]⟩) 1 16 Tryz.underlying53 hi hz0 hz1 hz2 rfl (by decide) v l.length (l.map S) hs (hrow.alloc _) ⟨W.heap.size, 0, none⟩ 1 1 [S k] hx rfl
  (cell_one_new _ _ _) ?_ (by decide) ?_ ?_ ?_ (W.heap.size + 1) (by simp) ?_
 ·intro u hu; simp at hu; subst hu; rfl
 ·unfold maxLen; omega
 ·omega
 ·simp; omega
 ·intro g cap w' hown hg _ _
  refine hK g cap w' (by simpa using hown) ((Only.alloc _ W _).thenGrown hg fun i hi => .inl ?_)
  rcases hrow.2 with ⟨rfl, _⟩ | ⟨g0, cap0, cur, rfl, hg0, _⟩
  ·cases hi
  ·have e : g0 = i := by simpa [Value.ownBlock] using hi
   omega

theorem ba_mid (l : B) (a b : Nat) : (⟨l.toArray⟩ : ByteArray).extract a b = ⟨((l.take b).drop a).toArray⟩ := by
 apply ByteArray.ext
 apply Array.ext'
 rw [Lib.extract_data]
 show ((l.drop a).take (b - a)) = _
 rw [List.drop_take]

theorem ba_get {l : B} {j : Nat} {c : UInt8} (h : l[j]? = some c) : ∀ hh : j < (⟨l.toArray⟩ : ByteArray).size, (⟨l.toArray⟩ : ByteArray)[j]'hh = c := fun hh => by
 obtain ⟨h1, h2⟩ := List.getElem?_eq_some_iff.1 h
 rw [← h2]; rfl

theorem ba_end (l : B) (k : Nat) : (⟨l.toArray⟩ : ByteArray).extract k l.length = ⟨(l.drop k).toArray⟩ := by
 rw [ba_mid, List.take_length]

structure Cutting (s : B) (o : List B) (fr j : Nat) : Prop where
 le : fr ≤ j
 len : j ≤ s.length
 done : cut s = o ++ cut (s.drop fr)
 none : ∀ t, fr ≤ t → t < j → s[t]? ≠ some 47

theorem Cutting.olen {s : B} {o : List B} {fr j : Nat} (h : Cutting s o fr j) : o.length ≤ s.length := by
 have h1 := congrArg List.length h.done
 have h2 := cut_len_le s
 have h3 := cut_pos (s.drop fr)
 rw [List.length_append] at h1
 omega

theorem Cutting.plain {s : B} {o : List B} {fr j : Nat} (h : Cutting s o fr j) : (47 : UInt8) ∉ (s.take j).drop fr := by
 intro hm
 obtain ⟨i, hi⟩ := List.getElem?_of_mem hm
 rw [List.getElem?_drop, List.getElem?_take] at hi
 split at hi
 ·rename_i hlt
  exact h.none (fr + i) (by omega) hlt hi
 ·cases hi

theorem Cutting.hit {s : B} {o : List B} {fr j : Nat} (h : Cutting s o fr j) (hj : s[j]? = some 47) : Cutting s (o ++ [(s.take j).drop fr]) (j + 1) (j + 1) := by
 obtain ⟨hlt, he⟩ := List.getElem?_eq_some_iff.1 hj
 refine ⟨Nat.le_refl _, hlt, ?_, fun t h1 h2 => absurd h2 (by omega)⟩
 have hs : s.drop fr = (s.take j).drop fr ++ 47 :: s.drop (j + 1) := by
  have h1 : s = s.take j ++ s.drop j := (List.take_append_drop j s).symm
  rw [List.drop_eq_getElem_cons hlt, he] at h1
  conv => lhs; rw [h1]
  rw [List.drop_append_of_le_length (by rw [List.length_take]; have := h.le; omega)]
 rw [h.done, hs, cut_app _ _ h.plain]
 simp

theorem Cutting.miss {s : B} {o : List B} {fr j : Nat} {c : UInt8} (h : Cutting s o fr j) (hj : s[j]? = some c) (hc : c ≠ 47) : Cutting s o fr (j + 1) := by
 have hlt := (List.getElem?_eq_some_iff.1 hj).1
 refine ⟨by have := h.le; omega, hlt, h.done, fun t h1 h2 => ?_⟩
 rcases Nat.lt_succ_iff_lt_or_eq.1 h2 with h3 | rfl
 ·exact h.none t h1 h3
 ·rw [hj]; intro e; exact hc (by simpa using e)

theorem Cutting.out {s : B} {o : List B} {fr : Nat} (h : Cutting s o fr s.length) : cut s = o ++ [s.drop fr] := by
 rw [h.done]
 have := h.plain
 rw [List.take_length] at this
 rw [cut_plain _ this]

set_option maxRecDepth 100000 in
set_option maxHeartbeats 1000000 in
theorem refCut_any (w : World) (s : B) (hs : s.length ≤ 999999) :
  Calls Tryz.prog 156 #[S s, .int .u8 47] w fun e w' => ∃ g cap, e = .returned (.slice (some ⟨g, 0, none⟩) (cut s).length cap) ∧ w'.ownsRow w.heap.size 9 1 (.slice (some ⟨g, 0, none⟩) (cut s).length cap) (cut s).length ((cut s).map S) ∧ Ext w w' := by
 go_enter Tryz.func156, Tryz.ntmps156
 go_wp2_with fail
 go_loopw [5, 6, 7] (fun v f i wr => ∃ (o : List B) (fr j : Nat), i = .int .i64 j ∧ f = .int .i64 fr ∧ Hid (Cutting s o fr j) ∧ Hid (Ext w wr) ∧ Hid (wr.ownsRow w.heap.size 9 1 v o.length (o.map S))) (fun _ _ i _ => s.length - (intOf i).toNat)
 case atStart => exact ⟨[], 0, 0, rfl, rfl, Lib.hid ⟨Nat.le_refl _, Nat.zero_le _, rfl, fun t _ h => absurd h (Nat.not_lt_zero _)⟩, Lib.hid (Only.refl _ _), Lib.hid (World.ownsRow_nil _ _ _ _)⟩
 case round =>
  obtain ⟨o, fr, j, rfl, rfl, HC, HX, HR⟩ := hrel
  have hle := HC.out.le
  have hlen := HC.out.len
  by_cases hlt : j < s.length
  ·have hltz : (j : Int) < (s.length : Int) := by omega
   obtain ⟨c, hc⟩ : ∃ c, s[j]? = some c := ⟨_, List.getElem?_eq_getElem hlt⟩
   have hg := ba_get hc
   have HCC := Lib.hid hc
   clear hc
   by_cases h47 : c = 47
   ·subst h47
    have he := ba_mid s fr j
    obtain ⟨x, hx⟩ : ∃ x, x = (s.take j).drop fr := ⟨_, rfl⟩
    rw [← hx] at he
    have HXX := Lib.hid hx
    have hol := HC.out.olen
    have q1 : (0 : Int) ≤ (fr : Int) := by omega
    have q2 : (fr : Int) ≤ (j : Int) := by omega
    have q3 : (j : Int) ≤ (s.length : Int) := by omega
    clear hx
    go_wp2_with (at_builtin; refine wpList_text (.tmp 19) (.tmp 24) w.heap.size _ o x _ rfl rfl rfl rfl HR.out (by omega) HX.out.size ?_; intro g5 cap5 w5 ho5 hg5; have HX5 : Hid (Ext w w5) := Lib.hid (HX.out.trans hg5 (fun _ _ h => h) (fun k hk hq => absurd hk (by omega))); have HO5 := Lib.hid ho5; clear ho5 hg5)
    go_roundw
    case rel => exact ⟨o ++ [x], j + 1, j + 1, by go_num, by go_num, Lib.hid (by rw [HXX.out]; exact HC.out.hit HCC.out), HX5, Lib.hid (by rw [List.length_append]; exact HO5.out)⟩
    case measure => simp [intOf]; omega
   ·have hz : ((c.toNat : Int) == 47) = false := by
     refine beq_eq_false_iff_ne.2 fun e => h47 ?_
     have e2 : c.toNat = (47 : UInt8).toNat := by rw [show (47 : UInt8).toNat = 47 from rfl]; omega
     exact UInt8.toNat_inj.1 e2
    go_wp2_with fail
    go_roundw
    case rel => exact ⟨o, fr, j + 1, by go_num, rfl, Lib.hid (HC.out.miss HCC.out h47), HX, HR⟩
    case measure => simp [intOf]; omega
  ·have hltz : ¬ ((j : Int) < (s.length : Int)) := by omega
   have hj : j = s.length := by omega
   subst hj
   have he := ba_end s fr
   obtain ⟨x, hx⟩ : ∃ x, x = s.drop fr := ⟨_, rfl⟩
   rw [← hx] at he
   have hol := HC.out.olen
   have q1 : (0 : Int) ≤ (fr : Int) := by omega
   have q2 : (fr : Int) ≤ (s.length : Int) := by omega
   have hcut := HC.out.out
   rw [← hx] at hcut
   have HCU := Lib.hid hcut
   clear hx hcut
   go_wp2_with (at_builtin; refine wpList_text (.tmp 28) (.tmp 32) w.heap.size _ o x _ rfl rfl rfl rfl HR.out (by omega) HX.out.size ?_; intro g5 cap5 w5 ho5 hg5; have HX5 : Hid (Ext w w5) := Lib.hid (HX.out.trans hg5 (fun _ _ h => h) (fun k hk hq => absurd hk (by omega))); have HO5 := Lib.hid ho5; clear ho5 hg5)
   go_ret
   refine ⟨g5, cap5, ?_, ?_, HX5.out⟩
   ·rw [HCU.out, List.length_append]; rfl
   ·rw [HCU.out, List.length_append]; exact HO5.out
end Go.Proofs.YtnmhaipjfpongacGreatDoor

namespace Go.Proofs.YtnmhaipjfpongacGreatDoor
open Go.ChangeShapes Go.WideShapes Go.ChangeAt Go.RowKit

def errVars : List Nat := [8, 2, 0, 9, 10, 1, 3, 4, 7, 11, 6, 5]

abbrev errV (a : Addr) : Value := .iface 390 (.pointer (some a))

structure Sents (w : World) (p : Nat → Addr) : Prop where
 var : ∀ i g, errVars[i]? = some g → w.cell? ⟨g, 0, none⟩ = some (errV (p i))
 row : ∀ i, i < 12 → ∃ c t, w.heap[(p i).block]? = some (.cells c t (0, 0))
 apart : ∀ i j, i < 12 → j < 12 → p i = p j → i = j
 typ : w.cell? ⟨12, 0, none⟩ = some errType

theorem Sents.ext {w w' : World} {p : Nat → Addr} (h : Sents w p) (ho : Ext w w') : Sents w' p :=
 ⟨fun i g hg => ho.cellOf (h.var i g hg) (fun h => h), fun i hi => by obtain ⟨c, t, hc⟩ := h.row i hi; exact ⟨c, t, ho.heapOf hc (fun h => h)⟩, h.apart, ho.cellOf h.typ (fun h => h)⟩

structure Errs (w : World) (p : Nat → Addr) (L : List Nat) : Prop where
 var : ∀ i g, i ∈ L → errVars[i]? = some g → w.cell? ⟨g, 0, none⟩ = some (errV (p i))
theorem Errs.ext {w w' : World} {p : Nat → Addr} {L : List Nat} (h : Errs w p L) (ho : Ext w w') : Errs w' p L := ⟨fun i g hi hg => ho.cellOf (h.var i g hi hg) (fun h => h)⟩
theorem Errs.sub {w : World} {p : Nat → Addr} {L K : List Nat} (h : Errs w p L) (hk : ∀ i ∈ K, i ∈ L) : Errs w p K := ⟨fun i g hi hg => h.var i g (hk i hi) hg⟩
theorem Sents.errs {w : World} {p : Nat → Addr} (h : Sents w p) (L : List Nat) : Errs w p L := ⟨fun i g _ hg => h.var i g hg⟩

theorem cell_set_same (w : World) (b : Nat) (v : Value) {old : Value} {a : Addr} (h : w.cell? a = some old) (ha : a = ⟨b, 0, none⟩) : (w.setCell a v).cell? ⟨b, 0, none⟩ = some v := by
 subst ha
 unfold World.cell? at h ⊢
 simp only [World.setCell, Array.getElem?_modify, if_true]
 cases hh : w.heap[b]? with
 | none => rw [hh] at h; cases h
 | some o =>
  rw [hh] at h
  cases o with
  | cells c e fr =>
   simp at h
   have hl : 0 < c.size := (Array.getElem?_eq_some_iff.1 h).1
   simp [hl]
  | _ => cases h

end Go.Proofs.YtnmhaipjfpongacGreatDoor

namespace Go.Proofs.YtnmhaipjfpongacGreatDoor
open Go.ChangeShapes Go.WideShapes Go.ChangeAt Go.RowKit
open Go.MapKept (heap_alloc)
theorem eqNil_some (a : Addr) (n c : Nat) (w : World) : (binOp .eql 53 (.slice (some a) n c) (.slice none 0 0)).run Tryz.prog w = .ok (.bool false) w := by kernel_rfl
theorem eqNil_none (w : World) : (binOp .eql 53 (.slice none 0 0) (.slice none 0 0)).run Tryz.prog w = .ok (.bool true) w := by kernel_rfl

attribute [local go_sem] eqNil_some eqNil_none

set_option maxRecDepth 100000 in
theorem check_any (w : World) (s : B) (a : Addr) (hs : s.length ≤ 1000000) (hm : HasMax w) (he : w.cell? ⟨9, 0, none⟩ = some (errV a)) :
  Calls Tryz.prog 112 #[S s] w fun e w' => e = .returned (if pathOk s then .nilIface else errV a) ∧ Ext w w' := by
 have HP := Lib.hid (parts_any w false s hs hm)
 have HE := Lib.hid he
 clear he hm hs
 obtain ⟨r, hr⟩ : ∃ r, r = pathOk s := ⟨_, rfl⟩
 rw [← hr]
 have HR := Lib.hid hr
 clear hr
 go_enter Tryz.func112, Tryz.ntmps112
 go_wp2_with fail
 refine HP.out.mono ?_
 rintro e w' ⟨ho, ⟨hok, b, rfl, hl⟩ | ⟨hok, rfl⟩⟩
 ·have HO := Lib.hid ho
  have hr : r = true := HR.out.trans hok
  subst hr
  clear ho hl hok
  go_wp2
  go_ret
  exact ⟨rfl, HO.out⟩
 ·have HO := Lib.hid ho
  have hr : r = false := HR.out.trans hok
  subst hr
  have he := ho.cellOf HE.out (fun h => h)
  clear ho hok
  go_wp2
  go_ret
  exact ⟨rfl, HO.out⟩

end Go.Proofs.YtnmhaipjfpongacGreatDoor

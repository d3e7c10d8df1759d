/- Texts of this seat laid together for one claim: F2. No condition of its own: what each proves stands with its theorems. -/
import Derived.Laws.IdiomStrings
import Derived.Sort.OwnSorted
import Derived.Test.YtnmhaipjfpongabGreatDoorPS14
namespace Go.Proofs.YtnmhaipjfpongabGreatDoor
open Go.ChangeShapes Go.WideShapes Go.ChangeAt Go.RowKit Go.Sort

theorem encStr_S : encStr = S := rfl

def InPlace (base : Nat) (v r : Value) (l : List B) (w : World) (e : Ending) (w' : World) : Prop := e = .returned r ∧ Row base w' v l ∧ Only (fun i => v.ownBlock = some i) w w'

theorem sort_row (w : World) (base : Nat) (v : Value) (l : List B) (h : Row base w v l) (hl : l.length ≤ 1000000) :
  Calls Tryz.prog 109 #[v] w (InPlace base v (.tuple #[]) (sortB l) w) := by
 rcases h.2 with ⟨rfl, h0⟩ | ⟨g, cap, cur, rfl, hb, hh, h1, h2, h3, h4⟩
 ·cases l with
  | cons x l => simp at h0
  | nil =>
   refine (Tryz.slices_Sort_string_none none 0 w).mono ?_
   rintro e w' ⟨rfl, rfl⟩
   have e : sortB [] = [] := List.mergeSort_nil
   rw [e]
   exact ⟨rfl, Row.nil _ _, Only.refl _ _⟩
 ·rw [Nat.mul_one] at h4
  refine (Tryz.slices_Sort_string g 0 cap l w (holds_of_block hh h4) (lt_of_heap hh) (by omega)).mono ?_
  rintro e w' ⟨rfl, n, os, rfl⟩
  have hlen : (sortB l).length = l.length := List.length_mergeSort _
  have hr := ownsRow_sorted (os := os) (n := n) (ss := l) (ts := sortB l) hlen hb hh h1 h2 h3
  refine ⟨rfl, ?_, (Only.of_grown (grownBy_sorted _)).mono fun i _ e => e⟩
  show World.ownsRow _ _ _ _ _ (sortB l).length _
  rw [hlen]
  exact hr

def CompactIs (base : Nat) (v : Value) (l : List B) (w : World) (e : Ending) (w' : World) : Prop := ∃ v', e = .returned v' ∧ Row base w' v' l ∧ Only (fun i => v.ownBlock = some i) w w'

theorem compact_row (w : World) (base : Nat) (v : Value) (l : List B) (h : Row base w v l) (hl : l.length ≤ 1000000) :
  Calls Tryz.prog 110 #[v] w (CompactIs base v (Lib.compact l) w) := by
 rcases h.2 with ⟨rfl, h0⟩ | ⟨g, cap, cur, rfl, hb, hh, h1, h2, h3, h4⟩
 ·cases l with
  | cons x l => simp at h0
  | nil =>
   refine (Tryz.slices_Compact_string_empty none 0 w).mono ?_
   rintro e w' ⟨rfl, rfl⟩
   exact ⟨_, rfl, Row.nil _ _, Only.refl _ _⟩
 ·rw [Nat.mul_one] at h4
  refine (Tryz.slices_Compact_string g 0 cap l w (holds_of_block hh h4) (by omega) h1).mono ?_
  rintro e w' ⟨rfl, q, rfl⟩
  have hle : (Lib.compact l).length ≤ l.length := Lib.compact_length_le l
  have hh2 := heap_sorted (n := q) (os := #[]) (Lib.compact l ++ List.replicate (l.length - (Lib.compact l).length) []).toArray hh
  rw [grow_empty] at hh2
  have ho := (Only.of_grown (grownBy_sorted (w := w) (g := g) (n := q) (os := #[]) (Lib.compact l ++ List.replicate (l.length - (Lib.compact l).length) []).toArray)).mono fun i _ e => e
  rw [grow_empty] at ho
  refine ⟨_, rfl, ⟨by simp, .inr ⟨g, cap, _, rfl, hb, hh2, by omega, h2, by simp [putCells, h3], ?_⟩⟩, ho⟩
  have := take_putCells cur (Lib.compact l ++ List.replicate (l.length - (Lib.compact l).length) []) (by simp; omega)
  have h5 := congrArg (List.take (Lib.compact l).length) this
  rw [List.take_take, List.length_append, Nat.min_eq_left (by omega), List.map_append, List.take_append_of_le_length (by simp)] at h5
  rw [Nat.mul_one, h5, encStr_S, List.take_of_length_le (by simp)]

structure Upping (w0 wr : World) (g : Nat) (s : B) (j : Nat) : Prop where
 ext : Ext w0 wr
 new : w0.heap.size ≤ g
 row : ∃ cur k, wr.heap[g]? = some (.cells cur 5 (k, k + 1)) ∧ s.length ≤ k ∧ s.length ≤ cur.size ∧ ∀ (i : Nat) c, s[i]? = some c → cur[i]? = some (.int .u8 ((if i < j then upB c else c).toNat))

theorem Upping.at {w0 wr : World} {g : Nat} {s : B} {j : Nat} (h : Upping w0 wr g s j) {c : UInt8} (hc : s[j]? = some c) : wr.cell? ⟨g, j, none⟩ = some (.int .u8 c.toNat) ∧ wr.frozen? ⟨g, j, none⟩ = false := by
 obtain ⟨cur, k, hh, hk, _, hr⟩ := h.row
 have hj := (List.getElem?_eq_some_iff.1 hc).1
 refine ⟨?_, ?_⟩
 ·rw [cell_of_heap hh, hr j c hc, if_neg (Nat.lt_irrefl _)]
 ·simp [World.frozen?, hh]; omega

theorem Upping.skip {w0 wr : World} {g : Nat} {s : B} {j : Nat} (h : Upping w0 wr g s j) {c : UInt8} (hc : s[j]? = some c) (hu : upB c = c) : Upping w0 wr g s (j + 1) := by
 obtain ⟨cur, k, hh, hk, hs, hr⟩ := h.row
 refine ⟨h.ext, h.new, cur, k, hh, hk, hs, fun i d hd => ?_⟩
 rw [hr i d hd]
 by_cases h1 : i < j
 ·rw [if_pos h1, if_pos (by omega)]
 ·rw [if_neg h1]
  by_cases h2 : i = j
  ·subst h2
   rw [hc] at hd
   cases hd
   rw [if_pos (Nat.lt_succ_self _), hu]
  ·rw [if_neg (by omega)]

theorem Upping.put {w0 wr : World} {g : Nat} {s : B} {j : Nat} (h : Upping w0 wr g s j) {c : UInt8} (hc : s[j]? = some c) {z : Int} (hz : z = (upB c).toNat) : Upping w0 (wr.setCell ⟨g, j, none⟩ (.int .u8 z)) g s (j + 1) := by
 subst hz
 obtain ⟨cur, k, hh, hk, hs, hr⟩ := h.row
 have hj := (List.getElem?_eq_some_iff.1 hc).1
 refine ⟨h.ext.thenSet _ (.inr h.new), h.new, _, k, heap_setCell_same hh j _, hk, by simpa using hs, fun i d hd => ?_⟩
 rw [Array.getElem?_setIfInBounds]
 by_cases h2 : j = i
 ·subst h2
  rw [hc] at hd
  cases hd
  rw [if_pos rfl, if_pos (by omega), if_pos (Nat.lt_succ_self _)]
 ·rw [if_neg h2, hr i d hd]
  by_cases h1 : i < j
  ·rw [if_pos h1, if_pos (by omega)]
  ·rw [if_neg h1, if_neg (by omega)]

theorem Upping.start (w : World) (s : B) : Upping w (Lib.bytesWorld w 5 ⟨s.toArray⟩) w.heap.size s 0 := by
 have hh := Lib.bytesWorld_at_new w 5 ⟨s.toArray⟩
 have hs : s.length ≤ (Lib.bytesCells w 5 ⟨s.toArray⟩).size := by simp [Lib.bytesCells]
 refine ⟨ext_bytes _ _ _, Nat.le_refl _, _, _, hh, hs, hs, fun i c hc => ?_⟩
 have hi := (List.getElem?_eq_some_iff.1 hc).1
 rw [if_neg (Nat.not_lt_zero _)]
 unfold Lib.bytesCells
 rw [Array.getElem?_append, if_pos (by simpa using hi)]
 simp [hc]

theorem Upping.done {w0 wr : World} {g : Nat} {s : B} (h : Upping w0 wr g s s.length) (cap : Nat) : (convert 150 9 (.slice (some ⟨g, 0, none⟩) s.length cap)).run Tryz.prog wr = .ok (S (s.map upB)) wr := by
 obtain ⟨cur, k, hh, hk, hs, hr⟩ := h.row
 have := run_convert_bytes_back (P := Tryz.prog) wr 150 9 5 ⟨g, 0, none⟩ cap (s.map upB) Tryz.underlying150 Tryz.underlying5 Tryz.underlying9 (fun j hj => by
  have hj' : j < s.length := by simpa using hj
  have h1 := hr j s[j] (List.getElem?_eq_getElem hj')
  rw [if_pos hj'] at h1
  rw [addrAdd, Nat.zero_add, cell_of_heap hh, h1]
  simp)
 simpa using this

theorem rd_head {w : World} {v : Value} {x : B} {l : List B} (h : Rd S w v (x :: l)) : ∃ b off cap, v = .slice (some ⟨b, off, none⟩) (l.length + 1) cap ∧ w.cell? ⟨b, off, none⟩ = some (S x) ∧ l.length + 1 ≤ 9223372036854775807 := by
 obtain ⟨a, cap, rfl, hcap, hml, hc⟩ := h
 obtain ⟨b, off, rfl, hcell⟩ := hc (by simp)
 exact ⟨b, off, cap, rfl, by simpa using hcell 0 x rfl, by unfold maxLen at hml; simp at hcap; omega⟩

set_option maxRecDepth 100000 in
set_option maxHeartbeats 2000000 in
theorem upper_any (w : World) (wd x : B) (l : List B) (v : Value) (hv : Rd S w v (x :: l)) (hx : x.length ≤ 100000000) :
  Calls Tryz.prog 163 #[S wd, v] w (RetE (S (x.map upB)) w) := by
 obtain ⟨b, off, cap, rfl, hc, hln⟩ := rd_head hv
 have hlz : (0 : Int) < ((l.length + 1 : Nat) : Int) := by omega
 have HCV := Lib.run_convert_string_bytes (P := Tryz.prog) w 9 150 5 ⟨x.toArray⟩ Tryz.underlying9 Tryz.underlying150 Tryz.underlying5
 have HU := Lib.hid (Upping.start w x)
 have hsz : (⟨x.toArray⟩ : ByteArray).size = x.length := by simp [ByteArray.size]
 rw [hsz] at HCV
 clear hv hsz
 go_enter Tryz.func163, Tryz.ntmps163
 go_wp2_with fail
 generalize Lib.bytesWorld w 5 ⟨x.toArray⟩ = w1 at HU ⊢
 generalize grownCap w x.length 0 5 = cp
 generalize w.heap.size = g at HU ⊢
 clear HCV
 go_loopw [6, 7, 14] (fun _ _ i wr => ∃ j : Nat, j ≤ x.length ∧ i = .int .i64 j ∧ Hid (Upping w wr g x j)) (fun _ _ i _ => x.length - (intOf i).toNat)
 case atStart => exact ⟨0, Nat.zero_le _, rfl, HU⟩
 case round =>
  obtain ⟨j, hj, rfl, HU⟩ := hrel
  by_cases hlt : j < x.length
  ·have hltz : (j : Int) < (x.length : Int) := by omega
   obtain ⟨c, hq⟩ : ∃ y, x[j]? = some y := ⟨_, List.getElem?_eq_getElem hlt⟩
   have d0 := (HU.out.at hq).1
   have f0 := (HU.out.at hq).2
   have HQ := Lib.hid hq
   clear hq
   by_cases h1 : 97 ≤ c.toNat ∧ c.toNat ≤ 122
   ·obtain ⟨h1, h2⟩ := h1
    have h1z : (97 : Int) ≤ (c.toNat : Int) := by omega
    have h2z : (c.toNat : Int) ≤ 122 := by omega
    go_wp2_with fail
    go_roundw
    case rel => exact ⟨j + 1, by omega, by go_num, Lib.hid (HU.out.put HQ.out (by unfold upB; rw [if_pos ⟨h1, h2⟩]; simp [UInt8.toNat_add, UInt8.toNat_sub]; omega))⟩
    case measure => simp [intOf]; omega
   ·have hu : upB c = c := if_neg h1
    by_cases h2 : 97 ≤ c.toNat
    ·have h1z : (97 : Int) ≤ (c.toNat : Int) := by omega
     have h2z : ¬ (c.toNat : Int) ≤ 122 := by omega
     have HUU := Lib.hid hu
     clear h1 hu
     go_wp2_with fail
     go_roundw
     case rel => exact ⟨j + 1, by omega, by go_num, Lib.hid (HU.out.skip HQ.out HUU.out)⟩
     case measure => simp [intOf]; omega
    ·have h1z : ¬ (97 : Int) ≤ (c.toNat : Int) := by omega
     have HUU := Lib.hid hu
     clear h1 hu
     go_wp2_with fail
     go_roundw
     case rel => exact ⟨j + 1, by omega, by go_num, Lib.hid (HU.out.skip HQ.out HUU.out)⟩
     case measure => simp [intOf]; omega
  ·have hltz : ¬ ((j : Int) < (x.length : Int)) := by omega
   obtain rfl : j = x.length := by omega
   have hcv := HU.out.done cp
   go_wp2_with fail
   go_ret
   exact ⟨rfl, HU.out.ext⟩
end Go.Proofs.YtnmhaipjfpongabGreatDoor

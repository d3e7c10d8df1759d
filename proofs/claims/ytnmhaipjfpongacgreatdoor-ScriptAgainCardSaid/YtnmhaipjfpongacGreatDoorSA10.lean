/- Texts of this seat laid together for one claim: F1, F2. No condition of its own: what each proves stands with its theorems. -/
import Derived.Test.YtnmhaipjfpongacGreatDoorSA9
import Derived.Laws.IdiomStrings
import Derived.Sort.OwnSorted
namespace Go.Proofs.YtnmhaipjfpongacGreatDoor
open Go.ChangeShapes Go.WideShapes Go.ChangeAt Go.RowKit

theorem row_fresh {w : World} {base g : Nat} {l : List B} (h : w.heap[g]? = some (.cells (l.map S).toArray 9 (0, 0))) (hb : base ≤ g) (hl : l.length ≤ maxLen) : Row base w (.slice (some ⟨g, 0, none⟩) l.length l.length) l :=
 ⟨by simp, .inr ⟨g, l.length, _, rfl, hb, h, Nat.le_refl _, hl, by simp, by simp [List.take_of_length_le]⟩⟩

def SplitIs (w : World) (i : List B) (x : B) (e : Ending) (w' : World) : Prop :=
 ∃ g, e = .returned (.slice (some ⟨g, 0, none⟩) (i.length + 1) (i.length + 1)) ∧ Ext w w' ∧ w'.cell? ⟨g, i.length, none⟩ = some (S x) ∧ Row w.heap.size w' (.slice (some ⟨g, 0, none⟩) (i.length + 1) (i.length + 1)) (i ++ [x])

theorem split_is (w : World) (d : UInt8) (s : B) (hs : s.length ≤ 900000) (hm : HasMax w) {i : List B} {x : B} (h : cutc d s = i ++ [x]) :
  Calls Tryz.prog 207 #[S s, .string ⟨#[d]⟩] w (SplitIs w i x) := by
 have hle := cutc_len_le d s
 refine (splitC_any w d s (by omega) hm).mono ?_
 rintro e w' ⟨rfl, rfl⟩
 rw [h] at hle ⊢
 have hh := (MapKept.heap_alloc w (.cells ((i ++ [x]).map S).toArray 9 (0, 0))).1
 have hr := row_fresh (base := w.heap.size) hh (Nat.le_refl _) (by unfold maxLen; omega)
 rw [List.length_append] at hr ⊢
 exact ⟨w.heap.size, rfl, Only.alloc _ _ _, (cell_of_heap hh _).trans (by simp), hr⟩

theorem Row.take {base g n cap : Nat} {w : World} {l : List B} (h : Row base w (.slice (some ⟨g, 0, none⟩) n cap) l) (m : Nat) (hm : m ≤ l.length) : Row base w (.slice (some ⟨g, 0, none⟩) m cap) (l.take m) := by
 have hn : n = l.length := by
  obtain ⟨_, h2⟩ := h
  rcases h2 with ⟨h2, _⟩ | ⟨_, _, _, hv, _⟩
  ·cases h2
  ·cases hv; rfl
 subst hn
 have := row_take h m hm (ys := (l.take m).map S) (by rw [List.map_take])
 show World.ownsRow _ _ _ _ _ (l.take m).length _
 rw [List.length_take, Nat.min_eq_left hm]
 exact this

def RetRowS (l : List B) (w : World) (e : Ending) (w' : World) : Prop := ∃ g cap, e = .returned (.slice (some ⟨g, 0, none⟩) l.length cap) ∧ Ext w w' ∧ Row w.heap.size w' (.slice (some ⟨g, 0, none⟩) l.length cap) l

set_option maxRecDepth 100000 in
set_option maxHeartbeats 1000000 in
theorem linesS_any (w : World) (s : B) (hs : s.length ≤ 900000) (hm : HasMax w) :
  Calls Tryz.prog 300 #[S s] w (RetRowS (linesB s) w) := by
 have hle := cutc_len_le 10 s
 obtain ⟨i, x, hix⟩ : ∃ i x, cutc 10 s = i ++ [x] := ⟨_, _, (List.dropLast_concat_getLast (cutc_ne 10 s)).symm⟩
 have HSP := Lib.hid (split_is w 10 s hs hm hix)
 have hlb : linesB s = if x = [] then i else i ++ [x] := by unfold linesB; rw [hix]; simp
 rw [hlb]
 have hil : (i.length : Int) ≤ 1000000 := by rw [hix] at hle; simp at hle; omega
 have hi0 : (0 : Int) ≤ (i.length : Int) := by omega
 by_cases hx : x = []
 ·have hxq : (x == []) = true := beq_iff_eq.2 hx
  rw [if_pos hx]
  clear hle hix hlb hs hm hx
  go_enter Tryz.func300, Tryz.ntmps300
  go_wp2_with fail
  refine (HSP.out).mono ?_
  rintro e w1 ⟨g, rfl, ho, hc, hr⟩
  have HO := Lib.hid ho
  have HR := Lib.hid hr
  have HC := Lib.hid hc
  clear ho hr hc
  have hc := HC.out
  go_wp2_with fail
  go_ret
  exact ⟨_, _, rfl, HO.out, by simpa using HR.out.take i.length (by simp)⟩
 ·have hxq : (x == []) = false := beq_eq_false_iff_ne.2 hx
  rw [if_neg hx]
  clear hle hix hlb hs hm hx
  go_enter Tryz.func300, Tryz.ntmps300
  go_wp2_with fail
  refine (HSP.out).mono ?_
  rintro e w1 ⟨g, rfl, ho, hc, hr⟩
  have HO := Lib.hid ho
  have HR := Lib.hid hr
  have HC := Lib.hid hc
  clear ho hr hc
  have hc := HC.out
  go_wp2_with fail
  go_ret
  exact ⟨g, i.length + 1, by simp, HO.out, by simpa using HR.out⟩

theorem lines_any (w : World) (s : B) (hs : s.length ≤ 900000) (hm : HasMax w) :
  Calls Tryz.prog 300 #[S s] w (RetRow (linesB s) w) :=
 (linesS_any w s hs hm).mono fun _ _ ⟨_, _, h1, h2, h3⟩ => ⟨_, h1, h2, h3⟩

theorem ba_10 (x : B) : ((⟨x.toArray⟩ : ByteArray) ++ ⟨#[10]⟩) = ⟨(x ++ [10]).toArray⟩ := ba_app x [10]

set_option maxRecDepth 100000 in
set_option maxHeartbeats 2000000 in
theorem ended_any (w : World) (v : Value) (l : List B) (hv : Rd S w v l) (hb : (endedB l).length ≤ 100000000) :
  Calls Tryz.prog 299 #[v] w (RetE (S (endedB l)) w) := by
 have hx : ∀ x ∈ l, x.length ≤ 100000000 := fun x h => Nat.le_trans (ended_mem h) hb
 have hb : ∀ j, (endedB (l.take j)).length ≤ 100000000 := fun j => Nat.le_trans (ended_sub (List.take_sublist _ _)) hb
 obtain ⟨T, hT⟩ : ∃ T, Hid (T = endedB l) := ⟨_, Lib.hid rfl⟩
 rw [← hT.out]
 obtain ⟨a, cap, rfl, hcap, hml, hc⟩ := hv
 have hlm : (l.length : Int) ≤ 9223372036854775807 := by unfold maxLen at hml; omega
 have HC := Lib.hid hc
 have HBD := Lib.hid hb
 have HXL := Lib.hid hx
 clear hc hb hx
 clear hcap hml
 go_enter Tryz.func299, Tryz.ntmps299
 go_wp2_with fail
 have HB0 : Hid (IsBF w.heap.size w.heap.size [] (w.alloc (.cells #[.pointer none, .slice none 0 0] 169 (0, 0)))) := Lib.hid (IsBF.fresh w)
 have HX0 : Hid (Ext w (w.alloc (.cells #[.pointer none, .slice none 0 0] 169 (0, 0)))) := Lib.hid (Only.alloc _ _ _)
 generalize hw1 : w.alloc (.cells #[.pointer none, .slice none 0 0] 169 (0, 0)) = w1 at HB0 HX0 ⊢
 obtain ⟨bb, hbE⟩ : ∃ b, b = w.heap.size := ⟨_, rfl⟩
 have HB1 : Hid (IsBF w.heap.size bb [] w1) := by rw [hbE]; exact HB0
 rw [← hbE]
 clear hbE HB0 hw1
 go_loopw [5, 8] (fun _ i wr => ∃ j : Nat, j ≤ l.length ∧ i = .int .i64 j ∧ Hid (Ext w wr) ∧ Hid (IsBF w.heap.size bb (endedB (l.take j)) wr)) (fun _ i _ => l.length - (intOf i).toNat)
 case atStart => exact ⟨0, Nat.zero_le _, rfl, HX0, HB1⟩
 case round =>
  obtain ⟨j, hj, rfl, HX, HB⟩ := hrel
  by_cases hlt : j < l.length
  ·have hltz : (j : Int) < (l.length : Int) := by omega
   obtain ⟨b0, off, rfl, hcell⟩ := HC.out (by intro h; rw [h] at hlt; simp at hlt)
   obtain ⟨x, hq⟩ : ∃ y, l[j]? = some y := ⟨_, List.getElem?_eq_getElem hlt⟩
   have d0 : wr.cell? ⟨b0, off + j, none⟩ = some (S x) := HX.out.cellOf (hcell j x hq) (fun h => h)
   have hxl := HXL.out x (List.mem_of_getElem? hq)
   have q1 : ¬ 9223372036854775807 < x.length + 1 := by omega
   have HST := Lib.hid (ended_step hq)
   have HBA := Lib.hid (ba_10 x)
   have HL : Hid ((endedB (l.take j)).length + (x ++ [10]).length ≤ 140737488355328) := Lib.hid (by have := HBD.out j; simp; omega)
   clear hcell hq hxl
   go_wp2_with fail
   rw [HBA.out]
   refine (writeK_any w.heap.size bb _ (x ++ [10]) _ HB.out HL.out HX.out.size).mono ?_
   rintro e w6 ⟨rfl, hb6, hbl, _⟩
   have HX6 := Lib.hid (ext_below HX.out hbl)
   have HB6 := Lib.hid hb6
   clear hb6 hbl
   go_wp2_with fail
   go_roundw
   case rel => exact ⟨j + 1, by omega, by go_num, HX6, Lib.hid (by rw [HST.out]; exact HB6.out)⟩
   case measure => simp [intOf]; omega
  ·have hltz : ¬ ((j : Int) < (l.length : Int)) := by omega
   have ht : l.take j = l := List.take_of_length_le (by omega)
   rw [ht, ← hT.out] at HB
   go_wp2_with fail
   refine (Tryz.Builder_String_any_k w.heap.size bb T wr HB.out HX.out.size).mono ?_
   rintro e w6 ⟨rfl, _, hbl, _⟩
   have HX6 := Lib.hid (ext_below HX.out hbl)
   clear hbl
   go_wp2_with fail
   go_ret
   exact ⟨rfl, HX6.out⟩

set_option maxRecDepth 100000 in
set_option maxHeartbeats 2000000 in
theorem all_any (w : World) (v : Value) (l : List B) (hv : Rd S w v l) (hb : sumLen l + l.length ≤ 900000) (hm : HasMax w) :
  Calls Tryz.prog 303 #[v] w (RetRow (allB l) w) := by
 have hlen : ∀ j, (allB (l.take j)).length ≤ 900000 := fun j => by
  have h1 := len_ended (allB (l.take j))
  have h2 := ended_all (l.take j)
  have h3 := sum_take l j
  have h4 : (l.take j).length ≤ l.length := List.length_take_le' _ _
  omega
 obtain ⟨a, cap, rfl, hcap, hml, hc⟩ := hv
 have hlm : (l.length : Int) ≤ 9223372036854775807 := by unfold maxLen at hml; omega
 have HX : Hid (∀ x ∈ l, x.length ≤ 900000) := Lib.hid fun x h => by have := sum_mem h; omega
 have HC := Lib.hid hc
 have HLN := Lib.hid hlen
 have HM := Lib.hid hm
 clear hc hlen hm
 clear hcap hml hb
 go_enter Tryz.func303, Tryz.ntmps303
 go_wp2_with fail
 go_loopw [3, 5, 8] (fun o _ i wr => ∃ j : Nat, j ≤ l.length ∧ i = .int .i64 j ∧ Hid (Ext w wr) ∧ Hid (Row w.heap.size wr o (allB (l.take j)))) (fun _ _ i _ => l.length - (intOf i).toNat)
 case atStart => exact ⟨0, Nat.zero_le _, rfl, Lib.hid (Only.refl _ _), Lib.hid (Row.nil _ _)⟩
 case round =>
  obtain ⟨j, hj, rfl, HXX, HR⟩ := hrel
  by_cases hlt : j < l.length
  ·have hltz : (j : Int) < (l.length : Int) := by omega
   obtain ⟨b0, off, rfl, hcell⟩ := HC.out (by intro h; rw [h] at hlt; simp at hlt)
   obtain ⟨x, hq⟩ : ∃ y, l[j]? = some y := ⟨_, List.getElem?_eq_getElem hlt⟩
   have d0 : wr.cell? ⟨b0, off + j, none⟩ = some (S x) := HXX.out.cellOf (hcell j x hq) (fun h => h)
   have HLI := Lib.hid (lines_any wr x (HX.out x (List.mem_of_getElem? hq)) (HM.out.ext HXX.out))
   have hst := all_step hq
   have hl1 := HLN.out (j + 1)
   rw [hst, List.length_append] at hl1
   have HL1 := Lib.hid hl1
   have HST := Lib.hid hst
   obtain ⟨A, hA⟩ : ∃ A, A = allB (l.take j) := ⟨_, rfl⟩
   rw [← hA] at HR HL1 HST
   clear hcell hq hst hl1 hA
   go_wp2_with fail
   refine (HLI.out).mono ?_
   rintro e w2 ⟨v2, rfl, ho, hr2⟩
   have HX2 := Lib.hid (HXX.out.then ho)
   have HRA := Lib.hid (HR.out.ext ho)
   have HRB := Lib.hid hr2
   clear hr2 ho
   go_wp2_with (at_builtin; refine wpTexts rfl _ _ w w.heap.size _ _ A (linesB x) w2 rfl rfl rfl rfl HRB.out.rd HRB.out.nz HRA.out (by have := HL1.out; omega) HX2.out.size HX2.out (Nat.le_refl _) ?_; intro ao m cp w3 hm3 HR3 HX3 _; have HM3 := Lib.hid hm3; clear hm3)
   go_roundw
   case rel => exact ⟨j + 1, by omega, by go_num, HX3, Lib.hid (by rw [HST.out]; exact HR3.out)⟩
   case measure => simp [intOf]; omega
  ·have hltz : ¬ ((j : Int) < (l.length : Int)) := by omega
   have ht : l.take j = l := List.take_of_length_le (by omega)
   rw [ht] at HR
   go_wp2_with fail
   go_ret
   exact ⟨_, rfl, HXX.out, HR.out⟩
end Go.Proofs.YtnmhaipjfpongacGreatDoor

namespace Go.Proofs.YtnmhaipjfpongacGreatDoor
open Go.ChangeShapes Go.WideShapes Go.ChangeAt Go.RowKit Go.Sort

theorem encStr_S : encStr = S := rfl

def InPlace (base : Nat) (v r : Value) (l : List B) (w : World) (e : Ending) (w' : World) : Prop := e = .returned r ∧ Row base w' v l ∧ Only (fun i => v.ownBlock = some i) w w'

theorem sort_row (w : World) (base : Nat) (v : Value) (l : List B) (h : Row base w v l) (hl : l.length ≤ 1000000) :
  Calls Tryz.prog 115 #[v] w (InPlace base v (.tuple #[]) (sortB l) w) := by
 rcases h.2 with ⟨rfl, h0⟩ | ⟨g, cap, cur, rfl, hb, hh, h1, h2, h3, h4⟩
 ·cases l with
  | cons x l => simp at h0
  | nil =>
   refine (Tryz.slices_Sort_string_none none 0 w).mono ?_
   rintro e w' ⟨rfl, rfl⟩
   have e : sortB [] = [] := List.mergeSort_nil
   rw [e]
   exact ⟨rfl, Row.nil _ _, Only.refl _ _⟩
 ·rw [Nat.mul_one] at h4
  refine (Tryz.slices_Sort_string g 0 cap l w (holds_of_block hh h4) (lt_of_heap hh) (by omega)).mono ?_
  rintro e w' ⟨rfl, n, os, rfl⟩
  have hlen : (sortB l).length = l.length := List.length_mergeSort _
  have hr := ownsRow_sorted (os := os) (n := n) (ss := l) (ts := sortB l) hlen hb hh h1 h2 h3
  refine ⟨rfl, ?_, (Only.of_grown (grownBy_sorted _)).mono fun i _ e => e⟩
  show World.ownsRow _ _ _ _ _ (sortB l).length _
  rw [hlen]
  exact hr

def CompactIs (base : Nat) (v : Value) (l : List B) (w : World) (e : Ending) (w' : World) : Prop := ∃ v', e = .returned v' ∧ Row base w' v' l ∧ Only (fun i => v.ownBlock = some i) w w'

theorem compact_row (w : World) (base : Nat) (v : Value) (l : List B) (h : Row base w v l) (hl : l.length ≤ 1000000) :
  Calls Tryz.prog 270 #[v] w (CompactIs base v (Lib.compact l) w) := by
 rcases h.2 with ⟨rfl, h0⟩ | ⟨g, cap, cur, rfl, hb, hh, h1, h2, h3, h4⟩
 ·cases l with
  | cons x l => simp at h0
  | nil =>
   refine (Tryz.slices_Compact_string_empty none 0 w).mono ?_
   rintro e w' ⟨rfl, rfl⟩
   exact ⟨_, rfl, Row.nil _ _, Only.refl _ _⟩
 ·rw [Nat.mul_one] at h4
  refine (Tryz.slices_Compact_string g 0 cap l w (holds_of_block hh h4) (by omega) h1).mono ?_
  rintro e w' ⟨rfl, q, rfl⟩
  have hle : (Lib.compact l).length ≤ l.length := Lib.compact_length_le l
  have hh2 := heap_sorted (n := q) (os := #[]) (Lib.compact l ++ List.replicate (l.length - (Lib.compact l).length) []).toArray hh
  rw [grow_empty] at hh2
  have ho := (Only.of_grown (grownBy_sorted (w := w) (g := g) (n := q) (os := #[]) (Lib.compact l ++ List.replicate (l.length - (Lib.compact l).length) []).toArray)).mono fun i _ e => e
  rw [grow_empty] at ho
  refine ⟨_, rfl, ⟨by simp, .inr ⟨g, cap, _, rfl, hb, hh2, by omega, h2, by simp [putCells, h3], ?_⟩⟩, ho⟩
  have := take_putCells cur (Lib.compact l ++ List.replicate (l.length - (Lib.compact l).length) []) (by simp; omega)
  have h5 := congrArg (List.take (Lib.compact l).length) this
  rw [List.take_take, List.length_append, Nat.min_eq_left (by omega), List.map_append, List.take_append_of_le_length (by simp)] at h5
  rw [Nat.mul_one, h5, encStr_S, List.take_of_length_le (by simp)]

structure Upping (w0 wr : World) (g : Nat) (s : B) (j : Nat) : Prop where
 ext : Ext w0 wr
 new : w0.heap.size ≤ g
 row : ∃ cur k, wr.heap[g]? = some (.cells cur 5 (k, k + 1)) ∧ s.length ≤ k ∧ s.length ≤ cur.size ∧ ∀ (i : Nat) c, s[i]? = some c → cur[i]? = some (.int .u8 ((if i < j then upB c else c).toNat))

theorem Upping.at {w0 wr : World} {g : Nat} {s : B} {j : Nat} (h : Upping w0 wr g s j) {c : UInt8} (hc : s[j]? = some c) : wr.cell? ⟨g, j, none⟩ = some (.int .u8 c.toNat) ∧ wr.frozen? ⟨g, j, none⟩ = false := by
 obtain ⟨cur, k, hh, hk, _, hr⟩ := h.row
 have hj := (List.getElem?_eq_some_iff.1 hc).1
 refine ⟨?_, ?_⟩
 ·rw [cell_of_heap hh, hr j c hc, if_neg (Nat.lt_irrefl _)]
 ·simp [World.frozen?, hh]; omega

theorem Upping.skip {w0 wr : World} {g : Nat} {s : B} {j : Nat} (h : Upping w0 wr g s j) {c : UInt8} (hc : s[j]? = some c) (hu : upB c = c) : Upping w0 wr g s (j + 1) := by
 obtain ⟨cur, k, hh, hk, hs, hr⟩ := h.row
 refine ⟨h.ext, h.new, cur, k, hh, hk, hs, fun i d hd => ?_⟩
 rw [hr i d hd]
 by_cases h1 : i < j
 ·rw [if_pos h1, if_pos (by omega)]
 ·rw [if_neg h1]
  by_cases h2 : i = j
  ·subst h2
   rw [hc] at hd
   cases hd
   rw [if_pos (Nat.lt_succ_self _), hu]
  ·rw [if_neg (by omega)]

theorem Upping.put {w0 wr : World} {g : Nat} {s : B} {j : Nat} (h : Upping w0 wr g s j) {c : UInt8} (hc : s[j]? = some c) {z : Int} (hz : z = (upB c).toNat) : Upping w0 (wr.setCell ⟨g, j, none⟩ (.int .u8 z)) g s (j + 1) := by
 subst hz
 obtain ⟨cur, k, hh, hk, hs, hr⟩ := h.row
 have hj := (List.getElem?_eq_some_iff.1 hc).1
 refine ⟨h.ext.thenSet _ (.inr h.new), h.new, _, k, heap_setCell_same hh j _, hk, by simpa using hs, fun i d hd => ?_⟩
 rw [Array.getElem?_setIfInBounds]
 by_cases h2 : j = i
 ·subst h2
  rw [hc] at hd
  cases hd
  rw [if_pos rfl, if_pos (by omega), if_pos (Nat.lt_succ_self _)]
 ·rw [if_neg h2, hr i d hd]
  by_cases h1 : i < j
  ·rw [if_pos h1, if_pos (by omega)]
  ·rw [if_neg h1, if_neg (by omega)]

theorem Upping.start (w : World) (s : B) : Upping w (Lib.bytesWorld w 5 ⟨s.toArray⟩) w.heap.size s 0 := by
 have hh := Lib.bytesWorld_at_new w 5 ⟨s.toArray⟩
 have hs : s.length ≤ (Lib.bytesCells w 5 ⟨s.toArray⟩).size := by simp [Lib.bytesCells]
 refine ⟨ext_bytes _ _ _, Nat.le_refl _, _, _, hh, hs, hs, fun i c hc => ?_⟩
 have hi := (List.getElem?_eq_some_iff.1 hc).1
 rw [if_neg (Nat.not_lt_zero _)]
 unfold Lib.bytesCells
 rw [Array.getElem?_append, if_pos (by simpa using hi)]
 simp [hc]

theorem Upping.done {w0 wr : World} {g : Nat} {s : B} (h : Upping w0 wr g s s.length) (cap : Nat) : (convert 167 9 (.slice (some ⟨g, 0, none⟩) s.length cap)).run Tryz.prog wr = .ok (S (s.map upB)) wr := by
 obtain ⟨cur, k, hh, hk, hs, hr⟩ := h.row
 have := run_convert_bytes_back (P := Tryz.prog) wr 167 9 5 ⟨g, 0, none⟩ cap (s.map upB) Tryz.underlying167 Tryz.underlying5 Tryz.underlying9 (fun j hj => by
  have hj' : j < s.length := by simpa using hj
  have h1 := hr j s[j] (List.getElem?_eq_getElem hj')
  rw [if_pos hj'] at h1
  rw [addrAdd, Nat.zero_add, cell_of_heap hh, h1]
  simp)
 simpa using this

theorem rd_head {w : World} {v : Value} {x : B} {l : List B} (h : Rd S w v (x :: l)) : ∃ b off cap, v = .slice (some ⟨b, off, none⟩) (l.length + 1) cap ∧ w.cell? ⟨b, off, none⟩ = some (S x) ∧ l.length + 1 ≤ 9223372036854775807 := by
 obtain ⟨a, cap, rfl, hcap, hml, hc⟩ := h
 obtain ⟨b, off, rfl, hcell⟩ := hc (by simp)
 exact ⟨b, off, cap, rfl, by simpa using hcell 0 x rfl, by unfold maxLen at hml; simp at hcap; omega⟩

set_option maxRecDepth 100000 in
set_option maxHeartbeats 2000000 in
theorem upper_any (w : World) (wd x : B) (l : List B) (v : Value) (hv : Rd S w v (x :: l)) (hx : x.length ≤ 100000000) :
  Calls Tryz.prog 259 #[S wd, v] w (RetE (S (x.map upB)) w) := by
 obtain ⟨b, off, cap, rfl, hc, hln⟩ := rd_head hv
 have hlz : (0 : Int) < ((l.length + 1 : Nat) : Int) := by omega
 have HCV := Lib.run_convert_string_bytes (P := Tryz.prog) w 9 167 5 ⟨x.toArray⟩ Tryz.underlying9 Tryz.underlying167 Tryz.underlying5
 have HU := Lib.hid (Upping.start w x)
 have hsz : (⟨x.toArray⟩ : ByteArray).size = x.length := by simp [ByteArray.size]
 rw [hsz] at HCV
 clear hv hsz
 go_enter Tryz.func259, Tryz.ntmps259
 go_wp2_with fail
 generalize Lib.bytesWorld w 5 ⟨x.toArray⟩ = w1 at HU ⊢
 generalize grownCap w x.length 0 5 = cp
 generalize w.heap.size = g at HU ⊢
 clear HCV
 go_loopw [6, 7, 14] (fun _ _ i wr => ∃ j : Nat, j ≤ x.length ∧ i = .int .i64 j ∧ Hid (Upping w wr g x j)) (fun _ _ i _ => x.length - (intOf i).toNat)
 case atStart => exact ⟨0, Nat.zero_le _, rfl, HU⟩
 case round =>
  obtain ⟨j, hj, rfl, HU⟩ := hrel
  by_cases hlt : j < x.length
  ·have hltz : (j : Int) < (x.length : Int) := by omega
   obtain ⟨c, hq⟩ : ∃ y, x[j]? = some y := ⟨_, List.getElem?_eq_getElem hlt⟩
   have d0 := (HU.out.at hq).1
   have f0 := (HU.out.at hq).2
   have HQ := Lib.hid hq
   clear hq
   by_cases h1 : 97 ≤ c.toNat ∧ c.toNat ≤ 122
   ·obtain ⟨h1, h2⟩ := h1
    have h1z : (97 : Int) ≤ (c.toNat : Int) := by omega
    have h2z : (c.toNat : Int) ≤ 122 := by omega
    go_wp2_with fail
    go_roundw
    case rel => exact ⟨j + 1, by omega, by go_num, Lib.hid (HU.out.put HQ.out (by unfold upB; rw [if_pos ⟨h1, h2⟩]; simp [UInt8.toNat_add, UInt8.toNat_sub]; omega))⟩
    case measure => simp [intOf]; omega
   ·have hu : upB c = c := if_neg h1
    by_cases h2 : 97 ≤ c.toNat
    ·have h1z : (97 : Int) ≤ (c.toNat : Int) := by omega
     have h2z : ¬ (c.toNat : Int) ≤ 122 := by omega
     have HUU := Lib.hid hu
     clear h1 hu
     go_wp2_with fail
     go_roundw
     case rel => exact ⟨j + 1, by omega, by go_num, Lib.hid (HU.out.skip HQ.out HUU.out)⟩
     case measure => simp [intOf]; omega
    ·have h1z : ¬ (97 : Int) ≤ (c.toNat : Int) := by omega
     have HUU := Lib.hid hu
     clear h1 hu
     go_wp2_with fail
     go_roundw
     case rel => exact ⟨j + 1, by omega, by go_num, Lib.hid (HU.out.skip HQ.out HUU.out)⟩
     case measure => simp [intOf]; omega
  ·have hltz : ¬ ((j : Int) < (x.length : Int)) := by omega
   obtain rfl : j = x.length := by omega
   have hcv := HU.out.done cp
   go_wp2_with fail
   go_ret
   exact ⟨rfl, HU.out.ext⟩
end Go.Proofs.YtnmhaipjfpongacGreatDoor

/- Texts of this seat laid together for one claim: F1. No condition of its own: what each proves stands with its theorems. -/
import Derived.Test.YtnmhaipjfpongabGreatDoorPS13
namespace Go.Proofs.YtnmhaipjfpongabGreatDoor
open Go.ChangeShapes Go.WideShapes Go.ChangeAt Go.RowKit

theorem row_fresh {w : World} {base g : Nat} {l : List B} (h : w.heap[g]? = some (.cells (l.map S).toArray 9 (0, 0))) (hb : base ≤ g) (hl : l.length ≤ maxLen) : Row base w (.slice (some ⟨g, 0, none⟩) l.length l.length) l :=
 ⟨by simp, .inr ⟨g, l.length, _, rfl, hb, h, Nat.le_refl _, hl, by simp, by simp [List.take_of_length_le]⟩⟩

def SplitIs (w : World) (i : List B) (x : B) (e : Ending) (w' : World) : Prop :=
 ∃ g, e = .returned (.slice (some ⟨g, 0, none⟩) (i.length + 1) (i.length + 1)) ∧ Ext w w' ∧ w'.cell? ⟨g, i.length, none⟩ = some (S x) ∧ Row w.heap.size w' (.slice (some ⟨g, 0, none⟩) (i.length + 1) (i.length + 1)) (i ++ [x])

theorem split_is (w : World) (d : UInt8) (s : B) (hs : s.length ≤ 900000) (hm : HasMax w) {i : List B} {x : B} (h : cutc d s = i ++ [x]) :
  Calls Tryz.prog 134 #[S s, .string ⟨#[d]⟩] w (SplitIs w i x) := by
 have hle := cutc_len_le d s
 refine (splitC_any w d s (by omega) hm).mono ?_
 rintro e w' ⟨rfl, rfl⟩
 rw [h] at hle ⊢
 have hh := (MapKept.heap_alloc w (.cells ((i ++ [x]).map S).toArray 9 (0, 0))).1
 have hr := row_fresh (base := w.heap.size) hh (Nat.le_refl _) (by unfold maxLen; omega)
 rw [List.length_append] at hr ⊢
 exact ⟨w.heap.size, rfl, Only.alloc _ _ _, (cell_of_heap hh _).trans (by simp), hr⟩

theorem Row.take {base g n cap : Nat} {w : World} {l : List B} (h : Row base w (.slice (some ⟨g, 0, none⟩) n cap) l) (m : Nat) (hm : m ≤ l.length) : Row base w (.slice (some ⟨g, 0, none⟩) m cap) (l.take m) := by
 have hn : n = l.length := by
  obtain ⟨_, h2⟩ := h
  rcases h2 with ⟨h2, _⟩ | ⟨_, _, _, hv, _⟩
  ·cases h2
  ·cases hv; rfl
 subst hn
 have := row_take h m hm (ys := (l.take m).map S) (by rw [List.map_take])
 show World.ownsRow _ _ _ _ _ (l.take m).length _
 rw [List.length_take, Nat.min_eq_left hm]
 exact this

def RetRowS (l : List B) (w : World) (e : Ending) (w' : World) : Prop := ∃ g cap, e = .returned (.slice (some ⟨g, 0, none⟩) l.length cap) ∧ Ext w w' ∧ Row w.heap.size w' (.slice (some ⟨g, 0, none⟩) l.length cap) l

set_option maxRecDepth 100000 in
set_option maxHeartbeats 1000000 in
theorem linesS_any (w : World) (s : B) (hs : s.length ≤ 900000) (hm : HasMax w) :
  Calls Tryz.prog 228 #[S s] w (RetRowS (linesB s) w) := by
 have hle := cutc_len_le 10 s
 obtain ⟨i, x, hix⟩ : ∃ i x, cutc 10 s = i ++ [x] := ⟨_, _, (List.dropLast_concat_getLast (cutc_ne 10 s)).symm⟩
 have HSP := Lib.hid (split_is w 10 s hs hm hix)
 have hlb : linesB s = if x = [] then i else i ++ [x] := by unfold linesB; rw [hix]; simp
 rw [hlb]
 have hil : (i.length : Int) ≤ 1000000 := by rw [hix] at hle; simp at hle; omega
 have hi0 : (0 : Int) ≤ (i.length : Int) := by omega
 by_cases hx : x = []
 ·have hxq : (x == []) = true := beq_iff_eq.2 hx
  rw [if_pos hx]
  clear hle hix hlb hs hm hx
  go_enter Tryz.func228, Tryz.ntmps228
  go_wp2_with fail
  refine (HSP.out).mono ?_
  rintro e w1 ⟨g, rfl, ho, hc, hr⟩
  have HO := Lib.hid ho
  have HR := Lib.hid hr
  have HC := Lib.hid hc
  clear ho hr hc
  have hc := HC.out
  go_wp2_with fail
  go_ret
  exact ⟨_, _, rfl, HO.out, by simpa using HR.out.take i.length (by simp)⟩
 ·have hxq : (x == []) = false := beq_eq_false_iff_ne.2 hx
  rw [if_neg hx]
  clear hle hix hlb hs hm hx
  go_enter Tryz.func228, Tryz.ntmps228
  go_wp2_with fail
  refine (HSP.out).mono ?_
  rintro e w1 ⟨g, rfl, ho, hc, hr⟩
  have HO := Lib.hid ho
  have HR := Lib.hid hr
  have HC := Lib.hid hc
  clear ho hr hc
  have hc := HC.out
  go_wp2_with fail
  go_ret
  exact ⟨g, i.length + 1, by simp, HO.out, by simpa using HR.out⟩

theorem lines_any (w : World) (s : B) (hs : s.length ≤ 900000) (hm : HasMax w) :
  Calls Tryz.prog 228 #[S s] w (RetRow (linesB s) w) :=
 (linesS_any w s hs hm).mono fun _ _ ⟨_, _, h1, h2, h3⟩ => ⟨_, h1, h2, h3⟩

theorem ba_10 (x : B) : ((⟨x.toArray⟩ : ByteArray) ++ ⟨#[10]⟩) = ⟨(x ++ [10]).toArray⟩ := ba_app x [10]

set_option maxRecDepth 100000 in
set_option maxHeartbeats 2000000 in
theorem ended_any (w : World) (v : Value) (l : List B) (hv : Rd S w v l) (hb : (endedB l).length ≤ 100000000) :
  Calls Tryz.prog 226 #[v] w (RetE (S (endedB l)) w) := by
 have hx : ∀ x ∈ l, x.length ≤ 100000000 := fun x h => Nat.le_trans (ended_mem h) hb
 have hb : ∀ j, (endedB (l.take j)).length ≤ 100000000 := fun j => Nat.le_trans (ended_sub (List.take_sublist _ _)) hb
 obtain ⟨T, hT⟩ : ∃ T, Hid (T = endedB l) := ⟨_, Lib.hid rfl⟩
 rw [← hT.out]
 obtain ⟨a, cap, rfl, hcap, hml, hc⟩ := hv
 have hlm : (l.length : Int) ≤ 9223372036854775807 := by unfold maxLen at hml; omega
 have HC := Lib.hid hc
 have HBD := Lib.hid hb
 have HXL := Lib.hid hx
 clear hc hb hx
 clear hcap hml
 go_enter Tryz.func226, Tryz.ntmps226
 go_wp2_with fail
 have HB0 : Hid (IsBF w.heap.size w.heap.size [] (w.alloc (.cells #[.pointer none, .slice none 0 0] 152 (0, 0)))) := Lib.hid (IsBF.fresh w)
 have HX0 : Hid (Ext w (w.alloc (.cells #[.pointer none, .slice none 0 0] 152 (0, 0)))) := Lib.hid (Only.alloc _ _ _)
 generalize hw1 : w.alloc (.cells #[.pointer none, .slice none 0 0] 152 (0, 0)) = w1 at HB0 HX0 ⊢
 obtain ⟨bb, hbE⟩ : ∃ b, b = w.heap.size := ⟨_, rfl⟩
 have HB1 : Hid (IsBF w.heap.size bb [] w1) := by rw [hbE]; exact HB0
 rw [← hbE]
 clear hbE HB0 hw1
 go_loopw [5, 8] (fun _ i wr => ∃ j : Nat, j ≤ l.length ∧ i = .int .i64 j ∧ Hid (Ext w wr) ∧ Hid (IsBF w.heap.size bb (endedB (l.take j)) wr)) (fun _ i _ => l.length - (intOf i).toNat)
 case atStart => exact ⟨0, Nat.zero_le _, rfl, HX0, HB1⟩
 case round =>
  obtain ⟨j, hj, rfl, HX, HB⟩ := hrel
  by_cases hlt : j < l.length
  ·have hltz : (j : Int) < (l.length : Int) := by omega
   obtain ⟨b0, off, rfl, hcell⟩ := HC.out (by intro h; rw [h] at hlt; simp at hlt)
   obtain ⟨x, hq⟩ : ∃ y, l[j]? = some y := ⟨_, List.getElem?_eq_getElem hlt⟩
   have d0 : wr.cell? ⟨b0, off + j, none⟩ = some (S x) := HX.out.cellOf (hcell j x hq) (fun h => h)
   have hxl := HXL.out x (List.mem_of_getElem? hq)
   have q1 : ¬ 9223372036854775807 < x.length + 1 := by omega
   have HST := Lib.hid (ended_step hq)
   have HBA := Lib.hid (ba_10 x)
   have HL : Hid ((endedB (l.take j)).length + (x ++ [10]).length ≤ 140737488355328) := Lib.hid (by have := HBD.out j; simp; omega)
   clear hcell hq hxl
   go_wp2_with fail
   rw [HBA.out]
   refine (writeK_any w.heap.size bb _ (x ++ [10]) _ HB.out HL.out HX.out.size).mono ?_
   rintro e w6 ⟨rfl, hb6, hbl, _⟩
   have HX6 := Lib.hid (ext_below HX.out hbl)
   have HB6 := Lib.hid hb6
   clear hb6 hbl
   go_wp2_with fail
   go_roundw
   case rel => exact ⟨j + 1, by omega, by go_num, HX6, Lib.hid (by rw [HST.out]; exact HB6.out)⟩
   case measure => simp [intOf]; omega
  ·have hltz : ¬ ((j : Int) < (l.length : Int)) := by omega
   have ht : l.take j = l := List.take_of_length_le (by omega)
   rw [ht, ← hT.out] at HB
   go_wp2_with fail
   refine (Tryz.Builder_String_any_k w.heap.size bb T wr HB.out HX.out.size).mono ?_
   rintro e w6 ⟨rfl, _, hbl, _⟩
   have HX6 := Lib.hid (ext_below HX.out hbl)
   clear hbl
   go_wp2_with fail
   go_ret
   exact ⟨rfl, HX6.out⟩

set_option maxRecDepth 100000 in
set_option maxHeartbeats 2000000 in
theorem all_any (w : World) (v : Value) (l : List B) (hv : Rd S w v l) (hb : sumLen l + l.length ≤ 900000) (hm : HasMax w) :
  Calls Tryz.prog 231 #[v] w (RetRow (allB l) w) := by
 have hlen : ∀ j, (allB (l.take j)).length ≤ 900000 := fun j => by
  have h1 := len_ended (allB (l.take j))
  have h2 := ended_all (l.take j)
  have h3 := sum_take l j
  have h4 : (l.take j).length ≤ l.length := List.length_take_le' _ _
  omega
 obtain ⟨a, cap, rfl, hcap, hml, hc⟩ := hv
 have hlm : (l.length : Int) ≤ 9223372036854775807 := by unfold maxLen at hml; omega
 have HX : Hid (∀ x ∈ l, x.length ≤ 900000) := Lib.hid fun x h => by have := sum_mem h; omega
 have HC := Lib.hid hc
 have HLN := Lib.hid hlen
 have HM := Lib.hid hm
 clear hc hlen hm
 clear hcap hml hb
 go_enter Tryz.func231, Tryz.ntmps231
 go_wp2_with fail
 go_loopw [3, 5, 8] (fun o _ i wr => ∃ j : Nat, j ≤ l.length ∧ i = .int .i64 j ∧ Hid (Ext w wr) ∧ Hid (Row w.heap.size wr o (allB (l.take j)))) (fun _ _ i _ => l.length - (intOf i).toNat)
 case atStart => exact ⟨0, Nat.zero_le _, rfl, Lib.hid (Only.refl _ _), Lib.hid (Row.nil _ _)⟩
 case round =>
  obtain ⟨j, hj, rfl, HXX, HR⟩ := hrel
  by_cases hlt : j < l.length
  ·have hltz : (j : Int) < (l.length : Int) := by omega
   obtain ⟨b0, off, rfl, hcell⟩ := HC.out (by intro h; rw [h] at hlt; simp at hlt)
   obtain ⟨x, hq⟩ : ∃ y, l[j]? = some y := ⟨_, List.getElem?_eq_getElem hlt⟩
   have d0 : wr.cell? ⟨b0, off + j, none⟩ = some (S x) := HXX.out.cellOf (hcell j x hq) (fun h => h)
   have HLI := Lib.hid (lines_any wr x (HX.out x (List.mem_of_getElem? hq)) (HM.out.ext HXX.out))
   have hst := all_step hq
   have hl1 := HLN.out (j + 1)
   rw [hst, List.length_append] at hl1
   have HL1 := Lib.hid hl1
   have HST := Lib.hid hst
   obtain ⟨A, hA⟩ : ∃ A, A = allB (l.take j) := ⟨_, rfl⟩
   rw [← hA] at HR HL1 HST
   clear hcell hq hst hl1 hA
   go_wp2_with fail
   refine (HLI.out).mono ?_
   rintro e w2 ⟨v2, rfl, ho, hr2⟩
   have HX2 := Lib.hid (HXX.out.then ho)
   have HRA := Lib.hid (HR.out.ext ho)
   have HRB := Lib.hid hr2
   clear hr2 ho
   go_wp2_with (at_builtin; refine wpTexts rfl _ _ w w.heap.size _ _ A (linesB x) w2 rfl rfl rfl rfl HRB.out.rd HRB.out.nz HRA.out (by have := HL1.out; omega) HX2.out.size HX2.out (Nat.le_refl _) ?_; intro ao m cp w3 hm3 HR3 HX3 _; have HM3 := Lib.hid hm3; clear hm3)
   go_roundw
   case rel => exact ⟨j + 1, by omega, by go_num, HX3, Lib.hid (by rw [HST.out]; exact HR3.out)⟩
   case measure => simp [intOf]; omega
  ·have hltz : ¬ ((j : Int) < (l.length : Int)) := by omega
   have ht : l.take j = l := List.take_of_length_le (by omega)
   rw [ht] at HR
   go_wp2_with fail
   go_ret
   exact ⟨_, rfl, HXX.out, HR.out⟩
end Go.Proofs.YtnmhaipjfpongabGreatDoor

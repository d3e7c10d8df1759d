/- Names, whole: the closed sentence is true. No input, no condition beyond the row's own; the row lists package-level variables, the card ties them. -/
import Derived.Test.YtnmhaipjfpongaaDoorE4
namespace Go.Proofs.YtnmhaipjfpongaaDoor
open Go.ChangeShapes Go.WideShapes Go.ChangeAt Go.RowKit

theorem coded1_err (w : World) (p : Nat → Addr) (hs : Sents w p) (i0 : Nat) (hi : i0 < 12) :
    Calls Tryd.prog 19 #[errV (p i0), I ((i0 : Int) + 1)] w fun e w' => e = .returned (.bool true) ∧ Ext w w' := by
  obtain ⟨c, t, hr⟩ := hs.row i0 hi
  have h := code_err w p hs (p i0) i0 (by omega) (fun _ => rfl) (fun j hj hne e => hne (hs.apart j i0 hj hi e)) c t hr
  rw [if_pos hi] at h
  have := coded1_any w _ _ _ ((i0 : Int) + 1) h
  simpa using this

theorem coded1_nil (w : World) : Calls Tryd.prog 19 #[.nilIface, I 0] w fun e w' => e = .returned (.bool true) ∧ Ext w w' := by
  have := coded1_any w _ _ _ 0 (code_nil w)
  simpa using this

def elevenCells : Array Value := #[I 12, I 5, I 2000, I 60, I 40, I 8, I 10000, I 100, I 3000, I 100, I 16]
def eleven : List Int := [12, 5, 2000, 60, 40, 8, 10000, 100, 3000, 100, 16]

theorem rd_cells {α : Type} {enc : α → Value} {w : World} {b : Nat} {cs : Array Value} {t : TypeId} (l : List α) (h : w.heap[b]? = some (.cells cs t (0, 0))) (hc : cs.toList = l.map enc) (hl : l.length ≤ maxLen) : Rd enc w (.slice (some ⟨b, 0, none⟩) l.length l.length) l := by
  refine ⟨_, _, rfl, Nat.le_refl _, hl, fun _ => ⟨b, 0, rfl, fun i x hx => ?_⟩⟩
  rw [Nat.zero_add, cell_of_heap h i, ← Array.getElem?_toList, hc, List.getElem?_map, hx]
  rfl

theorem two_allocs (w : World) : ((w.alloc (.cells elevenCells 3)).alloc (.cells elevenCells 3)).heap[w.heap.size + 1]? = some (.cells elevenCells 3 (0, 0)) := by
  simpa using (MapKept.heap_alloc (w.alloc (.cells elevenCells 3)) (.cells elevenCells 3)).1

set_option maxHeartbeats 4000000 in
theorem names_any (w : World) (p : Nat → Addr) (hs : Sents w p) : Calls Tryd.prog 4 #[] w fun e w' => e = .returned (.bool true) ∧ Ext w w' := by
  have HS := Lib.hid hs
  clear hs
  go_enter Tryd.func4, Tryd.ntmps4
  go_wp2_with fail
  refine (sameInts_any _ _ _ eleven eleven (rd_cells eleven ((Only.alloc (fun _ => False) _ _).heapOf (MapKept.heap_alloc w _).1 (fun h => h)) rfl (by decide)) (rd_cells eleven (two_allocs w) rfl (by decide))).mono ?_
  rintro e w1 ⟨rfl, hd⟩
  have e11 : (eleven == eleven) = true := by decide
  rw [e11]
  have h1 : Ext w w1 := ((Only.alloc (fun _ => False) w _).thenAlloc _).ext hd.ext
  have s1 := HS.out.ext h1
  have q0 := s1.var 0 _ rfl
  have q1 := s1.var 1 _ rfl
  have q2 := s1.var 2 _ rfl
  have q3 := s1.var 3 _ rfl
  have q4 := s1.var 4 _ rfl
  have q5 := s1.var 5 _ rfl
  have q6 := s1.var 6 _ rfl
  have q7 := s1.var 7 _ rfl
  have q8 := s1.var 8 _ rfl
  have q9 := s1.var 9 _ rfl
  have q10 := s1.var 10 _ rfl
  have q11 := s1.var 11 _ rfl
  have H1 := Lib.hid h1
  clear hd e11 h1 s1
  go_wp2_with fail
  have hrow : (w1.alloc (.cells (errCells p) 26)).heap[w1.heap.size]? = some (.cells (errCells p) 26 (0, 0)) := (MapKept.heap_alloc w1 _).1
  have hext : Ext w (w1.alloc (.cells (errCells p) 26)) := H1.out.thenAlloc _
  generalize (w1.alloc (.cells (errCells p) 26)) = w3 at hrow hext ⊢
  have HR := Lib.hid hrow
  have HX := Lib.hid hext
  clear hrow hext q0 q1 q2 q3 q4 q5 q6 q7 q8 q9 q10 q11
  generalize w1.heap.size = blk at HR ⊢
  go_loopw [4] (fun i wr => ∃ k : Nat, k ≤ 12 ∧ i = .int .i64 k ∧ Hid (Ext w wr) ∧ Hid (wr.heap[blk]? = some (.cells (errCells p) 26 (0, 0)))) (fun i _ => 12 - (intOf i).toNat)
  case atStart => exact ⟨0, Nat.zero_le _, rfl, HX, HR⟩
  case round =>
    obtain ⟨k, hk, rfl, hx, hb⟩ := hrel
    have HXr := hx
    have HBr := hb
    clear hx hb
    by_cases hlt : k < 12
    · have hltz : (k : Int) < 12 := by omega
      have hc : wr.cell? ⟨blk, k, none⟩ = some (errV (p k)) := (cell_of_heap HBr.out k).trans (errCells_at p k hlt)
      go_wp2_with fail
      refine (code_fault _ p ((HS.out.ext HXr.out).ext (Only.alloc (fun _ => False) wr _)) wr.heap.size k 7 hlt ((cell_of_heap (MapKept.heap_alloc wr _).1 0).trans rfl) ((cell_of_heap (MapKept.heap_alloc wr _).1 1).trans rfl)).mono ?_
      rintro e w4 ⟨rfl, h4⟩
      have x4 : Ext wr w4 := (Only.alloc (fun _ => False) wr _).ext h4
      have b4 := x4.heapOf HBr.out (fun h => h)
      have hc4 : w4.cell? ⟨blk, k, none⟩ = some (errV (p k)) := (cell_of_heap b4 k).trans (errCells_at p k hlt)
      have X4 := Lib.hid (HXr.out.ext x4)
      have B4 := Lib.hid b4
      clear h4 x4 b4 hc
      go_wp2_with (go_at_call 19; refine (coded1_err _ p (HS.out.ext X4.out) k hlt).mono ?_; rintro e w5 ⟨rfl, h5⟩; have H5 := Lib.hid h5; clear h5)
      go_roundw
      case rel => exact ⟨k + 1, by omega, by go_num, Lib.hid (X4.out.ext H5.out), Lib.hid (H5.out.heapOf B4.out (fun h => h))⟩
      case measure => simp [intOf]; omega
    · have hltz : ¬ ((k : Int) < 12) := by omega
      go_wp2_with fail
      refine (errorsNew_any wr [97, 110, 111, 116, 104, 101, 114, 32, 111, 110, 101]).mono ?_
      rintro e w4 ⟨rfl, h4⟩
      have x4 : Ext wr w4 := by rw [h4]; exact Only.alloc _ _ _
      have b4 : w4.heap[wr.heap.size]? = some (.cells #[S [97, 110, 111, 116, 104, 101, 114, 32, 111, 110, 101]] 83 (0, 0)) := by rw [h4]; exact (MapKept.heap_alloc wr _).1
      have s4 := HS.out.ext (HXr.out.ext x4)
      have hcode := code_err w4 p s4 ⟨wr.heap.size, 0, none⟩ 12 (Nat.le_refl _) (fun h => absurd h (by decide)) (fun j hj _ e => by
        obtain ⟨c, t, hr⟩ := (HS.out.ext HXr.out).row j hj
        have := lt_of_heap hr
        rw [e] at this
        exact absurd this (Nat.lt_irrefl _)) _ _ b4
      rw [if_neg (by decide)] at hcode
      have HC := Lib.hid hcode
      have X4 := Lib.hid (HXr.out.ext x4)
      clear h4 x4 b4 s4 hcode
      go_wp2_with (first | (go_at_call 18; refine HC.out.mono ?_; rintro e w5 ⟨rfl, h5⟩; have H5 := Lib.hid h5; clear h5) | (go_at_call 19; refine (coded1_nil _).mono ?_; rintro e w6 ⟨rfl, h6⟩; have H6 := Lib.hid h6; clear h6))
      go_ret
      exact ⟨rfl, (X4.out.ext H5.out).ext H6.out⟩
end Go.Proofs.YtnmhaipjfpongaaDoor

/- slices.Repeat of one number; graph.far: how many steps each is from a place. No condition but how the edges lie. -/
import Derived.Test.YtnmhaipjfpongabGreatDoorG3x
import Derived.Test.YtnmhaipjfpongabGreatDoorJ2x
import Derived.Test.YtnmhaipjfpongabGreatDoorSh6x
import Derived.Laws.CopyOwn
namespace Go.Proofs.YtnmhaipjfpongabGreatDoor
open Go.ChangeShapes Go.WideShapes Go.ChangeAt Go.RowKit

set_option maxRecDepth 100000 in
theorem run_nums (n : Nat) (hn : n ≤ 1000000) (w : World) : (Instr.makeSlice 63 (.int .i64 (n : Int)) (.int .i64 (n : Int))).run Tryz.prog w =
    .ok (.slice (some ⟨w.heap.size, 0, none⟩) n n) (w.alloc (.cells (Array.replicate n (.int .i64 0)) 3 (0, 0))) := by
  obtain ⟨i0, hi, hz0, hz1, hz2⟩ := info_parts infoInt
  have h := run_make w 63 3 i0 (.int .i64 0) Tryz.underlying63 hi hz0 .i64 .i64 (n : Int) (n : Int) (by omega) (Int.le_refl _) (by rw [hz2]; omega) (by omega)
  rw [h, hz1]
  rw [Int.toNat_natCast, Nat.mul_one]
  congr 2
  congr 1
  apply Array.ext
  · simp [madeCells]
  · intro i h1 h2
    simp [madeCells, Value.cells, Nat.mod_one]

/-! ### slices.Repeat -/
/-- A row of n, its first k laid. -/
def fillC (n k : Nat) (x : Int) : List Value := List.replicate k (I x) ++ List.replicate (n - k) (I 0)
theorem fillC_len {n k : Nat} {x : Int} (h : k ≤ n) : (fillC n k x).length = n := by simp [fillC]; omega
theorem fillC_at {n k : Nat} {x : Int} {j : Nat} (h : j < k) : (fillC n k x)[j]? = some (I x) := by
  unfold fillC
  rw [List.getElem?_append_left (by simpa using h), List.getElem?_replicate, if_pos h]
theorem fillC_more {n k c : Nat} {x : Int} : splice (fillC n k x) k (List.replicate c (I x)) = fillC n (k + c) x := by
  unfold splice fillC
  rw [List.take_left' (by simp), List.length_replicate, ← List.drop_drop, List.drop_left' (by simp), List.drop_replicate, ← List.append_assoc, List.replicate_append_replicate]
  congr 2
  omega

def RetTab (n : Nat) (f : Nat → Int) (w : World) (e : Ending) (w' : World) : Prop := ∃ b, e = .returned (.slice (some ⟨b, 0, none⟩) n n) ∧ TabAt w' b 3 n (fun k => I (f k)) ∧ w.heap.size ≤ b ∧ Ext w w'

theorem fill_tab {w : World} {g n : Nat} {x : Int} (h : w.heap[g]? = some (.cells (fillC n n x).toArray 3 (0, 0))) : TabAt w g 3 n (fun _ => I x) :=
  ⟨_, h, by simp [fillC_len (Nat.le_refl n)], fun k hk => by rw [List.getElem?_toArray]; exact fillC_at hk⟩

theorem fill_src {w : World} {g n k c : Nat} {x : Int} (h : w.heap[g]? = some (.cells (fillC n k x).toArray 3 (0, 0))) (hc : c ≤ k) : ∀ j v, (List.replicate c (I x))[j]? = some v → w.cell? ((⟨g, 0, none⟩ : Addr).add j) = some v := by
  intro j v hj
  rw [List.getElem?_replicate] at hj
  split at hj
  · rename_i hjc
    cases hj
    rw [addrAdd, Nat.zero_add, cell_of_heap h, List.getElem?_toArray]
    exact fillC_at (by omega)
  · cases hj

set_option maxRecDepth 100000 in
set_option maxHeartbeats 4000000 in
theorem repeat_any (w : World) (v : Value) (x : Int) (n : Nat) (hn : n ≤ 1000) (hv : Rd I w v [x]) :
    Calls Tryz.prog 184 #[v, I n] w (RetTab n (fun _ => x) w) := by
  obtain ⟨a, cap, rfl, hcap, _, hc⟩ := hv
  obtain ⟨b, off, rfl, hcell⟩ := hc (by simp)
  have hc0 := hcell 0 x rfl
  rw [Nat.add_zero] at hc0
  have hmul : ∀ w, Calls Tryz.prog 252 #[.int .u64 1, .int .u64 (n : Int)] w fun e w' => e = .returned (.tuple #[.int .u64 0, .int .u64 (n : Int)]) ∧ w' = w := fun w => by
    have h := Tryz.bits_Mul 1 n (by omega) (by omega) w
    rw [show 1 * n / 18446744073709551616 = 0 by omega, show 1 * n % 18446744073709551616 = n by omega] at h
    exact h
  have HMUL := Lib.hid hmul
  have HC0 := Lib.hid hc0
  have hnz : (n : Int) ≤ 1000 := by omega
  have hn0 : (0 : Int) ≤ (n : Int) := by omega
  have hn1 : ¬ (n : Int) < 0 := by omega
  have hmk := run_nums n (by omega) w
  obtain ⟨m, hm⟩ : ∃ m, m = Nat.min 1 n := ⟨_, rfl⟩
  have hm1 : m ≤ n ∧ m ≤ 1 ∧ (n = 0 ∨ 1 ≤ m) := by rw [hm]; simp only [Nat.min_def]; split <;> omega
  have HM : Hid ((List.replicate m (I x)).length = Nat.min 1 n) := Lib.hid (by rw [List.length_replicate]; exact hm)
  have HM1 := Lib.hid hm1
  have HF0 : Hid ((w.alloc (.cells (Array.replicate n (.int .i64 0)) 3 (0, 0))).heap[w.heap.size]? = some (.cells (fillC n 0 x).toArray 3 (0, 0))) := Lib.hid (by
    rw [(MapKept.heap_alloc w _).1]
    simp [fillC])
  have HX0 : Hid (Below w.heap.size w (w.alloc (.cells (Array.replicate n (.int .i64 0)) 3 (0, 0)))) := Lib.hid (Only.extBelow (Only.alloc _ _ _))
  have hsrc : ∀ j v, (List.replicate m (I x))[j]? = some v → (w.alloc (.cells (Array.replicate n (.int .i64 0)) 3 (0, 0))).cell? ((⟨b, off, none⟩ : Addr).add j) = some v := by
    intro j v hj
    rw [List.getElem?_replicate] at hj
    split at hj
    · rename_i hjm
      cases hj
      obtain rfl : j = 0 := by omega
      rw [addrAdd, Nat.add_zero]
      exact (Only.alloc (fun _ => False) w _).cellOf hc0 (fun h => h)
    · cases hj
  have hfit : 0 + (List.replicate m (I x)).length ≤ (fillC n 0 x).length := by rw [fillC_len (Nat.zero_le n), List.length_replicate]; omega
  have hone : ∀ v ∈ List.replicate m (I x), v.oneCell' = true := fun v hv => by rw [List.eq_of_mem_replicate hv]; rfl
  have hmz : (m : Int) ≤ 1 := by omega
  obtain ⟨g, hg⟩ : ∃ g, g = w.heap.size := ⟨_, rfl⟩
  have HG : Hid (w.heap.size ≤ g) := Lib.hid (by omega)
  rw [← hg] at hmk HF0
  have HSRC := Lib.hid hsrc
  have HFIT := Lib.hid hfit
  have HONE := Lib.hid hone
  clear hsrc hfit hone
  clear hc hcell hmul hc0 hm hm1 hg
  go_enter Tryz.func184, Tryz.ntmps184
  go_wp2_with fail
  refine (HMUL.out _).mono ?_
  rintro e w1 ⟨rfl, rfl⟩
  go_wp2_with (with_reducible show wpList _ _ _ _ _ _; refine wpList_copy_splice (o := ⟨some 33, _, _, _, _, _⟩) rfl (.tmp 31) (.tmp 32) 63 63 rfl 3 Tryz.underlying63 (by kernel_rfl) _ _ n n 1 cap rfl rfl g 0 (fillC n 0 x) 3 HF0.out (List.replicate m (I x)) HM.out (fun _ => ⟨rfl, _, rfl, HSRC.out⟩) HFIT.out HONE.out w1.heap.size w1 HX0.out HG.out ?_; intro w2 HF2 hb2)
  have hfm := HF2.out
  rw [fillC_more, Nat.zero_add] at hfm
  have HFM := Lib.hid hfm
  have HB2 := Lib.hid hb2
  clear HF2 hfm hb2 hmk
  go_loopw [8] (fun k wr => ∃ j : Nat, j ≤ n ∧ (n = 0 ∨ 1 ≤ j) ∧ k = .int .i64 j ∧ Hid (wr.heap[g]? = some (.cells (fillC n j x).toArray 3 (0, 0))) ∧ Hid (Below w1.heap.size w1 wr)) (fun k _ => n - (intOf k).toNat)
  case atStart => exact ⟨m, HM1.out.1, HM1.out.2.2, rfl, HFM, HB2⟩
  case round =>
    clear HFM HB2
    obtain ⟨j, hj, hj1, rfl, HF, HB⟩ := hrel
    by_cases hlt : j < n
    · have hj2 : 1 ≤ j := by omega
      have hltz : (j : Int) < (n : Int) := by omega
      have hjz : (j : Int) ≤ (n : Int) := by omega
      have hj0 : (0 : Int) ≤ (j : Int) := by omega
      obtain ⟨c, hc⟩ : ∃ c, c = Nat.min j (n - j) := ⟨_, rfl⟩
      have hc1 : c ≤ j ∧ j + c ≤ n ∧ 1 ≤ c := by rw [hc]; simp only [Nat.min_def]; split <;> omega
      have HCL : Hid ((List.replicate c (I x)).length = Nat.min j (n - j)) := Lib.hid (by rw [List.length_replicate]; exact hc)
      have HSR : Hid (∀ t v, (List.replicate c (I x))[t]? = some v → wr.drew.cell? ((⟨g, 0, none⟩ : Addr).add t) = some v) := Lib.hid (fill_src (w := wr.drew) HF.out hc1.1)
      have HFT : Hid (j + (List.replicate c (I x)).length ≤ (fillC n j x).length) := Lib.hid (by rw [fillC_len hj, List.length_replicate]; omega)
      have HON : Hid (∀ v ∈ List.replicate c (I x), v.oneCell' = true) := Lib.hid (fun v hv => by rw [List.eq_of_mem_replicate hv]; rfl)
      have HFD : Hid (wr.drew.heap[g]? = some (.cells (fillC n j x).toArray 3 (0, 0))) := Lib.hid HF.out
      have HBD : Hid (Below w1.heap.size w1 wr.drew) := Lib.hid (HB.out.trans (Only.below (Only.drew (fun _ => False) wr) HB.out.size (fun _ _ h => h)))
      have HC1 := Lib.hid hc1
      have hcz : (j : Int) + (c : Int) ≤ 1000 := by omega
      have hw : IntKind.i64.wrap ((j : Int) + (c : Int)) = ((j + c : Nat) : Int) := by rw [IntWalk.i64_in _ (by omega)]; push_cast; rfl
      have hne : ¬ (n : Int) = (j : Int) := by omega
      have hne2 : ¬ n = j := by omega
      clear hc hc1 HF HB hlt
      go_wp2_with fail
      go_region_law (refine step_copy_splice (by rfl) (.tmp 41) (.tmp 44) 63 63 (by rfl) 3 Tryz.underlying63 (by kernel_rfl) _ _ _ _ _ _ (by rfl) (by rfl) g j (fillC n j x) 3 HFD.out (List.replicate c (I x)) HCL.out (fun _ => ⟨rfl, _, rfl, HSR.out⟩) HFT.out HON.out w1.heap.size w1 HBD.out HG.out ?_; intro w5 hf5 hb5; have hf6 := hf5.out; rw [fillC_more] at hf6; have HF5 := Lib.hid hf6; have HB5 := Lib.hid hb5; clear hf5 hf6 hb5)
      all_goals
        simp only [Act.put, List.getElem_toArray, List.getElem_cons_succ, List.getElem_cons_zero, List.setIfInBounds_toArray, List.set_cons_zero, List.set_cons_succ]
        go_wp2_with fail
        go_roundw
        case rel => exact ⟨j + c, by have := HC1.out; omega, by have := HC1.out; omega, by go_num, HF5, HB5⟩
        case measure => have := HC1.out; simp [intOf]; omega
    · obtain rfl : j = n := by omega
      have hltz : ¬ (j : Int) < (j : Int) := by omega
      have HT := Lib.hid (fill_tab HF.out)
      have HX := Lib.hid (Only.of_below HB.out)
      go_wp2_with fail
      go_ret
      exact ⟨g, rfl, HT.out, HG.out, HX.out⟩
end Go.Proofs.YtnmhaipjfpongabGreatDoor

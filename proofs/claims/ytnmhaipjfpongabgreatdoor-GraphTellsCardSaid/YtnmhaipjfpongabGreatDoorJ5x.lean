/- The closed fact 'ahead'; plain words of all outs, of leaves that rise; a table of marks. No condition but what the variables hold. -/
import Derived.Test.YtnmhaipjfpongabGreatDoorJ4x
import Derived.Test.YtnmhaipjfpongabGreatDoorJ10x
import Derived.Test.YtnmhaipjfpongabGreatDoorG10x
namespace Go.Proofs.YtnmhaipjfpongabGreatDoor
open Go.ChangeShapes Go.WideShapes Go.ChangeAt Go.RowKit

/-! ### ahead -/
def ruleA0 : Rule := ⟨[97], [117, 112, 112, 101, 114], [], [[98]]⟩
def ruleB0 : Rule := ⟨[98], [119, 114, 105, 116, 101], [120], []⟩
theorem ahead_plain : orderFault [ruleA0, ruleB0] = (0, -1) ∧ orderOut [ruleA0, ruleB0] = [1, 0] := ⟨by kernel_rfl, by kernel_rfl⟩
abbrev aheadW (w : World) : World := (w.alloc (.cells #[S [98]] 9 (0, 0))).alloc (.cells #[S [97], S [117, 112, 112, 101, 114], S [], .slice (some ⟨w.heap.size, 0, none⟩) 1 1, S [98], S [119, 114, 105, 116, 101], S [120], .slice none 0 0] 62 (0, 0))
theorem ahead_rd (w : World) : RdR (aheadW w) (.slice (some ⟨w.heap.size + 1, 0, none⟩) 2 2) [ruleA0, ruleB0] := by
  have h1 := (MapKept.heap_alloc w (.cells #[S [98]] 9 (0, 0))).1
  have h2 := (MapKept.heap_alloc (w.alloc (.cells #[S [98]] 9 (0, 0))) (.cells #[S [97], S [117, 112, 112, 101, 114], S [], .slice (some ⟨w.heap.size, 0, none⟩) 1 1, S [98], S [119, 114, 105, 116, 101], S [120], .slice none 0 0] 62 (0, 0))).1
  have hs : (w.alloc (.cells #[S [98]] 9 (0, 0))).heap.size = w.heap.size + 1 := by simp
  rw [hs] at h2
  have h3 := (Only.alloc (fun _ => False) (w.alloc (.cells #[S [98]] 9 (0, 0))) (.cells #[S [97], S [117, 112, 112, 101, 114], S [], .slice (some ⟨w.heap.size, 0, none⟩) 1 1, S [98], S [119, 114, 105, 116, 101], S [120], .slice none 0 0] 62 (0, 0))).heapOf h1 (fun h => h)
  refine ⟨_, 2, rfl, Nat.le_refl _, by decide, fun _ => ⟨w.heap.size + 1, 0, rfl, fun i r hi => ?_⟩⟩
  match i, hi with
  | 0, hi =>
    cases hi
    refine ⟨.slice (some ⟨w.heap.size, 0, none⟩) 1 1, ⟨_, 1, rfl, Nat.le_refl _, by decide, fun _ => ⟨w.heap.size, 0, rfl, fun j s hj => ?_⟩⟩, ?_, ?_, ?_, ?_⟩
    · match j, hj with
      | 0, hj => cases hj; rw [cell_of_heap h3]; rfl
      | j + 1, hj => simp [ruleA0] at hj
    all_goals (rw [cell_of_heap h2]; rfl)
  | 1, hi =>
    cases hi
    refine ⟨.slice none 0 0, Rd.nil _ _, ?_, ?_, ?_, ?_⟩
    all_goals (rw [cell_of_heap h2]; rfl)
  | i + 2, hi => simp at hi

set_option maxRecDepth 100000 in
set_option maxHeartbeats 2000000 in
theorem ahead_any (w : World) (P : Nat → Addr) (hV : PV w P [1, 2, 3, 4, 6, 8, 9]) : Calls Tryz.prog 39 #[] w (RetE (.bool true) w) := by
  have hx0 : Ext w (aheadW w) := (Only.alloc _ w _).thenAlloc _
  have ho := graphOrder_any (aheadW w) P [ruleA0, ruleB0] _ (ahead_rd w) (fun r hr => by
    simp only [List.mem_cons, List.not_mem_nil, or_false] at hr
    rcases hr with rfl | rfl
    · exact ⟨by decide, by decide, by decide, by decide, by decide⟩
    · exact ⟨by decide, by decide, by decide, by decide, by decide⟩) (hV.ext hx0)
  rw [ahead_plain.1, ahead_plain.2] at ho
  have HO := Lib.hid ho
  have HX0 := Lib.hid hx0
  clear ho hx0 hV
  go_enter Tryz.func39, Tryz.ntmps39
  go_wp2_with fail
  refine HO.out.mono ?_
  rintro e w1 ⟨v, ev, rfl, hr, he, hx⟩
  obtain rfl := he.zero rfl
  have HX1 := Lib.hid (HX0.out.then hx)
  have hrd := hr.rd.ints
  have hlit : Rd I (w1.alloc (.cells #[I 1, I 0] 3 (0, 0))) (.slice (some ⟨w1.heap.size, 0, none⟩) 2 2) [1, 0] := by
    refine ⟨_, 2, rfl, Nat.le_refl _, by decide, fun _ => ⟨w1.heap.size, 0, rfl, fun i y hy => ?_⟩⟩
    rw [cell_of_heap (MapKept.heap_alloc w1 _).1]
    match i, hy with
    | 0, hy => cases hy; rfl
    | 1, hy => cases hy; rfl
    | i + 2, hy => simp at hy
  have hsi := sameInts_any _ _ _ _ _ (hrd.ext (Only.alloc (fun _ => False) w1 (.cells #[I 1, I 0] 3 (0, 0)))) hlit
  rw [show (([1, 0] : List Nat).map (fun k : Nat => (k : Int)) == [1, 0]) = true by decide] at hsi
  have HSI := Lib.hid hsi
  clear hx hr he hsi hrd hlit
  go_wp2_with fail
  refine HSI.out.mono ?_
  rintro e w2 ⟨rfl, hd⟩
  have HX2 := Lib.hid ((HX1.out.thenAlloc _).then hd.ext)
  clear hd
  go_wp2_with fail
  go_ret
  exact ⟨rfl, HX2.out⟩

structure NeedIs (n : Nat) (nd : Nat → Nat → Bool) (one : Nat) (sm : List Nat) : Prop where
  lt : ∀ i ∈ sm, i < n
  one : one ∈ sm
  closed : ∀ i ∈ sm, ∀ j, j < n → nd i j = true → j ∈ sm
  len : sm.length ≤ n
theorem need_is {n : Nat} {nd : Nat → Nat → Bool} {k : Nat} {sm : List Nat} (hk : k < n) (h : NeedOk n nd [k] sm) : NeedIs n nd k sm := by
  obtain ⟨N, rfl, hN⟩ := h
  refine ⟨fun i hi => List.mem_range.1 (List.mem_filter.1 hi).1, List.mem_filter.2 ⟨List.mem_range.2 hk, (hN k hk).2 (.root (.head _))⟩, fun i hi j hj hn => ?_, ?_⟩
  · obtain ⟨h1, h2⟩ := List.mem_filter.1 hi
    exact List.mem_filter.2 ⟨List.mem_range.2 hj, (hN j hj).2 (.step ((hN i (List.mem_range.1 h1)).1 h2) hn)⟩
  · have := List.length_filter_le N (List.range n)
    rwa [List.length_range] at this

/-! ### leaves rise -/
theorem kept_rise {l : List B} (hs : l.Pairwise fun x y => decide (x ≤ y) = true) : ∀ i, i ≤ l.length → (keptB l i).Pairwise (fun x y => x < y) ∧ ∀ x ∈ keptB l i, ∃ j, j < i ∧ l[j]? = some x
  | 0, _ => by rw [kept_zero]; exact ⟨List.Pairwise.nil, by simp⟩
  | i + 1, h => by
    obtain ⟨h1, h2⟩ := kept_rise hs i (by omega)
    obtain ⟨x, hx⟩ : ∃ x, l[i]? = some x := ⟨_, List.getElem?_eq_getElem (by omega)⟩
    have hle : ∀ j y, j < i → l[j]? = some y → y ≤ x := fun j y hj hy => by
      obtain ⟨a, rfl⟩ := List.getElem?_eq_some_iff.1 hy
      obtain ⟨b, rfl⟩ := List.getElem?_eq_some_iff.1 hx
      exact of_decide_eq_true (List.pairwise_iff_getElem.1 hs j i a b hj)
    have hnew : keptB l (i + 1) = keptB l i ++ [x] → (∀ y ∈ keptB l i, y < x) → (keptB l (i + 1)).Pairwise (fun x y => x < y) ∧ ∀ x ∈ keptB l (i + 1), ∃ j, j < i + 1 ∧ l[j]? = some x := fun e hlt => by
      rw [e]
      refine ⟨List.pairwise_append.2 ⟨h1, List.pairwise_singleton _ _, fun y hy z hz => by rw [List.mem_singleton.1 hz]; exact hlt y hy⟩, fun y hy => ?_⟩
      rcases List.mem_append.1 hy with hy | hy
      · obtain ⟨j, h3, h4⟩ := h2 y hy
        exact ⟨j, by omega, h4⟩
      · rw [List.mem_singleton.1 hy]; exact ⟨i, Nat.lt_succ_self _, hx⟩
    cases i with
    | zero => exact hnew (kept_new hx (fun k y e => by omega)) (by rw [kept_zero]; simp)
    | succ k =>
      obtain ⟨y, hy⟩ : ∃ y, l[k]? = some y := ⟨_, List.getElem?_eq_getElem (by omega)⟩
      by_cases e : x = y
      · subst e
        rw [kept_old hx hy]
        exact ⟨h1, fun z hz => by obtain ⟨j, h3, h4⟩ := h2 z hz; exact ⟨j, by omega, h4⟩⟩
      · refine hnew (kept_new hx (fun k' y' e' hy' => by
          have : k' = k := by omega
          subst this
          rw [hy] at hy'
          cases hy'
          exact e)) (fun z hz => ?_)
        obtain ⟨j, h3, h4⟩ := h2 z hz
        have h5 : z ≤ y := by
          by_cases hjk : j = k
          · subst hjk; rw [hy] at h4; cases h4; exact List.le_refl _
          · obtain ⟨a, rfl⟩ := List.getElem?_eq_some_iff.1 h4
            obtain ⟨b, rfl⟩ := List.getElem?_eq_some_iff.1 hy
            exact of_decide_eq_true (List.pairwise_iff_getElem.1 hs j k a b (by omega))
        have h6 : y ≤ x := hle k y (Nat.lt_succ_self _) hy
        exact List.lt_of_le_of_lt h5 (Classical.byContradiction fun hn => e (List.le_antisymm (List.not_lt.1 hn) h6))
theorem leaves_rise (l : List Rule) {i : Nat} {x y : B} (hy : (leavesB l)[i]? = some y) (hx : (leavesB l)[i + 1]? = some x) : (Op.bytesLess x y || x == y) = false := by
  obtain ⟨a, rfl⟩ := List.getElem?_eq_some_iff.1 hy
  obtain ⟨b, rfl⟩ := List.getElem?_eq_some_iff.1 hx
  have h := (kept_rise (sortB_pairwise ((l.flatMap Rule.ins).filter (leafB l))) _ (Nat.le_refl _)).1
  rw [kept_all] at h
  have hlt : (leavesB l)[i] < (leavesB l)[i + 1] := List.pairwise_iff_getElem.1 h i (i + 1) a b (Nat.lt_succ_self _)
  rw [Bool.or_eq_false_iff, bytesLess_eq]
  refine ⟨decide_eq_false fun h2 => List.lt_irrefl _ (List.lt_trans hlt h2), beq_eq_false_iff_ne.2 fun e => ?_⟩
  rw [e] at hlt
  exact List.lt_irrefl _ hlt
theorem mem_compact {l : List B} {x : B} (h : x ∈ Lib.compact l) : x ∈ l := by
  unfold Lib.compact Lib.compactUpTo at h
  obtain ⟨i, hi, rfl⟩ := List.mem_map.1 h
  have hlt := List.mem_range.1 (List.mem_filter.1 hi).1
  rw [getElem!_pos _ i (by simpa using hlt)]
  simp
theorem leaf_not {l : List Rule} {x : B} (h : x ∈ leavesB l) : idx (fun y => y == x) (l.map Rule.out) = -1 := by
  have h1 := (List.mem_filter.1 (mem_sort (mem_compact h))).2
  unfold leafB madeB at h1
  rw [Bool.not_eq_true', List.any_eq_false] at h1
  refine idx_none fun j y hy => beq_eq_false_iff_ne.2 fun e => ?_
  rw [List.getElem?_map] at hy
  obtain ⟨r, hr, rfl⟩ := Option.map_eq_some_iff.1 hy
  exact h1 r (List.mem_of_getElem? hr) (beq_iff_eq.2 e)

/-! ### a table of marks -/
structure MarkAt (w wr : World) (ib n : Nat) (ds : List Nat) : Prop where
  ext : Ext w wr
  tab : TabAt wr ib 4 n (fun k => .bool (decide (k ∈ ds)))
  lo : w.heap.size ≤ ib
theorem MarkAt.start (w : World) (n : Nat) : MarkAt w (w.alloc (.cells (Array.replicate n (.bool false)) 4 (0, 0))) w.heap.size n [] :=
  ⟨Only.alloc _ _ _, (TabAt.made w 4 n (.bool false)).congr (fun k _ => by simp), Nat.le_refl _⟩
theorem MarkAt.mark {w wr : World} {ib n : Nat} {ds : List Nat} (h : MarkAt w wr ib n ds) (k : Nat) : MarkAt w (wr.setCell ⟨ib, k, none⟩ (.bool true)) ib n (ds ++ [k]) := by
  have hs : Only (fun b => b = ib) wr (wr.setCell ⟨ib, k, none⟩ (.bool true)) := Only.set _ rfl
  have := h.lo
  refine ⟨h.ext.trans hs (fun _ _ h => h) (fun i hi e => by omega), (h.tab.set k (.bool true)).congr fun i hi => ?_, h.lo⟩
  by_cases e : i = k
  · rw [if_pos e, e]; simp
  · rw [if_neg e]
    congr 2
    simp [e]
theorem MarkAt.grow {w wr w' : World} {ib n : Nat} {ds : List Nat} (h : MarkAt w wr ib n ds) (ho : Ext wr w') : MarkAt w w' ib n ds := ⟨h.ext.then ho, h.tab.ext ho, h.lo⟩
end Go.Proofs.YtnmhaipjfpongabGreatDoor

/- The reference's CycleOf. No condition but how the rules lie, and that they are at most forty. -/
import Derived.Test.YtnmhaipjfpongabGreatDoorS2x
import Derived.Test.YtnmhaipjfpongabGreatDoorG12x
import Derived.Test.YtnmhaipjfpongabGreatDoorG7x
namespace Go.Proofs.YtnmhaipjfpongabGreatDoor
open Go.ChangeShapes Go.WideShapes Go.ChangeAt Go.RowKit

/-! ### plain words -/
/-- One step of the distances: through m. -/
def fwV (D : Nat → Nat → Nat) (m i k : Nat) : Nat := if D i m + D m k < D i k then D i m + D m k else D i k
/-- As far as (i, k): D0 at the beginning of round m, D now. -/
def FwTo (n : Nat) (D0 D : Nat → Nat → Nat) (m i k : Nat) : Prop := ∀ a b, a < n → b < n → D a b = if a < i ∨ (a = i ∧ b < k) then fwV D0 m a b else D0 a b
section
variable {n : Nat} {D0 D : Nat → Nat → Nat} {m i k : Nat}
theorem fwV_col (D : Nat → Nat → Nat) (m i : Nat) : fwV D m i m = D i m := by unfold fwV; exact if_neg (by omega)
theorem fwV_row (D : Nat → Nat → Nat) (m k : Nat) : fwV D m m k = D m k := by unfold fwV; exact if_neg (by omega)
theorem FwTo.start (n : Nat) (D : Nat → Nat → Nat) (m : Nat) : FwTo n D D m 0 0 := fun a b _ _ => (if_neg (by omega)).symm
theorem FwTo.im (h : FwTo n D0 D m i k) {a : Nat} (ha : a < n) (hm : m < n) : D a m = D0 a m := by
  rw [h a m ha hm]
  split
  · exact fwV_col _ _ _
  · rfl
theorem FwTo.mk (h : FwTo n D0 D m i k) {b : Nat} (hb : b < n) (hm : m < n) : D m b = D0 m b := by
  rw [h m b hm hb]
  split
  · exact fwV_row _ _ _
  · rfl
theorem FwTo.here (h : FwTo n D0 D m i k) (hi : i < n) (hk : k < n) : D i k = D0 i k := by rw [h i k hi hk, if_neg (by omega)]
theorem FwTo.next (h : FwTo n D0 D m i k) {D' : Nat → Nat → Nat} (hd : ∀ a b, a < n → b < n → D' a b = if a = i ∧ b = k then fwV D0 m i k else D a b) : FwTo n D0 D' m i (k + 1) := fun a b ha hb => by
  rw [hd a b ha hb]
  by_cases e : a = i ∧ b = k
  · obtain ⟨rfl, rfl⟩ := e
    rw [if_pos ⟨rfl, rfl⟩, if_pos (.inr ⟨rfl, Nat.lt_succ_self _⟩)]
  · rw [if_neg e, h a b ha hb]
    have : (a < i ∨ a = i ∧ b < k) = (a < i ∨ a = i ∧ b < k + 1) := propext (by omega)
    simp only [this]
theorem FwTo.line (h : FwTo n D0 D m i n) : FwTo n D0 D m (i + 1) 0 := fun a b ha hb => by
  rw [h a b ha hb]
  have : (a < i ∨ a = i ∧ b < n) = (a < i + 1 ∨ a = i + 1 ∧ b < 0) := propext (by omega)
  simp only [this]
theorem FwTo.round {nd : Nat → Nat → Bool} (h : FwTo n D0 D m n 0) (hm : m < n) (h0 : ∀ a b, a < n → b < n → IsD nd m a b (D0 a b)) : ∀ a b, a < n → b < n → IsD nd (m + 1) a b (D a b) := fun a b ha hb => by
  rw [h a b ha hb, if_pos (.inl ha)]
  exact (h0 a b ha hb).next (h0 a m ha hm) (h0 m b hm hb)
end

section
variable {n : Nat} {nd : Nat → Nat → Bool} {D : Nat → Nat → Nat} {i : Nat}
theorem wayD_step (hnd : ∀ i j, nd i j = true → j < n) (hD : ∀ j, j < n → IsD nd n j i (D j i)) {at_ left : Nat} (hl : Least nd i at_ (left + 1 + 1)) (h9 : left + 1 < 1000) :
    ∃ q, q < n ∧ nd at_ q = true ∧ D q i = left + 1 ∧ (∀ t, t < q → ¬ (nd at_ t = true ∧ D t i = left + 1)) ∧ Least nd i q (left + 1) ∧ wayGo n nd (fun k => (D k i : Int)) (left + 1) at_ = q :: wayGo n nd (fun k => (D k i : Int)) left q := by
  obtain ⟨j, hj, hw⟩ := hl.step
  have hlj : Least nd i j (left + 1) := by
    rcases hw with ⟨e, _⟩ | ⟨_, h⟩
    · omega
    · exact h
  have hjn := hnd _ _ hj
  have hdj : D j i = left + 1 := (isD_least hnd (hD j hjn) h9).2 hlj
  cases hf : (edgeB n nd at_).find? (fun j => (D j i : Int) == ((left : Nat) + 1 : Int)) with
  | none =>
    rw [List.find?_eq_none] at hf
    exact absurd (beq_iff_eq.2 (by rw [hdj]; push_cast; rfl)) (hf j (mem_edge.2 ⟨hjn, hj⟩))
  | some q =>
    have hf2 := hf
    unfold edgeB at hf2
    rw [List.find?_filter, List.find?_range_eq_some] at hf2
    obtain ⟨h1, h2, h3⟩ := hf2
    have h1 := of_decide_eq_true h1
    rw [beq_iff_eq] at h1
    have hq : D q i = left + 1 := by have := h1.2; push_cast at this; omega
    have hqn := List.mem_range.1 h2
    refine ⟨q, hqn, h1.1, hq, fun t ht h4 => ?_, (isD_least hnd (hD q hqn) h9).1 hq, by rw [wayGo, hf]⟩
    have := h3 t ht
    rw [h4.1, h4.2] at this
    simp at this
end
section
variable {n : Nat} {nd : Nat → Nat → Bool} {D : Nat → Nat → Nat} {i : Nat}
/-- The least number of steps is at most the number of places. -/
theorem least_list (hnd : ∀ i j, nd i j = true → j < n) {tg : Nat} : ∀ (m i : Nat), i < n → Least nd tg i m → ∃ L : List Nat, L.length = m ∧ L.Nodup ∧ ∀ x ∈ L, x < n ∧ ∃ t, 1 ≤ t ∧ t ≤ m ∧ Least nd tg x t
  | 0, _, _, h => absurd h.1 (by omega)
  | m + 1, i, hi, h => by
    obtain ⟨j, hj, hw⟩ := h.step
    rcases hw with ⟨rfl, _⟩ | ⟨_, hl⟩
    · exact ⟨[i], rfl, by simp, fun x hx => by rw [List.mem_singleton.1 hx]; exact ⟨hi, 1, Nat.le_refl _, Nat.le_refl _, h⟩⟩
    · obtain ⟨L, h1, h2, h3⟩ := least_list hnd m j (hnd i j hj) hl
      refine ⟨i :: L, by rw [List.length_cons, h1], List.nodup_cons.2 ⟨fun hm => ?_, h2⟩, fun x hx => ?_⟩
      · obtain ⟨_, t, _, h5, h6⟩ := h3 i hm
        have := h.unique h6
        omega
      · rcases List.mem_cons.1 hx with rfl | hx
        · exact ⟨hi, m + 1, by omega, Nat.le_refl _, h⟩
        · obtain ⟨h4, t, h5, h6, h7⟩ := h3 x hx
          exact ⟨h4, t, h5, by omega, h7⟩
theorem least_le (hnd : ∀ i j, nd i j = true → j < n) {tg m : Nat} (hi : i < n) (h : Least nd tg i m) : m ≤ n := by
  obtain ⟨L, h1, h2, h3⟩ := least_list hnd m i hi h
  have := nodup_len (b := List.range n) h2 (fun x hx => List.mem_range.2 (h3 x hx).1)
  rw [h1, List.length_range] at this
  exact this
theorem far_none (hnd : ∀ i j, nd i j = true → j < n) (hn : n < 1000) (hi : i < n) (hD : IsD nd n i i (D i i)) (hd : 1000 ≤ D i i) : ∀ s, 1 ≤ s → ¬ Way nd i s i := fun s hs hw => by
  obtain ⟨m, _, hm⟩ := least_of hs hw
  have h1 := least_le hnd hi hm
  have h2 := (isD_least hnd hD (by omega : m < 1000)).2 hm
  omega
end
def CycRef (n : Nat) (nd : Nat → Nat → Bool) (c : List Nat) : Prop :=
  (c = [] ∧ ∀ i < n, ∀ s, 1 ≤ s → ¬ Way nd i s i) ∨
  (∃ (i m : Nat) (D : Nat → Nat → Nat), i < n ∧ (∀ j < i, ∀ s, 1 ≤ s → ¬ Way nd j s j) ∧ (∀ a b, a < n → b < n → IsD nd n a b (D a b)) ∧ m < 1000 ∧ Least nd i i m ∧ c = i :: wayGo n nd (fun k => (D k i : Int)) (m - 1) i)
theorem find_congr {p q : Nat → Bool} : ∀ (l : List Nat), (∀ x ∈ l, p x = q x) → l.find? p = l.find? q
  | [], _ => rfl
  | x :: l, h => by
    rw [List.find?_cons, List.find?_cons, h x (.head _), find_congr l fun y hy => h y (.tail _ hy)]
theorem way_congr {n : Nat} {nd : Nat → Nat → Bool} {f g : Nat → Int} : ∀ (left at_ : Nat), (∀ j t, j < n → t < left → (f j = ((t : Int) + 1) ↔ g j = ((t : Int) + 1))) → wayGo n nd f left at_ = wayGo n nd g left at_
  | 0, _, _ => rfl
  | left + 1, at_, h => by
    have e : (edgeB n nd at_).find? (fun j => f j == ((left : Nat) + 1 : Int)) = (edgeB n nd at_).find? (fun j => g j == ((left : Nat) + 1 : Int)) := by
      refine find_congr _ fun j hj => ?_
      rw [Bool.eq_iff_iff, beq_iff_eq, beq_iff_eq]
      exact h j left (mem_edge.1 hj).1 (Nat.lt_succ_self _)
    rw [wayGo, wayGo, e]
    split
    · rw [way_congr left _ fun j t hj ht => h j t hj (by omega)]
    · rfl
/-- Both tell the same circle. -/
theorem cyc_same {n : Nat} {nd : Nat → Nat → Bool} (hnd : ∀ i j, nd i j = true → j < n) {a b : List Nat} (ha : CycOk n nd a) (hb : CycRef n nd b) : a = b := by
  rcases ha with ⟨rfl, h1⟩ | ⟨i, m, f, hi, h1, hf, hfi, hl, rfl⟩
  · rcases hb with ⟨rfl, _⟩ | ⟨i, m, D, hi, _, _, _, hl, _⟩
    · rfl
    · exact absurd hl.2.1 (h1 i hi m hl.1)
  · rcases hb with ⟨_, h2⟩ | ⟨i', m', D, hi', h2, hD, hm, hl', rfl⟩
    · exact absurd hl.2.1 (h2 i hi m hl.1)
    · have e : i = i' := by
        rcases Nat.lt_trichotomy i i' with h | h | h
        · exact absurd hl.2.1 (h2 i h m hl.1)
        · exact h
        · exact absurd hl'.2.1 (h1 i' h m' hl'.1)
      subst e
      obtain rfl := hl.unique hl'
      rw [way_congr]
      intro j t hj ht
      constructor
      · intro hfj
        have h3 := hf.least j hj (t + 1) (by rw [hfj]; push_cast; rfl)
        show ((D j i : Nat) : Int) = _
        rw [(isD_least hnd (hD j i hj hi) (by omega : t + 1 < 1000)).2 h3]
        push_cast; rfl
      · intro hdj
        have hdj2 : D j i = t + 1 := by have h4 : ((D j i : Nat) : Int) = (t : Int) + 1 := hdj; omega
        have h3 := (isD_least hnd (hD j i hj hi) (by omega : t + 1 < 1000)).1 hdj2
        rw [hf.at_ j hj _ h3]
        push_cast; rfl

/-! ### in memory -/
/-- Distances in memory; the first j rows are made. -/
structure FwAt (w wr : World) (n : Nat) (rb : Nat → Nat) (j : Nat) (D : Nat → Nat → Nat) : Prop where
  ext : Ext w wr
  top : TabAt wr w.heap.size 63 n (fun i => if i < j then TabV (rb i) n else .slice none 0 0)
  rows : ∀ i, i < j → TabAt wr (rb i) 3 n (fun k => IN (D i k))
  lo : ∀ i, i < j → w.heap.size < rb i
  inj : ∀ a b, a < j → b < j → rb a = rb b → a = b
section
variable {w wr w' : World} {n j : Nat} {rb : Nat → Nat} {D : Nat → Nat → Nat}
theorem FwAt.grow (h : FwAt w wr n rb j D) (ho : Ext wr w') : FwAt w w' n rb j D := ⟨h.ext.then ho, h.top.ext ho, fun i hi => (h.rows i hi).ext ho, h.lo, h.inj⟩
theorem FwAt.cellR (h : FwAt w wr n rb j D) {i : Nat} (hi : i < j) (hn : i < n) : wr.cell? ⟨w.heap.size, i, none⟩ = some (TabV (rb i) n) := by rw [h.top.cell hn, if_pos hi]
theorem FwAt.cell (h : FwAt w wr n rb j D) {i k : Nat} (hi : i < j) (hk : k < n) : wr.cell? ⟨rb i, k, none⟩ = some (IN (D i k)) := (h.rows i hi).cell hk
theorem FwAt.free (h : FwAt w wr n rb j D) {i : Nat} (hi : i < j) (k : Nat) : wr.frozen? ⟨rb i, k, none⟩ = false := (h.rows i hi).free k
theorem FwAt.same (h : FwAt w wr n rb j D) {D' : Nat → Nat → Nat} (hd : ∀ a b, a < j → b < n → D a b = D' a b) : FwAt w wr n rb j D' := ⟨h.ext, h.top, fun i hi => (h.rows i hi).congr fun k hk => by rw [hd i k hi hk], h.lo, h.inj⟩
theorem FwAt.start (w : World) (n : Nat) : FwAt w (w.alloc (.cells (Array.replicate n (.slice none 0 0)) 63 (0, 0))) n (fun _ => 0) 0 (fun _ _ => 0) :=
  ⟨Only.alloc _ _ _, (TabAt.made w _ n _).congr (fun _ _ => (if_neg (by omega)).symm), fun _ h => by omega, fun _ h => by omega, fun _ _ h => by omega⟩
theorem FwAt.row (h : FwAt w wr n rb j D) (D' : Nat → Nat → Nat) (h0 : ∀ k, k < n → D' j k = 0) (hd : ∀ a b, a < j → b < n → D a b = D' a b) :
    FwAt w ((wr.alloc (.cells (Array.replicate n (.int .i64 0)) 3 (0, 0))).setCell ⟨w.heap.size, j, none⟩ (TabV wr.heap.size n)) n (fun i => if i = j then wr.heap.size else rb i) (j + 1) D' := by
  have x1 : Ext wr (wr.alloc (.cells (Array.replicate n (.int .i64 0)) 3 (0, 0))) := Only.alloc _ _ _
  have hs : Only (fun i => i = w.heap.size) (wr.alloc (.cells (Array.replicate n (.int .i64 0)) 3 (0, 0))) ((wr.alloc (.cells (Array.replicate n (.int .i64 0)) 3 (0, 0))).setCell ⟨w.heap.size, j, none⟩ (TabV wr.heap.size n)) := Only.set _ rfl
  have htl := h.top.lt
  have hx := h.ext.size
  have rne : ∀ i, i < j → rb i ≠ wr.heap.size := fun i hi e => by have := (h.rows i hi).lt; omega
  refine ⟨ext_setS (h.ext.then x1) _ _ (Nat.le_refl _), ((h.top.ext x1).set j _).congr (fun i hi => ?_), fun i hi => ?_, fun i hi => ?_, fun a b ha hb e => ?_⟩
  · by_cases e : i = j
    · rw [if_pos e, if_pos (by omega), if_pos e]
    · rw [if_neg e, if_neg e]
      by_cases h2 : i < j
      · rw [if_pos h2, if_pos (by omega)]
      · rw [if_neg h2, if_neg (by omega)]
  · by_cases e : i = j
    · subst e
      rw [if_pos rfl]
      refine ((TabAt.made wr 3 n (.int .i64 0)).later hs (by omega)).congr fun k hk => ?_
      rw [h0 k hk]; rfl
    · rw [if_neg e]
      have hij : i < j := by omega
      refine (((h.rows i hij).ext x1).later hs (by have := h.lo i hij; omega)).congr fun k hk => ?_
      rw [hd i k hij hk]
  · by_cases e : i = j
    · rw [if_pos e]; omega
    · rw [if_neg e]; exact h.lo i (by omega)
  · by_cases ea : a = j
    · by_cases eb : b = j
      · omega
      · rw [if_pos ea, if_neg eb] at e
        exact absurd e.symm (rne b (by omega))
    · by_cases eb : b = j
      · rw [if_neg ea, if_pos eb] at e
        exact absurd e (rne a (by omega))
      · rw [if_neg ea, if_neg eb] at e
        exact h.inj a b (by omega) (by omega) e
theorem FwAt.grown {v : Value} {bs : Nat} (h : FwAt w wr n rb j D) (hg : wr.grownBy w' v.ownBlock) (hb : ∀ i, v.ownBlock = some i → bs ≤ i) (h1 : w.heap.size < bs) (h2 : ∀ i, i < j → rb i < bs) : FwAt w w' n rb j D := by
  have ho : Only (fun i => v.ownBlock = some i) wr w' := Only.of_grown hg
  exact ⟨grown_ext h.ext (fun i hi => by have := hb i hi; omega) hg, h.top.later ho (fun e => by have := hb _ e; omega), fun i hi => (h.rows i hi).later ho (fun e => by have := hb _ e; have := h2 i hi; omega), h.lo, h.inj⟩
theorem FwAt.put (h : FwAt w wr n rb j D) {i : Nat} (hi : i < j) (k v : Nat) : FwAt w (wr.setCell ⟨rb i, k, none⟩ (IN v)) n rb j (fun a b => if a = i ∧ b = k then v else D a b) := by
  have hs : Only (fun b => b = rb i) wr (wr.setCell ⟨rb i, k, none⟩ (IN v)) := Only.set _ rfl
  refine ⟨ext_setS h.ext _ _ (Nat.le_of_lt (h.lo i hi)), h.top.later hs (by have := h.lo i hi; omega), fun a ha => ?_, h.lo, h.inj⟩
  by_cases e : a = i
  · subst e
    refine ((h.rows a ha).set k (IN v)).congr fun b _ => ?_
    by_cases eb : b = k
    · rw [if_pos eb, if_pos ⟨rfl, eb⟩]
    · rw [if_neg eb, if_neg (fun h => eb h.2)]
  · refine ((h.rows a ha).later hs (fun e2 => e (h.inj a i ha hi e2))).congr fun b _ => ?_
    rw [if_neg (fun h => e h.1)]
end

set_option maxRecDepth 100000 in
theorem run_ints (n : Nat) (hn : n ≤ 1000000) (w : World) : (Instr.makeSlice 63 (.int .i64 (n : Int)) (.int .i64 (n : Int))).run Tryz.prog w =
    .ok (.slice (some ⟨w.heap.size, 0, none⟩) n n) (w.alloc (.cells (Array.replicate n (.int .i64 0)) 3 (0, 0))) := by
  obtain ⟨i0, hi, hz0, hz1, hz2⟩ := info_parts infoInt
  have h := run_make w 63 3 i0 (.int .i64 0) Tryz.underlying63 hi hz0 .i64 .i64 (n : Int) (n : Int) (by omega) (Int.le_refl _) (by rw [hz2]; omega) (by omega)
  rw [h, hz1]
  rw [Int.toNat_natCast, Nat.mul_one]
  congr 2
  congr 1
  apply Array.ext
  · simp [madeCells]
  · intro i h1 h2
    simp [madeCells, Value.cells, Nat.mod_one]

def RetCR (n : Nat) (nd : Nat → Nat → Bool) (w : World) (e : Ending) (w' : World) : Prop := ∃ v c, e = .returned v ∧ RowI w.heap.size w' v c ∧ Ext w w' ∧ CycRef n nd c

set_option maxRecDepth 100000 in
set_option maxHeartbeats 16000000 in
theorem cycleOf_any (w : World) (l : List Rule) (v : Value) (hv : RdR w v l) (hl : l.length ≤ 40) :
    Calls Tryz.prog 77 #[v] w (RetCR l.length (needB l) w) := by
  have HRD := Lib.hid hv
  have HND : Hid (∀ i j, needB l i j = true → j < l.length) := Lib.hid (fun _ _ h => (needB_lt h).2)
  obtain ⟨a, cap, rfl, _, _, _⟩ := hv
  have hmk := run_rows l.length (by omega) w
  have hmi := run_ints l.length (by omega)
  have HF0 : Hid (FwAt w (w.alloc (.cells (Array.replicate l.length (.slice none 0 0)) 63 (0, 0))) l.length (fun _ => 0) 0 (fun _ _ => 0)) := Lib.hid (FwAt.start w l.length)
  have hnz : (l.length : Int) ≤ 40 := by omega
  have HL := Lib.hid hl
  go_enter Tryz.func77, Tryz.ntmps77
  go_wp2_with fail
  clear hmk
  go_loopw [5, 6] (fun i _ wr => ∃ (j : Nat) (rb : Nat → Nat) (D : Nat → Nat → Nat), j ≤ l.length ∧ i = .int .i64 j ∧ Hid (FwAt w wr l.length rb j D) ∧ Hid (∀ a b, a < j → b < l.length → D a b = if needB l a b then 1 else 1000)) (fun i _ _ => l.length - (intOf i).toNat)
  case atStart => exact ⟨0, _, _, Nat.zero_le _, rfl, HF0, Lib.hid (fun a b h => by omega)⟩
  case round =>
    clear HF0
    obtain ⟨j, rb, D, hj, rfl, HF, HD⟩ := hrel
    by_cases hlt : j < l.length
    · have hltz : (j : Int) < (l.length : Int) := by omega
      have hj0 : (0 : Int) ≤ (j : Int) := by omega
      have hjn : ¬ (j : Int) < 0 := by omega
      have hjl : ¬ (l.length : Int) ≤ (j : Int) := by omega
      have HLT := Lib.hid hlt
      have hx1 : Ext wr (wr.alloc (.cells (Array.replicate l.length (.int .i64 0)) 3 (0, 0))) := Only.alloc _ _ _
      have d0 := (HF.out.top.ext hx1).cell hlt
      have f0 := (HF.out.top.ext hx1).free j
      have hmi2 := hmi wr
      obtain ⟨D1, hd1⟩ : ∃ D1 : Nat → Nat → Nat, ∀ a b, D1 a b = if a = j then 0 else D a b := ⟨_, fun _ _ => rfl⟩
      have HF1 := Lib.hid (HF.out.row D1 (fun k _ => by rw [hd1, if_pos rfl]) (fun a b ha _ => by rw [hd1, if_neg (by omega)]))
      have HD1 : Hid (∀ a b, a < j → b < l.length → D1 a b = if needB l a b then 1 else 1000) := Lib.hid (fun a b ha hb => by rw [hd1, if_neg (by omega)]; exact HD.out a b ha hb)
      clear hd1
      clear hlt hx1
      go_wp2_with fail
      clear hmi2 d0 f0
      obtain ⟨rb1, hrb1⟩ : ∃ rb1 : Nat → Nat, rb1 = fun i => if i = j then wr.heap.size else rb i := ⟨_, rfl⟩
      rw [← hrb1] at HF1
      clear hrb1 HF HD
      go_loopw [6] (fun i wx => ∃ (k : Nat) (D : Nat → Nat → Nat), k ≤ l.length ∧ i = .int .i64 k ∧ Hid (FwAt w wx l.length rb1 (j + 1) D) ∧ Hid (∀ a b, b < l.length → (a < j ∨ a = j ∧ b < k) → D a b = if needB l a b then 1 else 1000)) (fun i _ => l.length - (intOf i).toNat)
      case atStart => exact ⟨0, D1, Nat.zero_le _, rfl, HF1, Lib.hid (fun a b hb h => HD1.out a b (by omega) hb)⟩
      case round =>
        clear HF1 HD1
        obtain ⟨k, D, hk, rfl, HF, HD⟩ := hrel
        by_cases hkl : k < l.length
        · have hkz : (k : Int) < (l.length : Int) := by omega
          have hk0 : (0 : Int) ≤ (k : Int) := by omega
          have hk1 : ¬ (k : Int) < 0 := by omega
          have hk2 : ¬ (l.length : Int) ≤ (k : Int) := by omega
          have HKL := Lib.hid hkl
          have e1 := HF.out.cellR (Nat.lt_succ_self j) HLT.out
          have e2 := HF.out.cell (Nat.lt_succ_self j) hkl
          have g2 := HF.out.free (Nat.lt_succ_self j) k
          have HF2 : Hid (FwAt w (wr.setCell ⟨rb1 j, k, none⟩ (.int .i64 1000)) l.length rb1 (j + 1) (fun a b => if a = j ∧ b = k then 1000 else D a b)) := Lib.hid (HF.out.put (Nat.lt_succ_self j) k 1000)
          have hnr := needsRule_any _ _ l j k HLT.out hkl (HRD.out.ext HF2.out.ext)
          clear hkl
          cases hq : needB l j k with
          | false =>
            have HD2 : Hid (∀ a b, b < l.length → (a < j ∨ a = j ∧ b < k + 1) → (if a = j ∧ b = k then 1000 else D a b) = if needB l a b then 1 else 1000) := Lib.hid (fun a b hb h => by
              by_cases e : a = j ∧ b = k
              · rw [if_pos e, e.1, e.2, hq]; rfl
              · rw [if_neg e]; exact HD.out a b hb (by omega))
            rw [hq] at hnr
            have HNR := Lib.hid hnr
            clear hq hnr
            go_wp2_with fail
            refine HNR.out.mono ?_
            rintro e w3 ⟨rfl, ho⟩
            have HF3 := Lib.hid (HF2.out.grow ho)
            clear ho e1 e2 g2
            go_wp2_with fail
            go_roundw
            case rel => exact ⟨k + 1, _, HKL.out, by go_num, HF3, HD2⟩
            case measure => have := HKL.out; simp [intOf]; omega
          | true =>
            have HD2 : Hid (∀ a b, b < l.length → (a < j ∨ a = j ∧ b < k + 1) → (if a = j ∧ b = k then 1 else if a = j ∧ b = k then 1000 else D a b) = if needB l a b then 1 else 1000) := Lib.hid (fun a b hb h => by
              by_cases e : a = j ∧ b = k
              · rw [if_pos e, e.1, e.2, hq]; rfl
              · rw [if_neg e, if_neg e]; exact HD.out a b hb (by omega))
            rw [hq] at hnr
            have HNR := Lib.hid hnr
            clear hq hnr
            go_wp2_with fail
            refine HNR.out.mono ?_
            rintro e w3 ⟨rfl, ho⟩
            have hf3 := HF2.out.grow ho
            clear ho e1 e2 g2
            have e1 := hf3.cellR (Nat.lt_succ_self j) HLT.out
            have e2 := hf3.cell (Nat.lt_succ_self j) HKL.out
            have g2 := hf3.free (Nat.lt_succ_self j) k
            have HF4 : Hid (FwAt w (w3.setCell ⟨rb1 j, k, none⟩ (.int .i64 1)) l.length rb1 (j + 1) (fun a b => if a = j ∧ b = k then 1 else if a = j ∧ b = k then 1000 else D a b)) := Lib.hid (hf3.put (Nat.lt_succ_self j) k 1)
            clear hf3
            go_wp2_with fail
            go_roundw
            case rel => exact ⟨k + 1, _, HKL.out, by go_num, HF4, HD2⟩
            case measure => have := HKL.out; simp [intOf]; omega
        · have hkz : ¬ (k : Int) < (l.length : Int) := by omega
          have HD2 : Hid (∀ a b, a < j + 1 → b < l.length → D a b = if needB l a b then 1 else 1000) := Lib.hid (fun a b ha hb => HD.out a b hb (by omega))
          go_wp2_with fail
          go_roundw
          case rel => exact ⟨j + 1, rb1, D, HLT.out, by go_num, HF, HD2⟩
          case measure => have := HLT.out; simp [intOf]; omega
    · have hltz : ¬ (j : Int) < (l.length : Int) := by omega
      obtain rfl : j = l.length := by omega
      have HI0 : Hid (∀ a b, a < l.length → b < l.length → IsD (needB l) 0 a b (D a b)) := Lib.hid (fun a b ha hb => by rw [HD.out a b ha hb]; exact IsD.start a b)
      clear hlt hj HD hmi
      go_wp2_with fail
      go_loopw [7, 8, 9] (fun i _ _ wx => ∃ (m : Nat) (D : Nat → Nat → Nat), m ≤ l.length ∧ i = .int .i64 m ∧ Hid (FwAt w wx l.length rb l.length D) ∧ Hid (∀ a b, a < l.length → b < l.length → IsD (needB l) m a b (D a b))) (fun i _ _ _ => l.length - (intOf i).toNat)
      case atStart => exact ⟨0, D, Nat.zero_le _, rfl, HF, HI0⟩
      case round =>
        clear HF HI0
        obtain ⟨m, D0, hm, rfl, HF, HI⟩ := hrel
        by_cases hml : m < l.length
        · have hmz : (m : Int) < (l.length : Int) := by omega
          have hm0 : (0 : Int) ≤ (m : Int) := by omega
          have hm1 : ¬ (m : Int) < 0 := by omega
          have hm2 : ¬ (l.length : Int) ≤ (m : Int) := by omega
          have HML := Lib.hid hml
          clear hml
          go_wp2_with fail
          go_loopw [8, 9] (fun i _ wx => ∃ (t : Nat) (D : Nat → Nat → Nat), t ≤ l.length ∧ i = .int .i64 t ∧ Hid (FwAt w wx l.length rb l.length D) ∧ Hid (FwTo l.length D0 D m t 0)) (fun i _ _ => l.length - (intOf i).toNat)
          case atStart => exact ⟨0, D0, Nat.zero_le _, rfl, HF, Lib.hid (FwTo.start _ _ _)⟩
          case round =>
            clear HF
            obtain ⟨t, D, ht, rfl, HF, HT⟩ := hrel
            by_cases htl : t < l.length
            · have htz : (t : Int) < (l.length : Int) := by omega
              have ht0 : (0 : Int) ≤ (t : Int) := by omega
              have ht1 : ¬ (t : Int) < 0 := by omega
              have ht2 : ¬ (l.length : Int) ≤ (t : Int) := by omega
              have HTL := Lib.hid htl
              clear htl
              go_wp2_with fail
              go_loopw [9] (fun i wx => ∃ (k : Nat) (D : Nat → Nat → Nat), k ≤ l.length ∧ i = .int .i64 k ∧ Hid (FwAt w wx l.length rb l.length D) ∧ Hid (FwTo l.length D0 D m t k)) (fun i _ => l.length - (intOf i).toNat)
              case atStart => exact ⟨0, D, Nat.zero_le _, rfl, HF, HT⟩
              case round =>
                clear HF HT
                obtain ⟨k, D, hk, rfl, HF, HT⟩ := hrel
                by_cases hkl : k < l.length
                · have hkz : (k : Int) < (l.length : Int) := by omega
                  have hk0 : (0 : Int) ≤ (k : Int) := by omega
                  have hk1 : ¬ (k : Int) < 0 := by omega
                  have hk2 : ¬ (l.length : Int) ≤ (k : Int) := by omega
                  have HKL := Lib.hid hkl
                  have e1 := fun n => (HF.out.grow (Only.drewN _ _ n)).cellR HTL.out HTL.out
                  have e2 := fun n => (HF.out.grow (Only.drewN _ _ n)).cellR HML.out HML.out
                  have q1 := fun n => (HF.out.grow (Only.drewN _ _ n)).cell HTL.out HML.out
                  have q2 := fun n => (HF.out.grow (Only.drewN _ _ n)).cell HML.out hkl
                  have q3 := fun n => (HF.out.grow (Only.drewN _ _ n)).cell HTL.out hkl
                  have g3 := fun n => (HF.out.grow (Only.drewN _ _ n)).free HTL.out k
                  have hq1 := (HI.out t m HTL.out HML.out).le
                  have hq2 := (HI.out m k HML.out hkl).le
                  rw [← HT.out.im HTL.out HML.out] at hq1
                  rw [← HT.out.mk hkl HML.out] at hq2
                  have hfw : fwV D0 m t k = if D t m + D m k < D t k then D t m + D m k else D t k := by
                    unfold fwV
                    rw [HT.out.im HTL.out HML.out, HT.out.mk hkl HML.out, HT.out.here HTL.out hkl]
                  have hz1 : (D t m : Int) ≤ 1000 := by omega
                  have hz2 : (D m k : Int) ≤ 1000 := by omega
                  clear hkl
                  by_cases hc : D t m + D m k < D t k
                  · rw [if_pos hc] at hfw
                    have hcz : (D t m : Int) + (D m k : Int) < (D t k : Int) := by omega
                    have HT2 : Hid (FwTo l.length D0 (fun a b => if a = t ∧ b = k then D t m + D m k else D a b) m t (k + 1)) := Lib.hid (HT.out.next (fun a b _ _ => by rw [hfw]))
                    have HF2 := Lib.hid (fun n => (HF.out.grow (Only.drewN _ _ n)).put HTL.out k (D t m + D m k))
                    clear hfw hc hq1 hq2
                    go_wp2_with fail
                    go_quiet (fail)
                    go_wp2_with fail
                    go_region_law (fail)
                    all_goals
                      go_wp2_with fail
                      go_roundw
                      case rel => exact ⟨k + 1, _, HKL.out, by go_num, Lib.hid (HF2.out _), HT2⟩
                      case measure => have := HKL.out; simp [intOf]; omega
                  · rw [if_neg hc] at hfw
                    have hcz : ¬ (D t m : Int) + (D m k : Int) < (D t k : Int) := by omega
                    have HT2 : Hid (FwTo l.length D0 D m t (k + 1)) := Lib.hid (HT.out.next (fun a b _ _ => by
                      rw [hfw]
                      split
                      · rename_i e; rw [e.1, e.2]
                      · rfl))
                    have HF2 := Lib.hid (fun n => (HF.out.grow (Only.drewN _ _ n)))
                    clear hfw hc hq1 hq2
                    go_wp2_with fail
                    go_quiet (fail)
                    go_wp2_with fail
                    go_roundw
                    case rel => exact ⟨k + 1, _, HKL.out, by go_num, Lib.hid (HF2.out _), HT2⟩
                    case measure => have := HKL.out; simp [intOf]; omega
                · have hkz : ¬ (k : Int) < (l.length : Int) := by omega
                  obtain rfl : k = l.length := by omega
                  have HT2 := Lib.hid HT.out.line
                  go_wp2_with fail
                  go_roundw
                  case rel => exact ⟨t + 1, D, HTL.out, by go_num, HF, HT2⟩
                  case measure => have := HTL.out; simp [intOf]; omega
            · have htz : ¬ (t : Int) < (l.length : Int) := by omega
              obtain rfl : t = l.length := by omega
              have HI2 := Lib.hid (HT.out.round HML.out HI.out)
              go_wp2_with fail
              go_roundw
              case rel => exact ⟨m + 1, D, HML.out, by go_num, HF, HI2⟩
              case measure => have := HML.out; simp [intOf]; omega
        · have hmz : ¬ (m : Int) < (l.length : Int) := by omega
          obtain rfl : m = l.length := by omega
          clear hml hm
          go_wp2_with fail
          go_loopw [10, 11, 12, 13, 14] (fun i _ _ _ _ wx => ∃ j : Nat, j ≤ l.length ∧ i = .int .i64 j ∧ Hid (FwAt w wx l.length rb l.length D0) ∧ Hid (∀ t, t < j → ∀ s, 1 ≤ s → ¬ Way (needB l) t s t)) (fun i _ _ _ _ _ => l.length - (intOf i).toNat)
          case atStart => exact ⟨0, Nat.zero_le _, rfl, HF, Lib.hid (fun t h => by omega)⟩
          case round =>
            clear HF
            obtain ⟨j, hj, rfl, HF, HNO⟩ := hrel
            by_cases hjl : j < l.length
            · have hjz : (j : Int) < (l.length : Int) := by omega
              have hj0 : (0 : Int) ≤ (j : Int) := by omega
              have hj1 : ¬ (j : Int) < 0 := by omega
              have hj2 : ¬ (l.length : Int) ≤ (j : Int) := by omega
              have HJL := Lib.hid hjl
              have e1 := HF.out.cellR hjl hjl
              have q1 := HF.out.cell hjl hjl
              by_cases hd : 1000 ≤ D0 j j
              · have hdz : (1000 : Int) ≤ (D0 j j : Int) := by omega
                have HNO2 : Hid (∀ t, t < j + 1 → ∀ s, 1 ≤ s → ¬ Way (needB l) t s t) := Lib.hid (fun t ht => by
                  rcases Nat.lt_succ_iff_lt_or_eq.1 ht with h | rfl
                  · exact HNO.out t h
                  · exact far_none HND.out (by have := HL.out; omega) hjl (HI.out t t hjl hjl) hd)
                clear hjl hd
                go_wp2_with fail
                go_roundw
                case rel => exact ⟨j + 1, HJL.out, by go_num, HF, HNO2⟩
                case measure => have := HJL.out; simp [intOf]; omega
              · have hdz : ¬ (1000 : Int) ≤ (D0 j j : Int) := by omega
                obtain ⟨m, hm⟩ : ∃ m, m = D0 j j := ⟨_, rfl⟩
                have hlm : Least (needB l) j j m := (isD_least HND.out (HI.out j j hjl hjl) (by omega : m < 1000)).1 hm.symm
                obtain ⟨c, hc⟩ : ∃ c, D0 j j = c + 1 := ⟨D0 j j - 1, by have := hlm.1; omega⟩
                have HLM : Hid (Least (needB l) j j (c + 1)) := Lib.hid (by rw [← hc, ← hm]; exact hlm)
                have hc9 : c + 1 < 1000 := by omega
                rw [hc] at q1 hdz
                have hcz : ((c + 1 : Nat) : Int) - 1 = (c : Int) := by omega
                have hcb : (c : Int) ≤ 1000 := by omega
                have HC9 := Lib.hid hc9
                have HDJ : Hid (∀ a, a < l.length → IsD (needB l) l.length a j (D0 a j)) := Lib.hid (fun a ha => HI.out a j ha hjl)
                have hx1 : Ext wr (wr.alloc (.cells #[IN j] 3 (0, 0))) := Only.alloc _ _ _
                have e2 := hx1.cellOf e1 (fun h => h)
                have q2 := hx1.cellOf q1 (fun h => h)
                have HR1 := Lib.hid (lit_row wr j)
                have HSB := Lib.hid hx1.size
                have HF1 := Lib.hid (HF.out.grow hx1)
                have HBB : Hid (w.heap.size < wr.heap.size ∧ ∀ i, i < l.length → rb i < wr.heap.size) := Lib.hid ⟨HF.out.top.lt, fun i hi => (HF.out.rows i hi).lt⟩
                clear hjl hd hm hlm hc hc9 hx1
                go_wp2_with fail
                clear e1 e2 q1 q2
                obtain ⟨bs, hbs⟩ : ∃ bs, bs = wr.heap.size := ⟨_, rfl⟩
                rw [← hbs] at HR1 HBB HSB
                rw [← hbs]
                clear hbs
                go_loopw [11, 12, 13, 14] (fun q a lf _ wx => ∃ (left at_ : Nat) (qv : Value) (done : List Nat), qv = q ∧ a = .int .i64 at_ ∧ lf = .int .i64 left ∧ at_ < l.length ∧ left ≤ c ∧ Hid (FwAt w wx l.length rb l.length D0) ∧ Hid (RowI bs wx qv (j :: done)) ∧ Hid (bs ≤ wx.heap.size) ∧ Hid (Least (needB l) j at_ (left + 1)) ∧ Hid (done.length + left = c) ∧ Hid (wayGo l.length (needB l) (fun k => (D0 k j : Int)) c j = done ++ wayGo l.length (needB l) (fun k => (D0 k j : Int)) left at_)) (fun _ _ lf _ _ => (intOf lf).toNat)
                case atStart => exact ⟨c, j, _, [], rfl, rfl, rfl, HJL.out, Nat.le_refl _, HF1, HR1, HSB, HLM, Lib.hid (by simp), Lib.hid rfl⟩
                case round =>
                  clear HF1 HR1 HF
                  obtain ⟨left, at_, qv, done, rfl, rfl, rfl, hat, hle, HF, HR, HB, HLS, HDN, HW⟩ := hrel
                  by_cases hl0 : left = 0
                  · subst hl0
                    have hend : wayGo l.length (needB l) (fun k => (D0 k j : Int)) c j = done := by rw [HW.out]; simp [wayGo]
                    have HEND := Lib.hid hend
                    clear hend
                    go_wp2_with fail
                    go_ret
                    exact ⟨_, j :: done, rfl, HR.out.down (Nat.le_of_lt HBB.out.1), HF.out.ext, .inr ⟨j, c + 1, D0, HJL.out, HNO.out, HI.out, HC9.out, HLM.out, by rw [Nat.add_sub_cancel, HEND.out]⟩⟩
                  · obtain ⟨lf, hlf⟩ : ∃ lf, left = lf + 1 := ⟨left - 1, by omega⟩
                    have hls := HLS.out
                    have hww := HW.out
                    rw [hlf] at hls hww
                    obtain ⟨q, hqn, hnq, hdq, hmin, hlq, hgo⟩ := wayD_step (D := D0) (i := j) HND.out HDJ.out hls (by have := HC9.out; omega)
                    rw [← hlf] at hdq hmin
                    have HQ : Hid (q < l.length ∧ needB l at_ q = true ∧ D0 q j = left ∧ ∀ t, t < q → ¬ (needB l at_ t = true ∧ D0 t j = left)) := Lib.hid ⟨hqn, hnq, hdq, hmin⟩
                    have HLQ := Lib.hid hlq
                    have HW2 : Hid (wayGo l.length (needB l) (fun k => (D0 k j : Int)) c j = (done ++ [q]) ++ wayGo l.length (needB l) (fun k => (D0 k j : Int)) lf q) := Lib.hid (by rw [hww, hgo, List.append_assoc]; rfl)
                    have hlb : (lf : Int) ≤ 1000 := by have := HC9.out; omega
                    have hcast : (left : Int) = (lf : Int) + 1 := by omega
                    rw [hcast]
                    have HAT := Lib.hid hat
                    have HLF := Lib.hid hlf
                    clear hqn hnq hdq hmin hlq hgo HW HLS hls hww hlf hl0 hcast
                    go_wp2_with fail
                    go_loopw [12, 14] (fun a i wy => ∃ k : Nat, k ≤ q ∧ a = .int .i64 at_ ∧ i = .int .i64 k ∧ Hid (FwAt w wy l.length rb l.length D0) ∧ Hid (RowI bs wy qv (j :: done)) ∧ Hid (bs ≤ wy.heap.size)) (fun _ i _ => l.length - (intOf i).toNat)
                    case atStart => exact ⟨0, Nat.zero_le _, rfl, rfl, HF, HR, HB⟩
                    case round =>
                      clear HF HR HB
                      obtain ⟨k, hkq, rfl, rfl, HF, HR, HB⟩ := hrel
                      have hkl : k < l.length := Nat.lt_of_le_of_lt hkq HQ.out.1
                      have hkz : (k : Int) < (l.length : Int) := by omega
                      have hk0 : (0 : Int) ≤ (k : Int) := by omega
                      have hk1 : ¬ (k : Int) < 0 := by omega
                      have hk2 : ¬ (l.length : Int) ≤ (k : Int) := by omega
                      have hnr := needsRule_any wr _ l at_ k HAT.out hkl (HRD.out.ext HF.out.ext)
                      have HKL := Lib.hid hkl
                      have hsame : k ≠ q → k + 1 ≤ q := fun h => by omega
                      cases hq : needB l at_ k with
                      | false =>
                        have hnx := hsame (fun e => by rw [e, HQ.out.2.1] at hq; cases hq)
                        rw [hq] at hnr
                        have HNR := Lib.hid hnr
                        clear hkl hnr hq hsame
                        go_wp2_with fail
                        refine HNR.out.mono ?_
                        rintro e w3 ⟨rfl, ho⟩
                        have HF3 := Lib.hid (HF.out.grow ho)
                        have HR3 := Lib.hid (HR.out.ext ho)
                        have HB3 := Lib.hid (Nat.le_trans HB.out ho.size)
                        clear ho
                        go_wp2_with fail
                        go_roundw
                        case rel => exact ⟨k + 1, hnx, rfl, by go_num, HF3, HR3, HB3⟩
                        case measure => have := HKL.out; simp [intOf]; omega
                      | true =>
                        rw [hq] at hnr
                        have HNR := Lib.hid hnr
                        by_cases hd : D0 k j = left
                        · have hkq2 : k = q := Classical.byContradiction fun hne => HQ.out.2.2.2 k (by omega) ⟨hq, hd⟩
                          subst hkq2
                          clear hkl hnr hq hsame
                          go_wp2_with fail
                          refine HNR.out.mono ?_
                          rintro e w3 ⟨rfl, ho⟩
                          have hf3 := HF.out.grow ho
                          have e1 := hf3.cellR HKL.out HKL.out
                          have q1 := hf3.cell HKL.out HJL.out
                          rw [hd, HLF.out] at q1
                          have HF3 := Lib.hid hf3
                          have HR3 := Lib.hid (HR.out.ext ho)
                          have HB3 : Hid (bs ≤ w3.heap.size) := Lib.hid (Nat.le_trans HB.out ho.size)
                          have hln : (j :: done).length ≤ 1000000 := by have := HDN.out; have := HC9.out; rw [List.length_cons]; omega
                          have HLNN := Lib.hid hln
                          have HBB1 : Hid (w.heap.size ≤ bs) := Lib.hid (Nat.le_of_lt HBB.out.1)
                          clear ho hf3 hd hln
                          go_wp2_with (at_builtin; refine wpNum rfl (.tmp 158) (.tmp 160) w bs _ (j :: done) k w3 rfl rfl rfl rfl HR3.out HLNN.out HB3.out HF3.out.ext HBB1.out ?_; intro g5 cap5 w5 HR5 HX5 HG5; have HF5 := Lib.hid (HF3.out.grown HG5.out HR3.out.base HBB.out.1 HBB.out.2); have HB5 : Hid (bs ≤ w5.heap.size) := Lib.hid (Nat.le_trans HB3.out (Only.of_grown HG5.out).size))
                          go_roundw
                          case rel => exact ⟨lf, k, _, done ++ [k], rfl, rfl, by go_num, HKL.out, by have := HLF.out; omega, HF5, HR5, HB5, HLQ, Lib.hid (by have := HDN.out; have := HLF.out; rw [List.length_append]; simp; omega), HW2⟩
                          case measure => simp [intOf]
                        · have hnx := hsame (fun e => hd (by rw [e]; exact HQ.out.2.2.1))
                          have hdz : ¬ ((D0 k j : Int) = (lf : Int) + 1) := by have := HLF.out; omega
                          clear hkl hnr hq hsame
                          go_wp2_with fail
                          refine HNR.out.mono ?_
                          rintro e w3 ⟨rfl, ho⟩
                          have hf3 := HF.out.grow ho
                          have e1 := hf3.cellR HKL.out HKL.out
                          have q1 := hf3.cell HKL.out HJL.out
                          have HF3 := Lib.hid hf3
                          have HR3 := Lib.hid (HR.out.ext ho)
                          have HB3 := Lib.hid (Nat.le_trans HB.out ho.size)
                          clear ho hf3 hd
                          go_wp2_with fail
                          go_roundw
                          case rel => exact ⟨k + 1, hnx, rfl, by go_num, HF3, HR3, HB3⟩
                          case measure => have := HKL.out; simp [intOf]; omega
            · have hjz : ¬ (j : Int) < (l.length : Int) := by omega
              have HNO2 : Hid (∀ i < l.length, ∀ s, 1 ≤ s → ¬ Way (needB l) i s i) := Lib.hid (fun i hi => HNO.out i (by omega))
              clear hjl hj
              go_wp2_with fail
              go_ret
              exact ⟨_, [], rfl, RowI.nil _ _, HF.out.ext, .inl ⟨rfl, HNO2.out⟩⟩
end Go.Proofs.YtnmhaipjfpongabGreatDoor

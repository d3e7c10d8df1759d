/- CacheActs' state: package cache and the model side by side; and cache.New of a number that is out of bounds. -/
import Derived.Test.YtnmhaipjfpongaaDoorM2
namespace Go.Proofs.YtnmhaipjfpongaaDoor
open Go.ChangeShapes Go.WideShapes Go.ChangeAt Go.RowKit

structure Two (w0 wr : World) (b mb m n : Nat) (sv slv : Value) (LC LM : List (B × B)) : Prop where
  ext : Ext w0 wr
  new : ∀ i, InCache b mb sv i → w0.heap.size ≤ i
  mnew : w0.heap.size ≤ m
  cache : CacheAt wr b mb sv n LC
  cells : wr.heap[m]? = some (.cells #[I n, slv] 51 (0, 0))
  rd : RdS 2 encE wr slv LM
  ds : ∀ i, slv.ownBlock = some i → ¬ InCache b mb sv i ∧ i ≠ m ∧ i < wr.heap.size

section
variable {w0 wr w' : World} {b mb m n : Nat} {sv slv : Value} {LC LM : List (B × B)}

theorem Two.notm (I : Two w0 wr b mb m n sv slv LC LM) : ¬ InCache b mb sv m := heap_not_cache I.cells I.cache (by decide) (by decide)

theorem Two.later (I : Two w0 wr b mb m n sv slv LC LM) (h : Ext wr w') : Two w0 w' b mb m n sv slv LC LM :=
  ⟨I.ext.ext h, I.new, I.mnew, I.cache.later h (fun _ _ h => h), h.heapOf I.cells (fun h => h), I.rd.ext h, fun i e => ⟨(I.ds i e).1, (I.ds i e).2.1, Nat.lt_of_lt_of_le (I.ds i e).2.2 h.size⟩⟩

theorem Two.cacheStep {L' : List (B × B)} {r : Value} {e : Ending} (I : Two w0 wr b mb m n sv slv LC LM) (h : Got wr b mb sv n L' r e w') :
    ∃ sv', e = .returned r ∧ Two w0 w' b mb m n sv' slv L' LM := by
  obtain ⟨sv', rfl, hc, ho, hn⟩ := h
  refine ⟨sv', rfl, I.ext.new ho I.new, new_step I.new hn I.ext.size, I.mnew, hc, ho.heapOf I.cells I.notm, I.rd.later ho (fun i e => (I.ds i e).1), fun i e => ⟨fun hi => ?_, (I.ds i e).2.1, Nat.lt_of_lt_of_le (I.ds i e).2.2 ho.size⟩⟩
  rcases hn i hi with h | h
  · exact (I.ds i e).1 h
  · have := (I.ds i e).2.2; omega

theorem Two.modelStep {L' : List (B × B)} {r : Value} {e : Ending} (I : Two w0 wr b mb m n sv slv LC LM) (h : GotM wr m n slv L' r e w') :
    ∃ slv', e = .returned r ∧ Two w0 w' b mb m n sv slv' LC L' := by
  obtain ⟨slv', rfl, hc, hr, ho, hn⟩ := h
  have hm := lt_of_heap I.cells
  refine ⟨slv', rfl, I.ext.new ho (fun i h => h ▸ I.mnew), I.new, I.mnew, I.cache.later ho (fun i hi e => I.notm (e ▸ hi)), hc, hr, fun i e => ?_⟩
  rcases hn i e with h | ⟨h1, h2⟩
  · exact ⟨(I.ds i h).1, (I.ds i h).2.1, Nat.lt_of_lt_of_le (I.ds i h).2.2 ho.size⟩
  · exact ⟨fun hi => by have := I.cache.lt i hi; omega, by omega, h2⟩
end

theorem putL_len {n : Nat} {L : List (B × B)} (k x : B) (h : L.length ≤ n) : (putL n L k x).length ≤ n := by
  have hf := List.length_filter_le (fun p : B × B => !(p.1 == k)) L
  unfold putL
  split
  · simp; omega
  · omega

theorem getL_len' {n : Nat} {L : List (B × B)} (k : B) (hn : (L.map (·.1)).Nodup) (h : L.length ≤ n) : (getL L k).length ≤ n := by
  cases hk : L.lookup k with
  | none => unfold getL; rw [hk]; exact h
  | some x => rw [(getL_perm hn hk).length_eq]; exact h

theorem cacheNew_bad (z : Int) (w : World) (p : Nat → Addr) (hs : Sents w p) (h : z < 1 ∨ 100 < z) :
    Calls Tryd.prog 12 #[.int .i64 z] w fun e w' => e = .returned (.tuple #[.pointer none, errV (p 1)]) ∧ Drawn w w' := by
  have q1 := hs.var 1 _ rfl
  by_cases h1 : z < 1
  · clear h hs
    go_enter Tryd.func12, Tryd.ntmps12
    go_wp2_with fail
    go_quiet (fail)
    go_wp2
    go_ret2
    exact ⟨rfl, _, rfl⟩
  · have h2 : 100 < z := by omega
    clear h hs
    go_enter Tryd.func12, Tryd.ntmps12
    go_wp2_with fail
    go_quiet (fail)
    go_wp2
    go_ret2
    exact ⟨rfl, _, rfl⟩

theorem coded2_bound (w : World) (p : Nat → Addr) (hs : Sents w p) : Calls Tryd.prog 21 #[errV (p 1), I 2] w fun e w' => e = .returned (.bool true) ∧ Ext w w' := by
  obtain ⟨c, t, hr⟩ := hs.row 1 (by decide)
  have h := code_err w p hs (p 1) 1 (by omega) (fun _ => rfl) (fun j hj hne e => hne (hs.apart j 1 hj (by decide) e)) c t hr
  rw [if_pos (by decide)] at h
  have := coded2_any w _ _ _ 2 h
  simpa using this
end Go.Proofs.YtnmhaipjfpongaaDoor

/- Package tree: New, Get, Remove; strings.HasPrefix; the reference's above. No condition but that the tree is one. -/
import Derived.Test.YtnmhaipjfpongaaGreatDoorC4
import Derived.Test.YtnmhaipjfpongaaGreatDoorT1
import Derived.Test.YtnmhaipjfpongaaGreatDoorE4
import Derived.Test.YtnmhaipjfpongaaGreatDoorV2
import Derived.Sort.Walk0
namespace Go.Proofs.YtnmhaipjfpongaaGreatDoor
open Go.ChangeShapes Go.WideShapes Go.ChangeAt Go.RowKit

/-- A tree in memory: its files, in whatever order. -/
structure TreeAt (w : World) (b mb : Nat) (L : FL) : Prop where
  cells : w.heap[b]? = some (.cells #[.map (some mb)] 90 (0, 0))
  map : KMap .string S S w mb L

theorem TreeAt.later {p : Nat → Prop} {w w' : World} {b mb : Nat} {L : FL} (h : TreeAt w b mb L) (ho : Only p w w') (h1 : ¬ p b) (h2 : ¬ p mb) : TreeAt w' b mb L :=
  ⟨ho.heapOf h.cells h1, h.map.later ho h2⟩
theorem TreeAt.ext {w w' : World} {b mb : Nat} {L : FL} (h : TreeAt w b mb L) (ho : Ext w w') : TreeAt w' b mb L := h.later ho (fun h => h) (fun h => h)
theorem TreeAt.ne {w : World} {b mb : Nat} {L : FL} (h : TreeAt w b mb L) : b ≠ mb := heap_ne_map h.cells h.map
theorem TreeAt.mapCell {w : World} {b mb : Nat} {L : FL} (h : TreeAt w b mb L) : w.cell? ⟨b, 0, none⟩ = some (.map (some mb)) := (cell_of_heap h.cells 0).trans rfl
theorem TreeAt.stores {w w' : World} {b mb : Nat} {L L' : FL} (h : TreeAt w b mb L) (ho : Only (fun i => i = mb) w w') (hm : KMap .string S S w' mb L') : TreeAt w' b mb L' :=
  ⟨ho.heapOf h.cells h.ne, hm⟩

theorem treeNew_any (w : World) :
    Calls Tryz.prog 15 #[] w fun e w' => e = .returned (.pointer (some ⟨w.heap.size + 1, 0, none⟩)) ∧ TreeAt w' (w.heap.size + 1) w.heap.size [] ∧ Ext w w' ∧ w'.heap.size = w.heap.size + 2 := by
  have hmm := @run_makeMap Tryz.prog
  go_enter Tryz.func15, Tryz.ntmps15
  go_wp2
  go_ret
  refine ⟨rfl, ⟨?_, (KMap.made w .string S S).later (Only.alloc (fun _ => False) _ _) (fun h => h)⟩, (Only.alloc _ _ _).thenAlloc _, by simp⟩
  simpa using (MapKept.heap_alloc (w.alloc (.map #[] 0)) (.cells #[.map (some w.heap.size)] 90 (0, 0))).1

theorem treeGet_any (w : World) (b mb : Nat) (L : FL) (p : B) (h : TreeAt w b mb L) :
    Calls Tryz.prog 24 #[.pointer (some ⟨b, 0, none⟩), S p] w fun e w' => e = .returned (.tuple #[S ((L.lookup p).getD []), .bool (L.lookup p).isSome]) ∧ w = w' := by
  have c0 := h.mapCell
  have hlook := KMap.look (P := Tryz.prog) keyOk_str h.map Tryz.underlying88 Tryz.underlying9 (zeroStr w) p
  clear h
  cases hk : L.lookup p
  all_goals
    simp only [hk] at hlook
    clear hk
    go_enter Tryz.func24, Tryz.ntmps24
    go_wp2_with fail
    go_ret2
    exact ⟨rfl, rfl⟩

set_option maxRecDepth 100000 in
theorem treeRemove_any (w : World) (b mb : Nat) (L : FL) (p : B) (a : Addr) (h : TreeAt w b mb L) (he : w.cell? ⟨3, 0, none⟩ = some (errV a)) :
    Calls Tryz.prog 19 #[.pointer (some ⟨b, 0, none⟩), S p] w fun e w' => e = .returned (if (L.lookup p).isSome then .nilIface else errV a) ∧ TreeAt w' b mb (delT L p) ∧ Only (fun i => i = mb) w w' := by
  have c0 := h.mapCell
  have hlook := KMap.look (P := Tryz.prog) keyOk_str h.map Tryz.underlying88 Tryz.underlying9 (zeroStr w) p
  cases hk : L.lookup p with
  | none =>
    simp only [hk] at hlook
    have e1 : delT L p = L := filter_of_lookup_none hk
    rw [e1]
    have H := Lib.hid h
    clear hk h e1
    go_enter Tryz.func19, Tryz.ntmps19
    go_wp2_with fail
    go_ret
    exact ⟨rfl, H.out, Only.refl _ _⟩
  | some x =>
    simp only [hk] at hlook
    obtain ⟨w1, hrun, hm1, ho1, _⟩ := KMap.drop (P := Tryz.prog) keyOk_str h.map Tryz.underlying88 Tryz.underlying9 p 0
    have H := Lib.hid h
    clear hk h
    go_enter Tryz.func19, Tryz.ntmps19
    go_wp2_with fail
    go_ret
    exact ⟨rfl, H.out.stores ho1 hm1, ho1⟩

/-! ### HasPrefix, above -/
theorem prefix_take (p s : B) : p.isPrefixOf s = (decide (p.length ≤ s.length) && (s.take p.length == p)) := by
  rw [Bool.eq_iff_iff, List.isPrefixOf_iff_prefix, List.prefix_iff_eq_take]
  constructor
  · intro h
    have := congrArg List.length h
    rw [List.length_take] at this
    simp [← h]; omega
  · intro h
    simp at h
    exact h.2.symm

theorem above_eq (a b : B) : aboveB a b = (decide (a.length < b.length) && ((b.take a.length == a) && (b[a.length]? == some 47))) := by
  unfold aboveB
  rw [Bool.eq_iff_iff, List.isPrefixOf_iff_prefix]
  constructor
  · rintro ⟨r, rfl⟩
    simp
  · intro h
    simp only [Bool.and_eq_true, decide_eq_true_eq, beq_iff_eq] at h
    refine ⟨b.drop (a.length + 1), ?_⟩
    have h1 := List.drop_eq_getElem_cons (l := b) h.1
    have h2 := List.take_append_drop a.length b
    have h3 := (List.getElem?_eq_some_iff.1 h.2.2).2
    rw [h1, h3, h.2.1] at h2
    rw [List.append_assoc]
    exact h2

set_option maxHeartbeats 1000000 in
theorem hasPrefixL_any (w : World) (s p : B) : Calls Tryz.prog 81 #[S s, S p] w fun e w' => e = .returned (.bool (p.isPrefixOf s)) ∧ w = w' := by
  rw [prefix_take]
  cases h1 : decide (p.length ≤ s.length) with
  | false =>
    have hz : decide ((p.length : Int) ≤ (s.length : Int)) = false := decide_eq_false (by have := of_decide_eq_false h1; omega)
    have hz1 : ¬ ((p.length : Int) ≤ (s.length : Int)) := of_decide_eq_false hz
    clear h1
    go_enter Tryz.func81, Tryz.ntmps81
    go_wp2_with fail
    go_ret
    exact ⟨rfl, rfl⟩
  | true =>
    have hz : decide ((p.length : Int) ≤ (s.length : Int)) = true := decide_eq_true (by have := of_decide_eq_true h1; omega)
    have hz1 : (p.length : Int) ≤ (s.length : Int) := of_decide_eq_true hz
    have hm := ba_mid s 0 p.length
    rw [List.drop_zero] at hm
    cases h2 : (s.take p.length == p)
    all_goals
      clear h1
      go_enter Tryz.func81, Tryz.ntmps81
      go_wp2_with fail
      go_ret
      exact ⟨rfl, rfl⟩
theorem hasPrefix_any (w : World) (s p : B) : Calls Tryz.prog 49 #[S s, S p] w fun e w' => e = .returned (.bool (p.isPrefixOf s)) ∧ w = w' := by
  have H := Lib.hid (hasPrefixL_any w s p)
  generalize p.isPrefixOf s = r at H
  go_enter Tryz.func49, Tryz.ntmps49
  go_wp2_with (go_at_call 81; refine H.out.mono ?_; rintro e w1 ⟨rfl, rfl⟩)
  go_ret
  exact ⟨rfl, rfl⟩

theorem refAbove_any (w : World) (a b : B) : Calls Tryz.prog 51 #[S a, S b] w fun e w' => e = .returned (.bool (aboveB a b)) ∧ w = w' := by
  rw [above_eq]
  cases h1 : decide (a.length < b.length) with
  | false =>
    have hz : decide ((a.length : Int) < (b.length : Int)) = false := decide_eq_false (by have := of_decide_eq_false h1; omega)
    have hz1 : ¬ ((a.length : Int) < (b.length : Int)) := of_decide_eq_false hz
    clear h1
    go_enter Tryz.func51, Tryz.ntmps51
    go_wp2_with fail
    go_ret
    exact ⟨rfl, rfl⟩
  | true =>
    have hlt : a.length < b.length := of_decide_eq_true h1
    have hz : decide ((a.length : Int) < (b.length : Int)) = true := decide_eq_true (by omega)
    have hz2 : (a.length : Int) ≤ (b.length : Int) := by omega
    have hz3 : (a.length : Int) < (b.length : Int) := by omega
    obtain ⟨c, hc⟩ : ∃ c, b[a.length]? = some c := ⟨_, List.getElem?_eq_getElem hlt⟩
    have hg := ba_get hc
    have hm := ba_mid b 0 a.length
    rw [List.drop_zero] at hm
    rw [hc]
    clear hc h1
    cases h2 : (b.take a.length == a) with
    | false =>
      go_enter Tryz.func51, Tryz.ntmps51
      go_wp2_with fail
      go_ret
      exact ⟨rfl, rfl⟩
    | true =>
      have hcc : ((c.toNat : Int) == 47) = (some c == some 47) := by
        rw [Bool.eq_iff_iff]
        simp only [beq_iff_eq, Option.some.injEq]
        constructor
        · intro h
          have h1 : c.toNat = 47 := by omega
          exact UInt8.toNat_inj.1 (h1.trans (by decide))
        · intro h
          rw [h]
          rfl
      cases h3 : (some c == some (47 : UInt8))
      all_goals
        rw [h3] at hcc
        clear h3
        go_enter Tryz.func51, Tryz.ntmps51
        go_wp2_with fail
        go_ret
        exact ⟨rfl, rfl⟩
end Go.Proofs.YtnmhaipjfpongaaGreatDoor

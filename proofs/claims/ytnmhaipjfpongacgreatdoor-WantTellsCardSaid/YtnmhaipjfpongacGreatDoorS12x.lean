/- The second reference's CopyTree, and law2's 'faulted'. No condition but how the model lies. -/
import Derived.Test.YtnmhaipjfpongacGreatDoorGg
import Derived.Test.YtnmhaipjfpongacGreatDoorS6x
import Derived.Deep.RegionLaw
namespace Go.Proofs.YtnmhaipjfpongacGreatDoor
open Go.ChangeShapes Go.WideShapes Go.ChangeAt Go.RowKit

/-- 'append(nil, k...)' of a model's files, as a step of a region that draws. -/
theorem step_copyF {ops : Array Oper} {o : Oper} {a : Act} {K : Act → World → Prop} {Q : Exit → Act → World → Prop} {E : Prop} (s x : Operand) (base base0 : Nat) (vs : Value) (k : FL) (W : World) (hgd : o.guard = none)
    (ho : o.op = .call { callee := .builtin .append, args := #[s, x], argTypes := #[22, 22] }) (hs : a.eval s = .slice none 0 0) (hx : a.eval x = vs)
    (hrow : W.ownsRow base0 65 2 vs k.length (k.flatMap encF)) (hl : k.length ≤ 1000000) (hbase : base ≤ W.heap.size)
    (hK : ∀ ao n c w', w'.ownsRow base 65 2 (.slice ao n c) k.length (k.flatMap encF) → Ext W w' → (∀ i, Value.ownBlock (.slice ao n c) = some i → W.heap.size ≤ i) → K (a.put o.dst (.slice ao n c)) w') :
    if Region.wanted o (yielded ops a.tmps) = true then Oper.wp Tryz.prog o a W K Q else E := by
  have hw : Region.wanted o (yielded ops a.tmps) = true := by simp [Region.wanted, hgd]
  rw [if_pos hw]
  obtain ⟨i0, hi, hz0, hz1, hz2⟩ := info_parts infoFile
  have hrd := RdS.of_row encF_len hrow
  obtain ⟨ao, c, rfl, _, _, hc⟩ := hrd
  have hform : ∀ {W' : World} {v' : Value} {n' : Nat} {xs : List Value}, W'.ownsRow base 65 2 v' n' xs → ∃ ao' cap, v' = .slice ao' n' cap := fun h => by
    rcases h.2 with ⟨rfl, rfl⟩ | ⟨g, cap, _, rfl, _⟩
    · exact ⟨none, 0, rfl⟩
    · exact ⟨_, cap, rfl⟩
  by_cases hk : k = []
  · subst hk
    have hv : (Value.slice ao ([] : FL).length c) = .slice none 0 0 ∨ ∃ ad, ao = some ad := by
      cases ao with
      | none =>
        rcases hrow.2 with ⟨h1, _⟩ | ⟨g, cap, _, h1, _⟩
        · exact .inl h1
        · cases h1
      | some ad => exact .inr ⟨ad, rfl⟩
    rcases hv with hv | ⟨ad, rfl⟩
    · rw [hv] at hx
      have hrun := run_append_owned_none (P := Tryz.prog) (w := W) base 22 o.type 65 i0 2 Tryz.underlying22 hi (.slice none 0 0) 0 [] (World.ownsRow_nil _ _ _ _)
      unfold Oper.wp
      simp [execOp, ho, resolve, invoke, builtin, hs, hx, hrun, Result.andThen]
      exact hK _ _ _ _ (World.ownsRow_nil _ _ _ _) (Only.refl _ _) (fun i h => by cases h)
    · obtain ⟨v', w', hr, h2, h3, _, h5⟩ := run_append_own_at (P := Tryz.prog) W base 22 o.type 65 i0 _ 2 32 Tryz.underlying22 hi hz0 hz1 hz2 rfl (by decide) (.slice none 0 0) 0 [] (World.ownsRow_nil _ _ _ _) ad 0 c [] rfl (fun j u h => by simp at h) (fun u h => by cases h) (by decide) (by decide) hbase
      obtain ⟨ao', cap, rfl⟩ := hform h2
      unfold Oper.wp execOp
      simp only [List.length_nil] at hx
      simp only [ho, resolve, invoke, builtin, Sem.run_bind, Sem.run_pure, Result.andThen_ok, List.map_toArray, List.map_cons, List.map_nil, hs, hx, hr]
      refine hK _ _ _ _ h2 (grown_baseT (Only.refl _ _) (fun i h => by cases h) h3) (fun i hi' => ?_)
      rcases h5 with h5 | h5
      · rw [h5] at hi'; cases hi'
      · rw [h5] at hi'; have := Option.some.inj hi'; omega
  · obtain ⟨b, off, rfl, hcell⟩ := hc hk
    have h1 : ∀ u ∈ k.flatMap encF, u.oneCell' = true := fun u hu => by
      obtain ⟨y, _, hy⟩ := List.mem_flatMap.1 hu
      exact encF_one y u hy
    have hcells : ∀ j u, (k.flatMap encF)[j]? = some u → W.cell? ((⟨b, off, none⟩ : Addr).add j) = some u := by
      have := part_src hcell (Only.refl _ W) 0 k.length
      simpa using this
    obtain ⟨v', w', hr, h2, h3, _, h5⟩ := run_append_own_at (P := Tryz.prog) W base 22 o.type 65 i0 _ 2 32 Tryz.underlying22 hi hz0 hz1 hz2 rfl (by decide) (.slice none 0 0) 0 [] (World.ownsRow_nil _ _ _ _) ⟨b, off, none⟩ k.length c (k.flatMap encF) (flat_len encF_len k) hcells h1 (by unfold maxLen; omega) (by omega) hbase
    obtain ⟨ao', cap, rfl⟩ := hform h2
    unfold Oper.wp execOp
    simp only [ho, resolve, invoke, builtin, Sem.run_bind, Sem.run_pure, Result.andThen_ok, List.map_toArray, List.map_cons, List.map_nil, hs, hx, hr]
    refine hK _ _ _ _ (by simpa using h2) (grown_baseT (Only.refl _ _) (fun i h => by cases h) h3) (fun i hi' => ?_)
    rcases h5 with h5 | h5
    · rw [h5] at hi'; cases hi'
    · rw [h5] at hi'; have := Option.some.inj hi'; omega

def RetCopy (L : FL) (w : World) (e : Ending) (w' : World) : Prop := ∃ slv', e = .returned (.pointer (some ⟨w.heap.size, 0, none⟩)) ∧ RTree w' w.heap.size w.heap.size slv' L ∧ Ext w w'
set_option maxRecDepth 100000 in
set_option maxHeartbeats 4000000 in
theorem copyTree_any (w : World) (base m : Nat) (slv : Value) (L : FL) (h : RTree w base m slv L) (hl : L.length ≤ 1000000) :
    Calls Tryz.prog 29 #[.pointer (some ⟨m, 0, none⟩)] w (RetCopy L w) := by
  have hm := lt_of_heap h.cells
  have hm2 : ¬ m = w.heap.size := by omega
  have HT := Lib.hid h
  have hx0 : Ext w (w.alloc (.cells #[.slice none 0 0] 147 (0, 0))) := Only.alloc _ _ _
  have HX0 := Lib.hid hx0
  have hb0 := (MapKept.heap_alloc w (.cells #[.slice none 0 0] 147 (0, 0))).1
  have HB0 := Lib.hid hb0
  have c0 := HX0.out.cellOf ((cell_of_heap h.cells 0).trans (rfl : _ = some slv)) (fun h => h)
  have c1 := (cell_of_heap hb0 0).trans (rfl : _ = some (Value.slice none 0 0))
  have HL := Lib.hid hl
  clear h hm hx0 hb0 hl hm2
  go_enter Tryz.func29, Tryz.ntmps29
  go_wp2_with fail
  go_region_law (refine step_copyF (.tmp 10) (.tmp 14) w.heap.size base slv L _ rfl rfl rfl rfl (HT.out.ext (HX0.out.then (by first | exact Only.drew _ _ | exact Only.refl _ _))).row HL.out (by simp) ?_; intro ao5 n5 c5 w5 ho5 hx5 hn5; have he5 : Ext (w.alloc (.cells #[.slice none 0 0] 147 (0, 0))) w5 := (Only.drew _ _).then hx5; have hb5 := he5.heapOf HB0.out (fun h => h); have q6 : w5.cell? ⟨w.heap.size, 0, none⟩ = some (.slice none 0 0) := (cell_of_heap hb5 0).trans rfl; have q7 : w5.frozen? ⟨w.heap.size, 0, none⟩ = false := free_of_heap hb5 0; have HO5 := Lib.hid ho5; have HE5 := Lib.hid he5; have HB5 := Lib.hid hb5; have HN5 := Lib.hid hn5; clear ho5 hx5 he5 hb5 hn5)
  all_goals
    go_wp2_with fail
    go_ret
    exact ⟨.slice ao5 n5 c5, rfl, ⟨(heap_setCell_same HB5.out 0 _).trans (by simp), (Only.set (p := fun i => i = w.heap.size) (w := w5) (a := ⟨w.heap.size, 0, none⟩) (.slice ao5 n5 c5) rfl).row HO5.out (fun i e e1 => by have := HN5.out i e; simp at this; omega)⟩, (HX0.out.then HE5.out).thenSet _ (.inr (Nat.le_refl _))⟩

set_option maxRecDepth 100000 in
set_option maxHeartbeats 2000000 in
theorem faulted2_any (w : World) (v : Value) (f g : Nat × Int) (h : ∀ w1, Ext w w1 → Calls Tryz.prog 96 #[v] w1 (CodeIs w1 (f.1 : Int) f.2)) (hfg : f = g) :
    Calls Tryz.prog 21 #[v, AggF g] w (RetE (.bool true) w) := by
  subst hfg
  have hx0 : Ext w (w.alloc (.cells #[IN f.1, I f.2] 37 (0, 0))) := Only.alloc _ _ _
  have hb := (MapKept.heap_alloc w (.cells #[IN f.1, I f.2] 37 (0, 0))).1
  have HB := Lib.hid hb
  have HX0 := Lib.hid hx0
  have HC := Lib.hid (h _ hx0)
  clear h hb hx0
  obtain ⟨c, t⟩ := f
  cases h0 : ((c : Int) == 0)
  all_goals
    go_enter Tryz.func21, Tryz.ntmps21
    go_wp2_with fail
    refine HC.out.mono ?_
    rintro e w1 ⟨rfl, ho⟩
    have c0 := ho.cellOf ((cell_of_heap HB.out 0).trans rfl) (fun h => h)
    have c1 := ho.cellOf ((cell_of_heap HB.out 1).trans rfl) (fun h => h)
    have HX1 := Lib.hid (HX0.out.then ho)
    clear ho
    go_wp2_with fail
    go_ret
    exact ⟨by simp, HX1.out⟩
end Go.Proofs.YtnmhaipjfpongacGreatDoor

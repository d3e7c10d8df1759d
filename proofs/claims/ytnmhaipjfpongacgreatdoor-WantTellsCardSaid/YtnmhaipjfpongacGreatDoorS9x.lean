/- The second reference's faults of builds: BuildFault, WantFault. No condition but how rules and outs lie, and how long their texts are. (Printed by gen_s9.py.) -/
import Derived.Test.YtnmhaipjfpongacGreatDoorS1x
import Derived.Test.YtnmhaipjfpongacGreatDoorS3x
import Derived.Test.YtnmhaipjfpongacGreatDoorGm
namespace Go.Proofs.YtnmhaipjfpongacGreatDoor
open Go.ChangeShapes Go.WideShapes Go.ChangeAt Go.RowKit

/-- What the reference tells of a build. -/
noncomputable def nFault (l : List Rule) (outs : List B) : Nat × Int := if (needFault l outs).1 ≠ 0 then needFault l outs else partFault l (needL l outs)
/-- What the reference tells of what is wanted. -/
noncomputable def wantFault (l : List Rule) (out : B) : Nat × Int :=
  if (sheetFault l).1 ≠ 0 then sheetFault l
  else if madeB l out = false then (6, -1)
  else partFault l (needL l [out])
theorem nFault_sheet {l : List Rule} {outs : List B} (h : (sheetFault l).1 ≠ 0) : nFault l outs = sheetFault l := by
  have h1 : needFault l outs = sheetFault l := by unfold needFault; rw [if_pos h]
  unfold nFault
  rw [h1, if_pos h]
theorem nFault_bad {l : List Rule} {outs : List B} {i : Nat} (h : (sheetFault l).1 = 0) (hb : badOf l outs = some i) : nFault l outs = (6, (i : Int)) := by
  have h1 : needFault l outs = (6, (i : Int)) := by unfold needFault; rw [if_neg (by rw [h]; simp), hb]
  unfold nFault
  rw [h1, if_pos (by simp)]
theorem nFault_part {l : List Rule} {outs : List B} (h : (sheetFault l).1 = 0) (hb : badOf l outs = none) : nFault l outs = partFault l (needL l outs) := by
  have h1 : needFault l outs = (0, -1) := by unfold needFault; rw [if_neg (by rw [h]; simp), hb]
  unfold nFault
  rw [h1, if_neg (by simp)]

set_option maxRecDepth 100000 in
set_option maxHeartbeats 8000000 in
theorem buildFault_any (w : World) (l : List Rule) (outs : List B) (v vo : Value) (hv : RdR w v l) (hvo : Rd S w vo outs) (hs : ∀ r ∈ l, RuleSm 900000 r) :
    Calls Tryz.prog 54 #[v, vo] w (RetE (AggF (nFault l outs)) w) := by
  have HRD := Lib.hid hv
  have HRO := Lib.hid hvo
  have HR0 : Hid (ResAt w (w.alloc (.cells #[.int .i64 0, .int .i64 0] 37 (0, 0)))) := Lib.hid ⟨Only.alloc _ _ _, (MapKept.heap_alloc w _).1⟩
  have HSH := Lib.hid (fun (wq : World) (hx : Ext w wq) => refSheet_any wq l v (hv.ext hx) hs)
  obtain ⟨R, hR⟩ : ∃ R, R = nFault l outs := ⟨_, rfl⟩
  rw [← hR]
  have HR := Lib.hid hR
  obtain ⟨F, hF⟩ : ∃ F, F = sheetFault l := ⟨_, rfl⟩
  rw [← hF] at HSH
  have HF := Lib.hid hF
  obtain ⟨c, t⟩ := F
  obtain ⟨a, cap, rfl, _, _, _⟩ := hv
  obtain ⟨ao, co, rfl, _, _, _⟩ := hvo
  clear hs hF hR
  by_cases hc : c = 0
  case neg =>
    have HR2 : Hid (R = (c, t)) := Lib.hid (by rw [HR.out, nFault_sheet (by rw [← HF.out]; exact hc), HF.out])
    have hcz : (0 : Int) < (c : Int) := by omega
    clear hc
    go_enter Tryz.func54, Tryz.ntmps54
    go_wp2_with fail
    refine (HSH.out _ HR0.out.ext).mono ?_
    rintro e w1 ⟨rfl, ho⟩
    have hr1 := (HR0.out.grow ho).grow (Only.alloc _ w1 (.cells #[IN c, I t] 37 (0, 0)))
    have HX1 := Lib.hid hr1.ext
    have HRC := Lib.hid hr1.cell
    have f0 := free_of_heap hr1.cell 0
    have f1 := free_of_heap hr1.cell 1
    have r0 := (cell_of_heap hr1.cell 0).trans (rfl : _ = some (Value.int .i64 0))
    have r1 := (cell_of_heap hr1.cell 1).trans (rfl : _ = some (Value.int .i64 0))
    clear ho hr1 HR0
    go_wp2_with fail
    refine bodyPost_ret (v := AggF R) ?_ rfl ⟨rfl, ext_setS1 (ext_setS1 HX1.out _ _ (Nat.le_refl _)) _ _ (Nat.le_refl _)⟩
    have hres : Tryz.f54.results = #[.cell 4 37] := by kernel_rfl
    have rc0 := fun u v => (res_cells HRC.out u v).1
    have rc1 := fun u v => (res_cells HRC.out u v).2
    rw [HR2.out]
    simp only [results, hres]
    go_simp
  case pos =>
    subst hc
    have h00 : (sheetFault l).1 = 0 := by rw [← HF.out]
    have HZ := Lib.hid h00
    have HRT := Lib.hid (sheet_ok.1 h00)
    obtain rfl : t = -1 := by
      have h1 := sheet_zero h00
      rw [← HF.out] at h1
      exact (Prod.mk.inj h1).2
    have h40 : l.length ≤ 1000 := by have := HRT.out.1; omega
    clear h00
    go_enter Tryz.func54, Tryz.ntmps54
    go_wp2_with fail
    refine (HSH.out _ HR0.out.ext).mono ?_
    rintro e w1 ⟨rfl, ho⟩
    have HR1 := Lib.hid ((HR0.out.grow ho).grow (Only.alloc _ w1 (.cells #[.int .i64 0, .int .i64 (-1)] 37 (0, 0))))
    have HB5 : Hid ((w1.alloc (.cells #[.int .i64 0, .int .i64 (-1)] 37 (0, 0))).heap[w1.heap.size]? = some (.cells #[.int .i64 0, .int .i64 (-1)] 37 (0, 0))) := Lib.hid (MapKept.heap_alloc w1 _).1
    clear ho HR0 HSH
    go_wp2_with fail
    refine (neededOf_any _ l outs _ _ (HRD.out.ext HR1.out.ext) (HRO.out.ext HR1.out.ext) HRT.out).mono ?_
    rintro e w3 ⟨ho, hcase⟩
    have HR3 := Lib.hid (HR1.out.grow ho)
    have HB53 := Lib.hid (ho.heapOf HB5.out (fun h => h))
    clear ho HR1 HB5
    rcases hcase with ⟨i, hb, rfl⟩ | ⟨hb, tb, rfl, htab⟩
    · have HR2 : Hid (R = (6, (i : Int))) := Lib.hid (by rw [HR.out, nFault_bad HZ.out hb])
      have hi0 : (0 : Int) ≤ (i : Int) := by omega
      have HX3 := Lib.hid HR3.out.ext
      have HRC := Lib.hid HR3.out.cell
      have f0 := free_of_heap HR3.out.cell 0
      have f1 := free_of_heap HR3.out.cell 1
      have r0 := (cell_of_heap HR3.out.cell 0).trans (rfl : _ = some (Value.int .i64 0))
      have r1 := (cell_of_heap HR3.out.cell 1).trans (rfl : _ = some (Value.int .i64 0))
      clear hb
      go_wp2_with fail
      refine bodyPost_ret (v := AggF R) ?_ rfl ⟨rfl, ext_setS1 (ext_setS1 HX3.out _ _ (Nat.le_refl _)) _ _ (Nat.le_refl _)⟩
      have hres : Tryz.f54.results = #[.cell 4 37] := by kernel_rfl
      have rc0 := fun u v => (res_cells HRC.out u v).1
      have rc1 := fun u v => (res_cells HRC.out u v).2
      rw [HR2.out]
      simp only [results, hres]
      go_simp
    · have HRP : Hid (R = partFault l (needL l outs)) := Lib.hid (by rw [HR.out, nFault_part HZ.out hb])
      have horc : Calls Tryz.prog 26 _ w3 (RetOrder (partB l (needL l outs)) w3) := orderOf_any w3 l _ tb (fun i => (needL l outs).contains i) (HRD.out.ext HR3.out.ext) h40 (htab.congr fun k hk => by
        congr 1
        rw [Bool.eq_iff_iff]
        simp only [List.contains_iff_mem, mem_needL, reachB_iff]
        exact ⟨fun h => ⟨hk, h⟩, fun h => h.2⟩)
      have HORC := Lib.hid horc
      clear hb htab horc
      go_wp2_with fail
      refine HORC.out.mono ?_
      rintro e w4 ⟨vq, rfl, _, ho4⟩
      have HR4 := Lib.hid (HR3.out.grow ho4)
      have HB54 := Lib.hid (ho4.heapOf HB53.out (fun h => h))
      clear ho4
      cases hp : partB l (needL l outs) with
      | none =>
        have HR2 : Hid (R = (9, -1)) := Lib.hid (by rw [HRP.out]; unfold partFault; rw [hp]; rfl)
        clear hp
        go_wp2_with fail
        refine (refBare_any _ 9).mono ?_
        rintro e w5 ⟨rfl, ho5⟩
        have hr5 := HR4.out.grow ho5
        have HX5 := Lib.hid hr5.ext
        have HRC := Lib.hid hr5.cell
        have f0 := free_of_heap hr5.cell 0
        have f1 := free_of_heap hr5.cell 1
        have r0 := (cell_of_heap hr5.cell 0).trans (rfl : _ = some (Value.int .i64 0))
        have r1 := (cell_of_heap hr5.cell 1).trans (rfl : _ = some (Value.int .i64 0))
        clear ho5 hr5
        go_wp2_with fail
        refine bodyPost_ret (v := AggF R) ?_ rfl ⟨rfl, ext_setS1 (ext_setS1 HX5.out _ _ (Nat.le_refl _)) _ _ (Nat.le_refl _)⟩
        have hres : Tryz.f54.results = #[.cell 4 37] := by kernel_rfl
        have rc0 := fun u v => (res_cells HRC.out u v).1
        have rc1 := fun u v => (res_cells HRC.out u v).2
        rw [HR2.out]
        simp only [results, hres]
        go_simp
      | some od =>
        have HR2 : Hid (R = (0, -1)) := Lib.hid (by rw [HRP.out]; unfold partFault; rw [hp]; rfl)
        have HX5 := Lib.hid HR4.out.ext
        have b0 := (cell_of_heap HB54.out 0).trans (rfl : _ = some (Value.int .i64 0))
        have b1 := (cell_of_heap HB54.out 1).trans (rfl : _ = some (Value.int .i64 (-1)))
        have HRC := Lib.hid HR4.out.cell
        have f0 := free_of_heap HR4.out.cell 0
        have f1 := free_of_heap HR4.out.cell 1
        have r0 := (cell_of_heap HR4.out.cell 0).trans (rfl : _ = some (Value.int .i64 0))
        have r1 := (cell_of_heap HR4.out.cell 1).trans (rfl : _ = some (Value.int .i64 0))
        clear hp
        go_wp2_with fail
        refine bodyPost_ret (v := AggF R) ?_ rfl ⟨rfl, ext_setS1 (ext_setS1 HX5.out _ _ (Nat.le_refl _)) _ _ (Nat.le_refl _)⟩
        have hres : Tryz.f54.results = #[.cell 4 37] := by kernel_rfl
        have rc0 := fun u v => (res_cells HRC.out u v).1
        have rc1 := fun u v => (res_cells HRC.out u v).2
        rw [HR2.out]
        simp only [results, hres]
        go_simp

theorem wantFault_sheet {l : List Rule} {out : B} (h : (sheetFault l).1 ≠ 0) : wantFault l out = sheetFault l := by unfold wantFault; rw [if_pos h]
theorem bad_one {l : List Rule} {out : B} : badOf l [out] = if madeB l out = true then none else some 0 := by
  unfold badOf
  cases hm : madeB l out <;> simp [List.findIdx?_cons, hm]
theorem part_codes (l : List Rule) (sm : List Nat) : partFault l sm = (0, -1) ∨ partFault l sm = (9, -1) := by
  unfold partFault
  split
  · exact .inl rfl
  · exact .inr rfl
set_option maxRecDepth 100000 in
set_option maxHeartbeats 8000000 in
theorem wantFault_any (w : World) (l : List Rule) (out : B) (v : Value) (hv : RdR w v l) (hs : ∀ r ∈ l, RuleSm 900000 r) :
    Calls Tryz.prog 20 #[v, S out] w (RetE (AggF (wantFault l out)) w) := by
  have HRD := Lib.hid hv
  have HR0 : Hid (ResAt w (w.alloc (.cells #[.int .i64 0, .int .i64 0] 37 (0, 0)))) := Lib.hid ⟨Only.alloc _ _ _, (MapKept.heap_alloc w _).1⟩
  have HR1 : Hid (ResAt w ((w.alloc (.cells #[.int .i64 0, .int .i64 0] 37 (0, 0))).alloc (.cells #[S out] 9 (0, 0)))) := Lib.hid (HR0.out.grow (Only.alloc _ _ _))
  have HSH := Lib.hid (fun (wq : World) (hx : Ext w wq) => refSheet_any wq l v (hv.ext hx) hs)
  have hbs : (w.alloc (.cells #[.int .i64 0, .int .i64 0] 37 (0, 0))).heap.size = w.heap.size + 1 := by simp
  have hbf := buildFault_any ((w.alloc (.cells #[.int .i64 0, .int .i64 0] 37 (0, 0))).alloc (.cells #[S out] 9 (0, 0))) l [out] v (.slice (some ⟨(w.alloc (.cells #[.int .i64 0, .int .i64 0] 37 (0, 0))).heap.size, 0, none⟩) 1 1) (hv.ext HR1.out.ext) (lit_rd _ out) hs
  rw [hbs] at hbf
  have HZ := Lib.hid (fun h => sheet_zero (l := l) h)
  obtain ⟨R, hR⟩ : ∃ R, R = wantFault l out := ⟨_, rfl⟩
  rw [← hR]
  have hcase : ((sheetFault l).1 ≠ 0 ∧ nFault l [out] = sheetFault l ∧ R = sheetFault l) ∨ ((sheetFault l).1 = 0 ∧ nFault l [out] = (6, 0) ∧ R = (6, -1)) ∨ ((nFault l [out] = (0, -1) ∧ R = (0, -1)) ∨ (nFault l [out] = (9, -1) ∧ R = (9, -1))) := by
    by_cases h : (sheetFault l).1 ≠ 0
    · exact .inl ⟨h, nFault_sheet h, by rw [hR, wantFault_sheet h]⟩
    · have h0 : (sheetFault l).1 = 0 := Classical.not_not.1 h
      right
      cases hm : madeB l out with
      | false =>
        refine .inl ⟨h0, nFault_bad h0 (by rw [bad_one, hm]; rfl), ?_⟩
        rw [hR]
        unfold wantFault
        rw [if_neg h, hm, if_pos rfl]
      | true =>
        right
        have h1 : nFault l [out] = partFault l (needL l [out]) := nFault_part h0 (by rw [bad_one, hm]; rfl)
        have h2 : R = partFault l (needL l [out]) := by
          rw [hR]
          unfold wantFault
          rw [if_neg h, hm, if_neg (by decide)]
        rw [h1, h2]
        rcases part_codes l (needL l [out]) with e | e
        · exact .inl ⟨e, e⟩
        · exact .inr ⟨e, e⟩
  have HBF := Lib.hid hbf
  obtain ⟨a, cap, rfl, _, _, _⟩ := hv
  clear hs hR hbs hbf HR0
  rcases hcase with ⟨hne, hn, hR⟩ | ⟨h0, hn, hR⟩ | ⟨hn, hR⟩ | ⟨hn, hR⟩
  · rw [hn] at HBF
    obtain ⟨F, hF⟩ : ∃ F, F = sheetFault l := ⟨_, rfl⟩
    rw [← hF] at HBF HSH hR hne
    obtain ⟨c, t⟩ := F
    have HR2 := Lib.hid hR
    have hc0 : ¬ c = 0 := hne
    clear hn hR hF hne
    by_cases hc : c = 6
    · subst hc
      by_cases ht : t = 0
      · subst ht
        clear hc0
        go_enter Tryz.func20, Tryz.ntmps20
        go_wp2_with fail
        refine HBF.out.mono ?_
        rintro e w2 ⟨rfl, ho⟩
        have HR2c := Lib.hid ((HR1.out.grow ho).grow (Only.alloc _ w2 (.cells #[.int .i64 6, .int .i64 0] 37 (0, 0))))
        have HB5 : Hid ((w2.alloc (.cells #[.int .i64 6, .int .i64 0] 37 (0, 0))).heap[w2.heap.size]? = some (.cells #[.int .i64 6, .int .i64 0] 37 (0, 0))) := Lib.hid (MapKept.heap_alloc w2 _).1
        clear ho HR1
        have hfd : ∀ w : World, (Instr.field 37 (.agg #[.int .i64 6, .int .i64 0]) 0).run Tryz.prog w = .ok (.int .i64 6) w := fun w => by kernel_rfl
        have HSA := Lib.hid (show Calls Tryz.prog 25 _ _ (RetE (.agg #[.int .i64 6, .int .i64 0]) _) from HSH.out _ HR2c.out.ext)
        go_wp2_with fail
        refine HSA.out.mono ?_
        rintro e w3 ⟨rfl, ho3⟩
        have hr3 := HR2c.out.grow ho3
        have HB53 := Lib.hid (ho3.heapOf HB5.out (fun h => h))
        have b0 := (cell_of_heap HB53.out 0).trans (rfl : _ = some (Value.int .i64 6))
        have b1 := (cell_of_heap HB53.out 1).trans (rfl : _ = some (Value.int .i64 0))
        have HXE := Lib.hid hr3.ext
        have HRC := Lib.hid hr3.cell
        have f0 := free_of_heap hr3.cell 0
        have f1 := free_of_heap hr3.cell 1
        have r0 := (cell_of_heap hr3.cell 0).trans (rfl : _ = some (Value.int .i64 0))
        have r1 := (cell_of_heap hr3.cell 1).trans (rfl : _ = some (Value.int .i64 0))
        clear ho3 hr3
        go_wp2_with fail
        refine bodyPost_ret (v := AggF R) ?_ rfl ⟨rfl, ext_setS1 (ext_setS1 HXE.out _ _ (Nat.le_refl _)) _ _ (Nat.le_refl _)⟩
        have hres : Tryz.f20.results = #[.cell 4 37] := by kernel_rfl
        have rc0 := fun u v => (res_cells HRC.out u v).1
        have rc1 := fun u v => (res_cells HRC.out u v).2
        rw [HR2.out]
        simp only [results, hres]
        go_simp
      · clear hc0
        have htb : (t == 0) = false := beq_eq_false_iff_ne.2 ht
        go_enter Tryz.func20, Tryz.ntmps20
        go_wp2_with fail
        refine HBF.out.mono ?_
        rintro e w2 ⟨rfl, ho⟩
        have HR2c := Lib.hid ((HR1.out.grow ho).grow (Only.alloc _ w2 (.cells #[.int .i64 6, I t] 37 (0, 0))))
        have HB5 : Hid ((w2.alloc (.cells #[.int .i64 6, I t] 37 (0, 0))).heap[w2.heap.size]? = some (.cells #[.int .i64 6, I t] 37 (0, 0))) := Lib.hid (MapKept.heap_alloc w2 _).1
        clear ho HR1
        have HRC := Lib.hid HR2c.out.cell
        have f0 := free_of_heap HR2c.out.cell 0
        have f1 := free_of_heap HR2c.out.cell 1
        have r0 := (cell_of_heap HR2c.out.cell 0).trans (rfl : _ = some (Value.int .i64 0))
        have r1 := (cell_of_heap HR2c.out.cell 1).trans (rfl : _ = some (Value.int .i64 0))
        have HXE := Lib.hid HR2c.out.ext
        go_wp2_with fail
        refine bodyPost_ret (v := AggF R) ?_ rfl ⟨rfl, ext_setS1 (ext_setS1 HXE.out _ _ (Nat.le_refl _)) _ _ (Nat.le_refl _)⟩
        have hres : Tryz.f20.results = #[.cell 4 37] := by kernel_rfl
        have rc0 := fun u v => (res_cells HRC.out u v).1
        have rc1 := fun u v => (res_cells HRC.out u v).2
        rw [HR2.out]
        simp only [results, hres]
        go_simp
    · have hcb : ((c : Int) == 6) = false := beq_eq_false_iff_ne.2 (by omega)
      clear hc0 hc
      go_enter Tryz.func20, Tryz.ntmps20
      go_wp2_with fail
      refine HBF.out.mono ?_
      rintro e w2 ⟨rfl, ho⟩
      have HR2c := Lib.hid ((HR1.out.grow ho).grow (Only.alloc _ w2 (.cells #[IN c, I t] 37 (0, 0))))
      have HB5 : Hid ((w2.alloc (.cells #[IN c, I t] 37 (0, 0))).heap[w2.heap.size]? = some (.cells #[IN c, I t] 37 (0, 0))) := Lib.hid (MapKept.heap_alloc w2 _).1
      clear ho HR1
      have HRC := Lib.hid HR2c.out.cell
      have f0 := free_of_heap HR2c.out.cell 0
      have f1 := free_of_heap HR2c.out.cell 1
      have r0 := (cell_of_heap HR2c.out.cell 0).trans (rfl : _ = some (Value.int .i64 0))
      have r1 := (cell_of_heap HR2c.out.cell 1).trans (rfl : _ = some (Value.int .i64 0))
      have HXE := Lib.hid HR2c.out.ext
      go_wp2_with fail
      refine bodyPost_ret (v := AggF R) ?_ rfl ⟨rfl, ext_setS1 (ext_setS1 HXE.out _ _ (Nat.le_refl _)) _ _ (Nat.le_refl _)⟩
      have hres : Tryz.f20.results = #[.cell 4 37] := by kernel_rfl
      have rc0 := fun u v => (res_cells HRC.out u v).1
      have rc1 := fun u v => (res_cells HRC.out u v).2
      rw [HR2.out]
      simp only [results, hres]
      go_simp
  · have hsz := HZ.out h0
    rw [hsz] at HSH
    rw [hn] at HBF
    have HR2 := Lib.hid hR
    clear hn hR h0 hsz
    go_enter Tryz.func20, Tryz.ntmps20
    go_wp2_with fail
    refine HBF.out.mono ?_
    rintro e w2 ⟨rfl, ho⟩
    have HR2c := Lib.hid ((HR1.out.grow ho).grow (Only.alloc _ w2 (.cells #[.int .i64 6, .int .i64 0] 37 (0, 0))))
    have HB5 : Hid ((w2.alloc (.cells #[.int .i64 6, .int .i64 0] 37 (0, 0))).heap[w2.heap.size]? = some (.cells #[.int .i64 6, .int .i64 0] 37 (0, 0))) := Lib.hid (MapKept.heap_alloc w2 _).1
    clear ho HR1
    have hfd : ∀ w : World, (Instr.field 37 (.agg #[.int .i64 0, .int .i64 (-1)]) 0).run Tryz.prog w = .ok (.int .i64 0) w := fun w => by kernel_rfl
    have HSA := Lib.hid (show Calls Tryz.prog 25 _ _ (RetE (.agg #[.int .i64 0, .int .i64 (-1)]) _) from HSH.out _ HR2c.out.ext)
    go_wp2_with fail
    refine HSA.out.mono ?_
    rintro e w3 ⟨rfl, ho3⟩
    have hr3 := HR2c.out.grow ho3
    have HB53 := Lib.hid (ho3.heapOf HB5.out (fun h => h))
    have HR3 := Lib.hid hr3
    clear ho3 hr3
    go_wp2_with fail
    refine (refBare_any _ 6).mono ?_
    rintro e w4 ⟨rfl, ho4⟩
    have hr4 := HR3.out.grow ho4
    have HXE := Lib.hid hr4.ext
    have HRC := Lib.hid hr4.cell
    have f0 := free_of_heap hr4.cell 0
    have f1 := free_of_heap hr4.cell 1
    have r0 := (cell_of_heap hr4.cell 0).trans (rfl : _ = some (Value.int .i64 0))
    have r1 := (cell_of_heap hr4.cell 1).trans (rfl : _ = some (Value.int .i64 0))
    clear ho4 hr4
    go_wp2_with fail
    refine bodyPost_ret (v := AggF R) ?_ rfl ⟨rfl, ext_setS1 (ext_setS1 HXE.out _ _ (Nat.le_refl _)) _ _ (Nat.le_refl _)⟩
    have hres : Tryz.f20.results = #[.cell 4 37] := by kernel_rfl
    have rc0 := fun u v => (res_cells HRC.out u v).1
    have rc1 := fun u v => (res_cells HRC.out u v).2
    rw [HR2.out]
    simp only [results, hres]
    go_simp
  · rw [hn] at HBF
    have HR2 := Lib.hid hR
    clear hn hR
    go_enter Tryz.func20, Tryz.ntmps20
    go_wp2_with fail
    refine HBF.out.mono ?_
    rintro e w2 ⟨rfl, ho⟩
    have HR2c := Lib.hid ((HR1.out.grow ho).grow (Only.alloc _ w2 (.cells #[.int .i64 0, .int .i64 (-1)] 37 (0, 0))))
    have HB5 : Hid ((w2.alloc (.cells #[.int .i64 0, .int .i64 (-1)] 37 (0, 0))).heap[w2.heap.size]? = some (.cells #[.int .i64 0, .int .i64 (-1)] 37 (0, 0))) := Lib.hid (MapKept.heap_alloc w2 _).1
    clear ho HR1
    have HRC := Lib.hid HR2c.out.cell
    have f0 := free_of_heap HR2c.out.cell 0
    have f1 := free_of_heap HR2c.out.cell 1
    have r0 := (cell_of_heap HR2c.out.cell 0).trans (rfl : _ = some (Value.int .i64 0))
    have r1 := (cell_of_heap HR2c.out.cell 1).trans (rfl : _ = some (Value.int .i64 0))
    have HXE := Lib.hid HR2c.out.ext
    go_wp2_with fail
    refine bodyPost_ret (v := AggF R) ?_ rfl ⟨rfl, ext_setS1 (ext_setS1 HXE.out _ _ (Nat.le_refl _)) _ _ (Nat.le_refl _)⟩
    have hres : Tryz.f20.results = #[.cell 4 37] := by kernel_rfl
    have rc0 := fun u v => (res_cells HRC.out u v).1
    have rc1 := fun u v => (res_cells HRC.out u v).2
    rw [HR2.out]
    simp only [results, hres]
    go_simp
  · rw [hn] at HBF
    have HR2 := Lib.hid hR
    clear hn hR
    go_enter Tryz.func20, Tryz.ntmps20
    go_wp2_with fail
    refine HBF.out.mono ?_
    rintro e w2 ⟨rfl, ho⟩
    have HR2c := Lib.hid ((HR1.out.grow ho).grow (Only.alloc _ w2 (.cells #[.int .i64 9, .int .i64 (-1)] 37 (0, 0))))
    have HB5 : Hid ((w2.alloc (.cells #[.int .i64 9, .int .i64 (-1)] 37 (0, 0))).heap[w2.heap.size]? = some (.cells #[.int .i64 9, .int .i64 (-1)] 37 (0, 0))) := Lib.hid (MapKept.heap_alloc w2 _).1
    clear ho HR1
    have HRC := Lib.hid HR2c.out.cell
    have f0 := free_of_heap HR2c.out.cell 0
    have f1 := free_of_heap HR2c.out.cell 1
    have r0 := (cell_of_heap HR2c.out.cell 0).trans (rfl : _ = some (Value.int .i64 0))
    have r1 := (cell_of_heap HR2c.out.cell 1).trans (rfl : _ = some (Value.int .i64 0))
    have HXE := Lib.hid HR2c.out.ext
    go_wp2_with fail
    refine bodyPost_ret (v := AggF R) ?_ rfl ⟨rfl, ext_setS1 (ext_setS1 HXE.out _ _ (Nat.le_refl _)) _ _ (Nat.le_refl _)⟩
    have hres : Tryz.f20.results = #[.cell 4 37] := by kernel_rfl
    have rc0 := fun u v => (res_cells HRC.out u v).1
    have rc1 := fun u v => (res_cells HRC.out u v).2
    rw [HR2.out]
    simp only [results, hres]
    go_simp
end Go.Proofs.YtnmhaipjfpongacGreatDoor

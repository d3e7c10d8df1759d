/- Texts of this seat laid together for one claim: Z30, S9, Bm14, Br4. No condition of its own: what each proves stands with its theorems. -/
import Derived.Deep.CutBlock
import Derived.Deep.DeepCutAuto
import Derived.Test.YtnmhaipjfpongacGreatDoorBR30
import Derived.Test.YtnmhaipjfpongacGreatDoorBR34
import Derived.Test.YtnmhaipjfpongacGreatDoorBR35
import Derived.Test.YtnmhaipjfpongacGreatDoorBR41
import Derived.Test.YtnmhaipjfpongacGreatDoorBR44
import Derived.Test.YtnmhaipjfpongacGreatDoorBR29
import Derived.Test.YtnmhaipjfpongacGreatDoorBR46
import Derived.Test.YtnmhaipjfpongacGreatDoorBR42
import Derived.Test.YtnmhaipjfpongacGreatDoorBR8
import Derived.Test.YtnmhaipjfpongacGreatDoorBR47
import Derived.Test.YtnmhaipjfpongacGreatDoorBR31
import Derived.Test.YtnmhaipjfpongacGreatDoorBR43
namespace Go.Proofs.YtnmhaipjfpongacGreatDoor
open Go.ChangeShapes Go.WideShapes Go.ChangeAt Go.RowKit

structure Ran {σ : Type} (E : BE) (bs : σ → BS) (x y : σ) (o : List Nat) : Prop where
 all : ∀ k, ranP (bs y) k = (decide (k ∈ o) || ranP (bs x) k)
 new : ∀ k ∈ o, k ∈ E.sm ∧ ranP (bs x) k = false
 once : o.Nodup
section
variable {σ : Type} {E : BE} {bs : σ → BS} {step : σ → Nat → σ} {x y z : σ} {o p : List Nat}
theorem Ran.nil : Ran E bs x x [] := ⟨fun k => by simp, fun k h => (by cases h), List.nodup_nil⟩
theorem Ran.cons {i : Nat} (hi : i ∈ E.sm) (hr : readyP E (bs x) i = true) (hs : ∀ k, ranP (bs (step x i)) k = (decide (k = i) || ranP (bs x) k)) (h : Ran E bs (step x i) y o) : Ran E bs x y (i :: o) := by
 have h0 : ranP (bs x) i = false := by
  have := (ready_iff.1 hr).1
  unfold ranP
  rw [this]; rfl
 have hno : ∀ k ∈ o, k ≠ i ∧ ranP (bs x) k = false := fun k hk => by
  have h1 := (h.new k hk).2
  rw [hs, Bool.or_eq_false_iff] at h1
  exact ⟨of_decide_eq_false h1.1, h1.2⟩
 refine ⟨fun k => ?_, fun k hk => ?_, List.nodup_cons.2 ⟨fun hk => (hno i hk).1 rfl, h.once⟩⟩
 ·rw [h.all, hs]
  by_cases hk : k = i
  ·simp [hk]
  ·simp [hk]
 ·rcases List.mem_cons.1 hk with rfl | hk
  ·exact ⟨hi, h0⟩
  ·exact ⟨(h.new k hk).1, (hno k hk).2⟩
theorem PicksTo.ran {ps : List Int} (hs : ∀ x i, i ∈ E.sm → readyP E (bs x) i = true → ∀ k, ranP (bs (step x i)) k = (decide (k = i) || ranP (bs x) k)) (h : PicksTo E bs step ps x o y) : Ran E bs x y o := by
 induction h with
 | nil x => exact .nil
 | skip _ _ ih => exact ih
 | pick hk _ ih =>
  have hm := List.mem_filter.1 (List.mem_of_getElem? hk)
  exact .cons hm.1 hm.2 (hs _ _ hm.1 hm.2) ih
theorem AllOut.ran (hs : ∀ x i, i ∈ E.sm → readyP E (bs x) i = true → ∀ k, ranP (bs (step x i)) k = (decide (k = i) || ranP (bs x) k)) (h : AllOut E bs step x o y) : Ran E bs x y o ∧ readyL E (bs y) = [] := by
 induction h with
 | stop h => exact ⟨.nil, h⟩
 | @more x y o i R hk _ ih =>
  have hm : i ∈ readyL E (bs x) := by rw [hk]; exact .head _
  have hm := List.mem_filter.1 hm
  exact ⟨.cons hm.1 hm.2 (hs _ _ hm.1 hm.2) ih.1, ih.2⟩
end

structure PkA (w0 : World) (P : Nat → Addr) (base : Nat) (E : BE) (K : BK) (R : World → Prop) (x : BS) (wr : World) : Prop where
 bld : BldAt wr P base E K x
 inv : BInv E x
 ext : Ext w0 wr
 rest : R wr
 nohit : ∀ k, x.hit k = false
theorem PkA.keeps {w0 : World} {P : Nat → Addr} {base : Nat} {E : BE} {K : BK} {R : World → Prop} {own : Nat → Prop} {o : List Nat} {is : Nat → Bool} (hc : K.cp = .pointer none) (hW : BWell E o is) (hL : BLens E) (hV : PV w0 P [2, 4, 5, 9, 10, 11])
    (hlo : ∀ i, InBld E K i → w0.heap.size ≤ i ∧ own i) (hR : ∀ w w' (q : Nat → Prop), R w → Only q w w' → (∀ i, q i → InBld E K i ∨ (¬ own i ∧ w0.heap.size ≤ i)) → R w') :
    KeepsOwn (fun w x => PkA w0 P base E K R x w) own w0.heap.size (fun x => x) (fun x i => stepNn E x (i : Int)) P base E K :=
  ⟨fun _ _ h => ⟨h.bld, h.inv⟩, fun _ _ h => h.ext.size,
   fun w x w' q h ho hq => ⟨h.bld.later ho (fun i hi e => (hq i e).1 (hlo i hi).2), h.inv, h.ext.trans ho (fun _ _ h => h) (fun i hi e => by have := (hq i e).2; omega), hR w w' q h.rest ho (fun i e => .inr (hq i e)), h.nohit⟩,
   fun w x h i hi hr => (runN_any h.bld hc hW h.inv hL (hV.ext h.ext) (i : Int)).mono fun e w' hp => by
     obtain ⟨rfl, hb', ho⟩ := hp
     rw [(run_of hi hr).1]
     exact ⟨_, rfl, ⟨hb', hW.runZ h.inv _ _, h.ext.trans ho (fun _ _ h => h) (fun i hi e => by have := (hlo i e.bld).1; omega), hR w w' _ h.rest ho (fun i e => .inl e.bld), nohit_run h.nohit _⟩, ho.mono fun i _ e => (hlo i e.bld).2⟩,
   fun _ _ hi hr => (run_of hi hr).2⟩

end Go.Proofs.YtnmhaipjfpongacGreatDoor

namespace Go.Proofs.YtnmhaipjfpongacGreatDoor
open Go.ChangeShapes Go.WideShapes Go.ChangeAt Go.RowKit

noncomputable def nFault (l : List Rule) (outs : List B) : Nat × Int := if (needFault l outs).1 ≠ 0 then needFault l outs else partFault l (needL l outs)
theorem nFault_sheet {l : List Rule} {outs : List B} (h : (sheetFault l).1 ≠ 0) : nFault l outs = sheetFault l := by
 have h1 : needFault l outs = sheetFault l := by unfold needFault; rw [if_pos h]
 unfold nFault
 rw [h1, if_pos h]
theorem nFault_bad {l : List Rule} {outs : List B} {i : Nat} (h : (sheetFault l).1 = 0) (hb : badOf l outs = some i) : nFault l outs = (6, (i : Int)) := by
 have h1 : needFault l outs = (6, (i : Int)) := by unfold needFault; rw [if_neg (by rw [h]; simp), hb]
 unfold nFault
 rw [h1, if_pos (by simp)]
theorem nFault_part {l : List Rule} {outs : List B} (h : (sheetFault l).1 = 0) (hb : badOf l outs = none) : nFault l outs = partFault l (needL l outs) := by
 have h1 : needFault l outs = (0, -1) := by unfold needFault; rw [if_neg (by rw [h]; simp), hb]
 unfold nFault
 rw [h1, if_neg (by simp)]

set_option maxRecDepth 100000 in
set_option maxHeartbeats 8000000 in
theorem buildFault_any (w : World) (l : List Rule) (outs : List B) (v vo : Value) (hv : RdR w v l) (hvo : Rd S w vo outs) (hs : ∀ r ∈ l, RuleSm 900000 r) :
  Calls Tryz.prog 54 #[v, vo] w (RetE (AggF (nFault l outs)) w) := by
 have HRD := Lib.hid hv
 have HRO := Lib.hid hvo
 have HR0 : Hid (ResAt w (w.alloc (.cells #[.int .i64 0, .int .i64 0] 37 (0, 0)))) := Lib.hid ⟨Only.alloc _ _ _, (MapKept.heap_alloc w _).1⟩
 have HSH := Lib.hid (fun (wq : World) (hx : Ext w wq) => refSheet_any wq l v (hv.ext hx) hs)
 obtain ⟨R, hR⟩ : ∃ R, R = nFault l outs := ⟨_, rfl⟩
 rw [← hR]
 have HR := Lib.hid hR
 obtain ⟨F, hF⟩ : ∃ F, F = sheetFault l := ⟨_, rfl⟩
 rw [← hF] at HSH
 have HF := Lib.hid hF
 obtain ⟨c, t⟩ := F
 obtain ⟨a, cap, rfl, _, _, _⟩ := hv
 obtain ⟨ao, co, rfl, _, _, _⟩ := hvo
 clear hs hF hR
 by_cases hc : c = 0
 case neg =>
  have HR2 : Hid (R = (c, t)) := Lib.hid (by rw [HR.out, nFault_sheet (by rw [← HF.out]; exact hc), HF.out])
  have hcz : (0 : Int) < (c : Int) := by omega
  clear hc
  go_enter Tryz.func54, Tryz.ntmps54
  go_wp2_with fail
  refine (HSH.out _ HR0.out.ext).mono ?_
  rintro e w1 ⟨rfl, ho⟩
  have hr1 := (HR0.out.grow ho).grow (Only.alloc _ w1 (.cells #[IN c, I t] 37 (0, 0)))
  have HX1 := Lib.hid hr1.ext
  have HRC := Lib.hid hr1.cell
  have f0 := free_of_heap hr1.cell 0
  have f1 := free_of_heap hr1.cell 1
  have r0 := (cell_of_heap hr1.cell 0).trans (rfl : _ = some (Value.int .i64 0))
  have r1 := (cell_of_heap hr1.cell 1).trans (rfl : _ = some (Value.int .i64 0))
  clear ho hr1 HR0
  go_wp2_with fail
  refine bodyPost_ret (v := AggF R) ?_ rfl ⟨rfl, ext_setS1 (ext_setS1 HX1.out _ _ (Nat.le_refl _)) _ _ (Nat.le_refl _)⟩
  have hres : Tryz.f54.results = #[.cell 4 37] := by kernel_rfl
  have rc0 := fun u v => (res_cells HRC.out u v).1
  have rc1 := fun u v => (res_cells HRC.out u v).2
  rw [HR2.out]
  simp only [results, hres]
  go_simp
 case pos =>
  subst hc
  have h00 : (sheetFault l).1 = 0 := by rw [← HF.out]
  have HZ := Lib.hid h00
  have HRT := Lib.hid (sheet_ok.1 h00)
  obtain rfl : t = -1 := by
   have h1 := sheet_zero h00
   rw [← HF.out] at h1
   exact (Prod.mk.inj h1).2
  have h40 : l.length ≤ 1000 := by have := HRT.out.1; omega
  clear h00
  go_enter Tryz.func54, Tryz.ntmps54
  go_wp2_with fail
  refine (HSH.out _ HR0.out.ext).mono ?_
  rintro e w1 ⟨rfl, ho⟩
  have HR1 := Lib.hid ((HR0.out.grow ho).grow (Only.alloc _ w1 (.cells #[.int .i64 0, .int .i64 (-1)] 37 (0, 0))))
  have HB5 : Hid ((w1.alloc (.cells #[.int .i64 0, .int .i64 (-1)] 37 (0, 0))).heap[w1.heap.size]? = some (.cells #[.int .i64 0, .int .i64 (-1)] 37 (0, 0))) := Lib.hid (MapKept.heap_alloc w1 _).1
  clear ho HR0 HSH
  go_wp2_with fail
  refine (neededOf_any _ l outs _ _ (HRD.out.ext HR1.out.ext) (HRO.out.ext HR1.out.ext) HRT.out).mono ?_
  rintro e w3 ⟨ho, hcase⟩
  have HR3 := Lib.hid (HR1.out.grow ho)
  have HB53 := Lib.hid (ho.heapOf HB5.out (fun h => h))
  clear ho HR1 HB5
  rcases hcase with ⟨i, hb, rfl⟩ | ⟨hb, tb, rfl, htab⟩
  ·have HR2 : Hid (R = (6, (i : Int))) := Lib.hid (by rw [HR.out, nFault_bad HZ.out hb])
   have hi0 : (0 : Int) ≤ (i : Int) := by omega
   have HX3 := Lib.hid HR3.out.ext
   have HRC := Lib.hid HR3.out.cell
   have f0 := free_of_heap HR3.out.cell 0
   have f1 := free_of_heap HR3.out.cell 1
   have r0 := (cell_of_heap HR3.out.cell 0).trans (rfl : _ = some (Value.int .i64 0))
   have r1 := (cell_of_heap HR3.out.cell 1).trans (rfl : _ = some (Value.int .i64 0))
   clear hb
   go_wp2_with fail
   refine bodyPost_ret (v := AggF R) ?_ rfl ⟨rfl, ext_setS1 (ext_setS1 HX3.out _ _ (Nat.le_refl _)) _ _ (Nat.le_refl _)⟩
   have hres : Tryz.f54.results = #[.cell 4 37] := by kernel_rfl
   have rc0 := fun u v => (res_cells HRC.out u v).1
   have rc1 := fun u v => (res_cells HRC.out u v).2
   rw [HR2.out]
   simp only [results, hres]
   go_simp
  ·have HRP : Hid (R = partFault l (needL l outs)) := Lib.hid (by rw [HR.out, nFault_part HZ.out hb])
   have horc : Calls Tryz.prog 26 _ w3 (RetOrder (partB l (needL l outs)) w3) := orderOf_any w3 l _ tb (fun i => (needL l outs).contains i) (HRD.out.ext HR3.out.ext) h40 (htab.congr fun k hk => by
    congr 1
    rw [Bool.eq_iff_iff]
    simp only [List.contains_iff_mem, mem_needL, reachB_iff]
    exact ⟨fun h => ⟨hk, h⟩, fun h => h.2⟩)
   have HORC := Lib.hid horc
   clear hb htab horc
   go_wp2_with fail
   refine HORC.out.mono ?_
   rintro e w4 ⟨vq, rfl, _, ho4⟩
   have HR4 := Lib.hid (HR3.out.grow ho4)
   have HB54 := Lib.hid (ho4.heapOf HB53.out (fun h => h))
   clear ho4
   cases hp : partB l (needL l outs) with
   | none =>
    have HR2 : Hid (R = (9, -1)) := Lib.hid (by rw [HRP.out]; unfold partFault; rw [hp]; rfl)
    clear hp
    go_wp2_with fail
    refine (refBare_any _ 9).mono ?_
    rintro e w5 ⟨rfl, ho5⟩
    have hr5 := HR4.out.grow ho5
    have HX5 := Lib.hid hr5.ext
    have HRC := Lib.hid hr5.cell
    have f0 := free_of_heap hr5.cell 0
    have f1 := free_of_heap hr5.cell 1
    have r0 := (cell_of_heap hr5.cell 0).trans (rfl : _ = some (Value.int .i64 0))
    have r1 := (cell_of_heap hr5.cell 1).trans (rfl : _ = some (Value.int .i64 0))
    clear ho5 hr5
    go_wp2_with fail
    refine bodyPost_ret (v := AggF R) ?_ rfl ⟨rfl, ext_setS1 (ext_setS1 HX5.out _ _ (Nat.le_refl _)) _ _ (Nat.le_refl _)⟩
    have hres : Tryz.f54.results = #[.cell 4 37] := by kernel_rfl
    have rc0 := fun u v => (res_cells HRC.out u v).1
    have rc1 := fun u v => (res_cells HRC.out u v).2
    rw [HR2.out]
    simp only [results, hres]
    go_simp
   | some od =>
    have HR2 : Hid (R = (0, -1)) := Lib.hid (by rw [HRP.out]; unfold partFault; rw [hp]; rfl)
    have HX5 := Lib.hid HR4.out.ext
    have b0 := (cell_of_heap HB54.out 0).trans (rfl : _ = some (Value.int .i64 0))
    have b1 := (cell_of_heap HB54.out 1).trans (rfl : _ = some (Value.int .i64 (-1)))
    have HRC := Lib.hid HR4.out.cell
    have f0 := free_of_heap HR4.out.cell 0
    have f1 := free_of_heap HR4.out.cell 1
    have r0 := (cell_of_heap HR4.out.cell 0).trans (rfl : _ = some (Value.int .i64 0))
    have r1 := (cell_of_heap HR4.out.cell 1).trans (rfl : _ = some (Value.int .i64 0))
    clear hp
    go_wp2_with fail
    refine bodyPost_ret (v := AggF R) ?_ rfl ⟨rfl, ext_setS1 (ext_setS1 HX5.out _ _ (Nat.le_refl _)) _ _ (Nat.le_refl _)⟩
    have hres : Tryz.f54.results = #[.cell 4 37] := by kernel_rfl
    have rc0 := fun u v => (res_cells HRC.out u v).1
    have rc1 := fun u v => (res_cells HRC.out u v).2
    rw [HR2.out]
    simp only [results, hres]
    go_simp

theorem part_codes (l : List Rule) (sm : List Nat) : partFault l sm = (0, -1) ∨ partFault l sm = (9, -1) := by
 unfold partFault
 split
 ·exact .inl rfl
 ·exact .inr rfl
end Go.Proofs.YtnmhaipjfpongacGreatDoor

namespace Go.Proofs.YtnmhaipjfpongacGreatDoor
open Go.ChangeShapes Go.WideShapes Go.ChangeAt Go.RowKit

theorem MAt.older {w00 w0 w : World} {E : BE} {K : MK} {g : Nat → Nat} {ou : Nat → B} {hi : Nat → Bool} {wh : Nat → Nat} (h : MAt w0 w E K g ou hi wh) (hx : Ext w00 w0) (hr : RdR w00 (.slice K.la E.l.length K.lc) E.l) : MAt w00 w E K g ou hi wh := by
 obtain ⟨h1, h2, h3, h4, h5, h6⟩ := h.lo
 have hs := hx.size
 exact ⟨hx.then h.ext, h.cells, h.tree.low hs, hr, h.tab, h.ne, ⟨by omega, by omega, by omega, by omega, by omega, by omega⟩⟩
theorem stateM_Z {E : BE} {s : BS} (hI : BInv E s) (i : Nat) : stateM (mst E s i) = stateZ E s (i : Int) := by
 by_cases hi : i ∈ E.sm
 ·rw [mst_in hi, stateZ_in hi]
  have := (hI.rng i hi).1
  unfold stateM
  rw [if_neg (by omega)]
 ·rw [mst_out hi, stateZ_out fun k hk e => hi (by
   have : k = i := by omega
   rw [← this]; exact hk)]
  rfl
theorem resZ_M {E : BE} {s : BS} (i : Nat) : (resZ E s (i : Int)).1 = outM E s i := by
 unfold outM
 by_cases hi : i ∈ E.sm
 ·rw [mst_in hi]
  by_cases h2 : s.st i = 2
  ·rw [if_pos h2, resZ_in hi h2]
  ·rw [if_neg h2, resZ_not h2]
 ·rw [mst_out hi, resZ_out fun k hk e => hi (by
   have : k = i := by omega
   rw [← this]; exact hk)]
  rfl
theorem nFault_new (l : List Rule) (outs : List B) : nFault l outs = newFault l outs := rfl

end Go.Proofs.YtnmhaipjfpongacGreatDoor

namespace Go.Proofs.YtnmhaipjfpongacGreatDoor
open Go.ChangeShapes Go.WideShapes Go.ChangeAt Go.RowKit

theorem runZ_le (E : BE) (C : CS) (s : BS) (z : Int) : (runZ E C s z).1.2 ≤ 12 := by
 unfold runZ runP
 repeat' split
 all_goals simp
theorem sheet_le4 (l : List Rule) : (sheetFault l).1 ≤ 12 := by
 unfold sheetFault
 split
 ·decide
 ·have key : ∀ (k : List Rule) (seen : List B) (i : Nat), (sheetGo seen i k).1 ≤ 12 := by
   intro k
   induction k with
   | nil => intro seen i; simp [sheetGo]
   | cons r k ih =>
    intro seen i
    rw [sheetGo]
    split
    ·exact ruleCode_le r
    ·split
     ·exact (by decide : 7 ≤ 12)
     ·exact ih _ _
  exact key l [] 0
theorem newFault_le (l : List Rule) (outs : List B) : (newFault l outs).1 ≤ 12 := by
 unfold newFault
 split
 ·unfold needFault
  split
  ·exact sheet_le4 l
  ·split
   ·exact (by decide : 6 ≤ 12)
   ·exact Nat.zero_le _
 ·rcases part_codes l (needL l outs) with h | h <;> rw [h] <;> decide
set_option maxRecDepth 100000 in
set_option maxHeartbeats 2000000 in
theorem newNil_any (w : World) (P : Nat → Addr) (v vo cp : Value) (hE : Errs w P [2]) : Calls Tryz.prog 51 #[.pointer none, v, vo, cp] w (fun e w' => e = .returned (.tuple #[.pointer none, errC P 3]) ∧ Ext w w') := by
 have c2 := hE.var 2 _ (by decide) rfl
 clear hE
 go_enter Tryz.func51, Tryz.ntmps51
 go_wp2_with fail
 go_quiet (fail)
 go_wp2_with fail
 go_ret2
 exact ⟨rfl, Only.drewN _ _ _⟩
theorem cacheBad_any (z : Int) (w : World) (p : Nat → Addr) (hs : Errs w p [1]) (h : z < 1 ∨ 100 < z) :
  Calls Tryz.prog 52 #[.int .i64 z] w fun e w' => e = .returned (.tuple #[.pointer none, errV (p 1)]) ∧ Drawn w w' := by
 have q1 := hs.var 1 _ (by decide) rfl
 by_cases h1 : z < 1
 ·clear h hs
  go_enter Tryz.func52, Tryz.ntmps52
  go_wp2_with fail
  go_quiet (fail)
  go_wp2
  go_ret2
  exact ⟨rfl, _, rfl⟩
 ·have h2 : 100 < z := by omega
  clear h hs
  go_enter Tryz.func52, Tryz.ntmps52
  go_wp2_with fail
  go_quiet (fail)
  go_wp2
  go_ret2
  exact ⟨rfl, _, rfl⟩
def RetCa (P : Nat → Addr) (many : Int) (w : World) (e : Ending) (w' : World) : Prop :=
 ∃ ca ev, e = .returned (.tuple #[.pointer ca, ev]) ∧ Ext w w' ∧ ((ca = none ∧ ev = errV (P 1)) ∨ ∃ n : Nat, many = (n : Int) ∧ n ≤ 100 ∧ ev = .nilIface ∧ ca = some ⟨w.heap.size + 1, 0, none⟩ ∧ CacheAt w' (w.heap.size + 1) w.heap.size (.slice none 0 0) n [])
theorem cacheAll_any (many : Int) (w : World) (P : Nat → Addr) (hE : Errs w P [1]) : Calls Tryz.prog 52 #[I many] w (RetCa P many w) := by
 by_cases h : many < 1 ∨ 100 < many
 ·refine (cacheBad_any many w P hE h).mono ?_
  rintro e w' ⟨rfl, hd⟩
  exact ⟨_, _, rfl, hd.ext, .inl ⟨rfl, rfl⟩⟩
 ·obtain ⟨n, rfl⟩ : ∃ n : Nat, many = (n : Int) := ⟨many.toNat, by omega⟩
  refine (cacheNew_any n w (by omega) (by omega)).mono ?_
  rintro e w' ⟨rfl, h1, h2, _⟩
  exact ⟨_, _, rfl, h2, .inr ⟨n, rfl, by omega, rfl, rfl, h1⟩⟩
def CchB (w0 w : World) (rp mp : Value) (C : CS) : Prop := Ext w0 w ∧ match C with
 | none => rp = .pointer none ∧ mp = .pointer none
 | some (many, L) => ∃ cb cmb sv cbm cv, rp = PTR cb ∧ mp = PTR cbm ∧ CacheAt w cb cmb sv many L ∧ CacheOk L ∧ L.length ≤ many ∧ many ≤ 100 ∧ RCch w cbm cv many L ∧ (∀ i, InCache cb cmb sv i → w0.heap.size ≤ i ∧ i ≠ cbm ∧ cv.ownBlock ≠ some i) ∧ w0.heap.size ≤ cbm ∧ cbm < w.heap.size ∧ ∀ i, cv.ownBlock = some i → i < w.heap.size
section
variable {w0 w wa wb wc wd : World} {P : Nat → Addr} {base : Nat} {E : BE} {K : BK} {Km : MK} {cb cmb cbm : Nat} {sv cv rp mp : Value} {C : CS} {x : BS × CS}
theorem CchB.ext {w' : World} (h : CchB w0 w rp mp C) (ho : Ext w w') : CchB w0 w' rp mp C := by
 cases C with
 | none => exact ⟨h.1.then ho, h.2⟩
 | some p =>
  obtain ⟨many, L⟩ := p
  obtain ⟨h0, cb, cmb, sv, cbm, cv, h1, h2, h3, h4, h5, h6, h7, h8, h9, h10, h11⟩ := h
  exact ⟨h0.then ho, cb, cmb, sv, cbm, cv, h1, h2, h3.later ho (fun _ _ h => h), h4, h5, h6, h7.ext ho, h8, h9, Nat.lt_of_lt_of_le h10 ho.size, fun i e => Nat.lt_of_lt_of_le (h11 i e) ho.size⟩
theorem CchB.make (h : CchB w0 w rp mp C) (ha : Ext w wa) (hab : Ext wa wb) (hb : BldAt wb P wa.heap.size E K .new) (hcp : K.cp = rp) (hbc : Ext wb wc) (hcd : Ext wc wd) (hm : MBldAt w0 wd E Km .new) (hmcp : Km.cp = mp) (hge : ∀ i, InMA Km i → wc.heap.size ≤ i) :
  ∃ cb cmb cbm sv cv, BothAt w0 P wa.heap.size E K Km cb cmb cbm sv cv wd (.new, C) (.new, C) := by
 have hg := h.ext (ha.then (hab.then (hbc.then hcd)))
 have s1 := ha.size
 have s2 := hab.size
 have s3 := hbc.size
 have s4 := hcd.size
 have s0 := h.1.size
 have hbd : ∀ i, InBld E K i → wa.heap.size ≤ i ∧ i < wb.heap.size := fun i hi => ⟨hb.ge i hi, hb.lt i hi⟩
 have hB := hb.ext (hbc.then hcd)
 have hkb : wc.heap.size ≤ Km.b := hge _ (.inl rfl)
 have hkl : Km.b < wd.heap.size := hm.lt _ (.inl rfl)
 cases C with
 | none =>
  obtain ⟨h1, h2⟩ := h.2
  refine ⟨0, 0, Km.b, .nilIface, .nilIface, ⟨hB, BInv.new _, hg.1, hcp.trans h1, fun i hi => ?_, fun hc => absurd rfl hc⟩, ⟨hm, BInv.new _, hmcp.trans h2, (fun i e => by cases e), trivial⟩, fun i hi => ?_, by omega, hkl⟩
  ·rcases hi with hi | ⟨hc, _⟩
   ·have := hbd i hi; omega
   ·exact absurd rfl hc
  ·rcases hi with hi | ⟨hc, _⟩
   ·have h1 := hbd i hi
    exact ⟨fun e => by have := hge i e; omega, by omega, by intro e; cases e⟩
   ·exact absurd rfl hc
 | some p =>
  obtain ⟨many, L⟩ := p
  obtain ⟨_, cb, cmb, sv, cbm, cv, h1, h2, h3, h4, h5, h6, h7, h8, h9, h10, h11⟩ := h
  obtain ⟨hg0, _⟩ := hg
  have hx := ha.then (hab.then (hbc.then hcd))
  have hcl : ∀ i, InCache cb cmb sv i → i < w.heap.size := h3.lt
  refine ⟨cb, cmb, cbm, sv, cv, ⟨hB, BInv.new _, hg0, ⟨hcp.trans h1, h3.later hx (fun _ _ h => h), h4, h5, h6⟩, fun i hi => ?_, fun _ i hi e => ?_⟩, ⟨hm, BInv.new _, ⟨hmcp.trans h2, h7.ext hx, fun e => ?_, fun i e e2 => ?_⟩, fun i e => ?_, trivial⟩, fun i hi => ?_, h9, by omega⟩
  ·rcases hi with hi | ⟨_, hi⟩
   ·have := hbd i hi; omega
   ·exact (h8 i hi).1
  ·have := hcl i hi; have := hbd i e; omega
  ·have := hge _ e; omega
  ·have := hge _ e2; have := h11 i e; omega
  ·have := h11 i e; omega
  ·rcases hi with hi | ⟨_, hi⟩
   ·have h1 := hbd i hi
    exact ⟨fun e => by have := hge i e; omega, by omega, fun e => by have := h11 i e; omega⟩
   ·have h1 := hcl i hi
    exact ⟨fun e => by have := hge i e; omega, (h8 i hi).2⟩
theorem BothAt.cache (h : BothAt w0 P base E K Km cb cmb cbm sv cv w x x) : CchB w0 w K.cp Km.cp x.2 := by
 obtain ⟨s, C⟩ := x
 cases C with
 | none => exact ⟨h.real.ext, h.real.cch, h.mod.cch⟩
 | some p =>
  obtain ⟨many, L⟩ := p
  obtain ⟨h1, h2, h3, h4, h5⟩ := h.real.cch
  obtain ⟨k1, k2, k3, k4⟩ := h.mod.cch
  have hn : (some (many, L) : CS) ≠ none := by simp
  exact ⟨h.real.ext, cb, cmb, sv, cbm, cv, h1, k1, h2, h3, h4, h5, k2, fun i hi => ⟨h.real.lo i (.inr ⟨hn, hi⟩), (h.apart i (.inr ⟨hn, hi⟩)).2⟩, h.cbm.1, h.cbm.2, h.mod.lt⟩
end
end Go.Proofs.YtnmhaipjfpongacGreatDoor

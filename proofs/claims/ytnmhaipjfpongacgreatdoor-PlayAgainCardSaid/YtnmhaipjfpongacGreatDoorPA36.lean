/- Texts of this seat laid together for one claim: S1, S6. No condition of its own: what each proves stands with its theorems. -/
import Derived.Test.YtnmhaipjfpongacGreatDoorPA15
import Derived.Test.YtnmhaipjfpongacGreatDoorPA25
import Derived.Test.YtnmhaipjfpongacGreatDoorPA9
import Derived.Test.YtnmhaipjfpongacGreatDoorPA7
namespace Go.Proofs.YtnmhaipjfpongacGreatDoor
open Go.ChangeShapes Go.WideShapes Go.ChangeAt Go.RowKit

theorem ext_setS1 {w w' : World} (h : Ext w w') {b : Nat} (k : Nat) (v : Value) (hb : w.heap.size ≤ b) : Ext w (w'.setCell ⟨b, k, none⟩ v) := h.trans (Only.set (p := fun i => i = b) v rfl) (fun _ _ h => h) (fun i hi e => by omega)
theorem idx_take {ins : List B} {j : Nat} {s : B} (hq : ins[j]? = some s) : decide (idx (fun y => y == s) ins < (j : Int)) = decide (s ∈ ins.take j) := by
 rw [decide_eq_decide]
 have hj := (List.getElem?_eq_some_iff.1 hq).1
 obtain ⟨k, hk⟩ : ∃ k, ins.findIdx? (fun y => y == s) = some k := by
  cases h : ins.findIdx? (fun y => y == s) with
  | some k => exact ⟨k, rfl⟩
  | none =>
   rw [List.findIdx?_eq_none_iff] at h
   have := h s (List.mem_of_getElem? hq)
   simp at this
 obtain ⟨h1, h2, h3⟩ := List.findIdx?_eq_some_iff_getElem.1 hk
 have hi : idx (fun y => y == s) ins = (k : Int) := by unfold idx; rw [hk]
 rw [hi]
 constructor
 ·intro h
  have h4 : ins[k] = s := beq_iff_eq.1 h2
  rw [List.mem_take_iff_getElem]
  exact ⟨k, by omega, h4⟩
 ·intro h
  obtain ⟨t, ht, e⟩ := List.mem_take_iff_getElem.1 h
  refine Classical.byContradiction fun hn => ?_
  have := h3 t (by omega)
  rw [e] at this
  simp at this

set_option maxRecDepth 100000 in
set_option maxHeartbeats 4000000 in
theorem ruleErr_any (w : World) (r : Rule) (u : Value) (hu : Rd S w u r.ins) (hs : RuleSm 900000 r) :
  Calls Tryz.prog 101 #[AggR r u] w (RetE (IN (ruleCode r)) w) := by
 obtain ⟨ot, kd, wd, ins⟩ := r
 have HU : Hid (Rd S w u ins) := Lib.hid hu
 obtain ⟨a, cap, rfl, hcap, hm, hc⟩ := hu
 have h1 := fun W (s : B) (hs : s.length ≤ 900000) => isPath_any W s (by omega)
 have h2 := fun W => actError_any W kd wd ins.length (by have := hs.word; exact this)
 have hol : ot.length ≤ 900000 := hs.out
 have hil : ins.length ≤ 900000 := hs.many
 have hx : ∀ s ∈ ins, s.length ≤ 900000 := hs.ins
 have hilz : (ins.length : Int) ≤ 900000 := by omega
 have H1 := Lib.hid h1
 have H2 := Lib.hid h2
 have HC := Lib.hid hc
 have HX := Lib.hid hx
 have HOL := Lib.hid hol
 clear h1 h2 hc hx hol
 have hb0 : Ext w (w.alloc (.cells #[S ot, S kd, S wd, .slice a ins.length cap] 55 (0, 0))) := Only.alloc _ _ _
 have HB0 := Lib.hid hb0
 clear hs hm hil hb0
 unfold ruleCode
 simp only
 have hC := H1.out (w.alloc (.cells #[S ot, S kd, S wd, .slice a ins.length cap] 55 (0, 0))) ot HOL.out
 cases hp : pathOk ot with
 | false =>
  rw [if_pos rfl]
  rw [hp] at hC
  have HCC := Lib.hid hC
  clear hC
  clear hp
  go_enter Tryz.func101, Tryz.ntmps101
  go_wp2_with fail
  refine (HCC.out).mono ?_
  rintro e w1 ⟨rfl, ho⟩
  have HO := Lib.hid (HB0.out.then ho)
  clear ho
  go_wp2_with fail
  go_ret
  exact ⟨rfl, HO.out⟩
 | true =>
  rw [if_neg (by decide)]
  rw [hp] at hC
  have HCC := Lib.hid hC
  clear hC
  clear hp
  cases hq : actCode kd wd ins.length with
  | succ c =>
   rw [hq] at H2
   rw [if_pos (Nat.succ_ne_zero _)]
   have hcz : (0 : Int) < ((c + 1 : Nat) : Int) := by omega
   clear hq
   go_enter Tryz.func101, Tryz.ntmps101
   go_wp2_with fail
   refine HCC.out.mono ?_
   rintro e w1 ⟨rfl, ho⟩
   obtain ⟨bx, hbx⟩ : ∃ b, b = w.heap.size := ⟨_, rfl⟩
   have c0 := ho.cellOf ((cell_of_heap (MapKept.heap_alloc w (.cells #[S ot, S kd, S wd, .slice a ins.length cap] 55 (0, 0))).1 0).trans rfl) (fun h => h)
   have c1 := ho.cellOf ((cell_of_heap (MapKept.heap_alloc w (.cells #[S ot, S kd, S wd, .slice a ins.length cap] 55 (0, 0))).1 1).trans rfl) (fun h => h)
   have c2 := ho.cellOf ((cell_of_heap (MapKept.heap_alloc w (.cells #[S ot, S kd, S wd, .slice a ins.length cap] 55 (0, 0))).1 2).trans rfl) (fun h => h)
   have c3 := ho.cellOf ((cell_of_heap (MapKept.heap_alloc w (.cells #[S ot, S kd, S wd, .slice a ins.length cap] 55 (0, 0))).1 3).trans rfl) (fun h => h)
   rw [← hbx] at c0 c1 c2 c3
   rw [← hbx]
   have HO := Lib.hid (HB0.out.then ho)
   clear ho hbx HCC
   go_wp2_with fail
   refine (H2.out w1).mono ?_
   rintro e w2 ⟨rfl, ho⟩
   have HO2 := Lib.hid (HO.out.then ho)
   clear ho
   go_wp2_with fail
   go_ret
   exact ⟨rfl, HO2.out⟩
  | zero =>
   rw [hq] at H2
   rw [if_neg (by simp)]
   obtain ⟨R, hR⟩ : ∃ R : Nat, R = if ins.all pathOk = false then 4 else if ot ∈ ins ∨ ¬ ins.Nodup then 7 else 0 := ⟨_, rfl⟩
   rw [← hR]
   have HR := Lib.hid hR
   clear hq hR
   go_enter Tryz.func101, Tryz.ntmps101
   go_wp2_with fail
   refine HCC.out.mono ?_
   rintro e w1 ⟨rfl, ho⟩
   obtain ⟨bx, hbx⟩ : ∃ b, b = w.heap.size := ⟨_, rfl⟩
   have c0 := ho.cellOf ((cell_of_heap (MapKept.heap_alloc w (.cells #[S ot, S kd, S wd, .slice a ins.length cap] 55 (0, 0))).1 0).trans rfl) (fun h => h)
   have c1 := ho.cellOf ((cell_of_heap (MapKept.heap_alloc w (.cells #[S ot, S kd, S wd, .slice a ins.length cap] 55 (0, 0))).1 1).trans rfl) (fun h => h)
   have c2 := ho.cellOf ((cell_of_heap (MapKept.heap_alloc w (.cells #[S ot, S kd, S wd, .slice a ins.length cap] 55 (0, 0))).1 2).trans rfl) (fun h => h)
   have c3 := ho.cellOf ((cell_of_heap (MapKept.heap_alloc w (.cells #[S ot, S kd, S wd, .slice a ins.length cap] 55 (0, 0))).1 3).trans rfl) (fun h => h)
   rw [← hbx] at c0 c1 c2 c3
   rw [← hbx]
   have HO := Lib.hid (HB0.out.then ho)
   clear ho hbx HCC
   go_wp2_with fail
   refine (H2.out w1).mono ?_
   rintro e w2 ⟨rfl, ho⟩
   have e0 := ho.cellOf c0 (fun h => h)
   have e3 := ho.cellOf c3 (fun h => h)
   have HO2 := Lib.hid (HO.out.then ho)
   clear ho c0 c1 c2 c3
   go_wp2_with fail
   go_loopw [5, 6] (fun i _ wr => ∃ j : Nat, j ≤ ins.length ∧ i = .int .i64 j ∧ Hid (∀ k s, k < j → ins[k]? = some s → pathOk s = true) ∧ Hid (Ext w2 wr)) (fun i _ _ => ins.length - (intOf i).toNat)
   case atStart => exact ⟨0, Nat.zero_le _, rfl, Lib.hid (fun k s h => absurd h (Nat.not_lt_zero _)), Lib.hid (Only.refl _ _)⟩
   case round =>
    obtain ⟨j, hj, rfl, HK, HX2⟩ := hrel
    have f0 := HX2.out.cellOf e0 (fun h => h)
    have f3 := HX2.out.cellOf e3 (fun h => h)
    by_cases hlt : j < ins.length
    ·have hltz : (j : Int) < (ins.length : Int) := by omega
     obtain ⟨b, off, rfl, hcell⟩ := HC.out (by intro h; rw [h] at hlt; simp at hlt)
     obtain ⟨s, hq⟩ : ∃ y, ins[j]? = some y := ⟨_, List.getElem?_eq_getElem hlt⟩
     have d0 := HX2.out.cellOf (HO2.out.cellOf (hcell j s hq) (fun h => h)) (fun h => h)
     have hC := H1.out wr s (HX.out s (List.mem_of_getElem? hq))
     have HQ := Lib.hid hq
     clear hcell hq
     cases hps : pathOk s with
     | true =>
      rw [hps] at hC
      have HC2 := Lib.hid hC
      have HPS := Lib.hid hps
      clear hC hps
      go_wp2_with fail
      refine (HC2.out).mono ?_
      rintro e w3 ⟨rfl, ho⟩
      have HX3 := Lib.hid (HX2.out.then ho)
      clear ho
      go_wp2_with fail
      go_roundw
      case rel => exact ⟨j + 1, by omega, by go_num, Lib.hid (fun k y hk hy => by
       rcases Nat.lt_succ_iff_lt_or_eq.1 hk with h | rfl
       ·exact HK.out k y h hy
       ·rw [HQ.out] at hy; cases hy; exact HPS.out), HX3⟩
      case measure => simp [intOf]; omega
     | false =>
      rw [hps] at hC
      have hall : ins.all pathOk = false := by
       rw [List.all_eq_false]
       exact ⟨s, List.mem_of_getElem? HQ.out, by simp [hps]⟩
      have HC2 := Lib.hid hC
      have HALL := Lib.hid hall
      clear hC hall
      clear hps
      go_wp2_with fail
      refine (HC2.out).mono ?_
      rintro e w3 ⟨rfl, ho⟩
      have HX3 := Lib.hid (HO2.out.then (HX2.out.then ho))
      clear ho
      go_wp2_with fail
      go_ret
      exact ⟨by rw [HR.out, if_pos HALL.out]; rfl, HX3.out⟩
    ·have hltz : ¬ (j : Int) < (ins.length : Int) := by omega
     have hall : ins.all pathOk = true := by
      rw [List.all_eq_true]
      intro s hs
      obtain ⟨k, hk⟩ := List.getElem?_of_mem hs
      exact HK.out k s (by have := (List.getElem?_eq_some_iff.1 hk).1; omega) hk
     have HO3 := Lib.hid (HO2.out.then HX2.out)
     have hR2 := HR.out
     rw [hall, if_neg (by decide)] at hR2
     have HR2 := Lib.hid hR2
     clear hall hlt HK e0 e3 HX2 hR2 HR
     go_wp2_with fail
     obtain ⟨wo, rfl⟩ : ∃ wo : World, wo = wr := ⟨_, rfl⟩
     go_loopw [7] (fun i wq => ∃ j : Nat, j ≤ ins.length ∧ i = .int .i64 j ∧ Hid (ot ∉ ins.take j ∧ (ins.take j).Nodup) ∧ Hid (Ext wo wq)) (fun i _ => ins.length - (intOf i).toNat)
     case atStart => exact ⟨0, Nat.zero_le _, rfl, Lib.hid ⟨by simp, by simp⟩, Lib.hid (Only.refl _ _)⟩
     case round =>
      obtain ⟨j, hj, rfl, HK, HX2⟩ := hrel
      have g0 := HX2.out.cellOf f0 (fun h => h)
      have g3 := HX2.out.cellOf f3 (fun h => h)
      by_cases hlt : j < ins.length
      ·have hltz : (j : Int) < (ins.length : Int) := by omega
       have hj0 : (0 : Int) ≤ (j : Int) := by omega
       have hjn : ¬ (j : Int) < 0 := by omega
       have hjl : ¬ (ins.length : Int) ≤ (j : Int) := by omega
       obtain ⟨b, off, rfl, hcell⟩ := HC.out (by intro h; rw [h] at hlt; simp at hlt)
       obtain ⟨s, hq⟩ : ∃ y, ins[j]? = some y := ⟨_, List.getElem?_eq_getElem hlt⟩
       have d0 := HX2.out.cellOf (HO3.out.cellOf (hcell j s hq) (fun h => h)) (fun h => h)
       have HQ := Lib.hid hq
       have HCT := Lib.hid (fun n => indexRef_any (wr.drewN n) _ ins s ((HU.out.ext (HO3.out.then HX2.out)).ext (Only.drewN _ _ n)))
       have hit := idx_take hq
       clear hcell hq
       cases heq : s == ot with
       | true =>
        have hbad : ot ∈ ins ∨ ¬ ins.Nodup := .inl (by rw [← beq_iff_eq.1 heq]; exact List.mem_of_getElem? HQ.out)
        have HBAD := Lib.hid hbad
        clear hbad hit HCT
        go_wp2_with fail
        go_quiet (fail)
        go_wp2_with fail
        go_ret
        exact ⟨by rw [HR2.out, if_pos HBAD.out]; rfl, HO3.out.then (HX2.out.thenDrewN _)⟩
       | false =>
        have hne : s ≠ ot := beq_eq_false_iff_ne.1 heq
        generalize idx (fun y => y == s) ins = z at HCT hit
        by_cases hct : s ∈ ins.take j
        ·have hbad : ot ∈ ins ∨ ¬ ins.Nodup := .inr fun h => by
          obtain ⟨k, hk⟩ := List.getElem?_of_mem hct
          rw [List.getElem?_take] at hk
          split at hk
          ·rename_i hkj
           have := nodup_inj h hk HQ.out
           omega
          ·cases hk
         rw [decide_eq_true hct] at hit
         have hzl : z < (j : Int) := of_decide_eq_true hit
         have HBAD := Lib.hid hbad
         clear hbad hct hne hit
         go_wp2_with fail
         go_quiet ((go_at_call 89; exact Calls.quiet_of_same ((HCT.out _).mono fun _ _ h => ⟨h.1, h.2.symm⟩)))
         go_wp2_with fail
         go_ret
         exact ⟨by rw [HR2.out, if_pos HBAD.out]; rfl, HO3.out.then (HX2.out.thenDrewN _)⟩
        ·have hnew : ot ∉ ins.take (j + 1) ∧ (ins.take (j + 1)).Nodup := by
          refine ⟨fun h => ?_, take_new HQ.out HK.out.2 hct⟩
          rw [List.take_add_one, HQ.out] at h
          rcases List.mem_append.1 h with h | h
          ·exact HK.out.1 h
          ·rw [Option.toList_some, List.mem_singleton] at h; exact hne h.symm
         rw [decide_eq_false hct] at hit
         have hzl : ¬ z < (j : Int) := of_decide_eq_false hit
         have HNEW := Lib.hid hnew
         clear hct hne hit hnew
         go_wp2_with fail
         go_quiet ((go_at_call 89; exact Calls.quiet_of_same ((HCT.out _).mono fun _ _ h => ⟨h.1, h.2.symm⟩)))
         go_wp2_with fail
         go_roundw
         case rel => exact ⟨j + 1, by omega, by go_num, HNEW, Lib.hid (HX2.out.thenDrewN _)⟩
         case measure => simp [intOf]; omega
      ·have hltz : ¬ (j : Int) < (ins.length : Int) := by omega
       have hend : R = 0 := by
        rw [HR2.out]
        have hk := HK.out
        rw [List.take_of_length_le (by omega)] at hk
        exact if_neg (fun h => h.elim hk.1 (fun h => h hk.2))
       have HEND := Lib.hid hend
       clear hend
       go_wp2_with fail
       go_ret
       exact ⟨by rw [HEND.out]; rfl, HO3.out.then HX2.out⟩

abbrev AggF (f : Nat × Int) : Value := .agg #[IN f.1, I f.2]
set_option maxRecDepth 100000 in
set_option maxHeartbeats 2000000 in
theorem refBare_any (w : World) (c : Nat) : Calls Tryz.prog 28 #[I c] w (RetE (AggF (c, -1)) w) := by
 go_enter Tryz.func28, Tryz.ntmps28
 go_wp2_with fail
 refine bodyPost_ret (v := AggF (c, -1)) ?_ rfl ⟨rfl, Only.alloc _ _ _⟩
 have hres : Tryz.f28.results = #[.cell 2 37] := by kernel_rfl
 simp only [results, hres]
 go_simp
set_option maxRecDepth 100000 in
set_option maxHeartbeats 2000000 in
theorem refFine_any (w : World) : Calls Tryz.prog 102 #[] w (RetE (AggF (0, -1)) w) := by
 go_enter Tryz.func102, Tryz.ntmps102
 go_wp2_with fail
 refine bodyPost_ret (v := AggF (0, -1)) ?_ rfl ⟨rfl, Only.alloc _ _ _⟩
 have hres : Tryz.f102.results = #[.cell 0 37] := by kernel_rfl
 simp only [results, hres]
 go_simp
theorem res_cells {w : World} {r : Nat} {x y : Value} {e : TypeId} {fr : Nat × Nat} (h : w.heap[r]? = some (.cells #[x, y] e fr)) (u v : Value) : ((w.setCell ⟨r, 0, none⟩ u).setCell ⟨r, 1, none⟩ v).cell? ⟨r, 0, none⟩ = some u ∧ ((w.setCell ⟨r, 0, none⟩ u).setCell ⟨r, 1, none⟩ v).cell? ⟨r, 1, none⟩ = some v := by
 have h1 := heap_setCell_same h 0 u
 have h2 := heap_setCell_same h1 1 v
 exact ⟨(cell_of_heap h2 0).trans rfl, (cell_of_heap h2 1).trans rfl⟩
structure ResAt (w wr : World) : Prop where
 ext : Ext w wr
 cell : wr.heap[w.heap.size]? = some (.cells #[.int .i64 0, .int .i64 0] 37 (0, 0))
theorem ResAt.grow {w wr w' : World} (h : ResAt w wr) (ho : Ext wr w') : ResAt w w' := ⟨h.ext.then ho, ho.heapOf h.cell (fun h => h)⟩
set_option maxRecDepth 100000 in
set_option maxHeartbeats 8000000 in
theorem refSheet_any (w : World) (l : List Rule) (v : Value) (hv : RdR w v l) (hs : ∀ r ∈ l, RuleSm 900000 r) :
  Calls Tryz.prog 25 #[v] w (RetE (AggF (sheetFault l)) w) := by
 have HRD := Lib.hid hv
 obtain ⟨a, cap, rfl, hcap, hml, hc⟩ := hv
 have hlm : (l.length : Int) ≤ 9223372036854775807 := by unfold maxLen at hml; omega
 have hcapz : (l.length : Int) ≤ (cap : Int) := by omega
 have HC := Lib.hid hc
 have HS := Lib.hid hs
 clear hc hs
 obtain ⟨F, hF⟩ : ∃ F, F = sheetFault l := ⟨_, rfl⟩
 rw [← hF]
 have HF := Lib.hid hF
 have HR0 : Hid (ResAt w (w.alloc (.cells #[.int .i64 0, .int .i64 0] 37 (0, 0)))) := Lib.hid ⟨Only.alloc _ _ _, (MapKept.heap_alloc w _).1⟩
 clear hF
 by_cases h40 : 40 < l.length
 ·have hz : (40 : Int) < (l.length : Int) := by omega
  have HF2 : Hid (F = (2, -1)) := Lib.hid (by rw [HF.out]; exact if_pos h40)
  clear h40
  go_enter Tryz.func25, Tryz.ntmps25
  go_wp2_with fail
  refine (refBare_any _ 2).mono ?_
  rintro e w1 ⟨rfl, ho⟩
  have hr1 := HR0.out.grow ho
  have f0 := free_of_heap hr1.cell 0
  have f1 := free_of_heap hr1.cell 1
  have r0 := (cell_of_heap hr1.cell 0).trans (rfl : _ = some (Value.int .i64 0))
  have r1 := (cell_of_heap hr1.cell 1).trans (rfl : _ = some (Value.int .i64 0))
  have HX1 := Lib.hid hr1.ext
  have HRC := Lib.hid hr1.cell
  clear ho hr1 HR0
  go_wp2_with fail
  refine bodyPost_ret (v := AggF F) ?_ rfl ⟨rfl, ext_setS1 (ext_setS1 HX1.out _ _ (Nat.le_refl _)) _ _ (Nat.le_refl _)⟩
  have hres : Tryz.f25.results = #[.cell 2 37] := by kernel_rfl
  have rc := fun u v => res_cells HRC.out u v
  have rc0 := fun u v => (rc u v).1
  have rc1 := fun u v => (rc u v).2
  rw [HF2.out]
  clear rc
  simp only [results, hres]
  go_simp
 ·have hz : ¬ (40 : Int) < (l.length : Int) := by omega
  have hl40 : l.length ≤ 40 := by omega
  clear h40
  go_enter Tryz.func25, Tryz.ntmps25
  go_wp2_with fail
  go_loopw [3, 4, 5] (fun i _ _ wr => ∃ j : Nat, j ≤ l.length ∧ i = .int .i64 j ∧ Hid (RightTo l j) ∧ Hid (ResAt w wr)) (fun i _ _ _ => l.length - (intOf i).toNat)
  case atStart => exact ⟨0, Nat.zero_le _, rfl, Lib.hid (RightTo.zero l), HR0⟩
  case round =>
   clear HR0
   obtain ⟨j, hj, rfl, HR, HX⟩ := hrel
   by_cases hlt : j < l.length
   ·have hltz : (j : Int) < (l.length : Int) := by omega
    have hj0 : (0 : Int) ≤ (j : Int) := by omega
    have hjn : ¬ (j : Int) < 0 := by omega
    have hjl : ¬ (l.length : Int) ≤ (j : Int) := by omega
    obtain ⟨b, off, rfl, hcell⟩ := HC.out (by intro h; rw [h] at hlt; simp at hlt)
    have HCELL := Lib.hid hcell
    obtain ⟨r, hq⟩ : ∃ y, l[j]? = some y := ⟨_, List.getElem?_eq_getElem hlt⟩
    obtain ⟨u, hu, c0, c1, c2, c3⟩ := hcell j r hq
    have d0 := HX.out.ext.cellOf c0 (fun h => h)
    have d1 := HX.out.ext.cellOf c1 (fun h => h)
    have d2 := HX.out.ext.cellOf c2 (fun h => h)
    have d3 := HX.out.ext.cellOf c3 (fun h => h)
    have HC0 := Lib.hid c0
    have HRE := Lib.hid (ruleErr_any wr r u (hu.ext HX.out.ext) (HS.out r (List.mem_of_getElem? hq)))
    have HFL := Lib.hid (HR.out.fault hl40 hq)
    have HQ := Lib.hid hq
    have HLT := Lib.hid hlt
    obtain ⟨au, cu, hua, _, _, _⟩ := hu
    generalize hun : r.ins.length = n at hua
    clear hcell hq c0 c1 c2 c3 hun hlt
    subst hua
    cases hrc : ruleCode r with
    | succ c =>
     rw [hrc] at HRE
     rw [hrc, if_pos (Nat.succ_ne_zero _)] at HFL
     have HF2 : Hid (F = (c + 1, (j : Int))) := Lib.hid (by rw [HF.out]; exact HFL.out)
     have hcz : ((c + 1 : Nat) : Int) ≠ 0 := by omega
     have hcb : (((c + 1 : Nat) : Int) == 0) = false := beq_eq_false_iff_ne.2 hcz
     have hcp : (0 : Int) < ((c + 1 : Nat) : Int) := by omega
     clear hrc HFL
     go_wp2_with fail
     refine HRE.out.mono ?_
     rintro e w2 ⟨rfl, ho⟩
     have HX2 := Lib.hid (HX.out.grow ho)
     clear ho d0 d1 d2 d3
     go_wp2_with fail
     go_loopw [4, 5] (fun e i wy => e = IN (c + 1) ∧ i = .int .i64 0 ∧ wy = w2) (fun _ _ _ => 0)
     case atStart => exact ⟨rfl, rfl, rfl⟩
     case round =>
      obtain ⟨rfl, rfl, hw⟩ := hrel
      subst hw
      have HRC := Lib.hid HX2.out.cell
      have f0 := free_of_heap HX2.out.cell 0
      have f1 := free_of_heap HX2.out.cell 1
      have r0 := (cell_of_heap HX2.out.cell 0).trans (rfl : _ = some (Value.int .i64 0))
      have r1 := (cell_of_heap HX2.out.cell 1).trans (rfl : _ = some (Value.int .i64 0))
      by_cases hj1 : (0 : Int) < (j : Int)
      all_goals
       go_wp2_with fail
       refine bodyPost_ret (v := AggF F) ?_ rfl ⟨rfl, ext_setS1 (ext_setS1 HX2.out.ext _ _ (Nat.le_refl _)) _ _ (Nat.le_refl _)⟩
       have hres : Tryz.f25.results = #[.cell 2 37] := by kernel_rfl
       have rc := fun u v => res_cells HRC.out u v
       have rc0 := fun u v => (rc u v).1
       have rc1 := fun u v => (rc u v).2
       rw [HF2.out]
       clear rc
       simp only [results, hres]
       go_simp
    | zero =>
     rw [hrc] at HRE
     rw [hrc, if_neg (by simp)] at HFL
     have HRC := Lib.hid hrc
     clear hrc
     go_wp2_with fail
     refine HRE.out.mono ?_
     rintro e w2 ⟨rfl, ho⟩
     have HX2 := Lib.hid (HX.out.grow ho)
     clear ho d0 d1 d2 d3 HX
     go_wp2_with fail
     go_loopw [4, 5] (fun e i wy => ∃ (k : Nat) (b : Bool), k ≤ j ∧ e = IN (if b then 7 else 0) ∧ i = .int .i64 k ∧ Hid (b = decide (r.out ∈ (l.take k).map Rule.out)) ∧ Hid (ResAt w wy)) (fun _ i _ => j - (intOf i).toNat)
     case atStart => exact ⟨0, false, Nat.zero_le _, rfl, rfl, Lib.hid (by simp), HX2⟩
     case round =>
      clear HX2
      obtain ⟨k, b1, hk, rfl, rfl, HB, HX2⟩ := hrel
      cases b1 with
      | true =>
       have hm : r.out ∈ (l.take j).map Rule.out := by
        have := of_decide_eq_true HB.out.symm
        obtain ⟨x, hx, e⟩ := List.mem_map.1 this
        exact List.mem_map.2 ⟨x, (List.take_sublist_take_left hk).subset hx, e⟩
       have HF2 : Hid (F = (7, (j : Int))) := Lib.hid (by rw [HF.out, HFL.out, if_pos hm])
       have HRC := Lib.hid HX2.out.cell
       have f0 := free_of_heap HX2.out.cell 0
       have f1 := free_of_heap HX2.out.cell 1
       have r0 := (cell_of_heap HX2.out.cell 0).trans (rfl : _ = some (Value.int .i64 0))
       have r1 := (cell_of_heap HX2.out.cell 1).trans (rfl : _ = some (Value.int .i64 0))
       have hkj : ¬ (j : Int) < (k : Int) := by omega
       clear hm
       by_cases hkl : (k : Int) < (j : Int)
       all_goals
        go_wp2_with fail
        refine bodyPost_ret (v := AggF F) ?_ rfl ⟨rfl, ext_setS1 (ext_setS1 HX2.out.ext _ _ (Nat.le_refl _)) _ _ (Nat.le_refl _)⟩
        have hres : Tryz.f25.results = #[.cell 2 37] := by kernel_rfl
        have rc := fun u v => res_cells HRC.out u v
        have rc0 := fun u v => (rc u v).1
        have rc1 := fun u v => (rc u v).2
        rw [HF2.out]
        clear rc
        simp only [results, hres]
        go_simp
      | false =>
       by_cases hkl : k < j
       ·have hkz : (k : Int) < (j : Int) := by omega
        have hk0 : (0 : Int) ≤ (k : Int) := by omega
        have hk1 : ¬ (k : Int) < 0 := by omega
        have hk2 : ¬ (l.length : Int) ≤ (k : Int) := by have := HLT.out; omega
        have hk3 : (k : Int) < (l.length : Int) := by have := HLT.out; omega
        obtain ⟨r2, hq2⟩ : ∃ y, l[k]? = some y := ⟨_, List.getElem?_eq_getElem (by have := HLT.out; omega)⟩
        obtain ⟨u2, _, e0, _⟩ := HCELL.out k r2 hq2
        have d0 := HX2.out.ext.cellOf e0 (fun h => h)
        have d1 := HX2.out.ext.cellOf HC0.out (fun h => h)
        have HKL := Lib.hid hkl
        have HTK : Hid ((l.take (k + 1)).map Rule.out = (l.take k).map Rule.out ++ [r2.out]) := Lib.hid (by rw [List.take_add_one, hq2]; simp)
        have hnb : r.out ∉ (l.take k).map Rule.out := of_decide_eq_false HB.out.symm
        have HNB := Lib.hid hnb
        clear hq2 e0 hkl hnb
        cases heq : r2.out == r.out with
        | true =>
         have HB2 : Hid (true = decide (r.out ∈ (l.take (k + 1)).map Rule.out)) := Lib.hid (by
          rw [decide_eq_true]
          rw [HTK.out, ← beq_iff_eq.1 heq]
          simp)
         go_wp2_with fail
         go_quiet (fail)
         go_wp2_with fail
         go_roundw
         case rel => exact ⟨k + 1, true, HKL.out, rfl, by go_num, HB2, Lib.hid (HX2.out.grow (Only.drewN _ _ _))⟩
         case measure => have := HKL.out; simp [intOf]; omega
        | false =>
         have HB2 : Hid (false = decide (r.out ∈ (l.take (k + 1)).map Rule.out)) := Lib.hid (by
          rw [decide_eq_false]
          rw [HTK.out]
          intro hm
          rcases List.mem_append.1 hm with hm | hm
          ·exact HNB.out hm
          ·rw [List.mem_singleton] at hm
           exact beq_eq_false_iff_ne.1 heq hm.symm)
         go_wp2_with fail
         go_quiet (fail)
         go_wp2_with fail
         go_roundw
         case rel => exact ⟨k + 1, false, HKL.out, rfl, by go_num, HB2, Lib.hid (HX2.out.grow (Only.drewN _ _ _))⟩
         case measure => have := HKL.out; simp [intOf]; omega
       ·have hkz : ¬ (k : Int) < (j : Int) := by omega
        obtain rfl : k = j := by omega
        have hm : r.out ∉ (l.take k).map Rule.out := of_decide_eq_false HB.out.symm
        have HN := Lib.hid (HR.out.next HQ.out HRC.out hm)
        clear hm
        go_wp2_with fail
        go_roundw
        case rel => exact ⟨k + 1, HLT.out, by go_num, HN, HX2⟩
        case measure => have := HLT.out; simp [intOf]; omega
   ·have hltz : ¬ (j : Int) < (l.length : Int) := by omega
    obtain rfl : j = l.length := by omega
    have HF2 : Hid (F = (0, -1)) := Lib.hid (by rw [HF.out]; exact HR.out.all hl40)
    go_wp2_with fail
    refine (refFine_any _).mono ?_
    rintro e w1 ⟨rfl, ho⟩
    have hr1 := HX.out.grow ho
    have f0 := free_of_heap hr1.cell 0
    have f1 := free_of_heap hr1.cell 1
    have r0 := (cell_of_heap hr1.cell 0).trans (rfl : _ = some (Value.int .i64 0))
    have r1 := (cell_of_heap hr1.cell 1).trans (rfl : _ = some (Value.int .i64 0))
    have HX1 := Lib.hid hr1.ext
    have HRC := Lib.hid hr1.cell
    clear ho hr1 HX
    go_wp2_with fail
    refine bodyPost_ret (v := AggF F) ?_ rfl ⟨rfl, ext_setS1 (ext_setS1 HX1.out _ _ (Nat.le_refl _)) _ _ (Nat.le_refl _)⟩
    have hres : Tryz.f25.results = #[.cell 2 37] := by kernel_rfl
    have rc := fun u v => res_cells HRC.out u v
    have rc0 := fun u v => (rc u v).1
    have rc1 := fun u v => (rc u v).2
    rw [HF2.out]
    clear rc
    simp only [results, hres]
    go_simp
end Go.Proofs.YtnmhaipjfpongacGreatDoor

namespace Go.Proofs.YtnmhaipjfpongacGreatDoor
open Go.ChangeShapes Go.WideShapes Go.ChangeAt Go.RowKit

theorem code_at (w : World) (P : Nat → Addr) (hs : Sents w P) (v : Value) (f : Nat × Int) (he : ErrAt w P f v) (h12 : f.1 ≤ 12) (h0 : f.1 = 0 → f.2 = -1) : ∀ w1, Ext w w1 → Calls Tryz.prog 96 #[v] w1 (CodeIs w1 (f.1 : Int) f.2) := fun w1 hx => by
 rcases he with ⟨e0, rfl⟩ | ⟨e0, e1, rfl⟩ | ⟨e0, _, b, rfl, hb⟩
 ·have := code_nil w1
  rw [h0 e0, e0]
  exact this
 ·have hi : f.1 - 1 < 12 := by omega
  have hs1 := hs.ext hx
  obtain ⟨c, t, hr⟩ := hs1.row (f.1 - 1) hi
  have h := code_err w1 P hs1 (P (f.1 - 1)) (f.1 - 1) (by omega) (fun _ => rfl) (fun j hj hne e => hne (hs1.apart j (f.1 - 1) hj hi e)) c t hr
  rw [if_pos hi, show ((f.1 - 1 : Nat) : Int) + 1 = (f.1 : Int) by omega] at h
  rw [e1]
  exact h
 ·have hb1 := hx.heapOf hb (fun h => h)
  have h := code_fault w1 P (hs.ext hx) b (f.1 - 1) f.2 (by omega) ((cell_of_heap hb1 0).trans rfl) ((cell_of_heap hb1 1).trans rfl)
  rw [show ((f.1 - 1 : Nat) : Int) + 1 = (f.1 : Int) by omega] at h
  exact h

end Go.Proofs.YtnmhaipjfpongacGreatDoor

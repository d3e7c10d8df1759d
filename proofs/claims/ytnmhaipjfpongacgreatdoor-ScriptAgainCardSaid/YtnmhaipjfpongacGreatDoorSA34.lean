/- Texts of this seat laid together for one claim: Z23, Bm6, Z27. No condition of its own: what each proves stands with its theorems. -/
import Derived.Test.YtnmhaipjfpongacGreatDoorSA25
import Derived.Test.YtnmhaipjfpongacGreatDoorSA33
import Derived.Test.YtnmhaipjfpongacGreatDoorSA29
import Derived.Test.YtnmhaipjfpongacGreatDoorSA31
import Derived.Test.YtnmhaipjfpongacGreatDoorSA32
import Derived.Test.YtnmhaipjfpongacGreatDoorSA30
namespace Go.Proofs.YtnmhaipjfpongacGreatDoor
open Go.ChangeShapes Go.WideShapes Go.ChangeAt Go.RowKit

structure KeepsRun {σ : Type} (A : List (Nat × Obj) → World → σ → Prop) (bs : σ → BS) (step : σ → Nat → σ) (P : Nat → Addr) (base : Nat) (E : BE) (K : BK) : Prop where
 bld : ∀ X w x, A X w x → BldAt w P base E K (bs x) ∧ BInv E (bs x)
 ext : ∀ X w x w', A X w x → Ext w w' → A X w' x
 add : ∀ X w x w' ob, A X w x → Ext w w' → w'.heap[w.heap.size]? = some ob → A ((w.heap.size, ob) :: X) w' x
 kept : ∀ X w x, A X w x → ∀ y ∈ X, w.heap[y.1]? = some y.2
 drop : ∀ y X w x w', A (y :: X) w x → Only (fun i => i = y.1) w w' → (∀ z ∈ X, z.1 ≠ y.1) → A X w' x
 run : ∀ X w x, A X w x → ∀ i ∈ E.sm, readyP E (bs x) i = true → Calls Tryz.prog 56 #[PTR K.b, IN i] w (fun e w' => ∃ b, e = .returned (.tuple #[.bool b, .nilIface]) ∧ A X w' (step x i))
 ran : ∀ x i, i ∈ E.sm → readyP E (bs x) i = true → ∀ k, ranP (bs (step x i)) k = (decide (k = i) || ranP (bs x) k)
inductive AllTo {σ : Type} (E : BE) (bs : σ → BS) (step : σ → Nat → σ) : σ → σ → Prop
 | stop {x : σ} : readyL E (bs x) = [] → AllTo E bs step x x
 | more {x y : σ} {i : Nat} {R : List Nat} : readyL E (bs x) = i :: R → AllTo E bs step (step x i) y → AllTo E bs step x y
def AllPost {σ : Type} (A : List (Nat × Obj) → World → σ → Prop) (bs : σ → BS) (step : σ → Nat → σ) (E : BE) (X : List (Nat × Obj)) (x0 : σ) (e : Ending) (w' : World) : Prop := ∃ x, e = .returned (.agg (cntV (bs x) E.sm)) ∧ A X w' x ∧ (∀ i ∈ E.sm, (bs x).st i ≠ 1) ∧ AllTo E bs step x0 x

set_option maxRecDepth 100000 in
set_option maxHeartbeats 4000000 in
theorem buildAll_any {σ : Type} (A : List (Nat × Obj) → World → σ → Prop) (bs : σ → BS) (step : σ → Nat → σ) (P : Nat → Addr) (base : Nat) (E : BE) (K : BK) (o : List Nat) (is : Nat → Bool) (X : List (Nat × Obj)) (w : World) (x0 : σ) (hA : KeepsRun A bs step P base E K) (h : A X w x0) (hW : BWell E o is) (hL : BLens E) :
  Calls Tryz.prog 59 #[PTR K.b] w (AllPost A bs step E X x0) := by
 have HA := Lib.hid hA
 have HW := Lib.hid hW
 have HL := Lib.hid hL
 have HXN : Hid (∀ z ∈ X, z.1 ≠ w.heap.size) := Lib.hid (fun z hz e => by
  have h1 := (Array.getElem?_eq_some_iff.1 (hA.kept X w x0 h z hz)).1
  omega)
 have h1 := hA.add X w x0 (w.alloc (.cells #[.int .i64 0, .int .i64 0, .int .i64 0, .int .i64 0] 70 (0, 0))) (.cells #[.int .i64 0, .int .i64 0, .int .i64 0, .int .i64 0] 70 (0, 0)) h (Only.alloc _ _ _) (MapKept.heap_alloc w _).1
 have HRL := Lib.hid (readyL_any (hA.bld _ _ x0 h1).1 hW hL.many hL.few)
 have H0 := Lib.hid h1
 clear hA h hW hL h1
 go_enter Tryz.func59, Tryz.ntmps59
 go_wp2_with fail
 refine HRL.out.mono ?_
 rintro e w1 ⟨v1, rfl, hr1, ho1⟩
 have HR1 : Hid (Rd IN w1 v1 (readyL E (bs x0))) := Lib.hid hr1.rd
 have HA1 := Lib.hid (HA.out.ext _ _ _ _ H0.out ho1)
 clear hr1 ho1 HRL H0
 go_wp2_with fail
 go_loopg [3] (E.sm.length - ranN E (bs x0)) (fun g v wr => ∃ (x : σ) (qv : Value), qv = v ∧ E.sm.length - ranN E (bs x) = g ∧ Hid (A ((w.heap.size, (.cells #[.int .i64 0, .int .i64 0, .int .i64 0, .int .i64 0] 70 (0, 0))) :: X) wr x) ∧ Hid (Rd IN wr qv (readyL E (bs x))) ∧ Hid (∀ y, AllTo E bs step x y → AllTo E bs step x0 y))
 case atStart => exact ⟨x0, _, rfl, rfl, HA1, HR1, Lib.hid (fun _ h => h)⟩
 case round =>
  clear HA1 HR1
  obtain ⟨x, qv, rfl, hg, HA1, HR1, HTO⟩ := hrel
  have HG := Lib.hid hg
  clear hg
  obtain ⟨R, hR⟩ : ∃ R, R = readyL E (bs x) := ⟨_, rfl⟩
  rw [← hR] at HR1
  have HRQ := Lib.hid hR
  clear hR
  obtain ⟨a, c, rfl, _, _, hc⟩ := HR1.out
  rcases R with _ | ⟨i, R⟩
  ·have hov := HW.out.over (HA.out.bld _ _ _ HA1.out).2 (fun i hi => by
    cases hr : readyP E (bs x) i with
    | false => rfl
    | true =>
     have : i ∈ readyL E (bs x) := List.mem_filter.2 ⟨hi, hr⟩
     rw [← HRQ.out] at this
     cases this)
   have HOV := Lib.hid hov
   have HEND := Lib.hid (HTO.out x (.stop HRQ.out.symm))
   have HCN := Lib.hid (countB_any wr P base E K (bs x) (HA.out.bld _ _ _ HA1.out).1 HW.out.rise HL.out.few (HA.out.bld _ _ _ HA1.out).2)
   have hlz : ¬ (0 : Int) < (([] : List Nat).length : Int) := by simp
   clear hc hov
   go_wp2_with fail
   refine HCN.out.mono ?_
   rintro e w5 ⟨rfl, ho5⟩
   have ha5 := HA.out.ext _ _ _ _ HA1.out ho5
   have hrc := HA.out.kept _ _ _ ha5 _ (.head _)
   have HRC := Lib.hid hrc
   have f0 := free_of_heap hrc 0
   have f1 := free_of_heap hrc 1
   have f2 := free_of_heap hrc 2
   have f3 := free_of_heap hrc 3
   have r0 := (cell_of_heap hrc 0).trans (rfl : _ = some (Value.int .i64 0))
   have r1 := (cell_of_heap hrc 1).trans (rfl : _ = some (Value.int .i64 0))
   have r2 := (cell_of_heap hrc 2).trans (rfl : _ = some (Value.int .i64 0))
   have r3 := (cell_of_heap hrc 3).trans (rfl : _ = some (Value.int .i64 0))
   have HA5 := Lib.hid ha5
   clear ho5 hrc ha5 HCN
   go_wp2_with fail
   refine bodyPost_ret (v := .agg (cntV (bs x) E.sm)) ?_ rfl ⟨x, rfl, HA.out.drop (w.heap.size, (.cells #[.int .i64 0, .int .i64 0, .int .i64 0, .int .i64 0] 70 (0, 0))) X _ _ _ HA5.out ((((Only.set (p := fun i => i = w.heap.size) _ rfl).then (Only.set (p := fun i => i = w.heap.size) _ rfl)).then (Only.set (p := fun i => i = w.heap.size) _ rfl)).then (Only.set (p := fun i => i = w.heap.size) _ rfl)) HXN.out, HOV.out, HEND.out⟩
   have hres : Tryz.f59.results = #[.cell 2 70] := by kernel_rfl
   have h1 := heap_setCell_same HRC.out 0 (IN (E.sm.countP (cRan (bs x))))
   have h2 := heap_setCell_same h1 1 (IN (E.sm.countP (cHit (bs x))))
   have h3 := heap_setCell_same h2 2 (IN (E.sm.countP (cFail (bs x))))
   have h4 := heap_setCell_same h3 3 (IN (E.sm.countP (cLeft (bs x))))
   have e0 := (cell_of_heap h4 0).trans (rfl : _ = some (IN (E.sm.countP (cRan (bs x)))))
   have e1 := (cell_of_heap h4 1).trans (rfl : _ = some (IN (E.sm.countP (cHit (bs x)))))
   have e2 := (cell_of_heap h4 2).trans (rfl : _ = some (IN (E.sm.countP (cFail (bs x)))))
   have e3 := (cell_of_heap h4 3).trans (rfl : _ = some (IN (E.sm.countP (cLeft (bs x)))))
   clear h1 h2 h3 h4 f0 f1 f2 f3 r0 r1 r2 r3
   simp only [results, hres]
   go_simp
  ·obtain ⟨b, off, rfl, hcell⟩ := hc (by simp)
   have d0 := hcell 0 i rfl
   rw [Nat.add_zero] at d0
   have hri : i ∈ readyL E (bs x) := by rw [← HRQ.out]; exact .head _
   obtain ⟨him, hrp⟩ := List.mem_filter.1 hri
   have HRUN := Lib.hid (HA.out.run _ wr x HA1.out i him hrp)
   have hme : E.sm.length - ranN E (bs (step x i)) < E.sm.length - ranN E (bs x) := by
    have h1 := ranN_more HW.out.nodup him (ready_not_ran hrp) (HA.out.ran x i him hrp)
    have h2 := ranN_le E (bs (step x i))
    omega
   have HME := Lib.hid hme
   have HTO2 : Hid (∀ y, AllTo E bs step (step x i) y → AllTo E bs step x0 y) := Lib.hid (fun y hy => HTO.out y (.more HRQ.out.symm hy))
   have hlz : (0 : Int) < ((i :: R).length : Int) := by simp
   clear hcell hri him hrp hme
   go_wp2_with fail
   refine HRUN.out.mono ?_
   rintro e w5 ⟨bb, rfl, hA5⟩
   have HA5 := Lib.hid hA5
   have HRL := Lib.hid (readyL_any (HA.out.bld _ _ _ hA5).1 HW.out HL.out.many HL.out.few)
   clear hA5 HRUN d0
   go_wp2_with fail
   refine HRL.out.mono ?_
   rintro e w6 ⟨v6, rfl, hr6, ho6⟩
   have HR6 : Hid (Rd IN w6 v6 (readyL E (bs (step x i)))) := Lib.hid hr6.rd
   have HA6 := Lib.hid (HA.out.ext _ _ _ _ HA5.out ho6)
   clear hr6 ho6
   go_wp2_with fail
   go_roundg (E.sm.length - ranN E (bs (step x i)))
   case measure => rw [← HG.out]; exact HME.out
   case rel => exact ⟨step x i, _, rfl, rfl, HA6, HR6, HTO2⟩

noncomputable def cacheZ (E : BE) (many : Nat) (L : FL) (s : BS) (z : Int) : FL := match (runZ E (some (many, L)) s z).2.2 with
 | some (_, L') => L'
 | none => L
theorem runZ_cs (E : BE) (many : Nat) (L : FL) (s : BS) (z : Int) : (runZ E (some (many, L)) s z).2.2 = some (many, cacheZ E many L s z) := by
 have h : ∃ L', (runZ E (some (many, L)) s z).2.2 = some (many, L') := by
  unfold runZ runP
  split
  ·split
   ·exact ⟨_, rfl⟩
   ·split
    ·exact ⟨_, rfl⟩
    ·split
     ·exact ⟨_, rfl⟩
     ·split
      ·exact ⟨_, rfl⟩
      ·simp only
       split <;> exact ⟨_, rfl⟩
  ·exact ⟨_, rfl⟩
 obtain ⟨L', h⟩ := h
 unfold cacheZ
 rw [h]
section
variable {w w' : World} {P : Nat → Addr} {base : Nat} {E : BE} {K : BK} {s : BS} {o : List Nat} {is : Nat → Bool} {cb cmb : Nat} {sv : Value} {many : Nat} {L : FL}
theorem runC_any (h : BldAt w P base E K s) (hc : K.cp = PTR cb) (hC : CchAt w E K cb cmb sv many L) (hW : BWell E o is) (hI : BInv E s) (hL : BLens E) {w0 : World} (hx0 : Ext w0 w) (hlo : ∀ j, InSteps E K j ∨ InCache cb cmb sv j → w0.heap.size ≤ j) (hV : PV w0 P [2, 4, 5, 9, 10, 11]) (z : Int) :
  Calls Tryz.prog 56 #[PTR K.b, I z] w (RunCPost w P base E K cb cmb sv many (cacheZ E many L s z) (runZ E (some (many, L)) s z).1 (runZ E (some (many, L)) s z).2.1) := by
 have hVw := hV.ext hx0
 by_cases hz : ∃ i : Nat, z = (i : Int) ∧ i ∈ E.sm
 ·obtain ⟨i, rfl, hi⟩ := hz
  unfold cacheZ
  rw [runZ_in hi]
  by_cases h1 : s.st i = 1
  ·cases hr : readyP E s i with
   | false =>
    have e : runP E (some (many, L)) s i = ((false, 11), s, some (many, L)) := by
     unfold runP
     rw [if_neg (by simpa using hi), if_neg (by simpa using h1), if_pos hr]
    rw [e]
    exact (run_turn h hW hL (hVw.errs.sub (by decide)) hi h1 hr).mono fun _ _ h => h.cache hC
   | true =>
    have e : runP E (some (many, L)) s i = if (E.ans i).2 ≠ 0 then ((false, 0), failP E s i, some (many, L)) else match L.lookup (E.key i) with
      | some _ => ((true, 0), doneP s i true, some (many, getL L (E.key i)))
      | none => ((false, 0), doneP s i false, some (many, putL many L (E.key i) (E.ans i).1)) := by
     unfold runP
     rw [if_neg (by simpa using hi), if_neg (by simpa using h1), if_neg (by rw [hr]; decide)]
     rfl
    rw [e]
    rcases hW.runs hI hi hr with ⟨j, q, hq, h2, h3, ha, _⟩ | ⟨hz, ha⟩
    ·rw [if_pos (show (E.ans i).2 ≠ 0 by rw [ha]; decide)]
     have hbad : (E.W q).2 ≠ 0 := by
      rcases hW.input hi (List.mem_of_getElem? hq) with ⟨k, _, _, _, hby, _⟩ | ⟨_, hw⟩
      ·rw [hby] at h2; cases h2
      ·rw [hw]; unfold wLeaf; rw [h3]; decide
     exact (run_none h hW hI hL (hVw.errs.sub (by decide)) hi hr hq hbad ha).mono fun _ _ h => h.cache hC
    ·by_cases hb : (E.ans i).2 = 0
     ·rw [if_neg (by simpa using hb)]
      cases hl : L.lookup (E.key i) with
      | none => exact runC_good h hc hC hW hI hL hx0 hlo (hV.act (by decide)) hi hr hz ha hb hl
      | some x => exact runC_hit h hc hC hW hI hL hx0 hlo (hV.act (by decide)) hi hr hz ha hl
     ·rw [if_pos hb]
      exact runC_bad h hc hC hW hI hL hx0 hlo (hV.act (by decide)) hi hr hz ha hb
  ·have e : runP E (some (many, L)) s i = ((false, 12), s, some (many, L)) := by
    unfold runP
    rw [if_neg (by simpa using hi), if_pos h1]
   rw [e]
   exact (run_done h (hVw.errs.sub (by decide)) hi h1).mono fun _ _ h => h.cache hC
 ·have hz2 : ∀ k ∈ E.sm, (k : Int) ≠ z := fun k hk e => hz ⟨k, e.symm, hk⟩
  unfold cacheZ
  rw [runZ_out hz2]
  exact (run_miss h (hVw.errs.sub (by decide)) z hz2).mono fun _ _ h => h.cache hC
end
end Go.Proofs.YtnmhaipjfpongacGreatDoor

namespace Go.Proofs.YtnmhaipjfpongacGreatDoor
open Go.ChangeShapes Go.WideShapes Go.ChangeAt Go.RowKit

section
variable {w0 w w' : World} {E : BE} {K : MK} {s : BS} {o : List Nat} {is : Nat → Bool}
end
end Go.Proofs.YtnmhaipjfpongacGreatDoor

namespace Go.Proofs.YtnmhaipjfpongacGreatDoor
open Go.ChangeShapes Go.WideShapes Go.ChangeAt Go.RowKit

end Go.Proofs.YtnmhaipjfpongacGreatDoor

/- Texts of this seat laid together for one claim: Z23, Bm6, Z27. No condition of its own: what each proves stands with its theorems. -/
import Derived.Test.YtnmhaipjfpongacGreatDoorYF41
import Derived.Test.YtnmhaipjfpongacGreatDoorYF35
import Derived.Test.YtnmhaipjfpongacGreatDoorYF37
import Derived.Test.YtnmhaipjfpongacGreatDoorYF39
import Derived.Test.YtnmhaipjfpongacGreatDoorYF40
import Derived.Test.YtnmhaipjfpongacGreatDoorYF27
namespace Go.Proofs.YtnmhaipjfpongacGreatDoor
open Go.ChangeShapes Go.WideShapes Go.ChangeAt Go.RowKit

structure KeepsRun {σ : Type} (A : List (Nat × Obj) → World → σ → Prop) (bs : σ → BS) (step : σ → Nat → σ) (P : Nat → Addr) (base : Nat) (E : BE) (K : BK) : Prop where
 bld : ∀ X w x, A X w x → BldAt w P base E K (bs x) ∧ BInv E (bs x)
 ext : ∀ X w x w', A X w x → Ext w w' → A X w' x
 add : ∀ X w x w' ob, A X w x → Ext w w' → w'.heap[w.heap.size]? = some ob → A ((w.heap.size, ob) :: X) w' x
 kept : ∀ X w x, A X w x → ∀ y ∈ X, w.heap[y.1]? = some y.2
 drop : ∀ y X w x w', A (y :: X) w x → Only (fun i => i = y.1) w w' → (∀ z ∈ X, z.1 ≠ y.1) → A X w' x
 run : ∀ X w x, A X w x → ∀ i ∈ E.sm, readyP E (bs x) i = true → Calls Tryz.prog 56 #[PTR K.b, IN i] w (fun e w' => ∃ b, e = .returned (.tuple #[.bool b, .nilIface]) ∧ A X w' (step x i))
 ran : ∀ x i, i ∈ E.sm → readyP E (bs x) i = true → ∀ k, ranP (bs (step x i)) k = (decide (k = i) || ranP (bs x) k)
inductive AllTo {σ : Type} (E : BE) (bs : σ → BS) (step : σ → Nat → σ) : σ → σ → Prop
 | stop {x : σ} : readyL E (bs x) = [] → AllTo E bs step x x
 | more {x y : σ} {i : Nat} {R : List Nat} : readyL E (bs x) = i :: R → AllTo E bs step (step x i) y → AllTo E bs step x y
def AllPost {σ : Type} (A : List (Nat × Obj) → World → σ → Prop) (bs : σ → BS) (step : σ → Nat → σ) (E : BE) (X : List (Nat × Obj)) (x0 : σ) (e : Ending) (w' : World) : Prop := ∃ x, e = .returned (.agg (cntV (bs x) E.sm)) ∧ A X w' x ∧ (∀ i ∈ E.sm, (bs x).st i ≠ 1) ∧ AllTo E bs step x0 x

set_option maxRecDepth 100000 in
set_option maxHeartbeats 4000000 in
theorem buildAll_any {σ : Type} (A : List (Nat × Obj) → World → σ → Prop) (bs : σ → BS) (step : σ → Nat → σ) (P : Nat → Addr) (base : Nat) (E : BE) (K : BK) (o : List Nat) (is : Nat → Bool) (X : List (Nat × Obj)) (w : World) (x0 : σ) (hA : KeepsRun A bs step P base E K) (h : A X w x0) (hW : BWell E o is) (hL : BLens E) :
  Calls Tryz.prog 59 #[PTR K.b] w (AllPost A bs step E X x0) := by
 have HA := Lib.hid hA
 have HW := Lib.hid hW
 have HL := Lib.hid hL
 have HXN : Hid (∀ z ∈ X, z.1 ≠ w.heap.size) := Lib.hid (fun z hz e => by
  have h1 := (Array.getElem?_eq_some_iff.1 (hA.kept X w x0 h z hz)).1
  omega)
 have h1 := hA.add X w x0 (w.alloc (.cells #[.int .i64 0, .int .i64 0, .int .i64 0, .int .i64 0] 70 (0, 0))) (.cells #[.int .i64 0, .int .i64 0, .int .i64 0, .int .i64 0] 70 (0, 0)) h (Only.alloc _ _ _) (MapKept.heap_alloc w _).1
 have HRL := Lib.hid (readyL_any (hA.bld _ _ x0 h1).1 hW hL.many hL.few)
 have H0 := Lib.hid h1
 clear hA h hW hL h1
 go_enter Tryz.func59, Tryz.ntmps59
 go_wp2_with fail
 refine HRL.out.mono ?_
 rintro e w1 ⟨v1, rfl, hr1, ho1⟩
 have HR1 : Hid (Rd IN w1 v1 (readyL E (bs x0))) := Lib.hid hr1.rd
 have HA1 := Lib.hid (HA.out.ext _ _ _ _ H0.out ho1)
 clear hr1 ho1 HRL H0
 go_wp2_with fail
 go_loopg [3] (E.sm.length - ranN E (bs x0)) (fun g v wr => ∃ (x : σ) (qv : Value), qv = v ∧ E.sm.length - ranN E (bs x) = g ∧ Hid (A ((w.heap.size, (.cells #[.int .i64 0, .int .i64 0, .int .i64 0, .int .i64 0] 70 (0, 0))) :: X) wr x) ∧ Hid (Rd IN wr qv (readyL E (bs x))) ∧ Hid (∀ y, AllTo E bs step x y → AllTo E bs step x0 y))
 case atStart => exact ⟨x0, _, rfl, rfl, HA1, HR1, Lib.hid (fun _ h => h)⟩
 case round =>
  clear HA1 HR1
  obtain ⟨x, qv, rfl, hg, HA1, HR1, HTO⟩ := hrel
  have HG := Lib.hid hg
  clear hg
  obtain ⟨R, hR⟩ : ∃ R, R = readyL E (bs x) := ⟨_, rfl⟩
  rw [← hR] at HR1
  have HRQ := Lib.hid hR
  clear hR
  obtain ⟨a, c, rfl, _, _, hc⟩ := HR1.out
  rcases R with _ | ⟨i, R⟩
  ·have hov := HW.out.over (HA.out.bld _ _ _ HA1.out).2 (fun i hi => by
    cases hr : readyP E (bs x) i with
    | false => rfl
    | true =>
     have : i ∈ readyL E (bs x) := List.mem_filter.2 ⟨hi, hr⟩
     rw [← HRQ.out] at this
     cases this)
   have HOV := Lib.hid hov
   have HEND := Lib.hid (HTO.out x (.stop HRQ.out.symm))
   have HCN := Lib.hid (countB_any wr P base E K (bs x) (HA.out.bld _ _ _ HA1.out).1 HW.out.rise HL.out.few (HA.out.bld _ _ _ HA1.out).2)
   have hlz : ¬ (0 : Int) < (([] : List Nat).length : Int) := by simp
   clear hc hov
   go_wp2_with fail
   refine HCN.out.mono ?_
   rintro e w5 ⟨rfl, ho5⟩
   have ha5 := HA.out.ext _ _ _ _ HA1.out ho5
   have hrc := HA.out.kept _ _ _ ha5 _ (.head _)
   have HRC := Lib.hid hrc
   have f0 := free_of_heap hrc 0
   have f1 := free_of_heap hrc 1
   have f2 := free_of_heap hrc 2
   have f3 := free_of_heap hrc 3
   have r0 := (cell_of_heap hrc 0).trans (rfl : _ = some (Value.int .i64 0))
   have r1 := (cell_of_heap hrc 1).trans (rfl : _ = some (Value.int .i64 0))
   have r2 := (cell_of_heap hrc 2).trans (rfl : _ = some (Value.int .i64 0))
   have r3 := (cell_of_heap hrc 3).trans (rfl : _ = some (Value.int .i64 0))
   have HA5 := Lib.hid ha5
   clear ho5 hrc ha5 HCN
   go_wp2_with fail
   refine bodyPost_ret (v := .agg (cntV (bs x) E.sm)) ?_ rfl ⟨x, rfl, HA.out.drop (w.heap.size, (.cells #[.int .i64 0, .int .i64 0, .int .i64 0, .int .i64 0] 70 (0, 0))) X _ _ _ HA5.out ((((Only.set (p := fun i => i = w.heap.size) _ rfl).then (Only.set (p := fun i => i = w.heap.size) _ rfl)).then (Only.set (p := fun i => i = w.heap.size) _ rfl)).then (Only.set (p := fun i => i = w.heap.size) _ rfl)) HXN.out, HOV.out, HEND.out⟩
   have hres : Tryz.f59.results = #[.cell 2 70] := by kernel_rfl
   have h1 := heap_setCell_same HRC.out 0 (IN (E.sm.countP (cRan (bs x))))
   have h2 := heap_setCell_same h1 1 (IN (E.sm.countP (cHit (bs x))))
   have h3 := heap_setCell_same h2 2 (IN (E.sm.countP (cFail (bs x))))
   have h4 := heap_setCell_same h3 3 (IN (E.sm.countP (cLeft (bs x))))
   have e0 := (cell_of_heap h4 0).trans (rfl : _ = some (IN (E.sm.countP (cRan (bs x)))))
   have e1 := (cell_of_heap h4 1).trans (rfl : _ = some (IN (E.sm.countP (cHit (bs x)))))
   have e2 := (cell_of_heap h4 2).trans (rfl : _ = some (IN (E.sm.countP (cFail (bs x)))))
   have e3 := (cell_of_heap h4 3).trans (rfl : _ = some (IN (E.sm.countP (cLeft (bs x)))))
   clear h1 h2 h3 h4 f0 f1 f2 f3 r0 r1 r2 r3
   simp only [results, hres]
   go_simp
  ·obtain ⟨b, off, rfl, hcell⟩ := hc (by simp)
   have d0 := hcell 0 i rfl
   rw [Nat.add_zero] at d0
   have hri : i ∈ readyL E (bs x) := by rw [← HRQ.out]; exact .head _
   obtain ⟨him, hrp⟩ := List.mem_filter.1 hri
   have HRUN := Lib.hid (HA.out.run _ wr x HA1.out i him hrp)
   have hme : E.sm.length - ranN E (bs (step x i)) < E.sm.length - ranN E (bs x) := by
    have h1 := ranN_more HW.out.nodup him (ready_not_ran hrp) (HA.out.ran x i him hrp)
    have h2 := ranN_le E (bs (step x i))
    omega
   have HME := Lib.hid hme
   have HTO2 : Hid (∀ y, AllTo E bs step (step x i) y → AllTo E bs step x0 y) := Lib.hid (fun y hy => HTO.out y (.more HRQ.out.symm hy))
   have hlz : (0 : Int) < ((i :: R).length : Int) := by simp
   clear hcell hri him hrp hme
   go_wp2_with fail
   refine HRUN.out.mono ?_
   rintro e w5 ⟨bb, rfl, hA5⟩
   have HA5 := Lib.hid hA5
   have HRL := Lib.hid (readyL_any (HA.out.bld _ _ _ hA5).1 HW.out HL.out.many HL.out.few)
   clear hA5 HRUN d0
   go_wp2_with fail
   refine HRL.out.mono ?_
   rintro e w6 ⟨v6, rfl, hr6, ho6⟩
   have HR6 : Hid (Rd IN w6 v6 (readyL E (bs (step x i)))) := Lib.hid hr6.rd
   have HA6 := Lib.hid (HA.out.ext _ _ _ _ HA5.out ho6)
   clear hr6 ho6
   go_wp2_with fail
   go_roundg (E.sm.length - ranN E (bs (step x i)))
   case measure => rw [← HG.out]; exact HME.out
   case rel => exact ⟨step x i, _, rfl, rfl, HA6, HR6, HTO2⟩

noncomputable def cacheZ (E : BE) (many : Nat) (L : FL) (s : BS) (z : Int) : FL := match (runZ E (some (many, L)) s z).2.2 with
 | some (_, L') => L'
 | none => L
theorem runZ_cs (E : BE) (many : Nat) (L : FL) (s : BS) (z : Int) : (runZ E (some (many, L)) s z).2.2 = some (many, cacheZ E many L s z) := by
 have h : ∃ L', (runZ E (some (many, L)) s z).2.2 = some (many, L') := by
  unfold runZ runP
  split
  ·split
   ·exact ⟨_, rfl⟩
   ·split
    ·exact ⟨_, rfl⟩
    ·split
     ·exact ⟨_, rfl⟩
     ·split
      ·exact ⟨_, rfl⟩
      ·simp only
       split <;> exact ⟨_, rfl⟩
  ·exact ⟨_, rfl⟩
 obtain ⟨L', h⟩ := h
 unfold cacheZ
 rw [h]
section
variable {w w' : World} {P : Nat → Addr} {base : Nat} {E : BE} {K : BK} {s : BS} {o : List Nat} {is : Nat → Bool} {cb cmb : Nat} {sv : Value} {many : Nat} {L : FL}
theorem runC_any (h : BldAt w P base E K s) (hc : K.cp = PTR cb) (hC : CchAt w E K cb cmb sv many L) (hW : BWell E o is) (hI : BInv E s) (hL : BLens E) {w0 : World} (hx0 : Ext w0 w) (hlo : ∀ j, InSteps E K j ∨ InCache cb cmb sv j → w0.heap.size ≤ j) (hV : PV w0 P [2, 4, 5, 9, 10, 11]) (z : Int) :
  Calls Tryz.prog 56 #[PTR K.b, I z] w (RunCPost w P base E K cb cmb sv many (cacheZ E many L s z) (runZ E (some (many, L)) s z).1 (runZ E (some (many, L)) s z).2.1) := by
 have hVw := hV.ext hx0
 by_cases hz : ∃ i : Nat, z = (i : Int) ∧ i ∈ E.sm
 ·obtain ⟨i, rfl, hi⟩ := hz
  unfold cacheZ
  rw [runZ_in hi]
  by_cases h1 : s.st i = 1
  ·cases hr : readyP E s i with
   | false =>
    have e : runP E (some (many, L)) s i = ((false, 11), s, some (many, L)) := by
     unfold runP
     rw [if_neg (by simpa using hi), if_neg (by simpa using h1), if_pos hr]
    rw [e]
    exact (run_turn h hW hL (hVw.errs.sub (by decide)) hi h1 hr).mono fun _ _ h => h.cache hC
   | true =>
    have e : runP E (some (many, L)) s i = if (E.ans i).2 ≠ 0 then ((false, 0), failP E s i, some (many, L)) else match L.lookup (E.key i) with
      | some _ => ((true, 0), doneP s i true, some (many, getL L (E.key i)))
      | none => ((false, 0), doneP s i false, some (many, putL many L (E.key i) (E.ans i).1)) := by
     unfold runP
     rw [if_neg (by simpa using hi), if_neg (by simpa using h1), if_neg (by rw [hr]; decide)]
     rfl
    rw [e]
    rcases hW.runs hI hi hr with ⟨j, q, hq, h2, h3, ha, _⟩ | ⟨hz, ha⟩
    ·rw [if_pos (show (E.ans i).2 ≠ 0 by rw [ha]; decide)]
     have hbad : (E.W q).2 ≠ 0 := by
      rcases hW.input hi (List.mem_of_getElem? hq) with ⟨k, _, _, _, hby, _⟩ | ⟨_, hw⟩
      ·rw [hby] at h2; cases h2
      ·rw [hw]; unfold wLeaf; rw [h3]; decide
     exact (run_none h hW hI hL (hVw.errs.sub (by decide)) hi hr hq hbad ha).mono fun _ _ h => h.cache hC
    ·by_cases hb : (E.ans i).2 = 0
     ·rw [if_neg (by simpa using hb)]
      cases hl : L.lookup (E.key i) with
      | none => exact runC_good h hc hC hW hI hL hx0 hlo (hV.act (by decide)) hi hr hz ha hb hl
      | some x => exact runC_hit h hc hC hW hI hL hx0 hlo (hV.act (by decide)) hi hr hz ha hl
     ·rw [if_pos hb]
      exact runC_bad h hc hC hW hI hL hx0 hlo (hV.act (by decide)) hi hr hz ha hb
  ·have e : runP E (some (many, L)) s i = ((false, 12), s, some (many, L)) := by
    unfold runP
    rw [if_neg (by simpa using hi), if_pos h1]
   rw [e]
   exact (run_done h (hVw.errs.sub (by decide)) hi h1).mono fun _ _ h => h.cache hC
 ·have hz2 : ∀ k ∈ E.sm, (k : Int) ≠ z := fun k hk e => hz ⟨k, e.symm, hk⟩
  unfold cacheZ
  rw [runZ_out hz2]
  exact (run_miss h (hVw.errs.sub (by decide)) z hz2).mono fun _ _ h => h.cache hC
end
end Go.Proofs.YtnmhaipjfpongacGreatDoor

namespace Go.Proofs.YtnmhaipjfpongacGreatDoor
open Go.ChangeShapes Go.WideShapes Go.ChangeAt Go.RowKit

section
variable {w0 w w' : World} {E : BE} {K : MK} {s : BS} {o : List Nat} {is : Nat → Bool}
theorem mst_done {i : Nat} (hi : i ∈ E.sm) (b : Bool) (k : Nat) : mst E (doneP s i b) k = if k = i then 2 else mst E s k := by
 unfold mst
 show (if k ∈ E.sm then (if k = i then 2 else s.st k) else 0) = _
 by_cases e : k = i
 ·subst e; rw [if_pos hi, if_pos rfl, if_pos rfl]
 ·rw [if_neg e, if_neg e]
theorem outM_done {i : Nat} (hi : i ∈ E.sm) (b : Bool) (k : Nat) : outM E (doneP s i b) k = if k = i then (E.ans i).1 else outM E s k := by
 unfold outM
 rw [mst_done hi]
 by_cases e : k = i
 ·subst e; rw [if_pos rfl, if_pos rfl, if_pos rfl]
 ·rw [if_neg e, if_neg e]
theorem hitM_done {i : Nat} (hi : i ∈ E.sm) (b : Bool) (k : Nat) : hitM E (doneP s i b) k = if k = i then b else hitM E s k := by
 unfold hitM
 rw [mst_done hi]
 show ((if k = i then 2 else mst E s k) == 2 && (if k = i then b else s.hit k)) = _
 by_cases e : k = i
 ·subst e; rw [if_pos rfl, if_pos rfl, if_pos rfl]; rfl
 ·rw [if_neg e, if_neg e, if_neg e]
theorem whyM_done {i : Nat} (hi : i ∈ E.sm) (h1 : s.st i = 1) (b : Bool) (k : Nat) : whyM E (doneP s i b) k = whyM E s k := by
 unfold whyM
 rw [mst_done hi]
 by_cases e : k = i
 ·subst e; rw [if_pos rfl, mst_in hi, h1]; rfl
 ·rw [if_neg e]
def ownIn (E : BE) (q : B) (t : Nat) : List B := ((E.l.take t).filter fun r => r.out == q).map fun _ => (E.W q).1
def madeTo (E : BE) (q : B) (t : Nat) : Bool := (E.l.take t).any fun r => r.out == q
theorem ownIn_step {q : B} {t : Nat} {r : Rule} (h : E.l[t]? = some r) : ownIn E q (t + 1) = ownIn E q t ++ (if r.out == q then [(E.W q).1] else []) := by
 unfold ownIn
 rw [List.take_add_one, h, Option.toList_some, List.filter_append, List.map_append]
 cases hq : r.out == q with
 | true => rw [List.filter_cons_of_pos (by simpa using hq)]; rfl
 | false => rw [List.filter_cons_of_neg (by simpa using hq)]; rfl
theorem madeTo_step {q : B} {t : Nat} {r : Rule} (h : E.l[t]? = some r) : madeTo E q (t + 1) = (madeTo E q t || r.out == q) := by
 unfold madeTo
 rw [List.take_add_one, h, List.any_append]
 simp
theorem ownIn_end (hR : RightS E.l) (q : B) : ownIn E q E.l.length = if madeTo E q E.l.length then [(E.W q).1] else [] := by
 unfold ownIn madeTo
 rw [List.take_length]
 have key : ∀ (l : List Rule), (l.map Rule.out).Nodup → (l.filter fun r => r.out == q).map (fun _ => (E.W q).1) = if (l.any fun r => r.out == q) then [(E.W q).1] else [] := by
  intro l hn
  induction l with
  | nil => rfl
  | cons r l ih =>
   rw [List.map_cons, List.nodup_cons] at hn
   rw [List.any_cons]
   cases hq : r.out == q with
   | false => rw [List.filter_cons_of_neg (by simpa using hq), ih hn.2, Bool.false_or]
   | true =>
    have hnone : l.filter (fun r => r.out == q) = [] := by
     rw [List.filter_eq_nil_iff]
     intro x hx e
     have e1 : x.out = q := by simpa using e
     have e2 : r.out = q := by simpa using hq
     exact hn.1 (List.mem_map.2 ⟨x, hx, by rw [e1, e2]⟩)
    rw [List.filter_cons_of_pos (by simpa using hq), hnone, Bool.true_or]
    rfl
 exact key E.l hR.2.2
theorem BWell.made (h : BWell E o is) {i : Nat} (hi : i ∈ E.sm) (hr : readyP E s i = true) {q : B} (hq : q ∈ (E.rule i).ins) {j : Nat} {r : Rule} (hj : E.l[j]? = some r) (he : (r.out == q) = true) : outM E s j = (E.W q).1 ∧ (BInv E s → (E.W q).2 = 0) := by
 have hjl := (List.getElem?_eq_some_iff.1 hj).1
 have hre : E.rule j = r := by unfold BE.rule; rw [hj]; rfl
 have hro : (E.rule j).out = q := by rw [hre]; simpa using he
 have hn : E.nd i j = true := (need_iff (h.lt i hi) hjl).2 (by rw [hro]; exact hq)
 have hjs := h.clos i hi j hjl hn
 have h2 := (ready_iff.1 hr).2 j hjs hn
 have ha : E.ans j = E.W q := by unfold BE.ans; rw [hro]
 refine ⟨?_, fun I => by rw [← ha]; exact I.two j hjs h2⟩
 unfold outM
 rw [mst_in hjs, if_pos h2, ha]
theorem BWell.leafM (h : BWell E o is) {i : Nat} (hi : i ∈ E.sm) {q : B} (hq : q ∈ (E.rule i).ins) (hm : madeTo E q E.l.length = false) : E.W q = wLeaf E.T q := by
 rcases h.input hi hq with ⟨k, hk, _, hko, _, _⟩ | ⟨_, e⟩
 ·exfalso
  unfold madeTo at hm
  rw [List.take_length, List.any_eq_false] at hm
  exact hm _ (List.mem_of_getElem? (BE.rule_at (h.lt k hk))) (by simpa using hko)
 ·exact e

structure RCch (w : World) (cb : Nat) (cv : Value) (many : Nat) (L : FL) : Prop where
 cells : w.heap[cb]? = some (.cells #[I many, cv] 93 (0, 0))
 rd : RdS 2 encE w cv L
 ok : CacheOk L
 nodup : (L.map (·.1)).Nodup
 len : L.length ≤ many
 many : many ≤ 100
 lt : ∀ i, cv.ownBlock = some i → i < w.heap.size ∧ i ≠ cb
theorem RCch.later {cb : Nat} {cv : Value} {many : Nat} {L : FL} {p : Nat → Prop} (h : RCch w cb cv many L) (ho : Only p w w') (h1 : ¬ p cb) (h2 : ∀ i, cv.ownBlock = some i → ¬ p i) : RCch w' cb cv many L :=
 ⟨ho.heapOf h.cells h1, h.rd.later ho h2, h.ok, h.nodup, h.len, h.many, fun i e => ⟨Nat.lt_of_lt_of_le (h.lt i e).1 ho.size, (h.lt i e).2⟩⟩
theorem RCch.ext {cb : Nat} {cv : Value} {many : Nat} {L : FL} (h : RCch w cb cv many L) (ho : Ext w w') : RCch w' cb cv many L := h.later ho (fun h => h) (fun _ _ h => h)
theorem RCch.got {cb : Nat} {cv : Value} {many : Nat} {L L' : FL} {r : Value} {e : Ending} (h : RCch w cb cv many L) (hg : GotM w cb many cv L' r e w') (hok : CacheOk L') (hn : (L'.map (·.1)).Nodup) (hl : L'.length ≤ many) :
  ∃ cv', e = .returned r ∧ RCch w' cb cv' many L' ∧ Only (fun i => i = cb) w w' ∧ ∀ i, cv'.ownBlock = some i → cv.ownBlock = some i ∨ w.heap.size ≤ i := by
 obtain ⟨cv', rfl, h1, h2, h3, h4⟩ := hg
 have hc := lt_of_heap h.cells
 refine ⟨cv', rfl, ⟨h1, h2, hok, hn, hl, h.many, fun i e => ?_⟩, h3, fun i e => (h4 i e).imp id (·.1)⟩
 rcases h4 i e with e2 | ⟨e2, e3⟩
 ·exact ⟨Nat.lt_of_lt_of_le (h.lt i e2).1 h3.size, (h.lt i e2).2⟩
 ·exact ⟨e3, by omega⟩
def CchM (w : World) (K : MK) (cb : Nat) (cv : Value) : CS → Prop
 | none => K.cp = .pointer none
 | some (many, L) => K.cp = PTR cb ∧ RCch w cb cv many L ∧ ¬ InMA K cb ∧ ∀ i, cv.ownBlock = some i → ¬ InMA K i
theorem CchM.ext {cb : Nat} {cv : Value} {C : CS} (h : CchM w K cb cv C) (ho : Ext w w') : CchM w' K cb cv C := by
 cases C with
 | none => exact h
 | some p => obtain ⟨many, L⟩ := p; exact ⟨h.1, h.2.1.ext ho, h.2.2⟩
theorem CchM.tabs {cb : Nat} {cv : Value} {C : CS} (h : CchM w K cb cv C) (ho : Only (InM K) w w') : CchM w' K cb cv C := by
 cases C with
 | none => exact h
 | some p =>
  obtain ⟨many, L⟩ := p
  exact ⟨h.1, h.2.1.later ho (fun e => h.2.2.1 (.inr (.inr (.inr e)))) (fun i e e2 => h.2.2.2 i e (.inr (.inr (.inr e2)))), h.2.2⟩
def RunMPost (w0 w : World) (E : BE) (K : MK) (cb : Nat) (cv : Value) (r : Bool × Nat) (s : BS) (C : CS) (e : Ending) (w' : World) : Prop :=
 ∃ cv', e = .returned (.tuple #[.bool r.1, IN r.2]) ∧ MBldAt w0 w' E K s ∧ CchM w' K cb cv' C ∧ Only (fun i => InM K i ∨ i = cb) w w' ∧ ∀ i, cv'.ownBlock = some i → cv.ownBlock = some i ∨ (w.heap.size ≤ i ∧ i < w'.heap.size)
theorem RunMPost.of_some {cb : Nat} {cv : Value} {many : Nat} {L : FL} {r : Bool × Nat} {e : Ending} (h : ∃ cv', e = .returned (.tuple #[.bool r.1, IN r.2]) ∧ MBldAt w0 w' E K s ∧ CchM w' K cb cv' (some (many, L)) ∧ Only (fun i => InM K i ∨ i = cb) w w' ∧ ∀ i, cv'.ownBlock = some i → cv.ownBlock = some i ∨ w.heap.size ≤ i) : RunMPost w0 w E K cb cv r s (some (many, L)) e w' := by
 obtain ⟨cv', h1, h2, h3, h4, h5⟩ := h
 exact ⟨cv', h1, h2, h3, h4, fun i e => (h5 i e).imp id fun h => ⟨h, (h3.2.1.lt i e).1⟩⟩
theorem RunMPost.same {cb : Nat} {cv : Value} {C : CS} {r : Bool × Nat} (h : MBldAt w0 w E K s) (hC : CchM w K cb cv C) (ho : Ext w w') : RunMPost w0 w E K cb cv r s C (.returned (.tuple #[.bool r.1, IN r.2])) w' :=
 ⟨cv, rfl, h.grow ho, hC.ext ho, ho.mono fun _ _ h => h.elim, fun _ h => .inl h⟩

set_option maxRecDepth 100000 in
set_option maxHeartbeats 4000000 in
theorem runM_not {cb : Nat} {cv : Value} {C : CS} (h : MBldAt w0 w E K s) (hC : CchM w K cb cv C) (hW : BWell E o is) (hI : BInv E s) (z : Int) (hz : ¬ ∃ i : Nat, z = (i : Int) ∧ i ∈ E.sm ∧ readyP E s i = true) :
    Calls Tryz.prog 57 #[PTR K.b, I z] w (RunMPost w0 w E K cb cv (runZ E C s z).1 (runZ E C s z).2.1 (runZ E C s z).2.2) := by
  have H := Lib.hid h
  have HC := Lib.hid hC
  have hl40 := hW.right.1
  have hlz : (E.l.length : Int) ≤ 40 := by omega
  by_cases hr : 0 ≤ z ∧ z < (E.l.length : Int)
  · obtain ⟨i, rfl⟩ : ∃ i : Nat, z = (i : Int) := ⟨z.toNat, by omega⟩
    have hin : i < E.l.length := by omega
    have hiz : (i : Int) < (E.l.length : Int) := by omega
    have hi0 : (0 : Int) ≤ (i : Int) := by omega
    have hi1 : ¬ (i : Int) < 0 := by omega
    have hi2 : ¬ (E.l.length : Int) ≤ (i : Int) := by omega
    have c1 := (h.cell 1).trans (rfl : _ = some (Value.slice K.la E.l.length K.lc))
    have c2 := (h.cell 2).trans (rfl : _ = some (TabS K.st E.l.length))
    have t0 := h.tab.st.cell hin
    have hb0 := stateM_none (mst_le hI i)
    have hb1 := stateM_waits (mst_le hI i)
    by_cases him : i ∈ E.sm
    · have hrz : runZ E C s (i : Int) = runP E C s i := runZ_in him
      have hm1 : 1 ≤ s.st i := (hI.rng i him).1
      by_cases h1 : s.st i = 1
      · have hnr : readyP E s i = false := by
          cases hq : readyP E s i with
          | false => rfl
          | true => exact absurd ⟨i, rfl, him, hq⟩ hz
        have hre : runZ E C s (i : Int) = ((false, 11), s, C) := by
          rw [hrz]; unfold runP
          rw [if_neg (by simpa using him), if_neg (by simpa using h1), if_pos hnr]
        rw [hre]
        have hrm := isReadyM_any h hW hI hin
        rw [show readyMB E s i = false by unfold readyMB; rw [hnr, Bool.and_false]] at hrm
        have HRM := Lib.hid hrm
        rw [mst_in him, h1] at hb0 hb1 t0
        rw [show ((1 : Nat) == 0) = false from rfl] at hb0
        rw [show ((1 : Nat) == 1) = true from rfl] at hb1
        generalize stateM 1 = sv at t0 hb0 hb1
        clear h hC hW hI hz hr him hrz hm1 h1 hnr hre hrm hin
        go_enter Tryz.func57, Tryz.ntmps57
        go_wp2_with fail
        refine HRM.out.mono ?_
        rintro e w3 ⟨rfl, ho⟩
        have HX3 := Lib.hid ho
        clear ho
        go_wp2_with fail
        go_ret2
        exact RunMPost.same (r := (false, 11)) H.out HC.out HX3.out
      · have hre : runZ E C s (i : Int) = ((false, 12), s, C) := by
          rw [hrz]; unfold runP
          rw [if_neg (by simpa using him), if_pos (by simpa using h1)]
        rw [hre]
        rw [mst_in him] at hb0 hb1 t0
        rw [show (s.st i == 0) = false from beq_eq_false_iff_ne.2 (by omega)] at hb0
        rw [show (s.st i == 1) = false from beq_eq_false_iff_ne.2 h1] at hb1
        generalize stateM (s.st i) = sv at t0 hb0 hb1
        clear h hC hW hI hz hr him hrz hm1 h1 hre hin
        go_enter Tryz.func57, Tryz.ntmps57
        go_wp2_with fail
        go_ret2
        exact RunMPost.same (r := (false, 12)) H.out HC.out (Only.refl _ _)
    · have hre : runZ E C s (i : Int) = ((false, 6), s, C) := runZ_out fun k hk e => him (by have : k = i := by omega
                                                                                             rw [← this]; exact hk)
      rw [hre]
      rw [mst_out him] at hb0 hb1 t0
      rw [show ((0 : Nat) == 0) = true from rfl] at hb0
      generalize stateM 0 = sv at t0 hb0 hb1
      clear h hC hW hI hz hr him hre hin hb1
      go_enter Tryz.func57, Tryz.ntmps57
      go_wp2_with fail
      go_ret2
      exact RunMPost.same (r := (false, 6)) H.out HC.out (Only.refl _ _)
  · have hre : runZ E C s z = ((false, 6), s, C) := runZ_out fun k hk e => hr ⟨by omega, by have := hW.lt k hk; omega⟩
    rw [hre]
    have c1 := (h.cell 1).trans (rfl : _ = some (Value.slice K.la E.l.length K.lc))
    by_cases hz0 : z < 0
    · clear h hC hW hI hz hr hre
      go_enter Tryz.func57, Tryz.ntmps57
      go_wp2_with fail
      go_ret2
      exact RunMPost.same (r := (false, 6)) H.out HC.out (Only.refl _ _)
    · have hz1 : (E.l.length : Int) ≤ z := by omega
      clear h hC hW hI hz hr hre
      go_enter Tryz.func57, Tryz.ntmps57
      go_wp2_with fail
      go_ret2
      exact RunMPost.same (r := (false, 6)) H.out HC.out (Only.refl _ _)
end
end Go.Proofs.YtnmhaipjfpongacGreatDoor

namespace Go.Proofs.YtnmhaipjfpongacGreatDoor
open Go.ChangeShapes Go.WideShapes Go.ChangeAt Go.RowKit

def sizeP (p : Int) : Nat := if p = -9223372036854775808 then 0 else p.natAbs
structure KeepsOwn {σ : Type} (A : World → σ → Prop) (own : Nat → Prop) (lo : Nat) (bs : σ → BS) (step : σ → Nat → σ) (P : Nat → Addr) (base : Nat) (E : BE) (K : BK) : Prop where
 bld : ∀ w x, A w x → BldAt w P base E K (bs x) ∧ BInv E (bs x)
 size : ∀ w x, A w x → lo ≤ w.heap.size
 other : ∀ w x w' (q : Nat → Prop), A w x → Only q w w' → (∀ i, q i → ¬ own i ∧ lo ≤ i) → A w' x
 run : ∀ w x, A w x → ∀ i ∈ E.sm, readyP E (bs x) i = true → Calls Tryz.prog 56 #[PTR K.b, IN i] w (fun e w' => ∃ b, e = .returned (.tuple #[.bool b, .nilIface]) ∧ A w' (step x i) ∧ Only own w w')
 ran : ∀ x i, i ∈ E.sm → readyP E (bs x) i = true → ∀ k, ranP (bs (step x i)) k = (decide (k = i) || ranP (bs x) k)
inductive PicksTo {σ : Type} (E : BE) (bs : σ → BS) (step : σ → Nat → σ) : List Int → σ → List Nat → σ → Prop
 | nil (x : σ) : PicksTo E bs step [] x [] x
 | skip {p : Int} {ps : List Int} {x y : σ} {o : List Nat} : readyL E (bs x) = [] → PicksTo E bs step ps x o y → PicksTo E bs step (p :: ps) x o y
 | pick {p : Int} {ps : List Int} {x y : σ} {o : List Nat} {k : Nat} : (readyL E (bs x))[sizeP p % (readyL E (bs x)).length]? = some k → PicksTo E bs step ps (step x k) o y → PicksTo E bs step (p :: ps) x (k :: o) y
inductive AllOut {σ : Type} (E : BE) (bs : σ → BS) (step : σ → Nat → σ) : σ → List Nat → σ → Prop
 | stop {x : σ} : readyL E (bs x) = [] → AllOut E bs step x [] x
 | more {x y : σ} {o : List Nat} {i : Nat} {R : List Nat} : readyL E (bs x) = i :: R → AllOut E bs step (step x i) o y → AllOut E bs step x (i :: o) y
end Go.Proofs.YtnmhaipjfpongacGreatDoor

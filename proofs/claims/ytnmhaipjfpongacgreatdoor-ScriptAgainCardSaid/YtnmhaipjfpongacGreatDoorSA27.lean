/- Texts of this seat laid together for one claim: Z8, Z13, Z9, Z17. No condition of its own: what each proves stands with its theorems. -/
import Derived.Deep.RegionHeld3
import Derived.Test.YtnmhaipjfpongacGreatDoorSA12
import Derived.Test.YtnmhaipjfpongacGreatDoorSA18
import Derived.Test.YtnmhaipjfpongacGreatDoorSA5
import Derived.Test.YtnmhaipjfpongacGreatDoorSA26
import Derived.Test.YtnmhaipjfpongacGreatDoorSA2
import Derived.Test.YtnmhaipjfpongacGreatDoorSA24
import Derived.WideKeyEntry
import Derived.Test.YtnmhaipjfpongacGreatDoorSA20
import Derived.Test.YtnmhaipjfpongacGreatDoorSA23
namespace Go.Proofs.YtnmhaipjfpongacGreatDoor
open Go.ChangeShapes Go.WideShapes Go.ChangeAt Go.RowKit

noncomputable def runZ (E : BE) (C : CS) (s : BS) (z : Int) : (Bool × Nat) × BS × CS := if 0 ≤ z ∧ z.toNat ∈ E.sm then runP E C s z.toNat else ((false, 6), s, C)
theorem runZ_in {E : BE} {C : CS} {s : BS} {i : Nat} (hi : i ∈ E.sm) : runZ E C s (i : Int) = runP E C s i := by
 unfold runZ
 rw [if_pos ⟨by omega, by rw [Int.toNat_natCast]; exact hi⟩, Int.toNat_natCast]
theorem runZ_out {E : BE} {C : CS} {s : BS} {z : Int} (h : ∀ k ∈ E.sm, (k : Int) ≠ z) : runZ E C s z = ((false, 6), s, C) := by
 unfold runZ
 exact if_neg fun ⟨h1, h2⟩ => h _ h2 (by omega)

def RunPost (w : World) (P : Nat → Addr) (base : Nat) (E : BE) (K : BK) (r : Bool × Nat) (s : BS) (e : Ending) (w' : World) : Prop :=
 e = .returned (.tuple #[.bool r.1, errC P r.2]) ∧ BldAt w' P base E K s ∧ Only (InSteps E K) w w'

structure BLens (E : BE) : Prop where
 few : E.sm.length ≤ 1000
 kind : ∀ i ∈ E.sm, (E.rule i).kind.length ≤ 100
 word : ∀ i ∈ E.sm, (E.rule i).word.length ≤ 100
 ins : ∀ i ∈ E.sm, (E.rule i).ins.length ≤ 12
theorem BLens.many {E : BE} (h : BLens E) : ∀ i ∈ E.sm, (E.rule i).ins.length ≤ 900000 := fun i hi => by have := h.ins i hi; omega
theorem BLens.args {E : BE} {o : List Nat} {is : Nat → Bool} (h : BLens E) (hW : BWell E o is) {i : Nat} (hi : i ∈ E.sm) : (E.args i).length ≤ 12 ∧ ∀ x ∈ E.args i, x.length ≤ 2000 := by
 unfold BE.args
 refine ⟨by rw [List.length_map]; exact h.ins i hi, fun x hx => ?_⟩
 obtain ⟨q, _, rfl⟩ := List.mem_map.1 hx
 exact (hW.ok q).len
theorem sum_le {l : List B} (h : ∀ x ∈ l, x.length ≤ 2000) : sumLen l ≤ l.length * 2000 := by
 induction l with
 | nil => simp [sumLen]
 | cons x l ih =>
  rw [sum_cons, List.length_cons, Nat.succ_mul]
  have := ih fun y hy => h y (.tail _ hy)
  have := h x (.head _)
  omega

section
variable {w w' : World} {P : Nat → Addr} {base : Nat} {E : BE} {K : BK} {s : BS} {o : List Nat} {is : Nat → Bool}
theorem stepC_done {k j : Nat} (h : ¬ j = k) (b : Bool) : stepC P E K (doneP s k b) j = stepC P E K s j := by
 have e : (doneP s k b).st j = s.st j := if_neg h
 have e2 : (doneP s k b).hit j = s.hit j := if_neg h
 unfold stepC outC whyC
 rw [e, e2]
theorem BldAt.done (h : BldAt w P base E K s) {k : Nat} (hk : k ∈ E.sm) (h1 : s.st k = 1) : BldAt ((w.setCell ⟨K.blk k, 6, none⟩ (S (E.ans k).1)).setCell ⟨K.blk k, 4, none⟩ (IN 2)) P base E K (doneP s k false) ∧ Only (InSteps E K) w ((w.setCell ⟨K.blk k, 6, none⟩ (S (E.ans k).1)).setCell ⟨K.blk k, 4, none⟩ (IN 2)) := by
 have ho : Only (fun i => i = K.blk k) w ((w.setCell ⟨K.blk k, 6, none⟩ (S (E.ans k).1)).setCell ⟨K.blk k, 4, none⟩ (IN 2)) := (Only.set (p := fun i => i = K.blk k) _ rfl).then (Only.set (p := fun i => i = K.blk k) _ rfl)
 have ho2 : Only (InSteps E K) w ((w.setCell ⟨K.blk k, 6, none⟩ (S (E.ans k).1)).setCell ⟨K.blk k, 4, none⟩ (IN 2)) := ho.mono fun i _ e => ⟨k, hk, e⟩
 refine ⟨h.change ho2 fun j hj => ?_, ho2⟩
 by_cases e : j = k
 ·subst e
  have h2 := heap_setCell_same (h.step j hj) 6 (S (E.ans j).1)
  rw [heap_setCell_same h2]
  have e4 : (doneP s j false).st j = 2 := if_pos rfl
  have e5 : (doneP s j false).hit j = false := if_pos rfl
  unfold stepC outC whyC
  rw [e4, e5, h1]
  rfl
 ·rw [stepC_done e]
  exact ho.heapOf (h.step j hj) (fun e2 => e (h.inj j hj k hk e2))

set_option maxRecDepth 100000 in
set_option maxHeartbeats 2000000 in
theorem run_miss (h : BldAt w P base E K s) (hE : Errs w P [5]) (z : Int) (hz : ∀ k ∈ E.sm, (k : Int) ≠ z) :
  Calls Tryz.prog 56 #[PTR K.b, I z] w (RunPost w P base E K (false, 6) s) := by
 have c1 := (h.cell 1).trans (rfl : _ = some (Value.map (some K.lb)))
 have hlk := KMap.look (P := Tryz.prog) keyOk_int h.steps Tryz.underlying184 Tryz.underlying3 (z := .pointer none) (by kernel_rfl) z
 rw [steps_miss hz] at hlk
 simp only [Option.isSome_none] at hlk
 have c0 := hE.var 5 _ (by decide) rfl
 have HB := Lib.hid h
 clear h hE hz
 go_enter Tryz.func56, Tryz.ntmps56
 go_wp2_with fail
 go_quiet (fail)
 go_wp2_with fail
 go_ret2
 exact ⟨rfl, HB.out.ext (Only.drewN _ _ _), Only.drewN _ _ _⟩

set_option maxRecDepth 100000 in
set_option maxHeartbeats 2000000 in
theorem run_done (h : BldAt w P base E K s) (hE : Errs w P [11]) {i : Nat} (hi : i ∈ E.sm) (h1 : s.st i ≠ 1) :
  Calls Tryz.prog 56 #[PTR K.b, IN i] w (RunPost w P base E K (false, 12) s) := by
 have c1 := (h.cell 1).trans (rfl : _ = some (Value.map (some K.lb)))
 have hlk := KMap.look (P := Tryz.prog) keyOk_int h.steps Tryz.underlying184 Tryz.underlying3 (z := .pointer none) (by kernel_rfl) (i : Int)
 rw [steps_lookup hi] at hlk
 simp only [Option.isSome_some] at hlk
 have s4 := (h.stepCell hi 4).trans (rfl : _ = some (IN (s.st i)))
 have hne : (((s.st i : Nat) : Int) != 1) = true := by rw [bne_iff_ne]; omega
 have c0 := hE.var 11 _ (by decide) rfl
 have HB := Lib.hid h
 clear h hE hi h1
 go_enter Tryz.func56, Tryz.ntmps56
 go_wp2_with fail
 go_quiet (fail)
 go_wp2_with fail
 go_ret2
 exact ⟨rfl, HB.out.ext (Only.drewN _ _ _), Only.drewN _ _ _⟩

set_option maxRecDepth 100000 in
set_option maxHeartbeats 2000000 in
theorem run_turn (h : BldAt w P base E K s) (hW : BWell E o is) (hL : BLens E) (hE : Errs w P [10]) {i : Nat} (hi : i ∈ E.sm) (h1 : s.st i = 1) (hr : readyP E s i = false) :
  Calls Tryz.prog 56 #[PTR K.b, IN i] w (RunPost w P base E K (false, 11) s) := by
 have c1 := (h.cell 1).trans (rfl : _ = some (Value.map (some K.lb)))
 have hlk := KMap.look (P := Tryz.prog) keyOk_int h.steps Tryz.underlying184 Tryz.underlying3 (z := .pointer none) (by kernel_rfl) (i : Int)
 rw [steps_lookup hi] at hlk
 simp only [Option.isSome_some] at hlk
 have s4 : w.cell? ⟨K.blk i, 4, none⟩ = some (.int .i64 1) := by rw [h.stepCell hi 4]; show some (IN (s.st i)) = _; rw [h1]; rfl
 have hra := ready_any w P base E K s o is i hi h hW (hL.many i hi)
 rw [hr] at hra
 have HR := Lib.hid hra
 have HE := Lib.hid hE
 have HB := Lib.hid h
 clear h hE hi h1 hr hW hL hra
 go_enter Tryz.func56, Tryz.ntmps56
 go_wp2_with fail
 refine HR.out.mono ?_
 rintro e w1 ⟨rfl, ho⟩
 have c0 := (HE.out.ext ho).var 10 _ (by decide) rfl
 have HX := Lib.hid ho
 clear ho
 go_wp2_with fail
 go_quiet (fail)
 go_wp2_with fail
 go_ret2
 exact ⟨rfl, HB.out.ext (HX.out.thenDrewN _), Only.of_ext (HX.out.thenDrewN _)⟩

set_option maxRecDepth 100000 in
set_option maxHeartbeats 4000000 in
theorem run_none (h : BldAt w P base E K s) (hW : BWell E o is) (hI : BInv E s) (hL : BLens E) (hE : Errs w P [5]) {i : Nat} (hi : i ∈ E.sm) (hr : readyP E s i = true) {j : Nat} {q : B} (hq : (E.rule i).ins[j]? = some q) (hbad : (E.W q).2 ≠ 0) (ha : E.ans i = ([], 6)) :
  Calls Tryz.prog 56 #[PTR K.b, IN i] w (RunPost w P base E K (false, 0) (failP E s i)) := by
 have h1 := (ready_iff.1 hr).1
 have c1 := (h.cell 1).trans (rfl : _ = some (Value.map (some K.lb)))
 have hlk := KMap.look (P := Tryz.prog) keyOk_int h.steps Tryz.underlying184 Tryz.underlying3 (z := .pointer none) (by kernel_rfl) (i : Int)
 rw [steps_lookup hi] at hlk
 simp only [Option.isSome_some] at hlk
 have s4 : w.cell? ⟨K.blk i, 4, none⟩ = some (.int .i64 1) := by rw [h.stepCell hi 4]; show some (IN (s.st i)) = _; rw [h1]; rfl
 have hra := ready_any w P base E K s o is i hi h hW (hL.many i hi)
 rw [hr] at hra
 have HR := Lib.hid hra
 have HE := Lib.hid hE
 have HB := Lib.hid h
 have HIN := Lib.hid (fun w1 (hx : Ext w w1) => inputs_any w1 P base E K s o is i hi (h.ext hx) hW hI hr (hL.many i hi) false ⟨(fun e => by cases e), fun _ => ⟨j, q, hq, hbad⟩⟩)
 have HF := Lib.hid (fun w1 (hx : Ext w w1) => fail_any w1 P base E K s o is i hi h1 (h.ext hx) hW hL.many (by rw [ha]; decide))
 rw [ha] at HF
 clear h hE hi h1 hr hW hL hra hI hq hbad ha
 go_enter Tryz.func56, Tryz.ntmps56
 go_wp2_with fail
 refine HR.out.mono ?_
 rintro e w1 ⟨rfl, ho⟩
 have HX := Lib.hid ho
 clear ho
 go_wp2_with fail
 refine (HIN.out w1 HX.out).mono ?_
 rintro e w2 ⟨v, rfl, ho, hrow⟩
 have HX2 := Lib.hid (HX.out.then ho)
 obtain ⟨av, cv, rfl, _, _, _⟩ := hrow.rd
 clear ho hrow
 have c0 := (HE.out.ext HX2.out).var 5 _ (by decide) rfl
 go_wp2_with fail
 refine (HF.out w2 HX2.out).mono ?_
 rintro e w3 ⟨rfl, hb, ho⟩
 have HB3 := Lib.hid hb
 have HO3 := Lib.hid (Only.after HX2.out ho)
 clear hb ho
 go_wp2_with fail
 go_ret2
 exact ⟨rfl, HB3.out, HO3.out⟩
end
end Go.Proofs.YtnmhaipjfpongacGreatDoor

namespace Go.Proofs.YtnmhaipjfpongacGreatDoor
open Go.ChangeShapes Go.WideShapes Go.ChangeAt Go.RowKit

section
variable {w w' : World} {P : Nat → Addr} {base : Nat} {E : BE} {K : BK} {s : BS}
theorem BldAt.hits (h : BldAt w P base E K s) {k : Nat} (hk : k ∈ E.sm) (h1 : s.st k = 1) {x : B} (hx : x = (E.ans k).1) : BldAt (((w.setCell ⟨K.blk k, 6, none⟩ (S x)).setCell ⟨K.blk k, 5, none⟩ (.bool true)).setCell ⟨K.blk k, 4, none⟩ (IN 2)) P base E K (doneP s k true) ∧ Only (InSteps E K) w (((w.setCell ⟨K.blk k, 6, none⟩ (S x)).setCell ⟨K.blk k, 5, none⟩ (.bool true)).setCell ⟨K.blk k, 4, none⟩ (IN 2)) := by
 have ho : Only (fun i => i = K.blk k) w (((w.setCell ⟨K.blk k, 6, none⟩ (S x)).setCell ⟨K.blk k, 5, none⟩ (.bool true)).setCell ⟨K.blk k, 4, none⟩ (IN 2)) := ((Only.set (p := fun i => i = K.blk k) _ rfl).then (Only.set (p := fun i => i = K.blk k) _ rfl)).then (Only.set (p := fun i => i = K.blk k) _ rfl)
 have ho2 : Only (InSteps E K) w (((w.setCell ⟨K.blk k, 6, none⟩ (S x)).setCell ⟨K.blk k, 5, none⟩ (.bool true)).setCell ⟨K.blk k, 4, none⟩ (IN 2)) := ho.mono fun i _ e => ⟨k, hk, e⟩
 refine ⟨h.change ho2 fun j hj => ?_, ho2⟩
 by_cases e : j = k
 ·subst e
  have h2 := heap_setCell_same (h.step j hj) 6 (S x)
  have h3 := heap_setCell_same h2 5 (.bool true)
  rw [heap_setCell_same h3, hx]
  have e4 : (doneP s j true).st j = 2 := if_pos rfl
  have e5 : (doneP s j true).hit j = true := if_pos rfl
  unfold stepC outC whyC
  rw [e4, e5, h1]
  rfl
 ·rw [stepC_done e]
  exact ho.heapOf (h.step j hj) (fun e2 => e (h.inj j hj k hk e2))
theorem BldAt.misses (h : BldAt w P base E K s) {k : Nat} (hk : k ∈ E.sm) (h1 : s.st k = 1) : BldAt ((w.setCell ⟨K.blk k, 6, none⟩ (S [])).setCell ⟨K.blk k, 5, none⟩ (.bool false)) P base E K s ∧ Only (InSteps E K) w ((w.setCell ⟨K.blk k, 6, none⟩ (S [])).setCell ⟨K.blk k, 5, none⟩ (.bool false)) := by
 have ho : Only (fun i => i = K.blk k) w ((w.setCell ⟨K.blk k, 6, none⟩ (S [])).setCell ⟨K.blk k, 5, none⟩ (.bool false)) := (Only.set (p := fun i => i = K.blk k) _ rfl).then (Only.set (p := fun i => i = K.blk k) _ rfl)
 have ho2 : Only (InSteps E K) w ((w.setCell ⟨K.blk k, 6, none⟩ (S [])).setCell ⟨K.blk k, 5, none⟩ (.bool false)) := ho.mono fun i _ e => ⟨k, hk, e⟩
 refine ⟨h.change ho2 fun j hj => ?_, ho2⟩
 by_cases e : j = k
 ·subst e
  have h2 := heap_setCell_same (h.step j hj) 6 (S [])
  rw [heap_setCell_same h2]
  unfold stepC outC whyC
  rw [h1]
  rfl
 ·exact ho.heapOf (h.step j hj) (fun e2 => e (h.inj j hj k hk e2))
end

structure CchAt (w : World) (E : BE) (K : BK) (cb cmb : Nat) (sv : Value) (many : Nat) (L : FL) : Prop where
 cache : CacheAt w cb cmb sv many L
 ok : CacheOk L
 len : L.length ≤ many
 many : many ≤ 100
 apart : ∀ i, InCache cb cmb sv i → ¬ InBld E K i
section
variable {w w' : World} {P : Nat → Addr} {base : Nat} {E : BE} {K : BK} {s : BS} {cb cmb : Nat} {sv : Value} {many : Nat} {L L' : FL}
theorem CchAt.steps (h : CchAt w E K cb cmb sv many L) (ho : Only (InSteps E K) w w') : CchAt w' E K cb cmb sv many L := ⟨h.cache.later ho (fun i hi e => h.apart i hi e.bld), h.ok, h.len, h.many, h.apart⟩
theorem CchAt.ext (h : CchAt w E K cb cmb sv many L) (ho : Ext w w') : CchAt w' E K cb cmb sv many L := ⟨h.cache.later ho (fun _ _ h => h), h.ok, h.len, h.many, h.apart⟩
theorem CchAt.bld (h : CchAt w E K cb cmb sv many L) (hb : BldAt w P base E K s) (ho : Only (InCache cb cmb sv) w w') : BldAt w' P base E K s := hb.later ho (fun i hi e => h.apart i e hi)
theorem CchAt.got (h : CchAt w E K cb cmb sv many L) (hb : BldAt w P base E K s) (hok : CacheOk L') (hlen : L'.length ≤ many) {r : Value} {e : Ending} (hg : Got w cb cmb sv many L' r e w') :
  ∃ sv', e = .returned r ∧ CchAt w' E K cb cmb sv' many L' ∧ BldAt w' P base E K s ∧ Only (InCache cb cmb sv) w w' ∧ ∀ i, InCache cb cmb sv' i → InCache cb cmb sv i ∨ w.heap.size ≤ i := by
 obtain ⟨sv', rfl, hc, ho, hn⟩ := hg
 refine ⟨sv', rfl, ⟨hc, hok, hlen, h.many, fun i hi e => ?_⟩, h.bld hb ho, ho, hn⟩
 rcases hn i hi with h1 | h1
 ·exact h.apart i h1 e
 ·have := hb.lt i e; omega
end
theorem putL_le {n : Nat} {L : FL} (k x : B) (h : L.length ≤ n) : (putL n L k x).length ≤ n := by
 unfold putL
 have := List.length_filter_le (fun p : B × B => !(p.1 == k)) L
 split
 ·simp only [List.length_tail, List.length_append, List.length_cons, List.length_nil]
  omega
 ·rename_i h2
  omega
theorem getL_le {n : Nat} {L : FL} (k : B) (hn : (L.map (·.1)).Nodup) (h : L.length ≤ n) : (getL L k).length ≤ n := by
 unfold getL
 cases hl : L.lookup k with
 | none => exact h
 | some x =>
  have hp := (perm_of_lookup hn hl).length_eq
  simp only [List.length_append, List.length_cons, List.length_nil] at hp ⊢
  omega

def RunCPost (w : World) (P : Nat → Addr) (base : Nat) (E : BE) (K : BK) (cb cmb : Nat) (sv : Value) (many : Nat) (L : FL) (r : Bool × Nat) (s : BS) (e : Ending) (w' : World) : Prop :=
 ∃ sv', e = .returned (.tuple #[.bool r.1, errC P r.2]) ∧ BldAt w' P base E K s ∧ CchAt w' E K cb cmb sv' many L ∧ Only (fun i => InSteps E K i ∨ InCache cb cmb sv i) w w' ∧ ∀ i, InCache cb cmb sv' i → InCache cb cmb sv i ∨ w.heap.size ≤ i
end Go.Proofs.YtnmhaipjfpongacGreatDoor

namespace Go.Proofs.YtnmhaipjfpongacGreatDoor
open Go.ChangeShapes Go.WideShapes Go.ChangeAt Go.RowKit

section
variable {w w' : World} {P : Nat → Addr} {base : Nat} {E : BE} {K : BK} {s : BS} {o : List Nat} {is : Nat → Bool}

set_option maxRecDepth 100000 in
set_option maxHeartbeats 6000000 in
theorem runN_bad (h : BldAt w P base E K s) (hc : K.cp = .pointer none) (hW : BWell E o is) (hI : BInv E s) (hL : BLens E) (hA : ActVars w P) {i : Nat} (hi : i ∈ E.sm) (hr : readyP E s i = true) (hz : ∀ q ∈ (E.rule i).ins, (E.W q).2 = 0)
  (ha : E.ans i = (runOut (E.rule i).kind (E.rule i).word (E.args i), runCode (E.rule i).kind (E.rule i).word (E.args i))) (hb : (E.ans i).2 ≠ 0) :
  Calls Tryz.prog 56 #[PTR K.b, IN i] w (RunPost w P base E K (false, 0) (failP E s i)) := by
 have h1 := (ready_iff.1 hr).1
 have c1 := (h.cell 1).trans (rfl : _ = some (Value.map (some K.lb)))
 have c3 := (h.cell 3).trans (rfl : _ = some K.cp)
 rw [hc] at c3
 have hlk := KMap.look (P := Tryz.prog) keyOk_int h.steps Tryz.underlying184 Tryz.underlying3 (z := .pointer none) (by kernel_rfl) (i : Int)
 rw [steps_lookup hi] at hlk
 simp only [Option.isSome_some] at hlk
 have s4 : w.cell? ⟨K.blk i, 4, none⟩ = some (.int .i64 1) := by rw [h.stepCell hi 4]; show some (IN (s.st i)) = _; rw [h1]; rfl
 have hra := ready_any w P base E K s o is i hi h hW (hL.many i hi)
 rw [hr] at hra
 have HR := Lib.hid hra
 have HB := Lib.hid h
 have HIN := Lib.hid (fun w1 (hx : Ext w w1) => inputs_any w1 P base E K s o is i hi (h.ext hx) hW hI hr (hL.many i hi) true ⟨fun _ => hz, fun e => by cases e⟩)
 have HF := Lib.hid (fun w1 (hx : Ext w w1) (hbd : (E.ans i).2 ≠ 0) => fail_any w1 P base E K s o is i hi h1 (h.ext hx) hW hL.many hbd)
 have HDN := Lib.hid (fun w1 (hx : Ext w w1) => (h.ext hx).done hi h1)
 have HFR := Lib.hid (fun w1 (hx : Ext w w1) (j : Nat) => (h.ext hx).free hi j)
 have HSC := Lib.hid (fun w1 (hx : Ext w w1) (j : Nat) => (h.ext hx).stepCell hi j)
 obtain ⟨hal, hax⟩ := hL.args hW hi
 have hsum : sumLen (E.args i) + (E.args i).length ≤ 900000 := by
  have := sum_le hax
  have h5 : (E.args i).length * 2000 ≤ 12 * 2000 := Nat.mul_le_mul_right _ hal
  omega
 have hkw := hL.word i hi
 have HRUN := Lib.hid (fun w1 (hx : Ext w w1) (v : Value) (hv : Rd S w1 v (E.args i)) => actRun_any w1 P (E.rule i).kind (E.rule i).word (E.args i) v hv hsum (by omega) (hA.ext hx))
 have HPW := Lib.hid hA.pow
 have HKEY := Lib.hid (fun w1 (hx : Ext w w1) (v : Value) (hv : Rd S w1 v (E.args i)) => keyBig_any w1 (E.rule i).kind (E.rule i).word v (E.args i) hv (hL.kind i hi) (hL.word i hi) hal (fun x hx => by have := hax x hx; omega) (HPW.out.ext hx))
 have k1 := (h.stepCell hi 1).trans (rfl : _ = some (S (E.rule i).kind))
 have k2 := (h.stepCell hi 2).trans (rfl : _ = some (S (E.rule i).word))
 have e1 : runOut (E.rule i).kind (E.rule i).word (E.args i) = (E.ans i).1 := by rw [ha]
 have e2 : runCode (E.rule i).kind (E.rule i).word (E.args i) = (E.ans i).2 := by rw [ha]
 rw [e1, e2] at HRUN
 have HF := Lib.hid (fun w1 (hx : Ext w w1) => HF.out w1 hx hb)
 obtain ⟨c, hcc⟩ : ∃ c, (E.ans i).2 = c + 1 := ⟨(E.ans i).2 - 1, by omega⟩
 rw [hcc, show errC P (c + 1) = errV (P c) from rfl] at HRUN HF
 have HIM := Lib.hid hi
 clear h hc hi h1 hr hW hL hra hI hz ha hal hax hsum hkw hA e1 e2 HPW hb
 generalize E.args i = args at *
 generalize (E.rule i).kind = kd at *
 generalize (E.rule i).word = wd at *
 generalize keyT kd wd args = key at HKEY
 go_enter Tryz.func56, Tryz.ntmps56
 go_wp2_with fail
 refine HR.out.mono ?_
 rintro e w1 ⟨rfl, ho⟩
 have HX := Lib.hid ho
 clear ho
 go_wp2_with fail
 refine (HIN.out w1 HX.out).mono ?_
 rintro e w2 ⟨v, rfl, ho, hrow⟩
 have HX2 := Lib.hid (HX.out.then ho)
 have hrd : Rd S w2 v args := hrow.rd
 have HRD := Lib.hid hrd
 obtain ⟨av, cv, rfl, _, _, _⟩ := hrd
 have HK1 := Lib.hid k1
 have HK2 := Lib.hid k2
 have m1 := HX2.out.cellOf k1 (fun h => h)
 have m2 := HX2.out.cellOf k2 (fun h => h)
 clear ho hrow k1 k2
 go_wp2_with fail
 go_region_held3 (fun w' => w'.cell? ⟨K.blk i, 1, none⟩ = some (S kd) ∧ w'.cell? ⟨K.blk i, 2, none⟩ = some (S wd)) (first | exact ⟨HX5.out.cellOf HK1.out (fun h => h), HX5.out.cellOf HK2.out (fun h => h)⟩ | exact ⟨m1, m2⟩ | go_keep)
  ((go_at_call 123; refine (HKEY.out _ (by first | exact HX2.out | exact HX2.out.thenDrew | exact HX2.out.thenDrewN _) _ (by first | exact HRD.out | exact HRD.out.ext (Only.drew _ _) | exact HRD.out.ext (Only.drewN _ _ _))).mono ?_; rintro e w5 ⟨rfl, ho⟩; have HX5 : Hid (Ext w w5) := Lib.hid (Only.ext (by first | exact HX2.out | exact HX2.out.thenDrew | exact HX2.out.thenDrewN _) ho); have HRD5 : Hid (Rd S w5 (.slice av args.length cv) args) := Lib.hid (Rd.ext (by first | exact HRD.out | exact HRD.out.ext (Only.drew _ _) | exact HRD.out.ext (Only.drewN _ _ _)) ho); clear ho))
 all_goals
  have n1 := HX5.out.cellOf HK1.out (fun h => h)
  have n2 := HX5.out.cellOf HK2.out (fun h => h)
  have n3 := HX5.out.cellOf c3 (fun h => h)
  clear m1 m2
  go_wp2_with fail
  go_region_held3 (fun w' => w'.cell? ⟨K.blk i, 1, none⟩ = some (S kd) ∧ w'.cell? ⟨K.blk i, 2, none⟩ = some (S wd)) (first | exact ⟨HX7.out.cellOf HK1.out (fun h => h), HX7.out.cellOf HK2.out (fun h => h)⟩ | exact ⟨n1, n2⟩ | go_keep)
   ((go_at_call 125; refine (HRUN.out _ (by first | exact HX5.out | exact HX5.out.thenDrew | exact HX5.out.thenDrewN _) _ (by first | exact HRD5.out | exact HRD5.out.ext (Only.drew _ _) | exact HRD5.out.ext (Only.drewN _ _ _))).mono ?_; rintro e w7 ⟨rfl, ho⟩; have HX7 : Hid (Ext w w7) := Lib.hid (Only.ext (by first | exact HX5.out | exact HX5.out.thenDrew | exact HX5.out.thenDrewN _) ho); clear ho))
  all_goals
   clear n1 n2 n3
   go_wp2_with fail
   refine (HF.out w7 HX7.out).mono ?_
   rintro e w8 ⟨rfl, hb8, ho8⟩
   have HB8 := Lib.hid hb8
   have HO8 := Lib.hid (Only.after HX7.out ho8)
   clear hb8 ho8
   go_wp2_with fail
   go_ret2
   exact ⟨rfl, HB8.out, HO8.out⟩

set_option maxRecDepth 100000 in
set_option maxHeartbeats 6000000 in
theorem runN_good (h : BldAt w P base E K s) (hc : K.cp = .pointer none) (hW : BWell E o is) (hI : BInv E s) (hL : BLens E) (hA : ActVars w P) {i : Nat} (hi : i ∈ E.sm) (hr : readyP E s i = true) (hz : ∀ q ∈ (E.rule i).ins, (E.W q).2 = 0)
  (ha : E.ans i = (runOut (E.rule i).kind (E.rule i).word (E.args i), runCode (E.rule i).kind (E.rule i).word (E.args i))) (hb : (E.ans i).2 = 0) :
  Calls Tryz.prog 56 #[PTR K.b, IN i] w (RunPost w P base E K (false, 0) (doneP s i false)) := by
 have h1 := (ready_iff.1 hr).1
 have c1 := (h.cell 1).trans (rfl : _ = some (Value.map (some K.lb)))
 have c3 := (h.cell 3).trans (rfl : _ = some K.cp)
 rw [hc] at c3
 have hlk := KMap.look (P := Tryz.prog) keyOk_int h.steps Tryz.underlying184 Tryz.underlying3 (z := .pointer none) (by kernel_rfl) (i : Int)
 rw [steps_lookup hi] at hlk
 simp only [Option.isSome_some] at hlk
 have s4 : w.cell? ⟨K.blk i, 4, none⟩ = some (.int .i64 1) := by rw [h.stepCell hi 4]; show some (IN (s.st i)) = _; rw [h1]; rfl
 have hra := ready_any w P base E K s o is i hi h hW (hL.many i hi)
 rw [hr] at hra
 have HR := Lib.hid hra
 have HB := Lib.hid h
 have HIN := Lib.hid (fun w1 (hx : Ext w w1) => inputs_any w1 P base E K s o is i hi (h.ext hx) hW hI hr (hL.many i hi) true ⟨fun _ => hz, fun e => by cases e⟩)
 have HF := Lib.hid (fun w1 (hx : Ext w w1) (hbd : (E.ans i).2 ≠ 0) => fail_any w1 P base E K s o is i hi h1 (h.ext hx) hW hL.many hbd)
 have HDN := Lib.hid (fun w1 (hx : Ext w w1) => (h.ext hx).done hi h1)
 have HFR := Lib.hid (fun w1 (hx : Ext w w1) (j : Nat) => (h.ext hx).free hi j)
 have HSC := Lib.hid (fun w1 (hx : Ext w w1) (j : Nat) => (h.ext hx).stepCell hi j)
 obtain ⟨hal, hax⟩ := hL.args hW hi
 have hsum : sumLen (E.args i) + (E.args i).length ≤ 900000 := by
  have := sum_le hax
  have h5 : (E.args i).length * 2000 ≤ 12 * 2000 := Nat.mul_le_mul_right _ hal
  omega
 have hkw := hL.word i hi
 have HRUN := Lib.hid (fun w1 (hx : Ext w w1) (v : Value) (hv : Rd S w1 v (E.args i)) => actRun_any w1 P (E.rule i).kind (E.rule i).word (E.args i) v hv hsum (by omega) (hA.ext hx))
 have HPW := Lib.hid hA.pow
 have HKEY := Lib.hid (fun w1 (hx : Ext w w1) (v : Value) (hv : Rd S w1 v (E.args i)) => keyBig_any w1 (E.rule i).kind (E.rule i).word v (E.args i) hv (hL.kind i hi) (hL.word i hi) hal (fun x hx => by have := hax x hx; omega) (HPW.out.ext hx))
 have k1 := (h.stepCell hi 1).trans (rfl : _ = some (S (E.rule i).kind))
 have k2 := (h.stepCell hi 2).trans (rfl : _ = some (S (E.rule i).word))
 have e1 : runOut (E.rule i).kind (E.rule i).word (E.args i) = (E.ans i).1 := by rw [ha]
 have e2 : runCode (E.rule i).kind (E.rule i).word (E.args i) = (E.ans i).2 := by rw [ha]
 rw [e1, e2] at HRUN
 rw [hb, show errC P 0 = .nilIface from rfl] at HRUN
 have HIM := Lib.hid hi
 clear h hc hi h1 hr hW hL hra hI hz ha hal hax hsum hkw hA e1 e2 HPW hb
 generalize E.args i = args at *
 generalize (E.rule i).kind = kd at *
 generalize (E.rule i).word = wd at *
 generalize keyT kd wd args = key at HKEY
 go_enter Tryz.func56, Tryz.ntmps56
 go_wp2_with fail
 refine HR.out.mono ?_
 rintro e w1 ⟨rfl, ho⟩
 have HX := Lib.hid ho
 clear ho
 go_wp2_with fail
 refine (HIN.out w1 HX.out).mono ?_
 rintro e w2 ⟨v, rfl, ho, hrow⟩
 have HX2 := Lib.hid (HX.out.then ho)
 have hrd : Rd S w2 v args := hrow.rd
 have HRD := Lib.hid hrd
 obtain ⟨av, cv, rfl, _, _, _⟩ := hrd
 have HK1 := Lib.hid k1
 have HK2 := Lib.hid k2
 have m1 := HX2.out.cellOf k1 (fun h => h)
 have m2 := HX2.out.cellOf k2 (fun h => h)
 clear ho hrow k1 k2
 go_wp2_with fail
 go_region_held3 (fun w' => w'.cell? ⟨K.blk i, 1, none⟩ = some (S kd) ∧ w'.cell? ⟨K.blk i, 2, none⟩ = some (S wd)) (first | exact ⟨HX5.out.cellOf HK1.out (fun h => h), HX5.out.cellOf HK2.out (fun h => h)⟩ | exact ⟨m1, m2⟩ | go_keep)
  ((go_at_call 123; refine (HKEY.out _ (by first | exact HX2.out | exact HX2.out.thenDrew | exact HX2.out.thenDrewN _) _ (by first | exact HRD.out | exact HRD.out.ext (Only.drew _ _) | exact HRD.out.ext (Only.drewN _ _ _))).mono ?_; rintro e w5 ⟨rfl, ho⟩; have HX5 : Hid (Ext w w5) := Lib.hid (Only.ext (by first | exact HX2.out | exact HX2.out.thenDrew | exact HX2.out.thenDrewN _) ho); have HRD5 : Hid (Rd S w5 (.slice av args.length cv) args) := Lib.hid (Rd.ext (by first | exact HRD.out | exact HRD.out.ext (Only.drew _ _) | exact HRD.out.ext (Only.drewN _ _ _)) ho); clear ho))
 all_goals
  have n1 := HX5.out.cellOf HK1.out (fun h => h)
  have n2 := HX5.out.cellOf HK2.out (fun h => h)
  have n3 := HX5.out.cellOf c3 (fun h => h)
  clear m1 m2
  go_wp2_with fail
  go_region_held3 (fun w' => w'.cell? ⟨K.blk i, 1, none⟩ = some (S kd) ∧ w'.cell? ⟨K.blk i, 2, none⟩ = some (S wd)) (first | exact ⟨HX7.out.cellOf HK1.out (fun h => h), HX7.out.cellOf HK2.out (fun h => h)⟩ | exact ⟨n1, n2⟩ | go_keep)
   ((go_at_call 125; refine (HRUN.out _ (by first | exact HX5.out | exact HX5.out.thenDrew | exact HX5.out.thenDrewN _) _ (by first | exact HRD5.out | exact HRD5.out.ext (Only.drew _ _) | exact HRD5.out.ext (Only.drewN _ _ _))).mono ?_; rintro e w7 ⟨rfl, ho⟩; have HX7 : Hid (Ext w w7) := Lib.hid (Only.ext (by first | exact HX5.out | exact HX5.out.thenDrew | exact HX5.out.thenDrewN _) ho); clear ho))
  all_goals
   have f6 := HFR.out w7 HX7.out 6
   have f4 := HFR.out w7 HX7.out 4
   have t6 := (HSC.out w7 HX7.out 6).trans (rfl : _ = some (outC E s i))
   have t4 := (HSC.out w7 HX7.out 4).trans (rfl : _ = some (IN (s.st i)))
   have u3 := HX7.out.cellOf c3 (fun h => h)
   have hne := ((HB.out.ext HX7.out).ne_step ((HB.out.ext HX7.out).cells) (by decide))
   have hnb : K.blk i ≠ K.b := fun e => hne ⟨i, HIM.out, e.symm⟩
   have HD := Lib.hid (HDN.out w7 HX7.out)
   clear n1 n2 n3 hne
   go_wp2_with fail
   go_ret2
   exact ⟨rfl, HD.out.1, Only.after HX7.out HD.out.2⟩

theorem runN_any (h : BldAt w P base E K s) (hc : K.cp = .pointer none) (hW : BWell E o is) (hI : BInv E s) (hL : BLens E) (hV : PV w P [2, 4, 5, 9, 10, 11]) (z : Int) :
  Calls Tryz.prog 56 #[PTR K.b, I z] w (RunPost w P base E K (runZ E none s z).1 (runZ E none s z).2.1) := by
 by_cases hz : ∃ i : Nat, z = (i : Int) ∧ i ∈ E.sm
 ·obtain ⟨i, rfl, hi⟩ := hz
  rw [runZ_in hi]
  by_cases h1 : s.st i = 1
  ·cases hr : readyP E s i with
   | false =>
    have e : runP E none s i = ((false, 11), s, none) := by
     unfold runP
     rw [if_neg (by simpa using hi), if_neg (by simpa using h1), if_pos hr]
    rw [e]
    exact run_turn h hW hL (hV.errs.sub (by decide)) hi h1 hr
   | true =>
    have e : runP E none s i = ((false, 0), if (E.ans i).2 ≠ 0 then failP E s i else doneP s i false, none) := by
     unfold runP
     rw [if_neg (by simpa using hi), if_neg (by simpa using h1), if_neg (by rw [hr]; decide)]
     by_cases ha : (E.ans i).2 ≠ 0
     ·rw [if_pos ha, if_pos ha]
     ·rw [if_neg ha, if_neg ha]
    rw [e]
    rcases hW.runs hI hi hr with ⟨j, q, hq, h2, h3, ha, _⟩ | ⟨hz, ha⟩
    ·rw [if_pos (show (E.ans i).2 ≠ 0 by rw [ha]; decide)]
     have hbad : (E.W q).2 ≠ 0 := by
      rcases hW.input hi (List.mem_of_getElem? hq) with ⟨k, _, _, _, hby, _⟩ | ⟨_, hw⟩
      ·rw [hby] at h2; cases h2
      ·rw [hw]; unfold wLeaf; rw [h3]; decide
     exact run_none h hW hI hL (hV.errs.sub (by decide)) hi hr hq hbad ha
    ·by_cases hb : (E.ans i).2 = 0
     ·rw [if_neg (by simpa using hb)]
      exact runN_good h hc hW hI hL (hV.act (by decide)) hi hr hz ha hb
     ·rw [if_pos hb]
      exact runN_bad h hc hW hI hL (hV.act (by decide)) hi hr hz ha hb
  ·have e : runP E none s i = ((false, 12), s, none) := by
    unfold runP
    rw [if_neg (by simpa using hi), if_pos h1]
   rw [e]
   exact run_done h (hV.errs.sub (by decide)) hi h1
 ·have hz2 : ∀ k ∈ E.sm, (k : Int) ≠ z := fun k hk e => hz ⟨k, e.symm, hk⟩
  rw [runZ_out hz2]
  exact run_miss h (hV.errs.sub (by decide)) z hz2
end
end Go.Proofs.YtnmhaipjfpongacGreatDoor

namespace Go.Proofs.YtnmhaipjfpongacGreatDoor
open Go.ChangeShapes Go.WideShapes Go.ChangeAt Go.RowKit
open Go.MapKept (findNow_spec IsKey Stamped bytes_beq stamped_empty stamped_push stamped_modify stamped_erase run_checkKey run_findKey run_keyThatStays heap_set heap_alloc)
open Go.ChangeMaps (setBlock)

section
variable {d : TypeDesc} {P : Program} {w : World} {b : Nat} {l : List (Value × Value)} {t kt et : TypeId}
theorem heap_setBlock_same {W : World} {b : Nat} {o o' : Obj} (h : W.heap[b]? = some o') : (setBlock W b o).heap[b]? = some o := by
 have := lt_of_heap h
 simp [setBlock, this]
theorem heap_setBlock_ne {W : World} {b c : Nat} (o : Obj) (h : c ≠ b) : (setBlock W b o).heap[c]? = W.heap[c]? := by
 simp only [setBlock]
 rw [Array.getElem?_setIfInBounds_ne (Ne.symm h)]

structure NewEntry (P : Program) (d : TypeDesc) (t : TypeId) (b : Nat) (l : List (Value × Value)) (k z v : Value) (es : Array MapEntry) (c st : Nat) (es1 es2 : Array MapEntry) (c1 : Nat) : Prop where
 lay : ∀ W : World, W.heap[b]? = some (.map es c) → (Instr.mapEntry t (.map (some b)) k).run P W = .ok (.tuple #[z, goInt st]) (setBlock W b (.map es1 c1))
 fill : ∀ W : World, W.heap[b]? = some (.map es1 c1) → (Instr.entryStore t (.map (some b)) (goInt st) v).run P W = .ok () (setBlock W b (.map es2 c1))
 done : ∀ W : World, W.heap[b]? = some (.map es2 c1) → MapAt d W b ((k, v) :: l)

theorem MapAt.entry (h : MapAt d w b l) (ht : P.underlying t = some (.map kt et)) (hk : P.underlying kt = some d) {k z : Value} (v : Value) (hz : ∀ W : World, (zeroValue et).run P W = .ok z W) (hkey : IsKey d k) (hm : k ∉ l.map (·.1)) :
  ∃ es c st es1 es2 c1, w.heap[b]? = some (.map es c) ∧ NewEntry P d t b l k z v es c st es1 es2 c1 := by
 obtain ⟨es, clock, h1, h2, h3, h4, h5⟩ := h
 have hks : ∀ x ∈ es.toList, IsKey d x.key := fun x hx => h3 (x.key, x.val) (h2.mem_iff.1 (List.mem_map.2 ⟨x, hx, rfl⟩))
 rcases findNow_spec hkey es.toList 0 hks with ⟨f1, f2⟩ | ⟨j, e, f1, f2, f3⟩
 ·refine ⟨es, clock, clock, es.push ⟨k, z, clock⟩, es.push ⟨k, v, clock⟩, clock + 1, h1, ⟨fun W hW => ?_, fun W hW => ?_, fun W hW => ⟨_, _, hW, ?_, ?_, ?_, stamped_push h5 f2⟩⟩⟩
  ·simp [Instr.mapEntry, run_underlying ht, MapKept.run_getObj_map hW, run_checkKey hk hkey, run_findKey hk f1, hz, MapKept.run_setObj_map _ hW, Result.andThen, setBlock]
  ·have hn : ((es.push ⟨k, z, clock⟩).toList.map (·.born)).Nodup := (stamped_push (val := z) h5 f2).2.1
   have hidx : (es.push ⟨k, z, clock⟩).findIdx? (fun e => ((e.born : Nat) : Int) == ((clock : Nat) : Int)) = some es.size := by
    rw [Go.WideElems.findIdx_arr]
    exact Go.WideElems.findIdx_born (e0 := ⟨k, z, clock⟩) hn (by simp)
   have hmod : (es.push ⟨k, z, clock⟩).modify es.size (fun e => { e with val := v }) = es.push ⟨k, v, clock⟩ := by
    apply Array.ext'
    rw [Array.toList_modify]
    simp only [Array.toList_push]
    have := Go.WideElems.modify_last (fun e : MapEntry => { e with val := v }) ⟨k, z, clock⟩ es.toList
    simpa using this
   simp [Instr.entryStore, MapKept.run_getObj_map hW, asInt, asIntOf, goInt, hidx, hmod, MapKept.run_setObj_map _ hW, Result.andThen, setBlock]
  ·simp only [Array.toList_push, List.map_append, List.map_cons, List.map_nil]
   exact List.perm_append_singleton _ _ |>.trans (h2.cons _)
  ·intro x hx
   rcases List.mem_cons.1 hx with rfl | hx
   ·exact hkey
   ·exact h3 x hx
  ·simpa using ⟨by simpa using hm, h4⟩
 ·exact absurd ((MapAt.keyMem h2).1 ⟨e, List.mem_of_getElem? f2, f3⟩) hm
end

theorem cloneRow_any (w : World) (v : Value) (l : List B) (h : Rd S w v l) (hl : l.length ≤ 1000000) : Calls Tryz.prog 111 #[v] w (RetRow l w) := by
 obtain ⟨a, cap, rfl, h1, h2, h3⟩ := h
 cases l with
 | nil =>
  cases a with
  | none => exact (Tryz.slices_Clone_string_nil 0 cap w).mono fun e w' ⟨h, h'⟩ => ⟨_, h, by rw [h']; exact Only.refl _ _, Row.nil _ _⟩
  | some a => exact (Tryz.slices_Clone_string_zero a cap w).mono fun e w' ⟨v', h, ho, _, hb⟩ => ⟨v', h, Only.of_below hb, ho⟩
 | cons x r =>
  obtain ⟨b, off, rfl, hc⟩ := h3 (by simp)
  refine (Tryz.slices_Clone_string b off (x :: r).length cap ((x :: r).map fun s => ⟨s.toArray⟩) w (by simp) (by omega) (fun j hj => ?_)).mono fun e w' ⟨v', h, ho, _, hb⟩ => ⟨v', h, Only.of_below hb, ?_⟩
  ·have hj' : j < (x :: r).length := by simpa using hj
   rw [hc j _ (List.getElem?_eq_getElem hj')]
   rw [List.getD_eq_getElem?_getD, List.getElem?_map, List.getElem?_eq_getElem hj']
   rfl
  ·have e1 : ((((x :: r).map fun s : B => (⟨s.toArray⟩ : ByteArray)).take (x :: r).length).map Value.string) = (x :: r).map S := by
    rw [List.take_of_length_le (by simp), List.map_map]; rfl
   rw [e1] at ho
   exact ho

noncomputable def newFault (l : List Rule) (outs : List B) : Nat × Int := if (needFault l outs).1 ≠ 0 then needFault l outs else partFault l (needL l outs)
noncomputable abbrev newE (l : List Rule) (outs : List B) (T : FL) : BE := ⟨l, needL l outs, T⟩
def RetNew (P : Nat → Addr) (l : List Rule) (outs : List B) (T : FL) (cp : Value) (w : World) (e : Ending) (w' : World) : Prop :=
 ∃ v ev, e = .returned (.tuple #[v, ev]) ∧ ErrAt w' P (newFault l outs) ev ∧ Ext w w' ∧
  (((newFault l outs).1 ≠ 0 ∧ v = .pointer none) ∨ ((newFault l outs).1 = 0 ∧ ∃ K : BK, v = PTR K.b ∧ K.cp = cp ∧ BldAt w' P w.heap.size (newE l outs T) K .new))

theorem newFault_ok {l : List Rule} {outs : List B} (h : (newFault l outs).1 = 0) : RightS l ∧ (∀ s ∈ outs, madeB l s = true) ∧ ∃ o, partB l (needL l outs) = some o := by
 unfold newFault at h
 by_cases h0 : (needFault l outs).1 = 0
 ·rw [if_neg (by simpa using h0)] at h
  have hs : (sheetFault l).1 = 0 := by
   unfold needFault at h0
   by_cases h1 : (sheetFault l).1 = 0
   ·exact h1
   ·rw [if_pos h1] at h0; exact absurd h0 h1
  refine ⟨sheet_ok.1 hs, fun s hso => ?_, ?_⟩
  ·unfold needFault at h0
   rw [if_neg (by rw [hs]; simp)] at h0
   cases hb : badOf l outs with
   | some i => rw [hb] at h0; cases h0
   | none =>
    unfold badOf at hb
    rw [List.findIdx?_eq_none_iff] at hb
    simpa using hb s hso
  ·unfold partFault at h
   cases hp : partB l (needL l outs) with
   | some o => exact ⟨o, rfl⟩
   | none => rw [hp] at h; cases h
 ·rw [if_pos h0] at h
  exact absurd h h0
theorem new_well {l : List Rule} {outs : List B} {T : FL} {o : List Nat} (hr : RightS l) (hp : partB l (needL l outs) = some o) (hT : ∀ p s, T.lookup p = some s → s.length ≤ 2000) : BWell (newE l outs T) o (fun i => (needL l outs).contains i) := by
 have hc := Clo.need l outs
 exact ⟨hr, (orderB_some hp).1, hc.lt, fun i hi => order_covers hp (hc.lt i hi) (by simpa using hi), hc.clos, hc.rise, hT⟩
end Go.Proofs.YtnmhaipjfpongacGreatDoor

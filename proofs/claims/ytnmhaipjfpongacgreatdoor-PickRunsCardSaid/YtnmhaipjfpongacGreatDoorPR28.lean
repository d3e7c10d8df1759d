/- Texts of this seat laid together for one claim: Z8, Z11, Z10, Z13, Z9. No condition of its own: what each proves stands with its theorems. -/
import Derived.Deep.RegionHeld3
import Derived.Test.YtnmhaipjfpongacGreatDoorPR16
import Derived.Test.YtnmhaipjfpongacGreatDoorPR21
import Derived.Test.YtnmhaipjfpongacGreatDoorPR9
import Derived.Test.YtnmhaipjfpongacGreatDoorPR27
import Derived.Test.YtnmhaipjfpongacGreatDoorPR25
namespace Go.Proofs.YtnmhaipjfpongacGreatDoor
open Go.ChangeShapes Go.WideShapes Go.ChangeAt Go.RowKit

noncomputable def runZ (E : BE) (C : CS) (s : BS) (z : Int) : (Bool × Nat) × BS × CS := if 0 ≤ z ∧ z.toNat ∈ E.sm then runP E C s z.toNat else ((false, 6), s, C)
theorem runZ_in {E : BE} {C : CS} {s : BS} {i : Nat} (hi : i ∈ E.sm) : runZ E C s (i : Int) = runP E C s i := by
 unfold runZ
 rw [if_pos ⟨by omega, by rw [Int.toNat_natCast]; exact hi⟩, Int.toNat_natCast]
theorem runZ_out {E : BE} {C : CS} {s : BS} {z : Int} (h : ∀ k ∈ E.sm, (k : Int) ≠ z) : runZ E C s z = ((false, 6), s, C) := by
 unfold runZ
 exact if_neg fun ⟨h1, h2⟩ => h _ h2 (by omega)

def RunPost (w : World) (P : Nat → Addr) (base : Nat) (E : BE) (K : BK) (r : Bool × Nat) (s : BS) (e : Ending) (w' : World) : Prop :=
 e = .returned (.tuple #[.bool r.1, errC P r.2]) ∧ BldAt w' P base E K s ∧ Only (InSteps E K) w w'

structure BLens (E : BE) : Prop where
 few : E.sm.length ≤ 1000
 kind : ∀ i ∈ E.sm, (E.rule i).kind.length ≤ 100
 word : ∀ i ∈ E.sm, (E.rule i).word.length ≤ 100
 ins : ∀ i ∈ E.sm, (E.rule i).ins.length ≤ 12
theorem BLens.many {E : BE} (h : BLens E) : ∀ i ∈ E.sm, (E.rule i).ins.length ≤ 900000 := fun i hi => by have := h.ins i hi; omega
theorem BLens.args {E : BE} {o : List Nat} {is : Nat → Bool} (h : BLens E) (hW : BWell E o is) {i : Nat} (hi : i ∈ E.sm) : (E.args i).length ≤ 12 ∧ ∀ x ∈ E.args i, x.length ≤ 2000 := by
 unfold BE.args
 refine ⟨by rw [List.length_map]; exact h.ins i hi, fun x hx => ?_⟩
 obtain ⟨q, _, rfl⟩ := List.mem_map.1 hx
 exact (hW.ok q).len
theorem sum_le {l : List B} (h : ∀ x ∈ l, x.length ≤ 2000) : sumLen l ≤ l.length * 2000 := by
 induction l with
 | nil => simp [sumLen]
 | cons x l ih =>
  rw [sum_cons, List.length_cons, Nat.succ_mul]
  have := ih fun y hy => h y (.tail _ hy)
  have := h x (.head _)
  omega

section
variable {w w' : World} {P : Nat → Addr} {base : Nat} {E : BE} {K : BK} {s : BS} {o : List Nat} {is : Nat → Bool}
theorem stepC_done {k j : Nat} (h : ¬ j = k) (b : Bool) : stepC P E K (doneP s k b) j = stepC P E K s j := by
 have e : (doneP s k b).st j = s.st j := if_neg h
 have e2 : (doneP s k b).hit j = s.hit j := if_neg h
 unfold stepC outC whyC
 rw [e, e2]
theorem BldAt.done (h : BldAt w P base E K s) {k : Nat} (hk : k ∈ E.sm) (h1 : s.st k = 1) : BldAt ((w.setCell ⟨K.blk k, 6, none⟩ (S (E.ans k).1)).setCell ⟨K.blk k, 4, none⟩ (IN 2)) P base E K (doneP s k false) ∧ Only (InSteps E K) w ((w.setCell ⟨K.blk k, 6, none⟩ (S (E.ans k).1)).setCell ⟨K.blk k, 4, none⟩ (IN 2)) := by
 have ho : Only (fun i => i = K.blk k) w ((w.setCell ⟨K.blk k, 6, none⟩ (S (E.ans k).1)).setCell ⟨K.blk k, 4, none⟩ (IN 2)) := (Only.set (p := fun i => i = K.blk k) _ rfl).then (Only.set (p := fun i => i = K.blk k) _ rfl)
 have ho2 : Only (InSteps E K) w ((w.setCell ⟨K.blk k, 6, none⟩ (S (E.ans k).1)).setCell ⟨K.blk k, 4, none⟩ (IN 2)) := ho.mono fun i _ e => ⟨k, hk, e⟩
 refine ⟨h.change ho2 fun j hj => ?_, ho2⟩
 by_cases e : j = k
 ·subst e
  have h2 := heap_setCell_same (h.step j hj) 6 (S (E.ans j).1)
  rw [heap_setCell_same h2]
  have e4 : (doneP s j false).st j = 2 := if_pos rfl
  have e5 : (doneP s j false).hit j = false := if_pos rfl
  unfold stepC outC whyC
  rw [e4, e5, h1]
  rfl
 ·rw [stepC_done e]
  exact ho.heapOf (h.step j hj) (fun e2 => e (h.inj j hj k hk e2))

set_option maxRecDepth 100000 in
set_option maxHeartbeats 2000000 in
theorem run_miss (h : BldAt w P base E K s) (hE : Errs w P [5]) (z : Int) (hz : ∀ k ∈ E.sm, (k : Int) ≠ z) :
  Calls Tryz.prog 56 #[PTR K.b, I z] w (RunPost w P base E K (false, 6) s) := by
 have c1 := (h.cell 1).trans (rfl : _ = some (Value.map (some K.lb)))
 have hlk := KMap.look (P := Tryz.prog) keyOk_int h.steps Tryz.underlying184 Tryz.underlying3 (z := .pointer none) (by kernel_rfl) z
 rw [steps_miss hz] at hlk
 simp only [Option.isSome_none] at hlk
 have c0 := hE.var 5 _ (by decide) rfl
 have HB := Lib.hid h
 clear h hE hz
 go_enter Tryz.func56, Tryz.ntmps56
 go_wp2_with fail
 go_quiet (fail)
 go_wp2_with fail
 go_ret2
 exact ⟨rfl, HB.out.ext (Only.drewN _ _ _), Only.drewN _ _ _⟩

set_option maxRecDepth 100000 in
set_option maxHeartbeats 2000000 in
theorem run_done (h : BldAt w P base E K s) (hE : Errs w P [11]) {i : Nat} (hi : i ∈ E.sm) (h1 : s.st i ≠ 1) :
  Calls Tryz.prog 56 #[PTR K.b, IN i] w (RunPost w P base E K (false, 12) s) := by
 have c1 := (h.cell 1).trans (rfl : _ = some (Value.map (some K.lb)))
 have hlk := KMap.look (P := Tryz.prog) keyOk_int h.steps Tryz.underlying184 Tryz.underlying3 (z := .pointer none) (by kernel_rfl) (i : Int)
 rw [steps_lookup hi] at hlk
 simp only [Option.isSome_some] at hlk
 have s4 := (h.stepCell hi 4).trans (rfl : _ = some (IN (s.st i)))
 have hne : (((s.st i : Nat) : Int) != 1) = true := by rw [bne_iff_ne]; omega
 have c0 := hE.var 11 _ (by decide) rfl
 have HB := Lib.hid h
 clear h hE hi h1
 go_enter Tryz.func56, Tryz.ntmps56
 go_wp2_with fail
 go_quiet (fail)
 go_wp2_with fail
 go_ret2
 exact ⟨rfl, HB.out.ext (Only.drewN _ _ _), Only.drewN _ _ _⟩

set_option maxRecDepth 100000 in
set_option maxHeartbeats 2000000 in
theorem run_turn (h : BldAt w P base E K s) (hW : BWell E o is) (hL : BLens E) (hE : Errs w P [10]) {i : Nat} (hi : i ∈ E.sm) (h1 : s.st i = 1) (hr : readyP E s i = false) :
  Calls Tryz.prog 56 #[PTR K.b, IN i] w (RunPost w P base E K (false, 11) s) := by
 have c1 := (h.cell 1).trans (rfl : _ = some (Value.map (some K.lb)))
 have hlk := KMap.look (P := Tryz.prog) keyOk_int h.steps Tryz.underlying184 Tryz.underlying3 (z := .pointer none) (by kernel_rfl) (i : Int)
 rw [steps_lookup hi] at hlk
 simp only [Option.isSome_some] at hlk
 have s4 : w.cell? ⟨K.blk i, 4, none⟩ = some (.int .i64 1) := by rw [h.stepCell hi 4]; show some (IN (s.st i)) = _; rw [h1]; rfl
 have hra := ready_any w P base E K s o is i hi h hW (hL.many i hi)
 rw [hr] at hra
 have HR := Lib.hid hra
 have HE := Lib.hid hE
 have HB := Lib.hid h
 clear h hE hi h1 hr hW hL hra
 go_enter Tryz.func56, Tryz.ntmps56
 go_wp2_with fail
 refine HR.out.mono ?_
 rintro e w1 ⟨rfl, ho⟩
 have c0 := (HE.out.ext ho).var 10 _ (by decide) rfl
 have HX := Lib.hid ho
 clear ho
 go_wp2_with fail
 go_quiet (fail)
 go_wp2_with fail
 go_ret2
 exact ⟨rfl, HB.out.ext (HX.out.thenDrewN _), Only.of_ext (HX.out.thenDrewN _)⟩

set_option maxRecDepth 100000 in
set_option maxHeartbeats 4000000 in
theorem run_none (h : BldAt w P base E K s) (hW : BWell E o is) (hI : BInv E s) (hL : BLens E) (hE : Errs w P [5]) {i : Nat} (hi : i ∈ E.sm) (hr : readyP E s i = true) {j : Nat} {q : B} (hq : (E.rule i).ins[j]? = some q) (hbad : (E.W q).2 ≠ 0) (ha : E.ans i = ([], 6)) :
  Calls Tryz.prog 56 #[PTR K.b, IN i] w (RunPost w P base E K (false, 0) (failP E s i)) := by
 have h1 := (ready_iff.1 hr).1
 have c1 := (h.cell 1).trans (rfl : _ = some (Value.map (some K.lb)))
 have hlk := KMap.look (P := Tryz.prog) keyOk_int h.steps Tryz.underlying184 Tryz.underlying3 (z := .pointer none) (by kernel_rfl) (i : Int)
 rw [steps_lookup hi] at hlk
 simp only [Option.isSome_some] at hlk
 have s4 : w.cell? ⟨K.blk i, 4, none⟩ = some (.int .i64 1) := by rw [h.stepCell hi 4]; show some (IN (s.st i)) = _; rw [h1]; rfl
 have hra := ready_any w P base E K s o is i hi h hW (hL.many i hi)
 rw [hr] at hra
 have HR := Lib.hid hra
 have HE := Lib.hid hE
 have HB := Lib.hid h
 have HIN := Lib.hid (fun w1 (hx : Ext w w1) => inputs_any w1 P base E K s o is i hi (h.ext hx) hW hI hr (hL.many i hi) false ⟨(fun e => by cases e), fun _ => ⟨j, q, hq, hbad⟩⟩)
 have HF := Lib.hid (fun w1 (hx : Ext w w1) => fail_any w1 P base E K s o is i hi h1 (h.ext hx) hW hL.many (by rw [ha]; decide))
 rw [ha] at HF
 clear h hE hi h1 hr hW hL hra hI hq hbad ha
 go_enter Tryz.func56, Tryz.ntmps56
 go_wp2_with fail
 refine HR.out.mono ?_
 rintro e w1 ⟨rfl, ho⟩
 have HX := Lib.hid ho
 clear ho
 go_wp2_with fail
 refine (HIN.out w1 HX.out).mono ?_
 rintro e w2 ⟨v, rfl, ho, hrow⟩
 have HX2 := Lib.hid (HX.out.then ho)
 obtain ⟨av, cv, rfl, _, _, _⟩ := hrow.rd
 clear ho hrow
 have c0 := (HE.out.ext HX2.out).var 5 _ (by decide) rfl
 go_wp2_with fail
 refine (HF.out w2 HX2.out).mono ?_
 rintro e w3 ⟨rfl, hb, ho⟩
 have HB3 := Lib.hid hb
 have HO3 := Lib.hid (Only.after HX2.out ho)
 clear hb ho
 go_wp2_with fail
 go_ret2
 exact ⟨rfl, HB3.out, HO3.out⟩
end
end Go.Proofs.YtnmhaipjfpongacGreatDoor

namespace Go.Proofs.YtnmhaipjfpongacGreatDoor
open Go.ChangeShapes Go.WideShapes Go.ChangeAt Go.RowKit

def stateB : Nat → B
 | 1 => [119, 97, 105, 116, 115]
 | 2 => [100, 111, 110, 101]
 | 3 => [102, 97, 105, 108, 101, 100]
 | 4 => [108, 101, 102, 116]
 | _ => []
def stateZ (E : BE) (s : BS) (z : Int) : B := if 0 ≤ z ∧ z.toNat ∈ E.sm then stateB (s.st z.toNat) else []
theorem stateZ_in {E : BE} {s : BS} {i : Nat} (hi : i ∈ E.sm) : stateZ E s (i : Int) = stateB (s.st i) := by
 unfold stateZ
 rw [if_pos ⟨by omega, by rw [Int.toNat_natCast]; exact hi⟩, Int.toNat_natCast]
theorem stateZ_out {E : BE} {s : BS} {z : Int} (h : ∀ k ∈ E.sm, (k : Int) ≠ z) : stateZ E s z = [] := by
 unfold stateZ
 exact if_neg fun ⟨h1, h2⟩ => h _ h2 (by omega)
theorem z_cases (E : BE) (z : Int) : (∃ i : Nat, z = (i : Int) ∧ i ∈ E.sm) ∨ ∀ k ∈ E.sm, (k : Int) ≠ z := by
 by_cases h : ∃ i : Nat, z = (i : Int) ∧ i ∈ E.sm
 ·exact .inl h
 ·exact .inr fun k hk e => h ⟨k, e.symm, hk⟩

def RetSt (v : Value) (w : World) (e : Ending) (w' : World) : Prop := e = .returned v ∧ w = w'
section
variable {w : World} {P : Nat → Addr} {base : Nat} {E : BE} {K : BK} {s : BS}

set_option maxRecDepth 100000 in
set_option maxHeartbeats 2000000 in
theorem state_any (h : BldAt w P base E K s) (hI : BInv E s) (z : Int) :
  Calls Tryz.prog 69 #[PTR K.b, I z] w (RetE (S (stateZ E s z)) w) := by
 have c1 := (h.cell 1).trans (rfl : _ = some (Value.map (some K.lb)))
 have hlk := KMap.look (P := Tryz.prog) keyOk_int h.steps Tryz.underlying184 Tryz.underlying3 (z := .pointer none) (by kernel_rfl) z
 rcases z_cases E z with ⟨i, rfl, hi⟩ | hz
 ·rw [steps_lookup hi] at hlk
  simp only [Option.isSome_some] at hlk
  rw [stateZ_in hi]
  have s4 := (h.stepCell hi 4).trans (rfl : _ = some (IN (s.st i)))
  have s4' := fun ob => (Only.alloc (fun _ => False) w ob).cellOf s4 (fun h => h)
  have hr := hI.rng i hi
  clear h hI hi
  rcases (show s.st i = 1 ∨ s.st i = 2 ∨ s.st i = 3 ∨ s.st i = 4 by omega) with e | e | e | e
  all_goals
   rw [e] at s4 s4' ⊢
   clear e hr
   go_enter Tryz.func69, Tryz.ntmps69
   go_wp2_with fail
   go_ret
   exact ⟨rfl, Only.alloc _ _ _⟩
 ·rw [steps_miss hz] at hlk
  simp only [Option.isSome_none] at hlk
  rw [stateZ_out hz]
  clear h hI hz
  go_enter Tryz.func69, Tryz.ntmps69
  go_wp2_with fail
  go_ret
  exact ⟨rfl, Only.refl _ _⟩

noncomputable def resZ (E : BE) (s : BS) (z : Int) : B × Bool := if 0 ≤ z ∧ z.toNat ∈ E.sm ∧ s.st z.toNat = 2 then ((E.ans z.toNat).1, true) else ([], false)
theorem resZ_in {E : BE} {s : BS} {i : Nat} (hi : i ∈ E.sm) (h2 : s.st i = 2) : resZ E s (i : Int) = ((E.ans i).1, true) := by
 unfold resZ
 rw [if_pos ⟨by omega, by rw [Int.toNat_natCast]; exact hi, by rw [Int.toNat_natCast]; exact h2⟩, Int.toNat_natCast]
theorem resZ_not {E : BE} {s : BS} {i : Nat} (h2 : s.st i ≠ 2) : resZ E s (i : Int) = ([], false) := by
 unfold resZ
 exact if_neg fun ⟨_, _, h3⟩ => h2 (by rwa [Int.toNat_natCast] at h3)
theorem resZ_out {E : BE} {s : BS} {z : Int} (h : ∀ k ∈ E.sm, (k : Int) ≠ z) : resZ E s z = ([], false) := by
 unfold resZ
 exact if_neg fun ⟨h1, h2, _⟩ => h _ h2 (by omega)

set_option maxRecDepth 100000 in
set_option maxHeartbeats 2000000 in
theorem result_any (h : BldAt w P base E K s) (z : Int) :
  Calls Tryz.prog 68 #[PTR K.b, I z] w (RetSt (.tuple #[S (resZ E s z).1, .bool (resZ E s z).2]) w) := by
 have c1 := (h.cell 1).trans (rfl : _ = some (Value.map (some K.lb)))
 have hlk := KMap.look (P := Tryz.prog) keyOk_int h.steps Tryz.underlying184 Tryz.underlying3 (z := .pointer none) (by kernel_rfl) z
 rcases z_cases E z with ⟨i, rfl, hi⟩ | hz
 ·rw [steps_lookup hi] at hlk
  simp only [Option.isSome_some] at hlk
  have s4 := (h.stepCell hi 4).trans (rfl : _ = some (IN (s.st i)))
  have s6 := (h.stepCell hi 6).trans (rfl : _ = some (outC E s i))
  by_cases h2 : s.st i = 2
  ·rw [resZ_in hi h2]
   unfold outC at s6
   rw [if_pos h2] at s6
   rw [h2] at s4
   clear h hi h2
   go_enter Tryz.func68, Tryz.ntmps68
   go_wp2_with fail
   go_ret2
   exact ⟨rfl, rfl⟩
  ·rw [resZ_not h2]
   have hne : (((s.st i : Nat) : Int) != 2) = true := by rw [bne_iff_ne]; omega
   clear h hi h2 s6
   go_enter Tryz.func68, Tryz.ntmps68
   go_wp2_with fail
   go_ret2
   exact ⟨rfl, rfl⟩
 ·rw [steps_miss hz] at hlk
  simp only [Option.isSome_none] at hlk
  rw [resZ_out hz]
  clear h hz
  go_enter Tryz.func68, Tryz.ntmps68
  go_wp2_with fail
  go_ret2
  exact ⟨rfl, rfl⟩
end
end Go.Proofs.YtnmhaipjfpongacGreatDoor

namespace Go.Proofs.YtnmhaipjfpongacGreatDoor

section
variable {E : BE} {o : List Nat} {is : Nat → Bool}
end

def CacheOk (L : FL) : Prop := ∀ k x, L.lookup k = some x → ∃ kind word ins, k = keyT kind word ins ∧ runCode kind word ins = 0 ∧ x = runOut kind word ins
theorem CacheOk.nil : CacheOk [] := fun _ _ h => by cases h
theorem CacheOk.hit {L : FL} (h : CacheOk L) {kind word : B} {ins : List B} {x : B} (hx : L.lookup (keyT kind word ins) = some x) : runCode kind word ins = 0 ∧ x = runOut kind word ins := by
 obtain ⟨k, w, i, e, h1, h2⟩ := h _ _ hx
 obtain ⟨rfl, rfl, rfl⟩ := keyT_inj e
 exact ⟨h1, h2⟩

theorem lookup_drop {k s : B} : ∀ (L : FL), s ≠ k → (L.filter fun p => !(p.1 == k)).lookup s = L.lookup s
 | [], _ => rfl
 | (a, x) :: L, h => by
  by_cases ha : a = k
  ·subst ha
   have hs : (s == a) = false := beq_eq_false_iff_ne.2 h
   rw [List.filter_cons_of_neg (by simp), lookup_drop L h, List.lookup, hs]
  ·rw [List.filter_cons_of_pos (by simpa using ha)]
   simp only [List.lookup]
   rw [lookup_drop L h]
theorem lookup_gone {k : B} : ∀ (L : FL), (L.filter fun p => !(p.1 == k)).lookup k = none
 | [] => rfl
 | (a, x) :: L => by
  by_cases ha : a = k
  ·subst ha
   rw [List.filter_cons_of_neg (by simp)]
   exact lookup_gone L
  ·have hs : (k == a) = false := beq_eq_false_iff_ne.2 (Ne.symm ha)
   rw [List.filter_cons_of_pos (by simpa using ha)]
   simp only [List.lookup, hs]
   exact lookup_gone L
theorem lookup_app (L : FL) (k x s : B) : (L ++ [(k, x)]).lookup s = match L.lookup s with | some y => some y | none => if s = k then some x else none := by
 rw [List.lookup_append]
 cases h : L.lookup s with
 | some y => rfl
 | none =>
  rw [Option.none_or]
  by_cases e : s = k
  ·subst e; simp [List.lookup]
  ·have : (s == k) = false := beq_eq_false_iff_ne.2 e
   simp [List.lookup, this, e]
theorem lookup_last (L : FL) (k x s : B) : ((L.filter fun p => !(p.1 == k)) ++ [(k, x)]).lookup s = if s = k then some x else L.lookup s := by
 rw [lookup_app]
 by_cases e : s = k
 ·subst e
  rw [lookup_gone, if_pos rfl]
  simp
 ·rw [lookup_drop L e, if_neg e, if_neg e]
  cases L.lookup s <;> rfl
theorem lookup_get (L : FL) (k s : B) : (getL L k).lookup s = L.lookup s := by
 unfold getL
 cases h : L.lookup k with
 | none => rfl
 | some x =>
  simp only
  rw [lookup_last]
  by_cases e : s = k
  ·rw [if_pos e, e, h]
  ·rw [if_neg e]
theorem lookup_tail {L : FL} {s x : B} (hn : (L.map (·.1)).Nodup) (h : L.tail.lookup s = some x) : L.lookup s = some x := by
 cases L with
 | nil => exact h
 | cons p L =>
  obtain ⟨a, y⟩ := p
  have hm := mem_of_lookup h
  rw [List.map_cons, List.nodup_cons] at hn
  have : (s == a) = false := beq_eq_false_iff_ne.2 fun e => hn.1 (List.mem_map.2 ⟨(s, x), hm, e⟩)
  rw [List.lookup, this]
  exact h
theorem nodup_last {L : FL} (hn : (L.map (·.1)).Nodup) (k x : B) : (((L.filter fun p => !(p.1 == k)) ++ [(k, x)]).map (·.1)).Nodup := by
 rw [List.map_append, List.map_cons, List.map_nil]
 have h1 : ((L.filter fun p => !(p.1 == k)).map (·.1)).Nodup := hn.sublist ((List.filter_sublist).map _)
 refine List.nodup_append.2 ⟨h1, List.nodup_cons.2 ⟨by simp, List.nodup_nil⟩, fun a ha b hb e => ?_⟩
 rw [List.mem_singleton] at hb
 obtain ⟨p, hp, rfl⟩ := List.mem_map.1 ha
 have := (List.mem_filter.1 hp).2
 rw [e, hb] at this
 simp at this
theorem put_lookup {L : FL} {many : Nat} {k x s y : B} (hn : (L.map (·.1)).Nodup) (h : (putL many L k x).lookup s = some y) : (s = k ∧ y = x) ∨ L.lookup s = some y := by
 have key : ((L.filter fun p => !(p.1 == k)) ++ [(k, x)]).lookup s = some y → (s = k ∧ y = x) ∨ L.lookup s = some y := fun h => by
  rw [lookup_last] at h
  by_cases e : s = k
  ·rw [if_pos e] at h; exact .inl ⟨e, (Option.some.inj h).symm⟩
  ·rw [if_neg e] at h; exact .inr h
 unfold putL at h
 split at h
 ·exact key (lookup_tail (nodup_last hn k x) h)
 ·exact key h
theorem CacheOk.get {L : FL} (h : CacheOk L) (k : B) : CacheOk (getL L k) := fun s x hs => h s x (by rwa [lookup_get] at hs)
theorem CacheOk.put {L : FL} (h : CacheOk L) (hn : (L.map (·.1)).Nodup) (many : Nat) {kind word : B} {ins : List B} (h0 : runCode kind word ins = 0) : CacheOk (putL many L (keyT kind word ins) (runOut kind word ins)) := fun s x hs => by
 rcases put_lookup hn hs with ⟨rfl, rfl⟩ | hs
 ·exact ⟨kind, word, ins, rfl, h0, rfl⟩
 ·exact h s x hs

structure Roomy (E : BE) (many : Nat) (s : BS) (L : FL) : Prop where
 nodup : (L.map (·.1)).Nodup
 keys : ∀ k ∈ L.map (·.1), ∃ i ∈ E.sm, k = E.key i
 has : ∀ i ∈ E.sm, s.st i = 2 → (L.lookup (E.key i)).isSome = true
theorem len_keys {E : BE} {L : FL} (hn : (L.map (·.1)).Nodup) (hk : ∀ k ∈ L.map (·.1), ∃ i ∈ E.sm, k = E.key i) : L.length ≤ E.sm.length := by
 have := nodup_len (b := E.sm.map E.key) hn fun k h => by
  obtain ⟨i, hi, e⟩ := hk k h
  exact List.mem_map.2 ⟨i, hi, e.symm⟩
 rwa [List.length_map, List.length_map] at this
theorem keys_last {L : FL} {k x s : B} (h : s ∈ ((L.filter fun p => !(p.1 == k)) ++ [(k, x)]).map (·.1)) : s = k ∨ s ∈ L.map (·.1) := by
 rw [List.map_append, List.map_cons, List.map_nil] at h
 rcases List.mem_append.1 h with h | h
 ·obtain ⟨p, hp, rfl⟩ := List.mem_map.1 h
  exact .inr (List.mem_map.2 ⟨p, (List.mem_filter.1 hp).1, rfl⟩)
 ·exact .inl (List.mem_singleton.1 h)
theorem Roomy.put {E : BE} {many : Nat} {s : BS} {L : FL} (h : Roomy E many s L) (hm : E.sm.length ≤ many) {i : Nat} (hi : i ∈ E.sm) (x : B) {s' : BS} (hs : ∀ k ∈ E.sm, s'.st k = 2 → k = i ∨ s.st k = 2) : Roomy E many s' (putL many L (E.key i) x) := by
 have hn := nodup_last h.nodup (E.key i) x
 have hk : ∀ k ∈ ((L.filter fun p => !(p.1 == E.key i)) ++ [(E.key i, x)]).map (·.1), ∃ j ∈ E.sm, k = E.key j := fun k hk => by
  rcases keys_last hk with rfl | hk
  ·exact ⟨i, hi, rfl⟩
  ·exact h.keys k hk
 have hlen := len_keys hn hk
 have e : putL many L (E.key i) x = (L.filter fun p => !(p.1 == E.key i)) ++ [(E.key i, x)] := by
  unfold putL
  exact if_neg (by omega)
 rw [e]
 refine ⟨hn, hk, fun j hj h2 => ?_⟩
 rw [lookup_last]
 by_cases ej : E.key j = E.key i
 ·rw [if_pos ej]; rfl
 ·rw [if_neg ej]
  rcases hs j hj h2 with rfl | h2
  ·exact absurd rfl ej
  ·exact h.has j hj h2
theorem Roomy.get {E : BE} {many : Nat} {s : BS} {L : FL} (h : Roomy E many s L) {i : Nat} (hk : (L.lookup (E.key i)).isSome = true) {s' : BS} (hs : ∀ k ∈ E.sm, s'.st k = 2 → k = i ∨ s.st k = 2) : Roomy E many s' (getL L (E.key i)) := by
 refine ⟨?_, fun k hkm => ?_, fun j hj h2 => ?_⟩
 ·unfold getL
  split
  ·exact nodup_last h.nodup _ _
  ·exact h.nodup
 ·unfold getL at hkm
  split at hkm
  ·rename_i x hx
   rcases keys_last hkm with rfl | hkm
   ·exact h.keys _ (List.mem_map.2 ⟨_, mem_of_lookup hx, rfl⟩)
   ·exact h.keys k hkm
  ·exact h.keys k hkm
 ·rw [lookup_get]
  rcases hs j hj h2 with rfl | h2
  ·exact hk
  ·exact h.has j hj h2
end Go.Proofs.YtnmhaipjfpongacGreatDoor

namespace Go.Proofs.YtnmhaipjfpongacGreatDoor
open Go.ChangeShapes Go.WideShapes Go.ChangeAt Go.RowKit

section
variable {w w' : World} {P : Nat → Addr} {base : Nat} {E : BE} {K : BK} {s : BS}
theorem BldAt.hits (h : BldAt w P base E K s) {k : Nat} (hk : k ∈ E.sm) (h1 : s.st k = 1) {x : B} (hx : x = (E.ans k).1) : BldAt (((w.setCell ⟨K.blk k, 6, none⟩ (S x)).setCell ⟨K.blk k, 5, none⟩ (.bool true)).setCell ⟨K.blk k, 4, none⟩ (IN 2)) P base E K (doneP s k true) ∧ Only (InSteps E K) w (((w.setCell ⟨K.blk k, 6, none⟩ (S x)).setCell ⟨K.blk k, 5, none⟩ (.bool true)).setCell ⟨K.blk k, 4, none⟩ (IN 2)) := by
 have ho : Only (fun i => i = K.blk k) w (((w.setCell ⟨K.blk k, 6, none⟩ (S x)).setCell ⟨K.blk k, 5, none⟩ (.bool true)).setCell ⟨K.blk k, 4, none⟩ (IN 2)) := ((Only.set (p := fun i => i = K.blk k) _ rfl).then (Only.set (p := fun i => i = K.blk k) _ rfl)).then (Only.set (p := fun i => i = K.blk k) _ rfl)
 have ho2 : Only (InSteps E K) w (((w.setCell ⟨K.blk k, 6, none⟩ (S x)).setCell ⟨K.blk k, 5, none⟩ (.bool true)).setCell ⟨K.blk k, 4, none⟩ (IN 2)) := ho.mono fun i _ e => ⟨k, hk, e⟩
 refine ⟨h.change ho2 fun j hj => ?_, ho2⟩
 by_cases e : j = k
 ·subst e
  have h2 := heap_setCell_same (h.step j hj) 6 (S x)
  have h3 := heap_setCell_same h2 5 (.bool true)
  rw [heap_setCell_same h3, hx]
  have e4 : (doneP s j true).st j = 2 := if_pos rfl
  have e5 : (doneP s j true).hit j = true := if_pos rfl
  unfold stepC outC whyC
  rw [e4, e5, h1]
  rfl
 ·rw [stepC_done e]
  exact ho.heapOf (h.step j hj) (fun e2 => e (h.inj j hj k hk e2))
end

structure CchAt (w : World) (E : BE) (K : BK) (cb cmb : Nat) (sv : Value) (many : Nat) (L : FL) : Prop where
 cache : CacheAt w cb cmb sv many L
 ok : CacheOk L
 len : L.length ≤ many
 many : many ≤ 100
 apart : ∀ i, InCache cb cmb sv i → ¬ InBld E K i
section
variable {w w' : World} {P : Nat → Addr} {base : Nat} {E : BE} {K : BK} {s : BS} {cb cmb : Nat} {sv : Value} {many : Nat} {L L' : FL}
theorem CchAt.steps (h : CchAt w E K cb cmb sv many L) (ho : Only (InSteps E K) w w') : CchAt w' E K cb cmb sv many L := ⟨h.cache.later ho (fun i hi e => h.apart i hi e.bld), h.ok, h.len, h.many, h.apart⟩
theorem CchAt.ext (h : CchAt w E K cb cmb sv many L) (ho : Ext w w') : CchAt w' E K cb cmb sv many L := ⟨h.cache.later ho (fun _ _ h => h), h.ok, h.len, h.many, h.apart⟩
theorem CchAt.bld (h : CchAt w E K cb cmb sv many L) (hb : BldAt w P base E K s) (ho : Only (InCache cb cmb sv) w w') : BldAt w' P base E K s := hb.later ho (fun i hi e => h.apart i e hi)
theorem CchAt.got (h : CchAt w E K cb cmb sv many L) (hb : BldAt w P base E K s) (hok : CacheOk L') (hlen : L'.length ≤ many) {r : Value} {e : Ending} (hg : Got w cb cmb sv many L' r e w') :
  ∃ sv', e = .returned r ∧ CchAt w' E K cb cmb sv' many L' ∧ BldAt w' P base E K s ∧ Only (InCache cb cmb sv) w w' ∧ ∀ i, InCache cb cmb sv' i → InCache cb cmb sv i ∨ w.heap.size ≤ i := by
 obtain ⟨sv', rfl, hc, ho, hn⟩ := hg
 refine ⟨sv', rfl, ⟨hc, hok, hlen, h.many, fun i hi e => ?_⟩, h.bld hb ho, ho, hn⟩
 rcases hn i hi with h1 | h1
 ·exact h.apart i h1 e
 ·have := hb.lt i e; omega
end
theorem putL_le {n : Nat} {L : FL} (k x : B) (h : L.length ≤ n) : (putL n L k x).length ≤ n := by
 unfold putL
 have := List.length_filter_le (fun p : B × B => !(p.1 == k)) L
 split
 ·simp only [List.length_tail, List.length_append, List.length_cons, List.length_nil]
  omega
 ·rename_i h2
  omega
theorem getL_le {n : Nat} {L : FL} (k : B) (hn : (L.map (·.1)).Nodup) (h : L.length ≤ n) : (getL L k).length ≤ n := by
 unfold getL
 cases hl : L.lookup k with
 | none => exact h
 | some x =>
  have hp := (perm_of_lookup hn hl).length_eq
  simp only [List.length_append, List.length_cons, List.length_nil] at hp ⊢
  omega

def RunCPost (w : World) (P : Nat → Addr) (base : Nat) (E : BE) (K : BK) (cb cmb : Nat) (sv : Value) (many : Nat) (L : FL) (r : Bool × Nat) (s : BS) (e : Ending) (w' : World) : Prop :=
 ∃ sv', e = .returned (.tuple #[.bool r.1, errC P r.2]) ∧ BldAt w' P base E K s ∧ CchAt w' E K cb cmb sv' many L ∧ Only (fun i => InSteps E K i ∨ InCache cb cmb sv i) w w' ∧ ∀ i, InCache cb cmb sv' i → InCache cb cmb sv i ∨ w.heap.size ≤ i
end Go.Proofs.YtnmhaipjfpongacGreatDoor

namespace Go.Proofs.YtnmhaipjfpongacGreatDoor
open Go.ChangeShapes Go.WideShapes Go.ChangeAt Go.RowKit

section
variable {w w' : World} {P : Nat → Addr} {base : Nat} {E : BE} {K : BK} {s : BS} {o : List Nat} {is : Nat → Bool}

set_option maxRecDepth 100000 in
set_option maxHeartbeats 6000000 in
theorem runN_bad (h : BldAt w P base E K s) (hc : K.cp = .pointer none) (hW : BWell E o is) (hI : BInv E s) (hL : BLens E) (hA : ActVars w P) {i : Nat} (hi : i ∈ E.sm) (hr : readyP E s i = true) (hz : ∀ q ∈ (E.rule i).ins, (E.W q).2 = 0)
  (ha : E.ans i = (runOut (E.rule i).kind (E.rule i).word (E.args i), runCode (E.rule i).kind (E.rule i).word (E.args i))) (hb : (E.ans i).2 ≠ 0) :
  Calls Tryz.prog 56 #[PTR K.b, IN i] w (RunPost w P base E K (false, 0) (failP E s i)) := by
 have h1 := (ready_iff.1 hr).1
 have c1 := (h.cell 1).trans (rfl : _ = some (Value.map (some K.lb)))
 have c3 := (h.cell 3).trans (rfl : _ = some K.cp)
 rw [hc] at c3
 have hlk := KMap.look (P := Tryz.prog) keyOk_int h.steps Tryz.underlying184 Tryz.underlying3 (z := .pointer none) (by kernel_rfl) (i : Int)
 rw [steps_lookup hi] at hlk
 simp only [Option.isSome_some] at hlk
 have s4 : w.cell? ⟨K.blk i, 4, none⟩ = some (.int .i64 1) := by rw [h.stepCell hi 4]; show some (IN (s.st i)) = _; rw [h1]; rfl
 have hra := ready_any w P base E K s o is i hi h hW (hL.many i hi)
 rw [hr] at hra
 have HR := Lib.hid hra
 have HB := Lib.hid h
 have HIN := Lib.hid (fun w1 (hx : Ext w w1) => inputs_any w1 P base E K s o is i hi (h.ext hx) hW hI hr (hL.many i hi) true ⟨fun _ => hz, fun e => by cases e⟩)
 have HF := Lib.hid (fun w1 (hx : Ext w w1) (hbd : (E.ans i).2 ≠ 0) => fail_any w1 P base E K s o is i hi h1 (h.ext hx) hW hL.many hbd)
 have HDN := Lib.hid (fun w1 (hx : Ext w w1) => (h.ext hx).done hi h1)
 have HFR := Lib.hid (fun w1 (hx : Ext w w1) (j : Nat) => (h.ext hx).free hi j)
 have HSC := Lib.hid (fun w1 (hx : Ext w w1) (j : Nat) => (h.ext hx).stepCell hi j)
 obtain ⟨hal, hax⟩ := hL.args hW hi
 have hsum : sumLen (E.args i) + (E.args i).length ≤ 900000 := by
  have := sum_le hax
  have h5 : (E.args i).length * 2000 ≤ 12 * 2000 := Nat.mul_le_mul_right _ hal
  omega
 have hkw := hL.word i hi
 have HRUN := Lib.hid (fun w1 (hx : Ext w w1) (v : Value) (hv : Rd S w1 v (E.args i)) => actRun_any w1 P (E.rule i).kind (E.rule i).word (E.args i) v hv hsum (by omega) (hA.ext hx))
 have HPW := Lib.hid hA.pow
 have HKEY := Lib.hid (fun w1 (hx : Ext w w1) (v : Value) (hv : Rd S w1 v (E.args i)) => keyBig_any w1 (E.rule i).kind (E.rule i).word v (E.args i) hv (hL.kind i hi) (hL.word i hi) hal (fun x hx => by have := hax x hx; omega) (HPW.out.ext hx))
 have k1 := (h.stepCell hi 1).trans (rfl : _ = some (S (E.rule i).kind))
 have k2 := (h.stepCell hi 2).trans (rfl : _ = some (S (E.rule i).word))
 have e1 : runOut (E.rule i).kind (E.rule i).word (E.args i) = (E.ans i).1 := by rw [ha]
 have e2 : runCode (E.rule i).kind (E.rule i).word (E.args i) = (E.ans i).2 := by rw [ha]
 rw [e1, e2] at HRUN
 have HF := Lib.hid (fun w1 (hx : Ext w w1) => HF.out w1 hx hb)
 obtain ⟨c, hcc⟩ : ∃ c, (E.ans i).2 = c + 1 := ⟨(E.ans i).2 - 1, by omega⟩
 rw [hcc, show errC P (c + 1) = errV (P c) from rfl] at HRUN HF
 have HIM := Lib.hid hi
 clear h hc hi h1 hr hW hL hra hI hz ha hal hax hsum hkw hA e1 e2 HPW hb
 generalize E.args i = args at *
 generalize (E.rule i).kind = kd at *
 generalize (E.rule i).word = wd at *
 generalize keyT kd wd args = key at HKEY
 go_enter Tryz.func56, Tryz.ntmps56
 go_wp2_with fail
 refine HR.out.mono ?_
 rintro e w1 ⟨rfl, ho⟩
 have HX := Lib.hid ho
 clear ho
 go_wp2_with fail
 refine (HIN.out w1 HX.out).mono ?_
 rintro e w2 ⟨v, rfl, ho, hrow⟩
 have HX2 := Lib.hid (HX.out.then ho)
 have hrd : Rd S w2 v args := hrow.rd
 have HRD := Lib.hid hrd
 obtain ⟨av, cv, rfl, _, _, _⟩ := hrd
 have HK1 := Lib.hid k1
 have HK2 := Lib.hid k2
 have m1 := HX2.out.cellOf k1 (fun h => h)
 have m2 := HX2.out.cellOf k2 (fun h => h)
 clear ho hrow k1 k2
 go_wp2_with fail
 go_region_held3 (fun w' => w'.cell? ⟨K.blk i, 1, none⟩ = some (S kd) ∧ w'.cell? ⟨K.blk i, 2, none⟩ = some (S wd)) (first | exact ⟨HX5.out.cellOf HK1.out (fun h => h), HX5.out.cellOf HK2.out (fun h => h)⟩ | exact ⟨m1, m2⟩ | go_keep)
  ((go_at_call 123; refine (HKEY.out _ (by first | exact HX2.out | exact HX2.out.thenDrew | exact HX2.out.thenDrewN _) _ (by first | exact HRD.out | exact HRD.out.ext (Only.drew _ _) | exact HRD.out.ext (Only.drewN _ _ _))).mono ?_; rintro e w5 ⟨rfl, ho⟩; have HX5 : Hid (Ext w w5) := Lib.hid (Only.ext (by first | exact HX2.out | exact HX2.out.thenDrew | exact HX2.out.thenDrewN _) ho); have HRD5 : Hid (Rd S w5 (.slice av args.length cv) args) := Lib.hid (Rd.ext (by first | exact HRD.out | exact HRD.out.ext (Only.drew _ _) | exact HRD.out.ext (Only.drewN _ _ _)) ho); clear ho))
 all_goals
  have n1 := HX5.out.cellOf HK1.out (fun h => h)
  have n2 := HX5.out.cellOf HK2.out (fun h => h)
  have n3 := HX5.out.cellOf c3 (fun h => h)
  clear m1 m2
  go_wp2_with fail
  go_region_held3 (fun w' => w'.cell? ⟨K.blk i, 1, none⟩ = some (S kd) ∧ w'.cell? ⟨K.blk i, 2, none⟩ = some (S wd)) (first | exact ⟨HX7.out.cellOf HK1.out (fun h => h), HX7.out.cellOf HK2.out (fun h => h)⟩ | exact ⟨n1, n2⟩ | go_keep)
   ((go_at_call 125; refine (HRUN.out _ (by first | exact HX5.out | exact HX5.out.thenDrew | exact HX5.out.thenDrewN _) _ (by first | exact HRD5.out | exact HRD5.out.ext (Only.drew _ _) | exact HRD5.out.ext (Only.drewN _ _ _))).mono ?_; rintro e w7 ⟨rfl, ho⟩; have HX7 : Hid (Ext w w7) := Lib.hid (Only.ext (by first | exact HX5.out | exact HX5.out.thenDrew | exact HX5.out.thenDrewN _) ho); clear ho))
  all_goals
   clear n1 n2 n3
   go_wp2_with fail
   refine (HF.out w7 HX7.out).mono ?_
   rintro e w8 ⟨rfl, hb8, ho8⟩
   have HB8 := Lib.hid hb8
   have HO8 := Lib.hid (Only.after HX7.out ho8)
   clear hb8 ho8
   go_wp2_with fail
   go_ret2
   exact ⟨rfl, HB8.out, HO8.out⟩

set_option maxRecDepth 100000 in
set_option maxHeartbeats 6000000 in
theorem runN_good (h : BldAt w P base E K s) (hc : K.cp = .pointer none) (hW : BWell E o is) (hI : BInv E s) (hL : BLens E) (hA : ActVars w P) {i : Nat} (hi : i ∈ E.sm) (hr : readyP E s i = true) (hz : ∀ q ∈ (E.rule i).ins, (E.W q).2 = 0)
  (ha : E.ans i = (runOut (E.rule i).kind (E.rule i).word (E.args i), runCode (E.rule i).kind (E.rule i).word (E.args i))) (hb : (E.ans i).2 = 0) :
  Calls Tryz.prog 56 #[PTR K.b, IN i] w (RunPost w P base E K (false, 0) (doneP s i false)) := by
 have h1 := (ready_iff.1 hr).1
 have c1 := (h.cell 1).trans (rfl : _ = some (Value.map (some K.lb)))
 have c3 := (h.cell 3).trans (rfl : _ = some K.cp)
 rw [hc] at c3
 have hlk := KMap.look (P := Tryz.prog) keyOk_int h.steps Tryz.underlying184 Tryz.underlying3 (z := .pointer none) (by kernel_rfl) (i : Int)
 rw [steps_lookup hi] at hlk
 simp only [Option.isSome_some] at hlk
 have s4 : w.cell? ⟨K.blk i, 4, none⟩ = some (.int .i64 1) := by rw [h.stepCell hi 4]; show some (IN (s.st i)) = _; rw [h1]; rfl
 have hra := ready_any w P base E K s o is i hi h hW (hL.many i hi)
 rw [hr] at hra
 have HR := Lib.hid hra
 have HB := Lib.hid h
 have HIN := Lib.hid (fun w1 (hx : Ext w w1) => inputs_any w1 P base E K s o is i hi (h.ext hx) hW hI hr (hL.many i hi) true ⟨fun _ => hz, fun e => by cases e⟩)
 have HF := Lib.hid (fun w1 (hx : Ext w w1) (hbd : (E.ans i).2 ≠ 0) => fail_any w1 P base E K s o is i hi h1 (h.ext hx) hW hL.many hbd)
 have HDN := Lib.hid (fun w1 (hx : Ext w w1) => (h.ext hx).done hi h1)
 have HFR := Lib.hid (fun w1 (hx : Ext w w1) (j : Nat) => (h.ext hx).free hi j)
 have HSC := Lib.hid (fun w1 (hx : Ext w w1) (j : Nat) => (h.ext hx).stepCell hi j)
 obtain ⟨hal, hax⟩ := hL.args hW hi
 have hsum : sumLen (E.args i) + (E.args i).length ≤ 900000 := by
  have := sum_le hax
  have h5 : (E.args i).length * 2000 ≤ 12 * 2000 := Nat.mul_le_mul_right _ hal
  omega
 have hkw := hL.word i hi
 have HRUN := Lib.hid (fun w1 (hx : Ext w w1) (v : Value) (hv : Rd S w1 v (E.args i)) => actRun_any w1 P (E.rule i).kind (E.rule i).word (E.args i) v hv hsum (by omega) (hA.ext hx))
 have HPW := Lib.hid hA.pow
 have HKEY := Lib.hid (fun w1 (hx : Ext w w1) (v : Value) (hv : Rd S w1 v (E.args i)) => keyBig_any w1 (E.rule i).kind (E.rule i).word v (E.args i) hv (hL.kind i hi) (hL.word i hi) hal (fun x hx => by have := hax x hx; omega) (HPW.out.ext hx))
 have k1 := (h.stepCell hi 1).trans (rfl : _ = some (S (E.rule i).kind))
 have k2 := (h.stepCell hi 2).trans (rfl : _ = some (S (E.rule i).word))
 have e1 : runOut (E.rule i).kind (E.rule i).word (E.args i) = (E.ans i).1 := by rw [ha]
 have e2 : runCode (E.rule i).kind (E.rule i).word (E.args i) = (E.ans i).2 := by rw [ha]
 rw [e1, e2] at HRUN
 rw [hb, show errC P 0 = .nilIface from rfl] at HRUN
 have HIM := Lib.hid hi
 clear h hc hi h1 hr hW hL hra hI hz ha hal hax hsum hkw hA e1 e2 HPW hb
 generalize E.args i = args at *
 generalize (E.rule i).kind = kd at *
 generalize (E.rule i).word = wd at *
 generalize keyT kd wd args = key at HKEY
 go_enter Tryz.func56, Tryz.ntmps56
 go_wp2_with fail
 refine HR.out.mono ?_
 rintro e w1 ⟨rfl, ho⟩
 have HX := Lib.hid ho
 clear ho
 go_wp2_with fail
 refine (HIN.out w1 HX.out).mono ?_
 rintro e w2 ⟨v, rfl, ho, hrow⟩
 have HX2 := Lib.hid (HX.out.then ho)
 have hrd : Rd S w2 v args := hrow.rd
 have HRD := Lib.hid hrd
 obtain ⟨av, cv, rfl, _, _, _⟩ := hrd
 have HK1 := Lib.hid k1
 have HK2 := Lib.hid k2
 have m1 := HX2.out.cellOf k1 (fun h => h)
 have m2 := HX2.out.cellOf k2 (fun h => h)
 clear ho hrow k1 k2
 go_wp2_with fail
 go_region_held3 (fun w' => w'.cell? ⟨K.blk i, 1, none⟩ = some (S kd) ∧ w'.cell? ⟨K.blk i, 2, none⟩ = some (S wd)) (first | exact ⟨HX5.out.cellOf HK1.out (fun h => h), HX5.out.cellOf HK2.out (fun h => h)⟩ | exact ⟨m1, m2⟩ | go_keep)
  ((go_at_call 123; refine (HKEY.out _ (by first | exact HX2.out | exact HX2.out.thenDrew | exact HX2.out.thenDrewN _) _ (by first | exact HRD.out | exact HRD.out.ext (Only.drew _ _) | exact HRD.out.ext (Only.drewN _ _ _))).mono ?_; rintro e w5 ⟨rfl, ho⟩; have HX5 : Hid (Ext w w5) := Lib.hid (Only.ext (by first | exact HX2.out | exact HX2.out.thenDrew | exact HX2.out.thenDrewN _) ho); have HRD5 : Hid (Rd S w5 (.slice av args.length cv) args) := Lib.hid (Rd.ext (by first | exact HRD.out | exact HRD.out.ext (Only.drew _ _) | exact HRD.out.ext (Only.drewN _ _ _)) ho); clear ho))
 all_goals
  have n1 := HX5.out.cellOf HK1.out (fun h => h)
  have n2 := HX5.out.cellOf HK2.out (fun h => h)
  have n3 := HX5.out.cellOf c3 (fun h => h)
  clear m1 m2
  go_wp2_with fail
  go_region_held3 (fun w' => w'.cell? ⟨K.blk i, 1, none⟩ = some (S kd) ∧ w'.cell? ⟨K.blk i, 2, none⟩ = some (S wd)) (first | exact ⟨HX7.out.cellOf HK1.out (fun h => h), HX7.out.cellOf HK2.out (fun h => h)⟩ | exact ⟨n1, n2⟩ | go_keep)
   ((go_at_call 125; refine (HRUN.out _ (by first | exact HX5.out | exact HX5.out.thenDrew | exact HX5.out.thenDrewN _) _ (by first | exact HRD5.out | exact HRD5.out.ext (Only.drew _ _) | exact HRD5.out.ext (Only.drewN _ _ _))).mono ?_; rintro e w7 ⟨rfl, ho⟩; have HX7 : Hid (Ext w w7) := Lib.hid (Only.ext (by first | exact HX5.out | exact HX5.out.thenDrew | exact HX5.out.thenDrewN _) ho); clear ho))
  all_goals
   have f6 := HFR.out w7 HX7.out 6
   have f4 := HFR.out w7 HX7.out 4
   have t6 := (HSC.out w7 HX7.out 6).trans (rfl : _ = some (outC E s i))
   have t4 := (HSC.out w7 HX7.out 4).trans (rfl : _ = some (IN (s.st i)))
   have u3 := HX7.out.cellOf c3 (fun h => h)
   have hne := ((HB.out.ext HX7.out).ne_step ((HB.out.ext HX7.out).cells) (by decide))
   have hnb : K.blk i ≠ K.b := fun e => hne ⟨i, HIM.out, e.symm⟩
   have HD := Lib.hid (HDN.out w7 HX7.out)
   clear n1 n2 n3 hne
   go_wp2_with fail
   go_ret2
   exact ⟨rfl, HD.out.1, Only.after HX7.out HD.out.2⟩

theorem runN_any (h : BldAt w P base E K s) (hc : K.cp = .pointer none) (hW : BWell E o is) (hI : BInv E s) (hL : BLens E) (hV : PV w P [2, 4, 5, 9, 10, 11]) (z : Int) :
  Calls Tryz.prog 56 #[PTR K.b, I z] w (RunPost w P base E K (runZ E none s z).1 (runZ E none s z).2.1) := by
 by_cases hz : ∃ i : Nat, z = (i : Int) ∧ i ∈ E.sm
 ·obtain ⟨i, rfl, hi⟩ := hz
  rw [runZ_in hi]
  by_cases h1 : s.st i = 1
  ·cases hr : readyP E s i with
   | false =>
    have e : runP E none s i = ((false, 11), s, none) := by
     unfold runP
     rw [if_neg (by simpa using hi), if_neg (by simpa using h1), if_pos hr]
    rw [e]
    exact run_turn h hW hL (hV.errs.sub (by decide)) hi h1 hr
   | true =>
    have e : runP E none s i = ((false, 0), if (E.ans i).2 ≠ 0 then failP E s i else doneP s i false, none) := by
     unfold runP
     rw [if_neg (by simpa using hi), if_neg (by simpa using h1), if_neg (by rw [hr]; decide)]
     by_cases ha : (E.ans i).2 ≠ 0
     ·rw [if_pos ha, if_pos ha]
     ·rw [if_neg ha, if_neg ha]
    rw [e]
    rcases hW.runs hI hi hr with ⟨j, q, hq, h2, h3, ha, _⟩ | ⟨hz, ha⟩
    ·rw [if_pos (show (E.ans i).2 ≠ 0 by rw [ha]; decide)]
     have hbad : (E.W q).2 ≠ 0 := by
      rcases hW.input hi (List.mem_of_getElem? hq) with ⟨k, _, _, _, hby, _⟩ | ⟨_, hw⟩
      ·rw [hby] at h2; cases h2
      ·rw [hw]; unfold wLeaf; rw [h3]; decide
     exact run_none h hW hI hL (hV.errs.sub (by decide)) hi hr hq hbad ha
    ·by_cases hb : (E.ans i).2 = 0
     ·rw [if_neg (by simpa using hb)]
      exact runN_good h hc hW hI hL (hV.act (by decide)) hi hr hz ha hb
     ·rw [if_pos hb]
      exact runN_bad h hc hW hI hL (hV.act (by decide)) hi hr hz ha hb
  ·have e : runP E none s i = ((false, 12), s, none) := by
    unfold runP
    rw [if_neg (by simpa using hi), if_pos h1]
   rw [e]
   exact run_done h (hV.errs.sub (by decide)) hi h1
 ·have hz2 : ∀ k ∈ E.sm, (k : Int) ≠ z := fun k hk e => hz ⟨k, e.symm, hk⟩
  rw [runZ_out hz2]
  exact run_miss h (hV.errs.sub (by decide)) z hz2
end
end Go.Proofs.YtnmhaipjfpongacGreatDoor

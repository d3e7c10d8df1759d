/- Texts of this seat laid together for one claim: Z11, Z9, Z20, Z19. No condition of its own: what each proves stands with its theorems. -/
import Derived.Test.YtnmhaipjfpongacGreatDoorSR28
import Derived.Test.YtnmhaipjfpongacGreatDoorSR17
import Derived.Test.YtnmhaipjfpongacGreatDoorSR25
import Derived.Test.YtnmhaipjfpongacGreatDoorSR29
namespace Go.Proofs.YtnmhaipjfpongacGreatDoor
open Go.ChangeShapes Go.WideShapes Go.ChangeAt Go.RowKit

def stateB : Nat → B
 | 1 => [119, 97, 105, 116, 115]
 | 2 => [100, 111, 110, 101]
 | 3 => [102, 97, 105, 108, 101, 100]
 | 4 => [108, 101, 102, 116]
 | _ => []
def stateZ (E : BE) (s : BS) (z : Int) : B := if 0 ≤ z ∧ z.toNat ∈ E.sm then stateB (s.st z.toNat) else []
theorem stateZ_in {E : BE} {s : BS} {i : Nat} (hi : i ∈ E.sm) : stateZ E s (i : Int) = stateB (s.st i) := by
 unfold stateZ
 rw [if_pos ⟨by omega, by rw [Int.toNat_natCast]; exact hi⟩, Int.toNat_natCast]
theorem stateZ_out {E : BE} {s : BS} {z : Int} (h : ∀ k ∈ E.sm, (k : Int) ≠ z) : stateZ E s z = [] := by
 unfold stateZ
 exact if_neg fun ⟨h1, h2⟩ => h _ h2 (by omega)
theorem z_cases (E : BE) (z : Int) : (∃ i : Nat, z = (i : Int) ∧ i ∈ E.sm) ∨ ∀ k ∈ E.sm, (k : Int) ≠ z := by
 by_cases h : ∃ i : Nat, z = (i : Int) ∧ i ∈ E.sm
 ·exact .inl h
 ·exact .inr fun k hk e => h ⟨k, e.symm, hk⟩

def RetSt (v : Value) (w : World) (e : Ending) (w' : World) : Prop := e = .returned v ∧ w = w'
section
variable {w : World} {P : Nat → Addr} {base : Nat} {E : BE} {K : BK} {s : BS}

set_option maxRecDepth 100000 in
set_option maxHeartbeats 2000000 in
theorem state_any (h : BldAt w P base E K s) (hI : BInv E s) (z : Int) :
  Calls Tryz.prog 69 #[PTR K.b, I z] w (RetE (S (stateZ E s z)) w) := by
 have c1 := (h.cell 1).trans (rfl : _ = some (Value.map (some K.lb)))
 have hlk := KMap.look (P := Tryz.prog) keyOk_int h.steps Tryz.underlying184 Tryz.underlying3 (z := .pointer none) (by kernel_rfl) z
 rcases z_cases E z with ⟨i, rfl, hi⟩ | hz
 ·rw [steps_lookup hi] at hlk
  simp only [Option.isSome_some] at hlk
  rw [stateZ_in hi]
  have s4 := (h.stepCell hi 4).trans (rfl : _ = some (IN (s.st i)))
  have s4' := fun ob => (Only.alloc (fun _ => False) w ob).cellOf s4 (fun h => h)
  have hr := hI.rng i hi
  clear h hI hi
  rcases (show s.st i = 1 ∨ s.st i = 2 ∨ s.st i = 3 ∨ s.st i = 4 by omega) with e | e | e | e
  all_goals
   rw [e] at s4 s4' ⊢
   clear e hr
   go_enter Tryz.func69, Tryz.ntmps69
   go_wp2_with fail
   go_ret
   exact ⟨rfl, Only.alloc _ _ _⟩
 ·rw [steps_miss hz] at hlk
  simp only [Option.isSome_none] at hlk
  rw [stateZ_out hz]
  clear h hI hz
  go_enter Tryz.func69, Tryz.ntmps69
  go_wp2_with fail
  go_ret
  exact ⟨rfl, Only.refl _ _⟩

noncomputable def resZ (E : BE) (s : BS) (z : Int) : B × Bool := if 0 ≤ z ∧ z.toNat ∈ E.sm ∧ s.st z.toNat = 2 then ((E.ans z.toNat).1, true) else ([], false)
theorem resZ_in {E : BE} {s : BS} {i : Nat} (hi : i ∈ E.sm) (h2 : s.st i = 2) : resZ E s (i : Int) = ((E.ans i).1, true) := by
 unfold resZ
 rw [if_pos ⟨by omega, by rw [Int.toNat_natCast]; exact hi, by rw [Int.toNat_natCast]; exact h2⟩, Int.toNat_natCast]
theorem resZ_not {E : BE} {s : BS} {i : Nat} (h2 : s.st i ≠ 2) : resZ E s (i : Int) = ([], false) := by
 unfold resZ
 exact if_neg fun ⟨_, _, h3⟩ => h2 (by rwa [Int.toNat_natCast] at h3)
theorem resZ_out {E : BE} {s : BS} {z : Int} (h : ∀ k ∈ E.sm, (k : Int) ≠ z) : resZ E s z = ([], false) := by
 unfold resZ
 exact if_neg fun ⟨h1, h2, _⟩ => h _ h2 (by omega)

set_option maxRecDepth 100000 in
set_option maxHeartbeats 2000000 in
theorem result_any (h : BldAt w P base E K s) (z : Int) :
  Calls Tryz.prog 68 #[PTR K.b, I z] w (RetSt (.tuple #[S (resZ E s z).1, .bool (resZ E s z).2]) w) := by
 have c1 := (h.cell 1).trans (rfl : _ = some (Value.map (some K.lb)))
 have hlk := KMap.look (P := Tryz.prog) keyOk_int h.steps Tryz.underlying184 Tryz.underlying3 (z := .pointer none) (by kernel_rfl) z
 rcases z_cases E z with ⟨i, rfl, hi⟩ | hz
 ·rw [steps_lookup hi] at hlk
  simp only [Option.isSome_some] at hlk
  have s4 := (h.stepCell hi 4).trans (rfl : _ = some (IN (s.st i)))
  have s6 := (h.stepCell hi 6).trans (rfl : _ = some (outC E s i))
  by_cases h2 : s.st i = 2
  ·rw [resZ_in hi h2]
   unfold outC at s6
   rw [if_pos h2] at s6
   rw [h2] at s4
   clear h hi h2
   go_enter Tryz.func68, Tryz.ntmps68
   go_wp2_with fail
   go_ret2
   exact ⟨rfl, rfl⟩
  ·rw [resZ_not h2]
   have hne : (((s.st i : Nat) : Int) != 2) = true := by rw [bne_iff_ne]; omega
   clear h hi h2 s6
   go_enter Tryz.func68, Tryz.ntmps68
   go_wp2_with fail
   go_ret2
   exact ⟨rfl, rfl⟩
 ·rw [steps_miss hz] at hlk
  simp only [Option.isSome_none] at hlk
  rw [resZ_out hz]
  clear h hz
  go_enter Tryz.func68, Tryz.ntmps68
  go_wp2_with fail
  go_ret2
  exact ⟨rfl, rfl⟩
end
end Go.Proofs.YtnmhaipjfpongacGreatDoor

namespace Go.Proofs.YtnmhaipjfpongacGreatDoor
open Go.ChangeShapes Go.WideShapes Go.ChangeAt Go.RowKit

section
variable {w w' : World} {P : Nat → Addr} {base : Nat} {E : BE} {K : BK} {s : BS} {o : List Nat} {is : Nat → Bool}

set_option maxRecDepth 100000 in
set_option maxHeartbeats 6000000 in
theorem runN_bad (h : BldAt w P base E K s) (hc : K.cp = .pointer none) (hW : BWell E o is) (hI : BInv E s) (hL : BLens E) (hA : ActVars w P) {i : Nat} (hi : i ∈ E.sm) (hr : readyP E s i = true) (hz : ∀ q ∈ (E.rule i).ins, (E.W q).2 = 0)
  (ha : E.ans i = (runOut (E.rule i).kind (E.rule i).word (E.args i), runCode (E.rule i).kind (E.rule i).word (E.args i))) (hb : (E.ans i).2 ≠ 0) :
  Calls Tryz.prog 56 #[PTR K.b, IN i] w (RunPost w P base E K (false, 0) (failP E s i)) := by
 have h1 := (ready_iff.1 hr).1
 have c1 := (h.cell 1).trans (rfl : _ = some (Value.map (some K.lb)))
 have c3 := (h.cell 3).trans (rfl : _ = some K.cp)
 rw [hc] at c3
 have hlk := KMap.look (P := Tryz.prog) keyOk_int h.steps Tryz.underlying184 Tryz.underlying3 (z := .pointer none) (by kernel_rfl) (i : Int)
 rw [steps_lookup hi] at hlk
 simp only [Option.isSome_some] at hlk
 have s4 : w.cell? ⟨K.blk i, 4, none⟩ = some (.int .i64 1) := by rw [h.stepCell hi 4]; show some (IN (s.st i)) = _; rw [h1]; rfl
 have hra := ready_any w P base E K s o is i hi h hW (hL.many i hi)
 rw [hr] at hra
 have HR := Lib.hid hra
 have HB := Lib.hid h
 have HIN := Lib.hid (fun w1 (hx : Ext w w1) => inputs_any w1 P base E K s o is i hi (h.ext hx) hW hI hr (hL.many i hi) true ⟨fun _ => hz, fun e => by cases e⟩)
 have HF := Lib.hid (fun w1 (hx : Ext w w1) (hbd : (E.ans i).2 ≠ 0) => fail_any w1 P base E K s o is i hi h1 (h.ext hx) hW hL.many hbd)
 have HDN := Lib.hid (fun w1 (hx : Ext w w1) => (h.ext hx).done hi h1)
 have HFR := Lib.hid (fun w1 (hx : Ext w w1) (j : Nat) => (h.ext hx).free hi j)
 have HSC := Lib.hid (fun w1 (hx : Ext w w1) (j : Nat) => (h.ext hx).stepCell hi j)
 obtain ⟨hal, hax⟩ := hL.args hW hi
 have hsum : sumLen (E.args i) + (E.args i).length ≤ 900000 := by
  have := sum_le hax
  have h5 : (E.args i).length * 2000 ≤ 12 * 2000 := Nat.mul_le_mul_right _ hal
  omega
 have hkw := hL.word i hi
 have HRUN := Lib.hid (fun w1 (hx : Ext w w1) (v : Value) (hv : Rd S w1 v (E.args i)) => actRun_any w1 P (E.rule i).kind (E.rule i).word (E.args i) v hv hsum (by omega) (hA.ext hx))
 have HPW := Lib.hid hA.pow
 have HKEY := Lib.hid (fun w1 (hx : Ext w w1) (v : Value) (hv : Rd S w1 v (E.args i)) => keyBig_any w1 (E.rule i).kind (E.rule i).word v (E.args i) hv (hL.kind i hi) (hL.word i hi) hal (fun x hx => by have := hax x hx; omega) (HPW.out.ext hx))
 have k1 := (h.stepCell hi 1).trans (rfl : _ = some (S (E.rule i).kind))
 have k2 := (h.stepCell hi 2).trans (rfl : _ = some (S (E.rule i).word))
 have e1 : runOut (E.rule i).kind (E.rule i).word (E.args i) = (E.ans i).1 := by rw [ha]
 have e2 : runCode (E.rule i).kind (E.rule i).word (E.args i) = (E.ans i).2 := by rw [ha]
 rw [e1, e2] at HRUN
 have HF := Lib.hid (fun w1 (hx : Ext w w1) => HF.out w1 hx hb)
 obtain ⟨c, hcc⟩ : ∃ c, (E.ans i).2 = c + 1 := ⟨(E.ans i).2 - 1, by omega⟩
 rw [hcc, show errC P (c + 1) = errV (P c) from rfl] at HRUN HF
 have HIM := Lib.hid hi
 clear h hc hi h1 hr hW hL hra hI hz ha hal hax hsum hkw hA e1 e2 HPW hb
 generalize E.args i = args at *
 generalize (E.rule i).kind = kd at *
 generalize (E.rule i).word = wd at *
 generalize keyT kd wd args = key at HKEY
 go_enter Tryz.func56, Tryz.ntmps56
 go_wp2_with fail
 refine HR.out.mono ?_
 rintro e w1 ⟨rfl, ho⟩
 have HX := Lib.hid ho
 clear ho
 go_wp2_with fail
 refine (HIN.out w1 HX.out).mono ?_
 rintro e w2 ⟨v, rfl, ho, hrow⟩
 have HX2 := Lib.hid (HX.out.then ho)
 have hrd : Rd S w2 v args := hrow.rd
 have HRD := Lib.hid hrd
 obtain ⟨av, cv, rfl, _, _, _⟩ := hrd
 have HK1 := Lib.hid k1
 have HK2 := Lib.hid k2
 have m1 := HX2.out.cellOf k1 (fun h => h)
 have m2 := HX2.out.cellOf k2 (fun h => h)
 clear ho hrow k1 k2
 go_wp2_with fail
 go_region_held3 (fun w' => w'.cell? ⟨K.blk i, 1, none⟩ = some (S kd) ∧ w'.cell? ⟨K.blk i, 2, none⟩ = some (S wd)) (first | exact ⟨HX5.out.cellOf HK1.out (fun h => h), HX5.out.cellOf HK2.out (fun h => h)⟩ | exact ⟨m1, m2⟩ | go_keep)
  ((go_at_call 123; refine (HKEY.out _ (by first | exact HX2.out | exact HX2.out.thenDrew | exact HX2.out.thenDrewN _) _ (by first | exact HRD.out | exact HRD.out.ext (Only.drew _ _) | exact HRD.out.ext (Only.drewN _ _ _))).mono ?_; rintro e w5 ⟨rfl, ho⟩; have HX5 : Hid (Ext w w5) := Lib.hid (Only.ext (by first | exact HX2.out | exact HX2.out.thenDrew | exact HX2.out.thenDrewN _) ho); have HRD5 : Hid (Rd S w5 (.slice av args.length cv) args) := Lib.hid (Rd.ext (by first | exact HRD.out | exact HRD.out.ext (Only.drew _ _) | exact HRD.out.ext (Only.drewN _ _ _)) ho); clear ho))
 all_goals
  have n1 := HX5.out.cellOf HK1.out (fun h => h)
  have n2 := HX5.out.cellOf HK2.out (fun h => h)
  have n3 := HX5.out.cellOf c3 (fun h => h)
  clear m1 m2
  go_wp2_with fail
  go_region_held3 (fun w' => w'.cell? ⟨K.blk i, 1, none⟩ = some (S kd) ∧ w'.cell? ⟨K.blk i, 2, none⟩ = some (S wd)) (first | exact ⟨HX7.out.cellOf HK1.out (fun h => h), HX7.out.cellOf HK2.out (fun h => h)⟩ | exact ⟨n1, n2⟩ | go_keep)
   ((go_at_call 125; refine (HRUN.out _ (by first | exact HX5.out | exact HX5.out.thenDrew | exact HX5.out.thenDrewN _) _ (by first | exact HRD5.out | exact HRD5.out.ext (Only.drew _ _) | exact HRD5.out.ext (Only.drewN _ _ _))).mono ?_; rintro e w7 ⟨rfl, ho⟩; have HX7 : Hid (Ext w w7) := Lib.hid (Only.ext (by first | exact HX5.out | exact HX5.out.thenDrew | exact HX5.out.thenDrewN _) ho); clear ho))
  all_goals
   clear n1 n2 n3
   go_wp2_with fail
   refine (HF.out w7 HX7.out).mono ?_
   rintro e w8 ⟨rfl, hb8, ho8⟩
   have HB8 := Lib.hid hb8
   have HO8 := Lib.hid (Only.after HX7.out ho8)
   clear hb8 ho8
   go_wp2_with fail
   go_ret2
   exact ⟨rfl, HB8.out, HO8.out⟩

set_option maxRecDepth 100000 in
set_option maxHeartbeats 6000000 in
theorem runN_good (h : BldAt w P base E K s) (hc : K.cp = .pointer none) (hW : BWell E o is) (hI : BInv E s) (hL : BLens E) (hA : ActVars w P) {i : Nat} (hi : i ∈ E.sm) (hr : readyP E s i = true) (hz : ∀ q ∈ (E.rule i).ins, (E.W q).2 = 0)
  (ha : E.ans i = (runOut (E.rule i).kind (E.rule i).word (E.args i), runCode (E.rule i).kind (E.rule i).word (E.args i))) (hb : (E.ans i).2 = 0) :
  Calls Tryz.prog 56 #[PTR K.b, IN i] w (RunPost w P base E K (false, 0) (doneP s i false)) := by
 have h1 := (ready_iff.1 hr).1
 have c1 := (h.cell 1).trans (rfl : _ = some (Value.map (some K.lb)))
 have c3 := (h.cell 3).trans (rfl : _ = some K.cp)
 rw [hc] at c3
 have hlk := KMap.look (P := Tryz.prog) keyOk_int h.steps Tryz.underlying184 Tryz.underlying3 (z := .pointer none) (by kernel_rfl) (i : Int)
 rw [steps_lookup hi] at hlk
 simp only [Option.isSome_some] at hlk
 have s4 : w.cell? ⟨K.blk i, 4, none⟩ = some (.int .i64 1) := by rw [h.stepCell hi 4]; show some (IN (s.st i)) = _; rw [h1]; rfl
 have hra := ready_any w P base E K s o is i hi h hW (hL.many i hi)
 rw [hr] at hra
 have HR := Lib.hid hra
 have HB := Lib.hid h
 have HIN := Lib.hid (fun w1 (hx : Ext w w1) => inputs_any w1 P base E K s o is i hi (h.ext hx) hW hI hr (hL.many i hi) true ⟨fun _ => hz, fun e => by cases e⟩)
 have HF := Lib.hid (fun w1 (hx : Ext w w1) (hbd : (E.ans i).2 ≠ 0) => fail_any w1 P base E K s o is i hi h1 (h.ext hx) hW hL.many hbd)
 have HDN := Lib.hid (fun w1 (hx : Ext w w1) => (h.ext hx).done hi h1)
 have HFR := Lib.hid (fun w1 (hx : Ext w w1) (j : Nat) => (h.ext hx).free hi j)
 have HSC := Lib.hid (fun w1 (hx : Ext w w1) (j : Nat) => (h.ext hx).stepCell hi j)
 obtain ⟨hal, hax⟩ := hL.args hW hi
 have hsum : sumLen (E.args i) + (E.args i).length ≤ 900000 := by
  have := sum_le hax
  have h5 : (E.args i).length * 2000 ≤ 12 * 2000 := Nat.mul_le_mul_right _ hal
  omega
 have hkw := hL.word i hi
 have HRUN := Lib.hid (fun w1 (hx : Ext w w1) (v : Value) (hv : Rd S w1 v (E.args i)) => actRun_any w1 P (E.rule i).kind (E.rule i).word (E.args i) v hv hsum (by omega) (hA.ext hx))
 have HPW := Lib.hid hA.pow
 have HKEY := Lib.hid (fun w1 (hx : Ext w w1) (v : Value) (hv : Rd S w1 v (E.args i)) => keyBig_any w1 (E.rule i).kind (E.rule i).word v (E.args i) hv (hL.kind i hi) (hL.word i hi) hal (fun x hx => by have := hax x hx; omega) (HPW.out.ext hx))
 have k1 := (h.stepCell hi 1).trans (rfl : _ = some (S (E.rule i).kind))
 have k2 := (h.stepCell hi 2).trans (rfl : _ = some (S (E.rule i).word))
 have e1 : runOut (E.rule i).kind (E.rule i).word (E.args i) = (E.ans i).1 := by rw [ha]
 have e2 : runCode (E.rule i).kind (E.rule i).word (E.args i) = (E.ans i).2 := by rw [ha]
 rw [e1, e2] at HRUN
 rw [hb, show errC P 0 = .nilIface from rfl] at HRUN
 have HIM := Lib.hid hi
 clear h hc hi h1 hr hW hL hra hI hz ha hal hax hsum hkw hA e1 e2 HPW hb
 generalize E.args i = args at *
 generalize (E.rule i).kind = kd at *
 generalize (E.rule i).word = wd at *
 generalize keyT kd wd args = key at HKEY
 go_enter Tryz.func56, Tryz.ntmps56
 go_wp2_with fail
 refine HR.out.mono ?_
 rintro e w1 ⟨rfl, ho⟩
 have HX := Lib.hid ho
 clear ho
 go_wp2_with fail
 refine (HIN.out w1 HX.out).mono ?_
 rintro e w2 ⟨v, rfl, ho, hrow⟩
 have HX2 := Lib.hid (HX.out.then ho)
 have hrd : Rd S w2 v args := hrow.rd
 have HRD := Lib.hid hrd
 obtain ⟨av, cv, rfl, _, _, _⟩ := hrd
 have HK1 := Lib.hid k1
 have HK2 := Lib.hid k2
 have m1 := HX2.out.cellOf k1 (fun h => h)
 have m2 := HX2.out.cellOf k2 (fun h => h)
 clear ho hrow k1 k2
 go_wp2_with fail
 go_region_held3 (fun w' => w'.cell? ⟨K.blk i, 1, none⟩ = some (S kd) ∧ w'.cell? ⟨K.blk i, 2, none⟩ = some (S wd)) (first | exact ⟨HX5.out.cellOf HK1.out (fun h => h), HX5.out.cellOf HK2.out (fun h => h)⟩ | exact ⟨m1, m2⟩ | go_keep)
  ((go_at_call 123; refine (HKEY.out _ (by first | exact HX2.out | exact HX2.out.thenDrew | exact HX2.out.thenDrewN _) _ (by first | exact HRD.out | exact HRD.out.ext (Only.drew _ _) | exact HRD.out.ext (Only.drewN _ _ _))).mono ?_; rintro e w5 ⟨rfl, ho⟩; have HX5 : Hid (Ext w w5) := Lib.hid (Only.ext (by first | exact HX2.out | exact HX2.out.thenDrew | exact HX2.out.thenDrewN _) ho); have HRD5 : Hid (Rd S w5 (.slice av args.length cv) args) := Lib.hid (Rd.ext (by first | exact HRD.out | exact HRD.out.ext (Only.drew _ _) | exact HRD.out.ext (Only.drewN _ _ _)) ho); clear ho))
 all_goals
  have n1 := HX5.out.cellOf HK1.out (fun h => h)
  have n2 := HX5.out.cellOf HK2.out (fun h => h)
  have n3 := HX5.out.cellOf c3 (fun h => h)
  clear m1 m2
  go_wp2_with fail
  go_region_held3 (fun w' => w'.cell? ⟨K.blk i, 1, none⟩ = some (S kd) ∧ w'.cell? ⟨K.blk i, 2, none⟩ = some (S wd)) (first | exact ⟨HX7.out.cellOf HK1.out (fun h => h), HX7.out.cellOf HK2.out (fun h => h)⟩ | exact ⟨n1, n2⟩ | go_keep)
   ((go_at_call 125; refine (HRUN.out _ (by first | exact HX5.out | exact HX5.out.thenDrew | exact HX5.out.thenDrewN _) _ (by first | exact HRD5.out | exact HRD5.out.ext (Only.drew _ _) | exact HRD5.out.ext (Only.drewN _ _ _))).mono ?_; rintro e w7 ⟨rfl, ho⟩; have HX7 : Hid (Ext w w7) := Lib.hid (Only.ext (by first | exact HX5.out | exact HX5.out.thenDrew | exact HX5.out.thenDrewN _) ho); clear ho))
  all_goals
   have f6 := HFR.out w7 HX7.out 6
   have f4 := HFR.out w7 HX7.out 4
   have t6 := (HSC.out w7 HX7.out 6).trans (rfl : _ = some (outC E s i))
   have t4 := (HSC.out w7 HX7.out 4).trans (rfl : _ = some (IN (s.st i)))
   have u3 := HX7.out.cellOf c3 (fun h => h)
   have hne := ((HB.out.ext HX7.out).ne_step ((HB.out.ext HX7.out).cells) (by decide))
   have hnb : K.blk i ≠ K.b := fun e => hne ⟨i, HIM.out, e.symm⟩
   have HD := Lib.hid (HDN.out w7 HX7.out)
   clear n1 n2 n3 hne
   go_wp2_with fail
   go_ret2
   exact ⟨rfl, HD.out.1, Only.after HX7.out HD.out.2⟩

theorem runN_any (h : BldAt w P base E K s) (hc : K.cp = .pointer none) (hW : BWell E o is) (hI : BInv E s) (hL : BLens E) (hV : PV w P [2, 4, 5, 9, 10, 11]) (z : Int) :
  Calls Tryz.prog 56 #[PTR K.b, I z] w (RunPost w P base E K (runZ E none s z).1 (runZ E none s z).2.1) := by
 by_cases hz : ∃ i : Nat, z = (i : Int) ∧ i ∈ E.sm
 ·obtain ⟨i, rfl, hi⟩ := hz
  rw [runZ_in hi]
  by_cases h1 : s.st i = 1
  ·cases hr : readyP E s i with
   | false =>
    have e : runP E none s i = ((false, 11), s, none) := by
     unfold runP
     rw [if_neg (by simpa using hi), if_neg (by simpa using h1), if_pos hr]
    rw [e]
    exact run_turn h hW hL (hV.errs.sub (by decide)) hi h1 hr
   | true =>
    have e : runP E none s i = ((false, 0), if (E.ans i).2 ≠ 0 then failP E s i else doneP s i false, none) := by
     unfold runP
     rw [if_neg (by simpa using hi), if_neg (by simpa using h1), if_neg (by rw [hr]; decide)]
     by_cases ha : (E.ans i).2 ≠ 0
     ·rw [if_pos ha, if_pos ha]
     ·rw [if_neg ha, if_neg ha]
    rw [e]
    rcases hW.runs hI hi hr with ⟨j, q, hq, h2, h3, ha, _⟩ | ⟨hz, ha⟩
    ·rw [if_pos (show (E.ans i).2 ≠ 0 by rw [ha]; decide)]
     have hbad : (E.W q).2 ≠ 0 := by
      rcases hW.input hi (List.mem_of_getElem? hq) with ⟨k, _, _, _, hby, _⟩ | ⟨_, hw⟩
      ·rw [hby] at h2; cases h2
      ·rw [hw]; unfold wLeaf; rw [h3]; decide
     exact run_none h hW hI hL (hV.errs.sub (by decide)) hi hr hq hbad ha
    ·by_cases hb : (E.ans i).2 = 0
     ·rw [if_neg (by simpa using hb)]
      exact runN_good h hc hW hI hL (hV.act (by decide)) hi hr hz ha hb
     ·rw [if_pos hb]
      exact runN_bad h hc hW hI hL (hV.act (by decide)) hi hr hz ha hb
  ·have e : runP E none s i = ((false, 12), s, none) := by
    unfold runP
    rw [if_neg (by simpa using hi), if_pos h1]
   rw [e]
   exact run_done h (hV.errs.sub (by decide)) hi h1
 ·have hz2 : ∀ k ∈ E.sm, (k : Int) ≠ z := fun k hk e => hz ⟨k, e.symm, hk⟩
  rw [runZ_out hz2]
  exact run_miss h (hV.errs.sub (by decide)) z hz2
end
end Go.Proofs.YtnmhaipjfpongacGreatDoor

namespace Go.Proofs.YtnmhaipjfpongacGreatDoor
open Go.ChangeShapes Go.WideShapes Go.ChangeAt Go.RowKit

def ranN (E : BE) (s : BS) : Nat := (E.sm.filter (ranP s)).length
theorem ranN_le (E : BE) (s : BS) : ranN E s ≤ E.sm.length := List.length_filter_le _ _
theorem ranN_more {E : BE} {s s' : BS} {i : Nat} (hn : E.sm.Nodup) (hi : i ∈ E.sm) (h0 : ranP s i = false) (h : ∀ k, ranP s' k = (decide (k = i) || ranP s k)) : ranN E s + 1 ≤ ranN E s' := by
 unfold ranN
 have h1 : (i :: E.sm.filter (ranP s)).Nodup := List.nodup_cons.2 ⟨(fun hm => by have := (List.mem_filter.1 hm).2; rw [h0] at this; cases this), hn.filter _⟩
 have := nodup_len (b := E.sm.filter (ranP s')) h1 fun x hx => by
  rcases List.mem_cons.1 hx with rfl | hx
  ·exact List.mem_filter.2 ⟨hi, by rw [h]; simp⟩
  ·obtain ⟨h2, h3⟩ := List.mem_filter.1 hx
   exact List.mem_filter.2 ⟨h2, by rw [h, h3]; simp⟩
 simpa using this
section
variable {wB wr w' : World} {P : Nat → Addr} {base : Nat} {E : BE} {K : BK} {rb n : Nat} {s : BS} {f : Nat → Bool}
end
end Go.Proofs.YtnmhaipjfpongacGreatDoor

namespace Go.Proofs.YtnmhaipjfpongacGreatDoor
open Go.ChangeShapes Go.WideShapes Go.ChangeAt Go.RowKit

theorem rule_word {r : Rule} (h : ruleCode r = 0) : r.word.length ≤ 100 := by
 have h2 : actCode r.kind r.word r.ins.length = 0 := by
  unfold ruleCode at h
  split at h
  ·cases h
  ·split at h
   ·rename_i h3; exact absurd h h3
   ·rename_i h3; exact Classical.byContradiction h3
 obtain ⟨k, _, _, _, h5⟩ := actCode_ok h2
 exact h5

section
variable {wB wr : World} {P : Nat → Addr} {base : Nat} {E : BE} {K : BK} {rb n : Nat} {s : BS} {o : List Nat} {is : Nat → Bool}
end
theorem BLens.of {l : List Rule} {sm : List Nat} {T : FL} (h : RightS l) (hs : ∀ r ∈ l, ShortR r) (hl : ∀ i ∈ sm, i < l.length) (hn : sm.length ≤ 1000) : BLens ⟨l, sm, T⟩ := by
 have hm : ∀ i ∈ sm, BE.rule ⟨l, sm, T⟩ i ∈ l := fun i hi => List.mem_of_getElem? (BE.rule_at (E := ⟨l, sm, T⟩) (hl i hi))
 exact ⟨hn, fun i hi => by have := (hs _ (hm i hi)).kind; omega, fun i hi => rule_word (h.2.1 _ (hm i hi)), fun i hi => (hs _ (hm i hi)).many⟩
end Go.Proofs.YtnmhaipjfpongacGreatDoor

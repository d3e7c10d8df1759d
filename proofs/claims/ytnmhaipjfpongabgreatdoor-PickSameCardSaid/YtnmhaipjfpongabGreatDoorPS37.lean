/- Texts of this seat laid together for one claim: Z9. No condition of its own: what each proves stands with its theorems. -/
import Derived.Test.YtnmhaipjfpongabGreatDoorPS36
namespace Go.Proofs.YtnmhaipjfpongabGreatDoor
open Go.ChangeShapes Go.WideShapes Go.ChangeAt Go.RowKit

section
variable {w w' : World} {P : Nat → Addr} {base : Nat} {E : BE} {K : BK} {s : BS} {o : List Nat} {is : Nat → Bool}

set_option maxRecDepth 100000 in
set_option maxHeartbeats 6000000 in
theorem runN_bad (h : BldAt w P base E K s) (hc : K.cp = .pointer none) (hW : BWell E o is) (hI : BInv E s) (hL : BLens E) (hA : ActVars w P) {i : Nat} (hi : i ∈ E.sm) (hr : readyP E s i = true) (hz : ∀ q ∈ (E.rule i).ins, (E.W q).2 = 0)
  (ha : E.ans i = (runOut (E.rule i).kind (E.rule i).word (E.args i), runCode (E.rule i).kind (E.rule i).word (E.args i))) (hb : (E.ans i).2 ≠ 0) :
  Calls Tryz.prog 58 #[PTR K.b, IN i] w (RunPost w P base E K (false, 0) (failP E s i)) := by
 have h1 := (ready_iff.1 hr).1
 have c1 := (h.cell 1).trans (rfl : _ = some (Value.map (some K.lb)))
 have c3 := (h.cell 3).trans (rfl : _ = some K.cp)
 rw [hc] at c3
 have hlk := KMap.look (P := Tryz.prog) keyOk_int h.steps Tryz.underlying184 Tryz.underlying3 (z := .pointer none) (by kernel_rfl) (i : Int)
 rw [steps_lookup hi] at hlk
 simp only [Option.isSome_some] at hlk
 have s4 : w.cell? ⟨K.blk i, 4, none⟩ = some (.int .i64 1) := by rw [h.stepCell hi 4]; show some (IN (s.st i)) = _; rw [h1]; rfl
 have hra := ready_any w P base E K s o is i hi h hW (hL.many i hi)
 rw [hr] at hra
 have HR := Lib.hid hra
 have HB := Lib.hid h
 have HIN := Lib.hid (fun w1 (hx : Ext w w1) => inputs_any w1 P base E K s o is i hi (h.ext hx) hW hI hr (hL.many i hi) true ⟨fun _ => hz, fun e => by cases e⟩)
 have HF := Lib.hid (fun w1 (hx : Ext w w1) (hbd : (E.ans i).2 ≠ 0) => fail_any w1 P base E K s o is i hi h1 (h.ext hx) hW hL.many hbd)
 have HDN := Lib.hid (fun w1 (hx : Ext w w1) => (h.ext hx).done hi h1)
 have HFR := Lib.hid (fun w1 (hx : Ext w w1) (j : Nat) => (h.ext hx).free hi j)
 have HSC := Lib.hid (fun w1 (hx : Ext w w1) (j : Nat) => (h.ext hx).stepCell hi j)
 obtain ⟨hal, hax⟩ := hL.args hW hi
 have hsum : sumLen (E.args i) + (E.args i).length ≤ 900000 := by
  have := sum_le hax
  have h5 : (E.args i).length * 2000 ≤ 12 * 2000 := Nat.mul_le_mul_right _ hal
  omega
 have hkw := hL.word i hi
 have HRUN := Lib.hid (fun w1 (hx : Ext w w1) (v : Value) (hv : Rd S w1 v (E.args i)) => actRun_any w1 P (E.rule i).kind (E.rule i).word (E.args i) v hv hsum (by omega) (hA.ext hx))
 have HPW := Lib.hid hA.pow
 have HKEY := Lib.hid (fun w1 (hx : Ext w w1) (v : Value) (hv : Rd S w1 v (E.args i)) => keyBig_any w1 (E.rule i).kind (E.rule i).word v (E.args i) hv (hL.kind i hi) (hL.word i hi) hal (fun x hx => by have := hax x hx; omega) (HPW.out.ext hx))
 have k1 := (h.stepCell hi 1).trans (rfl : _ = some (S (E.rule i).kind))
 have k2 := (h.stepCell hi 2).trans (rfl : _ = some (S (E.rule i).word))
 have e1 : runOut (E.rule i).kind (E.rule i).word (E.args i) = (E.ans i).1 := by rw [ha]
 have e2 : runCode (E.rule i).kind (E.rule i).word (E.args i) = (E.ans i).2 := by rw [ha]
 rw [e1, e2] at HRUN
 have HF := Lib.hid (fun w1 (hx : Ext w w1) => HF.out w1 hx hb)
 obtain ⟨c, hcc⟩ : ∃ c, (E.ans i).2 = c + 1 := ⟨(E.ans i).2 - 1, by omega⟩
 rw [hcc, show errC P (c + 1) = errV (P c) from rfl] at HRUN HF
 have HIM := Lib.hid hi
 clear h hc hi h1 hr hW hL hra hI hz ha hal hax hsum hkw hA e1 e2 HPW hb
 generalize E.args i = args at *
 generalize (E.rule i).kind = kd at *
 generalize (E.rule i).word = wd at *
 generalize keyT kd wd args = key at HKEY
 go_enter Tryz.func58, Tryz.ntmps58
 go_wp2_with fail
 refine HR.out.mono ?_
 rintro e w1 ⟨rfl, ho⟩
 have HX := Lib.hid ho
 clear ho
 go_wp2_with fail
 refine (HIN.out w1 HX.out).mono ?_
 rintro e w2 ⟨v, rfl, ho, hrow⟩
 have HX2 := Lib.hid (HX.out.then ho)
 have hrd : Rd S w2 v args := hrow.rd
 have HRD := Lib.hid hrd
 obtain ⟨av, cv, rfl, _, _, _⟩ := hrd
 have HK1 := Lib.hid k1
 have HK2 := Lib.hid k2
 have m1 := HX2.out.cellOf k1 (fun h => h)
 have m2 := HX2.out.cellOf k2 (fun h => h)
 clear ho hrow k1 k2
 go_wp2_with fail
 go_region_held3 (fun w' => w'.cell? ⟨K.blk i, 1, none⟩ = some (S kd) ∧ w'.cell? ⟨K.blk i, 2, none⟩ = some (S wd)) (first | exact ⟨HX5.out.cellOf HK1.out (fun h => h), HX5.out.cellOf HK2.out (fun h => h)⟩ | exact ⟨m1, m2⟩ | go_keep)
  ((go_at_call 127; refine (HKEY.out _ (by first | exact HX2.out | exact HX2.out.thenDrew | exact HX2.out.thenDrewN _) _ (by first | exact HRD.out | exact HRD.out.ext (Only.drew _ _) | exact HRD.out.ext (Only.drewN _ _ _))).mono ?_; rintro e w5 ⟨rfl, ho⟩; have HX5 : Hid (Ext w w5) := Lib.hid (Only.ext (by first | exact HX2.out | exact HX2.out.thenDrew | exact HX2.out.thenDrewN _) ho); have HRD5 : Hid (Rd S w5 (.slice av args.length cv) args) := Lib.hid (Rd.ext (by first | exact HRD.out | exact HRD.out.ext (Only.drew _ _) | exact HRD.out.ext (Only.drewN _ _ _)) ho); clear ho))
 all_goals
  have n1 := HX5.out.cellOf HK1.out (fun h => h)
  have n2 := HX5.out.cellOf HK2.out (fun h => h)
  have n3 := HX5.out.cellOf c3 (fun h => h)
  clear m1 m2
  go_wp2_with fail
  go_region_held3 (fun w' => w'.cell? ⟨K.blk i, 1, none⟩ = some (S kd) ∧ w'.cell? ⟨K.blk i, 2, none⟩ = some (S wd)) (first | exact ⟨HX7.out.cellOf HK1.out (fun h => h), HX7.out.cellOf HK2.out (fun h => h)⟩ | exact ⟨n1, n2⟩ | go_keep)
   ((go_at_call 29; refine (HRUN.out _ (by first | exact HX5.out | exact HX5.out.thenDrew | exact HX5.out.thenDrewN _) _ (by first | exact HRD5.out | exact HRD5.out.ext (Only.drew _ _) | exact HRD5.out.ext (Only.drewN _ _ _))).mono ?_; rintro e w7 ⟨rfl, ho⟩; have HX7 : Hid (Ext w w7) := Lib.hid (Only.ext (by first | exact HX5.out | exact HX5.out.thenDrew | exact HX5.out.thenDrewN _) ho); clear ho))
  all_goals
   clear n1 n2 n3
   go_wp2_with fail
   refine (HF.out w7 HX7.out).mono ?_
   rintro e w8 ⟨rfl, hb8, ho8⟩
   have HB8 := Lib.hid hb8
   have HO8 := Lib.hid (Only.after HX7.out ho8)
   clear hb8 ho8
   go_wp2_with fail
   go_ret2
   exact ⟨rfl, HB8.out, HO8.out⟩

set_option maxRecDepth 100000 in
set_option maxHeartbeats 6000000 in
theorem runN_good (h : BldAt w P base E K s) (hc : K.cp = .pointer none) (hW : BWell E o is) (hI : BInv E s) (hL : BLens E) (hA : ActVars w P) {i : Nat} (hi : i ∈ E.sm) (hr : readyP E s i = true) (hz : ∀ q ∈ (E.rule i).ins, (E.W q).2 = 0)
  (ha : E.ans i = (runOut (E.rule i).kind (E.rule i).word (E.args i), runCode (E.rule i).kind (E.rule i).word (E.args i))) (hb : (E.ans i).2 = 0) :
  Calls Tryz.prog 58 #[PTR K.b, IN i] w (RunPost w P base E K (false, 0) (doneP s i false)) := by
 have h1 := (ready_iff.1 hr).1
 have c1 := (h.cell 1).trans (rfl : _ = some (Value.map (some K.lb)))
 have c3 := (h.cell 3).trans (rfl : _ = some K.cp)
 rw [hc] at c3
 have hlk := KMap.look (P := Tryz.prog) keyOk_int h.steps Tryz.underlying184 Tryz.underlying3 (z := .pointer none) (by kernel_rfl) (i : Int)
 rw [steps_lookup hi] at hlk
 simp only [Option.isSome_some] at hlk
 have s4 : w.cell? ⟨K.blk i, 4, none⟩ = some (.int .i64 1) := by rw [h.stepCell hi 4]; show some (IN (s.st i)) = _; rw [h1]; rfl
 have hra := ready_any w P base E K s o is i hi h hW (hL.many i hi)
 rw [hr] at hra
 have HR := Lib.hid hra
 have HB := Lib.hid h
 have HIN := Lib.hid (fun w1 (hx : Ext w w1) => inputs_any w1 P base E K s o is i hi (h.ext hx) hW hI hr (hL.many i hi) true ⟨fun _ => hz, fun e => by cases e⟩)
 have HF := Lib.hid (fun w1 (hx : Ext w w1) (hbd : (E.ans i).2 ≠ 0) => fail_any w1 P base E K s o is i hi h1 (h.ext hx) hW hL.many hbd)
 have HDN := Lib.hid (fun w1 (hx : Ext w w1) => (h.ext hx).done hi h1)
 have HFR := Lib.hid (fun w1 (hx : Ext w w1) (j : Nat) => (h.ext hx).free hi j)
 have HSC := Lib.hid (fun w1 (hx : Ext w w1) (j : Nat) => (h.ext hx).stepCell hi j)
 obtain ⟨hal, hax⟩ := hL.args hW hi
 have hsum : sumLen (E.args i) + (E.args i).length ≤ 900000 := by
  have := sum_le hax
  have h5 : (E.args i).length * 2000 ≤ 12 * 2000 := Nat.mul_le_mul_right _ hal
  omega
 have hkw := hL.word i hi
 have HRUN := Lib.hid (fun w1 (hx : Ext w w1) (v : Value) (hv : Rd S w1 v (E.args i)) => actRun_any w1 P (E.rule i).kind (E.rule i).word (E.args i) v hv hsum (by omega) (hA.ext hx))
 have HPW := Lib.hid hA.pow
 have HKEY := Lib.hid (fun w1 (hx : Ext w w1) (v : Value) (hv : Rd S w1 v (E.args i)) => keyBig_any w1 (E.rule i).kind (E.rule i).word v (E.args i) hv (hL.kind i hi) (hL.word i hi) hal (fun x hx => by have := hax x hx; omega) (HPW.out.ext hx))
 have k1 := (h.stepCell hi 1).trans (rfl : _ = some (S (E.rule i).kind))
 have k2 := (h.stepCell hi 2).trans (rfl : _ = some (S (E.rule i).word))
 have e1 : runOut (E.rule i).kind (E.rule i).word (E.args i) = (E.ans i).1 := by rw [ha]
 have e2 : runCode (E.rule i).kind (E.rule i).word (E.args i) = (E.ans i).2 := by rw [ha]
 rw [e1, e2] at HRUN
 rw [hb, show errC P 0 = .nilIface from rfl] at HRUN
 have HIM := Lib.hid hi
 clear h hc hi h1 hr hW hL hra hI hz ha hal hax hsum hkw hA e1 e2 HPW hb
 generalize E.args i = args at *
 generalize (E.rule i).kind = kd at *
 generalize (E.rule i).word = wd at *
 generalize keyT kd wd args = key at HKEY
 go_enter Tryz.func58, Tryz.ntmps58
 go_wp2_with fail
 refine HR.out.mono ?_
 rintro e w1 ⟨rfl, ho⟩
 have HX := Lib.hid ho
 clear ho
 go_wp2_with fail
 refine (HIN.out w1 HX.out).mono ?_
 rintro e w2 ⟨v, rfl, ho, hrow⟩
 have HX2 := Lib.hid (HX.out.then ho)
 have hrd : Rd S w2 v args := hrow.rd
 have HRD := Lib.hid hrd
 obtain ⟨av, cv, rfl, _, _, _⟩ := hrd
 have HK1 := Lib.hid k1
 have HK2 := Lib.hid k2
 have m1 := HX2.out.cellOf k1 (fun h => h)
 have m2 := HX2.out.cellOf k2 (fun h => h)
 clear ho hrow k1 k2
 go_wp2_with fail
 go_region_held3 (fun w' => w'.cell? ⟨K.blk i, 1, none⟩ = some (S kd) ∧ w'.cell? ⟨K.blk i, 2, none⟩ = some (S wd)) (first | exact ⟨HX5.out.cellOf HK1.out (fun h => h), HX5.out.cellOf HK2.out (fun h => h)⟩ | exact ⟨m1, m2⟩ | go_keep)
  ((go_at_call 127; refine (HKEY.out _ (by first | exact HX2.out | exact HX2.out.thenDrew | exact HX2.out.thenDrewN _) _ (by first | exact HRD.out | exact HRD.out.ext (Only.drew _ _) | exact HRD.out.ext (Only.drewN _ _ _))).mono ?_; rintro e w5 ⟨rfl, ho⟩; have HX5 : Hid (Ext w w5) := Lib.hid (Only.ext (by first | exact HX2.out | exact HX2.out.thenDrew | exact HX2.out.thenDrewN _) ho); have HRD5 : Hid (Rd S w5 (.slice av args.length cv) args) := Lib.hid (Rd.ext (by first | exact HRD.out | exact HRD.out.ext (Only.drew _ _) | exact HRD.out.ext (Only.drewN _ _ _)) ho); clear ho))
 all_goals
  have n1 := HX5.out.cellOf HK1.out (fun h => h)
  have n2 := HX5.out.cellOf HK2.out (fun h => h)
  have n3 := HX5.out.cellOf c3 (fun h => h)
  clear m1 m2
  go_wp2_with fail
  go_region_held3 (fun w' => w'.cell? ⟨K.blk i, 1, none⟩ = some (S kd) ∧ w'.cell? ⟨K.blk i, 2, none⟩ = some (S wd)) (first | exact ⟨HX7.out.cellOf HK1.out (fun h => h), HX7.out.cellOf HK2.out (fun h => h)⟩ | exact ⟨n1, n2⟩ | go_keep)
   ((go_at_call 29; refine (HRUN.out _ (by first | exact HX5.out | exact HX5.out.thenDrew | exact HX5.out.thenDrewN _) _ (by first | exact HRD5.out | exact HRD5.out.ext (Only.drew _ _) | exact HRD5.out.ext (Only.drewN _ _ _))).mono ?_; rintro e w7 ⟨rfl, ho⟩; have HX7 : Hid (Ext w w7) := Lib.hid (Only.ext (by first | exact HX5.out | exact HX5.out.thenDrew | exact HX5.out.thenDrewN _) ho); clear ho))
  all_goals
   have f6 := HFR.out w7 HX7.out 6
   have f4 := HFR.out w7 HX7.out 4
   have t6 := (HSC.out w7 HX7.out 6).trans (rfl : _ = some (outC E s i))
   have t4 := (HSC.out w7 HX7.out 4).trans (rfl : _ = some (IN (s.st i)))
   have u3 := HX7.out.cellOf c3 (fun h => h)
   have hne := ((HB.out.ext HX7.out).ne_step ((HB.out.ext HX7.out).cells) (by decide))
   have hnb : K.blk i ≠ K.b := fun e => hne ⟨i, HIM.out, e.symm⟩
   have HD := Lib.hid (HDN.out w7 HX7.out)
   clear n1 n2 n3 hne
   go_wp2_with fail
   go_ret2
   exact ⟨rfl, HD.out.1, Only.after HX7.out HD.out.2⟩

theorem runN_any (h : BldAt w P base E K s) (hc : K.cp = .pointer none) (hW : BWell E o is) (hI : BInv E s) (hL : BLens E) (hV : PV w P [2, 4, 5, 9, 10, 11]) (z : Int) :
  Calls Tryz.prog 58 #[PTR K.b, I z] w (RunPost w P base E K (runZ E none s z).1 (runZ E none s z).2.1) := by
 by_cases hz : ∃ i : Nat, z = (i : Int) ∧ i ∈ E.sm
 ·obtain ⟨i, rfl, hi⟩ := hz
  rw [runZ_in hi]
  by_cases h1 : s.st i = 1
  ·cases hr : readyP E s i with
   | false =>
    have e : runP E none s i = ((false, 11), s, none) := by
     unfold runP
     rw [if_neg (by simpa using hi), if_neg (by simpa using h1), if_pos hr]
    rw [e]
    exact run_turn h hW hL (hV.errs.sub (by decide)) hi h1 hr
   | true =>
    have e : runP E none s i = ((false, 0), if (E.ans i).2 ≠ 0 then failP E s i else doneP s i false, none) := by
     unfold runP
     rw [if_neg (by simpa using hi), if_neg (by simpa using h1), if_neg (by rw [hr]; decide)]
     by_cases ha : (E.ans i).2 ≠ 0
     ·rw [if_pos ha, if_pos ha]
     ·rw [if_neg ha, if_neg ha]
    rw [e]
    rcases hW.runs hI hi hr with ⟨j, q, hq, h2, h3, ha, _⟩ | ⟨hz, ha⟩
    ·rw [if_pos (show (E.ans i).2 ≠ 0 by rw [ha]; decide)]
     have hbad : (E.W q).2 ≠ 0 := by
      rcases hW.input hi (List.mem_of_getElem? hq) with ⟨k, _, _, _, hby, _⟩ | ⟨_, hw⟩
      ·rw [hby] at h2; cases h2
      ·rw [hw]; unfold wLeaf; rw [h3]; decide
     exact run_none h hW hI hL (hV.errs.sub (by decide)) hi hr hq hbad ha
    ·by_cases hb : (E.ans i).2 = 0
     ·rw [if_neg (by simpa using hb)]
      exact runN_good h hc hW hI hL (hV.act (by decide)) hi hr hz ha hb
     ·rw [if_pos hb]
      exact runN_bad h hc hW hI hL (hV.act (by decide)) hi hr hz ha hb
  ·have e : runP E none s i = ((false, 12), s, none) := by
    unfold runP
    rw [if_neg (by simpa using hi), if_pos h1]
   rw [e]
   exact run_done h (hV.errs.sub (by decide)) hi h1
 ·have hz2 : ∀ k ∈ E.sm, (k : Int) ≠ z := fun k hk e => hz ⟨k, e.symm, hk⟩
  rw [runZ_out hz2]
  exact run_miss h (hV.errs.sub (by decide)) z hz2
end
end Go.Proofs.YtnmhaipjfpongabGreatDoor

/- Texts of this seat laid together for one claim: Z14. No condition of its own: what each proves stands with its theorems. -/
import Derived.Test.YtnmhaipjfpongacGreatDoorSA27
namespace Go.Proofs.YtnmhaipjfpongacGreatDoor
open Go.ChangeShapes Go.WideShapes Go.ChangeAt Go.RowKit

section
variable {w w' : World} {P : Nat → Addr} {base : Nat} {E : BE} {K : BK} {s : BS} {o : List Nat} {is : Nat → Bool} {cb cmb : Nat} {sv : Value} {many : Nat} {L : FL}
theorem only_or {a b c : World} {p q : Nat → Prop} (h : Only p a b) (k : Only q b c) : Only (fun i => p i ∨ q i) a c := h.trans k (fun _ _ h => .inl h) (fun _ _ h => .inr h)
theorem RunPost.cache (hC : CchAt w E K cb cmb sv many L) {r : Bool × Nat} {s' : BS} {e : Ending} (h : RunPost w P base E K r s' e w') : RunCPost w P base E K cb cmb sv many L r s' e w' := by
 obtain ⟨h1, h2, h3⟩ := h
 exact ⟨sv, h1, h2, hC.steps h3, h3.mono fun _ _ h => .inl h, fun _ h => .inl h⟩
theorem rowLow {b b' : Nat} {v : Value} {l : List B} (h : Row b' w v l) (hb : b ≤ b') : Row b w v l :=
 ⟨h.1, h.2.imp id fun ⟨g, cap, cur, e, hg, r⟩ => ⟨g, cap, cur, e, Nat.le_trans hb hg, r⟩⟩
theorem row_stands {b0 : Nat} {v : Value} {l : List B} {p : Nat → Prop} (h : Row b0 w v l) (ho : Only p w w') (hp : ∀ i, p i → i < b0) : Row b0 w' v l := ho.row h fun i e e2 => by
 have := hp i e2
 have := (h.lt i e).1
 omega

set_option maxRecDepth 100000 in
set_option maxHeartbeats 8000000 in
theorem runC_bad (h : BldAt w P base E K s) (hc : K.cp = PTR cb) (hC : CchAt w E K cb cmb sv many L) (hW : BWell E o is) (hI : BInv E s) (hL : BLens E) {w0 : World} (hx0 : Ext w0 w) (hlo : ∀ j, InSteps E K j ∨ InCache cb cmb sv j → w0.heap.size ≤ j) (hA : ActVars w0 P) {i : Nat} (hi : i ∈ E.sm) (hr : readyP E s i = true) (hz : ∀ q ∈ (E.rule i).ins, (E.W q).2 = 0)
  (ha : E.ans i = (runOut (E.rule i).kind (E.rule i).word (E.args i), runCode (E.rule i).kind (E.rule i).word (E.args i))) (hb : (E.ans i).2 ≠ 0) :
  Calls Tryz.prog 56 #[PTR K.b, IN i] w (RunCPost w P base E K cb cmb sv many L (false, 0) (failP E s i)) := by
 have h1 := (ready_iff.1 hr).1
 have hl : L.lookup (E.key i) = none := by
  cases hl : L.lookup (E.key i) with
  | none => rfl
  | some x => exact absurd (by rw [ha]; exact (hC.ok.hit hl).1) hb
 have c1 := (h.cell 1).trans (rfl : _ = some (Value.map (some K.lb)))
 have c3 := (h.cell 3).trans (rfl : _ = some K.cp)
 rw [hc] at c3
 have hlk := KMap.look (P := Tryz.prog) keyOk_int h.steps Tryz.underlying184 Tryz.underlying3 (z := .pointer none) (by kernel_rfl) (i : Int)
 rw [steps_lookup hi] at hlk
 simp only [Option.isSome_some] at hlk
 have s4 : w.cell? ⟨K.blk i, 4, none⟩ = some (.int .i64 1) := by rw [h.stepCell hi 4]; show some (IN (s.st i)) = _; rw [h1]; rfl
 have hra := ready_any w P base E K s o is i hi h hW (hL.many i hi)
 rw [hr] at hra
 have HR := Lib.hid hra
 have HB := Lib.hid h
 have HC := Lib.hid hC
 have HIM := Lib.hid hi
 have HS1 := Lib.hid h1
 have HIN := Lib.hid (fun w1 (hx : Ext w w1) => inputs_any w1 P base E K s o is i hi (h.ext hx) hW hI hr (hL.many i hi) true ⟨fun _ => hz, fun e => by cases e⟩)
 have HF := Lib.hid (fun w1 (hb : BldAt w1 P base E K s) (hbd : (E.ans i).2 ≠ 0) => fail_any w1 P base E K s o is i hi h1 hb hW hL.many hbd)
 obtain ⟨hal, hax⟩ := hL.args hW hi
 have hsum : sumLen (E.args i) + (E.args i).length ≤ 900000 := by
  have := sum_le hax
  have h5 : (E.args i).length * 2000 ≤ 12 * 2000 := Nat.mul_le_mul_right _ hal
  omega
 have hkw := hL.word i hi
 have HRUN := Lib.hid (fun w1 (hx : Ext w0 w1) (v : Value) (hv : Rd S w1 v (E.args i)) => actRun_any w1 P (E.rule i).kind (E.rule i).word (E.args i) v hv hsum (by omega) (hA.ext hx))
 have HAV := Lib.hid hA
 have HX0 := Lib.hid hx0
 have HLO := Lib.hid hlo
 have HCP := Lib.hid hc
 have HKEY := Lib.hid (fun w1 (hx : Ext w w1) (v : Value) (hv : Rd S w1 v (E.args i)) => keyBig_any w1 (E.rule i).kind (E.rule i).word v (E.args i) hv (hL.kind i hi) (hL.word i hi) hal (fun x hx => by have := hax x hx; omega) (HAV.out.pow.ext (HX0.out.then hx)))
 have k1 := (h.stepCell hi 1).trans (rfl : _ = some (S (E.rule i).kind))
 have k2 := (h.stepCell hi 2).trans (rfl : _ = some (S (E.rule i).word))
 have e1 : runOut (E.rule i).kind (E.rule i).word (E.args i) = (E.ans i).1 := by rw [ha]
 have e2 : runCode (E.rule i).kind (E.rule i).word (E.args i) = (E.ans i).2 := by rw [ha]
 rw [e1, e2] at HRUN
 have HSTEP := Lib.hid (fun w1 (hb : BldAt w1 P base E K s) (j : Nat) => hb.stepCell hi j)
 have HLT := Lib.hid (fun j (hj : InBld E K j ∨ InCache cb cmb sv j) => (show j < w.heap.size from hj.elim (h.lt j) (hC.cache.lt j)))
 have hkey : E.key i = keyT (E.rule i).kind (E.rule i).word (E.args i) := rfl
 have HCOK := Lib.hid hC.ok
 have HF := Lib.hid (fun w1 (hb1 : BldAt w1 P base E K s) => HF.out w1 hb1 hb)
 obtain ⟨c, hcc⟩ : ∃ c, (E.ans i).2 = c + 1 := ⟨(E.ans i).2 - 1, by omega⟩
 rw [hcc, show errC P (c + 1) = errV (P c) from rfl] at HRUN HF
 rw [← hkey] at HKEY
 have HLK := Lib.hid hl
 clear h hc hi h1 hr hW hL hra hI hz ha hal hax hsum hkw hA hx0 hlo e1 e2 hb hkey hC hl
 generalize E.key i = key at *
 generalize E.args i = args at *
 generalize hkd : (E.rule i).kind = kd at *
 generalize hwd : (E.rule i).word = wd at *
 have HKD := Lib.hid hkd
 have HWD := Lib.hid hwd
 clear hkd hwd
 go_enter Tryz.func56, Tryz.ntmps56
 go_wp2_with fail
 refine HR.out.mono ?_
 rintro e w1 ⟨rfl, ho⟩
 have HX := Lib.hid ho
 clear ho
 go_wp2_with fail
 refine (HIN.out w1 HX.out).mono ?_
 rintro e w2 ⟨v, rfl, ho, hrow⟩
 have HX2 := Lib.hid (HX.out.then ho)
 have hrd : Rd S w2 v args := hrow.rd
 have HRD := Lib.hid hrd
 have HROW : Hid (Row w.heap.size w2 v args) := Lib.hid (rowLow hrow HX.out.size)
 obtain ⟨av, cv, rfl, _, _, _⟩ := hrd
 have HK1 := Lib.hid k1
 have HK2 := Lib.hid k2
 have m1 := HX2.out.cellOf k1 (fun h => h)
 have m2 := HX2.out.cellOf k2 (fun h => h)
 clear ho hrow k1 k2
 go_wp2_with fail
 go_region_held3 (fun w' => w'.cell? ⟨K.blk i, 1, none⟩ = some (S kd) ∧ w'.cell? ⟨K.blk i, 2, none⟩ = some (S wd)) (first | exact ⟨HX5.out.cellOf HK1.out (fun h => h), HX5.out.cellOf HK2.out (fun h => h)⟩ | exact ⟨m1, m2⟩ | go_keep)
  ((go_at_call 123; refine (HKEY.out _ (by first | exact HX2.out | exact HX2.out.thenDrew | exact HX2.out.thenDrewN _) _ (by first | exact HRD.out | exact HRD.out.ext (Only.drew _ _) | exact HRD.out.ext (Only.drewN _ _ _))).mono ?_; rintro e w5 ⟨rfl, ho⟩; have HX5 : Hid (Ext w w5) := Lib.hid (Only.ext (by first | exact HX2.out | exact HX2.out.thenDrew | exact HX2.out.thenDrewN _) ho); have HRW5 : Hid (Row w.heap.size w5 (.slice av args.length cv) args) := Lib.hid (Row.ext (by first | exact HROW.out | exact HROW.out.ext (Only.drew _ _) | exact HROW.out.ext (Only.drewN _ _ _)) ho); clear ho))
 all_goals
  have n3 := HX5.out.cellOf c3 (fun h => h)
  have HB5 := Lib.hid (HB.out.ext HX5.out)
  have HC5 := Lib.hid (HC.out.ext HX5.out)
  clear m1 m2
  go_wp2_with fail
  refine (get_any w5 cb cmb sv many L key HC5.out.cache (by have := HC5.out.len; have := HC5.out.many; omega)).mono ?_
  intro e w6 hg
  rw [HLK.out] at hg
  have hgl : getL L key = L := by unfold getL; rw [HLK.out]
  rw [hgl] at hg
  obtain ⟨sv6, rfl, hc6, hb6, ho6, hn6⟩ := HC5.out.got HB5.out HC5.out.ok HC5.out.len hg
  obtain ⟨hb7, ho7⟩ := hb6.misses HIM.out HS1.out
  have HC7 := Lib.hid (hc6.steps ho7)
  have HB7 := Lib.hid hb7
  have HO7 : Hid (Only (fun j => InCache cb cmb sv j ∨ InSteps E K j) w ((w6.setCell ⟨K.blk i, 6, none⟩ (S [])).setCell ⟨K.blk i, 5, none⟩ (.bool false))) := Lib.hid (only_or (Only.after HX5.out ho6) ho7)
  have HN6 : Hid (∀ j, InCache cb cmb sv6 j → InCache cb cmb sv j ∨ w.heap.size ≤ j) := Lib.hid (fun j hj => (hn6 j hj).imp id fun h => Nat.le_trans HX5.out.size h)
  have HRW7 := Lib.hid (row_stands (HRW5.out) (only_or ho6 ho7) (fun j hj => HLT.out j (hj.elim .inr fun h => .inl h.bld)))
  have f6 := hb6.free HIM.out 6
  have f5 := hb6.free HIM.out 5
  have t6 := (hb6.stepCell HIM.out 6).trans (rfl : _ = some (outC E s i))
  have t5 := (hb6.stepCell HIM.out 5).trans (rfl : _ = some (Value.bool (s.st i == 2 && s.hit i)))
  clear hg hgl hc6 hb6 ho6 hn6 hb7 ho7 n3
  obtain ⟨w7, hw7⟩ : ∃ w7, w7 = (w6.setCell ⟨K.blk i, 6, none⟩ (S [])).setCell ⟨K.blk i, 5, none⟩ (.bool false) := ⟨_, rfl⟩
  have hw7' : (w6.setCell ⟨K.blk i, 6, none⟩ (.string ⟨#[]⟩)).setCell ⟨K.blk i, 5, none⟩ (.bool false) = w7 := hw7.symm
  rw [← hw7] at HB7 HC7 HO7 HRW7
  clear hw7
  have HW7 := Lib.hid hw7'
  clear hw7'
  go_wp2_with fail
  rw [HW7.out]
  clear f6 f5 t6 t5
  have HX7 : Hid (Ext w0 w7) := Lib.hid (HX0.out.trans HO7.out (fun _ _ h => h) (fun j hj e => by have := HLO.out j e.symm; omega))
  have n1 := (HB7.out.stepCell HIM.out 1).trans (rfl : _ = some (S (E.rule i).kind))
  have n2 := (HB7.out.stepCell HIM.out 2).trans (rfl : _ = some (S (E.rule i).word))
  rw [HKD.out] at n1
  rw [HWD.out] at n2
  have HN1 := Lib.hid n1
  have HN2 := Lib.hid n2
  have HRD7 := Lib.hid HRW7.out.rd
  go_region_held3 (fun w' => w'.cell? ⟨K.blk i, 1, none⟩ = some (S kd) ∧ w'.cell? ⟨K.blk i, 2, none⟩ = some (S wd)) (first | exact ⟨HX9.out.cellOf HN1.out (fun h => h), HX9.out.cellOf HN2.out (fun h => h)⟩ | exact ⟨n1, n2⟩ | go_keep)
   ((go_at_call 125; refine (HRUN.out _ (by first | exact HX7.out | exact HX7.out.thenDrew | exact HX7.out.thenDrewN _) _ (by first | exact HRD7.out | exact HRD7.out.ext (Only.drew _ _) | exact HRD7.out.ext (Only.drewN _ _ _))).mono ?_; rintro e w9 ⟨rfl, ho⟩; have HX9 : Hid (Ext w7 w9) := Lib.hid (Only.ext (by first | exact Only.refl _ _ | exact Only.drew _ _ | exact Only.drewN _ _ _) ho); clear ho))
  all_goals
   clear n1 n2
   go_wp2_with fail
   refine (HF.out w9 (HB7.out.ext HX9.out)).mono ?_
   rintro e w10 ⟨rfl, hb10, ho10⟩
   have HB10 := Lib.hid hb10
   have HC10 := Lib.hid ((HC7.out.ext HX9.out).steps ho10)
   have HO10 := Lib.hid ((only_or (Only.ext HO7.out HX9.out) ho10).mono (fun j _ h => h.elim (fun h => h.symm) .inl))
   clear hb10 ho10
   go_wp2_with fail
   go_ret2
   exact ⟨_, rfl, HB10.out, HC10.out, HO10.out, HN6.out⟩

set_option maxRecDepth 100000 in
set_option maxHeartbeats 8000000 in
theorem runC_good (h : BldAt w P base E K s) (hc : K.cp = PTR cb) (hC : CchAt w E K cb cmb sv many L) (hW : BWell E o is) (hI : BInv E s) (hL : BLens E) {w0 : World} (hx0 : Ext w0 w) (hlo : ∀ j, InSteps E K j ∨ InCache cb cmb sv j → w0.heap.size ≤ j) (hA : ActVars w0 P) {i : Nat} (hi : i ∈ E.sm) (hr : readyP E s i = true) (hz : ∀ q ∈ (E.rule i).ins, (E.W q).2 = 0)
  (ha : E.ans i = (runOut (E.rule i).kind (E.rule i).word (E.args i), runCode (E.rule i).kind (E.rule i).word (E.args i))) (hb : (E.ans i).2 = 0) (hl : L.lookup (E.key i) = none) :
  Calls Tryz.prog 56 #[PTR K.b, IN i] w (RunCPost w P base E K cb cmb sv many (putL many L (E.key i) (E.ans i).1) (false, 0) (doneP s i false)) := by
 have h1 := (ready_iff.1 hr).1
 have c1 := (h.cell 1).trans (rfl : _ = some (Value.map (some K.lb)))
 have c3 := (h.cell 3).trans (rfl : _ = some K.cp)
 rw [hc] at c3
 have hlk := KMap.look (P := Tryz.prog) keyOk_int h.steps Tryz.underlying184 Tryz.underlying3 (z := .pointer none) (by kernel_rfl) (i : Int)
 rw [steps_lookup hi] at hlk
 simp only [Option.isSome_some] at hlk
 have s4 : w.cell? ⟨K.blk i, 4, none⟩ = some (.int .i64 1) := by rw [h.stepCell hi 4]; show some (IN (s.st i)) = _; rw [h1]; rfl
 have hra := ready_any w P base E K s o is i hi h hW (hL.many i hi)
 rw [hr] at hra
 have HR := Lib.hid hra
 have HB := Lib.hid h
 have HC := Lib.hid hC
 have HIM := Lib.hid hi
 have HS1 := Lib.hid h1
 have HIN := Lib.hid (fun w1 (hx : Ext w w1) => inputs_any w1 P base E K s o is i hi (h.ext hx) hW hI hr (hL.many i hi) true ⟨fun _ => hz, fun e => by cases e⟩)
 have HF := Lib.hid (fun w1 (hb : BldAt w1 P base E K s) (hbd : (E.ans i).2 ≠ 0) => fail_any w1 P base E K s o is i hi h1 hb hW hL.many hbd)
 obtain ⟨hal, hax⟩ := hL.args hW hi
 have hsum : sumLen (E.args i) + (E.args i).length ≤ 900000 := by
  have := sum_le hax
  have h5 : (E.args i).length * 2000 ≤ 12 * 2000 := Nat.mul_le_mul_right _ hal
  omega
 have hkw := hL.word i hi
 have HRUN := Lib.hid (fun w1 (hx : Ext w0 w1) (v : Value) (hv : Rd S w1 v (E.args i)) => actRun_any w1 P (E.rule i).kind (E.rule i).word (E.args i) v hv hsum (by omega) (hA.ext hx))
 have HAV := Lib.hid hA
 have HX0 := Lib.hid hx0
 have HLO := Lib.hid hlo
 have HCP := Lib.hid hc
 have HKEY := Lib.hid (fun w1 (hx : Ext w w1) (v : Value) (hv : Rd S w1 v (E.args i)) => keyBig_any w1 (E.rule i).kind (E.rule i).word v (E.args i) hv (hL.kind i hi) (hL.word i hi) hal (fun x hx => by have := hax x hx; omega) (HAV.out.pow.ext (HX0.out.then hx)))
 have k1 := (h.stepCell hi 1).trans (rfl : _ = some (S (E.rule i).kind))
 have k2 := (h.stepCell hi 2).trans (rfl : _ = some (S (E.rule i).word))
 have e1 : runOut (E.rule i).kind (E.rule i).word (E.args i) = (E.ans i).1 := by rw [ha]
 have e2 : runCode (E.rule i).kind (E.rule i).word (E.args i) = (E.ans i).2 := by rw [ha]
 rw [e1, e2] at HRUN
 have HSTEP := Lib.hid (fun w1 (hb : BldAt w1 P base E K s) (j : Nat) => hb.stepCell hi j)
 have HLT := Lib.hid (fun j (hj : InBld E K j ∨ InCache cb cmb sv j) => (show j < w.heap.size from hj.elim (h.lt j) (hC.cache.lt j)))
 have hkey : E.key i = keyT (E.rule i).kind (E.rule i).word (E.args i) := rfl
 have HCOK := Lib.hid hC.ok
 have HPOK := Lib.hid (hC.ok.put (KMap.nodup hC.cache.map) many (show runCode (E.rule i).kind (E.rule i).word (E.args i) = 0 by rw [e2]; exact hb))
 rw [e1, ← hkey] at HPOK
 rw [hb, show errC P 0 = .nilIface from rfl] at HRUN
 rw [← hkey] at HKEY
 have HLK := Lib.hid hl
 clear h hc hi h1 hr hW hL hra hI hz ha hal hax hsum hkw hA hx0 hlo e1 e2 hb hkey hC hl
 generalize E.key i = key at *
 generalize E.args i = args at *
 generalize hkd : (E.rule i).kind = kd at *
 generalize hwd : (E.rule i).word = wd at *
 have HKD := Lib.hid hkd
 have HWD := Lib.hid hwd
 clear hkd hwd
 go_enter Tryz.func56, Tryz.ntmps56
 go_wp2_with fail
 refine HR.out.mono ?_
 rintro e w1 ⟨rfl, ho⟩
 have HX := Lib.hid ho
 clear ho
 go_wp2_with fail
 refine (HIN.out w1 HX.out).mono ?_
 rintro e w2 ⟨v, rfl, ho, hrow⟩
 have HX2 := Lib.hid (HX.out.then ho)
 have hrd : Rd S w2 v args := hrow.rd
 have HRD := Lib.hid hrd
 have HROW : Hid (Row w.heap.size w2 v args) := Lib.hid (rowLow hrow HX.out.size)
 obtain ⟨av, cv, rfl, _, _, _⟩ := hrd
 have HK1 := Lib.hid k1
 have HK2 := Lib.hid k2
 have m1 := HX2.out.cellOf k1 (fun h => h)
 have m2 := HX2.out.cellOf k2 (fun h => h)
 clear ho hrow k1 k2
 go_wp2_with fail
 go_region_held3 (fun w' => w'.cell? ⟨K.blk i, 1, none⟩ = some (S kd) ∧ w'.cell? ⟨K.blk i, 2, none⟩ = some (S wd)) (first | exact ⟨HX5.out.cellOf HK1.out (fun h => h), HX5.out.cellOf HK2.out (fun h => h)⟩ | exact ⟨m1, m2⟩ | go_keep)
  ((go_at_call 123; refine (HKEY.out _ (by first | exact HX2.out | exact HX2.out.thenDrew | exact HX2.out.thenDrewN _) _ (by first | exact HRD.out | exact HRD.out.ext (Only.drew _ _) | exact HRD.out.ext (Only.drewN _ _ _))).mono ?_; rintro e w5 ⟨rfl, ho⟩; have HX5 : Hid (Ext w w5) := Lib.hid (Only.ext (by first | exact HX2.out | exact HX2.out.thenDrew | exact HX2.out.thenDrewN _) ho); have HRW5 : Hid (Row w.heap.size w5 (.slice av args.length cv) args) := Lib.hid (Row.ext (by first | exact HROW.out | exact HROW.out.ext (Only.drew _ _) | exact HROW.out.ext (Only.drewN _ _ _)) ho); clear ho))
 all_goals
  have n3 := HX5.out.cellOf c3 (fun h => h)
  have HB5 := Lib.hid (HB.out.ext HX5.out)
  have HC5 := Lib.hid (HC.out.ext HX5.out)
  clear m1 m2
  go_wp2_with fail
  refine (get_any w5 cb cmb sv many L key HC5.out.cache (by have := HC5.out.len; have := HC5.out.many; omega)).mono ?_
  intro e w6 hg
  rw [HLK.out] at hg
  have hgl : getL L key = L := by unfold getL; rw [HLK.out]
  rw [hgl] at hg
  obtain ⟨sv6, rfl, hc6, hb6, ho6, hn6⟩ := HC5.out.got HB5.out HC5.out.ok HC5.out.len hg
  obtain ⟨hb7, ho7⟩ := hb6.misses HIM.out HS1.out
  have HC7 := Lib.hid (hc6.steps ho7)
  have HB7 := Lib.hid hb7
  have HO7 : Hid (Only (fun j => InCache cb cmb sv j ∨ InSteps E K j) w ((w6.setCell ⟨K.blk i, 6, none⟩ (S [])).setCell ⟨K.blk i, 5, none⟩ (.bool false))) := Lib.hid (only_or (Only.after HX5.out ho6) ho7)
  have HN6 : Hid (∀ j, InCache cb cmb sv6 j → InCache cb cmb sv j ∨ w.heap.size ≤ j) := Lib.hid (fun j hj => (hn6 j hj).imp id fun h => Nat.le_trans HX5.out.size h)
  have HRW7 := Lib.hid (row_stands (HRW5.out) (only_or ho6 ho7) (fun j hj => HLT.out j (hj.elim .inr fun h => .inl h.bld)))
  have f6 := hb6.free HIM.out 6
  have f5 := hb6.free HIM.out 5
  have t6 := (hb6.stepCell HIM.out 6).trans (rfl : _ = some (outC E s i))
  have t5 := (hb6.stepCell HIM.out 5).trans (rfl : _ = some (Value.bool (s.st i == 2 && s.hit i)))
  clear hg hgl hc6 hb6 ho6 hn6 hb7 ho7 n3
  obtain ⟨w7, hw7⟩ : ∃ w7, w7 = (w6.setCell ⟨K.blk i, 6, none⟩ (S [])).setCell ⟨K.blk i, 5, none⟩ (.bool false) := ⟨_, rfl⟩
  have hw7' : (w6.setCell ⟨K.blk i, 6, none⟩ (.string ⟨#[]⟩)).setCell ⟨K.blk i, 5, none⟩ (.bool false) = w7 := hw7.symm
  rw [← hw7] at HB7 HC7 HO7 HRW7
  clear hw7
  have HW7 := Lib.hid hw7'
  clear hw7'
  go_wp2_with fail
  rw [HW7.out]
  clear f6 f5 t6 t5
  have HX7 : Hid (Ext w0 w7) := Lib.hid (HX0.out.trans HO7.out (fun _ _ h => h) (fun j hj e => by have := HLO.out j e.symm; omega))
  have n1 := (HB7.out.stepCell HIM.out 1).trans (rfl : _ = some (S (E.rule i).kind))
  have n2 := (HB7.out.stepCell HIM.out 2).trans (rfl : _ = some (S (E.rule i).word))
  rw [HKD.out] at n1
  rw [HWD.out] at n2
  have HN1 := Lib.hid n1
  have HN2 := Lib.hid n2
  have HRD7 := Lib.hid HRW7.out.rd
  go_region_held3 (fun w' => w'.cell? ⟨K.blk i, 1, none⟩ = some (S kd) ∧ w'.cell? ⟨K.blk i, 2, none⟩ = some (S wd)) (first | exact ⟨HX9.out.cellOf HN1.out (fun h => h), HX9.out.cellOf HN2.out (fun h => h)⟩ | exact ⟨n1, n2⟩ | go_keep)
   ((go_at_call 125; refine (HRUN.out _ (by first | exact HX7.out | exact HX7.out.thenDrew | exact HX7.out.thenDrewN _) _ (by first | exact HRD7.out | exact HRD7.out.ext (Only.drew _ _) | exact HRD7.out.ext (Only.drewN _ _ _))).mono ?_; rintro e w9 ⟨rfl, ho⟩; have HX9 : Hid (Ext w7 w9) := Lib.hid (Only.ext (by first | exact Only.refl _ _ | exact Only.drew _ _ | exact Only.drewN _ _ _) ho); clear ho))
  all_goals
   clear n1 n2
   have f6 := (HB7.out.ext HX9.out).free HIM.out 6
   have f4 := (HB7.out.ext HX9.out).free HIM.out 4
   have t6 := ((HB7.out.ext HX9.out).stepCell HIM.out 6).trans (rfl : _ = some (outC E s i))
   have t4 := ((HB7.out.ext HX9.out).stepCell HIM.out 4).trans (rfl : _ = some (IN (s.st i)))
   have u3 := ((HB7.out.ext HX9.out).cell 3).trans (rfl : _ = some K.cp)
   rw [HCP.out] at u3
   have hne := ((HB7.out.ext HX9.out).ne_step ((HB7.out.ext HX9.out).cells) (by decide))
   have hnb : K.blk i ≠ K.b := fun e => hne ⟨i, HIM.out, e.symm⟩
   have hd := (HB7.out.ext HX9.out).done HIM.out HS1.out
   have HD := Lib.hid hd
   have HC10 := Lib.hid ((HC7.out.ext HX9.out).steps hd.2)
   have HO10 := Lib.hid (only_or (Only.ext HO7.out HX9.out) hd.2)
   clear hne hd
   go_wp2_with fail
   refine (put_any _ cb cmb sv6 many L key (E.ans i).1 HC10.out.cache (by have := HC10.out.len; have := HC10.out.many; omega)).mono ?_
   intro e w11 hg
   obtain ⟨sv11, rfl, hc11, hb11, ho11, hn11⟩ := HC10.out.got HD.out.1 HPOK.out (putL_le key _ HC10.out.len) hg
   have HB11 := Lib.hid hb11
   have HC11 := Lib.hid hc11
   have HO11 : Hid (Only (fun j => InSteps E K j ∨ InCache cb cmb sv j) w w11) := Lib.hid (HO10.out.trans ho11 (fun j _ h => h.elim (fun h => h.symm) .inl) (fun j hj e => by rcases HN6.out j e with h | h; exact .inr h; omega))
   have HN11 : Hid (∀ j, InCache cb cmb sv11 j → InCache cb cmb sv j ∨ w.heap.size ≤ j) := Lib.hid (fun j hj => by
    rcases hn11 j hj with h | h
    ·exact HN6.out j h
    ·exact .inr (Nat.le_trans HO10.out.size h))
   clear hg hb11 hc11 ho11 hn11
   go_wp2_with fail
   go_ret2
   exact ⟨_, rfl, HB11.out, HC11.out, HO11.out, HN11.out⟩

set_option maxRecDepth 100000 in
set_option maxHeartbeats 8000000 in
theorem runC_hit (h : BldAt w P base E K s) (hc : K.cp = PTR cb) (hC : CchAt w E K cb cmb sv many L) (hW : BWell E o is) (hI : BInv E s) (hL : BLens E) {w0 : World} (hx0 : Ext w0 w) (hlo : ∀ j, InSteps E K j ∨ InCache cb cmb sv j → w0.heap.size ≤ j) (hA : ActVars w0 P) {i : Nat} (hi : i ∈ E.sm) (hr : readyP E s i = true) (hz : ∀ q ∈ (E.rule i).ins, (E.W q).2 = 0)
  (ha : E.ans i = (runOut (E.rule i).kind (E.rule i).word (E.args i), runCode (E.rule i).kind (E.rule i).word (E.args i))) {x : B} (hl : L.lookup (E.key i) = some x) :
  Calls Tryz.prog 56 #[PTR K.b, IN i] w (RunCPost w P base E K cb cmb sv many (getL L (E.key i)) (true, 0) (doneP s i true)) := by
 have h1 := (ready_iff.1 hr).1
 have hb : (E.ans i).2 = 0 := by rw [ha]; exact (hC.ok.hit hl).1
 have hx : x = (E.ans i).1 := by rw [ha]; exact (hC.ok.hit hl).2
 have c1 := (h.cell 1).trans (rfl : _ = some (Value.map (some K.lb)))
 have c3 := (h.cell 3).trans (rfl : _ = some K.cp)
 rw [hc] at c3
 have hlk := KMap.look (P := Tryz.prog) keyOk_int h.steps Tryz.underlying184 Tryz.underlying3 (z := .pointer none) (by kernel_rfl) (i : Int)
 rw [steps_lookup hi] at hlk
 simp only [Option.isSome_some] at hlk
 have s4 : w.cell? ⟨K.blk i, 4, none⟩ = some (.int .i64 1) := by rw [h.stepCell hi 4]; show some (IN (s.st i)) = _; rw [h1]; rfl
 have hra := ready_any w P base E K s o is i hi h hW (hL.many i hi)
 rw [hr] at hra
 have HR := Lib.hid hra
 have HB := Lib.hid h
 have HC := Lib.hid hC
 have HIM := Lib.hid hi
 have HS1 := Lib.hid h1
 have HIN := Lib.hid (fun w1 (hx : Ext w w1) => inputs_any w1 P base E K s o is i hi (h.ext hx) hW hI hr (hL.many i hi) true ⟨fun _ => hz, fun e => by cases e⟩)
 have HF := Lib.hid (fun w1 (hb : BldAt w1 P base E K s) (hbd : (E.ans i).2 ≠ 0) => fail_any w1 P base E K s o is i hi h1 hb hW hL.many hbd)
 obtain ⟨hal, hax⟩ := hL.args hW hi
 have hsum : sumLen (E.args i) + (E.args i).length ≤ 900000 := by
  have := sum_le hax
  have h5 : (E.args i).length * 2000 ≤ 12 * 2000 := Nat.mul_le_mul_right _ hal
  omega
 have hkw := hL.word i hi
 have HRUN := Lib.hid (fun w1 (hx : Ext w0 w1) (v : Value) (hv : Rd S w1 v (E.args i)) => actRun_any w1 P (E.rule i).kind (E.rule i).word (E.args i) v hv hsum (by omega) (hA.ext hx))
 have HAV := Lib.hid hA
 have HX0 := Lib.hid hx0
 have HLO := Lib.hid hlo
 have HCP := Lib.hid hc
 have HKEY := Lib.hid (fun w1 (hx : Ext w w1) (v : Value) (hv : Rd S w1 v (E.args i)) => keyBig_any w1 (E.rule i).kind (E.rule i).word v (E.args i) hv (hL.kind i hi) (hL.word i hi) hal (fun x hx => by have := hax x hx; omega) (HAV.out.pow.ext (HX0.out.then hx)))
 have k1 := (h.stepCell hi 1).trans (rfl : _ = some (S (E.rule i).kind))
 have k2 := (h.stepCell hi 2).trans (rfl : _ = some (S (E.rule i).word))
 have e1 : runOut (E.rule i).kind (E.rule i).word (E.args i) = (E.ans i).1 := by rw [ha]
 have e2 : runCode (E.rule i).kind (E.rule i).word (E.args i) = (E.ans i).2 := by rw [ha]
 rw [e1, e2] at HRUN
 have HSTEP := Lib.hid (fun w1 (hb : BldAt w1 P base E K s) (j : Nat) => hb.stepCell hi j)
 have HLT := Lib.hid (fun j (hj : InBld E K j ∨ InCache cb cmb sv j) => (show j < w.heap.size from hj.elim (h.lt j) (hC.cache.lt j)))
 have hkey : E.key i = keyT (E.rule i).kind (E.rule i).word (E.args i) := rfl
 have HCOK := Lib.hid hC.ok
 have HHX := Lib.hid hx
 have HNDC := Lib.hid (KMap.nodup hC.cache.map)
 rw [← hkey] at HKEY
 have HLK := Lib.hid hl
 clear h hc hi h1 hr hW hL hra hI hz ha hal hax hsum hkw hA hx0 hlo e1 e2 hb hkey hC hl hx
 generalize E.key i = key at *
 generalize E.args i = args at *
 generalize hkd : (E.rule i).kind = kd at *
 generalize hwd : (E.rule i).word = wd at *
 have HKD := Lib.hid hkd
 have HWD := Lib.hid hwd
 clear hkd hwd
 go_enter Tryz.func56, Tryz.ntmps56
 go_wp2_with fail
 refine HR.out.mono ?_
 rintro e w1 ⟨rfl, ho⟩
 have HX := Lib.hid ho
 clear ho
 go_wp2_with fail
 refine (HIN.out w1 HX.out).mono ?_
 rintro e w2 ⟨v, rfl, ho, hrow⟩
 have HX2 := Lib.hid (HX.out.then ho)
 have hrd : Rd S w2 v args := hrow.rd
 have HRD := Lib.hid hrd
 have HROW : Hid (Row w.heap.size w2 v args) := Lib.hid (rowLow hrow HX.out.size)
 obtain ⟨av, cv, rfl, _, _, _⟩ := hrd
 have HK1 := Lib.hid k1
 have HK2 := Lib.hid k2
 have m1 := HX2.out.cellOf k1 (fun h => h)
 have m2 := HX2.out.cellOf k2 (fun h => h)
 clear ho hrow k1 k2
 go_wp2_with fail
 go_region_held3 (fun w' => w'.cell? ⟨K.blk i, 1, none⟩ = some (S kd) ∧ w'.cell? ⟨K.blk i, 2, none⟩ = some (S wd)) (first | exact ⟨HX5.out.cellOf HK1.out (fun h => h), HX5.out.cellOf HK2.out (fun h => h)⟩ | exact ⟨m1, m2⟩ | go_keep)
  ((go_at_call 123; refine (HKEY.out _ (by first | exact HX2.out | exact HX2.out.thenDrew | exact HX2.out.thenDrewN _) _ (by first | exact HRD.out | exact HRD.out.ext (Only.drew _ _) | exact HRD.out.ext (Only.drewN _ _ _))).mono ?_; rintro e w5 ⟨rfl, ho⟩; have HX5 : Hid (Ext w w5) := Lib.hid (Only.ext (by first | exact HX2.out | exact HX2.out.thenDrew | exact HX2.out.thenDrewN _) ho); have HRW5 : Hid (Row w.heap.size w5 (.slice av args.length cv) args) := Lib.hid (Row.ext (by first | exact HROW.out | exact HROW.out.ext (Only.drew _ _) | exact HROW.out.ext (Only.drewN _ _ _)) ho); clear ho))
 all_goals
  have n3 := HX5.out.cellOf c3 (fun h => h)
  have HB5 := Lib.hid (HB.out.ext HX5.out)
  have HC5 := Lib.hid (HC.out.ext HX5.out)
  clear m1 m2
  go_wp2_with fail
  refine (get_any w5 cb cmb sv many L key HC5.out.cache (by have := HC5.out.len; have := HC5.out.many; omega)).mono ?_
  intro e w6 hg
  rw [HLK.out] at hg
  have HGK := Lib.hid (HC5.out.ok.get key)
  obtain ⟨sv6, rfl, hc6, hb6, ho6, hn6⟩ := HC5.out.got HB5.out HGK.out (getL_le key HNDC.out HC5.out.len) hg
  obtain ⟨hb7, ho7⟩ := hb6.hits HIM.out HS1.out HHX.out
  have HC7 := Lib.hid (hc6.steps ho7)
  have HB7 := Lib.hid hb7
  have HO7 := Lib.hid ((only_or (Only.after HX5.out ho6) ho7).mono (fun j _ h => h.symm))
  have HN6 : Hid (∀ j, InCache cb cmb sv6 j → InCache cb cmb sv j ∨ w.heap.size ≤ j) := Lib.hid (fun j hj => (hn6 j hj).imp id fun h => Nat.le_trans HX5.out.size h)
  have f6 := hb6.free HIM.out 6
  have f5 := hb6.free HIM.out 5
  have f4 := hb6.free HIM.out 4
  have t6 := (hb6.stepCell HIM.out 6).trans (rfl : _ = some (outC E s i))
  have t5 := (hb6.stepCell HIM.out 5).trans (rfl : _ = some (Value.bool (s.st i == 2 && s.hit i)))
  have t4 := (hb6.stepCell HIM.out 4).trans (rfl : _ = some (IN (s.st i)))
  clear hg hc6 hb6 ho6 hn6 hb7 ho7 n3
  go_wp2_with fail
  go_ret2
  exact ⟨_, rfl, HB7.out, HC7.out, HO7.out, HN6.out⟩
end
end Go.Proofs.YtnmhaipjfpongacGreatDoor

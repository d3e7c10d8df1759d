/- Texts of this seat laid together for one claim: I2, I3, F16, S10, I6, S9. No condition of its own: what each proves stands with its theorems. -/
import Derived.BigQuiet
import Derived.Deep.QuietTactic
import Derived.Test.YtnmhaipjfpongacGreatDoorPR23
import Derived.Test.YtnmhaipjfpongacGreatDoorPR31
import Derived.Test.YtnmhaipjfpongacGreatDoorPR41
import Derived.Test.YtnmhaipjfpongacGreatDoorPR16
import Derived.Test.YtnmhaipjfpongacGreatDoorPR13
import Derived.Test.YtnmhaipjfpongacGreatDoorPR9
import Derived.Test.YtnmhaipjfpongacGreatDoorPR11
import Derived.Test.YtnmhaipjfpongacGreatDoorPR42
import Derived.Test.YtnmhaipjfpongacGreatDoorPR29
import Derived.Test.YtnmhaipjfpongacGreatDoorPR43
import Derived.Test.YtnmhaipjfpongacGreatDoorPR32
namespace Go.Proofs.YtnmhaipjfpongacGreatDoor
open Go.ChangeShapes Go.WideShapes Go.ChangeAt Go.RowKit

theorem lookup_filterG {α : Type} {k s : B} : ∀ (L : List (B × α)), s ≠ k → (L.filter fun p => !(p.1 == k)).lookup s = L.lookup s
 | [], _ => rfl
 | (a, x) :: L, h => by
  by_cases ha : a = k
  ·subst ha
   have hs : (s == a) = false := beq_eq_false_iff_ne.2 h
   rw [List.filter_cons_of_neg (by simp), lookup_filterG L h, List.lookup, hs]
  ·rw [List.filter_cons_of_pos (by simpa using ha)]
   simp only [List.lookup]
   rw [lookup_filterG L h]
theorem Knows.more {W : B → Tld} {L : List (B × Tld)} (h : Knows W L) {p : B} {x : Tld} (hx : x = W p) : Knows W ((p, x) :: L.filter fun q => !(q.1 == p)) := fun q y hq => by
 by_cases e : q = p
 ·subst e
  rw [List.lookup_cons, beq_self_eq_true] at hq
  cases hq
  exact hx
 ·have hs : (q == p) = false := beq_eq_false_iff_ne.2 e
  rw [List.lookup_cons, hs] at hq
  simp only at hq
  rw [lookup_filterG L e] at hq
  exact h q y hq
theorem AskAt.stored {w0 w w' : World} {P : Nat → Addr} {ab tb kb : Nat} {lv : Value} {L L' : List (B × Tld)} (h : AskAt w0 w P ab tb kb lv L) (ho : Only (fun b => b = kb) w w') (hm : KMap .string S (tEnc P) w' kb L') : AskAt w0 w' P ab tb kb lv L' :=
 ⟨h.ext.trans ho (fun _ _ h => h) (fun i hi e => by have := h.lo; omega), ho.heapOf h.cells (fun e => h.lo.2.2 e), hm, h.lo⟩

end Go.Proofs.YtnmhaipjfpongacGreatDoor

namespace Go.Proofs.YtnmhaipjfpongacGreatDoor
open Go.ChangeShapes Go.WideShapes Go.ChangeAt Go.RowKit

theorem ErrAt.errC (w : World) (P : Nat → Addr) (c : Nat) : ErrAt w P (c, -1) (errC P c) := by
 cases c with
 | zero => exact ErrAt.nil _ _ _
 | succ c => exact .inr (.inl ⟨by simp, rfl, rfl⟩)

end Go.Proofs.YtnmhaipjfpongacGreatDoor

namespace Go.Proofs.YtnmhaipjfpongacGreatDoor
open Go.ChangeShapes Go.WideShapes Go.ChangeAt Go.RowKit

theorem repl_len (p q : B) (hp : p ≠ []) : ∀ (n : Nat) (s : B), s.length ≤ n → (Lib.replaceAll s p q).length ≤ s.length * (1 + q.length)
 | 0, s, h => by
  rw [List.length_eq_zero_iff.1 (Nat.le_zero.1 h), repl_nil hp]
  simp
 | n + 1, [], _ => by rw [repl_nil hp]; simp
 | n + 1, c :: r, h => by
  have hp1 : 1 ≤ p.length := List.length_pos_iff.2 hp
  cases hh : p.isPrefixOf (c :: r) with
  | true =>
   rw [repl_here hp hh, List.length_append]
   have hle : ((c :: r).drop p.length).length ≤ r.length := by rw [List.length_drop, List.length_cons]; omega
   have h1 := repl_len p q hp n ((c :: r).drop p.length) (by simp at h; omega)
   have h2 : ((c :: r).drop p.length).length * (1 + q.length) ≤ r.length * (1 + q.length) := Nat.mul_le_mul_right _ hle
   have h3 : (c :: r).length * (1 + q.length) = r.length * (1 + q.length) + (1 + q.length) := by rw [List.length_cons, Nat.succ_mul]
   omega
  | false =>
   rw [repl_skip hp hh, List.length_cons]
   have h1 := repl_len p q hp n r (by simpa using h)
   have h3 : (c :: r).length * (1 + q.length) = r.length * (1 + q.length) + (1 + q.length) := by rw [List.length_cons, Nat.succ_mul]
   omega

theorem refMade_any (w : World) (k : Kd) (wd : B) (l : List B) (v : Value) (hk : k ≠ .write) (hv : Rd S w v l) (hb : sumLen l + l.length ≤ 900000) (hw : wd.length ≤ 1000) (h1 : k.least ≤ l.length) (h2 : k.word wd = true) :
  Calls Tryz.prog 171 #[S k.name, S wd, v] w (RetE (S (k.run wd l)) w) := by
 have hx : ∀ x r, l = x :: r → x.length ≤ 900000 := fun x r e => by subst e; rw [sum_cons] at hb; omega
 have he := kdIs k
 cases k with
 | write => exact absurd rfl hk
 | join => exact made_join w _ wd l v he hv h1 hb hw
 | sort => exact made_sort w _ wd l v he hv hb (by
   have h3 : (wd == [] || wd == [111, 110, 99, 101]) = true := h2
   rw [Bool.or_eq_true, beq_iff_eq, beq_iff_eq] at h3
   exact h3)
 | count => exact made_count w _ wd l v he hv hb
 | upper =>
  cases l with
  | nil => simp [Kd.least] at h1
  | cons x r => exact made_upper w _ wd x r v he hv (hx x r rfl)
 | lines =>
  cases l with
  | nil => simp [Kd.least] at h1
  | cons x r => exact made_lines w _ wd x r v he hv (hx x r rfl) hw
 | swap =>
  cases l with
  | nil => simp [Kd.least] at h1
  | cons x r =>
   have hxl := hx x r rfl
   refine made_swap w _ wd x r v he hv hxl hw h2 ?_
   have h3 := repl_len (cut1 61 wd).1 (cut1 61 wd).2.1 (pair_cut h2) x.length x (Nat.le_refl _)
   have h4 := (cut1_len 61 wd).2
   have h5 : x.length * (1 + (cut1 61 wd).2.1.length) ≤ 900000 * 1001 := Nat.mul_le_mul hxl (by omega)
   omega
 | head =>
  cases l with
  | nil => simp [Kd.least] at h1
  | cons x r =>
   obtain ⟨n, hn⟩ := Option.isSome_iff_exists.1 h2
   have := made_head w _ wd x r v n he hv (hx x r rfl) hw hn
   show Calls _ _ _ _ (RetE (S (endedB ((linesB x).take ((numB 3 wd).getD 0)))) w)
   rw [hn]
   exact this

set_option maxRecDepth 100000 in
set_option maxHeartbeats 2000000 in
theorem actOf_any (w : World) (name wd : B) (l : List B) (v : Value) (hv : Rd S w v l) (hb : sumLen l + l.length ≤ 900000) (hw : wd.length ≤ 1000) :
  Calls Tryz.prog 97 #[S name, S wd, v] w (RetE (.tuple #[S (runOut name wd l), I (runCode name wd l)]) w) := by
 have HE := Lib.hid (actError_any w name wd l.length (by omega))
 cases hc : actCode name wd l.length with
 | succ c =>
  have e1 : runCode name wd l = c + 1 := by unfold runCode; rw [hc, if_neg (Nat.succ_ne_zero _)]
  have e2 : runOut name wd l = [] := by unfold runOut; rw [e1, if_neg (Nat.succ_ne_zero _)]
  rw [e1, e2]
  rw [hc] at HE
  obtain ⟨a, cap, rfl, _, _, _⟩ := hv
  have hcz : (0 : Int) < ((c + 1 : Nat) : Int) := by omega
  generalize ((c + 1 : Nat) : Int) = z at *
  clear e1 e2 hc hb hw
  go_enter Tryz.func97, Tryz.ntmps97
  go_wp2_with fail
  refine (HE.out).mono ?_
  rintro e w1 ⟨rfl, ho⟩
  have HO := Lib.hid ho
  clear ho
  go_wp2_with fail
  go_ret2
  exact ⟨rfl, HO.out⟩
 | zero =>
  obtain ⟨k, hk, h1, h2, h3⟩ := actCode_ok hc
  obtain rfl := kind_name hk
  have e0 : actOut k.name wd l = k.run wd l := by unfold actOut; rw [hk]
  have e1 : runCode k.name wd l = if 2000 < (k.run wd l).length then 10 else 0 := by unfold runCode; rw [hc, if_pos rfl, e0]
  have e2 : runOut k.name wd l = if 2000 < (k.run wd l).length then [] else k.run wd l := by
   unfold runOut
   rw [e1, e0]
   by_cases h : 2000 < (k.run wd l).length
   ·rw [if_pos h, if_pos h, if_neg (by decide)]
   ·rw [if_neg h, if_neg h, if_pos rfl]
  rw [e1, e2]
  rw [hc] at HE
  by_cases hwr : k = .write
  ·subst hwr
   show Calls _ _ _ _ (RetE (.tuple #[S (if 2000 < wd.length then [] else wd), I (if 2000 < wd.length then 10 else 0 : Nat)]) w)
   rw [if_neg (by omega), if_neg (by omega)]
   have hlz : ¬ (2000 : Int) < (wd.length : Int) := by omega
   obtain ⟨_, _, _, _, _, _, _, e8⟩ := kdIs .write
   change _ = true at e8
   obtain ⟨a, cap, rfl, _, _, _⟩ := hv
   generalize Kd.write.name = nm at *
   clear e0 e1 e2 hk h1 h2 h3 hc hb hw
   go_enter Tryz.func97, Tryz.ntmps97
   go_wp2_with fail
   refine (HE.out).mono ?_
   rintro e w1 ⟨rfl, ho⟩
   have HO := Lib.hid ho
   clear ho
   go_wp2_with fail
   go_ret2
   exact ⟨rfl, HO.out⟩
  ·have HM := Lib.hid (fun W (hW : Ext w W) => refMade_any W k wd l v hwr (hv.ext hW) hb hw h1 h2)
   obtain ⟨_, _, _, _, _, _, _, e8⟩ := kdIs k
   have e9 : Kd.isN 7 k = false := by cases k <;> first | rfl | exact absurd rfl hwr
   rw [e9] at e8
   obtain ⟨a, cap, rfl, _, _, _⟩ := hv
   generalize k.run wd l = out at *
   generalize k.name = nm at *
   clear e0 e1 e2 hk h1 h2 h3 hc hb hw e9 hwr
   by_cases hl : 2000 < out.length
   ·rw [if_pos hl, if_pos hl]
    have hlz : (2000 : Int) < (out.length : Int) := by omega
    clear hl
    go_enter Tryz.func97, Tryz.ntmps97
    go_wp2_with fail
    refine (HE.out).mono ?_
    rintro e w1 ⟨rfl, ho⟩
    have HO := Lib.hid ho
    clear ho
    go_wp2_with fail
    refine (HM.out _ HO.out).mono ?_
    rintro e w2 ⟨rfl, ho⟩
    have HO2 := Lib.hid (HO.out.then ho)
    clear ho
    go_wp2_with fail
    go_ret2
    exact ⟨rfl, HO2.out⟩
   ·rw [if_neg hl, if_neg hl]
    have hlz : ¬ (2000 : Int) < (out.length : Int) := by omega
    clear hl
    go_enter Tryz.func97, Tryz.ntmps97
    go_wp2_with fail
    refine (HE.out).mono ?_
    rintro e w1 ⟨rfl, ho⟩
    have HO := Lib.hid ho
    clear ho
    go_wp2_with fail
    refine (HM.out _ HO.out).mono ?_
    rintro e w2 ⟨rfl, ho⟩
    have HO2 := Lib.hid (HO.out.then ho)
    clear ho
    go_wp2_with fail
    go_ret2
    exact ⟨rfl, HO2.out⟩

end Go.Proofs.YtnmhaipjfpongacGreatDoor

namespace Go.Proofs.YtnmhaipjfpongacGreatDoor
open Go.ChangeShapes Go.WideShapes Go.ChangeAt Go.RowKit

theorem sumI_le {l : List B} (h : ∀ x ∈ l, x.length ≤ 2000) : sumLen l ≤ l.length * 2000 := by
 induction l with
 | nil => simp [sumLen]
 | cons x l ih =>
  rw [sum_cons, List.length_cons, Nat.succ_mul]
  have := ih fun y hy => h y (.tail _ hy)
  have := h x (.head _)
  omega
theorem fnd_look (T : FL) (p : B) : (∃ (k : Nat) (q : B × B), fndT T p = (k : Int) ∧ T[k]? = some q ∧ T.lookup p = some q.2) ∨ (fndT T p = -1 ∧ T.lookup p = none) := by
 unfold fndT
 induction T with
 | nil => exact .inr ⟨rfl, rfl⟩
 | cons q T ih =>
  obtain ⟨a, x⟩ := q
  rw [List.findIdx?_cons, List.lookup_cons]
  by_cases h : a = p
  ·subst h
   exact .inl ⟨0, (a, x), by simp, rfl, by simp⟩
  ·have h1 : (a == p) = false := beq_eq_false_iff_ne.2 h
   have h2 : (p == a) = false := beq_eq_false_iff_ne.2 (Ne.symm h)
   simp only [h1, h2]
   rcases ih with ⟨k, q, h3, h4, h5⟩ | ⟨h3, h4⟩
   ·refine .inl ⟨k + 1, q, ?_, by simpa using h4, h5⟩
    cases hf : T.findIdx? (fun p_1 => p_1.1 == p) with
    | none => rw [hf] at h3; simp at h3
    | some j =>
     rw [hf] at h3
     have h6 : (j : Int) = (k : Int) := by simpa using h3
     obtain rfl : j = k := by omega
     simp
   ·refine .inr ⟨?_, h4⟩
    cases hf : T.findIdx? (fun p_1 => p_1.1 == p) with
    | none => simp
    | some j => rw [hf] at h3; simp at h3

end Go.Proofs.YtnmhaipjfpongacGreatDoor

namespace Go.Proofs.YtnmhaipjfpongacGreatDoor
open Go.ChangeShapes Go.WideShapes Go.ChangeAt Go.RowKit

structure PartAt (w wr : World) (v : Value) (ps : List (Rule × Option Addr × Nat × Nat)) : Prop where
 ext : Ext w wr
 row : wr.ownsRow w.heap.size 55 4 v ps.length (ps.flatMap encR)
 texts : ∀ p ∈ ps, Rd S w (SV p.2) p.1.ins
theorem PartAt.nil (w : World) : PartAt w w (.slice none 0 0) [] := ⟨Only.refl _ _, World.ownsRow_nil _ _ _ _, by simp⟩
theorem PartAt.grow {w wr w' : World} {v : Value} {ps : List (Rule × Option Addr × Nat × Nat)} (h : PartAt w wr v ps) (ho : Ext wr w') : PartAt w w' v ps := ⟨h.ext.then ho, ho.row h.row (fun _ _ h => h), h.texts⟩
theorem PartAt.push {w wr w2 : World} {v v' : Value} {u : Option Addr × Nat × Nat} {ps : List (Rule × Option Addr × Nat × Nat)} {r : Rule} (h : PartAt w wr v ps) (hu : Rd S w (SV u) r.ins) (hr : w2.ownsRow w.heap.size 55 4 v' (ps.length + 1) ((ps ++ [(r, u)]).flatMap encR)) (hg : wr.grownBy w2 v.ownBlock) : PartAt w w2 v' (ps ++ [(r, u)]) := by
 have ho : Only (fun b => v.ownBlock = some b) wr w2 := Only.of_grown hg
 refine ⟨h.ext.trans ho (fun _ _ h => h) (fun i hi e => by have := (h.row.lt i e).1; omega), by rw [List.length_append]; exact hr, fun p hp => ?_⟩
 rcases List.mem_append.1 hp with hp | hp
 ·exact h.texts p hp
 ·rw [List.mem_singleton] at hp
  subst hp
  exact hu
theorem PartAt.rd {w wr : World} {v : Value} {ps : List (Rule × Option Addr × Nat × Nat)} {l : List Rule} (h : PartAt w wr v ps) (hl : ps.map Prod.fst = l) : RdR wr v l := by
 have hs := RdS.of_row encR_len h.row
 obtain ⟨a, cap, h1, h2, h3, h4⟩ := hs
 have hlen : ps.length = l.length := by rw [← hl, List.length_map]
 refine ⟨a, cap, by rw [← hlen]; exact h1, by omega, h3, fun hne => ?_⟩
 obtain ⟨b, off, h5, h6⟩ := h4 (by intro e; rw [e] at hl; exact hne hl.symm)
 refine ⟨b, off, h5, fun i r hi => ?_⟩
 rw [← hl, List.getElem?_map] at hi
 obtain ⟨p, hp, rfl⟩ := Option.map_eq_some_iff.1 hi
 refine ⟨SV p.2, (h.texts p (List.mem_of_getElem? hp)).ext h.ext, ?_, ?_, ?_, ?_⟩
 ·have := h6 i p hp 0 _ rfl; rwa [Nat.add_zero] at this
 ·exact h6 i p hp 1 _ rfl
 ·exact h6 i p hp 2 _ rfl
 ·exact h6 i p hp 3 _ rfl
end Go.Proofs.YtnmhaipjfpongacGreatDoor

namespace Go.Proofs.YtnmhaipjfpongacGreatDoor
open Go.ChangeShapes Go.WideShapes Go.ChangeAt Go.RowKit

noncomputable def nFault (l : List Rule) (outs : List B) : Nat × Int := if (needFault l outs).1 ≠ 0 then needFault l outs else partFault l (needL l outs)
theorem nFault_sheet {l : List Rule} {outs : List B} (h : (sheetFault l).1 ≠ 0) : nFault l outs = sheetFault l := by
 have h1 : needFault l outs = sheetFault l := by unfold needFault; rw [if_pos h]
 unfold nFault
 rw [h1, if_pos h]
theorem nFault_bad {l : List Rule} {outs : List B} {i : Nat} (h : (sheetFault l).1 = 0) (hb : badOf l outs = some i) : nFault l outs = (6, (i : Int)) := by
 have h1 : needFault l outs = (6, (i : Int)) := by unfold needFault; rw [if_neg (by rw [h]; simp), hb]
 unfold nFault
 rw [h1, if_pos (by simp)]
theorem nFault_part {l : List Rule} {outs : List B} (h : (sheetFault l).1 = 0) (hb : badOf l outs = none) : nFault l outs = partFault l (needL l outs) := by
 have h1 : needFault l outs = (0, -1) := by unfold needFault; rw [if_neg (by rw [h]; simp), hb]
 unfold nFault
 rw [h1, if_neg (by simp)]

set_option maxRecDepth 100000 in
set_option maxHeartbeats 8000000 in
theorem buildFault_any (w : World) (l : List Rule) (outs : List B) (v vo : Value) (hv : RdR w v l) (hvo : Rd S w vo outs) (hs : ∀ r ∈ l, RuleSm 900000 r) :
  Calls Tryz.prog 54 #[v, vo] w (RetE (AggF (nFault l outs)) w) := by
 have HRD := Lib.hid hv
 have HRO := Lib.hid hvo
 have HR0 : Hid (ResAt w (w.alloc (.cells #[.int .i64 0, .int .i64 0] 37 (0, 0)))) := Lib.hid ⟨Only.alloc _ _ _, (MapKept.heap_alloc w _).1⟩
 have HSH := Lib.hid (fun (wq : World) (hx : Ext w wq) => refSheet_any wq l v (hv.ext hx) hs)
 obtain ⟨R, hR⟩ : ∃ R, R = nFault l outs := ⟨_, rfl⟩
 rw [← hR]
 have HR := Lib.hid hR
 obtain ⟨F, hF⟩ : ∃ F, F = sheetFault l := ⟨_, rfl⟩
 rw [← hF] at HSH
 have HF := Lib.hid hF
 obtain ⟨c, t⟩ := F
 obtain ⟨a, cap, rfl, _, _, _⟩ := hv
 obtain ⟨ao, co, rfl, _, _, _⟩ := hvo
 clear hs hF hR
 by_cases hc : c = 0
 case neg =>
  have HR2 : Hid (R = (c, t)) := Lib.hid (by rw [HR.out, nFault_sheet (by rw [← HF.out]; exact hc), HF.out])
  have hcz : (0 : Int) < (c : Int) := by omega
  clear hc
  go_enter Tryz.func54, Tryz.ntmps54
  go_wp2_with fail
  refine (HSH.out _ HR0.out.ext).mono ?_
  rintro e w1 ⟨rfl, ho⟩
  have hr1 := (HR0.out.grow ho).grow (Only.alloc _ w1 (.cells #[IN c, I t] 37 (0, 0)))
  have HX1 := Lib.hid hr1.ext
  have HRC := Lib.hid hr1.cell
  have f0 := free_of_heap hr1.cell 0
  have f1 := free_of_heap hr1.cell 1
  have r0 := (cell_of_heap hr1.cell 0).trans (rfl : _ = some (Value.int .i64 0))
  have r1 := (cell_of_heap hr1.cell 1).trans (rfl : _ = some (Value.int .i64 0))
  clear ho hr1 HR0
  go_wp2_with fail
  refine bodyPost_ret (v := AggF R) ?_ rfl ⟨rfl, ext_setS1 (ext_setS1 HX1.out _ _ (Nat.le_refl _)) _ _ (Nat.le_refl _)⟩
  have hres : Tryz.f54.results = #[.cell 4 37] := by kernel_rfl
  have rc0 := fun u v => (res_cells HRC.out u v).1
  have rc1 := fun u v => (res_cells HRC.out u v).2
  rw [HR2.out]
  simp only [results, hres]
  go_simp
 case pos =>
  subst hc
  have h00 : (sheetFault l).1 = 0 := by rw [← HF.out]
  have HZ := Lib.hid h00
  have HRT := Lib.hid (sheet_ok.1 h00)
  obtain rfl : t = -1 := by
   have h1 := sheet_zero h00
   rw [← HF.out] at h1
   exact (Prod.mk.inj h1).2
  have h40 : l.length ≤ 1000 := by have := HRT.out.1; omega
  clear h00
  go_enter Tryz.func54, Tryz.ntmps54
  go_wp2_with fail
  refine (HSH.out _ HR0.out.ext).mono ?_
  rintro e w1 ⟨rfl, ho⟩
  have HR1 := Lib.hid ((HR0.out.grow ho).grow (Only.alloc _ w1 (.cells #[.int .i64 0, .int .i64 (-1)] 37 (0, 0))))
  have HB5 : Hid ((w1.alloc (.cells #[.int .i64 0, .int .i64 (-1)] 37 (0, 0))).heap[w1.heap.size]? = some (.cells #[.int .i64 0, .int .i64 (-1)] 37 (0, 0))) := Lib.hid (MapKept.heap_alloc w1 _).1
  clear ho HR0 HSH
  go_wp2_with fail
  refine (neededOf_any _ l outs _ _ (HRD.out.ext HR1.out.ext) (HRO.out.ext HR1.out.ext) HRT.out).mono ?_
  rintro e w3 ⟨ho, hcase⟩
  have HR3 := Lib.hid (HR1.out.grow ho)
  have HB53 := Lib.hid (ho.heapOf HB5.out (fun h => h))
  clear ho HR1 HB5
  rcases hcase with ⟨i, hb, rfl⟩ | ⟨hb, tb, rfl, htab⟩
  ·have HR2 : Hid (R = (6, (i : Int))) := Lib.hid (by rw [HR.out, nFault_bad HZ.out hb])
   have hi0 : (0 : Int) ≤ (i : Int) := by omega
   have HX3 := Lib.hid HR3.out.ext
   have HRC := Lib.hid HR3.out.cell
   have f0 := free_of_heap HR3.out.cell 0
   have f1 := free_of_heap HR3.out.cell 1
   have r0 := (cell_of_heap HR3.out.cell 0).trans (rfl : _ = some (Value.int .i64 0))
   have r1 := (cell_of_heap HR3.out.cell 1).trans (rfl : _ = some (Value.int .i64 0))
   clear hb
   go_wp2_with fail
   refine bodyPost_ret (v := AggF R) ?_ rfl ⟨rfl, ext_setS1 (ext_setS1 HX3.out _ _ (Nat.le_refl _)) _ _ (Nat.le_refl _)⟩
   have hres : Tryz.f54.results = #[.cell 4 37] := by kernel_rfl
   have rc0 := fun u v => (res_cells HRC.out u v).1
   have rc1 := fun u v => (res_cells HRC.out u v).2
   rw [HR2.out]
   simp only [results, hres]
   go_simp
  ·have HRP : Hid (R = partFault l (needL l outs)) := Lib.hid (by rw [HR.out, nFault_part HZ.out hb])
   have horc : Calls Tryz.prog 26 _ w3 (RetOrder (partB l (needL l outs)) w3) := orderOf_any w3 l _ tb (fun i => (needL l outs).contains i) (HRD.out.ext HR3.out.ext) h40 (htab.congr fun k hk => by
    congr 1
    rw [Bool.eq_iff_iff]
    simp only [List.contains_iff_mem, mem_needL, reachB_iff]
    exact ⟨fun h => ⟨hk, h⟩, fun h => h.2⟩)
   have HORC := Lib.hid horc
   clear hb htab horc
   go_wp2_with fail
   refine HORC.out.mono ?_
   rintro e w4 ⟨vq, rfl, _, ho4⟩
   have HR4 := Lib.hid (HR3.out.grow ho4)
   have HB54 := Lib.hid (ho4.heapOf HB53.out (fun h => h))
   clear ho4
   cases hp : partB l (needL l outs) with
   | none =>
    have HR2 : Hid (R = (9, -1)) := Lib.hid (by rw [HRP.out]; unfold partFault; rw [hp]; rfl)
    clear hp
    go_wp2_with fail
    refine (refBare_any _ 9).mono ?_
    rintro e w5 ⟨rfl, ho5⟩
    have hr5 := HR4.out.grow ho5
    have HX5 := Lib.hid hr5.ext
    have HRC := Lib.hid hr5.cell
    have f0 := free_of_heap hr5.cell 0
    have f1 := free_of_heap hr5.cell 1
    have r0 := (cell_of_heap hr5.cell 0).trans (rfl : _ = some (Value.int .i64 0))
    have r1 := (cell_of_heap hr5.cell 1).trans (rfl : _ = some (Value.int .i64 0))
    clear ho5 hr5
    go_wp2_with fail
    refine bodyPost_ret (v := AggF R) ?_ rfl ⟨rfl, ext_setS1 (ext_setS1 HX5.out _ _ (Nat.le_refl _)) _ _ (Nat.le_refl _)⟩
    have hres : Tryz.f54.results = #[.cell 4 37] := by kernel_rfl
    have rc0 := fun u v => (res_cells HRC.out u v).1
    have rc1 := fun u v => (res_cells HRC.out u v).2
    rw [HR2.out]
    simp only [results, hres]
    go_simp
   | some od =>
    have HR2 : Hid (R = (0, -1)) := Lib.hid (by rw [HRP.out]; unfold partFault; rw [hp]; rfl)
    have HX5 := Lib.hid HR4.out.ext
    have b0 := (cell_of_heap HB54.out 0).trans (rfl : _ = some (Value.int .i64 0))
    have b1 := (cell_of_heap HB54.out 1).trans (rfl : _ = some (Value.int .i64 (-1)))
    have HRC := Lib.hid HR4.out.cell
    have f0 := free_of_heap HR4.out.cell 0
    have f1 := free_of_heap HR4.out.cell 1
    have r0 := (cell_of_heap HR4.out.cell 0).trans (rfl : _ = some (Value.int .i64 0))
    have r1 := (cell_of_heap HR4.out.cell 1).trans (rfl : _ = some (Value.int .i64 0))
    clear hp
    go_wp2_with fail
    refine bodyPost_ret (v := AggF R) ?_ rfl ⟨rfl, ext_setS1 (ext_setS1 HX5.out _ _ (Nat.le_refl _)) _ _ (Nat.le_refl _)⟩
    have hres : Tryz.f54.results = #[.cell 4 37] := by kernel_rfl
    have rc0 := fun u v => (res_cells HRC.out u v).1
    have rc1 := fun u v => (res_cells HRC.out u v).2
    rw [HR2.out]
    simp only [results, hres]
    go_simp

end Go.Proofs.YtnmhaipjfpongacGreatDoor

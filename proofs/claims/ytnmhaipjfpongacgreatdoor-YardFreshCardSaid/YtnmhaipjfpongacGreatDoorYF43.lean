/- Texts of this seat laid together for one claim: Bm7. No condition of its own: what each proves stands with its theorems. -/
import Derived.Test.YtnmhaipjfpongacGreatDoorYF42
import Derived.Test.YtnmhaipjfpongacGreatDoorYF33
namespace Go.Proofs.YtnmhaipjfpongacGreatDoor
open Go.ChangeShapes Go.WideShapes Go.ChangeAt Go.RowKit

section
variable {w0 w w' : World} {E : BE} {K : MK} {s : BS} {o : List Nat} {is : Nat → Bool} {cb : Nat} {cv : Value} {C : CS}
theorem RunMPost.failed {w1 : World} {e : Ending} (hC : CchM w1 K cb cv C) (ho : Ext w w1) (h : FailMPost w0 w1 E K s e w') : MBldAt w0 w' E K s ∧ CchM w' K cb cv C ∧ Only (fun i => InM K i ∨ i = cb) w w' ∧ e = .returned (.tuple #[]) := by
 obtain ⟨rfl, h1, h2⟩ := h
 exact ⟨h1, hC.tabs h2, (Only.after ho h2).mono fun _ _ h => .inl h, rfl⟩
noncomputable def goodP (E : BE) (s : BS) (i : Nat) (key : B) : CS → (Bool × Nat) × BS × CS
 | none => ((false, 0), doneP s i false, none)
 | some (many, L) => match L.lookup key with
  | some _ => ((true, 0), doneP s i true, some (many, getL L key))
  | none => ((false, 0), doneP s i false, some (many, putL many L key (E.ans i).1))
theorem goodP_hit {E : BE} {s : BS} {i : Nat} {key : B} {many : Nat} {L : FL} {x : B} (h : L.lookup key = some x) : goodP E s i key (some (many, L)) = ((true, 0), doneP s i true, some (many, getL L key)) := by
 unfold goodP
 simp only [h]
theorem goodP_miss {E : BE} {s : BS} {i : Nat} {key : B} {many : Nat} {L : FL} (h : L.lookup key = none) : goodP E s i key (some (many, L)) = ((false, 0), doneP s i false, some (many, putL many L key (E.ans i).1)) := by
 unfold goodP
 simp only [h]
theorem MAt.dones (h : MBldAt w0 w E K s) {i : Nat} (hi : i ∈ E.sm) (h1 : s.st i = 1) {x : B} (hx : x = (E.ans i).1) : MBldAt w0 ((w.setCell ⟨K.st, i, none⟩ (S [100, 111, 110, 101])).setCell ⟨K.ou, i, none⟩ (S x)) E K (doneP s i false) ∧ Only (InM K) w ((w.setCell ⟨K.st, i, none⟩ (S [100, 111, 110, 101])).setCell ⟨K.ou, i, none⟩ (S x)) := by
 obtain ⟨hA, o1⟩ := h.setSt i 2 (g' := mst E (doneP s i false)) (fun k => mst_done hi false k)
 obtain ⟨hB, o2⟩ := hA.setOu i x (ou' := outM E (doneP s i false)) (fun k => by rw [outM_done hi false k, hx])
 refine ⟨hB.congr (fun _ _ => rfl) (fun _ _ => rfl) (fun k _ => ?_) (fun k _ => (whyM_done hi h1 false k).symm), o1.then o2⟩
 rw [hitM_done hi false k]
 by_cases e : k = i
 ·subst e
  rw [if_pos rfl]
  unfold hitM
  rw [mst_in hi, h1]
  rfl
 ·rw [if_neg e]
theorem MAt.hits (h : MBldAt w0 w E K s) {i : Nat} (hi : i ∈ E.sm) (h1 : s.st i = 1) {x : B} (hx : x = (E.ans i).1) : MBldAt w0 (((w.setCell ⟨K.st, i, none⟩ (S [100, 111, 110, 101])).setCell ⟨K.ou, i, none⟩ (S x)).setCell ⟨K.hi, i, none⟩ (.bool true)) E K (doneP s i true) ∧ Only (InM K) w (((w.setCell ⟨K.st, i, none⟩ (S [100, 111, 110, 101])).setCell ⟨K.ou, i, none⟩ (S x)).setCell ⟨K.hi, i, none⟩ (.bool true)) := by
 obtain ⟨hA, o1⟩ := h.setSt i 2 (g' := mst E (doneP s i true)) (fun k => mst_done hi true k)
 obtain ⟨hB, o2⟩ := hA.setOu i x (ou' := outM E (doneP s i true)) (fun k => by rw [outM_done hi true k, hx])
 obtain ⟨hD, o3⟩ := hB.setHi i true (hi' := hitM E (doneP s i true)) (fun k => hitM_done hi true k)
 exact ⟨hD.congr (fun _ _ => rfl) (fun _ _ => rfl) (fun _ _ => rfl) (fun k _ => (whyM_done hi h1 true k).symm), (o1.then o2).then o3⟩


set_option maxRecDepth 100000 in
set_option maxHeartbeats 16000000 in
theorem runM_ready (h : MBldAt w0 w E K s) (hC : CchM w K cb cv C) (hW : BWell E o is) (hI : BInv E s) (hL : BLens E) (hT : E.T.length ≤ 1000000) (hcb : w0.heap.size ≤ cb) (hcl : cb < w.heap.size) {i : Nat} (hi : i ∈ E.sm) (hr : readyP E s i = true) :
  Calls Tryz.prog 57 #[PTR K.b, I i] w (RunMPost w0 w E K cb cv (runP E C s i).1 (runP E C s i).2.1 (runP E C s i).2.2) := by
 have HCB := Lib.hid hcb
 have HCLT := Lib.hid hcl
 clear hcb hcl
 have hin := hW.lt i hi
 have h1 := (ready_iff.1 hr).1
 have hl40 := hW.right.1
 have hlz : (E.l.length : Int) ≤ 40 := by omega
 have hiz : (i : Int) < (E.l.length : Int) := by omega
 have hi0 : (0 : Int) ≤ (i : Int) := by omega
 have hi1 : ¬ (i : Int) < 0 := by omega
 have hi2 : ¬ (E.l.length : Int) ≤ (i : Int) := by omega
 have c1 := (h.cell 1).trans (rfl : _ = some (Value.slice K.la E.l.length K.lc))
 have c2 := (h.cell 2).trans (rfl : _ = some (TabS K.st E.l.length))
 have t0 := h.tab.st.cell hin
 have hb0 := stateM_none (mst_le hI i)
 have hb1 := stateM_waits (mst_le hI i)
 rw [mst_in hi, h1] at hb0 hb1 t0
 rw [show ((1 : Nat) == 0) = false from rfl] at hb0
 rw [show ((1 : Nat) == 1) = true from rfl] at hb1
 generalize stateM 1 = sv at t0 hb0 hb1
 have hrm := isReadyM_any h hW hI hin
 rw [show readyMB E s i = true by unfold readyMB; rw [hr, decide_eq_true hi]; rfl] at hrm
 have HRM := Lib.hid hrm
 have H := Lib.hid h
 have HC := Lib.hid hC
 have HIM := Lib.hid hi
 have HS1 := Lib.hid h1
 have HIN := Lib.hid hin
 -- what it gives, by its answer
 have HBAD : Hid ((E.ans i).2 ≠ 0 → runP E C s i = ((false, 0), failP E s i, C)) := Lib.hid (fun hb => by
  unfold runP
  rw [if_neg (by simpa using hi), if_neg (by simpa using h1), if_neg (by rw [hr]; decide), if_pos hb])
 have HGOOD : Hid ((E.ans i).2 = 0 → runP E C s i = goodP E s i (E.key i) C) := Lib.hid (fun hb => by
  unfold runP
  rw [if_neg (by simpa using hi), if_neg (by simpa using h1), if_neg (by rw [hr]; decide), if_neg (by simpa using hb)]
  rfl)
 have HFAIL := Lib.hid (fun (w1 : World) (hb : MBldAt w0 w1 E K s) (c : Nat) (hc : (E.ans i).2 = c) => failM_any hb hW hI hi h1 c hc)
 have HRD0 := h.rules.ext h.ext
 have HRD := Lib.hid HRD0
 obtain ⟨_, _, hva, _, _, hcl⟩ := HRD0
 cases hva
 have HCL := Lib.hid hcl
 obtain ⟨lb, lo, hla, hcell⟩ := hcl (by intro h; rw [h] at hin; simp at hin)
 have HLA := Lib.hid hla
 have HC1 := Lib.hid (fun (wr : World) (hm : MBldAt w0 wr E K s) => (show wr.cell? ⟨K.b, 1, none⟩ = some (Value.slice (some ⟨lb, lo, none⟩) E.l.length K.lc) from by rw [hm.cell 1, ← hla]; rfl))
 rw [hla] at c1
 obtain ⟨u, hu, k0, k1, k2, k3⟩ := hcell i (E.rule i) (BE.rule_at hin)
 have HMADE := Lib.hid (fun (q : B) (hq : q ∈ (E.rule i).ins) (j : Nat) (r : Rule) (hj : E.l[j]? = some r) (he : (r.out == q) = true) => hW.made hi hr hq hj he)
 have HLEAF := Lib.hid (fun (q : B) (hq : q ∈ (E.rule i).ins) (hm : madeTo E q E.l.length = false) => hW.leafM hi hq hm)
 have HEND := Lib.hid (fun q => ownIn_end hW.right q)
 have HANS := Lib.hid (hW.ans hi)
 have HII := Lib.hid hI
 have HTL := Lib.hid hT
 obtain ⟨hal, hax⟩ := hL.args hW hi
 have hsum : sumLen (E.args i) + (E.args i).length ≤ 900000 := by
  have := sumI_le hax
  have h5 : (E.args i).length * 2000 ≤ 12 * 2000 := Nat.mul_le_mul_right _ hal
  omega
 have HACT := Lib.hid (fun (w1 : World) (v : Value) (hv : Rd S w1 v (E.args i)) => actOf_any w1 (E.rule i).kind (E.rule i).word (E.args i) v hv hsum (by have := hL.word i hi; omega))
 have HKEY := Lib.hid (fun (w1 : World) (v : Value) (hv : Rd S w1 v (E.args i)) => keyOfB_any w1 (E.rule i).kind (E.rule i).word v (E.args i) hv (hL.kind i hi) (hL.word i hi) hal (fun x hx => by have := hax x hx; omega))
 have h12 := hL.ins i hi
 have hkey : E.key i = keyT (E.rule i).kind (E.rule i).word (E.args i) := rfl
 have hargs : E.args i = (E.rule i).ins.map fun q => (E.W q).1 := rfl
 generalize E.key i = key at HGOOD hkey
 generalize E.args i = args at HACT HKEY hkey hargs
 generalize E.rule i = r at u hu k0 k1 k2 k3 HMADE HLEAF HANS HACT HKEY h12 hkey hargs
 rw [← hkey] at HKEY
 have HKY := Lib.hid hkey
 have HAR := Lib.hid hargs
 have hrz : (r.ins.length : Int) ≤ 12 := by omega
 obtain ⟨au, cu, rfl, _, _, hcu⟩ := hu
 have HCU := Lib.hid hcu
 clear hla
 clear h hC hW hI hL hT hi hr hin h1 hrm hcl hcell hcu hal hax hsum h12 hkey hargs
 go_enter Tryz.func57, Tryz.ntmps57
 go_wp2_with fail
 refine HRM.out.mono ?_
 rintro e w3 ⟨rfl, ho⟩
 have HX3 := Lib.hid ho
 have m1 := ho.cellOf c1 (fun h => h)
 have n0 := ho.cellOf k0 (fun h => h)
 have n1 := ho.cellOf k1 (fun h => h)
 have n2 := ho.cellOf k2 (fun h => h)
 have n3 := ho.cellOf k3 (fun h => h)
 clear ho c1 c2 t0 k0 k1 k2 k3 HRM
 have HB4 := Lib.hid (MapKept.heap_alloc w3 (.cells #[S r.out, S r.kind, S r.word, .slice au r.ins.length cu] 55 (0, 0))).1
 have HX4 : Hid (Ext w (w3.alloc (.cells #[S r.out, S r.kind, S r.word, .slice au r.ins.length cu] 55 (0, 0)))) := Lib.hid (HX3.out.thenAlloc _)
 have HRB : Hid (cb ≠ w3.heap.size) := Lib.hid (by have := HCLT.out; have := HX3.out.size; omega)
 go_upto_if 61 with fail
 generalize (w3.alloc (.cells #[S r.out, S r.kind, S r.word, .slice au r.ins.length cu] 55 (0, 0))) = w4 at HB4 HX4 ⊢
 generalize w3.heap.size = rb at HB4 HRB ⊢
 clear m1 n0 n1 n2 n3
 obtain ⟨bs, hbs⟩ : ∃ bs, bs = w4.heap.size := ⟨_, rfl⟩
 have HBS : Hid (bs = w4.heap.size) := Lib.hid hbs
 have HRB2 : Hid (cb < bs) := Lib.hid (by have := HCLT.out; have := HX4.out.size; omega)
 clear hbs
 go_loopw [8, 9, 10, 11, 12] (fun q k _ _ _ wr => ∃ (t : Nat) (qv : Value), qv = q ∧ t ≤ r.ins.length ∧ k = .int .i64 t ∧ Hid (Row bs wr qv ((r.ins.take t).map fun q => (E.W q).1)) ∧ Hid (∀ x ∈ r.ins.take t, (E.W x).2 = 0) ∧ Hid (Ext w4 wr)) (fun _ k _ _ _ _ => r.ins.length - (intOf k).toNat)
 case atStart => exact ⟨0, _, rfl, Nat.zero_le _, rfl, Lib.hid (Row.nil _ _), Lib.hid (by simp), Lib.hid (Only.refl _ _)⟩
 case round =>
  obtain ⟨t, qv, rfl, ht, rfl, HR, HZ, HX⟩ := hrel
  have HRW := Lib.hid (HX.out.heapOf HB4.out (fun h => h))
  have p3 := (cell_of_heap HRW.out 3).trans (rfl : _ = some (Value.slice au r.ins.length cu))
  by_cases htl : t < r.ins.length
  ·have htz : (t : Int) < (r.ins.length : Int) := by omega
   have ht0 : (0 : Int) ≤ (t : Int) := by omega
   have ht1 : ¬ (t : Int) < 0 := by omega
   have ht2 : ¬ (r.ins.length : Int) ≤ (t : Int) := by omega
   obtain ⟨bu, ou, rfl, hcellu⟩ := HCU.out (by intro h; rw [h] at htl; simp at htl)
   obtain ⟨q, hq⟩ : ∃ y, r.ins[t]? = some y := ⟨_, List.getElem?_eq_getElem htl⟩
   have HQC := Lib.hid (hcellu t q hq)
   have HQM := Lib.hid (List.mem_of_getElem? hq)
   have HQ := Lib.hid hq
   have HTK : Hid ((r.ins.take (t + 1)).map (fun q => (E.W q).1) = (r.ins.take t).map (fun q => (E.W q).1) ++ [(E.W q).1]) := Lib.hid (by rw [List.take_add_one, hq]; simp)
   have HZ2 : Hid ((E.W q).2 = 0 → ∀ x ∈ r.ins.take (t + 1), (E.W x).2 = 0) := Lib.hid (fun h0 x hx => by
    rw [List.take_add_one, hq] at hx
    rcases List.mem_append.1 hx with hx | hx
    ·exact HZ.out x hx
    ·rw [Option.toList_some, List.mem_singleton] at hx; rw [hx]; exact h0)
   have hal : ((r.ins.take t).map fun q => (E.W q).1).length ≤ 12 := by rw [List.length_map, List.length_take]; omega
   have HAL := Lib.hid hal
   have HTL2 := Lib.hid htl
   generalize hA : (r.ins.take t).map (fun q => (E.W q).1) = A at HR HTK HAL
   clear hcellu hq hal htl ht hA
   go_wp2_with fail
   clear p3
   go_loopw [8, 10, 11] (fun iv f j wx => ∃ (y : Nat) (qv : Value), qv = iv ∧ y ≤ E.l.length ∧ f = .bool (madeTo E q y) ∧ j = .int .i64 y ∧ Hid (Row bs wx qv (A ++ ownIn E q y)) ∧ Hid (Ext w4 wx)) (fun _ _ j _ => E.l.length - (intOf j).toNat)
   case atStart => exact ⟨0, _, rfl, Nat.zero_le _, rfl, rfl, by simpa [ownIn] using HR, HX⟩
   case round =>
    clear HR HX HRW
    obtain ⟨y, qv, rfl, hy, rfl, rfl, HR, HX⟩ := hrel
    have HXW := Lib.hid (HX4.out.then HX.out)
    have HM := Lib.hid (H.out.grow HXW.out)
    have HRW := Lib.hid (HX.out.heapOf HB4.out (fun h => h))
    have p3 := (cell_of_heap HRW.out 3).trans (rfl : _ = some (Value.slice (some ⟨bu, ou, none⟩) r.ins.length cu))
    have m1 := HC1.out wr HM.out
    by_cases hyl : y < E.l.length
    ·have hyz : (y : Int) < (E.l.length : Int) := by omega
     have hy0 : (0 : Int) ≤ (y : Int) := by omega
     have hy1 : ¬ (y : Int) < 0 := by omega
     have hy2 : ¬ (E.l.length : Int) ≤ (y : Int) := by omega
     have hqc := HXW.out.cellOf HQC.out (fun h => h)
     obtain ⟨rj, hrj⟩ : ∃ y', E.l[y]? = some y' := ⟨_, List.getElem?_eq_getElem hyl⟩
     obtain ⟨lb', lo', hlb, hcell⟩ := HCL.out (by intro h; rw [h] at hyl; simp at hyl)
     rw [HLA.out] at hlb
     cases hlb
     obtain ⟨_, _, g0, _, _, _⟩ := hcell y rj hrj
     have e0 := HXW.out.cellOf g0 (fun h => h)
     have HRJ := Lib.hid hrj
     have HOS := Lib.hid (ownIn_step (E := E) (q := q) hrj)
     have HMS := Lib.hid (madeTo_step (E := E) (q := q) hrj)
     have HYL := Lib.hid hyl
     have m3 := fun n => ((HM.out.grow (Only.drewN _ wr n)).cell 3).trans (rfl : _ = some (TabS K.ou E.l.length))
     have m4 := fun n => (HM.out.grow (Only.drewN _ wr n)).tab.ou.cell hyl
     generalize hmt : madeTo E q y = mt at HMS ⊢
     clear hcell g0 hrj hyl hy hmt
     cases heq : rj.out == q with
     | true =>
      rw [heq] at HOS HMS
      rw [if_pos rfl] at HOS
      rw [Bool.or_true] at HMS
      obtain ⟨hov, _⟩ := HMADE.out q HQM.out y rj HRJ.out heq
      simp only [hov] at m4
      have hlen : (A ++ ownIn E q y).length ≤ 1000000 := by
       have h1 : (ownIn E q y).length ≤ y := by
        unfold ownIn
        rw [List.length_map]
        have := List.length_filter_le (fun r : Rule => r.out == q) (E.l.take y)
        rw [List.length_take] at this
        omega
       have := HAL.out
       have := HYL.out
       rw [List.length_append]
       omega
      have HLEN := Lib.hid hlen
      have HAS : Hid (A ++ ownIn E q (y + 1) = (A ++ ownIn E q y) ++ [(E.W q).1]) := Lib.hid (by rw [HOS.out, List.append_assoc])
      have HRN := Lib.hid (fun n => (show Row bs (wr.drewN n) qv (A ++ ownIn E q y) from HR.out.ext (Only.drewN _ _ n)))
      have HXN := Lib.hid (fun n => HX.out.then (Only.drewN _ wr n))
      have HSN := Lib.hid (fun n => (show bs ≤ (wr.drewN n).heap.size from by rw [HBS.out]; exact (HXN.out n).size))
      have HBL : Hid (w4.heap.size ≤ bs) := Lib.hid (by rw [HBS.out]; exact Nat.le_refl _)
      generalize A ++ ownIn E q y = Z at HLEN HAS HRN
      generalize (E.W q).1 = x at m4 HAS
      clear hlen hov
      go_wp2_with fail
      go_quiet (fail)
      go_wp2_with (at_builtin; refine wpText rfl (.tmp 87) (.tmp 95) w4 bs _ Z x _ rfl rfl rfl rfl (HRN.out _) HLEN.out (HSN.out _) (HXN.out _) HBL.out ?_; intro g5 cap5 w5 HR5 HX5 _)
      go_roundw
      case rel => exact ⟨y + 1, _, rfl, HYL.out, by rw [HMS.out], by go_num, by rw [HAS.out]; exact HR5, HX5⟩
      case measure => have := HYL.out; simp [intOf]; omega
     | false =>
      rw [heq] at HOS HMS
      rw [if_neg (by simp), List.append_nil] at HOS
      rw [Bool.or_false] at HMS
      clear m3 m4
      go_wp2_with fail
      go_quiet (fail)
      have HR5 := Lib.hid (HR.out.ext (Only.drewN _ wr nq))
      have HX5 := Lib.hid (HX.out.then (Only.drewN _ wr nq))
      go_wp2_with fail
      go_roundw
      case rel => exact ⟨y + 1, _, rfl, HYL.out, by rw [HMS.out], by go_num, by rw [HOS.out]; exact HR5, HX5⟩
      case measure => have := HYL.out; simp [intOf]; omega
    ·have hyz : ¬ (y : Int) < (E.l.length : Int) := by omega
     have hye : y = E.l.length := by omega
     subst hye
     have hend := HEND.out q
     cases hm : madeTo E q E.l.length with
     | true =>
      rw [hm, if_pos rfl] at hend
      rw [hend, ← HTK.out] at HR
      have HZ3 := Lib.hid (HZ2.out (by
       unfold madeTo at hm
       rw [List.take_length, List.any_eq_true] at hm
       obtain ⟨rj, hrj, he⟩ := hm
       obtain ⟨j, hj⟩ := List.getElem?_of_mem hrj
       exact (HMADE.out q HQM.out j rj hj he).2 HII.out))
      clear hend hm hy
      go_wp2_with fail
      go_roundw
      case rel => exact ⟨t + 1, _, rfl, HTL2.out, by go_num, HR, HZ3, HX⟩
      case measure => have := HTL2.out; simp [intOf]; omega
     | false =>
      rw [hm, if_neg (by simp)] at hend
      rw [hend, List.append_nil] at HR
      have hwq := HLEAF.out q HQM.out hm
      have m0 := (HM.out.cell 0).trans (rfl : _ = some (PTR K.t))
      have hqc := HXW.out.cellOf HQC.out (fun h => h)
      have HFD := Lib.hid (fun n => findT_any (wr.drewN n) K.t K.tv E.T q ((HM.out.grow (Only.drewN _ wr n)).tree.cells) ((HM.out.grow (Only.drewN _ wr n)).tree.rd) HTL.out)
      unfold wLeaf at hwq
      rcases fnd_look E.T q with ⟨f, ⟨a, x⟩, hf, hfe, hlk⟩ | ⟨hf, hlk⟩
      ·rw [hlk] at hwq
       rw [hf] at HFD
       have HZ3 := Lib.hid (HZ2.out (by rw [hwq]))
       rw [show (E.W q).1 = x by rw [hwq]] at HTK
       have hfl := (List.getElem?_eq_some_iff.1 hfe).1
       have HTR := Lib.hid HM.out.tree
       obtain ⟨at', ct, htv, _, _, hct⟩ := HM.out.tree.rd
       obtain ⟨bt, ot, rfl, hcellt⟩ := hct (by intro h; rw [h] at hfl; simp at hfl)
       have HKT := Lib.hid (hcellt f _ hfe 1 _ rfl)
       have hfz : (f : Int) < (E.T.length : Int) := by omega
       have hf0 : (0 : Int) ≤ (f : Int) := by omega
       have hf1 : ¬ (f : Int) < 0 := by omega
       have hf2 : ¬ (E.T.length : Int) ≤ (f : Int) := by omega
       have htlz : (E.T.length : Int) ≤ 1000000 := by have := HTL.out; omega
       have HBL : Hid (w4.heap.size ≤ bs) := Lib.hid (by rw [HBS.out]; exact Nat.le_refl _)
       have HALL : Hid (A.length ≤ 1000000) := Lib.hid (by have := HAL.out; omega)
       clear hwq hend hm hy hf hfe hlk hct hcellt hfl
       go_wp2_with fail
       go_quiet ((go_at_call 98; exact Calls.quiet_of_same ((HFD.out _).mono fun _ _ h => ⟨h.1, h.2.symm⟩)))
       have HR5 := Lib.hid (HR.out.ext (Only.drewN _ wr nq))
       have HX5 := Lib.hid (HX.out.then (Only.drewN _ wr nq))
       have HM5 := HM.out.grow (Only.drewN _ wr nq)
       have a0 := (HM5.cell 0).trans (rfl : _ = some (PTR K.t))
       have a1 := (cell_of_heap HM5.tree.cells 0).trans (rfl : _ = some K.tv)
       rw [htv] at a1
       have a2 := (Only.drewN (fun _ => False) wr nq).cellOf HKT.out (fun h => h)
       have HSN : Hid (bs ≤ (wr.drewN nq).heap.size) := Lib.hid (by rw [HBS.out]; exact HX5.out.size)
       generalize wr.drewN nq = wd at HR5 HX5 HM5 a0 a1 a2 HSN ⊢
       clear HM5 m0 m1 p3 hqc htv
       go_wp2_with (at_builtin; refine wpText rfl (.tmp 113) (.tmp 125) w4 bs _ A x _ rfl rfl rfl rfl HR5.out HALL.out HSN.out HX5.out HBL.out ?_; intro g5 cap5 w5 HR6 HX6 _)
       go_roundw
       case rel => exact ⟨t + 1, _, rfl, HTL2.out, by go_num, by rw [HTK.out]; exact HR6, HZ3, HX6⟩
       case measure => have := HTL2.out; simp [intOf]; omega
      ·rw [hlk] at hwq
       rw [hf] at HFD
       have hans : E.ans i = ([], 6) := by rw [HANS.out, made_bad HQ.out (by rw [hwq]; decide) HZ.out, hwq]
       have hre := HBAD.out (by rw [hans]; decide)
       have HRE := Lib.hid hre
       have HFL := Lib.hid (fun (w1 : World) (hx : Ext w w1) => HFAIL.out w1 (H.out.grow hx) 6 (by rw [hans]))
       clear hwq hend hm hy hf hlk hans hre
       go_wp2_with fail
       go_quiet ((go_at_call 98; exact Calls.quiet_of_same ((HFD.out _).mono fun _ _ h => ⟨h.1, h.2.symm⟩)))
       have HX5 := Lib.hid (HXW.out.then (Only.drewN _ wr nq))
       generalize wr.drewN nq = wd at HX5 ⊢
       clear m0 m1 p3 hqc
       go_wp2_with fail
       refine (HFL.out wd HX5.out).mono ?_
       intro e w6 hp
       obtain ⟨hm6, hc6, ho6, rfl⟩ := RunMPost.failed (HC.out.ext HX5.out) HX5.out hp
       have HM6 := Lib.hid hm6
       have HC6 := Lib.hid hc6
       have HO6 := Lib.hid ho6
       clear hp hm6 hc6 ho6
       go_wp2_with fail
       go_ret2
       rw [HRE.out]
       exact ⟨cv, rfl, HM6.out, HC6.out, HO6.out, fun _ h => .inl h⟩
  ·-- all inputs are there
   have htz : ¬ (t : Int) < (r.ins.length : Int) := by omega
   rw [List.take_of_length_le (by omega), ← HAR.out] at HR
   rw [List.take_of_length_le (by omega)] at HZ
   have hans : E.ans i = (runOut r.kind r.word args, runCode r.kind r.word args) := by rw [HANS.out, made_ok HZ.out, HAR.out]
   have HA1 : Hid (runOut r.kind r.word args = (E.ans i).1) := Lib.hid (by rw [hans])
   have HA2 : Hid (runCode r.kind r.word args = (E.ans i).2) := Lib.hid (by rw [hans])
   have HXW := Lib.hid (HX4.out.then HX.out)
   have p1 := (cell_of_heap HRW.out 1).trans (rfl : _ = some (S r.kind))
   have p2 := (cell_of_heap HRW.out 2).trans (rfl : _ = some (S r.word))
   have HKY2 := Lib.hid (HKEY.out wr qv HR.out.rd)
   obtain ⟨aq, cq, rfl, _, _, _⟩ := HR.out.rd
   clear htl ht hans HZ HMADE HLEAF HEND HANS
   go_wp2_with fail
   refine HKY2.out.mono ?_
   rintro e w5 ⟨rfl, ho5⟩
   have HX5 := Lib.hid (HXW.out.then ho5)
   have HR5 := Lib.hid (HR.out.ext ho5)
   have HRW5 := Lib.hid (ho5.heapOf HRW.out (fun h => h))
   have HM5 := Lib.hid (H.out.grow HX5.out)
   have HC5 := Lib.hid (HC.out.ext HX5.out)
   have m6 := (HM5.out.cell 6).trans (rfl : _ = some K.cp)
   clear ho5 p1 p2 p3
   cases C with
   | none =>
    have hcp : K.cp = .pointer none := HC5.out
    rw [hcp] at m6
    have HAC := Lib.hid (HACT.out w5 _ HR5.out.rd)
    rw [HA1.out, HA2.out] at HAC
    have p1 := (cell_of_heap HRW5.out 1).trans (rfl : _ = some (S r.kind))
    have p2 := (cell_of_heap HRW5.out 2).trans (rfl : _ = some (S r.word))
    have HCP := Lib.hid hcp
    clear hcp
    by_cases hb : (E.ans i).2 = 0
    case neg =>
     have HRE := Lib.hid (HBAD.out hb)
     have HFL := Lib.hid (fun (w1 : World) (hx : Ext w w1) => HFAIL.out w1 (H.out.grow hx) _ rfl)
     obtain ⟨c, hc⟩ : ∃ c, c = (E.ans i).2 := ⟨_, rfl⟩
     rw [← hc] at HAC HFL
     have hcz : (0 : Int) < (c : Int) := by omega
     clear hb hc
     go_wp2_with fail
     refine HAC.out.mono ?_
     rintro e w7 ⟨rfl, ho7⟩
     have HX7 := Lib.hid (HX5.out.then ho7)
     clear ho7 m6 p1 p2
     go_wp2_with fail
     refine (HFL.out w7 HX7.out).mono ?_
     intro e w8 hp
     obtain ⟨hm8, hc8, ho8, rfl⟩ := RunMPost.failed (HC.out.ext HX7.out) HX7.out hp
     have HM8 := Lib.hid hm8
     have HC8 := Lib.hid hc8
     have HO8 := Lib.hid ho8
     clear hp hm8 hc8 ho8
     go_wp2_with fail
     go_ret2
     rw [HRE.out]
     exact ⟨cv, rfl, HM8.out, HC8.out, HO8.out, fun _ h => .inl h⟩
    case pos =>
     have HRE := Lib.hid (HGOOD.out hb)
     rw [hb] at HAC
     obtain ⟨x, hx⟩ : ∃ x, x = (E.ans i).1 := ⟨_, rfl⟩
     rw [← hx] at HAC
     have HXE := Lib.hid hx
     clear hb hx
     go_wp2_with fail
     refine HAC.out.mono ?_
     rintro e w7 ⟨rfl, ho7⟩
     have HX7 := Lib.hid (HX5.out.then ho7)
     have HM7 := Lib.hid (H.out.grow HX7.out)
     have q2 := (HM7.out.cell 2).trans (rfl : _ = some (TabS K.st E.l.length))
     have ts := HM7.out.tab.st.cell HIN.out
     have fs := HM7.out.tab.st.free i
     obtain ⟨hd, hod⟩ := HM7.out.dones HIM.out HS1.out HXE.out
     have HD := Lib.hid hd
     have HOD := Lib.hid hod
     obtain ⟨hA, hoA⟩ := HM7.out.setSt i 2 (g' := mst E (doneP s i false)) (fun k => mst_done HIM.out false k)
     have q3 := (hA.cell 3).trans (rfl : _ = some (TabS K.ou E.l.length))
     have ts3 := hA.tab.ou.cell HIN.out
     have fs3 := hA.tab.ou.free i
     have q6 := (hd.cell 6).trans (rfl : _ = some K.cp)
     rw [HCP.out] at q6
     rw [show stateM 2 = [100, 111, 110, 101] from rfl] at q3 ts3 fs3
     generalize stateM (mst E s i) = sx at ts
     generalize outM E s i = sy at ts3
     clear ho7 m6 p1 p2 hd hod hA hoA
     go_wp2_with fail
     go_ret2
     rw [HRE.out]
     exact ⟨cv, rfl, HD.out, HCP.out, (Only.after HX7.out HOD.out).mono fun _ _ h => .inl h, fun _ h => .inl h⟩
   | some mL =>
    obtain ⟨many, L⟩ := mL
    obtain ⟨hcp, hcc, hap1, hap2⟩ := HC5.out
    rw [hcp] at m6
    have HCP := Lib.hid hcp
    have HCC := Lib.hid hcc
    have HAP := Lib.hid (And.intro hap1 hap2)
    have hgt := getMC_any w5 cb many cv L key hcc.cells hcc.rd (by have := hcc.len; have := hcc.many; omega) hcc.len hcc.nodup
    clear hcp hcc hap1 hap2 HC5
    cases hlk : L.lookup key with
    | some x =>
     rw [hlk] at hgt
     obtain ⟨hc0, hx⟩ := (show runCode r.kind r.word args = 0 ∧ x = runOut r.kind r.word args from HCC.out.ok.hit (by rw [← HKY.out]; exact hlk))
     have hb : (E.ans i).2 = 0 := by rw [← HA2.out]; exact hc0
     have HXE : Hid (x = (E.ans i).1) := Lib.hid (by rw [hx]; exact HA1.out)
     have hre := HGOOD.out hb
     rw [goodP_hit hlk] at hre
     have HRE := Lib.hid hre
     have HGT := Lib.hid hgt
     clear hlk hgt hc0 hx hb hre
     go_wp2_with fail
     refine HGT.out.mono ?_
     intro e w7 hg
     obtain ⟨cv7, rfl, hc7, ho7, hn7⟩ := HCC.out.got hg (HCC.out.ok.get key) (by
      have h1 := HCC.out.nodup
      unfold getL
      split
      ·exact nodup_last h1 _ _
      ·exact h1) (getL_le key HCC.out.nodup HCC.out.len)
     have hm7 := HM5.out.later ho7 (fun i e => by rw [e]; exact HCB.out) (fun i hi e => HAP.out.1 (e ▸ hi))
     have HM7 := Lib.hid hm7
     have HC7 := Lib.hid hc7
     have HN7 := Lib.hid hn7
     have HO7 := Lib.hid ho7
     have q2 := (hm7.cell 2).trans (rfl : _ = some (TabS K.st E.l.length))
     have ts := hm7.tab.st.cell HIN.out
     have fs := hm7.tab.st.free i
     obtain ⟨hd, hod⟩ := hm7.hits HIM.out HS1.out HXE.out
     have HD := Lib.hid hd
     have HOD := Lib.hid hod
     obtain ⟨hA, hoA⟩ := hm7.setSt i 2 (g' := mst E (doneP s i false)) (fun k => mst_done HIM.out false k)
     have q3 := (hA.cell 3).trans (rfl : _ = some (TabS K.ou E.l.length))
     have ts3 := hA.tab.ou.cell HIN.out
     have fs3 := hA.tab.ou.free i
     obtain ⟨hB, hoB⟩ := hA.setOu i x (ou' := fun k => if k = i then x else outM E s k) (fun _ => rfl)
     have q4 := (hB.cell 4).trans (rfl : _ = some (TabS K.hi E.l.length))
     have ts4 := hB.tab.hi.cell HIN.out
     have fs4 := hB.tab.hi.free i
     rw [show stateM 2 = [100, 111, 110, 101] from rfl] at q3 ts3 fs3 q4 ts4 fs4
     generalize stateM (mst E s i) = sx at ts
     generalize outM E s i = sy at ts3
     clear hg hc7 ho7 hn7 hm7 m6 hd hod hA hoA hB hoB
     go_wp2_with fail
     go_ret2
     rw [HRE.out]
     exact RunMPost.of_some ⟨cv7, rfl, HD.out, CchM.tabs (C := some (many, getL L key)) ⟨HCP.out, HC7.out, HAP.out.1, fun i e => by
      rcases HN7.out i e with e | e
      ·exact HAP.out.2 i e
      ·intro e2; have := HM5.out.lt i e2; omega⟩ HOD.out, (Only.after HX5.out (HO7.out.mono fun _ _ h => .inr h)).then (HOD.out.mono fun _ _ h => .inl h), fun i e => by
      rcases HN7.out i e with e | e
      ·exact .inl e
      ·exact .inr (Nat.le_trans HX5.out.size e)⟩
    | none =>
     rw [hlk] at hgt
     rw [show getL L key = L by unfold getL; rw [hlk]] at hgt
     have HGT := Lib.hid hgt
     have HLK := Lib.hid hlk
     clear hlk hgt
     go_wp2_with fail
     refine HGT.out.mono ?_
     intro e w6 hg
     obtain ⟨cv6, rfl, hc6, ho6, hn6⟩ := HCC.out.got hg HCC.out.ok HCC.out.nodup HCC.out.len
     have hm6 := HM5.out.later ho6 (fun i e => by rw [e]; exact HCB.out) (fun i hi e => HAP.out.1 (e ▸ hi))
     have HM6 := Lib.hid hm6
     have HC6 := Lib.hid hc6
     have HAP6 : Hid (∀ i, cv6.ownBlock = some i → ¬ InMA K i) := Lib.hid (fun i e => by
      rcases hn6 i e with e | e
      ·exact HAP.out.2 i e
      ·intro e2; have := HM5.out.lt i e2; omega)
     have HN6 : Hid (∀ i, cv6.ownBlock = some i → cv.ownBlock = some i ∨ w.heap.size ≤ i) := Lib.hid (fun i e => (hn6 i e).imp id fun h => Nat.le_trans HX5.out.size h)
     have HO6 : Hid (Only (fun i => InM K i ∨ i = cb) w w6) := Lib.hid (Only.after HX5.out (ho6.mono fun _ _ h => .inr h))
     have hrw6 := ho6.heapOf HRW5.out (fun e => by
      have h1 := HRB.out
      omega)
     have HR6 : Hid (Row bs w6 (.slice aq args.length cq) args) := Lib.hid (ho6.row HR5.out (fun i e e2 => by
      have h1 := (HR5.out.lt i e).1
      have h2 := HRB2.out
      omega))
     have HAC := Lib.hid (HACT.out w6 _ HR6.out.rd)
     rw [HA1.out, HA2.out] at HAC
     have p1 := (cell_of_heap hrw6 1).trans (rfl : _ = some (S r.kind))
     have p2 := (cell_of_heap hrw6 2).trans (rfl : _ = some (S r.word))
     clear hg hc6 ho6 hn6 hm6 hrw6 m6
     by_cases hb : (E.ans i).2 = 0
     case neg =>
      have HRE := Lib.hid (HBAD.out hb)
      obtain ⟨c, hc⟩ : ∃ c, c = (E.ans i).2 := ⟨_, rfl⟩
      have HFL := Lib.hid (fun (w1 : World) (hx : Ext w6 w1) => HFAIL.out w1 (HM6.out.grow hx) c hc.symm)
      rw [← hc] at HAC
      have hcz : (0 : Int) < (c : Int) := by omega
      clear hb hc
      go_wp2_with fail
      refine HAC.out.mono ?_
      rintro e w7 ⟨rfl, ho7⟩
      have HX7 := Lib.hid ho7
      clear ho7 p1 p2
      go_wp2_with fail
      refine (HFL.out w7 HX7.out).mono ?_
      intro e w8 hp
      obtain ⟨hm8, hc8, ho8, rfl⟩ := RunMPost.failed (w := w6) (CchM.ext (C := some (many, L)) ⟨HCP.out, HC6.out, HAP.out.1, HAP6.out⟩ HX7.out) HX7.out hp
      have HM8 := Lib.hid hm8
      have HC8 := Lib.hid hc8
      have HO8 := Lib.hid (HO6.out.then ho8)
      clear hp hm8 hc8 ho8
      go_wp2_with fail
      go_ret2
      rw [HRE.out]
      exact RunMPost.of_some ⟨cv6, rfl, HM8.out, HC8.out, HO8.out, HN6.out⟩
     case pos =>
      have hre := HGOOD.out hb
      rw [goodP_miss HLK.out] at hre
      have HRE := Lib.hid hre
      have HOK8 : Hid (CacheOk (putL many L key (E.ans i).1)) := Lib.hid (by
       rw [HKY.out, ← HA1.out]
       exact HCC.out.ok.put HCC.out.nodup many (by rw [HA2.out]; exact hb))
      rw [hb] at HAC
      obtain ⟨x, hx⟩ : ∃ x, x = (E.ans i).1 := ⟨_, rfl⟩
      rw [← hx] at HAC HRE HOK8
      have HXE := Lib.hid hx
      clear hb hx hre
      go_wp2_with fail
      refine HAC.out.mono ?_
      rintro e w7 ⟨rfl, ho7⟩
      have HX7 := Lib.hid ho7
      have HM7 := Lib.hid (HM6.out.grow ho7)
      have HC7 := Lib.hid (HC6.out.ext ho7)
      have q2 := (HM7.out.cell 2).trans (rfl : _ = some (TabS K.st E.l.length))
      have ts := HM7.out.tab.st.cell HIN.out
      have fs := HM7.out.tab.st.free i
      obtain ⟨hd, hod⟩ := HM7.out.dones HIM.out HS1.out HXE.out
      obtain ⟨hA, hoA⟩ := HM7.out.setSt i 2 (g' := mst E (doneP s i false)) (fun k => mst_done HIM.out false k)
      have q3 := (hA.cell 3).trans (rfl : _ = some (TabS K.ou E.l.length))
      have ts3 := hA.tab.ou.cell HIN.out
      have fs3 := hA.tab.ou.free i
      have q6 := (hd.cell 6).trans (rfl : _ = some K.cp)
      rw [HCP.out] at q6
      have HQ6 := Lib.hid q6
      rw [show stateM 2 = [100, 111, 110, 101] from rfl] at q3 ts3 fs3
      generalize stateM (mst E s i) = sx at ts
      generalize outM E s i = sy at ts3
      obtain ⟨w8, hw8⟩ : ∃ w8, w8 = ((w7.setCell ⟨K.st, i, none⟩ (S [100, 111, 110, 101])).setCell ⟨K.ou, i, none⟩ (S x)) := ⟨_, rfl⟩
      have hw8' : ((w7.setCell ⟨K.st, i, none⟩ (.string ⟨#[100, 111, 110, 101]⟩)).setCell ⟨K.ou, i, none⟩ (.string ⟨x.toArray⟩)) = w8 := hw8.symm
      rw [← hw8] at hd hod
      have hc8 : CchM w8 K cb cv6 (some (many, L)) := CchM.tabs (C := some (many, L)) ⟨HCP.out, HC7.out, HAP.out.1, HAP6.out⟩ hod
      have HW8 := Lib.hid hw8'
      have HD := Lib.hid hd
      have HC8 := Lib.hid hc8
      have HOD := Lib.hid hod
      have HPUT := Lib.hid (putMC_any w8 cb many cv6 L key x hc8.2.1.cells hc8.2.1.rd (by have := hc8.2.1.len; have := hc8.2.1.many; omega))
      clear ho7 p1 p2 hd hod hA hoA hw8 hw8' hc8
      go_wp2_with fail
      refine (show Calls _ _ _ _ _ from by rw [HW8.out]; exact HPUT.out).mono ?_
      intro e w9 hg
      obtain ⟨cv9, rfl, hc9, ho9, hn9⟩ := HC8.out.2.1.got hg HOK8.out (by
       unfold putL
       have h1 := nodup_last HCC.out.nodup key x
       split
       ·exact h1.sublist ((List.tail_sublist _).map _)
       ·exact h1) (putL_le key x HCC.out.len)
      have HM9 := Lib.hid (HD.out.later ho9 (fun i e => by rw [e]; exact HCB.out) (fun i hi e => HAP.out.1 (e ▸ hi)))
      have HC9 : Hid (CchM w9 K cb cv9 (some (many, putL many L key x))) := Lib.hid ⟨HCP.out, hc9, HAP.out.1, fun i e => by
       rcases hn9 i e with e | e
       ·exact HAP6.out i e
       ·intro e2; have := HD.out.lt i e2; omega⟩
      have HO9 := Lib.hid ((Only.ext HO6.out HX7.out).then ((HOD.out.mono (fun _ _ h => .inl h)).then (ho9.mono fun _ _ h => .inr h)))
      have HN9 : Hid (∀ i, cv9.ownBlock = some i → cv.ownBlock = some i ∨ w.heap.size ≤ i) := Lib.hid (fun i e => by
       rcases hn9 i e with e | e
       ·exact HN6.out i e
       ·exact .inr (Nat.le_trans (Nat.le_trans HO6.out.size (Nat.le_trans HX7.out.size HOD.out.size)) e))
      clear hg hc9 ho9 hn9
      go_wp2_with fail
      go_ret2
      rw [HRE.out]
      exact RunMPost.of_some ⟨cv9, rfl, HM9.out, HC9.out, HO9.out, HN9.out⟩
theorem runM_any (h : MBldAt w0 w E K s) (hC : CchM w K cb cv C) (hW : BWell E o is) (hI : BInv E s) (hL : BLens E) (hT : E.T.length ≤ 1000000) (hcb : w0.heap.size ≤ cb) (hcl : cb < w.heap.size) (z : Int) :
  Calls Tryz.prog 57 #[PTR K.b, I z] w (RunMPost w0 w E K cb cv (runZ E C s z).1 (runZ E C s z).2.1 (runZ E C s z).2.2) := by
 by_cases hz : ∃ i : Nat, z = (i : Int) ∧ i ∈ E.sm ∧ readyP E s i = true
 ·obtain ⟨i, rfl, hi, hr⟩ := hz
  rw [runZ_in hi]
  exact runM_ready h hC hW hI hL hT hcb hcl hi hr
 ·exact runM_not h hC hW hI z hz
end
end Go.Proofs.YtnmhaipjfpongacGreatDoor

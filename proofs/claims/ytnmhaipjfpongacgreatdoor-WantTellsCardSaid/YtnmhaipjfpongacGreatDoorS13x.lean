/- WantTells' walk. No condition but how files and rules lie, and what the variables hold. (Printed by gen_s13.py.) -/
import Derived.Test.YtnmhaipjfpongacGreatDoorS12x
import Derived.Test.YtnmhaipjfpongacGreatDoorS11x
import Derived.Test.YtnmhaipjfpongacGreatDoorS10x
import Derived.Test.YtnmhaipjfpongacGreatDoorS9x
import Derived.Test.YtnmhaipjfpongacGreatDoorGm
import Derived.Test.YtnmhaipjfpongacGreatDoorGg
import Derived.Deep.CutBlock
import Derived.Deep.DeepCutAuto
namespace Go.Proofs.YtnmhaipjfpongacGreatDoor
open Go.ChangeShapes Go.WideShapes Go.ChangeAt Go.RowKit

theorem sheet_le2 (l : List Rule) : (sheetFault l).1 ≤ 12 := by
  unfold sheetFault
  split
  · decide
  · have key : ∀ (k : List Rule) (seen : List B) (i : Nat), (sheetGo seen i k).1 ≤ 12 := by
      intro k
      induction k with
      | nil => intro seen i; simp [sheetGo]
      | cons r k ih =>
        intro seen i
        rw [sheetGo]
        split
        · exact ruleCode_le r
        · split
          · exact (by decide : 7 ≤ 12)
          · exact ih _ _
    exact key l [] 0
theorem wantFault_le (l : List Rule) (out : B) : (wantFault l out).1 ≤ 12 := by
  unfold wantFault
  split
  · exact sheet_le2 l
  · split
    · exact (by decide : 6 ≤ 12)
    · rcases part_codes l (needL l [out]) with h | h <;> rw [h] <;> decide
theorem wantFault_zero {l : List Rule} {out : B} (h : (wantFault l out).1 = 0) : (wantFault l out).2 = -1 := by
  unfold wantFault at h ⊢
  split
  · rename_i h1; rw [if_pos h1] at h; exact absurd h h1
  · split
    · rfl
    · rcases part_codes l (needL l [out]) with h | h <;> rw [h]
theorem orderFault_le (l : List Rule) : (orderFault l).1 ≤ 12 := by
  unfold orderFault
  split
  · exact sheet_le2 l
  · split <;> decide
theorem orderFault_zero {l : List Rule} (h : (orderFault l).1 = 0) : (orderFault l).2 = -1 := by
  unfold orderFault at h ⊢
  split
  · rename_i h1; rw [if_pos h1] at h; exact absurd h h1
  · split <;> rfl
theorem want_wrong {l : List Rule} {T : FL} {out : B} (h : (wantFault l out).1 ≠ 0) : wantRes l T out = ([], wantFault l out) := by
  unfold wantFault at h ⊢
  unfold wantRes
  by_cases h0 : (sheetFault l).1 ≠ 0
  · rw [if_pos h0, if_pos h0]
  · rw [if_neg h0] at h
    rw [if_neg h0, if_neg h0]
    by_cases h1 : madeB l out = false
    · rw [if_pos h1, if_pos h1]
    · rw [if_neg h1] at h
      rw [if_neg h1, if_neg h1]
      unfold partFault at h ⊢
      cases h2 : partB l (needL l [out]) with
      | none => rfl
      | some o => rw [h2] at h; exact absurd rfl h
theorem want_right {l : List Rule} {T : FL} {out : B} (h : (wantFault l out).1 = 0) :
    wantRes l T out = ((wantW l T out).1, ((wantW l T out).2, -1)) ∧ ∃ (o : List Nat) (is : Nat → Bool), Ordered l.length (needB l) is o ∧ InO l o out := by
  unfold wantFault at h
  unfold wantRes
  by_cases h0 : (sheetFault l).1 ≠ 0
  · rw [if_pos h0] at h; exact absurd h h0
  · rw [if_neg h0] at h
    rw [if_neg h0]
    by_cases h1 : madeB l out = false
    · rw [if_pos h1] at h; cases h
    · rw [if_neg h1] at h
      rw [if_neg h1]
      unfold partFault at h
      cases h2 : partB l (needL l [out]) with
      | none => rw [h2] at h; cases h
      | some o =>
        refine ⟨rfl, o, _, (orderB_some h2).1, fun k hk => ?_⟩
        have hR := sheet_ok.1 (Classical.not_not.1 h0)
        have h3 := need_one hR (by cases hm : madeB l out with | true => rfl | false => exact absurd hm h1) hk
        exact order_covers h2 (mem_needL.1 h3).1 (by simpa using h3)

/-- The model, as the outs are laid in. -/
structure PutAt (w0 wr : World) (m : Nat) (slv : Value) (U : FL) : Prop where
  ext : Ext w0 wr
  nm : w0.heap.size ≤ m
  model : RTree wr w0.heap.size m slv U
  ft : FTree U
theorem PutAt.grow {w0 wr w' : World} {m : Nat} {slv : Value} {U : FL} (h : PutAt w0 wr m slv U) (ho : Ext wr w') : PutAt w0 w' m slv U := ⟨h.ext.then ho, h.nm, h.model.ext ho, h.ft⟩
theorem PutAt.put {w0 wr : World} {m : Nat} {slv : Value} {U : FL} (h : PutAt w0 wr m slv U) (p x : B) (hp : p.length ≤ 1000) :
    Calls Tryz.prog 30 #[.pointer (some ⟨m, 0, none⟩), S p, S x] wr fun e w' => ∃ (r : Value) (slv' : Value), e = .returned r ∧ PutAt w0 w' m slv' (putT U p x) :=
  (putM_any wr w0.heap.size m slv U p x h.model h.ft.fits.rising (by have := h.ft.fits.few; omega) (by omega) h.ext.size).mono fun e w' ⟨slv', h1, h2, h3, _⟩ =>
    ⟨_, slv', h1, h.ext.trans h3 (fun _ _ h => h) (fun i hi e => by
      rcases e with e | e
      · have := h.nm; omega
      · have := row_geT h.model.row i e; omega), h.nm, h2, h.ft.put p x hp⟩

set_option maxRecDepth 100000 in
set_option maxHeartbeats 16000000 in
theorem walkWantTells (w : World) (P : Nat → Addr) (fs : FL) (v0 v1 : Value) (l : List Rule) (out : B) (hv0 : RdS 2 encF w v0 fs) (hv1 : RdR w v1 l) (hV : PV w P [1, 2, 3, 4, 5, 6, 7, 8, 9]) (hS : Sents w P) :
    Calls Tryz.prog 3 #[v0, v1, S out] w (RetE (.bool true) w) := by
  have H0 := Lib.hid hv0
  have H1 := Lib.hid hv1
  have HVV := Lib.hid hV
  have HSS := Lib.hid hS
  have HWA := Lib.hid (wanted_any w P hV)
  obtain ⟨a0, p0, rfl, _, _, _⟩ := hv0
  obtain ⟨a1, p1, rfl, _, _, hc1⟩ := hv1
  have HC1 := Lib.hid hc1
  clear hV hS hc1
  go_enter Tryz.func3, Tryz.ntmps3
  go_wp2_with fail
  refine (HWA.out).mono ?_
  rintro e w1 ⟨rfl, ho⟩
  have HX1 := Lib.hid ho
  clear ho
  go_wp2_with fail
  refine (longFiles2_any w1 _ fs (RdS.ext H0.out HX1.out)).mono ?_
  rintro e w2 ⟨r, rfl, hz, rfl⟩
  have HZ0 := Lib.hid hz
  clear hz
  cases r with
  | true =>
    go_wp2_with fail
    go_ret
    exact ⟨rfl, HX1.out⟩
  | false =>
    go_wp2_with fail
    refine (longRules_any w1 _ l 12 (H1.out.ext HX1.out)).mono ?_
    rintro e w2 ⟨⟨r, rfl, hr, hz⟩, rfl⟩
    have HZ2 := Lib.hid hz
    clear hz
    rcases hr with rfl | rfl
    case inr =>
      go_wp2_with fail
      go_ret
      exact ⟨rfl, HX1.out⟩
    case inl =>
      have HSH := Lib.hid (HZ2.out rfl).2
      have HSM : Hid (∀ r ∈ l, RuleSm 900000 r) := Lib.hid (fun r hr => (HSH.out r hr).sm)
      have h41 : l.length ≤ 41 := by rcases (HZ2.out rfl).1 with h | h <;> omega
      have hlz : (l.length : Int) ≤ 41 := by omega
      have HIL : Hid (∀ r ∈ l, r.ins.length ≤ 1000000) := Lib.hid (fun r hr => by have := (HSH.out r hr).many; omega)
      have HIW : Hid (∀ r ∈ l, r.ins.length ≤ 12 ∧ r.word.length ≤ 1000) := Lib.hid (fun r hr => ⟨(HSH.out r hr).many, by have := (HSH.out r hr).word; omega⟩)
      have HOL : Hid (∀ r ∈ l, r.out.length ≤ 1000) := Lib.hid (fun r hr => by have := (HSH.out r hr).out; omega)
      have hf30 := (HZ0.out (by simp)).1
      have HFP := Lib.hid (HZ0.out (by simp)).2
      clear HZ2 HSH HZ0
      by_cases hlo : (100 : Int) < (out.length : Int)
      · go_wp2_with fail
        go_ret
        exact ⟨rfl, HX1.out⟩
      go_wp2_with fail
      refine (fileTree2_any w1 P _ fs (RdS.ext H0.out HX1.out) (by omega) HFP.out ((HVV.out.ext HX1.out).errs.sub (by decide)) (HVV.out.ext HX1.out).max).mono ?_
      rintro e w3 ⟨b, mb, m, slv, rfl, hT1⟩
      have HX3 := Lib.hid (HX1.out.then hT1.ext)
      have HFT : Hid (FTree (treeOfF fs)) := Lib.hid (by have := ftree_of HFP.out fs.length; rwa [List.take_length] at this)
      have HTR : Hid (TreeAt w3 b mb (treeOfF fs)) := Lib.hid hT1.tree
      have HMR := Lib.hid hT1.model
      clear hT1 hf30 hlo HFP
      generalize treeOfF fs = T at HFT HTR HMR
      have HRD := Lib.hid (H1.out.ext HX3.out)
      have HWT := Lib.hid (fun (od : List Nat) (is : Nat → Bool) (hord : Ordered l.length (needB l) is od) (p : B) (hp : InO l od p) (wq : World) (hx : Ext w3 wq) => (show Calls Tryz.prog 22 #[.pointer (some ⟨m, 0, none⟩), .slice a1 l.length p1, S p] wq (RetTld (wantW l T p) wq) from
        want2_any w3 m slv (.slice a1 l.length p1) l T (wantW l T) (InO l od) (rankO l od) (asks_want (ranked_order hord).1 (ranked_order hord).2 HFT.out.bytes) (fun p => wantF_ok HFT.out.bytes _ p) HRD.out (by omega) HIW.out HMR.out.cells HMR.out.rd (by have := HFT.out.fits.few; omega) (l.length + 1) p hp (Nat.lt_succ_of_le ((ranked_order hord).2 p hp)) wq hx))
      have HWP : Hid (∀ p, TldOk (wantW l T p)) := Lib.hid (fun p => wantF_ok HFT.out.bytes (l.length + 1) p)
      have HWR := Lib.hid (fun h => want_wrong (l := l) (T := T) (out := out) h)
      have HWG := Lib.hid (fun h => want_right (l := l) (T := T) (out := out) h)
      have HFL := Lib.hid (wantFault_le l out)
      have HFZ := Lib.hid (fun h => wantFault_zero (l := l) (out := out) h)
      go_wp2_with fail
      refine (ownRules_any w3 _ l HRD.out (by omega) HIL.out).mono ?_
      rintro e w4 ⟨v4, rfl, hr4, ho4⟩
      have HX4 := Lib.hid (HX3.out.then ho4)
      have HO4 := Lib.hid ho4
      have hwo := wantOf_any w4 P b mb T v4 l out (HTR.out.ext ho4) HFT.out.bytes hr4 HSM.out HIW.out ((HVV.out.ext HX4.out).sub (by decide))
      have HWF := Lib.hid (fun (wq : World) (hx : Ext w3 wq) => wantFault_any wq l out _ (HRD.out.ext hx) HSM.out)
      obtain ⟨X, hX⟩ : ∃ X, X = wantRes l T out := ⟨_, rfl⟩
      obtain ⟨F, hF⟩ : ∃ F, F = wantFault l out := ⟨_, rfl⟩
      rw [← hX] at hwo HWR HWG
      rw [← hF] at HWR HWG HFL HFZ HWF
      have HWO := Lib.hid hwo
      obtain ⟨a4, p4, rfl, _, _, _⟩ := hr4
      obtain ⟨xs, xf⟩ := X
      obtain ⟨c, t⟩ := F
      clear ho4 hwo hX hF
      go_wp2_with fail
      refine HWO.out.mono ?_
      rintro e w5 ⟨ev, rfl, he, ho5⟩
      have HO5 := Lib.hid (HO4.out.then ho5)
      have HEV := Lib.hid he
      clear he ho5 HWO
      go_wp2_with fail
      refine (HWF.out w5 HO5.out).mono ?_
      rintro e w6 ⟨rfl, ho6⟩
      have HB := Lib.hid (MapKept.heap_alloc w6 (.cells #[IN c, I t] 37 (0, 0))).1
      have HO6 : Hid (Ext w3 (w6.alloc (.cells #[IN c, I t] 37 (0, 0)))) := Lib.hid ((HO5.out.then ho6).thenAlloc _)
      have HE6 : Hid (ErrAt (w6.alloc (.cells #[IN c, I t] 37 (0, 0))) P xf ev) := Lib.hid (HEV.out.ext (ho6.thenAlloc _))
      clear ho6 HO5 HEV HWF
      go_upto_if 61 with fail
      generalize (w6.alloc (.cells #[IN c, I t] 37 (0, 0))) = wA at HB HO6 HE6 ⊢
      generalize w6.heap.size = fb at HB ⊢
      go_cut [] (fun wx => Hid (Ext wA wx))
      case first =>
        have HC9 := Lib.hid (fun (f : Nat × Int) (h : xf = f) (h12 : f.1 ≤ 12) (h0 : f.1 = 0 → f.2 = -1) (wq : World) (hx : Ext wA wq) => code_at wq P (HSS.out.ext (HX3.out.then (HO6.out.then hx))) ev f (by rw [← h]; exact HE6.out.ext hx) h12 h0)
        by_cases hc : c = 0
        case neg =>
          have hwr := HWR.out hc
          obtain ⟨rfl, rfl⟩ := Prod.mk.inj hwr
          have hfa := faulted2_any wA ev (c, t) (c, t) (fun w1 hx => HC9.out (c, t) rfl HFL.out HFZ.out w1 hx w1 (Only.refl _ _)) rfl
          have HFA := Lib.hid hfa
          have hcz : (0 : Int) < (c : Int) := by omega
          have c0 := (cell_of_heap HB.out 0).trans (rfl : _ = some (IN c))
          have c1 := (cell_of_heap HB.out 1).trans (rfl : _ = some (I t))
          clear hc hwr hfa
          go_wp2_with fail
          refine HFA.out.mono ?_
          rintro e w7 ⟨rfl, ho7⟩
          have HX7 := Lib.hid ho7
          clear ho7
          go_wp2_with fail
          go_meet
          exact HX7
        case pos =>
          obtain ⟨hwg, od, is, hord, hin⟩ := HWG.out hc
          have hcz : ¬ (0 : Int) < (c : Int) := by omega
          have hwt := HWT.out od is hord out hin wA HO6.out
          have hok := HWP.out out
          generalize wantW l T out = Y at hwg hwt hok
          obtain ⟨y1, y2⟩ := Y
          obtain ⟨rfl, rfl⟩ := Prod.mk.inj hwg
          have HCO := Lib.hid (fun (wq : World) (hx : Ext wA wq) => coded2_any wq ev (y2 : Int) (-1) (y2 : Int) (HC9.out (y2, -1) rfl hok.code (fun _ => rfl) wq hx wq (Only.refl _ _)))
          have HW2 := Lib.hid hwt
          clear hwg hord hin hwt hok hc
          go_wp2_with fail
          refine HW2.out.mono ?_
          rintro e w7 ⟨rfl, ho7⟩
          have hco := HCO.out w7 ho7
          have HX7 := Lib.hid ho7
          rw [beq_self_eq_true, beq_self_eq_true] at hco
          have HCW := Lib.hid hco
          clear ho7 hco
          go_wp2_with fail
          refine HCW.out.mono ?_
          rintro e w8 ⟨rfl, ho8⟩
          have HX8 := Lib.hid (HX7.out.then ho8)
          clear ho8
          go_wp2_with fail
          go_meet
          exact HX8
      case rest =>
        have HOA := Lib.hid (HO6.out.then hcut.out)
        have HXA := Lib.hid (HX3.out.then HOA.out)
        clear hcut HB HE6 HWR HWG HFL HFZ HO6 HX4 HO4
        go_wp2_with fail
        refine (ownRules_any wc _ l (HRD.out.ext HOA.out) (by omega) HIL.out).mono ?_
        rintro e w9 ⟨v9, rfl, hr9, ho9⟩
        have HO9 := Lib.hid (HOA.out.then ho9)
        have HX9 := Lib.hid (HXA.out.then ho9)
        have HAL := Lib.hid (wantAll_any w9 P b mb T v9 l (HTR.out.ext HO9.out) HFT.out hr9 HSM.out HIW.out HOL.out ((HVV.out.ext HX9.out).sub (by decide)))
        obtain ⟨a9, p9, rfl, _, _, _⟩ := hr9
        clear ho9 HOA HXA
        go_wp2_with fail
        refine HAL.out.mono ?_
        rintro e w10 ⟨vt, e2, rfl, he2, ho10, hres⟩
        have HO10 := Lib.hid (HO9.out.then ho10)
        have HRES := Lib.hid hres
        have HE2 := Lib.hid he2
        clear he2 ho10 hres HO9 HX9 HAL
        obtain ⟨F, hF⟩ : ∃ F, F = sheetFault l := ⟨_, rfl⟩
        have hrs := refSheet_any w10 l _ (HRD.out.ext HO10.out) HSM.out
        rw [← hF] at hrs
        have HF := Lib.hid hF
        obtain ⟨c, t⟩ := F
        have HRS := Lib.hid hrs
        clear hF hrs
        go_wp2_with fail
        refine HRS.out.mono ?_
        rintro e w11 ⟨rfl, ho11⟩
        have HO11 := Lib.hid (HO10.out.then ho11)
        have HE11 := Lib.hid (HE2.out.ext ho11)
        have HI11 := Lib.hid ho11
        clear ho11 HE2 HRS
        have HB := Lib.hid (MapKept.heap_alloc w11 (.cells #[IN c, I t] 37 (0, 0))).1
        go_upto_if 98 with fail
        have HXB : Hid (Ext w11 ((w11.alloc (.cells #[IN c, I t] 37 (0, 0))).alloc (.cells #[] 3 (0, 0)))) := Lib.hid ((Only.alloc _ _ _).thenAlloc _)
        have HB2 : Hid (((w11.alloc (.cells #[IN c, I t] 37 (0, 0))).alloc (.cells #[] 3 (0, 0))).heap[w11.heap.size]? = some (.cells #[IN c, I t] 37 (0, 0))) := Lib.hid ((Only.alloc (fun _ => False) _ _).heapOf HB.out (fun h => h))
        generalize ((w11.alloc (.cells #[IN c, I t] 37 (0, 0))).alloc (.cells #[] 3 (0, 0))) = wB at HXB HB2 ⊢
        obtain ⟨gb, hgb⟩ : ∃ gb, gb = w11.heap.size := ⟨_, rfl⟩
        rw [← hgb] at HB2
        rw [← hgb]
        have HGB : Hid (w11.heap.size ≤ gb) := Lib.hid (by omega)
        clear HB hgb
        go_cut [17] (fun ov wx => ∃ (c2 : Nat) (t2 : Int), Hid ((c2, t2) = orderFault l) ∧ Hid (wx.heap[gb]? = some (.cells #[IN c2, I t2] 37 (0, 0))) ∧ Hid (Ext w11 wx) ∧ Hid (c2 = 0 → Rd IN wx ov (orderOut l)))
        case first =>
          by_cases hc : c = 0
          case neg =>
            have hof : orderFault l = (c, t) := by
              have hne : (sheetFault l).1 ≠ 0 := by rw [← HF.out]; exact hc
              unfold orderFault; rw [if_pos hne, ← HF.out]
            have HOF := Lib.hid hof.symm
            have HCN := Lib.hid hc
            have hce : ((c : Int) == 0) = false := beq_eq_false_iff_ne.2 (by omega)
            have hcz : ¬ (c : Int) = 0 := by omega
            clear hof hc
            go_wp2_with fail
            go_meet
            exact ⟨c, t, HOF, HB2, HXB, Lib.hid (fun h => absurd h HCN.out)⟩
          case pos =>
            subst hc
            have h00 : (sheetFault l).1 = 0 := by rw [← HF.out]
            obtain rfl : t = -1 := by
              have h1 := sheet_zero h00
              rw [← HF.out] at h1
              exact (Prod.mk.inj h1).2
            have HZ : Hid (¬ (sheetFault l).1 ≠ 0) := Lib.hid (by rw [h00]; simp)
            have HRB := Lib.hid (HRD.out.ext (HO11.out.then HXB.out))
            clear h00
            go_wp2_with fail
            refine (allOf_any wB l.length (by omega)).mono ?_
            rintro e w14 ⟨rfl, ht14, ho14⟩
            have HX14 := Lib.hid ho14
            obtain ⟨tb0, htb0⟩ : ∃ tb0, tb0 = wB.heap.size := ⟨_, rfl⟩
            rw [← htb0] at ht14
            rw [← htb0]
            clear htb0
            have HORC : Hid (Calls Tryz.prog 26 _ w14 (RetOrder (orderL l) w14)) := Lib.hid (orderOf_any w14 l _ _ (fun _ => true) (HRB.out.ext ho14) (by omega) ht14)
            clear ht14 ho14
            go_wp2_with fail
            refine HORC.out.mono ?_
            rintro e w15 ⟨vq, rfl, hrq, ho15⟩
            have HX15 := Lib.hid (HX14.out.then ho15)
            clear ho15 HORC
            cases hol : orderL l with
            | some od =>
              rw [hol] at hrq
              have hof : orderFault l = (0, -1) := by unfold orderFault; rw [if_neg HZ.out, hol]; rfl
              have hoo : orderOut l = od := by unfold orderOut; rw [if_neg HZ.out, hol]; rfl
              have HOF := Lib.hid hof.symm
              have HQ : Hid (Rd IN w15 vq (orderOut l)) := Lib.hid (by rw [hoo]; exact hrq.rd)
              obtain ⟨aq, cq, rfl, _, _, _⟩ := hrq.rd
              clear hof hoo hrq hol
              go_wp2_with fail
              go_meet
              exact ⟨0, -1, HOF, Lib.hid (HX15.out.heapOf HB2.out (fun h => h)), Lib.hid (HXB.out.then HX15.out), Lib.hid (fun _ => HQ.out)⟩
            | none =>
              rw [hol] at hrq
              have hof : orderFault l = (9, -1) := by unfold orderFault; rw [if_neg HZ.out, hol]; rfl
              have HOF := Lib.hid hof.symm
              obtain ⟨aq, cq, rfl, _, _, _⟩ := hrq.rd
              clear hof hrq hol
              go_wp2_with fail
              refine (refBare_any w15 9).mono ?_
              rintro e w16 ⟨rfl, ho16⟩
              have HX16 := Lib.hid (HX15.out.then ho16)
              have HB16 := Lib.hid (HX16.out.heapOf HB2.out (fun h => h))
              have f0 := free_of_heap HB16.out 0
              have f1 := free_of_heap HB16.out 1
              have r0 := (cell_of_heap HB16.out 0).trans (rfl : _ = some (Value.int .i64 0))
              have r1 := (cell_of_heap HB16.out 1).trans (rfl : _ = some (Value.int .i64 (-1)))
              clear ho16
              go_wp2_with fail
              go_meet
              exact ⟨9, -1, HOF, Lib.hid ((heap_setCell_same (heap_setCell_same HB16.out 0 (IN 9)) 1 (I (-1))).trans (by simp)), Lib.hid (ext_setS1 (ext_setS1 (HXB.out.then HX16.out) _ _ HGB.out) _ _ HGB.out), Lib.hid (fun h => by cases h)⟩
        case rest =>
          obtain ⟨c2, t2, HOF, HBC, HEC, HOV⟩ := hcut
          have HOC := Lib.hid (HO11.out.then HEC.out)
          have HXC := Lib.hid (HX3.out.then HOC.out)
          have HE2 := Lib.hid (HE11.out.ext HEC.out)
          rw [← HOF.out] at HE2
          clear HB2 HXB HF HE11 HO11
          by_cases hc : c2 = 0
          case neg =>
            have hor : vt = .pointer none := by
              rcases HRES.out with ⟨_, h⟩ | ⟨h, _⟩
              · exact h
              · rw [← HOF.out] at h; exact absurd h hc
            subst hor
            have hfa := faulted2_any wc e2 (c2, t2) (c2, t2) (code_at wc P (HSS.out.ext HXC.out) e2 (c2, t2) HE2.out (by rw [HOF.out]; exact orderFault_le l) (fun h => absurd h hc)) rfl
            have HFA := Lib.hid hfa
            have hcz : (0 : Int) < (c2 : Int) := by omega
            have c0 := (cell_of_heap HBC.out 0).trans (rfl : _ = some (IN c2))
            have c1 := (cell_of_heap HBC.out 1).trans (rfl : _ = some (I t2))
            clear hc hfa
            go_wp2_with fail
            refine HFA.out.mono ?_
            rintro e w17 ⟨rfl, ho17⟩
            have HX17 := Lib.hid (HXC.out.then ho17)
            clear ho17
            go_wp2_with fail
            go_ret
            exact ⟨rfl, HX17.out⟩
          case pos =>
            subst hc
            obtain rfl := HE2.out.zero rfl
            have hz : (orderFault l).1 = 0 := by rw [← HOF.out]
            obtain ⟨cb, cmb, hvt, hcb, hcmb, hct, hcf⟩ : ∃ cb cmb, vt = .pointer (some ⟨cb, 0, none⟩) ∧ w9.heap.size ≤ cb ∧ w9.heap.size ≤ cmb ∧ TreeAt w10 cb cmb (allT l T (orderOut l)) ∧ FTree (allT l T (orderOut l)) := by
              rcases HRES.out with ⟨h, _⟩ | ⟨_, h⟩
              · exact absurd hz h
              · exact h
            subst hvt
            have hrd := HOV.out rfl
            obtain ⟨hR, hol⟩ := orderFault_ok hz
            have HCT := Lib.hid (hct.ext (HI11.out.then HEC.out))
            have HCF := Lib.hid hcf
            obtain ⟨od, hod⟩ : ∃ od, od = orderOut l := ⟨_, rfl⟩
            rw [← hod] at hrd hol HCT HCF
            have hord := (orderB_some hol).1
            have HW2 := Lib.hid (fun p hp wq hx => HWT.out od _ hord p hp wq hx)
            have HIN : Hid (∀ i ∈ od, i < l.length ∧ InO l od (ruleAt l i).out) := Lib.hid (fun i hi => ⟨hord.lt i hi, fun k hk => by
              rw [find_outI hR.2.2 (ruleAt_eq (hord.lt i hi))] at hk
              cases hk
              exact hi⟩)
            have hlen : od.length ≤ 1000 := by
              have := hord.len
              have := manyB_le l.length (fun _ => true)
              have := hR.1
              omega
            have hoz : (od.length : Int) ≤ 1000 := by omega
            have c0 := (cell_of_heap HBC.out 0).trans (rfl : _ = some (Value.int .i64 0))
            obtain ⟨ao, co, rfl, _, _, hco⟩ := hrd
            have HCO := Lib.hid hco
            clear hz hcb hcmb hct hcf hR hol hod hord hlen hco HRES HOV HOF HWT HE2
            go_wp2_with fail
            refine (copyTree_any wc w1.heap.size m slv T (HMR.out.ext HOC.out) (by have := HFT.out.fits.few; omega)).mono ?_
            rintro e w18 ⟨slvx, rfl, hx18, ho18⟩
            obtain ⟨xb, hxb⟩ : ∃ xb, xb = wc.heap.size := ⟨_, rfl⟩
            have HP18 : Hid (PutAt wc w18 xb slvx (allT l T (od.take 0))) := Lib.hid ⟨ho18, by omega, by rw [hxb]; exact hx18, HFT.out⟩
            rw [← hxb]
            clear hx18 ho18 hxb c0
            go_wp2_with fail
            go_loopw [20, 21, 22] (fun i _ _ wr => ∃ (j : Nat) (slvz : Value), j ≤ od.length ∧ i = .int .i64 j ∧ Hid (PutAt wc wr xb slvz (allT l T (od.take j)))) (fun i _ _ _ => od.length - (intOf i).toNat)
            case atStart => exact ⟨0, _, Nat.zero_le _, rfl, HP18⟩
            case round =>
              clear HP18
              obtain ⟨j, slvz, hj, rfl, HP⟩ := hrel
              by_cases hlt : j < od.length
              · have hltz : (j : Int) < (od.length : Int) := by omega
                have hj0 : (0 : Int) ≤ (j : Int) := by omega
                have hj1 : ¬ (j : Int) < 0 := by omega
                have hj2 : ¬ (od.length : Int) ≤ (j : Int) := by omega
                obtain ⟨bo, oo, rfl, hcello⟩ := HCO.out (by intro h; rw [h] at hlt; simp at hlt)
                obtain ⟨i, hi⟩ : ∃ y, od[j]? = some y := ⟨_, List.getElem?_eq_getElem hlt⟩
                obtain ⟨hil, hin⟩ := HIN.out i (List.mem_of_getElem? hi)
                have HDI := Lib.hid (hcello j i hi)
                have di := HP.out.ext.cellOf HDI.out (fun h => h)
                have hiz : (i : Int) < (l.length : Int) := by omega
                have hi0 : (0 : Int) ≤ (i : Int) := by omega
                have hi1 : ¬ (i : Int) < 0 := by omega
                have hi2 : ¬ (l.length : Int) ≤ (i : Int) := by omega
                obtain ⟨b2, off2, rfl, hcell⟩ := HC1.out (by intro h; rw [h] at hil; simp at hil)
                obtain ⟨u, _, k0, _⟩ := hcell i _ (ruleAt_eq hil)
                have hrl : (ruleAt l i).out.length ≤ 1000 := HOL.out _ (List.mem_of_getElem? (ruleAt_eq hil))
                have hts := allT_step (l := l) (T := T) hi
                unfold allS at hts
                generalize (ruleAt l i).out = ro at k0 hin hrl hts
                have HK0 := Lib.hid (HXC.out.cellOf k0 (fun h => h))
                have d0 := HP.out.ext.cellOf HK0.out (fun h => h)
                have HRL := Lib.hid hrl
                have HLT := Lib.hid hlt
                have hwo := HW2.out ro hin wr (HOC.out.then HP.out.ext)
                generalize allT l T (od.take j) = U at HP hts
                generalize wantW l T ro = X at hwo hts
                obtain ⟨x1, x2⟩ := X
                have HWO := Lib.hid hwo
                have HTS := Lib.hid hts
                clear hcello hcell hi hil hin k0 hrl hts hwo hlt
                by_cases hx : x2 = 0
                · subst hx
                  have HTS2 : Hid (allT l T (od.take (j + 1)) = putT U ro x1) := Lib.hid (by rw [HTS.out]; rfl)
                  clear HTS
                  go_wp2_with fail
                  refine HWO.out.mono ?_
                  rintro e w20 ⟨rfl, ho20⟩
                  have HP20 := Lib.hid (HP.out.grow ho20)
                  have e0 := HP20.out.ext.cellOf HDI.out (fun h => h)
                  have e1 := HP20.out.ext.cellOf HK0.out (fun h => h)
                  have HPUT := Lib.hid (HP20.out.put ro x1 HRL.out)
                  clear ho20 di d0
                  go_wp2_with fail
                  refine HPUT.out.mono ?_
                  rintro e w21 ⟨r21, slv21, rfl, hp21⟩
                  have HP21 := Lib.hid hp21
                  clear hp21
                  go_wp2_with fail
                  go_roundw
                  case rel => exact ⟨j + 1, _, HLT.out, by go_num, by rw [HTS2.out]; exact HP21⟩
                  case measure => have := HLT.out; simp [intOf]; omega
                · have HTS2 : Hid (allT l T (od.take (j + 1)) = U) := Lib.hid (by rw [HTS.out]; exact if_neg hx)
                  have hxz : ¬ (x2 : Int) = 0 := by omega
                  clear HTS
                  go_wp2_with fail
                  refine HWO.out.mono ?_
                  rintro e w20 ⟨rfl, ho20⟩
                  have HP20 := Lib.hid (HP.out.grow ho20)
                  clear ho20 di d0
                  go_wp2_with fail
                  go_roundw
                  case rel => exact ⟨j + 1, _, HLT.out, by go_num, by rw [HTS2.out]; exact HP20⟩
                  case measure => have := HLT.out; simp [intOf]; omega
              · have hltz : ¬ (j : Int) < (od.length : Int) := by omega
                have HOE : Hid (allT l T (od.take j) = allT l T od) := Lib.hid (by rw [List.take_of_length_le (by omega)])
                rw [HOE.out] at HP
                generalize allT l T od = U at HP HCT HCF
                have HTX := Lib.hid (fun (wq : World) (hx : Ext wr wq) => text_any wq cb cmb U ((HCT.out.ext HP.out.ext).ext hx) HCF.out.fits.rising HCF.out.lens HCF.out.fits.bytes HCF.out.fits.few (HVV.out.ext (HXC.out.then (HP.out.ext.then hx))).pow)
                have HTY := Lib.hid (fun (wq : World) (hx : Ext wr wq) => textM_any wq wc.heap.size xb slvz U (HP.out.model.ext hx) HCF.out.lens HCF.out.fits.bytes HCF.out.fits.few)
                have HTZ := Lib.hid (fun (wq : World) (hx : Ext wr wq) => text_any wq b mb T ((HTR.out.ext (HOC.out.then HP.out.ext)).ext hx) HFT.out.fits.rising HFT.out.lens HFT.out.fits.bytes HFT.out.fits.few (HVV.out.ext (HXC.out.then (HP.out.ext.then hx))).pow)
                have HTW := Lib.hid (fun (wq : World) (hx : Ext wr wq) => textM_any wq w1.heap.size m slv T (HMR.out.ext (HOC.out.then (HP.out.ext.then hx))) HFT.out.lens HFT.out.fits.bytes HFT.out.fits.few)
                generalize textT U = tx at HTX HTY
                generalize textT T = ty at HTZ HTW
                clear hlt hj HOE
                go_wp2_with fail
                refine (HTX.out wr (Only.refl _ _)).mono ?_
                rintro e w22 ⟨rfl, ho22⟩
                have HX22 := Lib.hid ho22
                clear ho22
                go_wp2_with fail
                refine (HTY.out w22 HX22.out).mono ?_
                rintro e w23 ⟨rfl, ho23⟩
                have HX23 := Lib.hid (HX22.out.then ho23)
                clear ho23
                go_wp2_with fail
                refine (HTZ.out w23 HX23.out).mono ?_
                rintro e w24 ⟨rfl, ho24⟩
                have HX24 := Lib.hid (HX23.out.then ho24)
                clear ho24
                go_wp2_with fail
                refine (HTW.out w24 HX24.out).mono ?_
                rintro e w25 ⟨rfl, ho25⟩
                have HX25 := Lib.hid (HX24.out.then ho25)
                clear ho25
                go_wp2_with fail
                go_ret
                exact ⟨by simp, HXC.out.then (HP.out.ext.then HX25.out)⟩
end Go.Proofs.YtnmhaipjfpongacGreatDoor

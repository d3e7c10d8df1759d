/- Texts of this seat laid together for one claim: Z27, O2, O3, I4, O5. No condition of its own: what each proves stands with its theorems. -/
import Derived.Test.YtnmhaipjfpongacGreatDoorPR38
import Derived.Test.YtnmhaipjfpongacGreatDoorPR33
import Derived.Test.YtnmhaipjfpongacGreatDoorPR0
import Derived.Test.YtnmhaipjfpongacGreatDoorPR16
import Derived.Test.YtnmhaipjfpongacGreatDoorPR11
import Derived.Deep.RegionHeld3
import Derived.Test.YtnmhaipjfpongacGreatDoorPR13
import Derived.DataShut
namespace Go.Proofs.YtnmhaipjfpongacGreatDoor
open Go.ChangeShapes Go.WideShapes Go.ChangeAt Go.RowKit

def sizeP (p : Int) : Nat := if p = -9223372036854775808 then 0 else p.natAbs
def In64 (p : Int) : Prop := -9223372036854775808 ≤ p ∧ p ≤ 9223372036854775807

set_option maxRecDepth 100000 in
set_option maxHeartbeats 2000000 in
theorem pickSize_any (w : World) (p : Int) (h : In64 p) : Calls Tryz.prog 137 #[I p] w (RetS (I (sizeP p)) w) := by
 obtain ⟨h1, h2⟩ := h
 by_cases hm : p = -9223372036854775808
 ·have hs : sizeP p = 0 := if_pos hm
  rw [hs]
  subst hm
  go_enter Tryz.func137, Tryz.ntmps137
  go_wp2_with fail
  go_ret
  exact ⟨rfl, rfl⟩
 ·have hs : ((sizeP p : Nat) : Int) = if p < 0 then -p else p := by
   unfold sizeP
   rw [if_neg hm]
   split <;> omega
  rw [hs]
  by_cases hn : p < 0
  ·rw [if_pos hn]
   have hb : -p ≤ 9223372036854775807 := by omega
   go_enter Tryz.func137, Tryz.ntmps137
   go_wp2_with fail
   go_ret
   exact ⟨rfl, rfl⟩
  ·rw [if_neg hn]
   go_enter Tryz.func137, Tryz.ntmps137
   go_wp2_with fail
   go_ret
   exact ⟨rfl, rfl⟩

structure KeepsOwn {σ : Type} (A : World → σ → Prop) (own : Nat → Prop) (lo : Nat) (bs : σ → BS) (step : σ → Nat → σ) (P : Nat → Addr) (base : Nat) (E : BE) (K : BK) : Prop where
 bld : ∀ w x, A w x → BldAt w P base E K (bs x) ∧ BInv E (bs x)
 size : ∀ w x, A w x → lo ≤ w.heap.size
 other : ∀ w x w' (q : Nat → Prop), A w x → Only q w w' → (∀ i, q i → ¬ own i ∧ lo ≤ i) → A w' x
 run : ∀ w x, A w x → ∀ i ∈ E.sm, readyP E (bs x) i = true → Calls Tryz.prog 56 #[PTR K.b, IN i] w (fun e w' => ∃ b, e = .returned (.tuple #[.bool b, .nilIface]) ∧ A w' (step x i) ∧ Only own w w')
 ran : ∀ x i, i ∈ E.sm → readyP E (bs x) i = true → ∀ k, ranP (bs (step x i)) k = (decide (k = i) || ranP (bs x) k)
inductive PicksTo {σ : Type} (E : BE) (bs : σ → BS) (step : σ → Nat → σ) : List Int → σ → List Nat → σ → Prop
 | nil (x : σ) : PicksTo E bs step [] x [] x
 | skip {p : Int} {ps : List Int} {x y : σ} {o : List Nat} : readyL E (bs x) = [] → PicksTo E bs step ps x o y → PicksTo E bs step (p :: ps) x o y
 | pick {p : Int} {ps : List Int} {x y : σ} {o : List Nat} {k : Nat} : (readyL E (bs x))[sizeP p % (readyL E (bs x)).length]? = some k → PicksTo E bs step ps (step x k) o y → PicksTo E bs step (p :: ps) x (k :: o) y
inductive AllOut {σ : Type} (E : BE) (bs : σ → BS) (step : σ → Nat → σ) : σ → List Nat → σ → Prop
 | stop {x : σ} : readyL E (bs x) = [] → AllOut E bs step x [] x
 | more {x y : σ} {o : List Nat} {i : Nat} {R : List Nat} : readyL E (bs x) = i :: R → AllOut E bs step (step x i) o y → AllOut E bs step x (i :: o) y
def RetPick {σ : Type} (A : World → σ → Prop) (bs : σ → BS) (step : σ → Nat → σ) (E : BE) (picks : List Int) (x0 : σ) (w : World) (e : Ending) (w' : World) : Prop :=
 ∃ v o1 o2 x1 y, e = .returned (.tuple #[v, .nilIface]) ∧ RowI w.heap.size w' v (o1 ++ o2) ∧ A w' y ∧ PicksTo E bs step picks x0 o1 x1 ∧ AllOut E bs step x1 o2 y

set_option maxRecDepth 100000 in
set_option maxHeartbeats 8000000 in
theorem pickRun_any {σ : Type} (A : World → σ → Prop) (own : Nat → Prop) (lo : Nat) (bs : σ → BS) (step : σ → Nat → σ) (P : Nat → Addr) (base : Nat) (E : BE) (K : BK) (o : List Nat) (is : Nat → Bool) (w : World) (x0 : σ) (picks : List Int) (v : Value) (hA : KeepsOwn A own lo bs step P base E K) (h : A w x0) (hW : BWell E o is) (hL : BLens E) (hP : ∀ w x, A w x → Rd I w v picks) (hp64 : ∀ p ∈ picks, In64 p) (hpl : picks.length ≤ 3000) (hlo : ∀ i, own i → i < w.heap.size) :
  Calls Tryz.prog 63 #[PTR K.b, v] w (RetPick A bs step E picks x0 w) := by
 have HA := Lib.hid hA
 have H0 := Lib.hid h
 have HW := Lib.hid hW
 have HL := Lib.hid hL
 have H64 := Lib.hid hp64
 have HLO := Lib.hid hlo
 obtain ⟨a, cap, rfl, hcap, hm, _⟩ := hP w x0 h
 have HC := Lib.hid (fun w x (h : A w x) => (show picks ≠ [] → ∃ b off, a = some ⟨b, off, none⟩ ∧ ∀ (i : Nat) (y : Int), picks[i]? = some y → w.cell? ⟨b, off + i, none⟩ = some (I y) from by
  obtain ⟨a', c', e, _, _, hc⟩ := hP w x h
  cases e
  exact hc))
 have hplz : (picks.length : Int) ≤ 3000 := by omega
 have hmin : min (picks.length : Int) 3000 = (picks.length : Int) := by omega
 have hminn : min picks.length 3000 = picks.length := by omega
 have hcz : (picks.length : Int) ≤ (cap : Int) := by omega
 obtain ⟨ws, hws⟩ : ∃ ws, ws = w.heap.size := ⟨_, rfl⟩
 have HWS : Hid (ws = w.heap.size) := Lib.hid hws
 have HLW : Hid (lo ≤ ws) := Lib.hid (by rw [hws]; exact hA.size w x0 h)
 clear hA h hW hL hP hp64 hlo hws
 go_enter Tryz.func63, Tryz.ntmps63
 go_wp2_with fail
 have HA0 := H0
 go_loopw [6, 8, 9, 10, 21] (fun q _ _ _ i wr => ∃ (j : Nat) (x : σ) (out : List Nat) (qv : Value), qv = q ∧ j ≤ picks.length ∧ i = .int .i64 j ∧ Hid (A wr x) ∧ Hid (RowI ws wr qv out) ∧ Hid (ws ≤ wr.heap.size) ∧ Hid (out.length ≤ ranN E (bs x)) ∧ Hid (∀ o' y, PicksTo E bs step (picks.drop j) x o' y → PicksTo E bs step picks x0 (out ++ o') y)) (fun _ _ _ _ i _ => picks.length - (intOf i).toNat)
 case atStart => exact ⟨0, x0, [], _, rfl, Nat.zero_le _, rfl, HA0, Lib.hid (RowI.nil _ _), Lib.hid (by rw [HWS.out]; exact Nat.le_refl _), Lib.hid (Nat.zero_le _), Lib.hid (fun o' y h => by simpa using h)⟩
 case round =>
  clear HA0 H0
  obtain ⟨j, x, out, qv, rfl, hj, rfl, HAX, HR, HSZ, HLN, HTO⟩ := hrel
  by_cases hlt : j < picks.length
  ·have hltz : (j : Int) < (picks.length : Int) := by omega
   have hj0 : (0 : Int) ≤ (j : Int) := by omega
   have hj1 : ¬ (j : Int) < 0 := by omega
   have hj2 : ¬ (picks.length : Int) ≤ (j : Int) := by omega
   obtain ⟨b, off, rfl, hcell⟩ := HC.out _ _ HAX.out (by intro h; rw [h] at hlt; simp at hlt)
   obtain ⟨p, hp⟩ : ∃ y, picks[j]? = some y := ⟨_, List.getElem?_eq_getElem hlt⟩
   have d0 := hcell j p hp
   have HDR : Hid (picks.drop j = p :: picks.drop (j + 1)) := Lib.hid (by rw [List.drop_eq_getElem_cons hlt]; rw [(List.getElem?_eq_some_iff.1 hp).2])
   have HP64 := Lib.hid (H64.out p (List.mem_of_getElem? hp))
   have HLT := Lib.hid hlt
   have HRL := Lib.hid (readyL_any (HA.out.bld _ _ HAX.out).1 HW.out HL.out.many HL.out.few)
   obtain ⟨R, hR⟩ : ∃ R, R = readyL E (bs x) := ⟨_, rfl⟩
   rw [← hR] at HRL
   have HRQ := Lib.hid hR
   clear hcell hp hlt hR
   go_wp2_with fail
   refine HRL.out.mono ?_
   rintro e w7 ⟨v7, rfl, hr7, ho7⟩
   have HAX7 := Lib.hid (HA.out.other _ _ _ (fun _ => False) HAX.out ho7 (fun _ h => h.elim))
   have HR7 := Lib.hid (HR.out.ext ho7)
   have HSZ7 : Hid (ws ≤ w7.heap.size) := Lib.hid (Nat.le_trans HSZ.out ho7.size)
   obtain ⟨a7, p7, rfl, _, hm7, hc7⟩ := hr7.rd
   have HC7 := Lib.hid hc7
   have hRl : R.length ≤ 1000 := by
    rw [HRQ.out]
    have h1 := List.length_filter_le (readyP E (bs x)) E.sm
    have h2 := HL.out.few
    unfold readyL
    omega
   have hRlz : (R.length : Int) ≤ 1000 := by omega
   clear hr7 ho7 hm7 hc7 HAX HR HSZ HRL d0
   by_cases h0 : R.length = 0
   ·have hRz : ¬ (0 : Int) < (R.length : Int) := by omega
    have HTO2 : Hid (∀ o' y, PicksTo E bs step (picks.drop (j + 1)) x o' y → PicksTo E bs step picks x0 (out ++ o') y) := Lib.hid (fun o' y h => HTO.out o' y (by
     rw [HDR.out]
     exact .skip (by rw [← HRQ.out]; exact List.eq_nil_of_length_eq_zero h0) h))
    clear h0
    go_wp2_with fail
    go_roundw
    case rel => exact ⟨j + 1, x, out, _, rfl, HLT.out, by go_num, HAX7, HR7, HSZ7, HLN, HTO2⟩
    case measure => have := HLT.out; simp [intOf]; omega
   ·have hRz : (0 : Int) < (R.length : Int) := by omega
    obtain ⟨m, hm⟩ : ∃ m, m = sizeP p % R.length := ⟨_, rfl⟩
    have hml : m < R.length := by rw [hm]; exact Nat.mod_lt _ (by omega)
    have hmod : ((sizeP p : Nat) : Int).tmod (R.length : Int) = (m : Int) := by rw [hm]; exact (Int.ofNat_tmod (sizeP p) R.length).symm
    have hmz : (m : Int) < (R.length : Int) := by omega
    have hm0 : (0 : Int) ≤ (m : Int) := by omega
    have hm1 : ¬ (m : Int) < 0 := by omega
    have hm2 : ¬ (R.length : Int) ≤ (m : Int) := by omega
    have hRne : ((R.length : Int) == 0) = false := beq_eq_false_iff_ne.2 (by omega)
    have hRne2 : ¬ (R.length : Int) = 0 := by omega
    obtain ⟨b7, off7, rfl, hcell7⟩ := HC7.out (by intro h; rw [h] at h0; simp at h0)
    obtain ⟨k, hk⟩ : ∃ y, R[m]? = some y := ⟨_, List.getElem?_eq_getElem hml⟩
    have d7 := hcell7 m k hk
    have hkr : k ∈ readyL E (bs x) := by rw [← HRQ.out]; exact List.mem_of_getElem? hk
    obtain ⟨hkm, hkp⟩ := List.mem_filter.1 hkr
    have HTO2 : Hid (∀ o' y, PicksTo E bs step (picks.drop (j + 1)) (step x k) o' y → PicksTo E bs step picks x0 ((out ++ [k]) ++ o') y) := Lib.hid (fun o' y h => by
     rw [List.append_assoc]
     refine HTO.out (k :: o') y ?_
     rw [HDR.out]
     exact .pick (by rw [← HRQ.out, ← hm]; exact hk) h)
    have HLN2 : Hid ((out ++ [k]).length ≤ ranN E (bs (step x k))) := Lib.hid (by
     have := ranN_more HW.out.nodup hkm (ready_not_ran hkp) (HA.out.ran x k hkm hkp)
     have := HLN.out
     rw [List.length_append]
     simp
     omega)
    have HSP := Lib.hid (fun w8 => pickSize_any w8 p HP64.out)
    have HRUN := Lib.hid (HA.out.run w7 x HAX7.out k hkm hkp)
    have hol : out.length ≤ 1000000 := by
     have := HLN.out
     have := ranN_le E (bs x)
     have := HL.out.few
     omega
    have HOL := Lib.hid hol
    clear hm hcell7 hk hkr hkm hkp h0 hol hml
    go_wp2_with fail
    refine (HSP.out _).mono ?_
    rintro e w8 ⟨rfl, rfl⟩
    go_wp2_with fail
    refine HRUN.out.mono ?_
    rintro e w9 ⟨bb, rfl, hA9, ho9⟩
    have HAX9 := Lib.hid hA9
    have HR9 : Hid (RowI ws w9 qv out) := Lib.hid (ho9.row HR7.out (fun i e hi => by have := HR7.out.base i e; have := HLO.out i hi; have := HWS.out; omega))
    have HSZ9 : Hid (ws ≤ w9.heap.size) := Lib.hid (Nat.le_trans HSZ7.out ho9.size)
    clear hA9 ho9 d7 HRUN
    go_wp2_with (at_builtin; refine wpNum2 rfl (.tmp 44) (.tmp 46) ws _ out k w9 rfl rfl rfl rfl HR9.out HOL.out HSZ9.out ?_; intro g5 cap5 w5 HR5 HG5 _; have HAX5 := Lib.hid (HA.out.other _ _ _ _ HAX9.out (Only.of_grown HG5.out) (fun i e => ⟨fun hi => by have := HR9.out.base i e; have := HLO.out i hi; have := HWS.out; omega, by have := HR9.out.base i e; have := HLW.out; omega⟩)); have HSZ5 : Hid (ws ≤ w5.heap.size) := Lib.hid (Nat.le_trans HSZ9.out (Only.of_grown HG5.out).size))
    go_roundw
    case rel => exact ⟨j + 1, step x k, out ++ [k], _, rfl, HLT.out, by go_num, HAX5, HR5, HSZ5, HLN2, HTO2⟩
    case measure => have := HLT.out; simp [intOf]; omega
  ·have hltz : ¬ (j : Int) < (picks.length : Int) := by omega
   have HP1 : Hid (PicksTo E bs step picks x0 out x) := Lib.hid (by
    have h := HTO.out [] x (by rw [List.drop_of_length_le (by omega)]; exact .nil x)
    simpa using h)
   clear hlt hj HTO
   have HRL := Lib.hid (readyL_any (HA.out.bld _ _ HAX.out).1 HW.out HL.out.many HL.out.few)
   go_wp2_with fail
   refine HRL.out.mono ?_
   rintro e w7 ⟨v7, rfl, hr7, ho7⟩
   have HAX7 := Lib.hid (HA.out.other _ _ _ (fun _ => False) HAX.out ho7 (fun _ h => h.elim))
   have HR7 := Lib.hid (HR.out.ext ho7)
   have HSZ7 : Hid (ws ≤ w7.heap.size) := Lib.hid (Nat.le_trans HSZ.out ho7.size)
   have HQ7 : Hid (RowI ws w7 v7 (readyL E (bs x))) := Lib.hid (hr7.down HSZ.out)
   clear hr7 ho7 HAX HR HSZ HRL
   obtain ⟨o1, ho1⟩ : ∃ o1, o1 = out := ⟨_, rfl⟩
   rw [← ho1] at HP1
   have HO1 : Hid (out = o1 ++ []) := Lib.hid (by rw [ho1]; simp)
   obtain ⟨x1, hx1⟩ : ∃ x1, x1 = x := ⟨_, rfl⟩
   rw [← hx1] at HP1
   have HTA : Hid (∀ o' y, AllOut E bs step x o' y → AllOut E bs step x1 ([] ++ o') y) := Lib.hid (fun o' y h => by rw [hx1]; simpa using h)
   clear ho1 hx1
   go_wp2_with fail
   go_loopg [6, 11] (E.sm.length - ranN E (bs x)) (fun g q l wr => ∃ (x : σ) (out o2 : List Nat) (qv lv : Value), qv = q ∧ lv = l ∧ E.sm.length - ranN E (bs x) = g ∧ Hid (A wr x) ∧ Hid (RowI ws wr qv out) ∧ Hid (RowI ws wr lv (readyL E (bs x))) ∧ Hid (ws ≤ wr.heap.size) ∧ Hid (out.length ≤ ranN E (bs x)) ∧ Hid (out = o1 ++ o2) ∧ Hid (∀ o' y, AllOut E bs step x o' y → AllOut E bs step x1 (o2 ++ o') y))
   case atStart => exact ⟨x, out, [], _, _, rfl, rfl, rfl, HAX7, HR7, HQ7, HSZ7, HLN, HO1, HTA⟩
   case round =>
    clear HAX7 HR7 HQ7 HSZ7 HLN HO1 HTA
    obtain ⟨x, out, o2, qv, lv, rfl, rfl, hg, HAX, HR, HQ, HSZ, HLN, HO1, HTA⟩ := hrel
    have HG := Lib.hid hg
    obtain ⟨R, hR⟩ : ∃ R, R = readyL E (bs x) := ⟨_, rfl⟩
    rw [← hR] at HQ
    have HRQ := Lib.hid hR
    clear hg hR
    obtain ⟨a7, p7, rfl, _, _, hc7⟩ := HQ.out.rd
    rcases R with _ | ⟨k, R⟩
    ·have hlz : ¬ (0 : Int) < (([] : List Nat).length : Int) := by simp
     have HE := Lib.hid (HTA.out [] x (.stop HRQ.out.symm))
     clear hc7
     go_wp2_with fail
     go_ret2
     refine ⟨_, o1, o2 ++ [], x1, x, rfl, ?_, HAX.out, HP1.out, HE.out⟩
     rw [List.append_nil, ← HO1.out]
     exact HR.out.down (by rw [HWS.out]; exact Nat.le_refl _)
    ·obtain ⟨b7, off7, rfl, hcell7⟩ := hc7 (by simp)
     have d7 := hcell7 0 k rfl
     rw [Nat.add_zero] at d7
     have hkr : k ∈ readyL E (bs x) := by rw [← HRQ.out]; exact .head _
     obtain ⟨hkm, hkp⟩ := List.mem_filter.1 hkr
     have hrm := ranN_more HW.out.nodup hkm (ready_not_ran hkp) (HA.out.ran x k hkm hkp)
     have hrl := ranN_le E (bs (step x k))
     have HME : Hid (E.sm.length - ranN E (bs (step x k)) < E.sm.length - ranN E (bs x)) := Lib.hid (by omega)
     have HLN2 : Hid ((out ++ [k]).length ≤ ranN E (bs (step x k))) := Lib.hid (by
      have := HLN.out
      rw [List.length_append]
      simp
      omega)
     have HTA2 : Hid (∀ o' y, AllOut E bs step (step x k) o' y → AllOut E bs step x1 ((o2 ++ [k]) ++ o') y) := Lib.hid (fun o' y h => by
      rw [List.append_assoc]
      exact HTA.out (k :: o') y (.more HRQ.out.symm h))
     have HO2 : Hid (out ++ [k] = o1 ++ (o2 ++ [k])) := Lib.hid (by rw [HO1.out, List.append_assoc])
     have HRUN := Lib.hid (HA.out.run wr x HAX.out k hkm hkp)
     have hol : out.length ≤ 1000000 := by
      have := HLN.out
      have := ranN_le E (bs x)
      have := HL.out.few
      omega
     have HOL := Lib.hid hol
     have hlz : (0 : Int) < ((k :: R).length : Int) := by simp
     have HCQ := Lib.hid HQ.out
     clear hcell7 hkr hkm hkp hrm hrl hol
     go_wp2_with fail
     refine HRUN.out.mono ?_
     rintro e w9 ⟨bb, rfl, hA9, ho9⟩
     have HAX9 := Lib.hid hA9
     have HR9 : Hid (RowI ws w9 qv out) := Lib.hid (ho9.row HR.out (fun i e hi => by have := HR.out.base i e; have := HLO.out i hi; have := HWS.out; omega))
     have HSZ9 : Hid (ws ≤ w9.heap.size) := Lib.hid (Nat.le_trans HSZ.out ho9.size)
     have d9 := ho9.cellOf d7 (fun hi => by have h1 := HCQ.out.base b7 rfl; have h2 : b7 < w.heap.size := HLO.out b7 hi; have := HWS.out; omega)
     clear hA9 ho9 d7 HRUN
     go_wp2_with (at_builtin; refine wpNum2 rfl (.tmp 64) (.tmp 68) ws _ out k w9 rfl rfl rfl rfl HR9.out HOL.out HSZ9.out ?_; intro g5 cap5 w5 HR5 HG5 _; have HAX5 := Lib.hid (HA.out.other _ _ _ _ HAX9.out (Only.of_grown HG5.out) (fun i e => ⟨fun hi => by have := HR9.out.base i e; have := HLO.out i hi; have := HWS.out; omega, by have := HR9.out.base i e; have := HLW.out; omega⟩)); have HSZ5 : Hid (ws ≤ w5.heap.size) := Lib.hid (Nat.le_trans HSZ9.out (Only.of_grown HG5.out).size))
     have HRL := Lib.hid (readyL_any (HA.out.bld _ _ HAX5.out).1 HW.out HL.out.many HL.out.few)
     clear d9
     go_wp2_with fail
     refine HRL.out.mono ?_
     rintro e w7 ⟨v7, rfl, hr7, ho7⟩
     have HAX7 := Lib.hid (HA.out.other _ _ _ (fun _ => False) HAX5.out ho7 (fun _ h => h.elim))
     have HR7 := Lib.hid (HR5.out.ext ho7)
     have HSZ7 : Hid (ws ≤ w7.heap.size) := Lib.hid (Nat.le_trans HSZ5.out ho7.size)
     have HQ7 : Hid (RowI ws w7 v7 (readyL E (bs (step x k)))) := Lib.hid (hr7.down HSZ5.out)
     clear hr7 ho7
     go_wp2_with fail
     go_roundg (E.sm.length - ranN E (bs (step x k)))
     case measure => rw [← HG.out]; exact HME.out
     case rel => exact ⟨step x k, out ++ [k], o2 ++ [k], _, _, rfl, rfl, rfl, HAX7, HR7, HQ7, HSZ7, HLN2, HO2, HTA2⟩
end Go.Proofs.YtnmhaipjfpongacGreatDoor

namespace Go.Proofs.YtnmhaipjfpongacGreatDoor
open Go.ChangeShapes Go.WideShapes Go.ChangeAt Go.RowKit

theorem addr_addR (b off n : Nat) : (⟨b, off, none⟩ : Addr).add n = ⟨b, off + n, none⟩ := by
 unfold Addr.add
 split
 ·subst_vars; rfl
 ·rfl

theorem texts_trod {H : Type} {enc : TypeId × Value → H} {w : World} {base : Nat} {spare : Nat → Bool} {held : Bool} {fuel : Nat} {v : Value} {x : DataW H × List MemPlace}
  (h : DataW.trod enc Tryz.prog w base spare held fuel 53 [v] = some x) : ∃ l : List B, Rd S w v l := by
 obtain ⟨d, ps⟩ := x
 rcases open_strings Tryz.underlying53 Tryz.underlying9 (by kernel_rfl) h with ⟨h0, _⟩ | ⟨ad, len, cap, ss, h0, _, hl, hm, hss, _, hc, _⟩
 ·cases h0
  exact ⟨[], Rd.nil _ _⟩
 ·cases h0
  have hle : len ≤ ss.length := by rw [hss]; split <;> omega
  refine ⟨(ss.take len).map (·.data.toList), some ad, cap, by simp [Nat.min_eq_left hle], by simpa [Nat.min_eq_left hle] using hl, hm, fun hne => ?_⟩
  have hpos : 0 < ss.length := by
   rcases Nat.eq_zero_or_pos ss.length with h | h
   ·exact absurd (by simp [List.length_eq_zero_iff.1 h]) hne
   ·exact h
  obtain ⟨b, off, spot⟩ := ad
  have h00 := hc 0 hpos
  have hs : spot = none := by simpa [Addr.add] using World.cell?_spot h00
  subst hs
  refine ⟨b, off, rfl, fun i x hx => ?_⟩
  rw [List.getElem?_map] at hx
  obtain ⟨y, hy, rfl⟩ := Option.map_eq_some_iff.1 hx
  have hi : i < len := by have := (List.getElem?_eq_some_iff.1 hy).1; simp at this; omega
  rw [List.getElem?_take_of_lt hi] at hy
  have := hc i (by omega)
  rw [addr_addR, List.getD_eq_getElem?_getD, hy] at this
  simpa using this

theorem cellsRule : Tryz.prog.cellsOf 55 = 4 := by kernel_rfl

theorem open_rules {H : Type} {enc : TypeId × Value → H} {w : World} {base : Nat} {spare : Nat → Bool} {held : Bool} {fuel : Nat} {a : Option Addr} {len cap : Nat} {x : DataW H × List MemPlace}
  (h : DataW.trod enc Tryz.prog w base spare held fuel 23 [.slice a len cap] = some x) (_hr : ∀ n ∈ x.1.weights Tryz.prog 23, n ≤ 140737488351232) :
  ∃ l : List Rule, l.length = len ∧ RdR w (.slice a len cap) l ∧ True := by
 rcases open_slice_fields Tryz.underlying23 Tryz.underlying55 (by kernel_rfl) cellsRule h with ⟨h0, _⟩ | ⟨ad, len', cap', m, D, Pl, hcs, _, hl, hm, hmm, hxx, hi⟩
 ·cases h0
  exact ⟨[], rfl, RdR.nil _, trivial⟩
 ·cases hcs
  have key : ∀ i, ∃ y : Rule × Value, i < len → (w.cell? (ad.add (i * 4)) = some (S y.1.out) ∧ w.cell? (ad.add (i * 4 + 1)) = some (S y.1.kind) ∧ w.cell? (ad.add (i * 4 + 2)) = some (S y.1.word) ∧ w.cell? (ad.add (i * 4 + 3)) = some y.2) ∧ Rd S w y.2 y.1.ins := by
   intro i
   by_cases hlt : i < len
   ·have him : i < m := by rw [hmm]; split <;> omega
    obtain ⟨ys, n, hD, _, hyl, hf⟩ := hi i him
    obtain ⟨v0, y0, c0, g0, t0⟩ := hf 0 _ rfl
    obtain ⟨v1, y1, c1, g1, t1⟩ := hf 1 _ rfl
    obtain ⟨v2, y2, c2, g2, t2⟩ := hf 2 _ rfl
    obtain ⟨v3, y3, c3, g3, t3⟩ := hf 3 _ rfl
    obtain ⟨p, e0, z0, _⟩ := DataW.trod_string Tryz.underlying9 t0
    obtain ⟨k, e1, z1, _⟩ := DataW.trod_string Tryz.underlying9 t1
    obtain ⟨s, e2, z2, _⟩ := DataW.trod_string Tryz.underlying9 t2
    obtain ⟨q, hq⟩ := texts_trod t3
    cases e0; cases e1; cases e2
    exact ⟨(⟨p.data.toList, k.data.toList, s.data.toList, q⟩, v3), fun _ => ⟨⟨c0, c1, c2, c3⟩, hq⟩⟩
   ·exact ⟨(⟨[], [], [], []⟩, .nilIface), fun h => absurd h hlt⟩
  refine ⟨(List.range len).map fun i => (Classical.choose (key i)).1, by simp, ⟨some ad, cap, by simp, by simpa using hl, hm, fun hne => ?_⟩, trivial⟩
  have hpos : 0 < len := by
   rcases Nat.eq_zero_or_pos len with h | h
   ·subst h; simp at hne
   ·exact h
  obtain ⟨b, off, spot⟩ := ad
  have hs : spot = none := by
   have := (Classical.choose_spec (key 0) hpos).1.1
   simpa [Addr.add] using World.cell?_spot this
  subst hs
  refine ⟨b, off, rfl, fun i r hx => ?_⟩
  have hlt : i < len := by have := (List.getElem?_eq_some_iff.1 hx).1; simpa using this
  have he : (Classical.choose (key i)).1 = r := by
   rw [List.getElem?_map, List.getElem?_range hlt] at hx
   simpa using hx
  obtain ⟨⟨h0, h1, h2, h3⟩, h4⟩ := Classical.choose_spec (key i) hlt
  subst he
  have e := fun n => congrArg w.cell? (addr_addR b off n)
  exact ⟨_, h4, (e _).symm.trans h0, (e _).symm.trans h1, (e _).symm.trans h2, (e _).symm.trans h3⟩
end Go.Proofs.YtnmhaipjfpongacGreatDoor

namespace Go.Proofs.YtnmhaipjfpongacGreatDoor
open Go.ChangeShapes Go.WideShapes Go.ChangeAt Go.RowKit

theorem cellsFile : Tryz.prog.cellsOf 65 = 2 := by kernel_rfl

theorem open_files {H : Type} {enc : TypeId × Value → H} {w : World} {base : Nat} {spare : Nat → Bool} {held : Bool} {fuel : Nat} {a : Option Addr} {len cap : Nat} {x : DataW H × List MemPlace}
  (h : DataW.trod enc Tryz.prog w base spare held fuel 22 [.slice a len cap] = some x) (_hr : ∀ n ∈ x.1.weights Tryz.prog 22, n ≤ 140737488351232) :
  ∃ l : List (B × B), l.length = len ∧ RdS 2 encF w (.slice a len cap) l ∧ True := by
 rcases open_slice_fields Tryz.underlying22 Tryz.underlying65 (by kernel_rfl) cellsFile h with ⟨h0, _⟩ | ⟨ad, len', cap', m, D, Pl, hcs, _, hl, hm, hmm, hxx, hi⟩
 ·cases h0
  exact ⟨[], rfl, RdS.nil _ _ _, trivial⟩
 ·cases hcs
  have key : ∀ i, ∃ y : B × B, i < len → w.cell? (ad.add (i * 2)) = some (S y.1) ∧ w.cell? (ad.add (i * 2 + 1)) = some (S y.2) := by
   intro i
   by_cases hlt : i < len
   ·have him : i < m := by rw [hmm]; split <;> omega
    obtain ⟨ys, n, hD, _, hyl, hf⟩ := hi i him
    obtain ⟨v0, y0, c0, g0, t0⟩ := hf 0 _ rfl
    obtain ⟨v1, y1, c1, g1, t1⟩ := hf 1 _ rfl
    obtain ⟨p, e0, z0, _⟩ := DataW.trod_string Tryz.underlying9 t0
    obtain ⟨k, e1, z1, _⟩ := DataW.trod_string Tryz.underlying9 t1
    cases e0; cases e1
    exact ⟨(p.data.toList, k.data.toList), fun _ => ⟨c0, c1⟩⟩
   ·exact ⟨([], []), fun h => absurd h hlt⟩
  refine ⟨(List.range len).map fun i => Classical.choose (key i), by simp, ⟨some ad, cap, by simp, by simpa using hl, hm, fun hne => ?_⟩, trivial⟩
  have hpos : 0 < len := by
   rcases Nat.eq_zero_or_pos len with h | h
   ·subst h; simp at hne
   ·exact h
  obtain ⟨b, off, spot⟩ := ad
  have hs : spot = none := by
   have := (Classical.choose_spec (key 0) hpos).1
   simpa [Addr.add] using World.cell?_spot this
  subst hs
  refine ⟨b, off, rfl, fun i y hx j u hu => ?_⟩
  have hlt : i < len := by have := (List.getElem?_eq_some_iff.1 hx).1; simpa using this
  have he : Classical.choose (key i) = y := by
   rw [List.getElem?_map, List.getElem?_range hlt] at hx
   simpa using hx
  obtain ⟨h0, h1⟩ := Classical.choose_spec (key i) hlt
  rw [he] at h0 h1
  rw [addr_addR] at h0 h1
  rcases j with _ | _ | j
  ·cases hu; exact h0
  ·cases hu; exact h1
  ·simp at hu
end Go.Proofs.YtnmhaipjfpongacGreatDoor

namespace Go.Proofs.YtnmhaipjfpongacGreatDoor
open Go.ChangeShapes Go.WideShapes Go.ChangeAt Go.RowKit

def RetLF (fs : FL) (w : World) (e : Ending) (w' : World) : Prop := ∃ r : Bool, e = .returned (.bool r) ∧ (r = false → fs.length ≤ 30 ∧ ∀ q ∈ fs, q.1.length ≤ 100) ∧ w = w'
def treeOfF (fs : FL) : FL := fs.foldl (fun L q => putT L q.1 q.2) []
theorem treeOfF_step {fs : FL} {j : Nat} {q : B × B} (h : fs[j]? = some q) : treeOfF (fs.take (j + 1)) = putT (treeOfF (fs.take j)) q.1 q.2 := by
 unfold treeOfF
 rw [List.take_add_one, h, Option.toList_some, List.foldl_append]
 rfl
structure FTree (L : FL) : Prop where
 fits : Fits L
 lens : ∀ q ∈ L, q.1.length ≤ 1000
theorem FTree.nil : FTree [] := ⟨Fits.nil, by simp⟩
theorem FTree.put {L : FL} (h : FTree L) (p x : B) (hp : p.length ≤ 1000) : FTree (putT L p x) := ⟨h.fits.put p x, lens_put h.fits.rising h.lens p x hp⟩
theorem FTree.bytes {L : FL} (h : FTree L) : ∀ p s, L.lookup p = some s → s.length ≤ 2000 := fun _ _ hl => h.fits.bytes _ (mem_of_lookup hl)
theorem ftree_of {fs : FL} (h : ∀ q ∈ fs, q.1.length ≤ 100) : ∀ j, FTree (treeOfF (fs.take j))
 | 0 => FTree.nil
 | j + 1 => by
  cases hq : fs[j]? with
  | none =>
   have : fs.take (j + 1) = fs.take j := by rw [List.take_add_one, hq]; simp
   rw [this]; exact ftree_of h j
  | some q =>
   rw [treeOfF_step hq]
   exact (ftree_of h j).put _ _ (by have := h q (List.mem_of_getElem? hq); omega)

section
variable {w0 wr w' : World} {b mb m : Nat} {slv : Value} {LT LM : FL}
theorem TT.putF {P : Nat → Addr} (J : TT w0 wr b mb m slv LT LM) (hf : FTree LT) (hs : Errs w0 P [1, 3, 6, 7]) (hm : HasMax w0) (p x : B) (hp : p.length ≤ 1000) :
  Calls Tryz.prog 38 #[.pointer (some ⟨b, 0, none⟩), S p, S x] wr fun r w' => r = .returned (errC P (putCode LT p x)) ∧ TT w0 w' b mb m slv (putT LT p x) LM :=
 (treePut_any wr P b mb LT p x J.tree hf.fits (hs.ext J.ext) (hm.ext J.ext) (by omega) (fun q hq => by have := hf.lens q hq; omega)).mono fun _ _ ⟨h1, h2, h3⟩ => ⟨h1, J.treeStep h2 h3⟩
theorem TT.putMF (J : TT w0 wr b mb m slv LT LM) (hf : FTree LM) (p x : B) (hp : p.length ≤ 1000) :
  Calls Tryz.prog 30 #[.pointer (some ⟨m, 0, none⟩), S p, S x] wr fun r w' => ∃ slv', r = .returned (I (putCode LM p x)) ∧ TT w0 w' b mb m slv' LT (putT LM p x) :=
 (putM_any wr w0.heap.size m slv LM p x J.model hf.fits.rising (by have := hf.fits.few; omega) (by omega) J.ext.size).mono fun _ _ h => by
  obtain ⟨slv', h1, h2, _⟩ := J.modelStep h
  exact ⟨slv', h1, h2⟩
end

def RetFT (fs : FL) (w : World) (e : Ending) (w' : World) : Prop := ∃ (b mb m : Nat) (slv : Value), e = .returned (.tuple #[.pointer (some ⟨b, 0, none⟩), .pointer (some ⟨m, 0, none⟩)]) ∧ TT w w' b mb m slv (treeOfF fs) (treeOfF fs)

set_option maxRecDepth 100000 in
set_option maxHeartbeats 2000000 in
theorem longFiles3_any (w : World) (v : Value) (fs : FL) (hv : RdS 2 encF w v fs) : Calls Tryz.prog 61 #[v] w (RetLF fs w) := by
 obtain ⟨a, cap, rfl, _, hm1, hc⟩ := hv
 have hl1 : fs.length ≤ 9223372036854775807 := by unfold maxLen at hm1; omega
 have HC := Lib.hid hc
 clear hc hm1
 by_cases hmany : 30 < fs.length
 ·have hz : (30 : Int) < (fs.length : Int) := by omega
  clear hmany
  go_enter Tryz.func61, Tryz.ntmps61
  go_wp2_with fail
  go_ret
  exact ⟨true, rfl, (fun h => by cases h), rfl⟩
 ·have hz : ¬ (30 : Int) < (fs.length : Int) := by omega
  have HM : Hid (fs.length ≤ 30) := Lib.hid (by omega)
  clear hmany
  go_enter Tryz.func61, Tryz.ntmps61
  go_wp2_with fail
  go_loop [3, 4] (fun n i => ∃ (j : Nat) (nn : Int), j ≤ fs.length ∧ i = .int .i64 j ∧ n = .int .i64 nn ∧ 0 ≤ nn ∧ nn ≤ 4000 ∧ Hid (∀ i (q : B × B), i < j → fs[i]? = some q → q.1.length ≤ 100)) (fun _ i => fs.length - (intOf i).toNat)
  case atStart => exact ⟨0, 0, Nat.zero_le _, rfl, rfl, by omega, by omega, Lib.hid (fun i q h => absurd h (Nat.not_lt_zero _))⟩
  case round =>
   obtain ⟨j, nn, hj, rfl, rfl, hn0, hn1, HB⟩ := hrel
   by_cases hlt : j < fs.length
   ·have hltz : (j : Int) < (fs.length : Int) := by omega
    have hj0 : (0 : Int) ≤ (j : Int) := by omega
    obtain ⟨b, off, rfl, hcell⟩ := HC.out (by intro h; rw [h] at hlt; simp at hlt)
    obtain ⟨⟨p, x⟩, hq⟩ : ∃ y, fs[j]? = some y := ⟨_, List.getElem?_eq_getElem hlt⟩
    have c0 : w.cell? ⟨b, off + j * 2, none⟩ = some (S p) := hcell j _ hq 0 _ rfl
    have c1 : w.cell? ⟨b, off + j * 2 + 1, none⟩ = some (S x) := hcell j _ hq 1 _ rfl
    have HQ := Lib.hid hq
    clear hcell hq
    by_cases h1 : (4000 : Int) < (x.length : Int)
    ·go_wp2_with fail
     go_ret
     exact ⟨true, rfl, (fun h => by cases h), rfl⟩
    by_cases h2 : (100 : Int) < (p.length : Int)
    ·go_wp2_with fail
     go_ret
     exact ⟨true, rfl, (fun h => by cases h), rfl⟩
    by_cases h3 : (4000 : Int) < nn + (x.length : Int)
    ·go_wp2_with fail
     go_ret
     exact ⟨true, rfl, (fun h => by cases h), rfl⟩
    go_wp2_with fail
    go_round
    case rel => exact ⟨j + 1, nn + x.length, by omega, by go_num, rfl, by omega, by omega, Lib.hid (fun i q hi hq => by
     rcases Nat.lt_succ_iff_lt_or_eq.1 hi with h | rfl
     ·exact HB.out i q h hq
     ·rw [HQ.out] at hq; cases hq; exact (by omega : p.length ≤ 100))⟩
    case measure => simp [intOf]; omega
   ·have hltz : ¬ (j : Int) < (fs.length : Int) := by omega
    go_wp2_with fail
    go_ret
    refine ⟨false, rfl, fun _ => ⟨HM.out, fun q hq => ?_⟩, rfl⟩
    obtain ⟨i, hi⟩ := List.getElem?_of_mem hq
    exact HB.out i q (by have := (List.getElem?_eq_some_iff.1 hi).1; omega) hi

set_option maxRecDepth 100000 in
set_option maxHeartbeats 6000000 in
theorem fileTree3_any (w : World) (P : Nat → Addr) (v : Value) (fs : FL) (hv : RdS 2 encF w v fs) (hl : fs.length ≤ 1000) (hp : ∀ q ∈ fs, q.1.length ≤ 100) (hs : Errs w P [1, 3, 6, 7]) (hm : HasMax w) :
  Calls Tryz.prog 62 #[v] w (RetFT fs w) := by
 obtain ⟨a, cap, rfl, _, _, hc⟩ := hv
 have HC := Lib.hid hc
 have HP := Lib.hid hp
 have HS := Lib.hid hs
 have HMX := Lib.hid hm
 have HF := Lib.hid (ftree_of hp)
 clear hc hp hs hm
 go_enter Tryz.func62, Tryz.ntmps62
 go_wp2_with fail
 refine (treeNew_any w).mono ?_
 rintro e w2 ⟨rfl, ht, ho, hsz⟩
 have HT := Lib.hid ht
 have HO := Lib.hid ho
 have HZ := Lib.hid hsz
 clear ht ho hsz
 have HJ : Hid (TT w (w2.alloc (.cells #[.slice none 0 0] 147 (0, 0))) (w.heap.size + 1) w.heap.size w2.heap.size (.slice none 0 0) [] []) := Lib.hid
  ⟨HO.out.thenAlloc _, Nat.le_succ _, Nat.le_refl _, HO.out.size, HT.out.ext (Only.alloc _ _ _), ⟨(MapKept.heap_alloc w2 _).1, World.ownsRow_nil _ _ _ _⟩⟩
 obtain ⟨b, hb⟩ : ∃ b, b = w.heap.size + 1 := ⟨_, rfl⟩
 obtain ⟨mb, hmb⟩ : ∃ mb, mb = w.heap.size := ⟨_, rfl⟩
 obtain ⟨m, hmm⟩ : ∃ m, m = w2.heap.size := ⟨_, rfl⟩
 rw [← hb, ← hmb, ← hmm] at HJ
 rw [← hb]
 clear hb hmb HT HO HZ
 go_wp2_with fail
 rw [← hmm]
 generalize (w2.alloc (.cells #[.slice none 0 0] 147 (0, 0))) = w3 at HJ ⊢
 clear hmm
 go_loopw [6] (fun i wr => ∃ (j : Nat) (slv : Value), j ≤ fs.length ∧ i = .int .i64 j ∧ Hid (TT w wr b mb m slv (treeOfF (fs.take j)) (treeOfF (fs.take j)))) (fun i _ => fs.length - (intOf i).toNat)
 case atStart => exact ⟨0, _, Nat.zero_le _, rfl, HJ⟩
 case round =>
  clear HJ
  obtain ⟨j, slv, hj, rfl, HI⟩ := hrel
  by_cases hlt : j < fs.length
  ·have hltz : (j : Int) < (fs.length : Int) := by omega
   have hj0 : (0 : Int) ≤ (j : Int) := by omega
   obtain ⟨b0, off0, rfl, hcell⟩ := HC.out (by intro h; rw [h] at hlt; simp at hlt)
   obtain ⟨⟨p, x⟩, hq⟩ : ∃ y, fs[j]? = some y := ⟨_, List.getElem?_eq_getElem hlt⟩
   have HD1 : Hid (w.cell? ⟨b0, off0 + j * 2, none⟩ = some (S p)) := Lib.hid (hcell j _ hq 0 _ rfl)
   have HD2 : Hid (w.cell? ⟨b0, off0 + j * 2 + 1, none⟩ = some (S x)) := Lib.hid (hcell j _ hq 1 _ rfl)
   have d1 := HI.out.ext.cellOf HD1.out (fun h => h)
   have d2 := HI.out.ext.cellOf HD2.out (fun h => h)
   have HPL : Hid (p.length ≤ 1000) := Lib.hid (by have := HP.out _ (List.mem_of_getElem? hq); simp only at this; omega)
   have HST := Lib.hid (treeOfF_step hq)
   have HFJ := Lib.hid (HF.out j)
   clear hcell hq
   generalize treeOfF (fs.take j) = L at HI HST HFJ
   go_wp2_with fail
   go_region_held3 (fun w' => w'.cell? ⟨b0, off0 + j * 2, none⟩ = some (S p) ∧ w'.cell? ⟨b0, off0 + j * 2 + 1, none⟩ = some (S x)) (first | exact ⟨HT.out.ext.cellOf HD1.out (fun h => h), HT.out.ext.cellOf HD2.out (fun h => h)⟩ | exact ⟨d1, d2⟩ | go_keep)
    ((go_at_call 38; refine (TT.putF (w0 := w) (b := b) (mb := mb) (m := m) (slv := slv) (LT := L) (LM := L) (P := P) (by first | exact HI.out | exact HI.out.later (Only.drew _ _) | exact HI.out.later (Only.drewN _ _ _)) HFJ.out HS.out HMX.out p x HPL.out).mono ?_; rintro e w5 ⟨rfl, hT⟩; have HT := Lib.hid hT; clear hT))
   all_goals
    have e1 := HT.out.ext.cellOf HD1.out (fun h => h)
    have e2 := HT.out.ext.cellOf HD2.out (fun h => h)
    clear d1 d2
    go_wp2_with fail
    go_region_held3 (fun w' => w'.cell? ⟨b0, off0 + j * 2, none⟩ = some (S p) ∧ w'.cell? ⟨b0, off0 + j * 2 + 1, none⟩ = some (S x)) (first | exact ⟨HT2.out.ext.cellOf HD1.out (fun h => h), HT2.out.ext.cellOf HD2.out (fun h => h)⟩ | exact ⟨e1, e2⟩ | go_keep)
     ((go_at_call 30; refine (TT.putMF (w0 := w) (b := b) (mb := mb) (m := m) (slv := slv) (LT := putT L p x) (LM := L) (by first | exact HT.out | exact HT.out.later (Only.drew _ _) | exact HT.out.later (Only.drewN _ _ _)) HFJ.out p x HPL.out).mono ?_; rintro e w6 ⟨slv2, rfl, hT⟩; have HT2 := Lib.hid hT; clear hT))
    all_goals
     go_wp2_with fail
     go_roundw
     case rel => exact ⟨j + 1, _, by omega, by go_num, by rw [HST.out]; exact HT2⟩
     case measure => simp [intOf]; omega
  ·have hltz : ¬ (j : Int) < (fs.length : Int) := by omega
   rw [List.take_of_length_le (by omega)] at HI
   go_wp2_with fail
   go_ret2
   exact ⟨_, _, _, _, rfl, HI.out⟩
end Go.Proofs.YtnmhaipjfpongacGreatDoor

namespace Go.Proofs.YtnmhaipjfpongacGreatDoor
open Go.ChangeShapes Go.WideShapes Go.ChangeAt Go.RowKit

theorem open_nums64 {H : Type} {enc : TypeId × Value → H} {w : World} {base : Nat} {spare : Nat → Bool} {held : Bool} {fuel : Nat} {a : Option Addr} {len cap : Nat} {x : DataW H × List MemPlace}
  (h : DataW.trod enc Tryz.prog w base spare held fuel 46 [.slice a len cap] = some x) (_hr : ∀ n ∈ x.1.weights Tryz.prog 46, n ≤ 140737488351232) :
  ∃ l : List Int, l.length = len ∧ Rd I w (.slice a len cap) l ∧ ∀ p ∈ l, In64 p := by
 rcases Go.ChangeShapes.open_ints Tryz.underlying46 Tryz.underlying3 (by kernel_rfl) h with ⟨h0, _⟩ | ⟨ad, len', cap', zs, hcs, _, hl, hm, hzl, _, hcell, hwf⟩
 ·cases h0
  exact ⟨[], rfl, Rd.nil _ _, fun p hp => (by cases hp)⟩
 ·cases hcs
  have hzn : len ≤ zs.length := by rw [hzl]; split <;> omega
  have hlen : (zs.take len).length = len := by rw [List.length_take]; omega
  refine ⟨zs.take len, hlen, ⟨some ad, cap, by rw [hlen], by rw [hlen]; exact hl, hm, fun hne => ?_⟩, fun p hp => (Lit.wf_int_iff .i64 p).1 (hwf p (List.mem_of_mem_take hp))⟩
  have hpos : 0 < len := by
   rcases Nat.eq_zero_or_pos len with h | h
   ·subst h; simp at hne
   ·exact h
  obtain ⟨b, off, spot⟩ := ad
  have hs : spot = none := by
   have := hcell 0 (by omega)
   simpa [Addr.add] using World.cell?_spot this
  subst hs
  refine ⟨b, off, rfl, fun i y hx => ?_⟩
  have hlt : i < len := by have := (List.getElem?_eq_some_iff.1 hx).1; omega
  have h1 := hcell i (by omega)
  have he : zs.getD i 0 = y := by
   rw [List.getElem?_take_of_lt hlt] at hx
   rw [List.getD_eq_getElem?_getD, hx]
   rfl
  rw [he] at h1
  rw [addr_addR] at h1
  exact h1
end Go.Proofs.YtnmhaipjfpongacGreatDoor

/- Texts of this seat laid together for one claim: Z27. No condition of its own: what each proves stands with its theorems. -/
import Derived.Test.YtnmhaipjfpongabGreatDoorPS41
import Derived.Test.YtnmhaipjfpongabGreatDoorPS42
namespace Go.Proofs.YtnmhaipjfpongabGreatDoor
open Go.ChangeShapes Go.WideShapes Go.ChangeAt Go.RowKit

def sizeP (p : Int) : Nat := if p = -9223372036854775808 then 0 else p.natAbs
def In64 (p : Int) : Prop := -9223372036854775808 ≤ p ∧ p ≤ 9223372036854775807

set_option maxRecDepth 100000 in
set_option maxHeartbeats 2000000 in
theorem pickSize_any (w : World) (p : Int) (h : In64 p) : Calls Tryz.prog 141 #[I p] w (RetS (I (sizeP p)) w) := by
 obtain ⟨h1, h2⟩ := h
 by_cases hm : p = -9223372036854775808
 ·have hs : sizeP p = 0 := if_pos hm
  rw [hs]
  subst hm
  go_enter Tryz.func141, Tryz.ntmps141
  go_wp2_with fail
  go_ret
  exact ⟨rfl, rfl⟩
 ·have hs : ((sizeP p : Nat) : Int) = if p < 0 then -p else p := by
   unfold sizeP
   rw [if_neg hm]
   split <;> omega
  rw [hs]
  by_cases hn : p < 0
  ·rw [if_pos hn]
   have hb : -p ≤ 9223372036854775807 := by omega
   go_enter Tryz.func141, Tryz.ntmps141
   go_wp2_with fail
   go_ret
   exact ⟨rfl, rfl⟩
  ·rw [if_neg hn]
   go_enter Tryz.func141, Tryz.ntmps141
   go_wp2_with fail
   go_ret
   exact ⟨rfl, rfl⟩

structure KeepsOwn {σ : Type} (A : World → σ → Prop) (own : Nat → Prop) (lo : Nat) (bs : σ → BS) (step : σ → Nat → σ) (P : Nat → Addr) (base : Nat) (E : BE) (K : BK) : Prop where
 bld : ∀ w x, A w x → BldAt w P base E K (bs x) ∧ BInv E (bs x)
 size : ∀ w x, A w x → lo ≤ w.heap.size
 other : ∀ w x w' (q : Nat → Prop), A w x → Only q w w' → (∀ i, q i → ¬ own i ∧ lo ≤ i) → A w' x
 run : ∀ w x, A w x → ∀ i ∈ E.sm, readyP E (bs x) i = true → Calls Tryz.prog 58 #[PTR K.b, IN i] w (fun e w' => ∃ b, e = .returned (.tuple #[.bool b, .nilIface]) ∧ A w' (step x i) ∧ Only own w w')
 ran : ∀ x i, i ∈ E.sm → readyP E (bs x) i = true → ∀ k, ranP (bs (step x i)) k = (decide (k = i) || ranP (bs x) k)
inductive PicksTo {σ : Type} (E : BE) (bs : σ → BS) (step : σ → Nat → σ) : List Int → σ → List Nat → σ → Prop
 | nil (x : σ) : PicksTo E bs step [] x [] x
 | skip {p : Int} {ps : List Int} {x y : σ} {o : List Nat} : readyL E (bs x) = [] → PicksTo E bs step ps x o y → PicksTo E bs step (p :: ps) x o y
 | pick {p : Int} {ps : List Int} {x y : σ} {o : List Nat} {k : Nat} : (readyL E (bs x))[sizeP p % (readyL E (bs x)).length]? = some k → PicksTo E bs step ps (step x k) o y → PicksTo E bs step (p :: ps) x (k :: o) y
inductive AllOut {σ : Type} (E : BE) (bs : σ → BS) (step : σ → Nat → σ) : σ → List Nat → σ → Prop
 | stop {x : σ} : readyL E (bs x) = [] → AllOut E bs step x [] x
 | more {x y : σ} {o : List Nat} {i : Nat} {R : List Nat} : readyL E (bs x) = i :: R → AllOut E bs step (step x i) o y → AllOut E bs step x (i :: o) y
def RetPick {σ : Type} (A : World → σ → Prop) (bs : σ → BS) (step : σ → Nat → σ) (E : BE) (picks : List Int) (x0 : σ) (w : World) (e : Ending) (w' : World) : Prop :=
 ∃ v o1 o2 x1 y, e = .returned (.tuple #[v, .nilIface]) ∧ RowI w.heap.size w' v (o1 ++ o2) ∧ A w' y ∧ PicksTo E bs step picks x0 o1 x1 ∧ AllOut E bs step x1 o2 y

set_option maxRecDepth 100000 in
set_option maxHeartbeats 8000000 in
theorem pickRun_any {σ : Type} (A : World → σ → Prop) (own : Nat → Prop) (lo : Nat) (bs : σ → BS) (step : σ → Nat → σ) (P : Nat → Addr) (base : Nat) (E : BE) (K : BK) (o : List Nat) (is : Nat → Bool) (w : World) (x0 : σ) (picks : List Int) (v : Value) (hA : KeepsOwn A own lo bs step P base E K) (h : A w x0) (hW : BWell E o is) (hL : BLens E) (hP : ∀ w x, A w x → Rd I w v picks) (hp64 : ∀ p ∈ picks, In64 p) (hpl : picks.length ≤ 3000) (hlo : ∀ i, own i → i < w.heap.size) :
  Calls Tryz.prog 82 #[PTR K.b, v] w (RetPick A bs step E picks x0 w) := by
 have HA := Lib.hid hA
 have H0 := Lib.hid h
 have HW := Lib.hid hW
 have HL := Lib.hid hL
 have H64 := Lib.hid hp64
 have HLO := Lib.hid hlo
 obtain ⟨a, cap, rfl, hcap, hm, _⟩ := hP w x0 h
 have HC := Lib.hid (fun w x (h : A w x) => (show picks ≠ [] → ∃ b off, a = some ⟨b, off, none⟩ ∧ ∀ (i : Nat) (y : Int), picks[i]? = some y → w.cell? ⟨b, off + i, none⟩ = some (I y) from by
  obtain ⟨a', c', e, _, _, hc⟩ := hP w x h
  cases e
  exact hc))
 have hplz : (picks.length : Int) ≤ 3000 := by omega
 have hmin : min (picks.length : Int) 3000 = (picks.length : Int) := by omega
 have hminn : min picks.length 3000 = picks.length := by omega
 have hcz : (picks.length : Int) ≤ (cap : Int) := by omega
 obtain ⟨ws, hws⟩ : ∃ ws, ws = w.heap.size := ⟨_, rfl⟩
 have HWS : Hid (ws = w.heap.size) := Lib.hid hws
 have HLW : Hid (lo ≤ ws) := Lib.hid (by rw [hws]; exact hA.size w x0 h)
 clear hA h hW hL hP hp64 hlo hws
 go_enter Tryz.func82, Tryz.ntmps82
 go_wp2_with fail
 have HA0 := H0
 go_loopw [6, 8, 9, 10, 21] (fun q _ _ _ i wr => ∃ (j : Nat) (x : σ) (out : List Nat) (qv : Value), qv = q ∧ j ≤ picks.length ∧ i = .int .i64 j ∧ Hid (A wr x) ∧ Hid (RowI ws wr qv out) ∧ Hid (ws ≤ wr.heap.size) ∧ Hid (out.length ≤ ranN E (bs x)) ∧ Hid (∀ o' y, PicksTo E bs step (picks.drop j) x o' y → PicksTo E bs step picks x0 (out ++ o') y)) (fun _ _ _ _ i _ => picks.length - (intOf i).toNat)
 case atStart => exact ⟨0, x0, [], _, rfl, Nat.zero_le _, rfl, HA0, Lib.hid (RowI.nil _ _), Lib.hid (by rw [HWS.out]; exact Nat.le_refl _), Lib.hid (Nat.zero_le _), Lib.hid (fun o' y h => by simpa using h)⟩
 case round =>
  clear HA0 H0
  obtain ⟨j, x, out, qv, rfl, hj, rfl, HAX, HR, HSZ, HLN, HTO⟩ := hrel
  by_cases hlt : j < picks.length
  ·have hltz : (j : Int) < (picks.length : Int) := by omega
   have hj0 : (0 : Int) ≤ (j : Int) := by omega
   have hj1 : ¬ (j : Int) < 0 := by omega
   have hj2 : ¬ (picks.length : Int) ≤ (j : Int) := by omega
   obtain ⟨b, off, rfl, hcell⟩ := HC.out _ _ HAX.out (by intro h; rw [h] at hlt; simp at hlt)
   obtain ⟨p, hp⟩ : ∃ y, picks[j]? = some y := ⟨_, List.getElem?_eq_getElem hlt⟩
   have d0 := hcell j p hp
   have HDR : Hid (picks.drop j = p :: picks.drop (j + 1)) := Lib.hid (by rw [List.drop_eq_getElem_cons hlt]; rw [(List.getElem?_eq_some_iff.1 hp).2])
   have HP64 := Lib.hid (H64.out p (List.mem_of_getElem? hp))
   have HLT := Lib.hid hlt
   have HRL := Lib.hid (readyL_any (HA.out.bld _ _ HAX.out).1 HW.out HL.out.many HL.out.few)
   obtain ⟨R, hR⟩ : ∃ R, R = readyL E (bs x) := ⟨_, rfl⟩
   rw [← hR] at HRL
   have HRQ := Lib.hid hR
   clear hcell hp hlt hR
   go_wp2_with fail
   refine HRL.out.mono ?_
   rintro e w7 ⟨v7, rfl, hr7, ho7⟩
   have HAX7 := Lib.hid (HA.out.other _ _ _ (fun _ => False) HAX.out ho7 (fun _ h => h.elim))
   have HR7 := Lib.hid (HR.out.ext ho7)
   have HSZ7 : Hid (ws ≤ w7.heap.size) := Lib.hid (Nat.le_trans HSZ.out ho7.size)
   obtain ⟨a7, p7, rfl, _, hm7, hc7⟩ := hr7.rd
   have HC7 := Lib.hid hc7
   have hRl : R.length ≤ 1000 := by
    rw [HRQ.out]
    have h1 := List.length_filter_le (readyP E (bs x)) E.sm
    have h2 := HL.out.few
    unfold readyL
    omega
   have hRlz : (R.length : Int) ≤ 1000 := by omega
   clear hr7 ho7 hm7 hc7 HAX HR HSZ HRL d0
   by_cases h0 : R.length = 0
   ·have hRz : ¬ (0 : Int) < (R.length : Int) := by omega
    have HTO2 : Hid (∀ o' y, PicksTo E bs step (picks.drop (j + 1)) x o' y → PicksTo E bs step picks x0 (out ++ o') y) := Lib.hid (fun o' y h => HTO.out o' y (by
     rw [HDR.out]
     exact .skip (by rw [← HRQ.out]; exact List.eq_nil_of_length_eq_zero h0) h))
    clear h0
    go_wp2_with fail
    go_roundw
    case rel => exact ⟨j + 1, x, out, _, rfl, HLT.out, by go_num, HAX7, HR7, HSZ7, HLN, HTO2⟩
    case measure => have := HLT.out; simp [intOf]; omega
   ·have hRz : (0 : Int) < (R.length : Int) := by omega
    obtain ⟨m, hm⟩ : ∃ m, m = sizeP p % R.length := ⟨_, rfl⟩
    have hml : m < R.length := by rw [hm]; exact Nat.mod_lt _ (by omega)
    have hmod : ((sizeP p : Nat) : Int).tmod (R.length : Int) = (m : Int) := by rw [hm]; exact (Int.ofNat_tmod (sizeP p) R.length).symm
    have hmz : (m : Int) < (R.length : Int) := by omega
    have hm0 : (0 : Int) ≤ (m : Int) := by omega
    have hm1 : ¬ (m : Int) < 0 := by omega
    have hm2 : ¬ (R.length : Int) ≤ (m : Int) := by omega
    have hRne : ((R.length : Int) == 0) = false := beq_eq_false_iff_ne.2 (by omega)
    have hRne2 : ¬ (R.length : Int) = 0 := by omega
    obtain ⟨b7, off7, rfl, hcell7⟩ := HC7.out (by intro h; rw [h] at h0; simp at h0)
    obtain ⟨k, hk⟩ : ∃ y, R[m]? = some y := ⟨_, List.getElem?_eq_getElem hml⟩
    have d7 := hcell7 m k hk
    have hkr : k ∈ readyL E (bs x) := by rw [← HRQ.out]; exact List.mem_of_getElem? hk
    obtain ⟨hkm, hkp⟩ := List.mem_filter.1 hkr
    have HTO2 : Hid (∀ o' y, PicksTo E bs step (picks.drop (j + 1)) (step x k) o' y → PicksTo E bs step picks x0 ((out ++ [k]) ++ o') y) := Lib.hid (fun o' y h => by
     rw [List.append_assoc]
     refine HTO.out (k :: o') y ?_
     rw [HDR.out]
     exact .pick (by rw [← HRQ.out, ← hm]; exact hk) h)
    have HLN2 : Hid ((out ++ [k]).length ≤ ranN E (bs (step x k))) := Lib.hid (by
     have := ranN_more HW.out.nodup hkm (ready_not_ran hkp) (HA.out.ran x k hkm hkp)
     have := HLN.out
     rw [List.length_append]
     simp
     omega)
    have HSP := Lib.hid (fun w8 => pickSize_any w8 p HP64.out)
    have HRUN := Lib.hid (HA.out.run w7 x HAX7.out k hkm hkp)
    have hol : out.length ≤ 1000000 := by
     have := HLN.out
     have := ranN_le E (bs x)
     have := HL.out.few
     omega
    have HOL := Lib.hid hol
    clear hm hcell7 hk hkr hkm hkp h0 hol hml
    go_wp2_with fail
    refine (HSP.out _).mono ?_
    rintro e w8 ⟨rfl, rfl⟩
    go_wp2_with fail
    refine HRUN.out.mono ?_
    rintro e w9 ⟨bb, rfl, hA9, ho9⟩
    have HAX9 := Lib.hid hA9
    have HR9 : Hid (RowI ws w9 qv out) := Lib.hid (ho9.row HR7.out (fun i e hi => by have := HR7.out.base i e; have := HLO.out i hi; have := HWS.out; omega))
    have HSZ9 : Hid (ws ≤ w9.heap.size) := Lib.hid (Nat.le_trans HSZ7.out ho9.size)
    clear hA9 ho9 d7 HRUN
    go_wp2_with (at_builtin; refine wpNum2 rfl (.tmp 44) (.tmp 46) ws _ out k w9 rfl rfl rfl rfl HR9.out HOL.out HSZ9.out ?_; intro g5 cap5 w5 HR5 HG5 _; have HAX5 := Lib.hid (HA.out.other _ _ _ _ HAX9.out (Only.of_grown HG5.out) (fun i e => ⟨fun hi => by have := HR9.out.base i e; have := HLO.out i hi; have := HWS.out; omega, by have := HR9.out.base i e; have := HLW.out; omega⟩)); have HSZ5 : Hid (ws ≤ w5.heap.size) := Lib.hid (Nat.le_trans HSZ9.out (Only.of_grown HG5.out).size))
    go_roundw
    case rel => exact ⟨j + 1, step x k, out ++ [k], _, rfl, HLT.out, by go_num, HAX5, HR5, HSZ5, HLN2, HTO2⟩
    case measure => have := HLT.out; simp [intOf]; omega
  ·have hltz : ¬ (j : Int) < (picks.length : Int) := by omega
   have HP1 : Hid (PicksTo E bs step picks x0 out x) := Lib.hid (by
    have h := HTO.out [] x (by rw [List.drop_of_length_le (by omega)]; exact .nil x)
    simpa using h)
   clear hlt hj HTO
   have HRL := Lib.hid (readyL_any (HA.out.bld _ _ HAX.out).1 HW.out HL.out.many HL.out.few)
   go_wp2_with fail
   refine HRL.out.mono ?_
   rintro e w7 ⟨v7, rfl, hr7, ho7⟩
   have HAX7 := Lib.hid (HA.out.other _ _ _ (fun _ => False) HAX.out ho7 (fun _ h => h.elim))
   have HR7 := Lib.hid (HR.out.ext ho7)
   have HSZ7 : Hid (ws ≤ w7.heap.size) := Lib.hid (Nat.le_trans HSZ.out ho7.size)
   have HQ7 : Hid (RowI ws w7 v7 (readyL E (bs x))) := Lib.hid (hr7.down HSZ.out)
   clear hr7 ho7 HAX HR HSZ HRL
   obtain ⟨o1, ho1⟩ : ∃ o1, o1 = out := ⟨_, rfl⟩
   rw [← ho1] at HP1
   have HO1 : Hid (out = o1 ++ []) := Lib.hid (by rw [ho1]; simp)
   obtain ⟨x1, hx1⟩ : ∃ x1, x1 = x := ⟨_, rfl⟩
   rw [← hx1] at HP1
   have HTA : Hid (∀ o' y, AllOut E bs step x o' y → AllOut E bs step x1 ([] ++ o') y) := Lib.hid (fun o' y h => by rw [hx1]; simpa using h)
   clear ho1 hx1
   go_wp2_with fail
   go_loopg [6, 11] (E.sm.length - ranN E (bs x)) (fun g q l wr => ∃ (x : σ) (out o2 : List Nat) (qv lv : Value), qv = q ∧ lv = l ∧ E.sm.length - ranN E (bs x) = g ∧ Hid (A wr x) ∧ Hid (RowI ws wr qv out) ∧ Hid (RowI ws wr lv (readyL E (bs x))) ∧ Hid (ws ≤ wr.heap.size) ∧ Hid (out.length ≤ ranN E (bs x)) ∧ Hid (out = o1 ++ o2) ∧ Hid (∀ o' y, AllOut E bs step x o' y → AllOut E bs step x1 (o2 ++ o') y))
   case atStart => exact ⟨x, out, [], _, _, rfl, rfl, rfl, HAX7, HR7, HQ7, HSZ7, HLN, HO1, HTA⟩
   case round =>
    clear HAX7 HR7 HQ7 HSZ7 HLN HO1 HTA
    obtain ⟨x, out, o2, qv, lv, rfl, rfl, hg, HAX, HR, HQ, HSZ, HLN, HO1, HTA⟩ := hrel
    have HG := Lib.hid hg
    obtain ⟨R, hR⟩ : ∃ R, R = readyL E (bs x) := ⟨_, rfl⟩
    rw [← hR] at HQ
    have HRQ := Lib.hid hR
    clear hg hR
    obtain ⟨a7, p7, rfl, _, _, hc7⟩ := HQ.out.rd
    rcases R with _ | ⟨k, R⟩
    ·have hlz : ¬ (0 : Int) < (([] : List Nat).length : Int) := by simp
     have HE := Lib.hid (HTA.out [] x (.stop HRQ.out.symm))
     clear hc7
     go_wp2_with fail
     go_ret2
     refine ⟨_, o1, o2 ++ [], x1, x, rfl, ?_, HAX.out, HP1.out, HE.out⟩
     rw [List.append_nil, ← HO1.out]
     exact HR.out.down (by rw [HWS.out]; exact Nat.le_refl _)
    ·obtain ⟨b7, off7, rfl, hcell7⟩ := hc7 (by simp)
     have d7 := hcell7 0 k rfl
     rw [Nat.add_zero] at d7
     have hkr : k ∈ readyL E (bs x) := by rw [← HRQ.out]; exact .head _
     obtain ⟨hkm, hkp⟩ := List.mem_filter.1 hkr
     have hrm := ranN_more HW.out.nodup hkm (ready_not_ran hkp) (HA.out.ran x k hkm hkp)
     have hrl := ranN_le E (bs (step x k))
     have HME : Hid (E.sm.length - ranN E (bs (step x k)) < E.sm.length - ranN E (bs x)) := Lib.hid (by omega)
     have HLN2 : Hid ((out ++ [k]).length ≤ ranN E (bs (step x k))) := Lib.hid (by
      have := HLN.out
      rw [List.length_append]
      simp
      omega)
     have HTA2 : Hid (∀ o' y, AllOut E bs step (step x k) o' y → AllOut E bs step x1 ((o2 ++ [k]) ++ o') y) := Lib.hid (fun o' y h => by
      rw [List.append_assoc]
      exact HTA.out (k :: o') y (.more HRQ.out.symm h))
     have HO2 : Hid (out ++ [k] = o1 ++ (o2 ++ [k])) := Lib.hid (by rw [HO1.out, List.append_assoc])
     have HRUN := Lib.hid (HA.out.run wr x HAX.out k hkm hkp)
     have hol : out.length ≤ 1000000 := by
      have := HLN.out
      have := ranN_le E (bs x)
      have := HL.out.few
      omega
     have HOL := Lib.hid hol
     have hlz : (0 : Int) < ((k :: R).length : Int) := by simp
     have HCQ := Lib.hid HQ.out
     clear hcell7 hkr hkm hkp hrm hrl hol
     go_wp2_with fail
     refine HRUN.out.mono ?_
     rintro e w9 ⟨bb, rfl, hA9, ho9⟩
     have HAX9 := Lib.hid hA9
     have HR9 : Hid (RowI ws w9 qv out) := Lib.hid (ho9.row HR.out (fun i e hi => by have := HR.out.base i e; have := HLO.out i hi; have := HWS.out; omega))
     have HSZ9 : Hid (ws ≤ w9.heap.size) := Lib.hid (Nat.le_trans HSZ.out ho9.size)
     have d9 := ho9.cellOf d7 (fun hi => by have h1 := HCQ.out.base b7 rfl; have h2 : b7 < w.heap.size := HLO.out b7 hi; have := HWS.out; omega)
     clear hA9 ho9 d7 HRUN
     go_wp2_with (at_builtin; refine wpNum2 rfl (.tmp 64) (.tmp 68) ws _ out k w9 rfl rfl rfl rfl HR9.out HOL.out HSZ9.out ?_; intro g5 cap5 w5 HR5 HG5 _; have HAX5 := Lib.hid (HA.out.other _ _ _ _ HAX9.out (Only.of_grown HG5.out) (fun i e => ⟨fun hi => by have := HR9.out.base i e; have := HLO.out i hi; have := HWS.out; omega, by have := HR9.out.base i e; have := HLW.out; omega⟩)); have HSZ5 : Hid (ws ≤ w5.heap.size) := Lib.hid (Nat.le_trans HSZ9.out (Only.of_grown HG5.out).size))
     have HRL := Lib.hid (readyL_any (HA.out.bld _ _ HAX5.out).1 HW.out HL.out.many HL.out.few)
     clear d9
     go_wp2_with fail
     refine HRL.out.mono ?_
     rintro e w7 ⟨v7, rfl, hr7, ho7⟩
     have HAX7 := Lib.hid (HA.out.other _ _ _ (fun _ => False) HAX5.out ho7 (fun _ h => h.elim))
     have HR7 := Lib.hid (HR5.out.ext ho7)
     have HSZ7 : Hid (ws ≤ w7.heap.size) := Lib.hid (Nat.le_trans HSZ5.out ho7.size)
     have HQ7 : Hid (RowI ws w7 v7 (readyL E (bs (step x k)))) := Lib.hid (hr7.down HSZ5.out)
     clear hr7 ho7
     go_wp2_with fail
     go_roundg (E.sm.length - ranN E (bs (step x k)))
     case measure => rw [← HG.out]; exact HME.out
     case rel => exact ⟨step x k, out ++ [k], o2 ++ [k], _, _, rfl, rfl, rfl, HAX7, HR7, HQ7, HSZ7, HLN2, HO2, HTA2⟩
end Go.Proofs.YtnmhaipjfpongabGreatDoor

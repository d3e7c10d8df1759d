/- Texts of this seat laid together for one claim: J2, J3, G4. No condition of its own: what each proves stands with its theorems. -/
import Derived.BigQuiet
import Derived.Test.YtnmhaipjfpongacGreatDoorSA13
import Derived.Test.YtnmhaipjfpongacGreatDoorSA12
import Derived.Test.YtnmhaipjfpongacGreatDoorSA4
import Derived.Test.YtnmhaipjfpongacGreatDoorSA17
namespace Go.Proofs.YtnmhaipjfpongacGreatDoor
open Go.ChangeShapes Go.WideShapes Go.ChangeAt Go.RowKit

structure PV (w : World) (P : Nat → Addr) (L : List Nat) : Prop where
 errs : Errs w P L
 max : HasMax w
 atoi : AtoiVars w
 pow : Pow w
theorem PV.ext {w w' : World} {P : Nat → Addr} {L : List Nat} (h : PV w P L) (ho : Ext w w') : PV w' P L := ⟨h.errs.ext ho, h.max.ext ho, h.atoi.ext ho, h.pow.ext ho⟩
theorem PV.sub {w : World} {P : Nat → Addr} {L K : List Nat} (h : PV w P L) (hk : ∀ i ∈ K, i ∈ L) : PV w P K := ⟨h.errs.sub hk, h.max, h.atoi, h.pow⟩
theorem PV.act {w : World} {P : Nat → Addr} {L : List Nat} (h : PV w P L) (hk : ∀ i ∈ [2, 4, 9], i ∈ L) : ActVars w P := ⟨h.errs.sub hk, h.max, h.atoi, h.pow⟩

def RetS (v : Value) (w : World) (e : Ending) (w' : World) : Prop := e = .returned v ∧ w = w'

set_option maxHeartbeats 1000000 in
theorem indexT_any (w : World) (v : Value) (l : List B) (x : B) (hv : Rd S w v l) : Calls Tryz.prog 277 #[v, S x] w (RetS (I (idx (fun y => x == y) l)) w) := by
 obtain ⟨a, cap, rfl, hcap, hm, hc⟩ := hv
 have hm' : l.length ≤ 9223372036854775807 := by unfold maxLen at hm; omega
 obtain ⟨R, hR⟩ : ∃ R, Hid (R = idx (fun y => x == y) l) := ⟨_, Lib.hid rfl⟩
 rw [← hR.out]
 clear hm
 have HC := Lib.hid hc
 clear hc
 go_enter Tryz.func277, Tryz.ntmps277
 go_wp2
 go_loop [8] (fun i => ∃ k : Nat, k ≤ l.length ∧ i = .int .i64 k ∧ Hid (∀ j y, j < k → l[j]? = some y → (x == y) = false)) (fun i => l.length + 1 - (intOf i).toNat)
 case atStart => exact ⟨0, Nat.zero_le _, rfl, Lib.hid (fun j x h => absurd h (Nat.not_lt_zero _))⟩
 case round =>
  obtain ⟨k, hk, rfl, HB⟩ := hrel
  by_cases hlt : k < l.length
  ·obtain ⟨b, off, rfl, hcell⟩ := HC.out (by intro h; rw [h] at hlt; simp at hlt)
   obtain ⟨y, hy⟩ : ∃ y, l[k]? = some y := ⟨_, List.getElem?_eq_getElem hlt⟩
   have d0 := hcell k y hy
   have HY := Lib.hid hy
   clear hcell hy
   cases hq : x == y with
   | false =>
    go_wp2
    have HQ := Lib.hid hq
    go_round
    case rel => exact ⟨k + 1, by omega, by go_num, Lib.hid (fun j z hj hz => by
     rcases Nat.lt_succ_iff_lt_or_eq.1 hj with h | rfl
     ·exact HB.out j z h hz
     ·rw [HY.out] at hz; cases hz; exact HQ.out)⟩
    case measure => simp [intOf]; omega
   | true =>
    have HK := Lib.hid (idx_hit HY.out hq HB.out)
    go_wp2
    go_ret
    exact ⟨by rw [hR.out, HK.out]; rfl, rfl⟩
  ·have HK := Lib.hid (idx_none (p := fun y => x == y) (l := l) fun j y hy => HB.out j y (by have := (List.getElem?_eq_some_iff.1 hy).1; omega) hy)
   go_wp2
   go_ret
   exact ⟨by rw [hR.out, HK.out]; rfl, rfl⟩

theorem containsT_any (w : World) (v : Value) (l : List B) (x : B) (hv : Rd S w v l) : Calls Tryz.prog 210 #[v, S x] w (RetS (.bool (l.any fun y => x == y)) w) := by
 have HI := Lib.hid (indexT_any w v l x hv)
 rw [← idx_any]
 generalize idx (fun y => x == y) l = R at HI ⊢
 obtain ⟨a, cap, rfl, _, _, _⟩ := hv
 go_enter Tryz.func210, Tryz.ntmps210
 go_wp2_with fail
 refine (HI.out).mono ?_
 rintro e w1 ⟨rfl, rfl⟩
 go_wp2_with fail
 go_ret
 exact ⟨rfl, rfl⟩

set_option maxHeartbeats 1000000 in
theorem indexI_any (w : World) (v : Value) (l : List Int) (x : Int) (hv : Rd I w v l) : Calls Tryz.prog 213 #[v, I x] w (RetS (I (idx (fun y => x == y) l)) w) := by
 obtain ⟨a, cap, rfl, hcap, hm, hc⟩ := hv
 have hm' : l.length ≤ 9223372036854775807 := by unfold maxLen at hm; omega
 obtain ⟨R, hR⟩ : ∃ R, Hid (R = idx (fun y => x == y) l) := ⟨_, Lib.hid rfl⟩
 rw [← hR.out]
 clear hm
 have HC := Lib.hid hc
 clear hc
 go_enter Tryz.func213, Tryz.ntmps213
 go_wp2
 go_loop [8] (fun i => ∃ k : Nat, k ≤ l.length ∧ i = .int .i64 k ∧ Hid (∀ j y, j < k → l[j]? = some y → (x == y) = false)) (fun i => l.length + 1 - (intOf i).toNat)
 case atStart => exact ⟨0, Nat.zero_le _, rfl, Lib.hid (fun j x h => absurd h (Nat.not_lt_zero _))⟩
 case round =>
  obtain ⟨k, hk, rfl, HB⟩ := hrel
  by_cases hlt : k < l.length
  ·obtain ⟨b, off, rfl, hcell⟩ := HC.out (by intro h; rw [h] at hlt; simp at hlt)
   obtain ⟨y, hy⟩ : ∃ y, l[k]? = some y := ⟨_, List.getElem?_eq_getElem hlt⟩
   have d0 := hcell k y hy
   have HY := Lib.hid hy
   clear hcell hy
   cases hq : x == y with
   | false =>
    go_wp2
    have HQ := Lib.hid hq
    go_round
    case rel => exact ⟨k + 1, by omega, by go_num, Lib.hid (fun j z hj hz => by
     rcases Nat.lt_succ_iff_lt_or_eq.1 hj with h | rfl
     ·exact HB.out j z h hz
     ·rw [HY.out] at hz; cases hz; exact HQ.out)⟩
    case measure => simp [intOf]; omega
   | true =>
    have HK := Lib.hid (idx_hit HY.out hq HB.out)
    go_wp2
    go_ret
    exact ⟨by rw [hR.out, HK.out]; rfl, rfl⟩
  ·have HK := Lib.hid (idx_none (p := fun y => x == y) (l := l) fun j y hy => HB.out j y (by have := (List.getElem?_eq_some_iff.1 hy).1; omega) hy)
   go_wp2
   go_ret
   exact ⟨by rw [hR.out, HK.out]; rfl, rfl⟩

theorem containsI_any (w : World) (v : Value) (l : List Int) (x : Int) (hv : Rd I w v l) : Calls Tryz.prog 165 #[v, I x] w (RetS (.bool (l.any fun y => x == y)) w) := by
 have HI := Lib.hid (indexI_any w v l x hv)
 rw [← idx_any]
 generalize idx (fun y => x == y) l = R at HI ⊢
 obtain ⟨a, cap, rfl, _, _, _⟩ := hv
 go_enter Tryz.func165, Tryz.ntmps165
 go_wp2_with fail
 refine (HI.out).mono ?_
 rintro e w1 ⟨rfl, rfl⟩
 go_wp2_with fail
 go_ret
 exact ⟨rfl, rfl⟩

theorem pathC_any (w : World) (P : Nat → Addr) (s : B) (hs : s.length ≤ 1000000) (hm : HasMax w) (he : Errs w P [3]) :
  Calls Tryz.prog 112 #[S s] w (RetE (errC P (if pathOk s = false then 4 else 0)) w) := by
 refine (check_any w s (P 3) hs hm (he.var 3 _ (by decide) rfl)).mono ?_
 rintro e w' ⟨rfl, ho⟩
 cases pathOk s
 ·exact ⟨rfl, ho⟩
 ·exact ⟨rfl, ho⟩

theorem take_new {l : List B} {j : Nat} {s : B} (h : l[j]? = some s) (hn : (l.take j).Nodup) (hs : s ∉ l.take j) : (l.take (j + 1)).Nodup := by
 rw [List.take_add_one, h]
 simp only [Option.toList_some]
 exact List.nodup_append.2 ⟨hn, by simp, fun x hx y hy e => hs (by rw [List.mem_singleton] at hy; rw [← hy, ← e]; exact hx)⟩

set_option maxRecDepth 100000 in
set_option maxHeartbeats 4000000 in
theorem ruleCheck_any (w : World) (P : Nat → Addr) (r : Rule) (u : Value) (hu : Rd S w u r.ins) (hs : RuleSm 900000 r) (hV : PV w P [2, 3, 4, 6, 9]) :
  Calls Tryz.prog 157 #[AggR r u] w (RetE (errC P (ruleCode r)) w) := by
 obtain ⟨ot, kd, wd, ins⟩ := r
 obtain ⟨a, cap, rfl, hcap, hm, hc⟩ := hu
 have h1 := fun W (hW : Ext w W) (s : B) (hs : s.length ≤ 900000) => pathC_any W P s (by omega) (hV.max.ext hW) ((hV.errs.ext hW).sub (by decide))
 have h2 := fun W (hW : Ext w W) => actCheck_any W P kd wd ins.length (by have := hs.word; simp at this; omega) ((hV.act (by decide)).ext hW)
 have hol : ot.length ≤ 900000 := hs.out
 have hil : ins.length ≤ 900000 := hs.many
 have hx : ∀ s ∈ ins, s.length ≤ 900000 := hs.ins
 have hilz : (ins.length : Int) ≤ 900000 := by omega
 have HMM := Lib.hid hm
 have H1 := Lib.hid h1
 have H2 := Lib.hid h2
 have HC := Lib.hid hc
 have HX := Lib.hid hx
 have HOL := Lib.hid hol
 have HV := Lib.hid hV
 clear h1 h2 hc hx hol hV
 have hb0 : Ext w (w.alloc (.cells #[S ot, S kd, S wd, .slice a ins.length cap] 55 (0, 0))) := Only.alloc _ _ _
 have HB0 := Lib.hid hb0
 clear hs hm hil hb0
 unfold ruleCode
 simp only
 cases hp : pathOk ot with
 | false =>
  rw [if_pos rfl, show errC P 4 = errV (P 3) from rfl]
  have hC := H1.out _ HB0.out ot HOL.out
  rw [hp, if_pos rfl, show errC P 4 = errV (P 3) from rfl] at hC
  have HCC := Lib.hid hC
  clear hC
  clear hp
  go_enter Tryz.func157, Tryz.ntmps157
  go_wp2_with fail
  refine (HCC.out).mono ?_
  rintro e w1 ⟨rfl, ho⟩
  have HO := Lib.hid (HB0.out.then ho)
  clear ho
  go_wp2_with fail
  go_ret
  exact ⟨rfl, HO.out⟩
 | true =>
  rw [if_neg (by decide)]
  have hC := H1.out _ HB0.out ot HOL.out
  rw [hp, if_neg (by decide), show errC P 0 = .nilIface from rfl] at hC
  have HCC := Lib.hid hC
  clear hC
  clear hp
  cases hq : actCode kd wd ins.length with
  | succ c =>
   rw [hq, show errC P (c + 1) = errV (P c) from rfl] at H2
   rw [if_pos (Nat.succ_ne_zero _), show errC P (c + 1) = errV (P c) from rfl]
   clear hq
   go_enter Tryz.func157, Tryz.ntmps157
   go_wp2_with fail
   refine HCC.out.mono ?_
   rintro e w1 ⟨rfl, ho⟩
   have c1 := ho.cellOf ((cell_of_heap (MapKept.heap_alloc w (.cells #[S ot, S kd, S wd, .slice a ins.length cap] 55 (0, 0))).1 1).trans rfl) (fun h => h)
   have c2 := ho.cellOf ((cell_of_heap (MapKept.heap_alloc w (.cells #[S ot, S kd, S wd, .slice a ins.length cap] 55 (0, 0))).1 2).trans rfl) (fun h => h)
   have c3 := ho.cellOf ((cell_of_heap (MapKept.heap_alloc w (.cells #[S ot, S kd, S wd, .slice a ins.length cap] 55 (0, 0))).1 3).trans rfl) (fun h => h)
   have HO := Lib.hid (HB0.out.then ho)
   clear ho
   go_wp2_with fail
   refine (H2.out w1 HO.out).mono ?_
   rintro e w2 ⟨rfl, ho⟩
   have HO2 := Lib.hid (HO.out.then ho)
   clear ho
   go_wp2_with fail
   go_ret
   exact ⟨rfl, HO2.out⟩
  | zero =>
   rw [hq, show errC P 0 = .nilIface from rfl] at H2
   rw [if_neg (by simp)]
   obtain ⟨R, hR⟩ : ∃ R : Nat, R = if ins.all pathOk = false then 4 else if ot ∈ ins ∨ ¬ ins.Nodup then 7 else 0 := ⟨_, rfl⟩
   rw [← hR]
   have HR := Lib.hid hR
   clear hq hR
   go_enter Tryz.func157, Tryz.ntmps157
   go_wp2_with fail
   refine HCC.out.mono ?_
   rintro e w1 ⟨rfl, ho⟩
   obtain ⟨bx, hbx⟩ : ∃ b, b = w.heap.size := ⟨_, rfl⟩
   have c0 := ho.cellOf ((cell_of_heap (MapKept.heap_alloc w (.cells #[S ot, S kd, S wd, .slice a ins.length cap] 55 (0, 0))).1 0).trans rfl) (fun h => h)
   have c1 := ho.cellOf ((cell_of_heap (MapKept.heap_alloc w (.cells #[S ot, S kd, S wd, .slice a ins.length cap] 55 (0, 0))).1 1).trans rfl) (fun h => h)
   have c2 := ho.cellOf ((cell_of_heap (MapKept.heap_alloc w (.cells #[S ot, S kd, S wd, .slice a ins.length cap] 55 (0, 0))).1 2).trans rfl) (fun h => h)
   have c3 := ho.cellOf ((cell_of_heap (MapKept.heap_alloc w (.cells #[S ot, S kd, S wd, .slice a ins.length cap] 55 (0, 0))).1 3).trans rfl) (fun h => h)
   rw [← hbx] at c0 c1 c2 c3
   rw [← hbx]
   have HO := Lib.hid (HB0.out.then ho)
   clear ho hbx
   go_wp2_with fail
   refine (H2.out w1 HO.out).mono ?_
   rintro e w2 ⟨rfl, ho⟩
   have e0 := ho.cellOf c0 (fun h => h)
   have e3 := ho.cellOf c3 (fun h => h)
   have HO2 := Lib.hid (HO.out.then ho)
   clear ho c0 c1 c2 c3
   go_wp2_with fail
   go_loopw [6, 7, 30] (fun _ _ i wr => ∃ j : Nat, j ≤ ins.length ∧ i = .int .i64 j ∧ Hid (∀ k s, k < j → ins[k]? = some s → pathOk s = true) ∧ Hid (Ext w2 wr)) (fun _ _ i _ => ins.length - (intOf i).toNat)
   case atStart => exact ⟨0, Nat.zero_le _, rfl, Lib.hid (fun k s h => absurd h (Nat.not_lt_zero _)), Lib.hid (Only.refl _ _)⟩
   case round =>
    obtain ⟨j, hj, rfl, HK, HX2⟩ := hrel
    by_cases hlt : j < ins.length
    ·have hltz : (j : Int) < (ins.length : Int) := by omega
     obtain ⟨b, off, rfl, hcell⟩ := HC.out (by intro h; rw [h] at hlt; simp at hlt)
     obtain ⟨s, hq⟩ : ∃ y, ins[j]? = some y := ⟨_, List.getElem?_eq_getElem hlt⟩
     have d0 := HX2.out.cellOf (HO2.out.cellOf (hcell j s hq) (fun h => h)) (fun h => h)
     have hC := H1.out wr (HO2.out.then HX2.out) s (HX.out s (List.mem_of_getElem? hq))
     have HQ := Lib.hid hq
     clear hcell hq
     cases hps : pathOk s with
     | true =>
      rw [hps, if_neg (by decide), show errC P 0 = .nilIface from rfl] at hC
      have HC2 := Lib.hid hC
      have HPS := Lib.hid hps
      clear hC hps
      go_wp2_with fail
      refine (HC2.out).mono ?_
      rintro e w3 ⟨rfl, ho⟩
      have HX3 := Lib.hid (HX2.out.then ho)
      clear ho
      go_wp2_with fail
      go_roundw
      case rel => exact ⟨j + 1, by omega, by go_num, Lib.hid (fun k y hk hy => by
       rcases Nat.lt_succ_iff_lt_or_eq.1 hk with h | rfl
       ·exact HK.out k y h hy
       ·rw [HQ.out] at hy; cases hy; exact HPS.out), HX3⟩
      case measure => simp [intOf]; omega
     | false =>
      rw [hps, if_pos rfl, show errC P 4 = errV (P 3) from rfl] at hC
      have hall : ins.all pathOk = false := by
       rw [List.all_eq_false]
       exact ⟨s, List.mem_of_getElem? HQ.out, by simp [hps]⟩
      have HC2 := Lib.hid hC
      have HALL := Lib.hid hall
      clear hC hall
      clear hps
      go_wp2_with fail
      refine (HC2.out).mono ?_
      rintro e w3 ⟨rfl, ho⟩
      have HX3 := Lib.hid (HO2.out.then (HX2.out.then ho))
      clear ho
      go_wp2_with fail
      go_ret
      exact ⟨by rw [HR.out, if_pos HALL.out]; rfl, HX3.out⟩
    ·have hltz : ¬ (j : Int) < (ins.length : Int) := by omega
     have hall : ins.all pathOk = true := by
      rw [List.all_eq_true]
      intro s hs
      obtain ⟨k, hk⟩ := List.getElem?_of_mem hs
      exact HK.out k s (by have := (List.getElem?_eq_some_iff.1 hk).1; omega) hk
     have f0 := HX2.out.cellOf e0 (fun h => h)
     have f3 := HX2.out.cellOf e3 (fun h => h)
     have HO3 := Lib.hid (HO2.out.then HX2.out)
     have hR2 := HR.out
     rw [hall, if_neg (by decide)] at hR2
     have HR2 := Lib.hid hR2
     clear hall hlt HK e0 e3 HX2 hR2 HR
     have HU : Hid (Rd S w (.slice a ins.length cap) ins) := Lib.hid ⟨a, cap, rfl, hcap, HMM.out, HC.out⟩
     go_wp2_with fail
     obtain ⟨wo, rfl⟩ : ∃ wo : World, wo = wr := ⟨_, rfl⟩
     go_loopw [8, 9, 43] (fun _ _ i wq => ∃ j : Nat, j ≤ ins.length ∧ i = .int .i64 j ∧ Hid (ot ∉ ins.take j ∧ (ins.take j).Nodup) ∧ Hid (Ext wo wq)) (fun _ _ i _ => ins.length - (intOf i).toNat)
     case atStart => exact ⟨0, Nat.zero_le _, rfl, Lib.hid ⟨by simp, by simp⟩, Lib.hid (Only.refl _ _)⟩
     case round =>
      obtain ⟨j, hj, rfl, HK, HX2⟩ := hrel
      have g0 := HX2.out.cellOf f0 (fun h => h)
      have g3 := HX2.out.cellOf f3 (fun h => h)
      by_cases hlt : j < ins.length
      ·have hltz : (j : Int) < (ins.length : Int) := by omega
       have hj0 : (0 : Int) ≤ (j : Int) := by omega
       have hjc : (j : Int) ≤ (cap : Int) := by omega
       obtain ⟨b, off, rfl, hcell⟩ := HC.out (by intro h; rw [h] at hlt; simp at hlt)
       obtain ⟨s, hq⟩ : ∃ y, ins[j]? = some y := ⟨_, List.getElem?_eq_getElem hlt⟩
       have d0 := HX2.out.cellOf (HO3.out.cellOf (hcell j s hq) (fun h => h)) (fun h => h)
       have HQ := Lib.hid hq
       have HCT := Lib.hid (containsT_any wr _ _ s (((HU.out.ext HO3.out).ext HX2.out).takeS j hj))
       have c0 := (HV.out.ext (HO3.out.then HX2.out)).errs.var 6 _ (by decide) rfl
       clear hcell hq
       cases heq : s == ot with
       | true =>
        have hbad : ot ∈ ins ∨ ¬ ins.Nodup := .inl (by rw [← beq_iff_eq.1 heq]; exact List.mem_of_getElem? HQ.out)
        have HBAD := Lib.hid hbad
        clear hbad
        go_wp2_with fail
        go_ret
        exact ⟨by rw [HR2.out, if_pos HBAD.out]; rfl, HO3.out.then HX2.out⟩
       | false =>
        have hne : s ≠ ot := beq_eq_false_iff_ne.1 heq
        cases hct : (ins.take j).any fun y => s == y with
        | true =>
         have hbad : ot ∈ ins ∨ ¬ ins.Nodup := .inr fun h => by
          obtain ⟨y, hy, e⟩ := List.any_eq_true.1 hct
          have := beq_iff_eq.1 e
          subst this
          obtain ⟨k, hk⟩ := List.getElem?_of_mem hy
          rw [List.getElem?_take] at hk
          split at hk
          ·rename_i hkj
           have := nodup_inj h hk HQ.out
           omega
          ·cases hk
         rw [hct] at HCT
         have HBAD := Lib.hid hbad
         clear hbad hct hne
         go_wp2_with fail
         refine (HCT.out).mono ?_
         rintro e w4 ⟨rfl, rfl⟩
         go_wp2_with fail
         go_ret
         exact ⟨by rw [HR2.out, if_pos HBAD.out]; rfl, HO3.out.then HX2.out⟩
        | false =>
         rw [hct] at HCT
         have hnm : s ∉ ins.take j := fun h => by
          rw [List.any_eq_false] at hct
          exact absurd (hct s h) (by simp)
         have hnew : ot ∉ ins.take (j + 1) ∧ (ins.take (j + 1)).Nodup := by
          refine ⟨fun h => ?_, take_new HQ.out HK.out.2 hnm⟩
          rw [List.take_add_one, HQ.out] at h
          rcases List.mem_append.1 h with h | h
          ·exact HK.out.1 h
          ·rw [Option.toList_some, List.mem_singleton] at h; exact hne h.symm
         have HNEW := Lib.hid hnew
         clear hnew hct hne hnm
         go_wp2_with fail
         refine (HCT.out).mono ?_
         rintro e w4 ⟨rfl, rfl⟩
         go_wp2_with fail
         go_roundw
         case rel => exact ⟨j + 1, by omega, by go_num, HNEW, HX2⟩
         case measure => simp [intOf]; omega
      ·have hltz : ¬ (j : Int) < (ins.length : Int) := by omega
       have ht : ins.take j = ins := List.take_of_length_le (by omega)
       have hgood : ¬ (ot ∈ ins ∨ ¬ ins.Nodup) := by
        have := HK.out
        rw [ht] at this
        rintro (h | h)
        ·exact this.1 h
        ·exact h this.2
       have HG := Lib.hid hgood
       clear hgood ht hlt
       go_wp2_with fail
       go_ret
       exact ⟨by rw [HR2.out, if_neg HG.out]; rfl, HO3.out.then HX2.out⟩
end Go.Proofs.YtnmhaipjfpongacGreatDoor

namespace Go.Proofs.YtnmhaipjfpongacGreatDoor
open Go.ChangeShapes Go.WideShapes Go.ChangeAt Go.RowKit

def ErrAt (w : World) (P : Nat → Addr) (f : Nat × Int) (v : Value) : Prop :=
 (f.1 = 0 ∧ v = .nilIface) ∨ (f.1 ≠ 0 ∧ f.2 = -1 ∧ v = errV (P (f.1 - 1))) ∨
 (f.1 ≠ 0 ∧ 0 ≤ f.2 ∧ ∃ b, v = .iface 226 (.pointer (some ⟨b, 0, none⟩)) ∧ w.heap[b]? = some (.cells #[I f.2, errV (P (f.1 - 1))] 228 (0, 0)))
theorem ErrAt.ext {w w' : World} {P : Nat → Addr} {f : Nat × Int} {v : Value} (h : ErrAt w P f v) (ho : Ext w w') : ErrAt w' P f v := by
 rcases h with h | h | ⟨h1, h2, b, h3, h4⟩
 ·exact .inl h
 ·exact .inr (.inl h)
 ·exact .inr (.inr ⟨h1, h2, b, h3, ho.heapOf h4 (fun h => h)⟩)
theorem ErrAt.zero {w : World} {P : Nat → Addr} {f : Nat × Int} {v : Value} (h : ErrAt w P f v) (h0 : f.1 = 0) : v = .nilIface := by
 rcases h with h | h | h
 ·exact h.2
 ·exact absurd h0 h.1
 ·exact absurd h0 h.1
theorem ErrAt.nil (w : World) (P : Nat → Addr) (a : Int) : ErrAt w P (0, a) .nilIface := .inl ⟨rfl, rfl⟩
theorem ErrAt.some {w : World} {P : Nat → Addr} {f : Nat × Int} {v : Value} (h : ErrAt w P f v) (h0 : f.1 ≠ 0) : ∃ t p, v = .iface t p := by
 rcases h with h | h | ⟨_, _, b, h, _⟩
 ·exact absurd h.1 h0
 ·exact ⟨_, _, h.2.2⟩
 ·exact ⟨_, _, h⟩

def RetErr (P : Nat → Addr) (f : Nat × Int) (w : World) (e : Ending) (w' : World) : Prop := ∃ v, e = .returned v ∧ ErrAt w' P f v ∧ Ext w w'

theorem enters_sheet1 : ∀ args w, (callFunc 159 args).run Tryz.prog w = .ok (.enter 159 args) w := fun args w => by kernel_rfl

theorem sheet1_test (w : World) (r : Rule) (u : Value) (b : Nat) (o : B) (hu : Rd S w u r.ins) (h : w.cell? ⟨b, 0, none⟩ = some (S o)) :
  Calls Tryz.prog 159 #[AggR r u, .pointer (some ⟨b, 0, none⟩)] w (RetE (.bool (r.out == o)) w) := by
 obtain ⟨a, cap, rfl, _, _, _⟩ := hu
 obtain ⟨q, hq⟩ : ∃ q, (r.out == o) = q := ⟨_, rfl⟩
 rw [hq]
 have h1 := fun ob => (Only.alloc (fun _ => False) w ob).cellOf h (fun h => h)
 clear h
 go_enter Tryz.func159, Tryz.ntmps159
 go_wp2_with fail
 go_ret
 exact ⟨rfl, Only.alloc _ _ _⟩

theorem sheetGo_at {l : List Rule} : ∀ (j i : Nat) (seen : List B) (k : List Rule), (∀ r ∈ k, ruleCode r = 0) → (k.map Rule.out).Nodup → (∀ r ∈ k, r.out ∉ seen) → k.length = j → sheetGo seen i (k ++ l) = sheetGo (seen ++ k.map Rule.out) (i + j) l
 | 0, i, seen, k, _, _, _, h => by
  rw [List.length_eq_zero_iff.1 h]; simp
 | j + 1, i, seen, [], _, _, _, h => by simp at h
 | j + 1, i, seen, r :: k, h1, h2, h3, h => by
  rw [List.map_cons, List.nodup_cons] at h2
  rw [List.cons_append, sheetGo, if_neg (by simpa using h1 r (.head _)), if_neg (h3 r (.head _))]
  rw [sheetGo_at j (i + 1) (seen ++ [r.out]) k (fun x hx => h1 x (.tail _ hx)) h2.2 (fun x hx => by
   simp only [List.mem_append, List.mem_singleton, not_or]
   exact ⟨h3 x (.tail _ hx), fun e => h2.1 (List.mem_map.2 ⟨x, hx, e⟩)⟩) (by simpa using h)]
  rw [List.map_cons, List.append_assoc]
  congr 1
  omega

def RightTo (l : List Rule) (j : Nat) : Prop := (∀ r ∈ l.take j, ruleCode r = 0) ∧ ((l.take j).map Rule.out).Nodup

theorem RightTo.zero (l : List Rule) : RightTo l 0 := ⟨by simp, by simp⟩
theorem RightTo.fault {l : List Rule} {j : Nat} {r : Rule} (h : RightTo l j) (hl : l.length ≤ 40) (hr : l[j]? = some r) :
  sheetFault l = if ruleCode r ≠ 0 then (ruleCode r, (j : Int)) else if r.out ∈ (l.take j).map Rule.out then (7, (j : Int)) else sheetGo ((l.take j).map Rule.out ++ [r.out]) (j + 1) (l.drop (j + 1)) := by
 have hj := (List.getElem?_eq_some_iff.1 hr).1
 have e : l = l.take j ++ r :: l.drop (j + 1) := by
  have := (List.take_append_drop j l).symm
  rw [List.drop_eq_getElem_cons hj] at this
  rw [(List.getElem?_eq_some_iff.1 hr).2] at this
  exact this
 unfold sheetFault
 rw [if_neg (by omega)]
 conv => lhs; rw [e]
 rw [sheetGo_at j 0 [] (l.take j) h.1 h.2 (by simp) (by rw [List.length_take]; omega)]
 simp only [List.nil_append, Nat.zero_add]
 rw [sheetGo]
theorem RightTo.next {l : List Rule} {j : Nat} {r : Rule} (h : RightTo l j) (hr : l[j]? = some r) (h1 : ruleCode r = 0) (h2 : r.out ∉ (l.take j).map Rule.out) : RightTo l (j + 1) := by
 have e : l.take (j + 1) = l.take j ++ [r] := by rw [List.take_add_one, hr]; rfl
 refine ⟨fun x hx => ?_, ?_⟩
 ·rw [e] at hx
  rcases List.mem_append.1 hx with hx | hx
  ·exact h.1 x hx
  ·rw [List.mem_singleton.1 hx]; exact h1
 ·rw [e, List.map_append, List.nodup_append]
  refine ⟨h.2, by simp, fun x hx y hy e => ?_⟩
  simp only [List.map_cons, List.map_nil, List.mem_singleton] at hy
  subst hy; subst e
  exact h2 hx
theorem RightTo.all {l : List Rule} (h : RightTo l l.length) (hl : l.length ≤ 40) : sheetFault l = (0, -1) := by
 rw [RightTo, List.take_length] at h
 exact sheet_zero (sheet_ok.2 ⟨hl, h.1, h.2⟩)

theorem any_out (l : List Rule) (o : B) : (l.any fun r => r.out == o) = decide (o ∈ l.map Rule.out) := by
 rw [Bool.eq_iff_iff]
 simp [List.any_eq_true]

set_option maxRecDepth 100000 in
set_option maxHeartbeats 4000000 in
theorem sheet_any (w : World) (P : Nat → Addr) (l : List Rule) (v : Value) (hv : RdR w v l) (hs : ∀ r ∈ l, RuleSm 900000 r) (hV : PV w P [1, 2, 3, 4, 6, 9]) :
  Calls Tryz.prog 92 #[v] w (RetErr P (sheetFault l) w) := by
 have HRD := Lib.hid hv
 obtain ⟨a, cap, rfl, hcap, hml, hc⟩ := hv
 have hlm : (l.length : Int) ≤ 9223372036854775807 := by unfold maxLen at hml; omega
 have hcapz : (l.length : Int) ≤ (cap : Int) := by omega
 have HC := Lib.hid hc
 have HS := Lib.hid hs
 have HV := Lib.hid hV
 clear hc hs hV
 by_cases h40 : 40 < l.length
 ·have hz : (40 : Int) < (l.length : Int) := by omega
  have c0 := HV.out.errs.var 1 _ (by decide) rfl
  have HF : Hid (sheetFault l = (2, -1)) := Lib.hid (if_pos h40)
  clear h40
  go_enter Tryz.func92, Tryz.ntmps92
  go_wp2_with fail
  go_ret
  exact ⟨_, rfl, by rw [HF.out]; exact .inr (.inl ⟨by decide, rfl, rfl⟩), Only.refl _ _⟩
 ·have hz : ¬ (40 : Int) < (l.length : Int) := by omega
  have hl40 : l.length ≤ 40 := by omega
  clear h40
  go_enter Tryz.func92, Tryz.ntmps92
  go_wp2_with fail
  go_loopw [3, 4, 5, 12] (fun _ _ _ i wr => ∃ j : Nat, j ≤ l.length ∧ i = .int .i64 j ∧ Hid (RightTo l j) ∧ Hid (Ext w wr)) (fun _ _ _ i _ => l.length - (intOf i).toNat)
  case atStart => exact ⟨0, Nat.zero_le _, rfl, Lib.hid (RightTo.zero l), Lib.hid (Only.refl _ _)⟩
  case round =>
   obtain ⟨j, hj, rfl, HR, HX⟩ := hrel
   by_cases hlt : j < l.length
   ·have hltz : (j : Int) < (l.length : Int) := by omega
    have hj0 : (0 : Int) ≤ (j : Int) := by omega
    have hjc : (j : Int) ≤ (cap : Int) := by omega
    obtain ⟨b, off, rfl, hcell⟩ := HC.out (by intro h; rw [h] at hlt; simp at hlt)
    obtain ⟨r, hq⟩ : ∃ y, l[j]? = some y := ⟨_, List.getElem?_eq_getElem hlt⟩
    obtain ⟨u, hu, c0, c1, c2, c3⟩ := hcell j r hq
    have d0 := HX.out.cellOf c0 (fun h => h)
    have d1 := HX.out.cellOf c1 (fun h => h)
    have d2 := HX.out.cellOf c2 (fun h => h)
    have d3 := HX.out.cellOf c3 (fun h => h)
    have hx1 : Ext w (wr.alloc (.cells #[S r.out, S r.kind, S r.word, u] 55 (0, 0))) := HX.out.thenAlloc _
    have hk0 := (cell_of_heap (MapKept.heap_alloc wr (.cells #[S r.out, S r.kind, S r.word, u] 55 (0, 0))).1 0).trans rfl
    have hchk := ruleCheck_any (wr.alloc (.cells #[S r.out, S r.kind, S r.word, u] 55 (0, 0))) P r u (hu.ext hx1) (HS.out r (List.mem_of_getElem? hq)) ((HV.out.ext hx1).sub (by decide))
    have hflt := HR.out.fault hl40 hq
    obtain ⟨au, cu, hua, _, _, _⟩ := hu
    generalize hun : r.ins.length = n at hua
    have HQ := Lib.hid hq
    have HCH := Lib.hid hchk
    have HFL := Lib.hid hflt
    have HK0 := Lib.hid hk0
    have HX1 := Lib.hid hx1
    clear hchk hflt hk0 hx1
    clear hcell hq c0 c1 c2 c3 hun
    subst hua
    cases hrc : ruleCode r with
    | succ c =>
     rw [hrc, show errC P (c + 1) = errV (P c) from rfl] at HCH
     rw [hrc, if_pos (Nat.succ_ne_zero _)] at HFL
     clear hrc
     go_wp2_with fail
     refine (HCH.out).mono ?_
     rintro e w2 ⟨rfl, ho⟩
     have HX2 := Lib.hid (HX1.out.then ho)
     clear ho
     go_wp2_with fail
     go_ret
     refine ⟨_, rfl, ?_, HX2.out.thenAlloc _⟩
     rw [HFL.out]
     exact .inr (.inr ⟨Nat.succ_ne_zero _, Int.natCast_nonneg _, _, rfl, (MapKept.heap_alloc _ _).1⟩)
    | zero =>
     rw [hrc, show errC P 0 = .nilIface from rfl] at HCH
     rw [hrc, if_neg (by simp)] at HFL
     have HRC := Lib.hid hrc
     clear hrc
     go_wp2_with fail
     refine HCH.out.mono ?_
     rintro e w2 ⟨rfl, ho⟩
     have hk1 := ho.cellOf HK0.out (fun h => h)
     obtain ⟨bx, hbx⟩ : ∃ b, b = wr.heap.size := ⟨_, rfl⟩
     rw [← hbx] at hk1
     rw [← hbx]
     have HX2 := Lib.hid (HX1.out.then ho)
     have hcf := containsFunc_R1 159 (.pointer (some ⟨bx, 0, none⟩)) (fun x => x.out == r.out) w2 (.slice (some ⟨b, off, none⟩) j cap) (l.take j) ((HRD.out.take j hj).ext HX2.out) enters_sheet1
      (fun w1 h1 x u' _ hu' => sheet1_test w1 x u' bx r.out hu' (h1.cellOf hk1 (fun h => h)))
     rw [any_out] at hcf
     have HCF := Lib.hid hcf
     clear ho hk1 hbx hcf
     by_cases hin : r.out ∈ (l.take j).map Rule.out
     ·rw [if_pos hin] at HFL
      rw [decide_eq_true hin] at HCF
      have e0 := (HV.out.ext HX2.out).errs.var 6 _ (by decide) rfl
      clear hin
      go_wp2_with fail
      refine (HCF.out).mono ?_
      rintro e w3 ⟨rfl, ho⟩
      have HX3 := Lib.hid (HX2.out.then ho)
      have HO := Lib.hid ho
      clear ho
      have e1 := HO.out.cellOf e0 (fun h => h)
      go_wp2_with fail
      go_ret
      refine ⟨_, rfl, ?_, HX3.out.thenAlloc _⟩
      rw [HFL.out]
      exact .inr (.inr ⟨Nat.succ_ne_zero 6, Int.natCast_nonneg _, _, rfl, (MapKept.heap_alloc _ _).1⟩)
     ·rw [if_neg hin] at HFL
      rw [decide_eq_false hin] at HCF
      have HN := Lib.hid (HR.out.next HQ.out HRC.out hin)
      clear hin
      go_wp2_with fail
      refine (HCF.out).mono ?_
      rintro e w3 ⟨rfl, ho⟩
      have HX3 := Lib.hid (HX2.out.then ho)
      clear ho
      go_wp2_with fail
      go_roundw
      case rel => exact ⟨j + 1, by omega, by go_num, HN, HX3⟩
      case measure => simp [intOf]; omega
   ·have hltz : ¬ (j : Int) < (l.length : Int) := by omega
    obtain rfl : j = l.length := by omega
    have HF := Lib.hid (HR.out.all hl40)
    go_wp2_with fail
    go_ret
    exact ⟨_, rfl, by rw [HF.out]; exact ErrAt.nil _ _ _, HX.out⟩
end Go.Proofs.YtnmhaipjfpongacGreatDoor

namespace Go.Proofs.YtnmhaipjfpongacGreatDoor
open Go.ChangeShapes Go.WideShapes Go.ChangeAt Go.RowKit

theorem enters_Order1 : ∀ args w, (callFunc 172 args).run Tryz.prog w = .ok (.enter 172 args) w := fun args w => by kernel_rfl

theorem Order1_any (w : World) (i : Nat) : Calls Tryz.prog 172 #[I i] w (RetE (.bool true) w) := by
 go_enter Tryz.func172, Tryz.ntmps172
 go_wp2_with fail
 go_ret
 exact ⟨rfl, Only.refl _ _⟩

def orderL (l : List Rule) : Option (List Nat) := orderB l.length (needB l) (fun _ => true)
def orderFault (l : List Rule) : Nat × Int := if (sheetFault l).1 ≠ 0 then sheetFault l else if (orderL l).isSome then (0, -1) else (9, -1)
def orderOut (l : List Rule) : List Nat := if (sheetFault l).1 ≠ 0 then [] else (orderL l).getD []

def RetOE (P : Nat → Addr) (f : Nat × Int) (o : List Nat) (w : World) (e : Ending) (w' : World) : Prop := ∃ v ev, e = .returned (.tuple #[v, ev]) ∧ RowI w.heap.size w' v o ∧ ErrAt w' P f ev ∧ Ext w w'

set_option maxRecDepth 100000 in
set_option maxHeartbeats 4000000 in
theorem graphOrder_any (w : World) (P : Nat → Addr) (l : List Rule) (v : Value) (hv : RdR w v l) (hs : ∀ r ∈ l, RuleSm 900000 r) (hV : PV w P [1, 2, 3, 4, 6, 8, 9]) :
  Calls Tryz.prog 99 #[v] w (RetOE P (orderFault l) (orderOut l) w) := by
 have HSH := Lib.hid (sheet_any w P l v hv hs (hV.sub (by decide)))
 have HRD := Lib.hid hv
 have HVV := Lib.hid hV
 have HSM := Lib.hid (fun r hr => (hs r hr).many)
 obtain ⟨a, cap, rfl, _, _, _⟩ := hv
 obtain ⟨F, hF⟩ : ∃ F, F = orderFault l := ⟨_, rfl⟩
 obtain ⟨O, hO⟩ : ∃ O, O = orderOut l := ⟨_, rfl⟩
 rw [← hF, ← hO]
 have HF := Lib.hid hF
 have HO := Lib.hid hO
 clear hF hO hV hs
 by_cases h0 : (sheetFault l).1 = 0
 ·have HR := Lib.hid (sheet_ok.1 h0)
  have HE := Lib.hid (fun W (hW : Ext w W) => edges_any W l _ (HRD.out.ext hW) HR.out HSM.out)
  have hF2 := HF.out
  have hO2 := HO.out
  unfold orderFault at hF2
  unfold orderOut at hO2
  rw [if_neg (by simpa using h0)] at hF2 hO2
  have HN0 := Lib.hid h0
  have h40 := HR.out.1
  have HF2 := Lib.hid hF2
  have HO2 := Lib.hid hO2
  clear hF2 hO2
  clear h0 HF HO
  go_enter Tryz.func99, Tryz.ntmps99
  go_wp2_with fail
  refine HSH.out.mono ?_
  rintro e w1 ⟨ev, rfl, he, ho⟩
  obtain rfl := he.zero HN0.out
  have HX1 := Lib.hid ho
  clear he ho
  go_wp2_with fail
  refine (HE.out w1 HX1.out).mono ?_
  rintro e w2 ⟨v2, rfl, hll, ho⟩
  have HX2 := Lib.hid (HX1.out.then ho)
  have HLL := Lib.hid hll
  clear hll ho
  have hor := order0_any 172 (fun _ => true) w2 v2 l.length (needB l) (by omega) HLL.out enters_Order1 (fun w3 _ i _ => Order1_any w3 i)
  change Calls _ _ _ _ (RetOrder (orderL l) w2) at hor
  have HOR := Lib.hid hor
  obtain ⟨a2, c2, rfl, _, _, _⟩ := HLL.out
  rw [List.length_map, List.length_range] at HOR
  clear hor
  cases hol : orderL l with
  | none =>
   have hF2 := HF2.out
   have hO2 := HO2.out
   rw [hol] at HOR hF2 hO2
   clear HF2 HO2
   have hF3 : F = (9, -1) := hF2
   have hO3 : O = [] := hO2
   subst hF3
   subst hO3
   clear hol hF2 hO2
   go_wp2_with fail
   refine (HOR.out).mono ?_
   rintro e w3 ⟨v3, rfl, hrow, ho⟩
   have HX3 := Lib.hid (HX2.out.then ho)
   have HROW := Lib.hid hrow
   clear hrow ho
   have c0 := (HVV.out.errs.ext HX3.out).var 8 _ (by decide) rfl
   go_wp2_with fail
   go_quiet (fail)
   go_wp2_with fail
   go_ret2
   exact ⟨_, _, rfl, RowI.nil _ _, .inr (.inl ⟨by decide, rfl, rfl⟩), HX3.out.thenDrewN _⟩
  | some o =>
   have hF2 := HF2.out
   have hO2 := HO2.out
   rw [hol] at HOR hF2 hO2
   clear HF2 HO2
   have hF3 : F = (0, -1) := hF2
   have hO3 : O = o := hO2
   subst hF3
   subst hO3
   clear hol hF2 hO2
   go_wp2_with fail
   refine (HOR.out).mono ?_
   rintro e w3 ⟨v3, rfl, hrow, ho⟩
   have HX3 := Lib.hid (HX2.out.then ho)
   have HROW := Lib.hid hrow
   clear hrow ho
   obtain ⟨a3, c3, rfl, _, _, _⟩ := HROW.out.rd
   go_wp2_with fail
   go_ret2
   exact ⟨_, _, rfl, HROW.out.down HX2.out.size, ErrAt.nil _ _ _, HX3.out⟩
 ·have hF2 := HF.out
  have hO2 := HO.out
  unfold orderFault at hF2
  unfold orderOut at hO2
  rw [if_pos h0] at hF2 hO2
  subst hO2
  subst hF2
  have HN0 := Lib.hid h0
  clear h0 HF HO
  go_enter Tryz.func99, Tryz.ntmps99
  go_wp2_with fail
  refine HSH.out.mono ?_
  rintro e w1 ⟨ev, rfl, he, ho⟩
  obtain ⟨t, p, rfl⟩ := he.some HN0.out
  have HX1 := Lib.hid ho
  have HEE := Lib.hid he
  clear he ho
  go_wp2_with fail
  go_ret2
  exact ⟨_, _, rfl, RowI.nil _ _, HEE.out, HX1.out⟩
end Go.Proofs.YtnmhaipjfpongacGreatDoor

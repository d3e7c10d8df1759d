/- Texts of this seat laid together for one claim: J2. No condition of its own: what each proves stands with its theorems. -/
import Derived.BigQuiet
import Derived.Test.YtnmhaipjfpongacGreatDoorYF15
import Derived.Test.YtnmhaipjfpongacGreatDoorYF13
import Derived.Test.YtnmhaipjfpongacGreatDoorYF7
namespace Go.Proofs.YtnmhaipjfpongacGreatDoor
open Go.ChangeShapes Go.WideShapes Go.ChangeAt Go.RowKit

structure PV (w : World) (P : Nat → Addr) (L : List Nat) : Prop where
 errs : Errs w P L
 max : HasMax w
 atoi : AtoiVars w
 pow : Pow w
theorem PV.ext {w w' : World} {P : Nat → Addr} {L : List Nat} (h : PV w P L) (ho : Ext w w') : PV w' P L := ⟨h.errs.ext ho, h.max.ext ho, h.atoi.ext ho, h.pow.ext ho⟩
theorem PV.sub {w : World} {P : Nat → Addr} {L K : List Nat} (h : PV w P L) (hk : ∀ i ∈ K, i ∈ L) : PV w P K := ⟨h.errs.sub hk, h.max, h.atoi, h.pow⟩
theorem PV.act {w : World} {P : Nat → Addr} {L : List Nat} (h : PV w P L) (hk : ∀ i ∈ [2, 4, 9], i ∈ L) : ActVars w P := ⟨h.errs.sub hk, h.max, h.atoi, h.pow⟩

def RetS (v : Value) (w : World) (e : Ending) (w' : World) : Prop := e = .returned v ∧ w = w'

set_option maxHeartbeats 1000000 in
theorem indexT_any (w : World) (v : Value) (l : List B) (x : B) (hv : Rd S w v l) : Calls Tryz.prog 277 #[v, S x] w (RetS (I (idx (fun y => x == y) l)) w) := by
 obtain ⟨a, cap, rfl, hcap, hm, hc⟩ := hv
 have hm' : l.length ≤ 9223372036854775807 := by unfold maxLen at hm; omega
 obtain ⟨R, hR⟩ : ∃ R, Hid (R = idx (fun y => x == y) l) := ⟨_, Lib.hid rfl⟩
 rw [← hR.out]
 clear hm
 have HC := Lib.hid hc
 clear hc
 go_enter Tryz.func277, Tryz.ntmps277
 go_wp2
 go_loop [8] (fun i => ∃ k : Nat, k ≤ l.length ∧ i = .int .i64 k ∧ Hid (∀ j y, j < k → l[j]? = some y → (x == y) = false)) (fun i => l.length + 1 - (intOf i).toNat)
 case atStart => exact ⟨0, Nat.zero_le _, rfl, Lib.hid (fun j x h => absurd h (Nat.not_lt_zero _))⟩
 case round =>
  obtain ⟨k, hk, rfl, HB⟩ := hrel
  by_cases hlt : k < l.length
  ·obtain ⟨b, off, rfl, hcell⟩ := HC.out (by intro h; rw [h] at hlt; simp at hlt)
   obtain ⟨y, hy⟩ : ∃ y, l[k]? = some y := ⟨_, List.getElem?_eq_getElem hlt⟩
   have d0 := hcell k y hy
   have HY := Lib.hid hy
   clear hcell hy
   cases hq : x == y with
   | false =>
    go_wp2
    have HQ := Lib.hid hq
    go_round
    case rel => exact ⟨k + 1, by omega, by go_num, Lib.hid (fun j z hj hz => by
     rcases Nat.lt_succ_iff_lt_or_eq.1 hj with h | rfl
     ·exact HB.out j z h hz
     ·rw [HY.out] at hz; cases hz; exact HQ.out)⟩
    case measure => simp [intOf]; omega
   | true =>
    have HK := Lib.hid (idx_hit HY.out hq HB.out)
    go_wp2
    go_ret
    exact ⟨by rw [hR.out, HK.out]; rfl, rfl⟩
  ·have HK := Lib.hid (idx_none (p := fun y => x == y) (l := l) fun j y hy => HB.out j y (by have := (List.getElem?_eq_some_iff.1 hy).1; omega) hy)
   go_wp2
   go_ret
   exact ⟨by rw [hR.out, HK.out]; rfl, rfl⟩

theorem containsT_any (w : World) (v : Value) (l : List B) (x : B) (hv : Rd S w v l) : Calls Tryz.prog 210 #[v, S x] w (RetS (.bool (l.any fun y => x == y)) w) := by
 have HI := Lib.hid (indexT_any w v l x hv)
 rw [← idx_any]
 generalize idx (fun y => x == y) l = R at HI ⊢
 obtain ⟨a, cap, rfl, _, _, _⟩ := hv
 go_enter Tryz.func210, Tryz.ntmps210
 go_wp2_with fail
 refine (HI.out).mono ?_
 rintro e w1 ⟨rfl, rfl⟩
 go_wp2_with fail
 go_ret
 exact ⟨rfl, rfl⟩

set_option maxHeartbeats 1000000 in
theorem indexI_any (w : World) (v : Value) (l : List Int) (x : Int) (hv : Rd I w v l) : Calls Tryz.prog 213 #[v, I x] w (RetS (I (idx (fun y => x == y) l)) w) := by
 obtain ⟨a, cap, rfl, hcap, hm, hc⟩ := hv
 have hm' : l.length ≤ 9223372036854775807 := by unfold maxLen at hm; omega
 obtain ⟨R, hR⟩ : ∃ R, Hid (R = idx (fun y => x == y) l) := ⟨_, Lib.hid rfl⟩
 rw [← hR.out]
 clear hm
 have HC := Lib.hid hc
 clear hc
 go_enter Tryz.func213, Tryz.ntmps213
 go_wp2
 go_loop [8] (fun i => ∃ k : Nat, k ≤ l.length ∧ i = .int .i64 k ∧ Hid (∀ j y, j < k → l[j]? = some y → (x == y) = false)) (fun i => l.length + 1 - (intOf i).toNat)
 case atStart => exact ⟨0, Nat.zero_le _, rfl, Lib.hid (fun j x h => absurd h (Nat.not_lt_zero _))⟩
 case round =>
  obtain ⟨k, hk, rfl, HB⟩ := hrel
  by_cases hlt : k < l.length
  ·obtain ⟨b, off, rfl, hcell⟩ := HC.out (by intro h; rw [h] at hlt; simp at hlt)
   obtain ⟨y, hy⟩ : ∃ y, l[k]? = some y := ⟨_, List.getElem?_eq_getElem hlt⟩
   have d0 := hcell k y hy
   have HY := Lib.hid hy
   clear hcell hy
   cases hq : x == y with
   | false =>
    go_wp2
    have HQ := Lib.hid hq
    go_round
    case rel => exact ⟨k + 1, by omega, by go_num, Lib.hid (fun j z hj hz => by
     rcases Nat.lt_succ_iff_lt_or_eq.1 hj with h | rfl
     ·exact HB.out j z h hz
     ·rw [HY.out] at hz; cases hz; exact HQ.out)⟩
    case measure => simp [intOf]; omega
   | true =>
    have HK := Lib.hid (idx_hit HY.out hq HB.out)
    go_wp2
    go_ret
    exact ⟨by rw [hR.out, HK.out]; rfl, rfl⟩
  ·have HK := Lib.hid (idx_none (p := fun y => x == y) (l := l) fun j y hy => HB.out j y (by have := (List.getElem?_eq_some_iff.1 hy).1; omega) hy)
   go_wp2
   go_ret
   exact ⟨by rw [hR.out, HK.out]; rfl, rfl⟩

theorem containsI_any (w : World) (v : Value) (l : List Int) (x : Int) (hv : Rd I w v l) : Calls Tryz.prog 165 #[v, I x] w (RetS (.bool (l.any fun y => x == y)) w) := by
 have HI := Lib.hid (indexI_any w v l x hv)
 rw [← idx_any]
 generalize idx (fun y => x == y) l = R at HI ⊢
 obtain ⟨a, cap, rfl, _, _, _⟩ := hv
 go_enter Tryz.func165, Tryz.ntmps165
 go_wp2_with fail
 refine (HI.out).mono ?_
 rintro e w1 ⟨rfl, rfl⟩
 go_wp2_with fail
 go_ret
 exact ⟨rfl, rfl⟩

theorem pathC_any (w : World) (P : Nat → Addr) (s : B) (hs : s.length ≤ 1000000) (hm : HasMax w) (he : Errs w P [3]) :
  Calls Tryz.prog 112 #[S s] w (RetE (errC P (if pathOk s = false then 4 else 0)) w) := by
 refine (check_any w s (P 3) hs hm (he.var 3 _ (by decide) rfl)).mono ?_
 rintro e w' ⟨rfl, ho⟩
 cases pathOk s
 ·exact ⟨rfl, ho⟩
 ·exact ⟨rfl, ho⟩

theorem take_new {l : List B} {j : Nat} {s : B} (h : l[j]? = some s) (hn : (l.take j).Nodup) (hs : s ∉ l.take j) : (l.take (j + 1)).Nodup := by
 rw [List.take_add_one, h]
 simp only [Option.toList_some]
 exact List.nodup_append.2 ⟨hn, by simp, fun x hx y hy e => hs (by rw [List.mem_singleton] at hy; rw [← hy, ← e]; exact hx)⟩

set_option maxRecDepth 100000 in
set_option maxHeartbeats 4000000 in
theorem ruleCheck_any (w : World) (P : Nat → Addr) (r : Rule) (u : Value) (hu : Rd S w u r.ins) (hs : RuleSm 900000 r) (hV : PV w P [2, 3, 4, 6, 9]) :
  Calls Tryz.prog 157 #[AggR r u] w (RetE (errC P (ruleCode r)) w) := by
 obtain ⟨ot, kd, wd, ins⟩ := r
 obtain ⟨a, cap, rfl, hcap, hm, hc⟩ := hu
 have h1 := fun W (hW : Ext w W) (s : B) (hs : s.length ≤ 900000) => pathC_any W P s (by omega) (hV.max.ext hW) ((hV.errs.ext hW).sub (by decide))
 have h2 := fun W (hW : Ext w W) => actCheck_any W P kd wd ins.length (by have := hs.word; simp at this; omega) ((hV.act (by decide)).ext hW)
 have hol : ot.length ≤ 900000 := hs.out
 have hil : ins.length ≤ 900000 := hs.many
 have hx : ∀ s ∈ ins, s.length ≤ 900000 := hs.ins
 have hilz : (ins.length : Int) ≤ 900000 := by omega
 have HMM := Lib.hid hm
 have H1 := Lib.hid h1
 have H2 := Lib.hid h2
 have HC := Lib.hid hc
 have HX := Lib.hid hx
 have HOL := Lib.hid hol
 have HV := Lib.hid hV
 clear h1 h2 hc hx hol hV
 have hb0 : Ext w (w.alloc (.cells #[S ot, S kd, S wd, .slice a ins.length cap] 55 (0, 0))) := Only.alloc _ _ _
 have HB0 := Lib.hid hb0
 clear hs hm hil hb0
 unfold ruleCode
 simp only
 cases hp : pathOk ot with
 | false =>
  rw [if_pos rfl, show errC P 4 = errV (P 3) from rfl]
  have hC := H1.out _ HB0.out ot HOL.out
  rw [hp, if_pos rfl, show errC P 4 = errV (P 3) from rfl] at hC
  have HCC := Lib.hid hC
  clear hC
  clear hp
  go_enter Tryz.func157, Tryz.ntmps157
  go_wp2_with fail
  refine (HCC.out).mono ?_
  rintro e w1 ⟨rfl, ho⟩
  have HO := Lib.hid (HB0.out.then ho)
  clear ho
  go_wp2_with fail
  go_ret
  exact ⟨rfl, HO.out⟩
 | true =>
  rw [if_neg (by decide)]
  have hC := H1.out _ HB0.out ot HOL.out
  rw [hp, if_neg (by decide), show errC P 0 = .nilIface from rfl] at hC
  have HCC := Lib.hid hC
  clear hC
  clear hp
  cases hq : actCode kd wd ins.length with
  | succ c =>
   rw [hq, show errC P (c + 1) = errV (P c) from rfl] at H2
   rw [if_pos (Nat.succ_ne_zero _), show errC P (c + 1) = errV (P c) from rfl]
   clear hq
   go_enter Tryz.func157, Tryz.ntmps157
   go_wp2_with fail
   refine HCC.out.mono ?_
   rintro e w1 ⟨rfl, ho⟩
   have c1 := ho.cellOf ((cell_of_heap (MapKept.heap_alloc w (.cells #[S ot, S kd, S wd, .slice a ins.length cap] 55 (0, 0))).1 1).trans rfl) (fun h => h)
   have c2 := ho.cellOf ((cell_of_heap (MapKept.heap_alloc w (.cells #[S ot, S kd, S wd, .slice a ins.length cap] 55 (0, 0))).1 2).trans rfl) (fun h => h)
   have c3 := ho.cellOf ((cell_of_heap (MapKept.heap_alloc w (.cells #[S ot, S kd, S wd, .slice a ins.length cap] 55 (0, 0))).1 3).trans rfl) (fun h => h)
   have HO := Lib.hid (HB0.out.then ho)
   clear ho
   go_wp2_with fail
   refine (H2.out w1 HO.out).mono ?_
   rintro e w2 ⟨rfl, ho⟩
   have HO2 := Lib.hid (HO.out.then ho)
   clear ho
   go_wp2_with fail
   go_ret
   exact ⟨rfl, HO2.out⟩
  | zero =>
   rw [hq, show errC P 0 = .nilIface from rfl] at H2
   rw [if_neg (by simp)]
   obtain ⟨R, hR⟩ : ∃ R : Nat, R = if ins.all pathOk = false then 4 else if ot ∈ ins ∨ ¬ ins.Nodup then 7 else 0 := ⟨_, rfl⟩
   rw [← hR]
   have HR := Lib.hid hR
   clear hq hR
   go_enter Tryz.func157, Tryz.ntmps157
   go_wp2_with fail
   refine HCC.out.mono ?_
   rintro e w1 ⟨rfl, ho⟩
   obtain ⟨bx, hbx⟩ : ∃ b, b = w.heap.size := ⟨_, rfl⟩
   have c0 := ho.cellOf ((cell_of_heap (MapKept.heap_alloc w (.cells #[S ot, S kd, S wd, .slice a ins.length cap] 55 (0, 0))).1 0).trans rfl) (fun h => h)
   have c1 := ho.cellOf ((cell_of_heap (MapKept.heap_alloc w (.cells #[S ot, S kd, S wd, .slice a ins.length cap] 55 (0, 0))).1 1).trans rfl) (fun h => h)
   have c2 := ho.cellOf ((cell_of_heap (MapKept.heap_alloc w (.cells #[S ot, S kd, S wd, .slice a ins.length cap] 55 (0, 0))).1 2).trans rfl) (fun h => h)
   have c3 := ho.cellOf ((cell_of_heap (MapKept.heap_alloc w (.cells #[S ot, S kd, S wd, .slice a ins.length cap] 55 (0, 0))).1 3).trans rfl) (fun h => h)
   rw [← hbx] at c0 c1 c2 c3
   rw [← hbx]
   have HO := Lib.hid (HB0.out.then ho)
   clear ho hbx
   go_wp2_with fail
   refine (H2.out w1 HO.out).mono ?_
   rintro e w2 ⟨rfl, ho⟩
   have e0 := ho.cellOf c0 (fun h => h)
   have e3 := ho.cellOf c3 (fun h => h)
   have HO2 := Lib.hid (HO.out.then ho)
   clear ho c0 c1 c2 c3
   go_wp2_with fail
   go_loopw [6, 7, 30] (fun _ _ i wr => ∃ j : Nat, j ≤ ins.length ∧ i = .int .i64 j ∧ Hid (∀ k s, k < j → ins[k]? = some s → pathOk s = true) ∧ Hid (Ext w2 wr)) (fun _ _ i _ => ins.length - (intOf i).toNat)
   case atStart => exact ⟨0, Nat.zero_le _, rfl, Lib.hid (fun k s h => absurd h (Nat.not_lt_zero _)), Lib.hid (Only.refl _ _)⟩
   case round =>
    obtain ⟨j, hj, rfl, HK, HX2⟩ := hrel
    by_cases hlt : j < ins.length
    ·have hltz : (j : Int) < (ins.length : Int) := by omega
     obtain ⟨b, off, rfl, hcell⟩ := HC.out (by intro h; rw [h] at hlt; simp at hlt)
     obtain ⟨s, hq⟩ : ∃ y, ins[j]? = some y := ⟨_, List.getElem?_eq_getElem hlt⟩
     have d0 := HX2.out.cellOf (HO2.out.cellOf (hcell j s hq) (fun h => h)) (fun h => h)
     have hC := H1.out wr (HO2.out.then HX2.out) s (HX.out s (List.mem_of_getElem? hq))
     have HQ := Lib.hid hq
     clear hcell hq
     cases hps : pathOk s with
     | true =>
      rw [hps, if_neg (by decide), show errC P 0 = .nilIface from rfl] at hC
      have HC2 := Lib.hid hC
      have HPS := Lib.hid hps
      clear hC hps
      go_wp2_with fail
      refine (HC2.out).mono ?_
      rintro e w3 ⟨rfl, ho⟩
      have HX3 := Lib.hid (HX2.out.then ho)
      clear ho
      go_wp2_with fail
      go_roundw
      case rel => exact ⟨j + 1, by omega, by go_num, Lib.hid (fun k y hk hy => by
       rcases Nat.lt_succ_iff_lt_or_eq.1 hk with h | rfl
       ·exact HK.out k y h hy
       ·rw [HQ.out] at hy; cases hy; exact HPS.out), HX3⟩
      case measure => simp [intOf]; omega
     | false =>
      rw [hps, if_pos rfl, show errC P 4 = errV (P 3) from rfl] at hC
      have hall : ins.all pathOk = false := by
       rw [List.all_eq_false]
       exact ⟨s, List.mem_of_getElem? HQ.out, by simp [hps]⟩
      have HC2 := Lib.hid hC
      have HALL := Lib.hid hall
      clear hC hall
      clear hps
      go_wp2_with fail
      refine (HC2.out).mono ?_
      rintro e w3 ⟨rfl, ho⟩
      have HX3 := Lib.hid (HO2.out.then (HX2.out.then ho))
      clear ho
      go_wp2_with fail
      go_ret
      exact ⟨by rw [HR.out, if_pos HALL.out]; rfl, HX3.out⟩
    ·have hltz : ¬ (j : Int) < (ins.length : Int) := by omega
     have hall : ins.all pathOk = true := by
      rw [List.all_eq_true]
      intro s hs
      obtain ⟨k, hk⟩ := List.getElem?_of_mem hs
      exact HK.out k s (by have := (List.getElem?_eq_some_iff.1 hk).1; omega) hk
     have f0 := HX2.out.cellOf e0 (fun h => h)
     have f3 := HX2.out.cellOf e3 (fun h => h)
     have HO3 := Lib.hid (HO2.out.then HX2.out)
     have hR2 := HR.out
     rw [hall, if_neg (by decide)] at hR2
     have HR2 := Lib.hid hR2
     clear hall hlt HK e0 e3 HX2 hR2 HR
     have HU : Hid (Rd S w (.slice a ins.length cap) ins) := Lib.hid ⟨a, cap, rfl, hcap, HMM.out, HC.out⟩
     go_wp2_with fail
     obtain ⟨wo, rfl⟩ : ∃ wo : World, wo = wr := ⟨_, rfl⟩
     go_loopw [8, 9, 43] (fun _ _ i wq => ∃ j : Nat, j ≤ ins.length ∧ i = .int .i64 j ∧ Hid (ot ∉ ins.take j ∧ (ins.take j).Nodup) ∧ Hid (Ext wo wq)) (fun _ _ i _ => ins.length - (intOf i).toNat)
     case atStart => exact ⟨0, Nat.zero_le _, rfl, Lib.hid ⟨by simp, by simp⟩, Lib.hid (Only.refl _ _)⟩
     case round =>
      obtain ⟨j, hj, rfl, HK, HX2⟩ := hrel
      have g0 := HX2.out.cellOf f0 (fun h => h)
      have g3 := HX2.out.cellOf f3 (fun h => h)
      by_cases hlt : j < ins.length
      ·have hltz : (j : Int) < (ins.length : Int) := by omega
       have hj0 : (0 : Int) ≤ (j : Int) := by omega
       have hjc : (j : Int) ≤ (cap : Int) := by omega
       obtain ⟨b, off, rfl, hcell⟩ := HC.out (by intro h; rw [h] at hlt; simp at hlt)
       obtain ⟨s, hq⟩ : ∃ y, ins[j]? = some y := ⟨_, List.getElem?_eq_getElem hlt⟩
       have d0 := HX2.out.cellOf (HO3.out.cellOf (hcell j s hq) (fun h => h)) (fun h => h)
       have HQ := Lib.hid hq
       have HCT := Lib.hid (containsT_any wr _ _ s (((HU.out.ext HO3.out).ext HX2.out).takeS j hj))
       have c0 := (HV.out.ext (HO3.out.then HX2.out)).errs.var 6 _ (by decide) rfl
       clear hcell hq
       cases heq : s == ot with
       | true =>
        have hbad : ot ∈ ins ∨ ¬ ins.Nodup := .inl (by rw [← beq_iff_eq.1 heq]; exact List.mem_of_getElem? HQ.out)
        have HBAD := Lib.hid hbad
        clear hbad
        go_wp2_with fail
        go_ret
        exact ⟨by rw [HR2.out, if_pos HBAD.out]; rfl, HO3.out.then HX2.out⟩
       | false =>
        have hne : s ≠ ot := beq_eq_false_iff_ne.1 heq
        cases hct : (ins.take j).any fun y => s == y with
        | true =>
         have hbad : ot ∈ ins ∨ ¬ ins.Nodup := .inr fun h => by
          obtain ⟨y, hy, e⟩ := List.any_eq_true.1 hct
          have := beq_iff_eq.1 e
          subst this
          obtain ⟨k, hk⟩ := List.getElem?_of_mem hy
          rw [List.getElem?_take] at hk
          split at hk
          ·rename_i hkj
           have := nodup_inj h hk HQ.out
           omega
          ·cases hk
         rw [hct] at HCT
         have HBAD := Lib.hid hbad
         clear hbad hct hne
         go_wp2_with fail
         refine (HCT.out).mono ?_
         rintro e w4 ⟨rfl, rfl⟩
         go_wp2_with fail
         go_ret
         exact ⟨by rw [HR2.out, if_pos HBAD.out]; rfl, HO3.out.then HX2.out⟩
        | false =>
         rw [hct] at HCT
         have hnm : s ∉ ins.take j := fun h => by
          rw [List.any_eq_false] at hct
          exact absurd (hct s h) (by simp)
         have hnew : ot ∉ ins.take (j + 1) ∧ (ins.take (j + 1)).Nodup := by
          refine ⟨fun h => ?_, take_new HQ.out HK.out.2 hnm⟩
          rw [List.take_add_one, HQ.out] at h
          rcases List.mem_append.1 h with h | h
          ·exact HK.out.1 h
          ·rw [Option.toList_some, List.mem_singleton] at h; exact hne h.symm
         have HNEW := Lib.hid hnew
         clear hnew hct hne hnm
         go_wp2_with fail
         refine (HCT.out).mono ?_
         rintro e w4 ⟨rfl, rfl⟩
         go_wp2_with fail
         go_roundw
         case rel => exact ⟨j + 1, by omega, by go_num, HNEW, HX2⟩
         case measure => simp [intOf]; omega
      ·have hltz : ¬ (j : Int) < (ins.length : Int) := by omega
       have ht : ins.take j = ins := List.take_of_length_le (by omega)
       have hgood : ¬ (ot ∈ ins ∨ ¬ ins.Nodup) := by
        have := HK.out
        rw [ht] at this
        rintro (h | h)
        ·exact this.1 h
        ·exact h this.2
       have HG := Lib.hid hgood
       clear hgood ht hlt
       go_wp2_with fail
       go_ret
       exact ⟨by rw [HR2.out, if_neg HG.out]; rfl, HO3.out.then HX2.out⟩
end Go.Proofs.YtnmhaipjfpongacGreatDoor

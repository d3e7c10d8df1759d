/- Texts of this seat laid together for one claim: Yb6, Yf0, Yb7, Yf1, Pl0, Pl1, Pl2, Pl3, Pl4, Pl6, Pl7, Pl9, Z15, Yc1. No condition of its own: what each proves stands with its theorems. -/
import Derived.Deep.CutBlock
import Derived.Deep.DeepCutAuto
import Derived.Deep.RegionHeld3
import Derived.Test.YtnmhaipjfpongacGreatDoorSA23
import Derived.Test.YtnmhaipjfpongacGreatDoorSA39
import Derived.Test.YtnmhaipjfpongacGreatDoorSA38
import Derived.Test.YtnmhaipjfpongacGreatDoorSA24
import Derived.Test.YtnmhaipjfpongacGreatDoorSA37
import Derived.Test.YtnmhaipjfpongacGreatDoorSA9
import Derived.Test.YtnmhaipjfpongacGreatDoorSA6
import Derived.Test.YtnmhaipjfpongacGreatDoorSA40
import Derived.Test.YtnmhaipjfpongacGreatDoorSA15
import Derived.Test.YtnmhaipjfpongacGreatDoorSA4
import Derived.Test.YtnmhaipjfpongacGreatDoorSA5
import Derived.Test.YtnmhaipjfpongacGreatDoorSA2
import Derived.Test.YtnmhaipjfpongacGreatDoorSA13
import Derived.Test.YtnmhaipjfpongacGreatDoorSA12
import Derived.Test.YtnmhaipjfpongacGreatDoorSA21
import Derived.Test.YtnmhaipjfpongacGreatDoorSA30
import Derived.Test.YtnmhaipjfpongacGreatDoorSA29
import Derived.Test.YtnmhaipjfpongacGreatDoorSA33
import Derived.Test.YtnmhaipjfpongacGreatDoorSA28
namespace Go.Proofs.YtnmhaipjfpongacGreatDoor
open Go.ChangeShapes Go.WideShapes Go.ChangeAt Go.RowKit

theorem want_in {l : List Rule} {T : FL} (hof : (orderFault l).1 = 0) {out : B} (hm : madeB l out = true) : wantRes l T out = ((wantW l T out).1, ((wantW l T out).2, -1)) := by
 obtain ⟨hr, ho⟩ := orderFault_ok hof
 unfold wantRes
 rw [if_neg (by rw [sheet_ok.2 hr]; simp), if_neg (by rw [hm]; simp)]
 cases hq : partB l (needL l [out]) with
 | some o2 => rfl
 | none =>
  have hc := Clo.need l [out]
  obtain ⟨k, s, hk, hks, hs, hw⟩ := orderB_circle hq (fun a b ha hia hn => by
   have hb := (needB_lt hn).2
   exact ⟨hb, by simpa using hc.clos a (by simpa using hia) b hb hn⟩)
  exact absurd hw (Ordered.no_circle (orderB_some ho).1 (fun _ _ hn => (needB_lt hn).2) (order_covers ho hk rfl) hs)
def staleP (l : List Rule) (T O : FL) (p : B) : Bool := ((O.lookup p).isSome != ((wantW l T p).2 == 0)) || ((O.lookup p).isSome && (O.lookup p).getD [] != (wantW l T p).1)
def staleL (l : List Rule) (T O : FL) : List B := (l.map Rule.out).filter (staleP l T O)
section
variable {w0 w : World} {D : Nat → Prop} {n : Nat} {sv lv : Value} {many : Nat} {T O L : FL} {l : List Rule}
set_option maxRecDepth 100000 in
set_option maxHeartbeats 8000000 in
theorem yardStale_any (P : Nat → Addr) (h : YardAt w0 w D n sv lv many T O L l) (hof : (orderFault l).1 = 0) (hT : FTree T) (hV : PV w0 P [1, 2, 3, 4, 5, 6, 8, 9]) :
  Calls Tryz.prog 40 #[PTR (n + 6)] w (RetOuts (sortB (staleL l T O)) w) := by
 obtain ⟨ss, hss⟩ : ∃ ss, ss = staleL l T O := ⟨_, rfl⟩
 rw [← hss]
 have HSSE := Lib.hid hss
 clear hss
 obtain ⟨hR, _⟩ := orderFault_ok hof
 have hsh := right_short hR
 have h40 := hR.1
 have HSM : Hid (∀ r ∈ l, RuleSm 900000 r) := Lib.hid (fun r hr => (hsh r hr).sm)
 have HSH : Hid (∀ r ∈ l, r.ins.length ≤ 12 ∧ r.word.length ≤ 1000) := Lib.hid (fun r hr => ⟨(hsh r hr).many, by have := (hsh r hr).word; omega⟩)
 have HOF := Lib.hid hof
 have HH := Lib.hid h
 have HV := Lib.hid hV
 have HT := Lib.hid hT.bytes
 obtain ⟨al, cl, hlv, _, _, _⟩ := h.rules.rd
 subst hlv
 obtain ⟨os, hos⟩ : ∃ os, os = l.map Rule.out := ⟨_, rfl⟩
 have HOS := Lib.hid hos
 have HOL : Hid (os.length ≤ 40) := Lib.hid (by rw [hos, List.length_map]; exact h40)
 clear h hR hsh hof hV hT hos
 go_enter Tryz.func40, Tryz.ntmps40
 go_wp2_with fail
 refine (yardOuts_any HH.out (by omega)).mono ?_
 rintro e w1 ⟨v1, rfl, hr1, ho1⟩
 rw [← HOS.out] at hr1
 have HO1 := Lib.hid ho1
 obtain ⟨a1, c1, rfl, _, _, hc1⟩ := hr1.rd
 have HC1 := Lib.hid hc1
 have hoz : (os.length : Int) ≤ 40 := by have := HOL.out; omega
 obtain ⟨bs, hbs⟩ : ∃ bs, bs = w1.heap.size := ⟨_, rfl⟩
 have HBS : Hid (w1.heap.size ≤ bs ∧ bs ≤ w1.heap.size) := Lib.hid ⟨by omega, by omega⟩
 clear hbs
 clear hr1 ho1 hc1
 go_wp2_with fail
 go_loopw [3, 5, 6, 7, 8, 9, 13] (fun q _ _ _ _ _ i wr => ∃ (j : Nat) (qv : Value), qv = q ∧ j ≤ os.length ∧ i = .int .i64 j ∧ Hid (Row bs wr qv ((os.take j).filter (staleP l T O))) ∧ Hid (Ext w1 wr)) (fun _ _ _ _ _ _ i _ => os.length - (intOf i).toNat)
 case atStart => exact ⟨0, _, rfl, Nat.zero_le _, rfl, Lib.hid (Row.nil _ _), Lib.hid (Only.refl _ _)⟩
 case round =>
  obtain ⟨j, qv, rfl, hj, rfl, HQ, HX⟩ := hrel
  by_cases hlt : j < os.length
  ·have hltz : (j : Int) < (os.length : Int) := by omega
   have hj0 : (0 : Int) ≤ (j : Int) := by omega
   obtain ⟨b, off, rfl, hcell⟩ := HC1.out (by intro h; rw [h] at hlt; simp at hlt)
   obtain ⟨p, hp⟩ : ∃ y, os[j]? = some y := ⟨_, List.getElem?_eq_getElem hlt⟩
   have d0 := HX.out.cellOf (hcell j p hp) (fun h => h)
   have hyr := HH.out.grow (HO1.out.then HX.out)
   have k0 := (hyr.cell 0).trans (rfl : _ = some (PTR (n + 3)))
   have k2 := (hyr.cell 2).trans (rfl : _ = some (Value.slice al l.length cl))
   have HK0 := Lib.hid k0
   have HK2 := Lib.hid k2
   have hmade : madeB l p = true := by
    have hmem : p ∈ l.map Rule.out := HOS.out ▸ List.mem_of_getElem? hp
    obtain ⟨r, hr, rfl⟩ := List.mem_map.1 hmem
    exact made_out hr
   have HWA : Hid (∀ wq, Ext wr wq → Calls Tryz.prog 18 #[PTR (n + 3), .slice al l.length cl, S p] wq (fun e w' => ∃ ev, e = .returned (.tuple #[S (wantW l T p).1, ev]) ∧ ErrAt w' P ((wantW l T p).2, -1) ev ∧ Ext wr w')) := Lib.hid (fun wq hq => by
    have hyq := hyr.grow hq
    refine (wantOf_any wq P (n + 3) (n + 2) T _ l p hyq.tree HT.out hyq.rules.rd HSM.out HSH.out (HV.out.ext hyq.ext)).mono ?_
    rintro e w' ⟨ev, rfl, he, hx⟩
    rw [want_in HOF.out hmade] at he ⊢
    exact ⟨ev, rfl, he, hq.then hx⟩)
   have HTK : Hid ((os.take (j + 1)).filter (staleP l T O) = (os.take j).filter (staleP l T O) ++ if staleP l T O p then [p] else []) := Lib.hid (by rw [List.take_add_one, hp]; simp [List.filter_append, List.filter_cons])
   have HQL : Hid (((os.take j).filter (staleP l T O)).length ≤ 1000000) := Lib.hid (by have := List.length_filter_le (staleP l T O) (os.take j); rw [List.length_take] at this; omega)
   have HJ := Lib.hid hlt
   have HYR := Lib.hid hyr
   have HSP : Hid (staleP l T O p = (((O.lookup p).isSome != ((wantW l T p).2 == 0)) || ((O.lookup p).isSome && (O.lookup p).getD [] != (wantW l T p).1))) := Lib.hid rfl
   generalize (os.take j).filter (staleP l T O) = qs at HQ HTK HQL
   generalize staleP l T O p = st at HTK HSP
   generalize wantW l T p = wx at HWA HSP
   obtain ⟨ws, wc⟩ := wx
   clear hcell hp hyr hmade hj hlt
   go_wp2_with fail
   go_region_held3 (fun w' => w'.cell? ⟨n + 6, 0, none⟩ = some (PTR (n + 3)) ∧ w'.cell? ⟨n + 6, 2, none⟩ = some (.slice al l.length cl)) (first | exact ⟨HX3.out.cellOf HK0.out (fun h => h), HX3.out.cellOf HK2.out (fun h => h)⟩ | exact ⟨k0, k2⟩ | go_keep)
    ((go_at_call 18; refine (HWA.out _ (by first | exact Only.refl _ _ | exact Only.drew _ _ | exact Only.drewN _ _ _)).mono ?_; rintro e w3 ⟨ev, rfl, hee, hx3⟩; have HX3 := Lib.hid hx3; have HEE := Lib.hid hee; clear hx3 hee))
   all_goals
    have k1 := ((HYR.out.grow HX3.out).cell 1).trans (rfl : _ = some (PTR (n + 5)))
    have hget := treeGet_any w3 (n + 5) (n + 4) O p (HYR.out.grow HX3.out).out
    cases hl : O.lookup p with
    | none =>
     rw [hl] at hget HSP
     have HGET := Lib.hid hget
     clear hget hl
     by_cases hw : wc = 0
     ·obtain rfl := HEE.out.zero hw
      go_wp2_with fail
      refine HGET.out.mono ?_
      rintro e w4 ⟨rfl, rfl⟩
      have hst : st = true := by rw [HSP.out]; simp [hw]
      subst hst
      have HTK2 : Hid ((os.take (j + 1)).filter (staleP l T O) = qs ++ [p]) := Lib.hid (by rw [HTK.out, if_pos rfl])
      have HX3A := Lib.hid ((HX.out.then HX3.out).thenAlloc (.cells #[S p] 9 (0, 0)))
      have HQA := Lib.hid ((HX3.out.thenAlloc (.cells #[S p] 9 (0, 0))).row HQ.out (fun _ _ h => h))
      clear HTK HSP HWA HGET HEE d0 k0 k1 k2
      go_wp2_with (at_builtin; refine wpText rfl (.tmp 51) (.tmp 53) w1 bs _ qs p w3 rfl rfl rfl rfl (HX3.out.row HQ.out (fun _ _ h => h)) HQL.out (Nat.le_trans HBS.out.2 (HX.out.then HX3.out).size) (HX.out.then HX3.out) HBS.out.1 ?_; intro g5 cap5 w5 HR5 HX5 _)
      go_roundw
      case rel => exact ⟨j + 1, _, rfl, HJ.out, by go_num, by rw [HTK2.out]; exact HR5, HX5⟩
      case measure => have := HJ.out; simp [intOf]; omega
     ·obtain ⟨t, q, rfl⟩ := HEE.out.some hw
      go_wp2_with fail
      refine HGET.out.mono ?_
      rintro e w4 ⟨rfl, rfl⟩
      have hst : st = false := by rw [HSP.out]; simp [hw]
      subst hst
      have HTK2 : Hid ((os.take (j + 1)).filter (staleP l T O) = qs) := Lib.hid (by rw [HTK.out, if_neg (by decide), List.append_nil])
      clear HTK HSP HWA HGET HEE d0 k0 k1 k2
      go_wp2_with fail
      go_roundw
      case rel => exact ⟨j + 1, _, rfl, HJ.out, by go_num, by rw [HTK2.out]; exact HX3.out.row HQ.out (fun _ _ h => h), Lib.hid (HX.out.then HX3.out)⟩
      case measure => have := HJ.out; simp [intOf]; omega
    | some y =>
     rw [hl] at hget HSP
     have HGET := Lib.hid hget
     clear hget hl
     by_cases hw : wc = 0
     ·obtain rfl := HEE.out.zero hw
      by_cases hy : y = ws
      ·subst hy
       go_wp2_with fail
       refine HGET.out.mono ?_
       rintro e w4 ⟨rfl, rfl⟩
       have hst : st = false := by rw [HSP.out]; simp [hw]
       subst hst
       have HTK2 : Hid ((os.take (j + 1)).filter (staleP l T O) = qs) := Lib.hid (by rw [HTK.out, if_neg (by decide), List.append_nil])
       clear HTK HSP HWA HGET HEE d0 k0 k1 k2
       go_wp2_with fail
       go_roundw
       case rel => exact ⟨j + 1, _, rfl, HJ.out, by go_num, by rw [HTK2.out]; exact HX3.out.row HQ.out (fun _ _ h => h), Lib.hid (HX.out.then HX3.out)⟩
       case measure => have := HJ.out; simp [intOf]; omega
      ·have hyb : (y == ws) = false := beq_eq_false_iff_ne.2 hy
       go_wp2_with fail
       refine HGET.out.mono ?_
       rintro e w4 ⟨rfl, rfl⟩
       have hst : st = true := by rw [HSP.out]; simp [hw, hy]
       subst hst
       have HTK2 : Hid ((os.take (j + 1)).filter (staleP l T O) = qs ++ [p]) := Lib.hid (by rw [HTK.out, if_pos rfl])
       have HX3A := Lib.hid ((HX.out.then HX3.out).thenAlloc (.cells #[S p] 9 (0, 0)))
       have HQA := Lib.hid ((HX3.out.thenAlloc (.cells #[S p] 9 (0, 0))).row HQ.out (fun _ _ h => h))
       clear HTK HSP HWA HGET HEE d0 k0 k1 k2
       go_wp2_with (at_builtin; refine wpText rfl (.tmp 51) (.tmp 53) w1 bs _ qs p w3 rfl rfl rfl rfl (HX3.out.row HQ.out (fun _ _ h => h)) HQL.out (Nat.le_trans HBS.out.2 (HX.out.then HX3.out).size) (HX.out.then HX3.out) HBS.out.1 ?_; intro g5 cap5 w5 HR5 HX5 _)
       go_roundw
       case rel => exact ⟨j + 1, _, rfl, HJ.out, by go_num, by rw [HTK2.out]; exact HR5, HX5⟩
       case measure => have := HJ.out; simp [intOf]; omega
     ·obtain ⟨t, q, rfl⟩ := HEE.out.some hw
      go_wp2_with fail
      refine HGET.out.mono ?_
      rintro e w4 ⟨rfl, rfl⟩
      have hst : st = true := by rw [HSP.out]; simp [hw]
      subst hst
      have HTK2 : Hid ((os.take (j + 1)).filter (staleP l T O) = qs ++ [p]) := Lib.hid (by rw [HTK.out, if_pos rfl])
      have HX3A := Lib.hid ((HX.out.then HX3.out).thenAlloc (.cells #[S p] 9 (0, 0)))
      have HQA := Lib.hid ((HX3.out.thenAlloc (.cells #[S p] 9 (0, 0))).row HQ.out (fun _ _ h => h))
      clear HTK HSP HWA HGET HEE d0 k0 k1 k2
      go_wp2_with (at_builtin; refine wpText rfl (.tmp 51) (.tmp 53) w1 bs _ qs p w3 rfl rfl rfl rfl (HX3.out.row HQ.out (fun _ _ h => h)) HQL.out (Nat.le_trans HBS.out.2 (HX.out.then HX3.out).size) (HX.out.then HX3.out) HBS.out.1 ?_; intro g5 cap5 w5 HR5 HX5 _)
      go_roundw
      case rel => exact ⟨j + 1, _, rfl, HJ.out, by go_num, by rw [HTK2.out]; exact HR5, HX5⟩
      case measure => have := HJ.out; simp [intOf]; omega
  ·have hltz : ¬ (j : Int) < (os.length : Int) := by omega
   rw [List.take_of_length_le (by omega)] at HQ
   have hso := sort_row wr bs qv _ HQ.out (by have := List.length_filter_le (staleP l T O) os; have := HOL.out; omega)
   obtain ⟨aq, cq, hqf, _, _, _⟩ := HQ.out.rd
   have HSO := Lib.hid hso
   have HQB := Lib.hid HQ.out.base
   have HE : Hid (os.filter (staleP l T O) = ss) := Lib.hid (by rw [HSSE.out, HOS.out]; rfl)
   clear hso
   rw [HE.out] at HSO HQ hqf
   subst hqf
   go_wp2_with fail
   refine HSO.out.mono ?_
   rintro e w5 ⟨rfl, hr5, ho5⟩
   have HR5 := Lib.hid hr5
   have HX5 := Lib.hid ho5
   clear hr5 ho5
   go_wp2_with fail
   go_ret
   exact ⟨_, rfl, HR5.out.down (by have := HO1.out.size; have := HBS.out; omega), (HO1.out.then HX.out).trans HX5.out (fun _ _ h => h) (fun i hi e => by have := HQB.out i e; have := HBS.out; have := HO1.out.size; omega)⟩
end
end Go.Proofs.YtnmhaipjfpongacGreatDoor

namespace Go.Proofs.YtnmhaipjfpongacGreatDoor

section
variable {E : BE} {KS : List B} {s : BS} {L : FL} {many : Nat}
end

section
variable {l : List Rule} {T O U : FL} {s t : BS}
theorem order_all (hof : (orderFault l).1 = 0) {i : Nat} : i ∈ orderOut l ↔ i < l.length := by
 obtain ⟨_, ho⟩ := orderFault_ok hof
 exact ⟨fun h => (orderB_some ho).1.lt i h, fun h => order_covers ho h rfl⟩
end
end Go.Proofs.YtnmhaipjfpongacGreatDoor

namespace Go.Proofs.YtnmhaipjfpongacGreatDoor
open Go.ChangeShapes Go.WideShapes Go.ChangeAt Go.RowKit
section
variable {w0 w : World} {D : Nat → Prop} {n : Nat} {sv lv : Value} {many : Nat} {T O L : FL} {l : List Rule}
def RetTr (w0 w : World) (D : Nat → Prop) (n : Nat) (sv lv : Value) (many : Nat) (T O L : FL) (l : List Rule) (v : Value) (e : Ending) (w' : World) : Prop := e = .returned v ∧ YardAt w0 w' D n sv lv many T O L l ∧ Only (fun i => i = n + 2) w w'
theorem YardAt.put (P : Nat → Addr) (h : YardAt w0 w D n sv lv many T O L l) (hT : FTree T) (hE : Errs w P [1, 3, 6, 7]) (hm : HasMax w) (p x : B) (hp : p.length ≤ 999999) : Calls Tryz.prog 38 #[PTR (n + 3), S p, S x] w (RetTr w0 w D n sv lv many (putT T p x) O L l (errC P (putCode T p x))) := by
 refine (treePut_any w P (n + 3) (n + 2) T p x h.tree hT.fits hE hm hp (fun q hq => by have := hT.lens q hq; omega)).mono ?_
 rintro e w' ⟨rfl, h1, h2⟩
 exact ⟨rfl, h.files h1 h2, h2⟩
theorem YardAt.remove (P : Nat → Addr) (h : YardAt w0 w D n sv lv many T O L l) (hE : Errs w P [5]) (p : B) : Calls Tryz.prog 37 #[PTR (n + 3), S p] w (RetTr w0 w D n sv lv many (delT T p) O L l (errC P (if (T.lookup p).isSome then 0 else 6))) := by
 refine (treeRemove_any w (n + 3) (n + 2) T p (P 5) h.tree (hE.var 5 _ (by decide) rfl)).mono ?_
 rintro e w' ⟨rfl, h1, h2⟩
 refine ⟨?_, h.files h1 h2, h2⟩
 split <;> rfl
theorem FTree.remove {L : FL} (h : FTree L) (p : B) : FTree (delT L p) := ⟨h.fits.del p, fun q hq => h.lens q (List.mem_filter.1 hq).1⟩
end
end Go.Proofs.YtnmhaipjfpongacGreatDoor

namespace Go.Proofs.YtnmhaipjfpongacGreatDoor
open Go.ChangeShapes Go.WideShapes Go.ChangeAt Go.RowKit

section
variable {w0 w w' : World} {l : List Rule} {n : Nat} {D : Nat → Prop} {sv lv : Value} {T O L : FL} {j : Nat}
end
end Go.Proofs.YtnmhaipjfpongacGreatDoor

namespace Go.Proofs.YtnmhaipjfpongacGreatDoor

theorem AllTo.det {σ : Type} {E : BE} {bs : σ → BS} {step : σ → Nat → σ} {x y z : σ} (h : AllTo E bs step x y) : AllTo E bs step x z → y = z := by
 induction h with
 | stop h1 =>
  intro k
  cases k with
  | stop _ => rfl
  | more k1 _ => rw [h1] at k1; cases k1
 | more h1 _ ih =>
  intro k
  cases k with
  | stop k1 => rw [h1] at k1; cases k1
  | more k1 k2 =>
   rw [h1] at k1
   obtain ⟨rfl, rfl⟩ := List.cons.inj k1
   exact ih k2
open Classical in
noncomputable def allEnd (E : BE) (x : BS × CS) : BS × CS := if h : ∃ y, AllTo E (·.1) (stepM E) x y then h.choose else x
theorem allEnd_is {E : BE} {x y : BS × CS} (h : AllTo E (·.1) (stepM E) x y) : allEnd E x = y := by
 unfold allEnd
 rw [dif_pos ⟨y, h⟩]
 exact (Exists.choose_spec (⟨y, h⟩ : ∃ y, AllTo E (·.1) (stepM E) x y)).det h

structure PS where
 T : FL
 O : FL
 L : FL
def cacheOf : CS → FL
 | some (_, L) => L
 | none => []
noncomputable def mkEnd (l : List Rule) (many : Nat) (x : PS) (os : List B) : BS × CS := allEnd (newE l os x.T) (.new, some (many, x.L))
noncomputable def makeP (l : List Rule) (many : Nat) (x : PS) (os : List B) : PS :=
 if (newFault l os).1 = 0 then ⟨x.T, outY (newE l os x.T) (mkEnd l many x os).1 x.O (orderOut l), cacheOf (mkEnd l many x os).2⟩ else x
end Go.Proofs.YtnmhaipjfpongacGreatDoor

namespace Go.Proofs.YtnmhaipjfpongacGreatDoor
open Go.ChangeShapes Go.WideShapes Go.ChangeAt Go.RowKit

theorem rd_lit {w : World} {b : Nat} {cs : Array Value} {ss : List B} (h : w.heap[b]? = some (.cells cs 9 (0, 0))) (hc : cs.toList = ss.map S) (hl : ss.length ≤ 1000) : Rd S w (.slice (some ⟨b, 0, none⟩) ss.length ss.length) ss := by
 refine ⟨_, ss.length, rfl, Nat.le_refl _, by unfold maxLen; omega, fun _ => ⟨b, 0, rfl, fun i x hx => ?_⟩⟩
 rw [Nat.zero_add, cell_of_heap h i, ← Array.getElem?_toList, hc, List.getElem?_map, hx]
 rfl
def Holds (B : Nat → Prop) (w : World) (φ : World → Prop) : Prop := ∀ (w' : World) (q : Nat → Prop), Only q w w' → (∀ i, q i → i < w.heap.size → ¬ B i) → φ w'
section
variable {B B' : Nat → Prop} {w w' : World} {φ : World → Prop} {q : Nat → Prop}
end
section
variable {w0 w w' w2 : World} {D D2 : Nat → Prop} {n : Nat} {x x' : PS}
end
end Go.Proofs.YtnmhaipjfpongacGreatDoor

namespace Go.Proofs.YtnmhaipjfpongacGreatDoor
open Go.ChangeShapes Go.WideShapes Go.ChangeAt Go.RowKit

abbrev BY (c : UInt8) : Value := .int .u8 (c.toNat : Int)
abbrev RowB (base : Nat) (w : World) (v : Value) (l : B) : Prop := w.ownsRow base 5 1 v l.length (l.map BY)
theorem infoByte : (Tryz.prog.info? 5).map (fun i => (i.zero, i.size, i.bytes)) = some (some (.int .u8 0), 1, 1) := by kernel_rfl
theorem wpByte {P : Program} (hP : P = Tryz.prog) {ops : Array Oper} {rest : List Oper} {o : Oper} {a : Act} {Q : Exit → Act → World → Prop} (s x : Operand) (w0 : World) (base : Nat) (v : Value) (l : B) (k : UInt8) (W : World) (hgd : o.guard = none)
  (ho : o.op = .call { callee := .builtin .append, args := #[s, x], argTypes := #[167, 167] }) (hs : a.eval s = v) (hx : a.eval x = .slice (some ⟨W.heap.size, 0, none⟩) 1 1)
  (hrow : RowB base W v l) (hl : l.length ≤ 1000000) (hbase : base ≤ W.heap.size) (hxt : Ext w0 W) (hb0 : w0.heap.size ≤ base)
  (hK : ∀ g cap w', Hid (RowB base w' (.slice (some ⟨g, 0, none⟩) (l.length + 1) cap) (l ++ [k])) → Hid (Ext w0 w') → Hid (W.grownBy w' v.ownBlock) →
   wpList P ops Q rest (a.put o.dst (.slice (some ⟨g, 0, none⟩) (l.length + 1) cap)) w') :
  wpList P ops Q (o :: rest) a (W.alloc (.cells #[BY k] 5 (0, 0))) := by
 subst hP
 have hf : ∀ q : B, q.flatMap (fun k => [BY k]) = q.map BY := fun q => by induction q with
  | nil => rfl
  | cons x q ih => rw [List.flatMap_cons, List.map_cons, ih]; rfl
 refine wpList_appS (fun k : UInt8 => [BY k]) 167 5 1 1 _ infoByte Tryz.underlying167 rfl (by decide) (fun _ => rfl) (fun _ u hu => by cases List.mem_singleton.1 hu; rfl) (by decide) s x base v l k W _ rfl hgd ho hs hx (by rw [hf]; exact hrow) hl hbase ?_
 intro g cap w' h1 h2 h3
 rw [hf] at h1
 refine hK g cap w' (Lib.hid ?_) (Lib.hid (grown_ext hxt (fun i hi => Nat.le_trans hb0 (hrow.lt i hi).1) h2)) (Lib.hid h2)
 show World.ownsRow _ _ _ _ _ (l ++ [k]).length _
 rw [List.length_append]
 exact h1
theorem RowB.conv {base g cap : Nat} {w : World} {l : B} (h : RowB base w (.slice (some ⟨g, 0, none⟩) l.length cap) l) : (convert 167 9 (.slice (some ⟨g, 0, none⟩) l.length cap)).run Tryz.prog w = .ok (S l) w :=
 run_convert_bytes_back (P := Tryz.prog) w 167 9 5 ⟨g, 0, none⟩ cap l Tryz.underlying167 Tryz.underlying5 Tryz.underlying9 (fun j hj => by
  rw [addrAdd, Nat.zero_add, h.cellAt j (by omega), List.getElem?_map, List.getElem?_eq_getElem hj]
  rfl)

end Go.Proofs.YtnmhaipjfpongacGreatDoor

namespace Go.Proofs.YtnmhaipjfpongacGreatDoor
open Go.ChangeShapes Go.WideShapes Go.ChangeAt Go.RowKit

end Go.Proofs.YtnmhaipjfpongacGreatDoor

namespace Go.Proofs.YtnmhaipjfpongacGreatDoor
open Go.ChangeShapes Go.WideShapes Go.ChangeAt Go.RowKit

section
variable {w0 w wr w' : World} {D : Nat → Prop} {n bs : Nat} {x x' : PS} {cs : List Int} {qv v : Value} {zs : List Int}
end
end Go.Proofs.YtnmhaipjfpongacGreatDoor

namespace Go.Proofs.YtnmhaipjfpongacGreatDoor
open Go.ChangeShapes Go.WideShapes Go.ChangeAt Go.RowKit

theorem one_byte {s : B} {j : Nat} {c : UInt8} (h : s[j]? = some c) : (s.take (j + 1)).drop j = [c] := by
 have hl := (List.getElem?_eq_some_iff.1 h).1
 rw [List.take_add_one, h, List.drop_append_of_le_length (by rw [List.length_take]; omega), List.drop_take]
 simp
theorem byte_ne {c d : UInt8} (h : c ≠ d) : ((c.toNat : Int) == (d.toNat : Int)) = false := beq_eq_false_iff_ne.2 fun e => h (UInt8.toNat_inj.1 (by omega))
end Go.Proofs.YtnmhaipjfpongacGreatDoor

namespace Go.Proofs.YtnmhaipjfpongacGreatDoor
open Go.ChangeShapes Go.WideShapes Go.ChangeAt Go.RowKit

end Go.Proofs.YtnmhaipjfpongacGreatDoor

namespace Go.Proofs.YtnmhaipjfpongacGreatDoor
open Go.ChangeShapes Go.WideShapes Go.ChangeAt Go.RowKit

theorem rd_litI {w : World} {b : Nat} {cs : Array Value} {zs : List Int} (h : w.heap[b]? = some (.cells cs 3 (0, 0))) (hc : cs.toList = zs.map I) (hl : zs.length ≤ 1000) : Rd I w (.slice (some ⟨b, 0, none⟩) zs.length zs.length) zs := by
 refine ⟨_, zs.length, rfl, Nat.le_refl _, by unfold maxLen; omega, fun _ => ⟨b, 0, rfl, fun i x hx => ?_⟩⟩
 rw [Nat.zero_add, cell_of_heap h i, ← Array.getElem?_toList, hc, List.getElem?_map, hx]
 rfl
end Go.Proofs.YtnmhaipjfpongacGreatDoor

namespace Go.Proofs.YtnmhaipjfpongacGreatDoor
open Go.ChangeShapes Go.WideShapes Go.ChangeAt Go.RowKit

theorem built_fault : newFault [ruleUp] [[98]] = (0, -1) := by
 have e1 : needFault [ruleUp] [[98]] = (0, -1) := by kernel_rfl
 have e2 : partFault [ruleUp] [0] = (0, -1) := by kernel_rfl
 unfold newFault
 rw [e1, if_neg (by simp), wanted_need, e2]
end Go.Proofs.YtnmhaipjfpongacGreatDoor

namespace Go.Proofs.YtnmhaipjfpongacGreatDoor
open Go.ChangeShapes Go.WideShapes Go.ChangeAt Go.RowKit

theorem yarded_order : orderOut [ruleUp] = [0] := by kernel_rfl
end Go.Proofs.YtnmhaipjfpongacGreatDoor

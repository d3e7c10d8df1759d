/- Texts of this seat laid together for one claim: Z30, Z31. No condition of its own: what each proves stands with its theorems. -/
import Derived.Test.YtnmhaipjfpongacGreatDoorPR37
import Derived.Test.YtnmhaipjfpongacGreatDoorPR38
import Derived.Test.YtnmhaipjfpongacGreatDoorPR42
import Derived.Test.YtnmhaipjfpongacGreatDoorPR48
import Derived.Test.YtnmhaipjfpongacGreatDoorPR44
namespace Go.Proofs.YtnmhaipjfpongacGreatDoor
open Go.ChangeShapes Go.WideShapes Go.ChangeAt Go.RowKit

structure Ran {σ : Type} (E : BE) (bs : σ → BS) (x y : σ) (o : List Nat) : Prop where
 all : ∀ k, ranP (bs y) k = (decide (k ∈ o) || ranP (bs x) k)
 new : ∀ k ∈ o, k ∈ E.sm ∧ ranP (bs x) k = false
 once : o.Nodup
section
variable {σ : Type} {E : BE} {bs : σ → BS} {step : σ → Nat → σ} {x y z : σ} {o p : List Nat}
theorem Ran.nil : Ran E bs x x [] := ⟨fun k => by simp, fun k h => (by cases h), List.nodup_nil⟩
theorem Ran.cons {i : Nat} (hi : i ∈ E.sm) (hr : readyP E (bs x) i = true) (hs : ∀ k, ranP (bs (step x i)) k = (decide (k = i) || ranP (bs x) k)) (h : Ran E bs (step x i) y o) : Ran E bs x y (i :: o) := by
 have h0 : ranP (bs x) i = false := by
  have := (ready_iff.1 hr).1
  unfold ranP
  rw [this]; rfl
 have hno : ∀ k ∈ o, k ≠ i ∧ ranP (bs x) k = false := fun k hk => by
  have h1 := (h.new k hk).2
  rw [hs, Bool.or_eq_false_iff] at h1
  exact ⟨of_decide_eq_false h1.1, h1.2⟩
 refine ⟨fun k => ?_, fun k hk => ?_, List.nodup_cons.2 ⟨fun hk => (hno i hk).1 rfl, h.once⟩⟩
 ·rw [h.all, hs]
  by_cases hk : k = i
  ·simp [hk]
  ·simp [hk]
 ·rcases List.mem_cons.1 hk with rfl | hk
  ·exact ⟨hi, h0⟩
  ·exact ⟨(h.new k hk).1, (hno k hk).2⟩
theorem PicksTo.ran {ps : List Int} (hs : ∀ x i, i ∈ E.sm → readyP E (bs x) i = true → ∀ k, ranP (bs (step x i)) k = (decide (k = i) || ranP (bs x) k)) (h : PicksTo E bs step ps x o y) : Ran E bs x y o := by
 induction h with
 | nil x => exact .nil
 | skip _ _ ih => exact ih
 | pick hk _ ih =>
  have hm := List.mem_filter.1 (List.mem_of_getElem? hk)
  exact .cons hm.1 hm.2 (hs _ _ hm.1 hm.2) ih
theorem AllOut.ran (hs : ∀ x i, i ∈ E.sm → readyP E (bs x) i = true → ∀ k, ranP (bs (step x i)) k = (decide (k = i) || ranP (bs x) k)) (h : AllOut E bs step x o y) : Ran E bs x y o ∧ readyL E (bs y) = [] := by
 induction h with
 | stop h => exact ⟨.nil, h⟩
 | @more x y o i R hk _ ih =>
  have hm : i ∈ readyL E (bs x) := by rw [hk]; exact .head _
  have hm := List.mem_filter.1 hm
  exact ⟨.cons hm.1 hm.2 (hs _ _ hm.1 hm.2) ih.1, ih.2⟩
end

structure PkA (w0 : World) (P : Nat → Addr) (base : Nat) (E : BE) (K : BK) (R : World → Prop) (x : BS) (wr : World) : Prop where
 bld : BldAt wr P base E K x
 inv : BInv E x
 ext : Ext w0 wr
 rest : R wr
 nohit : ∀ k, x.hit k = false
theorem PkA.keeps {w0 : World} {P : Nat → Addr} {base : Nat} {E : BE} {K : BK} {R : World → Prop} {own : Nat → Prop} {o : List Nat} {is : Nat → Bool} (hc : K.cp = .pointer none) (hW : BWell E o is) (hL : BLens E) (hV : PV w0 P [2, 4, 5, 9, 10, 11])
    (hlo : ∀ i, InBld E K i → w0.heap.size ≤ i ∧ own i) (hR : ∀ w w' (q : Nat → Prop), R w → Only q w w' → (∀ i, q i → InBld E K i ∨ (¬ own i ∧ w0.heap.size ≤ i)) → R w') :
    KeepsOwn (fun w x => PkA w0 P base E K R x w) own w0.heap.size (fun x => x) (fun x i => stepNn E x (i : Int)) P base E K :=
  ⟨fun _ _ h => ⟨h.bld, h.inv⟩, fun _ _ h => h.ext.size,
   fun w x w' q h ho hq => ⟨h.bld.later ho (fun i hi e => (hq i e).1 (hlo i hi).2), h.inv, h.ext.trans ho (fun _ _ h => h) (fun i hi e => by have := (hq i e).2; omega), hR w w' q h.rest ho (fun i e => .inr (hq i e)), h.nohit⟩,
   fun w x h i hi hr => (runN_any h.bld hc hW h.inv hL (hV.ext h.ext) (i : Int)).mono fun e w' hp => by
     obtain ⟨rfl, hb', ho⟩ := hp
     rw [(run_of hi hr).1]
     exact ⟨_, rfl, ⟨hb', hW.runZ h.inv _ _, h.ext.trans ho (fun _ _ h => h) (fun i hi e => by have := (hlo i e.bld).1; omega), hR w w' _ h.rest ho (fun i e => .inl e.bld), nohit_run h.nohit _⟩, ho.mono fun i _ e => (hlo i e.bld).2⟩,
   fun _ _ hi hr => (run_of hi hr).2⟩

def ruleX : Rule := ⟨[97], [119, 114, 105, 116, 101], [120], []⟩
def ruleY : Rule := ⟨[98], [119, 114, 105, 116, 101], [121], []⟩
abbrev EP : BE := ⟨[ruleX, ruleY], [0, 1], []⟩
theorem picked_need : needL [ruleX, ruleY] [[97], [98]] = [0, 1] := by
 have hk : needKs [ruleX, ruleY] [[97], [98]] = [0, 1] := by kernel_rfl
 have h0 : reachB [ruleX, ruleY] [[97], [98]] 0 = true := reachB_iff.2 (.root (by rw [hk]; exact .head _))
 have h1 : reachB [ruleX, ruleY] [[97], [98]] 1 = true := reachB_iff.2 (.root (by rw [hk]; exact .tail _ (.head _)))
 unfold needL
 show List.filter (reachB [ruleX, ruleY] [[97], [98]]) [0, 1] = [0, 1]
 rw [List.filter_cons_of_pos h0, List.filter_cons_of_pos h1]
 rfl
theorem picked_e : newE [ruleX, ruleY] [[97], [98]] [] = EP := by
 show BE.mk _ _ _ = _
 rw [picked_need]
theorem picked_fault : newFault [ruleX, ruleY] [[97], [98]] = (0, -1) := by
 have e1 : needFault [ruleX, ruleY] [[97], [98]] = (0, -1) := by kernel_rfl
 have e2 : partFault [ruleX, ruleY] [0, 1] = (0, -1) := by kernel_rfl
 unfold newFault
 rw [e1, if_neg (by simp), picked_need, e2]
theorem picked_well : ∃ o is, BWell EP o is := by
 have e1 : (sheetFault [ruleX, ruleY]).1 = 0 := by kernel_rfl
 have e2 : partB [ruleX, ruleY] (needL [ruleX, ruleY] [[97], [98]]) = some [0, 1] := by rw [picked_need]; kernel_rfl
 have h := new_well (T := []) (sheet_ok.1 e1) e2 (fun p s h => by cases h)
 rw [picked_e] at h
 exact ⟨_, _, h⟩
theorem picked_lens : BLens EP := by
 have h : ∀ i ∈ EP.sm, i = 0 ∨ i = 1 := fun i hi => by
  rcases List.mem_cons.1 hi with rfl | hi
  ·exact .inl rfl
  ·exact .inr (List.mem_singleton.1 hi)
 exact ⟨by decide, fun i hi => by rcases h i hi with rfl | rfl <;> decide, fun i hi => by rcases h i hi with rfl | rfl <;> decide, fun i hi => by rcases h i hi with rfl | rfl <;> decide⟩
theorem picked_step {s : BS} {i : Nat} (hi : i ∈ EP.sm) (h1 : s.st i = 1) (hr : readyP EP s i = true) (ha : (EP.ans i).2 = 0) : stepNn EP s (i : Int) = doneP s i false := by
 unfold stepNn
 rw [runZ_in hi]
 unfold runP
 rw [if_neg (fun h => h hi), if_neg (by rw [h1]; simp), if_neg (by rw [hr]; simp), if_neg (by rw [ha]; simp)]
theorem picked_runs {o1 o2 : List Nat} {x1 y : BS} (h1 : PicksTo EP (fun x => x) (fun x i => stepNn EP x (i : Int)) [1] .new o1 x1) (h2 : AllOut EP (fun x => x) (fun x i => stepNn EP x (i : Int)) x1 o2 y) : o1 ++ o2 = [1, 0] := by
 have r0 : readyL EP .new = [0, 1] := by kernel_rfl
 have s1 : stepNn EP .new ((1 : Nat) : Int) = doneP .new 1 false := picked_step (by decide) rfl (by kernel_rfl) (by kernel_rfl)
 have r1 : readyL EP (doneP .new 1 false) = [0] := by kernel_rfl
 have s2 : stepNn EP (doneP .new 1 false) ((0 : Nat) : Int) = doneP (doneP .new 1 false) 0 false := picked_step (by decide) rfl (by kernel_rfl) (by kernel_rfl)
 have r2 : readyL EP (doneP (doneP .new 1 false) 0 false) = [] := by kernel_rfl
 cases h1 with
 | skip h _ => rw [r0] at h; cases h
 | pick hk h =>
  rw [r0] at hk
  have hk2 : (1 : Nat) = _ := Option.some.inj hk
  subst hk2
  rw [s1] at h
  cases h
  cases h2 with
  | stop h => rw [r1] at h; cases h
  | more hR h =>
   rw [r1] at hR
   obtain ⟨rfl, _⟩ := List.cons.inj hR
   rw [s2] at h
   cases h with
   | stop _ => rfl
   | more hR _ => rw [r2] at hR; cases hR
theorem picked_deep : orderFault [ruleX, ruleY] = (0, -1) ∧ (levelsL [ruleX, ruleY]).length = 1 := by
 refine ⟨by kernel_rfl, ?_⟩
 unfold levelsL
 rw [List.length_map]
 kernel_rfl
end Go.Proofs.YtnmhaipjfpongacGreatDoor

namespace Go.Proofs.YtnmhaipjfpongacGreatDoor
open Go.ChangeShapes Go.WideShapes Go.ChangeAt Go.RowKit

abbrev picked8 : Array Value := #[S [97], S [119, 114, 105, 116, 101], S [120], .slice none 0 0, S [98], S [119, 114, 105, 116, 101], S [121], .slice none 0 0]
abbrev pickedW (w : World) : World := w.alloc (.cells picked8 55 (0, 0))
theorem picked_rd {w : World} {b : Nat} (h2 : w.heap[b]? = some (.cells picked8 55 (0, 0))) : RdR w (.slice (some ⟨b, 0, none⟩) 2 2) [ruleX, ruleY] := by
 refine ⟨_, 2, rfl, Nat.le_refl _, by decide, fun _ => ⟨b, 0, rfl, fun i r hi => ?_⟩⟩
 match i, hi with
 | 0, hi =>
  cases hi
  refine ⟨.slice none 0 0, Rd.nil _ _, ?_, ?_, ?_, ?_⟩
  all_goals (rw [cell_of_heap h2]; rfl)
 | 1, hi =>
  cases hi
  refine ⟨.slice none 0 0, Rd.nil _ _, ?_, ?_, ?_, ?_⟩
  all_goals (rw [cell_of_heap h2]; rfl)
 | i + 2, hi => simp at hi
theorem lit2_rd (w : World) (a b : B) : Rd S (w.alloc (.cells #[S a, S b] 9 (0, 0))) (.slice (some ⟨w.heap.size, 0, none⟩) 2 2) [a, b] :=
 ⟨_, 2, rfl, Nat.le_refl _, by decide, fun _ => ⟨_, 0, rfl, fun i x hx => by
  have hz := (MapKept.heap_alloc w (.cells #[S a, S b] 9 (0, 0))).1
  match i, hx with
  | 0, hx => cases hx; rw [cell_of_heap hz]; rfl
  | 1, hx => cases hx; rw [cell_of_heap hz]; rfl
  | i + 2, hx => simp at hx⟩⟩
theorem litI_rd {w : World} {b : Nat} {cs : List Int} (h : w.heap[b]? = some (.cells (cs.map (Value.int .i64)).toArray 3 (0, 0))) (hl : cs.length ≤ 1000) : Rd I w (.slice (some ⟨b, 0, none⟩) cs.length cs.length) cs :=
 ⟨_, _, rfl, Nat.le_refl _, Nat.le_trans hl (by decide), fun _ => ⟨_, 0, rfl, fun i x hx => by
  rw [cell_of_heap h, Nat.zero_add]
  simp [hx]⟩⟩

set_option maxRecDepth 100000 in
set_option maxHeartbeats 8000000 in
theorem picked_any (w : World) (P : Nat → Addr) (hV : PV w P [1, 2, 3, 4, 5, 6, 7, 8, 9, 10, 11]) : Calls Tryz.prog 44 #[] w (RetE (.bool true) w) := by
 have HVV := Lib.hid hV
 obtain ⟨o, is, hW⟩ := picked_well
 have HW := Lib.hid hW
 have HSM : Hid (∀ r ∈ [ruleX, ruleY], RuleSm 900000 r) := Lib.hid (fun r hr => by
  rcases List.mem_cons.1 hr with rfl | hr
  ·exact ⟨by decide, by decide, by decide, by decide, by decide⟩
  ·obtain rfl := List.mem_singleton.1 hr
   exact ⟨by decide, by decide, by decide, by decide, by decide⟩)
 clear hV hW
 go_enter Tryz.func44, Tryz.ntmps44
 go_wp2_with fail
 refine (treeNew_any w).mono ?_
 rintro e w1 ⟨rfl, ht, ho, hs1⟩
 have HT := Lib.hid ht
 have HX1 := Lib.hid ho
 clear ht ho hs1
 obtain ⟨tb, htb⟩ : ∃ tb, tb = w.heap.size + 1 := ⟨_, rfl⟩
 rw [← htb] at HT
 rw [← htb]
 clear htb
 have hx2 : Ext w1 (pickedW w1) := Only.alloc _ w1 _
 have hx3 : Ext w1 ((pickedW w1).alloc (.cells #[S [97], S [98]] 9 (0, 0))) := hx2.thenAlloc _
 have h8 := (MapKept.heap_alloc w1 (.cells picked8 55 (0, 0))).1
 have hx23 : Ext (pickedW w1) ((pickedW w1).alloc (.cells #[S [97], S [98]] 9 (0, 0))) := Only.alloc _ _ _
 have hn1 := new_any ((pickedW w1).alloc (.cells #[S [97], S [98]] 9 (0, 0))) P tb w.heap.size [] _ _ none [ruleX, ruleY] [[97], [98]] (HT.out.ext hx3) (picked_rd (hx23.heapOf h8 (fun h => h))) (lit2_rd (pickedW w1) [97] [98]) (by decide) HSM.out ((HVV.out.ext (HX1.out.then hx3)).sub (by decide))
 unfold RetNew at hn1
 rw [picked_fault, picked_e] at hn1
 have hz2 : (pickedW w1).heap.size = w1.heap.size + 1 := by simp
 rw [hz2] at hn1
 have HN1 := Lib.hid hn1
 have HX3 := Lib.hid (HX1.out.then hx3)
 have H8 := Lib.hid (hx23.heapOf h8 (fun h => h))
 clear hx2 hx3 hx23 h8 hn1 hz2
 go_wp2_with fail
 refine HN1.out.mono ?_
 rintro e w4 ⟨v4, ev, rfl, he, ho4, hcase⟩
 obtain rfl := he.zero rfl
 rcases hcase with ⟨h, _⟩ | ⟨_, K, rfl, hcp, hb⟩
 ·exact absurd rfl h
 have hsz : w1.heap.size + 2 = ((pickedW w1).alloc (.cells #[S [97], S [98]] 9 (0, 0))).heap.size := by simp
 have HX4 := Lib.hid (HX3.out.then ho4)
 have HBS : Hid (∀ i, InBld EP K i → w1.heap.size + 2 ≤ i ∧ i < w4.heap.size) := Lib.hid (fun i hi => ⟨by have := hb.ge i hi; omega, hb.lt i hi⟩)
 have hx5 : Ext w4 (w4.alloc (.cells #[.int .i64 1] 3 (0, 0))) := Only.alloc _ _ _
 have hr5 : (w4.alloc (.cells #[.int .i64 1] 3 (0, 0))).heap[w4.heap.size]? = some (.cells #[.int .i64 1] 3 (0, 0)) ∧ (w4.alloc (.cells #[.int .i64 1] 3 (0, 0))).heap[w1.heap.size]? = some (.cells picked8 55 (0, 0)) :=
  ⟨(MapKept.heap_alloc w4 _).1, (ho4.then hx5).heapOf H8.out (fun h => h)⟩
 have hsw := HX1.out.size
 have hs5 : (w4.alloc (.cells #[.int .i64 1] 3 (0, 0))).heap.size = w4.heap.size + 1 := by simp
 have hkeep := PkA.keeps (w0 := w) (P := P) (R := fun wr => wr.heap[w4.heap.size]? = some (.cells #[.int .i64 1] 3 (0, 0)) ∧ wr.heap[w1.heap.size]? = some (.cells picked8 55 (0, 0))) (base := ((pickedW w1).alloc (.cells #[S [97], S [98]] 9 (0, 0))).heap.size) (own := fun i => w1.heap.size ≤ i ∧ i < w4.heap.size + 1) hcp HW.out picked_lens (HVV.out.sub (by decide))
  (fun i hi => by have := HBS.out i hi; omega) (fun wa wb q h ho hq => ⟨ho.heapOf h.1 (fun e => by
   rcases hq _ e with h2 | ⟨h2, _⟩
   ·have := HBS.out _ h2; omega
   ·have := ho4.size; exact h2 ⟨by omega, by omega⟩), ho.heapOf h.2 (fun e => by
   rcases hq _ e with h2 | ⟨h2, _⟩
   ·have := HBS.out _ h2; omega
   ·have := ho4.size; exact h2 ⟨by omega, by omega⟩)⟩)
 have hpr := pickRun_any _ _ _ _ _ P _ EP K o is (w4.alloc (.cells #[.int .i64 1] 3 (0, 0))) .new [1] (.slice (some ⟨w4.heap.size, 0, none⟩) 1 1) hkeep ⟨hb.ext hx5, BInv.new _, HX4.out.then hx5, hr5, fun _ => rfl⟩ HW.out picked_lens (fun wq x h => litI_rd (cs := [1]) h.rest.1 (by decide)) (fun p hp => by
  rw [List.mem_singleton] at hp
  subst hp
  exact ⟨by decide, by decide⟩) (by decide) (fun i hi => by omega)
 have HPR := Lib.hid hpr
 clear he ho4 hb hcp hsz HN1 hx5 hr5 hkeep hpr hsw hs5
 go_wp2_with fail
 refine HPR.out.mono ?_
 rintro e w6 ⟨v6, o1, o2, x1, y, rfl, hrow, hA, hp1, hp2⟩
 rw [picked_runs hp1 hp2] at hrow
 have HROW := Lib.hid hrow
 have HX6 := Lib.hid hA.ext
 have hdp := deep_any w6 P [ruleX, ruleY] _ (picked_rd hA.rest.2) HSM.out ((HVV.out.ext hA.ext).sub (by decide))
 obtain ⟨d1, d2⟩ := picked_deep
 rw [d1, if_pos rfl, d2] at hdp
 have HDP := Lib.hid hdp
 obtain ⟨a6, c6, rfl, _, _, _⟩ := hrow.rd
 clear hrow hA hp1 hp2 hdp d1 d2 HPR
 go_wp2_with fail
 refine HDP.out.mono ?_
 rintro e w7 ⟨ev7, rfl, he7, ho7⟩
 obtain rfl := he7.zero rfl
 have HX7 := Lib.hid (HX6.out.then ho7)
 have hsi := sameInts_any (w7.alloc (.cells #[.int .i64 1, .int .i64 0] 3 (0, 0))) _ (.slice (some ⟨w7.heap.size, 0, none⟩) 2 2) _ [1, 0] (HROW.out.ext (ho7.thenAlloc _)).rd.ints (litI_rd (cs := [1, 0]) (MapKept.heap_alloc w7 _).1 (by decide))
 have HSI := Lib.hid hsi
 have HX8 := Lib.hid (HX7.out.thenAlloc (.cells #[.int .i64 1, .int .i64 0] 3 (0, 0)))
 clear he7 ho7 hsi HDP
 go_wp2_with fail
 refine HSI.out.mono ?_
 rintro e w9 ⟨rfl, hd⟩
 have HX9 := Lib.hid (HX8.out.then hd.ext)
 clear hd
 go_wp2_with fail
 go_ret
 exact ⟨rfl, HX9.out⟩
end Go.Proofs.YtnmhaipjfpongacGreatDoor

/- The closed fact 'wanted'; rules taken out of others. No condition but how the rules lie, and what the variables hold. -/
import Derived.Test.YtnmhaipjfpongabGreatDoorI3x
import Derived.Test.YtnmhaipjfpongabGreatDoorI4x
import Derived.Test.YtnmhaipjfpongabGreatDoorJ4x
namespace Go.Proofs.YtnmhaipjfpongabGreatDoor
open Go.ChangeShapes Go.WideShapes Go.ChangeAt Go.RowKit

/-! ### wanted -/
def ruleUp : Rule := ⟨[98], [117, 112, 112, 101, 114], [], [[97]]⟩
theorem wanted_need : needL [ruleUp] [[98]] = [0] := by
  have h0 : reachB [ruleUp] [[98]] 0 = true := reachB_iff.2 (.root (by
    have : needKs [ruleUp] [[98]] = [0] := by kernel_rfl
    rw [this]; exact .head _))
  unfold needL
  show List.filter (reachB [ruleUp] [[98]]) [0] = [0]
  rw [List.filter_cons_of_pos h0]
  rfl
theorem wanted_plain : wantRes [ruleUp] [([97], [120])] [98] = ([88], (0, -1)) := by
  have e1 : (sheetFault [ruleUp]).1 = 0 := by kernel_rfl
  have e2 : madeB [ruleUp] [98] = true := by kernel_rfl
  have h1 : partB [ruleUp] [0] = some [0] := by kernel_rfl
  have h2 : wantW [ruleUp] [([97], [120])] [98] = ([88], 0) := by kernel_rfl
  unfold wantRes
  rw [wanted_need, if_neg (by rw [e1]; simp), if_neg (by rw [e2]; simp), h1, h2]

abbrev wantedW (w : World) : World := (w.alloc (.cells #[S [97]] 9 (0, 0))).alloc (.cells #[S [98], S [117, 112, 112, 101, 114], S [], .slice (some ⟨w.heap.size, 0, none⟩) 1 1] 62 (0, 0))
theorem wanted_rd (w : World) : RdR (wantedW w) (.slice (some ⟨w.heap.size + 1, 0, none⟩) 1 1) [ruleUp] := by
  have h1 := (MapKept.heap_alloc w (.cells #[S [97]] 9 (0, 0))).1
  have h2 := (MapKept.heap_alloc (w.alloc (.cells #[S [97]] 9 (0, 0))) (.cells #[S [98], S [117, 112, 112, 101, 114], S [], .slice (some ⟨w.heap.size, 0, none⟩) 1 1] 62 (0, 0))).1
  have hs : (w.alloc (.cells #[S [97]] 9 (0, 0))).heap.size = w.heap.size + 1 := by simp
  rw [hs] at h2
  have h3 := (Only.alloc (fun _ => False) (w.alloc (.cells #[S [97]] 9 (0, 0))) (.cells #[S [98], S [117, 112, 112, 101, 114], S [], .slice (some ⟨w.heap.size, 0, none⟩) 1 1] 62 (0, 0))).heapOf h1 (fun h => h)
  refine ⟨_, 1, rfl, Nat.le_refl _, by decide, fun _ => ⟨w.heap.size + 1, 0, rfl, fun i r hi => ?_⟩⟩
  match i, hi with
  | 0, hi =>
    cases hi
    refine ⟨.slice (some ⟨w.heap.size, 0, none⟩) 1 1, ⟨_, 1, rfl, Nat.le_refl _, by decide, fun _ => ⟨w.heap.size, 0, rfl, fun j s hj => ?_⟩⟩, ?_, ?_, ?_, ?_⟩
    · match j, hj with
      | 0, hj => cases hj; rw [cell_of_heap h3]; rfl
      | j + 1, hj => simp [ruleUp] at hj
    all_goals (rw [cell_of_heap h2]; rfl)
  | i + 1, hi => simp at hi

set_option maxRecDepth 100000 in
set_option maxHeartbeats 2000000 in
theorem wanted_any (w : World) (P : Nat → Addr) (hV : PV w P [1, 2, 3, 4, 5, 6, 7, 8, 9]) : Calls Tryz.prog 49 #[] w (RetE (.bool true) w) := by
  have HVV := Lib.hid hV
  have e1 : putCode [] [97] [120] = 0 := by decide +kernel
  have e2 : putT [] [97] [120] = [([97], [120])] := by decide +kernel
  have E1 := Lib.hid e1
  have E2 := Lib.hid e2
  clear hV e1 e2
  go_enter Tryz.func49, Tryz.ntmps49
  go_wp2_with fail
  refine (treeNew_any w).mono ?_
  rintro e w1 ⟨rfl, ht, ho, _⟩
  have HT := Lib.hid ht
  have HO := Lib.hid ho
  clear ht ho
  have hput := treePut_any w1 P (w.heap.size + 1) w.heap.size [] [97] [120] HT.out Fits.nil ((HVV.out.ext HO.out).errs.sub (by decide)) (HVV.out.ext HO.out).max (by decide) (by simp)
  unfold PutIs at hput
  rw [E1.out, E2.out, show errC P 0 = .nilIface from rfl] at hput
  have HPU := Lib.hid hput
  clear hput
  obtain ⟨b, hb⟩ : ∃ b, b = w.heap.size + 1 := ⟨_, rfl⟩
  rw [← hb] at HPU
  rw [← hb]
  have hbn := Nat.lt_succ_self w.heap.size
  rw [← Nat.succ_eq_add_one] at hb
  have HB := Lib.hid hb
  clear hb hbn
  go_wp2_with fail
  refine HPU.out.mono ?_
  rintro e w2 ⟨rfl, ht2, ho2⟩
  have HX : Hid (Ext w w2) := Lib.hid (HO.out.trans ho2 (fun _ _ h => h) (fun i hi e => by omega))
  have hx3 : Ext w2 (wantedW w2) := (Only.alloc _ w2 _).thenAlloc _
  have hwo := wantOf_any (wantedW w2) P b w.heap.size [([97], [120])] _ [ruleUp] [98] (ht2.ext hx3) (fun p s h => by have := mem_of_lookup h; simp at this; rw [this.2]; decide) (wanted_rd w2)
    (fun r hr => by rw [List.mem_singleton] at hr; subst hr; exact ⟨by decide, by decide, by decide, by decide, by decide⟩) (fun r hr => by rw [List.mem_singleton] at hr; subst hr; decide) ((HVV.out.ext (HX.out.then hx3)).sub (by decide))
  rw [wanted_plain] at hwo
  have HWO := Lib.hid hwo
  have HX3 := Lib.hid (HX.out.then hx3)
  clear ht2 ho2 hwo hx3
  go_wp2_with fail
  refine HWO.out.mono ?_
  rintro e w3 ⟨ev, rfl, he, ho3⟩
  obtain rfl := he.zero rfl
  have HX4 := Lib.hid (HX3.out.then ho3)
  clear ho3 he
  go_wp2_with fail
  go_ret
  exact ⟨rfl, HX4.out⟩

/-! ### rules taken out of others -/
structure PartAt (w wr : World) (v : Value) (ps : List (Rule × Option Addr × Nat × Nat)) : Prop where
  ext : Ext w wr
  row : wr.ownsRow w.heap.size 62 4 v ps.length (ps.flatMap encR)
  texts : ∀ p ∈ ps, Rd S w (SV p.2) p.1.ins
theorem PartAt.nil (w : World) : PartAt w w (.slice none 0 0) [] := ⟨Only.refl _ _, World.ownsRow_nil _ _ _ _, by simp⟩
theorem PartAt.grow {w wr w' : World} {v : Value} {ps : List (Rule × Option Addr × Nat × Nat)} (h : PartAt w wr v ps) (ho : Ext wr w') : PartAt w w' v ps := ⟨h.ext.then ho, ho.row h.row (fun _ _ h => h), h.texts⟩
theorem PartAt.push {w wr w2 : World} {v v' : Value} {u : Option Addr × Nat × Nat} {ps : List (Rule × Option Addr × Nat × Nat)} {r : Rule} (h : PartAt w wr v ps) (hu : Rd S w (SV u) r.ins) (hr : w2.ownsRow w.heap.size 62 4 v' (ps.length + 1) ((ps ++ [(r, u)]).flatMap encR)) (hg : wr.grownBy w2 v.ownBlock) : PartAt w w2 v' (ps ++ [(r, u)]) := by
  have ho : Only (fun b => v.ownBlock = some b) wr w2 := Only.of_grown hg
  refine ⟨h.ext.trans ho (fun _ _ h => h) (fun i hi e => by have := (h.row.lt i e).1; omega), by rw [List.length_append]; exact hr, fun p hp => ?_⟩
  rcases List.mem_append.1 hp with hp | hp
  · exact h.texts p hp
  · rw [List.mem_singleton] at hp
    subst hp
    exact hu
theorem PartAt.rd {w wr : World} {v : Value} {ps : List (Rule × Option Addr × Nat × Nat)} {l : List Rule} (h : PartAt w wr v ps) (hl : ps.map Prod.fst = l) : RdR wr v l := by
  have hs := RdS.of_row encR_len h.row
  obtain ⟨a, cap, h1, h2, h3, h4⟩ := hs
  have hlen : ps.length = l.length := by rw [← hl, List.length_map]
  refine ⟨a, cap, by rw [← hlen]; exact h1, by omega, h3, fun hne => ?_⟩
  obtain ⟨b, off, h5, h6⟩ := h4 (by intro e; rw [e] at hl; exact hne hl.symm)
  refine ⟨b, off, h5, fun i r hi => ?_⟩
  rw [← hl, List.getElem?_map] at hi
  obtain ⟨p, hp, rfl⟩ := Option.map_eq_some_iff.1 hi
  refine ⟨SV p.2, (h.texts p (List.mem_of_getElem? hp)).ext h.ext, ?_, ?_, ?_, ?_⟩
  · have := h6 i p hp 0 _ rfl; rwa [Nat.add_zero] at this
  · exact h6 i p hp 1 _ rfl
  · exact h6 i p hp 2 _ rfl
  · exact h6 i p hp 3 _ rfl
end Go.Proofs.YtnmhaipjfpongabGreatDoor

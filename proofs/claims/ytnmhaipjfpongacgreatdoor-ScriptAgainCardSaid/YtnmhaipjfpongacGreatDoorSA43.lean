/- Texts of this seat laid together for one claim: Sc2. No condition of its own: what each proves stands with its theorems. -/
import Derived.Deep.CutBlock
import Derived.Deep.DeepCutAuto
import Derived.Deep.RegionHeld3
import Derived.Test.YtnmhaipjfpongacGreatDoorSA18
import Derived.Test.YtnmhaipjfpongacGreatDoorSA42
namespace Go.Proofs.YtnmhaipjfpongacGreatDoor
open Go.ChangeShapes Go.WideShapes Go.ChangeAt Go.RowKit

theorem cut3_any (w : World) (s : B) (hs : s.length ≤ 1000000) (hm : HasMax w) :
  Calls Tryz.prog 203 #[S s, .string ⟨#[32, 61, 32]⟩] w fun e w' => e = .returned (.tuple #[S (Lib.cut s [32, 61, 32]).1, S (Lib.cut s [32, 61, 32]).2.1, .bool (Lib.cut s [32, 61, 32]).2.2]) ∧ Ext w w' := by
 obtain ⟨m, hm⟩ := hm
 refine (Tryz.strings_Cut ⟨s.toArray⟩ ⟨#[32, 61, 32]⟩ m w (by simp [ByteArray.size]; omega) hm).mono ?_
 rintro e w' ⟨rfl, n, rfl⟩
 exact ⟨rfl, Only.drewN _ _ _⟩
theorem cut3_len (s : B) : (Lib.cut s [32, 61, 32]).1.length ≤ s.length ∧ (Lib.cut s [32, 61, 32]).2.1.length ≤ s.length := by
 unfold Lib.cut
 split
 ·simp only [List.length_take, List.length_drop]
  omega
 ·simp
def blankB (s : B) : Bool := [32].isPrefixOf s
set_option maxRecDepth 100000 in
set_option maxHeartbeats 2000000 in
theorem cutPrefixL_any (w : World) (s : B) (hs : s.length ≤ 1000000) : Calls Tryz.prog 340 #[S s, S [32]] w fun e w' => e = .returned (.tuple #[S (if blankB s then s.drop 1 else s), .bool (blankB s)]) ∧ w = w' := by
 have hsz : (s.length : Int) ≤ 1000000 := by omega
 have hpx := hasPrefixL_any w s [32]
 cases hp : blankB s
 all_goals
  rw [show ([32] : B).isPrefixOf s = _ from hp] at hpx
  have HPX := Lib.hid hpx
 ·clear hp hpx
  go_enter Tryz.func340, Tryz.ntmps340
  go_wp2_with fail
  refine HPX.out.mono ?_
  rintro e w1 ⟨rfl, rfl⟩
  go_wp2_with fail
  go_ret2
  exact ⟨rfl, rfl⟩
 ·have hl : 1 ≤ s.length := by
   cases s with
   | nil => cases hp
   | cons _ _ => simp
  have hlz : (1 : Int) ≤ (s.length : Int) := by omega
  have hmd := ba_mid s 1 s.length
  rw [List.take_length] at hmd
  clear hp hpx
  go_enter Tryz.func340, Tryz.ntmps340
  go_wp2_with fail
  refine HPX.out.mono ?_
  rintro e w1 ⟨rfl, rfl⟩
  go_wp2_with fail
  go_ret2
  exact ⟨rfl, rfl⟩
theorem cutPrefix_any (w : World) (s : B) (hs : s.length ≤ 1000000) : Calls Tryz.prog 329 #[S s, S [32]] w fun e w' => e = .returned (.tuple #[S (if blankB s then s.drop 1 else s), .bool (blankB s)]) ∧ w = w' := by
 have H := Lib.hid (cutPrefixL_any w s hs)
 generalize (if blankB s then s.drop 1 else s) = r at H
 generalize blankB s = b at H
 go_enter Tryz.func329, Tryz.ntmps329
 go_wp2_with fail
 refine H.out.mono ?_
 rintro e w1 ⟨rfl, rfl⟩
 go_wp2_with fail
 go_ret2
 exact ⟨rfl, rfl⟩
def RetLine (x : Option Rule) (w : World) (e : Ending) (w' : World) : Prop :=
 Ext w w' ∧ ∃ (a b c : B) (au : Option Addr) (n cu : Nat) (ok : Bool), e = .returned (.tuple #[.agg #[S a, S b, S c, .slice au n cu], .bool ok]) ∧
  ((x = none ∧ ok = false) ∨ (∃ r, x = some r ∧ ok = true ∧ a = r.out ∧ b = r.kind ∧ c = r.word ∧ n = r.ins.length ∧ Row w.heap.size w' (.slice au n cu) r.ins))
theorem line_results (tmps : Array Value) (W : World) (h : Nat) (a b c d v : Value) (h2 : tmps[2]? = some (.pointer (some ⟨h, 0, none⟩))) (h3 : tmps[3]? = some v) (d0 : W.cell? ⟨h, 0, none⟩ = some a) (d1 : W.cell? ⟨h, 1, none⟩ = some b) (d2 : W.cell? ⟨h, 2, none⟩ = some c) (d3 : W.cell? ⟨h, 3, none⟩ = some d) :
  (results Tryz.f309 tmps).run Tryz.prog W = .ok (.tuple #[.agg #[a, b, c, d], v]) W := by
 simp only [results, Tryz.results309]
 simp [go_sem, h2, h3, d0, d1, d2, d3]
theorem any_nil (l : List B) : l.any (fun y => [] == y) = decide ([] ∈ l) := by
 rw [Bool.eq_iff_iff, List.any_eq_true, decide_eq_true_eq]
 exact ⟨fun ⟨y, h1, h2⟩ => by rw [eq_of_beq h2]; exact h1, fun h => ⟨[], h, rfl⟩⟩
theorem row_new {w W : World} (h : w.heap.size ≤ W.heap.size) (l : List B) (hl : l.length ≤ maxLen) : Row w.heap.size (W.alloc (.cells (l.map S).toArray 9 (0, 0))) (.slice (some ⟨W.heap.size, 0, none⟩) l.length l.length) l :=
 ⟨by simp, .inr ⟨W.heap.size, l.length, (l.map S).toArray, rfl, h, (MapKept.heap_alloc W _).1, Nat.le_refl _, hl, by simp, by rw [Nat.mul_one]; exact List.take_of_length_le (by simp)⟩⟩
theorem unq_len : ∀ (acc t : B) {wd q : B}, unq acc t = some (wd, q) → q.length ≤ t.length
 | _, [], _, _, h => by simp [unq] at h
 | acc, [c], wd, q, h => by
  unfold unq at h
  split at h
  ·split at h
   ·cases h
   ·cases h; simp
  ·cases h
 | acc, c :: d :: t, wd, q, h => by
  unfold unq at h
  split at h
  ·split at h
   ·cases h
   ·cases h; simp
  ·split at h
   ·have := unq_len _ _ h; simp only [List.length_cons] at this ⊢; omega
   ·split at h
    ·have := unq_len _ _ h; simp only [List.length_cons] at this ⊢; omega
    ·cases h
abbrev RuleO (a b c : B) (d : Value) : Obj := .cells #[S a, S b, S c, d] 55 (0, 0)
set_option maxRecDepth 100000 in
set_option maxHeartbeats 16000000 in
theorem line_any (w : World) (s : B) (hs : s.length ≤ 100000) (hm : HasMax w) : Calls Tryz.prog 309 #[S s] w (RetLine (lineP s) w) := by
 have HM := Lib.hid hm
 obtain ⟨X, hX⟩ : ∃ X, X = lineP s := ⟨_, rfl⟩
 rw [← hX]
 have HC3 := Lib.hid (fun W (hW : Ext w W) => cut3_any W s (by omega) (hm.ext hW))
 have hl3 := cut3_len s
 unfold lineP at hX
 generalize Lib.cut s [32, 61, 32] = q at HC3 hl3 hX
 obtain ⟨o, r1, is1⟩ := q
 have hr1 : r1.length ≤ 100000 := by have := hl3.2; simp only at this; omega
 have HXX := Lib.hid hX
 have hC1 := fun W (hW : Ext w W) => cutD_any W 32 r1 (by omega) (hm.ext hW)
 have hl1 := cut1_len 32 r1
 have HXX : Hid (X = if is1 = false then none else if (cut1 32 r1).2.2 = false then some ⟨o, (cut1 32 r1).1, [], []⟩ else tailP o (cut1 32 r1).1 (cut1 32 r1).2.1) := HXX
 generalize cut1 32 r1 = q at hC1 hl1 HXX
 obtain ⟨k, r2, is2⟩ := q
 have HC1 := Lib.hid hC1
 have HRL2 : Hid (r2.length ≤ 100000) := Lib.hid (by have := hl1.2; simp only at this; omega)
 obtain ⟨rb, hrb⟩ : ∃ rb, rb = w.heap.size := ⟨_, rfl⟩
 have HRB := Lib.hid hrb
 clear hm hX hl3 hr1 hl1 hC1 hs hrb
 go_enter Tryz.func309, Tryz.ntmps309
 go_wp2_with fail
 have hx0 := Only.alloc (fun _ => False) w (RuleO [] [] [] (.slice none 0 0))
 have hb0 := (MapKept.heap_alloc w (RuleO [] [] [] (.slice none 0 0))).1
 refine (HC3.out _ hx0).mono ?_
 rintro e w1 ⟨rfl, ho1⟩
 have hb1 := ho1.heapOf hb0 (fun h => h)
 rw [← HRB.out] at hb1 ⊢
 have HB1 := Lib.hid hb1
 have HX1 := Lib.hid (hx0.then ho1)
 clear hx0 hb0 ho1 hb1
 cases is1
 case false =>
  have HXN : Hid (X = none) := Lib.hid (by rw [HXX.out, if_pos rfl])
  have c0 := (cell_of_heap HB1.out 0).trans (rfl : _ = some (S [] : Value))
  have c1 := (cell_of_heap HB1.out 1).trans (rfl : _ = some (S [] : Value))
  have c2 := (cell_of_heap HB1.out 2).trans (rfl : _ = some (S [] : Value))
  have c3 := (cell_of_heap HB1.out 3).trans (rfl : _ = some (Value.slice none 0 0 : Value))
  have f0 := free_of_heap HB1.out 0
  have f1 := free_of_heap HB1.out 1
  have f2 := free_of_heap HB1.out 2
  have f3 := free_of_heap HB1.out 3
  obtain ⟨hcz, hoz⟩ := four_set (a' := S []) (b' := S []) (c' := S []) (d' := Value.slice none 0 0) HB1.out
  have HZ := Lib.hid hcz
  have HXZ := Lib.hid (HX1.out.trans hoz (fun _ _ h => h) (fun i hi e => by have e : i = rb := e; have := HRB.out; omega))
  clear hcz hoz
  go_wp2_with fail
  exact bodyPost_ret (v := .tuple #[.agg #[S [], S [], S [], Value.slice none 0 0], .bool false]) (line_results _ _ rb _ _ _ _ _ rfl rfl ((cell_of_heap HZ.out 0).trans rfl) ((cell_of_heap HZ.out 1).trans rfl) ((cell_of_heap HZ.out 2).trans rfl) ((cell_of_heap HZ.out 3).trans rfl)) rfl ⟨HXZ.out, [], [], [], none, 0, 0, false, rfl, .inl ⟨HXN.out, rfl⟩⟩
 case true =>
  have c0 := (cell_of_heap HB1.out 0).trans (rfl : _ = some (S []))
  have f0 := free_of_heap HB1.out 0
  have hs0 : Only (fun i => i = rb) w1 (w1.setCell ⟨rb, 0, none⟩ (S o)) := Only.set (p := fun i => i = rb) _ rfl
  have HB2 : Hid ((w1.setCell ⟨rb, 0, none⟩ (S o)).heap[rb]? = some (RuleO o [] [] (.slice none 0 0))) := Lib.hid (heap_setCell_same HB1.out 0 (S o))
  have HX2 : Hid (Ext w (w1.setCell ⟨rb, 0, none⟩ (S o))) := Lib.hid (HX1.out.trans hs0 (fun _ _ h => h) (fun i hi e => by have e : i = rb := e; have := HRB.out; omega))
  clear hs0
  go_wp2_with fail
  generalize (w1.setCell ⟨rb, 0, none⟩ (S o)) = w2 at HB2 HX2 ⊢
  clear c0 f0 HB1 HX1
  refine (HC1.out _ HX2.out).mono ?_
  rintro e w3 ⟨rfl, ho3⟩
  have hb3 := ho3.heapOf HB2.out (fun h => h)
  have hx3 := HX2.out.then ho3
  have c1 := (cell_of_heap hb3 1).trans (rfl : _ = some (S []))
  have f1 := free_of_heap hb3 1
  have hs1 : Only (fun i => i = rb) w3 (w3.setCell ⟨rb, 1, none⟩ (S k)) := Only.set (p := fun i => i = rb) _ rfl
  have HB4 : Hid ((w3.setCell ⟨rb, 1, none⟩ (S k)).heap[rb]? = some (RuleO o k [] (.slice none 0 0))) := Lib.hid (heap_setCell_same hb3 1 (S k))
  have HX4 : Hid (Ext w (w3.setCell ⟨rb, 1, none⟩ (S k))) := Lib.hid (hx3.trans hs1 (fun _ _ h => h) (fun i hi e => by have e : i = rb := e; have := HRB.out; omega))
  obtain ⟨w4, hw4⟩ : ∃ w4, w4 = w3.setCell ⟨rb, 1, none⟩ (S k) := ⟨_, rfl⟩
  rw [← hw4] at HB4 HX4
  have HW4 := Lib.hid hw4.symm
  clear hs1 hb3 hx3 ho3 hw4
  cases is2
  case false =>
   have HXS : Hid (X = some ⟨o, k, [], []⟩) := Lib.hid (by rw [HXX.out, if_neg (by decide), if_pos rfl])
   go_upto_if 26 with fail
   rw [HW4.out]
   clear c1 f1
   have c0 := (cell_of_heap HB4.out 0).trans (rfl : _ = some (S o : Value))
   have c1 := (cell_of_heap HB4.out 1).trans (rfl : _ = some (S k : Value))
   have c2 := (cell_of_heap HB4.out 2).trans (rfl : _ = some (S [] : Value))
   have c3 := (cell_of_heap HB4.out 3).trans (rfl : _ = some (Value.slice none 0 0 : Value))
   have f0 := free_of_heap HB4.out 0
   have f1 := free_of_heap HB4.out 1
   have f2 := free_of_heap HB4.out 2
   have f3 := free_of_heap HB4.out 3
   obtain ⟨hcz, hoz⟩ := four_set (a' := S o) (b' := S k) (c' := S []) (d' := Value.slice none 0 0) HB4.out
   have HZ := Lib.hid hcz
   have HXZ := Lib.hid (HX4.out.trans hoz (fun _ _ h => h) (fun i hi e => by have e : i = rb := e; have := HRB.out; omega))
   clear hcz hoz
   go_wp2_with fail
   exact bodyPost_ret (v := .tuple #[.agg #[S o, S k, S [], Value.slice none 0 0], .bool true]) (line_results _ _ rb _ _ _ _ _ rfl rfl ((cell_of_heap HZ.out 0).trans rfl) ((cell_of_heap HZ.out 1).trans rfl) ((cell_of_heap HZ.out 2).trans rfl) ((cell_of_heap HZ.out 3).trans rfl)) rfl ⟨HXZ.out, o, k, [], none, 0, 0, true, rfl, .inr ⟨⟨o, k, [], []⟩, HXS.out, rfl, rfl, rfl, rfl, rfl, Row.nil _ _⟩⟩
  case true =>
   have HXT : Hid (X = tailP o k r2) := Lib.hid (by rw [HXX.out, if_neg (by decide), if_neg (by decide)])
   have HHP := Lib.hid (hasPrefix_any w4 r2 [34])
   unfold tailP at HXT
   cases hpq : ([34] : B).isPrefixOf r2
   case false =>
    rw [hpq] at HHP HXT
    have HXS : Hid (X = if [] ∈ cutc 32 r2 then none else some ⟨o, k, [], cutc 32 r2⟩) := Lib.hid (by rw [HXT.out, if_neg (by decide)]; rfl)
    clear hpq HXT
    go_wp2_with fail
    rw [HW4.out]
    clear c1 f1
    refine HHP.out.mono ?_
    rintro e w9 ⟨rfl, rfl⟩
    have HRL := HRL2
    have HSP := Lib.hid (splitC_any w4 32 r2 (by have := HRL.out; omega) (HM.out.ext HX4.out))
    have hal := Only.alloc (fun _ => False) w4 (.cells ((cutc 32 r2).map S).toArray 9 (0, 0))
    have hbl := hal.heapOf HB4.out (fun h => h)
    have hrl : Row w.heap.size (w4.alloc (.cells ((cutc 32 r2).map S).toArray 9 (0, 0))) (.slice (some ⟨w4.heap.size, 0, none⟩) (cutc 32 r2).length (cutc 32 r2).length) (cutc 32 r2) := row_new HX4.out.size (cutc 32 r2) (by have := cutc_len_le 32 r2; have := HRL.out; unfold maxLen; omega)
    have hst : Only (fun i => i = rb) (w4.alloc (.cells ((cutc 32 r2).map S).toArray 9 (0, 0))) ((w4.alloc (.cells ((cutc 32 r2).map S).toArray 9 (0, 0))).setCell ⟨rb, 3, none⟩ (.slice (some ⟨w4.heap.size, 0, none⟩) (cutc 32 r2).length (cutc 32 r2).length)) := Only.set (p := fun i => i = rb) _ rfl
    have HB5 := Lib.hid (heap_setCell_same hbl 3 (.slice (some ⟨w4.heap.size, 0, none⟩) (cutc 32 r2).length (cutc 32 r2).length))
    have hrb : rb < w4.heap.size := lt_of_heap HB4.out
    have HR5 := Lib.hid (hst.row hrl (fun i e k => by have k : i = rb := k; have e : w4.heap.size = i := Option.some.inj e; omega))
    have HX5 := Lib.hid ((HX4.out.then hal).trans hst (fun _ _ h => h) (fun i hi e => by have e : i = rb := e; have := HRB.out; omega))
    have c3 := (cell_of_heap hbl 3).trans (rfl : _ = some (Value.slice none 0 0))
    have f3 := free_of_heap hbl 3
    have HCA : Hid ((cutc 32 r2).any (fun y => [] == y) = decide ([] ∈ cutc 32 r2)) := Lib.hid (any_nil _)
    generalize (cutc 32 r2) = ins at HSP hal hbl hrl hst HB5 HR5 HX5 c3 f3 HCA HXS
    obtain ⟨w5, hw5⟩ : ∃ w5, w5 = ((w4.alloc (.cells (ins.map S).toArray 9 (0, 0))).setCell ⟨rb, 3, none⟩ (.slice (some ⟨w4.heap.size, 0, none⟩) ins.length ins.length)) := ⟨_, rfl⟩
    obtain ⟨g5, hg5⟩ : ∃ g5, g5 = w4.heap.size := ⟨_, rfl⟩
    rw [← hw5, ← hg5] at HB5 HR5
    rw [← hw5] at HX5
    have HW5 := Lib.hid hw5.symm
    have HG5 := Lib.hid hg5.symm
    have HBB : Hid (w5.heap[rb]? = some (RuleO o k [] (.slice (some ⟨g5, 0, none⟩) ins.length ins.length))) := Lib.hid (HB5.out.trans (by simp))
    clear hal hbl hrl hst hrb hw5 hg5 HB5
    go_wp2_with fail
    refine HSP.out.mono ?_
    rintro e w4 ⟨rfl, rfl⟩
    go_wp2_with fail
    rw [HW5.out, HG5.out]
    have HKS := Lib.hid (fun wq (hq : Ext w5 wq) => (And.intro ((cell_of_heap (hq.heapOf HBB.out (fun h => h)) 0).trans rfl) (And.intro ((cell_of_heap (hq.heapOf HBB.out (fun h => h)) 1).trans rfl) (And.intro ((cell_of_heap (hq.heapOf HBB.out (fun h => h)) 2).trans rfl) ((cell_of_heap (hq.heapOf HBB.out (fun h => h)) 3).trans rfl))) : wq.cell? ⟨rb, 0, none⟩ = some (S o) ∧ wq.cell? ⟨rb, 1, none⟩ = some (S k) ∧ wq.cell? ⟨rb, 2, none⟩ = some (S []) ∧ wq.cell? ⟨rb, 3, none⟩ = some (.slice (some ⟨g5, 0, none⟩) ins.length ins.length)))
    have HCT := Lib.hid (fun wq (hq : Ext w5 wq) => containsT_any wq _ ins [] ((Row.rd (l := ins) HR5.out).ext hq))
    clear c3 f3
    obtain ⟨bb, hbb⟩ : ∃ bb, bb = (ins.any fun y => [] == y) := ⟨_, rfl⟩
    rw [← hbb] at HCT HCA
    have HXB : Hid ((bb = true ∧ X = none) ∨ (bb = false ∧ X = some ⟨o, k, [], ins⟩)) := Lib.hid (by
     rw [HCA.out, HXS.out]
     by_cases hin : [] ∈ ins
     ·exact .inl ⟨decide_eq_true hin, if_pos hin⟩
     ·exact .inr ⟨decide_eq_false hin, if_neg hin⟩)
    have c0 := (cell_of_heap HBB.out 0).trans (rfl : _ = some (S o))
    have c1 := (cell_of_heap HBB.out 1).trans (rfl : _ = some (S k))
    have c2 := (cell_of_heap HBB.out 2).trans (rfl : _ = some (S []))
    have c3 := (cell_of_heap HBB.out 3).trans (rfl : _ = some (Value.slice (some ⟨g5, 0, none⟩) ins.length ins.length))
    have f0 := free_of_heap HBB.out 0
    have f1 := free_of_heap HBB.out 1
    have f2 := free_of_heap HBB.out 2
    have f3 := free_of_heap HBB.out 3
    obtain ⟨hcz, hoz⟩ := four_set (a' := S o) (b' := S k) (c' := S []) (d' := Value.slice (some ⟨g5, 0, none⟩) ins.length ins.length) HBB.out
    have HZ := Lib.hid ((Only.drew (fun _ => False) _).heapOf hcz (fun h => h))
    have HXZ := Lib.hid ((HX5.out.trans hoz (fun _ _ h => h) (fun i hi e => by have e : i = rb := e; have := HRB.out; omega)).thenDrew)
    have HRZ : Hid (Row w.heap.size _ (.slice (some ⟨g5, 0, none⟩) ins.length ins.length) ins) := Lib.hid ((Only.drew (fun _ => False) _).row (hoz.row HR5.out (fun i e k => by
     have k : i = rb := k
     have e : g5 = i := Option.some.inj e
     have h1 := lt_of_heap HB4.out
     have h2 := HG5.out
     omega)) (fun _ _ h => h))
    have HSZ := Lib.hid (And.intro ((cell_of_heap HZ.out 0).trans (rfl : _ = some (S o))) (And.intro ((cell_of_heap HZ.out 1).trans (rfl : _ = some (S k))) (And.intro ((cell_of_heap HZ.out 2).trans (rfl : _ = some (S []))) ((cell_of_heap HZ.out 3).trans (rfl : _ = some (Value.slice (some ⟨g5, 0, none⟩) ins.length ins.length))))))
    clear hcz hoz hbb
    refine wp_region_held_drew (S := fun wq => wq.cell? ⟨rb, 0, none⟩ = some (S o) ∧ wq.cell? ⟨rb, 1, none⟩ = some (S k) ∧ wq.cell? ⟨rb, 2, none⟩ = some (S []) ∧ wq.cell? ⟨rb, 3, none⟩ = some (.slice (some ⟨g5, 0, none⟩) ins.length ins.length)) (by kernel_rfl) (HKS.out _ (Only.drew _ _)) (fun hHeld => ?_)
    refine takeN 0 ?_
    refine takeN 1 ?_
    refine takeN 2 ?_
    refine wpAnyH_ready (rs := [3]) (by kernel_rfl) (by simp) ?_
    refine AllReadyH.cons (o := _) rfl (fun K hK => ?_) AllReadyH.nil
    go_simp
    go_at_call 210
    refine (HCT.out _ (Only.drew _ _)).mono ?_
    rintro e w9 ⟨rfl, rfl⟩
    refine hK.out _ _ (HKS.out _ (Only.drew _ _)) (fun hHeld => ?_)
    clear hK K
    try simp only [Act.put, List.setIfInBounds_toArray, List.set_cons_zero, List.set_cons_succ]
    refine takeN 4 ?_
    refine wpAnyH_ready (rs := [5]) (by kernel_rfl) (by simp) ?_
    refine AllReadyH.cons (o := _) rfl (fun K hK => ?_) AllReadyH.nil
    go_simp
    refine hK.out _ _ (HSZ.out) (fun hHeld => ?_)
    clear hK K
    try simp only [Act.put, List.setIfInBounds_toArray, List.set_cons_zero, List.set_cons_succ]
    refine takeN 6 ?_
    refine wpAnyH_done (by kernel_rfl) ?_ _
    go_wp2_with fail
    rcases HXB.out with ⟨rfl, hx⟩ | ⟨rfl, hx⟩
    ·exact bodyPost_ret (v := .tuple #[.agg #[S o, S k, S [], Value.slice (some ⟨g5, 0, none⟩) ins.length ins.length], .bool false]) (line_results _ _ rb _ _ _ _ _ rfl rfl HSZ.out.1 HSZ.out.2.1 HSZ.out.2.2.1 HSZ.out.2.2.2) rfl ⟨HXZ.out, _, _, _, _, _, _, _, rfl, .inl ⟨hx, rfl⟩⟩
    ·exact bodyPost_ret (v := .tuple #[.agg #[S o, S k, S [], Value.slice (some ⟨g5, 0, none⟩) ins.length ins.length], .bool true]) (line_results _ _ rb _ _ _ _ _ rfl rfl HSZ.out.1 HSZ.out.2.1 HSZ.out.2.2.1 HSZ.out.2.2.2) rfl ⟨HXZ.out, _, _, _, _, _, _, _, rfl, .inr ⟨_, hx, rfl, rfl, rfl, rfl, rfl, HRZ.out⟩⟩
   case true =>
    rw [hpq] at HHP HXT
    have hne : r2 ≠ [] := by rintro rfl; cases hpq
    have HUN := Lib.hid (fun W (hW : Ext w W) => unquote_any W r2 HRL2.out hne (HM.out.ext hW))
    have HUL := Lib.hid (fun wd q (h : unq [] (r2.drop 1) = some (wd, q)) => (unq_len _ _ h : q.length ≤ (r2.drop 1).length))
    have HXU : Hid (X = afterQ o k (unq [] (r2.drop 1))) := Lib.hid (by rw [HXT.out, if_pos rfl])
    clear hpq hne HXT
    generalize unq [] (r2.drop 1) = U at HUN HXU HUL
    go_wp2_with fail
    rw [HW4.out]
    clear c1 f1
    refine HHP.out.mono ?_
    rintro e w9 ⟨rfl, rfl⟩
    go_wp2_with fail
    refine (HUN.out _ HX4.out).mono ?_
    rintro e w5 ⟨ho5, wd, q, ok, rfl, hcase⟩
    have hb5 := ho5.heapOf HB4.out (fun h => h)
    have hx5 := HX4.out.then ho5
    have c2 := (cell_of_heap hb5 2).trans (rfl : _ = some (S []))
    have f2 := free_of_heap hb5 2
    have hs2 : Only (fun i => i = rb) w5 (w5.setCell ⟨rb, 2, none⟩ (S wd)) := Only.set (p := fun i => i = rb) _ rfl
    have HB6 : Hid ((w5.setCell ⟨rb, 2, none⟩ (S wd)).heap[rb]? = some (RuleO o k wd (.slice none 0 0))) := Lib.hid (heap_setCell_same hb5 2 (S wd))
    have HX6 : Hid (Ext w (w5.setCell ⟨rb, 2, none⟩ (S wd))) := Lib.hid (hx5.trans hs2 (fun _ _ h => h) (fun i hi e => by have e : i = rb := e; have := HRB.out; omega))
    obtain ⟨w6, hw6⟩ : ∃ w6, w6 = w5.setCell ⟨rb, 2, none⟩ (S wd) := ⟨_, rfl⟩
    rw [← hw6] at HB6 HX6
    have HW6 := Lib.hid hw6.symm
    clear hs2 hb5 hx5 ho5 hw6
    rcases hcase with ⟨hU, hok⟩ | ⟨hU, hok⟩
    case inr =>
     subst hok
     have HXN : Hid (X = none) := Lib.hid (by rw [HXU.out, hU]; rfl)
     clear hU HXU
     go_upto_if 38 with fail
     rw [HW6.out]
     clear c2 f2
     have c0 := (cell_of_heap HB6.out 0).trans (rfl : _ = some (S o : Value))
     have c1 := (cell_of_heap HB6.out 1).trans (rfl : _ = some (S k : Value))
     have c2 := (cell_of_heap HB6.out 2).trans (rfl : _ = some (S wd : Value))
     have c3 := (cell_of_heap HB6.out 3).trans (rfl : _ = some (Value.slice none 0 0 : Value))
     have f0 := free_of_heap HB6.out 0
     have f1 := free_of_heap HB6.out 1
     have f2 := free_of_heap HB6.out 2
     have f3 := free_of_heap HB6.out 3
     obtain ⟨hcz, hoz⟩ := four_set (a' := S []) (b' := S []) (c' := S []) (d' := Value.slice none 0 0) HB6.out
     have HZ := Lib.hid hcz
     have HXZ := Lib.hid (HX6.out.trans hoz (fun _ _ h => h) (fun i hi e => by have e : i = rb := e; have := HRB.out; omega))
     clear hcz hoz
     go_wp2_with fail
     exact bodyPost_ret (v := .tuple #[.agg #[S [], S [], S [], Value.slice none 0 0], .bool false]) (line_results _ _ rb _ _ _ _ _ rfl rfl ((cell_of_heap HZ.out 0).trans rfl) ((cell_of_heap HZ.out 1).trans rfl) ((cell_of_heap HZ.out 2).trans rfl) ((cell_of_heap HZ.out 3).trans rfl)) rfl ⟨HXZ.out, [], [], [], none, 0, 0, false, rfl, .inl ⟨HXN.out, rfl⟩⟩
    case inl =>
     subst hok
     have HQL : Hid (q.length ≤ 100000) := Lib.hid (by have h1 := HUL.out wd q hU; have h2 := HRL2.out; rw [List.length_drop] at h1; omega)
     have HXQ : Hid (X = if q = [] then some ⟨o, k, wd, []⟩ else if [32].isPrefixOf q then insP o k wd (q.drop 1) else none) := Lib.hid (by rw [HXU.out, hU]; rfl)
     clear hU HXU HUL
     by_cases hq : q = []
     case pos =>
      have HXS : Hid (X = some ⟨o, k, wd, []⟩) := Lib.hid (by rw [HXQ.out, if_pos hq])
      subst hq
      go_upto_if 41 with fail
      rw [HW6.out]
      clear c2 f2
      have c0 := (cell_of_heap HB6.out 0).trans (rfl : _ = some (S o : Value))
      have c1 := (cell_of_heap HB6.out 1).trans (rfl : _ = some (S k : Value))
      have c2 := (cell_of_heap HB6.out 2).trans (rfl : _ = some (S wd : Value))
      have c3 := (cell_of_heap HB6.out 3).trans (rfl : _ = some (Value.slice none 0 0 : Value))
      have f0 := free_of_heap HB6.out 0
      have f1 := free_of_heap HB6.out 1
      have f2 := free_of_heap HB6.out 2
      have f3 := free_of_heap HB6.out 3
      obtain ⟨hcz, hoz⟩ := four_set (a' := S o) (b' := S k) (c' := S wd) (d' := Value.slice none 0 0) HB6.out
      have HZ := Lib.hid hcz
      have HXZ := Lib.hid (HX6.out.trans hoz (fun _ _ h => h) (fun i hi e => by have e : i = rb := e; have := HRB.out; omega))
      clear hcz hoz
      go_wp2_with fail
      exact bodyPost_ret (v := .tuple #[.agg #[S o, S k, S wd, Value.slice none 0 0], .bool true]) (line_results _ _ rb _ _ _ _ _ rfl rfl ((cell_of_heap HZ.out 0).trans rfl) ((cell_of_heap HZ.out 1).trans rfl) ((cell_of_heap HZ.out 2).trans rfl) ((cell_of_heap HZ.out 3).trans rfl)) rfl ⟨HXZ.out, o, k, wd, none, 0, 0, true, rfl, .inr ⟨⟨o, k, wd, []⟩, HXS.out, rfl, rfl, rfl, rfl, rfl, Row.nil _ _⟩⟩
     case neg =>
      have hqb : (q == ([] : B)) = false := beq_eq_false_iff_ne.2 hq
      have HCP := Lib.hid (cutPrefix_any w6 q (by have := HQL.out; omega))
      cases hbq : blankB q
      case false =>
       have HXN : Hid (X = none) := Lib.hid (by rw [HXQ.out, if_neg hq, if_neg (by rw [show ([32] : B).isPrefixOf q = blankB q from rfl, hbq]; decide)])
       rw [hbq] at HCP
       clear hbq hq
       go_wp2_with fail
       rw [HW6.out]
       clear c2 f2
       refine HCP.out.mono ?_
       rintro e w9 ⟨rfl, rfl⟩
       go_upto_if 49 with fail
       have c0 := (cell_of_heap HB6.out 0).trans (rfl : _ = some (S o : Value))
       have c1 := (cell_of_heap HB6.out 1).trans (rfl : _ = some (S k : Value))
       have c2 := (cell_of_heap HB6.out 2).trans (rfl : _ = some (S wd : Value))
       have c3 := (cell_of_heap HB6.out 3).trans (rfl : _ = some (Value.slice none 0 0 : Value))
       have f0 := free_of_heap HB6.out 0
       have f1 := free_of_heap HB6.out 1
       have f2 := free_of_heap HB6.out 2
       have f3 := free_of_heap HB6.out 3
       obtain ⟨hcz, hoz⟩ := four_set (a' := S []) (b' := S []) (c' := S []) (d' := Value.slice none 0 0) HB6.out
       have HZ := Lib.hid hcz
       have HXZ := Lib.hid (HX6.out.trans hoz (fun _ _ h => h) (fun i hi e => by have e : i = rb := e; have := HRB.out; omega))
       clear hcz hoz
       go_wp2_with fail
       exact bodyPost_ret (v := .tuple #[.agg #[S [], S [], S [], Value.slice none 0 0], .bool false]) (line_results _ _ rb _ _ _ _ _ rfl rfl ((cell_of_heap HZ.out 0).trans rfl) ((cell_of_heap HZ.out 1).trans rfl) ((cell_of_heap HZ.out 2).trans rfl) ((cell_of_heap HZ.out 3).trans rfl)) rfl ⟨HXZ.out, [], [], [], none, 0, 0, false, rfl, .inl ⟨HXN.out, rfl⟩⟩
      case true =>
       have HXS : Hid (X = if [] ∈ cutc 32 (q.drop 1) then none else some ⟨o, k, wd, cutc 32 (q.drop 1)⟩) := Lib.hid (by rw [HXQ.out, if_neg hq, if_pos (by rw [show ([32] : B).isPrefixOf q = blankB q from rfl, hbq])]; rfl)
       rw [hbq] at HCP
       have HRL : Hid ((q.drop 1).length ≤ 100000) := Lib.hid (by rw [List.length_drop]; have := HQL.out; omega)
       have HCQ : Hid (Calls Tryz.prog 329 #[S q, S [32]] w6 fun e w' => e = .returned (.tuple #[S (q.drop 1), .bool true]) ∧ w6 = w') := HCP
       obtain ⟨r3, hr3⟩ : ∃ r3, r3 = q.drop 1 := ⟨_, rfl⟩
       rw [← hr3] at HCQ HXS HRL
       clear hbq hq HCP hr3
       go_wp2_with fail
       rw [HW6.out]
       clear c2 f2
       refine HCQ.out.mono ?_
       rintro e w9 ⟨rfl, rfl⟩
       have HSP := Lib.hid (splitC_any w6 32 r3 (by have := HRL.out; omega) (HM.out.ext HX6.out))
       have hal := Only.alloc (fun _ => False) w6 (.cells ((cutc 32 r3).map S).toArray 9 (0, 0))
       have hbl := hal.heapOf HB6.out (fun h => h)
       have hrl : Row w.heap.size (w6.alloc (.cells ((cutc 32 r3).map S).toArray 9 (0, 0))) (.slice (some ⟨w6.heap.size, 0, none⟩) (cutc 32 r3).length (cutc 32 r3).length) (cutc 32 r3) := row_new HX6.out.size (cutc 32 r3) (by have := cutc_len_le 32 r3; have := HRL.out; unfold maxLen; omega)
       have hst : Only (fun i => i = rb) (w6.alloc (.cells ((cutc 32 r3).map S).toArray 9 (0, 0))) ((w6.alloc (.cells ((cutc 32 r3).map S).toArray 9 (0, 0))).setCell ⟨rb, 3, none⟩ (.slice (some ⟨w6.heap.size, 0, none⟩) (cutc 32 r3).length (cutc 32 r3).length)) := Only.set (p := fun i => i = rb) _ rfl
       have HB5 := Lib.hid (heap_setCell_same hbl 3 (.slice (some ⟨w6.heap.size, 0, none⟩) (cutc 32 r3).length (cutc 32 r3).length))
       have hrb : rb < w6.heap.size := lt_of_heap HB6.out
       have HR5 := Lib.hid (hst.row hrl (fun i e k => by have k : i = rb := k; have e : w6.heap.size = i := Option.some.inj e; omega))
       have HX5 := Lib.hid ((HX6.out.then hal).trans hst (fun _ _ h => h) (fun i hi e => by have e : i = rb := e; have := HRB.out; omega))
       have c3 := (cell_of_heap hbl 3).trans (rfl : _ = some (Value.slice none 0 0))
       have f3 := free_of_heap hbl 3
       have HCA : Hid ((cutc 32 r3).any (fun y => [] == y) = decide ([] ∈ cutc 32 r3)) := Lib.hid (any_nil _)
       generalize (cutc 32 r3) = ins at HSP hal hbl hrl hst HB5 HR5 HX5 c3 f3 HCA HXS
       obtain ⟨w5, hw5⟩ : ∃ w5, w5 = ((w6.alloc (.cells (ins.map S).toArray 9 (0, 0))).setCell ⟨rb, 3, none⟩ (.slice (some ⟨w6.heap.size, 0, none⟩) ins.length ins.length)) := ⟨_, rfl⟩
       obtain ⟨g5, hg5⟩ : ∃ g5, g5 = w6.heap.size := ⟨_, rfl⟩
       rw [← hw5, ← hg5] at HB5 HR5
       rw [← hw5] at HX5
       have HW5 := Lib.hid hw5.symm
       have HG5 := Lib.hid hg5.symm
       have HBB : Hid (w5.heap[rb]? = some (RuleO o k wd (.slice (some ⟨g5, 0, none⟩) ins.length ins.length))) := Lib.hid (HB5.out.trans (by simp))
       clear hal hbl hrl hst hrb hw5 hg5 HB5
       go_wp2_with fail
       refine HSP.out.mono ?_
       rintro e w4 ⟨rfl, rfl⟩
       go_wp2_with fail
       rw [HW5.out, HG5.out]
       have HKS := Lib.hid (fun wq (hq : Ext w5 wq) => (And.intro ((cell_of_heap (hq.heapOf HBB.out (fun h => h)) 0).trans rfl) (And.intro ((cell_of_heap (hq.heapOf HBB.out (fun h => h)) 1).trans rfl) (And.intro ((cell_of_heap (hq.heapOf HBB.out (fun h => h)) 2).trans rfl) ((cell_of_heap (hq.heapOf HBB.out (fun h => h)) 3).trans rfl))) : wq.cell? ⟨rb, 0, none⟩ = some (S o) ∧ wq.cell? ⟨rb, 1, none⟩ = some (S k) ∧ wq.cell? ⟨rb, 2, none⟩ = some (S wd) ∧ wq.cell? ⟨rb, 3, none⟩ = some (.slice (some ⟨g5, 0, none⟩) ins.length ins.length)))
       have HCT := Lib.hid (fun wq (hq : Ext w5 wq) => containsT_any wq _ ins [] ((Row.rd (l := ins) HR5.out).ext hq))
       clear c3 f3
       obtain ⟨bb, hbb⟩ : ∃ bb, bb = (ins.any fun y => [] == y) := ⟨_, rfl⟩
       rw [← hbb] at HCT HCA
       have HXB : Hid ((bb = true ∧ X = none) ∨ (bb = false ∧ X = some ⟨o, k, wd, ins⟩)) := Lib.hid (by
        rw [HCA.out, HXS.out]
        by_cases hin : [] ∈ ins
        ·exact .inl ⟨decide_eq_true hin, if_pos hin⟩
        ·exact .inr ⟨decide_eq_false hin, if_neg hin⟩)
       have c0 := (cell_of_heap HBB.out 0).trans (rfl : _ = some (S o))
       have c1 := (cell_of_heap HBB.out 1).trans (rfl : _ = some (S k))
       have c2 := (cell_of_heap HBB.out 2).trans (rfl : _ = some (S wd))
       have c3 := (cell_of_heap HBB.out 3).trans (rfl : _ = some (Value.slice (some ⟨g5, 0, none⟩) ins.length ins.length))
       have f0 := free_of_heap HBB.out 0
       have f1 := free_of_heap HBB.out 1
       have f2 := free_of_heap HBB.out 2
       have f3 := free_of_heap HBB.out 3
       obtain ⟨hcz, hoz⟩ := four_set (a' := S o) (b' := S k) (c' := S wd) (d' := Value.slice (some ⟨g5, 0, none⟩) ins.length ins.length) HBB.out
       have HZ := Lib.hid ((Only.drew (fun _ => False) _).heapOf hcz (fun h => h))
       have HXZ := Lib.hid ((HX5.out.trans hoz (fun _ _ h => h) (fun i hi e => by have e : i = rb := e; have := HRB.out; omega)).thenDrew)
       have HRZ : Hid (Row w.heap.size _ (.slice (some ⟨g5, 0, none⟩) ins.length ins.length) ins) := Lib.hid ((Only.drew (fun _ => False) _).row (hoz.row HR5.out (fun i e k => by
        have k : i = rb := k
        have e : g5 = i := Option.some.inj e
        have h1 := lt_of_heap HB6.out
        have h2 := HG5.out
        omega)) (fun _ _ h => h))
       have HSZ := Lib.hid (And.intro ((cell_of_heap HZ.out 0).trans (rfl : _ = some (S o))) (And.intro ((cell_of_heap HZ.out 1).trans (rfl : _ = some (S k))) (And.intro ((cell_of_heap HZ.out 2).trans (rfl : _ = some (S wd))) ((cell_of_heap HZ.out 3).trans (rfl : _ = some (Value.slice (some ⟨g5, 0, none⟩) ins.length ins.length))))))
       clear hcz hoz hbb
       refine wp_region_held_drew (S := fun wq => wq.cell? ⟨rb, 0, none⟩ = some (S o) ∧ wq.cell? ⟨rb, 1, none⟩ = some (S k) ∧ wq.cell? ⟨rb, 2, none⟩ = some (S wd) ∧ wq.cell? ⟨rb, 3, none⟩ = some (.slice (some ⟨g5, 0, none⟩) ins.length ins.length)) (by kernel_rfl) (HKS.out _ (Only.drew _ _)) (fun hHeld => ?_)
       refine takeN 0 ?_
       refine takeN 1 ?_
       refine takeN 2 ?_
       refine wpAnyH_ready (rs := [3]) (by kernel_rfl) (by simp) ?_
       refine AllReadyH.cons (o := _) rfl (fun K hK => ?_) AllReadyH.nil
       go_simp
       go_at_call 210
       refine (HCT.out _ (Only.drew _ _)).mono ?_
       rintro e w9 ⟨rfl, rfl⟩
       refine hK.out _ _ (HKS.out _ (Only.drew _ _)) (fun hHeld => ?_)
       clear hK K
       try simp only [Act.put, List.setIfInBounds_toArray, List.set_cons_zero, List.set_cons_succ]
       refine takeN 4 ?_
       refine wpAnyH_ready (rs := [5]) (by kernel_rfl) (by simp) ?_
       refine AllReadyH.cons (o := _) rfl (fun K hK => ?_) AllReadyH.nil
       go_simp
       refine hK.out _ _ (HSZ.out) (fun hHeld => ?_)
       clear hK K
       try simp only [Act.put, List.setIfInBounds_toArray, List.set_cons_zero, List.set_cons_succ]
       refine takeN 6 ?_
       refine wpAnyH_done (by kernel_rfl) ?_ _
       go_wp2_with fail
       rcases HXB.out with ⟨rfl, hx⟩ | ⟨rfl, hx⟩
       ·exact bodyPost_ret (v := .tuple #[.agg #[S o, S k, S wd, Value.slice (some ⟨g5, 0, none⟩) ins.length ins.length], .bool false]) (line_results _ _ rb _ _ _ _ _ rfl rfl HSZ.out.1 HSZ.out.2.1 HSZ.out.2.2.1 HSZ.out.2.2.2) rfl ⟨HXZ.out, _, _, _, _, _, _, _, rfl, .inl ⟨hx, rfl⟩⟩
       ·exact bodyPost_ret (v := .tuple #[.agg #[S o, S k, S wd, Value.slice (some ⟨g5, 0, none⟩) ins.length ins.length], .bool true]) (line_results _ _ rb _ _ _ _ _ rfl rfl HSZ.out.1 HSZ.out.2.1 HSZ.out.2.2.1 HSZ.out.2.2.2) rfl ⟨HXZ.out, _, _, _, _, _, _, _, rfl, .inr ⟨_, hx, rfl, rfl, rfl, rfl, rfl, HRZ.out⟩⟩
end Go.Proofs.YtnmhaipjfpongacGreatDoor

/- Texts of this seat laid together for one claim: Bm2, Bm3, Bm11. No condition of its own: what each proves stands with its theorems. -/
import Derived.Test.YtnmhaipjfpongacGreatDoorPA35
import Derived.Test.YtnmhaipjfpongacGreatDoorPA9
import Derived.Test.YtnmhaipjfpongacGreatDoorPA25
import Derived.Test.YtnmhaipjfpongacGreatDoorPA26
import Derived.Deep.RegionHeld3
import Derived.Deep.RegionLaw
import Derived.OrdersHeld
import Derived.Test.YtnmhaipjfpongacGreatDoorPA0
import Derived.Test.YtnmhaipjfpongacGreatDoorPA36
import Derived.Test.YtnmhaipjfpongacGreatDoorPA32
namespace Go.Proofs.YtnmhaipjfpongacGreatDoor
open Go.ChangeShapes Go.WideShapes Go.ChangeAt Go.RowKit

def stateM (n : Nat) : B := if n = 0 then [] else stateB n
theorem stateM_waits {n : Nat} (h4 : n ≤ 4) : (stateM n == [119, 97, 105, 116, 115]) = (n == 1) := by
 rcases (show n = 0 ∨ n = 1 ∨ n = 2 ∨ n = 3 ∨ n = 4 by omega) with rfl | rfl | rfl | rfl | rfl <;> rfl
theorem stateM_done {n : Nat} (h4 : n ≤ 4) : (stateM n == [100, 111, 110, 101]) = (n == 2) := by
 rcases (show n = 0 ∨ n = 1 ∨ n = 2 ∨ n = 3 ∨ n = 4 by omega) with rfl | rfl | rfl | rfl | rfl <;> rfl
theorem stateM_failed {n : Nat} (h4 : n ≤ 4) : (stateM n == [102, 97, 105, 108, 101, 100]) = (n == 3) := by
 rcases (show n = 0 ∨ n = 1 ∨ n = 2 ∨ n = 3 ∨ n = 4 by omega) with rfl | rfl | rfl | rfl | rfl <;> rfl
theorem stateM_left {n : Nat} (h4 : n ≤ 4) : (stateM n == [108, 101, 102, 116]) = (n == 4) := by
 rcases (show n = 0 ∨ n = 1 ∨ n = 2 ∨ n = 3 ∨ n = 4 by omega) with rfl | rfl | rfl | rfl | rfl <;> rfl
theorem stateM_none {n : Nat} (h4 : n ≤ 4) : (stateM n == []) = (n == 0) := by
 rcases (show n = 0 ∨ n = 1 ∨ n = 2 ∨ n = 3 ∨ n = 4 by omega) with rfl | rfl | rfl | rfl | rfl <;> rfl

structure MK where
 b : Nat
 t : Nat
 tv : Value
 la : Option Addr
 lc : Nat
 st : Nat
 ou : Nat
 hi : Nat
 wh : Nat
 cp : Value
abbrev TabS (b n : Nat) : Value := .slice (some ⟨b, 0, none⟩) n n
structure MTab (w : World) (K : MK) (n : Nat) (g : Nat → Nat) (ou : Nat → B) (hi : Nat → Bool) (wh : Nat → Nat) : Prop where
 st : TabAt w K.st 9 n (fun i => S (stateM (g i)))
 ou : TabAt w K.ou 9 n (fun i => S (ou i))
 hi : TabAt w K.hi 4 n (fun i => .bool (hi i))
 wh : TabAt w K.wh 3 n (fun i => IN (wh i))
def InM (K : MK) (i : Nat) : Prop := i = K.st ∨ i = K.ou ∨ i = K.hi ∨ i = K.wh
def InMA (K : MK) (i : Nat) : Prop := i = K.b ∨ i = K.t ∨ K.tv.ownBlock = some i ∨ InM K i
abbrev mCells (E : BE) (K : MK) : Array Value := #[PTR K.t, .slice K.la E.l.length K.lc, TabS K.st E.l.length, TabS K.ou E.l.length, TabS K.hi E.l.length, TabS K.wh E.l.length, K.cp]
structure MAt (w0 w : World) (E : BE) (K : MK) (g : Nat → Nat) (ou : Nat → B) (hi : Nat → Bool) (wh : Nat → Nat) : Prop where
 ext : Ext w0 w
 cells : w.heap[K.b]? = some (.cells (mCells E K) 113 (0, 0))
 tree : RTree w w0.heap.size K.t K.tv E.T
 rules : RdR w0 (.slice K.la E.l.length K.lc) E.l
 tab : MTab w K E.l.length g ou hi wh
 ne : K.st ≠ K.ou
 lo : w0.heap.size ≤ K.b ∧ w0.heap.size ≤ K.t ∧ w0.heap.size ≤ K.st ∧ w0.heap.size ≤ K.ou ∧ w0.heap.size ≤ K.hi ∧ w0.heap.size ≤ K.wh
def outM (E : BE) (s : BS) (i : Nat) : B := if mst E s i = 2 then (E.ans i).1 else []
def hitM (E : BE) (s : BS) (i : Nat) : Bool := mst E s i == 2 && s.hit i
def whyM (E : BE) (s : BS) (i : Nat) : Nat := if mst E s i = 3 then (E.ans i).2 else 0
abbrev MBldAt (w0 w : World) (E : BE) (K : MK) (s : BS) : Prop := MAt w0 w E K (mst E s) (outM E s) (hitM E s) (whyM E s)

theorem TabAt.ne {w : World} {a b n m : Nat} {e e' : TypeId} {f f' : Nat → Value} (h : TabAt w a e n f) (k : TabAt w b e' m f') (he : e ≠ e') : a ≠ b := by
 rintro rfl
 obtain ⟨c, h1, _⟩ := h
 obtain ⟨c', h2, _⟩ := k
 rw [h1] at h2
 cases h2
 exact he rfl
theorem TabAt.ne_cells {w : World} {a b n : Nat} {e e' : TypeId} {f : Nat → Value} {cs : Array Value} {fr : Nat × Nat} (h : TabAt w a e n f) (k : w.heap[b]? = some (.cells cs e' fr)) (he : e ≠ e') : b ≠ a := by
 rintro rfl
 obtain ⟨c, h1, _⟩ := h
 rw [h1] at k
 cases k
 exact he rfl
theorem TabAt.ne_row {w : World} {a n m base size : Nat} {e e' : TypeId} {f : Nat → Value} {v : Value} {xs : List Value} (h : TabAt w a e n f) (k : w.ownsRow base e' size v m xs) (he : e ≠ e') : v.ownBlock ≠ some a := by
 intro hv
 obtain ⟨c, h1, _⟩ := h
 exact row_ne k h1 (Ne.symm he) a hv rfl
section
variable {w0 w w' : World} {E : BE} {K : MK} {s : BS} {n : Nat} {g g' : Nat → Nat} {ou ou' : Nat → B} {hi hi' : Nat → Bool} {wh wh' : Nat → Nat}
theorem MTab.later {p : Nat → Prop} (h : MTab w K n g ou hi wh) (ho : Only p w w') (hp : ∀ i, InM K i → ¬ p i) : MTab w' K n g ou hi wh :=
 ⟨h.st.later ho (hp _ (.inl rfl)), h.ou.later ho (hp _ (.inr (.inl rfl))), h.hi.later ho (hp _ (.inr (.inr (.inl rfl)))), h.wh.later ho (hp _ (.inr (.inr (.inr rfl))))⟩
theorem MAt.later {p : Nat → Prop} (h : MAt w0 w E K g ou hi wh) (ho : Only p w w') (hx : ∀ i, p i → w0.heap.size ≤ i) (hp : ∀ i, InMA K i → ¬ p i) : MAt w0 w' E K g ou hi wh :=
 ⟨h.ext.trans ho (fun _ _ h => h) (fun i hi e => by have := hx i e; omega), ho.heapOf h.cells (hp _ (.inl rfl)), h.tree.later ho (hp _ (.inr (.inl rfl))) (fun i e => hp _ (.inr (.inr (.inl e)))), h.rules, h.tab.later ho (fun i e => hp _ (.inr (.inr (.inr e)))), h.ne, h.lo⟩
theorem MAt.grow (h : MAt w0 w E K g ou hi wh) (ho : Ext w w') : MAt w0 w' E K g ou hi wh := h.later ho (fun _ h => h.elim) (fun _ _ h => h)
theorem MAt.lt (h : MAt w0 w E K g ou hi wh) : ∀ i, InMA K i → i < w.heap.size := by
 rintro i (rfl | rfl | e | rfl | rfl | rfl | rfl)
 ·exact lt_of_heap h.cells
 ·exact lt_of_heap h.tree.cells
 ·exact (h.tree.row.lt i e).2
 ·exact h.tab.st.lt
 ·exact h.tab.ou.lt
 ·exact h.tab.hi.lt
 ·exact h.tab.wh.lt
theorem MAt.ge (h : MAt w0 w E K g ou hi wh) : ∀ i, InMA K i → w0.heap.size ≤ i := by
 obtain ⟨h1, h2, h3, h4, h5, h6⟩ := h.lo
 rintro i (rfl | rfl | e | rfl | rfl | rfl | rfl)
 ·exact h1
 ·exact h2
 ·exact (h.tree.row.lt i e).1
 ·exact h3
 ·exact h4
 ·exact h5
 ·exact h6
theorem MAt.congr (h : MAt w0 w E K g ou hi wh) (h1 : ∀ i, i < E.l.length → g i = g' i) (h2 : ∀ i, i < E.l.length → ou i = ou' i) (h3 : ∀ i, i < E.l.length → hi i = hi' i) (h4 : ∀ i, i < E.l.length → wh i = wh' i) : MAt w0 w E K g' ou' hi' wh' :=
 ⟨h.ext, h.cells, h.tree, h.rules, ⟨h.tab.st.congr fun i h => by rw [h1 i h], h.tab.ou.congr fun i h => by rw [h2 i h], h.tab.hi.congr fun i h => by rw [h3 i h], h.tab.wh.congr fun i h => by rw [h4 i h]⟩, h.ne, h.lo⟩
theorem MAt.change (h : MAt w0 w E K g ou hi wh) (ho : Only (InM K) w w') (ht : MTab w' K E.l.length g' ou' hi' wh') : MAt w0 w' E K g' ou' hi' wh' :=
 have ge := h.ge
 have n1 : ¬ InM K K.b := by
  rintro (e | e | e | e)
  ·exact h.tab.st.ne_cells h.cells (by decide) e
  ·exact h.tab.ou.ne_cells h.cells (by decide) e
  ·exact h.tab.hi.ne_cells h.cells (by decide) e
  ·exact h.tab.wh.ne_cells h.cells (by decide) e
 have n2 : ¬ InM K K.t := by
  rintro (e | e | e | e)
  ·exact h.tab.st.ne_cells h.tree.cells (by decide) e
  ·exact h.tab.ou.ne_cells h.tree.cells (by decide) e
  ·exact h.tab.hi.ne_cells h.tree.cells (by decide) e
  ·exact h.tab.wh.ne_cells h.tree.cells (by decide) e
 have n3 : ∀ i, K.tv.ownBlock = some i → ¬ InM K i := by
  rintro i e (rfl | rfl | rfl | rfl)
  ·exact h.tab.st.ne_row h.tree.row (by decide) e
  ·exact h.tab.ou.ne_row h.tree.row (by decide) e
  ·exact h.tab.hi.ne_row h.tree.row (by decide) e
  ·exact h.tab.wh.ne_row h.tree.row (by decide) e
 ⟨h.ext.trans ho (fun _ _ h => h) (fun i hi e => by have := ge i (.inr (.inr (.inr e))); omega), ho.heapOf h.cells n1, h.tree.later ho n2 n3, h.rules, ht, h.ne, h.lo⟩
theorem only_table {b k : Nat} {v : Value} : Only (fun i => i = b) w (w.setCell ⟨b, k, none⟩ v) := Only.set (p := fun i => i = b) v rfl
theorem MAt.setSt (h : MAt w0 w E K g ou hi wh) (k x : Nat) (hg : ∀ i, g' i = if i = k then x else g i) : MAt w0 (w.setCell ⟨K.st, k, none⟩ (S (stateM x))) E K g' ou hi wh ∧ Only (InM K) w (w.setCell ⟨K.st, k, none⟩ (S (stateM x))) := by
 have ho : Only (InM K) w (w.setCell ⟨K.st, k, none⟩ (S (stateM x))) := only_table.mono fun i _ e => .inl e
 refine ⟨h.change ho ⟨(h.tab.st.set k (S (stateM x))).congr fun i _ => ?_, h.tab.ou.later only_table (Ne.symm h.ne), h.tab.hi.later only_table (Ne.symm (h.tab.st.ne h.tab.hi (by decide))), h.tab.wh.later only_table (Ne.symm (h.tab.st.ne h.tab.wh (by decide)))⟩, ho⟩
 rw [hg]
 by_cases e : i = k
 ·rw [if_pos e, if_pos e]
 ·rw [if_neg e, if_neg e]
theorem MAt.setOu (h : MAt w0 w E K g ou hi wh) (k : Nat) (x : B) (hg : ∀ i, ou' i = if i = k then x else ou i) : MAt w0 (w.setCell ⟨K.ou, k, none⟩ (S x)) E K g ou' hi wh ∧ Only (InM K) w (w.setCell ⟨K.ou, k, none⟩ (S x)) := by
 have ho : Only (InM K) w (w.setCell ⟨K.ou, k, none⟩ (S x)) := only_table.mono fun i _ e => .inr (.inl e)
 refine ⟨h.change ho ⟨h.tab.st.later only_table h.ne, (h.tab.ou.set k (S x)).congr fun i _ => ?_, h.tab.hi.later only_table (Ne.symm (h.tab.ou.ne h.tab.hi (by decide))), h.tab.wh.later only_table (Ne.symm (h.tab.ou.ne h.tab.wh (by decide)))⟩, ho⟩
 rw [hg]
 by_cases e : i = k
 ·rw [if_pos e, if_pos e]
 ·rw [if_neg e, if_neg e]
theorem MAt.setHi (h : MAt w0 w E K g ou hi wh) (k : Nat) (x : Bool) (hg : ∀ i, hi' i = if i = k then x else hi i) : MAt w0 (w.setCell ⟨K.hi, k, none⟩ (.bool x)) E K g ou hi' wh ∧ Only (InM K) w (w.setCell ⟨K.hi, k, none⟩ (.bool x)) := by
 have ho : Only (InM K) w (w.setCell ⟨K.hi, k, none⟩ (.bool x)) := only_table.mono fun i _ e => .inr (.inr (.inl e))
 refine ⟨h.change ho ⟨h.tab.st.later only_table (h.tab.st.ne h.tab.hi (by decide)), h.tab.ou.later only_table (h.tab.ou.ne h.tab.hi (by decide)), (h.tab.hi.set k (.bool x)).congr fun i _ => ?_, h.tab.wh.later only_table (Ne.symm (h.tab.hi.ne h.tab.wh (by decide)))⟩, ho⟩
 rw [hg]
 by_cases e : i = k
 ·rw [if_pos e, if_pos e]
 ·rw [if_neg e, if_neg e]
theorem MAt.setWh (h : MAt w0 w E K g ou hi wh) (k x : Nat) (hg : ∀ i, wh' i = if i = k then x else wh i) : MAt w0 (w.setCell ⟨K.wh, k, none⟩ (IN x)) E K g ou hi wh' ∧ Only (InM K) w (w.setCell ⟨K.wh, k, none⟩ (IN x)) := by
 have ho : Only (InM K) w (w.setCell ⟨K.wh, k, none⟩ (IN x)) := only_table.mono fun i _ e => .inr (.inr (.inr e))
 refine ⟨h.change ho ⟨h.tab.st.later only_table (h.tab.st.ne h.tab.wh (by decide)), h.tab.ou.later only_table (h.tab.ou.ne h.tab.wh (by decide)), h.tab.hi.later only_table (h.tab.hi.ne h.tab.wh (by decide)), (h.tab.wh.set k (IN x)).congr fun i _ => ?_⟩, ho⟩
 rw [hg]
 by_cases e : i = k
 ·rw [if_pos e, if_pos e]
 ·rw [if_neg e, if_neg e]
theorem MAt.cell (h : MAt w0 w E K g ou hi wh) (j : Nat) : w.cell? ⟨K.b, j, none⟩ = (mCells E K)[j]? := cell_of_heap h.cells j
end
end Go.Proofs.YtnmhaipjfpongacGreatDoor

namespace Go.Proofs.YtnmhaipjfpongacGreatDoor
open Go.ChangeShapes Go.WideShapes Go.ChangeAt Go.RowKit

section
variable {w0 w w' : World} {E : BE} {K : MK} {s : BS} {o : List Nat} {is : Nat → Bool}
theorem mst_le (hI : BInv E s) (i : Nat) : mst E s i ≤ 4 := by
 unfold mst
 split
 ·exact (hI.rng i ‹_›).2
 ·exact Nat.zero_le _
theorem mst_one {i : Nat} (h : mst E s i = 1) : i ∈ E.sm ∧ s.st i = 1 := by
 unfold mst at h
 split at h
 ·exact ⟨‹_›, h⟩
 ·cases h
theorem notReady {i : Nat} (h : mst E s i ≠ 1) : readyMB E s i = false := by
 unfold readyMB
 by_cases hi : i ∈ E.sm
 ·rw [mst_in hi] at h
  cases hr : readyP E s i with
  | false => rw [Bool.and_false]
  | true => exact absurd (ready_iff.1 hr).1 h
 ·rw [decide_eq_false hi, Bool.false_and]

set_option maxRecDepth 100000 in
set_option maxHeartbeats 4000000 in
theorem isReadyM_any (h : MBldAt w0 w E K s) (hW : BWell E o is) (hI : BInv E s) {i : Nat} (hi : i < E.l.length) :
  Calls Tryz.prog 127 #[PTR K.b, I i] w (RetE (.bool (readyMB E s i)) w) := by
 have c2 := (h.cell 2).trans (rfl : _ = some (TabS K.st E.l.length))
 have t0 := h.tab.st.cell hi
 have hl40 := hW.right.1
 have hlz : (E.l.length : Int) ≤ 40 := by omega
 have hiz : (i : Int) < (E.l.length : Int) := by omega
 have hi0 : (0 : Int) ≤ (i : Int) := by omega
 have hi1 : ¬ (i : Int) < 0 := by omega
 have hi2 : ¬ (E.l.length : Int) ≤ (i : Int) := by omega
 have hb := stateM_waits (mst_le hI i)
 have HL := Lib.hid (mst_le hI)
 by_cases h1 : mst E s i = 1
 case neg =>
  rw [notReady h1]
  rw [show (mst E s i == 1) = false from beq_eq_false_iff_ne.2 h1] at hb
  generalize stateM (mst E s i) = sv at t0 hb
  clear h hW hI h1
  go_enter Tryz.func127, Tryz.ntmps127
  go_wp2_with fail
  go_ret
  exact ⟨rfl, Only.refl _ _⟩
 case pos =>
  obtain ⟨him, his⟩ := mst_one h1
  have hre := readyM_end hW him his
  have hrb : readyMB E s i = readyP E s i := by unfold readyMB; rw [decide_eq_true him, Bool.true_and]
  rw [hrb, ← hre]
  rw [h1] at hb t0
  rw [show ((1 : Nat) == 1) = true from rfl] at hb
  have H := Lib.hid h
  have HRD := Lib.hid (h.rules.ext h.ext)
  generalize stateM 1 = sv at t0 hb
  obtain ⟨R, hR⟩ : ∃ R, R = readyM E.l (mst E s) E.l.length i := ⟨_, rfl⟩
  rw [← hR]
  have HR := Lib.hid hR
  have HC1 := Lib.hid ((h.cell 1).trans (rfl : _ = some (Value.slice K.la E.l.length K.lc)))
  have HC2 := Lib.hid c2
  have HI := Lib.hid hi
  clear h hW hI h1 his him hre hrb hR hi
  go_enter Tryz.func127, Tryz.ntmps127
  go_wp2_with fail
  clear c2 t0 hb
  go_loopw [5] (fun k wr => ∃ t : Nat, t ≤ E.l.length ∧ k = .int .i64 t ∧ Hid (readyM E.l (mst E s) t i = true) ∧ Hid (Ext w wr)) (fun k _ => E.l.length - (intOf k).toNat)
  case atStart => exact ⟨0, Nat.zero_le _, rfl, Lib.hid rfl, Lib.hid (Only.refl _ _)⟩
  case round =>
   obtain ⟨t, ht, rfl, HT, HX⟩ := hrel
   have d1 := HX.out.cellOf HC1.out (fun h => h)
   by_cases htl : t < E.l.length
   ·have htz : (t : Int) < (E.l.length : Int) := by omega
    have ht0 : (0 : Int) ≤ (t : Int) := by omega
    have ht1 : ¬ (t : Int) < 0 := by omega
    have ht2 : ¬ (E.l.length : Int) ≤ (t : Int) := by omega
    have HNR := Lib.hid (needsRule_any wr _ E.l i t HI.out htl (HRD.out.ext HX.out))
    have HST := Lib.hid (readyM_step E.l (mst E s) t i)
    have HTL := Lib.hid htl
    cases hn : needB E.l i t with
    | false =>
     have HT2 : Hid (readyM E.l (mst E s) (t + 1) i = true) := Lib.hid (by rw [HST.out, HT.out, hn]; rfl)
     rw [hn] at HNR
     clear hn htl ht
     go_wp2_with fail
     refine HNR.out.mono ?_
     rintro e w3 ⟨rfl, ho⟩
     have HX3 := Lib.hid (HX.out.then ho)
     clear ho d1
     go_wp2_with fail
     go_roundw
     case rel => exact ⟨t + 1, HTL.out, by go_num, HT2, HX3⟩
     case measure => have := HTL.out; simp [intOf]; omega
    | true =>
     have hq := stateM_done (HL.out t)
     have HCT := Lib.hid (H.out.tab.st.cell htl)
     have hrt : readyM E.l (mst E s) (t + 1) i = (mst E s t == 2) := by rw [HST.out, HT.out, hn]; simp
     rw [hn] at HNR
     cases h2 : (mst E s t == 2) with
     | true =>
      rw [h2] at hq hrt
      generalize stateM (mst E s t) = sq at HCT hq
      have HT2 := Lib.hid hrt
      clear hn htl ht hrt h2
      go_wp2_with fail
      refine HNR.out.mono ?_
      rintro e w3 ⟨rfl, ho⟩
      have HX3 := Lib.hid (HX.out.then ho)
      have e2 := HX3.out.cellOf HC2.out (fun h => h)
      have e3 := HX3.out.cellOf HCT.out (fun h => h)
      clear ho d1
      go_wp2_with fail
      go_roundw
      case rel => exact ⟨t + 1, HTL.out, by go_num, HT2, HX3⟩
      case measure => have := HTL.out; simp [intOf]; omega
     | false =>
      have HRF : Hid (R = false) := Lib.hid (by
       rw [HR.out, ← Bool.not_eq_true]
       intro hall
       unfold readyM at hall
       have := List.all_eq_true.1 hall t (List.mem_range.2 htl)
       rw [hn, h2] at this
       cases this)
      rw [h2] at hq
      generalize stateM (mst E s t) = sq at HCT hq
      clear hn htl ht hrt h2
      go_wp2_with fail
      refine HNR.out.mono ?_
      rintro e w3 ⟨rfl, ho⟩
      have HX3 := Lib.hid (HX.out.then ho)
      have e2 := HX3.out.cellOf HC2.out (fun h => h)
      have e3 := HX3.out.cellOf HCT.out (fun h => h)
      clear ho d1
      go_wp2_with fail
      go_ret
      exact ⟨by rw [HRF.out]; rfl, HX3.out⟩
   ·have htz : ¬ (t : Int) < (E.l.length : Int) := by omega
    have HRT : Hid (R = true) := Lib.hid (by rw [HR.out]; rw [show E.l.length = t by omega]; exact HT.out)
    clear htl ht
    go_wp2_with fail
    go_ret
    exact ⟨by rw [HRT.out]; rfl, HX.out⟩

end
end Go.Proofs.YtnmhaipjfpongacGreatDoor

namespace Go.Proofs.YtnmhaipjfpongacGreatDoor
open Go.ChangeShapes Go.WideShapes Go.ChangeAt Go.RowKit

def MkPart (w : World) (n : Nat) (T : FL) (i : Nat) (v : Value) (w' : World) : Prop :=
 (i = 1 ∧ ∃ t tv, v = PTR t ∧ w.heap.size ≤ t ∧ RTree w' w.heap.size t tv T) ∨
 ((i = 4 ∨ i = 6) ∧ ∃ b, v = TabS b n ∧ w.heap.size ≤ b ∧ TabAt w' b 9 n (fun _ => S [])) ∨
 (i = 8 ∧ ∃ b, v = TabS b n ∧ w.heap.size ≤ b ∧ TabAt w' b 4 n (fun _ => .bool false)) ∨
 (i = 10 ∧ ∃ b, v = TabS b n ∧ w.heap.size ≤ b ∧ TabAt w' b 3 n (fun _ => .int .i64 0))
theorem MkPart.ext {w : World} {n : Nat} {T : FL} (i : Nat) (v : Value) (a b : World) (h : MkPart w n T i v a) (ho : Ext a b) : MkPart w n T i v b := by
 rcases h with ⟨h1, t, tv, h2, h3, h4⟩ | ⟨h1, t, h2, h3, h4⟩ | ⟨h1, t, h2, h3, h4⟩ | ⟨h1, t, h2, h3, h4⟩
 ·exact .inl ⟨h1, t, tv, h2, h3, h4.ext ho⟩
 ·exact .inr (.inl ⟨h1, t, h2, h3, h4.ext ho⟩)
 ·exact .inr (.inr (.inl ⟨h1, t, h2, h3, h4.ext ho⟩))
 ·exact .inr (.inr (.inr ⟨h1, t, h2, h3, h4.ext ho⟩))
theorem RTree.low {w : World} {b b' m : Nat} {slv : Value} {L : FL} (h : RTree w b' m slv L) (hb : b ≤ b') : RTree w b m slv L :=
 ⟨h.cells, h.row.1, h.row.2.imp id fun ⟨g, cap, cur, e, hg, r⟩ => ⟨g, cap, cur, e, Nat.le_trans hb hg, r⟩⟩
end Go.Proofs.YtnmhaipjfpongacGreatDoor

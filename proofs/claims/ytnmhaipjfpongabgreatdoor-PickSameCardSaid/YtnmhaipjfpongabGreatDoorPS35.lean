/- Texts of this seat laid together for one claim: G11, I5, I2, I3. No condition of its own: what each proves stands with its theorems. -/
import Derived.Test.YtnmhaipjfpongabGreatDoorPS27
import Derived.Test.YtnmhaipjfpongabGreatDoorPS28
import Derived.Test.YtnmhaipjfpongabGreatDoorPS29
import Derived.BigQuiet
import Derived.Deep.QuietTactic
namespace Go.Proofs.YtnmhaipjfpongabGreatDoor
open Go.ChangeShapes Go.WideShapes Go.ChangeAt Go.RowKit

theorem enters_Part1 : ∀ args w, (callFunc 191 args).run Tryz.prog w = .ok (.enter 191 args) w := fun args w => by kernel_rfl

theorem any_natP (l : List Nat) (j : Nat) : (l.map fun k : Nat => (k : Int)).any (fun y => (j : Int) == y) = l.contains j := by
 rw [Bool.eq_iff_iff, List.any_eq_true, List.contains_eq_mem, decide_eq_true_eq]
 constructor
 ·rintro ⟨x, hx, e⟩
  obtain ⟨k, hk, rfl⟩ := List.mem_map.1 hx
  rw [beq_iff_eq] at e
  have : j = k := by omega
  rw [this]; exact hk
 ·intro h
  exact ⟨(j : Int), List.mem_map.2 ⟨j, h, rfl⟩, beq_iff_eq.2 rfl⟩

theorem Part1_test (w : World) (bx : Nat) (lv : Value) (l : List Nat) (j : Nat) (hb : w.cell? ⟨bx, 0, none⟩ = some lv) (hr : Rd IN w lv l) :
  Calls Tryz.prog 191 #[I j, .pointer (some ⟨bx, 0, none⟩)] w (RetE (.bool (l.contains j)) w) := by
 have HI := Lib.hid (containsI_any w lv _ (j : Int) hr.ints)
 rw [any_natP] at HI
 generalize l.contains j = q at HI ⊢
 obtain ⟨a, cap, rfl, _, _, _⟩ := hr
 go_enter Tryz.func191, Tryz.ntmps191
 go_wp2_with fail
 refine (HI.out).mono ?_
 rintro e w1 ⟨rfl, rfl⟩
 go_wp2_with fail
 go_ret
 exact ⟨rfl, Only.refl _ _⟩

def partB (l : List Rule) (sm : List Nat) : Option (List Nat) := orderB l.length (needB l) (fun i => sm.contains i)
def partFault (l : List Rule) (sm : List Nat) : Nat × Int := if (partB l sm).isSome then (0, -1) else (9, -1)

set_option maxRecDepth 100000 in
set_option maxHeartbeats 4000000 in
theorem graphPart_any (w : World) (P : Nat → Addr) (l : List Rule) (v sv : Value) (sm : List Nat) (hv : RdR w v l) (hr : RightS l) (hs : ∀ r ∈ l, r.ins.length ≤ 900000) (hsm : Rd IN w sv sm) (hE : Errs w P [8]) :
  Calls Tryz.prog 119 #[v, sv] w (RetOE P (partFault l sm) ((partB l sm).getD []) w) := by
 have HRD := Lib.hid hv
 have HSM := Lib.hid hsm
 have HR := Lib.hid hr
 have HS := Lib.hid hs
 have HEE := Lib.hid hE
 have h40 := hr.1
 obtain ⟨a, cap, rfl, _, _, _⟩ := hv
 obtain ⟨a2, cap2, rfl, _, _, _⟩ := hsm
 have HB0 := Lib.hid ((MapKept.heap_alloc w (.cells #[.slice a2 sm.length cap2] 63 (0, 0))).1)
 have HX0 : Hid (Ext w (w.alloc (.cells #[.slice a2 sm.length cap2] 63 (0, 0)))) := Lib.hid (Only.alloc _ _ _)
 have HED := Lib.hid (edges_any _ l _ (HRD.out.ext HX0.out) HR.out HS.out)
 obtain ⟨F, hF⟩ : ∃ F, F = partFault l sm := ⟨_, rfl⟩
 obtain ⟨O, hO⟩ : ∃ O, O = (partB l sm).getD [] := ⟨_, rfl⟩
 rw [← hF, ← hO]
 unfold partFault at hF
 have HF := Lib.hid hF
 have HO := Lib.hid hO
 clear hF hO hr hs hE
 go_enter Tryz.func119, Tryz.ntmps119
 go_wp2_with fail
 refine HED.out.mono ?_
 rintro e w2 ⟨v2, rfl, hll, ho⟩
 have hb2 := cell_of_heap (ho.heapOf HB0.out (fun h => h)) 0
 have hor := order1_any 191 (.pointer (some ⟨w.heap.size, 0, none⟩)) (fun i => sm.contains i) w2 v2 l.length (needB l) (by omega) hll enters_Part1
  (fun w3 hx i _ => Part1_test w3 w.heap.size _ sm i (hx.cellOf (hb2.trans rfl) (fun h => h)) (HSM.out.ext ((HX0.out.then ho).then hx)))
 change Calls _ _ _ _ (RetOrder (partB l sm) w2) at hor
 have HOR := Lib.hid hor
 have HX2 := Lib.hid (HX0.out.then ho)
 have HLL := Lib.hid hll
 obtain ⟨a3, c3, rfl, _, _, _⟩ := HLL.out
 rw [List.length_map, List.length_range] at HOR ⊢
 clear hor hb2 ho hll
 cases hol : partB l sm with
 | none =>
  have hF2 := HF.out
  have hO2 := HO.out
  rw [hol] at HOR hF2 hO2
  clear HF HO
  have hF3 : F = (9, -1) := hF2
  have hO3 : O = [] := hO2
  subst hF3
  subst hO3
  clear hol hF2 hO2
  go_wp2_with fail
  refine (HOR.out).mono ?_
  rintro e w3 ⟨v3, rfl, hrow, ho⟩
  have HX3 := Lib.hid (HX2.out.then ho)
  have HROW := Lib.hid hrow
  clear hrow ho
  have c0 := (HEE.out.ext HX3.out).var 8 _ (by decide) rfl
  go_wp2_with fail
  go_quiet (fail)
  go_wp2_with fail
  go_ret2
  exact ⟨_, _, rfl, RowI.nil _ _, .inr (.inl ⟨by decide, rfl, rfl⟩), HX3.out.thenDrewN _⟩
 | some o =>
  have hF2 := HF.out
  have hO2 := HO.out
  rw [hol] at HOR hF2 hO2
  clear HF HO
  have hF3 : F = (0, -1) := hF2
  have hO3 : O = o := hO2
  subst hF3
  subst hO3
  clear hol hF2 hO2
  go_wp2_with fail
  refine (HOR.out).mono ?_
  rintro e w3 ⟨v3, rfl, hrow, ho⟩
  have HX3 := Lib.hid (HX2.out.then ho)
  have HROW := Lib.hid hrow
  clear hrow ho
  obtain ⟨a4, c4, rfl, _, _, _⟩ := HROW.out.rd
  go_wp2_with fail
  go_ret2
  exact ⟨_, _, rfl, HROW.out.down HX2.out.size, ErrAt.nil _ _ _, HX3.out⟩
end Go.Proofs.YtnmhaipjfpongabGreatDoor

namespace Go.Proofs.YtnmhaipjfpongabGreatDoor

open Classical in
noncomputable def reachB (l : List Rule) (outs : List B) (i : Nat) : Bool := decide (Reach (needB l) (needKs l outs) i)
open Classical in
theorem reachB_iff {l : List Rule} {outs : List B} {i : Nat} : reachB l outs i = true ↔ Reach (needB l) (needKs l outs) i := by
 unfold reachB
 exact decide_eq_true_iff
noncomputable def needL (l : List Rule) (outs : List B) : List Nat := (List.range l.length).filter (reachB l outs)
theorem mem_needL {l : List Rule} {outs : List B} {i : Nat} : i ∈ needL l outs ↔ i < l.length ∧ Reach (needB l) (needKs l outs) i := by
 unfold needL
 rw [List.mem_filter, List.mem_range, reachB_iff]
theorem needOk_eq {l : List Rule} {outs : List B} {out : List Nat} (h : NeedOk l.length (needB l) (needKs l outs) out) : out = needL l outs := by
 obtain ⟨N, rfl, hN⟩ := h
 unfold needL
 refine List.filter_congr fun i hi => ?_
 rw [Bool.eq_iff_iff, hN i (List.mem_range.1 hi), reachB_iff]
theorem needL_rise (l : List Rule) (outs : List B) : (needL l outs).Pairwise fun x y => x < y := List.pairwise_lt_range.filter _

structure Clo (l : List Rule) (sm : List Nat) : Prop where
 lt : ∀ i ∈ sm, i < l.length
 rise : sm.Pairwise fun x y => x < y
 clos : ∀ i ∈ sm, ∀ k, k < l.length → needB l i k = true → k ∈ sm
theorem Clo.need (l : List Rule) (outs : List B) : Clo l (needL l outs) :=
 ⟨fun _ hi => (mem_needL.1 hi).1, needL_rise l outs, fun _ hi _ hk hn => mem_needL.2 ⟨hk, .step (mem_needL.1 hi).2 hn⟩⟩

theorem order_covers {n : Nat} {nd : Nat → Nat → Bool} {is : Nat → Bool} {o : List Nat} (h : orderB n nd is = some o) {i : Nat} (hi : i < n) (his : is i = true) : i ∈ o := by
 obtain ⟨h1, h2⟩ := orderB_some h
 refine Classical.byContradiction fun hn => ?_
 have h3 : (i :: o).Nodup := List.nodup_cons.2 ⟨hn, h1.nodup⟩
 have h4 := nodup_len (b := (List.range n).filter is) h3 fun x hx => by
  rcases List.mem_cons.1 hx with rfl | hx
  ·exact List.mem_filter.2 ⟨List.mem_range.2 hi, his⟩
  ·exact List.mem_filter.2 ⟨List.mem_range.2 (h1.lt x hx), h1.is x hx⟩
 rw [List.length_cons, h2] at h4
 unfold manyB at h4
 omega

def ruleAt (l : List Rule) (i : Nat) : Rule := (l[i]?).getD ⟨[], [], [], []⟩
theorem ruleAt_eq {l : List Rule} {i : Nat} (h : i < l.length) : l[i]? = some (ruleAt l i) := by
 unfold ruleAt
 rw [List.getElem?_eq_getElem h]
 rfl

section
variable {l : List Rule} {sm : List Nat}
theorem clo_nodup (h : Clo l sm) : sm.Nodup := h.rise.imp fun h => Nat.ne_of_lt h
end

end Go.Proofs.YtnmhaipjfpongabGreatDoor

namespace Go.Proofs.YtnmhaipjfpongabGreatDoor
open Go.ChangeShapes Go.WideShapes Go.ChangeAt Go.RowKit

theorem lookup_filterG {α : Type} {k s : B} : ∀ (L : List (B × α)), s ≠ k → (L.filter fun p => !(p.1 == k)).lookup s = L.lookup s
 | [], _ => rfl
 | (a, x) :: L, h => by
  by_cases ha : a = k
  ·subst ha
   have hs : (s == a) = false := beq_eq_false_iff_ne.2 h
   rw [List.filter_cons_of_neg (by simp), lookup_filterG L h, List.lookup, hs]
  ·rw [List.filter_cons_of_pos (by simpa using ha)]
   simp only [List.lookup]
   rw [lookup_filterG L h]
theorem Knows.more {W : B → Tld} {L : List (B × Tld)} (h : Knows W L) {p : B} {x : Tld} (hx : x = W p) : Knows W ((p, x) :: L.filter fun q => !(q.1 == p)) := fun q y hq => by
 by_cases e : q = p
 ·subst e
  rw [List.lookup_cons, beq_self_eq_true] at hq
  cases hq
  exact hx
 ·have hs : (q == p) = false := beq_eq_false_iff_ne.2 e
  rw [List.lookup_cons, hs] at hq
  simp only at hq
  rw [lookup_filterG L e] at hq
  exact h q y hq
theorem AskAt.stored {w0 w w' : World} {P : Nat → Addr} {ab tb kb : Nat} {lv : Value} {L L' : List (B × Tld)} (h : AskAt w0 w P ab tb kb lv L) (ho : Only (fun b => b = kb) w w') (hm : KMap .string S (tEnc P) w' kb L') : AskAt w0 w' P ab tb kb lv L' :=
 ⟨h.ext.trans ho (fun _ _ h => h) (fun i hi e => by have := h.lo; omega), ho.heapOf h.cells (fun e => h.lo.2.2 e), hm, h.lo⟩

end Go.Proofs.YtnmhaipjfpongabGreatDoor

namespace Go.Proofs.YtnmhaipjfpongabGreatDoor
open Go.ChangeShapes Go.WideShapes Go.ChangeAt Go.RowKit

theorem ErrAt.errC (w : World) (P : Nat → Addr) (c : Nat) : ErrAt w P (c, -1) (errC P c) := by
 cases c with
 | zero => exact ErrAt.nil _ _ _
 | succ c => exact .inr (.inl ⟨by simp, rfl, rfl⟩)

end Go.Proofs.YtnmhaipjfpongabGreatDoor

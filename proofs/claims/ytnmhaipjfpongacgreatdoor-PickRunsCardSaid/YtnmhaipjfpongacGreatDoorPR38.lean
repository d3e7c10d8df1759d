/- Texts of this seat laid together for one claim: Z14, Z20, Z23, Bm6, Z19, Z24. No condition of its own: what each proves stands with its theorems. -/
import Derived.Test.YtnmhaipjfpongacGreatDoorPR28
import Derived.Test.YtnmhaipjfpongacGreatDoorPR23
import Derived.Test.YtnmhaipjfpongacGreatDoorPR29
import Derived.Test.YtnmhaipjfpongacGreatDoorPR26
import Derived.Test.YtnmhaipjfpongacGreatDoorPR35
import Derived.Test.YtnmhaipjfpongacGreatDoorPR36
import Derived.Test.YtnmhaipjfpongacGreatDoorPR37
namespace Go.Proofs.YtnmhaipjfpongacGreatDoor
open Go.ChangeShapes Go.WideShapes Go.ChangeAt Go.RowKit

section
variable {w w' : World} {P : Nat → Addr} {base : Nat} {E : BE} {K : BK} {s : BS} {o : List Nat} {is : Nat → Bool} {cb cmb : Nat} {sv : Value} {many : Nat} {L : FL}
theorem RunPost.cache (hC : CchAt w E K cb cmb sv many L) {r : Bool × Nat} {s' : BS} {e : Ending} (h : RunPost w P base E K r s' e w') : RunCPost w P base E K cb cmb sv many L r s' e w' := by
 obtain ⟨h1, h2, h3⟩ := h
 exact ⟨sv, h1, h2, hC.steps h3, h3.mono fun _ _ h => .inl h, fun _ h => .inl h⟩
end
end Go.Proofs.YtnmhaipjfpongacGreatDoor

namespace Go.Proofs.YtnmhaipjfpongacGreatDoor
open Go.ChangeShapes Go.WideShapes Go.ChangeAt Go.RowKit

def ranN (E : BE) (s : BS) : Nat := (E.sm.filter (ranP s)).length
theorem ranN_le (E : BE) (s : BS) : ranN E s ≤ E.sm.length := List.length_filter_le _ _
theorem ranN_more {E : BE} {s s' : BS} {i : Nat} (hn : E.sm.Nodup) (hi : i ∈ E.sm) (h0 : ranP s i = false) (h : ∀ k, ranP s' k = (decide (k = i) || ranP s k)) : ranN E s + 1 ≤ ranN E s' := by
 unfold ranN
 have h1 : (i :: E.sm.filter (ranP s)).Nodup := List.nodup_cons.2 ⟨(fun hm => by have := (List.mem_filter.1 hm).2; rw [h0] at this; cases this), hn.filter _⟩
 have := nodup_len (b := E.sm.filter (ranP s')) h1 fun x hx => by
  rcases List.mem_cons.1 hx with rfl | hx
  ·exact List.mem_filter.2 ⟨hi, by rw [h]; simp⟩
  ·obtain ⟨h2, h3⟩ := List.mem_filter.1 hx
   exact List.mem_filter.2 ⟨h2, by rw [h, h3]; simp⟩
 simpa using this
structure OnceW (E : BE) (o : List Nat) (is : Nat → Bool) (l : List Rule) : Prop where
 well : BWell E o is
 rules : E.l = l
 all : E.sm = List.range l.length
theorem OnceW.mem {E : BE} {o : List Nat} {is : Nat → Bool} {l : List Rule} (h : OnceW E o is l) {i : Nat} : i ∈ E.sm ↔ i < l.length := by rw [h.all, List.mem_range]
theorem OnceW.nd {E : BE} {o : List Nat} {is : Nat → Bool} {l : List Rule} (h : OnceW E o is l) (i k : Nat) : E.nd i k = needB l i k := by unfold BE.nd; rw [h.rules]

structure OnceAt (wB wr : World) (P : Nat → Addr) (base : Nat) (E : BE) (K : BK) (rb n : Nat) (s : BS) (f : Nat → Bool) : Prop where
 bld : BldAt wr P base E K s
 inv : BInv E s
 only : Only (fun i => InSteps E K i ∨ i = rb) wB wr
 tab : TabAt wr rb 4 n (fun k => .bool (f k))
 apart : ¬ InBld E K rb
section
variable {wB wr w' : World} {P : Nat → Addr} {base : Nat} {E : BE} {K : BK} {rb n : Nat} {s : BS} {f : Nat → Bool}
theorem OnceAt.grow (h : OnceAt wB wr P base E K rb n s f) (ho : Ext wr w') : OnceAt wB w' P base E K rb n s f := ⟨h.bld.ext ho, h.inv, h.only.ext ho, h.tab.ext ho, h.apart⟩
theorem OnceAt.run (h : OnceAt wB wr P base E K rb n s f) {s' : BS} (hb : BldAt w' P base E K s') (hi : BInv E s') (ho : Only (InSteps E K) wr w') : OnceAt wB w' P base E K rb n s' f :=
 ⟨hb, hi, h.only.then (ho.mono fun _ _ h => .inl h), h.tab.later ho (fun e => h.apart e.bld), h.apart⟩
theorem OnceAt.mark (h : OnceAt wB wr P base E K rb n s f) (k : Nat) {g : Nat → Bool} (hg : ∀ i, i < n → g i = (decide (i = k) || f i)) : OnceAt wB (wr.setCell ⟨rb, k, none⟩ (.bool true)) P base E K rb n s g := by
 have ho : Only (fun i => i = rb) wr (wr.setCell ⟨rb, k, none⟩ (.bool true)) := Only.set _ rfl
 refine ⟨h.bld.later ho (fun i hi e => h.apart (e ▸ hi)), h.inv, h.only.then (ho.mono fun _ _ h => .inr h), (h.tab.set k (.bool true)).congr fun i hi => ?_, h.apart⟩
 rw [hg i hi]
 by_cases e : i = k
 ·rw [if_pos e, decide_eq_true e]; rfl
 ·rw [if_neg e, decide_eq_false e]; rfl
theorem OnceAt.same (h : OnceAt wB wr P base E K rb n s f) {g : Nat → Bool} (hg : ∀ i, i < n → f i = g i) : OnceAt wB wr P base E K rb n s g := ⟨h.bld, h.inv, h.only, h.tab.congr fun i hi => by rw [hg i hi], h.apart⟩
end
end Go.Proofs.YtnmhaipjfpongacGreatDoor

namespace Go.Proofs.YtnmhaipjfpongacGreatDoor
open Go.ChangeShapes Go.WideShapes Go.ChangeAt Go.RowKit

noncomputable def cacheZ (E : BE) (many : Nat) (L : FL) (s : BS) (z : Int) : FL := match (runZ E (some (many, L)) s z).2.2 with
 | some (_, L') => L'
 | none => L
section
variable {w w' : World} {P : Nat → Addr} {base : Nat} {E : BE} {K : BK} {s : BS} {o : List Nat} {is : Nat → Bool} {cb cmb : Nat} {sv : Value} {many : Nat} {L : FL}
end
end Go.Proofs.YtnmhaipjfpongacGreatDoor

namespace Go.Proofs.YtnmhaipjfpongacGreatDoor
open Go.ChangeShapes Go.WideShapes Go.ChangeAt Go.RowKit

section
variable {w0 w w' : World} {E : BE} {K : MK} {s : BS} {o : List Nat} {is : Nat → Bool}
theorem mst_done {i : Nat} (hi : i ∈ E.sm) (b : Bool) (k : Nat) : mst E (doneP s i b) k = if k = i then 2 else mst E s k := by
 unfold mst
 show (if k ∈ E.sm then (if k = i then 2 else s.st k) else 0) = _
 by_cases e : k = i
 ·subst e; rw [if_pos hi, if_pos rfl, if_pos rfl]
 ·rw [if_neg e, if_neg e]
theorem outM_done {i : Nat} (hi : i ∈ E.sm) (b : Bool) (k : Nat) : outM E (doneP s i b) k = if k = i then (E.ans i).1 else outM E s k := by
 unfold outM
 rw [mst_done hi]
 by_cases e : k = i
 ·subst e; rw [if_pos rfl, if_pos rfl, if_pos rfl]
 ·rw [if_neg e, if_neg e]
theorem hitM_done {i : Nat} (hi : i ∈ E.sm) (b : Bool) (k : Nat) : hitM E (doneP s i b) k = if k = i then b else hitM E s k := by
 unfold hitM
 rw [mst_done hi]
 show ((if k = i then 2 else mst E s k) == 2 && (if k = i then b else s.hit k)) = _
 by_cases e : k = i
 ·subst e; rw [if_pos rfl, if_pos rfl, if_pos rfl]; rfl
 ·rw [if_neg e, if_neg e, if_neg e]
theorem whyM_done {i : Nat} (hi : i ∈ E.sm) (h1 : s.st i = 1) (b : Bool) (k : Nat) : whyM E (doneP s i b) k = whyM E s k := by
 unfold whyM
 rw [mst_done hi]
 by_cases e : k = i
 ·subst e; rw [if_pos rfl, mst_in hi, h1]; rfl
 ·rw [if_neg e]
def ownIn (E : BE) (q : B) (t : Nat) : List B := ((E.l.take t).filter fun r => r.out == q).map fun _ => (E.W q).1
def madeTo (E : BE) (q : B) (t : Nat) : Bool := (E.l.take t).any fun r => r.out == q
theorem ownIn_step {q : B} {t : Nat} {r : Rule} (h : E.l[t]? = some r) : ownIn E q (t + 1) = ownIn E q t ++ (if r.out == q then [(E.W q).1] else []) := by
 unfold ownIn
 rw [List.take_add_one, h, Option.toList_some, List.filter_append, List.map_append]
 cases hq : r.out == q with
 | true => rw [List.filter_cons_of_pos (by simpa using hq)]; rfl
 | false => rw [List.filter_cons_of_neg (by simpa using hq)]; rfl
theorem madeTo_step {q : B} {t : Nat} {r : Rule} (h : E.l[t]? = some r) : madeTo E q (t + 1) = (madeTo E q t || r.out == q) := by
 unfold madeTo
 rw [List.take_add_one, h, List.any_append]
 simp
theorem ownIn_end (hR : RightS E.l) (q : B) : ownIn E q E.l.length = if madeTo E q E.l.length then [(E.W q).1] else [] := by
 unfold ownIn madeTo
 rw [List.take_length]
 have key : ∀ (l : List Rule), (l.map Rule.out).Nodup → (l.filter fun r => r.out == q).map (fun _ => (E.W q).1) = if (l.any fun r => r.out == q) then [(E.W q).1] else [] := by
  intro l hn
  induction l with
  | nil => rfl
  | cons r l ih =>
   rw [List.map_cons, List.nodup_cons] at hn
   rw [List.any_cons]
   cases hq : r.out == q with
   | false => rw [List.filter_cons_of_neg (by simpa using hq), ih hn.2, Bool.false_or]
   | true =>
    have hnone : l.filter (fun r => r.out == q) = [] := by
     rw [List.filter_eq_nil_iff]
     intro x hx e
     have e1 : x.out = q := by simpa using e
     have e2 : r.out = q := by simpa using hq
     exact hn.1 (List.mem_map.2 ⟨x, hx, by rw [e1, e2]⟩)
    rw [List.filter_cons_of_pos (by simpa using hq), hnone, Bool.true_or]
    rfl
 exact key E.l hR.2.2
theorem BWell.made (h : BWell E o is) {i : Nat} (hi : i ∈ E.sm) (hr : readyP E s i = true) {q : B} (hq : q ∈ (E.rule i).ins) {j : Nat} {r : Rule} (hj : E.l[j]? = some r) (he : (r.out == q) = true) : outM E s j = (E.W q).1 ∧ (BInv E s → (E.W q).2 = 0) := by
 have hjl := (List.getElem?_eq_some_iff.1 hj).1
 have hre : E.rule j = r := by unfold BE.rule; rw [hj]; rfl
 have hro : (E.rule j).out = q := by rw [hre]; simpa using he
 have hn : E.nd i j = true := (need_iff (h.lt i hi) hjl).2 (by rw [hro]; exact hq)
 have hjs := h.clos i hi j hjl hn
 have h2 := (ready_iff.1 hr).2 j hjs hn
 have ha : E.ans j = E.W q := by unfold BE.ans; rw [hro]
 refine ⟨?_, fun I => by rw [← ha]; exact I.two j hjs h2⟩
 unfold outM
 rw [mst_in hjs, if_pos h2, ha]
theorem BWell.leafM (h : BWell E o is) {i : Nat} (hi : i ∈ E.sm) {q : B} (hq : q ∈ (E.rule i).ins) (hm : madeTo E q E.l.length = false) : E.W q = wLeaf E.T q := by
 rcases h.input hi hq with ⟨k, hk, _, hko, _, _⟩ | ⟨_, e⟩
 ·exfalso
  unfold madeTo at hm
  rw [List.take_length, List.any_eq_false] at hm
  exact hm _ (List.mem_of_getElem? (BE.rule_at (h.lt k hk))) (by simpa using hko)
 ·exact e

structure RCch (w : World) (cb : Nat) (cv : Value) (many : Nat) (L : FL) : Prop where
 cells : w.heap[cb]? = some (.cells #[I many, cv] 93 (0, 0))
 rd : RdS 2 encE w cv L
 ok : CacheOk L
 nodup : (L.map (·.1)).Nodup
 len : L.length ≤ many
 many : many ≤ 100
 lt : ∀ i, cv.ownBlock = some i → i < w.heap.size ∧ i ≠ cb
theorem RCch.later {cb : Nat} {cv : Value} {many : Nat} {L : FL} {p : Nat → Prop} (h : RCch w cb cv many L) (ho : Only p w w') (h1 : ¬ p cb) (h2 : ∀ i, cv.ownBlock = some i → ¬ p i) : RCch w' cb cv many L :=
 ⟨ho.heapOf h.cells h1, h.rd.later ho h2, h.ok, h.nodup, h.len, h.many, fun i e => ⟨Nat.lt_of_lt_of_le (h.lt i e).1 ho.size, (h.lt i e).2⟩⟩
theorem RCch.ext {cb : Nat} {cv : Value} {many : Nat} {L : FL} (h : RCch w cb cv many L) (ho : Ext w w') : RCch w' cb cv many L := h.later ho (fun h => h) (fun _ _ h => h)
theorem RCch.got {cb : Nat} {cv : Value} {many : Nat} {L L' : FL} {r : Value} {e : Ending} (h : RCch w cb cv many L) (hg : GotM w cb many cv L' r e w') (hok : CacheOk L') (hn : (L'.map (·.1)).Nodup) (hl : L'.length ≤ many) :
  ∃ cv', e = .returned r ∧ RCch w' cb cv' many L' ∧ Only (fun i => i = cb) w w' ∧ ∀ i, cv'.ownBlock = some i → cv.ownBlock = some i ∨ w.heap.size ≤ i := by
 obtain ⟨cv', rfl, h1, h2, h3, h4⟩ := hg
 have hc := lt_of_heap h.cells
 refine ⟨cv', rfl, ⟨h1, h2, hok, hn, hl, h.many, fun i e => ?_⟩, h3, fun i e => (h4 i e).imp id (·.1)⟩
 rcases h4 i e with e2 | ⟨e2, e3⟩
 ·exact ⟨Nat.lt_of_lt_of_le (h.lt i e2).1 h3.size, (h.lt i e2).2⟩
 ·exact ⟨e3, by omega⟩
def CchM (w : World) (K : MK) (cb : Nat) (cv : Value) : CS → Prop
 | none => K.cp = .pointer none
 | some (many, L) => K.cp = PTR cb ∧ RCch w cb cv many L ∧ ¬ InMA K cb ∧ ∀ i, cv.ownBlock = some i → ¬ InMA K i
theorem CchM.ext {cb : Nat} {cv : Value} {C : CS} (h : CchM w K cb cv C) (ho : Ext w w') : CchM w' K cb cv C := by
 cases C with
 | none => exact h
 | some p => obtain ⟨many, L⟩ := p; exact ⟨h.1, h.2.1.ext ho, h.2.2⟩
theorem CchM.tabs {cb : Nat} {cv : Value} {C : CS} (h : CchM w K cb cv C) (ho : Only (InM K) w w') : CchM w' K cb cv C := by
 cases C with
 | none => exact h
 | some p =>
  obtain ⟨many, L⟩ := p
  exact ⟨h.1, h.2.1.later ho (fun e => h.2.2.1 (.inr (.inr (.inr e)))) (fun i e e2 => h.2.2.2 i e (.inr (.inr (.inr e2)))), h.2.2⟩
def RunMPost (w0 w : World) (E : BE) (K : MK) (cb : Nat) (cv : Value) (r : Bool × Nat) (s : BS) (C : CS) (e : Ending) (w' : World) : Prop :=
 ∃ cv', e = .returned (.tuple #[.bool r.1, IN r.2]) ∧ MBldAt w0 w' E K s ∧ CchM w' K cb cv' C ∧ Only (fun i => InM K i ∨ i = cb) w w' ∧ ∀ i, cv'.ownBlock = some i → cv.ownBlock = some i ∨ (w.heap.size ≤ i ∧ i < w'.heap.size)
theorem RunMPost.of_some {cb : Nat} {cv : Value} {many : Nat} {L : FL} {r : Bool × Nat} {e : Ending} (h : ∃ cv', e = .returned (.tuple #[.bool r.1, IN r.2]) ∧ MBldAt w0 w' E K s ∧ CchM w' K cb cv' (some (many, L)) ∧ Only (fun i => InM K i ∨ i = cb) w w' ∧ ∀ i, cv'.ownBlock = some i → cv.ownBlock = some i ∨ w.heap.size ≤ i) : RunMPost w0 w E K cb cv r s (some (many, L)) e w' := by
 obtain ⟨cv', h1, h2, h3, h4, h5⟩ := h
 exact ⟨cv', h1, h2, h3, h4, fun i e => (h5 i e).imp id fun h => ⟨h, (h3.2.1.lt i e).1⟩⟩
theorem RunMPost.same {cb : Nat} {cv : Value} {C : CS} {r : Bool × Nat} (h : MBldAt w0 w E K s) (hC : CchM w K cb cv C) (ho : Ext w w') : RunMPost w0 w E K cb cv r s C (.returned (.tuple #[.bool r.1, IN r.2])) w' :=
 ⟨cv, rfl, h.grow ho, hC.ext ho, ho.mono fun _ _ h => h.elim, fun _ h => .inl h⟩

set_option maxRecDepth 100000 in
set_option maxHeartbeats 4000000 in
theorem runM_not {cb : Nat} {cv : Value} {C : CS} (h : MBldAt w0 w E K s) (hC : CchM w K cb cv C) (hW : BWell E o is) (hI : BInv E s) (z : Int) (hz : ¬ ∃ i : Nat, z = (i : Int) ∧ i ∈ E.sm ∧ readyP E s i = true) :
    Calls Tryz.prog 57 #[PTR K.b, I z] w (RunMPost w0 w E K cb cv (runZ E C s z).1 (runZ E C s z).2.1 (runZ E C s z).2.2) := by
  have H := Lib.hid h
  have HC := Lib.hid hC
  have hl40 := hW.right.1
  have hlz : (E.l.length : Int) ≤ 40 := by omega
  by_cases hr : 0 ≤ z ∧ z < (E.l.length : Int)
  · obtain ⟨i, rfl⟩ : ∃ i : Nat, z = (i : Int) := ⟨z.toNat, by omega⟩
    have hin : i < E.l.length := by omega
    have hiz : (i : Int) < (E.l.length : Int) := by omega
    have hi0 : (0 : Int) ≤ (i : Int) := by omega
    have hi1 : ¬ (i : Int) < 0 := by omega
    have hi2 : ¬ (E.l.length : Int) ≤ (i : Int) := by omega
    have c1 := (h.cell 1).trans (rfl : _ = some (Value.slice K.la E.l.length K.lc))
    have c2 := (h.cell 2).trans (rfl : _ = some (TabS K.st E.l.length))
    have t0 := h.tab.st.cell hin
    have hb0 := stateM_none (mst_le hI i)
    have hb1 := stateM_waits (mst_le hI i)
    by_cases him : i ∈ E.sm
    · have hrz : runZ E C s (i : Int) = runP E C s i := runZ_in him
      have hm1 : 1 ≤ s.st i := (hI.rng i him).1
      by_cases h1 : s.st i = 1
      · have hnr : readyP E s i = false := by
          cases hq : readyP E s i with
          | false => rfl
          | true => exact absurd ⟨i, rfl, him, hq⟩ hz
        have hre : runZ E C s (i : Int) = ((false, 11), s, C) := by
          rw [hrz]; unfold runP
          rw [if_neg (by simpa using him), if_neg (by simpa using h1), if_pos hnr]
        rw [hre]
        have hrm := isReadyM_any h hW hI hin
        rw [show readyMB E s i = false by unfold readyMB; rw [hnr, Bool.and_false]] at hrm
        have HRM := Lib.hid hrm
        rw [mst_in him, h1] at hb0 hb1 t0
        rw [show ((1 : Nat) == 0) = false from rfl] at hb0
        rw [show ((1 : Nat) == 1) = true from rfl] at hb1
        generalize stateM 1 = sv at t0 hb0 hb1
        clear h hC hW hI hz hr him hrz hm1 h1 hnr hre hrm hin
        go_enter Tryz.func57, Tryz.ntmps57
        go_wp2_with fail
        refine HRM.out.mono ?_
        rintro e w3 ⟨rfl, ho⟩
        have HX3 := Lib.hid ho
        clear ho
        go_wp2_with fail
        go_ret2
        exact RunMPost.same (r := (false, 11)) H.out HC.out HX3.out
      · have hre : runZ E C s (i : Int) = ((false, 12), s, C) := by
          rw [hrz]; unfold runP
          rw [if_neg (by simpa using him), if_pos (by simpa using h1)]
        rw [hre]
        rw [mst_in him] at hb0 hb1 t0
        rw [show (s.st i == 0) = false from beq_eq_false_iff_ne.2 (by omega)] at hb0
        rw [show (s.st i == 1) = false from beq_eq_false_iff_ne.2 h1] at hb1
        generalize stateM (s.st i) = sv at t0 hb0 hb1
        clear h hC hW hI hz hr him hrz hm1 h1 hre hin
        go_enter Tryz.func57, Tryz.ntmps57
        go_wp2_with fail
        go_ret2
        exact RunMPost.same (r := (false, 12)) H.out HC.out (Only.refl _ _)
    · have hre : runZ E C s (i : Int) = ((false, 6), s, C) := runZ_out fun k hk e => him (by have : k = i := by omega
                                                                                             rw [← this]; exact hk)
      rw [hre]
      rw [mst_out him] at hb0 hb1 t0
      rw [show ((0 : Nat) == 0) = true from rfl] at hb0
      generalize stateM 0 = sv at t0 hb0 hb1
      clear h hC hW hI hz hr him hre hin hb1
      go_enter Tryz.func57, Tryz.ntmps57
      go_wp2_with fail
      go_ret2
      exact RunMPost.same (r := (false, 6)) H.out HC.out (Only.refl _ _)
  · have hre : runZ E C s z = ((false, 6), s, C) := runZ_out fun k hk e => hr ⟨by omega, by have := hW.lt k hk; omega⟩
    rw [hre]
    have c1 := (h.cell 1).trans (rfl : _ = some (Value.slice K.la E.l.length K.lc))
    by_cases hz0 : z < 0
    · clear h hC hW hI hz hr hre
      go_enter Tryz.func57, Tryz.ntmps57
      go_wp2_with fail
      go_ret2
      exact RunMPost.same (r := (false, 6)) H.out HC.out (Only.refl _ _)
    · have hz1 : (E.l.length : Int) ≤ z := by omega
      clear h hC hW hI hz hr hre
      go_enter Tryz.func57, Tryz.ntmps57
      go_wp2_with fail
      go_ret2
      exact RunMPost.same (r := (false, 6)) H.out HC.out (Only.refl _ _)
end
end Go.Proofs.YtnmhaipjfpongacGreatDoor

namespace Go.Proofs.YtnmhaipjfpongacGreatDoor
open Go.ChangeShapes Go.WideShapes Go.ChangeAt Go.RowKit

theorem rule_word {r : Rule} (h : ruleCode r = 0) : r.word.length ≤ 100 := by
 have h2 : actCode r.kind r.word r.ins.length = 0 := by
  unfold ruleCode at h
  split at h
  ·cases h
  ·split at h
   ·rename_i h3; exact absurd h h3
   ·rename_i h3; exact Classical.byContradiction h3
 obtain ⟨k, _, _, _, h5⟩ := actCode_ok h2
 exact h5

section
variable {wB wr : World} {P : Nat → Addr} {base : Nat} {E : BE} {K : BK} {rb n : Nat} {s : BS} {o : List Nat} {is : Nat → Bool}
def RanIs (E : BE) (s s' : BS) (z : Int) (c : Nat) : Prop :=
 (c ≠ 0 ∧ s' = s ∧ ∀ i ∈ E.sm, (i : Int) = z → readyP E s i = false) ∨ (c = 0 ∧ ∃ i ∈ E.sm, z = (i : Int) ∧ readyP E s i = true ∧ ∀ k, ranP s' k = (decide (k = i) || ranP s k))
def OncePost (wB : World) (P : Nat → Addr) (base : Nat) (E : BE) (K : BK) (rb n : Nat) (s : BS) (z : Int) (e : Ending) (w' : World) : Prop :=
 ∃ (b : Bool) (c : Nat) (s' : BS), e = .returned (.tuple #[.bool b, errC P c]) ∧ OnceAt wB w' P base E K rb n s' (ranP s) ∧ RanIs E s s' z c
theorem OnceAt.runs (h : OnceAt wB wr P base E K rb n s (ranP s)) (hc : K.cp = .pointer none) (hW : BWell E o is) (hL : BLens E) (hV : PV wr P [2, 4, 5, 9, 10, 11]) (z : Int) :
  Calls Tryz.prog 56 #[PTR K.b, I z] wr (OncePost wB P base E K rb n s z) := by
 refine (runN_any h.bld hc hW h.inv hL hV z).mono ?_
 rintro e w' ⟨rfl, hb, ho⟩
 by_cases hz : ∃ i : Nat, i ∈ E.sm ∧ (i : Int) = z ∧ readyP E s i = true
 ·obtain ⟨i, hi, rfl, hr⟩ := hz
  obtain ⟨b, C', e1⟩ := run_ready (C := none) hi hr
  rw [runZ_in hi, e1] at hb
  rw [runZ_in hi, e1]
  exact ⟨b, 0, _, rfl, h.run hb (hW.step h.inv hi hr b) ho, .inr ⟨rfl, i, hi, rfl, hr, fun k => ran_step k⟩⟩
 ·have h1 : ∃ c, runZ E none s z = ((false, c), s, none) ∧ c ≠ 0 := by
   by_cases hin : ∃ i : Nat, i ∈ E.sm ∧ (i : Int) = z
   ·obtain ⟨i, hi, rfl⟩ := hin
    rw [runZ_in hi]
    exact run_not (fun h2 => hz ⟨i, h2.1, rfl, h2.2⟩)
   ·exact ⟨6, runZ_out (fun k hk e => hin ⟨k, hk, e⟩), by decide⟩
  obtain ⟨c, e1, hc0⟩ := h1
  rw [e1] at hb
  rw [e1]
  exact ⟨false, c, s, rfl, h.run hb h.inv ho, .inl ⟨hc0, rfl, fun i hi e2 => by
   cases hr : readyP E s i with
   | false => rfl
   | true => exact absurd ⟨i, hi, e2, hr⟩ hz⟩⟩
theorem OnceAt.vars {w : World} (h : OnceAt wB wr P base E K rb n s (ranP s)) (hx : Ext w wB) (hb : w.heap.size ≤ base) (hB : ∀ i, InSteps E K i → base ≤ i) (hr : w.heap.size ≤ rb) : Ext w wr :=
 hx.trans h.only (fun _ _ h => h) (fun i hi e => by
  rcases e with e | e
  ·have := hB i e; omega
  ·omega)

end
theorem BLens.of {l : List Rule} {sm : List Nat} {T : FL} (h : RightS l) (hs : ∀ r ∈ l, ShortR r) (hl : ∀ i ∈ sm, i < l.length) (hn : sm.length ≤ 1000) : BLens ⟨l, sm, T⟩ := by
 have hm : ∀ i ∈ sm, BE.rule ⟨l, sm, T⟩ i ∈ l := fun i hi => List.mem_of_getElem? (BE.rule_at (E := ⟨l, sm, T⟩) (hl i hi))
 exact ⟨hn, fun i hi => by have := (hs _ (hm i hi)).kind; omega, fun i hi => rule_word (h.2.1 _ (hm i hi)), fun i hi => (hs _ (hm i hi)).many⟩
end Go.Proofs.YtnmhaipjfpongacGreatDoor

namespace Go.Proofs.YtnmhaipjfpongacGreatDoor
open Go.ChangeShapes Go.WideShapes Go.ChangeAt Go.RowKit

theorem BInv.over {E : BE} {s : BS} (I : BInv E s) (h : ∀ i ∈ E.sm, s.st i ≠ 1) : ∀ i ∈ E.sm, s.st i = 2 ∨ s.st i = 3 ∨ s.st i = 4 := fun i hi => by
 have := I.rng i hi
 have := h i hi
 omega

section
variable {E : BE} {o : List Nat} {is : Nat → Bool} {s : BS} {many : Nat} {L : FL}
theorem BWell.runZ (h : BWell E o is) (I : BInv E s) (C : CS) (z : Int) : BInv E (runZ E C s z).2.1 := by
 by_cases hin : ∃ i : Nat, i ∈ E.sm ∧ (i : Int) = z
 ·obtain ⟨i, hi, rfl⟩ := hin
  rw [runZ_in hi]
  exact h.run I i
 ·rw [runZ_out (fun k hk e => hin ⟨k, hk, e⟩)]
  exact I
theorem fail_two {i k : Nat} (h : (failP E s i).st k = 2) : s.st k = 2 := by
 unfold failP at h
 rcases spread_cases (E := E) (s := setP s i 3) k with ⟨_, h2, _⟩ | ⟨_, h2⟩
 ·omega
 ·rw [h2] at h
  have e : (setP s i 3).st k = if k = i then 3 else s.st k := rfl
  rw [e] at h
  split at h
  ·omega
  ·exact h
theorem Roomy.mono {s' : BS} (h : Roomy E many s L) (hs : ∀ k ∈ E.sm, s'.st k = 2 → s.st k = 2) : Roomy E many s' L := ⟨h.nodup, h.keys, fun i hi h2 => h.has i hi (hs i hi h2)⟩
theorem done_two {i k : Nat} {b : Bool} (h : (doneP s i b).st k = 2) : k = i ∨ s.st k = 2 := by
 have e : (doneP s i b).st k = if k = i then 2 else s.st k := rfl
 rw [e] at h
 split at h
 ·exact .inl ‹_›
 ·exact .inr h
theorem Roomy.run (h : Roomy E many s L) (hm : E.sm.length ≤ many) (z : Int) : Roomy E many (runZ E (some (many, L)) s z).2.1 (cacheZ E many L s z) := by
 unfold cacheZ
 by_cases hin : ∃ i : Nat, i ∈ E.sm ∧ (i : Int) = z
 ·obtain ⟨i, hi, rfl⟩ := hin
  rw [runZ_in hi]
  unfold runP
  split
  ·exact h
  ·split
   ·exact h
   ·split
    ·exact h
    ·split
     ·exact h.mono fun k _ hk => fail_two hk
     ·simp only
      cases hl : L.lookup (E.key i) with
      | some x => exact h.get (by rw [hl]; rfl) (fun k _ hk => done_two hk)
      | none => exact h.put hm hi _ (fun k _ hk => done_two hk)
 ·rw [runZ_out (fun k hk e => hin ⟨k, hk, e⟩)]
  exact h
theorem nohit_run (hh : ∀ k, s.hit k = false) (z : Int) : ∀ k, (runZ E none s z).2.1.hit k = false := by
 by_cases hin : ∃ i : Nat, i ∈ E.sm ∧ (i : Int) = z
 ·obtain ⟨i, hi, rfl⟩ := hin
  rw [runZ_in hi]
  unfold runP
  split
  ·exact hh
  ·split
   ·exact hh
   ·split
    ·exact hh
    ·split
     ·exact hh
     ·intro k
      show (if k = i then false else s.hit k) = false
      rw [hh k]
      split <;> rfl
 ·rw [runZ_out (fun k hk e => hin ⟨k, hk, e⟩)]
  exact hh
end

noncomputable def stepNn (E : BE) (s : BS) (z : Int) : BS := (runZ E none s z).2.1
theorem run_of {E : BE} {s : BS} {C : CS} {i : Nat} (hi : i ∈ E.sm) (hr : readyP E s i = true) : (runZ E C s (i : Int)).1.2 = 0 ∧ ∀ k, ranP (runZ E C s (i : Int)).2.1 k = (decide (k = i) || ranP s k) := by
 obtain ⟨b, C', e⟩ := run_ready (C := C) hi hr
 rw [runZ_in hi, e]
 exact ⟨rfl, fun k => ran_step k⟩
def RunIs (A : World → Prop) (P : Nat → Addr) (r : Bool × Nat) (e : Ending) (w' : World) : Prop := e = .returned (.tuple #[.bool r.1, errC P r.2]) ∧ A w'
theorem RunIs.ready {A : World → Prop} {P : Nat → Addr} {r : Bool × Nat} {e : Ending} {w' : World} (h : RunIs A P r e w') (h0 : r.2 = 0) : ∃ b, e = .returned (.tuple #[.bool b, .nilIface]) ∧ A w' := by
 obtain ⟨rfl, hA⟩ := h
 rw [h0]
 exact ⟨_, rfl, hA⟩

structure SameG (E : BE) (Ka Kb Kd : BK) (cb many n0 ba bb bd be : Nat) : Prop where
 a : ∀ i, InBld E Ka i → ba ≤ i ∧ i < bb
 b : ∀ i, InBld E Kb i → bb ≤ i ∧ i < bd
 d : ∀ i, InBld E Kd i → bd ≤ i ∧ i < be
 n : n0 ≤ ba ∧ ba ≤ bb ∧ bb ≤ bd ∧ bd ≤ be
 ca : Ka.cp = PTR cb
 cB : Kb.cp = .pointer none
 cd : Kd.cp = PTR cb
 many : many ≤ 100
structure SameAt (w0 : World) (P : Nat → Addr) (E : BE) (Ka Kb Kd : BK) (cb cmb many ba bb bd be : Nat) (X : List (Nat × Obj)) (L : FL) (sa sb sd : BS) (wr : World) : Prop where
 a : BldAt wr P ba E Ka sa
 b : BldAt wr P bb E Kb sb
 d : BldAt wr P bd E Kd sd
 ia : BInv E sa
 ib : BInv E sb
 id : BInv E sd
 ext : Ext w0 wr
 size : be ≤ wr.heap.size
 cch : ∃ sv, CacheAt wr cb cmb sv many L ∧ (∀ i, InCache cb cmb sv i → (w0.heap.size ≤ i ∧ i < ba) ∨ be ≤ i) ∧ CacheOk L ∧ L.length ≤ many ∧ (E.sm.length ≤ many → Roomy E many sa L) ∧ ∀ x ∈ X, ¬ InCache cb cmb sv x.1
 kept : ∀ x ∈ X, wr.heap[x.1]? = some x.2 ∧ be ≤ x.1
 nohit : ∀ k, sb.hit k = false
 hits : E.sm.length ≤ many → ∀ i ∈ E.sm, sd.st i = 2 → sd.hit i = true
section
variable {w0 wr w' : World} {P : Nat → Addr} {E : BE} {Ka Kb Kd : BK} {cb cmb many ba bb bd be : Nat} {X : List (Nat × Obj)} {L : FL} {sa sb sd : BS} {o : List Nat} {is : Nat → Bool}
theorem SameAt.grow (h : SameAt w0 P E Ka Kb Kd cb cmb many ba bb bd be X L sa sb sd wr) (ho : Ext wr w') : SameAt w0 P E Ka Kb Kd cb cmb many ba bb bd be X L sa sb sd w' := by
 obtain ⟨sv, h1, h2, h3⟩ := h.cch
 exact ⟨h.a.ext ho, h.b.ext ho, h.d.ext ho, h.ia, h.ib, h.id, h.ext.then ho, Nat.le_trans h.size ho.size, ⟨sv, h1.later ho (fun _ _ h => h), h2, h3⟩, fun x hx => ⟨ho.heapOf (h.kept x hx).1 (fun h => h), (h.kept x hx).2⟩, h.nohit, h.hits⟩
theorem SameAt.add (h : SameAt w0 P E Ka Kb Kd cb cmb many ba bb bd be X L sa sb sd wr) (ho : Ext wr w') {ob : Obj} (hc : w'.heap[wr.heap.size]? = some ob) : SameAt w0 P E Ka Kb Kd cb cmb many ba bb bd be ((wr.heap.size, ob) :: X) L sa sb sd w' := by
 have g := h.grow ho
 obtain ⟨sv, h1, h2, h3, h4, h5, h6⟩ := h.cch
 exact ⟨g.a, g.b, g.d, g.ia, g.ib, g.id, g.ext, g.size, ⟨sv, h1.later ho (fun _ _ h => h), h2, h3, h4, h5, fun x hx e => by
  rcases List.mem_cons.1 hx with rfl | hx
  ·exact absurd (h1.lt _ e) (Nat.lt_irrefl _)
  ·exact h6 x hx e⟩, fun x hx => by
  rcases List.mem_cons.1 hx with rfl | hx
  ·exact ⟨hc, h.size⟩
  ·exact g.kept x hx, g.nohit, g.hits⟩
theorem SameAt.drop {y : Nat × Obj} (h : SameAt w0 P E Ka Kb Kd cb cmb many ba bb bd be (y :: X) L sa sb sd wr) (G : SameG E Ka Kb Kd cb many w0.heap.size ba bb bd be) (ho : Only (fun i => i = y.1) wr w') (hn : ∀ z ∈ X, z.1 ≠ y.1) : SameAt w0 P E Ka Kb Kd cb cmb many ba bb bd be X L sa sb sd w' := by
 obtain ⟨sv, h1, h2, h3, h4, h5, h6⟩ := h.cch
 have hy := (h.kept y (.head _)).2
 have g := G.n
 exact ⟨h.a.later ho (fun i hi e => by have := G.a i hi; omega), h.b.later ho (fun i hi e => by have := G.b i hi; omega), h.d.later ho (fun i hi e => by have := G.d i hi; omega), h.ia, h.ib, h.id, h.ext.trans ho (fun _ _ h => h) (fun i hi e => by omega), Nat.le_trans h.size ho.size, ⟨sv, h1.later ho (fun i hi e => h6 y (.head _) (e ▸ hi)), h2, h3, h4, h5, fun x hx => h6 x (.tail _ hx)⟩, fun x hx => ⟨ho.heapOf (h.kept x (.tail _ hx)).1 (hn x hx), (h.kept x (.tail _ hx)).2⟩, h.nohit, h.hits⟩
end
end Go.Proofs.YtnmhaipjfpongacGreatDoor

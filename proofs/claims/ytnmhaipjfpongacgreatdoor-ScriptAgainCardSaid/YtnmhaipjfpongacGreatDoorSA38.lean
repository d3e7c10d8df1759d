/- Texts of this seat laid together for one claim: Br1, Br4, Yb1, Yb2, Br2. No condition of its own: what each proves stands with its theorems. -/
import Derived.Test.YtnmhaipjfpongacGreatDoorSA37
import Derived.Test.YtnmhaipjfpongacGreatDoorSA34
import Derived.Deep.CutBlock
import Derived.Deep.DeepCutAuto
import Derived.Test.YtnmhaipjfpongacGreatDoorSA30
import Derived.Test.YtnmhaipjfpongacGreatDoorSA5
import Derived.Test.YtnmhaipjfpongacGreatDoorSA23
import Derived.Test.YtnmhaipjfpongacGreatDoorSA29
import Derived.Test.YtnmhaipjfpongacGreatDoorSA24
import Derived.Test.YtnmhaipjfpongacGreatDoorSA21
import Derived.Test.YtnmhaipjfpongacGreatDoorSA9
import Derived.Deep.RegionLaw
import Derived.Test.YtnmhaipjfpongacGreatDoorSA8
import Derived.Test.YtnmhaipjfpongacGreatDoorSA25
import Derived.Test.YtnmhaipjfpongacGreatDoorSA27
namespace Go.Proofs.YtnmhaipjfpongacGreatDoor
open Go.ChangeShapes Go.WideShapes Go.ChangeAt Go.RowKit

def CchR (w : World) (K : BK) (cb cmb : Nat) (sv : Value) : CS → Prop
 | none => K.cp = .pointer none
 | some (many, L) => K.cp = PTR cb ∧ CacheAt w cb cmb sv many L ∧ CacheOk L ∧ L.length ≤ many ∧ many ≤ 100
def InRC (E : BE) (K : BK) (cb cmb : Nat) (sv : Value) (C : CS) (i : Nat) : Prop := InBld E K i ∨ (C ≠ none ∧ InCache cb cmb sv i)
structure RealAt (w0 : World) (P : Nat → Addr) (base : Nat) (E : BE) (K : BK) (cb cmb : Nat) (sv : Value) (w : World) (x : BS × CS) : Prop where
 bld : BldAt w P base E K x.1
 inv : BInv E x.1
 ext : Ext w0 w
 cch : CchR w K cb cmb sv x.2
 lo : ∀ i, InRC E K cb cmb sv x.2 i → w0.heap.size ≤ i
 apart : x.2 ≠ none → ∀ i, InCache cb cmb sv i → ¬ InBld E K i
theorem CchR.keep {w w' : World} {K : BK} {cb cmb : Nat} {sv : Value} {C : CS} {q : Nat → Prop} (h : CchR w K cb cmb sv C) (ho : Only q w w') (hq : C ≠ none → ∀ i, InCache cb cmb sv i → ¬ q i) : CchR w' K cb cmb sv C := by
 cases C with
 | none => exact h
 | some p => exact ⟨h.1, h.2.1.later ho (hq (by simp)), h.2.2⟩
theorem runZ_cs_none (E : BE) (s : BS) (z : Int) : (runZ E none s z).2.2 = none := by
 by_cases hz : ∃ i : Nat, i ∈ E.sm ∧ (i : Int) = z
 ·obtain ⟨i, hi, rfl⟩ := hz
  rw [runZ_in hi, runP_none]
 ·rw [runZ_out (fun k hk e => hz ⟨k, hk, e⟩)]
theorem runZ_cs_iff (E : BE) (C : CS) (s : BS) (z : Int) : (runZ E C s z).2.2 ≠ none ↔ C ≠ none := by
 cases C with
 | none => rw [runZ_cs_none]
 | some p => obtain ⟨many, L⟩ := p; rw [runZ_cs]; simp
section
variable {w0 w w' : World} {P : Nat → Addr} {base : Nat} {E : BE} {K : BK} {cb cmb : Nat} {sv : Value} {x : BS × CS} {o : List Nat} {is : Nat → Bool}
theorem RealAt.lt (h : RealAt w0 P base E K cb cmb sv w x) : ∀ i, InRC E K cb cmb sv x.2 i → i < w.heap.size := by
 obtain ⟨s, C⟩ := x
 rintro i (hi | ⟨hc, hi⟩)
 ·exact h.bld.lt i hi
 ·cases C with
  | none => exact absurd rfl hc
  | some p => exact h.cch.2.1.lt i hi
theorem RealAt.other {q : Nat → Prop} (h : RealAt w0 P base E K cb cmb sv w x) (ho : Only q w w') (hq : ∀ i, q i → w0.heap.size ≤ i ∧ ¬ InRC E K cb cmb sv x.2 i) : RealAt w0 P base E K cb cmb sv w' x :=
 ⟨h.bld.later ho (fun i hi e => (hq i e).2 (.inl hi)), h.inv, h.ext.trans ho (fun _ _ h => h) (fun i hi e => by have := (hq i e).1; omega), h.cch.keep ho (fun hc i hi e => (hq i e).2 (.inr ⟨hc, hi⟩)), h.lo, h.apart⟩
theorem RealAt.grow (h : RealAt w0 P base E K cb cmb sv w x) (ho : Ext w w') : RealAt w0 P base E K cb cmb sv w' x := h.other ho (fun _ h => h.elim)
theorem RealAt.run (h : RealAt w0 P base E K cb cmb sv w x) (hW : BWell E o is) (hL : BLens E) (hV : PV w0 P [2, 4, 5, 9, 10, 11]) (z : Int) :
  Calls Tryz.prog 56 #[PTR K.b, I z] w (fun e w' => ∃ sv', e = .returned (.tuple #[.bool (runZ E x.2 x.1 z).1.1, errC P (runZ E x.2 x.1 z).1.2]) ∧ RealAt w0 P base E K cb cmb sv' w' ((runZ E x.2 x.1 z).2.1, (runZ E x.2 x.1 z).2.2) ∧ Only (InRC E K cb cmb sv x.2) w w' ∧ ∀ i, InRC E K cb cmb sv' x.2 i → InRC E K cb cmb sv x.2 i ∨ w.heap.size ≤ i) := by
 have hsz := h.ext.size
 obtain ⟨s, C⟩ := x
 cases C with
 | none =>
  refine (runN_any h.bld h.cch hW h.inv hL (hV.ext h.ext) z).mono ?_
  rintro e w' ⟨rfl, h1, h2⟩
  refine ⟨sv, rfl, ⟨h1, hW.runZ h.inv _ z, h.ext.trans h2 (fun _ _ h => h) (fun i hi e => by have := h.lo i (.inl e.bld); omega), ?_, fun i hi => ?_, fun hc => absurd (runZ_cs_none E s z) hc⟩, h2.mono fun i _ e => .inl e.bld, fun i hi => .inl hi⟩
  ·show CchR _ _ _ _ _ (runZ E none s z).2.2
   rw [runZ_cs_none]
   exact h.cch
  ·rcases hi with hi | ⟨hc, hi⟩
   ·exact h.lo i (.inl hi)
   ·exact absurd (runZ_cs_none E s z) hc
 | some p =>
  obtain ⟨many, L⟩ := p
  have hn : (some (many, L) : CS) ≠ none := by simp
  obtain ⟨hcp, hca, hok, hlm, hm⟩ := h.cch
  refine (runC_any h.bld hcp ⟨hca, hok, hlm, hm, h.apart hn⟩ hW h.inv hL h.ext (fun j hj => ?_) hV z).mono ?_
  ·rcases hj with e | e
   ·exact h.lo j (.inl e.bld)
   ·exact h.lo j (.inr ⟨hn, e⟩)
  rintro e w' ⟨sv', rfl, h1, h2, h3, h4⟩
  have hne : (runZ E (some (many, L)) s z).2.2 = some (many, cacheZ E many L s z) := runZ_cs ..
  have hlo : ∀ i, InCache cb cmb sv' i → w0.heap.size ≤ i := fun i hi => by
   rcases h4 i hi with e | e
   ·exact h.lo i (.inr ⟨hn, e⟩)
   ·omega
  refine ⟨sv', rfl, ⟨h1, hW.runZ h.inv _ z, h.ext.trans h3 (fun _ _ h => h) (fun i hi e => ?_), ?_, fun i hi => ?_, fun _ => h2.apart⟩, h3.mono fun i _ e => e.elim (fun e => .inl e.bld) (fun e => .inr ⟨hn, e⟩), fun i hi => ?_⟩
  ·rcases e with e | e
   ·have := h.lo i (.inl e.bld); omega
   ·have := h.lo i (.inr ⟨hn, e⟩); omega
  ·show CchR _ _ _ _ _ (runZ E (some (many, L)) s z).2.2
   rw [hne]
   exact ⟨hcp, h2.cache, h2.ok, h2.len, h2.many⟩
  ·rcases hi with hi | ⟨_, hi⟩
   ·exact h.lo i (.inl hi)
   ·exact hlo i hi
  ·rcases hi with hi | ⟨hc, hi⟩
   ·exact .inl (.inl hi)
   ·exact (h4 i hi).imp (fun e => .inr ⟨hc, e⟩) id
structure RealX (w0 : World) (P : Nat → Addr) (base : Nat) (E : BE) (K : BK) (cb cmb : Nat) (sv : Value) (C : CS) (w1 : World) (X : List (Nat × Obj)) (w : World) (x : BS × CS) : Prop where
 some : x.2 ≠ none ↔ C ≠ none
 only : Only (InRC E K cb cmb sv C) w1 w
 at_ : ∃ sv', RealAt w0 P base E K cb cmb sv' w x ∧ (∀ i, InRC E K cb cmb sv' C i → InRC E K cb cmb sv C i ∨ w1.heap.size ≤ i) ∧ ∀ z ∈ X, ¬ InRC E K cb cmb sv' C z.1
 kept : ∀ z ∈ X, w.heap[z.1]? = Option.some z.2 ∧ w1.heap.size ≤ z.1
theorem InRC.iff {C C' : CS} (h : C' ≠ none ↔ C ≠ none) {i : Nat} : InRC E K cb cmb sv C' i ↔ InRC E K cb cmb sv C i := by
 unfold InRC
 rw [h]
theorem only_new {p q : Nat → Prop} {w1 w w' : World} (h : Only p w1 w) (ho : Only q w w') (hq : ∀ i, q i → p i ∨ w1.heap.size ≤ i) : Only p w1 w' :=
 h.trans ho (fun _ _ h => h) (fun i hi e => (hq i e).elim id (fun e => by omega))
theorem RealX.keeps {C : CS} {w1 : World} (h01 : w0.heap.size ≤ w1.heap.size) (hW : BWell E o is) (hL : BLens E) (hV : PV w0 P [2, 4, 5, 9, 10, 11]) : KeepsRun (RealX w0 P base E K cb cmb sv C w1) (·.1) (stepM E) P base E K := by
 refine ⟨fun _ _ _ h => ?_, fun X w x w' h ho => ?_, fun X w x w' ob h ho hc => ?_, fun _ _ _ h z hz => (h.kept z hz).1, fun y X w x w' h ho hn => ?_, fun X w x h i hi hr => ?_, fun _ _ hi hr => (run_of hi hr).2⟩
 ·obtain ⟨sv', h1, _⟩ := h.at_
  exact ⟨h1.bld, h1.inv⟩
 ·obtain ⟨sv', h1, h2⟩ := h.at_
  exact ⟨h.some, only_new h.only ho (fun _ h => h.elim), ⟨sv', h1.grow ho, h2⟩, fun z hz => ⟨ho.heapOf (h.kept z hz).1 (fun h => h), (h.kept z hz).2⟩⟩
 ·obtain ⟨sv', h1, h2, h3⟩ := h.at_
  refine ⟨h.some, only_new h.only ho (fun _ h => h.elim), ⟨sv', h1.grow ho, h2, fun z hz e => ?_⟩, fun z hz => ?_⟩
  ·rcases List.mem_cons.1 hz with rfl | hz
   ·exact absurd (h1.lt _ ((InRC.iff h.some).2 e)) (Nat.lt_irrefl _)
   ·exact h3 z hz e
  ·rcases List.mem_cons.1 hz with rfl | hz
   ·exact ⟨hc, h.only.size⟩
   ·exact ⟨ho.heapOf (h.kept z hz).1 (fun h => h), (h.kept z hz).2⟩
 ·obtain ⟨sv', h1, h2, h3⟩ := h.at_
  have hy := (h.kept y (.head _)).2
  refine ⟨h.some, only_new h.only ho (fun i e => .inr (by omega)), ⟨sv', h1.other ho (fun i e => ⟨by omega, fun e2 => h3 y (.head _) ((InRC.iff h.some).1 (e ▸ e2))⟩), h2, fun z hz => h3 z (.tail _ hz)⟩, fun z hz => ⟨ho.heapOf (h.kept z (.tail _ hz)).1 (hn z hz), (h.kept z (.tail _ hz)).2⟩⟩
 ·obtain ⟨sv', h1, h2, h3⟩ := h.at_
  refine (h1.run hW hL hV _).mono ?_
  rintro e w' ⟨sv2, rfl, k1, k2, k3⟩
  rw [(run_of hi hr).1]
  refine ⟨_, rfl, (runZ_cs_iff ..).trans h.some, only_new h.only k2 (fun i e => h2 i ((InRC.iff h.some).1 e)), ⟨sv2, k1, fun i hi => ?_, fun z hz e => ?_⟩, fun z hz => ⟨k2.heapOf (h.kept z hz).1 (fun e => h3 z hz ((InRC.iff h.some).1 e)), (h.kept z hz).2⟩⟩
  ·rcases k3 i ((InRC.iff h.some).2 hi) with e | e
   ·exact h2 i ((InRC.iff h.some).1 e)
   ·exact .inr (Nat.le_trans h.only.size e)
  ·rcases k3 _ ((InRC.iff h.some).2 e) with e | e
   ·exact h3 z hz ((InRC.iff h.some).1 e)
   ·have := (Array.getElem?_eq_some_iff.1 (h.kept z hz).1).1
    omega
theorem RealAt.all (h : RealAt w0 P base E K cb cmb sv w x) (hW : BWell E o is) (hL : BLens E) (hV : PV w0 P [2, 4, 5, 9, 10, 11]) :
  Calls Tryz.prog 59 #[PTR K.b] w (fun e w' => ∃ sv' y, e = .returned (.agg (cntV y.1 E.sm)) ∧ RealAt w0 P base E K cb cmb sv' w' y ∧ Only (InRC E K cb cmb sv x.2) w w' ∧ (∀ i, InRC E K cb cmb sv' x.2 i → InRC E K cb cmb sv x.2 i ∨ w.heap.size ≤ i) ∧ (y.2 ≠ none ↔ x.2 ≠ none) ∧ (∀ i ∈ E.sm, y.1.st i ≠ 1) ∧ AllTo E (·.1) (stepM E) x y) := by
 refine (buildAll_any _ _ _ P base E K o is [] w x (RealX.keeps (C := x.2) (sv := sv) (cb := cb) (cmb := cmb) (w1 := w) h.ext.size hW hL hV) ⟨Iff.rfl, Only.refl _ _, ⟨sv, h, fun _ h => .inl h, fun _ h => by cases h⟩, fun _ h => by cases h⟩ hW hL).mono ?_
 rintro e w' ⟨y, rfl, h1, h2, h3⟩
 obtain ⟨sv', k1, k2, _⟩ := h1.at_
 exact ⟨sv', y, rfl, k1, h1.only, k2, h1.some, h2, h3⟩

variable {Km : MK} {cbm : Nat} {cv : Value} {y : BS × CS}
end
end Go.Proofs.YtnmhaipjfpongacGreatDoor

namespace Go.Proofs.YtnmhaipjfpongacGreatDoor
open Go.ChangeShapes Go.WideShapes Go.ChangeAt Go.RowKit

theorem sheet_le4 (l : List Rule) : (sheetFault l).1 ≤ 12 := by
 unfold sheetFault
 split
 ·decide
 ·have key : ∀ (k : List Rule) (seen : List B) (i : Nat), (sheetGo seen i k).1 ≤ 12 := by
   intro k
   induction k with
   | nil => intro seen i; simp [sheetGo]
   | cons r k ih =>
    intro seen i
    rw [sheetGo]
    split
    ·exact ruleCode_le r
    ·split
     ·exact (by decide : 7 ≤ 12)
     ·exact ih _ _
  exact key l [] 0
theorem newFault_le (l : List Rule) (outs : List B) : (newFault l outs).1 ≤ 12 := by
 unfold newFault
 split
 ·unfold needFault
  split
  ·exact sheet_le4 l
  ·split
   ·exact (by decide : 6 ≤ 12)
   ·exact Nat.zero_le _
 ·rcases part_codes l (needL l outs) with h | h <;> rw [h] <;> decide
theorem cacheBad_any (z : Int) (w : World) (p : Nat → Addr) (hs : Errs w p [1]) (h : z < 1 ∨ 100 < z) :
  Calls Tryz.prog 52 #[.int .i64 z] w fun e w' => e = .returned (.tuple #[.pointer none, errV (p 1)]) ∧ Drawn w w' := by
 have q1 := hs.var 1 _ (by decide) rfl
 by_cases h1 : z < 1
 ·clear h hs
  go_enter Tryz.func52, Tryz.ntmps52
  go_wp2_with fail
  go_quiet (fail)
  go_wp2
  go_ret2
  exact ⟨rfl, _, rfl⟩
 ·have h2 : 100 < z := by omega
  clear h hs
  go_enter Tryz.func52, Tryz.ntmps52
  go_wp2_with fail
  go_quiet (fail)
  go_wp2
  go_ret2
  exact ⟨rfl, _, rfl⟩
section
variable {w0 w wa wb wc wd : World} {P : Nat → Addr} {base : Nat} {E : BE} {K : BK} {Km : MK} {cb cmb cbm : Nat} {sv cv rp mp : Value} {C : CS} {x : BS × CS}
end
end Go.Proofs.YtnmhaipjfpongacGreatDoor

namespace Go.Proofs.YtnmhaipjfpongacGreatDoor
open Go.ChangeShapes Go.WideShapes Go.ChangeAt Go.RowKit

def RulesIn (B : Nat → Prop) (w : World) (v : Value) (l : List Rule) : Prop :=
 ∃ ps : List (Rule × Option Addr × Nat × Nat), ps.map Prod.fst = l ∧ w.ownsRow 0 55 4 v l.length (ps.flatMap encR) ∧ (∀ i, v.ownBlock = some i → B i) ∧ ∀ p ∈ ps, Row 0 w (SV p.2) p.1.ins ∧ ∀ i, (SV p.2).ownBlock = some i → B i
section
variable {B B' : Nat → Prop} {w w' : World} {v : Value} {l : List Rule} {q : Nat → Prop}
theorem RulesIn.nil (w : World) : RulesIn B w (.slice none 0 0) [] := ⟨[], rfl, World.ownsRow_nil _ _ _ _, (fun i e => by cases e), (fun p h => by cases h)⟩
theorem RulesIn.later (h : RulesIn B w v l) (ho : Only q w w') (hq : ∀ i, q i → ¬ B i) : RulesIn B w' v l := by
 obtain ⟨ps, h1, h2, h3, h4⟩ := h
 exact ⟨ps, h1, ho.row h2 (fun i e e2 => hq i e2 (h3 i e)), h3, fun p hp => ⟨ho.row (h4 p hp).1 (fun i e e2 => hq i e2 ((h4 p hp).2 i e)), (h4 p hp).2⟩⟩
theorem RulesIn.mono (h : RulesIn B w v l) (hb : ∀ i, i < w.heap.size → B i → B' i) : RulesIn B' w v l := by
 obtain ⟨ps, h1, h2, h3, h4⟩ := h
 exact ⟨ps, h1, h2, fun i e => hb i (h2.lt i e).2 (h3 i e), fun p hp => ⟨(h4 p hp).1, fun i e => hb i ((h4 p hp).1.lt i e).2 ((h4 p hp).2 i e)⟩⟩
end
structure YardAt (w0 w : World) (D : Nat → Prop) (n : Nat) (sv lv : Value) (many : Nat) (T O L : FL) (l : List Rule) : Prop where
 ext : Ext w0 w
 low : w0.heap.size ≤ n
 cells : w.heap[n + 6]? = some (.cells #[PTR (n + 3), PTR (n + 5), lv, PTR (n + 1)] 175 (0, 0))
 tree : TreeAt w (n + 3) (n + 2) T
 out : TreeAt w (n + 5) (n + 4) O
 cache : CacheAt w (n + 1) n sv many L
 ok : CacheOk L
 len : L.length ≤ many
 many : many ≤ 100
 own : ∀ i, n ≤ i → i < n + 7 → D i
 ge : ∀ i, D i → n ≤ i
 lt : ∀ i, D i → i < w.heap.size
 sva : ∀ i, sv.ownBlock = some i → D i ∧ n + 7 ≤ i
 rules : RulesIn (fun i => D i ∧ n + 7 ≤ i ∧ sv.ownBlock ≠ some i) w lv l
def Moved (D : Nat → Prop) (w w' : World) (D2 : Nat → Prop) : Prop := Only D w w' ∧ ∀ i, D2 i → D i ∨ w.heap.size ≤ i
section
variable {w0 w w' : World} {D D2 : Nat → Prop} {n : Nat} {sv lv : Value} {many : Nat} {T O L : FL} {l : List Rule}
theorem Moved.ext (h : Ext w w') : Moved D w w' D := ⟨Only.of_ext h, fun _ h => .inl h⟩
theorem YardAt.other {q : Nat → Prop} (h : YardAt w0 w D n sv lv many T O L l) (ho : Only q w w') (hq : ∀ i, q i → w0.heap.size ≤ i ∧ ¬ D i) : YardAt w0 w' D n sv lv many T O L l :=
 have no : ∀ i, D i → ¬ q i := fun i hi e => (hq i e).2 hi
 ⟨h.ext.trans ho (fun _ _ h => h) (fun i hi e => by have := (hq i e).1; omega), h.low, ho.heapOf h.cells (no _ (h.own _ (by omega) (by omega))), h.tree.later ho (no _ (h.own _ (by omega) (by omega))) (no _ (h.own _ (by omega) (by omega))), h.out.later ho (no _ (h.own _ (by omega) (by omega))) (no _ (h.own _ (by omega) (by omega))), h.cache.later ho (fun i hi => no i (by
  rcases hi with rfl | rfl | e
  ·exact h.own _ (by omega) (by omega)
  ·exact h.own _ (by omega) (by omega)
  ·exact (h.sva i e).1)), h.ok, h.len, h.many, h.own, h.ge, fun i hi => Nat.lt_of_lt_of_le (h.lt i hi) ho.size, h.sva, h.rules.later ho (fun i e hi => no i hi.1 e)⟩
theorem YardAt.grow (h : YardAt w0 w D n sv lv many T O L l) (ho : Ext w w') : YardAt w0 w' D n sv lv many T O L l := h.other ho (fun _ e => e.elim)
def RetYd (P : Nat → Addr) (many : Int) (w : World) (e : Ending) (w' : World) : Prop :=
 ((many < 1 ∨ 100 < many) ∧ e = .returned (.tuple #[.pointer none, errC P 2]) ∧ Ext w w') ∨
 ∃ k : Nat, many = (k : Int) ∧ e = .returned (.tuple #[PTR (w.heap.size + 6), .nilIface]) ∧ YardAt w w' (fun i => w.heap.size ≤ i ∧ i < w.heap.size + 7) w.heap.size (.slice none 0 0) (.slice none 0 0) k [] [] [] [] ∧ w'.heap.size = w.heap.size + 7
set_option maxRecDepth 100000 in
set_option maxHeartbeats 4000000 in
theorem yardNew_any (many : Int) (w : World) (P : Nat → Addr) (hE : Errs w P [1]) : Calls Tryz.prog 34 #[I many] w (RetYd P many w) := by
 by_cases hm : many < 1 ∨ 100 < many
 ·have HC := Lib.hid (cacheBad_any many w P hE hm)
  have HM := Lib.hid hm
  clear hm hE
  go_enter Tryz.func34, Tryz.ntmps34
  go_wp2_with fail
  refine HC.out.mono ?_
  rintro e w1 ⟨rfl, hd⟩
  have HX := Lib.hid hd.ext
  clear hd
  go_wp2_with fail
  go_ret2
  exact .inl ⟨HM.out, rfl, HX.out⟩
 ·obtain ⟨k, rfl⟩ : ∃ k : Nat, many = (k : Int) := ⟨many.toNat, by omega⟩
  have HC := Lib.hid (cacheNew_any k w (by omega) (by omega))
  have HM : Hid (1 ≤ k ∧ k ≤ 100) := Lib.hid (by omega)
  clear hm hE
  go_enter Tryz.func34, Tryz.ntmps34
  go_wp2_with fail
  refine HC.out.mono ?_
  rintro e w1 ⟨rfl, hc1, ho1, hs1⟩
  have HC1 := Lib.hid hc1
  have HX1 := Lib.hid ho1
  have HS1 := Lib.hid hs1
  clear hc1 ho1 hs1 HC
  go_wp2_with fail
  refine (treeNew_any w1).mono ?_
  rintro e w2 ⟨rfl, ht2, ho2, hs2⟩
  have HT2 := Lib.hid ht2
  have HX2 := Lib.hid ho2
  have HS2 := Lib.hid hs2
  clear ht2 ho2 hs2
  go_wp2_with fail
  refine (treeNew_any w2).mono ?_
  rintro e w3 ⟨rfl, ht3, ho3, hs3⟩
  have HT3 := Lib.hid ht3
  have HX3 := Lib.hid ho3
  have HS3 := Lib.hid hs3
  clear ht3 ho3 hs3
  go_wp2_with fail
  go_ret2
  have s1 := HS1.out
  have s2 := HS2.out
  have s3 := HS3.out
  have hA := fun ob => Only.alloc (fun _ => False) w3 ob
  have hM := fun ob => (MapKept.heap_alloc w3 ob).1
  have e1 : w1.heap.size = w.heap.size + 2 := s1
  have e2 : w2.heap.size = w.heap.size + 4 := by omega
  have e3 : w3.heap.size = w.heap.size + 6 := by omega
  rw [e1, e2, e3]
  refine .inr ⟨k, rfl, rfl, ⟨((HX1.out.then HX2.out).then HX3.out).then (hA _), Nat.le_refl _, ?_, ?_, ?_, ?_, CacheOk.nil, Nat.zero_le _, HM.out.2, (fun i h1 h2 => ⟨h1, h2⟩), (fun i h => h.1), ?_, (fun i e => by cases e), RulesIn.nil _⟩, ?_⟩
  ·rw [← e3]; exact hM _
  ·have := (HT2.out.later HX3.out (fun h => h) (fun h => h)).later (hA (.cells #[PTR (w.heap.size + 3), PTR (w.heap.size + 5), .slice none 0 0, PTR (w.heap.size + 1)] 175 (0, 0))) (fun h => h) (fun h => h)
   rw [e1] at this; exact this
  ·have := HT3.out.later (hA (.cells #[PTR (w.heap.size + 3), PTR (w.heap.size + 5), .slice none 0 0, PTR (w.heap.size + 1)] 175 (0, 0))) (fun h => h) (fun h => h)
   rw [e2] at this; exact this
  ·exact ((HC1.out.later (HX2.out.then HX3.out) (fun _ _ h => h)).later (hA _) (fun _ _ h => h))
  ·intro i hi
   simp only [World.alloc, Array.size_push, e3]
   omega
  ·simp [e3]
end
end Go.Proofs.YtnmhaipjfpongacGreatDoor

namespace Go.Proofs.YtnmhaipjfpongacGreatDoor
open Go.ChangeShapes Go.WideShapes Go.ChangeAt Go.RowKit

theorem RulesIn.rd {B : Nat → Prop} {w : World} {v : Value} {l : List Rule} (h : RulesIn B w v l) : RdR w v l := by
 obtain ⟨ps, hl, hr, _, ht⟩ := h
 have hlen : ps.length = l.length := by rw [← hl, List.length_map]
 rw [← hlen] at hr
 obtain ⟨a, cap, h1, h2, h3, h4⟩ := RdS.of_row encR_len hr
 refine ⟨a, cap, by rw [← hlen]; exact h1, by omega, h3, fun hne => ?_⟩
 obtain ⟨b, off, h5, h6⟩ := h4 (by intro e; rw [e] at hl; exact hne hl.symm)
 refine ⟨b, off, h5, fun i r hi => ?_⟩
 rw [← hl, List.getElem?_map] at hi
 obtain ⟨p, hp, rfl⟩ := Option.map_eq_some_iff.1 hi
 refine ⟨SV p.2, (ht p (List.mem_of_getElem? hp)).1.rd, ?_, ?_, ?_, ?_⟩
 ·have := h6 i p hp 0 _ rfl; rwa [Nat.add_zero] at this
 ·exact h6 i p hp 1 _ rfl
 ·exact h6 i p hp 2 _ rfl
 ·exact h6 i p hp 3 _ rfl
section
variable {w0 w w' : World} {D : Nat → Prop} {n : Nat} {sv lv : Value} {many : Nat} {T O L : FL} {l : List Rule}
theorem YardAt.cell (h : YardAt w0 w D n sv lv many T O L l) (j : Nat) : w.cell? ⟨n + 6, j, none⟩ = (#[PTR (n + 3), PTR (n + 5), lv, PTR (n + 1)])[j]? := cell_of_heap h.cells j
set_option maxRecDepth 100000 in
set_option maxHeartbeats 2000000 in
theorem yardTree_any (h : YardAt w0 w D n sv lv many T O L l) : Calls Tryz.prog 36 #[PTR (n + 6)] w (RetSt (PTR (n + 3)) w) := by
 have c0 := (h.cell 0).trans (rfl : _ = some (PTR (n + 3)))
 clear h
 go_enter Tryz.func36, Tryz.ntmps36
 go_wp2_with fail
 go_ret
 exact ⟨rfl, rfl⟩
set_option maxRecDepth 100000 in
set_option maxHeartbeats 2000000 in
theorem yardOut_any (h : YardAt w0 w D n sv lv many T O L l) : Calls Tryz.prog 43 #[PTR (n + 6)] w (RetSt (PTR (n + 5)) w) := by
 have c1 := (h.cell 1).trans (rfl : _ = some (PTR (n + 5)))
 clear h
 go_enter Tryz.func43, Tryz.ntmps43
 go_wp2_with fail
 go_ret
 exact ⟨rfl, rfl⟩
def RetOuts (os : List B) (w : World) (e : Ending) (w' : World) : Prop := ∃ v, e = .returned v ∧ Row w.heap.size w' v os ∧ Ext w w'
set_option maxRecDepth 100000 in
set_option maxHeartbeats 4000000 in
theorem yardOuts_any (h : YardAt w0 w D n sv lv many T O L l) (hl : l.length ≤ 1000) : Calls Tryz.prog 114 #[PTR (n + 6)] w (RetOuts (l.map Rule.out) w) := by
 have hrd := h.rules.rd
 have c2 := (h.cell 2).trans (rfl : _ = some lv)
 obtain ⟨a, cap, rfl, _, hcm, hc⟩ := hrd
 have HC := Lib.hid hc
 have hlz : (l.length : Int) ≤ 1000 := by omega
 clear h hc
 go_enter Tryz.func114, Tryz.ntmps114
 go_wp2_with fail
 obtain ⟨bs, hbs⟩ : ∃ bs, bs = w.heap.size := ⟨_, rfl⟩
 have HBS : Hid (w.heap.size ≤ bs ∧ bs ≤ w.heap.size) := Lib.hid ⟨by omega, by omega⟩
 have HBE := Lib.hid hbs
 clear hbs c2
 go_loopw [3, 5, 11] (fun q _ i wr => ∃ (j : Nat) (qv : Value), qv = q ∧ j ≤ l.length ∧ i = .int .i64 j ∧ Hid (Row bs wr qv ((l.take j).map Rule.out)) ∧ Hid (Ext w wr)) (fun _ _ i _ => l.length - (intOf i).toNat)
 case atStart => exact ⟨0, _, rfl, Nat.zero_le _, rfl, Lib.hid (Row.nil _ _), Lib.hid (Only.refl _ _)⟩
 case round =>
  obtain ⟨j, qv, rfl, hj, rfl, HQ, HX⟩ := hrel
  by_cases hlt : j < l.length
  ·have hltz : (j : Int) < (l.length : Int) := by omega
   have hj0 : (0 : Int) ≤ (j : Int) := by omega
   obtain ⟨b, off, rfl, hcell⟩ := HC.out (by intro h; rw [h] at hlt; simp at hlt)
   obtain ⟨r, hq⟩ : ∃ y, l[j]? = some y := ⟨_, List.getElem?_eq_getElem hlt⟩
   obtain ⟨u, hu, c0, c1, c2, c3⟩ := hcell j r hq
   have d0 := HX.out.cellOf c0 (fun h => h)
   have d1 := HX.out.cellOf c1 (fun h => h)
   have d2 := HX.out.cellOf c2 (fun h => h)
   have d3 := HX.out.cellOf c3 (fun h => h)
   obtain ⟨au, cu, rfl, _, _, _⟩ := hu
   have hA := Only.alloc (fun _ => False) wr (.cells #[S r.out, S r.kind, S r.word, .slice au r.ins.length cu] 55 (0, 0))
   have HXA := Lib.hid (HX.out.then hA)
   have HQA := Lib.hid (hA.row HQ.out (fun _ _ h => h))
   have hg := (MapKept.heap_alloc wr (.cells #[S r.out, S r.kind, S r.word, .slice au r.ins.length cu] 55 (0, 0))).1
   have k0 := (cell_of_heap hg 0).trans (rfl : _ = some (S r.out))
   have HTK : Hid ((l.take (j + 1)).map Rule.out = (l.take j).map Rule.out ++ [r.out]) := Lib.hid (by rw [List.take_add_one, hq]; simp)
   have HQL : Hid (((l.take j).map Rule.out).length ≤ 1000000) := Lib.hid (by rw [List.length_map, List.length_take]; omega)
   have HJ := Lib.hid hlt
   clear hcell hq c0 c1 c2 c3 hg hA HQ hj hlt
   have HSZ : Hid ((wr.alloc (.cells #[S r.out, S r.kind, S r.word, .slice au r.ins.length cu] 55 (0, 0))).heap.size = wr.heap.size + 1) := Lib.hid (by simp)
   generalize (l.take j).map Rule.out = os at HQA HTK HQL
   go_wp2_with (at_builtin; refine wpText rfl (.tmp 15) (.tmp 18) w bs _ os r.out (wr.alloc (.cells #[S r.out, S r.kind, S r.word, .slice au r.ins.length cu] 55 (0, 0))) rfl rfl rfl (by show Value.slice (some ⟨wr.heap.size + 1, 0, none⟩) 1 1 = _; rw [HSZ.out]) HQA.out HQL.out (Nat.le_trans HBS.out.2 HXA.out.size) HXA.out HBS.out.1 ?_; intro g5 cap5 w5 HR5 HX5 _)
   go_roundw
   case rel => exact ⟨j + 1, _, rfl, HJ.out, by go_num, by rw [HTK.out]; exact HR5, HX5⟩
   case measure => have := HJ.out; simp [intOf]; omega
  ·have hltz : ¬ (j : Int) < (l.length : Int) := by omega
   rw [List.take_of_length_le (by omega)] at HQ
   go_wp2_with fail
   go_ret
   exact ⟨_, rfl, by rw [← HBE.out]; exact HQ.out, HX.out⟩
end
end Go.Proofs.YtnmhaipjfpongacGreatDoor

namespace Go.Proofs.YtnmhaipjfpongacGreatDoor
open Go.ChangeShapes Go.WideShapes Go.ChangeAt Go.RowKit

theorem takeN {P : Program} {ops : Array Oper} {Q : Exit → Act → World → Prop} {md : Region.Mode} {S : World → Prop} (i : Nat) {oi : Oper} {tl : List Oper} {v : Value} {fuel : Nat} {listed : Array Bool} {a a' : Act} {w : World}
  (h : wpAnyH P md ops Q S fuel (listed.setIfInBounds i true) a' w) (hd : ops.toList.drop i = oi :: tl := by exact rfl)
  (hs : Region.noSelect ops = true := by kernel_rfl) (hf : Region.free md ops listed i = true := by kernel_rfl) (hr : (Region.ready md ops listed).contains i = true := by kernel_rfl)
  (hQ : ∀ c a w, Q (.panic c) (a.put oi.dst v) w → Q (.panic c) a w := by exact fun _ _ _ h => h) (hw : Region.wanted oi (yielded ops a.tmps) = true := by rfl)
  (hy : ∀ w, S w → (execOp a.eval oi).run P w = .ok (.value v) w := by (intro w hSw; (try dsimp only at hSw); go_simp; try with_reducible rfl)) (hS : S w := by assumption) (ha : a.put oi.dst v = a' := by (try simp only [Act.put, List.setIfInBounds_toArray, List.set_cons_zero, List.set_cons_succ]); rfl) : wpAnyH P md ops Q S (fuel + 1) listed a w := by
 have hi : ops[i]? = some oi := by
  have h1 : ops.toList[i]? = some oi := by
   rw [← List.head?_drop, hd]
   rfl
  simpa using h1
 exact wpAnyH_take hi hs hf hr hQ (Or.inl ⟨hw, hy⟩) hS (ha ▸ h)
section
variable {w w0 : World} {P : Nat → Addr} {base : Nat} {E : BE} {K : BK} {Km : MK} {s : BS} {o : List Nat} {is : Nat → Bool}
end
end Go.Proofs.YtnmhaipjfpongacGreatDoor

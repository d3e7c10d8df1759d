/- Texts of this seat laid together for one claim: Br1. No condition of its own: what each proves stands with its theorems. -/
import Derived.Test.YtnmhaipjfpongacGreatDoorBR42
import Derived.Test.YtnmhaipjfpongacGreatDoorBR34
namespace Go.Proofs.YtnmhaipjfpongacGreatDoor
open Go.ChangeShapes Go.WideShapes Go.ChangeAt Go.RowKit

def CchR (w : World) (K : BK) (cb cmb : Nat) (sv : Value) : CS → Prop
 | none => K.cp = .pointer none
 | some (many, L) => K.cp = PTR cb ∧ CacheAt w cb cmb sv many L ∧ CacheOk L ∧ L.length ≤ many ∧ many ≤ 100
def InRC (E : BE) (K : BK) (cb cmb : Nat) (sv : Value) (C : CS) (i : Nat) : Prop := InBld E K i ∨ (C ≠ none ∧ InCache cb cmb sv i)
structure RealAt (w0 : World) (P : Nat → Addr) (base : Nat) (E : BE) (K : BK) (cb cmb : Nat) (sv : Value) (w : World) (x : BS × CS) : Prop where
 bld : BldAt w P base E K x.1
 inv : BInv E x.1
 ext : Ext w0 w
 cch : CchR w K cb cmb sv x.2
 lo : ∀ i, InRC E K cb cmb sv x.2 i → w0.heap.size ≤ i
 apart : x.2 ≠ none → ∀ i, InCache cb cmb sv i → ¬ InBld E K i
theorem CchR.keep {w w' : World} {K : BK} {cb cmb : Nat} {sv : Value} {C : CS} {q : Nat → Prop} (h : CchR w K cb cmb sv C) (ho : Only q w w') (hq : C ≠ none → ∀ i, InCache cb cmb sv i → ¬ q i) : CchR w' K cb cmb sv C := by
 cases C with
 | none => exact h
 | some p => exact ⟨h.1, h.2.1.later ho (hq (by simp)), h.2.2⟩
theorem runZ_cs_none (E : BE) (s : BS) (z : Int) : (runZ E none s z).2.2 = none := by
 by_cases hz : ∃ i : Nat, i ∈ E.sm ∧ (i : Int) = z
 ·obtain ⟨i, hi, rfl⟩ := hz
  rw [runZ_in hi, runP_none]
 ·rw [runZ_out (fun k hk e => hz ⟨k, hk, e⟩)]
theorem runZ_cs_iff (E : BE) (C : CS) (s : BS) (z : Int) : (runZ E C s z).2.2 ≠ none ↔ C ≠ none := by
 cases C with
 | none => rw [runZ_cs_none]
 | some p => obtain ⟨many, L⟩ := p; rw [runZ_cs]; simp
section
variable {w0 w w' : World} {P : Nat → Addr} {base : Nat} {E : BE} {K : BK} {cb cmb : Nat} {sv : Value} {x : BS × CS} {o : List Nat} {is : Nat → Bool}
theorem RealAt.lt (h : RealAt w0 P base E K cb cmb sv w x) : ∀ i, InRC E K cb cmb sv x.2 i → i < w.heap.size := by
 obtain ⟨s, C⟩ := x
 rintro i (hi | ⟨hc, hi⟩)
 ·exact h.bld.lt i hi
 ·cases C with
  | none => exact absurd rfl hc
  | some p => exact h.cch.2.1.lt i hi
theorem RealAt.other {q : Nat → Prop} (h : RealAt w0 P base E K cb cmb sv w x) (ho : Only q w w') (hq : ∀ i, q i → w0.heap.size ≤ i ∧ ¬ InRC E K cb cmb sv x.2 i) : RealAt w0 P base E K cb cmb sv w' x :=
 ⟨h.bld.later ho (fun i hi e => (hq i e).2 (.inl hi)), h.inv, h.ext.trans ho (fun _ _ h => h) (fun i hi e => by have := (hq i e).1; omega), h.cch.keep ho (fun hc i hi e => (hq i e).2 (.inr ⟨hc, hi⟩)), h.lo, h.apart⟩
theorem RealAt.grow (h : RealAt w0 P base E K cb cmb sv w x) (ho : Ext w w') : RealAt w0 P base E K cb cmb sv w' x := h.other ho (fun _ h => h.elim)
theorem RealAt.run (h : RealAt w0 P base E K cb cmb sv w x) (hW : BWell E o is) (hL : BLens E) (hV : PV w0 P [2, 4, 5, 9, 10, 11]) (z : Int) :
  Calls Tryz.prog 56 #[PTR K.b, I z] w (fun e w' => ∃ sv', e = .returned (.tuple #[.bool (runZ E x.2 x.1 z).1.1, errC P (runZ E x.2 x.1 z).1.2]) ∧ RealAt w0 P base E K cb cmb sv' w' ((runZ E x.2 x.1 z).2.1, (runZ E x.2 x.1 z).2.2) ∧ Only (InRC E K cb cmb sv x.2) w w' ∧ ∀ i, InRC E K cb cmb sv' x.2 i → InRC E K cb cmb sv x.2 i ∨ w.heap.size ≤ i) := by
 have hsz := h.ext.size
 obtain ⟨s, C⟩ := x
 cases C with
 | none =>
  refine (runN_any h.bld h.cch hW h.inv hL (hV.ext h.ext) z).mono ?_
  rintro e w' ⟨rfl, h1, h2⟩
  refine ⟨sv, rfl, ⟨h1, hW.runZ h.inv _ z, h.ext.trans h2 (fun _ _ h => h) (fun i hi e => by have := h.lo i (.inl e.bld); omega), ?_, fun i hi => ?_, fun hc => absurd (runZ_cs_none E s z) hc⟩, h2.mono fun i _ e => .inl e.bld, fun i hi => .inl hi⟩
  ·show CchR _ _ _ _ _ (runZ E none s z).2.2
   rw [runZ_cs_none]
   exact h.cch
  ·rcases hi with hi | ⟨hc, hi⟩
   ·exact h.lo i (.inl hi)
   ·exact absurd (runZ_cs_none E s z) hc
 | some p =>
  obtain ⟨many, L⟩ := p
  have hn : (some (many, L) : CS) ≠ none := by simp
  obtain ⟨hcp, hca, hok, hlm, hm⟩ := h.cch
  refine (runC_any h.bld hcp ⟨hca, hok, hlm, hm, h.apart hn⟩ hW h.inv hL h.ext (fun j hj => ?_) hV z).mono ?_
  ·rcases hj with e | e
   ·exact h.lo j (.inl e.bld)
   ·exact h.lo j (.inr ⟨hn, e⟩)
  rintro e w' ⟨sv', rfl, h1, h2, h3, h4⟩
  have hne : (runZ E (some (many, L)) s z).2.2 = some (many, cacheZ E many L s z) := runZ_cs ..
  have hlo : ∀ i, InCache cb cmb sv' i → w0.heap.size ≤ i := fun i hi => by
   rcases h4 i hi with e | e
   ·exact h.lo i (.inr ⟨hn, e⟩)
   ·omega
  refine ⟨sv', rfl, ⟨h1, hW.runZ h.inv _ z, h.ext.trans h3 (fun _ _ h => h) (fun i hi e => ?_), ?_, fun i hi => ?_, fun _ => h2.apart⟩, h3.mono fun i _ e => e.elim (fun e => .inl e.bld) (fun e => .inr ⟨hn, e⟩), fun i hi => ?_⟩
  ·rcases e with e | e
   ·have := h.lo i (.inl e.bld); omega
   ·have := h.lo i (.inr ⟨hn, e⟩); omega
  ·show CchR _ _ _ _ _ (runZ E (some (many, L)) s z).2.2
   rw [hne]
   exact ⟨hcp, h2.cache, h2.ok, h2.len, h2.many⟩
  ·rcases hi with hi | ⟨_, hi⟩
   ·exact h.lo i (.inl hi)
   ·exact hlo i hi
  ·rcases hi with hi | ⟨hc, hi⟩
   ·exact .inl (.inl hi)
   ·exact (h4 i hi).imp (fun e => .inr ⟨hc, e⟩) id
structure RealX (w0 : World) (P : Nat → Addr) (base : Nat) (E : BE) (K : BK) (cb cmb : Nat) (sv : Value) (C : CS) (w1 : World) (X : List (Nat × Obj)) (w : World) (x : BS × CS) : Prop where
 some : x.2 ≠ none ↔ C ≠ none
 only : Only (InRC E K cb cmb sv C) w1 w
 at_ : ∃ sv', RealAt w0 P base E K cb cmb sv' w x ∧ (∀ i, InRC E K cb cmb sv' C i → InRC E K cb cmb sv C i ∨ w1.heap.size ≤ i) ∧ ∀ z ∈ X, ¬ InRC E K cb cmb sv' C z.1
 kept : ∀ z ∈ X, w.heap[z.1]? = Option.some z.2 ∧ w1.heap.size ≤ z.1
theorem InRC.iff {C C' : CS} (h : C' ≠ none ↔ C ≠ none) {i : Nat} : InRC E K cb cmb sv C' i ↔ InRC E K cb cmb sv C i := by
 unfold InRC
 rw [h]
theorem only_new {p q : Nat → Prop} {w1 w w' : World} (h : Only p w1 w) (ho : Only q w w') (hq : ∀ i, q i → p i ∨ w1.heap.size ≤ i) : Only p w1 w' :=
 h.trans ho (fun _ _ h => h) (fun i hi e => (hq i e).elim id (fun e => by omega))
theorem RealX.keeps {C : CS} {w1 : World} (h01 : w0.heap.size ≤ w1.heap.size) (hW : BWell E o is) (hL : BLens E) (hV : PV w0 P [2, 4, 5, 9, 10, 11]) : KeepsRun (RealX w0 P base E K cb cmb sv C w1) (·.1) (stepM E) P base E K := by
 refine ⟨fun _ _ _ h => ?_, fun X w x w' h ho => ?_, fun X w x w' ob h ho hc => ?_, fun _ _ _ h z hz => (h.kept z hz).1, fun y X w x w' h ho hn => ?_, fun X w x h i hi hr => ?_, fun _ _ hi hr => (run_of hi hr).2⟩
 ·obtain ⟨sv', h1, _⟩ := h.at_
  exact ⟨h1.bld, h1.inv⟩
 ·obtain ⟨sv', h1, h2⟩ := h.at_
  exact ⟨h.some, only_new h.only ho (fun _ h => h.elim), ⟨sv', h1.grow ho, h2⟩, fun z hz => ⟨ho.heapOf (h.kept z hz).1 (fun h => h), (h.kept z hz).2⟩⟩
 ·obtain ⟨sv', h1, h2, h3⟩ := h.at_
  refine ⟨h.some, only_new h.only ho (fun _ h => h.elim), ⟨sv', h1.grow ho, h2, fun z hz e => ?_⟩, fun z hz => ?_⟩
  ·rcases List.mem_cons.1 hz with rfl | hz
   ·exact absurd (h1.lt _ ((InRC.iff h.some).2 e)) (Nat.lt_irrefl _)
   ·exact h3 z hz e
  ·rcases List.mem_cons.1 hz with rfl | hz
   ·exact ⟨hc, h.only.size⟩
   ·exact ⟨ho.heapOf (h.kept z hz).1 (fun h => h), (h.kept z hz).2⟩
 ·obtain ⟨sv', h1, h2, h3⟩ := h.at_
  have hy := (h.kept y (.head _)).2
  refine ⟨h.some, only_new h.only ho (fun i e => .inr (by omega)), ⟨sv', h1.other ho (fun i e => ⟨by omega, fun e2 => h3 y (.head _) ((InRC.iff h.some).1 (e ▸ e2))⟩), h2, fun z hz => h3 z (.tail _ hz)⟩, fun z hz => ⟨ho.heapOf (h.kept z (.tail _ hz)).1 (hn z hz), (h.kept z (.tail _ hz)).2⟩⟩
 ·obtain ⟨sv', h1, h2, h3⟩ := h.at_
  refine (h1.run hW hL hV _).mono ?_
  rintro e w' ⟨sv2, rfl, k1, k2, k3⟩
  rw [(run_of hi hr).1]
  refine ⟨_, rfl, (runZ_cs_iff ..).trans h.some, only_new h.only k2 (fun i e => h2 i ((InRC.iff h.some).1 e)), ⟨sv2, k1, fun i hi => ?_, fun z hz e => ?_⟩, fun z hz => ⟨k2.heapOf (h.kept z hz).1 (fun e => h3 z hz ((InRC.iff h.some).1 e)), (h.kept z hz).2⟩⟩
  ·rcases k3 i ((InRC.iff h.some).2 hi) with e | e
   ·exact h2 i ((InRC.iff h.some).1 e)
   ·exact .inr (Nat.le_trans h.only.size e)
  ·rcases k3 _ ((InRC.iff h.some).2 e) with e | e
   ·exact h3 z hz ((InRC.iff h.some).1 e)
   ·have := (Array.getElem?_eq_some_iff.1 (h.kept z hz).1).1
    omega
theorem RealAt.all (h : RealAt w0 P base E K cb cmb sv w x) (hW : BWell E o is) (hL : BLens E) (hV : PV w0 P [2, 4, 5, 9, 10, 11]) :
  Calls Tryz.prog 59 #[PTR K.b] w (fun e w' => ∃ sv' y, e = .returned (.agg (cntV y.1 E.sm)) ∧ RealAt w0 P base E K cb cmb sv' w' y ∧ Only (InRC E K cb cmb sv x.2) w w' ∧ (∀ i, InRC E K cb cmb sv' x.2 i → InRC E K cb cmb sv x.2 i ∨ w.heap.size ≤ i) ∧ (y.2 ≠ none ↔ x.2 ≠ none) ∧ (∀ i ∈ E.sm, y.1.st i ≠ 1) ∧ AllTo E (·.1) (stepM E) x y) := by
 refine (buildAll_any _ _ _ P base E K o is [] w x (RealX.keeps (C := x.2) (sv := sv) (cb := cb) (cmb := cmb) (w1 := w) h.ext.size hW hL hV) ⟨Iff.rfl, Only.refl _ _, ⟨sv, h, fun _ h => .inl h, fun _ h => by cases h⟩, fun _ h => by cases h⟩ hW hL).mono ?_
 rintro e w' ⟨y, rfl, h1, h2, h3⟩
 obtain ⟨sv', k1, k2, _⟩ := h1.at_
 exact ⟨sv', y, rfl, k1, h1.only, k2, h1.some, h2, h3⟩

structure BothAt (w0 : World) (P : Nat → Addr) (base : Nat) (E : BE) (K : BK) (Km : MK) (cb cmb cbm : Nat) (sv cv : Value) (w : World) (x y : BS × CS) : Prop where
 real : RealAt w0 P base E K cb cmb sv w x
 mod : MSt w0 E Km cbm (fun _ => True) cv y w
 apart : ∀ i, InRC E K cb cmb sv x.2 i → ¬ InMA Km i ∧ i ≠ cbm ∧ cv.ownBlock ≠ some i
 cbm : w0.heap.size ≤ cbm ∧ cbm < w.heap.size
theorem beside_true {Km : MK} {cbm lo : Nat} : Beside Km cbm lo (fun _ => True) := fun _ _ _ _ _ _ => trivial
theorem AllTo.out {σ : Type} {E : BE} {bs : σ → BS} {step : σ → Nat → σ} {x y z : σ} {o : List Nat} (h : AllTo E bs step x y) (k : AllOut E bs step x o z) : y = z := by
 induction h generalizing o z with
 | stop h1 =>
  cases k with
  | stop _ => rfl
  | more k1 _ => rw [h1] at k1; cases k1
 | more h1 _ ih =>
  cases k with
  | stop k1 => rw [h1] at k1; cases k1
  | more k1 k2 =>
   rw [h1] at k1
   obtain ⟨rfl, rfl⟩ := List.cons.inj k1
   exact ih k2
variable {Km : MK} {cbm : Nat} {cv : Value} {y : BS × CS}
theorem BothAt.grow (h : BothAt w0 P base E K Km cb cmb cbm sv cv w x y) (ho : Ext w w') : BothAt w0 P base E K Km cb cmb cbm sv cv w' x y :=
 ⟨h.real.grow ho, h.mod.grow (lo := 0) beside_true ho, h.apart, h.cbm.1, Nat.lt_of_lt_of_le h.cbm.2 ho.size⟩
theorem BothAt.mlt (h : BothAt w0 P base E K Km cb cmb cbm sv cv w x y) (i : Nat) (hi : InMA Km i ∨ i = cbm ∨ cv.ownBlock = some i) : i < w.heap.size := by
 rcases hi with e | e | e
 ·exact h.mod.bld.lt i e
 ·rw [e]; exact h.cbm.2
 ·exact h.mod.lt i e
theorem InM.lo {w0 w : World} {E : BE} {Km : MK} {s : BS} (h : MBldAt w0 w E Km s) {i : Nat} (hi : InM Km i) : w0.heap.size ≤ i := by
 obtain ⟨h1, h2, h3, h4, h5, h6⟩ := h.lo
 rcases hi with rfl | rfl | rfl | rfl <;> assumption
theorem BothAt.stepR {x' : BS × CS} {sv' : Value} (h : BothAt w0 P base E K Km cb cmb cbm sv cv w x y) (hr : RealAt w0 P base E K cb cmb sv' w' x') (hs : x'.2 ≠ none ↔ x.2 ≠ none) (ho : Only (InRC E K cb cmb sv x.2) w w') (hn : ∀ i, InRC E K cb cmb sv' x.2 i → InRC E K cb cmb sv x.2 i ∨ w.heap.size ≤ i) : BothAt w0 P base E K Km cb cmb cbm sv' cv w' x' y := by
 refine ⟨hr, h.mod.other (lo := 0) beside_true ho (fun i e => ⟨Nat.zero_le _, h.real.lo i e, h.apart i e⟩), fun i hi => ?_, h.cbm.1, Nat.lt_of_lt_of_le h.cbm.2 ho.size⟩
 rcases hn i ((InRC.iff hs).1 hi) with e | e
 ·exact h.apart i e
 ·exact ⟨fun k => by have := h.mlt i (.inl k); omega, fun k => by have := h.mlt i (.inr (.inl k)); omega, fun k => by have := h.mlt i (.inr (.inr k)); omega⟩
theorem BothAt.stepM {y' : BS × CS} {cv' : Value} (h : BothAt w0 P base E K Km cb cmb cbm sv cv w x y) (hm : MSt w0 E Km cbm (fun _ => True) cv' y' w') (ho : Only (fun i => InM Km i ∨ i = cbm) w w') (hn : ∀ i, cv'.ownBlock = some i → cv.ownBlock = some i ∨ w.heap.size ≤ i) : BothAt w0 P base E K Km cb cmb cbm sv cv' w' x y' := by
 refine ⟨h.real.other ho (fun i e => ?_), hm, fun i hi => ⟨(h.apart i hi).1, (h.apart i hi).2.1, fun e => ?_⟩, h.cbm.1, Nat.lt_of_lt_of_le h.cbm.2 ho.size⟩
 ·rcases e with e | rfl
  ·exact ⟨e.lo h.mod.bld, fun k => (h.apart i k).1 (.inr (.inr (.inr e)))⟩
  ·exact ⟨h.cbm.1, fun k => (h.apart i k).2.1 rfl⟩
 ·rcases hn i e with e | e
  ·exact (h.apart i hi).2.2 e
  ·have := h.real.lt i hi; omega
theorem BothAt.runR (h : BothAt w0 P base E K Km cb cmb cbm sv cv w x y) (hW : BWell E o is) (hL : BLens E) (hV : PV w0 P [2, 4, 5, 9, 10, 11]) (z : Int) :
  Calls Tryz.prog 56 #[PTR K.b, I z] w (fun e w' => ∃ sv', e = .returned (.tuple #[.bool (runZ E x.2 x.1 z).1.1, errC P (runZ E x.2 x.1 z).1.2]) ∧ BothAt w0 P base E K Km cb cmb cbm sv' cv w' ((runZ E x.2 x.1 z).2.1, (runZ E x.2 x.1 z).2.2) y) := by
 refine (h.real.run hW hL hV z).mono ?_
 rintro e w' ⟨sv', rfl, h1, h2, h3⟩
 exact ⟨sv', rfl, h.stepR h1 (runZ_cs_iff ..) h2 h3⟩
theorem BothAt.runM (h : BothAt w0 P base E K Km cb cmb cbm sv cv w x y) (hW : BWell E o is) (hL : BLens E) (hT : E.T.length ≤ 1000000) (z : Int) :
  Calls Tryz.prog 57 #[PTR Km.b, I z] w (fun e w' => ∃ cv', e = .returned (.tuple #[.bool (runZ E y.2 y.1 z).1.1, IN (runZ E y.2 y.1 z).1.2]) ∧ BothAt w0 P base E K Km cb cmb cbm sv cv' w' x ((runZ E y.2 y.1 z).2.1, (runZ E y.2 y.1 z).2.2)) := by
 refine (h.mod.run (lo := 0) beside_true hW hL hT h.cbm.1 h.cbm.2 z).mono ?_
 rintro e w' ⟨cv', rfl, h1, h2, h3⟩
 exact ⟨cv', rfl, h.stepM h1 h2 h3⟩
theorem BothAt.allR (h : BothAt w0 P base E K Km cb cmb cbm sv cv w x y) (hW : BWell E o is) (hL : BLens E) (hV : PV w0 P [2, 4, 5, 9, 10, 11]) :
  Calls Tryz.prog 59 #[PTR K.b] w (fun e w' => ∃ sv' x', e = .returned (.agg (cntV x'.1 E.sm)) ∧ BothAt w0 P base E K Km cb cmb cbm sv' cv w' x' y ∧ AllTo E (·.1) (Go.Proofs.YtnmhaipjfpongacGreatDoor.stepM E) x x') := by
 refine (h.real.all hW hL hV).mono ?_
 rintro e w' ⟨sv', x', rfl, h1, h2, h3, h4, _, h5⟩
 exact ⟨sv', x', rfl, h.stepR h1 h4 h2 h3, h5⟩
theorem BothAt.allM (h : BothAt w0 P base E K Km cb cmb cbm sv cv w x y) (hW : BWell E o is) (hL : BLens E) (hT : E.T.length ≤ 1000000) :
  Calls Tryz.prog 60 #[PTR Km.b] w (fun e w' => ∃ v out cv' y', e = .returned v ∧ RowI w.heap.size w' v out ∧ BothAt w0 P base E K Km cb cmb cbm sv cv' w' x y' ∧ AllOut E (·.1) (Go.Proofs.YtnmhaipjfpongacGreatDoor.stepM E) y out y') := by
 refine (allM_any (lo := 0) h.mod beside_true hW hL hT h.cbm.1 h.cbm.2 (Nat.zero_le _)).mono ?_
 rintro e w' ⟨v, out, y', cv', rfl, h1, h2, h3, h4, _, h5⟩
 exact ⟨v, out, cv', y', rfl, h1, h.stepM h2 h4 (fun i e => (h5 i e).2), h3⟩
end
end Go.Proofs.YtnmhaipjfpongacGreatDoor

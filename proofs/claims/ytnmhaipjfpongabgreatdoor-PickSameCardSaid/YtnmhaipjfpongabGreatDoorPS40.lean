/- Texts of this seat laid together for one claim: Z11, Z20, Z19. No condition of its own: what each proves stands with its theorems. -/
import Derived.Test.YtnmhaipjfpongabGreatDoorPS36
import Derived.Test.YtnmhaipjfpongabGreatDoorPS38
import Derived.Test.YtnmhaipjfpongabGreatDoorPS37
import Derived.Test.YtnmhaipjfpongabGreatDoorPS39
namespace Go.Proofs.YtnmhaipjfpongabGreatDoor
open Go.ChangeShapes Go.WideShapes Go.ChangeAt Go.RowKit

def stateB : Nat → B
 | 1 => [119, 97, 105, 116, 115]
 | 2 => [100, 111, 110, 101]
 | 3 => [102, 97, 105, 108, 101, 100]
 | 4 => [108, 101, 102, 116]
 | _ => []
def stateZ (E : BE) (s : BS) (z : Int) : B := if 0 ≤ z ∧ z.toNat ∈ E.sm then stateB (s.st z.toNat) else []
theorem stateZ_in {E : BE} {s : BS} {i : Nat} (hi : i ∈ E.sm) : stateZ E s (i : Int) = stateB (s.st i) := by
 unfold stateZ
 rw [if_pos ⟨by omega, by rw [Int.toNat_natCast]; exact hi⟩, Int.toNat_natCast]
theorem stateZ_out {E : BE} {s : BS} {z : Int} (h : ∀ k ∈ E.sm, (k : Int) ≠ z) : stateZ E s z = [] := by
 unfold stateZ
 exact if_neg fun ⟨h1, h2⟩ => h _ h2 (by omega)
theorem z_cases (E : BE) (z : Int) : (∃ i : Nat, z = (i : Int) ∧ i ∈ E.sm) ∨ ∀ k ∈ E.sm, (k : Int) ≠ z := by
 by_cases h : ∃ i : Nat, z = (i : Int) ∧ i ∈ E.sm
 ·exact .inl h
 ·exact .inr fun k hk e => h ⟨k, e.symm, hk⟩

def RetSt (v : Value) (w : World) (e : Ending) (w' : World) : Prop := e = .returned v ∧ w = w'
section
variable {w : World} {P : Nat → Addr} {base : Nat} {E : BE} {K : BK} {s : BS}

set_option maxRecDepth 100000 in
set_option maxHeartbeats 2000000 in
theorem state_any (h : BldAt w P base E K s) (hI : BInv E s) (z : Int) :
  Calls Tryz.prog 57 #[PTR K.b, I z] w (RetE (S (stateZ E s z)) w) := by
 have c1 := (h.cell 1).trans (rfl : _ = some (Value.map (some K.lb)))
 have hlk := KMap.look (P := Tryz.prog) keyOk_int h.steps Tryz.underlying184 Tryz.underlying3 (z := .pointer none) (by kernel_rfl) z
 rcases z_cases E z with ⟨i, rfl, hi⟩ | hz
 ·rw [steps_lookup hi] at hlk
  simp only [Option.isSome_some] at hlk
  rw [stateZ_in hi]
  have s4 := (h.stepCell hi 4).trans (rfl : _ = some (IN (s.st i)))
  have s4' := fun ob => (Only.alloc (fun _ => False) w ob).cellOf s4 (fun h => h)
  have hr := hI.rng i hi
  clear h hI hi
  rcases (show s.st i = 1 ∨ s.st i = 2 ∨ s.st i = 3 ∨ s.st i = 4 by omega) with e | e | e | e
  all_goals
   rw [e] at s4 s4' ⊢
   clear e hr
   go_enter Tryz.func57, Tryz.ntmps57
   go_wp2_with fail
   go_ret
   exact ⟨rfl, Only.alloc _ _ _⟩
 ·rw [steps_miss hz] at hlk
  simp only [Option.isSome_none] at hlk
  rw [stateZ_out hz]
  clear h hI hz
  go_enter Tryz.func57, Tryz.ntmps57
  go_wp2_with fail
  go_ret
  exact ⟨rfl, Only.refl _ _⟩

noncomputable def resZ (E : BE) (s : BS) (z : Int) : B × Bool := if 0 ≤ z ∧ z.toNat ∈ E.sm ∧ s.st z.toNat = 2 then ((E.ans z.toNat).1, true) else ([], false)
theorem resZ_in {E : BE} {s : BS} {i : Nat} (hi : i ∈ E.sm) (h2 : s.st i = 2) : resZ E s (i : Int) = ((E.ans i).1, true) := by
 unfold resZ
 rw [if_pos ⟨by omega, by rw [Int.toNat_natCast]; exact hi, by rw [Int.toNat_natCast]; exact h2⟩, Int.toNat_natCast]
theorem resZ_not {E : BE} {s : BS} {i : Nat} (h2 : s.st i ≠ 2) : resZ E s (i : Int) = ([], false) := by
 unfold resZ
 exact if_neg fun ⟨_, _, h3⟩ => h2 (by rwa [Int.toNat_natCast] at h3)
theorem resZ_out {E : BE} {s : BS} {z : Int} (h : ∀ k ∈ E.sm, (k : Int) ≠ z) : resZ E s z = ([], false) := by
 unfold resZ
 exact if_neg fun ⟨h1, h2, _⟩ => h _ h2 (by omega)

set_option maxRecDepth 100000 in
set_option maxHeartbeats 2000000 in
theorem result_any (h : BldAt w P base E K s) (z : Int) :
  Calls Tryz.prog 73 #[PTR K.b, I z] w (RetSt (.tuple #[S (resZ E s z).1, .bool (resZ E s z).2]) w) := by
 have c1 := (h.cell 1).trans (rfl : _ = some (Value.map (some K.lb)))
 have hlk := KMap.look (P := Tryz.prog) keyOk_int h.steps Tryz.underlying184 Tryz.underlying3 (z := .pointer none) (by kernel_rfl) z
 rcases z_cases E z with ⟨i, rfl, hi⟩ | hz
 ·rw [steps_lookup hi] at hlk
  simp only [Option.isSome_some] at hlk
  have s4 := (h.stepCell hi 4).trans (rfl : _ = some (IN (s.st i)))
  have s6 := (h.stepCell hi 6).trans (rfl : _ = some (outC E s i))
  by_cases h2 : s.st i = 2
  ·rw [resZ_in hi h2]
   unfold outC at s6
   rw [if_pos h2] at s6
   rw [h2] at s4
   clear h hi h2
   go_enter Tryz.func73, Tryz.ntmps73
   go_wp2_with fail
   go_ret2
   exact ⟨rfl, rfl⟩
  ·rw [resZ_not h2]
   have hne : (((s.st i : Nat) : Int) != 2) = true := by rw [bne_iff_ne]; omega
   clear h hi h2 s6
   go_enter Tryz.func73, Tryz.ntmps73
   go_wp2_with fail
   go_ret2
   exact ⟨rfl, rfl⟩
 ·rw [steps_miss hz] at hlk
  simp only [Option.isSome_none] at hlk
  rw [resZ_out hz]
  clear h hz
  go_enter Tryz.func73, Tryz.ntmps73
  go_wp2_with fail
  go_ret2
  exact ⟨rfl, rfl⟩
end
end Go.Proofs.YtnmhaipjfpongabGreatDoor

namespace Go.Proofs.YtnmhaipjfpongabGreatDoor
open Go.ChangeShapes Go.WideShapes Go.ChangeAt Go.RowKit

def ranN (E : BE) (s : BS) : Nat := (E.sm.filter (ranP s)).length
theorem ranN_le (E : BE) (s : BS) : ranN E s ≤ E.sm.length := List.length_filter_le _ _
theorem ranN_more {E : BE} {s s' : BS} {i : Nat} (hn : E.sm.Nodup) (hi : i ∈ E.sm) (h0 : ranP s i = false) (h : ∀ k, ranP s' k = (decide (k = i) || ranP s k)) : ranN E s + 1 ≤ ranN E s' := by
 unfold ranN
 have h1 : (i :: E.sm.filter (ranP s)).Nodup := List.nodup_cons.2 ⟨(fun hm => by have := (List.mem_filter.1 hm).2; rw [h0] at this; cases this), hn.filter _⟩
 have := nodup_len (b := E.sm.filter (ranP s')) h1 fun x hx => by
  rcases List.mem_cons.1 hx with rfl | hx
  ·exact List.mem_filter.2 ⟨hi, by rw [h]; simp⟩
  ·obtain ⟨h2, h3⟩ := List.mem_filter.1 hx
   exact List.mem_filter.2 ⟨h2, by rw [h, h3]; simp⟩
 simpa using this
structure OnceW (E : BE) (o : List Nat) (is : Nat → Bool) (l : List Rule) : Prop where
 well : BWell E o is
 rules : E.l = l
 all : E.sm = List.range l.length
theorem OnceW.mem {E : BE} {o : List Nat} {is : Nat → Bool} {l : List Rule} (h : OnceW E o is l) {i : Nat} : i ∈ E.sm ↔ i < l.length := by rw [h.all, List.mem_range]
theorem OnceW.nd {E : BE} {o : List Nat} {is : Nat → Bool} {l : List Rule} (h : OnceW E o is l) (i k : Nat) : E.nd i k = needB l i k := by unfold BE.nd; rw [h.rules]

structure OnceAt (wB wr : World) (P : Nat → Addr) (base : Nat) (E : BE) (K : BK) (rb n : Nat) (s : BS) (f : Nat → Bool) : Prop where
 bld : BldAt wr P base E K s
 inv : BInv E s
 only : Only (fun i => InSteps E K i ∨ i = rb) wB wr
 tab : TabAt wr rb 4 n (fun k => .bool (f k))
 apart : ¬ InBld E K rb
section
variable {wB wr w' : World} {P : Nat → Addr} {base : Nat} {E : BE} {K : BK} {rb n : Nat} {s : BS} {f : Nat → Bool}
theorem OnceAt.grow (h : OnceAt wB wr P base E K rb n s f) (ho : Ext wr w') : OnceAt wB w' P base E K rb n s f := ⟨h.bld.ext ho, h.inv, h.only.ext ho, h.tab.ext ho, h.apart⟩
theorem OnceAt.run (h : OnceAt wB wr P base E K rb n s f) {s' : BS} (hb : BldAt w' P base E K s') (hi : BInv E s') (ho : Only (InSteps E K) wr w') : OnceAt wB w' P base E K rb n s' f :=
 ⟨hb, hi, h.only.then (ho.mono fun _ _ h => .inl h), h.tab.later ho (fun e => h.apart e.bld), h.apart⟩
theorem OnceAt.mark (h : OnceAt wB wr P base E K rb n s f) (k : Nat) {g : Nat → Bool} (hg : ∀ i, i < n → g i = (decide (i = k) || f i)) : OnceAt wB (wr.setCell ⟨rb, k, none⟩ (.bool true)) P base E K rb n s g := by
 have ho : Only (fun i => i = rb) wr (wr.setCell ⟨rb, k, none⟩ (.bool true)) := Only.set _ rfl
 refine ⟨h.bld.later ho (fun i hi e => h.apart (e ▸ hi)), h.inv, h.only.then (ho.mono fun _ _ h => .inr h), (h.tab.set k (.bool true)).congr fun i hi => ?_, h.apart⟩
 rw [hg i hi]
 by_cases e : i = k
 ·rw [if_pos e, decide_eq_true e]; rfl
 ·rw [if_neg e, decide_eq_false e]; rfl
theorem OnceAt.same (h : OnceAt wB wr P base E K rb n s f) {g : Nat → Bool} (hg : ∀ i, i < n → f i = g i) : OnceAt wB wr P base E K rb n s g := ⟨h.bld, h.inv, h.only, h.tab.congr fun i hi => by rw [hg i hi], h.apart⟩
end
end Go.Proofs.YtnmhaipjfpongabGreatDoor

namespace Go.Proofs.YtnmhaipjfpongabGreatDoor
open Go.ChangeShapes Go.WideShapes Go.ChangeAt Go.RowKit

theorem need_rng {l : List Rule} (hn : (l.map Rule.out).Nodup) : needL l (l.map Rule.out) = List.range l.length := by
 unfold needL
 refine List.filter_eq_self.2 fun i hi => reachB_iff.2 (.root ?_)
 rw [needKs_all hn]; exact hi

theorem rule_word {r : Rule} (h : ruleCode r = 0) : r.word.length ≤ 100 := by
 have h2 : actCode r.kind r.word r.ins.length = 0 := by
  unfold ruleCode at h
  split at h
  ·cases h
  ·split at h
   ·rename_i h3; exact absurd h h3
   ·rename_i h3; exact Classical.byContradiction h3
 obtain ⟨k, _, _, _, h5⟩ := actCode_ok h2
 exact h5

section
variable {wB wr : World} {P : Nat → Addr} {base : Nat} {E : BE} {K : BK} {rb n : Nat} {s : BS} {o : List Nat} {is : Nat → Bool}
def RanIs (E : BE) (s s' : BS) (z : Int) (c : Nat) : Prop :=
 (c ≠ 0 ∧ s' = s ∧ ∀ i ∈ E.sm, (i : Int) = z → readyP E s i = false) ∨ (c = 0 ∧ ∃ i ∈ E.sm, z = (i : Int) ∧ readyP E s i = true ∧ ∀ k, ranP s' k = (decide (k = i) || ranP s k))
def OncePost (wB : World) (P : Nat → Addr) (base : Nat) (E : BE) (K : BK) (rb n : Nat) (s : BS) (z : Int) (e : Ending) (w' : World) : Prop :=
 ∃ (b : Bool) (c : Nat) (s' : BS), e = .returned (.tuple #[.bool b, errC P c]) ∧ OnceAt wB w' P base E K rb n s' (ranP s) ∧ RanIs E s s' z c
theorem OnceAt.runs (h : OnceAt wB wr P base E K rb n s (ranP s)) (hc : K.cp = .pointer none) (hW : BWell E o is) (hL : BLens E) (hV : PV wr P [2, 4, 5, 9, 10, 11]) (z : Int) :
  Calls Tryz.prog 58 #[PTR K.b, I z] wr (OncePost wB P base E K rb n s z) := by
 refine (runN_any h.bld hc hW h.inv hL hV z).mono ?_
 rintro e w' ⟨rfl, hb, ho⟩
 by_cases hz : ∃ i : Nat, i ∈ E.sm ∧ (i : Int) = z ∧ readyP E s i = true
 ·obtain ⟨i, hi, rfl, hr⟩ := hz
  obtain ⟨b, C', e1⟩ := run_ready (C := none) hi hr
  rw [runZ_in hi, e1] at hb
  rw [runZ_in hi, e1]
  exact ⟨b, 0, _, rfl, h.run hb (hW.step h.inv hi hr b) ho, .inr ⟨rfl, i, hi, rfl, hr, fun k => ran_step k⟩⟩
 ·have h1 : ∃ c, runZ E none s z = ((false, c), s, none) ∧ c ≠ 0 := by
   by_cases hin : ∃ i : Nat, i ∈ E.sm ∧ (i : Int) = z
   ·obtain ⟨i, hi, rfl⟩ := hin
    rw [runZ_in hi]
    exact run_not (fun h2 => hz ⟨i, h2.1, rfl, h2.2⟩)
   ·exact ⟨6, runZ_out (fun k hk e => hin ⟨k, hk, e⟩), by decide⟩
  obtain ⟨c, e1, hc0⟩ := h1
  rw [e1] at hb
  rw [e1]
  exact ⟨false, c, s, rfl, h.run hb h.inv ho, .inl ⟨hc0, rfl, fun i hi e2 => by
   cases hr : readyP E s i with
   | false => rfl
   | true => exact absurd ⟨i, hi, e2, hr⟩ hz⟩⟩
theorem OnceAt.vars {w : World} (h : OnceAt wB wr P base E K rb n s (ranP s)) (hx : Ext w wB) (hb : w.heap.size ≤ base) (hB : ∀ i, InSteps E K i → base ≤ i) (hr : w.heap.size ≤ rb) : Ext w wr :=
 hx.trans h.only (fun _ _ h => h) (fun i hi e => by
  rcases e with e | e
  ·have := hB i e; omega
  ·omega)

end
theorem BLens.of {l : List Rule} {sm : List Nat} {T : FL} (h : RightS l) (hs : ∀ r ∈ l, ShortR r) (hl : ∀ i ∈ sm, i < l.length) (hn : sm.length ≤ 1000) : BLens ⟨l, sm, T⟩ := by
 have hm : ∀ i ∈ sm, BE.rule ⟨l, sm, T⟩ i ∈ l := fun i hi => List.mem_of_getElem? (BE.rule_at (E := ⟨l, sm, T⟩) (hl i hi))
 exact ⟨hn, fun i hi => by have := (hs _ (hm i hi)).kind; omega, fun i hi => rule_word (h.2.1 _ (hm i hi)), fun i hi => (hs _ (hm i hi)).many⟩
end Go.Proofs.YtnmhaipjfpongabGreatDoor

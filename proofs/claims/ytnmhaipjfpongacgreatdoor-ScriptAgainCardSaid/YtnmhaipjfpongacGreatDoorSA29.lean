/- Texts of this seat laid together for one claim: Z11, Bm1, Bm2, Z20, Z19. No condition of its own: what each proves stands with its theorems. -/
import Derived.Test.YtnmhaipjfpongacGreatDoorSA27
import Derived.Test.YtnmhaipjfpongacGreatDoorSA20
import Derived.Test.YtnmhaipjfpongacGreatDoorSA23
import Derived.Test.YtnmhaipjfpongacGreatDoorSA25
import Derived.Test.YtnmhaipjfpongacGreatDoorSA8
import Derived.Test.YtnmhaipjfpongacGreatDoorSA19
import Derived.Test.YtnmhaipjfpongacGreatDoorSA21
import Derived.Test.YtnmhaipjfpongacGreatDoorSA28
namespace Go.Proofs.YtnmhaipjfpongacGreatDoor
open Go.ChangeShapes Go.WideShapes Go.ChangeAt Go.RowKit

def stateB : Nat → B
 | 1 => [119, 97, 105, 116, 115]
 | 2 => [100, 111, 110, 101]
 | 3 => [102, 97, 105, 108, 101, 100]
 | 4 => [108, 101, 102, 116]
 | _ => []
def stateZ (E : BE) (s : BS) (z : Int) : B := if 0 ≤ z ∧ z.toNat ∈ E.sm then stateB (s.st z.toNat) else []
theorem stateZ_in {E : BE} {s : BS} {i : Nat} (hi : i ∈ E.sm) : stateZ E s (i : Int) = stateB (s.st i) := by
 unfold stateZ
 rw [if_pos ⟨by omega, by rw [Int.toNat_natCast]; exact hi⟩, Int.toNat_natCast]
theorem stateZ_out {E : BE} {s : BS} {z : Int} (h : ∀ k ∈ E.sm, (k : Int) ≠ z) : stateZ E s z = [] := by
 unfold stateZ
 exact if_neg fun ⟨h1, h2⟩ => h _ h2 (by omega)
theorem z_cases (E : BE) (z : Int) : (∃ i : Nat, z = (i : Int) ∧ i ∈ E.sm) ∨ ∀ k ∈ E.sm, (k : Int) ≠ z := by
 by_cases h : ∃ i : Nat, z = (i : Int) ∧ i ∈ E.sm
 ·exact .inl h
 ·exact .inr fun k hk e => h ⟨k, e.symm, hk⟩

def RetSt (v : Value) (w : World) (e : Ending) (w' : World) : Prop := e = .returned v ∧ w = w'
section
variable {w : World} {P : Nat → Addr} {base : Nat} {E : BE} {K : BK} {s : BS}

set_option maxRecDepth 100000 in
set_option maxHeartbeats 2000000 in
theorem state_any (h : BldAt w P base E K s) (hI : BInv E s) (z : Int) :
  Calls Tryz.prog 69 #[PTR K.b, I z] w (RetE (S (stateZ E s z)) w) := by
 have c1 := (h.cell 1).trans (rfl : _ = some (Value.map (some K.lb)))
 have hlk := KMap.look (P := Tryz.prog) keyOk_int h.steps Tryz.underlying184 Tryz.underlying3 (z := .pointer none) (by kernel_rfl) z
 rcases z_cases E z with ⟨i, rfl, hi⟩ | hz
 ·rw [steps_lookup hi] at hlk
  simp only [Option.isSome_some] at hlk
  rw [stateZ_in hi]
  have s4 := (h.stepCell hi 4).trans (rfl : _ = some (IN (s.st i)))
  have s4' := fun ob => (Only.alloc (fun _ => False) w ob).cellOf s4 (fun h => h)
  have hr := hI.rng i hi
  clear h hI hi
  rcases (show s.st i = 1 ∨ s.st i = 2 ∨ s.st i = 3 ∨ s.st i = 4 by omega) with e | e | e | e
  all_goals
   rw [e] at s4 s4' ⊢
   clear e hr
   go_enter Tryz.func69, Tryz.ntmps69
   go_wp2_with fail
   go_ret
   exact ⟨rfl, Only.alloc _ _ _⟩
 ·rw [steps_miss hz] at hlk
  simp only [Option.isSome_none] at hlk
  rw [stateZ_out hz]
  clear h hI hz
  go_enter Tryz.func69, Tryz.ntmps69
  go_wp2_with fail
  go_ret
  exact ⟨rfl, Only.refl _ _⟩

noncomputable def resZ (E : BE) (s : BS) (z : Int) : B × Bool := if 0 ≤ z ∧ z.toNat ∈ E.sm ∧ s.st z.toNat = 2 then ((E.ans z.toNat).1, true) else ([], false)
theorem resZ_in {E : BE} {s : BS} {i : Nat} (hi : i ∈ E.sm) (h2 : s.st i = 2) : resZ E s (i : Int) = ((E.ans i).1, true) := by
 unfold resZ
 rw [if_pos ⟨by omega, by rw [Int.toNat_natCast]; exact hi, by rw [Int.toNat_natCast]; exact h2⟩, Int.toNat_natCast]
theorem resZ_not {E : BE} {s : BS} {i : Nat} (h2 : s.st i ≠ 2) : resZ E s (i : Int) = ([], false) := by
 unfold resZ
 exact if_neg fun ⟨_, _, h3⟩ => h2 (by rwa [Int.toNat_natCast] at h3)
theorem resZ_out {E : BE} {s : BS} {z : Int} (h : ∀ k ∈ E.sm, (k : Int) ≠ z) : resZ E s z = ([], false) := by
 unfold resZ
 exact if_neg fun ⟨h1, h2, _⟩ => h _ h2 (by omega)

set_option maxRecDepth 100000 in
set_option maxHeartbeats 2000000 in
theorem result_any (h : BldAt w P base E K s) (z : Int) :
  Calls Tryz.prog 68 #[PTR K.b, I z] w (RetSt (.tuple #[S (resZ E s z).1, .bool (resZ E s z).2]) w) := by
 have c1 := (h.cell 1).trans (rfl : _ = some (Value.map (some K.lb)))
 have hlk := KMap.look (P := Tryz.prog) keyOk_int h.steps Tryz.underlying184 Tryz.underlying3 (z := .pointer none) (by kernel_rfl) z
 rcases z_cases E z with ⟨i, rfl, hi⟩ | hz
 ·rw [steps_lookup hi] at hlk
  simp only [Option.isSome_some] at hlk
  have s4 := (h.stepCell hi 4).trans (rfl : _ = some (IN (s.st i)))
  have s6 := (h.stepCell hi 6).trans (rfl : _ = some (outC E s i))
  by_cases h2 : s.st i = 2
  ·rw [resZ_in hi h2]
   unfold outC at s6
   rw [if_pos h2] at s6
   rw [h2] at s4
   clear h hi h2
   go_enter Tryz.func68, Tryz.ntmps68
   go_wp2_with fail
   go_ret2
   exact ⟨rfl, rfl⟩
  ·rw [resZ_not h2]
   have hne : (((s.st i : Nat) : Int) != 2) = true := by rw [bne_iff_ne]; omega
   clear h hi h2 s6
   go_enter Tryz.func68, Tryz.ntmps68
   go_wp2_with fail
   go_ret2
   exact ⟨rfl, rfl⟩
 ·rw [steps_miss hz] at hlk
  simp only [Option.isSome_none] at hlk
  rw [resZ_out hz]
  clear h hz
  go_enter Tryz.func68, Tryz.ntmps68
  go_wp2_with fail
  go_ret2
  exact ⟨rfl, rfl⟩
end
end Go.Proofs.YtnmhaipjfpongacGreatDoor

namespace Go.Proofs.YtnmhaipjfpongacGreatDoor

section
variable {E : BE} {o : List Nat} {is : Nat → Bool} {s : BS}
end

section
variable {n : Nat} {nd : Nat → Nat → Bool} {f g f0 : Nat → Nat} {k j r : Nat}
end
end Go.Proofs.YtnmhaipjfpongacGreatDoor

namespace Go.Proofs.YtnmhaipjfpongacGreatDoor
open Go.ChangeShapes Go.WideShapes Go.ChangeAt Go.RowKit

structure MK where
 b : Nat
 t : Nat
 tv : Value
 la : Option Addr
 lc : Nat
 st : Nat
 ou : Nat
 hi : Nat
 wh : Nat
 cp : Value
 q : Nat → Prop
section
variable {w0 w w' : World} {E : BE} {K : MK} {s : BS} {n : Nat} {g g' : Nat → Nat} {ou ou' : Nat → B} {hi hi' : Nat → Bool} {wh wh' : Nat → Nat}
end
end Go.Proofs.YtnmhaipjfpongacGreatDoor

namespace Go.Proofs.YtnmhaipjfpongacGreatDoor
open Go.ChangeShapes Go.WideShapes Go.ChangeAt Go.RowKit

def ranN (E : BE) (s : BS) : Nat := (E.sm.filter (ranP s)).length
theorem ranN_le (E : BE) (s : BS) : ranN E s ≤ E.sm.length := List.length_filter_le _ _
theorem ranN_more {E : BE} {s s' : BS} {i : Nat} (hn : E.sm.Nodup) (hi : i ∈ E.sm) (h0 : ranP s i = false) (h : ∀ k, ranP s' k = (decide (k = i) || ranP s k)) : ranN E s + 1 ≤ ranN E s' := by
 unfold ranN
 have h1 : (i :: E.sm.filter (ranP s)).Nodup := List.nodup_cons.2 ⟨(fun hm => by have := (List.mem_filter.1 hm).2; rw [h0] at this; cases this), hn.filter _⟩
 have := nodup_len (b := E.sm.filter (ranP s')) h1 fun x hx => by
  rcases List.mem_cons.1 hx with rfl | hx
  ·exact List.mem_filter.2 ⟨hi, by rw [h]; simp⟩
  ·obtain ⟨h2, h3⟩ := List.mem_filter.1 hx
   exact List.mem_filter.2 ⟨h2, by rw [h, h3]; simp⟩
 simpa using this
section
variable {wB wr w' : World} {P : Nat → Addr} {base : Nat} {E : BE} {K : BK} {rb n : Nat} {s : BS} {f : Nat → Bool}
end
end Go.Proofs.YtnmhaipjfpongacGreatDoor

namespace Go.Proofs.YtnmhaipjfpongacGreatDoor
open Go.ChangeShapes Go.WideShapes Go.ChangeAt Go.RowKit

theorem rule_word {r : Rule} (h : ruleCode r = 0) : r.word.length ≤ 100 := by
 have h2 : actCode r.kind r.word r.ins.length = 0 := by
  unfold ruleCode at h
  split at h
  ·cases h
  ·split at h
   ·rename_i h3; exact absurd h h3
   ·rename_i h3; exact Classical.byContradiction h3
 obtain ⟨k, _, _, _, h5⟩ := actCode_ok h2
 exact h5

section
variable {wB wr : World} {P : Nat → Addr} {base : Nat} {E : BE} {K : BK} {rb n : Nat} {s : BS} {o : List Nat} {is : Nat → Bool}
end
theorem BLens.of {l : List Rule} {sm : List Nat} {T : FL} (h : RightS l) (hs : ∀ r ∈ l, ShortR r) (hl : ∀ i ∈ sm, i < l.length) (hn : sm.length ≤ 1000) : BLens ⟨l, sm, T⟩ := by
 have hm : ∀ i ∈ sm, BE.rule ⟨l, sm, T⟩ i ∈ l := fun i hi => List.mem_of_getElem? (BE.rule_at (E := ⟨l, sm, T⟩) (hl i hi))
 exact ⟨hn, fun i hi => by have := (hs _ (hm i hi)).kind; omega, fun i hi => rule_word (h.2.1 _ (hm i hi)), fun i hi => (hs _ (hm i hi)).many⟩
end Go.Proofs.YtnmhaipjfpongacGreatDoor

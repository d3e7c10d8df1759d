/- Texts of this seat laid together for one claim: S3, Bm1, Bm2, S1, S6, S9. No condition of its own: what each proves stands with its theorems. -/
import Derived.Test.YtnmhaipjfpongacGreatDoorSR18
import Derived.Test.YtnmhaipjfpongacGreatDoorSR25
import Derived.Test.YtnmhaipjfpongacGreatDoorSR30
import Derived.Test.YtnmhaipjfpongacGreatDoorSR26
import Derived.Test.YtnmhaipjfpongacGreatDoorSR7
import Derived.Test.YtnmhaipjfpongacGreatDoorSR12
import Derived.Test.YtnmhaipjfpongacGreatDoorSR5
import Derived.Test.YtnmhaipjfpongacGreatDoorSR3
import Derived.Test.YtnmhaipjfpongacGreatDoorSR20
namespace Go.Proofs.YtnmhaipjfpongacGreatDoor
open Go.ChangeShapes Go.WideShapes Go.ChangeAt Go.RowKit

section
variable {n : Nat} {nd : Nat → Nat → Bool} {f g : Nat → Bool} {i k : Nat}
end
end Go.Proofs.YtnmhaipjfpongacGreatDoor

namespace Go.Proofs.YtnmhaipjfpongacGreatDoor

section
variable {E : BE} {o : List Nat} {is : Nat → Bool} {s : BS}
end

section
variable {n : Nat} {nd : Nat → Nat → Bool} {f g f0 : Nat → Nat} {k j r : Nat}
end
end Go.Proofs.YtnmhaipjfpongacGreatDoor

namespace Go.Proofs.YtnmhaipjfpongacGreatDoor
open Go.ChangeShapes Go.WideShapes Go.ChangeAt Go.RowKit

structure MK where
 b : Nat
 t : Nat
 tv : Value
 la : Option Addr
 lc : Nat
 st : Nat
 ou : Nat
 hi : Nat
 wh : Nat
 cp : Value
 q : Nat → Prop
section
variable {w0 w w' : World} {E : BE} {K : MK} {s : BS} {n : Nat} {g g' : Nat → Nat} {ou ou' : Nat → B} {hi hi' : Nat → Bool} {wh wh' : Nat → Nat}
end
end Go.Proofs.YtnmhaipjfpongacGreatDoor

namespace Go.Proofs.YtnmhaipjfpongacGreatDoor
open Go.ChangeShapes Go.WideShapes Go.ChangeAt Go.RowKit

end Go.Proofs.YtnmhaipjfpongacGreatDoor

namespace Go.Proofs.YtnmhaipjfpongacGreatDoor
open Go.ChangeShapes Go.WideShapes Go.ChangeAt Go.RowKit

theorem code_at (w : World) (P : Nat → Addr) (hs : Sents w P) (v : Value) (f : Nat × Int) (he : ErrAt w P f v) (h12 : f.1 ≤ 12) (h0 : f.1 = 0 → f.2 = -1) : ∀ w1, Ext w w1 → Calls Tryz.prog 96 #[v] w1 (CodeIs w1 (f.1 : Int) f.2) := fun w1 hx => by
 rcases he with ⟨e0, rfl⟩ | ⟨e0, e1, rfl⟩ | ⟨e0, _, b, rfl, hb⟩
 ·have := code_nil w1
  rw [h0 e0, e0]
  exact this
 ·have hi : f.1 - 1 < 12 := by omega
  have hs1 := hs.ext hx
  obtain ⟨c, t, hr⟩ := hs1.row (f.1 - 1) hi
  have h := code_err w1 P hs1 (P (f.1 - 1)) (f.1 - 1) (by omega) (fun _ => rfl) (fun j hj hne e => hne (hs1.apart j (f.1 - 1) hj hi e)) c t hr
  rw [if_pos hi, show ((f.1 - 1 : Nat) : Int) + 1 = (f.1 : Int) by omega] at h
  rw [e1]
  exact h
 ·have hb1 := hx.heapOf hb (fun h => h)
  have h := code_fault w1 P (hs.ext hx) b (f.1 - 1) f.2 (by omega) ((cell_of_heap hb1 0).trans rfl) ((cell_of_heap hb1 1).trans rfl)
  rw [show ((f.1 - 1 : Nat) : Int) + 1 = (f.1 : Int) by omega] at h
  exact h

end Go.Proofs.YtnmhaipjfpongacGreatDoor

namespace Go.Proofs.YtnmhaipjfpongacGreatDoor
open Go.ChangeShapes Go.WideShapes Go.ChangeAt Go.RowKit

theorem part_codes (l : List Rule) (sm : List Nat) : partFault l sm = (0, -1) ∨ partFault l sm = (9, -1) := by
 unfold partFault
 split
 ·exact .inl rfl
 ·exact .inr rfl
end Go.Proofs.YtnmhaipjfpongacGreatDoor

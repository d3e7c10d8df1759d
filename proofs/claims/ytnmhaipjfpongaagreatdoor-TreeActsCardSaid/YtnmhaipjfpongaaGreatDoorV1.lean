/- coded at the twelve errors, and at nil. No condition but what the variables hold. -/
import Derived.Test.YtnmhaipjfpongaaGreatDoorE4
namespace Go.Proofs.YtnmhaipjfpongaaGreatDoor
open Go.ChangeShapes Go.WideShapes Go.ChangeAt Go.RowKit

theorem codedE (w : World) (p : Nat → Addr) (hs : Sents w p) (i : Nat) (hi : i < 12) (d : Int) : Calls Tryz.prog 16 #[errV (p i), I d] w fun e w' => e = .returned (.bool ((i : Int) + 1 == d)) ∧ Ext w w' := by
  obtain ⟨c, t, hr⟩ := hs.row i hi
  have h := code_err w p hs (p i) i (by omega) (fun _ => rfl) (fun j hj hne e => hne (hs.apart j i hj hi e)) c t hr
  rw [if_pos hi] at h
  have := coded1_any w _ _ _ d h
  simpa using this

theorem codedN (w : World) (d : Int) : Calls Tryz.prog 16 #[.nilIface, I d] w fun e w' => e = .returned (.bool (0 == d)) ∧ Ext w w' := by
  have := coded1_any w _ _ _ d (code_nil w)
  simpa using this
end Go.Proofs.YtnmhaipjfpongaaGreatDoor

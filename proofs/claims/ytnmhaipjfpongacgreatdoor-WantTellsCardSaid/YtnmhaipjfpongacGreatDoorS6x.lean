/- Errors by number and place: faulted. No condition but what the variables hold. -/
import Derived.Test.YtnmhaipjfpongacGreatDoorS1x
import Derived.Test.YtnmhaipjfpongacGreatDoorGc
namespace Go.Proofs.YtnmhaipjfpongacGreatDoor
open Go.ChangeShapes Go.WideShapes Go.ChangeAt Go.RowKit

/-- What plain.Code tells of an error. -/
theorem code_at (w : World) (P : Nat → Addr) (hs : Sents w P) (v : Value) (f : Nat × Int) (he : ErrAt w P f v) (h12 : f.1 ≤ 12) (h0 : f.1 = 0 → f.2 = -1) : ∀ w1, Ext w w1 → Calls Tryz.prog 96 #[v] w1 (CodeIs w1 (f.1 : Int) f.2) := fun w1 hx => by
  rcases he with ⟨e0, rfl⟩ | ⟨e0, e1, rfl⟩ | ⟨e0, _, b, rfl, hb⟩
  · have := code_nil w1
    rw [h0 e0, e0]
    exact this
  · have hi : f.1 - 1 < 12 := by omega
    have hs1 := hs.ext hx
    obtain ⟨c, t, hr⟩ := hs1.row (f.1 - 1) hi
    have h := code_err w1 P hs1 (P (f.1 - 1)) (f.1 - 1) (by omega) (fun _ => rfl) (fun j hj hne e => hne (hs1.apart j (f.1 - 1) hj hi e)) c t hr
    rw [if_pos hi, show ((f.1 - 1 : Nat) : Int) + 1 = (f.1 : Int) by omega] at h
    rw [e1]
    exact h
  · have hb1 := hx.heapOf hb (fun h => h)
    have h := code_fault w1 P (hs.ext hx) b (f.1 - 1) f.2 (by omega) ((cell_of_heap hb1 0).trans rfl) ((cell_of_heap hb1 1).trans rfl)
    rw [show ((f.1 - 1 : Nat) : Int) + 1 = (f.1 : Int) by omega] at h
    exact h

end Go.Proofs.YtnmhaipjfpongacGreatDoor

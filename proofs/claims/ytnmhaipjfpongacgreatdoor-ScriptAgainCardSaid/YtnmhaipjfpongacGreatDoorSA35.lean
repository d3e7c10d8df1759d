/- Texts of this seat laid together for one claim: F12, F14. No condition of its own: what each proves stands with its theorems. -/
import Derived.BigQuiet
import Derived.Test.YtnmhaipjfpongacGreatDoorSA13
import Derived.Lib.Replace
namespace Go.Proofs.YtnmhaipjfpongacGreatDoor
open Go.ChangeShapes Go.WideShapes Go.ChangeAt Go.RowKit

theorem join_first (x : B) (r : List B) (d : B) : Lib.join ((x :: r).take 1) d = x := by rw [List.take_succ_cons, List.take_zero, Lib.join_one]
theorem join_step {l : List B} {j : Nat} {y : B} (d : B) (hj : 1 ≤ j) (h : l[j]? = some y) : Lib.join (l.take (j + 1)) d = Lib.join (l.take j) d ++ d ++ y := by
 cases l with
 | nil => simp at h
 | cons x r =>
  obtain ⟨k, rfl⟩ : ∃ k, j = k + 1 := ⟨j - 1, by omega⟩
  rw [List.take_succ_cons, List.take_succ_cons, Lib.join_cons, Lib.join_cons, Lib.joinTail_take_succ d r k y (by simpa using h)]
  simp
theorem join_take_le (l : List B) (d : B) (j : Nat) : (Lib.join (l.take j) d).length ≤ sumLen l + l.length * d.length := by
 have h1 := join_le d (l.take j)
 have h2 := sum_take l j
 have h3 : (l.take j).length * d.length ≤ l.length * d.length := Nat.mul_le_mul_right _ (List.length_take_le' _ _)
 omega

end Go.Proofs.YtnmhaipjfpongacGreatDoor

namespace Go.Proofs.YtnmhaipjfpongacGreatDoor
open Go.ChangeShapes Go.WideShapes Go.ChangeAt Go.RowKit

theorem Row.down {b b' : Nat} {w : World} {v : Value} {l : List B} (h : Row b' w v l) (hb : b ≤ b') : Row b w v l :=
 ⟨h.1, h.2.imp id fun ⟨g, cap, cur, e, hg, r⟩ => ⟨g, cap, cur, e, Nat.le_trans hb hg, r⟩⟩

end Go.Proofs.YtnmhaipjfpongacGreatDoor

/- Texts of this seat laid together for one claim: F10, F11. No condition of its own: what each proves stands with its theorems. -/
import Derived.Deep.CutBlock
import Derived.Deep.DeepCutAuto
import Derived.Deep.LoopGhost
import Derived.IntWalk
import Derived.Test.YtnmhaipjfpongacGreatDoorSA12
namespace Go.Proofs.YtnmhaipjfpongacGreatDoor
open Go.ChangeShapes Go.WideShapes Go.ChangeAt Go.RowKit

theorem Rd.takeS {α : Type} {enc : α → Value} {w : World} {a : Option Addr} {cap : Nat} {l : List α} (h : Rd enc w (.slice a l.length cap) l) (j : Nat) (hj : j ≤ l.length) : Rd enc w (.slice a j cap) (l.take j) := by
 obtain ⟨a', cap', h1, h2, h3, h4⟩ := h
 cases h1
 have e : (l.take j).length = j := by rw [List.length_take]; omega
 refine ⟨a, cap, by rw [e], by omega, h3, fun hl => ?_⟩
 obtain ⟨b, off, h5, h6⟩ := h4 (fun e => hl (by rw [e]; simp))
 refine ⟨b, off, h5, fun i r hr => h6 i r ?_⟩
 rw [List.getElem?_take] at hr
 split at hr
 ·exact hr
 ·cases hr

end Go.Proofs.YtnmhaipjfpongacGreatDoor

namespace Go.Proofs.YtnmhaipjfpongacGreatDoor
open Go.ChangeShapes Go.WideShapes Go.ChangeAt Go.RowKit

end Go.Proofs.YtnmhaipjfpongacGreatDoor

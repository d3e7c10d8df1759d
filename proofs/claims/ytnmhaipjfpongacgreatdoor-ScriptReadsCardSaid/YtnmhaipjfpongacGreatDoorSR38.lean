/- Texts of this seat laid together for one claim: Z24, Bm8, Bm12, Bm11, Z30, I6, Bm14. No condition of its own: what each proves stands with its theorems. -/
import Derived.Test.YtnmhaipjfpongacGreatDoorSR30
import Derived.Test.YtnmhaipjfpongacGreatDoorSR36
import Derived.Test.YtnmhaipjfpongacGreatDoorSR37
import Derived.Deep.RegionHeld3
import Derived.Deep.RegionLaw
import Derived.OrdersHeld
import Derived.Test.YtnmhaipjfpongacGreatDoorSR0
import Derived.Test.YtnmhaipjfpongacGreatDoorSR32
import Derived.Test.YtnmhaipjfpongacGreatDoorSR31
import Derived.Test.YtnmhaipjfpongacGreatDoorSR7
import Derived.Test.YtnmhaipjfpongacGreatDoorSR28
import Derived.Deep.CutBlock
import Derived.Deep.DeepCutAuto
import Derived.Test.YtnmhaipjfpongacGreatDoorSR29
import Derived.Test.YtnmhaipjfpongacGreatDoorSR20
import Derived.Test.YtnmhaipjfpongacGreatDoorSR23
import Derived.Test.YtnmhaipjfpongacGreatDoorSR25
import Derived.Test.YtnmhaipjfpongacGreatDoorSR5
namespace Go.Proofs.YtnmhaipjfpongacGreatDoor
open Go.ChangeShapes Go.WideShapes Go.ChangeAt Go.RowKit

section
variable {E : BE} {o : List Nat} {is : Nat → Bool} {s : BS} {many : Nat} {L : FL}
theorem BWell.runZ (h : BWell E o is) (I : BInv E s) (C : CS) (z : Int) : BInv E (runZ E C s z).2.1 := by
 by_cases hin : ∃ i : Nat, i ∈ E.sm ∧ (i : Int) = z
 ·obtain ⟨i, hi, rfl⟩ := hin
  rw [runZ_in hi]
  exact h.run I i
 ·rw [runZ_out (fun k hk e => hin ⟨k, hk, e⟩)]
  exact I
end

theorem run_of {E : BE} {s : BS} {C : CS} {i : Nat} (hi : i ∈ E.sm) (hr : readyP E s i = true) : (runZ E C s (i : Int)).1.2 = 0 ∧ ∀ k, ranP (runZ E C s (i : Int)).2.1 k = (decide (k = i) || ranP s k) := by
 obtain ⟨b, C', e⟩ := run_ready (C := C) hi hr
 rw [runZ_in hi, e]
 exact ⟨rfl, fun k => ran_step k⟩
section
variable {w0 wr w' : World} {P : Nat → Addr} {E : BE} {Ka Kb Kd : BK} {cb cmb many ba bb bd be : Nat} {X : List (Nat × Obj)} {L : FL} {sa sb sd : BS} {o : List Nat} {is : Nat → Bool}
end
end Go.Proofs.YtnmhaipjfpongacGreatDoor

namespace Go.Proofs.YtnmhaipjfpongacGreatDoor
open Go.ChangeShapes Go.WideShapes Go.ChangeAt Go.RowKit

noncomputable def stepM (E : BE) (x : BS × CS) (i : Nat) : BS × CS := ((runZ E x.2 x.1 (i : Int)).2.1, (runZ E x.2 x.1 (i : Int)).2.2)
section
variable {w0 w w' : World} {E : BE} {K : MK} {o : List Nat} {is : Nat → Bool} {cb lo : Nat} {cv : Value} {R : World → Prop} {x : BS × CS}
end
end Go.Proofs.YtnmhaipjfpongacGreatDoor

namespace Go.Proofs.YtnmhaipjfpongacGreatDoor
open Go.ChangeShapes Go.WideShapes Go.ChangeAt Go.RowKit

section
variable {σ : Type} {E : BE} {bs : σ → BS} {step : σ → Nat → σ}
end
theorem runP_none (E : BE) (s : BS) (i : Nat) : (runP E none s i).2.2 = none := by
 unfold runP
 split
 ·rfl
 ·split
  ·rfl
  ·split
   ·rfl
   ·split <;> rfl
end Go.Proofs.YtnmhaipjfpongacGreatDoor

namespace Go.Proofs.YtnmhaipjfpongacGreatDoor
open Go.ChangeShapes Go.WideShapes Go.ChangeAt Go.RowKit

end Go.Proofs.YtnmhaipjfpongacGreatDoor

namespace Go.Proofs.YtnmhaipjfpongacGreatDoor
open Go.ChangeShapes Go.WideShapes Go.ChangeAt Go.RowKit

section
variable {σ : Type} {E : BE} {bs : σ → BS} {step : σ → Nat → σ} {x y z : σ} {o p : List Nat}
end

end Go.Proofs.YtnmhaipjfpongacGreatDoor

namespace Go.Proofs.YtnmhaipjfpongacGreatDoor
open Go.ChangeShapes Go.WideShapes Go.ChangeAt Go.RowKit

def ruleUp : Rule := ⟨[98], [117, 112, 112, 101, 114], [], [[97]]⟩
theorem wanted_need : needL [ruleUp] [[98]] = [0] := by
 have h0 : reachB [ruleUp] [[98]] 0 = true := reachB_iff.2 (.root (by
  have : needKs [ruleUp] [[98]] = [0] := by kernel_rfl
  rw [this]; exact .head _))
 unfold needL
 show List.filter (reachB [ruleUp] [[98]]) [0] = [0]
 rw [List.filter_cons_of_pos h0]
 rfl
end Go.Proofs.YtnmhaipjfpongacGreatDoor

namespace Go.Proofs.YtnmhaipjfpongacGreatDoor
open Go.ChangeShapes Go.WideShapes Go.ChangeAt Go.RowKit

set_option maxRecDepth 100000 in
set_option maxHeartbeats 2000000 in
theorem coded3_any (w : World) (v : Value) (c : Int) (h : Calls Tryz.prog 96 #[v] w (CodeIs w c (-1))) : Calls Tryz.prog 64 #[v, I c] w (RetE (.bool true) w) := by
 have HC := Lib.hid h
 clear h
 go_enter Tryz.func64, Tryz.ntmps64
 go_wp2_with fail
 refine HC.out.mono ?_
 rintro e w1 ⟨rfl, ho⟩
 go_wp2_with fail
 go_ret
 exact ⟨by simp, ho⟩
end Go.Proofs.YtnmhaipjfpongacGreatDoor

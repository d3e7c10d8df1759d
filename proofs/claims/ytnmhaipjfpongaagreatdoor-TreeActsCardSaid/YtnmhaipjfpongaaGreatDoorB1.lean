/- strings.Builder's WriteString and String, strconv.Itoa, package cache's counted. No condition but that the table of powers lies where it is laid. -/
import Derived.Test.YtnmhaipjfpongaaGreatDoorSh2
import Derived.Test.YtnmhaipjfpongaaGreatDoorE4
import Derived.Lib.SmallJoins
import Derived.Lib.AppendIntMem
import Derived.Lib.ItoaLen
namespace Go.Proofs.YtnmhaipjfpongaaGreatDoor
open Go.ChangeShapes Go.WideShapes Go.ChangeAt Go.RowKit

theorem write_any (n0 b : Nat) (l s : B) (w : World) (h : Lib.IsBuilder 100 5 n0 b (Lib.byteCells l) w) (hlen : l.length + s.length ≤ 140737488355328) (hBw : n0 ≤ w.heap.size) :
    Calls Tryz.prog 55 #[.pointer (some ⟨b, 0, none⟩), S s] w fun e w' => e = .returned (.tuple #[I s.length, .nilIface]) ∧ Lib.IsBuilder 100 5 n0 b (Lib.byteCells (l ++ s)) w' ∧ Below n0 w w' := by
  have hsz : (⟨s.toArray⟩ : ByteArray).size = s.length := by simp [ByteArray.size]
  refine (Any.Builder_WriteString { Tryz.lays156 with } Tryz.Builder_Extra_156 n0 b (Lib.byteCells l) ⟨s.toArray⟩ w h (by rw [Lib.byteCells_length, hsz]; exact hlen) hBw).mono ?_
  rintro e w' ⟨rfl, h1, h2⟩
  refine ⟨by rw [hsz], .inr ?_, h2⟩
  have e1 : Lib.byteCells l ++ Lib.strCells ⟨s.toArray⟩ = Lib.byteCells (l ++ s) := by rw [Lib.strCells_eq]; simp [Lib.byteCells]
  rw [← e1]
  exact h1

abbrev Pow (w : World) : Prop := Lib.TabIs Tryz.prog w "internal/strconv.uint64pow10" .u64 Lib.pow10Tab

theorem Pow.ext {w w' : World} (h : Pow w) (ho : Ext w w') : Pow w' :=
  Go.Joins.tab_stays (g := 13) (by kernel_rfl) h ho.extBelow (Nat.le_refl _)

theorem itoa_any (w : World) (n : Nat) (hn : n ≤ 1000000000) (h : Pow w) : Calls Tryz.prog 56 #[I n] w fun e w' => e = .returned (S (Lib.decDigits n)) ∧ Ext w w' := by
  refine (Tryz.strconv_Itoa n (by omega) (by omega) w h).mono ?_
  rintro e w' ⟨rfl, k, os, rfl⟩
  exact ⟨by rw [Lib.itoa_nonneg], Only.of_below (Lib.below_grow w.heap.size w (Nat.le_refl _) k os)⟩

/-- counted text. -/
def cnt (s : B) : B := Lib.decDigits s.length ++ 58 :: s

theorem ba_app (a b : B) : ((⟨a.toArray⟩ : ByteArray) ++ ⟨b.toArray⟩) = ⟨(a ++ b).toArray⟩ := by
  ext1
  simp [ByteArray.data_append]

theorem dec_le (n : Nat) (h : n ≤ 1000000000) : (Lib.decDigits n).length ≤ 20 := by
  rw [Lib.decDigits_length]
  exact Lib.nDigits_le20 n (by omega)

theorem counted_any (w : World) (s : B) (hs : s.length ≤ 1000000) (h : Pow w) : Calls Tryz.prog 317 #[S s] w fun e w' => e = .returned (S (cnt s)) ∧ Ext w w' := by
  have hi := itoa_any w s.length (by omega) h
  have hd := dec_le s.length (by omega)
  have h1 : ¬ 9223372036854775807 < (Lib.decDigits s.length).length + 1 := by omega
  have h2 : ¬ 9223372036854775807 < (Lib.decDigits s.length).length + 1 + s.length := by omega
  have HI := Lib.hid hi
  clear hi h hd
  go_enter Tryz.func317, Tryz.ntmps317
  go_wp2_with (go_at_call 56; refine HI.out.mono ?_; rintro e w1 ⟨rfl, h1⟩)
  go_ret
  refine ⟨?_, h1⟩
  have e1 : ((⟨(Lib.decDigits s.length).toArray⟩ : ByteArray) ++ ⟨#[58]⟩ ++ ⟨s.toArray⟩) = ⟨(cnt s).toArray⟩ := by
    rw [show (⟨#[58]⟩ : ByteArray) = ⟨([58] : B).toArray⟩ from rfl, ba_app, ba_app]
    simp [cnt]
  exact congrArg (fun x => Ending.returned (Value.string x)) e1
end Go.Proofs.YtnmhaipjfpongaaGreatDoor

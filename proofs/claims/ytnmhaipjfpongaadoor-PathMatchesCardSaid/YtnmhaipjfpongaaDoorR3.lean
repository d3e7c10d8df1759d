/- Package path: Clean: strings.SplitSeq, the loop's body. No condition but the text's length, and what the variables hold. -/
import Derived.Test.YtnmhaipjfpongaaDoorR2
import Derived.Test.YtnmhaipjfpongaaDoorQ8
import Derived.Maps.AppendAt
namespace Go.Proofs.YtnmhaipjfpongaaDoor
open Go.ChangeShapes Go.WideShapes Go.ChangeAt Go.RowKit
open Go.MapKept (heap_alloc)

theorem splitSeqI_any (w : World) (s : B) : Calls Tryd.prog 70 #[S s, .string ⟨#[47]⟩, .int .i64 0] w fun e w' =>
    e = .returned (.func (.func 84) #[] #[.pointer (some ⟨w.heap.size + 1, 0, none⟩), .pointer (some ⟨w.heap.size, 0, none⟩), .pointer (some ⟨w.heap.size + 2, 0, none⟩)]) ∧
      w' = ((w.alloc (.cells #[S s] 9)).alloc (.cells #[.string ⟨#[47]⟩] 9)).alloc (.cells #[.int .i64 0] 3) := by
  go_enter Tryd.func70, Tryd.ntmps70
  go_wp2_with fail
  go_ret
  exact ⟨rfl, rfl⟩

theorem splitSeq_any (w : World) (s : B) : Calls Tryd.prog 53 #[S s, .string ⟨#[47]⟩] w fun e w' =>
    e = .returned (.func (.func 84) #[] #[.pointer (some ⟨w.heap.size + 1, 0, none⟩), .pointer (some ⟨w.heap.size, 0, none⟩), .pointer (some ⟨w.heap.size + 2, 0, none⟩)]) ∧
      w' = ((w.alloc (.cells #[S s] 9)).alloc (.cells #[.string ⟨#[47]⟩] 9)).alloc (.cells #[.int .i64 0] 3) := by
  have H := Lib.hid (splitSeqI_any w s)
  go_enter Tryd.func53, Tryd.ntmps53
  go_wp2_with fail
  refine H.out.mono ?_
  rintro e w' ⟨rfl, rfl⟩
  go_wp2
  go_ret
  exact ⟨rfl, rfl⟩

structure PathErrs (w : World) (aB aS aN aE : Addr) : Prop where
  max : HasMax w
  bound : w.cell? ⟨1, 0, none⟩ = some (errV aB)
  shape : w.cell? ⟨2, 0, none⟩ = some (errV aS)
  name : w.cell? ⟨3, 0, none⟩ = some (errV aN)
  none : w.cell? ⟨5, 0, none⟩ = some (errV aE)

theorem PathErrs.ext {w w' : World} {aB aS aN aE : Addr} (h : PathErrs w aB aS aN aE) (ho : Ext w w') : PathErrs w' aB aS aN aE :=
  ⟨h.max.ext ho, ho.cellOf h.bound (fun h => h), ho.cellOf h.shape (fun h => h), ho.cellOf h.name (fun h => h), ho.cellOf h.none (fun h => h)⟩

/-- The error that a number tells, of those that Clean hands back. -/
def cleanErr (aB aS aN aE : Addr) : Nat → Value
  | 0 => .nilIface
  | 2 => errV aB
  | 3 => errV aS
  | 4 => errV aN
  | _ => errV aE

def CleanIs (w : World) (aB aS aN aE : Addr) (s : B) (e : Ending) (w' : World) : Prop :=
  e = .returned (.tuple #[S (cleanR s).1, cleanErr aB aS aN aE (cleanR s).2]) ∧ Ext w w'

theorem clean_results (tmps : Array Value) (W : World) (h : Nat) (t : B) (ev : Value) (h2 : tmps[2]? = some (.pointer (some ⟨h, 0, none⟩))) (h3 : tmps[3]? = some (.pointer (some ⟨h + 1, 0, none⟩)))
    (d1 : W.cell? ⟨h, 0, none⟩ = some (S t)) (d2 : W.cell? ⟨h + 1, 0, none⟩ = some ev) : (results Tryd.f32 tmps).run Tryd.prog W = .ok (.tuple #[S t, ev]) W := by
  simp only [results, Tryd.results32]
  simp [go_sem, h2, h3, d1, d2]

set_option maxRecDepth 100000 in
set_option maxHeartbeats 1000000 in
theorem clean_long (w : World) (s : B) (h : 200 < s.length) (aB aS aN aE : Addr) (he : PathErrs w aB aS aN aE) : Calls Tryd.prog 32 #[S s] w (CleanIs w aB aS aN aE s) := by
  have hl : (200 : Int) < (s.length : Int) := by omega
  have hr : cleanR s = ([], 2) := by unfold cleanR; rw [if_pos h]
  have hb : w.cell? ⟨1, 0, none⟩ = some (errV aB) := he.bound
  have hlt := lt_of_cell hb
  unfold CleanIs
  rw [hr]
  clear he hr h
  have hA : Ext w ((w.alloc (.cells #[.string ⟨#[]⟩] 9)).alloc (.cells #[.nilIface] 26)) := (Only.alloc _ w _).then (Only.alloc _ _ _)
  have hbox := (Boxed.new w 9 (.string ⟨#[]⟩)).alloc (.cells #[.nilIface] 26)
  have hbox2 := Boxed.new (w.alloc (.cells #[.string ⟨#[]⟩] 9)) 26 .nilIface
  rw [World.size_alloc] at hbox2
  have hb1 := hA.cellOf hb (fun h => h)
  obtain ⟨w1, hW⟩ : ∃ w1, ((w.alloc (.cells #[.string ⟨#[]⟩] 9)).alloc (.cells #[.nilIface] 26)) = w1 := ⟨_, rfl⟩
  rw [hW] at hA hbox hbox2 hb1
  have c1 := hbox.cell
  have f1 := hbox.frozen
  have c2 := hbox2.cell
  have f2 := hbox2.frozen
  have hne := World.new_ne w _ hb
  have HA := Lib.hid hA
  have HB1 := Lib.hid hbox
  have HB2 := Lib.hid hbox2
  clear hA hbox hbox2 hb
  simp only [] at hlt
  go_enter Tryd.func32, Tryd.ntmps32
  go_wp2_with fail
  go_region
  all_goals go_wp2
  refine bodyPost_ret (v := .tuple #[S [], errV aB]) (clean_results _ _ w.heap.size _ _ rfl rfl ?_ ?_) rfl ⟨rfl, ?_⟩
  · show ((w1.setCell ⟨w.heap.size, 0, none⟩ _).setCell ⟨w.heap.size + 1, 0, none⟩ _).cell? _ = _
    exact (boxed_other (Boxed.set (S []) HB1.out) (by omega) _).cell
  · exact ((boxed_other HB2.out (by omega) (S [])).set (errV aB)).cell
  · exact ((HA.out.thenSet _ (.inr (Nat.le_refl _))).thenSet _ (.inr (Nat.le_succ _))).thenDrew
end Go.Proofs.YtnmhaipjfpongaaDoor

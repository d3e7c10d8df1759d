/- Plain words of all outs. No condition. -/
import Derived.Test.YtnmhaipjfpongabGreatDoorJ4x
import Derived.Test.YtnmhaipjfpongabGreatDoorG9x
namespace Go.Proofs.YtnmhaipjfpongabGreatDoor
open Go.ChangeShapes Go.WideShapes Go.ChangeAt Go.RowKit

/-! ### all outs -/
theorem madeB_out {l : List Rule} {r : Rule} (h : r ∈ l) : madeB l r.out = true := List.any_eq_true.2 ⟨r, h, beq_iff_eq.2 rfl⟩
theorem madeI_out {l : List Rule} (hn : (l.map Rule.out).Nodup) {i : Nat} {r : Rule} (h : l[i]? = some r) : madeI l r.out = i := by
  unfold madeI
  rw [idx_hit (p := fun q => q.out == r.out) h (beq_iff_eq.2 rfl) (fun j y hj hy => beq_eq_false_iff_ne.2 fun e => by
    have := nodup_inj hn (i := j) (j := i) (x := r.out) (by rw [List.getElem?_map, hy, Option.map_some, e]) (by rw [List.getElem?_map, h]; rfl)
    omega)]
  exact Int.toNat_natCast i
theorem needKs_all {l : List Rule} (hn : (l.map Rule.out).Nodup) : needKs l (l.map Rule.out) = List.range l.length := by
  unfold needKs
  apply List.ext_getElem?
  intro i
  rw [List.getElem?_map, List.getElem?_map]
  by_cases hi : i < l.length
  · rw [List.getElem?_eq_getElem hi, List.getElem?_range hi, Option.map_some, Option.map_some, madeI_out hn (List.getElem?_eq_getElem hi)]
  · rw [List.getElem?_eq_none (by omega), List.getElem?_eq_none (by simp; omega)]
    rfl
theorem bad_all (l : List Rule) : badOf l (l.map Rule.out) = none := bad_none fun x hx => by
  obtain ⟨r, hr, rfl⟩ := List.mem_map.1 hx
  exact madeB_out hr
theorem need_all {n : Nat} {nd : Nat → Nat → Bool} {out : List Nat} (h : NeedOk n nd (List.range n) out) : out = List.range n := by
  obtain ⟨N, rfl, hN⟩ := h
  rw [List.filter_eq_self]
  intro i hi
  exact (hN i (List.mem_range.1 hi)).2 (.root hi)
end Go.Proofs.YtnmhaipjfpongabGreatDoor

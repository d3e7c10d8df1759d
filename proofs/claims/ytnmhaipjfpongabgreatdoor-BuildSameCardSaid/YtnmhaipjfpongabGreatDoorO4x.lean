/- An argument of type []int, read as a list of numbers. No condition of its own. -/
import Derived.Test.YtnmhaipjfpongabGreatDoorO2x
namespace Go.Proofs.YtnmhaipjfpongabGreatDoor
open Go.ChangeShapes Go.WideShapes Go.ChangeAt Go.RowKit

theorem open_nums {H : Type} {enc : TypeId × Value → H} {w : World} {base : Nat} {spare : Nat → Bool} {held : Bool} {fuel : Nat} {a : Option Addr} {len cap : Nat} {x : DataW H × List MemPlace}
    (h : DataW.trod enc Tryz.prog w base spare held fuel 63 [.slice a len cap] = some x) (_hr : ∀ n ∈ x.1.weights Tryz.prog 63, n ≤ 140737488351232) :
    ∃ l : List Int, l.length = len ∧ Rd I w (.slice a len cap) l ∧ True := by
  rcases Go.ChangeShapes.open_ints Tryz.underlying63 Tryz.underlying3 (by kernel_rfl) h with ⟨h0, _⟩ | ⟨ad, len', cap', zs, hcs, _, hl, hm, hzl, _, hcell, _⟩
  · cases h0
    exact ⟨[], rfl, Rd.nil _ _, trivial⟩
  · cases hcs
    have hzn : len ≤ zs.length := by rw [hzl]; split <;> omega
    have hlen : (zs.take len).length = len := by rw [List.length_take]; omega
    refine ⟨zs.take len, hlen, ⟨some ad, cap, by rw [hlen], by rw [hlen]; exact hl, hm, fun hne => ?_⟩, trivial⟩
    have hpos : 0 < len := by
      rcases Nat.eq_zero_or_pos len with h | h
      · subst h; simp at hne
      · exact h
    obtain ⟨b, off, spot⟩ := ad
    have hs : spot = none := by
      have := hcell 0 (by omega)
      simpa [Addr.add] using World.cell?_spot this
    subst hs
    refine ⟨b, off, rfl, fun i y hx => ?_⟩
    have hlt : i < len := by have := (List.getElem?_eq_some_iff.1 hx).1; omega
    have h1 := hcell i (by omega)
    have he : zs.getD i 0 = y := by
      rw [List.getElem?_take_of_lt hlt] at hx
      rw [List.getD_eq_getElem?_getD, hx]
      rfl
    rw [he] at h1
    rw [addr_addR] at h1
    exact h1
end Go.Proofs.YtnmhaipjfpongabGreatDoor

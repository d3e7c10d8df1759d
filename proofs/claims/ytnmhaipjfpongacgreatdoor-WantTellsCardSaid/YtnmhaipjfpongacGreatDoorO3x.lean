/- An argument of type []File (two texts a struct), read as a list of pairs. No condition of its own. -/
import Derived.Test.YtnmhaipjfpongacGreatDoorO2x
import Derived.Test.YtnmhaipjfpongacGreatDoorGf
namespace Go.Proofs.YtnmhaipjfpongacGreatDoor
open Go.ChangeShapes Go.WideShapes Go.ChangeAt Go.RowKit

theorem cellsFile : Tryz.prog.cellsOf 65 = 2 := by kernel_rfl

theorem open_files {H : Type} {enc : TypeId × Value → H} {w : World} {base : Nat} {spare : Nat → Bool} {held : Bool} {fuel : Nat} {a : Option Addr} {len cap : Nat} {x : DataW H × List MemPlace}
    (h : DataW.trod enc Tryz.prog w base spare held fuel 22 [.slice a len cap] = some x) (_hr : ∀ n ∈ x.1.weights Tryz.prog 22, n ≤ 140737488351232) :
    ∃ l : List (B × B), l.length = len ∧ RdS 2 encF w (.slice a len cap) l ∧ True := by
  rcases open_slice_fields Tryz.underlying22 Tryz.underlying65 (by kernel_rfl) cellsFile h with ⟨h0, _⟩ | ⟨ad, len', cap', m, D, Pl, hcs, _, hl, hm, hmm, hxx, hi⟩
  · cases h0
    exact ⟨[], rfl, RdS.nil _ _ _, trivial⟩
  · cases hcs
    have key : ∀ i, ∃ y : B × B, i < len → w.cell? (ad.add (i * 2)) = some (S y.1) ∧ w.cell? (ad.add (i * 2 + 1)) = some (S y.2) := by
      intro i
      by_cases hlt : i < len
      · have him : i < m := by rw [hmm]; split <;> omega
        obtain ⟨ys, n, hD, _, hyl, hf⟩ := hi i him
        obtain ⟨v0, y0, c0, g0, t0⟩ := hf 0 _ rfl
        obtain ⟨v1, y1, c1, g1, t1⟩ := hf 1 _ rfl
        obtain ⟨p, e0, z0, _⟩ := DataW.trod_string Tryz.underlying9 t0
        obtain ⟨k, e1, z1, _⟩ := DataW.trod_string Tryz.underlying9 t1
        cases e0; cases e1
        exact ⟨(p.data.toList, k.data.toList), fun _ => ⟨c0, c1⟩⟩
      · exact ⟨([], []), fun h => absurd h hlt⟩
    refine ⟨(List.range len).map fun i => Classical.choose (key i), by simp, ⟨some ad, cap, by simp, by simpa using hl, hm, fun hne => ?_⟩, trivial⟩
    have hpos : 0 < len := by
      rcases Nat.eq_zero_or_pos len with h | h
      · subst h; simp at hne
      · exact h
    obtain ⟨b, off, spot⟩ := ad
    have hs : spot = none := by
      have := (Classical.choose_spec (key 0) hpos).1
      simpa [Addr.add] using World.cell?_spot this
    subst hs
    refine ⟨b, off, rfl, fun i y hx j u hu => ?_⟩
    have hlt : i < len := by have := (List.getElem?_eq_some_iff.1 hx).1; simpa using this
    have he : Classical.choose (key i) = y := by
      rw [List.getElem?_map, List.getElem?_range hlt] at hx
      simpa using hx
    obtain ⟨h0, h1⟩ := Classical.choose_spec (key i) hlt
    rw [he] at h0 h1
    rw [addr_addR] at h0 h1
    rcases j with _ | _ | j
    · cases hu; exact h0
    · cases hu; exact h1
    · simp at hu
end Go.Proofs.YtnmhaipjfpongacGreatDoor

/- An argument of type []Act (three texts a struct), read as a list. No condition of its own. -/
import Derived.Test.YtnmhaipjfpongaaGreatDoorH2
import Derived.Test.YtnmhaipjfpongaaGreatDoorA1
import Derived.Test.YtnmhaipjfpongaaGreatDoorA2
namespace Go.Proofs.YtnmhaipjfpongaaGreatDoor
open Go.ChangeShapes Go.WideShapes Go.ChangeAt Go.RowKit

abbrev encA (a : B × B × B) : List Value := [S a.1, S a.2.1, S a.2.2]

theorem addr_add (b off n : Nat) : (⟨b, off, none⟩ : Addr).add n = ⟨b, off + n, none⟩ := by
  unfold Addr.add
  split
  · subst_vars; rfl
  · rfl

abbrev Reach47 : Nat := 140737488351232

theorem cellsAct : Tryz.prog.cellsOf 47 = 3 := by kernel_rfl

theorem open_acts {H : Type} {enc : TypeId × Value → H} {w : World} {base : Nat} {spare : Nat → Bool} {held : Bool} {fuel : Nat} {a : Option Addr} {len cap : Nat} {x : DataW H × List MemPlace}
    (h : DataW.trod enc Tryz.prog w base spare held fuel 39 [.slice a len cap] = some x) (hr : ∀ n ∈ x.1.weights Tryz.prog 39, n ≤ Reach47) :
    ∃ l : List (B × B × B), l.length = len ∧ RdS 3 encA w (.slice a len cap) l ∧ ∀ y ∈ l, y.1.length ≤ Reach47 ∧ y.2.1.length ≤ Reach47 ∧ y.2.2.length ≤ Reach47 := by
  rcases open_slice_fields Tryz.underlying39 Tryz.underlying47 (by kernel_rfl) cellsAct h with ⟨h0, _⟩ | ⟨ad, len', cap', m, D, Pl, hcs, _, hl, hm, hmm, hxx, hi⟩
  · cases h0
    exact ⟨[], rfl, RdS.nil _ _ _, by simp⟩
  · cases hcs
    have key : ∀ i, ∃ y : B × B × B, i < len → (w.cell? (ad.add (i * 3)) = some (S y.1) ∧ w.cell? (ad.add (i * 3 + 1)) = some (S y.2.1) ∧ w.cell? (ad.add (i * 3 + 2)) = some (S y.2.2)) ∧ (y.1.length ≤ Reach47 ∧ y.2.1.length ≤ Reach47 ∧ y.2.2.length ≤ Reach47) := by
      intro i
      by_cases hlt : i < len
      · have him : i < m := by rw [hmm]; split <;> omega
        obtain ⟨ys, n, hD, _, hyl, hf⟩ := hi i him
        obtain ⟨v0, y0, c0, g0, t0⟩ := hf 0 _ rfl
        obtain ⟨v1, y1, c1, g1, t1⟩ := hf 1 _ rfl
        obtain ⟨v2, y2, c2, g2, t2⟩ := hf 2 _ rfl
        obtain ⟨p, e0, z0, _⟩ := DataW.trod_string Tryz.underlying9 t0
        obtain ⟨k, e1, z1, _⟩ := DataW.trod_string Tryz.underlying9 t1
        obtain ⟨s, e2, z2, _⟩ := DataW.trod_string Tryz.underlying9 t2
        cases e0; cases e1; cases e2
        have hin : D i ∈ (List.range len).map D := List.mem_map.2 ⟨i, List.mem_range.2 hlt, rfl⟩
        have hw : ∀ n ∈ (D i).weights Tryz.prog 47, n ≤ Reach47 := fun n hn => hr n (by rw [hxx]; exact weights_elem Tryz.underlying39 hin n hn)
        have part : ∀ (j : Nat) (q : DataW H) (u : B), (ys.map (·.1))[j]? = some q → j < 3 → q = .lit (.string u) → u.length ≤ Reach47 := fun j q u hq hj hu => by
          refine hw _ ?_
          rw [hD]
          refine weights_part (e := 9) Tryz.underlying47 (j := j) ?_ hq _ ?_
          · rcases j with _ | _ | _ | j
            · rfl
            · rfl
            · rfl
            · omega
          · rw [hu]; simp [DataW.weights]
        exact ⟨(p.data.toList, k.data.toList, s.data.toList), fun _ => ⟨⟨c0, c1, c2⟩, part 0 _ _ (by rw [List.getElem?_map, g0]; rfl) (by decide) (by rw [z0]), part 1 _ _ (by rw [List.getElem?_map, g1]; rfl) (by decide) (by rw [z1]), part 2 _ _ (by rw [List.getElem?_map, g2]; rfl) (by decide) (by rw [z2])⟩⟩
      · exact ⟨([], [], []), fun h => absurd h hlt⟩
    refine ⟨(List.range len).map fun i => Classical.choose (key i), by simp, ⟨some ad, cap, by simp, by simpa using hl, hm, fun hne => ?_⟩, fun y hy => ?_⟩
    · have hpos : 0 < len := by
        rcases Nat.eq_zero_or_pos len with h | h
        · subst h; simp at hne
        · exact h
      obtain ⟨b, off, spot⟩ := ad
      have hs : spot = none := by
        have := (Classical.choose_spec (key 0) hpos).1.1
        simpa [Addr.add] using World.cell?_spot this
      subst hs
      refine ⟨b, off, rfl, fun i y hx j u hu => ?_⟩
      have hlt : i < len := by have := (List.getElem?_eq_some_iff.1 hx).1; simpa using this
      have he : Classical.choose (key i) = y := by
        rw [List.getElem?_map, List.getElem?_range hlt] at hx
        simpa using hx
      obtain ⟨⟨h0, h1, h2⟩, _⟩ := Classical.choose_spec (key i) hlt
      rw [he] at h0 h1 h2
      rw [addr_add] at h0 h1 h2
      rcases j with _ | _ | _ | j
      · cases hu; exact h0
      · cases hu; exact h1
      · cases hu; exact h2
      · simp at hu
    · obtain ⟨i, hi', rfl⟩ := List.mem_map.1 hy
      exact (Classical.choose_spec (key i) (List.mem_range.1 hi')).2
end Go.Proofs.YtnmhaipjfpongaaGreatDoor

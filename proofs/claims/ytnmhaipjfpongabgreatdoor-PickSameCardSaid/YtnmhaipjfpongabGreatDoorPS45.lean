/- Texts of this seat laid together for one claim: O2, O3, O5. No condition of its own: what each proves stands with its theorems. -/
import Derived.Test.YtnmhaipjfpongabGreatDoorPS0
import Derived.Test.YtnmhaipjfpongabGreatDoorPS19
import Derived.Test.YtnmhaipjfpongabGreatDoorPS9
import Derived.DataShut
import Derived.Test.YtnmhaipjfpongabGreatDoorPS43
namespace Go.Proofs.YtnmhaipjfpongabGreatDoor
open Go.ChangeShapes Go.WideShapes Go.ChangeAt Go.RowKit

theorem addr_addR (b off n : Nat) : (⟨b, off, none⟩ : Addr).add n = ⟨b, off + n, none⟩ := by
 unfold Addr.add
 split
 ·subst_vars; rfl
 ·rfl

theorem texts_trod {H : Type} {enc : TypeId × Value → H} {w : World} {base : Nat} {spare : Nat → Bool} {held : Bool} {fuel : Nat} {v : Value} {x : DataW H × List MemPlace}
  (h : DataW.trod enc Tryz.prog w base spare held fuel 24 [v] = some x) : ∃ l : List B, Rd S w v l := by
 obtain ⟨d, ps⟩ := x
 rcases open_strings Tryz.underlying24 Tryz.underlying9 (by kernel_rfl) h with ⟨h0, _⟩ | ⟨ad, len, cap, ss, h0, _, hl, hm, hss, _, hc, _⟩
 ·cases h0
  exact ⟨[], Rd.nil _ _⟩
 ·cases h0
  have hle : len ≤ ss.length := by rw [hss]; split <;> omega
  refine ⟨(ss.take len).map (·.data.toList), some ad, cap, by simp [Nat.min_eq_left hle], by simpa [Nat.min_eq_left hle] using hl, hm, fun hne => ?_⟩
  have hpos : 0 < ss.length := by
   rcases Nat.eq_zero_or_pos ss.length with h | h
   ·exact absurd (by simp [List.length_eq_zero_iff.1 h]) hne
   ·exact h
  obtain ⟨b, off, spot⟩ := ad
  have h00 := hc 0 hpos
  have hs : spot = none := by simpa [Addr.add] using World.cell?_spot h00
  subst hs
  refine ⟨b, off, rfl, fun i x hx => ?_⟩
  rw [List.getElem?_map] at hx
  obtain ⟨y, hy, rfl⟩ := Option.map_eq_some_iff.1 hx
  have hi : i < len := by have := (List.getElem?_eq_some_iff.1 hy).1; simp at this; omega
  rw [List.getElem?_take_of_lt hi] at hy
  have := hc i (by omega)
  rw [addr_addR, List.getD_eq_getElem?_getD, hy] at this
  simpa using this

theorem cellsRule : Tryz.prog.cellsOf 62 = 4 := by kernel_rfl

theorem open_rules {H : Type} {enc : TypeId × Value → H} {w : World} {base : Nat} {spare : Nat → Bool} {held : Bool} {fuel : Nat} {a : Option Addr} {len cap : Nat} {x : DataW H × List MemPlace}
  (h : DataW.trod enc Tryz.prog w base spare held fuel 23 [.slice a len cap] = some x) (_hr : ∀ n ∈ x.1.weights Tryz.prog 23, n ≤ 140737488351232) :
  ∃ l : List Rule, l.length = len ∧ RdR w (.slice a len cap) l ∧ True := by
 rcases open_slice_fields Tryz.underlying23 Tryz.underlying62 (by kernel_rfl) cellsRule h with ⟨h0, _⟩ | ⟨ad, len', cap', m, D, Pl, hcs, _, hl, hm, hmm, hxx, hi⟩
 ·cases h0
  exact ⟨[], rfl, RdR.nil _, trivial⟩
 ·cases hcs
  have key : ∀ i, ∃ y : Rule × Value, i < len → (w.cell? (ad.add (i * 4)) = some (S y.1.out) ∧ w.cell? (ad.add (i * 4 + 1)) = some (S y.1.kind) ∧ w.cell? (ad.add (i * 4 + 2)) = some (S y.1.word) ∧ w.cell? (ad.add (i * 4 + 3)) = some y.2) ∧ Rd S w y.2 y.1.ins := by
   intro i
   by_cases hlt : i < len
   ·have him : i < m := by rw [hmm]; split <;> omega
    obtain ⟨ys, n, hD, _, hyl, hf⟩ := hi i him
    obtain ⟨v0, y0, c0, g0, t0⟩ := hf 0 _ rfl
    obtain ⟨v1, y1, c1, g1, t1⟩ := hf 1 _ rfl
    obtain ⟨v2, y2, c2, g2, t2⟩ := hf 2 _ rfl
    obtain ⟨v3, y3, c3, g3, t3⟩ := hf 3 _ rfl
    obtain ⟨p, e0, z0, _⟩ := DataW.trod_string Tryz.underlying9 t0
    obtain ⟨k, e1, z1, _⟩ := DataW.trod_string Tryz.underlying9 t1
    obtain ⟨s, e2, z2, _⟩ := DataW.trod_string Tryz.underlying9 t2
    obtain ⟨q, hq⟩ := texts_trod t3
    cases e0; cases e1; cases e2
    exact ⟨(⟨p.data.toList, k.data.toList, s.data.toList, q⟩, v3), fun _ => ⟨⟨c0, c1, c2, c3⟩, hq⟩⟩
   ·exact ⟨(⟨[], [], [], []⟩, .nilIface), fun h => absurd h hlt⟩
  refine ⟨(List.range len).map fun i => (Classical.choose (key i)).1, by simp, ⟨some ad, cap, by simp, by simpa using hl, hm, fun hne => ?_⟩, trivial⟩
  have hpos : 0 < len := by
   rcases Nat.eq_zero_or_pos len with h | h
   ·subst h; simp at hne
   ·exact h
  obtain ⟨b, off, spot⟩ := ad
  have hs : spot = none := by
   have := (Classical.choose_spec (key 0) hpos).1.1
   simpa [Addr.add] using World.cell?_spot this
  subst hs
  refine ⟨b, off, rfl, fun i r hx => ?_⟩
  have hlt : i < len := by have := (List.getElem?_eq_some_iff.1 hx).1; simpa using this
  have he : (Classical.choose (key i)).1 = r := by
   rw [List.getElem?_map, List.getElem?_range hlt] at hx
   simpa using hx
  obtain ⟨⟨h0, h1, h2, h3⟩, h4⟩ := Classical.choose_spec (key i) hlt
  subst he
  have e := fun n => congrArg w.cell? (addr_addR b off n)
  exact ⟨_, h4, (e _).symm.trans h0, (e _).symm.trans h1, (e _).symm.trans h2, (e _).symm.trans h3⟩
end Go.Proofs.YtnmhaipjfpongabGreatDoor

namespace Go.Proofs.YtnmhaipjfpongabGreatDoor
open Go.ChangeShapes Go.WideShapes Go.ChangeAt Go.RowKit

theorem cellsFile : Tryz.prog.cellsOf 78 = 2 := by kernel_rfl

theorem open_files {H : Type} {enc : TypeId × Value → H} {w : World} {base : Nat} {spare : Nat → Bool} {held : Bool} {fuel : Nat} {a : Option Addr} {len cap : Nat} {x : DataW H × List MemPlace}
  (h : DataW.trod enc Tryz.prog w base spare held fuel 22 [.slice a len cap] = some x) (_hr : ∀ n ∈ x.1.weights Tryz.prog 22, n ≤ 140737488351232) :
  ∃ l : List (B × B), l.length = len ∧ RdS 2 encF w (.slice a len cap) l ∧ True := by
 rcases open_slice_fields Tryz.underlying22 Tryz.underlying78 (by kernel_rfl) cellsFile h with ⟨h0, _⟩ | ⟨ad, len', cap', m, D, Pl, hcs, _, hl, hm, hmm, hxx, hi⟩
 ·cases h0
  exact ⟨[], rfl, RdS.nil _ _ _, trivial⟩
 ·cases hcs
  have key : ∀ i, ∃ y : B × B, i < len → w.cell? (ad.add (i * 2)) = some (S y.1) ∧ w.cell? (ad.add (i * 2 + 1)) = some (S y.2) := by
   intro i
   by_cases hlt : i < len
   ·have him : i < m := by rw [hmm]; split <;> omega
    obtain ⟨ys, n, hD, _, hyl, hf⟩ := hi i him
    obtain ⟨v0, y0, c0, g0, t0⟩ := hf 0 _ rfl
    obtain ⟨v1, y1, c1, g1, t1⟩ := hf 1 _ rfl
    obtain ⟨p, e0, z0, _⟩ := DataW.trod_string Tryz.underlying9 t0
    obtain ⟨k, e1, z1, _⟩ := DataW.trod_string Tryz.underlying9 t1
    cases e0; cases e1
    exact ⟨(p.data.toList, k.data.toList), fun _ => ⟨c0, c1⟩⟩
   ·exact ⟨([], []), fun h => absurd h hlt⟩
  refine ⟨(List.range len).map fun i => Classical.choose (key i), by simp, ⟨some ad, cap, by simp, by simpa using hl, hm, fun hne => ?_⟩, trivial⟩
  have hpos : 0 < len := by
   rcases Nat.eq_zero_or_pos len with h | h
   ·subst h; simp at hne
   ·exact h
  obtain ⟨b, off, spot⟩ := ad
  have hs : spot = none := by
   have := (Classical.choose_spec (key 0) hpos).1
   simpa [Addr.add] using World.cell?_spot this
  subst hs
  refine ⟨b, off, rfl, fun i y hx j u hu => ?_⟩
  have hlt : i < len := by have := (List.getElem?_eq_some_iff.1 hx).1; simpa using this
  have he : Classical.choose (key i) = y := by
   rw [List.getElem?_map, List.getElem?_range hlt] at hx
   simpa using hx
  obtain ⟨h0, h1⟩ := Classical.choose_spec (key i) hlt
  rw [he] at h0 h1
  rw [addr_addR] at h0 h1
  rcases j with _ | _ | j
  ·cases hu; exact h0
  ·cases hu; exact h1
  ·simp at hu
end Go.Proofs.YtnmhaipjfpongabGreatDoor

namespace Go.Proofs.YtnmhaipjfpongabGreatDoor
open Go.ChangeShapes Go.WideShapes Go.ChangeAt Go.RowKit

theorem open_nums64 {H : Type} {enc : TypeId × Value → H} {w : World} {base : Nat} {spare : Nat → Bool} {held : Bool} {fuel : Nat} {a : Option Addr} {len cap : Nat} {x : DataW H × List MemPlace}
  (h : DataW.trod enc Tryz.prog w base spare held fuel 63 [.slice a len cap] = some x) (_hr : ∀ n ∈ x.1.weights Tryz.prog 63, n ≤ 140737488351232) :
  ∃ l : List Int, l.length = len ∧ Rd I w (.slice a len cap) l ∧ ∀ p ∈ l, In64 p := by
 rcases Go.ChangeShapes.open_ints Tryz.underlying63 Tryz.underlying3 (by kernel_rfl) h with ⟨h0, _⟩ | ⟨ad, len', cap', zs, hcs, _, hl, hm, hzl, _, hcell, hwf⟩
 ·cases h0
  exact ⟨[], rfl, Rd.nil _ _, fun p hp => (by cases hp)⟩
 ·cases hcs
  have hzn : len ≤ zs.length := by rw [hzl]; split <;> omega
  have hlen : (zs.take len).length = len := by rw [List.length_take]; omega
  refine ⟨zs.take len, hlen, ⟨some ad, cap, by rw [hlen], by rw [hlen]; exact hl, hm, fun hne => ?_⟩, fun p hp => (Lit.wf_int_iff .i64 p).1 (hwf p (List.mem_of_mem_take hp))⟩
  have hpos : 0 < len := by
   rcases Nat.eq_zero_or_pos len with h | h
   ·subst h; simp at hne
   ·exact h
  obtain ⟨b, off, spot⟩ := ad
  have hs : spot = none := by
   have := hcell 0 (by omega)
   simpa [Addr.add] using World.cell?_spot this
  subst hs
  refine ⟨b, off, rfl, fun i y hx => ?_⟩
  have hlt : i < len := by have := (List.getElem?_eq_some_iff.1 hx).1; omega
  have h1 := hcell i (by omega)
  have he : zs.getD i 0 = y := by
   rw [List.getElem?_take_of_lt hlt] at hx
   rw [List.getD_eq_getElem?_getD, hx]
   rfl
  rw [he] at h1
  rw [addr_addR] at h1
  exact h1
end Go.Proofs.YtnmhaipjfpongabGreatDoor

/- Package tree: Paths. No condition but that the tree is one, and how much it holds. -/
import Derived.Test.YtnmhaipjfpongaaGreatDoorV3
import Derived.Test.YtnmhaipjfpongaaGreatDoorSh3
namespace Go.Proofs.YtnmhaipjfpongaaGreatDoor
open Go.ChangeShapes Go.WideShapes Go.ChangeAt Go.RowKit

abbrev unitR : Value → Option (DataW Unit × List MemPlace) := fun _ => some (.nil, [])
def keyStr : Value → B
  | .string s => s.data.toList
  | _ => []

theorem perm_insert {H : Type} (x : Lit × DataW H) : ∀ l, (DataW.insert x l).Perm (x :: l)
  | [] => List.Perm.refl _
  | y :: r => by
    unfold DataW.insert
    split
    · exact List.Perm.refl _
    · exact ((perm_insert x r).cons y).trans (List.Perm.swap _ _ _)

theorem perm_inserts {H : Type} : ∀ l : List (Lit × DataW H), (l.foldr DataW.insert []).Perm l
  | [] => List.Perm.refl _
  | x :: r => (perm_insert x _).trans ((perm_inserts r).cons x)

/-- The kit's word for a map of strings, from mine. -/
theorem ownsMap_of {P : Program} {k : TypeId} (hk : P.underlying k = some .string) {w : World} {mb : Nat} {L : FL} (h : KMap .string S S w mb L) (hl : ∀ q ∈ L, q.1.length ≤ 1000000) (hn : L.length ≤ 1000000) :
    ∃ D0 : DataW Unit, w.ownsMap P k unitR mb L.length D0 ∧ Maps.size D0 = L.length ∧ (strKeys D0).Perm (L.map (·.1)) := by
  obtain ⟨es, clock, hb, hp, _, _, hst⟩ := h
  have hsz : es.size = L.length := by simpa using hp.length_eq
  have hkey : ∀ e ∈ es.toList, ∃ x : B, e.key = S x ∧ x.length ≤ 1000000 := fun e he => by
    have := hp.mem_iff.1 (List.mem_map.2 ⟨e, he, rfl⟩)
    obtain ⟨q, hq, e1⟩ := List.mem_map.1 this
    exact ⟨q.1, (Prod.mk.inj e1).1.symm, hl q hq⟩
  have hrd : ∀ e ∈ es.toList, WideElems.rd P k unitR e = some (.string (keyStr e.key), .nil) := fun e he => by
    obtain ⟨x, hx, hxl⟩ := hkey e he
    have hm : (⟨x.toArray⟩ : ByteArray).size ≤ maxLen := by
      show x.toArray.size ≤ maxLen
      rw [List.size_toArray]
      unfold maxLen
      omega
    unfold WideElems.rd
    rw [hx]
    simp [keyOf, hk, mapKey, keyStr, hm]
  have hrg : es.toList.map (WideElems.rg P k unitR) = es.toList.map fun e => ((.string (keyStr e.key), .nil) : Lit × DataW Unit) :=
    List.map_congr_left fun e he => by unfold WideElems.rg; rw [hrd e he]; rfl
  refine ⟨.map ((es.toList.map (WideElems.rg P k unitR)).foldr DataW.insert []), ⟨es, clock, hb, ⟨?_, hst, fun e he => ⟨_, hrd e he⟩⟩, by omega, rfl⟩, ?_, ?_⟩
  · unfold maxLen; omega
  · show (List.foldr DataW.insert [] _).length = _
    rw [(perm_inserts _).length_eq]
    simpa using hsz
  · show (List.map _ (List.foldr DataW.insert [] _)).Perm _
    refine ((perm_inserts _).map _).trans ?_
    rw [hrg, List.map_map]
    have h1 := hp.map (fun q : Value × Value => keyStr q.1)
    rw [List.map_map, List.map_map] at h1
    have e2 : ((fun q : Value × Value => keyStr q.1) ∘ fun p : B × B => (S p.1, S p.2)) = (·.1) := by
      funext q
      simp [keyStr]
    rw [e2] at h1
    exact h1

theorem sortedKeys_any (w : World) (mb : Nat) (L : FL) (h : KMap .string S S w mb L) (hr : Rising L) (hl : ∀ q ∈ L, q.1.length ≤ 1000000) (hn : L.length ≤ 1000000) :
    Calls Tryz.prog 59 #[.func (.func 89) #[] #[.pointer (some ⟨w.heap.size, 0, none⟩)]] (w.alloc (.cells #[.map (some mb)] 88)) fun e w' =>
      ∃ v, e = .returned v ∧ Rd S w' v (L.map (·.1)) ∧ Ext w w' ∧ ∀ k, v.ownBlock = some k → ∃ cur, w'.heap[k]? = some (.cells cur 9 (0, 0)) := by
  obtain ⟨D0, hown, hsz, hperm⟩ := ownsMap_of (P := Tryz.prog) (k := 9) Tryz.underlying9 h hl hn
  have := Tryz.slices_Sorted_keys_59_60 mb _ D0 _ w hown (by rw [hsz]; unfold maxLen; omega) (by rw [hsz]; omega)
  refine (callsIn_wide.1 this).mono ?_
  rintro e w' ⟨v, ss, rfl, hss, hrow, _, hbel⟩
  have e1 := sorted_keys hr (hss.trans hperm)
  rw [e1] at hrow
  have e2 : ss.length = (L.map (·.1)).length := by rw [(hss.trans hperm).length_eq]
  rw [e2] at hrow
  refine ⟨v, rfl, Rd.of_row hrow, (Only.alloc _ _ _).then (Only.of_below hbel), fun k hk => ?_⟩
  rcases hrow.2 with ⟨rfl, _⟩ | ⟨g, cap, cur, rfl, _, hh, _⟩
  · cases hk
  · cases hk
    exact ⟨cur, hh⟩

theorem paths_any (w : World) (b mb : Nat) (L : FL) (h : TreeAt w b mb L) (hr : Rising L) (hl : ∀ q ∈ L, q.1.length ≤ 1000000) (hn : L.length ≤ 1000000) :
    Calls Tryz.prog 28 #[.pointer (some ⟨b, 0, none⟩)] w fun e w' => ∃ v, e = .returned v ∧ Rd S w' v (L.map (·.1)) ∧ Ext w w' ∧ ∀ k, v.ownBlock = some k → ∃ cur, w'.heap[k]? = some (.cells cur 9 (0, 0)) := by
  have c0 := h.mapCell
  have H1 := Lib.hid (callsIn_wide.1 (Tryz.maps_Keys_60 (some mb) w))
  have H2 := Lib.hid (sortedKeys_any w mb L h.map hr hl hn)
  clear h hr hl hn
  go_enter Tryz.func28, Tryz.ntmps28
  go_wp2_with (go_at_call 60; refine H1.out.mono ?_; rintro e w1 ⟨rfl, rfl⟩)
  go_wp2_with (go_at_call 59; refine H2.out.mono ?_; rintro e w1 ⟨v, rfl, hv, ho, ht⟩)
  go_ret
  exact ⟨v, rfl, hv, ho, ht⟩
end Go.Proofs.YtnmhaipjfpongaaGreatDoor

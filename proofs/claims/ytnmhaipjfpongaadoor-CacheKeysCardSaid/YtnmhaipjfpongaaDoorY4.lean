/- CacheKeys, whole: for every input the law returns true and its arguments read as before. Beyond the row's own: no condition; the row lists package-level variables, the card ties them. -/
import Derived.Test.YtnmhaipjfpongaaDoorY3
import Derived.Test.YtnmhaipjfpongaaDoorCards
import Derived.Test.YtnmhaipjfpongaaDoorTie
import Derived.SliceStrings
import Derived.ChangeMaps5
import Derived.Lib.LaidTab
import Derived.Stop.LaidErr
import Derived.LaidMore
import Derived.OpenShut
import Derived.Stop.Joined
import Derived.SevenTiedAt
namespace Go.Proofs.YtnmhaipjfpongaaDoor.cacheKeysDone
open Go.ChangeShapes Go.WideShapes Go.ChangeAt Go.RowKit

theorem own : ownKnob Tryd.prog.godebug = none := by kernel_rfl
theorem laidOut : laidOutB Tryd.prog = true := by kernel_rfl

set_option maxRecDepth 100000 in
theorem open_text {H : Type} {enc : TypeId × Value → H} {w : World} {sp : Nat → Bool} {held : Bool} {base b0 : Nat} {r : Reach} {v : Value} {d : DataW H} {ps : List MemPlace} (hd : DataW.Trod enc Tryd.prog w base sp held 9 v d ps) (hval : Value.okWide Tryd.prog w r b0 9 v) : ∃ s : B, v = S s := by
  obtain ⟨s, rfl, _, _, _⟩ := Go.ChangeMaps.open_string Tryd.underlying9 hval hd
  exact ⟨s.data.toList, by simp⟩

set_option maxRecDepth 100000 in
theorem open_texts {H : Type} {enc : TypeId × Value → H} {w : World} {sp : Nat → Bool} {held : Bool} {base b0 : Nat} {r : Reach} {v : Value} {d : DataW H} {ps : List MemPlace} (hd : DataW.Trod enc Tryd.prog w base sp held 29 v d ps) (hval : Value.okWide Tryd.prog w r b0 29 v) : ∃ l : List B, Rd S w v l := by
  obtain ⟨a, len, cap, rfl⟩ := okWide_slice Tryd.underlying29 hval
  obtain ⟨fuel, hf⟩ := hd
  have hf' : DataW.trod enc Tryd.prog w base sp held fuel 29 [.slice a len cap] = some (d, ps) := by simpa [Value.cells] using hf
  rcases open_strings Tryd.underlying29 Tryd.underlying9 (by kernel_rfl) hf' with ⟨h0, _⟩ | ⟨ad, len', cap', ss, h0, _, hl, hm, hss, _, hc, _⟩
  · cases h0
    exact ⟨[], Rd.nil _ _⟩
  · cases h0
    have hle : len ≤ ss.length := by rw [hss]; split <;> omega
    refine ⟨(ss.take len).map (·.data.toList), some ad, cap, by simp [Nat.min_eq_left hle], by simpa [Nat.min_eq_left hle] using hl, hm, fun hne => ?_⟩
    have hpos : 0 < ss.length := by
      rcases Nat.eq_zero_or_pos ss.length with h | h
      · exact absurd (by simp [List.length_eq_zero_iff.1 h]) hne
      · exact h
    obtain ⟨b, off, spot⟩ := ad
    have h00 := hc 0 hpos
    have hs : spot = none := by simpa [Addr.add] using World.cell?_spot h00
    subst hs
    refine ⟨b, off, rfl, fun i x hx => ?_⟩
    rw [List.getElem?_map] at hx
    obtain ⟨y, hy, rfl⟩ := Option.map_eq_some_iff.1 hx
    have hi : i < len := by have := (List.getElem?_eq_some_iff.1 hy).1; simp at this; omega
    rw [List.getElem?_take_of_lt hi] at hy
    have := hc i (by omega)
    have ea : (⟨b, off, none⟩ : Addr).add i = ⟨b, off + i, none⟩ := by
      unfold Addr.add
      split
      · subst_vars; rfl
      · rfl
    rw [ea, List.getD_eq_getElem?_getD, hy] at this
    simpa using this

theorem pow_of {W : World} (h : laidMetH Tryd.prog Rows.cacheKeysRow.laid W) : Pow W := by
  have h' : laidMet Tryd.prog Rows.cacheKeysRow.laid W := h
  have h2 := h'.tail.tail
  exact Lib.tabIs_of_head (g := 16) (by kernel_rfl) (by kernel_rfl) Tryd.underlying163 Tryd.underlying150 (by kernel_rfl) (by kernel_rfl) h2

set_option maxHeartbeats 1000000 in
theorem walkLong (w : World) (kind word other second : B) (v1 v2 : Value) (h : 100 < kind.length ∨ 100 < word.length ∨ 100 < other.length ∨ 100 < second.length) :
    Calls Tryd.prog 6 #[S kind, S word, v1, S other, S second, v2] w fun e w' => e = .returned (.bool true) ∧ Ext w w' := by
  by_cases h1 : 100 < (kind.length : Int)
  · clear h
    go_enter Tryd.func6, Tryd.ntmps6
    go_wp2_with (go_at_call 11; refine (cached_any w).mono ?_; rintro e w1 ⟨rfl, hw1⟩)
    go_ret
    exact ⟨rfl, hw1⟩
  by_cases h2 : 100 < (word.length : Int)
  · clear h
    go_enter Tryd.func6, Tryd.ntmps6
    go_wp2_with (go_at_call 11; refine (cached_any w).mono ?_; rintro e w1 ⟨rfl, hw1⟩)
    go_ret
    exact ⟨rfl, hw1⟩
  by_cases h3 : 100 < (other.length : Int)
  · clear h
    go_enter Tryd.func6, Tryd.ntmps6
    go_wp2_with (go_at_call 11; refine (cached_any w).mono ?_; rintro e w1 ⟨rfl, hw1⟩)
    go_ret
    exact ⟨rfl, hw1⟩
  have h4 : 100 < (second.length : Int) := by omega
  clear h
  go_enter Tryd.func6, Tryd.ntmps6
  go_wp2_with (go_at_call 11; refine (cached_any w).mono ?_; rintro e w1 ⟨rfl, hw1⟩)
  go_ret
  exact ⟨rfl, hw1⟩

end Go.Proofs.YtnmhaipjfpongaaDoor.cacheKeysDone

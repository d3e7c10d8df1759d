/- The closed fact of chapter 6, and the place of a text in a list. No condition. -/
import Derived.Test.YtnmhaipjfpongaaDoorC4
namespace Go.Proofs.YtnmhaipjfpongaaDoor
open Go.ChangeShapes Go.WideShapes Go.ChangeAt Go.RowKit

theorem Only.new {a b c : World} {p : Nat → Prop} (h : Ext a b) (k : Only p b c) (hp : ∀ i, p i → a.heap.size ≤ i) : Ext a c :=
  h.trans k (fun _ _ h => h) fun i hi h => absurd (hp i h) (by omega)

theorem new_step {p q : Nat → Prop} {n m : Nat} (h : ∀ i, p i → n ≤ i) (k : ∀ i, q i → p i ∨ m ≤ i) (hm : n ≤ m) : ∀ i, q i → n ≤ i := fun i hi => by
  rcases k i hi with h' | h'
  · exact h i h'
  · omega

set_option maxHeartbeats 1000000 in
theorem cached_any (w : World) : Calls Tryd.prog 11 #[] w fun e w' => e = .returned (.bool true) ∧ Ext w w' := by
  have hnew : Calls Tryd.prog 12 #[.int .i64 1] w _ := cacheNew_any 1 w (by omega) (by omega)
  have HN := Lib.hid hnew
  clear hnew
  go_enter Tryd.func11, Tryd.ntmps11
  go_wp2_with fail
  refine HN.out.mono ?_
  rintro e w1 ⟨rfl, hc, ho, hs⟩
  have H1 := Lib.hid hc
  have O1 := Lib.hid ho
  have S1 := Lib.hid hs
  clear hc ho hs
  go_wp2_with fail
  refine (put_any w1 _ _ _ 1 [] [97] [120] H1.out (by simp)).mono ?_
  rintro e w2 ⟨sv2, rfl, hc, ho, hn⟩
  have H2 := Lib.hid hc
  have O2 := Lib.hid ho
  have N2 := Lib.hid hn
  clear hc ho hn
  go_wp2_with fail
  refine (put_any w2 _ _ _ 1 _ [98] [121] H2.out (by decide)).mono ?_
  rintro e w3 ⟨sv3, rfl, hc, ho, hn⟩
  have e3 : putL 1 (putL 1 [] [97] [120]) [98] [121] = [([98], [121])] := by decide
  rw [e3] at hc
  have H3 := Lib.hid hc
  have O3 := Lib.hid ho
  have N3 := Lib.hid hn
  clear hc ho hn e3
  go_wp2_with fail
  refine (get_any w3 _ _ _ 1 _ [97] H3.out (by decide)).mono ?_
  rintro e w4 ⟨sv4, rfl, hc, ho, hn⟩
  have e4 : getL [([98], [121])] [97] = [([98], [121])] := by decide
  have e5 : List.lookup ([97] : B) [(([98] : B), ([121] : B))] = none := by decide
  rw [e4] at hc
  rw [e5]
  have H4 := Lib.hid hc
  have O4 := Lib.hid ho
  have N4 := Lib.hid hn
  clear hc ho hn e4 e5
  go_wp2_with fail
  refine (get_any w4 _ _ _ 1 _ [98] H4.out (by decide)).mono ?_
  rintro e w5 ⟨sv5, rfl, hc, ho, hn⟩
  have e4 : getL [([98], [121])] [98] = [([98], [121])] := by decide
  have e5 : List.lookup ([98] : B) [(([98] : B), ([121] : B))] = some [121] := by decide
  rw [e4] at hc
  rw [e5]
  have H5 := Lib.hid hc
  have O5 := Lib.hid ho
  have N5 := Lib.hid hn
  clear hc ho hn e4 e5
  go_wp2_with (go_at_call 15; refine (len_any w5 _ _ _ _ _ H5.out).mono ?_; rintro e w6 ⟨rfl, rfl⟩)
  go_ret
  refine ⟨rfl, ?_⟩
  have A1 : ∀ i, InCache (w.heap.size + 1) w.heap.size (.slice none 0 0) i → w.heap.size ≤ i := by
    rintro i (rfl | rfl | e)
    · omega
    · omega
    · cases e
  have A2 := new_step A1 N2.out (by have := O1.out.size; omega)
  have A3 := new_step A2 N3.out (by have := O1.out.size; have := O2.out.size; omega)
  have A4 := new_step A3 N4.out (by have := O1.out.size; have := O2.out.size; have := O3.out.size; omega)
  exact (((O1.out.new O2.out A1).new O3.out A2).new O4.out A3).new O5.out A4

theorem idx_before (s : B) : ∀ (l : List B) (j : Nat), j < l.idxOf s → ¬ l.getD j [] = s := by
  intro l
  induction l with
  | nil => intro j hj; simp at hj
  | cons x l ih =>
    intro j hj
    by_cases h : x = s
    · subst h; simp at hj
    · have e : List.idxOf s (x :: l) = l.idxOf s + 1 := by rw [List.idxOf_cons, beq_eq_false_iff_ne.2 h]; rfl
      rw [e] at hj
      cases j with
      | zero => simpa using h
      | succ j => simpa using ih j (by omega)

theorem idx_at (l : List B) (s : B) (h : l.idxOf s < l.length) : l.getD (l.idxOf s) [] = s := by
  rw [List.getD_eq_getElem?_getD, List.getElem?_eq_getElem h]
  exact List.getElem_idxOf h

set_option maxHeartbeats 400000 in
theorem index_any (w : World) (v : Value) (l : List B) (s : B) (hv : Rd S w v l) :
    Calls Tryd.prog 16 #[v, S s] w fun e w' => e = .returned (I (if l.idxOf s < l.length then (l.idxOf s : Int) else -1)) ∧ w = w' := by
  obtain ⟨a, cap, rfl, hcap, hm, hc⟩ := hv
  have hm' : l.length ≤ 9223372036854775807 := by unfold maxLen at hm; omega
  clear hm
  have hle : l.idxOf s ≤ l.length := List.idxOf_le_length
  obtain ⟨n, hn⟩ : ∃ n, n = l.idxOf s := ⟨_, rfl⟩
  have h1 := Lib.hid (idx_before s l)
  have h2 := Lib.hid (idx_at l s)
  rw [← hn] at h1 h2 hle ⊢
  clear hn
  go_enter Tryd.func16, Tryd.ntmps16
  go_wp2
  go_loop [5] (fun i => ∃ k : Nat, k ≤ n ∧ i = .int .i64 k) (fun i => n + 1 - (intOf i).toNat)
  case atStart => exact ⟨0, Nat.zero_le _, rfl⟩
  case round =>
    obtain ⟨k, hk, rfl⟩ := hrel
    by_cases hlt : k < l.length
    · obtain ⟨b, off, rfl, hcell⟩ := hc (by intro h; rw [h] at hlt; simp at hlt)
      have hcl := hcell k _ (getElem?_getD [] hlt)
      clear hcell hc
      by_cases hkn : k < n
      · have hne := h1.out k hkn
        generalize l.getD k [] = x at *
        have hb : (x == s) = false := beq_eq_false_iff_ne.2 hne
        clear hne
        go_wp2
        go_round
        case rel => exact ⟨k + 1, by omega, by go_num⟩
        case measure => simp [intOf]; omega
      · have hkn : k = n := by omega
        subst hkn
        rw [h2.out hlt] at hcl
        go_wp2
        go_ret
        exact ⟨rfl, rfl⟩
    · clear hc
      have : k = n := by omega
      subst this
      go_wp2
      go_ret
      exact ⟨rfl, rfl⟩
end Go.Proofs.YtnmhaipjfpongaaDoor

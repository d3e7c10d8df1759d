/- coded, SameInts, SameTexts and errors.New by their contracts. No condition but how the lists lie. -/
import Derived.Test.YtnmhaipjfpongaaGreatDoorE3
import Derived.Deep.LoopGhost
import Derived.WalkLawsBesides
import Derived.WalkSpells
namespace Go.Proofs.YtnmhaipjfpongaaGreatDoor
open Go.ChangeShapes Go.WideShapes Go.ChangeAt Go.RowKit

set_option maxHeartbeats 400000 in
theorem coded1_any (w : World) (v : Value) (c at_ d : Int) (h : Calls Tryz.prog 42 #[v] w (CodeIs w c at_)) :
    Calls Tryz.prog 16 #[v, I d] w fun e w' => e = .returned (.bool (c == d && at_ == -1)) ∧ Ext w w' := by
  have H := Lib.hid h
  clear h
  cases h1 : (c == d) with
  | false =>
    go_enter Tryz.func16, Tryz.ntmps16
    go_wp2_with (go_at_call 42; refine H.out.mono ?_; rintro e w1 ⟨rfl, ho⟩)
    go_ret
    exact ⟨rfl, ho⟩
  | true =>
    cases h2 : (at_ == -1)
    all_goals
      go_enter Tryz.func16, Tryz.ntmps16
      go_wp2_with (go_at_call 42; refine H.out.mono ?_; rintro e w1 ⟨rfl, ho⟩)
      go_ret
      exact ⟨rfl, ho⟩


theorem errorsNew_any (w : World) (s : B) : Calls Tryz.prog 300 #[S s] w fun e w' => e = .returned (errV ⟨w.heap.size, 0, none⟩) ∧ w' = w.alloc (.cells #[S s] 386 (0, 0)) := by
  go_enter Tryz.func300, Tryz.ntmps300
  go_wp2
  go_ret
  exact ⟨rfl, rfl⟩

theorem getElem?_getD' {α : Type} {l : List α} {i : Nat} (d : α) (h : i < l.length) : l[i]? = some (l.getD i d) := by
  rw [List.getD_eq_getElem?_getD, List.getElem?_eq_getElem h]; rfl

/-- The world but for draws. -/
def Drawn (w w' : World) : Prop := ∃ n, w' = w.drewN n
theorem Drawn.ext {w w' : World} (h : Drawn w w') : Ext w w' := by obtain ⟨n, rfl⟩ := h; exact Only.drewN _ _ _
theorem Drawn.refl (w : World) : Drawn w w := ⟨0, rfl⟩
theorem Drawn.more {w w' : World} (h : Drawn w w') (n : Nat) : Drawn w (w'.drewN n) := by obtain ⟨m, rfl⟩ := h; exact ⟨m + n, by simp [World.drewN, Nat.add_assoc]⟩

theorem beq_take {α : Type} [BEq α] [LawfulBEq α] (d : α) (a b : List α) (hl : a.length = b.length) (h : ∀ j, j < a.length → a.getD j d = b.getD j d) : a = b := by
  apply List.ext_getElem hl
  intro i h1 h2
  have := h i h1
  rw [List.getD_eq_getElem?_getD, List.getD_eq_getElem?_getD, List.getElem?_eq_getElem h1, List.getElem?_eq_getElem h2] at this
  simpa using this

set_option maxHeartbeats 1000000 in
theorem sameTexts_any (w : World) (v1 v2 : Value) (a b : List B) (h1 : Rd S w v1 a) (h2 : Rd S w v2 b) :
    Calls Tryz.prog 23 #[v1, v2] w fun e w' => e = .returned (.bool (a == b)) ∧ Drawn w w' := by
  obtain ⟨a1, cap1, rfl, _, hm1, hc1⟩ := h1
  obtain ⟨a2, cap2, rfl, _, _, hc2⟩ := h2
  have hl1 : a.length ≤ 9223372036854775807 := by unfold maxLen at hm1; omega
  clear hm1
  have H1 := Lib.hid hc1
  have H2 := Lib.hid hc2
  clear hc1 hc2
  by_cases hl : a.length = b.length
  · obtain ⟨r, hr⟩ : ∃ r, Hid (r = (a == b)) := ⟨_, Lib.hid rfl⟩
    rw [← hr.out]
    have HL := Lib.hid hl
    have hne : ((a.length : Int) != (a.length : Int)) = false := by simp
    rw [← hl]
    clear hl
    go_enter Tryz.func23, Tryz.ntmps23
    go_wp2_with fail
    go_loopw [5] (fun i wr => ∃ k : Nat, k ≤ a.length ∧ i = .int .i64 k ∧ Drawn w wr ∧ Hid (∀ j, j < k → a.getD j [] = b.getD j [])) (fun i _ => a.length - (intOf i).toNat)
    case atStart => exact ⟨0, Nat.zero_le _, rfl, Drawn.refl _, fun j hj => absurd hj (Nat.not_lt_zero _)⟩
    case round =>
      obtain ⟨k, hk, rfl, hd, hp⟩ := hrel
      have HD := Lib.hid hd
      clear hd
      by_cases hlt : k < a.length
      · obtain ⟨b1, o1, rfl, d1⟩ := H1.out (by intro h; rw [h] at hlt; simp at hlt)
        obtain ⟨b2, o2, rfl, d2⟩ := H2.out (by intro h; have h2 := HL.out; rw [h] at h2; have h3 : a.length = 0 := h2; omega)
        have e1 := HD.out.ext.cellOf (d1 k _ (getElem?_getD' [] hlt)) (fun h => h)
        have e2 := HD.out.ext.cellOf (d2 k _ (getElem?_getD' [] (by have := HL.out; omega))) (fun h => h)
        clear d1 d2
        have hltz : (k : Int) < (a.length : Int) := by omega
        by_cases hq : a.getD k [] = b.getD k []
        · have HQ := Lib.hid hq
          rw [hq] at e1
          clear hq
          generalize b.getD k [] = x at e1 e2
          have hxx : (x != x) = false := by simp
          go_wp2_with fail
          go_quiet (fail)
          go_wp2
          go_roundw
          case rel => exact ⟨k + 1, by omega, by go_num, HD.out.more _, fun j hj => by
            rcases Nat.lt_succ_iff_lt_or_eq.1 hj with h | rfl
            · exact hp.out j h
            · exact HQ.out⟩
          case measure => simp [intOf]; omega
        · have hxx : (a.getD k [] == b.getD k []) = false := by simpa using hq
          have hF : (a == b) = false := beq_eq_false_iff_ne.2 fun e => hq (by rw [e])
          have HF := Lib.hid hF
          clear hF hq
          generalize a.getD k [] = x at e1 hxx
          generalize b.getD k [] = y at e2 hxx
          go_wp2_with fail
          go_quiet (fail)
          go_wp2
          go_ret
          exact ⟨by rw [hr.out, HF.out]; rfl, HD.out.more _⟩
      · have hT : (a == b) = true := by
          rw [beq_iff_eq]
          exact beq_take [] a b HL.out fun j hj => hp.out j (by omega)
        have HT := Lib.hid hT
        clear hT
        go_wp2_with fail
        go_ret
        exact ⟨by rw [hr.out, HT.out]; rfl, HD.out⟩
  · have hne : ((a.length : Int) != (b.length : Int)) = true := by rw [bne_iff_ne]; omega
    have hF : (a == b) = false := beq_eq_false_iff_ne.2 fun e => hl (by rw [e])
    rw [hF]
    go_enter Tryz.func23, Tryz.ntmps23
    go_wp2_with fail
    go_ret
    exact ⟨rfl, Drawn.refl _⟩
end Go.Proofs.YtnmhaipjfpongaaGreatDoor

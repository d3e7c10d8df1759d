/- Package path: star. No condition. -/
import Derived.Test.YtnmhaipjfpongaaGreatDoorQ5
namespace Go.Proofs.YtnmhaipjfpongaaGreatDoor
open Go.ChangeShapes Go.WideShapes Go.ChangeAt Go.RowKit
open Go.MapKept (heap_alloc)

def starB (p s : B) : Bool := glob (fun c => c == 42) (fun c d => d == c) p s

theorem ba_head (c : UInt8) (q : B) (h : 0 < (⟨(c :: q).toArray⟩ : ByteArray).size) : (⟨(c :: q).toArray⟩ : ByteArray)[0]'h = c := rfl
theorem ba_tail (c : UInt8) (q : B) : (⟨(c :: q).toArray⟩ : ByteArray).extract 1 (q.length + 1) = ⟨q.toArray⟩ := by
  apply ByteArray.ext
  apply Array.ext'
  rw [Lib.extract_data]
  simp

attribute [local go_sem] ba_head ba_tail

abbrev StarIs (w : World) (r : Bool) (e : Ending) (w' : World) : Prop := e = .returned (.bool r) ∧ ∃ m, w' = w.drewN m

theorem StarIs.ext {w w' : World} {r : Bool} {e : Ending} (h : StarIs w r e w') : e = .returned (.bool r) ∧ Ext w w' := by
  obtain ⟨rfl, m, rfl⟩ := h
  exact ⟨rfl, Only.drewN _ _ _⟩

set_option maxRecDepth 100000 in
set_option maxHeartbeats 1000000 in
theorem star_nil (w : World) (s : B) : Calls Tryz.prog 137 #[S [], S s] w (StarIs w (starB [] s)) := by
  go_enter Tryz.func137, Tryz.ntmps137
  go_wp2_with fail
  go_ret
  refine ⟨?_, 0, rfl⟩
  unfold starB
  rw [glob_nil]
  cases s <;> rfl

set_option maxRecDepth 100000 in
set_option maxHeartbeats 1000000 in
theorem star_b1 (w : World) (q s : B) (h : Calls Tryz.prog 137 #[S q, S s] w (StarIs w true)) : Calls Tryz.prog 137 #[S (42 :: q), S s] w (StarIs w true) := by
  have H := Lib.hid h
  clear h
  go_enter Tryz.func137, Tryz.ntmps137
  go_wp2_with fail
  refine H.out.mono ?_
  rintro e w' ⟨rfl, m, rfl⟩
  go_wp2_with fail
  go_ret
  exact ⟨rfl, m, rfl⟩

set_option maxRecDepth 100000 in
set_option maxHeartbeats 1000000 in
theorem star_b2 (w : World) (q : B) (h : Calls Tryz.prog 137 #[S q, S []] w (StarIs w false)) : Calls Tryz.prog 137 #[S (42 :: q), S []] w (StarIs w false) := by
  have H := Lib.hid h
  clear h
  go_enter Tryz.func137, Tryz.ntmps137
  go_wp2_with fail
  refine H.out.mono ?_
  rintro e w' ⟨rfl, m, rfl⟩
  go_wp2_with fail
  go_ret
  exact ⟨rfl, m, rfl⟩

set_option maxRecDepth 100000 in
set_option maxHeartbeats 1000000 in
theorem star_b3 (w : World) (q : B) (d : UInt8) (t : B) (r : Bool) (h : Calls Tryz.prog 137 #[S q, S (d :: t)] w (StarIs w false)) (h2 : ∀ w, Calls Tryz.prog 137 #[S (42 :: q), S t] w (StarIs w r)) : Calls Tryz.prog 137 #[S (42 :: q), S (d :: t)] w (StarIs w r) := by
  have H := Lib.hid h
  have H2 := Lib.hid h2
  have g1 : ((d :: t) == ([] : B)) = false := rfl
  clear h h2
  go_enter Tryz.func137, Tryz.ntmps137
  go_wp2_with fail
  refine H.out.mono ?_
  rintro e w' ⟨rfl, m, rfl⟩
  go_wp2_with fail
  refine (H2.out _).mono ?_
  rintro e w2 ⟨rfl, m2, rfl⟩
  go_wp2_with fail
  go_ret
  exact ⟨rfl, _, rfl⟩

set_option maxRecDepth 100000 in
set_option maxHeartbeats 1000000 in
theorem star_c1 (w : World) (c : UInt8) (q : B) (hc : ((c.toNat : Int) == 42) = false) : Calls Tryz.prog 137 #[S (c :: q), S []] w (StarIs w false) := by
  go_enter Tryz.func137, Tryz.ntmps137
  go_wp2_with fail
  go_quiet (fail)
  go_wp2
  go_ret
  exact ⟨rfl, _, rfl⟩

set_option maxRecDepth 100000 in
set_option maxHeartbeats 1000000 in
theorem star_c2 (w : World) (c d : UInt8) (q t : B) (hc : ((c.toNat : Int) == 42) = false) (hd : ((d.toNat : Int) == (c.toNat : Int)) = false) : Calls Tryz.prog 137 #[S (c :: q), S (d :: t)] w (StarIs w false) := by
  have g1 : ((d :: t) == ([] : B)) = false := rfl
  go_enter Tryz.func137, Tryz.ntmps137
  go_wp2_with fail
  go_quiet (fail)
  go_wp2
  go_ret
  exact ⟨rfl, _, rfl⟩

set_option maxRecDepth 100000 in
set_option maxHeartbeats 1000000 in
theorem star_c3 (w : World) (c : UInt8) (q t : B) (r : Bool) (hc : ((c.toNat : Int) == 42) = false) (h : ∀ w, Calls Tryz.prog 137 #[S q, S t] w (StarIs w r)) : Calls Tryz.prog 137 #[S (c :: q), S (c :: t)] w (StarIs w r) := by
  have H := Lib.hid h
  have g1 : ((c :: t) == ([] : B)) = false := rfl
  have g2 : ((c.toNat : Int) == (c.toNat : Int)) = true := by simp
  have g3 : (1 : Int) ≤ (q.length : Int) + 1 := by omega
  have g4 : (1 : Int) ≤ (t.length : Int) + 1 := by omega
  clear h
  go_enter Tryz.func137, Tryz.ntmps137
  go_wp2_with fail
  go_quiet ((go_at_call 137; exact Calls.quiet_of (H.out _)))
  go_wp2
  go_ret
  exact ⟨rfl, _, rfl⟩

theorem star_any : ∀ (n : Nat) (p s : B), p.length + s.length ≤ n → ∀ w, Calls Tryz.prog 137 #[S p, S s] w (StarIs w (starB p s))
  | _, [], s, _, w => star_nil w s
  | 0, c :: q, s, h, _ => by simp at h
  | n + 1, c :: q, s, h, w => by
    by_cases hc : c = 42
    · subst hc
      have h1 := star_any n q s (by simp at h; omega) w
      cases s with
      | nil =>
        cases hr : starB q [] with
        | true => rw [hr] at h1; rw [show starB (42 :: q) [] = true by unfold starB at *; rw [glob_cons_nil, hr]; rfl]; exact star_b1 w q [] h1
        | false => rw [hr] at h1; rw [show starB (42 :: q) [] = false by unfold starB at *; rw [glob_cons_nil, hr]; rfl]; exact star_b2 w q h1
      | cons d t =>
        have h2 := star_any n (42 :: q) t (by simp at h ⊢; omega)
        cases hr : starB q (d :: t) with
        | true => rw [hr] at h1; rw [show starB (42 :: q) (d :: t) = true by unfold starB at *; rw [glob_star _ _ _ _ rfl, hr]; rfl]; exact star_b1 w q _ h1
        | false => rw [hr] at h1; rw [show starB (42 :: q) (d :: t) = starB (42 :: q) t by unfold starB at *; rw [glob_star _ _ _ _ rfl, hr]; rfl]; exact star_b3 w q d t _ h1 h2
    · have hcb : (c == 42) = false := beq_eq_false_iff_ne.2 hc
      have hz : ((c.toNat : Int) == 42) = false := by
        refine beq_eq_false_iff_ne.2 fun e => hc ?_
        have e2 : c.toNat = (42 : UInt8).toNat := by rw [show (42 : UInt8).toNat = 42 from rfl]; omega
        exact UInt8.toNat_inj.1 e2
      cases s with
      | nil => rw [show starB (c :: q) [] = false by unfold starB; rw [glob_cons_nil, hcb]; rfl]; exact star_c1 w c q hz
      | cons d t =>
        by_cases hd : d = c
        · subst hd
          have h2 := star_any n q t (by simp at h ⊢; omega)
          rw [show starB (d :: q) (d :: t) = starB q t by unfold starB; rw [glob_one (st := fun c => c == 42) (eq := fun c d => d == c) d q d t hcb]; simp]
          exact star_c3 w d q t _ hz h2
        · have hdb : (d == c) = false := beq_eq_false_iff_ne.2 hd
          rw [show starB (c :: q) (d :: t) = false by unfold starB; rw [glob_one (st := fun c => c == 42) (eq := fun c d => d == c) c q d t hcb, hdb]; rfl]
          refine star_c2 w c d q t hz (beq_eq_false_iff_ne.2 fun e => hd (UInt8.toNat_inj.1 (by omega)))
end Go.Proofs.YtnmhaipjfpongaaGreatDoor

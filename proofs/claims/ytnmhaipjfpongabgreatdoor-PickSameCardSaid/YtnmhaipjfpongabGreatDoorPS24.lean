/- Texts of this seat laid together for one claim: J1. No condition of its own: what each proves stands with its theorems. -/
import Derived.Deep.LoopGhost
import Derived.Test.YtnmhaipjfpongabGreatDoorPS2
import Derived.Test.YtnmhaipjfpongabGreatDoorPS19
namespace Go.Proofs.YtnmhaipjfpongabGreatDoor
open Go.ChangeShapes Go.WideShapes Go.ChangeAt Go.RowKit

set_option maxHeartbeats 1000000 in
theorem indexFunc_R1 (g : Nat) (x0 : Value) (p : Rule → Bool) (w : World) (v : Value) (l : List Rule) (hv : RdR w v l) (eg : ∀ args w, (callFunc g args).run Tryz.prog w = .ok (.enter g args) w)
  (hp : ∀ w1, Ext w w1 → ∀ r u, r ∈ l → Rd S w1 u r.ins → Calls Tryz.prog g #[AggR r u, x0] w1 (RetE (.bool (p r)) w1)) :
  Calls Tryz.prog 105 #[v, .func (.func g) #[] #[x0]] w (RetE (I (idx p l)) w) := by
 obtain ⟨a, cap, rfl, hcap, hm, hc⟩ := hv
 have hm' : l.length ≤ 9223372036854775807 := by unfold maxLen at hm; omega
 obtain ⟨R, hR⟩ : ∃ R, Hid (R = idx p l) := ⟨_, Lib.hid rfl⟩
 rw [← hR.out]
 clear hm
 have HP := Lib.hid hp
 have HC := Lib.hid hc
 clear hp hc
 go_enter Tryz.func105, Tryz.ntmps105
 go_wp2
 go_loopw [8] (fun i wr => ∃ k : Nat, k ≤ l.length ∧ i = .int .i64 k ∧ Hid (∀ j x, j < k → l[j]? = some x → p x = false) ∧ Hid (Ext w wr)) (fun i _ => l.length + 1 - (intOf i).toNat)
 case atStart => exact ⟨0, Nat.zero_le _, rfl, Lib.hid (fun j x h => absurd h (Nat.not_lt_zero _)), Lib.hid (Only.refl _ _)⟩
 case round =>
  obtain ⟨k, hk, rfl, HB, HX⟩ := hrel
  by_cases hlt : k < l.length
  ·obtain ⟨b, off, rfl, hcell⟩ := HC.out (by intro h; rw [h] at hlt; simp at hlt)
   obtain ⟨x, hx⟩ : ∃ y, l[k]? = some y := ⟨_, List.getElem?_eq_getElem hlt⟩
   obtain ⟨u, hu, c0, c1, c2, c3⟩ := hcell k x hx
   have d0 := HX.out.cellOf c0 (fun h => h)
   have d1 := HX.out.cellOf c1 (fun h => h)
   have d2 := HX.out.cellOf c2 (fun h => h)
   have d3 := HX.out.cellOf c3 (fun h => h)
   have hp1 := HP.out wr HX.out x u (List.mem_of_getElem? hx) (hu.ext HX.out)
   clear hu c0 c1 c2 c3
   have HXX := Lib.hid hx
   clear hcell hx
   cases hq : p x with
   | false =>
    rw [hq] at hp1
    have HQ := Lib.hid hq
    have HP1 := Lib.hid hp1
    clear hq hp1
    go_wp2_with fail
    refine (HP1.out).mono ?_
    rintro e w' ⟨rfl, ho⟩
    have HX2 := Lib.hid (HX.out.ext ho)
    clear ho
    go_wp2
    go_roundw
    case rel => exact ⟨k + 1, by omega, by go_num, Lib.hid (fun j y hj hy => by
     rcases Nat.lt_succ_iff_lt_or_eq.1 hj with h | rfl
     ·exact HB.out j y h hy
     ·rw [HXX.out] at hy; cases hy; exact HQ.out), HX2⟩
    case measure => simp [intOf]; omega
   | true =>
    rw [hq] at hp1
    have HK := Lib.hid (idx_hit HXX.out hq HB.out)
    have HP1 := Lib.hid hp1
    clear hp1
    clear hq
    go_wp2_with fail
    refine (HP1.out).mono ?_
    rintro e w' ⟨rfl, ho⟩
    have HX2 := Lib.hid (HX.out.ext ho)
    clear ho
    go_wp2
    go_ret
    exact ⟨by rw [hR.out, HK.out]; rfl, HX2.out⟩
  ·have HK := Lib.hid (idx_none (p := p) (l := l) fun j y hy => HB.out j y (by have := (List.getElem?_eq_some_iff.1 hy).1; omega) hy)
   go_wp2
   go_ret
   exact ⟨by rw [hR.out, HK.out]; rfl, HX.out⟩

theorem containsFunc_R1 (g : Nat) (x0 : Value) (p : Rule → Bool) (w : World) (v : Value) (l : List Rule) (hv : RdR w v l) (eg : ∀ args w, (callFunc g args).run Tryz.prog w = .ok (.enter g args) w)
  (hp : ∀ w1, Ext w w1 → ∀ r u, r ∈ l → Rd S w1 u r.ins → Calls Tryz.prog g #[AggR r u, x0] w1 (RetE (.bool (p r)) w1)) :
  Calls Tryz.prog 107 #[v, .func (.func g) #[] #[x0]] w (RetE (.bool (l.any p)) w) := by
 have HI := Lib.hid (indexFunc_R1 g x0 p w v l hv eg hp)
 rw [← idx_any]
 generalize idx p l = R at HI ⊢
 obtain ⟨a, cap, rfl, _, _, _⟩ := hv
 clear hp eg
 go_enter Tryz.func107, Tryz.ntmps107
 go_wp2_with fail
 refine (HI.out).mono ?_
 rintro e w1 ⟨rfl, ho⟩
 have HO := Lib.hid ho
 clear ho
 go_wp2_with fail
 go_ret
 exact ⟨rfl, HO.out⟩

set_option maxHeartbeats 1000000 in
theorem indexFunc_I1 (g : Nat) (x0 : Value) (p : Int → Bool) (w : World) (v : Value) (l : List Int) (hv : Rd I w v l) (eg : ∀ args w, (callFunc g args).run Tryz.prog w = .ok (.enter g args) w)
  (hp : ∀ w1, Ext w w1 → ∀ x, x ∈ l → Calls Tryz.prog g #[I x, x0] w1 (RetE (.bool (p x)) w1)) :
  Calls Tryz.prog 113 #[v, .func (.func g) #[] #[x0]] w (RetE (I (idx p l)) w) := by
 obtain ⟨a, cap, rfl, hcap, hm, hc⟩ := hv
 have hm' : l.length ≤ 9223372036854775807 := by unfold maxLen at hm; omega
 obtain ⟨R, hR⟩ : ∃ R, Hid (R = idx p l) := ⟨_, Lib.hid rfl⟩
 rw [← hR.out]
 clear hm
 have HP := Lib.hid hp
 have HC := Lib.hid hc
 clear hp hc
 go_enter Tryz.func113, Tryz.ntmps113
 go_wp2
 go_loopw [8] (fun i wr => ∃ k : Nat, k ≤ l.length ∧ i = .int .i64 k ∧ Hid (∀ j x, j < k → l[j]? = some x → p x = false) ∧ Hid (Ext w wr)) (fun i _ => l.length + 1 - (intOf i).toNat)
 case atStart => exact ⟨0, Nat.zero_le _, rfl, Lib.hid (fun j x h => absurd h (Nat.not_lt_zero _)), Lib.hid (Only.refl _ _)⟩
 case round =>
  obtain ⟨k, hk, rfl, HB, HX⟩ := hrel
  by_cases hlt : k < l.length
  ·obtain ⟨b, off, rfl, hcell⟩ := HC.out (by intro h; rw [h] at hlt; simp at hlt)
   obtain ⟨x, hx⟩ : ∃ y, l[k]? = some y := ⟨_, List.getElem?_eq_getElem hlt⟩
   have d0 := HX.out.cellOf (hcell k x hx) (fun h => h)
   have hp1 := HP.out wr HX.out x (List.mem_of_getElem? hx)
   have HXX := Lib.hid hx
   clear hcell hx
   cases hq : p x with
   | false =>
    rw [hq] at hp1
    have HQ := Lib.hid hq
    have HP1 := Lib.hid hp1
    clear hq hp1
    go_wp2_with fail
    refine (HP1.out).mono ?_
    rintro e w' ⟨rfl, ho⟩
    have HX2 := Lib.hid (HX.out.ext ho)
    clear ho
    go_wp2
    go_roundw
    case rel => exact ⟨k + 1, by omega, by go_num, Lib.hid (fun j y hj hy => by
     rcases Nat.lt_succ_iff_lt_or_eq.1 hj with h | rfl
     ·exact HB.out j y h hy
     ·rw [HXX.out] at hy; cases hy; exact HQ.out), HX2⟩
    case measure => simp [intOf]; omega
   | true =>
    rw [hq] at hp1
    have HK := Lib.hid (idx_hit HXX.out hq HB.out)
    have HP1 := Lib.hid hp1
    clear hp1
    clear hq
    go_wp2_with fail
    refine (HP1.out).mono ?_
    rintro e w' ⟨rfl, ho⟩
    have HX2 := Lib.hid (HX.out.ext ho)
    clear ho
    go_wp2
    go_ret
    exact ⟨by rw [hR.out, HK.out]; rfl, HX2.out⟩
  ·have HK := Lib.hid (idx_none (p := p) (l := l) fun j y hy => HB.out j y (by have := (List.getElem?_eq_some_iff.1 hy).1; omega) hy)
   go_wp2
   go_ret
   exact ⟨by rw [hR.out, HK.out]; rfl, HX.out⟩

theorem containsFunc_I1 (g : Nat) (x0 : Value) (p : Int → Bool) (w : World) (v : Value) (l : List Int) (hv : Rd I w v l) (eg : ∀ args w, (callFunc g args).run Tryz.prog w = .ok (.enter g args) w)
  (hp : ∀ w1, Ext w w1 → ∀ x, x ∈ l → Calls Tryz.prog g #[I x, x0] w1 (RetE (.bool (p x)) w1)) :
  Calls Tryz.prog 185 #[v, .func (.func g) #[] #[x0]] w (RetE (.bool (l.any p)) w) := by
 have HI := Lib.hid (indexFunc_I1 g x0 p w v l hv eg hp)
 rw [← idx_any]
 generalize idx p l = R at HI ⊢
 obtain ⟨a, cap, rfl, _, _, _⟩ := hv
 clear hp eg
 go_enter Tryz.func185, Tryz.ntmps185
 go_wp2_with fail
 refine (HI.out).mono ?_
 rintro e w1 ⟨rfl, ho⟩
 have HO := Lib.hid ho
 clear ho
 go_wp2_with fail
 go_ret
 exact ⟨rfl, HO.out⟩

set_option maxHeartbeats 1000000 in
theorem indexFunc_S0 (g : Nat) (p : Nat → Bool) (w : World) (v : Value) (l : List Nat) (hv : Rd (fun b => .pointer (some ⟨b, 0, none⟩)) w v l) (eg : ∀ args w, (callFunc g args).run Tryz.prog w = .ok (.enter g args) w)
  (hp : ∀ w1, Ext w w1 → ∀ x, x ∈ l → Calls Tryz.prog g #[.pointer (some ⟨x, 0, none⟩)] w1 (RetE (.bool (p x)) w1)) :
  Calls Tryz.prog 258 #[v, .func (.func g) #[] #[]] w (RetE (I (idx p l)) w) := by
 obtain ⟨a, cap, rfl, hcap, hm, hc⟩ := hv
 have hm' : l.length ≤ 9223372036854775807 := by unfold maxLen at hm; omega
 obtain ⟨R, hR⟩ : ∃ R, Hid (R = idx p l) := ⟨_, Lib.hid rfl⟩
 rw [← hR.out]
 clear hm
 have HP := Lib.hid hp
 have HC := Lib.hid hc
 clear hp hc
 go_enter Tryz.func258, Tryz.ntmps258
 go_wp2
 go_loopw [8] (fun i wr => ∃ k : Nat, k ≤ l.length ∧ i = .int .i64 k ∧ Hid (∀ j x, j < k → l[j]? = some x → p x = false) ∧ Hid (Ext w wr)) (fun i _ => l.length + 1 - (intOf i).toNat)
 case atStart => exact ⟨0, Nat.zero_le _, rfl, Lib.hid (fun j x h => absurd h (Nat.not_lt_zero _)), Lib.hid (Only.refl _ _)⟩
 case round =>
  obtain ⟨k, hk, rfl, HB, HX⟩ := hrel
  by_cases hlt : k < l.length
  ·obtain ⟨b, off, rfl, hcell⟩ := HC.out (by intro h; rw [h] at hlt; simp at hlt)
   obtain ⟨x, hx⟩ : ∃ y, l[k]? = some y := ⟨_, List.getElem?_eq_getElem hlt⟩
   have d0 := HX.out.cellOf (hcell k x hx) (fun h => h)
   have hp1 := HP.out wr HX.out x (List.mem_of_getElem? hx)
   have HXX := Lib.hid hx
   clear hcell hx
   cases hq : p x with
   | false =>
    rw [hq] at hp1
    have HQ := Lib.hid hq
    have HP1 := Lib.hid hp1
    clear hq hp1
    go_wp2_with fail
    refine (HP1.out).mono ?_
    rintro e w' ⟨rfl, ho⟩
    have HX2 := Lib.hid (HX.out.ext ho)
    clear ho
    go_wp2
    go_roundw
    case rel => exact ⟨k + 1, by omega, by go_num, Lib.hid (fun j y hj hy => by
     rcases Nat.lt_succ_iff_lt_or_eq.1 hj with h | rfl
     ·exact HB.out j y h hy
     ·rw [HXX.out] at hy; cases hy; exact HQ.out), HX2⟩
    case measure => simp [intOf]; omega
   | true =>
    rw [hq] at hp1
    have HK := Lib.hid (idx_hit HXX.out hq HB.out)
    have HP1 := Lib.hid hp1
    clear hp1
    clear hq
    go_wp2_with fail
    refine (HP1.out).mono ?_
    rintro e w' ⟨rfl, ho⟩
    have HX2 := Lib.hid (HX.out.ext ho)
    clear ho
    go_wp2
    go_ret
    exact ⟨by rw [hR.out, HK.out]; rfl, HX2.out⟩
  ·have HK := Lib.hid (idx_none (p := p) (l := l) fun j y hy => HB.out j y (by have := (List.getElem?_eq_some_iff.1 hy).1; omega) hy)
   go_wp2
   go_ret
   exact ⟨by rw [hR.out, HK.out]; rfl, HX.out⟩

theorem containsFunc_S0 (g : Nat) (p : Nat → Bool) (w : World) (v : Value) (l : List Nat) (hv : Rd (fun b => .pointer (some ⟨b, 0, none⟩)) w v l) (eg : ∀ args w, (callFunc g args).run Tryz.prog w = .ok (.enter g args) w)
  (hp : ∀ w1, Ext w w1 → ∀ x, x ∈ l → Calls Tryz.prog g #[.pointer (some ⟨x, 0, none⟩)] w1 (RetE (.bool (p x)) w1)) :
  Calls Tryz.prog 196 #[v, .func (.func g) #[] #[]] w (RetE (.bool (l.any p)) w) := by
 have HI := Lib.hid (indexFunc_S0 g  p w v l hv eg hp)
 rw [← idx_any]
 generalize idx p l = R at HI ⊢
 obtain ⟨a, cap, rfl, _, _, _⟩ := hv
 clear hp eg
 go_enter Tryz.func196, Tryz.ntmps196
 go_wp2_with fail
 refine (HI.out).mono ?_
 rintro e w1 ⟨rfl, ho⟩
 have HO := Lib.hid ho
 clear ho
 go_wp2_with fail
 go_ret
 exact ⟨rfl, HO.out⟩

end Go.Proofs.YtnmhaipjfpongabGreatDoor

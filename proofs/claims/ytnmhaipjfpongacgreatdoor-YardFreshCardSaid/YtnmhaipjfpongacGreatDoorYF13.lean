/- Texts of this seat laid together for one claim: J0, J1, O2, O3. No condition of its own: what each proves stands with its theorems. -/
import Derived.Test.YtnmhaipjfpongacGreatDoorYF12
import Derived.Deep.LoopGhost
import Derived.Test.YtnmhaipjfpongacGreatDoorYF2
import Derived.Test.YtnmhaipjfpongacGreatDoorYF0
import Derived.Test.YtnmhaipjfpongacGreatDoorYF8
namespace Go.Proofs.YtnmhaipjfpongacGreatDoor
open Go.ChangeShapes Go.WideShapes Go.ChangeAt Go.RowKit

theorem nodup_len {α : Type} [DecidableEq α] : ∀ {a b : List α}, a.Nodup → (∀ x ∈ a, x ∈ b) → a.length ≤ b.length
 | [], _, _, _ => Nat.zero_le _
 | x :: a, b, h, hs => by
  rw [List.nodup_cons] at h
  have hx := hs x (.head _)
  have := nodup_len (a := a) (b := b.erase x) h.2 (fun y hy => (List.mem_erase_of_ne (fun (e : y = x) => h.1 (e ▸ hy))).2 (hs y (.tail _ hy)))
  rw [List.length_erase_of_mem hx] at this
  have := List.length_pos_of_mem hx
  rw [List.length_cons]
  omega
theorem nodup_inj {α : Type} {l : List α} (h : l.Nodup) {i j : Nat} {x : α} (hi : l[i]? = some x) (hj : l[j]? = some x) : i = j := by
 obtain ⟨a, ha⟩ := List.getElem?_eq_some_iff.1 hi
 obtain ⟨b, hb⟩ := List.getElem?_eq_some_iff.1 hj
 rcases Nat.lt_trichotomy i j with e | e | e
 ·exact absurd (ha.trans hb.symm) (List.pairwise_iff_getElem.1 h i j a b e)
 ·exact e
 ·exact absurd (hb.trans ha.symm) (List.pairwise_iff_getElem.1 h j i b a e)


structure Rule where
 out : B
 kind : B
 word : B
 ins : List B

structure RuleSm (n : Nat) (r : Rule) : Prop where
 out : r.out.length ≤ n
 kind : r.kind.length ≤ n
 word : r.word.length ≤ n
 many : r.ins.length ≤ n
 ins : ∀ s ∈ r.ins, s.length ≤ n

def ruleCode (r : Rule) : Nat :=
 if pathOk r.out = false then 4
 else if actCode r.kind r.word r.ins.length ≠ 0 then actCode r.kind r.word r.ins.length
 else if r.ins.all pathOk = false then 4
 else if r.out ∈ r.ins ∨ ¬ r.ins.Nodup then 7 else 0

def sheetGo (seen : List B) (i : Nat) : List Rule → Nat × Int
 | [] => (0, -1)
 | r :: l => if ruleCode r ≠ 0 then (ruleCode r, (i : Int)) else if r.out ∈ seen then (7, (i : Int)) else sheetGo (seen ++ [r.out]) (i + 1) l
def sheetFault (l : List Rule) : Nat × Int := if 40 < l.length then (2, -1) else sheetGo [] 0 l

theorem actCode_le (a b : B) (n : Nat) : actCode a b n ≤ 12 := by
 unfold actCode
 split
 ·omega
 ·split
  ·omega
  ·split <;> omega
def RightS (l : List Rule) : Prop := l.length ≤ 40 ∧ (∀ r ∈ l, ruleCode r = 0) ∧ (l.map Rule.out).Nodup

theorem sheetGo_ok : ∀ (l : List Rule) (seen : List B) (i : Nat), (sheetGo seen i l).1 = 0 ↔ (∀ r ∈ l, ruleCode r = 0) ∧ (l.map Rule.out).Nodup ∧ ∀ r ∈ l, r.out ∉ seen
 | [], _, _ => by simp [sheetGo]
 | r :: l, seen, i => by
  unfold sheetGo
  by_cases h1 : ruleCode r = 0
  ·rw [if_neg (by simpa using h1)]
   by_cases h2 : r.out ∈ seen
   ·rw [if_pos h2]
    simp [h2]
   ·rw [if_neg h2, sheetGo_ok l (seen ++ [r.out]) (i + 1)]
    simp only [List.mem_cons, forall_eq_or_imp, h1, true_and, List.map_cons, List.nodup_cons, List.mem_append, List.not_mem_nil, or_false, not_or]
    constructor
    ·rintro ⟨a, b, c⟩
     refine ⟨a, ⟨fun h => ?_, b⟩, h2, fun x hx => (c x hx).1⟩
     obtain ⟨x, hx, e⟩ := List.mem_map.1 h
     exact (c x hx).2 e
    ·rintro ⟨a, ⟨b, c⟩, _, d⟩
     exact ⟨a, c, fun x hx => ⟨d x hx, fun e => b (List.mem_map.2 ⟨x, hx, e⟩)⟩⟩
  ·rw [if_pos h1]
   simp [h1]

theorem sheet_ok {l : List Rule} : (sheetFault l).1 = 0 ↔ RightS l := by
 unfold sheetFault RightS
 by_cases h : 40 < l.length
 ·rw [if_pos h]
  simp
  omega
 ·rw [if_neg h, sheetGo_ok]
  simp
  omega

theorem sheetGo_zero : ∀ (l : List Rule) (seen : List B) (i : Nat), (sheetGo seen i l).1 = 0 → (sheetGo seen i l).2 = -1
 | [], _, _, _ => rfl
 | r :: l, seen, i, h => by
  unfold sheetGo at h ⊢
  by_cases h1 : ruleCode r ≠ 0
  ·rw [if_pos h1] at h; exact absurd h h1
  ·rw [if_neg h1] at h ⊢
   by_cases h2 : r.out ∈ seen
   ·rw [if_pos h2] at h; cases h
   ·rw [if_neg h2] at h ⊢; exact sheetGo_zero l _ _ h
theorem sheet_zero {l : List Rule} (h : (sheetFault l).1 = 0) : sheetFault l = (0, -1) := by
 have : (sheetFault l).2 = -1 := by
  unfold sheetFault at h ⊢
  by_cases h1 : 40 < l.length
  ·rw [if_pos h1]
  ·rw [if_neg h1] at h ⊢; exact sheetGo_zero _ _ _ h
 exact Prod.ext h this

def RdR (w : World) (v : Value) (l : List Rule) : Prop :=
 ∃ a cap, v = .slice a l.length cap ∧ l.length ≤ cap ∧ cap ≤ maxLen ∧ (l ≠ [] → ∃ b off, a = some ⟨b, off, none⟩ ∧
  ∀ (i : Nat) r, l[i]? = some r → ∃ u, Rd S w u r.ins ∧ w.cell? ⟨b, off + i * 4, none⟩ = some (S r.out) ∧ w.cell? ⟨b, off + i * 4 + 1, none⟩ = some (S r.kind) ∧ w.cell? ⟨b, off + i * 4 + 2, none⟩ = some (S r.word) ∧ w.cell? ⟨b, off + i * 4 + 3, none⟩ = some u)

theorem RdR.nil (w : World) : RdR w (.slice none 0 0) [] := ⟨none, 0, rfl, Nat.le_refl _, Nat.zero_le _, fun h => absurd rfl h⟩
theorem RdR.ext {w w' : World} {v : Value} {l : List Rule} (h : RdR w v l) (ho : Ext w w') : RdR w' v l := by
 obtain ⟨a, cap, h1, h2, h3, h4⟩ := h
 refine ⟨a, cap, h1, h2, h3, fun hl => ?_⟩
 obtain ⟨b, off, h5, h6⟩ := h4 hl
 refine ⟨b, off, h5, fun i r hr => ?_⟩
 obtain ⟨u, c, c0, c1, c2, c3⟩ := h6 i r hr
 exact ⟨u, c.ext ho, ho.cellOf c0 (fun h => h), ho.cellOf c1 (fun h => h), ho.cellOf c2 (fun h => h), ho.cellOf c3 (fun h => h)⟩

theorem RdR.take {w : World} {a : Option Addr} {cap : Nat} {l : List Rule} (h : RdR w (.slice a l.length cap) l) (j : Nat) (hj : j ≤ l.length) : RdR w (.slice a j cap) (l.take j) := by
 obtain ⟨a', cap', h1, h2, h3, h4⟩ := h
 cases h1
 have e : (l.take j).length = j := by rw [List.length_take]; omega
 refine ⟨a, cap, by rw [e], by omega, h3, fun hl => ?_⟩
 obtain ⟨b, off, h5, h6⟩ := h4 (fun e => hl (by rw [e]; simp))
 refine ⟨b, off, h5, fun i r hr => h6 i r ?_⟩
 rw [List.getElem?_take] at hr
 split at hr
 ·exact hr
 ·cases hr

abbrev AggR (r : Rule) (u : Value) : Value := .agg #[S r.out, S r.kind, S r.word, u]

def idx {α : Type} (p : α → Bool) (l : List α) : Int := match l.findIdx? p with | some i => (i : Int) | none => -1
theorem idx_hit {α : Type} {p : α → Bool} {l : List α} {k : Nat} {x : α} (hx : l[k]? = some x) (hp : p x = true) (hb : ∀ j y, j < k → l[j]? = some y → p y = false) : idx p l = k := by
 have : l.findIdx? p = some k := by
  rw [List.findIdx?_eq_some_iff_getElem]
  obtain ⟨h1, h2⟩ := List.getElem?_eq_some_iff.1 hx
  refine ⟨h1, by rw [h2]; exact hp, fun j hj => ?_⟩
  have := hb j _ hj (List.getElem?_eq_getElem (by omega))
  simpa using this
 unfold idx
 rw [this]
theorem idx_none {α : Type} {p : α → Bool} {l : List α} (hb : ∀ (j : Nat) y, l[j]? = some y → p y = false) : idx p l = -1 := by
 have : l.findIdx? p = none := by
  rw [List.findIdx?_eq_none_iff]
  intro x hx
  obtain ⟨i, hi⟩ := List.getElem?_of_mem hx
  exact hb i x hi
 unfold idx
 rw [this]
theorem idx_any {α : Type} (p : α → Bool) (l : List α) : decide (0 ≤ idx p l) = l.any p := by
 unfold idx
 cases h : l.findIdx? p with
 | none =>
  rw [List.findIdx?_eq_none_iff] at h
  have : l.any p = false := by rw [List.any_eq_false]; intro x hx; simpa using h x hx
  rw [this]
  rfl
 | some i =>
  rw [List.findIdx?_eq_some_iff_getElem] at h
  obtain ⟨h1, h2, _⟩ := h
  have : l.any p = true := List.any_eq_true.2 ⟨l[i], List.getElem_mem h1, h2⟩
  rw [this]
  exact decide_eq_true (Int.natCast_nonneg i)
end Go.Proofs.YtnmhaipjfpongacGreatDoor

namespace Go.Proofs.YtnmhaipjfpongacGreatDoor
open Go.ChangeShapes Go.WideShapes Go.ChangeAt Go.RowKit

set_option maxHeartbeats 1000000 in
theorem indexFunc_R1 (g : Nat) (x0 : Value) (p : Rule → Bool) (w : World) (v : Value) (l : List Rule) (hv : RdR w v l) (eg : ∀ args w, (callFunc g args).run Tryz.prog w = .ok (.enter g args) w)
  (hp : ∀ w1, Ext w w1 → ∀ r u, r ∈ l → Rd S w1 u r.ins → Calls Tryz.prog g #[AggR r u, x0] w1 (RetE (.bool (p r)) w1)) :
  Calls Tryz.prog 161 #[v, .func (.func g) #[] #[x0]] w (RetE (I (idx p l)) w) := by
 obtain ⟨a, cap, rfl, hcap, hm, hc⟩ := hv
 have hm' : l.length ≤ 9223372036854775807 := by unfold maxLen at hm; omega
 obtain ⟨R, hR⟩ : ∃ R, Hid (R = idx p l) := ⟨_, Lib.hid rfl⟩
 rw [← hR.out]
 clear hm
 have HP := Lib.hid hp
 have HC := Lib.hid hc
 clear hp hc
 go_enter Tryz.func161, Tryz.ntmps161
 go_wp2
 go_loopw [8] (fun i wr => ∃ k : Nat, k ≤ l.length ∧ i = .int .i64 k ∧ Hid (∀ j x, j < k → l[j]? = some x → p x = false) ∧ Hid (Ext w wr)) (fun i _ => l.length + 1 - (intOf i).toNat)
 case atStart => exact ⟨0, Nat.zero_le _, rfl, Lib.hid (fun j x h => absurd h (Nat.not_lt_zero _)), Lib.hid (Only.refl _ _)⟩
 case round =>
  obtain ⟨k, hk, rfl, HB, HX⟩ := hrel
  by_cases hlt : k < l.length
  ·obtain ⟨b, off, rfl, hcell⟩ := HC.out (by intro h; rw [h] at hlt; simp at hlt)
   obtain ⟨x, hx⟩ : ∃ y, l[k]? = some y := ⟨_, List.getElem?_eq_getElem hlt⟩
   obtain ⟨u, hu, c0, c1, c2, c3⟩ := hcell k x hx
   have d0 := HX.out.cellOf c0 (fun h => h)
   have d1 := HX.out.cellOf c1 (fun h => h)
   have d2 := HX.out.cellOf c2 (fun h => h)
   have d3 := HX.out.cellOf c3 (fun h => h)
   have hp1 := HP.out wr HX.out x u (List.mem_of_getElem? hx) (hu.ext HX.out)
   clear hu c0 c1 c2 c3
   have HXX := Lib.hid hx
   clear hcell hx
   cases hq : p x with
   | false =>
    rw [hq] at hp1
    have HQ := Lib.hid hq
    have HP1 := Lib.hid hp1
    clear hq hp1
    go_wp2_with fail
    refine (HP1.out).mono ?_
    rintro e w' ⟨rfl, ho⟩
    have HX2 := Lib.hid (HX.out.ext ho)
    clear ho
    go_wp2
    go_roundw
    case rel => exact ⟨k + 1, by omega, by go_num, Lib.hid (fun j y hj hy => by
     rcases Nat.lt_succ_iff_lt_or_eq.1 hj with h | rfl
     ·exact HB.out j y h hy
     ·rw [HXX.out] at hy; cases hy; exact HQ.out), HX2⟩
    case measure => simp [intOf]; omega
   | true =>
    rw [hq] at hp1
    have HK := Lib.hid (idx_hit HXX.out hq HB.out)
    have HP1 := Lib.hid hp1
    clear hp1
    clear hq
    go_wp2_with fail
    refine (HP1.out).mono ?_
    rintro e w' ⟨rfl, ho⟩
    have HX2 := Lib.hid (HX.out.ext ho)
    clear ho
    go_wp2
    go_ret
    exact ⟨by rw [hR.out, HK.out]; rfl, HX2.out⟩
  ·have HK := Lib.hid (idx_none (p := p) (l := l) fun j y hy => HB.out j y (by have := (List.getElem?_eq_some_iff.1 hy).1; omega) hy)
   go_wp2
   go_ret
   exact ⟨by rw [hR.out, HK.out]; rfl, HX.out⟩

theorem containsFunc_R1 (g : Nat) (x0 : Value) (p : Rule → Bool) (w : World) (v : Value) (l : List Rule) (hv : RdR w v l) (eg : ∀ args w, (callFunc g args).run Tryz.prog w = .ok (.enter g args) w)
  (hp : ∀ w1, Ext w w1 → ∀ r u, r ∈ l → Rd S w1 u r.ins → Calls Tryz.prog g #[AggR r u, x0] w1 (RetE (.bool (p r)) w1)) :
  Calls Tryz.prog 158 #[v, .func (.func g) #[] #[x0]] w (RetE (.bool (l.any p)) w) := by
 have HI := Lib.hid (indexFunc_R1 g x0 p w v l hv eg hp)
 rw [← idx_any]
 generalize idx p l = R at HI ⊢
 obtain ⟨a, cap, rfl, _, _, _⟩ := hv
 clear hp eg
 go_enter Tryz.func158, Tryz.ntmps158
 go_wp2_with fail
 refine (HI.out).mono ?_
 rintro e w1 ⟨rfl, ho⟩
 have HO := Lib.hid ho
 clear ho
 go_wp2_with fail
 go_ret
 exact ⟨rfl, HO.out⟩

set_option maxHeartbeats 1000000 in
theorem indexFunc_I1 (g : Nat) (x0 : Value) (p : Int → Bool) (w : World) (v : Value) (l : List Int) (hv : Rd I w v l) (eg : ∀ args w, (callFunc g args).run Tryz.prog w = .ok (.enter g args) w)
  (hp : ∀ w1, Ext w w1 → ∀ x, x ∈ l → Calls Tryz.prog g #[I x, x0] w1 (RetE (.bool (p x)) w1)) :
  Calls Tryz.prog 278 #[v, .func (.func g) #[] #[x0]] w (RetE (I (idx p l)) w) := by
 obtain ⟨a, cap, rfl, hcap, hm, hc⟩ := hv
 have hm' : l.length ≤ 9223372036854775807 := by unfold maxLen at hm; omega
 obtain ⟨R, hR⟩ : ∃ R, Hid (R = idx p l) := ⟨_, Lib.hid rfl⟩
 rw [← hR.out]
 clear hm
 have HP := Lib.hid hp
 have HC := Lib.hid hc
 clear hp hc
 go_enter Tryz.func278, Tryz.ntmps278
 go_wp2
 go_loopw [8] (fun i wr => ∃ k : Nat, k ≤ l.length ∧ i = .int .i64 k ∧ Hid (∀ j x, j < k → l[j]? = some x → p x = false) ∧ Hid (Ext w wr)) (fun i _ => l.length + 1 - (intOf i).toNat)
 case atStart => exact ⟨0, Nat.zero_le _, rfl, Lib.hid (fun j x h => absurd h (Nat.not_lt_zero _)), Lib.hid (Only.refl _ _)⟩
 case round =>
  obtain ⟨k, hk, rfl, HB, HX⟩ := hrel
  by_cases hlt : k < l.length
  ·obtain ⟨b, off, rfl, hcell⟩ := HC.out (by intro h; rw [h] at hlt; simp at hlt)
   obtain ⟨x, hx⟩ : ∃ y, l[k]? = some y := ⟨_, List.getElem?_eq_getElem hlt⟩
   have d0 := HX.out.cellOf (hcell k x hx) (fun h => h)
   have hp1 := HP.out wr HX.out x (List.mem_of_getElem? hx)
   have HXX := Lib.hid hx
   clear hcell hx
   cases hq : p x with
   | false =>
    rw [hq] at hp1
    have HQ := Lib.hid hq
    have HP1 := Lib.hid hp1
    clear hq hp1
    go_wp2_with fail
    refine (HP1.out).mono ?_
    rintro e w' ⟨rfl, ho⟩
    have HX2 := Lib.hid (HX.out.ext ho)
    clear ho
    go_wp2
    go_roundw
    case rel => exact ⟨k + 1, by omega, by go_num, Lib.hid (fun j y hj hy => by
     rcases Nat.lt_succ_iff_lt_or_eq.1 hj with h | rfl
     ·exact HB.out j y h hy
     ·rw [HXX.out] at hy; cases hy; exact HQ.out), HX2⟩
    case measure => simp [intOf]; omega
   | true =>
    rw [hq] at hp1
    have HK := Lib.hid (idx_hit HXX.out hq HB.out)
    have HP1 := Lib.hid hp1
    clear hp1
    clear hq
    go_wp2_with fail
    refine (HP1.out).mono ?_
    rintro e w' ⟨rfl, ho⟩
    have HX2 := Lib.hid (HX.out.ext ho)
    clear ho
    go_wp2
    go_ret
    exact ⟨by rw [hR.out, HK.out]; rfl, HX2.out⟩
  ·have HK := Lib.hid (idx_none (p := p) (l := l) fun j y hy => HB.out j y (by have := (List.getElem?_eq_some_iff.1 hy).1; omega) hy)
   go_wp2
   go_ret
   exact ⟨by rw [hR.out, HK.out]; rfl, HX.out⟩

theorem containsFunc_I1 (g : Nat) (x0 : Value) (p : Int → Bool) (w : World) (v : Value) (l : List Int) (hv : Rd I w v l) (eg : ∀ args w, (callFunc g args).run Tryz.prog w = .ok (.enter g args) w)
  (hp : ∀ w1, Ext w w1 → ∀ x, x ∈ l → Calls Tryz.prog g #[I x, x0] w1 (RetE (.bool (p x)) w1)) :
  Calls Tryz.prog 211 #[v, .func (.func g) #[] #[x0]] w (RetE (.bool (l.any p)) w) := by
 have HI := Lib.hid (indexFunc_I1 g x0 p w v l hv eg hp)
 rw [← idx_any]
 generalize idx p l = R at HI ⊢
 obtain ⟨a, cap, rfl, _, _, _⟩ := hv
 clear hp eg
 go_enter Tryz.func211, Tryz.ntmps211
 go_wp2_with fail
 refine (HI.out).mono ?_
 rintro e w1 ⟨rfl, ho⟩
 have HO := Lib.hid ho
 clear ho
 go_wp2_with fail
 go_ret
 exact ⟨rfl, HO.out⟩

set_option maxHeartbeats 1000000 in
theorem indexFunc_S0 (g : Nat) (p : Nat → Bool) (w : World) (v : Value) (l : List Nat) (hv : Rd (fun b => .pointer (some ⟨b, 0, none⟩)) w v l) (eg : ∀ args w, (callFunc g args).run Tryz.prog w = .ok (.enter g args) w)
  (hp : ∀ w1, Ext w w1 → ∀ x, x ∈ l → Calls Tryz.prog g #[.pointer (some ⟨x, 0, none⟩)] w1 (RetE (.bool (p x)) w1)) :
  Calls Tryz.prog 252 #[v, .func (.func g) #[] #[]] w (RetE (I (idx p l)) w) := by
 obtain ⟨a, cap, rfl, hcap, hm, hc⟩ := hv
 have hm' : l.length ≤ 9223372036854775807 := by unfold maxLen at hm; omega
 obtain ⟨R, hR⟩ : ∃ R, Hid (R = idx p l) := ⟨_, Lib.hid rfl⟩
 rw [← hR.out]
 clear hm
 have HP := Lib.hid hp
 have HC := Lib.hid hc
 clear hp hc
 go_enter Tryz.func252, Tryz.ntmps252
 go_wp2
 go_loopw [8] (fun i wr => ∃ k : Nat, k ≤ l.length ∧ i = .int .i64 k ∧ Hid (∀ j x, j < k → l[j]? = some x → p x = false) ∧ Hid (Ext w wr)) (fun i _ => l.length + 1 - (intOf i).toNat)
 case atStart => exact ⟨0, Nat.zero_le _, rfl, Lib.hid (fun j x h => absurd h (Nat.not_lt_zero _)), Lib.hid (Only.refl _ _)⟩
 case round =>
  obtain ⟨k, hk, rfl, HB, HX⟩ := hrel
  by_cases hlt : k < l.length
  ·obtain ⟨b, off, rfl, hcell⟩ := HC.out (by intro h; rw [h] at hlt; simp at hlt)
   obtain ⟨x, hx⟩ : ∃ y, l[k]? = some y := ⟨_, List.getElem?_eq_getElem hlt⟩
   have d0 := HX.out.cellOf (hcell k x hx) (fun h => h)
   have hp1 := HP.out wr HX.out x (List.mem_of_getElem? hx)
   have HXX := Lib.hid hx
   clear hcell hx
   cases hq : p x with
   | false =>
    rw [hq] at hp1
    have HQ := Lib.hid hq
    have HP1 := Lib.hid hp1
    clear hq hp1
    go_wp2_with fail
    refine (HP1.out).mono ?_
    rintro e w' ⟨rfl, ho⟩
    have HX2 := Lib.hid (HX.out.ext ho)
    clear ho
    go_wp2
    go_roundw
    case rel => exact ⟨k + 1, by omega, by go_num, Lib.hid (fun j y hj hy => by
     rcases Nat.lt_succ_iff_lt_or_eq.1 hj with h | rfl
     ·exact HB.out j y h hy
     ·rw [HXX.out] at hy; cases hy; exact HQ.out), HX2⟩
    case measure => simp [intOf]; omega
   | true =>
    rw [hq] at hp1
    have HK := Lib.hid (idx_hit HXX.out hq HB.out)
    have HP1 := Lib.hid hp1
    clear hp1
    clear hq
    go_wp2_with fail
    refine (HP1.out).mono ?_
    rintro e w' ⟨rfl, ho⟩
    have HX2 := Lib.hid (HX.out.ext ho)
    clear ho
    go_wp2
    go_ret
    exact ⟨by rw [hR.out, HK.out]; rfl, HX2.out⟩
  ·have HK := Lib.hid (idx_none (p := p) (l := l) fun j y hy => HB.out j y (by have := (List.getElem?_eq_some_iff.1 hy).1; omega) hy)
   go_wp2
   go_ret
   exact ⟨by rw [hR.out, HK.out]; rfl, HX.out⟩

theorem containsFunc_S0 (g : Nat) (p : Nat → Bool) (w : World) (v : Value) (l : List Nat) (hv : Rd (fun b => .pointer (some ⟨b, 0, none⟩)) w v l) (eg : ∀ args w, (callFunc g args).run Tryz.prog w = .ok (.enter g args) w)
  (hp : ∀ w1, Ext w w1 → ∀ x, x ∈ l → Calls Tryz.prog g #[.pointer (some ⟨x, 0, none⟩)] w1 (RetE (.bool (p x)) w1)) :
  Calls Tryz.prog 185 #[v, .func (.func g) #[] #[]] w (RetE (.bool (l.any p)) w) := by
 have HI := Lib.hid (indexFunc_S0 g  p w v l hv eg hp)
 rw [← idx_any]
 generalize idx p l = R at HI ⊢
 obtain ⟨a, cap, rfl, _, _, _⟩ := hv
 clear hp eg
 go_enter Tryz.func185, Tryz.ntmps185
 go_wp2_with fail
 refine (HI.out).mono ?_
 rintro e w1 ⟨rfl, ho⟩
 have HO := Lib.hid ho
 clear ho
 go_wp2_with fail
 go_ret
 exact ⟨rfl, HO.out⟩

end Go.Proofs.YtnmhaipjfpongacGreatDoor

namespace Go.Proofs.YtnmhaipjfpongacGreatDoor
open Go.ChangeShapes Go.WideShapes Go.ChangeAt Go.RowKit

theorem addr_addR (b off n : Nat) : (⟨b, off, none⟩ : Addr).add n = ⟨b, off + n, none⟩ := by
 unfold Addr.add
 split
 ·subst_vars; rfl
 ·rfl

theorem texts_trod {H : Type} {enc : TypeId × Value → H} {w : World} {base : Nat} {spare : Nat → Bool} {held : Bool} {fuel : Nat} {v : Value} {x : DataW H × List MemPlace}
  (h : DataW.trod enc Tryz.prog w base spare held fuel 53 [v] = some x) : ∃ l : List B, Rd S w v l := by
 obtain ⟨d, ps⟩ := x
 rcases open_strings Tryz.underlying53 Tryz.underlying9 (by kernel_rfl) h with ⟨h0, _⟩ | ⟨ad, len, cap, ss, h0, _, hl, hm, hss, _, hc, _⟩
 ·cases h0
  exact ⟨[], Rd.nil _ _⟩
 ·cases h0
  have hle : len ≤ ss.length := by rw [hss]; split <;> omega
  refine ⟨(ss.take len).map (·.data.toList), some ad, cap, by simp [Nat.min_eq_left hle], by simpa [Nat.min_eq_left hle] using hl, hm, fun hne => ?_⟩
  have hpos : 0 < ss.length := by
   rcases Nat.eq_zero_or_pos ss.length with h | h
   ·exact absurd (by simp [List.length_eq_zero_iff.1 h]) hne
   ·exact h
  obtain ⟨b, off, spot⟩ := ad
  have h00 := hc 0 hpos
  have hs : spot = none := by simpa [Addr.add] using World.cell?_spot h00
  subst hs
  refine ⟨b, off, rfl, fun i x hx => ?_⟩
  rw [List.getElem?_map] at hx
  obtain ⟨y, hy, rfl⟩ := Option.map_eq_some_iff.1 hx
  have hi : i < len := by have := (List.getElem?_eq_some_iff.1 hy).1; simp at this; omega
  rw [List.getElem?_take_of_lt hi] at hy
  have := hc i (by omega)
  rw [addr_addR, List.getD_eq_getElem?_getD, hy] at this
  simpa using this

theorem cellsRule : Tryz.prog.cellsOf 55 = 4 := by kernel_rfl

theorem open_rules {H : Type} {enc : TypeId × Value → H} {w : World} {base : Nat} {spare : Nat → Bool} {held : Bool} {fuel : Nat} {a : Option Addr} {len cap : Nat} {x : DataW H × List MemPlace}
  (h : DataW.trod enc Tryz.prog w base spare held fuel 23 [.slice a len cap] = some x) (_hr : ∀ n ∈ x.1.weights Tryz.prog 23, n ≤ 140737488351232) :
  ∃ l : List Rule, l.length = len ∧ RdR w (.slice a len cap) l ∧ True := by
 rcases open_slice_fields Tryz.underlying23 Tryz.underlying55 (by kernel_rfl) cellsRule h with ⟨h0, _⟩ | ⟨ad, len', cap', m, D, Pl, hcs, _, hl, hm, hmm, hxx, hi⟩
 ·cases h0
  exact ⟨[], rfl, RdR.nil _, trivial⟩
 ·cases hcs
  have key : ∀ i, ∃ y : Rule × Value, i < len → (w.cell? (ad.add (i * 4)) = some (S y.1.out) ∧ w.cell? (ad.add (i * 4 + 1)) = some (S y.1.kind) ∧ w.cell? (ad.add (i * 4 + 2)) = some (S y.1.word) ∧ w.cell? (ad.add (i * 4 + 3)) = some y.2) ∧ Rd S w y.2 y.1.ins := by
   intro i
   by_cases hlt : i < len
   ·have him : i < m := by rw [hmm]; split <;> omega
    obtain ⟨ys, n, hD, _, hyl, hf⟩ := hi i him
    obtain ⟨v0, y0, c0, g0, t0⟩ := hf 0 _ rfl
    obtain ⟨v1, y1, c1, g1, t1⟩ := hf 1 _ rfl
    obtain ⟨v2, y2, c2, g2, t2⟩ := hf 2 _ rfl
    obtain ⟨v3, y3, c3, g3, t3⟩ := hf 3 _ rfl
    obtain ⟨p, e0, z0, _⟩ := DataW.trod_string Tryz.underlying9 t0
    obtain ⟨k, e1, z1, _⟩ := DataW.trod_string Tryz.underlying9 t1
    obtain ⟨s, e2, z2, _⟩ := DataW.trod_string Tryz.underlying9 t2
    obtain ⟨q, hq⟩ := texts_trod t3
    cases e0; cases e1; cases e2
    exact ⟨(⟨p.data.toList, k.data.toList, s.data.toList, q⟩, v3), fun _ => ⟨⟨c0, c1, c2, c3⟩, hq⟩⟩
   ·exact ⟨(⟨[], [], [], []⟩, .nilIface), fun h => absurd h hlt⟩
  refine ⟨(List.range len).map fun i => (Classical.choose (key i)).1, by simp, ⟨some ad, cap, by simp, by simpa using hl, hm, fun hne => ?_⟩, trivial⟩
  have hpos : 0 < len := by
   rcases Nat.eq_zero_or_pos len with h | h
   ·subst h; simp at hne
   ·exact h
  obtain ⟨b, off, spot⟩ := ad
  have hs : spot = none := by
   have := (Classical.choose_spec (key 0) hpos).1.1
   simpa [Addr.add] using World.cell?_spot this
  subst hs
  refine ⟨b, off, rfl, fun i r hx => ?_⟩
  have hlt : i < len := by have := (List.getElem?_eq_some_iff.1 hx).1; simpa using this
  have he : (Classical.choose (key i)).1 = r := by
   rw [List.getElem?_map, List.getElem?_range hlt] at hx
   simpa using hx
  obtain ⟨⟨h0, h1, h2, h3⟩, h4⟩ := Classical.choose_spec (key i) hlt
  subst he
  have e := fun n => congrArg w.cell? (addr_addR b off n)
  exact ⟨_, h4, (e _).symm.trans h0, (e _).symm.trans h1, (e _).symm.trans h2, (e _).symm.trans h3⟩
end Go.Proofs.YtnmhaipjfpongacGreatDoor

namespace Go.Proofs.YtnmhaipjfpongacGreatDoor
open Go.ChangeShapes Go.WideShapes Go.ChangeAt Go.RowKit

theorem cellsFile : Tryz.prog.cellsOf 65 = 2 := by kernel_rfl

end Go.Proofs.YtnmhaipjfpongacGreatDoor

/- Texts of this seat laid together for one claim: C1. No condition of its own: what each proves stands with its theorems. -/
import Derived.Deep.LoopGhost
import Derived.Lib.Hide
import Derived.Sort.OwnSorted
import Derived.Test.YtnmhaipjfpongacGreatDoorProg
import Derived.WalkLawsBesides
import Derived.WalkSpells
import Derived.Test.YtnmhaipjfpongacGreatDoorPA0
import Derived.Test.YtnmhaipjfpongacGreatDoorPA1
namespace Go.Proofs.YtnmhaipjfpongacGreatDoor
open Go.ChangeShapes Go.WideShapes Go.ChangeAt Go.RowKit

def Tests (g : Nat) (caps : Array Value) (p : B → Bool) (w : World) : Prop :=
 ∀ x, Calls Tryz.prog g (#[S x] ++ caps) w fun e w' => e = .returned (.bool (p x)) ∧ w = w'

def TestsOn (l : List B) (g : Nat) (caps : Array Value) (p : B → Bool) (w : World) : Prop :=
 ∀ x, x ∈ l → Calls Tryz.prog g (#[S x] ++ caps) w fun e w' => e = .returned (.bool (p x)) ∧ w = w'
theorem Tests.on {g : Nat} {caps : Array Value} {p : B → Bool} {w : World} (h : Tests g caps p w) (l : List B) : TestsOn l g caps p w := fun x _ => h x
theorem getD_mem {l : List B} {k : Nat} (h : k < l.length) : l.getD k [] ∈ l := by
 rw [List.getD_eq_getElem?_getD, List.getElem?_eq_getElem h]
 exact List.getElem_mem h

theorem getElem?_getD {α : Type} {l : List α} {i : Nat} (d : α) (h : i < l.length) : l[i]? = some (l.getD i d) := by
 rw [List.getD_eq_getElem?_getD, List.getElem?_eq_getElem h]; rfl

set_option maxHeartbeats 400000 in
theorem indexFunc_on (g : Nat) (x0 : Value) (p : B → Bool) (w : World) (v : Value) (l : List B) (n : Nat) (hv : Rd S w v l) (hn : n ≤ l.length)
  (h1 : ∀ j, j < n → p (l.getD j []) = false) (h2 : n < l.length → p (l.getD n []) = true) (eg : ∀ args w, (callFunc g args).run Tryz.prog w = .ok (.enter g args) w) (hp : TestsOn l g #[x0] p w) :
  Calls Tryz.prog 285 #[v, .func (.func g) #[] #[x0]] w fun e w' => e = .returned (I (if n < l.length then (n : Int) else -1)) ∧ w = w' := by
 obtain ⟨a, cap, rfl, hcap, hm, hc⟩ := hv
 have hm' : l.length ≤ 9223372036854775807 := by unfold maxLen at hm; omega
 clear hm
 go_enter Tryz.func285, Tryz.ntmps285
 go_wp2
 go_loop [8] (fun i => ∃ k : Nat, k ≤ n ∧ i = .int .i64 k) (fun i => n + 1 - (intOf i).toNat)
 case atStart => exact ⟨0, Nat.zero_le _, rfl⟩
 case round =>
  obtain ⟨k, hk, rfl⟩ := hrel
  by_cases hlt : k < l.length
  ·obtain ⟨b, off, rfl, hcell⟩ := hc (by intro h; rw [h] at hlt; simp at hlt)
   have hcl := hcell k _ (getElem?_getD [] hlt)
   have hp1 := hp (l.getD k []) (getD_mem hlt)
   clear hcell hc hp
   by_cases hkn : k < n
   ·rw [h1 k hkn] at hp1
    have H2 := Lib.hid h2; have H1 := Lib.hid h1
    clear h1 h2
    generalize l.getD k [] = x at *
    have HP := Lib.hid hp1
    clear hp1
    go_wp2_with fail
    refine HP.out.mono ?_
    rintro e w' ⟨rfl, rfl⟩
    go_wp2
    go_round
    case rel => exact ⟨k + 1, by omega, by go_num⟩
    case measure => simp [intOf]; omega
   ·have hkn : k = n := by omega
    subst hkn
    rw [h2 hlt] at hp1
    clear h1 h2
    generalize l.getD k [] = x at *
    have HP := Lib.hid hp1
    clear hp1
    go_wp2_with fail
    refine HP.out.mono ?_
    rintro e w' ⟨rfl, rfl⟩
    go_wp2
    go_ret
    exact ⟨rfl, rfl⟩
  ·clear hc h1 h2 hp
   have : k = n := by omega
   subst this
   go_wp2
   go_ret
   exact ⟨rfl, rfl⟩
def Struck (p : B → Bool) (l : List B) (cur : Array Value) (k1 k2 : Nat) : Prop :=
 k1 < k2 ∧ k2 ≤ l.length ∧ l.length ≤ cur.size ∧ ((l.take k2).filter fun s => !p s).length = k1 ∧ cur.toList.take k1 = ((l.take k2).filter fun s => !p s).map S ∧ ∀ t, k2 ≤ t → t < l.length → cur[t]? = some (S (l.getD t []))

theorem take_succ_getD (l : List B) (k : Nat) (h : k < l.length) : l.take (k + 1) = l.take k ++ [l.getD k []] := by
 rw [List.take_succ_eq_append_getElem h, List.getD_eq_getElem?_getD, List.getElem?_eq_getElem h]; rfl

theorem Struck.start {p : B → Bool} {l : List B} {cur : Array Value} {n : Nat} (hn : n < l.length) (hs : l.length ≤ cur.size) (h1 : ∀ j, j < n → p (l.getD j []) = false) (h2 : p (l.getD n []) = true)
  (hc : ∀ t, t < l.length → cur[t]? = some (S (l.getD t []))) : Struck p l cur n (n + 1) := by
 have hf : (l.take n).filter (fun s => !p s) = l.take n := List.filter_eq_self.2 fun x hx => by
  obtain ⟨j, hj, rfl⟩ := List.mem_iff_getElem.1 hx
  simp at hj
  have := h1 j (by omega)
  rw [List.getD_eq_getElem?_getD, List.getElem?_eq_getElem (by omega)] at this
  simpa using this
 have hl : (l.take n).length = n := by simp; omega
 refine ⟨by omega, hn, hs, ?_, ?_, fun t _ ht => hc t ht⟩
 ·rw [take_succ_getD l n hn, List.filter_append, hf, List.filter_cons_of_neg (by simpa using h2)]; simpa using hl
 ·rw [take_succ_getD l n hn, List.filter_append, hf, List.filter_cons_of_neg (by simpa using h2), List.filter_nil, List.append_nil]
  apply List.ext_getElem?
  intro i
  rw [List.getElem?_take]
  split
  ·rename_i hi
   rw [Array.getElem?_toList, hc i (by omega), List.getElem?_map, List.getElem?_take, if_pos hi, List.getD_eq_getElem?_getD, List.getElem?_eq_getElem (by omega : i < l.length)]
   rfl
  ·rw [List.getElem?_eq_none]; simp; omega

theorem Struck.skip {p : B → Bool} {l : List B} {cur : Array Value} {k1 k2 : Nat} (h : Struck p l cur k1 k2) (hk : k2 < l.length) (hp : p (l.getD k2 []) = true) : Struck p l cur k1 (k2 + 1) := by
 obtain ⟨a, b, c, d, e, f⟩ := h
 have : (l.take (k2 + 1)).filter (fun s => !p s) = (l.take k2).filter (fun s => !p s) := by rw [take_succ_getD l k2 hk, List.filter_append, List.filter_cons_of_neg (by simpa using hp)]; simp
 exact ⟨by omega, hk, c, by rw [this, d], by rw [this, e], fun t h1 h2 => f t (by omega) h2⟩

theorem Struck.keep {p : B → Bool} {l : List B} {cur : Array Value} {k1 k2 : Nat} (h : Struck p l cur k1 k2) (hk : k2 < l.length) (hp : p (l.getD k2 []) = false) : Struck p l (cur.setIfInBounds k1 (S (l.getD k2 []))) (k1 + 1) (k2 + 1) := by
 obtain ⟨a, b, c, d, e, f⟩ := h
 have : (l.take (k2 + 1)).filter (fun s => !p s) = (l.take k2).filter (fun s => !p s) ++ [l.getD k2 []] := by rw [take_succ_getD l k2 hk, List.filter_append, List.filter_cons_of_pos (by simpa using hp)]; simp
 refine ⟨by omega, hk, by simpa using c, by rw [this]; simp [d], ?_, fun t h1 h2 => ?_⟩
 ·rw [this, List.map_append, ← e, Array.toList_setIfInBounds]
  apply List.ext_getElem?
  intro i
  rw [List.getElem?_take, List.getElem?_set]
  by_cases hi : i < k1
  ·rw [if_pos (by omega), if_neg (by omega), List.getElem?_append_left (by simp; omega), List.getElem?_take, if_pos hi]
  ·by_cases hi2 : i = k1
   ·subst hi2
    have hlt : i < cur.toList.length := by simp; omega
    simp only [Nat.lt_succ_self, if_true, hlt]
    rw [List.getElem?_append_right (by rw [List.length_take]; omega), List.length_take, Nat.min_eq_left (by omega)]
    simp
   ·have : k1 ≤ cur.toList.length := by simp; omega
    rw [if_neg (by omega), List.getElem?_append_right (by rw [List.length_take]; omega), List.getElem?_eq_none]
    rw [List.length_take]; simp; omega
 ·rw [Array.getElem?_setIfInBounds, if_neg (by omega)]
  exact f t (by omega) h2

theorem zeroStr : ∀ w, (zeroValue 9).run Tryz.prog w = .ok (.string ⟨#[]⟩) w := fun w => by kernel_rfl

def Deleted (w : World) (base : Nat) (v : Value) (l : List B) (e : Ending) (w' : World) : Prop :=
 ∃ v', e = .returned v' ∧ w'.ownsRow base 9 1 v' l.length (l.map S) ∧ Only (fun k => v.ownBlock = some k) w w' ∧ v'.ownBlock = v.ownBlock

set_option maxHeartbeats 1000000 in
theorem deleteFunc_on (g : Nat) (x0 : Value) (p : B → Bool) (w : World) (base : Nat) (v : Value) (l : List B) (hrow : w.ownsRow base 9 1 v l.length (l.map S))
  (eg : ∀ args w, (callFunc g args).run Tryz.prog w = .ok (.enter g args) w) (hp : ∀ w', Only (fun k => v.ownBlock = some k) w w' → TestsOn l g #[x0] p w') :
  Calls Tryz.prog 253 #[v, .func (.func g) #[] #[x0]] w (Deleted w base v (l.filter fun s => !p s)) := by
 have hrd := Rd.of_row hrow
 by_cases hall : ∀ j, j < l.length → p (l.getD j []) = false
 ·have hI := indexFunc_on g x0 p w v l l.length hrd (Nat.le_refl _) hall (fun h => absurd h (Nat.lt_irrefl _)) eg (hp w (Only.refl _ _))
  rw [if_neg (Nat.lt_irrefl _)] at hI
  have hf : l.filter (fun s => !p s) = l := List.filter_eq_self.2 fun x hx => by
   obtain ⟨j, hj, rfl⟩ := List.mem_iff_getElem.1 hx
   have := hall j hj
   rw [List.getD_eq_getElem?_getD, List.getElem?_eq_getElem hj] at this
   simpa using this
  rw [hf]
  have HI := Lib.hid hI
  have HR := Lib.hid hrow
  clear hI hall hp hrd hrow hf
  go_enter Tryz.func253, Tryz.ntmps253
  go_wp2_with (go_at_call 285; refine HI.out.mono ?_; rintro e w' ⟨rfl, rfl⟩)
  go_ret
  exact ⟨_, rfl, HR.out, Only.refl _ _, rfl⟩
 ·obtain ⟨n, hn, h1, h2⟩ : ∃ n, n < l.length ∧ (∀ j, j < n → p (l.getD j []) = false) ∧ p (l.getD n []) = true := by
   have : ∃ n, n < l.length ∧ p (l.getD n []) = true := by
    refine Classical.byContradiction fun h => hall fun j hj => ?_
    cases hpj : p (l.getD j []) with
    | false => rfl
    | true => exact absurd ⟨j, hj, hpj⟩ h
   obtain ⟨m, hm⟩ := this
   induction m using Nat.strongRecOn with
   | ind m ih =>
    by_cases hex : ∃ j, j < m ∧ p (l.getD j []) = true
    ·obtain ⟨j, hj, hpj⟩ := hex
     exact ih j hj ⟨by omega, hpj⟩
    ·refine ⟨m, hm.1, fun j hj => ?_, hm.2⟩
     cases hpj : p (l.getD j []) with
     | false => rfl
     | true => exact absurd ⟨j, hj, hpj⟩ hex
  have hI := indexFunc_on g x0 p w v l n hrd (by omega) h1 (fun _ => h2) eg (hp w (Only.refl _ _))
  rw [if_pos hn] at hI
  obtain ⟨hlen, hrow⟩ := hrow
  rcases hrow with ⟨rfl, h0⟩ | ⟨g0, cap, cur0, rfl, hg0, hh, hcap, hm, hsz, htk⟩
  ·omega
  have hm' : l.length ≤ 9223372036854775807 := by unfold maxLen at hm; omega
  have hcells : ∀ t, t < l.length → cur0[t]? = some (S (l.getD t [])) := fun t ht => by
   have : (cur0.toList.take (l.length * 1))[t]? = (l.map S)[t]? := by rw [htk]
   rw [List.getElem?_take, if_pos (by omega), Array.getElem?_toList] at this
   rw [this, List.getElem?_map, getElem?_getD [] ht]; rfl
  have hst := Struck.start (p := p) hn (by omega) h1 h2 hcells
  have HI := Lib.hid hI
  have HP := Lib.hid hp
  have HS := Lib.hid hst
  have HH := Lib.hid hh
  have HM := Lib.hid hm
  have HZ := Lib.hid hsz
  have EG := Lib.hid eg
  have hne1 : ((n : Int) == -1) = false := beq_eq_false_iff_ne.2 (by omega)
  clear hI hp hst hh hm hsz h1 h2 htk hcells hrd hlen hall
  go_enter Tryz.func253, Tryz.ntmps253
  go_wp2_with (go_at_call 285; refine HI.out.mono ?_; rintro e w' ⟨rfl, rfl⟩)
  clear EG
  go_loopw [5, 6] (fun a b wr => ∃ k1 k2 : Nat, k2 ≤ l.length ∧ a = .int .i64 k1 ∧ b = .int .i64 k2 ∧ ∃ cur : Array Value, wr.heap[g0]? = some (.cells cur 9 (0, 0)) ∧ cur.size = cap * 1 ∧ Only (fun k => k = g0) w wr ∧ Struck p l cur k1 k2) (fun _ b _ => l.length - (intOf b).toNat)
  case atStart => exact ⟨n, n + 1, by omega, rfl, by go_num, cur0, HH.out, HZ.out, Only.refl _ _, HS.out⟩
  case round =>
   obtain ⟨k1, k2, hk2, rfl, rfl, cur, hh, hsz, hon, hst⟩ := hrel
   have hst' := hst
   obtain ⟨s1, s2, s3, _, _, s6⟩ := hst'
   by_cases hlt : k2 < l.length
   ·have c2 : wr.cell? ⟨g0, k2, none⟩ = some (S (l.getD k2 [])) := (cell_of_heap hh k2).trans (s6 k2 (Nat.le_refl _) hlt)
    obtain ⟨old, c1⟩ : ∃ old, wr.cell? ⟨g0, k1, none⟩ = some old := ⟨cur[k1]'(by omega), by rw [cell_of_heap hh k1]; exact Array.getElem?_eq_getElem (by omega)⟩
    have f1 : wr.frozen? ⟨g0, k1, none⟩ = false := free_of_heap hh k1
    have hcall := HP.out wr (hon.mono fun k _ e => by rw [e]; rfl) (l.getD k2 []) (getD_mem hlt)
    have HO := Lib.hid hon
    have HH2 := Lib.hid hh
    have HZ2 := Lib.hid hsz
    have HST := Lib.hid hst
    clear hon hh hsz hst s6
    cases hq : p (l.getD k2 []) with
    | true =>
     rw [hq] at hcall
     have HQ := Lib.hid hq
     clear hq
     obtain ⟨x, HX⟩ : ∃ x, Hid (l.getD k2 [] = x) := ⟨_, Lib.hid rfl⟩
     rw [HX.out] at c2 hcall
     have HC := Lib.hid hcall
     clear hcall
     go_wp2_with fail
     refine HC.out.mono ?_
     rintro e w' ⟨rfl, rfl⟩
     go_wp2
     go_roundw
     case rel => exact ⟨k1, k2 + 1, by omega, rfl, by go_num, cur, HH2.out, HZ2.out, HO.out, HST.out.skip hlt HQ.out⟩
     case measure => simp [intOf]; omega
    | false =>
     rw [hq] at hcall
     have HQ := Lib.hid hq
     clear hq
     obtain ⟨x, HX⟩ : ∃ x, Hid (l.getD k2 [] = x) := ⟨_, Lib.hid rfl⟩
     rw [HX.out] at c2 hcall
     have HC := Lib.hid hcall
     clear hcall
     go_wp2_with fail
     refine HC.out.mono ?_
     rintro e w' ⟨rfl, rfl⟩
     go_wp2
     go_roundw
     case rel => exact ⟨k1 + 1, k2 + 1, by omega, by go_num, by go_num, _, heap_setCell_same HH2.out k1 _, by simpa using HZ2.out, HO.out.thenSet _ (.inl rfl), by rw [← HX.out]; exact HST.out.keep hlt HQ.out⟩
     case measure => simp [intOf]; omega
   ·have hk : k2 = l.length := by omega
    subst hk
    have hcl : ∀ ty, (Builtin.clear_ #[53] ty #[.slice (some ⟨g0, k1, none⟩) (l.length - k1) (cap - k1)]).run Tryz.prog wr = .ok (.tuple #[]) (wr.setCells g0 k1 (List.replicate (l.length - k1) (.string ⟨#[]⟩))) :=
     fun ty => Lib.run_clear_slice wr _ 9 ty _ Tryz.underlying53 zeroStr rfl rfl g0 k1 _ _ (by omega) (fun t ht => by rw [cell_of_heap hh, Array.getElem?_eq_getElem (by omega)]; rfl) (fun t ht => free_of_heap hh _)
    have HO := Lib.hid hon
    have HH2 := Lib.hid hh
    have HZ2 := Lib.hid hsz
    have HST := Lib.hid hst
    have hlt' : ¬ ((l.length : Int) < (l.length : Int)) := by omega
    clear hon hh hsz hst s6
    go_wp2
    go_ret
    obtain ⟨t1, t2, t3, t4, t5, _⟩ := HST.out
    rw [List.take_length] at t4 t5
    have hz := HZ2.out
    refine ⟨.slice (some ⟨g0, 0, none⟩) k1 cap, rfl, ⟨by simp, .inr ⟨g0, cap, _, by rw [t4], hg0, heap_setCells _ _ _ _ HH2.out, by omega, HM.out, by rw [size_putAll]; exact hz, ?_⟩⟩, ?_, rfl⟩
    ·rw [Nat.mul_one, t4, take_putAll _ _ _ _ (Nat.le_refl _), t5]
    ·exact (HO.out.then (only_setCells _ _ _ _)).mono fun k _ e => by rw [e]; rfl

theorem deleteFunc_str (g : Nat) (x0 : Value) (p : B → Bool) (w : World) (base : Nat) (v : Value) (l : List B) (hrow : w.ownsRow base 9 1 v l.length (l.map S))
  (eg : ∀ args w, (callFunc g args).run Tryz.prog w = .ok (.enter g args) w) (hp : ∀ w', Only (fun k => v.ownBlock = some k) w w' → Tests g #[x0] p w') :
  Calls Tryz.prog 253 #[v, .func (.func g) #[] #[x0]] w (Deleted w base v (l.filter fun s => !p s)) :=
 deleteFunc_on g x0 p w base v l hrow eg fun w' h => (hp w' h).on l

theorem delete_first (w : World) (base : Nat) (v : Value) (x : B) (l : List B) (hrow : w.ownsRow base 9 1 v (l.length + 1) ((x :: l).map S)) :
  Calls Tryz.prog 193 #[v, I 0, I 1] w (Deleted w base v l) := by
 obtain ⟨hlen, hrow⟩ := hrow
 rcases hrow with ⟨rfl, h0⟩ | ⟨g0, cap, cur0, rfl, hg0, hh, hcap, hm, hsz, htk⟩
 ·omega
 have hm' : cap ≤ 9223372036854775807 := by unfold maxLen at hm; omega
 have hH := holds_of_block (ss := x :: l) hh (by rw [← htk]; simp)
 have hc := Tryz.slices_Delete_string g0 0 cap 0 1 (x :: l) w hH hcap hm' (Nat.zero_le _) (by simp)
 refine hc.mono ?_
 rintro e w' ⟨rfl, q, rfl⟩
 have e1 : (List.take 0 (x :: l) ++ List.drop 1 (x :: l) ++ List.replicate (1 - 0) []) = l ++ [[]] := by simp
 rw [e1]
 have h := ownsRow_sorted (w := w) (n := q) (os := #[]) (base := base) (g := g0) (cap := cap) (e := 9) (cur := cur0) (ss := x :: l) (ts := l ++ [[]]) (by simp) hg0 hh hcap hm hsz
 have hb := grownBy_sorted (w := w) (g := g0) (n := q) (os := #[]) (l ++ [[]]).toArray
 rw [Go.Sort.grow_empty] at h hb
 refine ⟨_, rfl, ?_, (Only.of_grown hb).mono fun k _ e => e, rfl⟩
 exact row_take h l.length (by simp) (by simp)

theorem enters60 : ∀ args w, (callFunc 254 args).run Tryz.prog w = .ok (.enter 254 args) w := fun args w => by kernel_rfl

set_option maxHeartbeats 400000 in
theorem last1_tests (b : Nat) (k : B) (w : World) (h : w.cell? ⟨b, 0, none⟩ = some (S k)) : Tests 254 #[.pointer (some ⟨b, 0, none⟩)] (fun s => s == k) w := by
 intro x
 go_enter Tryz.func254, Tryz.ntmps254
 go_wp2
 go_ret
 exact ⟨rfl, rfl⟩
end Go.Proofs.YtnmhaipjfpongacGreatDoor

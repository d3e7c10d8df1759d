/- Texts of this seat laid together: C1, C2, C3, C4, Q2, Q1, Q3, Q4, Q5, Q6, Q8. No condition of its own: what each proves stands with its theorems. -/
import Derived.Test.YtnmhaipjfpongacGreatDoorProg
import Derived.Test.YtnmhaipjfpongacGreatDoorGa
import Derived.WalkLawsBesides
import Derived.WalkSpells
import Derived.Lib.Hide
import Derived.Deep.LoopGhost
import Derived.Test.YtnmhaipjfpongacGreatDoorGb
import Derived.Sort.OwnSorted
import Derived.Deep.RegionLaw
import Derived.Deep.RegionHeld3
import Derived.Deep.AppendLies
import Derived.Lib.Split
import Derived.Lib.IndexBytes
import Derived.BigQuiet
import Derived.BigGuard
import Derived.Lib.ConvBytes
import Derived.Laws.AppendOwn
import Derived.Test.YtnmhaipjfpongacGreatDoorGc
namespace Go.Proofs.YtnmhaipjfpongacGreatDoor
open Go.ChangeShapes Go.WideShapes Go.ChangeAt Go.RowKit

/-- A function value that tests one string and leaves the world alone. -/
def Tests (g : Nat) (caps : Array Value) (p : B → Bool) (w : World) : Prop :=
  ∀ x, Calls Tryz.prog g (#[S x] ++ caps) w fun e w' => e = .returned (.bool (p x)) ∧ w = w'

def TestsOn (l : List B) (g : Nat) (caps : Array Value) (p : B → Bool) (w : World) : Prop :=
  ∀ x, x ∈ l → Calls Tryz.prog g (#[S x] ++ caps) w fun e w' => e = .returned (.bool (p x)) ∧ w = w'
theorem Tests.on {g : Nat} {caps : Array Value} {p : B → Bool} {w : World} (h : Tests g caps p w) (l : List B) : TestsOn l g caps p w := fun x _ => h x
theorem getD_mem {l : List B} {k : Nat} (h : k < l.length) : l.getD k [] ∈ l := by
  rw [List.getD_eq_getElem?_getD, List.getElem?_eq_getElem h]
  exact List.getElem_mem h

theorem getElem?_getD {α : Type} {l : List α} {i : Nat} (d : α) (h : i < l.length) : l[i]? = some (l.getD i d) := by
  rw [List.getD_eq_getElem?_getD, List.getElem?_eq_getElem h]; rfl

set_option maxHeartbeats 400000 in
/-- slices.IndexFunc: the first k elements are refused; the next, if there is one, is taken. -/
theorem indexFunc_on (g : Nat) (x0 : Value) (p : B → Bool) (w : World) (v : Value) (l : List B) (n : Nat) (hv : Rd S w v l) (hn : n ≤ l.length)
    (h1 : ∀ j, j < n → p (l.getD j []) = false) (h2 : n < l.length → p (l.getD n []) = true) (eg : ∀ args w, (callFunc g args).run Tryz.prog w = .ok (.enter g args) w) (hp : TestsOn l g #[x0] p w) :
    Calls Tryz.prog 285 #[v, .func (.func g) #[] #[x0]] w fun e w' => e = .returned (I (if n < l.length then (n : Int) else -1)) ∧ w = w' := by
  obtain ⟨a, cap, rfl, hcap, hm, hc⟩ := hv
  have hm' : l.length ≤ 9223372036854775807 := by unfold maxLen at hm; omega
  clear hm
  go_enter Tryz.func285, Tryz.ntmps285
  go_wp2
  go_loop [8] (fun i => ∃ k : Nat, k ≤ n ∧ i = .int .i64 k) (fun i => n + 1 - (intOf i).toNat)
  case atStart => exact ⟨0, Nat.zero_le _, rfl⟩
  case round =>
    obtain ⟨k, hk, rfl⟩ := hrel
    by_cases hlt : k < l.length
    · obtain ⟨b, off, rfl, hcell⟩ := hc (by intro h; rw [h] at hlt; simp at hlt)
      have hcl := hcell k _ (getElem?_getD [] hlt)
      have hp1 := hp (l.getD k []) (getD_mem hlt)
      clear hcell hc hp
      by_cases hkn : k < n
      · rw [h1 k hkn] at hp1
        have H2 := Lib.hid h2; have H1 := Lib.hid h1
        clear h1 h2
        generalize l.getD k [] = x at *
        have HP := Lib.hid hp1
        clear hp1
        go_wp2_with fail
        refine HP.out.mono ?_
        rintro e w' ⟨rfl, rfl⟩
        go_wp2
        go_round
        case rel => exact ⟨k + 1, by omega, by go_num⟩
        case measure => simp [intOf]; omega
      · have hkn : k = n := by omega
        subst hkn
        rw [h2 hlt] at hp1
        clear h1 h2
        generalize l.getD k [] = x at *
        have HP := Lib.hid hp1
        clear hp1
        go_wp2_with fail
        refine HP.out.mono ?_
        rintro e w' ⟨rfl, rfl⟩
        go_wp2
        go_ret
        exact ⟨rfl, rfl⟩
    · clear hc h1 h2 hp
      have : k = n := by omega
      subst this
      go_wp2
      go_ret
      exact ⟨rfl, rfl⟩
/-- What a slice of strings holds while those that p takes are struck out: k1 are kept of the first k2. -/
def Struck (p : B → Bool) (l : List B) (cur : Array Value) (k1 k2 : Nat) : Prop :=
  k1 < k2 ∧ k2 ≤ l.length ∧ l.length ≤ cur.size ∧ ((l.take k2).filter fun s => !p s).length = k1 ∧ cur.toList.take k1 = ((l.take k2).filter fun s => !p s).map S ∧ ∀ t, k2 ≤ t → t < l.length → cur[t]? = some (S (l.getD t []))

theorem take_succ_getD (l : List B) (k : Nat) (h : k < l.length) : l.take (k + 1) = l.take k ++ [l.getD k []] := by
  rw [List.take_succ_eq_append_getElem h, List.getD_eq_getElem?_getD, List.getElem?_eq_getElem h]; rfl

theorem Struck.start {p : B → Bool} {l : List B} {cur : Array Value} {n : Nat} (hn : n < l.length) (hs : l.length ≤ cur.size) (h1 : ∀ j, j < n → p (l.getD j []) = false) (h2 : p (l.getD n []) = true)
    (hc : ∀ t, t < l.length → cur[t]? = some (S (l.getD t []))) : Struck p l cur n (n + 1) := by
  have hf : (l.take n).filter (fun s => !p s) = l.take n := List.filter_eq_self.2 fun x hx => by
    obtain ⟨j, hj, rfl⟩ := List.mem_iff_getElem.1 hx
    simp at hj
    have := h1 j (by omega)
    rw [List.getD_eq_getElem?_getD, List.getElem?_eq_getElem (by omega)] at this
    simpa using this
  have hl : (l.take n).length = n := by simp; omega
  refine ⟨by omega, hn, hs, ?_, ?_, fun t _ ht => hc t ht⟩
  · rw [take_succ_getD l n hn, List.filter_append, hf, List.filter_cons_of_neg (by simpa using h2)]; simpa using hl
  · rw [take_succ_getD l n hn, List.filter_append, hf, List.filter_cons_of_neg (by simpa using h2), List.filter_nil, List.append_nil]
    apply List.ext_getElem?
    intro i
    rw [List.getElem?_take]
    split
    · rename_i hi
      rw [Array.getElem?_toList, hc i (by omega), List.getElem?_map, List.getElem?_take, if_pos hi, List.getD_eq_getElem?_getD, List.getElem?_eq_getElem (by omega : i < l.length)]
      rfl
    · rw [List.getElem?_eq_none]; simp; omega

theorem Struck.skip {p : B → Bool} {l : List B} {cur : Array Value} {k1 k2 : Nat} (h : Struck p l cur k1 k2) (hk : k2 < l.length) (hp : p (l.getD k2 []) = true) : Struck p l cur k1 (k2 + 1) := by
  obtain ⟨a, b, c, d, e, f⟩ := h
  have : (l.take (k2 + 1)).filter (fun s => !p s) = (l.take k2).filter (fun s => !p s) := by rw [take_succ_getD l k2 hk, List.filter_append, List.filter_cons_of_neg (by simpa using hp)]; simp
  exact ⟨by omega, hk, c, by rw [this, d], by rw [this, e], fun t h1 h2 => f t (by omega) h2⟩

theorem Struck.keep {p : B → Bool} {l : List B} {cur : Array Value} {k1 k2 : Nat} (h : Struck p l cur k1 k2) (hk : k2 < l.length) (hp : p (l.getD k2 []) = false) : Struck p l (cur.setIfInBounds k1 (S (l.getD k2 []))) (k1 + 1) (k2 + 1) := by
  obtain ⟨a, b, c, d, e, f⟩ := h
  have : (l.take (k2 + 1)).filter (fun s => !p s) = (l.take k2).filter (fun s => !p s) ++ [l.getD k2 []] := by rw [take_succ_getD l k2 hk, List.filter_append, List.filter_cons_of_pos (by simpa using hp)]; simp
  refine ⟨by omega, hk, by simpa using c, by rw [this]; simp [d], ?_, fun t h1 h2 => ?_⟩
  · rw [this, List.map_append, ← e, Array.toList_setIfInBounds]
    apply List.ext_getElem?
    intro i
    rw [List.getElem?_take, List.getElem?_set]
    by_cases hi : i < k1
    · rw [if_pos (by omega), if_neg (by omega), List.getElem?_append_left (by simp; omega), List.getElem?_take, if_pos hi]
    · by_cases hi2 : i = k1
      · subst hi2
        have hlt : i < cur.toList.length := by simp; omega
        simp only [Nat.lt_succ_self, if_true, hlt]
        rw [List.getElem?_append_right (by rw [List.length_take]; omega), List.length_take, Nat.min_eq_left (by omega)]
        simp
      · have : k1 ≤ cur.toList.length := by simp; omega
        rw [if_neg (by omega), List.getElem?_append_right (by rw [List.length_take]; omega), List.getElem?_eq_none]
        rw [List.length_take]; simp; omega
  · rw [Array.getElem?_setIfInBounds, if_neg (by omega)]
    exact f t (by omega) h2

theorem zeroStr : ∀ w, (zeroValue 9).run Tryz.prog w = .ok (.string ⟨#[]⟩) w := fun w => by kernel_rfl

/-- What slices.DeleteFunc comes to. -/
def Deleted (w : World) (base : Nat) (v : Value) (l : List B) (e : Ending) (w' : World) : Prop :=
  ∃ v', e = .returned v' ∧ w'.ownsRow base 9 1 v' l.length (l.map S) ∧ Only (fun k => v.ownBlock = some k) w w' ∧ v'.ownBlock = v.ownBlock

set_option maxHeartbeats 1000000 in
theorem deleteFunc_on (g : Nat) (x0 : Value) (p : B → Bool) (w : World) (base : Nat) (v : Value) (l : List B) (hrow : w.ownsRow base 9 1 v l.length (l.map S))
    (eg : ∀ args w, (callFunc g args).run Tryz.prog w = .ok (.enter g args) w) (hp : ∀ w', Only (fun k => v.ownBlock = some k) w w' → TestsOn l g #[x0] p w') :
    Calls Tryz.prog 253 #[v, .func (.func g) #[] #[x0]] w (Deleted w base v (l.filter fun s => !p s)) := by
  have hrd := Rd.of_row hrow
  by_cases hall : ∀ j, j < l.length → p (l.getD j []) = false
  · have hI := indexFunc_on g x0 p w v l l.length hrd (Nat.le_refl _) hall (fun h => absurd h (Nat.lt_irrefl _)) eg (hp w (Only.refl _ _))
    rw [if_neg (Nat.lt_irrefl _)] at hI
    have hf : l.filter (fun s => !p s) = l := List.filter_eq_self.2 fun x hx => by
      obtain ⟨j, hj, rfl⟩ := List.mem_iff_getElem.1 hx
      have := hall j hj
      rw [List.getD_eq_getElem?_getD, List.getElem?_eq_getElem hj] at this
      simpa using this
    rw [hf]
    have HI := Lib.hid hI
    have HR := Lib.hid hrow
    clear hI hall hp hrd hrow hf
    go_enter Tryz.func253, Tryz.ntmps253
    go_wp2_with (go_at_call 285; refine HI.out.mono ?_; rintro e w' ⟨rfl, rfl⟩)
    go_ret
    exact ⟨_, rfl, HR.out, Only.refl _ _, rfl⟩
  · obtain ⟨n, hn, h1, h2⟩ : ∃ n, n < l.length ∧ (∀ j, j < n → p (l.getD j []) = false) ∧ p (l.getD n []) = true := by
      have : ∃ n, n < l.length ∧ p (l.getD n []) = true := by
        refine Classical.byContradiction fun h => hall fun j hj => ?_
        cases hpj : p (l.getD j []) with
        | false => rfl
        | true => exact absurd ⟨j, hj, hpj⟩ h
      obtain ⟨m, hm⟩ := this
      induction m using Nat.strongRecOn with
      | ind m ih =>
        by_cases hex : ∃ j, j < m ∧ p (l.getD j []) = true
        · obtain ⟨j, hj, hpj⟩ := hex
          exact ih j hj ⟨by omega, hpj⟩
        · refine ⟨m, hm.1, fun j hj => ?_, hm.2⟩
          cases hpj : p (l.getD j []) with
          | false => rfl
          | true => exact absurd ⟨j, hj, hpj⟩ hex
    have hI := indexFunc_on g x0 p w v l n hrd (by omega) h1 (fun _ => h2) eg (hp w (Only.refl _ _))
    rw [if_pos hn] at hI
    obtain ⟨hlen, hrow⟩ := hrow
    rcases hrow with ⟨rfl, h0⟩ | ⟨g0, cap, cur0, rfl, hg0, hh, hcap, hm, hsz, htk⟩
    · omega
    have hm' : l.length ≤ 9223372036854775807 := by unfold maxLen at hm; omega
    have hcells : ∀ t, t < l.length → cur0[t]? = some (S (l.getD t [])) := fun t ht => by
      have : (cur0.toList.take (l.length * 1))[t]? = (l.map S)[t]? := by rw [htk]
      rw [List.getElem?_take, if_pos (by omega), Array.getElem?_toList] at this
      rw [this, List.getElem?_map, getElem?_getD [] ht]; rfl
    have hst := Struck.start (p := p) hn (by omega) h1 h2 hcells
    have HI := Lib.hid hI
    have HP := Lib.hid hp
    have HS := Lib.hid hst
    have HH := Lib.hid hh
    have HM := Lib.hid hm
    have HZ := Lib.hid hsz
    have EG := Lib.hid eg
    have hne1 : ((n : Int) == -1) = false := beq_eq_false_iff_ne.2 (by omega)
    clear hI hp hst hh hm hsz h1 h2 htk hcells hrd hlen hall
    go_enter Tryz.func253, Tryz.ntmps253
    go_wp2_with (go_at_call 285; refine HI.out.mono ?_; rintro e w' ⟨rfl, rfl⟩)
    clear EG
    go_loopw [5, 6] (fun a b wr => ∃ k1 k2 : Nat, k2 ≤ l.length ∧ a = .int .i64 k1 ∧ b = .int .i64 k2 ∧ ∃ cur : Array Value, wr.heap[g0]? = some (.cells cur 9 (0, 0)) ∧ cur.size = cap * 1 ∧ Only (fun k => k = g0) w wr ∧ Struck p l cur k1 k2) (fun _ b _ => l.length - (intOf b).toNat)
    case atStart => exact ⟨n, n + 1, by omega, rfl, by go_num, cur0, HH.out, HZ.out, Only.refl _ _, HS.out⟩
    case round =>
      obtain ⟨k1, k2, hk2, rfl, rfl, cur, hh, hsz, hon, hst⟩ := hrel
      have hst' := hst
      obtain ⟨s1, s2, s3, _, _, s6⟩ := hst'
      by_cases hlt : k2 < l.length
      · have c2 : wr.cell? ⟨g0, k2, none⟩ = some (S (l.getD k2 [])) := (cell_of_heap hh k2).trans (s6 k2 (Nat.le_refl _) hlt)
        obtain ⟨old, c1⟩ : ∃ old, wr.cell? ⟨g0, k1, none⟩ = some old := ⟨cur[k1]'(by omega), by rw [cell_of_heap hh k1]; exact Array.getElem?_eq_getElem (by omega)⟩
        have f1 : wr.frozen? ⟨g0, k1, none⟩ = false := free_of_heap hh k1
        have hcall := HP.out wr (hon.mono fun k _ e => by rw [e]; rfl) (l.getD k2 []) (getD_mem hlt)
        have HO := Lib.hid hon
        have HH2 := Lib.hid hh
        have HZ2 := Lib.hid hsz
        have HST := Lib.hid hst
        clear hon hh hsz hst s6
        cases hq : p (l.getD k2 []) with
        | true =>
          rw [hq] at hcall
          have HQ := Lib.hid hq
          clear hq
          obtain ⟨x, HX⟩ : ∃ x, Hid (l.getD k2 [] = x) := ⟨_, Lib.hid rfl⟩
          rw [HX.out] at c2 hcall
          have HC := Lib.hid hcall
          clear hcall
          go_wp2_with fail
          refine HC.out.mono ?_
          rintro e w' ⟨rfl, rfl⟩
          go_wp2
          go_roundw
          case rel => exact ⟨k1, k2 + 1, by omega, rfl, by go_num, cur, HH2.out, HZ2.out, HO.out, HST.out.skip hlt HQ.out⟩
          case measure => simp [intOf]; omega
        | false =>
          rw [hq] at hcall
          have HQ := Lib.hid hq
          clear hq
          obtain ⟨x, HX⟩ : ∃ x, Hid (l.getD k2 [] = x) := ⟨_, Lib.hid rfl⟩
          rw [HX.out] at c2 hcall
          have HC := Lib.hid hcall
          clear hcall
          go_wp2_with fail
          refine HC.out.mono ?_
          rintro e w' ⟨rfl, rfl⟩
          go_wp2
          go_roundw
          case rel => exact ⟨k1 + 1, k2 + 1, by omega, by go_num, by go_num, _, heap_setCell_same HH2.out k1 _, by simpa using HZ2.out, HO.out.thenSet _ (.inl rfl), by rw [← HX.out]; exact HST.out.keep hlt HQ.out⟩
          case measure => simp [intOf]; omega
      · have hk : k2 = l.length := by omega
        subst hk
        have hcl : ∀ ty, (Builtin.clear_ #[53] ty #[.slice (some ⟨g0, k1, none⟩) (l.length - k1) (cap - k1)]).run Tryz.prog wr = .ok (.tuple #[]) (wr.setCells g0 k1 (List.replicate (l.length - k1) (.string ⟨#[]⟩))) :=
          fun ty => Lib.run_clear_slice wr _ 9 ty _ Tryz.underlying53 zeroStr rfl rfl g0 k1 _ _ (by omega) (fun t ht => by rw [cell_of_heap hh, Array.getElem?_eq_getElem (by omega)]; rfl) (fun t ht => free_of_heap hh _)
        have HO := Lib.hid hon
        have HH2 := Lib.hid hh
        have HZ2 := Lib.hid hsz
        have HST := Lib.hid hst
        have hlt' : ¬ ((l.length : Int) < (l.length : Int)) := by omega
        clear hon hh hsz hst s6
        go_wp2
        go_ret
        obtain ⟨t1, t2, t3, t4, t5, _⟩ := HST.out
        rw [List.take_length] at t4 t5
        have hz := HZ2.out
        refine ⟨.slice (some ⟨g0, 0, none⟩) k1 cap, rfl, ⟨by simp, .inr ⟨g0, cap, _, by rw [t4], hg0, heap_setCells _ _ _ _ HH2.out, by omega, HM.out, by rw [size_putAll]; exact hz, ?_⟩⟩, ?_, rfl⟩
        · rw [Nat.mul_one, t4, take_putAll _ _ _ _ (Nat.le_refl _), t5]
        · exact (HO.out.then (only_setCells _ _ _ _)).mono fun k _ e => by rw [e]; rfl

theorem deleteFunc_str (g : Nat) (x0 : Value) (p : B → Bool) (w : World) (base : Nat) (v : Value) (l : List B) (hrow : w.ownsRow base 9 1 v l.length (l.map S))
    (eg : ∀ args w, (callFunc g args).run Tryz.prog w = .ok (.enter g args) w) (hp : ∀ w', Only (fun k => v.ownBlock = some k) w w' → Tests g #[x0] p w') :
    Calls Tryz.prog 253 #[v, .func (.func g) #[] #[x0]] w (Deleted w base v (l.filter fun s => !p s)) :=
  deleteFunc_on g x0 p w base v l hrow eg fun w' h => (hp w' h).on l

/-- slices.Delete(s, 0, 1), the slice not empty. -/
theorem delete_first (w : World) (base : Nat) (v : Value) (x : B) (l : List B) (hrow : w.ownsRow base 9 1 v (l.length + 1) ((x :: l).map S)) :
    Calls Tryz.prog 193 #[v, I 0, I 1] w (Deleted w base v l) := by
  obtain ⟨hlen, hrow⟩ := hrow
  rcases hrow with ⟨rfl, h0⟩ | ⟨g0, cap, cur0, rfl, hg0, hh, hcap, hm, hsz, htk⟩
  · omega
  have hm' : cap ≤ 9223372036854775807 := by unfold maxLen at hm; omega
  have hH := holds_of_block (ss := x :: l) hh (by rw [← htk]; simp)
  have hc := Tryz.slices_Delete_string g0 0 cap 0 1 (x :: l) w hH hcap hm' (Nat.zero_le _) (by simp)
  refine hc.mono ?_
  rintro e w' ⟨rfl, q, rfl⟩
  have e1 : (List.take 0 (x :: l) ++ List.drop 1 (x :: l) ++ List.replicate (1 - 0) []) = l ++ [[]] := by simp
  rw [e1]
  have h := ownsRow_sorted (w := w) (n := q) (os := #[]) (base := base) (g := g0) (cap := cap) (e := 9) (cur := cur0) (ss := x :: l) (ts := l ++ [[]]) (by simp) hg0 hh hcap hm hsz
  have hb := grownBy_sorted (w := w) (g := g0) (n := q) (os := #[]) (l ++ [[]]).toArray
  rw [Go.Sort.grow_empty] at h hb
  refine ⟨_, rfl, ?_, (Only.of_grown hb).mono fun k _ e => e, rfl⟩
  exact row_take h l.length (by simp) (by simp)

theorem enters60 : ∀ args w, (callFunc 254 args).run Tryz.prog w = .ok (.enter 254 args) w := fun args w => by kernel_rfl

set_option maxHeartbeats 400000 in
theorem last1_tests (b : Nat) (k : B) (w : World) (h : w.cell? ⟨b, 0, none⟩ = some (S k)) : Tests 254 #[.pointer (some ⟨b, 0, none⟩)] (fun s => s == k) w := by
  intro x
  go_enter Tryz.func254, Tryz.ntmps254
  go_wp2
  go_ret
  exact ⟨rfl, rfl⟩
end Go.Proofs.YtnmhaipjfpongacGreatDoor

namespace Go.Proofs.YtnmhaipjfpongacGreatDoor
open Go.ChangeShapes Go.WideShapes Go.ChangeAt Go.RowKit

theorem infoStr : (Tryz.prog.info? 9).map (fun i => (i.zero, i.size, i.bytes)) = some (some (.string ⟨#[]⟩), 1, 16) := by kernel_rfl

theorem news_one {w : World} {g : Nat} {x : Value} (h : w.cell? ⟨g, 0, none⟩ = some x) : ∀ j u, [x][j]? = some u → w.cell? ((⟨g, 0, none⟩ : Addr).add j) = some u := by
  intro j u hu
  cases j with
  | zero => simpa [Addr.add] using (show w.cell? ⟨g, 0, none⟩ = some u from by rw [h]; simpa using hu)
  | succ j => simp at hu

/-- A key is the last one now. -/
def Lasted (w : World) (b : Nat) (c0 c2 sv : Value) (base : Nat) (ks : List B) (e : Ending) (w' : World) : Prop :=
  e = .returned (.tuple #[]) ∧ ∃ sv', w'.heap[b]? = some (.cells #[c0, sv', c2] 191 (0, 0)) ∧ w'.ownsRow base 9 1 sv' ks.length (ks.map S) ∧
    Only (fun i => i = b ∨ sv.ownBlock = some i) w w' ∧ ∀ i, sv'.ownBlock = some i → sv.ownBlock = some i ∨ w.heap.size ≤ i

theorem row_ne {w : World} {base : Nat} {e e' : TypeId} {size : Nat} {v : Value} {n : Nat} {xs : List Value} {b : Nat} {cs : Array Value} {fr : Nat × Nat} (h : w.ownsRow base e size v n xs) (hb : w.heap[b]? = some (.cells cs e' fr)) (hne : e ≠ e') :
    ∀ k, v.ownBlock = some k → k ≠ b := by
  intro k hk e1
  subst e1
  rcases h.2 with ⟨rfl, _⟩ | ⟨g, cap, cur, rfl, _, hh, _⟩
  · cases hk
  · cases hk
    rw [hh] at hb
    cases hb
    exact hne rfl

theorem last_end {w w3 : World} {b base : Nat} {c0 c2 sv v3 : Value} {l : List B} {k : B} (hb : w3.heap[b]? = some (.cells #[c0, sv, c2] 191 (0, 0))) (ho : w3.ownsRow base 9 1 v3 (l.length + 1) (l.map S ++ [S k]))
    (hw : Only (fun i => sv.ownBlock = some i) w w3) (hn : ∀ i, v3.ownBlock = some i → sv.ownBlock = some i ∨ w.heap.size ≤ i) (_hk : ∀ i, sv.ownBlock = some i → i ≠ b) :
    Lasted w b c0 c2 sv base (l ++ [k]) (.returned (.tuple #[])) (w3.setCell ⟨b, 1, none⟩ v3) := by
  refine ⟨rfl, v3, (heap_setCell_same hb 1 v3).trans (by simp), ?_, ?_, hn⟩
  · have := (Only.set (p := fun i => i = b) (w := w3) (a := ⟨b, 1, none⟩) v3 rfl).row ho (fun i e e1 => row_ne ho hb (by decide) i e e1)
    simpa using this
  · exact (hw.mono fun _ _ e => .inr e).thenSet _ (.inl (.inl rfl))

/-- What slices.DeleteFunc leaves in 'last'. -/
def AtLast (w wx : World) (b base : Nat) (c0 c2 sv : Value) (k : B) (l : List B) (e : Ending) (w2 : World) : Prop :=
  ∃ v2, e = .returned v2 ∧ w2.ownsRow base 9 1 v2 l.length (l.map S) ∧ Only (fun i => sv.ownBlock = some i) wx w2 ∧ v2.ownBlock = sv.ownBlock ∧
    w2.cell? ⟨w.heap.size, 0, none⟩ = some (S k) ∧ w2.cell? ⟨b, 1, none⟩ = some sv ∧ w2.frozen? ⟨b, 1, none⟩ = false ∧ w2.heap[b]? = some (.cells #[c0, sv, c2] 191 (0, 0)) ∧ w.heap.size < w2.heap.size

set_option maxHeartbeats 1000000 in
set_option maxRecDepth 100000 in
theorem last_any (w : World) (b base : Nat) (c0 c2 sv : Value) (ks : List B) (k : B) (hb : w.heap[b]? = some (.cells #[c0, sv, c2] 191 (0, 0))) (hrow : w.ownsRow base 9 1 sv ks.length (ks.map S))
    (hbase : base ≤ w.heap.size) (hlen : ks.length ≤ 1000) :
    Calls Tryz.prog 190 #[.pointer (some ⟨b, 0, none⟩), S k] w (Lasted w b c0 c2 sv base (ks.filter (fun s => !(s == k)) ++ [k])) := by
  have hlt := lt_of_heap hb
  obtain ⟨i0, hi, hz0, hz1, hz2⟩ := info_parts infoStr
  have hblk : ∀ j, sv.ownBlock = some j → j ≠ b := row_ne hrow hb (by decide)
  have hbox : ∀ j, sv.ownBlock = some j → j < w.heap.size := fun j e => (hrow.lt j e).2
  have c1 : w.cell? ⟨b, 1, none⟩ = some sv := by simp [cell_of_heap hb]
  have f1 : w.frozen? ⟨b, 1, none⟩ = false := free_of_heap hb 1
  have hdel : ∀ wx, Ext (w.alloc (.cells #[S k] 9 (0, 0))) wx → Calls Tryz.prog 253 #[sv, .func (.func 254) #[] #[.pointer (some ⟨w.heap.size, 0, none⟩)]] wx (AtLast w wx b base c0 c2 sv k (ks.filter fun s => !(s == k))) := by
    intro wx hx
    have h1 : wx.ownsRow base 9 1 sv ks.length (ks.map S) := hx.row (hrow.alloc _) fun _ _ h => h
    have q1 : wx.cell? ⟨w.heap.size, 0, none⟩ = some (S k) := hx.cellOf ((cell_of_heap (MapKept.heap_alloc w _).1 0).trans rfl) (fun h => h)
    have q2 : wx.heap[b]? = _ := hx.heapOf ((Only.alloc (fun _ => False) w _).heapOf hb (fun h => h)) (fun h => h)
    have hs : w.heap.size + 1 ≤ wx.heap.size := by have := hx.size; simpa using this
    have hbk : ¬ sv.ownBlock = some b := fun e => hblk b e rfl
    have hbx : ¬ sv.ownBlock = some w.heap.size := fun e => Nat.lt_irrefl _ (hbox _ e)
    refine (deleteFunc_str _ _ (fun s => s == k) wx base sv ks h1 enters60 fun w' hw' => last1_tests _ _ _ (hw'.cellOf q1 hbx)).mono ?_
    rintro e w2 ⟨v2, rfl, hr2, ho2, hb2⟩
    have q3 := ho2.heapOf q2 hbk
    exact ⟨v2, rfl, hr2, ho2, hb2, ho2.cellOf q1 hbx, (cell_of_heap q3 1).trans rfl, free_of_heap q3 1, q3, by have := ho2.size; omega⟩
  have HD := Lib.hid hdel
  have HR := Lib.hid hrow
  have HB := Lib.hid hb
  have HK := Lib.hid hblk
  have HX := Lib.hid hbox
  clear hdel hrow hb hblk hbox
  go_enter Tryz.func190, Tryz.ntmps190
  go_wp2_with fail
  go_region_law (first | (go_simp; go_at_call 253; refine (HD.out _ ?hx).mono ?_; (case hx => repeat' (with_reducible first | exact Only.refl _ _ | apply Only.thenAlloc | apply Only.thenDrew)); rintro e w2 ⟨v2, rfl, hr2, ho2, hb2, q1, q2, q3, q4, q5⟩; have HR2 := Lib.hid hr2; have HO2 := Lib.hid ho2; have HB2 := Lib.hid hb2; have HQ4 := Lib.hid q4; have HW2 : Hid (Only (fun i => sv.ownBlock = some i) w w2) := (by refine Only.trans (p := fun _ => False) ?_ ho2 (fun _ _ h => h.elim) (fun _ _ h => h); repeat' (with_reducible first | exact Only.refl _ _ | apply Only.thenAlloc | apply Only.thenDrew)); have hltw : b < w2.heap.size := (by omega); clear hr2 ho2 hb2 q4) | (refine step_append_lies _ rfl (.tmp 10) (.tmp 12) 53 rfl base 9 i0 (.string ⟨#[]⟩) 1 16 Tryz.underlying53 hi hz0 hz1 hz2 rfl (by decide) _ (ks.filter fun s => !(s == k)).length ((ks.filter fun s => !(s == k)).map S) rfl ?hown _ 1 1 [S k] rfl rfl ?hnews ?h1 (by decide) ?h63 ?hby ?hbase _ rfl ?_; (case hown => first | exact HR2.out | exact HR2.out.alloc _); (case hnews => first | exact (cell_one_new _ _ _) | exact news_one (HO2.out.cellOf (by simp) (fun e => Nat.lt_irrefl _ (Nat.lt_trans (Nat.lt_succ_self _) (HX.out _ e))))); (case h1 => intro u hu; simp at hu; subst hu; rfl); (case h63 => have := List.length_filter_le (fun s => !(s == k)) ks; unfold maxLen; omega); (case hby => have := List.length_filter_le (fun s => !(s == k)) ks; omega); (case hbase => first | omega | (simp; omega)); intro g3 cap3 w3 hown3 hgrow3 hat3 hlt3; have hw3 : Only (fun i => sv.ownBlock = some i) w w3 := (by first | exact HW2.out.thenGrown hgrow3 (fun i e => .inl (HB2.out ▸ e)) | exact (HW2.out.thenAlloc _).thenGrown hgrow3 (fun i e => .inl (HB2.out ▸ e))); have hb3 : w3.heap[b]? = some (.cells #[c0, sv, c2] 191 (0, 0)) := hw3.heapOf HB.out (fun e => HK.out _ e rfl); have q6 : w3.cell? ⟨b, 1, none⟩ = some sv := (cell_of_heap hb3 1).trans rfl; have q7 : w3.frozen? ⟨b, 1, none⟩ = false := free_of_heap hb3 1; have HO3 := Lib.hid hown3; have HA3 := Lib.hid hat3; have HW3 := Lib.hid hw3; have HB3 := Lib.hid hb3; clear hown3 hgrow3 hat3 hw3 hb3))
  all_goals go_wp2
  all_goals
    go_end0
    refine last_end HB3.out HO3.out HW3.out ?_ HK.out
    intro i e
    cases e
    rcases HA3.out with h | h
    · exact .inl (HB2.out ▸ h)
    · refine .inr (show w.heap.size ≤ g3 from ?_)
      rw [h]
      first | omega | (simp; omega)
end Go.Proofs.YtnmhaipjfpongacGreatDoor

namespace Go.Proofs.YtnmhaipjfpongacGreatDoor
open Go.ChangeShapes Go.WideShapes Go.ChangeAt Go.RowKit

/-! ### the cache -/
/-- A cache in memory: L: its keys and bytes, the first one was asked for longest ago. -/
structure CacheAt (w : World) (b mb : Nat) (sv : Value) (many : Nat) (L : List (B × B)) : Prop where
  cells : w.heap[b]? = some (.cells #[I many, sv, .map (some mb)] 191 (0, 0))
  row : w.ownsRow 0 9 1 sv L.length ((L.map (·.1)).map S)
  map : KMap .string S S w mb L

def getL (L : List (B × B)) (k : B) : List (B × B) :=
  match L.lookup k with
  | some x => L.filter (fun p => !(p.1 == k)) ++ [(k, x)]
  | none => L

def putL (many : Nat) (L : List (B × B)) (k x : B) : List (B × B) :=
  if many < (L.filter (fun p => !(p.1 == k)) ++ [(k, x)]).length then (L.filter (fun p => !(p.1 == k)) ++ [(k, x)]).tail else L.filter (fun p => !(p.1 == k)) ++ [(k, x)]

theorem map_filter_key (L : List (B × B)) (k : B) : (L.filter (fun p => !(p.1 == k))).map (·.1) = (L.map (·.1)).filter (fun s => !(s == k)) := by
  induction L with
  | nil => rfl
  | cons p L ih =>
    by_cases h : p.1 = k
    · simp [h]
      simpa using ih
    · simp [h]
      simpa using ih

theorem heap_ne_map {w : World} {b mb : Nat} {cs : Array Value} {e : TypeId} {fr : Nat × Nat} {d : TypeDesc} {l : List (Value × Value)} (hb : w.heap[b]? = some (.cells cs e fr)) (hm : MapAt d w mb l) : b ≠ mb := by
  rintro rfl
  obtain ⟨es, c, h, _⟩ := hm
  rw [h] at hb
  cases hb

theorem row_ne_map {w : World} {base : Nat} {e : TypeId} {size : Nat} {v : Value} {n : Nat} {xs : List Value} {mb : Nat} {d : TypeDesc} {l : List (Value × Value)} (h : w.ownsRow base e size v n xs) (hm : MapAt d w mb l) :
    ∀ k, v.ownBlock = some k → k ≠ mb := by
  intro k hk
  rcases h.2 with ⟨rfl, _⟩ | ⟨g, cap, cur, rfl, _, hh, _⟩
  · cases hk
  · cases hk
    exact heap_ne_map hh hm

/-- The blocks of a cache. -/
def InCache (b mb : Nat) (sv : Value) (i : Nat) : Prop := i = b ∨ i = mb ∨ sv.ownBlock = some i

theorem CacheAt.later {p : Nat → Prop} {w w' : World} {b mb : Nat} {sv : Value} {many : Nat} {L : List (B × B)} (h : CacheAt w b mb sv many L) (ho : Only p w w') (hp : ∀ i, InCache b mb sv i → ¬ p i) : CacheAt w' b mb sv many L :=
  ⟨ho.heapOf h.cells (hp b (.inl rfl)), ho.row h.row fun k e => hp k (.inr (.inr e)), h.map.later ho (hp mb (.inr (.inl rfl)))⟩

theorem CacheAt.lt {w : World} {b mb : Nat} {sv : Value} {many : Nat} {L : List (B × B)} (h : CacheAt w b mb sv many L) : ∀ i, InCache b mb sv i → i < w.heap.size := by
  rintro i (rfl | rfl | e)
  · exact lt_of_heap h.cells
  · exact h.map.lt
  · exact (h.row.lt i e).2

theorem cacheNew_any (n : Nat) (w : World) (h1 : 1 ≤ n) (h : n ≤ 100) :
    Calls Tryz.prog 52 #[I n] w fun e w' => e = .returned (.tuple #[.pointer (some ⟨w.heap.size + 1, 0, none⟩), .nilIface]) ∧ CacheAt w' (w.heap.size + 1) w.heap.size (.slice none 0 0) n [] ∧ Ext w w' ∧ w'.heap.size = w.heap.size + 2 := by
  have hmm := @run_makeMap Tryz.prog
  have hz1 : (1 : Int) ≤ (n : Int) := by omega
  have hz2 : (n : Int) ≤ 100 := by omega
  go_enter Tryz.func52, Tryz.ntmps52
  go_wp2
  go_ret2
  refine ⟨rfl, ⟨?_, World.ownsRow_nil _ _ _ _, (KMap.made w .string S S).later (Only.alloc (fun _ => False) _ _) (fun h => h)⟩, (Only.alloc _ _ _).thenAlloc _, by simp⟩
  simpa using (MapKept.heap_alloc (w.alloc (.map #[] 0)) (.cells #[I n, .slice none 0 0, .map (some w.heap.size)] 191 (0, 0))).1

/-- 'delete(m, k)' as a step of a region that draws its order. -/
theorem step_drop {κ α : Type} [BEq κ] [LawfulBEq κ] {d : TypeDesc} {encK : κ → Value} {enc : α → Value} {b : Nat} {l : List (κ × α)} {t kt et : TypeId} (KO : KeyOk d encK)
    {ops : Array Oper} {o : Oper} {a : Act} {w : World} {K : Act → World → Prop} {Q : Exit → Act → World → Prop} {E : Prop} (hg : o.guard = none) (m x : Operand)
    (ho : o.op = .call { callee := .builtin .delete, args := #[m, x], argTypes := #[t, kt] }) (ht : Tryz.prog.underlying t = some (.map kt et)) (hk : Tryz.prog.underlying kt = some d)
    (hm : a.eval m = .map (some b)) (k : κ) (hx : a.eval x = encK k) (h : KMap d encK enc w b l)
    (hK : ∀ w', KMap d encK enc w' b (l.filter fun p => !(p.1 == k)) → Only (fun i => i = b) w w' → K (a.put o.dst (.tuple #[])) w') :
    if Region.wanted o (yielded ops a.tmps) = true then Oper.wp Tryz.prog o a w K Q else E := by
  have hw : Region.wanted o (yielded ops a.tmps) = true := by simp [Region.wanted, hg]
  rw [if_pos hw]
  obtain ⟨w', hrun, h1, h2, _⟩ := KMap.drop (P := Tryz.prog) KO h ht hk k o.type
  unfold Oper.wp
  simp [execOp, ho, resolve, invoke, builtin, hm, hx, hrun, Result.andThen]
  exact hK _ h1 h2

def Got (w : World) (b mb : Nat) (sv : Value) (many : Nat) (L' : List (B × B)) (r : Value) (e : Ending) (w' : World) : Prop :=
  ∃ sv', e = .returned r ∧ CacheAt w' b mb sv' many L' ∧ Only (InCache b mb sv) w w' ∧ ∀ i, InCache b mb sv' i → InCache b mb sv i ∨ w.heap.size ≤ i

theorem own_step {b mb : Nat} {sv sv' : Value} {n : Nat} (h : ∀ i, sv'.ownBlock = some i → sv.ownBlock = some i ∨ n ≤ i) : ∀ i, InCache b mb sv' i → InCache b mb sv i ∨ n ≤ i := by
  rintro i (rfl | rfl | e)
  · exact .inl (.inl rfl)
  · exact .inl (.inr (.inl rfl))
  · rcases h i e with h | h
    · exact .inl (.inr (.inr h))
    · exact .inr h

set_option maxHeartbeats 1000000 in
theorem get_any (w : World) (b mb : Nat) (sv : Value) (many : Nat) (L : List (B × B)) (k : B) (h : CacheAt w b mb sv many L) (hl : L.length ≤ 1000) :
    Calls Tryz.prog 124 #[.pointer (some ⟨b, 0, none⟩), S k] w (Got w b mb sv many (getL L k) (.tuple #[S ((L.lookup k).getD []), .bool (L.lookup k).isSome])) := by
  have c2 : w.cell? ⟨b, 2, none⟩ = some (.map (some mb)) := (cell_of_heap h.cells 2).trans rfl
  have hlook := KMap.look (P := Tryz.prog) keyOk_str h.map Tryz.underlying171 Tryz.underlying9 (zeroStr w) k
  cases hk : L.lookup k with
  | none =>
    simp only [hk] at hlook
    have e1 : getL L k = L := by unfold getL; rw [hk]
    rw [e1]
    have H := Lib.hid h
    have HK := Lib.hid hk
    clear hk h e1
    go_enter Tryz.func124, Tryz.ntmps124
    go_wp2_with fail
    go_ret2
    exact ⟨sv, rfl, H.out, Only.refl _ _, fun i hi => .inl hi⟩
  | some x =>
    simp only [hk] at hlook
    have e1 : getL L k = L.filter (fun p => !(p.1 == k)) ++ [(k, x)] := by unfold getL; rw [hk]
    rw [e1]
    have hlast := last_any w b 0 (I many) (.map (some mb)) sv (L.map (·.1)) k h.cells (by simpa using h.row) (Nat.zero_le _) (by simpa using hl)
    have H := Lib.hid h
    have HK := Lib.hid hk
    have HL := Lib.hid hlast
    clear hk h e1 hlast
    go_enter Tryz.func124, Tryz.ntmps124
    go_wp2_with (go_at_call 190; refine HL.out.mono ?_; rintro e w1 ⟨rfl, sv1, hb1, hr1, ho1, hn1⟩)
    go_ret2
    have hmb : mb ≠ b := (heap_ne_map H.out.cells H.out.map).symm
    have hmr : ¬ sv.ownBlock = some mb := fun e => row_ne_map H.out.row H.out.map mb e rfl
    refine ⟨sv1, rfl, ⟨hb1, ?_, ?_⟩, ho1.mono ?_, own_step hn1⟩
    · rw [List.map_append, map_filter_key]
      simpa [← map_filter_key] using hr1
    · exact (H.out.map.later ho1 (by rintro (h | h); exact hmb h; exact hmr h)).perm ((perm_of_lookup H.out.map.nodup HK.out).trans (List.perm_append_singleton _ _).symm)
    · rintro i _ (h | h)
      · exact .inl h
      · exact .inr (.inr h)
end Go.Proofs.YtnmhaipjfpongacGreatDoor

namespace Go.Proofs.YtnmhaipjfpongacGreatDoor
open Go.ChangeShapes Go.WideShapes Go.ChangeAt Go.RowKit

/-- 'm[k] = v' at the operation. -/
theorem wpList_store {κ α : Type} [BEq κ] [LawfulBEq κ] {d : TypeDesc} {encK : κ → Value} {enc : α → Value} {b : Nat} {l : List (κ × α)} {t kt et : TypeId} (KO : KeyOk d encK)
    {w : World} {ops : Array Oper} {rest : List Oper} {o : Oper} {a : Act} {Q : Exit → Act → World → Prop} (hg : o.guard = none) (m x v : Operand) (ho : o.op = .mapUpdate t m x v)
    (ht : Tryz.prog.underlying t = some (.map kt et)) (hk : Tryz.prog.underlying kt = some d) (hm : a.eval m = .map (some b)) (k : κ) (hx : a.eval x = encK k) (y : α) (hv : a.eval v = enc y) (h : KMap d encK enc w b l)
    (hK : ∀ w', KMap d encK enc w' b ((k, y) :: l.filter fun p => !(p.1 == k)) → Only (fun i => i = b) w w' → w'.heap.size = w.heap.size → wpList Tryz.prog ops Q rest (a.put o.dst undef) w') :
    wpList Tryz.prog ops Q (o :: rest) a w := by
  refine wpList_plain hg fun K' hK' => ?_
  obtain ⟨w', hrun, h1, h2, h3⟩ := KMap.store (P := Tryz.prog) KO h ht hk k y
  unfold Oper.wp
  simp [execOp, ho, hm, hx, hv, hrun, Result.andThen]
  exact hK' _ _ (hK w' h1 h2 h3)

theorem ownBlock_form {v : Value} {g : Nat} (h : v.ownBlock = some g) : ∃ a n c, v = .slice (some a) n c := by
  cases v with
  | slice a n c =>
    cases a with
    | none => cases h
    | some a => exact ⟨a, n, c, rfl⟩
  | _ => cases h

theorem put_end {w w4 : World} {b mb many : Nat} {sv sv2 v4 : Value} {T : List (B × B)} (hb : w4.heap[b]? = some (.cells #[I many, sv2, .map (some mb)] 191 (0, 0))) (hr : w4.ownsRow 0 9 1 v4 (T.map (·.1)).length ((T.map (·.1)).map S))
    (hm : KMap .string S S w4 mb T) (ho : Only (InCache b mb sv) w w4) (hn : ∀ i, v4.ownBlock = some i → sv.ownBlock = some i ∨ w.heap.size ≤ i) (hne : b ≠ mb) :
    Got w b mb sv many T (.tuple #[]) (.returned (.tuple #[])) (w4.setCell ⟨b, 1, none⟩ v4) := by
  have hs := Only.set (p := fun i => i = b) (w := w4) (a := ⟨b, 1, none⟩) v4 rfl
  exact ⟨v4, rfl, ⟨(heap_setCell_same hb 1 v4).trans (by simp), hs.row (by simpa using hr) (fun i e e1 => row_ne hr hb (by decide) i e e1), hm.later hs (Ne.symm hne)⟩, ho.thenSet _ (.inl (.inl rfl)), own_step hn⟩

/-- The blocks of what a key's step leaves. -/
theorem put_only {w w1 w2 : World} {b mb : Nat} {sv : Value} (h1 : Only (fun i => i = mb) w w1) (h2 : Only (fun i => i = b ∨ sv.ownBlock = some i) w1 w2) : Only (InCache b mb sv) w w2 :=
  h1.trans h2 (fun _ _ e => .inr (.inl e)) (fun i _ e => by rcases e with e | e; exact .inl e; exact .inr (.inr e))

set_option maxHeartbeats 2000000 in
theorem put_any (w : World) (b mb : Nat) (sv : Value) (many : Nat) (L : List (B × B)) (k x : B) (h : CacheAt w b mb sv many L) (hl : L.length ≤ 1000) :
    Calls Tryz.prog 126 #[.pointer (some ⟨b, 0, none⟩), S k, S x] w (Got w b mb sv many (putL many L k x) (.tuple #[])) := by
  have c2 : w.cell? ⟨b, 2, none⟩ = some (.map (some mb)) := (cell_of_heap h.cells 2).trans rfl
  have hmb : b ≠ mb := heap_ne_map h.cells h.map
  have hmr : ¬ sv.ownBlock = some mb := fun e => row_ne_map h.row h.map mb e rfl
  obtain ⟨L1, HL1⟩ : ∃ L1, Hid (L1 = L.filter (fun p => !(p.1 == k)) ++ [(k, x)]) := ⟨_, Lib.hid rfl⟩
  have hfl := List.length_filter_le (fun p : B × B => !(p.1 == k)) L
  have hL1 : 0 < L1.length ∧ L1.length ≤ 1001 := by rw [HL1.out]; simp; omega
  have hks : (L.map (·.1)).filter (fun s => !(s == k)) ++ [k] = L1.map (·.1) := by rw [HL1.out, List.map_append, map_filter_key]; rfl
  have hlast : ∀ w1, Only (fun i => i = mb) w w1 → Calls Tryz.prog 190 #[.pointer (some ⟨b, 0, none⟩), S k] w1 (Lasted w1 b (I many) (.map (some mb)) sv 0 (L1.map (·.1))) := by
    intro w1 ho1
    have hb1 := ho1.heapOf h.cells hmb
    have hr1 := ho1.row h.row fun i e e1 => hmr (e1 ▸ e)
    rw [← hks]
    exact last_any w1 b 0 (I many) (.map (some mb)) sv (L.map (·.1)) k hb1 (by simpa using hr1) (Nat.zero_le _) (by simpa using hl)
  have hput : putL many L k x = if many < L1.length then L1.tail else L1 := by rw [HL1.out]; rfl
  rw [hput]
  have HLast := Lib.hid hlast
  have HH := Lib.hid h
  have HMB := Lib.hid hmb
  have HMR := Lib.hid hmr
  obtain ⟨hp0, hp1⟩ := hL1
  clear hlast h hmb hmr hks hput hfl
  by_cases hlt : many < L1.length
  all_goals
    go_enter Tryz.func126, Tryz.ntmps126
    go_wp2_with (first | (at_mapUpdate; refine wpList_store keyOk_str rfl _ _ _ rfl Tryz.underlying171 Tryz.underlying9 rfl k rfl x rfl HH.out.map ?_; intro w1 hm1 ho1 hs1; have HM1 := Lib.hid hm1; have HO1 := Lib.hid ho1; have HS1 := Lib.hid hs1; have k2 := (ho1.heapOf HH.out.cells HMB.out); have k3 : w1.cell? ⟨b, 2, none⟩ = some (.map (some mb)) := (cell_of_heap k2 2).trans rfl; clear hm1 ho1 hs1 k2) | (go_at_call 190; refine (HLast.out _ HO1.out).mono ?_; rintro e w2 ⟨rfl, sv2, hb2, hr2, ho2, hn2⟩))
    obtain ⟨g, cap, hsv, _, hglt⟩ := hr2.form (by simpa using hp0)
    have q0 : w2.cell? ⟨b, 0, none⟩ = some (I many) := (cell_of_heap hb2 0).trans rfl
    have q1 : w2.cell? ⟨b, 1, none⟩ = some (.slice (some ⟨g, 0, none⟩) L1.length cap) := by rw [cell_of_heap hb2 1, hsv]; simp
    have q2 : w2.cell? ⟨b, 2, none⟩ = some (.map (some mb)) := (cell_of_heap hb2 2).trans rfl
    have HB2 := Lib.hid hb2
    have HR2 := Lib.hid hr2
    have HO2 := Lib.hid ho2
    have HN2 := Lib.hid hn2
    have HSV := Lib.hid hsv
    clear hb2 hr2 ho2 hn2 hsv
  · have hz : (many : Int) < (L1.length : Int) := by omega
    obtain ⟨p0, T, HT⟩ : ∃ p0 T, Hid (L1 = p0 :: T) := by
      obtain ⟨p0, T, h⟩ := List.exists_cons_of_length_pos hp0
      exact ⟨p0, T, Lib.hid h⟩
    have q3 : w2.cell? ⟨g, 0, none⟩ = some (S p0.1) := by
      have hh := HR2.out
      rw [HSV.out, HT.out] at hh
      have := hh.cellAt 0 (by simp)
      simpa using this
    have hm2 : ∀ n, KMap .string S S (w2.drewN n).drew mb L1 := fun n => by
      have hmm : KMap .string S S w1 mb L1 := by rw [HL1.out]; exact HM1.out.perm (List.perm_append_singleton _ _).symm
      exact ((hmm.later HO2.out (by rintro (h | h); exact HMB.out h.symm; exact HMR.out h)).later (Only.drewN (fun _ => False) _ n) (fun h => h)).later (Only.drew (fun _ => False) _) (fun h => h)
    have HM2 := Lib.hid hm2
    have hpos : (0 : Int) < (L1.length : Int) := by omega
    clear hm2
    go_quiet (fail)
    go_wp2
    have hnd := HM1.out.nodup
    have hft : L1.filter (fun p => !(p.1 == p0.1)) = T := by
      have h1 : (L1.map (·.1)).Nodup := (((List.perm_append_singleton _ _).map _).nodup_iff.2 hnd : ((L.filter (fun p => !(p.1 == k)) ++ [(k, x)]).map (·.1)).Nodup) |> fun h => by rw [HL1.out]; exact h
      rw [HT.out] at h1 ⊢
      rw [List.map_cons, List.nodup_cons] at h1
      rw [List.filter_cons_of_neg (by simp)]
      refine List.filter_eq_self.2 fun q hq => ?_
      have : q.1 ≠ p0.1 := fun e => h1.1 (e ▸ List.mem_map.2 ⟨q, hq, rfl⟩)
      simpa using this
    have HF := Lib.hid hft
    clear hft hnd
    go_region_law (refine step_drop keyOk_str rfl (.tmp 28) (.tmp 34) rfl Tryz.underlying171 Tryz.underlying9 rfl p0.1 rfl (HM2.out _) ?_; intro w3 hm3 ho3; have hn3 : ¬ sv2.ownBlock = some mb := (fun e => row_ne_map HR2.out (HM2.out 0) mb e rfl); have hb3 : w3.heap[b]? = some (.cells #[I many, sv2, .map (some mb)] 191 (0, 0)) := ho3.heapOf HB2.out HMB.out; have hr3 : w3.ownsRow 0 9 1 sv2 _ _ := ho3.row HR2.out (fun i e e1 => hn3 (e1 ▸ e)); have q6 : w3.cell? ⟨b, 1, none⟩ = some (.slice (some ⟨g, 0, none⟩) L1.length cap) := (by rw [cell_of_heap hb3 1, HSV.out]; simp); have HB3 := Lib.hid hb3; have HR3 := Lib.hid hr3; have HM3 := Lib.hid hm3; have HO3 := Lib.hid ho3; clear hn3 hb3 hr3 hm3 ho3)
    all_goals
      have hdel := delete_first w3 0 sv2 p0.1 (T.map (·.1)) (by have := HR3.out; rw [HT.out] at this; simpa using this)
      rw [HSV.out] at hdel
      have e1 : (L1.map (·.1)).length = L1.length := by simp
      rw [e1] at hdel
      have HD := Lib.hid hdel
      clear hdel e1
      go_wp2_with (go_at_call 193; refine HD.out.mono ?_; rintro e w4 ⟨v4, rfl, hr4, ho4, hb4⟩; obtain ⟨a4, n4, c4, rfl⟩ := ownBlock_form (show v4.ownBlock = some g from hb4); have hne : ¬ g = b := (fun e => row_ne HR2.out HB2.out (by decide) g (by rw [HSV.out]; rfl) e); have hb4' : w4.heap[b]? = some (.cells #[I many, sv2, .map (some mb)] 191 (0, 0)) := ho4.heapOf HB3.out (fun e => hne (by simpa [Value.ownBlock] using e)); have q7 : w4.cell? ⟨b, 1, none⟩ = some sv2 := (cell_of_heap hb4' 1).trans rfl; have q8 : w4.frozen? ⟨b, 1, none⟩ = false := free_of_heap hb4' 1; have HB4 := Lib.hid hb4'; have HR4 := Lib.hid hr4; have HO4 := Lib.hid ho4; have HV4 := Lib.hid hb4; clear hb4' hr4 ho4 hb4 hne)
      go_end0
      have et : (if many < L1.length then L1.tail else L1) = T := by rw [if_pos hlt, HT.out]; rfl
      first | rw [et] | (have et2 : L1.tail = T := by rw [HT.out]; rfl); rw [et2]
      have hg3 : g ≠ mb := fun e => row_ne_map HR2.out (HM2.out 0) g (by rw [HSV.out]; rfl) e
      have hm3 := HM3.out
      rw [HF.out] at hm3
      have ho4 : Only (fun i => i = g) w3 w4 := HO4.out.mono fun i _ e => by simpa [Value.ownBlock] using e.symm
      have hgo : sv.ownBlock = some g ∨ w.heap.size ≤ g := by have := HN2.out g (by rw [HSV.out]; rfl); rw [HS1.out] at this; exact this
      refine put_end HB4.out HR4.out (hm3.later ho4 hg3.symm) ?_ ?_ HMB.out
      · have h2 := put_only HO1.out HO2.out
        have h3 : Only (InCache b mb sv) w w3 := (((h2.thenDrewN _).thenDrew).trans HO3.out (fun _ _ h => h) (fun i _ e => .inr (.inl e)))
        exact h3.trans ho4 (fun _ _ h => h) (fun i hi e => by subst e; rcases hgo with h | h; exact .inr (.inr h); omega)
      · intro i e
        rw [HV4.out] at e
        have : i = g := by simpa [Value.ownBlock] using e.symm
        rw [this]; exact hgo
  · have hz : ¬ (many : Int) < (L1.length : Int) := by omega
    go_quiet (fail)
    go_wp2
    go_end0
    have et : (if many < L1.length then L1.tail else L1) = L1 := if_neg hlt
    try rw [et]
    have hm2 : KMap .string S S w2 mb L1 := by
      have hmm : KMap .string S S w1 mb L1 := by rw [HL1.out]; exact HM1.out.perm (List.perm_append_singleton _ _).symm
      exact hmm.later HO2.out (by rintro (h | h); exact HMB.out h.symm; exact HMR.out h)
    refine ⟨sv2, rfl, ⟨HB2.out, (Only.drewN (fun _ => False) w2 _).row (by have := HR2.out; simpa using this) (fun _ _ h => h), hm2.later (Only.drewN (fun _ => False) _ _) (fun h => h)⟩, (put_only HO1.out HO2.out).thenDrewN _, own_step ?_⟩
    have := HN2.out
    rw [HS1.out] at this
    exact this
end Go.Proofs.YtnmhaipjfpongacGreatDoor

namespace Go.Proofs.YtnmhaipjfpongacGreatDoor

/-! ### parted at each slash -/
def headOn (c : UInt8) : List B → List B
  | [] => [[c]]
  | x :: xs => (c :: x) :: xs

def cut : B → List B
  | [] => [[]]
  | c :: r => if c = 47 then [] :: cut r else headOn c (cut r)

theorem cut_ne (s : B) : cut s ≠ [] := by
  cases s with
  | nil => simp [cut]
  | cons c r => unfold cut; split; simp; cases cut r <;> simp [headOn]

theorem cut_pos (s : B) : 0 < (cut s).length := List.length_pos_iff.2 (cut_ne s)

theorem cut_plain : ∀ (a : B), (47 : UInt8) ∉ a → cut a = [a]
  | [], _ => rfl
  | c :: r, h => by
    have hc : c ≠ 47 := fun e => h (by simp [e])
    rw [cut, if_neg hc, cut_plain r (fun e => h (List.mem_cons_of_mem _ e))]
    rfl

theorem cut_app : ∀ (a b : B), (47 : UInt8) ∉ a → cut (a ++ 47 :: b) = a :: cut b
  | [], b, _ => by simp [cut]
  | c :: r, b, h => by
    have hc : c ≠ 47 := fun e => h (by simp [e])
    rw [List.cons_append, cut, if_neg hc, cut_app r b (fun e => h (List.mem_cons_of_mem _ e))]
    rfl

theorem cut_app_any : ∀ (a b : B), cut (a ++ 47 :: b) = cut a ++ cut b
  | [], b => by simp [cut]
  | c :: r, b => by
    rw [List.cons_append, cut, cut, cut_app_any r b]
    split
    · rfl
    · cases h : cut r with
      | nil => exact absurd h (cut_ne r)
      | cons x xs => rfl

theorem mem_cut : ∀ (s : B) (x : B), x ∈ cut s → (47 : UInt8) ∉ x
  | [], x, h => by simp [cut] at h; simp [h]
  | c :: r, x, h => by
    rw [cut] at h
    split at h
    · rcases List.mem_cons.1 h with h | h
      · simp [h]
      · exact mem_cut r x h
    · rename_i hc
      cases hr : cut r with
      | nil => exact absurd hr (cut_ne r)
      | cons y ys =>
        rw [hr] at h
        rcases List.mem_cons.1 h with h | h
        · have := mem_cut r y (by rw [hr]; exact .head _)
          rw [h]
          intro hm
          rcases List.mem_cons.1 hm with e | e
          · exact hc e.symm
          · exact this e
        · exact mem_cut r x (by rw [hr]; exact .tail _ h)

def joinS (l : List B) : B := List.intercalate [47] l

theorem joinS_nil : joinS [] = [] := rfl
theorem joinS_one (x : B) : joinS [x] = x := by simp [joinS, List.intercalate]
theorem joinS_cons (x y : B) (l : List B) : joinS (x :: y :: l) = x ++ 47 :: joinS (y :: l) := by
  simp [joinS, List.intercalate, List.intersperse]
theorem joinS_cons_ne (x : B) {l : List B} (h : l ≠ []) : joinS (x :: l) = x ++ 47 :: joinS l := by
  cases l with
  | nil => exact absurd rfl h
  | cons y l => exact joinS_cons x y l

theorem joinS_app : ∀ (a b : List B), a ≠ [] → b ≠ [] → joinS (a ++ b) = joinS a ++ 47 :: joinS b
  | [], _, h, _ => absurd rfl h
  | [x], b, _, hb => by rw [List.singleton_append, joinS_cons_ne x hb, joinS_one]
  | x :: y :: a, b, _, hb => by
    have := joinS_app (y :: a) b (by simp) hb
    rw [List.cons_append, joinS_cons_ne x (by simp), this, joinS_cons]
    simp

theorem join_cut : ∀ (s : B), joinS (cut s) = s
  | [] => by simp [cut, joinS_one]
  | c :: r => by
    have ih := join_cut r
    rw [cut]
    split
    · rename_i hc
      rw [joinS_cons_ne [] (cut_ne r), ih, hc]; rfl
    · cases hr : cut r with
      | nil => exact absurd hr (cut_ne r)
      | cons y ys =>
        rw [hr] at ih
        cases ys with
        | nil => rw [joinS_one] at ih; rw [headOn, joinS_one, ih]
        | cons z zs => rw [joinS_cons] at ih; rw [headOn, joinS_cons, List.cons_append, ih]

theorem cut_join : ∀ (l : List B), l ≠ [] → (∀ x ∈ l, (47 : UInt8) ∉ x) → cut (joinS l) = l
  | [], h, _ => absurd rfl h
  | [x], _, h => by rw [joinS_one]; exact cut_plain x (h x (.head _))
  | x :: y :: l, _, h => by
    rw [joinS_cons, cut_app x _ (h x (.head _)), cut_join (y :: l) (by simp) (fun z hz => h z (.tail _ hz))]

theorem joinS_eq_nil {l : List B} (h : ∀ x ∈ l, x ≠ []) : joinS l = [] ↔ l = [] := by
  constructor
  · intro e
    cases l with
    | nil => rfl
    | cons x l =>
      exfalso
      have hx := h x (.head _)
      cases l with
      | nil => rw [joinS_one] at e; exact hx e
      | cons y l => rw [joinS_cons] at e; exact absurd e (by simp)
  · intro e; subst e; rfl

theorem joinS_len : ∀ (l : List B) (m : Nat), (∀ x ∈ l, x.length ≤ m) → (joinS l).length ≤ l.length * (m + 1)
  | [], _, _ => by simp [joinS_nil]
  | [x], m, h => by have := h x (.head _); rw [joinS_one]; simp; omega
  | x :: y :: l, m, h => by
    have h1 := h x (.head _)
    have h2 := joinS_len (y :: l) m (fun z hz => h z (.tail _ hz))
    rw [joinS_cons, List.length_append, List.length_cons]
    have : (x :: y :: l).length = (y :: l).length + 1 := rfl
    rw [this, Nat.add_mul]
    omega

/-- strings.Split's own word, at one byte. -/
theorem index_slash (s : B) : Lib.index s [47] = Lib.indexByte s 47 := Lib.index_one s 47

theorem splitK_cut : ∀ (k : Nat) (s : B), s.count 47 ≤ k → Lib.splitK [47] 0 k s = cut s
  | 0, s, h => by
    have : (47 : UInt8) ∉ s := by
      intro hm
      have := List.count_pos_iff.2 hm
      omega
    rw [cut_plain s this]; rfl
  | k + 1, s, h => by
    unfold Lib.splitK
    rw [index_slash]
    have hge := Lib.indexByte_ge s 47
    by_cases hm : Lib.indexByte s 47 = -1
    · rw [if_pos (by rw [hm]; rfl)]
      have : (47 : UInt8) ∉ s := by
        intro hx
        obtain ⟨i, hi⟩ := List.getElem?_of_mem hx
        exact Lib.indexByte_none hm i hi
      rw [cut_plain s this]
    · obtain ⟨o, ho⟩ := Int.eq_ofNat_of_zero_le (show 0 ≤ Lib.indexByte s 47 by omega)
      have ⟨h1, h2⟩ := Lib.indexByte_some ho
      rw [if_neg (by rw [ho]; simp), ho]
      have hlt : o < s.length := (List.getElem?_eq_some_iff.1 h1).1
      have hs : s = s.take o ++ 47 :: s.drop (o + 1) := by
        have := (List.take_append_drop o s).symm
        rw [List.drop_eq_getElem_cons hlt] at this
        have e : s[o] = 47 := by rw [List.getElem?_eq_getElem hlt] at h1; simpa using h1
        rw [e] at this
        exact this
      have hn : (47 : UInt8) ∉ s.take o := by
        intro hx
        obtain ⟨i, hi⟩ := List.getElem?_of_mem hx
        rw [List.getElem?_take] at hi
        split at hi
        · rename_i hi2; exact h2 i hi2 hi
        · cases hi
      have hc : (s.drop (o + 1)).count 47 ≤ k := by
        have e2 : s.count 47 = (s.take o ++ 47 :: s.drop (o + 1)).count 47 := by rw [← hs]
        rw [List.count_append, List.count_cons_self] at e2
        omega
      rw [show ((o : Int)).toNat = o from rfl]
      rw [Nat.add_zero, show ([47] : B).length = 1 from rfl, splitK_cut k _ hc]
      conv => rhs; rw [hs]
      rw [cut_app _ _ hn]

/-! ### names -/
def isLet (n : Nat) : Bool := (decide (97 ≤ n) && decide (n ≤ 122)) || (decide (48 ≤ n) && decide (n ≤ 57)) || n == 45 || n == 46 || n == 95

def byteOk (stars : Bool) (c : UInt8) : Bool := isLet c.toNat || (stars && c == 42)
def nameOk (stars : Bool) (s : B) : Bool := s != [] && decide (s.length ≤ 12) && s != [46] && s != [46, 46] && s.all (byteOk stars)
def partsOk (stars : Bool) (l : List B) : Bool := decide (l.length ≤ 5) && l.all (nameOk stars)
def pathOk (s : B) : Bool := partsOk false (cut s)

theorem nameOk_ne {st : Bool} {s : B} (h : nameOk st s = true) : s ≠ [] := by
  unfold nameOk at h; intro e; subst e; simp at h
theorem nameOk_len {st : Bool} {s : B} (h : nameOk st s = true) : s.length ≤ 12 := by
  unfold nameOk at h; simp only [Bool.and_eq_true, decide_eq_true_eq] at h; exact h.1.1.1.2
theorem nameOk_dot {st : Bool} {s : B} (h : nameOk st s = true) : s ≠ [46] ∧ s ≠ [46, 46] := by
  unfold nameOk at h; simp only [Bool.and_eq_true, bne_iff_ne] at h; exact ⟨h.1.1.2, h.1.2⟩
theorem nameOk_all {st : Bool} {s : B} (h : nameOk st s = true) : ∀ c ∈ s, byteOk st c = true := by
  unfold nameOk at h; simp only [Bool.and_eq_true, List.all_eq_true] at h; exact h.2

theorem partsOk_len {st : Bool} {l : List B} (h : partsOk st l = true) : l.length ≤ 5 := by
  unfold partsOk at h; simp only [Bool.and_eq_true, decide_eq_true_eq] at h; exact h.1
theorem partsOk_all {st : Bool} {l : List B} (h : partsOk st l = true) : ∀ x ∈ l, nameOk st x = true := by
  unfold partsOk at h; simp only [Bool.and_eq_true, List.all_eq_true] at h; exact h.2
theorem partsOk_mk {st : Bool} {l : List B} (h : l.length ≤ 5) (h2 : ∀ x ∈ l, nameOk st x = true) : partsOk st l = true := by
  unfold partsOk; simp only [Bool.and_eq_true, decide_eq_true_eq, List.all_eq_true]; exact ⟨h, h2⟩

/-! ### what Clean makes of parts -/
def cleanL : List B → List B → Option (List B)
  | out, [] => some out
  | out, w :: r => if w = [] ∨ w = [46] then cleanL out r else if w = [46, 46] then (if out = [] then none else cleanL out.dropLast r) else cleanL (out ++ [w]) r

def cleanR (s : B) : B × Nat :=
  if 200 < s.length then ([], 2) else match cleanL [] (cut s) with
    | none => ([], 3)
    | some l => if l = [] then ([], 6) else if pathOk (joinS l) then (joinS l, 0) else ([], 4)

theorem cleanL_app : ∀ (a b out : List B), cleanL out (a ++ b) = (cleanL out a).bind (fun o => cleanL o b)
  | [], b, out => by simp [cleanL]
  | w :: r, b, out => by
    rw [List.cons_append, cleanL, cleanL]
    split
    · exact cleanL_app r b out
    · split
      · split
        · rfl
        · exact cleanL_app r b _
      · exact cleanL_app r b _

theorem cleanL_names : ∀ (l out : List B), (∀ x ∈ l, nameOk false x = true) → cleanL out l = some (out ++ l)
  | [], out, _ => by simp [cleanL]
  | w :: r, out, h => by
    have hw := h w (.head _)
    have h1 := nameOk_ne hw
    have h2 := nameOk_dot hw
    rw [cleanL, if_neg (by rintro (e | e); exact h1 e; exact h2.1 e), if_neg h2.2, cleanL_names r _ (fun x hx => h x (.tail _ hx))]
    simp

theorem cleanL_mem : ∀ (l out o : List B), cleanL out l = some o → ∀ x ∈ o, x ∈ out ∨ x ∈ l
  | [], out, o, h, x, hx => by simp [cleanL] at h; subst h; exact .inl hx
  | w :: r, out, o, h, x, hx => by
    rw [cleanL] at h
    split at h
    · rcases cleanL_mem r out o h x hx with h | h
      · exact .inl h
      · exact .inr (.tail _ h)
    · split at h
      · split at h
        · cases h
        · rcases cleanL_mem r _ o h x hx with h | h
          · exact .inl (List.mem_of_mem_take (by rw [List.dropLast_eq_take] at h; exact h))
          · exact .inr (.tail _ h)
      · rcases cleanL_mem r _ o h x hx with h | h
        · rcases List.mem_append.1 h with h | h
          · exact .inl h
          · simp at h; subst h; exact .inr (.head _)
        · exact .inr (.tail _ h)

/-- What Clean hands back is a path of names, and clean. -/
theorem cleanR_ok {a s : B} (h : cleanR a = (s, 0)) : ∃ l, l ≠ [] ∧ s = joinS l ∧ cut s = l ∧ (∀ x ∈ l, nameOk false x = true) ∧ l.length ≤ 5 := by
  unfold cleanR at h
  split at h
  · cases h
  · split at h
    · cases h
    · rename_i l hl
      split at h
      · cases h
      · rename_i hne
        split at h
        · rename_i hok
          have e : s = joinS l := by simpa using (congrArg Prod.fst h).symm
          have hc : cut (joinS l) = l := cut_join l hne fun x hx => by
            rcases cleanL_mem _ _ _ hl x hx with h | h
            · cases h
            · exact mem_cut a x h
          unfold pathOk at hok
          rw [hc] at hok
          exact ⟨l, hne, e, by rw [e, hc], partsOk_all hok, partsOk_len hok⟩
        · cases h

theorem cleanR_bad {a s : B} {n : Nat} (h : cleanR a = (s, n)) (hn : n ≠ 0) : s = [] := by
  unfold cleanR at h
  split at h
  · simpa using (congrArg Prod.fst h).symm
  · split at h
    · simpa using (congrArg Prod.fst h).symm
    · split at h
      · simpa using (congrArg Prod.fst h).symm
      · split at h
        · exact absurd (congrArg Prod.snd h).symm hn
        · simpa using (congrArg Prod.fst h).symm

theorem cleanR_names {l : List B} (hne : l ≠ []) (hn : ∀ x ∈ l, nameOk false x = true) (h5 : l.length ≤ 5) (hs : ∀ x ∈ l, (47 : UInt8) ∉ x) {t : B} (ht : cut t = l ++ [[120], [46, 46]] ∨ cut t = l) (hl : t.length ≤ 200) : cleanR t = (joinS l, 0) := by
  have hc : cleanL [] (cut t) = some l := by
    rcases ht with ht | ht
    · rw [ht, cleanL_app, cleanL_names l [] hn]
      simp [cleanL]
    · rw [ht, cleanL_names l [] hn]; rfl
  unfold cleanR
  rw [if_neg (by omega), hc]
  simp only []
  rw [if_neg hne, if_pos]
  unfold pathOk
  rw [cut_join l hne hs]
  exact partsOk_mk h5 hn

/-! ### patterns -/
def glob {α β : Type} (st : α → Bool) (eq : α → β → Bool) : List α → List β → Bool
  | [], s => s.isEmpty
  | c :: p, [] => st c && glob st eq p []
  | c :: p, d :: t => if st c then glob st eq p (d :: t) || glob st eq (c :: p) t else eq c d && glob st eq p t
termination_by p s => p.length + s.length

section
variable {α β : Type} {st : α → Bool} {eq : α → β → Bool}

theorem glob_nil (s : List β) : glob st eq [] s = s.isEmpty := by rw [glob]
theorem glob_cons_nil (c : α) (p : List α) : glob st eq (c :: p) [] = (st c && glob st eq p []) := by rw [glob]
theorem glob_star (c : α) (p : List α) (d : β) (t : List β) (h : st c = true) : glob st eq (c :: p) (d :: t) = (glob st eq p (d :: t) || glob st eq (c :: p) t) := by rw [glob, if_pos h]
theorem glob_one (c : α) (p : List α) (d : β) (t : List β) (h : st c = false) : glob st eq (c :: p) (d :: t) = (eq c d && glob st eq p t) := by rw [glob, if_neg (by simp [h])]

theorem glob_stars_any (c : α) (h : st c = true) : ∀ (s : List β), glob st eq [c] s = true
  | [] => by rw [glob_cons_nil, h, glob_nil]; rfl
  | d :: t => by rw [glob_star c [] d t h, glob_stars_any c h t]; simp

theorem glob_snoc_star (c : α) (h : st c = true) : ∀ (p : List α) (s : List β), glob st eq (p ++ [c]) s = true ↔ ∃ k, k ≤ s.length ∧ glob st eq p (s.take k) = true
  | [], s => by
    rw [List.nil_append]
    refine ⟨fun _ => ⟨0, Nat.zero_le _, by rw [List.take_zero, glob_nil]; rfl⟩, fun _ => glob_stars_any c h s⟩
  | x :: p, [] => by
    have ih := glob_snoc_star c h p []
    rw [List.cons_append, glob_cons_nil, Bool.and_eq_true, ih]
    constructor
    · rintro ⟨h1, k, hk, h2⟩
      refine ⟨0, Nat.le_refl _, ?_⟩
      rw [List.take_nil] at h2
      rw [List.take_nil, glob_cons_nil, h1, h2]; rfl
    · rintro ⟨k, hk, h2⟩
      rw [List.take_nil, glob_cons_nil, Bool.and_eq_true] at h2
      exact ⟨h2.1, 0, Nat.le_refl _, by rw [List.take_nil]; exact h2.2⟩
  | x :: p, d :: t => by
    cases hx : st x with
    | true =>
      have ih1 := glob_snoc_star c h p (d :: t)
      have ih2 := glob_snoc_star c h (x :: p) t
      rw [List.cons_append, glob_star x _ d t hx, Bool.or_eq_true, ih1, ← List.cons_append, ih2]
      constructor
      · rintro (⟨k, hk, h1⟩ | ⟨k, hk, h1⟩)
        · refine ⟨k, hk, ?_⟩
          cases k with
          | zero => rw [List.take_zero] at h1 ⊢; rw [glob_cons_nil, hx, h1]; rfl
          | succ k => rw [List.take_succ_cons] at h1 ⊢; rw [glob_star x _ d _ hx, h1]; rfl
        · refine ⟨k + 1, by simp; omega, ?_⟩
          rw [List.take_succ_cons, glob_star x _ d _ hx, h1]; simp
      · rintro ⟨k, hk, h1⟩
        cases k with
        | zero =>
          rw [List.take_zero, glob_cons_nil, Bool.and_eq_true] at h1
          exact .inl ⟨0, Nat.zero_le _, by rw [List.take_zero]; exact h1.2⟩
        | succ k =>
          rw [List.take_succ_cons, glob_star x _ d _ hx, Bool.or_eq_true] at h1
          rcases h1 with h1 | h1
          · exact .inl ⟨k + 1, hk, by rw [List.take_succ_cons]; exact h1⟩
          · exact .inr ⟨k, by simp at hk; omega, h1⟩
    | false =>
      have ih := glob_snoc_star c h p t
      rw [List.cons_append, glob_one x _ d t hx, Bool.and_eq_true, ih]
      constructor
      · rintro ⟨he, k, hk, h1⟩
        refine ⟨k + 1, by simp; omega, ?_⟩
        rw [List.take_succ_cons, glob_one x _ d _ hx, he, h1]; rfl
      · rintro ⟨k, hk, h1⟩
        cases k with
        | zero => rw [List.take_zero, glob_cons_nil, hx] at h1; cases h1
        | succ k =>
          rw [List.take_succ_cons, glob_one x _ d _ hx, Bool.and_eq_true] at h1
          exact ⟨h1.1, k, by simp at hk; omega, h1.2⟩
termination_by p s => p.length + s.length

theorem glob_snoc_nil (c : α) (h : st c = false) : ∀ (p : List α), glob st eq (p ++ [c]) ([] : List β) = false
  | [] => by rw [List.nil_append, glob_cons_nil, h]; rfl
  | x :: p => by rw [List.cons_append, glob_cons_nil, glob_snoc_nil c h p]; simp

theorem glob_snoc_one (c : α) (h : st c = false) (d : β) : ∀ (p : List α) (s : List β), glob st eq (p ++ [c]) (s ++ [d]) = (glob st eq p s && eq c d)
  | [], [] => by rw [List.nil_append, List.nil_append, glob_one c [] d [] h, glob_nil]; simp
  | [], e :: s => by
    rw [List.nil_append, List.cons_append, glob_one c [] e _ h, glob_nil, glob_nil]
    simp
  | x :: p, [] => by
    rw [List.cons_append, List.nil_append]
    have ih := glob_snoc_one c h d p []
    rw [List.nil_append] at ih
    cases hx : st x with
    | true =>
      rw [glob_star x _ d [] hx, ih, glob_cons_nil, glob_snoc_nil c h p, glob_cons_nil, hx]; simp
    | false =>
      rw [glob_one x _ d [] hx, glob_snoc_nil c h p, glob_cons_nil, hx]; simp
  | x :: p, e :: s => by
    cases hx : st x with
    | true =>
      have ih1 := glob_snoc_one c h d p (e :: s)
      have ih2 := glob_snoc_one c h d (x :: p) s
      rw [List.cons_append, List.cons_append, glob_star x _ e _ hx, ← List.cons_append, ih1, ← List.cons_append, ih2, glob_star x _ e _ hx]
      cases glob st eq p (e :: s) <;> cases glob st eq (x :: p) s <;> simp
    | false =>
      have ih := glob_snoc_one c h d p s
      rw [List.cons_append, List.cons_append, glob_one x _ e _ hx, ih, glob_one x _ e _ hx]
      cases eq x e <;> simp
termination_by p s => p.length + s.length

/-- A row behind a star. -/
theorem row_star (c : α) (h : st c = true) (p : List α) (s : List β) (k : Nat) (hk : k < s.length) : glob st eq (p ++ [c]) (s.take (k + 1)) = (glob st eq p (s.take (k + 1)) || glob st eq (p ++ [c]) (s.take k)) := by
  rw [Bool.eq_iff_iff, Bool.or_eq_true, glob_snoc_star c h, glob_snoc_star c h]
  have e1 : (s.take (k + 1)).length = k + 1 := by simp; omega
  have e2 : (s.take k).length = k := by simp; omega
  rw [e1, e2]
  constructor
  · rintro ⟨j, hj, hg⟩
    rw [List.take_take] at hg
    by_cases e : j = k + 1
    · subst e; left; simpa using hg
    · right; refine ⟨j, by omega, ?_⟩
      rw [List.take_take]
      rw [Nat.min_eq_left (by omega)] at hg ⊢
      exact hg
  · rintro (hg | ⟨j, hj, hg⟩)
    · exact ⟨k + 1, Nat.le_refl _, by rw [List.take_take]; simpa using hg⟩
    · refine ⟨j, by omega, ?_⟩
      rw [List.take_take] at hg ⊢
      rw [Nat.min_eq_left (by omega)] at hg ⊢
      exact hg

theorem row_star0 (c : α) (h : st c = true) (p : List α) : glob st eq (p ++ [c]) ([] : List β) = glob st eq p [] := by
  rw [Bool.eq_iff_iff, glob_snoc_star c h]
  constructor
  · rintro ⟨k, hk, hg⟩; rwa [List.take_nil] at hg
  · intro hg; exact ⟨0, Nat.le_refl _, by rwa [List.take_nil]⟩

theorem row_one (c : α) (h : st c = false) (p : List α) (s : List β) (k : Nat) (d : β) (hd : s[k]? = some d) : glob st eq (p ++ [c]) (s.take (k + 1)) = (glob st eq p (s.take k) && eq c d) := by
  rw [List.take_add_one, hd]
  exact glob_snoc_one c h d p (s.take k)

end
end Go.Proofs.YtnmhaipjfpongacGreatDoor

namespace Go.Proofs.YtnmhaipjfpongacGreatDoor
open Go.ChangeShapes Go.WideShapes Go.ChangeAt Go.RowKit



set_option maxRecDepth 100000 in
set_option maxHeartbeats 1000000 in
theorem letter_a (w : World) (z : Int) (c0 : (decide (97 ≤ z) = true)) (c1 : (decide (z ≤ 122) = true)) : Calls Tryz.prog 288 #[.int .u8 z] w fun e w' => e = .returned (.bool true) ∧ w = w' := by
  go_enter Tryz.func288, Tryz.ntmps288
  go_wp2
  go_ret
  exact ⟨rfl, rfl⟩

set_option maxRecDepth 100000 in
set_option maxHeartbeats 1000000 in
theorem letter_b (w : World) (z : Int) (c0 : (decide (97 ≤ z) = true)) (c1 : (decide (z ≤ 122) = false)) (c2 : (decide (48 ≤ z) = true)) (c3 : (decide (z ≤ 57) = false)) (c4 : ((z == 45) = false)) (c5 : ((z == 46) = false)) (c6 : ((z == 95) = false)) : Calls Tryz.prog 288 #[.int .u8 z] w fun e w' => e = .returned (.bool false) ∧ w = w' := by
  go_enter Tryz.func288, Tryz.ntmps288
  go_wp2
  go_ret
  exact ⟨rfl, rfl⟩

set_option maxRecDepth 100000 in
set_option maxHeartbeats 1000000 in
theorem letter_c (w : World) (z : Int) (c0 : (decide (97 ≤ z) = false)) (c1 : (decide (48 ≤ z) = true)) (c2 : (decide (z ≤ 57) = true)) : Calls Tryz.prog 288 #[.int .u8 z] w fun e w' => e = .returned (.bool true) ∧ w = w' := by
  go_enter Tryz.func288, Tryz.ntmps288
  go_wp2
  go_ret
  exact ⟨rfl, rfl⟩

set_option maxRecDepth 100000 in
set_option maxHeartbeats 1000000 in
theorem letter_d (w : World) (z : Int) (c0 : (decide (97 ≤ z) = false)) (c1 : (decide (48 ≤ z) = true)) (c2 : (decide (z ≤ 57) = false)) (c3 : ((z == 45) = false)) (c4 : ((z == 46) = false)) (c5 : ((z == 95) = true)) : Calls Tryz.prog 288 #[.int .u8 z] w fun e w' => e = .returned (.bool true) ∧ w = w' := by
  go_enter Tryz.func288, Tryz.ntmps288
  go_wp2
  go_ret
  exact ⟨rfl, rfl⟩

set_option maxRecDepth 100000 in
set_option maxHeartbeats 1000000 in
theorem letter_e (w : World) (z : Int) (c0 : (decide (97 ≤ z) = false)) (c1 : (decide (48 ≤ z) = true)) (c2 : (decide (z ≤ 57) = false)) (c3 : ((z == 45) = false)) (c4 : ((z == 46) = false)) (c5 : ((z == 95) = false)) : Calls Tryz.prog 288 #[.int .u8 z] w fun e w' => e = .returned (.bool false) ∧ w = w' := by
  go_enter Tryz.func288, Tryz.ntmps288
  go_wp2
  go_ret
  exact ⟨rfl, rfl⟩

set_option maxRecDepth 100000 in
set_option maxHeartbeats 1000000 in
theorem letter_f (w : World) (z : Int) (c0 : (decide (97 ≤ z) = false)) (c1 : (decide (48 ≤ z) = false)) (c2 : ((z == 45) = true)) : Calls Tryz.prog 288 #[.int .u8 z] w fun e w' => e = .returned (.bool true) ∧ w = w' := by
  go_enter Tryz.func288, Tryz.ntmps288
  go_wp2
  go_ret
  exact ⟨rfl, rfl⟩

set_option maxRecDepth 100000 in
set_option maxHeartbeats 1000000 in
theorem letter_g (w : World) (z : Int) (c0 : (decide (97 ≤ z) = false)) (c1 : (decide (48 ≤ z) = false)) (c2 : ((z == 45) = false)) (c3 : ((z == 46) = true)) : Calls Tryz.prog 288 #[.int .u8 z] w fun e w' => e = .returned (.bool true) ∧ w = w' := by
  go_enter Tryz.func288, Tryz.ntmps288
  go_wp2
  go_ret
  exact ⟨rfl, rfl⟩

set_option maxRecDepth 100000 in
set_option maxHeartbeats 1000000 in
theorem letter_h (w : World) (z : Int) (c0 : (decide (97 ≤ z) = false)) (c1 : (decide (48 ≤ z) = false)) (c2 : ((z == 45) = false)) (c3 : ((z == 46) = false)) (c4 : ((z == 95) = false)) : Calls Tryz.prog 288 #[.int .u8 z] w fun e w' => e = .returned (.bool false) ∧ w = w' := by
  go_enter Tryz.func288, Tryz.ntmps288
  go_wp2
  go_ret
  exact ⟨rfl, rfl⟩

end Go.Proofs.YtnmhaipjfpongacGreatDoor

namespace Go.Proofs.YtnmhaipjfpongacGreatDoor
open Go.ChangeShapes Go.WideShapes Go.ChangeAt Go.RowKit

abbrev U8 (c : UInt8) : Value := .int .u8 c.toNat

theorem letter_any (w : World) (c : UInt8) : Calls Tryz.prog 288 #[U8 c] w fun e w' => e = .returned (.bool (isLet c.toNat)) ∧ w = w' := by
  have dt : ∀ {p : Prop} [Decidable p], p → decide p = true := fun h => decide_eq_true h
  have df : ∀ {p : Prop} [Decidable p], ¬ p → decide p = false := fun h => decide_eq_false h
  obtain ⟨n, hn⟩ : ∃ n, n = c.toNat := ⟨_, rfl⟩
  show Calls _ _ #[.int .u8 (c.toNat : Int)] _ _
  rw [← hn]
  by_cases a1 : 97 ≤ n
  · by_cases a2 : n ≤ 122
    · rw [show isLet n = true by simp [isLet]; omega]
      exact letter_a w n (dt (by omega)) (dt (by omega))
    · rw [show isLet n = false by simp [isLet]; omega]
      exact letter_b w n (dt (by omega)) (df (by omega)) (dt (by omega)) (df (by omega)) (beq_eq_false_iff_ne.2 (by omega)) (beq_eq_false_iff_ne.2 (by omega)) (beq_eq_false_iff_ne.2 (by omega))
  · by_cases a3 : 48 ≤ n
    · by_cases a4 : n ≤ 57
      · rw [show isLet n = true by simp [isLet]; omega]
        exact letter_c w n (df (by omega)) (dt (by omega)) (dt (by omega))
      · by_cases a5 : n = 95
        · rw [show isLet n = true by simp [isLet]; omega]
          exact letter_d w n (df (by omega)) (dt (by omega)) (df (by omega)) (beq_eq_false_iff_ne.2 (by omega)) (beq_eq_false_iff_ne.2 (by omega)) (beq_iff_eq.2 (by omega))
        · rw [show isLet n = false by simp [isLet]; omega]
          exact letter_e w n (df (by omega)) (dt (by omega)) (df (by omega)) (beq_eq_false_iff_ne.2 (by omega)) (beq_eq_false_iff_ne.2 (by omega)) (beq_eq_false_iff_ne.2 (by omega))
    · by_cases a4 : n = 45
      · rw [show isLet n = true by simp [isLet]; omega]
        exact letter_f w n (df (by omega)) (df (by omega)) (beq_iff_eq.2 (by omega))
      · by_cases a5 : n = 46
        · rw [show isLet n = true by simp [isLet]; omega]
          exact letter_g w n (df (by omega)) (df (by omega)) (beq_eq_false_iff_ne.2 (by omega)) (beq_iff_eq.2 (by omega))
        · rw [show isLet n = false by simp [isLet]; omega]
          exact letter_h w n (df (by omega)) (df (by omega)) (beq_eq_false_iff_ne.2 (by omega)) (beq_eq_false_iff_ne.2 (by omega)) (beq_eq_false_iff_ne.2 (by omega))

theorem name1_a (w : World) (b : Nat) (z : Int) (hl : Calls Tryz.prog 288 #[.int .u8 z] w fun e w' => e = .returned (.bool true) ∧ w = w') :
    Calls Tryz.prog 287 #[.int .u8 z, .pointer (some ⟨b, 0, none⟩)] w fun e w' => e = .returned (.bool false) ∧ w = w' := by
  have HL := Lib.hid hl
  clear hl
  go_enter Tryz.func287, Tryz.ntmps287
  go_wp2_with fail
  refine HL.out.mono ?_
  rintro e w' ⟨rfl, rfl⟩
  go_wp2
  go_ret
  exact ⟨rfl, rfl⟩

theorem name1_b (w : World) (b : Nat) (z : Int) (h : w.cell? ⟨b, 0, none⟩ = some (.bool false)) (hl : Calls Tryz.prog 288 #[.int .u8 z] w fun e w' => e = .returned (.bool false) ∧ w = w') :
    Calls Tryz.prog 287 #[.int .u8 z, .pointer (some ⟨b, 0, none⟩)] w fun e w' => e = .returned (.bool true) ∧ w = w' := by
  have HL := Lib.hid hl
  clear hl
  go_enter Tryz.func287, Tryz.ntmps287
  go_wp2_with fail
  refine HL.out.mono ?_
  rintro e w' ⟨rfl, rfl⟩
  go_wp2
  go_ret
  exact ⟨rfl, rfl⟩

theorem name1_c (w : World) (b : Nat) (z : Int) (h : w.cell? ⟨b, 0, none⟩ = some (.bool true)) (hz : (z == 42) = true) (hl : Calls Tryz.prog 288 #[.int .u8 z] w fun e w' => e = .returned (.bool false) ∧ w = w') :
    Calls Tryz.prog 287 #[.int .u8 z, .pointer (some ⟨b, 0, none⟩)] w fun e w' => e = .returned (.bool false) ∧ w = w' := by
  have HL := Lib.hid hl
  clear hl
  go_enter Tryz.func287, Tryz.ntmps287
  go_wp2_with fail
  refine HL.out.mono ?_
  rintro e w' ⟨rfl, rfl⟩
  go_wp2
  go_ret
  exact ⟨rfl, rfl⟩

theorem name1_d (w : World) (b : Nat) (z : Int) (h : w.cell? ⟨b, 0, none⟩ = some (.bool true)) (hz : (z == 42) = false) (hl : Calls Tryz.prog 288 #[.int .u8 z] w fun e w' => e = .returned (.bool false) ∧ w = w') :
    Calls Tryz.prog 287 #[.int .u8 z, .pointer (some ⟨b, 0, none⟩)] w fun e w' => e = .returned (.bool true) ∧ w = w' := by
  have HL := Lib.hid hl
  clear hl
  go_enter Tryz.func287, Tryz.ntmps287
  go_wp2_with fail
  refine HL.out.mono ?_
  rintro e w' ⟨rfl, rfl⟩
  go_wp2
  go_ret
  exact ⟨rfl, rfl⟩

theorem name1_any (w : World) (b : Nat) (st : Bool) (c : UInt8) (h : w.cell? ⟨b, 0, none⟩ = some (.bool st)) :
    Calls Tryz.prog 287 #[U8 c, .pointer (some ⟨b, 0, none⟩)] w fun e w' => e = .returned (.bool (!byteOk st c)) ∧ w = w' := by
  have hl := letter_any w c
  unfold byteOk
  cases hlt : isLet c.toNat with
  | true => rw [hlt] at hl; exact name1_a w b _ hl
  | false =>
    rw [hlt] at hl
    cases st with
    | false => exact name1_b w b _ h hl
    | true =>
      by_cases hc : c = 42
      · subst hc; exact name1_c w b _ h (by decide) hl
      · have : (c == 42) = false := beq_eq_false_iff_ne.2 hc
        rw [this]
        have hz : ((c.toNat : Int) == 42) = false := by
          refine beq_eq_false_iff_ne.2 fun e => hc ?_
          have e2 : c.toNat = (42 : UInt8).toNat := by rw [show (42 : UInt8).toNat = 42 from rfl]; omega
          exact UInt8.toNat_inj.1 e2
        exact name1_d w b _ h hz hl

/-- A function value that tests one byte and leaves the world alone. -/
def TestsB (g : Nat) (caps : Array Value) (p : UInt8 → Bool) (w : World) : Prop :=
  ∀ x, Calls Tryz.prog g (#[U8 x] ++ caps) w fun e w' => e = .returned (.bool (p x)) ∧ w = w'

set_option maxHeartbeats 400000 in
/-- slices.IndexFunc at bytes: -1, or some index. -/
theorem indexFunc_b (g : Nat) (x0 : Value) (p : UInt8 → Bool) (w : World) (v : Value) (l : B) (hv : Rd U8 w v l) (eg : ∀ args w, (callFunc g args).run Tryz.prog w = .ok (.enter g args) w) (hp : TestsB g #[x0] p w) :
    Calls Tryz.prog 316 #[v, .func (.func g) #[] #[x0]] w fun e w' => (∃ r : Int, e = .returned (I r) ∧ (r ≥ 0 ↔ l.any p = true) ∧ -1 ≤ r) ∧ w = w' := by
  obtain ⟨a, cap, rfl, hcap, hm, hc⟩ := hv
  have hm' : l.length ≤ 9223372036854775807 := by unfold maxLen at hm; omega
  clear hm
  have HP := Lib.hid hp
  have HC := Lib.hid hc
  clear hp hc
  go_enter Tryz.func316, Tryz.ntmps316
  go_wp2
  go_loop [8] (fun i => ∃ k : Nat, k ≤ l.length ∧ i = .int .i64 k ∧ Hid (∀ j x, j < k → l[j]? = some x → p x = false)) (fun i => l.length + 1 - (intOf i).toNat)
  case atStart => exact ⟨0, Nat.zero_le _, rfl, Lib.hid (fun j x h => absurd h (Nat.not_lt_zero _))⟩
  case round =>
    obtain ⟨k, hk, rfl, HB⟩ := hrel
    by_cases hlt : k < l.length
    · obtain ⟨b, off, rfl, hcell⟩ := HC.out (by intro h; rw [h] at hlt; simp at hlt)
      obtain ⟨x, hx⟩ : ∃ y, l[k]? = some y := ⟨_, List.getElem?_eq_getElem hlt⟩
      have hcl := hcell k x hx
      have hp1 := HP.out x
      have HX := Lib.hid hx
      clear hcell hx
      cases hq : p x with
      | false =>
        rw [hq] at hp1
        have HQ := Lib.hid hq
        have HP1 := Lib.hid hp1
        clear hq hp1
        go_wp2_with fail
        refine HP1.out.mono ?_
        rintro e w' ⟨rfl, rfl⟩
        go_wp2
        go_round
        case rel => exact ⟨k + 1, by omega, by go_num, Lib.hid (fun j y hj hy => by
          rcases Nat.lt_succ_iff_lt_or_eq.1 hj with h | rfl
          · exact HB.out j y h hy
          · rw [HX.out] at hy; cases hy; exact HQ.out)⟩
        case measure => simp [intOf]; omega
      | true =>
        rw [hq] at hp1
        have HQ := Lib.hid hq
        have HP1 := Lib.hid hp1
        clear hq hp1
        go_wp2_with fail
        refine HP1.out.mono ?_
        rintro e w' ⟨rfl, rfl⟩
        go_wp2
        go_ret
        exact ⟨⟨k, rfl, ⟨fun _ => List.any_eq_true.2 ⟨x, List.mem_of_getElem? HX.out, HQ.out⟩, fun _ => by omega⟩, by omega⟩, rfl⟩
    · go_wp2
      go_ret
      refine ⟨⟨-1, rfl, ⟨fun h => by omega, fun h => ?_⟩, by omega⟩, rfl⟩
      obtain ⟨x, hx, hpx⟩ : ∃ x, x ∈ l ∧ p x = true := by simpa using h
      obtain ⟨i, hi⟩ := List.getElem?_of_mem hx
      have := HB.out i x (by have := (List.getElem?_eq_some_iff.1 hi).1; omega) hi
      rw [this] at hpx; cases hpx

theorem containsFunc_b (g : Nat) (x0 : Value) (p : UInt8 → Bool) (w : World) (v : Value) (l : B) (hv : Rd U8 w v l) (eg : ∀ args w, (callFunc g args).run Tryz.prog w = .ok (.enter g args) w) (hp : TestsB g #[x0] p w) :
    Calls Tryz.prog 286 #[v, .func (.func g) #[] #[x0]] w fun e w' => e = .returned (.bool (l.any p)) ∧ w = w' := by
  have hi := indexFunc_b g x0 p w v l hv eg hp
  obtain ⟨a, cap, rfl, hcap, hm, hc⟩ := hv
  obtain ⟨r0, hr0⟩ : ∃ r0, r0 = l.any p := ⟨_, rfl⟩
  rw [← hr0] at hi ⊢
  have HI := Lib.hid hi
  clear hi hc hp hm hr0 eg
  go_enter Tryz.func286, Tryz.ntmps286
  go_wp2_with fail
  refine HI.out.mono ?_
  rintro e w' ⟨⟨r, rfl, hr, hr1⟩, rfl⟩
  cases r0 with
  | true =>
    have h0 : 0 ≤ r := hr.2 rfl
    clear hr
    go_wp2
    go_ret
    exact ⟨rfl, rfl⟩
  | false =>
    have h0 : ¬ 0 ≤ r := fun h => by cases hr.1 h
    clear hr
    go_wp2
    go_ret
    exact ⟨by show Ending.returned (.bool (decide (0 ≤ r))) = _; rw [decide_eq_false (show ¬ 0 ≤ r by omega)], rfl⟩
end Go.Proofs.YtnmhaipjfpongacGreatDoor

namespace Go.Proofs.YtnmhaipjfpongacGreatDoor
open Go.ChangeShapes Go.WideShapes Go.ChangeAt Go.RowKit
open Go.MapKept (heap_alloc)

theorem enters_name1 : ∀ args w, (callFunc 287 args).run Tryz.prog w = .ok (.enter 287 args) w := fun args w => by kernel_rfl

/-- Where a string's bytes lie as a slice. -/
theorem rd_bytes (w : World) (e : TypeId) (s : B) (h : s.length ≤ maxLen) : Rd U8 (Lib.bytesWorld w e ⟨s.toArray⟩) (.slice (some ⟨w.heap.size, 0, none⟩) s.length (grownCap w s.length 0 e)) s := by
  refine ⟨_, _, rfl, grownCap_ge w _ _ _, grownCap_le_maxLen w _ _ _ h, fun _ => ⟨w.heap.size, 0, rfl, fun i x hx => ?_⟩⟩
  have hi : i < s.length := (List.getElem?_eq_some_iff.1 hx).1
  have h1 := Lib.bytesWorld_cell w e ⟨s.toArray⟩ i (by simpa [ByteArray.size] using hi)
  rw [Nat.zero_add, h1]
  simp [List.getD, hx]

theorem ext_bytes (w : World) (e : TypeId) (s : ByteArray) : Ext w (Lib.bytesWorld w e s) :=
  ⟨rfl, rfl, rfl, by rw [Lib.bytesWorld_size]; omega, fun k hk _ => Lib.bytesWorld_at_old w e s k hk⟩

set_option maxRecDepth 100000 in
set_option maxHeartbeats 1000000 in
theorem name_a (w : World) (st : Bool) : Calls Tryz.prog 230 #[S [], .bool st] w fun e w' => e = .returned (.bool false) ∧ Ext w w' := by
  go_enter Tryz.func230, Tryz.ntmps230
  go_wp2_with fail
  go_ret
  exact ⟨rfl, Only.alloc _ _ _⟩

set_option maxRecDepth 100000 in
set_option maxHeartbeats 1000000 in
theorem name_b (w : World) (st : Bool) (s : B) (h0 : (s == []) = false) (h1 : (decide ((s.length : Int) ≤ 12)) = false) : Calls Tryz.prog 230 #[S s, .bool st] w fun e w' => e = .returned (.bool false) ∧ Ext w w' := by
  go_enter Tryz.func230, Tryz.ntmps230
  go_wp2_with fail
  go_ret
  exact ⟨rfl, Only.alloc _ _ _⟩

set_option maxRecDepth 100000 in
set_option maxHeartbeats 1000000 in
theorem name_c (w : World) (st : Bool) (s : B) (h0 : (s == []) = false) (h1 : (decide ((s.length : Int) ≤ 12)) = true) (h2 : (s == [46]) = true) : Calls Tryz.prog 230 #[S s, .bool st] w fun e w' => e = .returned (.bool false) ∧ Ext w w' := by
  go_enter Tryz.func230, Tryz.ntmps230
  go_wp2_with fail
  go_ret
  exact ⟨rfl, Only.alloc _ _ _⟩

set_option maxRecDepth 100000 in
set_option maxHeartbeats 1000000 in
theorem name_d (w : World) (st : Bool) (s : B) (h0 : (s == []) = false) (h1 : (decide ((s.length : Int) ≤ 12)) = true) (h2 : (s == [46]) = false) (h3 : (s == [46, 46]) = true) : Calls Tryz.prog 230 #[S s, .bool st] w fun e w' => e = .returned (.bool false) ∧ Ext w w' := by
  go_enter Tryz.func230, Tryz.ntmps230
  go_wp2_with fail
  go_ret
  exact ⟨rfl, Only.alloc _ _ _⟩

set_option maxRecDepth 100000 in
set_option maxHeartbeats 1000000 in
theorem name_e (w : World) (st : Bool) (s : B) (h0 : (s == []) = false) (h1 : (decide ((s.length : Int) ≤ 12)) = true) (h2 : (s == [46]) = false) (h3 : (s == [46, 46]) = false) : Calls Tryz.prog 230 #[S s, .bool st] w fun e w' => e = .returned (.bool (s.all (byteOk st))) ∧ Ext w w' := by
  have hlen : s.length ≤ 12 := by have := of_decide_eq_true h1; omega
  obtain ⟨r, hr⟩ : ∃ r, r = s.all (byteOk st) := ⟨_, rfl⟩
  rw [← hr]
  have hconv : ∀ w1 : World, (convert 9 167 (.string ⟨s.toArray⟩)).run Tryz.prog w1 = .ok (.slice (some ⟨w1.heap.size, 0, none⟩) s.length (grownCap w1 s.length 0 5)) (Lib.bytesWorld w1 5 ⟨s.toArray⟩) := fun w1 => by
    have h := Lib.run_convert_string_bytes (P := Tryz.prog) w1 9 167 5 ⟨s.toArray⟩ Tryz.underlying9 Tryz.underlying167 Tryz.underlying5
    simpa [ByteArray.size] using h
  have hcell : (w.alloc (.cells #[.bool st] 4)).cell? ⟨w.heap.size, 0, none⟩ = some (.bool st) := (cell_of_heap (heap_alloc w _).1 0).trans rfl
  have hw1 : Ext w (w.alloc (.cells #[.bool st] 4)) := Only.alloc _ _ _
  have hsz : (w.alloc (.cells #[.bool st] 4)).heap.size = w.heap.size + 1 := by simp
  obtain ⟨w1, hW⟩ : ∃ w1, w.alloc (.cells #[.bool st] 4) = w1 := ⟨_, rfl⟩
  have hcall := containsFunc_b 287 (.pointer (some ⟨w.heap.size, 0, none⟩)) (fun c => !byteOk st c) (Lib.bytesWorld w1 5 ⟨s.toArray⟩) _ s (rd_bytes w1 5 s (by unfold maxLen; omega)) enters_name1
    (fun x => name1_any _ _ st x (by rw [← hW]; exact (ext_bytes _ _ _).cellOf hcell (fun h => h)))
  have hany : (s.any fun c => !byteOk st c) = !r := by rw [hr, List.all_eq_not_any_not]; simp
  rw [hany] at hcall
  have hx2 : Ext w (Lib.bytesWorld w1 5 ⟨s.toArray⟩) := by rw [← hW]; exact hw1.ext (ext_bytes _ _ _)
  have HC := Lib.hid hcall
  have HX := Lib.hid hx2
  have HCV := hconv w1
  clear hcall hx2 hany hr hconv hcell hw1 hsz hlen
  go_enter Tryz.func230, Tryz.ntmps230
  go_wp2_with fail

  refine HC.out.mono ?_
  rintro e w' ⟨rfl, rfl⟩
  go_wp2_with fail
  go_ret
  exact ⟨by simp, HX.out⟩

theorem name_any (w : World) (st : Bool) (s : B) : Calls Tryz.prog 230 #[S s, .bool st] w fun e w' => e = .returned (.bool (nameOk st s)) ∧ Ext w w' := by
  by_cases h0 : s = []
  · subst h0; exact name_a w st
  have h0' : (s == []) = false := beq_eq_false_iff_ne.2 h0
  by_cases h1 : s.length ≤ 12
  · have h1' : (decide ((s.length : Int) ≤ 12)) = true := decide_eq_true (by omega)
    by_cases h2 : s = [46]
    · have : nameOk st s = false := by rw [h2]; simp [nameOk]
      rw [this]; exact name_c w st s h0' h1' (beq_iff_eq.2 h2)
    have h2' : (s == [46]) = false := beq_eq_false_iff_ne.2 h2
    by_cases h3 : s = [46, 46]
    · have : nameOk st s = false := by rw [h3]; simp [nameOk]
      rw [this]; exact name_d w st s h0' h1' h2' (beq_iff_eq.2 h3)
    have h3' : (s == [46, 46]) = false := beq_eq_false_iff_ne.2 h3
    have : nameOk st s = s.all (byteOk st) := by
      unfold nameOk
      simp only [bne, h0', h2', h3', decide_eq_true h1, Bool.not_false, Bool.true_and]
    rw [this]
    exact name_e w st s h0' h1' h2' h3'
  · have : nameOk st s = false := by unfold nameOk; simp [h1]
    rw [this]
    exact name_b w st s h0' (decide_eq_false (by omega))
end Go.Proofs.YtnmhaipjfpongacGreatDoor

namespace Go.Proofs.YtnmhaipjfpongacGreatDoor
open Go.ChangeShapes Go.WideShapes Go.ChangeAt Go.RowKit
open Go.MapKept (heap_alloc)

/-! ### strings.Split at a slash -/
theorem first_slash (s : B) : (Lib.index s [47] = -1 ∧ (47 : UInt8) ∉ s) ∨ ∃ o : Nat, Lib.index s [47] = o ∧ o < s.length ∧ s = s.take o ++ 47 :: s.drop (o + 1) ∧ (47 : UInt8) ∉ s.take o := by
  rw [index_slash]
  have hge := Lib.indexByte_ge s 47
  by_cases hm : Lib.indexByte s 47 = -1
  · left
    refine ⟨hm, fun hx => ?_⟩
    obtain ⟨i, hi⟩ := List.getElem?_of_mem hx
    exact Lib.indexByte_none hm i hi
  · right
    obtain ⟨o, ho⟩ := Int.eq_ofNat_of_zero_le (show 0 ≤ Lib.indexByte s 47 by omega)
    have ⟨h1, h2⟩ := Lib.indexByte_some ho
    have hlt : o < s.length := (List.getElem?_eq_some_iff.1 h1).1
    refine ⟨o, ho, hlt, ?_, ?_⟩
    · have := (List.take_append_drop o s).symm
      rw [List.drop_eq_getElem_cons hlt] at this
      have e : s[o] = 47 := by rw [List.getElem?_eq_getElem hlt] at h1; simpa using h1
      rw [e] at this
      exact this
    · intro hx
      obtain ⟨i, hi⟩ := List.getElem?_of_mem hx
      rw [List.getElem?_take] at hi
      split at hi
      · rename_i hi2; exact h2 i hi2 hi
      · cases hi

theorem count_slash : ∀ (n : Nat) (s : B), s.length ≤ n → Lib.count s [47] = s.count 47
  | n, s, hn => by
    rcases first_slash s with ⟨h, hm⟩ | ⟨o, ho, hlt, hs, hm⟩
    · rw [Lib.count_miss h, List.count_eq_zero.2 hm]
    · rw [Lib.count_hit (by simp) ho]
      cases n with
      | zero => omega
      | succ n =>
        have ih := count_slash n (s.drop (o + 1)) (by simp; omega)
        rw [show o + ([47] : B).length = o + 1 from rfl, ih]
        conv => rhs; rw [hs]
        rw [List.count_append, List.count_cons_self, List.count_eq_zero.2 hm]
        omega

theorem cut_length : ∀ (s : B), (cut s).length = s.count 47 + 1
  | [] => rfl
  | c :: r => by
    have ih := cut_length r
    rw [cut]
    split
    · rename_i hc; subst hc; simp [ih]
    · rename_i hc
      cases hr : cut r with
      | nil => exact absurd hr (cut_ne r)
      | cons x xs =>
        rw [hr] at ih
        have hc2 : (c == 47) = false := beq_eq_false_iff_ne.2 hc
        simp only [headOn, List.length_cons, List.count_cons, hc2] at ih ⊢
        simpa using ih

theorem splitB_cut (s : B) : (Lib.splitB ⟨#[47]⟩ 0 (Lib.countB ⟨s.toArray⟩ ⟨#[47]⟩) ⟨s.toArray⟩).map Value.string = (cut s).map S := by
  have h1 := Lib.splitB_data ⟨#[47]⟩ 0 (Lib.countB ⟨s.toArray⟩ ⟨#[47]⟩) ⟨s.toArray⟩
  have hc : Lib.countB ⟨s.toArray⟩ ⟨#[47]⟩ = s.count 47 := count_slash s.length s (Nat.le_refl _)
  rw [hc] at h1 ⊢
  have h2 : (Lib.splitB ⟨#[47]⟩ 0 (s.count 47) ⟨s.toArray⟩).map (·.data.toList) = cut s := by
    rw [h1]; exact splitK_cut _ s (Nat.le_refl _)
  rw [← h2, List.map_map]
  rfl

def HasMax (w : World) : Prop := ∃ m : Int, w.cell? ⟨14, 0, none⟩ = some (.int .i64 m)
theorem HasMax.ext {w w' : World} (h : HasMax w) (ho : Ext w w') : HasMax w' := by obtain ⟨m, hm⟩ := h; exact ⟨m, ho.cellOf hm (fun h => h)⟩

theorem split_any (w : World) (s : B) (hs : s.length ≤ 1000000) (hm : HasMax w) :
    Calls Tryz.prog 207 #[S s, .string ⟨#[47]⟩] w fun e w' => e = .returned (.slice (some ⟨w.heap.size, 0, none⟩) (cut s).length (cut s).length) ∧ w' = w.alloc (.cells ((cut s).map S).toArray 9) := by
  obtain ⟨m, hm⟩ := hm
  refine (Tryz.strings_Split ⟨s.toArray⟩ ⟨#[47]⟩ m w (by simp [ByteArray.size]; omega) hm (by decide)).mono ?_
  rintro e w' ⟨rfl, rfl⟩
  rw [splitB_cut, show Lib.countB ⟨s.toArray⟩ ⟨#[47]⟩ = s.count 47 from count_slash s.length s (Nat.le_refl _), cut_length]
  exact ⟨rfl, rfl⟩

/-! ### slices.ContainsFunc over texts, its test making memory -/
def TestsX (g : Nat) (caps : Array Value) (p : B → Bool) (w : World) : Prop :=
  ∀ w1, Ext w w1 → ∀ x, Calls Tryz.prog g (#[S x] ++ caps) w1 fun e w' => e = .returned (.bool (p x)) ∧ Ext w1 w'

set_option maxHeartbeats 400000 in
theorem indexFunc_x (g : Nat) (x0 : Value) (p : B → Bool) (w : World) (v : Value) (l : List B) (hv : Rd S w v l) (eg : ∀ args w, (callFunc g args).run Tryz.prog w = .ok (.enter g args) w) (hp : TestsX g #[x0] p w) :
    Calls Tryz.prog 285 #[v, .func (.func g) #[] #[x0]] w fun e w' => (∃ r : Int, e = .returned (I r) ∧ (r ≥ 0 ↔ l.any p = true) ∧ -1 ≤ r) ∧ Ext w w' := by
  obtain ⟨a, cap, rfl, hcap, hm, hc⟩ := hv
  have hm' : l.length ≤ 9223372036854775807 := by unfold maxLen at hm; omega
  clear hm
  have HP := Lib.hid hp
  have HC := Lib.hid hc
  clear hp hc
  go_enter Tryz.func285, Tryz.ntmps285
  go_wp2
  go_loopw [8] (fun i wr => ∃ k : Nat, k ≤ l.length ∧ i = .int .i64 k ∧ Hid (∀ j x, j < k → l[j]? = some x → p x = false) ∧ Hid (Ext w wr)) (fun i _ => l.length + 1 - (intOf i).toNat)
  case atStart => exact ⟨0, Nat.zero_le _, rfl, Lib.hid (fun j x h => absurd h (Nat.not_lt_zero _)), Lib.hid (Only.refl _ _)⟩
  case round =>
    obtain ⟨k, hk, rfl, HB, HX⟩ := hrel
    by_cases hlt : k < l.length
    · obtain ⟨b, off, rfl, hcell⟩ := HC.out (by intro h; rw [h] at hlt; simp at hlt)
      obtain ⟨x, hx⟩ : ∃ y, l[k]? = some y := ⟨_, List.getElem?_eq_getElem hlt⟩
      have hcl := HX.out.cellOf (hcell k x hx) (fun h => h)
      have hp1 := HP.out wr HX.out x
      have HXX := Lib.hid hx
      clear hcell hx
      cases hq : p x with
      | false =>
        rw [hq] at hp1
        have HQ := Lib.hid hq
        have HP1 := Lib.hid hp1
        clear hq hp1
        go_wp2_with fail
        refine HP1.out.mono ?_
        rintro e w' ⟨rfl, ho⟩
        have HX2 := Lib.hid (HX.out.ext ho)
        clear ho
        go_wp2
        go_roundw
        case rel => exact ⟨k + 1, by omega, by go_num, Lib.hid (fun j y hj hy => by
          rcases Nat.lt_succ_iff_lt_or_eq.1 hj with h | rfl
          · exact HB.out j y h hy
          · rw [HXX.out] at hy; cases hy; exact HQ.out), HX2⟩
        case measure => simp [intOf]; omega
      | true =>
        rw [hq] at hp1
        have HQ := Lib.hid hq
        have HP1 := Lib.hid hp1
        clear hq hp1
        go_wp2_with fail
        refine HP1.out.mono ?_
        rintro e w' ⟨rfl, ho⟩
        have HX2 := Lib.hid (HX.out.ext ho)
        clear ho
        go_wp2
        go_ret
        exact ⟨⟨k, rfl, ⟨fun _ => List.any_eq_true.2 ⟨x, List.mem_of_getElem? HXX.out, HQ.out⟩, fun _ => by omega⟩, by omega⟩, HX2.out⟩
    · go_wp2
      go_ret
      refine ⟨⟨-1, rfl, ⟨fun h => by omega, fun h => ?_⟩, by omega⟩, HX.out⟩
      obtain ⟨x, hx, hpx⟩ : ∃ x, x ∈ l ∧ p x = true := by simpa using h
      obtain ⟨i, hi⟩ := List.getElem?_of_mem hx
      have := HB.out i x (by have := (List.getElem?_eq_some_iff.1 hi).1; omega) hi
      rw [this] at hpx; cases hpx

theorem containsFunc_x (g : Nat) (x0 : Value) (p : B → Bool) (w : World) (v : Value) (l : List B) (hv : Rd S w v l) (eg : ∀ args w, (callFunc g args).run Tryz.prog w = .ok (.enter g args) w) (hp : TestsX g #[x0] p w) :
    Calls Tryz.prog 228 #[v, .func (.func g) #[] #[x0]] w fun e w' => e = .returned (.bool (l.any p)) ∧ Ext w w' := by
  have hi := indexFunc_x g x0 p w v l hv eg hp
  obtain ⟨a, cap, rfl, hcap, hm, hc⟩ := hv
  obtain ⟨r0, hr0⟩ : ∃ r0, r0 = l.any p := ⟨_, rfl⟩
  rw [← hr0] at hi ⊢
  have HI := Lib.hid hi
  clear hi hc hp hm hr0 eg
  go_enter Tryz.func228, Tryz.ntmps228
  go_wp2_with fail
  refine HI.out.mono ?_
  rintro e w' ⟨⟨r, rfl, hr, hr1⟩, ho⟩
  have HO := Lib.hid ho
  clear ho
  cases r0 with
  | true =>
    have h0 : 0 ≤ r := hr.2 rfl
    clear hr
    go_wp2
    go_ret
    exact ⟨rfl, HO.out⟩
  | false =>
    have h0 : ¬ 0 ≤ r := fun h => by cases hr.1 h
    clear hr
    go_wp2
    go_ret
    exact ⟨by show Ending.returned (.bool (decide (0 ≤ r))) = _; rw [decide_eq_false (show ¬ 0 ≤ r by omega)], HO.out⟩

/-! ### parts -/
theorem parts1_any (w : World) (b : Nat) (st : Bool) (s : B) (h : w.cell? ⟨b, 0, none⟩ = some (.bool st)) :
    Calls Tryz.prog 229 #[S s, .pointer (some ⟨b, 0, none⟩)] w fun e w' => e = .returned (.bool (!nameOk st s)) ∧ Ext w w' := by
  have HN := Lib.hid (name_any w st s)
  go_enter Tryz.func229, Tryz.ntmps229
  go_wp2_with fail
  refine HN.out.mono ?_
  rintro e w' ⟨rfl, ho⟩
  have HO := Lib.hid ho
  clear ho
  go_wp2
  go_ret
  exact ⟨rfl, HO.out⟩

theorem enters_parts1 : ∀ args w, (callFunc 229 args).run Tryz.prog w = .ok (.enter 229 args) w := fun args w => by kernel_rfl

/-- Where a list of texts lies whole, in a block of its own. -/
def LiesAt (w : World) (b : Nat) (l : List B) : Prop := ∃ t, w.heap[b]? = some (.cells (l.map S).toArray t (0, 0))
theorem LiesAt.ext {w w' : World} {b : Nat} {l : List B} (h : LiesAt w b l) (ho : Ext w w') : LiesAt w' b l := by obtain ⟨t, h⟩ := h; exact ⟨t, ho.heapOf h (fun h => h)⟩
theorem LiesAt.rd {w : World} {b : Nat} {l : List B} (h : LiesAt w b l) (hl : l.length ≤ maxLen) : Rd S w (.slice (some ⟨b, 0, none⟩) l.length l.length) l := by
  obtain ⟨t, h⟩ := h
  refine ⟨_, _, rfl, Nat.le_refl _, hl, fun _ => ⟨b, 0, rfl, fun i x hx => ?_⟩⟩
  rw [cell_of_heap h, Nat.zero_add]
  simp [hx]

def PartsIs (w : World) (st : Bool) (s : B) (e : Ending) (w' : World) : Prop :=
  Ext w w' ∧ ((partsOk st (cut s) = true ∧ ∃ b, e = .returned (.slice (some ⟨b, 0, none⟩) (cut s).length (cut s).length) ∧ LiesAt w' b (cut s)) ∨ (partsOk st (cut s) = false ∧ e = .returned (.slice none 0 0)))

theorem cut_len_le (s : B) : (cut s).length ≤ s.length + 1 := by rw [cut_length]; have := List.count_le_length (a := (47 : UInt8)) (l := s); omega

set_option maxRecDepth 100000 in
set_option maxHeartbeats 1000000 in
theorem parts_any (w : World) (st : Bool) (s : B) (hs : s.length ≤ 1000000) (hm : HasMax w) : Calls Tryz.prog 178 #[S s, .bool st] w (PartsIs w st s) := by
  have hcl := cut_len_le s
  have hA : Ext w (w.alloc (.cells #[.bool st] 4)) := Only.alloc _ _ _
  have hsz : (w.alloc (.cells #[.bool st] 4)).heap.size = w.heap.size + 1 := by simp
  have hspl := split_any _ s hs (hm.ext hA)
  have hcell := (cell_of_heap (heap_alloc w (.cells #[.bool st] 4)).1 0).trans (rfl : (#[Value.bool st] : Array Value)[0]? = some (.bool st))
  obtain ⟨w1, hW⟩ : ∃ w1, w.alloc (.cells #[.bool st] 4) = w1 := ⟨_, rfl⟩
  rw [hW] at hspl hcell hA hsz
  have hB : Ext w1 (w1.alloc (.cells ((cut s).map S).toArray 9)) := Only.alloc _ _ _
  have hL : LiesAt (w1.alloc (.cells ((cut s).map S).toArray 9)) w1.heap.size (cut s) := ⟨_, (heap_alloc w1 _).1⟩
  obtain ⟨w2, hW2⟩ : ∃ w2, w1.alloc (.cells ((cut s).map S).toArray 9) = w2 := ⟨_, rfl⟩
  rw [hW2] at hspl hB hL
  have hcon := containsFunc_x 229 (.pointer (some ⟨w.heap.size, 0, none⟩)) (fun x => !nameOk st x) w2 _ (cut s) (hL.rd (by unfold maxLen; omega)) enters_parts1
    (fun w3 h3 x => parts1_any w3 _ st x (h3.cellOf (hB.cellOf hcell (fun h => h)) (fun h => h)))
  obtain ⟨n, hn⟩ : ∃ n, n = (cut s).length := ⟨_, rfl⟩
  have hpk : partsOk st (cut s) = (decide (n ≤ 5) && !((cut s).any fun x => !nameOk st x)) := by rw [hn]; unfold partsOk; rw [List.all_eq_not_any_not]
  obtain ⟨q, hq⟩ : ∃ q, q = (cut s).any fun x => !nameOk st x := ⟨_, rfl⟩
  rw [← hq] at hpk hcon
  rw [← hn] at hspl hcon hcl
  have HS := Lib.hid hspl
  have HC := Lib.hid hcon
  have HL := Lib.hid hL
  have HE := Lib.hid (hA.ext hB)
  have HP := Lib.hid hpk
  have HN := Lib.hid hn
  clear hspl hcon hL hA hB hsz hcell hpk hq hn hm
  by_cases h5 : n ≤ 5
  · have h5' : ¬ (5 < (n : Int)) := by omega
    go_enter Tryz.func178, Tryz.ntmps178
    go_wp2_with fail
    refine HS.out.mono ?_
    rintro e w' ⟨rfl, hw'⟩
    subst hw'
    clear hW HS
    go_wp2_with fail
    refine HC.out.mono ?_
    rintro e w' ⟨rfl, ho⟩
    have HO := Lib.hid (HE.out.ext ho)
    have HL2 := Lib.hid (HL.out.ext ho)
    clear ho HC HL HE
    cases q with
    | true =>
      go_wp2
      go_ret
      exact ⟨HO.out, .inr ⟨by rw [HP.out]; simp, rfl⟩⟩
    | false =>
      go_wp2
      go_ret
      exact ⟨HO.out, .inl ⟨by rw [HP.out]; simpa using h5, _, by rw [← HN.out]; rfl, HL2.out⟩⟩
  · have h5' : (5 < (n : Int)) := by omega
    go_enter Tryz.func178, Tryz.ntmps178
    go_wp2_with fail
    refine HS.out.mono ?_
    rintro e w' ⟨rfl, hw'⟩
    subst hw'
    clear hW HS
    go_wp2
    go_ret
    exact ⟨HE.out, .inr ⟨by rw [HP.out]; simp [h5], rfl⟩⟩
end Go.Proofs.YtnmhaipjfpongacGreatDoor

namespace Go.Proofs.YtnmhaipjfpongacGreatDoor
open Go.ChangeShapes Go.WideShapes Go.ChangeAt Go.RowKit
open Go.MapKept (heap_alloc)

def starB (p s : B) : Bool := glob (fun c => c == 42) (fun c d => d == c) p s

theorem ba_head (c : UInt8) (q : B) (h : 0 < (⟨(c :: q).toArray⟩ : ByteArray).size) : (⟨(c :: q).toArray⟩ : ByteArray)[0]'h = c := rfl
theorem ba_tail (c : UInt8) (q : B) : (⟨(c :: q).toArray⟩ : ByteArray).extract 1 (q.length + 1) = ⟨q.toArray⟩ := by
  apply ByteArray.ext
  apply Array.ext'
  rw [Lib.extract_data]
  simp

attribute [local go_sem] ba_head ba_tail

abbrev StarIs (w : World) (r : Bool) (e : Ending) (w' : World) : Prop := e = .returned (.bool r) ∧ ∃ m, w' = w.drewN m

theorem StarIs.ext {w w' : World} {r : Bool} {e : Ending} (h : StarIs w r e w') : e = .returned (.bool r) ∧ Ext w w' := by
  obtain ⟨rfl, m, rfl⟩ := h
  exact ⟨rfl, Only.drewN _ _ _⟩

end Go.Proofs.YtnmhaipjfpongacGreatDoor

namespace Go.Proofs.YtnmhaipjfpongacGreatDoor
open Go.ChangeShapes Go.WideShapes Go.ChangeAt Go.RowKit
open Go.MapKept (heap_alloc)
def RdC (w : World) (v : Value) (l : List B) : Prop :=
  ∃ a cap, v = .slice a l.length cap ∧ l.length ≤ cap ∧ cap ≤ 1000000 ∧ (l ≠ [] → ∃ b off, a = some ⟨b, off, none⟩ ∧ ∀ i x, l[i]? = some x → w.cell? ⟨b, off + i, none⟩ = some (S x))

theorem RdC.ext {w w' : World} {v : Value} {l : List B} (h : RdC w v l) (ho : Ext w w') : RdC w' v l := by
  obtain ⟨a, cap, rfl, h1, h2, h3⟩ := h
  refine ⟨a, cap, rfl, h1, h2, fun hl => ?_⟩
  obtain ⟨b, off, rfl, hc⟩ := h3 hl
  exact ⟨b, off, rfl, fun i x hx => ho.cellOf (hc i x hx) (fun h => h)⟩

theorem eqNil_some (a : Addr) (n c : Nat) (w : World) : (binOp .eql 53 (.slice (some a) n c) (.slice none 0 0)).run Tryz.prog w = .ok (.bool false) w := by kernel_rfl
theorem eqNil_none (w : World) : (binOp .eql 53 (.slice none 0 0) (.slice none 0 0)).run Tryz.prog w = .ok (.bool true) w := by kernel_rfl

attribute [local go_sem] eqNil_some eqNil_none

theorem join_any (w : World) (v : Value) (l : List B) (hv : RdC w v l) (hl : (joinS l).length ≤ 1000000) : Calls Tryz.prog 144 #[v, .string ⟨#[47]⟩] w fun e w' => e = .returned (S (joinS l)) ∧ Ext w w' := by
  obtain ⟨a, cap, rfl, h1, h2, h3⟩ := hv
  cases l with
  | nil =>
    refine (Tryz.strings_Join_none a cap ⟨#[47]⟩ w).mono ?_
    rintro e w' ⟨rfl, rfl⟩
    exact ⟨rfl, Only.refl _ _⟩
  | cons x r =>
    obtain ⟨b, off, rfl, hc⟩ := h3 (by simp)
    have hb : b < w.heap.size := lt_of_cell (hc 0 x rfl)
    have hcells : ∀ (j : Nat) y, ((x :: r).map fun z => (⟨z.toArray⟩ : ByteArray))[j]? = some y → w.cell? ⟨b, off + j, none⟩ = some (.string y) := fun j y hy => by
      rw [List.getElem?_map] at hy
      obtain ⟨z, hz, rfl⟩ := Option.map_eq_some_iff.1 hy
      exact hc j z hz
    have hm : (((x :: r).map fun z => (⟨z.toArray⟩ : ByteArray)).map (·.data.toList)) = x :: r := by
      rw [List.map_map]; exact List.map_id _
    have hj : Lib.join (((x :: r).map fun z => (⟨z.toArray⟩ : ByteArray)).map (·.data.toList)) (⟨#[47]⟩ : ByteArray).data.toList = joinS (x :: r) := by rw [hm]; rfl
    have hlen : ((x :: r).map fun z => (⟨z.toArray⟩ : ByteArray)).length = (x :: r).length := by simp
    have h := Tryz.strings_Join b off cap ((x :: r).map fun z => (⟨z.toArray⟩ : ByteArray)) ⟨#[47]⟩ w hcells hb (by rw [hlen]; omega) (by rw [hlen]; exact h1) (by rw [hj]; omega)
    rw [hlen] at h
    refine h.mono ?_
    rintro e w' ⟨rfl, hbl⟩
    exact ⟨by rw [hj], Only.of_below hbl⟩

theorem LiesAt.rdC {w : World} {b : Nat} {l : List B} (h : LiesAt w b l) (hl : l.length ≤ 1000000) : RdC w (.slice (some ⟨b, 0, none⟩) l.length l.length) l := by
  obtain ⟨t, h⟩ := h
  refine ⟨_, _, rfl, Nat.le_refl _, hl, fun _ => ⟨b, 0, rfl, fun i x hx => ?_⟩⟩
  rw [cell_of_heap h, Nat.zero_add]
  simp [hx]

set_option maxRecDepth 100000 in
theorem check_any (w : World) (s : B) (a : Addr) (hs : s.length ≤ 1000000) (hm : HasMax w) (he : w.cell? ⟨9, 0, none⟩ = some (errV a)) :
    Calls Tryz.prog 112 #[S s] w fun e w' => e = .returned (if pathOk s then .nilIface else errV a) ∧ Ext w w' := by
  have HP := Lib.hid (parts_any w false s hs hm)
  have HE := Lib.hid he
  clear he hm hs
  obtain ⟨r, hr⟩ : ∃ r, r = pathOk s := ⟨_, rfl⟩
  rw [← hr]
  have HR := Lib.hid hr
  clear hr
  go_enter Tryz.func112, Tryz.ntmps112
  go_wp2_with fail
  refine HP.out.mono ?_
  rintro e w' ⟨ho, ⟨hok, b, rfl, hl⟩ | ⟨hok, rfl⟩⟩
  · have HO := Lib.hid ho
    have hr : r = true := HR.out.trans hok
    subst hr
    clear ho hl hok
    go_wp2
    go_ret
    exact ⟨rfl, HO.out⟩
  · have HO := Lib.hid ho
    have hr : r = false := HR.out.trans hok
    subst hr
    have he := ho.cellOf HE.out (fun h => h)
    clear ho hok
    go_wp2
    go_ret
    exact ⟨rfl, HO.out⟩

end Go.Proofs.YtnmhaipjfpongacGreatDoor

/- The model's cache: Find and Keys over a list of keys and bytes; and package cache's Keys. No condition but that the model is one. -/
import Derived.Test.YtnmhaipjfpongaaDoorA2
import Derived.Test.YtnmhaipjfpongaaDoorC6
import Derived.Test.YtnmhaipjfpongaaDoorE4
namespace Go.Proofs.YtnmhaipjfpongaaDoor
open Go.ChangeShapes Go.WideShapes Go.ChangeAt Go.RowKit

abbrev encE (p : B × B) : List Value := [S p.1, S p.2]
theorem encE_len (p : B × B) : (encE p).length = 2 := rfl
theorem encE_one (p : B × B) : ∀ u ∈ encE p, u.oneCell' = true := by
  intro u hu
  rcases List.mem_cons.1 hu with rfl | hu
  · rfl
  · rcases List.mem_cons.1 hu with rfl | hu
    · rfl
    · cases hu
theorem infoEntry : (Tryd.prog.info? 85).map (fun i => (i.zero, i.size, i.bytes)) = some (some (.agg #[.string ⟨#[]⟩, .string ⟨#[]⟩]), 2, 32) := by kernel_rfl

/-- The place of a key; -1: none. -/
def fnd (L : List (B × B)) (k : B) : Int := match L.findIdx? (fun p => p.1 == k) with | some i => (i : Int) | none => -1

theorem fnd_hit {L : List (B × B)} {k : B} {j : Nat} {p : B × B} (hp : L[j]? = some p) (hk : p.1 = k) (hb : ∀ i (q : B × B), i < j → L[i]? = some q → q.1 ≠ k) : fnd L k = (j : Int) := by
  have hj := (List.getElem?_eq_some_iff.1 hp).1
  have : L.findIdx? (fun p => p.1 == k) = some j := by
    rw [List.findIdx?_eq_some_iff_getElem]
    refine ⟨hj, ?_, fun i hi => ?_⟩
    · have := (List.getElem?_eq_some_iff.1 hp).2
      rw [this, hk]; simp
    · have := hb i L[i] hi (List.getElem?_eq_getElem (by omega))
      simpa using this
  unfold fnd
  rw [this]

theorem fnd_miss {L : List (B × B)} {k : B} (hb : ∀ (i : Nat) (q : B × B), L[i]? = some q → q.1 ≠ k) : fnd L k = -1 := by
  have : L.findIdx? (fun p => p.1 == k) = none := by
    rw [List.findIdx?_eq_none_iff]
    intro q hq
    obtain ⟨i, hi⟩ := List.getElem?_of_mem hq
    have := hb i q hi
    simpa using this
  unfold fnd
  rw [this]

theorem lookup_of_fnd {L : List (B × B)} {k : B} : (fnd L k = -1 ∧ L.lookup k = none) ∨ ∃ (j : Nat) (x : B), fnd L k = (j : Int) ∧ L[j]? = some (k, x) ∧ L.lookup k = some x := by
  induction L with
  | nil => exact .inl ⟨rfl, rfl⟩
  | cons p L ih =>
    obtain ⟨k', x⟩ := p
    by_cases h : k' = k
    · subst h
      exact .inr ⟨0, x, by simp [fnd, List.findIdx?_cons], rfl, by simp⟩
    · have h' : ¬ k = k' := fun e => h e.symm
      have hl : ((k', x) :: L).lookup k = L.lookup k := by simp [List.lookup, beq_eq_false_iff_ne.2 h']
      rw [hl]
      have hf : ((k', x) :: L).findIdx? (fun p => p.1 == k) = (L.findIdx? (fun p => p.1 == k)).map (· + 1) := by simp [List.findIdx?_cons, h]
      rcases ih with ⟨h1, h2⟩ | ⟨j, y, h1, h2, h3⟩
      · refine .inl ⟨?_, h2⟩
        unfold fnd at h1 ⊢
        rw [hf]
        cases hq : L.findIdx? (fun p => p.1 == k) with
        | none => rfl
        | some i => rw [hq] at h1; simp at h1 <;> omega
      · refine .inr ⟨j + 1, y, ?_, by simpa using h2, h3⟩
        unfold fnd at h1 ⊢
        rw [hf]
        cases hq : L.findIdx? (fun p => p.1 == k) with
        | none => rw [hq] at h1; simp at h1 <;> omega
        | some i => rw [hq] at h1; simp at h1 ⊢; omega

set_option maxHeartbeats 1000000 in
theorem find_any (w : World) (m : Nat) (c0 slv : Value) (L : List (B × B)) (k : B) (hm : w.heap[m]? = some (.cells #[c0, slv] 51 (0, 0))) (hr : RdS 2 encE w slv L) (hl : L.length ≤ 1000000) :
    Calls Tryd.prog 47 #[.pointer (some ⟨m, 0, none⟩), S k] w fun e w' => e = .returned (I (fnd L k)) ∧ w = w' := by
  obtain ⟨a, cap, rfl, _, _, hc⟩ := hr
  have c1 : w.cell? ⟨m, 1, none⟩ = some (.slice a L.length cap) := (cell_of_heap hm 1).trans rfl
  obtain ⟨r, hR⟩ : ∃ r, Hid (r = fnd L k) := ⟨_, Lib.hid rfl⟩
  rw [← hR.out]
  have HC := Lib.hid hc
  clear hc hm
  go_enter Tryd.func47, Tryd.ntmps47
  go_wp2_with fail
  go_loop [5] (fun i => ∃ j : Nat, j ≤ L.length ∧ i = .int .i64 j ∧ Hid (∀ i q, i < j → L[i]? = some q → q.1 ≠ k)) (fun i => L.length - (intOf i).toNat)
  case atStart => exact ⟨0, Nat.zero_le _, rfl, Lib.hid (fun i q h => absurd h (Nat.not_lt_zero _))⟩
  case round =>
    obtain ⟨j, hj, rfl, hb⟩ := hrel
    by_cases hlt : j < L.length
    · have hltz : (j : Int) < (L.length : Int) := by omega
      obtain ⟨b, off, rfl, hcell⟩ := HC.out (by intro h; rw [h] at hlt; simp at hlt)
      obtain ⟨⟨k', x⟩, hp⟩ : ∃ y, L[j]? = some y := ⟨_, List.getElem?_eq_getElem hlt⟩
      have d0 : w.cell? ⟨b, off + j * 2, none⟩ = some (S k') := hcell j _ hp 0 _ rfl
      have HP := Lib.hid hp
      clear hcell hp
      by_cases hk : k' = k
      · have HK := Lib.hid hk
        rw [hk] at d0
        clear hk
        go_wp2_with fail
        go_ret
        exact ⟨(by rw [hR.out, fnd_hit HP.out HK.out hb.out]; rfl), rfl⟩
      · have hkf : (k' == k) = false := beq_eq_false_iff_ne.2 hk
        have HK := Lib.hid hk
        clear hk
        go_wp2_with fail
        go_round
        case rel => exact ⟨j + 1, by omega, by go_num, Lib.hid (fun i q hi hq => by
          rcases Nat.lt_succ_iff_lt_or_eq.1 hi with h | rfl
          · exact hb.out i q h hq
          · rw [HP.out] at hq; cases hq; exact HK.out)⟩
        case measure => simp [intOf]; omega
    · have hltz : ¬ ((j : Int) < (L.length : Int)) := by omega
      go_wp2_with fail
      go_ret
      exact ⟨(by rw [hR.out, fnd_miss (fun i q hq => hb.out i q (by have := (List.getElem?_eq_some_iff.1 hq).1; omega) hq)]; rfl), rfl⟩

set_option maxHeartbeats 1000000 in
theorem keysM_any (w : World) (m : Nat) (c0 slv : Value) (L : List (B × B)) (hm : w.heap[m]? = some (.cells #[c0, slv] 51 (0, 0))) (hr : RdS 2 encE w slv L) (hl : L.length ≤ 1000000) :
    Calls Tryd.prog 26 #[.pointer (some ⟨m, 0, none⟩)] w fun e w' => ∃ v', e = .returned v' ∧ Rd S w' v' (L.map (·.1)) ∧ Ext w w' := by
  obtain ⟨a, cap, rfl, _, _, hc⟩ := hr
  have HM := Lib.hid hm
  have HC := Lib.hid hc
  clear hc hm
  go_enter Tryd.func26, Tryd.ntmps26
  go_wp2_with fail
  go_loopw [3, 4] (fun v i wr => ∃ j : Nat, j ≤ L.length ∧ i = .int .i64 j ∧ Hid (Ext w wr) ∧ Hid (wr.ownsRow w.heap.size 9 1 v ((L.take j).map (·.1)).length (((L.take j).map (·.1)).map S))) (fun _ i _ => L.length - (intOf i).toNat)
  case atStart => exact ⟨0, Nat.zero_le _, rfl, Lib.hid (Only.refl _ _), Lib.hid (World.ownsRow_nil _ _ _ _)⟩
  case round =>
    obtain ⟨j, hj, rfl, hx, hrow⟩ := hrel
    have HX := hx
    have HR := hrow
    clear hx hrow
    have c1 : wr.cell? ⟨m, 1, none⟩ = some (.slice a L.length cap) := (cell_of_heap (HX.out.heapOf HM.out (fun h => h)) 1).trans rfl
    by_cases hlt : j < L.length
    · have hltz : (j : Int) < (L.length : Int) := by omega
      obtain ⟨b, off, rfl, hcell⟩ := HC.out (by intro h; rw [h] at hlt; simp at hlt)
      obtain ⟨⟨k', x⟩, hp⟩ : ∃ y, L[j]? = some y := ⟨_, List.getElem?_eq_getElem hlt⟩
      have d0 : wr.cell? ⟨b, off + j * 2, none⟩ = some (S k') := HX.out.cellOf (hcell j _ hp 0 _ rfl) (fun h => h)
      have hstep : (L.take (j + 1)).map (·.1) = (L.take j).map (·.1) ++ [k'] := by rw [List.take_add_one, hp]; simp
      have hjl : ((L.take j).map (·.1)).length ≤ 1000000 := by simp; omega
      have HST := Lib.hid hstep
      clear hcell hp hstep
      obtain ⟨ks, hks⟩ : ∃ ks, Hid (ks = (L.take j).map (·.1)) := ⟨_, Lib.hid rfl⟩
      rw [← hks.out] at HR HST hjl
      go_wp2_with (at_builtin; refine wpList_app (.tmp 14) (.tmp 23) w.heap.size _ ks k' _ rfl rfl rfl rfl HR.out hjl HX.out.size ?_; intro g5 cap5 w5 ho5 hg5 ha5; have b5 : Ext w w5 := grown_base HX.out (row_ge HR.out) hg5; have HX5 := Lib.hid b5; have HO5 := Lib.hid ho5; clear ho5 hg5 ha5 b5)
      go_roundw
      case rel => exact ⟨j + 1, by omega, by go_num, HX5, Lib.hid (by rw [HST.out]; simpa using HO5.out)⟩
      case measure => simp [intOf]; omega
    · have hltz : ¬ ((j : Int) < (L.length : Int)) := by omega
      have ht : (L.take j).map (·.1) = L.map (·.1) := by rw [List.take_of_length_le (by omega)]
      rw [ht] at HR
      go_wp2_with fail
      go_ret
      exact ⟨_, rfl, Rd.of_row HR.out, HX.out⟩

theorem clone_any (w : World) (v : Value) (l : List B) (h : Rd S w v l) (hl : l.length ≤ 1000000) :
    Calls Tryd.prog 48 #[v] w fun e w' => ∃ v', e = .returned v' ∧ Rd S w' v' l ∧ Ext w w' := by
  obtain ⟨a, cap, rfl, h1, h2, h3⟩ := h
  cases l with
  | nil =>
    cases a with
    | none => exact (Tryd.slices_Clone_string_nil 0 cap w).mono fun e w' ⟨h, h'⟩ => ⟨_, h, Rd.nil _ _, by rw [h']; exact Only.refl _ _⟩
    | some a => exact (Tryd.slices_Clone_string_zero a cap w).mono fun e w' ⟨v', h, ho, _, hb⟩ => ⟨v', h, Rd.of_row (l := []) ho, Only.of_below hb⟩
  | cons x r =>
    obtain ⟨b, off, rfl, hc⟩ := h3 (by simp)
    refine (Tryd.slices_Clone_string b off (x :: r).length cap ((x :: r).map fun s => ⟨s.toArray⟩) w (by simp) (by omega) (fun j hj => ?_)).mono fun e w' ⟨v', h, ho, _, hb⟩ => ⟨v', h, Rd.of_row (base := w.heap.size) (e := 9) (n := (x :: r).length) (l := x :: r) ?_, Only.of_below hb⟩
    · have hj' : j < (x :: r).length := by simpa using hj
      rw [hc j _ (List.getElem?_eq_getElem hj')]
      rw [List.getD_eq_getElem?_getD, List.getElem?_map, List.getElem?_eq_getElem hj']
      rfl
    · have e1 : ((((x :: r).map fun s : B => (⟨s.toArray⟩ : ByteArray)).take (x :: r).length).map Value.string) = (x :: r).map S := by
        rw [List.take_of_length_le (by simp), List.map_map]; rfl
      rw [e1] at ho
      exact ho

theorem keysC_any (w : World) (b mb : Nat) (sv : Value) (many : Nat) (L : List (B × B)) (h : CacheAt w b mb sv many L) (hl : L.length ≤ 1000000) :
    Calls Tryd.prog 25 #[.pointer (some ⟨b, 0, none⟩)] w fun e w' => ∃ v', e = .returned v' ∧ Rd S w' v' (L.map (·.1)) ∧ Ext w w' := by
  have c1 : w.cell? ⟨b, 1, none⟩ = some sv := (cell_of_heap h.cells 1).trans rfl
  have hrd : Rd S w sv (L.map (·.1)) := Rd.of_row h.row
  obtain ⟨a, cap, hv, _⟩ := id hrd
  rw [hv] at c1 hrd
  have hcl := clone_any w _ _ hrd (by simpa using hl)
  rw [List.length_map] at c1 hcl
  have HC := Lib.hid hcl
  clear h hrd hv hcl
  go_enter Tryd.func25, Tryd.ntmps25
  go_wp2_with (go_at_call 48; refine HC.out.mono ?_; rintro e w1 ⟨v', rfl, hr, ho⟩)
  go_ret
  exact ⟨_, rfl, hr, ho⟩
end Go.Proofs.YtnmhaipjfpongaaDoor

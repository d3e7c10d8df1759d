/- The model's cache: Put and Get. No condition but that the model is one. -/
import Derived.Test.YtnmhaipjfpongaaDoorM1
namespace Go.Proofs.YtnmhaipjfpongaaDoor
open Go.ChangeShapes Go.WideShapes Go.ChangeAt Go.RowKit

/-- The model's cache after a step. -/
def GotM (w : World) (m : Nat) (many : Nat) (slv : Value) (L : List (B × B)) (r : Value) (e : Ending) (w' : World) : Prop :=
  ∃ slv', e = .returned r ∧ w'.heap[m]? = some (.cells #[I many, slv'] 51 (0, 0)) ∧ RdS 2 encE w' slv' L ∧ Only (fun i => i = m) w w' ∧ ∀ i, slv'.ownBlock = some i → slv.ownBlock = some i ∨ (w.heap.size ≤ i ∧ i < w'.heap.size)

abbrev otherThan (k : B) : B × B → Bool := fun p => !(p.1 == k)

theorem filter_take_same {L : List (B × B)} {j : Nat} {k' x k : B} (hp : L[j]? = some (k', x)) (h : k' = k) : (L.take (j + 1)).filter (otherThan k) = (L.take j).filter (otherThan k) := by
  rw [List.take_add_one, hp]; simp [h]
theorem filter_take_other {L : List (B × B)} {j : Nat} {k' x k : B} (hp : L[j]? = some (k', x)) (h : k' ≠ k) : (L.take (j + 1)).filter (otherThan k) = (L.take j).filter (otherThan k) ++ [(k', x)] := by
  rw [List.take_add_one, hp]; simp [h]

def PutLoop (w : World) (L : List (B × B)) (k : B) (v i : Value) (wr : World) : Prop :=
  ∃ j : Nat, j ≤ L.length ∧ i = .int .i64 j ∧ Hid (Ext w wr) ∧ Hid (wr.ownsRow w.heap.size 85 2 v ((L.take j).filter (otherThan k)).length (((L.take j).filter (otherThan k)).flatMap encE))

theorem putM_end {w w3 : World} {m many : Nat} {v slv : Value} {T : List (B × B)} (hm : w.heap[m]? = some (.cells #[I many, slv] 51 (0, 0))) (hx : Ext w w3) (hr : RdS 2 encE w3 v T) (hn : ∀ i, v.ownBlock = some i → w.heap.size ≤ i ∧ i < w3.heap.size) :
    GotM w m many slv T (.tuple #[]) (.returned (.tuple #[])) (w3.setCell ⟨m, 1, none⟩ v) := by
  have hm3 := hx.heapOf hm (fun h => h)
  have hs := Only.set (p := fun i => i = m) (w := w3) (a := ⟨m, 1, none⟩) v rfl
  have hlt := lt_of_heap hm
  exact ⟨v, rfl, (heap_setCell_same hm3 1 v).trans (by simp), hr.later hs (fun i e e1 => by have := hn i e; omega), Only.after hx hs, fun i e => .inr (by have := hn i e; exact ⟨this.1, by simpa using this.2⟩)⟩

theorem putM_cut {w : World} {g cap : Nat} {p0 : B × B} {T : List (B × B)} (h : RdS 2 encE w (.slice (some ⟨g, 0, none⟩) (T.length + 1) cap) (p0 :: T)) :
    (cap = 1 → RdS 2 encE w (.slice (some ⟨g, 0, none⟩) T.length 0) T) ∧ RdS 2 encE w (.slice (some ⟨g, 2, none⟩) T.length (cap - 1)) T := by
  refine ⟨fun hc => ?_, h.tail g 2 (fun _ => ⟨rfl, by omega⟩)⟩
  subst hc
  refine h.tail g 0 (fun hT => ?_)
  obtain ⟨a, cap, hv, h1, _⟩ := h
  cases hv
  simp at h1
  exact absurd h1 hT

set_option maxHeartbeats 2000000 in
theorem putM_any (w : World) (m many : Nat) (slv : Value) (L : List (B × B)) (k x : B) (hm : w.heap[m]? = some (.cells #[I many, slv] 51 (0, 0))) (hr : RdS 2 encE w slv L) (hl : L.length ≤ 1000) :
    Calls Tryd.prog 22 #[.pointer (some ⟨m, 0, none⟩), S k, S x] w (GotM w m many slv (putL many L k x) (.tuple #[])) := by
  obtain ⟨a, cap, rfl, _, _, hc⟩ := hr
  obtain ⟨L1, HL1⟩ : ∃ L1, Hid (L1 = L.filter (otherThan k) ++ [(k, x)]) := ⟨_, Lib.hid rfl⟩
  have hput : putL many L k x = if many < L1.length then L1.tail else L1 := by rw [HL1.out]; rfl
  obtain ⟨T, HT⟩ : ∃ T, Hid (T = putL many L k x) := ⟨_, Lib.hid rfl⟩
  rw [← HT.out]
  rw [← HT.out] at hput
  have HP := Lib.hid hput
  have HM := Lib.hid hm
  have HC := Lib.hid hc
  clear hc hm hput
  go_enter Tryd.func22, Tryd.ntmps22
  go_wp2_with fail
  go_loopw [6, 7] (fun v i wr => PutLoop w L k v i wr) (fun _ i _ => L.length - (intOf i).toNat)
  case atStart => exact ⟨0, Nat.zero_le _, rfl, Lib.hid (Only.refl _ _), Lib.hid (World.ownsRow_nil _ _ _ _)⟩
  case round =>
    obtain ⟨j, hj, rfl, hx, hrow⟩ := hrel
    have HX := hx
    have HR := hrow
    clear hx hrow
    have c1 : wr.cell? ⟨m, 1, none⟩ = some (.slice a L.length cap) := (cell_of_heap (HX.out.heapOf HM.out (fun h => h)) 1).trans rfl
    by_cases hlt : j < L.length
    · have hltz : (j : Int) < (L.length : Int) := by omega
      obtain ⟨b, off, rfl, hcell⟩ := HC.out (by intro h; rw [h] at hlt; simp at hlt)
      obtain ⟨⟨k', y⟩, hp⟩ : ∃ y, L[j]? = some y := ⟨_, List.getElem?_eq_getElem hlt⟩
      have d0 : wr.cell? ⟨b, off + j * 2, none⟩ = some (S k') := HX.out.cellOf (hcell j _ hp 0 _ rfl) (fun h => h)
      have d1 : wr.cell? ⟨b, off + j * 2 + 1, none⟩ = some (S y) := HX.out.cellOf (hcell j _ hp 1 _ rfl) (fun h => h)
      clear hcell
      by_cases hk : k' = k
      · have hstep := filter_take_same hp hk
        have HST := Lib.hid hstep
        have hxx : (k != k) = false := by simp
        rw [hk] at d0
        clear hp hk hstep
        go_wp2_with fail
        go_roundw
        case rel => exact ⟨j + 1, by omega, by go_num, HX, Lib.hid (by rw [HST.out]; exact HR.out)⟩
        case measure => simp [intOf]; omega
      · have hstep := filter_take_other hp hk
        have HST := Lib.hid hstep
        have hkf : (k' == k) = false := beq_eq_false_iff_ne.2 hk
        have hfl : ((L.take j).filter (otherThan k)).length ≤ 1000000 := by
          have := List.length_filter_le (otherThan k) (L.take j)
          rw [List.length_take] at this
          omega
        obtain ⟨F, hF⟩ : ∃ F, Hid (F = (L.take j).filter (otherThan k)) := ⟨_, Lib.hid rfl⟩
        rw [← hF.out] at HR HST hfl
        clear hp hk hstep
        go_wp2_with (at_builtin; refine wpList_appS encE 49 85 2 32 _ infoEntry Tryd.underlying49 rfl (by decide) encE_len encE_one (by decide) (.tmp 27) (.tmp 35) w.heap.size _ F (k', y) _ _ rfl rfl rfl rfl rfl HR.out hfl HX.out.size ?_; intro g5 cap5 w5 ho5 hg5 ha5; have b5 : Ext w w5 := grown_base HX.out (row_ge HR.out) hg5; have HX5 := Lib.hid b5; have HO5 := Lib.hid ho5; clear ho5 hg5 ha5 b5)
        go_roundw
        case rel => exact ⟨j + 1, by omega, by go_num, HX5, Lib.hid (by rw [HST.out]; simpa using HO5.out)⟩
        case measure => simp [intOf]; omega
    · have hltz : ¬ ((j : Int) < (L.length : Int)) := by omega
      have ht : L.take j = L := List.take_of_length_le (by omega)
      rw [ht] at HR
      have hfl : (L.filter (otherThan k)).length ≤ 1000000 := by
        have := List.length_filter_le (otherThan k) L
        omega
      obtain ⟨F, hF⟩ : ∃ F, Hid (F = L.filter (otherThan k)) := ⟨_, Lib.hid rfl⟩
      rw [← hF.out] at HR hfl HL1
      clear ht
      have hln : L1.length = F.length + 1 := by rw [HL1.out]; simp
      have HLN := Lib.hid hln
      clear hln
      by_cases hml : many < F.length + 1
      · have hmz : (many : Int) < (F.length : Int) + 1 := by omega
        go_wp2_with (at_builtin; refine wpList_appS encE 49 85 2 32 _ infoEntry Tryd.underlying49 rfl (by decide) encE_len encE_one (by decide) (.tmp 37) (.tmp 41) w.heap.size _ F (k, x) _ _ rfl rfl rfl rfl rfl HR.out hfl HX.out.size ?_; intro g5 cap5 w5 ho5 hg5 ha5; have b5 : Ext w w5 := grown_base HX.out (row_ge HR.out) hg5; have m5 := b5.heapOf HM.out (fun h => h); have p0 : w5.cell? ⟨m, 0, none⟩ = some (I many) := (cell_of_heap m5 0).trans rfl; have p1 : w5.cell? ⟨m, 1, none⟩ = some (.slice a L.length cap) := (cell_of_heap m5 1).trans rfl; have p2 : w5.frozen? ⟨m, 1, none⟩ = false := free_of_heap m5 1; have hgb : w.heap.size ≤ g5 ∧ g5 < w5.heap.size := ho5.lt g5 rfl; have HX5 := Lib.hid b5; have HO5 := Lib.hid ho5; have HM5 := Lib.hid m5; clear ho5 hg5 ha5 b5 m5)
        all_goals go_end0
        all_goals
          obtain ⟨p0, T', hT'⟩ : ∃ p0 T', L1 = p0 :: T' := List.exists_cons_of_length_pos (by rw [HLN.out]; omega)
          have eT : T = T' := by rw [HP.out, HLN.out, if_pos hml, hT']; rfl
          have hlT : T.length = F.length := by have := HLN.out; rw [hT'] at this; simpa [eT] using this
          have hr1 : RdS 2 encE w5 (.slice (some ⟨g5, 0, none⟩) (F.length + 1) cap5) L1 := RdS.of_row encE_len (by have := HO5.out; rw [← HL1.out] at this; rw [HLN.out]; exact this)
          rw [hT', ← eT, ← hlT] at hr1
          have hcut := putM_cut hr1
          rw [← hlT]
          first
            | exact putM_end HM.out HX5.out (hcut.1 (by assumption)) (fun i e => by cases e; exact hgb)
            | exact putM_end HM.out HX5.out hcut.2 (fun i e => by cases e; exact hgb)
      · have hmz : ¬ (many : Int) < (F.length : Int) + 1 := by omega
        go_wp2_with (at_builtin; refine wpList_appS encE 49 85 2 32 _ infoEntry Tryd.underlying49 rfl (by decide) encE_len encE_one (by decide) (.tmp 37) (.tmp 41) w.heap.size _ F (k, x) _ _ rfl rfl rfl rfl rfl HR.out hfl HX.out.size ?_; intro g5 cap5 w5 ho5 hg5 ha5; have b5 : Ext w w5 := grown_base HX.out (row_ge HR.out) hg5; have m5 := b5.heapOf HM.out (fun h => h); have p0 : w5.cell? ⟨m, 0, none⟩ = some (I many) := (cell_of_heap m5 0).trans rfl; have p1 : w5.cell? ⟨m, 1, none⟩ = some (.slice a L.length cap) := (cell_of_heap m5 1).trans rfl; have p2 : w5.frozen? ⟨m, 1, none⟩ = false := free_of_heap m5 1; have hgb : w.heap.size ≤ g5 ∧ g5 < w5.heap.size := ho5.lt g5 rfl; have HX5 := Lib.hid b5; have HO5 := Lib.hid ho5; have HM5 := Lib.hid m5; clear ho5 hg5 ha5 b5 m5)
        all_goals go_end0
        have eT : T = L1 := by rw [HP.out, HLN.out, if_neg hml]
        have hr1 : RdS 2 encE w5 (.slice (some ⟨g5, 0, none⟩) (F.length + 1) cap5) L1 := RdS.of_row encE_len (by have := HO5.out; rw [← HL1.out] at this; rw [HLN.out]; exact this)
        rw [← eT] at hr1
        exact putM_end HM.out HX5.out hr1 (fun i e => by cases e; exact hgb)

theorem putL_get {many : Nat} {L : List (B × B)} {k x : B} (hn : (L.map (·.1)).Nodup) (h : L.lookup k = some x) (hl : L.length ≤ many) : putL many L k x = getL L k := by
  have hp := (perm_of_lookup hn h).length_eq
  unfold putL getL
  rw [h]
  have : ¬ many < (L.filter (fun p => !(p.1 == k)) ++ [(k, x)]).length := by simp at hp ⊢; omega
  rw [if_neg this]

set_option maxHeartbeats 1000000 in
theorem getM_any (w : World) (m many : Nat) (slv : Value) (L : List (B × B)) (k : B) (hm : w.heap[m]? = some (.cells #[I many, slv] 51 (0, 0))) (hr : RdS 2 encE w slv L) (hl : L.length ≤ 1000) (hlm : L.length ≤ many) (hn : (L.map (·.1)).Nodup) :
    Calls Tryd.prog 23 #[.pointer (some ⟨m, 0, none⟩), S k] w (GotM w m many slv (getL L k) (.tuple #[S ((L.lookup k).getD []), .bool (L.lookup k).isSome])) := by
  have hfind := find_any w m _ slv L k hm hr (by omega)
  rcases lookup_of_fnd (L := L) (k := k) with ⟨h1, h2⟩ | ⟨j, x, h1, h2, h3⟩
  · have e1 : getL L k = L := by unfold getL; rw [h2]
    rw [e1, h2]
    rw [h1] at hfind
    have HF := Lib.hid hfind
    have HM := Lib.hid hm
    have HR := Lib.hid hr
    clear hfind h1 h2 e1 hm hr
    go_enter Tryd.func23, Tryd.ntmps23
    go_wp2_with (go_at_call 47; refine HF.out.mono ?_; rintro e w1 ⟨rfl, rfl⟩)
    go_ret2
    exact ⟨slv, rfl, HM.out, HR.out, Only.refl _ _, fun i e => .inl e⟩
  · have hput := putM_any w m many slv L k x hm hr hl
    rw [putL_get hn h3 hlm] at hput
    rw [h3]
    rw [h1] at hfind
    have hj : (j : Int) < (L.length : Int) := by have := (List.getElem?_eq_some_iff.1 h2).1; omega
    have hj0 : ¬ ((j : Int) < 0) := by omega
    obtain ⟨a, cap, rfl, _, _, hc⟩ := hr
    obtain ⟨b, off, rfl, hcell⟩ := hc (by rintro rfl; simp at h2)
    have c1 : w.cell? ⟨m, 1, none⟩ = some (.slice (some ⟨b, off, none⟩) L.length cap) := (cell_of_heap hm 1).trans rfl
    have d1 : w.cell? ⟨b, off + j * 2 + 1, none⟩ = some (S x) := hcell j _ h2 1 _ rfl
    have HF := Lib.hid hfind
    have HP := Lib.hid hput
    clear hfind h1 h2 h3 hm hc hcell hput hn
    go_enter Tryd.func23, Tryd.ntmps23
    go_wp2_with (first | (go_at_call 47; refine HF.out.mono ?_; rintro e w1 ⟨rfl, rfl⟩) | (go_at_call 22; refine HP.out.mono ?_; rintro e w1 ⟨slv1, rfl, hm1, hr1, ho1, hn1⟩))
    go_ret2
    exact ⟨slv1, rfl, hm1, hr1, ho1, hn1⟩
end Go.Proofs.YtnmhaipjfpongaaDoor

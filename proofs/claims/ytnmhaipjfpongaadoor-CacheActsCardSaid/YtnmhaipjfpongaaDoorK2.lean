/- CacheActs' walk: package cache and the model side by side. No condition but that package api's variables hold twelve errors. -/
import Derived.Test.YtnmhaipjfpongaaDoorK1
namespace Go.Proofs.YtnmhaipjfpongaaDoor
open Go.ChangeShapes Go.WideShapes Go.ChangeAt Go.RowKit

set_option maxHeartbeats 4000000 in
set_option maxRecDepth 100000 in
theorem walkActs (w : World) (n : Nat) (v : Value) (l : List (Bool × B × B)) (hv : Asks w v l) (hn1 : 1 ≤ n) (hn2 : n ≤ 100) (hl : l.length ≤ 100) :
    Calls Tryd.prog 5 #[I n, v] w fun e w' => e = .returned (.bool true) ∧ Ext w w' := by
  obtain ⟨a, cap, rfl, hcap, hm, hc⟩ := hv
  have hx1 : ¬ ((n : Int) < 1) := by omega
  have hx2 : ¬ (100 < (n : Int)) := by omega
  have hx3 : ¬ (100 < (l.length : Int)) := by omega
  have HC := Lib.hid hc
  clear hc hm
  go_enter Tryd.func5, Tryd.ntmps5
  go_wp2_with fail
  refine (cached_any w).mono ?_
  rintro e w1 ⟨rfl, hw1⟩
  have HW1 := Lib.hid hw1
  clear hw1
  go_wp2_with fail
  refine (cacheNew_any n w1 hn1 hn2).mono ?_
  rintro e w2 ⟨rfl, hc, ho, hs⟩
  have HNW : Hid (∀ i, InCache (w1.heap.size + 1) w1.heap.size (.slice none 0 0) i → w.heap.size ≤ i) := Lib.hid (fun i h => by
    have := HW1.out.size
    rcases h with rfl | rfl | h
    · omega
    · exact this
    · cases h)
  have I0 : Two w (w2.alloc (.cells #[I n, .slice none 0 0] 51 (0, 0))) (w1.heap.size + 1) w1.heap.size w2.heap.size n (.slice none 0 0) (.slice none 0 0) [] [] := by
    have h12 := HW1.out.ext ho
    exact ⟨h12.thenAlloc _, HNW.out, h12.size, hc.later (Only.alloc (fun _ => False) w2 _) (fun _ _ h => h), (MapKept.heap_alloc w2 _).1, RdS.nil _ _ _, fun i e => by cases e⟩
  have HI := Lib.hid I0
  clear hc ho hs I0 HNW
  obtain ⟨b, hb⟩ : ∃ b, b = w1.heap.size + 1 := ⟨_, rfl⟩
  obtain ⟨mb, hmb⟩ : ∃ mb, mb = w1.heap.size := ⟨_, rfl⟩
  rw [← hb, ← hmb] at HI
  rw [← hb]
  clear hb hmb HW1
  go_wp2_with fail
  generalize (w2.alloc (.cells #[I n, .slice none 0 0] 51 (0, 0))) = w3 at HI ⊢
  generalize w2.heap.size = m at HI ⊢
  go_loopw [9] (fun i wr => ∃ (k : Nat) (sv slv : Value) (L : List (B × B)), k ≤ l.length ∧ i = .int .i64 k ∧ Two w wr b mb m n sv slv L L ∧ L.length ≤ n) (fun i _ => l.length - (intOf i).toNat)
  case atStart => exact ⟨0, _, _, [], Nat.zero_le _, rfl, HI.out, Nat.zero_le _⟩
  case round =>
    obtain ⟨k, sv, slv, L, hk, rfl, hI, hLn⟩ := hrel
    have HIr := Lib.hid hI
    clear hI
    by_cases hlt : k < l.length
    · have hltz : (k : Int) < (l.length : Int) := by omega
      obtain ⟨b0, off, rfl, hcell⟩ := HC.out (by intro h; rw [h] at hlt; simp at hlt)
      obtain ⟨⟨p, key, x⟩, hx⟩ : ∃ y, l[k]? = some y := ⟨_, List.getElem?_eq_getElem hlt⟩
      obtain ⟨d0, d1, d2⟩ := hcell k p key x hx
      have d0 := HIr.out.ext.cellOf d0 (fun h => h)
      have d1 := HIr.out.ext.cellOf d1 (fun h => h)
      have d2 := HIr.out.ext.cellOf d2 (fun h => h)
      clear hcell hx
      by_cases hk1 : 100 < key.length
      · have hk1z : 100 < (key.length : Int) := by omega
        go_wp2_with fail
        go_ret
        exact ⟨rfl, HIr.out.ext.thenAlloc _⟩
      by_cases hk2 : 100 < x.length
      · have hk1z : ¬ 100 < (key.length : Int) := by omega
        have hk2z : 100 < (x.length : Int) := by omega
        go_wp2_with fail
        go_ret
        exact ⟨rfl, HIr.out.ext.thenAlloc _⟩
      have hk1z : ¬ 100 < (key.length : Int) := by omega
      have hk2z : ¬ 100 < (x.length : Int) := by omega
      have IA := HIr.out.later (Only.alloc (fun _ => False) wr (.cells #[.bool p, S key, S x] 31 (0, 0)))
      have hbx : ∀ w3, Only (InCache b mb sv) (wr.alloc (.cells #[.bool p, S key, S x] 31 (0, 0))) w3 → w3.heap[wr.heap.size]? = some (.cells #[.bool p, S key, S x] 31 (0, 0)) := fun w3 ho =>
        ho.heapOf (MapKept.heap_alloc wr _).1 fun h => Nat.lt_irrefl _ (HIr.out.cache.lt _ h)
      have HBX := Lib.hid hbx
      have HIA := Lib.hid IA
      clear hbx IA
      cases p with
      | true =>
        have hput := put_any _ b mb sv n L key x HIA.out.cache (by omega)
        have HG := Lib.hid hput
        clear hput
        go_wp2_with fail
        refine HG.out.mono ?_
        rintro e w4 hg
        have hb4 : w4.heap[wr.heap.size]? = some (.cells #[.bool true, S key, S x] 31 (0, 0)) := by
          obtain ⟨_, _, _, ho, _⟩ := hg
          exact HBX.out _ ho
        obtain ⟨sv4, rfl, I4⟩ := HIA.out.cacheStep hg
        have f1 := (cell_of_heap hb4 1).trans (show _ = some (S key) from rfl)
        have f2 := (cell_of_heap hb4 2).trans (show _ = some (S x) from rfl)
        have HI4 := Lib.hid I4
        clear I4 hb4 hg
        have hputm := putM_any w4 m n slv L key x HI4.out.cells HI4.out.rd (by omega)
        have HPM := Lib.hid hputm
        clear hputm
        go_wp2_with fail
        refine HPM.out.mono ?_
        rintro e w5 hg
        obtain ⟨slv5, rfl, I5⟩ := HI4.out.modelStep hg
        have HI5 := Lib.hid I5
        have HLL := Lib.hid (putL_len key x hLn)
        clear I5 hg f1 f2
        obtain ⟨LL, hLL⟩ : ∃ LL, LL = putL n L key x := ⟨_, rfl⟩
        rw [← hLL] at HI5 HLL
        clear hLL HPM HI4 HG HBX HIA
        go_wp2_with fail

        have hlen5 : (LL.length : Int) ≤ 1000 := by have := HLL.out; omega
        have hkc : ∀ w1, Ext w5 w1 → Calls Tryd.prog 25 #[.pointer (some ⟨b, 0, none⟩)] w1 (fun e w2 => ∃ v', e = .returned v' ∧ Rd S w2 v' (LL.map (·.1)) ∧ Ext w1 w2) := fun w1 h1 => keysC_any w1 b mb _ n LL (HI5.out.later h1).cache (by have := HLL.out; omega)
        have hkm : ∀ w1, Ext w5 w1 → Calls Tryd.prog 26 #[.pointer (some ⟨m, 0, none⟩)] w1 (fun e w2 => ∃ v', e = .returned v' ∧ Rd S w2 v' (LL.map (·.1)) ∧ Ext w1 w2) := fun w1 h1 => keysM_any w1 m _ _ LL (HI5.out.later h1).cells (HI5.out.later h1).rd (by have := HLL.out; omega)
        obtain ⟨am, capm, hslm, _⟩ := id HI5.out.rd
        have hcm : ∀ w1, Ext w5 w1 → w1.cell? ⟨m, 1, none⟩ = some (.slice am LL.length capm) := fun w1 h1 => by
          have h := cell_of_heap (HI5.out.later h1).cells 1
          rw [hslm] at h
          exact h.trans rfl
        have HKC := Lib.hid hkc
        have HKM := Lib.hid hkm
        have HCM := Lib.hid hcm
        have hself : (LL.map (·.1) == LL.map (·.1)) = true := by simp
        have HSF := Lib.hid hself
        have hnn : ((LL.length : Int) != (LL.length : Int)) = false := by simp
        clear hkc hkm hcm hself hslm
        go_region_law (first
          | (go_simp; go_at_call 25; refine (HKC.out _ ?hx).mono ?_; (case hx => repeat' (with_reducible first | exact Only.refl _ _ | apply Only.thenDrew)); rintro e wA ⟨vA, rfl, hra, hoa⟩; have HRA := Lib.hid hra; have HOA : Hid (Ext w5 wA) := Lib.hid ((Only.drew (fun _ => False) w5).ext hoa); clear hra hoa)
          | (go_simp; go_at_call 26; refine (HKM.out _ HOA.out).mono ?_; rintro e wB ⟨vB, rfl, hrb, hob⟩; have HRA2 := Lib.hid (HRA.out.ext hob); have HRB := Lib.hid hrb; have HOB := Lib.hid (HOA.out.ext hob); clear hrb hob)
          | (go_simp; go_at_call 24; refine (sameTexts_any _ _ _ _ _ HRA2.out HRB.out).mono ?_; rintro e wC ⟨rfl, hd⟩; rw [HSF.out]; have HOC := Lib.hid (HOB.out.ext hd.ext); have qm := HCM.out _ HOC.out; clear hd)
          | (go_simp; go_at_call 15; refine (len_any _ _ _ _ _ _ (HI5.out.later HOC.out).cache).mono ?_; rintro e wD ⟨rfl, rfl⟩))
        all_goals go_wp2
        all_goals
          go_roundw
          case rel => exact ⟨k + 1, _, _, LL, by omega, by go_num, HI5.out.later HOC.out, HLL.out⟩
          case measure => simp [intOf]; omega

      | false =>
        obtain ⟨r0, hr0⟩ : ∃ r0, r0 = (L.lookup key).getD [] := ⟨_, rfl⟩
        obtain ⟨r1, hr1⟩ : ∃ r1, r1 = (L.lookup key).isSome := ⟨_, rfl⟩
        have hnd := HIr.out.cache.map.nodup
        have hget := get_any _ b mb sv n L key HIA.out.cache (by omega)
        rw [← hr0, ← hr1] at hget
        have HG := Lib.hid hget
        have HR0 := Lib.hid hr0
        have HR1 := Lib.hid hr1
        have HND := Lib.hid hnd
        clear hget hr0 hr1 hnd
        go_wp2_with fail
        refine HG.out.mono ?_
        rintro e w4 hg
        have hb4 : w4.heap[wr.heap.size]? = some (.cells #[.bool false, S key, S x] 31 (0, 0)) := by
          obtain ⟨_, _, _, ho, _⟩ := hg
          exact HBX.out _ ho
        obtain ⟨sv4, rfl, I4⟩ := HIA.out.cacheStep hg
        have f1 := (cell_of_heap hb4 1).trans (show _ = some (S key) from rfl)
        have HI4 := Lib.hid I4
        clear I4 hb4 hg
        have hgm := getM_any w4 m n slv L key HI4.out.cells HI4.out.rd (by omega) hLn HND.out
        rw [← HR0.out, ← HR1.out] at hgm
        have HPM := Lib.hid hgm
        clear hgm
        go_wp2_with fail
        refine HPM.out.mono ?_
        rintro e w5 hg
        obtain ⟨slv5, rfl, I5⟩ := HI4.out.modelStep hg
        have HI5 := Lib.hid I5
        have HLL := Lib.hid (getL_len' key HND.out hLn)
        have hs0 : (r0 == r0) = true := by simp
        have hs1 : (r0 != r0) = false := by simp
        have hs2 : (r1 != r1) = false := by simp
        clear I5 hg f1
        obtain ⟨LL, hLL⟩ : ∃ LL, LL = getL L key := ⟨_, rfl⟩
        rw [← hLL] at HI5 HLL
        clear hLL HPM HI4 HG HBX HIA HR0 HR1 HND
        go_wp2_with fail

        have hlen5 : (LL.length : Int) ≤ 1000 := by have := HLL.out; omega
        have hkc : ∀ w1, Ext w5 w1 → Calls Tryd.prog 25 #[.pointer (some ⟨b, 0, none⟩)] w1 (fun e w2 => ∃ v', e = .returned v' ∧ Rd S w2 v' (LL.map (·.1)) ∧ Ext w1 w2) := fun w1 h1 => keysC_any w1 b mb _ n LL (HI5.out.later h1).cache (by have := HLL.out; omega)
        have hkm : ∀ w1, Ext w5 w1 → Calls Tryd.prog 26 #[.pointer (some ⟨m, 0, none⟩)] w1 (fun e w2 => ∃ v', e = .returned v' ∧ Rd S w2 v' (LL.map (·.1)) ∧ Ext w1 w2) := fun w1 h1 => keysM_any w1 m _ _ LL (HI5.out.later h1).cells (HI5.out.later h1).rd (by have := HLL.out; omega)
        obtain ⟨am, capm, hslm, _⟩ := id HI5.out.rd
        have hcm : ∀ w1, Ext w5 w1 → w1.cell? ⟨m, 1, none⟩ = some (.slice am LL.length capm) := fun w1 h1 => by
          have h := cell_of_heap (HI5.out.later h1).cells 1
          rw [hslm] at h
          exact h.trans rfl
        have HKC := Lib.hid hkc
        have HKM := Lib.hid hkm
        have HCM := Lib.hid hcm
        have hself : (LL.map (·.1) == LL.map (·.1)) = true := by simp
        have HSF := Lib.hid hself
        have hnn : ((LL.length : Int) != (LL.length : Int)) = false := by simp
        clear hkc hkm hcm hself hslm
        go_region_law (first
          | (go_simp; go_at_call 25; refine (HKC.out _ ?hx).mono ?_; (case hx => repeat' (with_reducible first | exact Only.refl _ _ | apply Only.thenDrew)); rintro e wA ⟨vA, rfl, hra, hoa⟩; have HRA := Lib.hid hra; have HOA : Hid (Ext w5 wA) := Lib.hid ((Only.drew (fun _ => False) w5).ext hoa); clear hra hoa)
          | (go_simp; go_at_call 26; refine (HKM.out _ HOA.out).mono ?_; rintro e wB ⟨vB, rfl, hrb, hob⟩; have HRA2 := Lib.hid (HRA.out.ext hob); have HRB := Lib.hid hrb; have HOB := Lib.hid (HOA.out.ext hob); clear hrb hob)
          | (go_simp; go_at_call 24; refine (sameTexts_any _ _ _ _ _ HRA2.out HRB.out).mono ?_; rintro e wC ⟨rfl, hd⟩; rw [HSF.out]; have HOC := Lib.hid (HOB.out.ext hd.ext); have qm := HCM.out _ HOC.out; clear hd)
          | (go_simp; go_at_call 15; refine (len_any _ _ _ _ _ _ (HI5.out.later HOC.out).cache).mono ?_; rintro e wD ⟨rfl, rfl⟩))
        all_goals go_wp2
        all_goals
          go_roundw
          case rel => exact ⟨k + 1, _, _, LL, by omega, by go_num, HI5.out.later HOC.out, HLL.out⟩
          case measure => simp [intOf]; omega

    · have hltz : ¬ ((k : Int) < (l.length : Int)) := by omega
      go_wp2_with fail
      go_ret
      exact ⟨rfl, HIr.out.ext⟩
end Go.Proofs.YtnmhaipjfpongaaDoor

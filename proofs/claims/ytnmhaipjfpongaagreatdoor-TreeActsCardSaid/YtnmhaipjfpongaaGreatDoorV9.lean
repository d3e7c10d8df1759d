/- The model's tree: Put. No condition but that the model is one. -/
import Derived.Test.YtnmhaipjfpongaaGreatDoorV8
import Derived.Test.YtnmhaipjfpongaaGreatDoorT5
namespace Go.Proofs.YtnmhaipjfpongaaGreatDoor
open Go.ChangeShapes Go.WideShapes Go.ChangeAt Go.RowKit

theorem clash_false {L : FL} {p : B} (h : clash L p = false) {j : Nat} {q : B × B} (hq : L[j]? = some q) : aboveB p q.1 = false ∧ aboveB q.1 p = false := by
  have := List.any_eq_false.1 h q (List.mem_of_getElem? hq)
  simpa using this

theorem clash_none {L : FL} {p : B} (h : clash L p = true) : ¬ ∀ i q, i < L.length → L[i]? = some q → near p q.1 = false := by
  intro hn
  obtain ⟨q, hq, h1⟩ := List.any_eq_true.1 h
  obtain ⟨i, hi⟩ := List.getElem?_of_mem hq
  have := hn i q (List.getElem?_eq_some_iff.1 hi).1 hi
  unfold near at this
  rw [this] at h1
  cases h1

set_option maxRecDepth 100000 in
set_option maxHeartbeats 1000000 in
theorem putM_bad (w : World) (base m : Nat) (slv : Value) (L : FL) (p x : B) (h : RTree w base m slv L) (hp : p.length ≤ 999999) (hk : pathOk p = false) :
    Calls Tryz.prog 18 #[.pointer (some ⟨m, 0, none⟩), S p, S x] w (RDone w base m slv (putT L p x) (I (putCode L p x))) := by
  have HC := isPath_any w p hp
  rw [hk] at HC
  have HC := Lib.hid HC
  have hcode : putCode L p x = 4 := by unfold putCode; rw [hk, if_neg (by decide)]
  have hT : putT L p x = L := by unfold putT; rw [hcode, if_neg (by decide)]
  rw [hcode, hT]
  have H := Lib.hid h
  clear h hp hk hcode hT
  go_enter Tryz.func18, Tryz.ntmps18
  go_wp2_with (go_at_call 50; refine HC.out.mono ?_; rintro e w1 ⟨rfl, ho⟩)
  go_ret
  exact RDone.same H.out ho

set_option maxRecDepth 100000 in
set_option maxHeartbeats 1000000 in
theorem putM_long (w : World) (base m : Nat) (slv : Value) (L : FL) (p x : B) (h : RTree w base m slv L) (hp : p.length ≤ 999999) (hk : pathOk p = true) (hx : 2000 < x.length) :
    Calls Tryz.prog 18 #[.pointer (some ⟨m, 0, none⟩), S p, S x] w (RDone w base m slv (putT L p x) (I (putCode L p x))) := by
  have HC := isPath_any w p hp
  rw [hk] at HC
  have HC := Lib.hid HC
  have hcode : putCode L p x = 2 := by unfold putCode; rw [hk, if_pos rfl, if_pos hx]
  have hT : putT L p x = L := by unfold putT; rw [hcode, if_neg (by decide)]
  rw [hcode, hT]
  have H := Lib.hid h
  have hz : (2000 : Int) < (x.length : Int) := by omega
  clear h hp hk hcode hT hx
  go_enter Tryz.func18, Tryz.ntmps18
  go_wp2_with (go_at_call 50; refine HC.out.mono ?_; rintro e w1 ⟨rfl, ho⟩)
  go_ret
  exact RDone.same H.out ho

set_option maxRecDepth 100000 in
set_option maxHeartbeats 2000000 in
theorem putM_clash (w : World) (base m : Nat) (slv : Value) (L : FL) (p x : B) (h : RTree w base m slv L) (hl : L.length ≤ 1000) (hp : p.length ≤ 999999) (hk : pathOk p = true) (hx : ¬ 2000 < x.length) (hc : clash L p = true) :
    Calls Tryz.prog 18 #[.pointer (some ⟨m, 0, none⟩), S p, S x] w (RDone w base m slv (putT L p x) (I (putCode L p x))) := by
  have HC := isPath_any w p hp
  rw [hk] at HC
  have HC := Lib.hid HC
  have hcode : putCode L p x = 7 := by unfold putCode; rw [hk, if_pos rfl, if_neg hx, if_pos hc]
  have hT : putT L p x = L := by unfold putT; rw [hcode, if_neg (by decide)]
  rw [hcode, hT]
  have H := Lib.hid h
  have HCL := Lib.hid (clash_none hc)
  have hz : ¬ (2000 : Int) < (x.length : Int) := by omega
  obtain ⟨a, cap, hv, _, _, hcell⟩ := h.rd
  have HV := Lib.hid hv
  have HCE := Lib.hid hcell
  clear h hp hk hcode hT hx hc hcell hv
  go_enter Tryz.func18, Tryz.ntmps18
  go_wp2_with (go_at_call 50; refine HC.out.mono ?_; rintro e w1 ⟨rfl, ho⟩; have HO := Lib.hid ho; clear ho)
  have c1 : w1.cell? ⟨m, 0, none⟩ = some (.slice a L.length cap) := by
    rw [← HV.out]
    exact (cell_of_heap (HO.out.heapOf H.out.cells (fun h => h)) 0).trans rfl
  go_loop [8] (fun i => ∃ j : Nat, j ≤ L.length ∧ i = .int .i64 j ∧ Hid (∀ i q, i < j → L[i]? = some q → near p q.1 = false)) (fun i => L.length - (intOf i).toNat)
  case atStart => exact ⟨0, Nat.zero_le _, rfl, Lib.hid (fun i q h => absurd h (Nat.not_lt_zero _))⟩
  case round =>
    obtain ⟨j, hj, rfl, hb⟩ := hrel
    by_cases hlt : j < L.length
    · have hltz : (j : Int) < (L.length : Int) := by omega
      obtain ⟨b, off, rfl, hcl⟩ := HCE.out (by intro h; rw [h] at hlt; simp at hlt)
      obtain ⟨⟨k', y⟩, hq⟩ : ∃ y, L[j]? = some y := ⟨_, List.getElem?_eq_getElem hlt⟩
      have d0 : w1.cell? ⟨b, off + j * 2, none⟩ = some (S k') := HO.out.cellOf (hcl j _ hq 0 _ rfl) (fun h => h)
      have HQ := Lib.hid hq
      have HA1 := Lib.hid (fun W => refAbove_any W p k')
      have HA2 := Lib.hid (fun W => refAbove_any W k' p)
      have HN := Lib.hid (show near p k' = (aboveB p k' || aboveB k' p) from rfl)
      clear hcl hq
      generalize aboveB p k' = r1 at HA1 HN
      generalize aboveB k' p = r2 at HA2 HN
      cases r1
      · cases r2
        · go_wp2_with fail
          refine (HA1.out _).mono ?_
          rintro e w2 ⟨rfl, rfl⟩
          go_wp2_with fail
          refine (HA2.out _).mono ?_
          rintro e w2 ⟨rfl, rfl⟩
          go_wp2_with fail
          go_round
          case rel => exact ⟨j + 1, by omega, by go_num, Lib.hid (fun i q hi hq => by
            rcases Nat.lt_succ_iff_lt_or_eq.1 hi with h | rfl
            · exact hb.out i q h hq
            · rw [HQ.out] at hq; cases hq; exact HN.out)⟩
          case measure => simp [intOf]; omega
        · go_wp2_with fail
          refine (HA1.out _).mono ?_
          rintro e w2 ⟨rfl, rfl⟩
          go_wp2_with fail
          refine (HA2.out _).mono ?_
          rintro e w2 ⟨rfl, rfl⟩
          go_wp2_with fail
          go_ret
          exact RDone.same H.out HO.out
      · go_wp2_with fail
        refine (HA1.out _).mono ?_
        rintro e w2 ⟨rfl, rfl⟩
        go_wp2_with fail
        go_ret
        exact RDone.same H.out HO.out
    · exact absurd (fun i q hi hq => hb.out i q (by omega) hq) HCL.out
end Go.Proofs.YtnmhaipjfpongaaGreatDoor

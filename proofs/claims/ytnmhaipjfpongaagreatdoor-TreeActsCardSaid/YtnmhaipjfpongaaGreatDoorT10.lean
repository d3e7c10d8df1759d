/- The reference's MatchOf: row by row. No condition but lengths. (Printed by gen_t10.py.) -/
import Derived.Test.YtnmhaipjfpongaaGreatDoorT9
import Derived.Test.YtnmhaipjfpongaaGreatDoorT5
import Derived.Test.YtnmhaipjfpongaaGreatDoorQ9
import Derived.Deep.RegionHeld3
import Derived.Deep.DrawnRows
namespace Go.Proofs.YtnmhaipjfpongaaGreatDoor
open Go.ChangeShapes Go.WideShapes Go.ChangeAt Go.RowKit

attribute [local go_sem ↓] Go.wp_at_zero Go.wp_at_succ

abbrev stL : B → Bool := fun x => x == [42, 42]
abbrev eqL : B → B → Bool := fun x y => starB x y

theorem cell_far (W : World) {h b : Nat} (hne : b ≠ h) (k t : Nat) (u : Value) : (W.setCell ⟨h, k, none⟩ u).cell? ⟨b, t, none⟩ = W.cell? ⟨b, t, none⟩ :=
  World.cell?_of_block (Below.heap_setCell _ _ _ _ (by simpa using hne))

def RefMatchIs (w : World) (p s : B) (e : Ending) (w' : World) : Prop :=
  e = .returned (.tuple #[.bool (matchOk p s && fitsB (cut p) (cut s)), I (if matchOk p s then 0 else 4)]) ∧ Ext w w'

set_option maxRecDepth 100000 in
set_option maxHeartbeats 4000000 in
/-- Behind both partsOf: the rows. -/
theorem refMatch_any (w : World) (p s : B) (hp : p.length ≤ 50000) (hs : s.length ≤ 50000) : Calls Tryz.prog 22 #[S p, S s] w (RefMatchIs w p s) := by
  have H1 := Lib.hid (refParts_any w true p (by omega))
  have H2 := Lib.hid (fun w1 => refParts_any w1 false s (by omega))
  have c1 := cut_len_le p
  have c2 := cut_len_le s
  have hxl : ∀ x ∈ cut p, x.length ≤ 50000 := fun x hx => by have := mem_cut_len p x hx; omega
  have hyl : ∀ x ∈ cut s, x.length ≤ 50000 := fun x hx => by have := mem_cut_len s x hx; omega
  have np := cut_pos p
  have ns := cut_pos s
  have hmo : matchOk p s = (partsOk true (cut p) && partsOk false (cut s)) := rfl
  obtain ⟨r, hr⟩ : ∃ r, r = matchOk p s := ⟨_, rfl⟩
  obtain ⟨f, hf⟩ : ∃ f, f = fitsB (cut p) (cut s) := ⟨_, rfl⟩
  unfold RefMatchIs
  rw [← hr, ← hf]
  unfold RefPartsIs at H1 H2
  obtain ⟨lp, hlp⟩ : ∃ lp, lp = cut p := ⟨_, rfl⟩
  obtain ⟨ls, hls⟩ : ∃ ls, ls = cut s := ⟨_, rfl⟩
  rw [hmo] at hr
  rw [← hlp] at H1 c1 hxl np hr hf
  rw [← hls] at H2 c2 hyl ns hr hf
  have HR := Lib.hid hr
  have HF := Lib.hid hf
  have HXL := Lib.hid hxl
  have HYL := Lib.hid hyl
  have pl : lp.length ≤ 50001 := by omega
  have sl : ls.length ≤ 50001 := by omega
  have p0 : ((lp.length : Int) == 0) = false := beq_eq_false_iff_ne.2 (by omega)
  have s0 : ((ls.length : Int) == 0) = false := beq_eq_false_iff_ne.2 (by omega)
  clear hr hf hxl hyl hlp hls hmo hp hs c1 c2
  go_enter Tryz.func22, Tryz.ntmps22
  go_wp2_with fail
  refine H1.out.mono ?_
  rintro e w1 ⟨ho, h1⟩
  have HO1 := Lib.hid ho
  rcases h1 with ⟨ok1, g1, cap1, rfl, hc1⟩ | ⟨ok1, rfl⟩
  · have HC1 := Lib.hid hc1
    have HOK1 := Lib.hid ok1
    clear ho hc1 ok1
    go_wp2_with fail
    refine (H2.out w1).mono ?_
    rintro e w2 ⟨ho, h2⟩
    have HO2 := Lib.hid (HO1.out.ext ho)
    rcases h2 with ⟨ok2, g2, cap2, rfl, hc2⟩ | ⟨ok2, rfl⟩
    · have HP := Lib.hid (fun i x hx => ho.cellOf (HC1.out i x hx) (fun h => h))
      have HS := Lib.hid hc2
      have hr : r = true := by rw [HR.out, HOK1.out, ok2]; rfl
      subst hr
      obtain ⟨n, hn⟩ : ∃ n, n = ls.length := ⟨_, rfl⟩
      have hnn : n ≤ 50001 := by omega
      have hmk := run_bools n (by omega)
      have HMK := Lib.hid hmk
      have HN := Lib.hid hn
      have hmade := BRow.made w2 (rowG stL eqL lp ls 0) n
      obtain ⟨w3, hW⟩ : ∃ w3, w2.alloc (.cells (Array.replicate (n + 1) (.bool false)) 4) = w3 := ⟨_, rfl⟩
      have hx1 : Ext w2 w3 := by rw [← hW]; exact Only.alloc _ _ _
      rw [hW] at hmade
      have hmk1 := hmk w2
      rw [hW] at hmk1
      have d1 := hmade.cell (Nat.zero_le _)
      have f1 := hmade.free 0
      have HMD := Lib.hid hmade
      have HX1 := Lib.hid hx1
      have hn0 : (0 : Int) < (n : Int) + 1 := by omega
      rw [← hn] at s0 ns
      clear hmk hmade hx1 hW ho hc2 ok2 sl
      rw [← hn]
      clear hn
      go_wp2_with fail
      have hs0 := HMD.out.step (Nat.zero_le n)
      have hrow0 : BRow (w3.setCell ⟨w2.heap.size, 0, none⟩ (.bool true)) w2.heap.size (rowG stL eqL lp ls 0) n := by
        have e : rowG stL eqL lp ls 0 0 = true := by rw [rowG_start lp ls (Nat.zero_le _)]; rfl
        rw [e] at hs0
        refine hs0.congr fun k hk => ?_
        unfold part
        rw [rowG_start lp ls (by have := HN.out; omega)]
        cases k with
        | zero => rfl
        | succ k => rfl
      have HROW0 := Lib.hid hrow0
      have HX2 := Lib.hid (HX1.out.thenSet (x := ⟨w2.heap.size, 0, none⟩) (.bool true) (.inr (Nat.le_refl _)))
      clear hs0 hrow0 d1 f1 hmk1
      go_loopw [8, 9] (fun f i wr => ∃ j b : Nat, j ≤ lp.length ∧ i = .int .i64 j ∧ f = .slice (some ⟨b, 0, none⟩) (n + 1) (n + 1) ∧ w2.heap.size ≤ b ∧ Hid (Ext w2 wr) ∧ Hid (BRow wr b (rowG stL eqL lp ls j) n)) (fun _ i _ => lp.length - (intOf i).toNat)
      case atStart => exact ⟨0, w2.heap.size, Nat.zero_le _, rfl, rfl, Nat.le_refl _, HX2, HROW0⟩
      case round =>
        obtain ⟨j, b, hj, rfl, rfl, hb, HX, HB⟩ := hrel
        by_cases hlt : j < lp.length
        · have hltz : (j : Int) < (lp.length : Int) := by omega
          have hj0 : (0 : Int) ≤ (j : Int) := by omega
          obtain ⟨c, hc⟩ : ∃ c, lp[j]? = some c := ⟨_, List.getElem?_eq_getElem hlt⟩
          have HC := Lib.hid hc
          have hmkr := HMK.out wr
          have hmade := BRow.made wr (rowG stL eqL lp ls (j + 1)) n
          have hox : Ext wr (wr.alloc (.cells (Array.replicate (n + 1) (.bool false)) 4)) := Only.alloc _ _ _
          have hbl : b < wr.heap.size := by obtain ⟨cur, hh, _⟩ := HB.out; exact lt_of_heap hh
          have hhw : w2.heap.size ≤ wr.heap.size := by omega
          obtain ⟨h, hh⟩ : ∃ h, h = wr.heap.size := ⟨_, rfl⟩
          obtain ⟨w4, hW2⟩ : ∃ w4, wr.alloc (.cells (Array.replicate (n + 1) (.bool false)) 4) = w4 := ⟨_, rfl⟩
          rw [hW2] at hmkr hmade hox
          rw [← hh] at hmkr hmade hbl hhw
          have HMADE := Lib.hid hmade
          have HX3 := Lib.hid (HX.out.ext hox)
          have HB3 := Lib.hid (HB.out.later hox (fun h => h))
          clear hc hmade hox hh hW2
          go_wp2_with fail
          go_loopw [11] (fun kv wi => ∃ k : Nat, k ≤ n + 1 ∧ kv = .int .i64 k ∧ Hid (Ext w2 wi) ∧ Hid (BRow wi b (rowG stL eqL lp ls j) n) ∧ Hid (BRow wi h (part (rowG stL eqL lp ls (j + 1)) k) n)) (fun kv _ => n + 1 - (intOf kv).toNat)
          case atStart => exact ⟨0, Nat.zero_le _, rfl, HX3, HB3, HMADE⟩
          case round =>
            obtain ⟨k, hk, rfl, HXI, HBI, HNI⟩ := hrel
            by_cases hkn : k ≤ n
            · have hknz : (k : Int) ≤ (n : Int) := by omega
              have hkl : (k : Int) < (n : Int) + 1 := by omega
              have k0 : (0 : Int) ≤ (k : Int) := by omega
              have cn := HNI.out.cell hkn
              have fn := HNI.out.free k
              have cf := HBI.out.cell hkn
              have cp := HXI.out.cellOf (HP.out j c HC.out) (fun h => h)
              by_cases h42 : c = [42, 42]
              · have hst : stL c = true := beq_iff_eq.2 h42
                have g42 : (c == [42, 42]) = true := hst
                cases hv : rowG stL eqL lp ls j k with
                | true =>
                  have hG : rowG stL eqL lp ls (j + 1) k = true := by
                    cases k with
                    | zero => rw [rowG_star0 HC.out hst]; exact hv
                    | succ k => rw [rowG_star HC.out hst (by have := HN.out; omega), hv]; rfl
                  rw [hv] at cf
                  have HXE := Lib.hid (HXI.out.thenSet (x := ⟨h, k, none⟩) (.bool true) (.inr hhw))
                  have HBE := Lib.hid (HBI.out.setOther (c := h) (by omega) (k) (.bool true))
                  have hne := HNI.out.step (show k ≤ n by omega)
                  rw [show rowG stL eqL lp ls (j + 1) (k) = true from hG] at hne
                  have HNE := Lib.hid hne
                  clear hne
                  clear hv hG h42 hst
                  go_wp2_with fail
                  go_roundw
                  case rel => exact ⟨k + 1, by omega, by go_num, HXE, HBE, HNE⟩
                  case measure => simp [intOf]; omega
                | false =>
                  rw [hv] at cf
                  cases k with
                  | zero =>
                    have hG : rowG stL eqL lp ls (j + 1) 0 = false := by rw [rowG_star0 HC.out hst]; exact hv
                    have HXE := Lib.hid (HXI.out.thenSet (x := ⟨h, 0, none⟩) (.bool false) (.inr hhw))
                    have HBE := Lib.hid (HBI.out.setOther (c := h) (by omega) (0) (.bool false))
                    have hne := HNI.out.step (show 0 ≤ n by omega)
                    rw [show rowG stL eqL lp ls (j + 1) (0) = false from hG] at hne
                    have HNE := Lib.hid hne
                    clear hne
                    clear hv hG h42 hst
                    go_wp2_with fail
                    go_roundw
                    case rel => exact ⟨0 + 1, by omega, rfl, HXE, HBE, HNE⟩
                    case measure => simp [intOf]
                  | succ k =>
                    have hk1 : k ≤ n := by omega
                    have ck := HNI.out.cell hk1
                    have ek : part (rowG stL eqL lp ls (j + 1)) (k + 1) k = rowG stL eqL lp ls (j + 1) k := by unfold part; rw [if_pos (Nat.lt_succ_self _)]
                    rw [ek] at ck
                    obtain ⟨v, hvv⟩ : ∃ v, v = rowG stL eqL lp ls (j + 1) k := ⟨_, rfl⟩
                    rw [← hvv] at ck
                    have hG : rowG stL eqL lp ls (j + 1) (k + 1) = v := by rw [rowG_star HC.out hst (by have := HN.out; omega), hv, hvv]; rfl
                    have k2 : (k : Int) < (n : Int) + 1 := by omega
                    have k3 : (0 : Int) ≤ (k : Int) := by omega
                    have kd : decide ((0 : Int) < (k : Int) + 1) = true := decide_eq_true (by omega)
                    have HXE := Lib.hid (HXI.out.thenSet (x := ⟨h, k + 1, none⟩) (.bool v) (.inr hhw))
                    have HBE := Lib.hid (HBI.out.setOther (c := h) (by omega) (k + 1) (.bool v))
                    have hne := HNI.out.step (show k + 1 ≤ n by omega)
                    rw [show rowG stL eqL lp ls (j + 1) (k + 1) = v from hG] at hne
                    have HNE := Lib.hid hne
                    clear hne
                    clear hv hG hvv ek h42 hst
                    go_wp2_with fail
                    go_roundw
                    case rel => exact ⟨(k + 1) + 1, by omega, by go_num, HXE, HBE, HNE⟩
                    case measure => simp [intOf]; omega
              · have hst : stL c = false := beq_eq_false_iff_ne.2 h42
                have g42 : (c == [42, 42]) = false := hst
                cases k with
                | zero =>
                  have hG : rowG stL eqL lp ls (j + 1) 0 = false := rowG_one0 HC.out hst
                  have HXE := Lib.hid (HXI.out.thenSet (x := ⟨h, 0, none⟩) (.bool false) (.inr hhw))
                  have HBE := Lib.hid (HBI.out.setOther (c := h) (by omega) (0) (.bool false))
                  have hne := HNI.out.step (show 0 ≤ n by omega)
                  rw [show rowG stL eqL lp ls (j + 1) (0) = false from hG] at hne
                  have HNE := Lib.hid hne
                  clear hne
                  clear hG h42 hst cf
                  go_wp2_with fail
                  go_region
                  all_goals go_wp2
                  all_goals
                    go_roundw
                    case rel => exact ⟨0 + 1, by omega, rfl, Lib.hid HXE.out.thenDrew, Lib.hid (HBE.out.later (Only.drew (fun _ => False) _) (fun h => h)), Lib.hid (HNE.out.later (Only.drew (fun _ => False) _) (fun h => h))⟩
                    case measure => simp [intOf]
                | succ k =>
                  have hk1 : k ≤ n := by omega
                  have cfk := HBI.out.cell hk1
                  obtain ⟨d, hd⟩ : ∃ d, ls[k]? = some d := ⟨_, List.getElem?_eq_getElem (by have := HN.out; omega)⟩
                  have k2 : (k : Int) < (n : Int) + 1 := by omega
                  have k3 : (0 : Int) ≤ (k : Int) := by omega
                  have k4 : (k : Int) < (n : Int) := by omega
                  have kd : decide ((0 : Int) < (k : Int) + 1) = true := decide_eq_true (by omega)
                  have hone := rowG_one (st := stL) (eq := eqL) (p := lp) (s := ls) HC.out hst hd
                  cases hv : rowG stL eqL lp ls j k with
                  | false =>
                    have hG : rowG stL eqL lp ls (j + 1) (k + 1) = false := by rw [hone, hv]; rfl
                    rw [hv] at cfk
                    have HXE := Lib.hid (HXI.out.thenSet (x := ⟨h, k + 1, none⟩) (.bool false) (.inr hhw))
                    have HBE := Lib.hid (HBI.out.setOther (c := h) (by omega) (k + 1) (.bool false))
                    have hne := HNI.out.step (show k + 1 ≤ n by omega)
                    rw [show rowG stL eqL lp ls (j + 1) (k + 1) = false from hG] at hne
                    have HNE := Lib.hid hne
                    clear hne
                    clear hv hG h42 hst hone cf hd
                    go_wp2_with fail
                    go_region
                    all_goals go_wp2
                    all_goals
                      go_roundw
                      case rel => exact ⟨(k + 1) + 1, by omega, by go_num, Lib.hid HXE.out.thenDrew, Lib.hid (HBE.out.later (Only.drew (fun _ => False) _) (fun h => h)), Lib.hid (HNE.out.later (Only.drew (fun _ => False) _) (fun h => h))⟩
                      case measure => simp [intOf]; omega
                  | true =>
                    rw [hv] at cfk
                    have cs := HXI.out.cellOf (HS.out k d hd) (fun h => h)
                    obtain ⟨v, hvv⟩ : ∃ v, v = starB c d := ⟨_, rfl⟩
                    have hG : rowG stL eqL lp ls (j + 1) (k + 1) = v := by rw [hone, hv, hvv]; rfl
                    have hso := fun w5 => starOf_any w5 c d (by have := HXL.out c (List.mem_of_getElem? HC.out); omega) (by have := HYL.out d (List.mem_of_getElem? hd); omega)
                    rw [← hvv] at hso
                    have HSO := Lib.hid hso
                    have HG := Lib.hid hG
                    have hbh : b ≠ h := by omega
                    have hg1 : g1 ≠ h := by have : g1 < w2.heap.size := lt_of_cell (HP.out j c HC.out); omega
                    have hg2 : g2 ≠ h := by have : g2 < w2.heap.size := lt_of_cell (HS.out k d hd); omega
                    have k5 : (0 : Int) ≤ (k : Int) + 1 := by omega
                    have k6 : (k : Int) + 1 < (n : Int) + 1 := by omega
                    have wr1 : IntKind.i64.wrap ((k : Int) + 1 - 1) = (k : Int) := by rw [IntKind.wrap_i64]; omega
                    have wr2 : IntKind.i64.wrap (k : Int) = (k : Int) := by rw [IntKind.wrap_i64]; omega
                    clear hv hG h42 hst hone cf hd hvv hso
                    go_wp2_with fail
                    go_region_held3 (fun w' => w'.cell? ⟨b, k, none⟩ = some (.bool true) ∧ w'.cell? ⟨g1, j, none⟩ = some (S c) ∧ w'.cell? ⟨g2, k, none⟩ = some (S d)) (first | exact ⟨HO5.out.cellOf cfk (fun h => h), HO5.out.cellOf cp (fun h => h), HO5.out.cellOf cs (fun h => h)⟩ | exact ⟨(cell_far _ hbh _ _ _).trans (HO5.out.cellOf cfk (fun h => h)), (cell_far _ hg1 _ _ _).trans (HO5.out.cellOf cp (fun h => h)), (cell_far _ hg2 _ _ _).trans (HO5.out.cellOf cs (fun h => h))⟩ | go_keep)
                      ((go_at_call 54; refine (HSO.out _).mono ?_; rintro e w5 ⟨rfl, ho⟩; have HO5 : Hid (Ext wr w5) := Lib.hid (by first | exact ho | exact (Only.drew _ wr).ext ho | exact (Only.drewN _ wr _).ext ho); have NN5 := Lib.hid (HNI.out.later HO5.out (fun h => h)); have BB5 := Lib.hid (HBI.out.later HO5.out (fun h => h)); have XX5 := Lib.hid (HXI.out.ext HO5.out); have cn5 := NN5.out.cell hkn; have fn5 := NN5.out.free (k + 1); clear ho))
                    all_goals go_wp2
                    all_goals
                      have HXE := Lib.hid (XX5.out.thenSet (x := ⟨h, k + 1, none⟩) (.bool v) (.inr hhw))
                      have HBE := Lib.hid (BB5.out.setOther (c := h) (by omega) (k + 1) (.bool v))
                      have hne := NN5.out.step (show k + 1 ≤ n by omega)
                      rw [show rowG stL eqL lp ls (j + 1) (k + 1) = v from HG.out] at hne
                      have HNE := Lib.hid hne
                      clear hne
                      go_roundw
                      case rel => exact ⟨k + 1 + 1, by omega, by go_num, HXE, HBE, HNE⟩
                      case measure => simp [intOf]; omega
            · have hknz : ¬ ((k : Int) ≤ (n : Int)) := by omega
              have HROW := Lib.hid (HNI.out.congr (g' := rowG stL eqL lp ls (j + 1)) fun t ht => by unfold part; rw [if_pos (by omega)])
              go_wp2_with fail
              go_roundw
              case rel => exact ⟨j + 1, h, by omega, by go_num, rfl, hhw, HXI, HROW⟩
              case measure => simp [intOf]; omega
        · have hltz : ¬ ((j : Int) < (lp.length : Int)) := by omega
          have hj2 : j = lp.length := by omega
          subst hj2
          have ce := HB.out.cell (Nat.le_refl n)
          have he : rowG stL eqL lp ls lp.length n = f := by
            rw [HF.out, HN.out]; exact rowG_end lp ls
          rw [he] at ce
          have q1 : (0 : Int) ≤ (n : Int) := by omega
          have q2 : (n : Int) < (n : Int) + 1 := by omega
          clear he
          go_wp2_with fail
          go_ret2
          exact ⟨rfl, HO2.out.ext HX.out⟩
    · have hr : r = false := by rw [HR.out, ok2]; simp
      subst hr
      clear ho ok2
      go_wp2_with fail
      go_ret2
      exact ⟨rfl, HO2.out⟩
  · have hr : r = false := by rw [HR.out, ok1]; rfl
    subst hr
    clear ho ok1
    go_wp2_with fail
    refine (H2.out w1).mono ?_
    rintro e w2 ⟨ho, h2⟩
    have HO2 := Lib.hid (HO1.out.ext ho)
    have hv : ∃ a len cap, e = .returned (.slice a len cap) := by rcases h2 with ⟨_, g, cap, rfl, _⟩ | ⟨_, rfl⟩ <;> exact ⟨_, _, _, rfl⟩
    obtain ⟨a, len, cap, rfl⟩ := hv
    clear ho h2
    go_wp2_with fail
    go_ret2
    exact ⟨rfl, HO2.out⟩
end Go.Proofs.YtnmhaipjfpongaaGreatDoor

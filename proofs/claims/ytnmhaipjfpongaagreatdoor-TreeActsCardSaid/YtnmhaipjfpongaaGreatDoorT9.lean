/- The reference's starOf: row by row. No condition but lengths. -/
import Derived.Test.YtnmhaipjfpongaaGreatDoorT4
import Derived.Laws.MakeOwn
namespace Go.Proofs.YtnmhaipjfpongaaGreatDoor
open Go.ChangeShapes Go.WideShapes Go.ChangeAt Go.RowKit
open Go.MapKept (heap_alloc)

/-! ### rows of truth values in memory -/
def BRow (W : World) (b : Nat) (g : Nat → Bool) (n : Nat) : Prop := ∃ cur : Array Value, W.heap[b]? = some (.cells cur 4 (0, 0)) ∧ ∀ k, k ≤ n → cur[k]? = some (.bool (g k))

theorem BRow.cell {W : World} {b : Nat} {g : Nat → Bool} {n : Nat} (h : BRow W b g n) {k : Nat} (hk : k ≤ n) : W.cell? ⟨b, k, none⟩ = some (.bool (g k)) := by
  obtain ⟨cur, hh, hc⟩ := h
  exact (cell_of_heap hh k).trans (hc k hk)
theorem BRow.free {W : World} {b : Nat} {g : Nat → Bool} {n : Nat} (h : BRow W b g n) (k : Nat) : W.frozen? ⟨b, k, none⟩ = false := by
  obtain ⟨cur, hh, _⟩ := h
  exact free_of_heap hh k
theorem BRow.later {W W' : World} {b : Nat} {g : Nat → Bool} {n : Nat} {p : Nat → Prop} (h : BRow W b g n) (ho : Only p W W') (hp : ¬ p b) : BRow W' b g n := by
  obtain ⟨cur, hh, hc⟩ := h
  exact ⟨cur, ho.heapOf hh hp, hc⟩
theorem BRow.congr {W : World} {b : Nat} {g g' : Nat → Bool} {n : Nat} (h : BRow W b g n) (hg : ∀ k, k ≤ n → g k = g' k) : BRow W b g' n := by
  obtain ⟨cur, hh, hc⟩ := h
  exact ⟨cur, hh, fun k hk => by rw [hc k hk, hg k hk]⟩

/-- The first k are laid, the others are false. -/
def part (g : Nat → Bool) (k : Nat) : Nat → Bool := fun t => if t < k then g t else false

theorem BRow.step {W : World} {b : Nat} {g : Nat → Bool} {n k : Nat} (h : BRow W b (part g k) n) (_ : k ≤ n) : BRow (W.setCell ⟨b, k, none⟩ (.bool (g k))) b (part g (k + 1)) n := by
  obtain ⟨cur, hh, hc⟩ := h
  refine ⟨_, heap_setCell_same hh k _, fun t ht => ?_⟩
  have h1 := hc t ht
  have hlt := (Array.getElem?_eq_some_iff.1 h1).1
  rw [Array.getElem?_setIfInBounds]
  by_cases e : k = t
  · subst e
    rw [if_pos rfl, if_pos hlt]
    unfold part
    rw [if_pos (Nat.lt_succ_self _)]
  · rw [if_neg e, h1]
    unfold part
    by_cases h2 : t < k
    · rw [if_pos h2, if_pos (by omega)]
    · rw [if_neg h2, if_neg (by omega)]

theorem BRow.setOther {W : World} {b c : Nat} {g : Nat → Bool} {n : Nat} (h : BRow W b g n) (hne : b ≠ c) (k : Nat) (u : Value) : BRow (W.setCell ⟨c, k, none⟩ u) b g n :=
  h.later (Only.set (p := fun i => i = c) u rfl) hne

theorem BRow.made (W : World) (g : Nat → Bool) (n : Nat) : BRow (W.alloc (.cells (Array.replicate (n + 1) (.bool false)) 4)) W.heap.size (part g 0) n := by
  refine ⟨_, (heap_alloc W _).1, fun k hk => ?_⟩
  rw [Array.getElem?_replicate, if_pos (by omega)]
  rfl

theorem infoBool : (Tryz.prog.info? 4).map (fun i => (i.zero, i.size, i.bytes)) = some (some (.bool false), 1, 1) := by kernel_rfl

set_option maxRecDepth 100000 in
theorem run_bools (n : Nat) (hn : n ≤ 1000000) (w : World) : (Instr.makeSlice 96 (.int .i64 ((n : Int) + 1)) (.int .i64 ((n : Int) + 1))).run Tryz.prog w =
    .ok (.slice (some ⟨w.heap.size, 0, none⟩) (n + 1) (n + 1)) (w.alloc (.cells (Array.replicate (n + 1) (.bool false)) 4)) := by
  obtain ⟨i0, hi, hz0, hz1, hz2⟩ := info_parts infoBool
  have h := run_make w 96 4 i0 (.bool false) Tryz.underlying96 hi hz0 .i64 .i64 ((n : Int) + 1) ((n : Int) + 1) (by omega) (Int.le_refl _) (by rw [hz2]; omega) (by omega)
  rw [h, hz1]
  have e : ((n : Int) + 1).toNat = n + 1 := by omega
  rw [e, Nat.mul_one]
  congr 2
  congr 1
  apply Array.ext
  · simp [madeCells]
  · intro i h1 h2
    simp [madeCells, Value.cells, Nat.mod_one]

/-! ### rows, plain -/
section
variable {α β : Type} {st : α → Bool} {eq : α → β → Bool}
def rowG (st : α → Bool) (eq : α → β → Bool) (p : List α) (s : List β) (i k : Nat) : Bool := glob st eq (p.take i) (s.take k)

theorem rowG_start (p : List α) (s : List β) {k : Nat} (hk : k ≤ s.length) : rowG st eq p s 0 k = (k == 0) := by
  unfold rowG
  rw [List.take_zero, glob_nil]
  cases k with
  | zero => rfl
  | succ k =>
    cases s with
    | nil => simp at hk
    | cons x s => rfl
theorem take_next {p : List α} {i : Nat} {c : α} (h : p[i]? = some c) : p.take (i + 1) = p.take i ++ [c] := by rw [List.take_add_one, h]; rfl
theorem rowG_star0 {p : List α} {s : List β} {i : Nat} {c : α} (hc : p[i]? = some c) (h : st c = true) : rowG st eq p s (i + 1) 0 = rowG st eq p s i 0 := by
  unfold rowG; rw [take_next hc, List.take_zero, row_star0 c h]
theorem rowG_star {p : List α} {s : List β} {i k : Nat} {c : α} (hc : p[i]? = some c) (h : st c = true) (hk : k < s.length) : rowG st eq p s (i + 1) (k + 1) = (rowG st eq p s i (k + 1) || rowG st eq p s (i + 1) k) := by
  unfold rowG; rw [take_next hc, row_star c h _ _ _ hk]
theorem rowG_one0 {p : List α} {s : List β} {i : Nat} {c : α} (hc : p[i]? = some c) (h : st c = false) : rowG st eq p s (i + 1) 0 = false := by
  unfold rowG; rw [take_next hc, List.take_zero, glob_snoc_nil c h]
theorem rowG_one {p : List α} {s : List β} {i k : Nat} {c : α} {d : β} (hc : p[i]? = some c) (h : st c = false) (hd : s[k]? = some d) : rowG st eq p s (i + 1) (k + 1) = (rowG st eq p s i k && eq c d) := by
  unfold rowG; rw [take_next hc, row_one c h _ _ _ d hd]
theorem rowG_end (p : List α) (s : List β) : rowG st eq p s p.length s.length = glob st eq p s := by unfold rowG; rw [List.take_length, List.take_length]
end

abbrev stB : UInt8 → Bool := fun c => c == 42
abbrev eqB : UInt8 → UInt8 → Bool := fun c d => d == c

theorem byte_ne {c d : UInt8} (h : c ≠ d) : ((c.toNat : Int) == (d.toNat : Int)) = false := beq_eq_false_iff_ne.2 fun e => h (UInt8.toNat_inj.1 (by omega))

set_option maxRecDepth 100000 in
set_option maxHeartbeats 4000000 in
theorem starOf_any (w : World) (p s : B) (hp : p.length ≤ 100000) (hs : s.length ≤ 100000) : Calls Tryz.prog 54 #[S p, S s] w fun e w' => e = .returned (.bool (starB p s)) ∧ Ext w w' := by
  obtain ⟨n, hn⟩ : ∃ n, n = s.length := ⟨_, rfl⟩
  rw [← hn] at hs
  have hmk := run_bools n (by omega)
  have HMK := Lib.hid hmk
  have HN := Lib.hid hn
  obtain ⟨r, hr⟩ : ∃ r, r = starB p s := ⟨_, rfl⟩
  rw [← hr]
  have HR := Lib.hid hr
  have hsl : s.length = n := hn.symm
  have hmade := BRow.made w (rowG stB eqB p s 0) n
  obtain ⟨w1, hW⟩ : ∃ w1, w.alloc (.cells (Array.replicate (n + 1) (.bool false)) 4) = w1 := ⟨_, rfl⟩
  have hx1 : Ext w w1 := by rw [← hW]; exact Only.alloc _ _ _
  rw [hW] at hmade
  have hmk1 := hmk w
  rw [hW] at hmk1
  have c1 := hmade.cell (Nat.zero_le _)
  have f1 := hmade.free 0
  have HMD := Lib.hid hmade
  have HX1 := Lib.hid hx1
  have hn0 : (0 : Int) < (n : Int) + 1 := by omega
  clear hmk hn hr hmade hx1 hW
  go_enter Tryz.func54, Tryz.ntmps54
  go_wp2_with fail
  have hs0 := HMD.out.step (Nat.zero_le n)
  have hrow0 : BRow (w1.setCell ⟨w.heap.size, 0, none⟩ (.bool true)) w.heap.size (rowG stB eqB p s 0) n := by
    have e : rowG stB eqB p s 0 0 = true := by rw [rowG_start p s (Nat.zero_le _)]; rfl
    rw [e] at hs0
    refine hs0.congr fun k hk => ?_
    unfold part
    rw [rowG_start p s (by omega)]
    cases k with
    | zero => rfl
    | succ k => rfl
  have HROW0 := Lib.hid hrow0
  have HX2 := Lib.hid (HX1.out.thenSet (x := ⟨w.heap.size, 0, none⟩) (.bool true) (.inr (Nat.le_refl _)))
  clear hs0 hrow0 c1 f1 hmk1
  go_loopw [5, 6] (fun f i wr => ∃ j b : Nat, j ≤ p.length ∧ i = .int .i64 j ∧ f = .slice (some ⟨b, 0, none⟩) (n + 1) (n + 1) ∧ w.heap.size ≤ b ∧ Hid (Ext w wr) ∧ Hid (BRow wr b (rowG stB eqB p s j) n)) (fun _ i _ => p.length - (intOf i).toNat)
  case atStart => exact ⟨0, w.heap.size, Nat.zero_le _, rfl, rfl, Nat.le_refl _, HX2, HROW0⟩
  case round =>
    obtain ⟨j, b, hj, rfl, rfl, hb, HX, HB⟩ := hrel
    by_cases hlt : j < p.length
    · have hltz : (j : Int) < (p.length : Int) := by omega
      obtain ⟨c, hc⟩ : ∃ c, p[j]? = some c := ⟨_, List.getElem?_eq_getElem hlt⟩
      have hg := ba_get hc
      have HC := Lib.hid hc
      have hmkr := HMK.out wr
      have hmade := BRow.made wr (rowG stB eqB p s (j + 1)) n
      have hox : Ext wr (wr.alloc (.cells (Array.replicate (n + 1) (.bool false)) 4)) := Only.alloc _ _ _
      have hbl : b < wr.heap.size := by obtain ⟨cur, hh, _⟩ := HB.out; exact lt_of_heap hh
      obtain ⟨h, hh⟩ : ∃ h, h = wr.heap.size := ⟨_, rfl⟩
      obtain ⟨w2, hW2⟩ : ∃ w2, wr.alloc (.cells (Array.replicate (n + 1) (.bool false)) 4) = w2 := ⟨_, rfl⟩
      rw [hW2] at hmkr hmade hox
      rw [← hh] at hmkr hmade hbl
      have HMADE := Lib.hid hmade
      have HX3 := Lib.hid (HX.out.ext hox)
      have HB3 := Lib.hid (HB.out.later hox (fun h => h))
      have hhw : w.heap.size ≤ h := by omega
      clear hc hmade hox hh hW2
      go_wp2_with fail
      go_loopw [8] (fun kv wi => ∃ k : Nat, k ≤ n + 1 ∧ kv = .int .i64 k ∧ Hid (Ext w wi) ∧ Hid (BRow wi b (rowG stB eqB p s j) n) ∧ Hid (BRow wi h (part (rowG stB eqB p s (j + 1)) k) n)) (fun kv _ => n + 1 - (intOf kv).toNat)
      case atStart => exact ⟨0, Nat.zero_le _, rfl, HX3, HB3, HMADE⟩
      case round =>
        obtain ⟨k, hk, rfl, HXI, HBI, HNI⟩ := hrel
        by_cases hkn : k ≤ n
        · have hknz : (k : Int) ≤ (n : Int) := by omega
          have hkl : (k : Int) < (n : Int) + 1 := by omega
          have k0 : (0 : Int) ≤ (k : Int) := by omega
          have cn := HNI.out.cell hkn
          have fn := HNI.out.free k
          have cf := HBI.out.cell hkn
          have HCN := Lib.hid cn
          by_cases h42 : c = 42
          · subst h42
            cases hv : rowG stB eqB p s j k with
            | true =>
              have HV := Lib.hid hv
              have hG : rowG stB eqB p s (j + 1) k = true := by
                cases k with
                | zero => rw [rowG_star0 HC.out rfl]; exact hv
                | succ k => rw [rowG_star HC.out rfl (by omega), hv]; rfl
              rw [hv] at cf
              have HXE := Lib.hid (HXI.out.thenSet (x := ⟨h, k, none⟩) (.bool true) (.inr hhw))
              have HBE := Lib.hid (HBI.out.setOther (c := h) (by omega) (k) (.bool true))
              have hne := HNI.out.step (show k ≤ n by omega)
              rw [show rowG stB eqB p s (j + 1) (k) = true from hG] at hne
              have HNE := Lib.hid hne
              clear hne
              clear hv hG HCN
              go_wp2_with fail
              go_roundw
              case rel => exact ⟨k + 1, by omega, by go_num, HXE, HBE, HNE⟩
              case measure => simp [intOf]; omega
            | false =>
              rw [hv] at cf
              cases k with
              | zero =>
                have hG : rowG stB eqB p s (j + 1) 0 = false := by rw [rowG_star0 HC.out rfl]; exact hv
                have HXE := Lib.hid (HXI.out.thenSet (x := ⟨h, 0, none⟩) (.bool false) (.inr hhw))
                have HBE := Lib.hid (HBI.out.setOther (c := h) (by omega) (0) (.bool false))
                have hne := HNI.out.step (show 0 ≤ n by omega)
                rw [show rowG stB eqB p s (j + 1) (0) = false from hG] at hne
                have HNE := Lib.hid hne
                clear hne
                clear hv hG HCN
                go_wp2_with fail
                go_roundw
                case rel => exact ⟨0 + 1, by omega, rfl, HXE, HBE, HNE⟩
                case measure => simp [intOf]
              | succ k =>
                have hk1 : k ≤ n := by omega
                have ck := HNI.out.cell hk1
                have ek : part (rowG stB eqB p s (j + 1)) (k + 1) k = rowG stB eqB p s (j + 1) k := by unfold part; rw [if_pos (Nat.lt_succ_self _)]
                rw [ek] at ck
                obtain ⟨v, hvv⟩ : ∃ v, v = rowG stB eqB p s (j + 1) k := ⟨_, rfl⟩
                rw [← hvv] at ck
                have hG : rowG stB eqB p s (j + 1) (k + 1) = v := by rw [rowG_star HC.out rfl (by omega), hv, hvv]; rfl
                have k2 : (k : Int) < (n : Int) + 1 := by omega
                have k3 : (0 : Int) ≤ (k : Int) := by omega
                have kd : decide ((0 : Int) < (k : Int) + 1) = true := decide_eq_true (by omega)
                have HXE := Lib.hid (HXI.out.thenSet (x := ⟨h, k + 1, none⟩) (.bool v) (.inr hhw))
                have HBE := Lib.hid (HBI.out.setOther (c := h) (by omega) (k + 1) (.bool v))
                have hne := HNI.out.step (show k + 1 ≤ n by omega)
                rw [show rowG stB eqB p s (j + 1) (k + 1) = v from hG] at hne
                have HNE := Lib.hid hne
                clear hne
                clear hv hG HCN hvv ek
                go_wp2_with fail
                go_roundw
                case rel => exact ⟨(k + 1) + 1, by omega, by go_num, HXE, HBE, HNE⟩
                case measure => simp [intOf]; omega
          · have hz : ((c.toNat : Int) == 42) = false := byte_ne (d := 42) h42
            have hst : stB c = false := beq_eq_false_iff_ne.2 h42
            cases k with
            | zero =>
              have hG : rowG stB eqB p s (j + 1) 0 = false := rowG_one0 HC.out hst
              have HXE := Lib.hid (HXI.out.thenSet (x := ⟨h, 0, none⟩) (.bool false) (.inr hhw))
              have HBE := Lib.hid (HBI.out.setOther (c := h) (by omega) (0) (.bool false))
              have hne := HNI.out.step (show 0 ≤ n by omega)
              rw [show rowG stB eqB p s (j + 1) (0) = false from hG] at hne
              have HNE := Lib.hid hne
              clear hne
              clear hG HCN h42 hst cf
              go_wp2_with fail
              go_region
              all_goals go_wp2
              all_goals
                go_roundw
                case rel => exact ⟨0 + 1, by omega, rfl, Lib.hid HXE.out.thenDrew, Lib.hid (HBE.out.later (Only.drew (fun _ => False) _) (fun h => h)), Lib.hid (HNE.out.later (Only.drew (fun _ => False) _) (fun h => h))⟩
                case measure => simp [intOf]
            | succ k =>
              have hk1 : k ≤ n := by omega
              have cfk := HBI.out.cell hk1
              obtain ⟨d, hd⟩ : ∃ d, s[k]? = some d := ⟨_, List.getElem?_eq_getElem (by omega)⟩
              have hgd := ba_get hd
              have k2 : (k : Int) < (n : Int) + 1 := by omega
              have k3 : (0 : Int) ≤ (k : Int) := by omega
              have k4 : (k : Int) < (n : Int) := by omega
              have kd : decide ((0 : Int) < (k : Int) + 1) = true := decide_eq_true (by omega)
              have hone := rowG_one (st := stB) (eq := eqB) (p := p) (s := s) HC.out hst hd
              cases hv : rowG stB eqB p s j k with
              | false =>
                have hG : rowG stB eqB p s (j + 1) (k + 1) = false := by rw [hone, hv]; rfl
                rw [hv] at cfk
                have HXE := Lib.hid (HXI.out.thenSet (x := ⟨h, k + 1, none⟩) (.bool false) (.inr hhw))
                have HBE := Lib.hid (HBI.out.setOther (c := h) (by omega) (k + 1) (.bool false))
                have hne := HNI.out.step (show k + 1 ≤ n by omega)
                rw [show rowG stB eqB p s (j + 1) (k + 1) = false from hG] at hne
                have HNE := Lib.hid hne
                clear hne
                clear hv hG HCN h42 hst hone cf hd
                go_wp2_with fail
                go_region
                all_goals go_wp2
                all_goals
                  go_roundw
                  case rel => exact ⟨(k + 1) + 1, by omega, by go_num, Lib.hid HXE.out.thenDrew, Lib.hid (HBE.out.later (Only.drew (fun _ => False) _) (fun h => h)), Lib.hid (HNE.out.later (Only.drew (fun _ => False) _) (fun h => h))⟩
                  case measure => simp [intOf]; omega
              | true =>
                rw [hv] at cfk
                by_cases hdc : d = c
                · subst hdc
                  have hG : rowG stB eqB p s (j + 1) (k + 1) = true := by rw [hone, hv]; simp [eqB]
                  have hq : ((d.toNat : Int) == (d.toNat : Int)) = true := by simp
                  have HXE := Lib.hid (HXI.out.thenSet (x := ⟨h, k + 1, none⟩) (.bool true) (.inr hhw))
                  have HBE := Lib.hid (HBI.out.setOther (c := h) (by omega) (k + 1) (.bool true))
                  have hne := HNI.out.step (show k + 1 ≤ n by omega)
                  rw [show rowG stB eqB p s (j + 1) (k + 1) = true from hG] at hne
                  have HNE := Lib.hid hne
                  clear hne
                  clear hv hG HCN h42 hst hone cf hd
                  go_wp2_with fail
                  go_region
                  all_goals go_wp2
                  all_goals
                    go_roundw
                    case rel => exact ⟨(k + 1) + 1, by omega, by go_num, Lib.hid HXE.out.thenDrew, Lib.hid (HBE.out.later (Only.drew (fun _ => False) _) (fun h => h)), Lib.hid (HNE.out.later (Only.drew (fun _ => False) _) (fun h => h))⟩
                    case measure => simp [intOf]; omega
                · have hG : rowG stB eqB p s (j + 1) (k + 1) = false := by rw [hone, hv]; simp [eqB, hdc]
                  have hq : ((d.toNat : Int) == (c.toNat : Int)) = false := byte_ne hdc
                  have HXE := Lib.hid (HXI.out.thenSet (x := ⟨h, k + 1, none⟩) (.bool false) (.inr hhw))
                  have HBE := Lib.hid (HBI.out.setOther (c := h) (by omega) (k + 1) (.bool false))
                  have hne := HNI.out.step (show k + 1 ≤ n by omega)
                  rw [show rowG stB eqB p s (j + 1) (k + 1) = false from hG] at hne
                  have HNE := Lib.hid hne
                  clear hne
                  clear hv hG HCN h42 hst hone cf hd hdc
                  go_wp2_with fail
                  go_region
                  all_goals go_wp2
                  all_goals
                    go_roundw
                    case rel => exact ⟨(k + 1) + 1, by omega, by go_num, Lib.hid HXE.out.thenDrew, Lib.hid (HBE.out.later (Only.drew (fun _ => False) _) (fun h => h)), Lib.hid (HNE.out.later (Only.drew (fun _ => False) _) (fun h => h))⟩
                    case measure => simp [intOf]; omega
        · have hknz : ¬ ((k : Int) ≤ (n : Int)) := by omega
          have HROW := Lib.hid (HNI.out.congr (g' := rowG stB eqB p s (j + 1)) fun t ht => by unfold part; rw [if_pos (by omega)])
          go_wp2_with fail
          go_roundw
          case rel => exact ⟨j + 1, h, by omega, by go_num, rfl, hhw, HXI, HROW⟩
          case measure => simp [intOf]; omega
    · have hltz : ¬ ((j : Int) < (p.length : Int)) := by omega
      have hj2 : j = p.length := by omega
      subst hj2
      have ce := HB.out.cell (Nat.le_refl n)
      have he : rowG stB eqB p s p.length n = r := by
        rw [HR.out, HN.out]; exact rowG_end p s
      rw [he] at ce
      have q1 : (0 : Int) ≤ (n : Int) := by omega
      have q2 : (n : Int) < (n : Int) + 1 := by omega
      clear he
      go_wp2_with fail
      go_ret
      exact ⟨rfl, HX.out⟩
end Go.Proofs.YtnmhaipjfpongaaGreatDoor

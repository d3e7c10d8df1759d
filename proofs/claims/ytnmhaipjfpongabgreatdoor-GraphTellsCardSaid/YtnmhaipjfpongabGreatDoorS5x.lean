/- The reference's LeavesOf; its Bools as numbers. No condition but how the rules lie, and that they are right. -/
import Derived.Test.YtnmhaipjfpongabGreatDoorS2x
import Derived.Test.YtnmhaipjfpongabGreatDoorJ5x
import Derived.Test.YtnmhaipjfpongabGreatDoorF10x
import Derived.Test.YtnmhaipjfpongabGreatDoorGm
namespace Go.Proofs.YtnmhaipjfpongabGreatDoor
open Go.ChangeShapes Go.WideShapes Go.ChangeAt Go.RowKit

/-! ### plain words -/
/-- Sorted, each once, and just these. -/
structure LvsOk (l : List Rule) (seen O : List B) : Prop where
  sort : O.Pairwise fun x y => decide (x ≤ y) = true
  nodup : O.Nodup
  mem : ∀ x, x ∈ O ↔ x ∈ seen.filter (leafB l)
theorem LvsOk.nil (l : List Rule) : LvsOk l [] [] := ⟨List.Pairwise.nil, List.nodup_nil, fun x => by simp⟩
theorem LvsOk.skip {l : List Rule} {seen O : List B} {s : B} (h : LvsOk l seen O) (hs : leafB l s = false ∨ s ∈ O) : LvsOk l (seen ++ [s]) O := ⟨h.sort, h.nodup, fun x => by
  rw [h.mem x, List.filter_append, List.mem_append]
  constructor
  · exact .inl
  · rintro (h1 | h1)
    · exact h1
    · obtain ⟨h2, h3⟩ := List.mem_filter.1 h1
      rw [List.mem_singleton] at h2
      subst h2
      rcases hs with e | e
      · rw [e] at h3; cases h3
      · exact (h.mem x).1 e⟩
theorem LvsOk.add {l : List Rule} {seen O : List B} {s : B} (h : LvsOk l seen O) (h1 : leafB l s = true) (h2 : s ∉ O) : LvsOk l (seen ++ [s]) (sortB (O ++ [s])) := by
  have hp : (sortB (O ++ [s])).Perm (O ++ [s]) := List.mergeSort_perm _ _
  refine ⟨sortB_pairwise _, hp.nodup_iff.2 (List.nodup_append.2 ⟨h.nodup, by simp, fun a ha b hb e => h2 (by rw [List.mem_singleton] at hb; rw [← hb, ← e]; exact ha)⟩), fun x => ?_⟩
  rw [hp.mem_iff, List.mem_append, h.mem x, List.filter_append, List.mem_append, List.mem_singleton]
  constructor
  · rintro (h3 | rfl)
    · exact .inl h3
    · exact .inr (List.mem_filter.2 ⟨.head _, h1⟩)
  · rintro (h3 | h3)
    · exact .inl h3
    · exact .inr (List.mem_singleton.1 (List.mem_filter.1 h3).1)
theorem LvsOk.whole {l : List Rule} {O : List B} (h : LvsOk l (l.flatMap Rule.ins) O) : O = leavesB l := by
  have hr := (kept_rise (sortB_pairwise ((l.flatMap Rule.ins).filter (leafB l))) _ (Nat.le_refl _)).1
  rw [kept_all] at hr
  have hlt : (leavesB l).Pairwise (· < ·) := hr
  have hnd : (leavesB l).Nodup := hlt.imp fun h e => by rw [e] at h; exact List.lt_irrefl _ h
  have hp : O.Perm (leavesB l) := (List.perm_ext_iff_of_nodup h.nodup hnd).2 fun x => by
    rw [h.mem x]
    exact ⟨leaves_mem, fun hx => mem_sort (mem_compact hx)⟩
  exact List.Perm.eq_of_pairwise (fun a b _ _ h1 h2 => List.le_antisymm (of_decide_eq_true h1) (of_decide_eq_true h2)) h.sort (hlt.imp fun h => decide_eq_true (List.le_of_lt h)) hp

/-! ### in memory -/
theorem any_take {l : List Rule} {s : B} {t : Nat} {r : Rule} (hr : l[t]? = some r) : (l.take (t + 1)).any (fun r => r.out == s) = ((l.take t).any (fun r => r.out == s) || r.out == s) := by
  rw [List.take_add_one, hr, List.any_append]
  simp
set_option maxRecDepth 100000 in
set_option maxHeartbeats 8000000 in
theorem leavesOf_any (w : World) (l : List Rule) (v : Value) (hv : RdR w v l) (hl : l.length ≤ 40) (hi : ∀ r ∈ l, r.ins.length ≤ 20000) :
    Calls Tryz.prog 78 #[v] w (RetRow (leavesB l) w) := by
  have HRD := Lib.hid hv
  have HI := Lib.hid hi
  obtain ⟨a, cap, rfl, _, _, hc⟩ := hv
  have HC := Lib.hid hc
  clear hc hi
  go_enter Tryz.func78, Tryz.ntmps78
  go_wp2_with fail
  go_loopw [3, 4, 5, 6, 7, 8] (fun q i _ _ _ _ wr => ∃ (j : Nat) (qv : Value) (O : List B), j ≤ l.length ∧ qv = q ∧ i = .int .i64 j ∧ Hid (Row w.heap.size wr qv O) ∧ Hid (LvsOk l ((l.take j).flatMap Rule.ins) O) ∧ Hid (Ext w wr)) (fun _ i _ _ _ _ _ => l.length - (intOf i).toNat)
  case atStart => exact ⟨0, _, [], Nat.zero_le _, rfl, rfl, Lib.hid (Row.nil _ _), Lib.hid (LvsOk.nil l), Lib.hid (Only.refl _ _)⟩
  case round =>
    obtain ⟨j, qv, O, hj, rfl, rfl, HQ, HO, HX⟩ := hrel
    by_cases hlt : j < l.length
    · have hltz : (j : Int) < (l.length : Int) := by omega
      have hj0 : (0 : Int) ≤ (j : Int) := by omega
      have hjn : ¬ (j : Int) < 0 := by omega
      have hjl : ¬ (l.length : Int) ≤ (j : Int) := by omega
      obtain ⟨b, off, rfl, hcell⟩ := HC.out (by intro h; rw [h] at hlt; simp at hlt)
      have HCELL := Lib.hid hcell
      obtain ⟨r, hq⟩ : ∃ y, l[j]? = some y := ⟨_, List.getElem?_eq_getElem hlt⟩
      obtain ⟨u, hu, c0, c1, c2, c3⟩ := hcell j r hq
      have HC3 := Lib.hid c3
      have HU := Lib.hid hu
      have hrm := HI.out r (List.mem_of_getElem? hq)
      have HTJ : Hid ((l.take (j + 1)).flatMap Rule.ins = (l.take j).flatMap Rule.ins ++ r.ins) := Lib.hid (by rw [List.take_add_one, hq]; simp)
      have HLT := Lib.hid hlt
      have HPRE : Hid (((l.take j).flatMap Rule.ins).length ≤ 800000) := Lib.hid (by
        rw [List.length_flatMap]
        have h1 : ∀ (k : List Rule), (∀ r ∈ k, r.ins.length ≤ 20000) → (k.map fun r => r.ins.length).sum ≤ k.length * 20000 := by
          intro k hk
          induction k with
          | nil => simp
          | cons x k ih =>
            rw [List.map_cons, List.sum_cons, List.length_cons, Nat.succ_mul]
            have := ih fun y hy => hk y (.tail _ hy)
            have := hk x (.head _)
            omega
        have h2 := h1 (l.take j) (fun r hr => HI.out r (List.mem_of_mem_take hr))
        rw [List.length_take] at h2
        have : min j l.length * 20000 ≤ 40 * 20000 := Nat.mul_le_mul_right _ (by omega)
        omega)
      obtain ⟨au, cu, rfl, _, _, hcu⟩ := hu
      have HCU := Lib.hid hcu
      generalize (l.take j).flatMap Rule.ins = pre at HO HTJ HPRE
      clear hcell hq hlt c0 c1 c2 c3 hcu
      have HO1 : Hid (LvsOk l (pre ++ r.ins.take 0) O) := Lib.hid (by simpa using HO.out)
      go_wp2_with fail
      go_loopw [3, 5, 6, 7, 8] (fun q i _ _ _ wx => ∃ (k : Nat) (qv : Value) (O : List B), k ≤ r.ins.length ∧ qv = q ∧ i = .int .i64 k ∧ Hid (Row w.heap.size wx qv O) ∧ Hid (LvsOk l (pre ++ r.ins.take k) O) ∧ Hid (Ext w wx)) (fun _ i _ _ _ _ => r.ins.length - (intOf i).toNat)
      case atStart => exact ⟨0, _, O, Nat.zero_le _, rfl, rfl, HQ, HO1, HX⟩
      case round =>
        clear HQ HO HO1 HX
        obtain ⟨k, qv, O, hk, rfl, rfl, HQ, HO, HX⟩ := hrel
        have d3 := HX.out.cellOf HC3.out (fun h => h)
        by_cases hkl : k < r.ins.length
        · have hkz : (k : Int) < (r.ins.length : Int) := by omega
          have hk0 : (0 : Int) ≤ (k : Int) := by omega
          have hk1 : ¬ (k : Int) < 0 := by omega
          have hk2 : ¬ (r.ins.length : Int) ≤ (k : Int) := by omega
          obtain ⟨bu, ou, rfl, hcellu⟩ := HCU.out (by intro h; rw [h] at hkl; simp at hkl)
          obtain ⟨s, hs⟩ : ∃ y, r.ins[k]? = some y := ⟨_, List.getElem?_eq_getElem hkl⟩
          have d4 := HX.out.cellOf (hcellu k s hs) (fun h => h)
          have HTK : Hid (pre ++ r.ins.take (k + 1) = pre ++ r.ins.take k ++ [s]) := Lib.hid (by rw [List.take_add_one, hs, List.append_assoc]; rfl)
          have HKL := Lib.hid hkl
          clear hcellu hs hkl
          go_wp2_with fail
          clear d3 d4
          go_loopw [7, 8] (fun f i wy => ∃ t : Nat, t ≤ l.length ∧ f = .bool ((l.take t).any fun r => r.out == s) ∧ i = .int .i64 t ∧ Hid (wy = wr)) (fun _ i _ => l.length - (intOf i).toNat)
          case atStart => exact ⟨0, Nat.zero_le _, rfl, rfl, Lib.hid rfl⟩
          case round =>
            obtain ⟨t, ht, rfl, rfl, hw⟩ := hrel
            obtain rfl := hw.out
            by_cases htl : t < l.length
            · have htz : (t : Int) < (l.length : Int) := by omega
              have ht0 : (0 : Int) ≤ (t : Int) := by omega
              have ht1 : ¬ (t : Int) < 0 := by omega
              have ht2 : ¬ (l.length : Int) ≤ (t : Int) := by omega
              obtain ⟨r2, hq2⟩ : ∃ y, l[t]? = some y := ⟨_, List.getElem?_eq_getElem htl⟩
              obtain ⟨u2, hu2, e0, _⟩ := HCELL.out t r2 hq2
              have d0 := HX.out.cellOf e0 (fun h => h)
              have HAT := Lib.hid (any_take (s := s) hq2)
              have HTL := Lib.hid htl
              obtain ⟨mt, hmt⟩ : ∃ mt, mt = (l.take t).any (fun r => r.out == s) := ⟨_, rfl⟩
              rw [← hmt] at HAT
              rw [← hmt]
              clear hmt hq2 hu2 e0 htl
              cases heq : r2.out == s with
              | true =>
                have HM2 : Hid (true = (l.take (t + 1)).any fun r => r.out == s) := Lib.hid (by rw [HAT.out, heq]; simp)
                go_wp2_with fail
                go_roundw
                case rel => exact ⟨t + 1, HTL.out, by rw [← HM2.out], by go_num, Lib.hid trivial⟩
                case measure => have := HTL.out; simp [intOf]; omega
              | false =>
                have HM2 : Hid (mt = (l.take (t + 1)).any fun r => r.out == s) := Lib.hid (by rw [HAT.out, heq]; simp)
                go_wp2_with fail
                go_roundw
                case rel => exact ⟨t + 1, HTL.out, by rw [← HM2.out], by go_num, Lib.hid trivial⟩
                case measure => have := HTL.out; simp [intOf]; omega
            · have htz : ¬ (t : Int) < (l.length : Int) := by omega
              rw [List.take_of_length_le (by omega)]
              cases hmade : l.any fun r => r.out == s with
              | true =>
                have HO2 : Hid (LvsOk l (pre ++ r.ins.take (k + 1)) O) := Lib.hid (by
                  rw [HTK.out]
                  exact HO.out.skip (.inl (by unfold leafB madeB; rw [hmade]; rfl)))
                clear hmade htl ht
                go_wp2_with fail
                go_roundw
                case rel => exact ⟨k + 1, _, O, HKL.out, rfl, by go_num, HQ, HO2, HX⟩
                case measure => have := HKL.out; simp [intOf]; omega
              | false =>
                have hleaf : leafB l s = true := by unfold leafB madeB; rw [hmade]; rfl
                have HIX := Lib.hid (indexRef_any wr _ O s HQ.out.rd)
                clear hmade htl ht
                rcases idx_cases (fun y => y == s) O with ⟨z, hz, _, hany⟩ | ⟨hz, hany⟩
                · rw [hz] at HIX
                  have hz0 : ¬ (z : Int) < 0 := by omega
                  have hmem : s ∈ O := by
                    obtain ⟨y, hy, e⟩ := List.any_eq_true.1 hany
                    rw [← beq_iff_eq.1 e]; exact hy
                  have HO2 : Hid (LvsOk l (pre ++ r.ins.take (k + 1)) O) := Lib.hid (by
                    rw [HTK.out]
                    exact HO.out.skip (.inr hmem))
                  clear hz hany hleaf hmem
                  go_wp2_with fail
                  refine (HIX.out).mono ?_
                  rintro e w5 ⟨rfl, rfl⟩
                  go_wp2_with fail
                  go_roundw
                  case rel => exact ⟨k + 1, _, O, HKL.out, rfl, by go_num, HQ, HO2, HX⟩
                  case measure => have := HKL.out; simp [intOf]; omega
                · rw [hz] at HIX
                  have hmem : s ∉ O := fun hm => by
                    rw [List.any_eq_false] at hany
                    exact hany s hm (by simp)
                  have HO2 : Hid (LvsOk l (pre ++ r.ins.take (k + 1)) (sortB (O ++ [s]))) := Lib.hid (by
                    rw [HTK.out]
                    exact HO.out.add hleaf hmem)
                  have hol : O.length ≤ 900000 := by
                    have h1 := nodup_len HO.out.nodup (fun x hx => (List.mem_filter.1 ((HO.out.mem x).1 hx)).1)
                    have := HPRE.out
                    rw [List.length_append, List.length_take] at h1
                    omega
                  have HLY := Lib.hid (lay_any wr w.heap.size _ O s HQ.out HO.out.sort hol)
                  have HQB := Lib.hid HQ.out
                  clear hz hany hleaf hmem hol
                  go_wp2_with fail
                  refine (HIX.out).mono ?_
                  rintro e w5 ⟨rfl, rfl⟩
                  go_wp2_with fail
                  refine HLY.out.mono ?_
                  rintro e w5 ⟨v5, rfl, ho5, hr5⟩
                  have HQ5 : Hid (Row w.heap.size w5 v5 (sortB (O ++ [s]))) := Lib.hid ⟨hr5.1, hr5.2.imp id fun ⟨g, cp, cr, e, hg, q⟩ => ⟨g, cp, cr, e, Nat.le_trans HX.out.size hg, q⟩⟩
                  have HX5 := Lib.hid (HX.out.then ho5)
                  clear ho5 hr5
                  go_wp2_with fail
                  go_roundw
                  case rel => exact ⟨k + 1, _, _, HKL.out, rfl, by go_num, HQ5, HO2, HX5⟩
                  case measure => have := HKL.out; simp [intOf]; omega
        · have hkz : ¬ (k : Int) < (r.ins.length : Int) := by omega
          have HO2 : Hid (LvsOk l ((l.take (j + 1)).flatMap Rule.ins) O) := Lib.hid (by
            have := HO.out
            rw [List.take_of_length_le (by omega)] at this
            rw [HTJ.out]; exact this)
          go_wp2_with fail
          go_roundw
          case rel => exact ⟨j + 1, _, O, HLT.out, rfl, by go_num, HQ, HO2, HX⟩
          case measure => have := HLT.out; simp [intOf]; omega
    · have hltz : ¬ (j : Int) < (l.length : Int) := by omega
      have HE : Hid (O = leavesB l) := Lib.hid (by
        have := HO.out
        rw [List.take_of_length_le (by omega)] at this
        exact this.whole)
      go_wp2_with fail
      go_ret
      exact ⟨_, rfl, HX.out, by rw [← HE.out]; exact HQ.out⟩

/-! ### numbers -/
set_option maxRecDepth 100000 in
set_option maxHeartbeats 4000000 in
theorem numbers_any (w : World) (tb n : Nat) (f : Nat → Bool) (ht : TabAt w tb 4 n (fun k => .bool (f k))) (hn : n ≤ 1000) :
    Calls Tryz.prog 80 #[TabV tb n] w (fun e w' => ∃ v, e = .returned v ∧ RowI w.heap.size w' v ((List.range n).filter f) ∧ Ext w w') := by
  have HT := Lib.hid ht
  have hnz : (n : Int) ≤ 1000 := by omega
  clear ht
  go_enter Tryz.func80, Tryz.ntmps80
  go_wp2_with fail
  go_loopw [3, 4] (fun q i wr => ∃ (j : Nat) (qv : Value), j ≤ n ∧ qv = q ∧ i = .int .i64 j ∧ Hid (RowI w.heap.size wr qv ((List.range j).filter f)) ∧ Hid (Ext w wr)) (fun _ i _ => n - (intOf i).toNat)
  case atStart => exact ⟨0, _, Nat.zero_le _, rfl, rfl, Lib.hid (RowI.nil _ _), Lib.hid (Only.refl _ _)⟩
  case round =>
    obtain ⟨j, qv, hj, rfl, rfl, HQ, HX⟩ := hrel
    by_cases hlt : j < n
    · have hltz : (j : Int) < (n : Int) := by omega
      have hj0 : (0 : Int) ≤ (j : Int) := by omega
      have hjn : ¬ (j : Int) < 0 := by omega
      have hjl : ¬ (n : Int) ≤ (j : Int) := by omega
      have d0 := HX.out.cellOf (HT.out.cell hlt) (fun h => h)
      have HST : Hid ((List.range (j + 1)).filter f = (List.range j).filter f ++ if f j then [j] else []) := Lib.hid (by
        rw [List.range_succ, List.filter_append]
        cases hf : f j <;> simp [hf])
      have HLN : Hid (((List.range j).filter f).length ≤ 1000000) := Lib.hid (by
        have := List.length_filter_le f (List.range j)
        rw [List.length_range] at this
        omega)
      cases hf : f j with
      | true =>
        rw [hf] at d0 HST
        generalize (List.range j).filter f = L at *
        go_wp2_with (at_builtin; refine wpNum rfl (.tmp 15) (.tmp 17) w w.heap.size _ L j wr rfl rfl rfl rfl HQ.out HLN.out HX.out.size HX.out (Nat.le_refl _) ?_; intro g5 cap5 w5 HR5 HX5 _)
        go_roundw
        case rel => exact ⟨j + 1, _, by omega, rfl, by go_num, by rw [HST.out]; exact HR5, HX5⟩
        case measure => simp [intOf]; omega
      | false =>
        rw [hf] at d0 HST
        have HQ2 : Hid (RowI w.heap.size wr qv ((List.range (j + 1)).filter f)) := Lib.hid (by rw [HST.out]; simpa using HQ.out)
        go_wp2_with fail
        go_roundw
        case rel => exact ⟨j + 1, _, by omega, rfl, by go_num, HQ2, HX⟩
        case measure => simp [intOf]; omega
    · have hltz : ¬ (j : Int) < (n : Int) := by omega
      obtain rfl : j = n := by omega
      go_wp2_with fail
      go_ret
      exact ⟨_, rfl, HQ.out, HX.out⟩
end Go.Proofs.YtnmhaipjfpongabGreatDoor

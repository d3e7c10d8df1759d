/- want.All. No condition but how rules and files lie, lengths, and what the variables hold. -/
import Derived.Test.YtnmhaipjfpongacGreatDoorGm
import Derived.Test.YtnmhaipjfpongacGreatDoorGn
import Derived.Test.YtnmhaipjfpongacGreatDoorG4x
namespace Go.Proofs.YtnmhaipjfpongacGreatDoor
open Go.ChangeShapes Go.WideShapes Go.ChangeAt Go.RowKit

/-- What all outs lay into the tree, in order. -/
def allS (l : List Rule) (T U : FL) (i : Nat) : FL := if (wantW l T (ruleAt l i).out).2 = 0 then putT U (ruleAt l i).out (wantW l T (ruleAt l i).out).1 else U
def allT (l : List Rule) (T : FL) (o : List Nat) : FL := o.foldl (allS l T) T
theorem allT_step {l : List Rule} {T : FL} {o : List Nat} {j i : Nat} (h : o[j]? = some i) : allT l T (o.take (j + 1)) = allS l T (allT l T (o.take j)) i := by
  unfold allT
  rw [List.take_add_one, h, List.foldl_append]
  rfl
theorem allS_ftree {l : List Rule} {T U : FL} {i : Nat} (hU : FTree U) (hi : (ruleAt l i).out.length ≤ 1000) : FTree (allS l T U i) := by
  unfold allS
  split
  · exact hU.put _ _ hi
  · exact hU
def RetAllT (P : Nat → Addr) (l : List Rule) (T : FL) (w : World) (e : Ending) (w' : World) : Prop :=
  ∃ v ev, e = .returned (.tuple #[v, ev]) ∧ ErrAt w' P (orderFault l) ev ∧ Ext w w' ∧ (((orderFault l).1 ≠ 0 ∧ v = .pointer none) ∨
    ((orderFault l).1 = 0 ∧ ∃ cb cmb, v = .pointer (some ⟨cb, 0, none⟩) ∧ w.heap.size ≤ cb ∧ w.heap.size ≤ cmb ∧ TreeAt w' cb cmb (allT l T (orderOut l)) ∧ FTree (allT l T (orderOut l))))
theorem orderFault_ok {l : List Rule} (h : (orderFault l).1 = 0) : RightS l ∧ orderL l = some (orderOut l) := by
  unfold orderFault at h
  by_cases h0 : (sheetFault l).1 = 0
  · rw [if_neg (by simpa using h0)] at h
    refine ⟨sheet_ok.1 h0, ?_⟩
    unfold orderOut
    rw [if_neg (by simpa using h0)]
    cases ho : orderL l with
    | some o => rfl
    | none => rw [ho] at h; cases h
  · rw [if_pos h0] at h
    exact absurd h h0

/-- On its way. -/
structure AllAt (w5 wr : World) (P : Nat → Addr) (ab tb kb cb cmb : Nat) (lv : Value) (U : FL) (W : B → Tld) : Prop where
  ask : ∃ L, AskAt w5 wr P ab tb kb lv L ∧ Knows W L
  tree : TreeAt wr cb cmb U
  ft : FTree U
  ne : w5.heap.size ≤ cb ∧ w5.heap.size ≤ cmb ∧ cb ≠ kb ∧ cmb ≠ kb ∧ cb ≠ ab ∧ cmb ≠ ab
section
variable {w5 wr w' : World} {P : Nat → Addr} {ab tb kb cb cmb : Nat} {lv : Value} {U U' : FL} {W : B → Tld}
theorem AllAt.ext (h : AllAt w5 wr P ab tb kb cb cmb lv U W) : Ext w5 wr := by
  obtain ⟨L, h1, _⟩ := h.ask
  exact h1.ext
theorem AllAt.grow (h : AllAt w5 wr P ab tb kb cb cmb lv U W) (ho : Ext wr w') : AllAt w5 w' P ab tb kb cb cmb lv U W := by
  obtain ⟨L, h1, h2⟩ := h.ask
  exact ⟨⟨L, h1.grow ho, h2⟩, h.tree.ext ho, h.ft, h.ne⟩
theorem AllAt.asked (h : AllAt w5 wr P ab tb kb cb cmb lv U W) {L : List (B × Tld)} (h1 : AskAt w5 w' P ab tb kb lv L) (h2 : Knows W L) (ho : Only (fun b => b = kb) wr w') : AllAt w5 w' P ab tb kb cb cmb lv U W :=
  ⟨⟨L, h1, h2⟩, h.tree.later ho h.ne.2.2.1 h.ne.2.2.2.1, h.ft, h.ne⟩
theorem AllAt.put (h : AllAt w5 wr P ab tb kb cb cmb lv U W) (ht : TreeAt w' cb cmb U') (hf : FTree U') (ho : Only (fun i => i = cmb) wr w') : AllAt w5 w' P ab tb kb cb cmb lv U' W := by
  obtain ⟨L, h1, h2⟩ := h.ask
  exact ⟨⟨L, h1.later ho (fun b e => by subst e; exact ⟨h.ne.2.1, h.ne.2.2.2.2.2, h.ne.2.2.2.1⟩), h2⟩, ht, hf, h.ne⟩
end

set_option maxRecDepth 100000 in
set_option maxHeartbeats 8000000 in
theorem wantAll_any (w : World) (P : Nat → Addr) (tb tmb : Nat) (T : FL) (v : Value) (l : List Rule) (ht : TreeAt w tb tmb T) (hT : FTree T) (hv : RdR w v l) (hs : ∀ r ∈ l, RuleSm 900000 r) (hw : ∀ r ∈ l, r.ins.length ≤ 12 ∧ r.word.length ≤ 1000) (ho : ∀ r ∈ l, r.out.length ≤ 1000) (hV : PV w P [1, 2, 3, 4, 5, 6, 7, 8, 9]) :
    Calls Tryz.prog 24 #[.pointer (some ⟨tb, 0, none⟩), v] w (RetAllT P l T w) := by
  have HOR := Lib.hid (graphOrder_any w P l v hv hs (hV.sub (by decide)))
  have HRD := Lib.hid hv
  have HVV := Lib.hid hV
  have HT := Lib.hid ht
  have HFT := Lib.hid hT
  have HW := Lib.hid hw
  have HLO := Lib.hid ho
  obtain ⟨a, cap, rfl, _, _, hc⟩ := hv
  have HC := Lib.hid hc
  clear ht hT hs hw hV ho hc
  go_enter Tryz.func24, Tryz.ntmps24
  go_wp2_with fail
  refine HOR.out.mono ?_
  rintro e w5 ⟨vo, ev, rfl, hrow, he, ho⟩
  have HX5 := Lib.hid ho
  have HEE := Lib.hid he
  by_cases hf : (orderFault l).1 = 0
  case neg =>
    obtain ⟨t, p, rfl⟩ := he.some hf
    have HF := Lib.hid hf
    clear hrow he ho hf
    go_wp2_with fail
    go_ret2
    exact ⟨_, _, rfl, HEE.out, HX5.out, .inl ⟨HF.out, rfl⟩⟩
  case pos =>
    obtain rfl := he.zero hf
    have HF := Lib.hid hf
    obtain ⟨hR, hol⟩ := orderFault_ok hf
    have HR := Lib.hid hR
    obtain ⟨o, hoo⟩ : ∃ o, o = orderOut l := ⟨_, rfl⟩
    rw [← hoo] at hrow hol
    have HOO := Lib.hid hoo
    have hord := (orderB_some hol).1
    obtain ⟨r1, r2⟩ := ranked_order hord
    have HOF := Lib.hid (fun (w5 : World) (hx5 : Ext w w5) (ab kb : Nat) (w6 : World) (L : List (B × Tld)) (p : B) (hp : InO l o p) (h1 : AskAt w5 w6 P ab tb kb (.slice a l.length cap) L) (h2 : Knows (wantW l T) L) =>
      of_any w5 P ab tb tmb kb (.slice a l.length cap) l T (wantW l T) (InO l o) (rankO l o) (asks_want r1 r2 HFT.out.bytes) ((HVV.out.ext hx5).act (by decide)) ((HVV.out.ext hx5).errs.sub (by decide)) (HRD.out.ext hx5) HW.out (HT.out.ext hx5) (l.length + 1) p hp (Nat.lt_succ_of_le (r2 p hp)) w6 L h1 h2)
    have HIN : Hid (∀ i ∈ o, i < l.length ∧ InO l o (ruleAt l i).out) := Lib.hid (fun i hi => ⟨hord.lt i hi, fun k hk => by
      rw [find_outI hR.2.2 (ruleAt_eq (hord.lt i hi))] at hk
      cases hk
      exact hi⟩)
    have hlen : o.length ≤ 1000 := by
      have := hord.len
      have := manyB_le l.length (fun _ => true)
      have := hR.1
      omega
    have hmm := @run_makeMap Tryz.prog
    obtain ⟨ao, co, rfl, _, _, hco⟩ := hrow.rd
    have HCO := Lib.hid hco
    have hlz : (o.length : Int) ≤ 1000 := by omega
    clear hrow he ho hf hR hoo hord r1 r2 hol hco hlen
    have hxa : Ext w5 ((w5.alloc (.map #[] 0)).alloc (.cells #[.pointer (some ⟨tb, 0, none⟩), .slice a l.length cap, .map (some w5.heap.size)] 153 (0, 0))) := (Only.alloc _ _ _).thenAlloc _
    have HAS : Hid (AskAt w5 ((w5.alloc (.map #[] 0)).alloc (.cells #[.pointer (some ⟨tb, 0, none⟩), .slice a l.length cap, .map (some w5.heap.size)] 153 (0, 0))) P (w5.heap.size + 1) tb w5.heap.size (.slice a l.length cap) []) := Lib.hid (by
      refine ⟨hxa, ?_, (KMap.made w5 .string S (tEnc P)).later (Only.alloc (fun _ => False) _ _) (fun h => h), ⟨Nat.le_succ _, Nat.le_refl _, Nat.succ_ne_self _⟩⟩
      simpa using (MapKept.heap_alloc (w5.alloc (.map #[] 0)) (.cells #[.pointer (some ⟨tb, 0, none⟩), .slice a l.length cap, .map (some w5.heap.size)] 153 (0, 0))).1)
    have hsa : ((w5.alloc (.map #[] 0)).alloc (.cells #[.pointer (some ⟨tb, 0, none⟩), .slice a l.length cap, .map (some w5.heap.size)] 153 (0, 0))).heap.size = w5.heap.size + 2 := by simp
    have HCP := Lib.hid (treeCopy_any ((w5.alloc (.map #[] 0)).alloc (.cells #[.pointer (some ⟨tb, 0, none⟩), .slice a l.length cap, .map (some w5.heap.size)] 153 (0, 0))) tb tmb T (HT.out.ext (HX5.out.then hxa)))
    have HSA := Lib.hid hsa
    clear hxa hsa
    go_wp2_with fail
    refine HCP.out.mono ?_
    rintro e w6 ⟨rfl, ht6, ho6, _⟩
    obtain ⟨ab, hab⟩ : ∃ ab, ab = w5.heap.size + 1 := ⟨_, rfl⟩
    obtain ⟨kb, hkb⟩ : ∃ kb, kb = w5.heap.size := ⟨_, rfl⟩
    obtain ⟨cmb, hcmb⟩ : ∃ cmb, cmb = ((w5.alloc (.map #[] 0)).alloc (.cells #[.pointer (some ⟨tb, 0, none⟩), .slice a l.length cap, .map (some w5.heap.size)] 153 (0, 0))).heap.size := ⟨_, rfl⟩
    obtain ⟨cb, hcb⟩ : ∃ cb, cb = ((w5.alloc (.map #[] 0)).alloc (.cells #[.pointer (some ⟨tb, 0, none⟩), .slice a l.length cap, .map (some w5.heap.size)] 153 (0, 0))).heap.size + 1 := ⟨_, rfl⟩
    have HA6 : Hid (AllAt w5 w6 P ab tb kb cb cmb (.slice a l.length cap) (allT l T (o.take 0)) (wantW l T)) := Lib.hid ⟨⟨[], (by rw [hab, hkb]; exact HAS.out.grow ho6), (fun p x h => by cases h)⟩, (by rw [hcb, hcmb]; exact ht6), HFT.out, (by have := HSA.out; omega)⟩
    have HKB : Hid (w5.heap.size ≤ cb ∧ w5.heap.size ≤ cmb) := Lib.hid (by have := HSA.out; omega)
    rw [← hcb, ← hab]
    clear ht6 ho6 HCP HAS HSA hab hkb hcmb hcb hmm
    go_wp2_with fail
    go_loopw [11, 12, 33] (fun _ _ i wr => ∃ j : Nat, j ≤ o.length ∧ i = .int .i64 j ∧ Hid (AllAt w5 wr P ab tb kb cb cmb (.slice a l.length cap) (allT l T (o.take j)) (wantW l T))) (fun _ _ i _ => o.length - (intOf i).toNat)
    case atStart => exact ⟨0, Nat.zero_le _, rfl, HA6⟩
    case round =>
      clear HA6
      obtain ⟨j, hj, rfl, HA⟩ := hrel
      by_cases hlt : j < o.length
      · have hltz : (j : Int) < (o.length : Int) := by omega
        have hj0 : (0 : Int) ≤ (j : Int) := by omega
        have hj1 : ¬ (j : Int) < 0 := by omega
        have hj2 : ¬ (o.length : Int) ≤ (j : Int) := by omega
        obtain ⟨bo, oo, rfl, hcello⟩ := HCO.out (by intro h; rw [h] at hlt; simp at hlt)
        obtain ⟨i, hi⟩ : ∃ y, o[j]? = some y := ⟨_, List.getElem?_eq_getElem hlt⟩
        obtain ⟨hil, hin⟩ := HIN.out i (List.mem_of_getElem? hi)
        have di := HA.out.ext.cellOf (hcello j i hi) (fun h => h)
        have hiz : (i : Int) < (l.length : Int) := by omega
        have hi0 : (0 : Int) ≤ (i : Int) := by omega
        have hi1 : ¬ (i : Int) < 0 := by omega
        have hi2 : ¬ (l.length : Int) ≤ (i : Int) := by omega
        obtain ⟨b, off, rfl, hcell⟩ := HC.out (by intro h; rw [h] at hil; simp at hil)
        obtain ⟨u, _, c0, _⟩ := hcell i _ (ruleAt_eq hil)
        obtain ⟨ro, hro⟩ : ∃ ro, ro = (ruleAt l i).out := ⟨_, rfl⟩
        rw [← hro] at c0 hin
        have HRO : Hid (w5.cell? ⟨b, off + i * 4, none⟩ = some (S ro)) := Lib.hid (HX5.out.cellOf c0 (fun h => h))
        have d0 := HA.out.ext.cellOf HRO.out (fun h => h)
        have HTS : Hid (allT l T (o.take (j + 1)) = if (wantW l T ro).2 = 0 then putT (allT l T (o.take j)) ro (wantW l T ro).1 else allT l T (o.take j)) := Lib.hid (by rw [allT_step hi, hro]; rfl)
        have hrl : ro.length ≤ 1000 := by rw [hro]; exact HLO.out _ (List.mem_of_getElem? (ruleAt_eq hil))
        have HRL := Lib.hid hrl
        obtain ⟨L, hA1, hA2⟩ := HA.out.ask
        have hof := HOF.out w5 HX5.out ab kb wr L ro hin hA1 hA2
        generalize allT l T (o.take j) = U at HA HTS
        generalize wantW l T ro = X at hof HTS
        obtain ⟨x1, x2⟩ := X
        have HLT := Lib.hid hlt
        have hof2 : Calls Tryz.prog 95 #[.pointer (some ⟨ab, 0, none⟩), S ro] wr (fun e w' => e = .returned (.agg #[S x1, errC P x2]) ∧ AllAt w5 w' P ab tb kb cb cmb (.slice (some ⟨b, off, none⟩) l.length cap) U (wantW l T)) := hof.mono (fun e w' h => by
          obtain ⟨rfl, L', h1, h2, h3⟩ := h
          exact ⟨rfl, HA.out.asked h1 h2 h3⟩)
        have HOF2 := Lib.hid hof2
        clear hcello hcell hi hil hin c0 hro hrl hof hof2 hA1 hA2 hlt L
        by_cases hx : x2 = 0
        · subst hx
          have HTS2 : Hid (allT l T (o.take (j + 1)) = putT U ro x1) := Lib.hid (by rw [HTS.out, if_pos rfl])
          rw [show errC P 0 = .nilIface from rfl] at HOF2
          clear HTS
          go_wp2_with fail
          refine HOF2.out.mono ?_
          rintro e w7 ⟨rfl, hA7⟩
          have HTB := Lib.hid (MapKept.heap_alloc w7 (.cells #[S x1, .nilIface] 155 (0, 0))).1
          have HA8 := Lib.hid (hA7.grow (Only.alloc _ w7 (.cells #[S x1, .nilIface] 155 (0, 0))))
          have HLM : Hid (cmb < w7.heap.size) := Lib.hid hA7.tree.map.lt
          clear hA7
          have HPUT := Lib.hid (fun (wq : World) (hx : Ext (w7.alloc (.cells #[S x1, .nilIface] 155 (0, 0))) wq) => (show Calls Tryz.prog 38 #[.pointer (some ⟨cb, 0, none⟩), S ro, S x1] wq (fun e w' => ∃ c, e = .returned (errC P c) ∧ AllAt w5 w' P ab tb kb cb cmb (.slice (some ⟨b, off, none⟩) l.length cap) (putT U ro x1) (wantW l T) ∧ w'.cell? ⟨w7.heap.size, 0, none⟩ = some (S x1)) from (treePut_any wq P cb cmb U ro x1 (HA8.out.grow hx).tree HA8.out.ft.fits ((HVV.out.ext (HX5.out.then (HA8.out.grow hx).ext)).errs.sub (by decide)) (HVV.out.ext (HX5.out.then (HA8.out.grow hx).ext)).max (by have := HRL.out; omega) (fun q hq => by have := HA8.out.ft.lens q hq; omega)).mono (fun e w' h => by
            obtain ⟨h1, h2, h3⟩ := h
            refine ⟨_, h1, (HA8.out.grow hx).put h2 (HA8.out.ft.put ro x1 HRL.out) h3, h3.cellOf (hx.cellOf ((cell_of_heap HTB.out 0).trans rfl) (fun h => h)) (fun h => ?_)⟩
            have := HLM.out
            have h5 : w7.heap.size = cmb := h
            omega)))
          have e0 := (cell_of_heap HTB.out 0).trans (rfl : _ = some (S x1))
          have e1 := HA8.out.ext.cellOf HRO.out (fun h => h)
          have HE0 := Lib.hid e0
          have HE1 := Lib.hid e1
          clear di d0
          go_wp2_with fail
          go_region_held3 (fun w' => w'.cell? ⟨w7.heap.size, 0, none⟩ = some (S x1) ∧ w'.cell? ⟨b, off + i * 4, none⟩ = some (S ro)) (first | exact ⟨HC9.out, HA9.out.ext.cellOf HRO.out (fun h => h)⟩ | exact ⟨HE0.out, HE1.out⟩ | go_keep)
            ((go_at_call 38; refine (HPUT.out _ (by first | exact Only.refl _ _ | exact Only.drew _ _ | exact Only.drewN _ _ _)).mono ?_; rintro e w9 ⟨c9, rfl, hA9, hc9⟩; have HA9 := Lib.hid hA9; have HC9 : Hid (w9.cell? ⟨w7.heap.size, 0, none⟩ = some (S x1)) := Lib.hid hc9; clear hA9 hc9))
          all_goals
            go_wp2_with fail
            go_roundw
            case rel => exact ⟨j + 1, HLT.out, by go_num, by rw [HTS2.out]; exact HA9⟩
            case measure => have := HLT.out; simp [intOf]; omega
        · obtain ⟨c, rfl⟩ : ∃ c, x2 = c + 1 := ⟨x2 - 1, by omega⟩
          have HTS2 : Hid (allT l T (o.take (j + 1)) = U) := Lib.hid (by rw [HTS.out, if_neg (by omega)])
          rw [show errC P (c + 1) = errV (P c) from rfl] at HOF2
          clear HTS hx
          go_wp2_with fail
          refine HOF2.out.mono ?_
          rintro e w7 ⟨rfl, hA7⟩
          have HA8 := Lib.hid (hA7.grow (Only.alloc _ w7 (.cells #[S x1, errV (P c)] 155 (0, 0))))
          clear hA7 di d0
          go_wp2_with fail
          go_roundw
          case rel => exact ⟨j + 1, HLT.out, by go_num, by rw [HTS2.out]; exact HA8⟩
          case measure => have := HLT.out; simp [intOf]; omega
      · have hltz : ¬ (j : Int) < (o.length : Int) := by omega
        have HOE : Hid (allT l T (o.take j) = allT l T (orderOut l)) := Lib.hid (by rw [List.take_of_length_le (by omega), HOO.out])
        rw [HOE.out] at HA
        clear hlt hj
        go_wp2_with fail
        go_ret2
        exact ⟨_, _, rfl, HEE.out.ext HA.out.ext, HX5.out.then HA.out.ext, .inr ⟨HF.out, cb, cmb, rfl, Nat.le_trans HX5.out.size HKB.out.1, Nat.le_trans HX5.out.size HKB.out.2, HA.out.tree, HA.out.ft⟩⟩
end Go.Proofs.YtnmhaipjfpongacGreatDoor

/- Package path: Clean, whole. No condition but the text's length, and what the variables hold. (Printed by gen_r4.py.) -/
import Derived.Test.YtnmhaipjfpongaaDoorR3
namespace Go.Proofs.YtnmhaipjfpongaaDoor
open Go.ChangeShapes Go.WideShapes Go.ChangeAt Go.RowKit
open Go.MapKept (heap_alloc)

attribute [local go_sem] Oper.semAt_some eqNil_some eqNil_none

theorem infoStr' : (Tryd.prog.info? 9).map (fun i => (i.zero, i.size, i.bytes)) = some (some (.string ⟨#[]⟩), 1, 16) := by kernel_rfl

/-- Between two rounds. -/
structure CI (w : World) (h : Nat) (pre : List B) (W : World) : Prop where
  ext : Ext w W
  r0 : Boxed W h 9 (S [])
  r1 : Boxed W (h + 1) 26 .nilIface
  out : ∃ v out, cleanL [] pre = some out ∧ out.length ≤ pre.length ∧ Boxed W (h + 2) 29 v ∧ W.ownsRow (h + 8) 9 1 v out.length (out.map S)

/-- Where a round has handed back an error. -/
structure CX (w : World) (h : Nat) (s : B) (aS : Addr) (W : World) : Prop where
  ext : Ext w W
  r0 : Boxed W h 9 (S [])
  r1 : Boxed W (h + 1) 26 (errV aS)
  bad : cleanL [] (cut s) = none

theorem mem_cut_len (s x : B) (h : x ∈ cut s) : x.length ≤ s.length := by
  have e := congrArg List.length (join_cut s)
  obtain ⟨a, b, hab⟩ := List.append_of_mem h
  rw [← e, hab]
  cases a with
  | nil =>
    cases b with
    | nil => rw [List.nil_append, joinS_one]; exact Nat.le_refl _
    | cons y b => rw [List.nil_append, joinS_cons, List.length_append]; omega
  | cons z a =>
    rw [joinS_app _ _ (by simp) (by simp), List.length_append, List.length_cons]
    cases b with
    | nil => rw [joinS_one]; omega
    | cons y b => rw [joinS_cons, List.length_append]; omega

theorem join_rd (w : World) (v : Value) (l : List B) (hv : Rd S w v l) (h2 : l.length ≤ 1000000) (hl : (joinS l).length ≤ 1000000) : Calls Tryd.prog 54 #[v, .string ⟨#[47]⟩] w fun e w' => e = .returned (S (joinS l)) ∧ Ext w w' := by
  obtain ⟨a, cap, rfl, h1, _, h3⟩ := hv
  cases l with
  | nil =>
    refine (Tryd.strings_Join_none a cap ⟨#[47]⟩ w).mono ?_
    rintro e w' ⟨rfl, rfl⟩
    exact ⟨rfl, Only.refl _ _⟩
  | cons x r =>
    obtain ⟨b, off, rfl, hc⟩ := h3 (by simp)
    have hb : b < w.heap.size := lt_of_cell (hc 0 x rfl)
    have hcells : ∀ (j : Nat) y, ((x :: r).map fun z => (⟨z.toArray⟩ : ByteArray))[j]? = some y → w.cell? ⟨b, off + j, none⟩ = some (.string y) := fun j y hy => by
      rw [List.getElem?_map] at hy
      obtain ⟨z, hz, rfl⟩ := Option.map_eq_some_iff.1 hy
      exact hc j z hz
    have hm : (((x :: r).map fun z => (⟨z.toArray⟩ : ByteArray)).map (·.data.toList)) = x :: r := by
      rw [List.map_map]; exact List.map_id _
    have hj : Lib.join (((x :: r).map fun z => (⟨z.toArray⟩ : ByteArray)).map (·.data.toList)) (⟨#[47]⟩ : ByteArray).data.toList = joinS (x :: r) := by rw [hm]; rfl
    have hlen : ((x :: r).map fun z => (⟨z.toArray⟩ : ByteArray)).length = (x :: r).length := by simp
    have h := Tryd.strings_Join b off cap ((x :: r).map fun z => (⟨z.toArray⟩ : ByteArray)) ⟨#[47]⟩ w hcells hb (by rw [hlen]; omega) (by rw [hlen]; exact h1) (by rw [hj]; omega)
    rw [hlen] at h
    refine h.mono ?_
    rintro e w' ⟨rfl, hbl⟩
    exact ⟨by rw [hj], Only.of_below hbl⟩

theorem row_apart {W : World} {base : Nat} {e : TypeId} {v : Value} {n : Nat} {xs : List Value} (h : W.ownsRow base e 1 v n xs) {k : Nat} (hk : k < base) : v.ownBlock ≠ some k := by
  rcases h.2 with ⟨rfl, _⟩ | ⟨g, cap, cur, rfl, hg, _⟩
  · intro e; cases e
  · intro e
    have e2 : g = k := by simpa [Value.ownBlock] using e
    omega

theorem CI.other {w : World} {h : Nat} {pre : List B} {A B' : World} {p : Nat → Prop} (hi : CI w h pre A) (hw : w.heap.size = h) (ho : Only p A B') (hp : ∀ k, p k → h + 3 ≤ k ∧ k < h + 8) : CI w h pre B' := by
  obtain ⟨e, b0, b1, v, out, hc, hl, b2, hr⟩ := hi
  have np : ∀ k, k < h + 3 → ¬ p k := fun k hk hq => by have := hp k hq; omega
  refine ⟨?_, ho.heapOf b0 (np _ (by omega)), ho.heapOf b1 (np _ (by omega)), v, out, hc, hl, ho.heapOf b2 (np _ (by omega)), ho.row hr fun k hk hq => ?_⟩
  · exact e.trans ho (fun _ _ h => h) fun k hk hq => by have := hp k hq; omega
  · exact row_apart hr (hp k hq).2 hk

theorem CX.other {w : World} {h : Nat} {s : B} {aS : Addr} {A B' : World} {p : Nat → Prop} (hi : CX w h s aS A) (hw : w.heap.size = h) (ho : Only p A B') (hp : ∀ k, p k → h + 3 ≤ k) : CX w h s aS B' := by
  obtain ⟨e, b0, b1, hb⟩ := hi
  have np : ∀ k, k < h + 3 → ¬ p k := fun k hk hq => by have := hp k hq; omega
  exact ⟨e.trans ho (fun _ _ h => h) fun k hk hq => by have := hp k hq; omega, ho.heapOf b0 (np _ (by omega)), ho.heapOf b1 (np _ (by omega)), hb⟩

theorem clean_end {w W : World} {h : Nat} {tmps : Array Value} {s t : B} {k : Nat} {aB aS aN aE : Addr} (hw : w.heap.size = h) (h2 : tmps[2]? = some (.pointer (some ⟨h, 0, none⟩))) (h3 : tmps[3]? = some (.pointer (some ⟨h + 1, 0, none⟩)))
    (e : Ext w W) (b0 : Boxed W h 9 (S t)) (b1 : Boxed W (h + 1) 26 (cleanErr aB aS aN aE k)) (hd : W.heap[h + 6]? = some (.deferred (some []))) (hr : cleanR s = (t, k)) :
    bodyPostM Fence.wide 5 Tryd.prog Tryd.f32 (CleanIs w aB aS aN aE s) Exit.ret { tmps := tmps, defers := [{ target := Target.collected (h + 6), args := #[] }] } W := by
  refine ⟨by simp, .inl ⟨_, _, rfl, run_takeDeferred hd, ?_⟩⟩
  have hp : ∀ k, k ≠ h + 6 → (W.putObj (h + 6) (.deferred none)).heap[k]? = W.heap[k]? := fun k hk => World.putObj_heap_other hk
  have c0 : Boxed (W.putObj (h + 6) (.deferred none)) h 9 (S t) := (hp _ (by omega)).trans b0
  have c1 : Boxed (W.putObj (h + 6) (.deferred none)) (h + 1) 26 (cleanErr aB aS aN aE k) := (hp _ (by omega)).trans b1
  refine ⟨_, clean_results _ _ h t _ h2 h3 c0.cell c1.cell, ?_, ?_⟩
  · rw [hr]
  · exact e.trans (only_putObj (p := fun k => k = h + 6) W (h + 6) _ rfl) (fun _ _ h => h) fun k hk hq => by omega

set_option maxRecDepth 100000 in
set_option maxHeartbeats 4000000 in
theorem clean_short (w : World) (s : B) (hs : ¬ 200 < s.length) (aB aS aN aE : Addr) (he : PathErrs w aB aS aN aE) : Calls Tryd.prog 32 #[S s] w (CleanIs w aB aS aN aE s) := by
  have hl : ¬ ((200 : Int) < (s.length : Int)) := by omega
  obtain ⟨i0, hi, hz0, hz1, hz2⟩ := info_parts infoStr'
  obtain ⟨h, hh⟩ : ∃ h, w.heap.size = h := ⟨_, rfl⟩
  have hA : Ext w ((w.alloc (.cells #[.string ⟨#[]⟩] 9)).alloc (.cells #[.nilIface] 26)) := (Only.alloc _ w _).then (Only.alloc _ _ _)
  have b0 := (Boxed.new w 9 (S [])).alloc (.cells #[.nilIface] 26)
  have b1 := Boxed.new (w.alloc (.cells #[.string ⟨#[]⟩] 9)) 26 .nilIface
  have hsA : ((w.alloc (.cells #[.string ⟨#[]⟩] 9)).alloc (.cells #[.nilIface] 26)).heap.size = h + 2 := by simp [hh]
  rw [World.size_alloc] at b1
  rw [hh] at b0 b1
  obtain ⟨wA, hWA⟩ : ∃ w1, ((w.alloc (.cells #[.string ⟨#[]⟩] 9)).alloc (.cells #[.nilIface] 26)) = w1 := ⟨_, rfl⟩
  rw [hWA] at hA b0 b1 hsA
  have hB : Ext w (wA.alloc (.cells #[.slice none 0 0] 29)) := hA.then (Only.alloc _ _ _)
  have b2 := Boxed.new wA 29 (.slice none 0 0)
  replace b0 := b0.alloc (.cells #[.slice none 0 0] 29)
  replace b1 := b1.alloc (.cells #[.slice none 0 0] 29)
  have hsB : (wA.alloc (.cells #[.slice none 0 0] 29)).heap.size = h + 3 := by simp [hsA]
  rw [hsA] at b2
  obtain ⟨wB, hWB⟩ : ∃ w1, wA.alloc (.cells #[.slice none 0 0] 29) = w1 := ⟨_, rfl⟩
  rw [hWB] at hB b0 b1 b2 hsB
  have hspl := splitSeq_any wB s
  have b3 := ((Boxed.new wB 9 (S s)).alloc (.cells #[.string ⟨#[47]⟩] 9)).alloc (.cells #[.int .i64 0] 3)
  have b4 := (Boxed.new (wB.alloc (.cells #[S s] 9)) 9 (.string ⟨#[47]⟩)).alloc (.cells #[.int .i64 0] 3)
  have b5 := Boxed.new ((wB.alloc (.cells #[S s] 9)).alloc (.cells #[.string ⟨#[47]⟩] 9)) 3 (.int .i64 0)
  have hC : Ext w (((wB.alloc (.cells #[S s] 9)).alloc (.cells #[.string ⟨#[47]⟩] 9)).alloc (.cells #[.int .i64 0] 3)) := ((hB.then (Only.alloc _ _ _)).then (Only.alloc _ _ _)).then (Only.alloc _ _ _)
  have hsC : (((wB.alloc (.cells #[S s] 9)).alloc (.cells #[.string ⟨#[47]⟩] 9)).alloc (.cells #[.int .i64 0] 3)).heap.size = h + 6 := by simp [hsB]
  replace b0 := ((b0.alloc (.cells #[S s] 9)).alloc (.cells #[.string ⟨#[47]⟩] 9)).alloc (.cells #[.int .i64 0] 3)
  replace b1 := ((b1.alloc (.cells #[S s] 9)).alloc (.cells #[.string ⟨#[47]⟩] 9)).alloc (.cells #[.int .i64 0] 3)
  replace b2 := ((b2.alloc (.cells #[S s] 9)).alloc (.cells #[.string ⟨#[47]⟩] 9)).alloc (.cells #[.int .i64 0] 3)
  simp only [World.size_alloc, hsB] at b3 b4 b5 hspl
  obtain ⟨wC, hWC⟩ : ∃ w1, (((wB.alloc (.cells #[S s] 9)).alloc (.cells #[.string ⟨#[47]⟩] 9)).alloc (.cells #[.int .i64 0] 3)) = w1 := ⟨_, rfl⟩
  rw [hWC] at hC b0 b1 b2 b3 b4 b5 hsC hspl
  have hci : CI w h [] wC := ⟨hC, b0, b1, .slice none 0 0, [], rfl, Nat.le_refl _, b2, World.ownsRow_nil _ _ _ _⟩
  have HS := Lib.hid hspl
  have HCI := Lib.hid hci
  have HE := Lib.hid he
  have H3 := Lib.hid b3
  have H4 := Lib.hid b4
  have H5 := Lib.hid b5
  have HI0 := Lib.hid hi
  have HHS := Lib.hid hs
  clear hspl hci hC b0 b1 b2 b3 b4 b5 hA hB he hWC hs hi
  refine (callsIn_wide (n := 5)).1 ?_
  refine callsIn_of_wp_marks Tryd.func32 rfl trivial ?_ rfl
  simp only [Tryd.ntmps32, List.size_toArray, List.length_cons, List.length_nil, Nat.reduceAdd, Nat.reduceSub, Array.replicate_succ, Array.replicate_zero, List.push_toArray, List.append_toArray, List.nil_append, List.cons_append]
  gi_wp2_with (refine ⟨trivial, ?_⟩; gi_at_call 53; refine (callsIn_wide.2 HS.out).mono ?_; rintro e wD ⟨rfl, hw'⟩; subst hw')
  refine range_split rfl (by omega) (gf := 84) (lb := #[.pointer (some ⟨h + 4, 0, none⟩), .pointer (some ⟨h + 3, 0, none⟩), .pointer (some ⟨h + 5, 0, none⟩)]) rfl trivial (enters_of Tryd.func84 (by kernel_rfl) rfl)
    (sb := h + 3) (by rw [hsC]; omega) (keep := fun k => h + 3 ≤ k ∧ k ≤ h + 7) (by rw [hsC]; omega) (by rw [hsC]; omega) (xs := cut s) rfl ?it (CI w h) (fun _ => CX w h s aS) ?hI ?hIx ?hset HCI.out
    (fun x => { tmps := #[S s, undef, .pointer (some ⟨h, 0, none⟩), .pointer (some ⟨h + 1, 0, none⟩), .pointer (some ⟨h + 2, 0, none⟩), S x, undef, undef, S s, .int .i64 (s.length : Int), .bool false, undef, S s, .func (.func 84) #[] #[.pointer (some ⟨h + 4, 0, none⟩), .pointer (some ⟨h + 3, 0, none⟩), .pointer (some ⟨h + 5, 0, none⟩)], S x, undef, undef, undef, undef, undef, undef, undef, undef, undef, undef, undef, undef, undef, undef, undef, undef, undef, undef, undef, undef, undef, undef, undef, undef, undef, undef, undef, undef, undef, undef, undef], defers := [] }) ?assign ?body ?done ?stop
  case it =>
    intro o o' I Ix hset hY h0
    exact splitSeq1_in _ (by omega) _ (h + 3) (h + 4) (h + 5) s (by have := HHS.out; omega) (by omega) (by omega) _ (by omega) (by omega) (by omega) I Ix hset hY _ ((H4.out.alloc o).alloc o') ((H3.out.alloc o).alloc o') ((H5.out.alloc o).alloc o') h0
  case hI => exact fun pre A B' hi ho => hi.other hh ho fun k hk => by rw [hsC] at hk; omega
  case hIx => exact fun pre A B' hi ho => hi.other hh ho fun k hk => by rw [hsC] at hk; omega
  case hset => exact fun pre A u hi => hi.other hh (Only.set (p := fun k => k = h + 3) u rfl) fun k hk => by omega
  case assign =>
    intro x W K hK
    gi_wp2
    exact hK
  case body =>
    intro pre x W hi hpre hlt
    rw [hsC] at hlt
    have hi' := hi
    obtain ⟨e, b0, b1, v, out, hc, hol, b2, hr⟩ := hi
    have hpl : pre.length + 1 ≤ 201 := by
      have h1 := hpre.length_le
      have h2 := cut_len_le s
      have h3 := HHS.out
      rw [List.length_append] at h1
      simp at h1
      omega
    have hstep : cleanL [] (pre ++ [x]) = cleanL out [x] := by rw [cleanL_app, hc]; rfl
    have HPRE := Lib.hid hpre
    have HE1 := Lib.hid e
    have HB0 := Lib.hid b0
    have HB1 := Lib.hid b1
    have HB2 := Lib.hid b2
    have HC := Lib.hid hc
    have HR := Lib.hid hr
    have HST := Lib.hid hstep
    have HI := Lib.hid hi'
    have HHH := Lib.hid hh
    have HLT := Lib.hid hlt
    clear hpre e b0 b1 hc hr hstep hi' hh hlt hWA hWB hsA hsB hsC HS HCI H3 H4 H5
    by_cases h0 : x = []
    · subst h0
      clear b2
      gi_wp2
      exact ⟨Only.refl _ _, HE1.out, HB0.out, HB1.out, v, out, by rw [HST.out]; simp [cleanL], by simp; omega, HB2.out, HR.out⟩
    by_cases h1 : x = [46]
    · subst h1
      clear b2
      gi_wp2
      exact ⟨Only.refl _ _, HE1.out, HB0.out, HB1.out, v, out, by rw [HST.out]; simp [cleanL], by simp; omega, HB2.out, HR.out⟩
    have g0 : (x == []) = false := beq_eq_false_iff_ne.2 h0
    have g1 : (x == [46]) = false := beq_eq_false_iff_ne.2 h1
    by_cases h2 : x = [46, 46]
    · subst h2
      clear g0 g1 h0 h1
      have hrr := HR.out.2
      by_cases ho : out = []
      · subst ho
        have hbad : cleanL [] (cut s) = none := by
          obtain ⟨rest, hrest⟩ := HPRE.out
          rw [← hrest, cleanL_app, HST.out]
          simp [cleanL]
        have HBAD := Lib.hid hbad
        have c3 := HE1.out.cellOf HE.out.shape (fun h => h)
        have hne : h ≠ 2 := by rw [← HHH.out]; exact World.new_ne w _ HE.out.shape
        have hne' : 2 < h := by have := lt_of_cell HE.out.shape; rw [HHH.out] at this; exact this
        have c0 := HB0.out.cell
        have f0 := HB0.out.frozen
        have c1 := HB1.out.cell
        have f1 := HB1.out.frozen
        clear hbad
        have hv : ∃ a cap, v = .slice a 0 cap := by
          rcases hrr with ⟨rfl, _⟩ | ⟨g, cap, cur, rfl, _⟩
          · exact ⟨_, _, rfl⟩
          · exact ⟨_, _, rfl⟩
        obtain ⟨a, cap, rfl⟩ := hv
        have c2 := b2.cell
        clear hrr b2
        gi_wp2
        gi_region
        all_goals gi_wp2
        all_goals
          refine ⟨(((Only.refl _ W).thenSet _ (.inl (by show ¬ (h + 3 ≤ h ∧ h ≤ h + 7); omega))).thenSet _ (.inl (by show ¬ (h + 3 ≤ h + 1 ∧ h + 1 ≤ h + 7); omega))).thenDrew,
            ((HE1.out.thenSet _ (.inr (by rw [HHH.out]; exact Nat.le_refl _))).thenSet _ (.inr (by rw [HHH.out]; exact Nat.le_succ _))).thenDrew, ?_, ?_, HBAD.out⟩
          · exact boxed_other (Boxed.set (S []) HB0.out) (by omega) _
          · exact Boxed.set (errV aS) (boxed_other HB1.out (by omega) _)
      · obtain ⟨k, hk⟩ : ∃ k, out.length = k + 1 := ⟨out.length - 1, by have := List.length_pos_iff.2 ho; omega⟩
        have hcl : cleanL out [[46, 46]] = some out.dropLast := by simp [cleanL, ho]
        have HCL := Lib.hid hcl
        have hv : ∃ g cap, v = .slice (some ⟨g, 0, none⟩) (k + 1) cap ∧ k + 1 ≤ cap := by
          rcases hrr with ⟨_, h0⟩ | ⟨g, cap, cur, rfl, _, _, hcp, _⟩
          · omega
          · exact ⟨g, cap, by rw [hk], by omega⟩
        obtain ⟨g, cap, rfl, hcap⟩ := hv
        have c2 := b2.cell
        have f2 := b2.frozen
        have q0 : ((k : Int) + 1 == 0) = false := beq_eq_false_iff_ne.2 (by omega)
        have q1 : (0 : Int) ≤ (k : Int) := by omega
        have q2 : (k : Int) ≤ (cap : Int) := by omega
        have hkm : k ≤ 1000 := by omega
        have HK := Lib.hid hk
        have hr1 := row_take (ys := out.dropLast.map S) (by have := HR.out; rw [hk] at this; exact this) k (Nat.le_succ _) (by rw [← List.map_take, List.dropLast_eq_take, hk]; rfl)
        have hdl : out.dropLast.length = k := by simp [hk]
        rw [← hdl] at hr1
        have HR1 := Lib.hid hr1
        have HDL := Lib.hid hdl
        clear hrr b2 hcl hk hr1 hdl ho
        gi_wp2
        refine ⟨(Only.refl _ W).thenSet _ (.inl (by show ¬ (h + 3 ≤ h + 2 ∧ h + 2 ≤ h + 7); omega)), HE1.out.thenSet _ (.inr (by rw [HHH.out]; show h ≤ h + 2; omega)), boxed_other HB0.out (by omega) _, boxed_other HB1.out (by omega) _,
          _, out.dropLast, by rw [HST.out, HCL.out], by have := HK.out; rw [HDL.out]; simp; omega, Boxed.set _ HB2.out, ?_⟩
        rw [← HDL.out]
        exact (Only.set (p := fun k => k = h + 2) _ rfl).row HR1.out fun k hk hq => row_apart HR1.out (by omega) hk
    · have g2 : (x == [46, 46]) = false := beq_eq_false_iff_ne.2 h2
      have hcl : cleanL out [x] = some (out ++ [x]) := by rw [cleanL, if_neg (by rintro (e | e); exact h0 e; exact h1 e), if_neg h2]; rfl
      have HCL := Lib.hid hcl
      have c2 := b2.cell
      clear h0 h1 h2 hcl
      gi_wp2_with (gi_at_builtin; refine wpListIn_append_own _ rfl _ _ 29 rfl (h + 8) 9 i0 (.string ⟨#[]⟩) 1 16 Tryd.underlying29 HI0.out hz0 hz1 hz2 rfl (by decide) v out.length (out.map S) rfl (HR.out.alloc _) ⟨W.heap.size, 0, none⟩ 1 1 [S x] rfl rfl (cell_one_new _ _ _) (by simp [Value.oneCell']) (by unfold maxLen; omega) (by omega) (by have := HLT.out; simp; omega) ?_; intro v' w1 hown' hgrow _; obtain ⟨g', cap', rfl⟩ := ownsRow_succ hown'; have hgrow' : (W.alloc (.cells #[S x] 9)).grownBy w1 v.ownBlock := hgrow; have hv1 : Boxed w1 (h + 2) 29 v := (b2.alloc _).kept hgrow' (row_apart (HR.out.alloc (.cells #[S x] 9)) (by omega)).symm; have hc1 := hv1.cell; have hf1 := hv1.frozen; clear hgrow)
      have hG : Only (fun k => h + 8 ≤ k) W w1 := (Only.alloc _ W _).thenGrown hgrow' fun i hi => .inl (by
        rcases Nat.lt_or_ge i (h + 8) with hlt | hge
        · exact absurd hi (row_apart HR.out hlt)
        · exact hge)
      have hT : Only (fun k => ¬ (h + 3 ≤ k ∧ k ≤ h + 7)) W (w1.setCell ⟨h + 2, 0, none⟩ (.slice (some ⟨g', 0, none⟩) (out.length + 1) cap')) :=
        (hG.mono (fun k _ hk => by omega)).thenSet _ (.inl (by simp))
      have hX : Ext w (w1.setCell ⟨h + 2, 0, none⟩ (.slice (some ⟨g', 0, none⟩) (out.length + 1) cap')) := (HE1.out.trans hG (r := fun _ => False) (fun _ _ h => h) (fun k hk hq => by have := HHH.out; omega)).thenSet _ (.inr (by have := HHH.out; show _ ≤ h + 2; omega))
      refine ⟨hT, hX, ?_, ?_, .slice (some ⟨g', 0, none⟩) (out.length + 1) cap', out ++ [x], by rw [HST.out, HCL.out], by simp; omega, hv1.set _, ?_⟩
      · exact boxed_other (hG.heapOf HB0.out (by omega)) (by omega) _
      · exact boxed_other (hG.heapOf HB1.out (by omega)) (by omega) _
      · have hr2 : w1.ownsRow (h + 8) 9 1 (.slice (some ⟨g', 0, none⟩) (out.length + 1) cap') (out ++ [x]).length ((out ++ [x]).map S) := by simpa using hown'
        exact (Only.set (p := fun k => k = h + 2) _ rfl).row hr2 fun k hk hq => row_apart hr2 (by omega) hk
  case done =>
    intro W hi hd
    rw [hsC] at hd ⊢
    obtain ⟨e, b0, b1, v, out, hc, hol, b2, hr⟩ := hi
    have hcl := cut_len_le s
    have HE1 := Lib.hid e
    have HB0 := Lib.hid b0
    have HB1 := Lib.hid b1
    have HB2 := Lib.hid b2
    have HC := Lib.hid hc
    have HR := Lib.hid hr
    have HHH := Lib.hid hh
    have HD := Lib.hid hd
    have HLL := Lib.hid (show out.length ≤ 201 by have := HHS.out; omega)
    have hrr := hr.2
    have c0 := b0.cell
    have f0 := b0.frozen
    have c1 := b1.cell
    have f1 := b1.frozen
    clear e b0 b1 hc hr hh hd hWA hWB hsA hsB hsC HS HCI H3 H4 H5 hol hcl
    by_cases ho : out = []
    · subst ho
      have hrs : cleanR s = ([], 6) := by
        unfold cleanR
        rw [if_neg HHS.out, HC.out]
        rfl
      have HRS := Lib.hid hrs
      have c3 := HE1.out.cellOf HE.out.none (fun h => h)
      have hne : h ≠ 5 := by rw [← HHH.out]; exact World.new_ne w _ HE.out.none
      have hne' : 5 < h := by have := lt_of_cell HE.out.none; rw [HHH.out] at this; exact this
      have hv : ∃ a cap, v = .slice a 0 cap := by
        rcases hrr with ⟨rfl, _⟩ | ⟨g, cap, cur, rfl, _⟩
        · exact ⟨_, _, rfl⟩
        · exact ⟨_, _, rfl⟩
      obtain ⟨a, cap, rfl⟩ := hv
      have c2 := b2.cell
      clear hrr b2 hrs
      gi_wp2
      gi_region
      all_goals gi_wp2
      all_goals
        refine clean_end (k := 6) HHH.out rfl rfl (((HE1.out.thenSet _ (.inr (by rw [HHH.out]; exact Nat.le_refl _))).thenSet _ (.inr (by rw [HHH.out]; exact Nat.le_succ _))).thenDrew) ?_ ?_ ?_ HRS.out
        · exact boxed_other (Boxed.set (S []) HB0.out) (by omega) _
        · exact Boxed.set (errV aE) (boxed_other HB1.out (by omega) _)
        · exact (Below.heap_setCell _ _ _ _ (by simp)).trans ((Below.heap_setCell _ _ _ _ (by simp)).trans HD.out)
    · obtain ⟨k, hk⟩ : ∃ k, out.length = k + 1 := ⟨out.length - 1, by have := List.length_pos_iff.2 ho; omega⟩
      have hv : ∃ g cap, v = .slice (some ⟨g, 0, none⟩) (k + 1) cap := by
        rcases hrr with ⟨_, h0⟩ | ⟨g, cap, cur, rfl, _⟩
        · omega
        · exact ⟨g, cap, by rw [hk]⟩
      obtain ⟨g, cap, rfl⟩ := hv
      have hmem : ∀ x ∈ out, x ∈ cut s := fun x hx => by
        rcases cleanL_mem _ _ _ HC.out x hx with h | h
        · cases h
        · exact h
      have hjl : (joinS out).length ≤ 1000000 := by
        have hxl : ∀ x ∈ out, x.length ≤ 200 := fun x hx => by
          have := mem_cut_len s x (hmem x hx)
          have := HHS.out
          omega
        have := joinS_len out 200 hxl
        have := HLL.out
        have : out.length * 201 ≤ 201 * 201 := Nat.mul_le_mul_right _ HLL.out
        omega
      have hrd : Rd S W (.slice (some ⟨g, 0, none⟩) (k + 1) cap) out := Rd.of_row HR.out
      have hj := join_rd W _ out hrd (by have := HLL.out; omega) hjl
      have hck := fun w1 (h1 : Ext w w1) => check_any w1 (joinS out) aN hjl (HE.out.max.ext h1) (h1.cellOf HE.out.name (fun h => h))
      obtain ⟨q, hq⟩ : ∃ q, q = pathOk (joinS out) := ⟨_, rfl⟩
      have hrs : cleanR s = if q then (joinS out, 0) else ([], 4) := by
        unfold cleanR
        rw [if_neg HHS.out, HC.out]
        simp only []
        rw [if_neg ho, hq]
      rw [← hq] at hck
      obtain ⟨t, ht⟩ : ∃ t, t = joinS out := ⟨_, rfl⟩
      rw [← ht] at hj hck hrs
      have HJ := Lib.hid hj
      have HCK := Lib.hid hck
      have HRS := Lib.hid hrs
      have c2 := b2.cell
      have q0 : ((k : Int) + 1 == 0) = false := beq_eq_false_iff_ne.2 (by omega)
      have hkm : k ≤ 1000 := by have := HLL.out; omega
      clear hrr b2 hrs hj hck hrd hmem hjl hk hq ht ho c0 f0 c1 f1
      gi_wp2_with (refine ⟨trivial, ?_⟩; gi_at_call 54; refine (callsIn_wide.2 HJ.out).mono ?_; rintro e w2 ⟨rfl, ho2⟩; have HO2 := Lib.hid ho2; clear ho2)
      refine ⟨trivial, (callsIn_wide.2 (HCK.out _ (HE1.out.ext HO2.out))).mono ?_⟩
      rintro e w3 ⟨rfl, ho3⟩
      have HO3 := Lib.hid (HO2.out.ext ho3)
      have HX := Lib.hid (HE1.out.ext (HO2.out.ext ho3))
      have B0 := Lib.hid (HO3.out.heapOf HB0.out (fun h => h))
      have B1 := Lib.hid (HO3.out.heapOf HB1.out (fun h => h))
      have HD3 := Lib.hid (HO3.out.heapOf HD.out (fun h => h))
      have c0 : w3.cell? ⟨h, 0, none⟩ = some (S []) := Boxed.cell B0.out
      have f0 : w3.frozen? ⟨h, 0, none⟩ = false := Boxed.frozen B0.out
      have c1 : w3.cell? ⟨h + 1, 0, none⟩ = some .nilIface := Boxed.cell B1.out
      have f1 : w3.frozen? ⟨h + 1, 0, none⟩ = false := Boxed.frozen B1.out
      clear ho3 c2
      cases q with
      | true =>
        rw [if_pos rfl]
        gi_wp2
        refine clean_end (k := 0) (t := t) HHH.out rfl rfl ((HX.out.thenSet _ (.inr (by rw [HHH.out]; exact Nat.le_refl _))).thenSet _ (.inr (by rw [HHH.out]; exact Nat.le_succ _))) ?_ ?_ ?_ HRS.out
        · exact boxed_other (Boxed.set (S t) B0.out) (by omega) _
        · exact Boxed.set _ (boxed_other B1.out (by omega) _)
        · exact (Below.heap_setCell _ _ _ _ (by simp)).trans ((Below.heap_setCell _ _ _ _ (by simp)).trans HD3.out)
      | false =>
        rw [if_neg (by decide)]
        gi_wp2
        refine clean_end (k := 4) (t := []) HHH.out rfl rfl ((HX.out.thenSet _ (.inr (by rw [HHH.out]; exact Nat.le_refl _))).thenSet _ (.inr (by rw [HHH.out]; exact Nat.le_succ _))) ?_ ?_ ?_ HRS.out
        · exact boxed_other (Boxed.set (S []) B0.out) (by omega) _
        · exact Boxed.set (errV aN) (boxed_other B1.out (by omega) _)
        · exact (Below.heap_setCell _ _ _ _ (by simp)).trans ((Below.heap_setCell _ _ _ _ (by simp)).trans HD3.out)
  case stop =>
    intro pre W hx hd
    rw [hsC] at hd ⊢
    obtain ⟨e, b0, b1, hbad⟩ := hx
    have hrs : cleanR s = ([], 3) := by
      unfold cleanR
      rw [if_neg HHS.out, hbad]
    gi_wp2
    exact clean_end (k := 3) hh rfl rfl e b0 b1 hd hrs

theorem clean_any (w : World) (s : B) (aB aS aN aE : Addr) (he : PathErrs w aB aS aN aE) : Calls Tryd.prog 32 #[S s] w (CleanIs w aB aS aN aE s) := by
  by_cases h : 200 < s.length
  · exact clean_long w s h aB aS aN aE he
  · exact clean_short w s h aB aS aN aE he
end Go.Proofs.YtnmhaipjfpongaaDoor

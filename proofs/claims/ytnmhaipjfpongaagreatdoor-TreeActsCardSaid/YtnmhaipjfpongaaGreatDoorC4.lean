/- Package cache: Put. No condition but that the cache is one. -/
import Derived.Test.YtnmhaipjfpongaaGreatDoorC3
namespace Go.Proofs.YtnmhaipjfpongaaGreatDoor
open Go.ChangeShapes Go.WideShapes Go.ChangeAt Go.RowKit

/-- 'm[k] = v' at the operation. -/
theorem wpList_store {κ α : Type} [BEq κ] [LawfulBEq κ] {d : TypeDesc} {encK : κ → Value} {enc : α → Value} {b : Nat} {l : List (κ × α)} {t kt et : TypeId} (KO : KeyOk d encK)
    {w : World} {ops : Array Oper} {rest : List Oper} {o : Oper} {a : Act} {Q : Exit → Act → World → Prop} (hg : o.guard = none) (m x v : Operand) (ho : o.op = .mapUpdate t m x v)
    (ht : Tryz.prog.underlying t = some (.map kt et)) (hk : Tryz.prog.underlying kt = some d) (hm : a.eval m = .map (some b)) (k : κ) (hx : a.eval x = encK k) (y : α) (hv : a.eval v = enc y) (h : KMap d encK enc w b l)
    (hK : ∀ w', KMap d encK enc w' b ((k, y) :: l.filter fun p => !(p.1 == k)) → Only (fun i => i = b) w w' → w'.heap.size = w.heap.size → wpList Tryz.prog ops Q rest (a.put o.dst undef) w') :
    wpList Tryz.prog ops Q (o :: rest) a w := by
  refine wpList_plain hg fun K' hK' => ?_
  obtain ⟨w', hrun, h1, h2, h3⟩ := KMap.store (P := Tryz.prog) KO h ht hk k y
  unfold Oper.wp
  simp [execOp, ho, hm, hx, hv, hrun, Result.andThen]
  exact hK' _ _ (hK w' h1 h2 h3)

theorem ownBlock_form {v : Value} {g : Nat} (h : v.ownBlock = some g) : ∃ a n c, v = .slice (some a) n c := by
  cases v with
  | slice a n c =>
    cases a with
    | none => cases h
    | some a => exact ⟨a, n, c, rfl⟩
  | _ => cases h

theorem put_end {w w4 : World} {b mb many : Nat} {sv sv2 v4 : Value} {T : List (B × B)} (hb : w4.heap[b]? = some (.cells #[I many, sv2, .map (some mb)] 232 (0, 0))) (hr : w4.ownsRow 0 9 1 v4 (T.map (·.1)).length ((T.map (·.1)).map S))
    (hm : KMap .string S S w4 mb T) (ho : Only (InCache b mb sv) w w4) (hn : ∀ i, v4.ownBlock = some i → sv.ownBlock = some i ∨ w.heap.size ≤ i) (hne : b ≠ mb) :
    Got w b mb sv many T (.tuple #[]) (.returned (.tuple #[])) (w4.setCell ⟨b, 1, none⟩ v4) := by
  have hs := Only.set (p := fun i => i = b) (w := w4) (a := ⟨b, 1, none⟩) v4 rfl
  exact ⟨v4, rfl, ⟨(heap_setCell_same hb 1 v4).trans (by simp), hs.row (by simpa using hr) (fun i e e1 => row_ne hr hb (by decide) i e e1), hm.later hs (Ne.symm hne)⟩, ho.thenSet _ (.inl (.inl rfl)), own_step hn⟩

/-- The blocks of what a key's step leaves. -/
theorem put_only {w w1 w2 : World} {b mb : Nat} {sv : Value} (h1 : Only (fun i => i = mb) w w1) (h2 : Only (fun i => i = b ∨ sv.ownBlock = some i) w1 w2) : Only (InCache b mb sv) w w2 :=
  h1.trans h2 (fun _ _ e => .inr (.inl e)) (fun i _ e => by rcases e with e | e; exact .inl e; exact .inr (.inr e))

set_option maxHeartbeats 2000000 in
theorem put_any (w : World) (b mb : Nat) (sv : Value) (many : Nat) (L : List (B × B)) (k x : B) (h : CacheAt w b mb sv many L) (hl : L.length ≤ 1000) :
    Calls Tryz.prog 290 #[.pointer (some ⟨b, 0, none⟩), S k, S x] w (Got w b mb sv many (putL many L k x) (.tuple #[])) := by
  have c2 : w.cell? ⟨b, 2, none⟩ = some (.map (some mb)) := (cell_of_heap h.cells 2).trans rfl
  have hmb : b ≠ mb := heap_ne_map h.cells h.map
  have hmr : ¬ sv.ownBlock = some mb := fun e => row_ne_map h.row h.map mb e rfl
  obtain ⟨L1, HL1⟩ : ∃ L1, Hid (L1 = L.filter (fun p => !(p.1 == k)) ++ [(k, x)]) := ⟨_, Lib.hid rfl⟩
  have hfl := List.length_filter_le (fun p : B × B => !(p.1 == k)) L
  have hL1 : 0 < L1.length ∧ L1.length ≤ 1001 := by rw [HL1.out]; simp; omega
  have hks : (L.map (·.1)).filter (fun s => !(s == k)) ++ [k] = L1.map (·.1) := by rw [HL1.out, List.map_append, map_filter_key]; rfl
  have hlast : ∀ w1, Only (fun i => i = mb) w w1 → Calls Tryz.prog 318 #[.pointer (some ⟨b, 0, none⟩), S k] w1 (Lasted w1 b (I many) (.map (some mb)) sv 0 (L1.map (·.1))) := by
    intro w1 ho1
    have hb1 := ho1.heapOf h.cells hmb
    have hr1 := ho1.row h.row fun i e e1 => hmr (e1 ▸ e)
    rw [← hks]
    exact last_any w1 b 0 (I many) (.map (some mb)) sv (L.map (·.1)) k hb1 (by simpa using hr1) (Nat.zero_le _) (by simpa using hl)
  have hput : putL many L k x = if many < L1.length then L1.tail else L1 := by rw [HL1.out]; rfl
  rw [hput]
  have HLast := Lib.hid hlast
  have HH := Lib.hid h
  have HMB := Lib.hid hmb
  have HMR := Lib.hid hmr
  obtain ⟨hp0, hp1⟩ := hL1
  clear hlast h hmb hmr hks hput hfl
  by_cases hlt : many < L1.length
  all_goals
    go_enter Tryz.func290, Tryz.ntmps290
    go_wp2_with (first | (at_mapUpdate; refine wpList_store keyOk_str rfl _ _ _ rfl Tryz.underlying88 Tryz.underlying9 rfl k rfl x rfl HH.out.map ?_; intro w1 hm1 ho1 hs1; have HM1 := Lib.hid hm1; have HO1 := Lib.hid ho1; have HS1 := Lib.hid hs1; have k2 := (ho1.heapOf HH.out.cells HMB.out); have k3 : w1.cell? ⟨b, 2, none⟩ = some (.map (some mb)) := (cell_of_heap k2 2).trans rfl; clear hm1 ho1 hs1 k2) | (go_at_call 318; refine (HLast.out _ HO1.out).mono ?_; rintro e w2 ⟨rfl, sv2, hb2, hr2, ho2, hn2⟩))
    obtain ⟨g, cap, hsv, _, hglt⟩ := hr2.form (by simpa using hp0)
    have q0 : w2.cell? ⟨b, 0, none⟩ = some (I many) := (cell_of_heap hb2 0).trans rfl
    have q1 : w2.cell? ⟨b, 1, none⟩ = some (.slice (some ⟨g, 0, none⟩) L1.length cap) := by rw [cell_of_heap hb2 1, hsv]; simp
    have q2 : w2.cell? ⟨b, 2, none⟩ = some (.map (some mb)) := (cell_of_heap hb2 2).trans rfl
    have HB2 := Lib.hid hb2
    have HR2 := Lib.hid hr2
    have HO2 := Lib.hid ho2
    have HN2 := Lib.hid hn2
    have HSV := Lib.hid hsv
    clear hb2 hr2 ho2 hn2 hsv
  · have hz : (many : Int) < (L1.length : Int) := by omega
    obtain ⟨p0, T, HT⟩ : ∃ p0 T, Hid (L1 = p0 :: T) := by
      obtain ⟨p0, T, h⟩ := List.exists_cons_of_length_pos hp0
      exact ⟨p0, T, Lib.hid h⟩
    have q3 : w2.cell? ⟨g, 0, none⟩ = some (S p0.1) := by
      have hh := HR2.out
      rw [HSV.out, HT.out] at hh
      have := hh.cellAt 0 (by simp)
      simpa using this
    have hm2 : ∀ n, KMap .string S S (w2.drewN n).drew mb L1 := fun n => by
      have hmm : KMap .string S S w1 mb L1 := by rw [HL1.out]; exact HM1.out.perm (List.perm_append_singleton _ _).symm
      exact ((hmm.later HO2.out (by rintro (h | h); exact HMB.out h.symm; exact HMR.out h)).later (Only.drewN (fun _ => False) _ n) (fun h => h)).later (Only.drew (fun _ => False) _) (fun h => h)
    have HM2 := Lib.hid hm2
    have hpos : (0 : Int) < (L1.length : Int) := by omega
    clear hm2
    go_quiet (fail)
    go_wp2
    have hnd := HM1.out.nodup
    have hft : L1.filter (fun p => !(p.1 == p0.1)) = T := by
      have h1 : (L1.map (·.1)).Nodup := (((List.perm_append_singleton _ _).map _).nodup_iff.2 hnd : ((L.filter (fun p => !(p.1 == k)) ++ [(k, x)]).map (·.1)).Nodup) |> fun h => by rw [HL1.out]; exact h
      rw [HT.out] at h1 ⊢
      rw [List.map_cons, List.nodup_cons] at h1
      rw [List.filter_cons_of_neg (by simp)]
      refine List.filter_eq_self.2 fun q hq => ?_
      have : q.1 ≠ p0.1 := fun e => h1.1 (e ▸ List.mem_map.2 ⟨q, hq, rfl⟩)
      simpa using this
    have HF := Lib.hid hft
    clear hft hnd
    go_region_law (refine step_drop keyOk_str rfl (.tmp 28) (.tmp 34) rfl Tryz.underlying88 Tryz.underlying9 rfl p0.1 rfl (HM2.out _) ?_; intro w3 hm3 ho3; have hn3 : ¬ sv2.ownBlock = some mb := (fun e => row_ne_map HR2.out (HM2.out 0) mb e rfl); have hb3 : w3.heap[b]? = some (.cells #[I many, sv2, .map (some mb)] 232 (0, 0)) := ho3.heapOf HB2.out HMB.out; have hr3 : w3.ownsRow 0 9 1 sv2 _ _ := ho3.row HR2.out (fun i e e1 => hn3 (e1 ▸ e)); have q6 : w3.cell? ⟨b, 1, none⟩ = some (.slice (some ⟨g, 0, none⟩) L1.length cap) := (by rw [cell_of_heap hb3 1, HSV.out]; simp); have HB3 := Lib.hid hb3; have HR3 := Lib.hid hr3; have HM3 := Lib.hid hm3; have HO3 := Lib.hid ho3; clear hn3 hb3 hr3 hm3 ho3)
    all_goals
      have hdel := delete_first w3 0 sv2 p0.1 (T.map (·.1)) (by have := HR3.out; rw [HT.out] at this; simpa using this)
      rw [HSV.out] at hdel
      have e1 : (L1.map (·.1)).length = L1.length := by simp
      rw [e1] at hdel
      have HD := Lib.hid hdel
      clear hdel e1
      go_wp2_with (go_at_call 319; refine HD.out.mono ?_; rintro e w4 ⟨v4, rfl, hr4, ho4, hb4⟩; obtain ⟨a4, n4, c4, rfl⟩ := ownBlock_form (show v4.ownBlock = some g from hb4); have hne : ¬ g = b := (fun e => row_ne HR2.out HB2.out (by decide) g (by rw [HSV.out]; rfl) e); have hb4' : w4.heap[b]? = some (.cells #[I many, sv2, .map (some mb)] 232 (0, 0)) := ho4.heapOf HB3.out (fun e => hne (by simpa [Value.ownBlock] using e)); have q7 : w4.cell? ⟨b, 1, none⟩ = some sv2 := (cell_of_heap hb4' 1).trans rfl; have q8 : w4.frozen? ⟨b, 1, none⟩ = false := free_of_heap hb4' 1; have HB4 := Lib.hid hb4'; have HR4 := Lib.hid hr4; have HO4 := Lib.hid ho4; have HV4 := Lib.hid hb4; clear hb4' hr4 ho4 hb4 hne)
      go_end0
      have et : (if many < L1.length then L1.tail else L1) = T := by rw [if_pos hlt, HT.out]; rfl
      first | rw [et] | (have et2 : L1.tail = T := by rw [HT.out]; rfl); rw [et2]
      have hg3 : g ≠ mb := fun e => row_ne_map HR2.out (HM2.out 0) g (by rw [HSV.out]; rfl) e
      have hm3 := HM3.out
      rw [HF.out] at hm3
      have ho4 : Only (fun i => i = g) w3 w4 := HO4.out.mono fun i _ e => by simpa [Value.ownBlock] using e.symm
      have hgo : sv.ownBlock = some g ∨ w.heap.size ≤ g := by have := HN2.out g (by rw [HSV.out]; rfl); rw [HS1.out] at this; exact this
      refine put_end HB4.out HR4.out (hm3.later ho4 hg3.symm) ?_ ?_ HMB.out
      · have h2 := put_only HO1.out HO2.out
        have h3 : Only (InCache b mb sv) w w3 := (((h2.thenDrewN _).thenDrew).trans HO3.out (fun _ _ h => h) (fun i _ e => .inr (.inl e)))
        exact h3.trans ho4 (fun _ _ h => h) (fun i hi e => by subst e; rcases hgo with h | h; exact .inr (.inr h); omega)
      · intro i e
        rw [HV4.out] at e
        have : i = g := by simpa [Value.ownBlock] using e.symm
        rw [this]; exact hgo
  · have hz : ¬ (many : Int) < (L1.length : Int) := by omega
    go_quiet (fail)
    go_wp2
    go_end0
    have et : (if many < L1.length then L1.tail else L1) = L1 := if_neg hlt
    try rw [et]
    have hm2 : KMap .string S S w2 mb L1 := by
      have hmm : KMap .string S S w1 mb L1 := by rw [HL1.out]; exact HM1.out.perm (List.perm_append_singleton _ _).symm
      exact hmm.later HO2.out (by rintro (h | h); exact HMB.out h.symm; exact HMR.out h)
    refine ⟨sv2, rfl, ⟨HB2.out, (Only.drewN (fun _ => False) w2 _).row (by have := HR2.out; simpa using this) (fun _ _ h => h), hm2.later (Only.drewN (fun _ => False) _ _) (fun h => h)⟩, (put_only HO1.out HO2.out).thenDrewN _, own_step ?_⟩
    have := HN2.out
    rw [HS1.out] at this
    exact this
end Go.Proofs.YtnmhaipjfpongaaGreatDoor

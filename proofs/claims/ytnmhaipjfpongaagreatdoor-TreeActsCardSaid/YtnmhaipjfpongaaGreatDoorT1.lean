/- The reference's Cut: a text parted at each slash. No condition but the text's length. -/
import Derived.Test.YtnmhaipjfpongaaGreatDoorQ6
import Derived.Deep.AppendLies
import Derived.Maps.AppendAt
namespace Go.Proofs.YtnmhaipjfpongaaGreatDoor
open Go.ChangeShapes Go.WideShapes Go.ChangeAt Go.RowKit

theorem infoText : (Tryz.prog.info? 9).map (fun i => (i.zero, i.size, i.bytes)) = some (some (.string ⟨#[]⟩), 1, 16) := by kernel_rfl

/-- 'append' of one text to a slice that the call owns. -/
theorem wpList_text {ops : Array Oper} {rest : List Oper} {o : Oper} {a : Act} {Q : Exit → Act → World → Prop} (s x : Operand) (base : Nat) (v : Value) (l : List B) (k : B) (W : World) (hgd : o.guard = none)
    (ho : o.op = .call { callee := .builtin .append, args := #[s, x], argTypes := #[25, 25] }) (hs : a.eval s = v) (hx : a.eval x = .slice (some ⟨W.heap.size, 0, none⟩) 1 1)
    (hrow : W.ownsRow base 9 1 v l.length (l.map S)) (hl : l.length ≤ 1000000) (hbase : base ≤ W.heap.size)
    (hK : ∀ g cap w', w'.ownsRow base 9 1 (.slice (some ⟨g, 0, none⟩) (l.length + 1) cap) (l.length + 1) ((l ++ [k]).map S) → Only (fun i => base ≤ i) W w' →
      wpList Tryz.prog ops Q rest (a.put o.dst (.slice (some ⟨g, 0, none⟩) (l.length + 1) cap)) w') :
    wpList Tryz.prog ops Q (o :: rest) a (W.alloc (.cells #[S k] 9 (0, 0))) := by
  obtain ⟨i0, hi, hz0, hz1, hz2⟩ := info_parts infoText
  refine wpList_append_lies _ hgd s x 25 ho base 9 i0 (.string ⟨#[]⟩) 1 16 Tryz.underlying25 hi hz0 hz1 hz2 rfl (by decide) v l.length (l.map S) hs (hrow.alloc _) ⟨W.heap.size, 0, none⟩ 1 1 [S k] hx rfl
    (cell_one_new _ _ _) ?_ (by decide) ?_ ?_ ?_ (W.heap.size + 1) (by simp) ?_
  · intro u hu; simp at hu; subst hu; rfl
  · unfold maxLen; omega
  · omega
  · simp; omega
  · intro g cap w' hown hg _ _
    refine hK g cap w' (by simpa using hown) ((Only.alloc _ W _).thenGrown hg fun i hi => .inl ?_)
    rcases hrow.2 with ⟨rfl, _⟩ | ⟨g0, cap0, cur, rfl, hg0, _⟩
    · cases hi
    · have e : g0 = i := by simpa [Value.ownBlock] using hi
      omega

theorem ba_mid (l : B) (a b : Nat) : (⟨l.toArray⟩ : ByteArray).extract a b = ⟨((l.take b).drop a).toArray⟩ := by
  apply ByteArray.ext
  apply Array.ext'
  rw [Lib.extract_data]
  show ((l.drop a).take (b - a)) = _
  rw [List.drop_take]

theorem ba_get {l : B} {j : Nat} {c : UInt8} (h : l[j]? = some c) : ∀ hh : j < (⟨l.toArray⟩ : ByteArray).size, (⟨l.toArray⟩ : ByteArray)[j]'hh = c := fun hh => by
  obtain ⟨h1, h2⟩ := List.getElem?_eq_some_iff.1 h
  rw [← h2]; rfl

theorem ba_end (l : B) (k : Nat) : (⟨l.toArray⟩ : ByteArray).extract k l.length = ⟨(l.drop k).toArray⟩ := by
  rw [ba_mid, List.take_length]

/-- What Cut has done: o is cut off, nothing since fr is a slash. -/
structure Cutting (s : B) (o : List B) (fr j : Nat) : Prop where
  le : fr ≤ j
  len : j ≤ s.length
  done : cut s = o ++ cut (s.drop fr)
  none : ∀ t, fr ≤ t → t < j → s[t]? ≠ some 47

theorem Cutting.olen {s : B} {o : List B} {fr j : Nat} (h : Cutting s o fr j) : o.length ≤ s.length := by
  have h1 := congrArg List.length h.done
  have h2 := cut_len_le s
  have h3 := cut_pos (s.drop fr)
  rw [List.length_append] at h1
  omega

theorem Cutting.plain {s : B} {o : List B} {fr j : Nat} (h : Cutting s o fr j) : (47 : UInt8) ∉ (s.take j).drop fr := by
  intro hm
  obtain ⟨i, hi⟩ := List.getElem?_of_mem hm
  rw [List.getElem?_drop, List.getElem?_take] at hi
  split at hi
  · rename_i hlt
    exact h.none (fr + i) (by omega) hlt hi
  · cases hi

theorem Cutting.hit {s : B} {o : List B} {fr j : Nat} (h : Cutting s o fr j) (hj : s[j]? = some 47) : Cutting s (o ++ [(s.take j).drop fr]) (j + 1) (j + 1) := by
  obtain ⟨hlt, he⟩ := List.getElem?_eq_some_iff.1 hj
  refine ⟨Nat.le_refl _, hlt, ?_, fun t h1 h2 => absurd h2 (by omega)⟩
  have hs : s.drop fr = (s.take j).drop fr ++ 47 :: s.drop (j + 1) := by
    have h1 : s = s.take j ++ s.drop j := (List.take_append_drop j s).symm
    rw [List.drop_eq_getElem_cons hlt, he] at h1
    conv => lhs; rw [h1]
    rw [List.drop_append_of_le_length (by rw [List.length_take]; have := h.le; omega)]
  rw [h.done, hs, cut_app _ _ h.plain]
  simp

theorem Cutting.miss {s : B} {o : List B} {fr j : Nat} {c : UInt8} (h : Cutting s o fr j) (hj : s[j]? = some c) (hc : c ≠ 47) : Cutting s o fr (j + 1) := by
  have hlt := (List.getElem?_eq_some_iff.1 hj).1
  refine ⟨by have := h.le; omega, hlt, h.done, fun t h1 h2 => ?_⟩
  rcases Nat.lt_succ_iff_lt_or_eq.1 h2 with h3 | rfl
  · exact h.none t h1 h3
  · rw [hj]; intro e; exact hc (by simpa using e)

theorem Cutting.out {s : B} {o : List B} {fr : Nat} (h : Cutting s o fr s.length) : cut s = o ++ [s.drop fr] := by
  rw [h.done]
  have := h.plain
  rw [List.take_length] at this
  rw [cut_plain _ this]

set_option maxRecDepth 100000 in
set_option maxHeartbeats 1000000 in
theorem refCut_any (w : World) (s : B) (hs : s.length ≤ 999999) :
    Calls Tryz.prog 34 #[S s, .int .u8 47] w fun e w' => ∃ g cap, e = .returned (.slice (some ⟨g, 0, none⟩) (cut s).length cap) ∧ w'.ownsRow w.heap.size 9 1 (.slice (some ⟨g, 0, none⟩) (cut s).length cap) (cut s).length ((cut s).map S) ∧ Ext w w' := by
  go_enter Tryz.func34, Tryz.ntmps34
  go_wp2_with fail
  go_loopw [5, 6, 7] (fun v f i wr => ∃ (o : List B) (fr j : Nat), i = .int .i64 j ∧ f = .int .i64 fr ∧ Hid (Cutting s o fr j) ∧ Hid (Ext w wr) ∧ Hid (wr.ownsRow w.heap.size 9 1 v o.length (o.map S))) (fun _ _ i _ => s.length - (intOf i).toNat)
  case atStart => exact ⟨[], 0, 0, rfl, rfl, Lib.hid ⟨Nat.le_refl _, Nat.zero_le _, rfl, fun t _ h => absurd h (Nat.not_lt_zero _)⟩, Lib.hid (Only.refl _ _), Lib.hid (World.ownsRow_nil _ _ _ _)⟩
  case round =>
    obtain ⟨o, fr, j, rfl, rfl, HC, HX, HR⟩ := hrel
    have hle := HC.out.le
    have hlen := HC.out.len
    by_cases hlt : j < s.length
    · have hltz : (j : Int) < (s.length : Int) := by omega
      obtain ⟨c, hc⟩ : ∃ c, s[j]? = some c := ⟨_, List.getElem?_eq_getElem hlt⟩
      have hg := ba_get hc
      have HCC := Lib.hid hc
      clear hc
      by_cases h47 : c = 47
      · subst h47
        have he := ba_mid s fr j
        obtain ⟨x, hx⟩ : ∃ x, x = (s.take j).drop fr := ⟨_, rfl⟩
        rw [← hx] at he
        have HXX := Lib.hid hx
        have hol := HC.out.olen
        have q1 : (0 : Int) ≤ (fr : Int) := by omega
        have q2 : (fr : Int) ≤ (j : Int) := by omega
        have q3 : (j : Int) ≤ (s.length : Int) := by omega
        clear hx
        go_wp2_with (at_builtin; refine wpList_text (.tmp 19) (.tmp 24) w.heap.size _ o x _ rfl rfl rfl rfl HR.out (by omega) HX.out.size ?_; intro g5 cap5 w5 ho5 hg5; have HX5 : Hid (Ext w w5) := Lib.hid (HX.out.trans hg5 (fun _ _ h => h) (fun k hk hq => absurd hk (by omega))); have HO5 := Lib.hid ho5; clear ho5 hg5)
        go_roundw
        case rel => exact ⟨o ++ [x], j + 1, j + 1, by go_num, by go_num, Lib.hid (by rw [HXX.out]; exact HC.out.hit HCC.out), HX5, Lib.hid (by rw [List.length_append]; exact HO5.out)⟩
        case measure => simp [intOf]; omega
      · have hz : ((c.toNat : Int) == 47) = false := by
          refine beq_eq_false_iff_ne.2 fun e => h47 ?_
          have e2 : c.toNat = (47 : UInt8).toNat := by rw [show (47 : UInt8).toNat = 47 from rfl]; omega
          exact UInt8.toNat_inj.1 e2
        go_wp2_with fail
        go_roundw
        case rel => exact ⟨o, fr, j + 1, by go_num, rfl, Lib.hid (HC.out.miss HCC.out h47), HX, HR⟩
        case measure => simp [intOf]; omega
    · have hltz : ¬ ((j : Int) < (s.length : Int)) := by omega
      have hj : j = s.length := by omega
      subst hj
      have he := ba_end s fr
      obtain ⟨x, hx⟩ : ∃ x, x = s.drop fr := ⟨_, rfl⟩
      rw [← hx] at he
      have hol := HC.out.olen
      have q1 : (0 : Int) ≤ (fr : Int) := by omega
      have q2 : (fr : Int) ≤ (s.length : Int) := by omega
      have hcut := HC.out.out
      rw [← hx] at hcut
      have HCU := Lib.hid hcut
      clear hx hcut
      go_wp2_with (at_builtin; refine wpList_text (.tmp 28) (.tmp 32) w.heap.size _ o x _ rfl rfl rfl rfl HR.out (by omega) HX.out.size ?_; intro g5 cap5 w5 ho5 hg5; have HX5 : Hid (Ext w w5) := Lib.hid (HX.out.trans hg5 (fun _ _ h => h) (fun k hk hq => absurd hk (by omega))); have HO5 := Lib.hid ho5; clear ho5 hg5)
      go_ret
      refine ⟨g5, cap5, ?_, ?_, HX5.out⟩
      · rw [HCU.out, List.length_append]; rfl
      · rw [HCU.out, List.length_append]; exact HO5.out
end Go.Proofs.YtnmhaipjfpongaaGreatDoor

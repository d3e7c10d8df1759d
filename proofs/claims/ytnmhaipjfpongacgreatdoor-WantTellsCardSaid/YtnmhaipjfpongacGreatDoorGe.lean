/- Texts of this seat laid together: T1, T4, T5, U1, B1, D1, Y1. No condition of its own: what each proves stands with its theorems. -/
import Derived.Test.YtnmhaipjfpongacGreatDoorGd
import Derived.Deep.AppendLies
import Derived.Maps.AppendAt
import Derived.Lib.IndexMore
import Derived.Test.YtnmhaipjfpongacGreatDoorGb
import Derived.Test.YtnmhaipjfpongacGreatDoorGc
import Derived.Lib.SmallJoins
import Derived.Lib.AppendIntMem
import Derived.Lib.ItoaLen
import Derived.Laws.IdiomStrings
import Derived.Laws.BytesString
namespace Go.Proofs.YtnmhaipjfpongacGreatDoor
open Go.ChangeShapes Go.WideShapes Go.ChangeAt Go.RowKit

theorem infoText : (Tryz.prog.info? 9).map (fun i => (i.zero, i.size, i.bytes)) = some (some (.string ⟨#[]⟩), 1, 16) := by kernel_rfl

/-- 'append' of one text to a slice that the call owns. -/
theorem wpList_text {ops : Array Oper} {rest : List Oper} {o : Oper} {a : Act} {Q : Exit → Act → World → Prop} (s x : Operand) (base : Nat) (v : Value) (l : List B) (k : B) (W : World) (hgd : o.guard = none)
    (ho : o.op = .call { callee := .builtin .append, args := #[s, x], argTypes := #[53, 53] }) (hs : a.eval s = v) (hx : a.eval x = .slice (some ⟨W.heap.size, 0, none⟩) 1 1)
    (hrow : W.ownsRow base 9 1 v l.length (l.map S)) (hl : l.length ≤ 1000000) (hbase : base ≤ W.heap.size)
    (hK : ∀ g cap w', w'.ownsRow base 9 1 (.slice (some ⟨g, 0, none⟩) (l.length + 1) cap) (l.length + 1) ((l ++ [k]).map S) → Only (fun i => base ≤ i) W w' →
      wpList Tryz.prog ops Q rest (a.put o.dst (.slice (some ⟨g, 0, none⟩) (l.length + 1) cap)) w') :
    wpList Tryz.prog ops Q (o :: rest) a (W.alloc (.cells #[S k] 9 (0, 0))) := by
  obtain ⟨i0, hi, hz0, hz1, hz2⟩ := info_parts infoText
  refine wpList_append_lies _ hgd s x 53 ho base 9 i0 (.string ⟨#[]⟩) 1 16 Tryz.underlying53 hi hz0 hz1 hz2 rfl (by decide) v l.length (l.map S) hs (hrow.alloc _) ⟨W.heap.size, 0, none⟩ 1 1 [S k] hx rfl
    (cell_one_new _ _ _) ?_ (by decide) ?_ ?_ ?_ (W.heap.size + 1) (by simp) ?_
  · intro u hu; simp at hu; subst hu; rfl
  · unfold maxLen; omega
  · omega
  · simp; omega
  · intro g cap w' hown hg _ _
    refine hK g cap w' (by simpa using hown) ((Only.alloc _ W _).thenGrown hg fun i hi => .inl ?_)
    rcases hrow.2 with ⟨rfl, _⟩ | ⟨g0, cap0, cur, rfl, hg0, _⟩
    · cases hi
    · have e : g0 = i := by simpa [Value.ownBlock] using hi
      omega

theorem ba_mid (l : B) (a b : Nat) : (⟨l.toArray⟩ : ByteArray).extract a b = ⟨((l.take b).drop a).toArray⟩ := by
  apply ByteArray.ext
  apply Array.ext'
  rw [Lib.extract_data]
  show ((l.drop a).take (b - a)) = _
  rw [List.drop_take]

theorem ba_get {l : B} {j : Nat} {c : UInt8} (h : l[j]? = some c) : ∀ hh : j < (⟨l.toArray⟩ : ByteArray).size, (⟨l.toArray⟩ : ByteArray)[j]'hh = c := fun hh => by
  obtain ⟨h1, h2⟩ := List.getElem?_eq_some_iff.1 h
  rw [← h2]; rfl

theorem ba_end (l : B) (k : Nat) : (⟨l.toArray⟩ : ByteArray).extract k l.length = ⟨(l.drop k).toArray⟩ := by
  rw [ba_mid, List.take_length]

/-- What Cut has done: o is cut off, nothing since fr is a slash. -/
structure Cutting (s : B) (o : List B) (fr j : Nat) : Prop where
  le : fr ≤ j
  len : j ≤ s.length
  done : cut s = o ++ cut (s.drop fr)
  none : ∀ t, fr ≤ t → t < j → s[t]? ≠ some 47

theorem Cutting.olen {s : B} {o : List B} {fr j : Nat} (h : Cutting s o fr j) : o.length ≤ s.length := by
  have h1 := congrArg List.length h.done
  have h2 := cut_len_le s
  have h3 := cut_pos (s.drop fr)
  rw [List.length_append] at h1
  omega

theorem Cutting.plain {s : B} {o : List B} {fr j : Nat} (h : Cutting s o fr j) : (47 : UInt8) ∉ (s.take j).drop fr := by
  intro hm
  obtain ⟨i, hi⟩ := List.getElem?_of_mem hm
  rw [List.getElem?_drop, List.getElem?_take] at hi
  split at hi
  · rename_i hlt
    exact h.none (fr + i) (by omega) hlt hi
  · cases hi

theorem Cutting.hit {s : B} {o : List B} {fr j : Nat} (h : Cutting s o fr j) (hj : s[j]? = some 47) : Cutting s (o ++ [(s.take j).drop fr]) (j + 1) (j + 1) := by
  obtain ⟨hlt, he⟩ := List.getElem?_eq_some_iff.1 hj
  refine ⟨Nat.le_refl _, hlt, ?_, fun t h1 h2 => absurd h2 (by omega)⟩
  have hs : s.drop fr = (s.take j).drop fr ++ 47 :: s.drop (j + 1) := by
    have h1 : s = s.take j ++ s.drop j := (List.take_append_drop j s).symm
    rw [List.drop_eq_getElem_cons hlt, he] at h1
    conv => lhs; rw [h1]
    rw [List.drop_append_of_le_length (by rw [List.length_take]; have := h.le; omega)]
  rw [h.done, hs, cut_app _ _ h.plain]
  simp

theorem Cutting.miss {s : B} {o : List B} {fr j : Nat} {c : UInt8} (h : Cutting s o fr j) (hj : s[j]? = some c) (hc : c ≠ 47) : Cutting s o fr (j + 1) := by
  have hlt := (List.getElem?_eq_some_iff.1 hj).1
  refine ⟨by have := h.le; omega, hlt, h.done, fun t h1 h2 => ?_⟩
  rcases Nat.lt_succ_iff_lt_or_eq.1 h2 with h3 | rfl
  · exact h.none t h1 h3
  · rw [hj]; intro e; exact hc (by simpa using e)

theorem Cutting.out {s : B} {o : List B} {fr : Nat} (h : Cutting s o fr s.length) : cut s = o ++ [s.drop fr] := by
  rw [h.done]
  have := h.plain
  rw [List.take_length] at this
  rw [cut_plain _ this]

set_option maxRecDepth 100000 in
set_option maxHeartbeats 1000000 in
theorem refCut_any (w : World) (s : B) (hs : s.length ≤ 999999) :
    Calls Tryz.prog 156 #[S s, .int .u8 47] w fun e w' => ∃ g cap, e = .returned (.slice (some ⟨g, 0, none⟩) (cut s).length cap) ∧ w'.ownsRow w.heap.size 9 1 (.slice (some ⟨g, 0, none⟩) (cut s).length cap) (cut s).length ((cut s).map S) ∧ Ext w w' := by
  go_enter Tryz.func156, Tryz.ntmps156
  go_wp2_with fail
  go_loopw [5, 6, 7] (fun v f i wr => ∃ (o : List B) (fr j : Nat), i = .int .i64 j ∧ f = .int .i64 fr ∧ Hid (Cutting s o fr j) ∧ Hid (Ext w wr) ∧ Hid (wr.ownsRow w.heap.size 9 1 v o.length (o.map S))) (fun _ _ i _ => s.length - (intOf i).toNat)
  case atStart => exact ⟨[], 0, 0, rfl, rfl, Lib.hid ⟨Nat.le_refl _, Nat.zero_le _, rfl, fun t _ h => absurd h (Nat.not_lt_zero _)⟩, Lib.hid (Only.refl _ _), Lib.hid (World.ownsRow_nil _ _ _ _)⟩
  case round =>
    obtain ⟨o, fr, j, rfl, rfl, HC, HX, HR⟩ := hrel
    have hle := HC.out.le
    have hlen := HC.out.len
    by_cases hlt : j < s.length
    · have hltz : (j : Int) < (s.length : Int) := by omega
      obtain ⟨c, hc⟩ : ∃ c, s[j]? = some c := ⟨_, List.getElem?_eq_getElem hlt⟩
      have hg := ba_get hc
      have HCC := Lib.hid hc
      clear hc
      by_cases h47 : c = 47
      · subst h47
        have he := ba_mid s fr j
        obtain ⟨x, hx⟩ : ∃ x, x = (s.take j).drop fr := ⟨_, rfl⟩
        rw [← hx] at he
        have HXX := Lib.hid hx
        have hol := HC.out.olen
        have q1 : (0 : Int) ≤ (fr : Int) := by omega
        have q2 : (fr : Int) ≤ (j : Int) := by omega
        have q3 : (j : Int) ≤ (s.length : Int) := by omega
        clear hx
        go_wp2_with (at_builtin; refine wpList_text (.tmp 19) (.tmp 24) w.heap.size _ o x _ rfl rfl rfl rfl HR.out (by omega) HX.out.size ?_; intro g5 cap5 w5 ho5 hg5; have HX5 : Hid (Ext w w5) := Lib.hid (HX.out.trans hg5 (fun _ _ h => h) (fun k hk hq => absurd hk (by omega))); have HO5 := Lib.hid ho5; clear ho5 hg5)
        go_roundw
        case rel => exact ⟨o ++ [x], j + 1, j + 1, by go_num, by go_num, Lib.hid (by rw [HXX.out]; exact HC.out.hit HCC.out), HX5, Lib.hid (by rw [List.length_append]; exact HO5.out)⟩
        case measure => simp [intOf]; omega
      · have hz : ((c.toNat : Int) == 47) = false := by
          refine beq_eq_false_iff_ne.2 fun e => h47 ?_
          have e2 : c.toNat = (47 : UInt8).toNat := by rw [show (47 : UInt8).toNat = 47 from rfl]; omega
          exact UInt8.toNat_inj.1 e2
        go_wp2_with fail
        go_roundw
        case rel => exact ⟨o, fr, j + 1, by go_num, rfl, Lib.hid (HC.out.miss HCC.out h47), HX, HR⟩
        case measure => simp [intOf]; omega
    · have hltz : ¬ ((j : Int) < (s.length : Int)) := by omega
      have hj : j = s.length := by omega
      subst hj
      have he := ba_end s fr
      obtain ⟨x, hx⟩ : ∃ x, x = s.drop fr := ⟨_, rfl⟩
      rw [← hx] at he
      have hol := HC.out.olen
      have q1 : (0 : Int) ≤ (fr : Int) := by omega
      have q2 : (fr : Int) ≤ (s.length : Int) := by omega
      have hcut := HC.out.out
      rw [← hx] at hcut
      have HCU := Lib.hid hcut
      clear hx hcut
      go_wp2_with (at_builtin; refine wpList_text (.tmp 28) (.tmp 32) w.heap.size _ o x _ rfl rfl rfl rfl HR.out (by omega) HX.out.size ?_; intro g5 cap5 w5 ho5 hg5; have HX5 : Hid (Ext w w5) := Lib.hid (HX.out.trans hg5 (fun _ _ h => h) (fun k hk hq => absurd hk (by omega))); have HO5 := Lib.hid ho5; clear ho5 hg5)
      go_ret
      refine ⟨g5, cap5, ?_, ?_, HX5.out⟩
      · rw [HCU.out, List.length_append]; rfl
      · rw [HCU.out, List.length_append]; exact HO5.out
end Go.Proofs.YtnmhaipjfpongacGreatDoor

namespace Go.Proofs.YtnmhaipjfpongacGreatDoor
open Go.ChangeShapes Go.WideShapes Go.ChangeAt Go.RowKit

theorem letter_cases (n : Nat) (z : Int) (hz : z = n) :
  (isLet n = true ∧ decide (97 ≤ z) = true ∧ decide (z ≤ 122) = true) ∨
  (isLet n = false ∧ decide (97 ≤ z) = true ∧ decide (z ≤ 122) = false ∧ decide (48 ≤ z) = true ∧ decide (z ≤ 57) = false ∧ (z == 45) = false ∧ (z == 46) = false ∧ (z == 95) = false) ∨
  (isLet n = true ∧ decide (97 ≤ z) = false ∧ decide (48 ≤ z) = true ∧ decide (z ≤ 57) = true) ∨
  (isLet n = true ∧ decide (97 ≤ z) = false ∧ decide (48 ≤ z) = true ∧ decide (z ≤ 57) = false ∧ (z == 45) = false ∧ (z == 46) = false ∧ (z == 95) = true) ∨
  (isLet n = false ∧ decide (97 ≤ z) = false ∧ decide (48 ≤ z) = true ∧ decide (z ≤ 57) = false ∧ (z == 45) = false ∧ (z == 46) = false ∧ (z == 95) = false) ∨
  (isLet n = true ∧ decide (97 ≤ z) = false ∧ decide (48 ≤ z) = false ∧ (z == 45) = true) ∨
  (isLet n = true ∧ decide (97 ≤ z) = false ∧ decide (48 ≤ z) = false ∧ (z == 45) = false ∧ (z == 46) = true) ∨
  (isLet n = false ∧ decide (97 ≤ z) = false ∧ decide (48 ≤ z) = false ∧ (z == 45) = false ∧ (z == 46) = false ∧ (z == 95) = false) := by
  subst hz
  by_cases h0 : 97 ≤ n ∧ n ≤ 122
  · refine .inl ⟨?_, decide_eq_true (by omega), decide_eq_true (by omega)⟩
    simp [isLet]; omega
  by_cases h1 : 97 ≤ n
  · refine .inr (.inl ⟨?_, decide_eq_true (by omega), decide_eq_false (by omega), decide_eq_true (by omega), decide_eq_false (by omega), beq_eq_false_iff_ne.2 (by omega), beq_eq_false_iff_ne.2 (by omega), beq_eq_false_iff_ne.2 (by omega)⟩)
    simp [isLet]; omega
  by_cases h2 : 48 ≤ n ∧ n ≤ 57
  · refine .inr (.inr (.inl ⟨?_, decide_eq_false (by omega), decide_eq_true (by omega), decide_eq_true (by omega)⟩))
    simp [isLet]; omega
  by_cases h3 : 48 ≤ n ∧ n = 95
  · refine .inr (.inr (.inr (.inl ⟨?_, decide_eq_false (by omega), decide_eq_true (by omega), decide_eq_false (by omega), beq_eq_false_iff_ne.2 (by omega), beq_eq_false_iff_ne.2 (by omega), beq_iff_eq.2 (by omega)⟩)))
    simp [isLet]; omega
  by_cases h4 : 48 ≤ n
  · refine .inr (.inr (.inr (.inr (.inl ⟨?_, decide_eq_false (by omega), decide_eq_true (by omega), decide_eq_false (by omega), beq_eq_false_iff_ne.2 (by omega), beq_eq_false_iff_ne.2 (by omega), beq_eq_false_iff_ne.2 (by omega)⟩))))
    simp [isLet]; omega
  by_cases h5 : n = 45
  · refine .inr (.inr (.inr (.inr (.inr (.inl ⟨?_, decide_eq_false (by omega), decide_eq_false (by omega), beq_iff_eq.2 (by omega)⟩)))))
    simp [isLet]; omega
  by_cases h6 : n = 46
  · refine .inr (.inr (.inr (.inr (.inr (.inr (.inl ⟨?_, decide_eq_false (by omega), decide_eq_false (by omega), beq_eq_false_iff_ne.2 (by omega), beq_iff_eq.2 (by omega)⟩))))))
    simp [isLet]; omega
  refine .inr (.inr (.inr (.inr (.inr (.inr (.inr (⟨?_, decide_eq_false (by omega), decide_eq_false (by omega), beq_eq_false_iff_ne.2 (by omega), beq_eq_false_iff_ne.2 (by omega), beq_eq_false_iff_ne.2 (by omega)⟩)))))))
  simp [isLet]; omega

theorem nameOk_split (st : Bool) (s : B) (h0 : s ≠ []) (h1 : s.length ≤ 12) (h2 : s ≠ [46]) (h3 : s ≠ [46, 46]) : nameOk st s = s.all (byteOk st) := by
  unfold nameOk
  simp [h0, h1, h2, h3]

set_option maxRecDepth 100000 in
set_option maxHeartbeats 2000000 in
theorem isName_a (w : World) (st : Bool) (s : B) (_ : decide ((s.length : Int) < 1) = true) : Calls Tryz.prog 225 #[S s, .bool st] w fun e w' => e = .returned (.bool false) ∧ w = w' := by
  go_enter Tryz.func225, Tryz.ntmps225
  go_wp2_with fail
  go_ret
  exact ⟨rfl, rfl⟩

set_option maxRecDepth 100000 in
set_option maxHeartbeats 2000000 in
theorem isName_b (w : World) (st : Bool) (s : B) (_ : decide ((s.length : Int) < 1) = false) (_ : decide (12 < (s.length : Int)) = true) : Calls Tryz.prog 225 #[S s, .bool st] w fun e w' => e = .returned (.bool false) ∧ w = w' := by
  go_enter Tryz.func225, Tryz.ntmps225
  go_wp2_with fail
  go_ret
  exact ⟨rfl, rfl⟩

set_option maxRecDepth 100000 in
set_option maxHeartbeats 2000000 in
theorem isName_c (w : World) (st : Bool) (s : B) (_ : decide ((s.length : Int) < 1) = false) (_ : decide (12 < (s.length : Int)) = false) (_ : (s == [46]) = true) : Calls Tryz.prog 225 #[S s, .bool st] w fun e w' => e = .returned (.bool false) ∧ w = w' := by
  go_enter Tryz.func225, Tryz.ntmps225
  go_wp2_with fail
  go_ret
  exact ⟨rfl, rfl⟩

set_option maxRecDepth 100000 in
set_option maxHeartbeats 2000000 in
theorem isName_d (w : World) (st : Bool) (s : B) (_ : decide ((s.length : Int) < 1) = false) (_ : decide (12 < (s.length : Int)) = false) (_ : (s == [46]) = false) (_ : (s == [46, 46]) = true) : Calls Tryz.prog 225 #[S s, .bool st] w fun e w' => e = .returned (.bool false) ∧ w = w' := by
  go_enter Tryz.func225, Tryz.ntmps225
  go_wp2_with fail
  go_ret
  exact ⟨rfl, rfl⟩

set_option maxRecDepth 100000 in
set_option maxHeartbeats 2000000 in
theorem isName_e (w : World) (st : Bool) (s : B) (g1 : decide ((s.length : Int) < 1) = false) (g2 : decide (12 < (s.length : Int)) = false) (g3 : (s == [46]) = false) (g4 : (s == [46, 46]) = false) : Calls Tryz.prog 225 #[S s, .bool st] w fun e w' => e = .returned (.bool (s.all (byteOk st))) ∧ w = w' := by
  have hl : s.length ≤ 12 := by have := of_decide_eq_false g2; omega
  obtain ⟨r, hr⟩ : ∃ r, r = s.all (byteOk st) := ⟨_, rfl⟩
  rw [← hr]
  have HR := Lib.hid hr
  clear hr
  go_enter Tryz.func225, Tryz.ntmps225
  go_wp2_with fail
  clear g1 g2 g3 g4
  go_loop [5] (fun i => ∃ j : Nat, j ≤ s.length ∧ i = .int .i64 j ∧ Hid (∀ k x, k < j → s[k]? = some x → byteOk st x = true)) (fun i => s.length - (intOf i).toNat)
  case atStart => exact ⟨0, Nat.zero_le _, rfl, Lib.hid (fun k x h => absurd h (Nat.not_lt_zero _))⟩
  case round =>
    obtain ⟨j, hj, rfl, HB⟩ := hrel
    by_cases hlt : j < s.length
    · have hltz : (j : Int) < (s.length : Int) := by omega
      obtain ⟨c, hc⟩ : ∃ c, s[j]? = some c := ⟨_, List.getElem?_eq_getElem hlt⟩
      have hg := ba_get hc
      have HC := Lib.hid hc
      clear hc
      have good : byteOk st c = true → ∀ k x, k < j + 1 → s[k]? = some x → byteOk st x = true := fun h k x hk hx => by
        rcases Nat.lt_succ_iff_lt_or_eq.1 hk with h' | rfl
        · exact HB.out k x h' hx
        · rw [HC.out] at hx; cases hx; exact h
      have bad : byteOk st c = false → s.all (byteOk st) = false := fun h => by
        rw [Bool.eq_false_iff]
        intro hall
        have := List.all_eq_true.1 hall c (List.mem_of_getElem? HC.out)
        rw [h] at this; cases this
      have HG := Lib.hid good
      have HBD := Lib.hid bad
      clear good bad
      obtain ⟨z, hz⟩ : ∃ z : Int, z = (c.toNat : Int) := ⟨_, rfl⟩
      have hg2 : ∀ hh : j < (⟨s.toArray⟩ : ByteArray).size, (((⟨s.toArray⟩ : ByteArray)[j]'hh).toNat : Int) = z := fun hh => by rw [hg hh, hz]
      have hlc := letter_cases c.toNat z hz
      have HZ := Lib.hid hz
      clear hg hz
      rcases hlc with ⟨hL, k0, k1⟩ | ⟨hL, k0, k1, k2, k3, k4, k5, k6⟩ | ⟨hL, k0, k1, k2⟩ | ⟨hL, k0, k1, k2, k3, k4, k5⟩ | ⟨hL, k0, k1, k2, k3, k4, k5⟩ | ⟨hL, k0, k1, k2⟩ | ⟨hL, k0, k1, k2, k3⟩ | ⟨hL, k0, k1, k2, k3, k4⟩
      · have hb : byteOk st c = true := by unfold byteOk; rw [hL]; rfl
        have HH := Lib.hid (HG.out hb)
        clear hb hL
        go_wp2_with fail
        go_round
        case rel => exact ⟨j + 1, by omega, by go_num, HH⟩
        case measure => simp [intOf]; omega
      · cases st with
        | false =>
          have hb : byteOk false c = false := by unfold byteOk; rw [hL]; rfl
          have HH := Lib.hid (HR.out.trans (HBD.out hb))
          clear hb hL
          go_wp2_with fail
          go_ret
          exact ⟨by rw [HH.out]; rfl, rfl⟩
        | true =>
          by_cases hs : c = 42
          · have hb : byteOk true c = true := by unfold byteOk; rw [hs]; decide
            have HH := Lib.hid (HG.out hb)
            have hz : (z == 42) = true := by rw [HZ.out, hs]; rfl
            clear hb hL hs
            go_wp2_with fail
            go_round
            case rel => exact ⟨j + 1, by omega, by go_num, HH⟩
            case measure => simp [intOf]; omega
          · have hb : byteOk true c = false := by unfold byteOk; rw [hL]; simpa using hs
            have HH := Lib.hid (HR.out.trans (HBD.out hb))
            have hz : (z == 42) = false := by
              rw [HZ.out]
              refine beq_eq_false_iff_ne.2 fun e => hs ?_
              have e2 : c.toNat = (42 : UInt8).toNat := by rw [show (42 : UInt8).toNat = 42 from rfl]; omega
              exact UInt8.toNat_inj.1 e2
            clear hb hL hs
            go_wp2_with fail
            go_ret
            exact ⟨by rw [HH.out]; rfl, rfl⟩
      · have hb : byteOk st c = true := by unfold byteOk; rw [hL]; rfl
        have HH := Lib.hid (HG.out hb)
        clear hb hL
        go_wp2_with fail
        go_round
        case rel => exact ⟨j + 1, by omega, by go_num, HH⟩
        case measure => simp [intOf]; omega
      · have hb : byteOk st c = true := by unfold byteOk; rw [hL]; rfl
        have HH := Lib.hid (HG.out hb)
        clear hb hL
        go_wp2_with fail
        go_round
        case rel => exact ⟨j + 1, by omega, by go_num, HH⟩
        case measure => simp [intOf]; omega
      · cases st with
        | false =>
          have hb : byteOk false c = false := by unfold byteOk; rw [hL]; rfl
          have HH := Lib.hid (HR.out.trans (HBD.out hb))
          clear hb hL
          go_wp2_with fail
          go_ret
          exact ⟨by rw [HH.out]; rfl, rfl⟩
        | true =>
          by_cases hs : c = 42
          · have hb : byteOk true c = true := by unfold byteOk; rw [hs]; decide
            have HH := Lib.hid (HG.out hb)
            have hz : (z == 42) = true := by rw [HZ.out, hs]; rfl
            clear hb hL hs
            go_wp2_with fail
            go_round
            case rel => exact ⟨j + 1, by omega, by go_num, HH⟩
            case measure => simp [intOf]; omega
          · have hb : byteOk true c = false := by unfold byteOk; rw [hL]; simpa using hs
            have HH := Lib.hid (HR.out.trans (HBD.out hb))
            have hz : (z == 42) = false := by
              rw [HZ.out]
              refine beq_eq_false_iff_ne.2 fun e => hs ?_
              have e2 : c.toNat = (42 : UInt8).toNat := by rw [show (42 : UInt8).toNat = 42 from rfl]; omega
              exact UInt8.toNat_inj.1 e2
            clear hb hL hs
            go_wp2_with fail
            go_ret
            exact ⟨by rw [HH.out]; rfl, rfl⟩
      · have hb : byteOk st c = true := by unfold byteOk; rw [hL]; rfl
        have HH := Lib.hid (HG.out hb)
        clear hb hL
        go_wp2_with fail
        go_round
        case rel => exact ⟨j + 1, by omega, by go_num, HH⟩
        case measure => simp [intOf]; omega
      · have hb : byteOk st c = true := by unfold byteOk; rw [hL]; rfl
        have HH := Lib.hid (HG.out hb)
        clear hb hL
        go_wp2_with fail
        go_round
        case rel => exact ⟨j + 1, by omega, by go_num, HH⟩
        case measure => simp [intOf]; omega
      · cases st with
        | false =>
          have hb : byteOk false c = false := by unfold byteOk; rw [hL]; rfl
          have HH := Lib.hid (HR.out.trans (HBD.out hb))
          clear hb hL
          go_wp2_with fail
          go_ret
          exact ⟨by rw [HH.out]; rfl, rfl⟩
        | true =>
          by_cases hs : c = 42
          · have hb : byteOk true c = true := by unfold byteOk; rw [hs]; decide
            have HH := Lib.hid (HG.out hb)
            have hz : (z == 42) = true := by rw [HZ.out, hs]; rfl
            clear hb hL hs
            go_wp2_with fail
            go_round
            case rel => exact ⟨j + 1, by omega, by go_num, HH⟩
            case measure => simp [intOf]; omega
          · have hb : byteOk true c = false := by unfold byteOk; rw [hL]; simpa using hs
            have HH := Lib.hid (HR.out.trans (HBD.out hb))
            have hz : (z == 42) = false := by
              rw [HZ.out]
              refine beq_eq_false_iff_ne.2 fun e => hs ?_
              have e2 : c.toNat = (42 : UInt8).toNat := by rw [show (42 : UInt8).toNat = 42 from rfl]; omega
              exact UInt8.toNat_inj.1 e2
            clear hb hL hs
            go_wp2_with fail
            go_ret
            exact ⟨by rw [HH.out]; rfl, rfl⟩
    · have hltz : ¬ ((j : Int) < (s.length : Int)) := by omega
      have hall : r = true := by
        rw [HR.out]
        refine List.all_eq_true.2 fun x hx => ?_
        obtain ⟨k, hk⟩ := List.getElem?_of_mem hx
        exact HB.out k x (by have := (List.getElem?_eq_some_iff.1 hk).1; omega) hk
      subst hall
      go_wp2_with fail
      go_ret
      exact ⟨rfl, rfl⟩

theorem isName_any (w : World) (st : Bool) (s : B) : Calls Tryz.prog 225 #[S s, .bool st] w fun e w' => e = .returned (.bool (nameOk st s)) ∧ w = w' := by
  by_cases h0 : s = []
  · have : nameOk st s = false := by rw [h0]; rfl
    rw [this]; exact isName_a w st s (by rw [h0]; rfl)
  have hp := List.length_pos_iff.2 h0
  have g1 : decide ((s.length : Int) < 1) = false := decide_eq_false (by omega)
  by_cases h1 : s.length ≤ 12
  · have g2 : decide (12 < (s.length : Int)) = false := decide_eq_false (by omega)
    by_cases h2 : s = [46]
    · have : nameOk st s = false := by rw [h2]; simp [nameOk]
      rw [this]; exact isName_c w st s g1 g2 (beq_iff_eq.2 h2)
    by_cases h3 : s = [46, 46]
    · have : nameOk st s = false := by rw [h3]; simp [nameOk]
      rw [this]; exact isName_d w st s g1 g2 (beq_eq_false_iff_ne.2 h2) (beq_iff_eq.2 h3)
    rw [nameOk_split st s h0 h1 h2 h3]
    exact isName_e w st s g1 g2 (beq_eq_false_iff_ne.2 h2) (beq_eq_false_iff_ne.2 h3)
  · have : nameOk st s = false := by unfold nameOk; simp [h1]
    rw [this]; exact isName_b w st s g1 (decide_eq_true (by omega))
end Go.Proofs.YtnmhaipjfpongacGreatDoor

namespace Go.Proofs.YtnmhaipjfpongacGreatDoor
open Go.ChangeShapes Go.WideShapes Go.ChangeAt Go.RowKit

theorem mem_cut_len (s x : B) (h : x ∈ cut s) : x.length ≤ s.length := by
  have e := congrArg List.length (join_cut s)
  obtain ⟨a, b, hab⟩ := List.append_of_mem h
  rw [← e, hab]
  cases a with
  | nil =>
    cases b with
    | nil => rw [List.nil_append, joinS_one]; exact Nat.le_refl _
    | cons y b => rw [List.nil_append, joinS_cons, List.length_append]; omega
  | cons z a =>
    rw [joinS_app _ _ (by simp) (by simp), List.length_append, List.length_cons]
    cases b with
    | nil => rw [joinS_one]; omega
    | cons y b => rw [joinS_cons, List.length_append]; omega

theorem rowRd {W : World} {base : Nat} {g cap n : Nat} {l : List B} (h : W.ownsRow base 9 1 (.slice (some ⟨g, 0, none⟩) n cap) n (l.map S)) : ∀ i x, l[i]? = some x → W.cell? ⟨g, i, none⟩ = some (S x) := fun i x hx => by
  rcases h.2 with ⟨h2, _⟩ | ⟨g', cap', cur, hv, _, hh, _, _, hs, ht⟩
  · cases h2
  · cases hv
    have hn : l.length = n := by simpa using h.1
    have hi : i < l.length := (List.getElem?_eq_some_iff.1 hx).1
    have hcell : cur[i]? = (cur.toList.take (n * 1))[i]? := by rw [List.getElem?_take_of_lt (by omega)]; simp
    rw [ht, List.getElem?_map, hx] at hcell
    rw [cell_of_heap hh]
    simpa using hcell

def RefPartsIs (w : World) (st : Bool) (s : B) (e : Ending) (w' : World) : Prop :=
  Ext w w' ∧ ((partsOk st (cut s) = true ∧ ∃ g cap, e = .returned (.slice (some ⟨g, 0, none⟩) (cut s).length cap) ∧ ∀ i x, (cut s)[i]? = some x → w'.cell? ⟨g, i, none⟩ = some (S x)) ∨ (partsOk st (cut s) = false ∧ e = .returned (.slice none 0 0)))

set_option maxRecDepth 100000 in
set_option maxHeartbeats 1000000 in
theorem refParts_any (w : World) (st : Bool) (s : B) (hs : s.length ≤ 999999) : Calls Tryz.prog 174 #[S s, .bool st] w (RefPartsIs w st s) := by
  have HC := Lib.hid (refCut_any w s hs)
  have hcl := cut_len_le s
  obtain ⟨l, hl⟩ : ∃ l, l = cut s := ⟨_, rfl⟩
  unfold RefPartsIs
  rw [← hl] at hcl HC ⊢
  have hll : l.length ≤ 1000000 := by omega
  clear hl hs hcl
  by_cases h5 : l.length ≤ 5
  · have h5' : ¬ ((5 : Int) < (l.length : Int)) := by omega
    go_enter Tryz.func174, Tryz.ntmps174
    go_wp2_with fail
    refine HC.out.mono ?_
    rintro e w1 ⟨g, cap, rfl, hrow, ho⟩
    have HO := Lib.hid ho
    have HD := Lib.hid (rowRd hrow)
    clear ho hrow
    go_wp2_with fail
    go_loop [6] (fun i => ∃ j : Nat, j ≤ l.length ∧ i = .int .i64 j ∧ Hid (∀ k x, k < j → l[k]? = some x → nameOk st x = true)) (fun i => l.length - (intOf i).toNat)
    case atStart => exact ⟨0, Nat.zero_le _, rfl, Lib.hid (fun k x h => absurd h (Nat.not_lt_zero _))⟩
    case round =>
      obtain ⟨j, hj, rfl, HB⟩ := hrel
      by_cases hlt : j < l.length
      · have hltz : (j : Int) < (l.length : Int) := by omega
        obtain ⟨x, hx⟩ : ∃ x, l[j]? = some x := ⟨_, List.getElem?_eq_getElem hlt⟩
        have c1 := HD.out j x hx
        have HXX := Lib.hid hx
        have hn := isName_any w1 st x
        clear hx
        cases hq : nameOk st x with
        | true =>
          rw [hq] at hn
          have HN := Lib.hid hn
          have HQ := Lib.hid hq
          clear hn hq
          go_wp2_with fail
          refine HN.out.mono ?_
          rintro e w' ⟨rfl, rfl⟩
          go_wp2_with fail
          go_round
          case rel => exact ⟨j + 1, by omega, by go_num, Lib.hid (fun k y hk hy => by
            rcases Nat.lt_succ_iff_lt_or_eq.1 hk with h' | rfl
            · exact HB.out k y h' hy
            · rw [HXX.out] at hy; cases hy; exact HQ.out)⟩
          case measure => simp [intOf]; omega
        | false =>
          rw [hq] at hn
          have HN := Lib.hid hn
          have hbad : partsOk st l = false := by
            rw [Bool.eq_false_iff]
            intro h
            have := partsOk_all h x (List.mem_of_getElem? HXX.out)
            rw [hq] at this; cases this
          have HBD := Lib.hid hbad
          clear hn hq hbad
          go_wp2_with fail
          refine HN.out.mono ?_
          rintro e w' ⟨rfl, rfl⟩
          go_wp2_with fail
          go_ret
          exact ⟨HO.out, .inr ⟨HBD.out, rfl⟩⟩
      · have hltz : ¬ ((j : Int) < (l.length : Int)) := by omega
        have hok : partsOk st l = true := partsOk_mk h5 fun x hx => by
          obtain ⟨k, hk⟩ := List.getElem?_of_mem hx
          exact HB.out k x (by have := (List.getElem?_eq_some_iff.1 hk).1; omega) hk
        have HOK := Lib.hid hok
        clear hok
        go_wp2_with fail
        go_ret
        exact ⟨HO.out, .inl ⟨HOK.out, g, ⟨cap, rfl⟩, HD.out⟩⟩
  · have h5' : (5 : Int) < (l.length : Int) := by omega
    have hbad : partsOk st l = false := by
      rw [Bool.eq_false_iff]
      intro h
      exact h5 (partsOk_len h)
    have HBD := Lib.hid hbad
    clear hbad h5
    go_enter Tryz.func174, Tryz.ntmps174
    go_wp2_with fail
    refine HC.out.mono ?_
    rintro e w1 ⟨g, cap, rfl, hrow, ho⟩
    have HO := Lib.hid ho
    clear ho hrow
    go_wp2_with fail
    go_ret
    exact ⟨HO.out, .inr ⟨HBD.out, rfl⟩⟩

set_option maxRecDepth 100000 in
theorem isPath_any (w : World) (s : B) (hs : s.length ≤ 999999) : Calls Tryz.prog 104 #[S s] w fun e w' => e = .returned (.bool (pathOk s)) ∧ Ext w w' := by
  have HP := Lib.hid (refParts_any w false s hs)
  obtain ⟨r, hr⟩ : ∃ r, r = pathOk s := ⟨_, rfl⟩
  rw [← hr]
  have HR := Lib.hid hr
  obtain ⟨m, hm⟩ : ∃ m, (cut s).length = m + 1 := ⟨(cut s).length - 1, by have := cut_pos s; omega⟩
  have HM := Lib.hid hm
  have h0 : (0 : Int) < (m : Int) + 1 := by omega
  clear hr hm
  go_enter Tryz.func104, Tryz.ntmps104
  go_wp2_with fail
  refine HP.out.mono ?_
  rintro e w' ⟨ho, ⟨hok, g, cap, rfl, _⟩ | ⟨hok, rfl⟩⟩
  · have HO := Lib.hid ho
    have hr : r = true := HR.out.trans hok
    subst hr
    rw [HM.out]
    clear ho hok
    go_wp2_with fail
    go_ret
    exact ⟨rfl, HO.out⟩
  · have HO := Lib.hid ho
    have hr : r = false := HR.out.trans hok
    subst hr
    clear ho hok
    go_wp2_with fail
    go_ret
    exact ⟨rfl, HO.out⟩

end Go.Proofs.YtnmhaipjfpongacGreatDoor

namespace Go.Proofs.YtnmhaipjfpongacGreatDoor
open Go.ChangeShapes Go.WideShapes Go.ChangeAt Go.RowKit

def cutc (d : UInt8) : B → List B
  | [] => [[]]
  | c :: r => if c = d then [] :: cutc d r else headOn c (cutc d r)

theorem cut_eq : ∀ s, cut s = cutc 47 s
  | [] => rfl
  | c :: r => by rw [cut, cutc, cut_eq r]

theorem cutc_ne (d : UInt8) (s : B) : cutc d s ≠ [] := by
  cases s with
  | nil => simp [cutc]
  | cons c r => unfold cutc; split; simp; cases cutc d r <;> simp [headOn]

theorem cutc_pos (d : UInt8) (s : B) : 0 < (cutc d s).length := List.length_pos_iff.2 (cutc_ne d s)

theorem cutc_plain (d : UInt8) : ∀ (a : B), (d : UInt8) ∉ a → cutc d a = [a]
  | [], _ => rfl
  | c :: r, h => by
    have hc : c ≠ d := fun e => h (by simp [e])
    rw [cutc, if_neg hc, cutc_plain d r (fun e => h (List.mem_cons_of_mem _ e))]
    rfl

theorem cutc_app (d : UInt8) : ∀ (a b : B), (d : UInt8) ∉ a → cutc d (a ++ d :: b) = a :: cutc d b
  | [], b, _ => by simp [cutc]
  | c :: r, b, h => by
    have hc : c ≠ d := fun e => h (by simp [e])
    rw [List.cons_append, cutc, if_neg hc, cutc_app d r b (fun e => h (List.mem_cons_of_mem _ e))]
    rfl

theorem cutc_app_any (d : UInt8) : ∀ (a b : B), cutc d (a ++ d :: b) = cutc d a ++ cutc d b
  | [], b => by simp [cutc]
  | c :: r, b => by
    rw [List.cons_append, cutc, cutc, cutc_app_any d r b]
    split
    · rfl
    · cases h : cutc d r with
      | nil => exact absurd h (cutc_ne d r)
      | cons x xs => rfl

theorem mem_cut_c (d : UInt8) : ∀ (s : B) (x : B), x ∈ cutc d s → (d : UInt8) ∉ x
  | [], x, h => by simp [cutc] at h; simp [h]
  | c :: r, x, h => by
    rw [cutc] at h
    split at h
    · rcases List.mem_cons.1 h with h | h
      · simp [h]
      · exact mem_cut_c d r x h
    · rename_i hc
      cases hr : cutc d r with
      | nil => exact absurd hr (cutc_ne d r)
      | cons y ys =>
        rw [hr] at h
        rcases List.mem_cons.1 h with h | h
        · have := mem_cut_c d r y (by rw [hr]; exact .head _)
          rw [h]
          intro hm
          rcases List.mem_cons.1 hm with e | e
          · exact hc e.symm
          · exact this e
        · exact mem_cut_c d r x (by rw [hr]; exact .tail _ h)

def joinc (d : UInt8) (l : List B) : B := List.intercalate [d] l

theorem joinc_nil (d : UInt8) : joinc d [] = [] := rfl
theorem joinc_one (d : UInt8) (x : B) : joinc d [x] = x := by simp [joinc, List.intercalate]
theorem joinc_cons (d : UInt8) (x y : B) (l : List B) : joinc d (x :: y :: l) = x ++ d :: joinc d (y :: l) := by
  simp [joinc, List.intercalate, List.intersperse]
theorem joinc_cons_ne (d : UInt8) (x : B) {l : List B} (h : l ≠ []) : joinc d (x :: l) = x ++ d :: joinc d l := by
  cases l with
  | nil => exact absurd rfl h
  | cons y l => exact joinc_cons d x y l

theorem joinc_app (d : UInt8) : ∀ (a b : List B), a ≠ [] → b ≠ [] → joinc d (a ++ b) = joinc d a ++ d :: joinc d b
  | [], _, h, _ => absurd rfl h
  | [x], b, _, hb => by rw [List.singleton_append, joinc_cons_ne d x hb, joinc_one d]
  | x :: y :: a, b, _, hb => by
    have := joinc_app d (y :: a) b (by simp) hb
    rw [List.cons_append, joinc_cons_ne d x (by simp), this, joinc_cons d]
    simp

theorem join_cut_c (d : UInt8) : ∀ (s : B), joinc d (cutc d s) = s
  | [] => by simp [cutc, joinc_one d]
  | c :: r => by
    have ih := join_cut_c d r
    rw [cutc]
    split
    · rename_i hc
      rw [joinc_cons_ne d [] (cutc_ne d r), ih, hc]; rfl
    · cases hr : cutc d r with
      | nil => exact absurd hr (cutc_ne d r)
      | cons y ys =>
        rw [hr] at ih
        cases ys with
        | nil => rw [joinc_one d] at ih; rw [headOn, joinc_one d, ih]
        | cons z zs => rw [joinc_cons d] at ih; rw [headOn, joinc_cons d, List.cons_append, ih]

theorem cutc_join (d : UInt8) : ∀ (l : List B), l ≠ [] → (∀ x ∈ l, (d : UInt8) ∉ x) → cutc d (joinc d l) = l
  | [], h, _ => absurd rfl h
  | [x], _, h => by rw [joinc_one d]; exact cutc_plain d x (h x (.head _))
  | x :: y :: l, _, h => by
    rw [joinc_cons d, cutc_app d x _ (h x (.head _)), cutc_join d (y :: l) (by simp) (fun z hz => h z (.tail _ hz))]

theorem joinc_eq_nil (d : UInt8) {l : List B} (h : ∀ x ∈ l, x ≠ []) : joinc d l = [] ↔ l = [] := by
  constructor
  · intro e
    cases l with
    | nil => rfl
    | cons x l =>
      exfalso
      have hx := h x (.head _)
      cases l with
      | nil => rw [joinc_one d] at e; exact hx e
      | cons y l => rw [joinc_cons d] at e; exact absurd e (by simp)
  · intro e; subst e; rfl

theorem joinc_len (d : UInt8) : ∀ (l : List B) (m : Nat), (∀ x ∈ l, x.length ≤ m) → (joinc d l).length ≤ l.length * (m + 1)
  | [], _, _ => by simp [joinc_nil d]
  | [x], m, h => by have := h x (.head _); rw [joinc_one d]; simp; omega
  | x :: y :: l, m, h => by
    have h1 := h x (.head _)
    have h2 := joinc_len d (y :: l) m (fun z hz => h z (.tail _ hz))
    rw [joinc_cons d, List.length_append, List.length_cons]
    have : (x :: y :: l).length = (y :: l).length + 1 := rfl
    rw [this, Nat.add_mul]
    omega

/-- strings.Split's own word, at one byte. -/
theorem index_slash_c (d : UInt8) (s : B) : Lib.index s [d] = Lib.indexByte s d := Lib.index_one s d

theorem splitK_cut_c (d : UInt8) : ∀ (k : Nat) (s : B), s.count d ≤ k → Lib.splitK [d] 0 k s = cutc d s
  | 0, s, h => by
    have : (d : UInt8) ∉ s := by
      intro hm
      have := List.count_pos_iff.2 hm
      omega
    rw [cutc_plain d s this]; rfl
  | k + 1, s, h => by
    unfold Lib.splitK
    rw [index_slash_c d]
    have hge := Lib.indexByte_ge s d
    by_cases hm : Lib.indexByte s d = -1
    · rw [if_pos (by rw [hm]; rfl)]
      have : (d : UInt8) ∉ s := by
        intro hx
        obtain ⟨i, hi⟩ := List.getElem?_of_mem hx
        exact Lib.indexByte_none hm i hi
      rw [cutc_plain d s this]
    · obtain ⟨o, ho⟩ := Int.eq_ofNat_of_zero_le (show 0 ≤ Lib.indexByte s d by omega)
      have ⟨h1, h2⟩ := Lib.indexByte_some ho
      rw [if_neg (by rw [ho]; simp), ho]
      have hlt : o < s.length := (List.getElem?_eq_some_iff.1 h1).1
      have hs : s = s.take o ++ d :: s.drop (o + 1) := by
        have := (List.take_append_drop o s).symm
        rw [List.drop_eq_getElem_cons hlt] at this
        have e : s[o] = d := by rw [List.getElem?_eq_getElem hlt] at h1; simpa using h1
        rw [e] at this
        exact this
      have hn : (d : UInt8) ∉ s.take o := by
        intro hx
        obtain ⟨i, hi⟩ := List.getElem?_of_mem hx
        rw [List.getElem?_take] at hi
        split at hi
        · rename_i hi2; exact h2 i hi2 hi
        · cases hi
      have hc : (s.drop (o + 1)).count d ≤ k := by
        have e2 : s.count d = (s.take o ++ d :: s.drop (o + 1)).count d := by rw [← hs]
        rw [List.count_append, List.count_cons_self] at e2
        omega
      rw [show ((o : Int)).toNat = o from rfl]
      rw [Nat.add_zero, show ([d] : B).length = 1 from rfl, splitK_cut_c d k _ hc]
      conv => rhs; rw [hs]
      rw [cutc_app d _ _ hn]


theorem first_slash_c (d : UInt8) (s : B) : (Lib.index s [d] = -1 ∧ (d : UInt8) ∉ s) ∨ ∃ o : Nat, Lib.index s [d] = o ∧ o < s.length ∧ s = s.take o ++ d :: s.drop (o + 1) ∧ (d : UInt8) ∉ s.take o := by
  rw [index_slash_c d]
  have hge := Lib.indexByte_ge s d
  by_cases hm : Lib.indexByte s d = -1
  · left
    refine ⟨hm, fun hx => ?_⟩
    obtain ⟨i, hi⟩ := List.getElem?_of_mem hx
    exact Lib.indexByte_none hm i hi
  · right
    obtain ⟨o, ho⟩ := Int.eq_ofNat_of_zero_le (show 0 ≤ Lib.indexByte s d by omega)
    have ⟨h1, h2⟩ := Lib.indexByte_some ho
    have hlt : o < s.length := (List.getElem?_eq_some_iff.1 h1).1
    refine ⟨o, ho, hlt, ?_, ?_⟩
    · have := (List.take_append_drop o s).symm
      rw [List.drop_eq_getElem_cons hlt] at this
      have e : s[o] = d := by rw [List.getElem?_eq_getElem hlt] at h1; simpa using h1
      rw [e] at this
      exact this
    · intro hx
      obtain ⟨i, hi⟩ := List.getElem?_of_mem hx
      rw [List.getElem?_take] at hi
      split at hi
      · rename_i hi2; exact h2 i hi2 hi
      · cases hi

theorem count_slash_c (d : UInt8) : ∀ (n : Nat) (s : B), s.length ≤ n → Lib.count s [d] = s.count d
  | n, s, hn => by
    rcases first_slash_c d s with ⟨h, hm⟩ | ⟨o, ho, hlt, hs, hm⟩
    · rw [Lib.count_miss h, List.count_eq_zero.2 hm]
    · rw [Lib.count_hit (by simp) ho]
      cases n with
      | zero => omega
      | succ n =>
        have ih := count_slash_c d n (s.drop (o + 1)) (by simp; omega)
        rw [show o + ([d] : B).length = o + 1 from rfl, ih]
        conv => rhs; rw [hs]
        rw [List.count_append, List.count_cons_self, List.count_eq_zero.2 hm]
        omega

theorem cutc_length (d : UInt8) : ∀ (s : B), (cutc d s).length = s.count d + 1
  | [] => rfl
  | c :: r => by
    have ih := cutc_length d r
    rw [cutc]
    split
    · rename_i hc; subst hc; simp [ih]
    · rename_i hc
      cases hr : cutc d r with
      | nil => exact absurd hr (cutc_ne d r)
      | cons x xs =>
        rw [hr] at ih
        have hc2 : (c == d) = false := beq_eq_false_iff_ne.2 hc
        simp only [headOn, List.length_cons, List.count_cons, hc2] at ih ⊢
        simpa using ih

theorem splitB_cut_c (d : UInt8) (s : B) : (Lib.splitB ⟨#[d]⟩ 0 (Lib.countB ⟨s.toArray⟩ ⟨#[d]⟩) ⟨s.toArray⟩).map Value.string = (cutc d s).map S := by
  have h1 := Lib.splitB_data ⟨#[d]⟩ 0 (Lib.countB ⟨s.toArray⟩ ⟨#[d]⟩) ⟨s.toArray⟩
  have hc : Lib.countB ⟨s.toArray⟩ ⟨#[d]⟩ = s.count d := count_slash_c d s.length s (Nat.le_refl _)
  rw [hc] at h1 ⊢
  have h2 : (Lib.splitB ⟨#[d]⟩ 0 (s.count d) ⟨s.toArray⟩).map (·.data.toList) = cutc d s := by
    rw [h1]; exact splitK_cut_c d _ s (Nat.le_refl _)
  rw [← h2, List.map_map]
  rfl

theorem cutc_len_le (d : UInt8) (s : B) : (cutc d s).length ≤ s.length + 1 := by rw [cutc_length d]; have := List.count_le_length (a := (d : UInt8)) (l := s); omega

/-- What Cut has done: o is cutc d off, nothing since fr is a slash. -/
structure CuttingC (d : UInt8) (s : B) (o : List B) (fr j : Nat) : Prop where
  le : fr ≤ j
  len : j ≤ s.length
  done : cutc d s = o ++ cutc d (s.drop fr)
  none : ∀ t, fr ≤ t → t < j → s[t]? ≠ some d

theorem CuttingC.olen {d : UInt8} {s : B} {o : List B} {fr j : Nat} (h : CuttingC d s o fr j) : o.length ≤ s.length := by
  have h1 := congrArg List.length h.done
  have h2 := cutc_len_le d s
  have h3 := cutc_pos d (s.drop fr)
  rw [List.length_append] at h1
  omega

theorem CuttingC.plain {d : UInt8} {s : B} {o : List B} {fr j : Nat} (h : CuttingC d s o fr j) : (d : UInt8) ∉ (s.take j).drop fr := by
  intro hm
  obtain ⟨i, hi⟩ := List.getElem?_of_mem hm
  rw [List.getElem?_drop, List.getElem?_take] at hi
  split at hi
  · rename_i hlt
    exact h.none (fr + i) (by omega) hlt hi
  · cases hi

theorem CuttingC.hit {d : UInt8} {s : B} {o : List B} {fr j : Nat} (h : CuttingC d s o fr j) (hj : s[j]? = some d) : CuttingC d s (o ++ [(s.take j).drop fr]) (j + 1) (j + 1) := by
  obtain ⟨hlt, he⟩ := List.getElem?_eq_some_iff.1 hj
  refine ⟨Nat.le_refl _, hlt, ?_, fun t h1 h2 => absurd h2 (by omega)⟩
  have hs : s.drop fr = (s.take j).drop fr ++ d :: s.drop (j + 1) := by
    have h1 : s = s.take j ++ s.drop j := (List.take_append_drop j s).symm
    rw [List.drop_eq_getElem_cons hlt, he] at h1
    conv => lhs; rw [h1]
    rw [List.drop_append_of_le_length (by rw [List.length_take]; have := h.le; omega)]
  rw [h.done, hs, cutc_app d _ _ h.plain]
  simp

theorem CuttingC.miss {d : UInt8} {s : B} {o : List B} {fr j : Nat} {c : UInt8} (h : CuttingC d s o fr j) (hj : s[j]? = some c) (hc : c ≠ d) : CuttingC d s o fr (j + 1) := by
  have hlt := (List.getElem?_eq_some_iff.1 hj).1
  refine ⟨by have := h.le; omega, hlt, h.done, fun t h1 h2 => ?_⟩
  rcases Nat.lt_succ_iff_lt_or_eq.1 h2 with h3 | rfl
  · exact h.none t h1 h3
  · rw [hj]; intro e; exact hc (by simpa using e)

theorem CuttingC.out {d : UInt8} {s : B} {o : List B} {fr : Nat} (h : CuttingC d s o fr s.length) : cutc d s = o ++ [s.drop fr] := by
  rw [h.done]
  have := h.plain
  rw [List.take_length] at this
  rw [cutc_plain d _ this]

set_option maxRecDepth 100000 in
set_option maxHeartbeats 1000000 in
theorem refCutC_any (w : World) (d : UInt8) (dz : Int) (hdz : dz = d.toNat) (s : B) (hs : s.length ≤ 999999) :
    Calls Tryz.prog 156 #[S s, .int .u8 dz] w fun e w' => ∃ g cap, e = .returned (.slice (some ⟨g, 0, none⟩) (cutc d s).length cap) ∧ w'.ownsRow w.heap.size 9 1 (.slice (some ⟨g, 0, none⟩) (cutc d s).length cap) (cutc d s).length ((cutc d s).map S) ∧ Ext w w' := by
  have HDZ := Lib.hid hdz
  clear hdz
  go_enter Tryz.func156, Tryz.ntmps156
  go_wp2_with fail
  go_loopw [5, 6, 7] (fun v f i wr => ∃ (o : List B) (fr j : Nat), i = .int .i64 j ∧ f = .int .i64 fr ∧ Hid (CuttingC d s o fr j) ∧ Hid (Ext w wr) ∧ Hid (wr.ownsRow w.heap.size 9 1 v o.length (o.map S))) (fun _ _ i _ => s.length - (intOf i).toNat)
  case atStart => exact ⟨[], 0, 0, rfl, rfl, Lib.hid ⟨Nat.le_refl _, Nat.zero_le _, rfl, fun t _ h => absurd h (Nat.not_lt_zero _)⟩, Lib.hid (Only.refl _ _), Lib.hid (World.ownsRow_nil _ _ _ _)⟩
  case round =>
    obtain ⟨o, fr, j, rfl, rfl, HC, HX, HR⟩ := hrel
    have hle := HC.out.le
    have hlen := HC.out.len
    by_cases hlt : j < s.length
    · have hltz : (j : Int) < (s.length : Int) := by omega
      obtain ⟨c, hc⟩ : ∃ c, s[j]? = some c := ⟨_, List.getElem?_eq_getElem hlt⟩
      have hg := ba_get hc
      have HCC := Lib.hid hc
      clear hc
      by_cases h47 : c = d
      · subst h47
        have hz : ((c.toNat : Int) == dz) = true := by rw [HDZ.out]; simp
        have he := ba_mid s fr j
        obtain ⟨x, hx⟩ : ∃ x, x = (s.take j).drop fr := ⟨_, rfl⟩
        rw [← hx] at he
        have HXX := Lib.hid hx
        have hol := HC.out.olen
        have q1 : (0 : Int) ≤ (fr : Int) := by omega
        have q2 : (fr : Int) ≤ (j : Int) := by omega
        have q3 : (j : Int) ≤ (s.length : Int) := by omega
        clear hx
        go_wp2_with (at_builtin; refine wpList_text (.tmp 19) (.tmp 24) w.heap.size _ o x _ rfl rfl rfl rfl HR.out (by omega) HX.out.size ?_; intro g5 cap5 w5 ho5 hg5; have HX5 : Hid (Ext w w5) := Lib.hid (HX.out.trans hg5 (fun _ _ h => h) (fun k hk hq => absurd hk (by omega))); have HO5 := Lib.hid ho5; clear ho5 hg5)
        go_roundw
        case rel => exact ⟨o ++ [x], j + 1, j + 1, by go_num, by go_num, Lib.hid (by rw [HXX.out]; exact HC.out.hit HCC.out), HX5, Lib.hid (by rw [List.length_append]; exact HO5.out)⟩
        case measure => simp [intOf]; omega
      · have hz : ((c.toNat : Int) == dz) = false := by
          refine beq_eq_false_iff_ne.2 fun e => h47 ?_
          rw [HDZ.out] at e
          exact UInt8.toNat_inj.1 (by omega)
        go_wp2_with fail
        go_roundw
        case rel => exact ⟨o, fr, j + 1, by go_num, rfl, Lib.hid (HC.out.miss HCC.out h47), HX, HR⟩
        case measure => simp [intOf]; omega
    · have hltz : ¬ ((j : Int) < (s.length : Int)) := by omega
      have hj : j = s.length := by omega
      subst hj
      have he := ba_end s fr
      obtain ⟨x, hx⟩ : ∃ x, x = s.drop fr := ⟨_, rfl⟩
      rw [← hx] at he
      have hol := HC.out.olen
      have q1 : (0 : Int) ≤ (fr : Int) := by omega
      have q2 : (fr : Int) ≤ (s.length : Int) := by omega
      have hcut := HC.out.out
      rw [← hx] at hcut
      have HCU := Lib.hid hcut
      clear hx hcut
      go_wp2_with (at_builtin; refine wpList_text (.tmp 28) (.tmp 32) w.heap.size _ o x _ rfl rfl rfl rfl HR.out (by omega) HX.out.size ?_; intro g5 cap5 w5 ho5 hg5; have HX5 : Hid (Ext w w5) := Lib.hid (HX.out.trans hg5 (fun _ _ h => h) (fun k hk hq => absurd hk (by omega))); have HO5 := Lib.hid ho5; clear ho5 hg5)
      go_ret
      refine ⟨g5, cap5, ?_, ?_, HX5.out⟩
      · rw [HCU.out, List.length_append]; rfl
      · rw [HCU.out, List.length_append]; exact HO5.out


theorem splitC_any (w : World) (d : UInt8) (s : B) (hs : s.length ≤ 1000000) (hm : HasMax w) :
    Calls Tryz.prog 207 #[S s, .string ⟨#[d]⟩] w fun e w' => e = .returned (.slice (some ⟨w.heap.size, 0, none⟩) (cutc d s).length (cutc d s).length) ∧ w' = w.alloc (.cells ((cutc d s).map S).toArray 9) := by
  obtain ⟨m, hm⟩ := hm
  refine (Tryz.strings_Split ⟨s.toArray⟩ ⟨#[d]⟩ m w (by simp [ByteArray.size]; omega) hm (by simp [ByteArray.size])).mono ?_
  rintro e w' ⟨rfl, rfl⟩
  rw [splitB_cut_c, show Lib.countB ⟨s.toArray⟩ ⟨#[d]⟩ = s.count d from count_slash_c d s.length s (Nat.le_refl _), cutc_length]
  exact ⟨rfl, rfl⟩

/-- A text parted at its first such byte: what is ahead, what is behind, is there one. -/
def cut1 (d : UInt8) : B → B × B × Bool
  | [] => ([], [], false)
  | c :: r => if c = d then ([], r, true) else (c :: (cut1 d r).1, (cut1 d r).2.1, (cut1 d r).2.2)

theorem cut1_hit (d : UInt8) : ∀ (a b : B), d ∉ a → cut1 d (a ++ d :: b) = (a, b, true)
  | [], b, _ => by simp [cut1]
  | c :: r, b, h => by
    have hc : c ≠ d := fun e => h (by simp [e])
    rw [List.cons_append, cut1, if_neg hc, cut1_hit d r b (fun e => h (List.mem_cons_of_mem _ e))]

theorem cut1_miss (d : UInt8) : ∀ (a : B), d ∉ a → cut1 d a = (a, [], false)
  | [], _ => by simp [cut1]
  | c :: r, h => by
    have hc : c ≠ d := fun e => h (by simp [e])
    rw [cut1, if_neg hc, cut1_miss d r (fun e => h (List.mem_cons_of_mem _ e))]

theorem cut1_lib (d : UInt8) (s : B) : Lib.cut s [d] = cut1 d s := by
  unfold Lib.cut
  rcases first_slash_c d s with ⟨h, hm⟩ | ⟨o, ho, hlt, hs, hm⟩
  · rw [h, if_neg (by decide), cut1_miss d s hm]
  · rw [ho, if_pos (by omega)]
    have h1 := cut1_hit d (s.take o) (s.drop (o + 1)) hm
    rw [← hs] at h1
    rw [h1]
    rfl

/-- A text is what its parting says. -/
theorem cut1_spec (d : UInt8) : ∀ s : B, d ∉ (cut1 d s).1 ∧ ((cut1 d s).2.2 = true → s = (cut1 d s).1 ++ d :: (cut1 d s).2.1) ∧ ((cut1 d s).2.2 = false → cut1 d s = (s, [], false) ∧ d ∉ s)
  | [] => by simp [cut1]
  | c :: r => by
    obtain ⟨h1, h2, h3⟩ := cut1_spec d r
    by_cases hc : c = d
    · subst hc; simp [cut1]
    · rw [cut1, if_neg hc]
      refine ⟨fun h => ?_, fun h => ?_, fun h => ?_⟩
      · rcases List.mem_cons.1 h with e | e
        · exact hc e.symm
        · exact h1 e
      · have := h2 h
        show c :: r = c :: ((cut1 d r).1 ++ d :: (cut1 d r).2.1)
        rw [← this]
      · obtain ⟨e1, e2⟩ := h3 h
        refine ⟨by rw [e1], fun hm => ?_⟩
        rcases List.mem_cons.1 hm with e | e
        · exact hc e.symm
        · exact e2 e

theorem cut1_len (d : UInt8) : ∀ s : B, (cut1 d s).1.length ≤ s.length ∧ (cut1 d s).2.1.length ≤ s.length
  | [] => by simp [cut1]
  | c :: r => by
    have := cut1_len d r
    rw [cut1]
    split <;> simp <;> omega

theorem cutD_any (w : World) (d : UInt8) (s : B) (hs : s.length ≤ 1000000) (hm : HasMax w) :
    Calls Tryz.prog 203 #[S s, .string ⟨#[d]⟩] w fun e w' => e = .returned (.tuple #[S (cut1 d s).1, S (cut1 d s).2.1, .bool (cut1 d s).2.2]) ∧ Ext w w' := by
  obtain ⟨m, hm⟩ := hm
  refine (Tryz.strings_Cut ⟨s.toArray⟩ ⟨#[d]⟩ m w (by simp [ByteArray.size]; omega) hm).mono ?_
  rintro e w' ⟨rfl, n, rfl⟩
  have := cut1_lib d s
  refine ⟨?_, Only.drewN _ _ _⟩
  simp only [this]
end Go.Proofs.YtnmhaipjfpongacGreatDoor

namespace Go.Proofs.YtnmhaipjfpongacGreatDoor
open Go.ChangeShapes Go.WideShapes Go.ChangeAt Go.RowKit

theorem write_any (n0 b : Nat) (l s : B) (w : World) (h : Lib.IsBuilder 169 5 n0 b (Lib.byteCells l) w) (hlen : l.length + s.length ≤ 140737488355328) (hBw : n0 ≤ w.heap.size) :
    Calls Tryz.prog 106 #[.pointer (some ⟨b, 0, none⟩), S s] w fun e w' => e = .returned (.tuple #[I s.length, .nilIface]) ∧ Lib.IsBuilder 169 5 n0 b (Lib.byteCells (l ++ s)) w' ∧ Below n0 w w' := by
  have hsz : (⟨s.toArray⟩ : ByteArray).size = s.length := by simp [ByteArray.size]
  refine (Any.Builder_WriteString { Tryz.lays156 with } Tryz.Builder_Extra_156 n0 b (Lib.byteCells l) ⟨s.toArray⟩ w h (by rw [Lib.byteCells_length, hsz]; exact hlen) hBw).mono ?_
  rintro e w' ⟨rfl, h1, h2⟩
  refine ⟨by rw [hsz], .inr ?_, h2⟩
  have e1 : Lib.byteCells l ++ Lib.strCells ⟨s.toArray⟩ = Lib.byteCells (l ++ s) := by rw [Lib.strCells_eq]; simp [Lib.byteCells]
  rw [← e1]
  exact h1

abbrev Pow (w : World) : Prop := Lib.TabIs Tryz.prog w "internal/strconv.uint64pow10" .u64 Lib.pow10Tab

theorem Pow.ext {w w' : World} (h : Pow w) (ho : Ext w w') : Pow w' :=
  Go.Joins.tab_stays (g := 13) (by kernel_rfl) h ho.extBelow (Nat.le_refl _)

theorem itoa_any (w : World) (n : Nat) (hn : n ≤ 1000000000) (h : Pow w) : Calls Tryz.prog 107 #[I n] w fun e w' => e = .returned (S (Lib.decDigits n)) ∧ Ext w w' := by
  refine (Tryz.strconv_Itoa n (by omega) (by omega) w h).mono ?_
  rintro e w' ⟨rfl, k, os, rfl⟩
  exact ⟨by rw [Lib.itoa_nonneg], Only.of_below (Lib.below_grow w.heap.size w (Nat.le_refl _) k os)⟩

/-- counted text. -/
def cnt (s : B) : B := Lib.decDigits s.length ++ 58 :: s

theorem ba_app (a b : B) : ((⟨a.toArray⟩ : ByteArray) ++ ⟨b.toArray⟩) = ⟨(a ++ b).toArray⟩ := by
  ext1
  simp [ByteArray.data_append]

theorem dec_le (n : Nat) (h : n ≤ 1000000000) : (Lib.decDigits n).length ≤ 20 := by
  rw [Lib.decDigits_length]
  exact Lib.nDigits_le20 n (by omega)

theorem counted_any (w : World) (s : B) (hs : s.length ≤ 1000000) (h : Pow w) : Calls Tryz.prog 189 #[S s] w fun e w' => e = .returned (S (cnt s)) ∧ Ext w w' := by
  have hi := itoa_any w s.length (by omega) h
  have hd := dec_le s.length (by omega)
  have h1 : ¬ 9223372036854775807 < (Lib.decDigits s.length).length + 1 := by omega
  have h2 : ¬ 9223372036854775807 < (Lib.decDigits s.length).length + 1 + s.length := by omega
  have HI := Lib.hid hi
  clear hi h hd
  go_enter Tryz.func189, Tryz.ntmps189
  go_wp2_with (go_at_call 107; refine HI.out.mono ?_; rintro e w1 ⟨rfl, h1⟩)
  go_ret
  refine ⟨?_, h1⟩
  have e1 : ((⟨(Lib.decDigits s.length).toArray⟩ : ByteArray) ++ ⟨#[58]⟩ ++ ⟨s.toArray⟩) = ⟨(cnt s).toArray⟩ := by
    rw [show (⟨#[58]⟩ : ByteArray) = ⟨([58] : B).toArray⟩ from rfl, ba_app, ba_app]
    simp [cnt]
  exact congrArg (fun x => Ending.returned (Value.string x)) e1
end Go.Proofs.YtnmhaipjfpongacGreatDoor

namespace Go.Proofs.YtnmhaipjfpongacGreatDoor
open Go.ChangeShapes Go.WideShapes Go.ChangeAt Go.RowKit

theorem byte_conv (w : World) (n : Nat) (hn : n < 256) : (convert 167 9 (.slice (some ⟨w.heap.size, 0, none⟩) 1 1)).run Tryz.prog (w.alloc (.cells #[.int .u8 n] 5 (0, 0))) = .ok (S [UInt8.ofNat n]) (w.alloc (.cells #[.int .u8 n] 5 (0, 0))) := by
  refine run_convert_bytes_back _ 167 9 5 ⟨w.heap.size, 0, none⟩ 1 [UInt8.ofNat n] Tryz.underlying167 Tryz.underlying5 Tryz.underlying9 (fun j hj => ?_)
  obtain rfl : j = 0 := by simpa using hj
  have e : (UInt8.ofNat n).toNat = n := by simp; omega
  simp [Addr.add, e]

theorem IntKind.wraps_u8_ (n : Nat) (h : n < 256) : IntKind.u8.wrap (n : Int) = n := by simp [IntKind.wrap, IntKind.bits, IntKind.signed]; omega

theorem byte_any (w : World) (n : Nat) (hn : n < 256) : Calls Tryz.prog 197 #[I n] w fun e w' => e = .returned (S [UInt8.ofNat n]) ∧ Ext w w' := by
  have hw : IntKind.u8.wrap (n : Int) = n := IntKind.wraps_u8_ n hn
  have hc := byte_conv w n hn
  go_enter Tryz.func197, Tryz.ntmps197
  go_wp2
  go_ret
  exact ⟨rfl, Only.alloc _ _ _⟩

theorem below_any (n : Nat) (hn : n ≤ 1000000000) : ∀ w m, m = -(n : Int) → Calls Tryz.prog 177 #[.int .i64 m] w fun e w' => e = .returned (S (Lib.decDigits n)) ∧ Ext w w' := by
  induction n using Nat.strongRecOn with
  | _ n ih =>
    intro w m hm
    by_cases h10 : n < 10
    · have hb := byte_any w (48 + n) (by omega)
      have hd : Lib.decDigits n = [UInt8.ofNat (48 + n)] := Lib.decDigits_one h10
      rw [hd]
      obtain ⟨z, hz⟩ : ∃ z : Int, z = ((48 + n : Nat) : Int) := ⟨_, rfl⟩
      have e1 : (48 : Int) - m = z := by omega
      have c1 : -10 < m := by omega
      have b1 : 0 ≤ z := by omega
      have b2 : z ≤ 100 := by omega
      have b3 : m ≤ 0 := by omega
      rw [← hz] at hb
      generalize UInt8.ofNat (48 + n) = u at hb ⊢
      have HB := Lib.hid hb
      clear hb hd hm hz ih
      go_enter Tryz.func177, Tryz.ntmps177
      go_wp2_with (go_at_call 197; refine HB.out.mono ?_; rintro e w1 ⟨rfl, h1⟩)
      go_ret
      exact ⟨rfl, h1⟩
    · obtain ⟨q, hq⟩ : ∃ q : Int, q = -((n / 10 : Nat) : Int) := ⟨_, rfl⟩
      have hi := ih (n / 10) (by omega) (by omega) w q hq
      have hb := fun w => byte_any w (48 + n % 10) (by omega)
      have hd : Lib.decDigits n = Lib.decDigits (n / 10) ++ [UInt8.ofNat (48 + n % 10)] := by rw [Lib.decDigits, dif_neg h10]
      have hl := dec_le (n / 10) (by omega)
      have h1 : ¬ 9223372036854775807 < (Lib.decDigits (n / 10)).length + 1 := by omega
      rw [hd]
      obtain ⟨z, hz⟩ : ∃ z : Int, z = ((48 + n % 10 : Nat) : Int) := ⟨_, rfl⟩
      have e2 : m.tdiv 10 = q := by rw [hm, Int.neg_tdiv, hq]; rfl
      have e3 : (48 : Int) - m.tmod 10 = z := by
        rw [hm, Int.neg_tmod, show ((n : Int).tmod 10) = ((n % 10 : Nat) : Int) from rfl]
        omega
      have c1 : ¬ -10 < m := by omega
      have b1 : 0 ≤ z := by omega
      have b2 : z ≤ 100 := by omega
      have b3 : m ≤ 0 := by omega
      have b4 : -1000000000 ≤ m := by omega
      have b5 : -1000000000 ≤ q := by omega
      have b6 : q ≤ 0 := by omega
      simp only [← hz] at hb
      generalize UInt8.ofNat (48 + n % 10) = u at hb ⊢
      have HI := Lib.hid hi
      have HB := Lib.hid hb
      generalize hD : Lib.decDigits (n / 10) = D at HI h1 ⊢
      clear hi hb hm hd ih hz hq hl hD
      go_enter Tryz.func177, Tryz.ntmps177
      go_wp2_with (first | (go_at_call 177; refine HI.out.mono ?_; rintro e w1 ⟨rfl, h2⟩; have H2 := Lib.hid h2; clear h2) | (go_at_call 197; refine (HB.out _).mono ?_; rintro e w3 ⟨rfl, h3⟩))
      go_ret
      exact ⟨congrArg (fun x => Ending.returned (Value.string x)) (ba_app D [u]), H2.out.ext h3⟩

theorem decimal_any (w : World) (n : Nat) (hn : n ≤ 1000000000) : Calls Tryz.prog 109 #[I n] w fun e w' => e = .returned (S (Lib.decDigits n)) ∧ Ext w w' := by
  have hi := below_any n hn w (-(n : Int)) rfl
  have c1 : ¬ ((n : Int) < 0) := by omega
  have HI := Lib.hid hi
  clear hi
  go_enter Tryz.func109, Tryz.ntmps109
  go_wp2_with (go_at_call 177; refine HI.out.mono ?_; rintro e w1 ⟨rfl, h1⟩)
  go_ret
  exact ⟨rfl, h1⟩
end Go.Proofs.YtnmhaipjfpongacGreatDoor

namespace Go.Proofs.YtnmhaipjfpongacGreatDoor
open Go.ChangeShapes Go.WideShapes Go.ChangeAt Go.RowKit

abbrev IsB (n0 b : Nat) (l : B) (w : World) : Prop := Lib.IsBuilder 169 5 n0 b (Lib.byteCells l) w

theorem builderAt_ext {n0 b : Nat} {p : Value} {bs : List Value} {w w' : World} (h : Lib.BuilderAt 169 5 n0 b p bs w) (ho : Ext w w') : Lib.BuilderAt 169 5 n0 b p bs w' := by
  obtain ⟨h1, v, h2, h3, h4⟩ := h
  exact ⟨h1, v, ho.heapOf h2 (fun h => h), ho.row h3 (fun _ _ h => h), h4⟩

theorem IsB.ext {n0 b : Nat} {l : B} {w w' : World} (h : IsB n0 b l w) (ho : Ext w w') : IsB n0 b l w' := by
  rcases h with h | h
  · exact .inl (builderAt_ext h ho)
  · exact .inr (builderAt_ext h ho)

theorem IsB.fresh (w : World) : IsB w.heap.size w.heap.size [] (w.alloc (.cells #[.pointer none, .slice none 0 0] 169 (0, 0))) :=
  .inl ⟨Nat.le_refl _, .slice none 0 0, (MapKept.heap_alloc w _).1, World.ownsRow_nil _ _ _ _, by intro h; cases h⟩

theorem ext_below {w w1 w2 : World} (h : Ext w w1) (hb : Below w.heap.size w1 w2) : Ext w w2 := Only.of_below (h.extBelow.trans hb)

def keyT (kind word : B) (ins : List B) : B := cnt kind ++ cnt word ++ ins.flatMap cnt

theorem cnt_len (s : B) (h : s.length ≤ 1000000) : (cnt s).length ≤ 21 + s.length := by
  have := dec_le s.length (by omega)
  simp [cnt]; omega

theorem flat_take_step {ins : List B} {j : Nat} {x : B} (hx : ins[j]? = some x) : (ins.take (j + 1)).flatMap cnt = (ins.take j).flatMap cnt ++ cnt x := by
  rw [List.take_add_one, hx]; simp

theorem flat_take_len {ins : List B} (h : ∀ x ∈ ins, x.length ≤ 300) : ∀ j, ((ins.take j).flatMap cnt).length ≤ 400 * j
  | 0 => by simp
  | j + 1 => by
    have ih := flat_take_len h j
    cases hx : ins[j]? with
    | none =>
      have : ins.take (j + 1) = ins.take j := by rw [List.take_add_one, hx]; simp
      rw [this]; omega
    | some x =>
      have hl := cnt_len x (by have := h x (List.mem_of_getElem? hx); omega)
      have := h x (List.mem_of_getElem? hx)
      rw [flat_take_step hx, List.length_append]
      omega

set_option maxHeartbeats 1000000 in
theorem key_any (w : World) (kind word : B) (v : Value) (ins : List B) (hv : Rd S w v ins) (h1 : kind.length ≤ 100) (h2 : word.length ≤ 100) (h3 : ins.length ≤ 10) (h4 : ∀ x ∈ ins, x.length ≤ 300) (hp : Pow w) :
    Calls Tryz.prog 123 #[S kind, S word, v] w fun e w' => e = .returned (S (keyT kind word ins)) ∧ Ext w w' := by
  obtain ⟨a, cap, rfl, _, _, hc⟩ := hv
  have l1 := cnt_len kind (by omega)
  have l2 := cnt_len word (by omega)
  have hck : ∀ w1, Pow w1 → Calls Tryz.prog 189 #[S kind] w1 _ := fun w1 h => counted_any w1 kind (by omega) h
  have hcw : ∀ w1, Pow w1 → Calls Tryz.prog 189 #[S word] w1 _ := fun w1 h => counted_any w1 word (by omega) h
  obtain ⟨K, hK⟩ : ∃ K, K = keyT kind word ins := ⟨_, rfl⟩
  obtain ⟨ck, hk⟩ : ∃ ck, ck = cnt kind := ⟨_, rfl⟩
  obtain ⟨cw, hw⟩ : ∃ cw, cw = cnt word := ⟨_, rfl⟩
  have hKe : K = ck ++ cw ++ ins.flatMap cnt := by rw [hK, hk, hw]; rfl
  rw [← hK]
  simp only [← hk] at hck
  simp only [← hw] at hcw
  rw [← hk] at l1
  rw [← hw] at l2
  have l3 : ¬ 9223372036854775807 < ck.length + cw.length := by omega
  have l4 : ck.length + cw.length ≤ 242 := by omega
  have HKE := Lib.hid hKe
  have HCK := Lib.hid hck
  have HCW := Lib.hid hcw
  have HC := Lib.hid hc
  have H4 := Lib.hid h4
  have HP := Lib.hid hp
  clear hc hKe hck hcw hK hk hw h4 hp l1 l2 h1 h2
  go_enter Tryz.func123, Tryz.ntmps123
  go_wp2_with fail
  refine (HCK.out _ (HP.out.ext (Only.alloc (fun _ => False) w _))).mono ?_
  rintro e w1 ⟨rfl, ho⟩
  have HO1 := Lib.hid ((Only.alloc (fun _ => False) w (.cells #[.pointer none, .slice none 0 0] 169 (0, 0))).ext ho)
  have HB1 := Lib.hid ((IsB.fresh w).ext ho)
  clear ho
  go_wp2_with fail
  refine (HCW.out _ (HP.out.ext HO1.out)).mono ?_
  rintro e w2 ⟨rfl, ho⟩
  have HO2 := Lib.hid (HO1.out.ext ho)
  have HB2 := Lib.hid (HB1.out.ext ho)
  clear ho
  go_wp2_with fail
  rw [ba_app]
  refine (write_any w.heap.size w.heap.size [] (ck ++ cw) w2 HB2.out (by simp; omega) HO2.out.size).mono ?_
  rintro e w3 ⟨rfl, hb3, hbl⟩
  have HO3 := Lib.hid (ext_below HO2.out hbl)
  have HB3 := Lib.hid hb3
  clear hb3 hbl HB1 HB2 HCK HCW HO1 HO2
  go_wp2_with fail
  obtain ⟨b, hbE⟩ : ∃ b, b = w.heap.size := ⟨_, rfl⟩
  have HB3' : Hid (IsB w.heap.size b (ck ++ cw) w3) := by rw [hbE]; simpa using HB3
  rw [← hbE]
  clear hbE HB3
  go_loopw [18] (fun i wr => ∃ j : Nat, j ≤ ins.length ∧ i = .int .i64 j ∧ Hid (Ext w wr) ∧ Hid (IsB w.heap.size b (ck ++ cw ++ (ins.take j).flatMap cnt) wr)) (fun i _ => ins.length - (intOf i).toNat)
  case atStart => exact ⟨0, Nat.zero_le _, rfl, HO3, by simpa using HB3'⟩
  case round =>
    obtain ⟨j, hj, rfl, HX, HB⟩ := hrel
    by_cases hlt : j < ins.length
    · have hltz : (j : Int) < (ins.length : Int) := by omega
      obtain ⟨b0, off, rfl, hcell⟩ := HC.out (by intro h; rw [h] at hlt; simp at hlt)
      obtain ⟨x, hx⟩ : ∃ y, ins[j]? = some y := ⟨_, List.getElem?_eq_getElem hlt⟩
      have d0 : wr.cell? ⟨b0, off + j, none⟩ = some (S x) := HX.out.cellOf (hcell j x hx) (fun h => h)
      have hxl := H4.out x (List.mem_of_getElem? hx)
      have hst := flat_take_step hx
      have hfl := flat_take_len H4.out j
      have hcx := counted_any wr x (by omega) (HP.out.ext HX.out)
      have hcl := cnt_len x (by omega)
      obtain ⟨cx, hcx'⟩ : ∃ cx, cx = cnt x := ⟨_, rfl⟩
      rw [← hcx'] at hcx hst hcl
      have HST := Lib.hid hst
      have HCX := Lib.hid hcx
      clear hcell hx hst hcx hcx'
      obtain ⟨F, hF⟩ : ∃ F, F = (ins.take j).flatMap cnt := ⟨_, rfl⟩
      rw [← hF] at HB HST hfl
      clear hF
      go_wp2_with fail
      refine HCX.out.mono ?_
      rintro e w5 ⟨rfl, ho⟩
      have HX5 := Lib.hid (HX.out.ext ho)
      have HB5 := Lib.hid (HB.out.ext ho)
      clear ho
      go_wp2_with fail
      refine (write_any w.heap.size b _ cx w5 HB5.out (by simp; omega) HX5.out.size).mono ?_
      rintro e w6 ⟨rfl, hb6, hbl⟩
      have HX6 := Lib.hid (ext_below HX5.out hbl)
      have HB6 := Lib.hid hb6
      clear hb6 hbl
      go_wp2_with fail
      go_roundw
      case rel => exact ⟨j + 1, by omega, by go_num, HX6, Lib.hid (by rw [HST.out]; simpa using HB6.out)⟩
      case measure => simp [intOf]; omega
    · have hltz : ¬ ((j : Int) < (ins.length : Int)) := by omega
      have ht : ins.take j = ins := List.take_of_length_le (by omega)
      rw [ht, ← HKE.out] at HB
      go_wp2_with fail
      refine (Tryz.Builder_String_any w.heap.size b K wr HB.out HX.out.size).mono ?_
      rintro e w6 ⟨rfl, hbl⟩
      have HX6 := Lib.hid (ext_below HX.out hbl)
      clear hbl
      go_wp2_with fail
      go_ret
      exact ⟨rfl, HX6.out⟩

theorem longTexts_any (w : World) (v : Value) (l : List B) (many most : Int) (hv : Rd S w v l) (hm : 0 ≤ most ∧ most ≤ 1000000) :
    Calls Tryz.prog 50 #[v, .int .i64 many, .int .i64 most] w fun e w' => (∃ r : Int, e = .returned (.int .i64 r) ∧ (r = 0 ∨ r = 1) ∧ (r = 0 → (l.length : Int) ≤ many ∧ ∀ x ∈ l, (x.length : Int) ≤ most)) ∧ w = w' := by
  obtain ⟨a, cap, rfl, _, hm1, hc⟩ := hv
  have hl1 : l.length ≤ 9223372036854775807 := by unfold maxLen at hm1; omega
  obtain ⟨m0, m1⟩ := hm
  have HC := Lib.hid hc
  clear hc hm1
  by_cases hmany : many < (l.length : Int)
  · go_enter Tryz.func50, Tryz.ntmps50
    go_wp2_with fail
    go_ret
    exact ⟨⟨1, rfl, .inr rfl, fun h => by cases h⟩, rfl⟩
  · go_enter Tryz.func50, Tryz.ntmps50
    go_wp2_with fail
    go_loop [7, 8] (fun n i => ∃ (j : Nat) (m : Int), j ≤ l.length ∧ i = .int .i64 j ∧ n = .int .i64 m ∧ 0 ≤ m ∧ m ≤ most ∧ Hid (∀ i (q : B), i < j → l[i]? = some q → (q.length : Int) ≤ most)) (fun _ i => l.length - (intOf i).toNat)
    case atStart => exact ⟨0, 0, Nat.zero_le _, rfl, rfl, Int.le_refl _, m0, Lib.hid (fun i q h => absurd h (Nat.not_lt_zero _))⟩
    case round =>
      obtain ⟨j, m, hj, rfl, rfl, hm0, hmm, hb⟩ := hrel
      by_cases hlt : j < l.length
      · have hltz : (j : Int) < (l.length : Int) := by omega
        obtain ⟨b0, off, rfl, hcell⟩ := HC.out (by intro h; rw [h] at hlt; simp at hlt)
        obtain ⟨x, hx⟩ : ∃ y, l[j]? = some y := ⟨_, List.getElem?_eq_getElem hlt⟩
        have d0 := hcell j x hx
        have HXX := Lib.hid hx
        clear hcell hx
        by_cases h1 : most < (x.length : Int)
        · go_wp2_with fail
          go_ret
          exact ⟨⟨1, rfl, .inr rfl, fun h => by cases h⟩, rfl⟩
        by_cases h2 : most < m + (x.length : Int)
        · go_wp2_with fail
          go_ret
          exact ⟨⟨1, rfl, .inr rfl, fun h => by cases h⟩, rfl⟩
        · go_wp2_with fail
          go_round
          case rel => exact ⟨j + 1, m + x.length, by omega, by go_num, rfl, by omega, by omega, Lib.hid (fun i q hi hq => by
            rcases Nat.lt_succ_iff_lt_or_eq.1 hi with h | rfl
            · exact hb.out i q h hq
            · rw [HXX.out] at hq; cases hq; omega)⟩
          case measure => simp [intOf]; omega
      · have hltz : ¬ ((j : Int) < (l.length : Int)) := by omega
        go_wp2_with fail
        go_ret
        refine ⟨⟨0, rfl, .inl rfl, fun _ => ?_⟩, rfl⟩
        intro x hx
        obtain ⟨i, hi⟩ := List.getElem?_of_mem hx
        exact hb.out i x (by have := (List.getElem?_eq_some_iff.1 hi).1; omega) hi
end Go.Proofs.YtnmhaipjfpongacGreatDoor

/- strings.SplitSeq at a slash: the iterator's contract. No condition but how the captured variables lie, and the text's length. -/
import Derived.Test.YtnmhaipjfpongaaDoorR1
namespace Go.Proofs.YtnmhaipjfpongaaDoor
open Go.ChangeShapes Go.WideShapes Go.ChangeAt Go.RowKit
open Go.MapKept (heap_alloc)

attribute [local go_sem] Oper.semAt_some

def strLen : Option Value → Nat
  | some (.string b) => b.size
  | _ => 0

theorem strLen_box {W : World} {b : Nat} {t : TypeId} {l : B} (h : Boxed W b t (S l)) : strLen (W.cell? ⟨b, 0, none⟩) = l.length := by
  rw [h.cell]; simp [strLen, ByteArray.size]

theorem boxed_same {W W' : World} {b : Nat} {t : TypeId} {v : Value} (h : Boxed W b t v) (he : W'.heap[b]? = W.heap[b]?) : Boxed W' b t v := he.trans h
theorem boxed_other {W : World} {b c : Nat} {t : TypeId} {v : Value} (h : Boxed W b t v) (hne : b ≠ c) (u : Value) : Boxed (W.setCell ⟨c, 0, none⟩ u) b t v :=
  (Below.heap_setCell _ _ _ _ (by simpa using hne)).trans h

theorem ba_take (l : B) (k : Nat) : (⟨l.toArray⟩ : ByteArray).extract 0 k = ⟨(l.take k).toArray⟩ := by
  apply ByteArray.ext
  apply Array.ext'
  rw [Lib.extract_data]
  simp
theorem ba_drop (l : B) (k : Nat) : (⟨l.toArray⟩ : ByteArray).extract k l.length = ⟨(l.drop k).toArray⟩ := by
  apply ByteArray.ext
  apply Array.ext'
  rw [Lib.extract_data]
  rw [List.take_of_length_le (by simp)]

set_option maxRecDepth 100000 in
set_option maxHeartbeats 2000000 in
theorem splitSeq1_in (n : Nat) (hn : 1 ≤ n) (l sb pb vb : Nat) (s : B) (hs : s.length ≤ 1000000) (h1 : pb ≠ sb) (h2 : vb ≠ sb) (keep : Nat → Prop) (k1 : keep sb) (k2 : keep pb) (k3 : keep vb)
    (I Ix : List B → World → Prop) (hset : ∀ pre W u, I pre W → I pre (W.setCell ⟨sb, 0, none⟩ u))
    (hY : ∀ pre x W1, I pre W1 → pre ++ [x] <+: cut s → YieldAt Fence.wide (n - 1) Tryd.prog l #[S x] W1 fun e W' =>
      (e = .returned (.bool true) ∧ I (pre ++ [x]) W' ∧ ∀ k, keep k → k < W1.heap.size → W'.heap[k]? = W1.heap[k]?) ∨ (e = .returned (.bool false) ∧ Ix (pre ++ [x]) W'))
    (W0 : World) (b1 : Boxed W0 pb 9 (.string ⟨#[47]⟩)) (b2 : Boxed W0 sb 9 (S s)) (b3 : Boxed W0 vb 3 (.int .i64 0)) (h0 : I [] W0) :
    CallsIn Fence.wide n Tryd.prog 84 #[.func (.yield l) #[] #[], .pointer (some ⟨pb, 0, none⟩), .pointer (some ⟨sb, 0, none⟩), .pointer (some ⟨vb, 0, none⟩)] W0 fun e W' =>
      (∃ v, e = .returned v) ∧ (I (cut s) W' ∨ ∃ pre, Ix pre W') := by
  refine callsIn_of_wp Tryd.func84 rfl trivial ?_ rfl
  simp only [Tryd.ntmps84, List.size_toArray, List.length_cons, List.length_nil, Nat.reduceAdd, Nat.reduceSub, Array.replicate_succ, Array.replicate_zero, List.push_toArray, List.append_toArray, List.nil_append, List.cons_append]
  have c1 := b1.cell
  gi_wp2
  gi_loopw [7, 8] (fun _ _ wr => ∃ pre rest : List _, cut s = pre ++ cut rest ∧ rest.length ≤ s.length ∧ Boxed wr pb 9 (.string ⟨#[47]⟩) ∧ Boxed wr sb 9 (S rest) ∧ Boxed wr vb 3 (.int .i64 0) ∧ I pre wr) (fun _ _ wr => strLen (wr.cell? ⟨sb, 0, none⟩))
  case atStart => exact ⟨[], s, rfl, Nat.le_refl _, b1, b2, b3, h0⟩
  case round =>
    obtain ⟨pre, rest, hcut, hlen, r1, r2, r3, hi⟩ := hrel
    clear c1
    have c1 := r1.cell
    have c2 := r2.cell
    have c3 := r3.cell
    rcases first_slash rest with ⟨hx, hm⟩ | ⟨o, hx, hlt, hsp, hm⟩
    · rw [index_slash] at hx
      have hci := Tryd.strings_Index_one ⟨rest.toArray⟩ 47 wr
      rw [show (⟨rest.toArray⟩ : ByteArray).data.toList = rest from rfl, hx] at hci
      obtain ⟨fn, tmps, assign, body, hy, hR⟩ := hY pre rest wr hi (by rw [hcut, cut_plain rest hm]; exact List.prefix_refl _)
      have HC := Lib.hid hci
      have HR := Lib.hid hR
      clear hci hR hY hset
      gi_wp2_with (refine ⟨trivial, ?_⟩; gi_at_call 86; refine (callsIn_wide.2 HC.out).mono ?_; rintro e w' ⟨rfl, rfl⟩)
      refine HR.out.mono ?_
      rintro e W3 (⟨rfl, hi3, _⟩ | ⟨rfl, hx3⟩)
      · have HI := Lib.hid hi3
        clear hi3 hi
        gi_wp2
        go_end0
        refine ⟨⟨_, rfl⟩, .inl ?_⟩
        rw [hcut, cut_plain rest hm]
        exact HI.out
      · have HI := Lib.hid hx3
        clear hx3 hi
        gi_wp2
        go_end0
        exact ⟨⟨_, rfl⟩, .inr ⟨_, HI.out⟩⟩
    · rw [index_slash] at hx
      have hci := Tryd.strings_Index_one ⟨rest.toArray⟩ 47 wr
      rw [show (⟨rest.toArray⟩ : ByteArray).data.toList = rest from rfl, hx] at hci
      have hce : cut rest = rest.take o :: cut (rest.drop (o + 1)) := by
        conv => lhs; rw [hsp]
        exact cut_app _ _ hm
      have e1 := ba_take rest o
      have e2 := ba_drop rest (o + 1)
      obtain ⟨x, hxe⟩ : ∃ x, x = rest.take o := ⟨_, rfl⟩
      obtain ⟨y, hye⟩ : ∃ y, y = rest.drop (o + 1) := ⟨_, rfl⟩
      rw [← hxe, ← hye] at hce
      rw [← hxe] at e1
      rw [← hye] at e2
      have hyl : y.length < rest.length := by rw [hye, List.length_drop]; omega
      obtain ⟨fn, tmps, assign, body, hy, hR⟩ := hY pre x wr hi (by rw [hcut, hce]; exact (List.prefix_append_right_inj _).2 ⟨cut y, rfl⟩)
      have q1 : (0 : Int) ≤ (o : Int) := by omega
      have q2 : (o : Int) ≤ (rest.length : Int) := by omega
      have q3 : (o : Int) + 1 ≤ (rest.length : Int) := by omega
      have q4 : ¬ ((o : Int) < 0) := by omega
      have HC := Lib.hid hci
      have HR := Lib.hid hR
      have HS := Lib.hid hset
      have HCE := Lib.hid hce
      have HCU := Lib.hid hcut
      have HM := Lib.hid hm
      have HSP := Lib.hid hsp
      clear hci hR hY hset hce hcut hm hsp hxe hye hx
      gi_wp2_with (refine ⟨trivial, ?_⟩; gi_at_call 86; refine (callsIn_wide.2 HC.out).mono ?_; rintro e w' ⟨rfl, rfl⟩)
      refine HR.out.mono ?_
      rintro e W3 (⟨rfl, hi3, hk3⟩ | ⟨rfl, hx3⟩)
      · have s1 := boxed_same r1 (hk3 _ k2 r1.lt)
        have s2 := boxed_same r2 (hk3 _ k1 r2.lt)
        have s3 := boxed_same r3 (hk3 _ k3 r3.lt)
        have d1 := s1.cell
        have d2 := s2.cell
        have f2 := s2.frozen
        have HI := Lib.hid hi3
        have HW1 := Lib.hid (strLen_box r2)
        clear hi3 hi hk3 c1 c2 c3 r1 r2 r3
        gi_wp2
        go_roundw
        case rel => exact ⟨pre ++ [x], y, by rw [HCU.out, HCE.out]; simp, by omega, boxed_other s1 h1 _, s2.set _, boxed_other s3 h2 _, HS.out _ _ _ HI.out⟩
        case measure => rw [strLen_box (s2.set (S y)), HW1.out]; exact hyl
      · have HI := Lib.hid hx3
        clear hx3 hi
        gi_wp2
        refine bodyPost_ret (results_none rfl _ _ _) rfl ?_
        exact ⟨⟨_, rfl⟩, .inr ⟨_, HI.out⟩⟩
end Go.Proofs.YtnmhaipjfpongaaDoor

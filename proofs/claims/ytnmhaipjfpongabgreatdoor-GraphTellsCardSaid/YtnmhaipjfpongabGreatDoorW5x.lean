/- The reference's TreeOf: any text. No condition but its length. -/
import Derived.Test.YtnmhaipjfpongabGreatDoorGh
import Derived.Test.YtnmhaipjfpongabGreatDoorW4x
import Derived.Test.YtnmhaipjfpongabGreatDoorF10x
import Derived.Deep.CutBlock
import Derived.Deep.DeepCutAuto
import Derived.Deep.RegionLaw
import Derived.Deep.AppendLies
import Derived.Deep.RegionHeld3
namespace Go.Proofs.YtnmhaipjfpongabGreatDoor
open Go.ChangeShapes Go.WideShapes Go.ChangeAt Go.RowKit

/-- 'append(l, x)', x of several cells, as a step of a region that draws. -/
theorem step_appS {P : Program} {α : Type} (enc : α → List Value) (t e : TypeId) (n by_ : Nat) (z : Value) (hinfo : (P.info? e).map (fun i => (i.zero, i.size, i.bytes)) = some (some z, n, by_)) (ht : P.underlying t = some (.slice e)) (hzs : z.cells.size = n) (hn0 : 0 < n)
    (hlen : ∀ x, (enc x).length = n) (h1c : ∀ x, ∀ u ∈ enc x, u.oneCell' = true) (hby : by_ ≤ 1000)
    {ops : Array Oper} {o : Oper} {a : Act} {K : Act → World → Prop} {Q : Exit → Act → World → Prop} {E : Prop} (s x : Operand) (base : Nat) (v : Value) (l : List α) (k : α) (W : World) (cs : Array Value) (hcs : cs.toList = enc k) (hgd : o.guard = none)
    (ho : o.op = .call { callee := .builtin .append, args := #[s, x], argTypes := #[t, t] }) (hs : a.eval s = v) (hx : a.eval x = .slice (some ⟨W.heap.size, 0, none⟩) 1 1)
    (hrow : W.ownsRow base e n v l.length (l.flatMap enc)) (hl : l.length ≤ 1000000) (hbase : base ≤ W.heap.size)
    (hK : ∀ g cap w', w'.ownsRow base e n (.slice (some ⟨g, 0, none⟩) (l.length + 1) cap) (l.length + 1) ((l ++ [k]).flatMap enc) → W.grownBy w' v.ownBlock → (∀ i, Value.ownBlock (.slice (some ⟨g, 0, none⟩) (l.length + 1) cap) = some i → v.ownBlock = some i ∨ W.heap.size ≤ i) →
      K (a.put o.dst (.slice (some ⟨g, 0, none⟩) (l.length + 1) cap)) w') :
    if Region.wanted o (yielded ops a.tmps) = true then Oper.wp P o a (W.alloc (.cells cs e (0, 0))) K Q else E := by
  obtain ⟨i0, hi, hz0, hz1, hz2⟩ := info_parts hinfo
  have hb : (l.length + 1) * by_ ≤ 1000001 * 1000 := Nat.mul_le_mul (by omega) hby
  refine step_append_lies _ hgd s x t ho base e i0 z n by_ ht hi hz0 hz1 hz2 hzs hn0 v l.length (l.flatMap enc) hs (hrow.alloc _) ⟨W.heap.size, 0, none⟩ 1 1 (enc k) hx (by rw [hlen, Nat.one_mul])
    (fun j u hu => cells_new W cs e j u (by rw [hcs]; exact hu)) (h1c k) (by decide) ?_ ?_ ?_ (W.heap.size + 1) (by simp) ?_
  · unfold maxLen; omega
  · omega
  · simp; omega
  · intro g cap w' hown hg hat hlt
    refine hK g cap w' (by simpa using hown) ?_ ?_
    · exact ((Only.alloc (fun i => v.ownBlock = some i) W _).then (Only.of_grown hg)).grown
    · intro i e
      cases e
      rcases hat with h | h
      · exact .inl h
      · exact .inr (by rw [h]; exact Nat.le_succ _)

/-! ### where a line ends -/
theorem cut_at {s : B} {j e : Nat} {d : UInt8} (hje : j ≤ e) (hn : ∀ t, j ≤ t → t < e → s[t]? ≠ some d) (he : s[e]? = some d) : cut1 d (s.drop j) = ((s.take e).drop j, s.drop (e + 1), true) := by
  obtain ⟨hlt, hv⟩ := List.getElem?_eq_some_iff.1 he
  have h1 : s.drop j = (s.take e).drop j ++ d :: s.drop (e + 1) := by
    have h2 := (List.take_append_drop e s).symm
    rw [List.drop_eq_getElem_cons hlt, hv] at h2
    conv => lhs; rw [h2]
    rw [List.drop_append_of_le_length (by rw [List.length_take]; omega)]
  rw [h1]
  refine cut1_hit d _ _ fun hm => ?_
  obtain ⟨i, hi⟩ := List.getElem?_of_mem hm
  rw [List.getElem?_drop, List.getElem?_take] at hi
  split at hi
  · rename_i hlt2; exact hn _ (Nat.le_add_right _ _) hlt2 hi
  · cases hi
theorem cut_no {s : B} {j : Nat} {d : UInt8} (hn : ∀ t, j ≤ t → t < s.length → s[t]? ≠ some d) : cut1 d (s.drop j) = (s.drop j, [], false) := by
  refine cut1_miss d _ fun hm => ?_
  obtain ⟨i, hi⟩ := List.getElem?_of_mem hm
  rw [List.getElem?_drop] at hi
  exact hn _ (Nat.le_add_right _ _) (List.getElem?_eq_some_iff.1 hi).1 hi

theorem file_no10 {s : B} {j : Nat} (hn : ∀ t, j ≤ t → t < s.length → s[t]? ≠ some 10) : fileB (s.drop j) = none := by
  unfold fileB
  rw [cut_no hn]
  rfl
theorem file_no32 {s : B} {j e : Nat} (hje : j ≤ e) (hn : ∀ t, j ≤ t → t < e → s[t]? ≠ some 10) (he : s[e]? = some 10) (h2 : ∀ t, j ≤ t → t < e → s[t]? ≠ some 32) : fileB (s.drop j) = none := by
  have hlt := (List.getElem?_eq_some_iff.1 he).1
  unfold fileB
  rw [cut_at hje hn he]
  simp only
  rw [cut_no (s := s.take e) (fun t h1 h3 => by
    rw [List.length_take] at h3
    rw [List.getElem?_take_of_lt (by omega)]
    exact h2 t h1 (by omega))]
  rfl
theorem file_is {s : B} {j e f : Nat} (hje : j ≤ e) (hn : ∀ t, j ≤ t → t < e → s[t]? ≠ some 10) (he : s[e]? = some 10) (hjf : j ≤ f) (hfe : f < e) (h2 : ∀ t, j ≤ t → t < f → s[t]? ≠ some 32) (hf : s[f]? = some 32) :
    fileB (s.drop j) = match numB 4 ((s.take e).drop (f + 1)) with
      | some n => if (s.drop (e + 1))[n]? = some 10 then some ((s.take f).drop j, (s.drop (e + 1)).take n, (s.drop (e + 1)).drop (n + 1)) else none
      | none => none := by
  unfold fileB
  rw [cut_at hje hn he]
  simp only
  rw [cut_at (s := s.take e) hjf (fun t h1 h3 => by rw [List.getElem?_take_of_lt (by omega)]; exact h2 t h1 h3) (by rw [List.getElem?_take_of_lt hfe]; exact hf)]
  simp only [Bool.and_self, if_true, List.take_take, Nat.min_eq_left (Nat.le_of_lt hfe)]
  rfl

theorem RTree.down {w : World} {b b' m : Nat} {slv : Value} {L : FL} (h : RTree w b' m slv L) (hb : b ≤ b') : RTree w b m slv L :=
  ⟨h.cells, h.row.1, h.row.2.imp id fun ⟨g, cap, cur, e, hg, r⟩ => ⟨g, cap, cur, e, Nat.le_trans hb hg, r⟩⟩

def TreeOfIs (w : World) (s : B) (e : Ending) (w' : World) : Prop :=
  (readC s ≠ 0 → e = .returned (.tuple #[.pointer none, I (readC s)]) ∧ Ext w w') ∧
  (readC s = 0 → ∃ m slv, e = .returned (.tuple #[.pointer (some ⟨m, 0, none⟩), I (0 : Nat)]) ∧ RTree w' w.heap.size m slv (readT s) ∧ Ext w w' ∧ w.heap.size ≤ m)

set_option maxRecDepth 100000 in
set_option maxHeartbeats 4000000 in
theorem treeOf_any (w : World) (s : B) (hs : s.length ≤ 900000) : Calls Tryz.prog 35 #[S s] w (TreeOfIs w s) := by
  have hsz : (s.length : Int) ≤ 900000 := by omega
  go_enter Tryz.func35, Tryz.ntmps35
  go_wp2_with fail
  go_loopw [4, 5, 6, 7, 8] (fun v i _ _ _ wr => ∃ (j : Nat) (l : FL), i = .int .i64 j ∧ j ≤ s.length + 1 ∧ Hid (Parted s l (s.drop j)) ∧ Hid (Ext w wr) ∧ Hid (wr.ownsRow w.heap.size 78 2 v l.length (l.flatMap encF))) (fun _ i _ _ _ _ => s.length + 1 - (intOf i).toNat)
  case atStart => exact ⟨0, [], rfl, Nat.zero_le _, Lib.hid (by rw [List.drop_zero]; exact Parted.start s), Lib.hid (Only.refl _ _), Lib.hid (World.ownsRow_nil _ _ _ _)⟩
  case round =>
    obtain ⟨j, l, rfl, hj, HP, HX, HR⟩ := hrel
    by_cases hlt : j < s.length
    · have hltz : (j : Int) < (s.length : Int) := by omega
      go_upto_block 2 with fail
      go_cut [6] (fun ln wx => wx = wr ∧ ∃ e : Nat, j ≤ e ∧ e ≤ s.length ∧ ln = .int .i64 e ∧ Hid (∀ t, j ≤ t → t < e → s[t]? ≠ some 10) ∧ (e = s.length ∨ Hid (s[e]? = some 10)))
      case first =>
        go_wp2_with fail
        go_loopw [6] (fun i wx => wx = wr ∧ ∃ e : Nat, j ≤ e ∧ e ≤ s.length ∧ i = .int .i64 e ∧ Hid (∀ t, j ≤ t → t < e → s[t]? ≠ some 10)) (fun i _ => s.length - (intOf i).toNat)
        case atStart => exact ⟨rfl, j, Nat.le_refl _, by omega, rfl, Lib.hid (fun t h1 h2 => by omega)⟩
        case round =>
          obtain ⟨rfl, e, he1, he2, rfl, HN⟩ := hrel
          by_cases hel : e < s.length
          · have helz : (e : Int) < (s.length : Int) := by omega
            have he0 : (0 : Int) ≤ (e : Int) := by omega
            obtain ⟨c, hc⟩ : ∃ c, s[e]? = some c := ⟨_, List.getElem?_eq_getElem hel⟩
            have hg := ba_get hc
            by_cases h10 : c = 10
            · subst h10
              have hz : (((10 : UInt8).toNat : Int) == 10) = true := rfl
              have HC := Lib.hid hc
              clear hc
              go_wp2_with fail
              go_meet
              exact ⟨rfl, e, he1, he2, rfl, HN, .inr HC⟩
            · have hz : ((c.toNat : Int) == 10) = false := beq_eq_false_iff_ne.2 fun h => h10 (UInt8.toNat_inj.1 (by rw [show (10 : UInt8).toNat = 10 from rfl]; omega))
              have HC := Lib.hid hc
              have H10 := Lib.hid h10
              clear hc h10
              go_wp2_with fail
              go_roundw
              case rel => exact ⟨trivial, e + 1, by omega, by omega, by go_num, Lib.hid (fun t h1 h2 => by
                rcases Nat.lt_succ_iff_lt_or_eq.1 h2 with h | rfl
                · exact HN.out t h1 h
                · rw [HC.out]; intro e; exact H10.out (by simpa using e))⟩
              case measure => simp [intOf]; omega
          · have helz : ¬ (e : Int) < (s.length : Int) := by omega
            go_wp2_with fail
            go_meet
            exact ⟨rfl, e, he1, he2, rfl, HN, .inl (by omega)⟩
      case rest =>
        obtain ⟨rfl, e, he1, he2, rfl, HN, he3⟩ := hcut
        go_upto_block 4 with fail
        go_cut [7] (fun bl wx => wx = wc ∧ ∃ f : Nat, j ≤ f ∧ f ≤ e ∧ bl = .int .i64 f ∧ Hid (∀ t, j ≤ t → t < f → s[t]? ≠ some 32) ∧ (f = e ∨ (f < e ∧ Hid (s[f]? = some 32))))
        case first =>
          clear he3
          go_wp2_with fail
          go_loopw [7] (fun i wx => wx = wc ∧ ∃ f : Nat, j ≤ f ∧ f ≤ e ∧ i = .int .i64 f ∧ Hid (∀ t, j ≤ t → t < f → s[t]? ≠ some 32)) (fun i _ => e - (intOf i).toNat)
          case atStart => exact ⟨rfl, j, Nat.le_refl _, he1, rfl, Lib.hid (fun t h1 h2 => by omega)⟩
          case round =>
            obtain ⟨rfl, f, hf1, hf2, rfl, HN2⟩ := hrel
            by_cases hel : f < e
            · have helz : (f : Int) < (e : Int) := by omega
              have hf0 : (0 : Int) ≤ (f : Int) := by omega
              have hfl : (f : Int) < (s.length : Int) := by omega
              obtain ⟨c, hc⟩ : ∃ c, s[f]? = some c := ⟨_, List.getElem?_eq_getElem (by omega)⟩
              have hg := ba_get hc
              by_cases h10 : c = 32
              · subst h10
                have hz : (((32 : UInt8).toNat : Int) == 32) = true := rfl
                have HC := Lib.hid hc
                clear hc
                go_wp2_with fail
                go_meet
                exact ⟨rfl, f, hf1, hf2, rfl, HN2, .inr ⟨hel, HC⟩⟩
              · have hz : ((c.toNat : Int) == 32) = false := beq_eq_false_iff_ne.2 fun h => h10 (UInt8.toNat_inj.1 (by rw [show (32 : UInt8).toNat = 32 from rfl]; omega))
                have HC := Lib.hid hc
                have H10 := Lib.hid h10
                clear hc h10
                go_wp2_with fail
                go_roundw
                case rel => exact ⟨trivial, f + 1, by omega, by omega, by go_num, Lib.hid (fun t h1 h2 => by
                  rcases Nat.lt_succ_iff_lt_or_eq.1 h2 with h | rfl
                  · exact HN2.out t h1 h
                  · rw [HC.out]; intro e; exact H10.out (by simpa using e))⟩
                case measure => simp [intOf]; omega
            · have helz : ¬ (f : Int) < (e : Int) := by omega
              go_wp2_with fail
              go_meet
              exact ⟨rfl, f, hf1, hf2, rfl, HN2, .inl (by omega)⟩
        case rest =>
          obtain ⟨rfl, f, hf1, hf2, rfl, HN2, hf3⟩ := hcut
          have hdn : s.drop j ≠ [] := fun h => by have := congrArg List.length h; rw [List.length_drop] at this; simp at this; omega
          rcases he3 with he3 | HE
          · subst he3
            have hbad := readC_none (HP.out.bad hdn (file_no10 HN.out))
            have heq : ((s.length : Int) == (s.length : Int)) = true := by simp
            have HB := Lib.hid hbad
            clear hbad hdn hf3
            go_wp2_with fail
            go_ret2
            exact ⟨fun _ => ⟨by rw [HB.out]; rfl, HX.out⟩, fun h => by rw [HB.out] at h; cases h⟩
          · have hel := (List.getElem?_eq_some_iff.1 HE.out).1
            have heq : ((e : Int) == (s.length : Int)) = false := beq_eq_false_iff_ne.2 (by omega)
            rcases hf3 with hf3 | ⟨hfe, HF⟩
            · subst hf3
              have hbad := readC_none (HP.out.bad hdn (file_no32 he1 HN.out HE.out HN2.out))
              have HB := Lib.hid hbad
              have hff : ((f : Int) == (f : Int)) = true := by simp
              clear hbad hdn
              go_wp2_with fail
              go_ret2
              exact ⟨fun _ => ⟨by rw [HB.out]; rfl, HX.out⟩, fun h => by rw [HB.out] at h; cases h⟩
            · have hff : ((f : Int) == (e : Int)) = false := beq_eq_false_iff_ne.2 (by omega)
              have hfile := file_is he1 HN.out HE.out hf1 hfe HN2.out HF.out
              have hl9 : l.length ≤ 900000 := by have := HP.out.2.1; omega
              have hm0 := ba_mid s (f + 1) e
              have hdl : ((s.take e).drop (f + 1)).length ≤ 1000000 := by simp; omega
              have HNU := Lib.hid (fun W => numberOf_any W ((s.take e).drop (f + 1)) 4 (by decide) hdl)
              have a1 : (0 : Int) ≤ (f : Int) + 1 := by omega
              have a2 : (f : Int) + 1 ≤ (e : Int) := by omega
              have a3 : (e : Int) ≤ (s.length : Int) := by omega
              cases hnb : numB 4 ((s.take e).drop (f + 1)) with
              | none =>
                rw [hnb] at hfile
                have HB := Lib.hid (readC_none (HP.out.bad hdn hfile))
                have hni : numI 4 ((s.take e).drop (f + 1)) = -1 := by unfold numI; rw [hnb]
                rw [hni] at HNU
                generalize (s.take e).drop (f + 1) = dg at *
                clear hfile hdn hdl hnb hni
                go_wp2_with fail
                refine (HNU.out _).mono ?_
                rintro e9 w2 ⟨rfl, rfl⟩
                go_wp2_with fail
                go_ret2
                exact ⟨fun _ => ⟨by rw [HB.out]; rfl, HX.out⟩, fun h => by rw [HB.out] at h; cases h⟩
              | some n =>
                rw [hnb] at hfile
                simp only at hfile
                have hni : numI 4 ((s.take e).drop (f + 1)) = (n : Int) := by unfold numI; rw [hnb]
                rw [hni] at HNU
                have hn9 : n < 10000 := by
                  have h1 := atoi_lt (numB_some hnb).1
                  have h2 : (10 : Int) ^ ((s.take e).drop (f + 1)).length ≤ 10 ^ 4 := by exact_mod_cast Nat.pow_le_pow_right (show 0 < 10 by omega) (numB_some hnb).2.1
                  omega
                generalize (s.take e).drop (f + 1) = dg at *
                have hn0 : ¬ (n : Int) < 0 := by omega
                have hget : (s.drop (e + 1))[n]? = s[e + 1 + n]? := by rw [List.getElem?_drop]
                rw [hget] at hfile
                clear hdl hnb hni hget
                by_cases hr : s.length ≤ e + 1 + n
                · rw [List.getElem?_eq_none hr, if_neg (by simp)] at hfile
                  have HB := Lib.hid (readC_none (HP.out.bad hdn hfile))
                  have hrz : (s.length : Int) ≤ (e : Int) + 1 + (n : Int) := by omega
                  clear hfile hdn hr
                  go_wp2_with fail
                  refine (HNU.out _).mono ?_
                  rintro e9 w2 ⟨rfl, rfl⟩
                  go_wp2_with fail
                  go_ret2
                  exact ⟨fun _ => ⟨by rw [HB.out]; rfl, HX.out⟩, fun h => by rw [HB.out] at h; cases h⟩
                · have hrz : ¬ (s.length : Int) ≤ (e : Int) + 1 + (n : Int) := by omega
                  obtain ⟨c, hc⟩ : ∃ c, s[e + 1 + n]? = some c := ⟨_, List.getElem?_eq_getElem (by omega)⟩
                  have hg := ba_get hc
                  have b1 : (0 : Int) ≤ (e : Int) + 1 + (n : Int) := by omega
                  have b2 : (e : Int) + 1 + (n : Int) < (s.length : Int) := by omega
                  by_cases h10 : c = 10
                  · subst h10
                    rw [hc, if_pos rfl] at hfile
                    have hz : (((10 : UInt8).toNat : Int) == 10) = true := rfl
                    have hnx := HP.out.next hdn hfile
                    simp only at hnx
                    rw [List.drop_drop, show e + 1 + (n + 1) = e + n + 2 by omega] at hnx
                    have hp1 := ba_mid s j f
                    have hp2 := ba_mid s (e + 1) (e + 1 + n)
                    rw [List.drop_take, Nat.add_sub_cancel_left] at hp2
                    have hp3 : (⟨s.toArray⟩ : ByteArray).extract (e + 1) ((e : Int) + 1 + (n : Int)).toNat = ⟨((s.drop (e + 1)).take n).toArray⟩ := by rw [show ((e : Int) + 1 + (n : Int)).toNat = e + 1 + n by omega]; exact hp2
                    have HNX := Lib.hid hnx
                    generalize (s.take f).drop j = p at *
                    generalize (s.drop (e + 1)).take n = x at *
                    have c1 : (j : Int) ≤ (f : Int) := by omega
                    have c2 : (f : Int) ≤ (s.length : Int) := by omega
                    have c3 : (e : Int) + 1 ≤ (e : Int) + 1 + (n : Int) := by omega
                    have c4 : (e : Int) + 1 + (n : Int) ≤ (s.length : Int) := by omega
                    have c5 : (0 : Int) ≤ (j : Int) := by omega
                    have c6 : (0 : Int) ≤ (e : Int) + 1 := by omega
                    have w1 : IntKind.i64.wrap ((e : Int) + 1) = (e : Int) + 1 := IntWalk.i64_in _ (by omega)
                    have w2 : IntKind.i64.wrap ((e : Int) + 1 + (n : Int)) = (e : Int) + 1 + (n : Int) := IntWalk.i64_in _ (by omega)
                    have HL9 := Lib.hid hl9
                    clear hfile hdn hr hc hl9 hnx
                    go_wp2_with fail
                    refine (HNU.out _).mono ?_
                    rintro e9 w9 ⟨rfl, rfl⟩
                    go_wp2_with fail
                    go_region_law (refine step_appS encF 22 78 2 32 _ infoFile Tryz.underlying22 rfl (by decide) encF_len encF_one (by decide) (.tmp 75) (.tmp 89) w.heap.size _ l (p, x) wc.drew _ (by rfl) (by rfl) (by rfl) (by rfl) (by rfl) ((Only.drew _ _ : Ext wc wc.drew).row HR.out (fun _ _ h => h)) (Nat.le_trans HL9.out (by decide)) HX.out.size ?_; intro g5 cap5 w5 ho5 hg5 ha5; have b5 : Ext w w5 := grown_baseT (HX.out.thenDrewN 1) (row_geT HR.out) hg5; have HX5 := Lib.hid b5; have HO5 := Lib.hid ho5; clear ho5 hg5 ha5 b5)
                    clear w1 w2
                    go_wp2_with fail
                    go_roundw
                    case rel => exact ⟨e + n + 2, l ++ [(p, x)], by go_num, by omega, HNX, HX5, Lib.hid (by rw [List.length_append]; exact HO5.out)⟩
                    case measure => simp [intOf]; omega
                  · rw [hc, if_neg (by simpa using h10)] at hfile
                    have HB := Lib.hid (readC_none (HP.out.bad hdn hfile))
                    have hz : ((c.toNat : Int) == 10) = false := beq_eq_false_iff_ne.2 fun h => h10 (UInt8.toNat_inj.1 (by rw [show (10 : UInt8).toNat = 10 from rfl]; omega))
                    have hz2 : ((c.toNat : Int) != 10) = true := by rw [bne, hz]; rfl
                    clear hfile hdn hr hc h10
                    go_wp2_with fail
                    refine (HNU.out _).mono ?_
                    rintro e9 w2 ⟨rfl, rfl⟩
                    go_wp2_with fail
                    go_ret2
                    exact ⟨fun _ => ⟨by rw [HB.out]; rfl, HX.out⟩, fun h => by rw [HB.out] at h; cases h⟩
    · have hltz : ¬ (j : Int) < (s.length : Int) := by omega
      have hwh : filesB (s.length + 1) s = some l := by
        have := HP.out
        rw [List.drop_of_length_le (by omega)] at this
        exact this.whole
      have hl9 : l.length ≤ 900000 := by have := HP.out.2.1; omega
      have HLP : Hid (∀ q ∈ l, q.1.length ≤ 999999) := Lib.hid fun q hq => by have := HP.out.2.2 q hq; omega
      have HNB := Lib.hid (row_geT HR.out)
      have HRD := Lib.hid (RdS.of_row encF_len HR.out)
      obtain ⟨a, cap, rfl, hcap, hml, hc⟩ := RdS.of_row encF_len HR.out
      have HLT : Hid (∀ i, Value.ownBlock (.slice a l.length cap) = some i → i < wr.heap.size) := Lib.hid (fun i hi => by
        rcases HR.out.2 with ⟨h1, _⟩ | ⟨g, _, _, h1, _, hh, _⟩
        · rw [h1] at hi; cases hi
        · rw [h1] at hi; cases hi; exact lt_of_heap hh)
      have HC := Lib.hid hc
      have HWH := Lib.hid hwh
      clear hc hwh
      clear hml HP
      have hx0 : Ext w (wr.alloc (.cells #[.slice none 0 0] 128 (0, 0))) := HX.out.thenAlloc _
      have hr0 : RTree (wr.alloc (.cells #[.slice none 0 0] 128 (0, 0))) wr.heap.size wr.heap.size (.slice none 0 0) [] := ⟨(MapKept.heap_alloc wr _).1, World.ownsRow_nil _ _ _ _⟩
      have hrd0 : RdS 2 encF (wr.alloc (.cells #[.slice none 0 0] 128 (0, 0))) (.slice a l.length cap) l := HRD.out.ext (Only.alloc _ _ _)
      have hsz0 : wr.heap.size ≤ (wr.alloc (.cells #[.slice none 0 0] 128 (0, 0))).heap.size := by simp
      have HSZ : Hid (w.heap.size ≤ wr.heap.size) := Lib.hid HX.out.size
      have HX0 := Lib.hid hx0
      have HR0 := Lib.hid hr0
      have HRD0 := Lib.hid hrd0
      have HSZ0 := Lib.hid hsz0
      clear hx0 hr0 hrd0 hsz0
      go_wp2_with fail
      generalize (wr.alloc (.cells #[.slice none 0 0] 128 (0, 0))) = wt at *
      obtain ⟨m, hm⟩ : ∃ m, m = wr.heap.size := ⟨_, rfl⟩
      rw [← hm] at HR0 HSZ0 HSZ HLT ⊢
      clear hm
      go_loopw [10, 11] (fun i _ wq => ∃ (k : Nat) (slv : Value), k ≤ l.length ∧ i = .int .i64 k ∧ Hid (Ext w wq) ∧ Hid (m ≤ wq.heap.size) ∧ Hid (RdS 2 encF wq (.slice a l.length cap) l) ∧ Hid (RTree wq m m slv (putsT [] (l.take k))) ∧ Hid (putsC [] (l.take k) = 0)) (fun i _ _ => l.length - (intOf i).toNat)
      case atStart => exact ⟨0, _, Nat.zero_le _, rfl, HX0, HSZ0, HRD0, HR0, Lib.hid rfl⟩
      case round =>
        clear HX0 HR0 HRD0 HSZ0 HRD HC
        obtain ⟨k, slv, hk, rfl, HX, HSZ1, HRD, HRT, HC0⟩ := hrel
        by_cases hlt : k < l.length
        · have hltz : (k : Int) < (l.length : Int) := by omega
          have hk0 : (0 : Int) ≤ (k : Int) := by omega
          obtain ⟨a', cap', hv, _, _, hc⟩ := HRD.out
          cases hv
          obtain ⟨b0, off0, rfl, hcell⟩ := hc (by intro h; rw [h] at hlt; simp at hlt)
          obtain ⟨⟨p, x⟩, hq⟩ : ∃ y, l[k]? = some y := ⟨_, List.getElem?_eq_getElem hlt⟩
          have d0 : wr.cell? ⟨b0, off0 + k * 2, none⟩ = some (S p) := hcell k _ hq 0 _ rfl
          have d1 : wr.cell? ⟨b0, off0 + k * 2 + 1, none⟩ = some (S x) := hcell k _ hq 1 _ rfl
          have hb0 : b0 < m := HLT.out b0 rfl
          obtain ⟨T, hT⟩ : ∃ T, T = putsT [] (l.take k) := ⟨_, rfl⟩
          rw [← hT] at HRT
          have hft : Fits T := hT ▸ Fits.puts Fits.nil _
          have hpl : p.length ≤ 999999 := HLP.out _ (List.mem_of_getElem? hq)
          have hput := putM_any wr.drew m m slv T p x (HRT.out.ext (Only.drew _ _)) hft.rising (by have := hft.few; omega) hpl HSZ1.out
          have HST := Lib.hid (putsT_step (T := []) hq)
          have HSC := Lib.hid (fun h => putsC_step (T := []) hq h)
          have HBAD := Lib.hid (fun h => putsC_bad (T := []) hq h)
          have HPUT := Lib.hid hput
          have HT := Lib.hid hT
          have HB0 := Lib.hid hb0
          clear hput hT hb0
          clear hcell hq hc hft hpl
          have e0 : wr.drew.cell? ⟨b0, off0 + k * 2, none⟩ = some (S p) := d0
          have e1 : wr.drew.cell? ⟨b0, off0 + k * 2 + 1, none⟩ = some (S x) := d1
          go_wp2_with fail
          go_region_held3 (fun w' => w'.cell? ⟨b0, off0 + k * 2, none⟩ = some (S p) ∧ w'.cell? ⟨b0, off0 + k * 2 + 1, none⟩ = some (S x)) (first | exact ⟨z0, z1⟩ | exact ⟨e0, e1⟩) (first
            | (go_at_call 88; refine HPUT.out.mono ?_; rintro e w5 ⟨slv5, rfl, hT5, ho5, hn5⟩; have hfar : ∀ i, i < m → ¬ InR m slv i := (fun i hi h => by rcases h with h | h; omega; have := row_geT HRT.out.row i h; omega); have z0 := ho5.cellOf e0 (hfar _ HB0.out); have z1 := ho5.cellOf e1 (hfar _ HB0.out); have HX5 : Hid (Ext w w5) := Lib.hid ((HX.out.thenDrewN 1).trans ho5 (fun _ _ h => h) (fun i hi h => hfar i (Nat.lt_of_lt_of_le hi HSZ.out) h)); have HRD5 : Hid (RdS 2 encF w5 (.slice (some ⟨b0, off0, none⟩) l.length cap) l) := Lib.hid ((HRD.out.ext (Only.drew _ _)).later ho5 (fun i hi => by cases hi; exact hfar _ HB0.out)); have HRT5 := Lib.hid hT5; have HSZ5 : Hid (m ≤ w5.heap.size) := Lib.hid (Nat.le_trans HSZ1.out ho5.size); clear hT5 ho5 hn5 hfar))
          clear z0 z1 e0 e1 d0 d1
          cases hcd : putCode T p x with
          | zero =>
            have HCD := Lib.hid hcd
            clear hcd
            have hz : ¬ (0 : Int) < ((0 : Nat) : Int) := by omega
            go_wp2_with fail
            go_roundw
            case rel => exact ⟨k + 1, slv5, by omega, by go_num, HX5, HSZ5, HRD5, Lib.hid (by rw [HST.out, ← HT.out]; exact HRT5.out), Lib.hid (by rw [HSC.out HC0.out, ← HT.out]; exact HCD.out)⟩
            case measure => simp [intOf]; omega
          | succ c =>
            have hbd : putsC [] l = c + 1 := by rw [HBAD.out HC0.out (by rw [← HT.out, hcd]; exact Nat.succ_ne_zero _), ← HT.out]; exact hcd
            have HE := Lib.hid ((readC_put HWH.out (by rw [hbd]; exact Nat.succ_ne_zero _)).trans hbd)
            have hz : (0 : Int) < ((c + 1 : Nat) : Int) := by omega
            clear hbd
            go_wp2_with fail
            go_ret2
            exact ⟨fun _ => ⟨by rw [HE.out]; rfl, HX5.out⟩, fun h => by rw [HE.out] at h; cases h⟩
        · have hltz : ¬ (k : Int) < (l.length : Int) := by omega
          have ht : l.take k = l := List.take_of_length_le (by omega)
          rw [ht] at HRT HC0
          have HRTT := Lib.hid (readT_of HWH.out)
          clear hk hlt ht
          go_wp2_with fail
          go_loopw [12] (fun i wq => ∃ k : Nat, 1 ≤ k ∧ k ≤ l.length + 1 ∧ i = .int .i64 k ∧ Hid (Ext wr wq) ∧ Hid (∀ (i : Nat) x y, i + 1 < k → l[i]? = some x → l[i + 1]? = some y → x.1 < y.1)) (fun i _ => l.length + 1 - (intOf i).toNat)
          case atStart => exact ⟨1, Nat.le_refl _, by omega, rfl, Lib.hid (Only.refl _ _), Lib.hid (fun i x y h => absurd h (by omega))⟩
          case round =>
            obtain ⟨k, hk1, hk, rfl, HY, HRI⟩ := hrel
            have HX3 := Lib.hid (HX.out.then HY.out)
            by_cases hlt : k < l.length
            · have hltz : (k : Int) < (l.length : Int) := by omega
              have hk0 : (0 : Int) ≤ (k : Int) := by omega
              obtain ⟨a', cap', hv, _, _, hc⟩ := (HRD.out.ext HY.out)
              cases hv
              obtain ⟨b0, off0, rfl, hcell⟩ := hc (by intro h; rw [h] at hlt; simp at hlt)
              obtain ⟨i, hi⟩ : ∃ i, k = i + 1 := ⟨k - 1, by omega⟩
              obtain ⟨⟨p, x⟩, hq⟩ : ∃ y, l[k]? = some y := ⟨_, List.getElem?_eq_getElem hlt⟩
              obtain ⟨⟨p', x'⟩, hq'⟩ : ∃ y, l[i]? = some y := ⟨_, List.getElem?_eq_getElem (by omega)⟩
              have d0 : wr.cell? ⟨b0, off0 + k * 2, none⟩ = some (S p) := hcell k _ hq 0 _ rfl
              have d2 : wr.cell? ⟨b0, off0 + i * 2, none⟩ = some (S p') := hcell i _ hq' 0 _ rfl
              have hil : (i : Int) < (l.length : Int) := by omega
              have hi0 : (0 : Int) ≤ (i : Int) := by omega
              have hwk : IntKind.i64.wrap ((k : Int) - 1) = (i : Int) := by rw [show (k : Int) - 1 = (i : Int) by omega]; exact IntWalk.i64_in _ (by omega)
              have hbl := bytesLess_eq p p'
              have HQ := Lib.hid hq
              have HQQ := Lib.hid (hq')
              have HI := Lib.hid hi
              clear hq hq' hi
              clear hcell hc
              by_cases hpp : p' < p
              · rw [decide_eq_false (List.lt_asymm hpp)] at hbl
                have hbe : (p == p') = false := beq_eq_false_iff_ne.2 fun e => ltB_irrefl _ (e ▸ hpp)
                have HPP := Lib.hid hpp
                clear hpp
                go_wp2_with fail
                go_quiet (fail)
                clear hwk
                go_wp2_with fail
                go_roundw
                case rel => exact ⟨k + 1, by omega, by omega, by go_num, Lib.hid (HY.out.thenDrewN _), Lib.hid (fun i2 x2 y2 h2 g1 g2 => by
                  rcases Nat.lt_succ_iff_lt_or_eq.1 h2 with h | h
                  · exact HRI.out i2 x2 y2 h g1 g2
                  · have := HI.out
                    obtain rfl : i2 = i := by omega
                    rw [HQQ.out] at g1
                    rw [← HI.out, HQ.out] at g2
                    cases g1; cases g2
                    exact HPP.out)⟩
                case measure => simp [intOf]; omega
              · have hor : (Op.bytesLess p p' || p == p') = true := by
                  rw [hbl]
                  by_cases e : p = p'
                  · simp [e]
                  · have : p < p' := Classical.byContradiction fun h => e (ltB_tri h hpp)
                    simp [this]
                have HE := Lib.hid (readC_rise HWH.out HC0.out (fun h => hpp (h.next HQQ.out (HI.out ▸ HQ.out))))
                clear hbl hpp
                go_wp2_with fail
                go_quiet (fail)
                clear hwk
                go_wp2_with fail
                go_ret2
                exact ⟨fun _ => ⟨by rw [HE.out]; rfl, HX3.out.thenDrewN _⟩, fun h => by rw [HE.out] at h; cases h⟩
            · have hltz : ¬ (k : Int) < (l.length : Int) := by omega
              have hri : Rising l := rise_next fun i x y h1 h2 => HRI.out i x y (by have := (List.getElem?_eq_some_iff.1 h2).1; omega) h1 h2
              have HRR := Lib.hid (readC_ok HWH.out HC0.out hri)
              clear hri hlt
              go_wp2_with fail
              go_ret2
              refine ⟨fun h => absurd HRR.out h, fun _ => ⟨m, slv, rfl, ?_, HX3.out, HSZ.out⟩⟩
              rw [HRTT.out]
              exact (HRT.out.ext HY.out).down HSZ.out
end Go.Proofs.YtnmhaipjfpongabGreatDoor

/- Texts of this seat laid together for one claim: Z34, Z35. No condition of its own: what each proves stands with its theorems. -/
import Derived.Test.YtnmhaipjfpongacGreatDoorPL33
import Derived.Test.YtnmhaipjfpongacGreatDoorPL31
namespace Go.Proofs.YtnmhaipjfpongacGreatDoor
open Go.ChangeShapes Go.WideShapes Go.ChangeAt Go.RowKit

def mxOne {α : Type} (f : α → Option Nat) (n : Nat) (a : α) : Nat := match f a with | some k => max n (k + 1) | none => n
theorem fold_mx {α : Type} (f : α → Option Nat) : ∀ (l : List α) (n : Nat), n ≤ l.foldl (mxOne f) n ∧ (∀ a ∈ l, ∀ k, f a = some k → k + 1 ≤ l.foldl (mxOne f) n) ∧ (l.foldl (mxOne f) n = n ∨ ∃ a ∈ l, ∃ k, f a = some k ∧ l.foldl (mxOne f) n = k + 1)
 | [], n => ⟨Nat.le_refl _, fun a h => (by cases h), .inl rfl⟩
 | a :: l, n => by
  obtain ⟨h1, h2, h3⟩ := fold_mx f l (mxOne f n a)
  have hn : n ≤ mxOne f n a := by unfold mxOne; split <;> omega
  refine ⟨Nat.le_trans hn h1, fun b hb k hk => ?_, ?_⟩
  ·rcases List.mem_cons.1 hb with rfl | hb
   ·refine Nat.le_trans ?_ h1
    unfold mxOne
    rw [hk]
    exact Nat.le_max_right _ _
   ·exact h2 b hb k hk
  ·rcases h3 with h3 | ⟨b, hb, k, hk, h3⟩
   ·show List.foldl (mxOne f) (mxOne f n a) l = n ∨ _
    cases hf : f a with
    | none =>
     left
     rw [h3]
     unfold mxOne
     rw [hf]
    | some k =>
     have e : mxOne f n a = max n (k + 1) := by unfold mxOne; rw [hf]
     rcases Nat.le_total n (k + 1) with h | h
     ·right
      exact ⟨a, .head _, k, hf, by show List.foldl (mxOne f) (mxOne f n a) l = _; rw [h3, e, Nat.max_eq_right h]⟩
     ·left
      rw [h3, e, Nat.max_eq_left h]
   ·exact .inr ⟨b, .tail _ hb, k, hk, h3⟩
theorem fold_same {α β : Type} {f : α → Option Nat} {g : β → Option Nat} {l : List α} {m : List β} (h1 : ∀ a ∈ l, ∀ k, f a = some k → ∃ b ∈ m, g b = some k) (h2 : ∀ b ∈ m, ∀ k, g b = some k → ∃ a ∈ l, f a = some k) : l.foldl (mxOne f) 0 = m.foldl (mxOne g) 0 := by
 have half : ∀ {α β : Type} {f : α → Option Nat} {g : β → Option Nat} {l : List α} {m : List β}, (∀ a ∈ l, ∀ k, f a = some k → ∃ b ∈ m, g b = some k) → l.foldl (mxOne f) 0 ≤ m.foldl (mxOne g) 0 := by
  intro α β f g l m h
  rcases (fold_mx f l 0).2.2 with e | ⟨a, ha, k, hk, e⟩
  ·rw [e]; exact Nat.zero_le _
  ·obtain ⟨b, hb, hg⟩ := h a ha k hk
   rw [e]
   exact (fold_mx g m 0).2.1 b hb k hg
 exact Nat.le_antisymm (half h1) (half h2)
def needV (l : List Rule) (W : Nat → Nat) (i k : Nat) : Option Nat := if needB l i k = true then some (W k) else none
def lvlOf (l : List Rule) (W : Nat → Nat) (m i : Nat) : Nat := (List.range m).foldl (mxOne (needV l W i)) 0
theorem lvlOf_step (l : List Rule) (W : Nat → Nat) (m i : Nat) : lvlOf l W (m + 1) i = if needB l i m = true then max (lvlOf l W m i) (W m + 1) else lvlOf l W m i := by
 unfold lvlOf
 rw [List.range_succ, List.foldl_append]
 show mxOne (needV l W i) _ m = _
 unfold mxOne needV
 by_cases h : needB l i m = true
 ·rw [if_pos h, if_pos h]
 ·rw [if_neg h, if_neg h]
theorem lvN_mx (L : List (B × Nat)) (ins : List B) : lvN L ins = ins.foldl (mxOne fun s => L.lookup s) 0 := rfl

theorem lookup_cons_iff {L : List (B × Nat)} {a : B} {n : Nat} {s : B} {k : Nat} : ((a, n) :: L.filter (fun p => !(p.1 == a))).lookup s = some k ↔ (s = a ∧ k = n) ∨ (s ≠ a ∧ L.lookup s = some k) := by
 refine ⟨lookup_cons_filter, fun h => ?_⟩
 rw [List.lookup_cons]
 rcases h with ⟨rfl, rfl⟩ | ⟨hs, h⟩
 ·rw [beq_self_eq_true]
 ·have e : (s == a) = false := beq_eq_false_iff_ne.2 hs
  rw [e]
  have key : ∀ L : List (B × Nat), (L.filter (fun p => !(p.1 == a))).lookup s = L.lookup s := by
   intro L
   induction L with
   | nil => rfl
   | cons p L ih =>
    obtain ⟨c, x⟩ := p
    by_cases hc : c = a
    ·subst hc
     rw [List.filter_cons_of_neg (by simp), ih, List.lookup_cons, e]
    ·rw [List.filter_cons_of_pos (by simpa using hc), List.lookup_cons, List.lookup_cons, ih]
  show (L.filter _).lookup s = some k
  rw [key]
  exact h
theorem sum_set {i : Nat} : ∀ {rows : List (List Nat)} {n : Nat} {r : List Nat}, rows[n]? = some r → ((rows.set n (r ++ [i])).map List.length).sum = (rows.map List.length).sum + 1
 | [], n, r, h => by simp at h
 | a :: rows, 0, r, h => by
  have : a = r := by simpa using h
  subst this
  simp only [List.set_cons_zero, List.map_cons, List.sum_cons, List.length_append, List.length_singleton]
  omega
 | a :: rows, n + 1, r, h => by
  have ih := sum_set (i := i) (rows := rows) (n := n) (r := r) (by simpa using h)
  simp only [List.set_cons_succ, List.map_cons, List.sum_cons]
  omega

def lvV (l : List Rule) (o : List Nat) (i : Nat) : Nat := lvN (lvFold l (o.take (o.idxOf i))).1 (ruleAt l i).ins
structure LvI (l : List Rule) (o : List Nat) (j : Nat) (st : List (B × Nat) × List (List Nat)) : Prop where
 look : ∀ s v, st.1.lookup s = some v ↔ ∃ i ∈ o.take j, (ruleAt l i).out = s ∧ lvV l o i = v
 rows : ∀ (k : Nat) r i, st.2[k]? = some r → i ∈ r → i ∈ o.take j ∧ lvV l o i = k
 good : ∀ r ∈ st.2, r ≠ [] ∧ r.Nodup
 sum : (st.2.map List.length).sum = j
theorem out_inj {l : List Rule} (hn : (l.map Rule.out).Nodup) {i k : Nat} (hi : i < l.length) (hk : k < l.length) (h : (ruleAt l i).out = (ruleAt l k).out) : i = k :=
 nodup_inj hn (i := i) (j := k) (x := (ruleAt l i).out) (by rw [List.getElem?_map, ruleAt_eq hi]; rfl) (by rw [List.getElem?_map, ruleAt_eq hk, h]; rfl)
theorem idx_of_at {o : List Nat} (hn : o.Nodup) {j i : Nat} (h : o[j]? = some i) : o.idxOf i = j := by
 have hm := List.mem_of_getElem? h
 have hl := List.idxOf_lt_length_of_mem hm
 exact nodup_inj hn (i := o.idxOf i) (j := j) (x := i) (by rw [List.getElem?_eq_getElem hl, List.getElem_idxOf]) h
theorem take_not {o : List Nat} (hn : o.Nodup) {j i : Nat} (h : o[j]? = some i) : i ∉ o.take j := fun hm => by
 obtain ⟨k, hk⟩ := List.getElem?_of_mem hm
 have hkj : k < j := by
  have := (List.getElem?_eq_some_iff.1 hk).1
  rw [List.length_take] at this
  omega
 rw [List.getElem?_take_of_lt hkj] at hk
 have := nodup_inj hn hk h
 omega
theorem lvI_fold {l : List Rule} {o : List Nat} {is : Nat → Bool} (hr : (l.map Rule.out).Nodup) (ho : Ordered l.length (needB l) is o) : ∀ j, j ≤ o.length → LvI l o j (lvFold l (o.take j))
 | 0, _ => by
  have : lvFold l (o.take 0) = ([], []) := rfl
  rw [this]
  exact ⟨fun s v => ⟨fun h => (by cases h), fun ⟨i, hi, _⟩ => (by simp at hi)⟩, fun k r i h => (by simp at h), fun r h => (by cases h), rfl⟩
 | j + 1, h => by
  have ih := lvI_fold hr ho j (by omega)
  obtain ⟨i, hi⟩ : ∃ i, o[j]? = some i := ⟨_, List.getElem?_eq_getElem h⟩
  have hok := lvOk_fold (l := l) o j (by omega)
  have hV : lvV l o i = lvN (lvFold l (o.take j)).1 (ruleAt l i).ins := by unfold lvV; rw [idx_of_at ho.nodup hi]
  have hle := hok.le (ruleAt l i).ins
  rw [lvFold_step hi]
  unfold lvStep
  rw [← hV] at hle ⊢
  have hil := ho.lt i (List.mem_of_getElem? hi)
  have hni := take_not ho.nodup hi
  have ht : o.take (j + 1) = o.take j ++ [i] := by rw [List.take_add_one, hi]; rfl
  generalize lvFold l (o.take j) = st at ih hle
  obtain ⟨L, rows⟩ := st
  refine ⟨fun s v => ?_, fun k r x hk hx => ?_, fun r hr' => ?_, ?_⟩
  ·rw [ht, lookup_cons_iff]
   constructor
   ·rintro (⟨rfl, rfl⟩ | ⟨_, h2⟩)
    ·exact ⟨i, List.mem_append_right _ (.head _), rfl, rfl⟩
    ·obtain ⟨x, hx, h3, h4⟩ := (ih.look s v).1 h2
     exact ⟨x, List.mem_append_left _ hx, h3, h4⟩
   ·rintro ⟨x, hx, rfl, rfl⟩
    rcases List.mem_append.1 hx with hx | hx
    ·right
     have hxl := ho.lt x (List.mem_of_mem_take hx)
     exact ⟨fun e => hni (by rw [← out_inj hr hxl hil e]; exact hx), (ih.look _ _).2 ⟨x, hx, rfl, rfl⟩⟩
    ·rw [List.mem_singleton] at hx
     subst hx
     exact .inl ⟨rfl, rfl⟩
  ·rw [ht]
   change (lvPut rows _ i)[k]? = some r at hk
   unfold lvPut at hk
   split at hk
   ·rename_i hn
    rcases Nat.lt_or_ge k rows.length with hkl | hkl
    ·rw [List.getElem?_append_left hkl] at hk
     obtain ⟨h1, h2⟩ := ih.rows k r x hk hx
     exact ⟨List.mem_append_left _ h1, h2⟩
    ·rw [List.getElem?_append_right hkl] at hk
     rcases Nat.eq_zero_or_pos (k - rows.length) with h0 | h0
     ·rw [h0] at hk
      have : r = [i] := by simpa using hk.symm
      subst this
      rw [List.mem_singleton] at hx
      subst hx
      exact ⟨List.mem_append_right _ (.head _), by omega⟩
     ·rw [List.getElem?_eq_none (by rw [List.length_singleton]; omega)] at hk; cases hk
   ·rename_i hn
    by_cases hkn : k = lvV l o i
    ·subst hkn
     have hlt : lvV l o i < rows.length := Nat.lt_of_le_of_ne hle hn
     rw [List.getElem?_set_self hlt] at hk
     have hk := Option.some.inj hk
     subst hk
     rcases List.mem_append.1 hx with hx | hx
     ·rw [List.getD_eq_getElem?_getD, List.getElem?_eq_getElem hlt] at hx
      obtain ⟨h1, h2⟩ := ih.rows _ _ x (List.getElem?_eq_getElem hlt) hx
      exact ⟨List.mem_append_left _ h1, h2⟩
     ·rw [List.mem_singleton] at hx
      subst hx
      exact ⟨List.mem_append_right _ (.head _), rfl⟩
    ·rw [List.getElem?_set_ne (Ne.symm hkn)] at hk
     obtain ⟨h1, h2⟩ := ih.rows k r x hk hx
     exact ⟨List.mem_append_left _ h1, h2⟩
  ·change r ∈ lvPut rows _ i at hr'
   unfold lvPut at hr'
   split at hr'
   ·rcases List.mem_append.1 hr' with hr' | hr'
    ·exact ih.good r hr'
    ·rw [List.mem_singleton] at hr'
     subst hr'
     exact ⟨by simp, by simp⟩
   ·rename_i hn
    have hlt : lvV l o i < rows.length := Nat.lt_of_le_of_ne hle hn
    rcases List.mem_or_eq_of_mem_set hr' with hr' | rfl
    ·exact ih.good r hr'
    ·refine ⟨by simp, ?_⟩
     rw [List.getD_eq_getElem?_getD, List.getElem?_eq_getElem hlt]
     have hg := ih.good _ (List.getElem_mem hlt)
     refine List.nodup_append.2 ⟨hg.2, by simp, fun a ha b hb e => ?_⟩
     rw [List.mem_singleton] at hb
     subst hb
     subst e
     exact hni (ih.rows _ _ a (List.getElem?_eq_getElem hlt) ha).1
  ·show ((lvPut rows _ i).map List.length).sum = j + 1
   have hs : (rows.map List.length).sum = j := ih.sum
   unfold lvPut
   split
   ·rw [List.map_append, List.sum_append, hs]; rfl
   ·rename_i hn
    have hlt : lvV l o i < rows.length := Nat.lt_of_le_of_ne hle hn
    rw [List.getD_eq_getElem?_getD, List.getElem?_eq_getElem hlt]
    show ((rows.set _ (rows[lvV l o i] ++ [i])).map List.length).sum = _
    rw [sum_set (List.getElem?_eq_getElem hlt), hs]
theorem lvV_is {l : List Rule} {o : List Nat} {is : Nat → Bool} (hr : (l.map Rule.out).Nodup) (ho : Ordered l.length (needB l) is o) {i : Nat} (hi : i ∈ o) : lvV l o i = lvlOf l (lvV l o) l.length i := by
 obtain ⟨j, hj⟩ := List.getElem?_of_mem hi
 have hjl := (List.getElem?_eq_some_iff.1 hj).1
 have I := lvI_fold hr ho j (Nat.le_of_lt hjl)
 have hV : lvV l o i = lvN (lvFold l (o.take j)).1 (ruleAt l i).ins := by unfold lvV; rw [idx_of_at ho.nodup hj]
 have hil := ho.lt i hi
 rw [hV, lvN_mx]
 unfold lvlOf
 have hnd : ∀ k, needB l i k = true ↔ k < l.length ∧ (ruleAt l k).out ∈ (ruleAt l i).ins := fun k => by
  constructor
  ·intro h
   have hk := (needB_lt h).2
   refine ⟨hk, ?_⟩
   unfold needB at h
   rw [ruleAt_eq hil, ruleAt_eq hk] at h
   simpa using h
  ·rintro ⟨hk, h⟩
   unfold needB
   rw [ruleAt_eq hil, ruleAt_eq hk]
   simpa using h
 refine fold_same (fun s hs k hk => ?_) (fun x hx k hk => ?_)
 ·obtain ⟨x, hx, rfl, rfl⟩ := (I.look s k).1 hk
  have hxl := ho.lt x (List.mem_of_mem_take hx)
  exact ⟨x, List.mem_range.2 hxl, by unfold needV; rw [if_pos ((hnd x).2 ⟨hxl, hs⟩)]⟩
 ·unfold needV at hk
  by_cases h : needB l i x = true
  ·rw [if_pos h] at hk
   have hxl := ((hnd x).1 h).1
   have hm := ho.need j i hj x hxl h
   exact ⟨(ruleAt l x).out, ((hnd x).1 h).2, (I.look _ _).2 ⟨x, hm, rfl, Option.some.inj hk⟩⟩
  ·rw [if_neg h] at hk; cases hk
theorem sortN_strict {r : List Nat} (h : r.Nodup) : (sortN r).Pairwise (· < ·) := by
 have h1 : (sortN r).Pairwise fun x y => decide (x ≤ y) = true := List.pairwise_mergeSort (fun a b c h1 h2 => by simp only [decide_eq_true_eq] at *; omega) (fun a b => by simp only [Bool.or_eq_true, decide_eq_true_eq]; omega) r
 have h2 : (sortN r).Nodup := (List.mergeSort_perm r _).nodup_iff.2 h
 exact (h1.and h2).imp fun ⟨a, b⟩ => Nat.lt_of_le_of_ne (of_decide_eq_true a) b
theorem sortN_mem {r : List Nat} {x : Nat} : x ∈ sortN r ↔ x ∈ r := (List.mergeSort_perm r _).mem_iff

set_option maxRecDepth 100000 in
set_option maxHeartbeats 4000000 in
theorem level_step (w0 : World) (lv : Value) (l : List Rule) (o : List Nat) (W : Nat → Nat) (rk : Nat → Nat) (n : Nat) (hl : RdR w0 lv l) (hll : l.length ≤ 1000) (hlt : ∀ i ∈ o, i < l.length) (hW : ∀ i ∈ o, W i = lvlOf l W l.length i) (hb : ∀ i ∈ o, W i ≤ 1000) (hd : ∀ i ∈ o, ∀ k, needB l i k = true → k ∈ o ∧ rk k < rk i)
  (hof : ∀ i ∈ o, rk i < n → ∀ w, Ext w0 w → Calls Tryz.prog 48 #[lv, I i] w (RetE (IN (W i)) w))
  (i : Nat) (hi : i ∈ o) (hrk : rk i < n + 1) (w : World) (hx : Ext w0 w) :
  Calls Tryz.prog 48 #[lv, I i] w (RetE (IN (W i)) w) := by
 have HRD := Lib.hid hl
 have HX0 := Lib.hid hx
 have HWI := Lib.hid (hW i hi)
 have HB := Lib.hid hb
 have hil := hlt i hi
 have HDN := Lib.hid (fun k (h : needB l i k = true) => (show ∀ w, Ext w0 w → Calls Tryz.prog 48 #[lv, I k] w (RetE (IN (W k)) w) from by
  obtain ⟨h1, h2⟩ := hd i hi k h
  exact hof k h1 (by omega)))
 have HDO := Lib.hid (fun k (h : needB l i k = true) => (hd i hi k h).1)
 have HND := Lib.hid (fun (k : Nat) (hk : k < l.length) (wq : World) (hx : Ext w0 wq) => needsRule_any wq lv l i k hil hk (hl.ext hx))
 obtain ⟨X, hX⟩ : ∃ X, X = W i := ⟨_, rfl⟩
 rw [← hX] at HWI
 rw [← hX]
 obtain ⟨a, cap, rfl, _, _, _⟩ := hl
 clear hW hb hd hof hrk hx hX hi hlt hil
 go_enter Tryz.func48, Tryz.ntmps48
 go_wp2_with fail
 go_loopw [5, 6, 7] (fun n k _ wr => ∃ (j nn : Nat), j ≤ l.length ∧ n = .int .i64 nn ∧ k = .int .i64 j ∧ Hid (nn = lvlOf l W j i) ∧ Hid (Ext w wr) ∧ Hid (nn ≤ 1001)) (fun _ k _ _ => l.length - (intOf k).toNat)
 case atStart => exact ⟨0, 0, Nat.zero_le _, rfl, rfl, Lib.hid rfl, Lib.hid (Only.refl _ _), Lib.hid (Nat.zero_le _)⟩
 case round =>
  obtain ⟨j, nn, hj, rfl, rfl, HN, HX, HNB⟩ := hrel
  by_cases hlt : j < l.length
  ·have hltz : (j : Int) < (l.length : Int) := by omega
   have HNR := Lib.hid (HND.out j hlt wr (HX0.out.then HX.out))
   have HST := Lib.hid (lvlOf_step l W j i)
   rw [← HN.out] at HST
   have HLT := Lib.hid hlt
   clear hlt HN
   cases hn : needB l i j with
   | false =>
    rw [hn] at HNR HST
    have HST2 : Hid (nn = lvlOf l W (j + 1) i) := Lib.hid (by rw [HST.out]; rfl)
    clear hn HST
    go_wp2_with fail
    refine HNR.out.mono ?_
    rintro e w1 ⟨rfl, ho⟩
    have HX1 := Lib.hid (HX.out.then ho)
    clear ho
    go_wp2_with fail
    go_roundw
    case rel => exact ⟨j + 1, nn, HLT.out, by first | trivial | go_num, by go_num, HST2, HX1, HNB⟩
    case measure => have := HLT.out; simp [intOf]; omega
   | true =>
    have HCL := Lib.hid (HDN.out j hn)
    have hbj := HB.out j (HDO.out j hn)
    rw [hn] at HNR HST
    rw [if_pos rfl] at HST
    obtain ⟨d, hd⟩ : ∃ d, d = W j := ⟨_, rfl⟩
    rw [← hd] at HCL HST hbj
    have hdz : (d : Int) ≤ 1000 := by omega
    have HBJ := Lib.hid hbj
    clear hn hd hbj
    go_wp2_with fail
    refine HNR.out.mono ?_
    rintro e w1 ⟨rfl, ho⟩
    have HX1 := Lib.hid (HX.out.then ho)
    clear ho
    go_wp2_with fail
    refine (HCL.out w1 (HX0.out.then HX1.out)).mono ?_
    rintro e w2 ⟨rfl, ho⟩
    have HX2 := Lib.hid (HX1.out.then ho)
    clear ho
    by_cases hgt : nn < d + 1
    ·have hgz : (nn : Int) < (d : Int) + 1 := by omega
     have HST2 : Hid (d + 1 = lvlOf l W (j + 1) i) := Lib.hid (by rw [HST.out]; omega)
     clear hgt
     go_wp2_with fail
     go_roundw
     case rel => exact ⟨j + 1, d + 1, HLT.out, by go_num, by go_num, HST2, HX2, Lib.hid (by have := HBJ.out; omega)⟩
     case measure => have := HLT.out; simp [intOf]; omega
    ·have hgz : ¬ (nn : Int) < (d : Int) + 1 := by omega
     have HST2 : Hid (nn = lvlOf l W (j + 1) i) := Lib.hid (by rw [HST.out]; omega)
     clear hgt
     go_wp2_with fail
     go_roundw
     case rel => exact ⟨j + 1, nn, HLT.out, by first | trivial | go_num, by go_num, HST2, HX2, HNB⟩
     case measure => have := HLT.out; simp [intOf]; omega
  ·have hltz : ¬ (j : Int) < (l.length : Int) := by omega
   obtain rfl : j = l.length := by omega
   have HE : Hid (nn = X) := Lib.hid (by rw [HN.out, HWI.out])
   go_wp2_with fail
   go_ret
   exact ⟨by rw [HE.out]; rfl, HX.out⟩
theorem level_any (w0 : World) (lv : Value) (l : List Rule) (o : List Nat) (W : Nat → Nat) (rk : Nat → Nat) (hl : RdR w0 lv l) (hll : l.length ≤ 1000) (hlt : ∀ i ∈ o, i < l.length) (hW : ∀ i ∈ o, W i = lvlOf l W l.length i) (hb : ∀ i ∈ o, W i ≤ 1000) (hd : ∀ i ∈ o, ∀ k, needB l i k = true → k ∈ o ∧ rk k < rk i) :
  ∀ (n : Nat) (i : Nat), i ∈ o → rk i < n → ∀ w, Ext w0 w → Calls Tryz.prog 48 #[lv, I i] w (RetE (IN (W i)) w)
 | 0, _, _, h => by omega
 | n + 1, i, hi, hrk => fun w hx => level_step w0 lv l o W rk n hl hll hlt hW hb hd (fun j hj hrj => level_any w0 lv l o W rk hl hll hlt hW hb hd n j hj hrj) i hi hrk w hx

set_option maxRecDepth 100000 in
set_option maxHeartbeats 2000000 in
theorem faulted3_any (w : World) (v : Value) (f g : Nat × Int) (h : ∀ w1, Ext w w1 → Calls Tryz.prog 96 #[v] w1 (CodeIs w1 (f.1 : Int) f.2)) (hfg : f = g) :
  Calls Tryz.prog 47 #[v, AggF g] w (RetE (.bool true) w) := by
 subst hfg
 have hx0 : Ext w (w.alloc (.cells #[IN f.1, I f.2] 37 (0, 0))) := Only.alloc _ _ _
 have hb := (MapKept.heap_alloc w (.cells #[IN f.1, I f.2] 37 (0, 0))).1
 have HB := Lib.hid hb
 have HX0 := Lib.hid hx0
 have HC := Lib.hid (h _ hx0)
 clear h hb hx0
 obtain ⟨c, t⟩ := f
 cases h0 : ((c : Int) == 0)
 all_goals
  go_enter Tryz.func47, Tryz.ntmps47
  go_wp2_with fail
  refine HC.out.mono ?_
  rintro e w1 ⟨rfl, ho⟩
  have c0 := ho.cellOf ((cell_of_heap HB.out 0).trans rfl) (fun h => h)
  have c1 := ho.cellOf ((cell_of_heap HB.out 1).trans rfl) (fun h => h)
  have HX1 := Lib.hid (HX0.out.then ho)
  clear ho
  go_wp2_with fail
  go_ret
  exact ⟨by simp, HX1.out⟩
end Go.Proofs.YtnmhaipjfpongacGreatDoor

namespace Go.Proofs.YtnmhaipjfpongacGreatDoor
open Go.ChangeShapes Go.WideShapes Go.ChangeAt Go.RowKit

structure LvGood (l : List Rule) (o : List Nat) (E : List (List Nat)) : Prop where
 lt : ∀ i ∈ o, i < l.length
 lvl : ∀ i ∈ o, lvV l o i = lvlOf l (lvV l o) l.length i
 le : ∀ i ∈ o, lvV l o i ≤ 1000
 down : ∀ i ∈ o, ∀ k, needB l i k = true → k ∈ o ∧ o.idxOf k < o.idxOf i
 row : ∀ (k : Nat) r, E[k]? = some r → r ≠ [] ∧ (∀ i ∈ r, i ∈ o ∧ lvV l o i = k) ∧ r.Pairwise (· < ·) ∧ r.length ≤ 1000
 sum : (E.map List.length).sum = l.length
 few : E.length ≤ 1000
theorem manyB_all (n : Nat) : manyB n (fun _ => true) = n := by
 unfold manyB
 rw [List.filter_eq_self.2 (by simp), List.length_range]
theorem sum_sorted : ∀ rows : List (List Nat), ((rows.map sortN).map List.length).sum = (rows.map List.length).sum
 | [] => rfl
 | r :: rows => by
  rw [List.map_cons, List.map_cons, List.sum_cons, List.map_cons, List.sum_cons, sum_sorted rows, show (sortN r).length = r.length from (List.mergeSort_perm r _).length_eq]
theorem levels_good {l : List Rule} (h : (orderFault l).1 = 0) : LvGood l (orderOut l) (levelsL l) := by
 obtain ⟨hR, hol⟩ := orderFault_okL h
 obtain ⟨o, ho⟩ : ∃ o, o = orderOut l := ⟨_, rfl⟩
 have hE : levelsL l = (lvFold l o).2.map sortN := by unfold levelsL; rw [ho]
 rw [hE, ← ho]
 rw [← ho] at hol
 obtain ⟨hord, hlen⟩ := orderB_some hol
 rw [manyB_all] at hlen
 have I := lvI_fold hR.2.2 hord o.length (Nat.le_refl _)
 have hok := lvOk_fold (l := l) o o.length (Nat.le_refl _)
 rw [List.take_length] at I hok
 have hl40 := hR.1
 have hrows : ∀ (k : Nat) r i, (lvFold l o).2[k]? = some r → i ∈ r → i ∈ o ∧ lvV l o i = k := fun k r i hk hi => by
  have := I.rows k r i hk hi
  rwa [List.take_length] at this
 have hle : ∀ i ∈ o, lvV l o i ≤ 1000 := fun i hi => by
  obtain ⟨j, hj⟩ := List.getElem?_of_mem hi
  have hjl := (List.getElem?_eq_some_iff.1 hj).1
  have hok2 := lvOk_fold (l := l) o j (Nat.le_of_lt hjl)
  have h1 := hok2.le (ruleAt l i).ins
  have h2 := hok2.few
  have hV : lvV l o i = lvN (lvFold l (o.take j)).1 (ruleAt l i).ins := by unfold lvV; rw [idx_of_at hord.nodup hj]
  omega
 refine ⟨hord.lt, fun i hi => lvV_is hR.2.2 hord hi, hle, fun i hi k hn => ?_, fun k r hk => ?_, ?_, ?_⟩
 ·obtain ⟨j, hj⟩ := List.getElem?_of_mem hi
  have hkl := (needB_lt hn).2
  have hm := hord.need j i hj k hkl hn
  refine ⟨List.mem_of_mem_take hm, ?_⟩
  rw [idx_of_at hord.nodup hj]
  obtain ⟨t, ht, e⟩ := List.mem_take_iff_getElem.1 hm
  have h2 : o[t]? = some k := by rw [← e]; exact List.getElem?_eq_getElem (by omega)
  rw [idx_of_at hord.nodup h2]
  omega
 ·rw [List.getElem?_map] at hk
  cases hr : (lvFold l o).2[k]? with
  | none => rw [hr] at hk; cases hk
  | some q =>
   rw [hr] at hk
   obtain rfl := Option.some.inj hk
   have hg := I.good q (List.mem_of_getElem? hr)
   refine ⟨fun e => hg.1 ?_, fun i hi => hrows k q i hr (sortN_mem.1 hi), sortN_strict hg.2, ?_⟩
   ·have := congrArg List.length e
    rw [show (sortN q).length = q.length from (List.mergeSort_perm q _).length_eq] at this
    exact List.eq_nil_of_length_eq_zero this
   ·rw [show (sortN q).length = q.length from (List.mergeSort_perm q _).length_eq]
    have := hok.short q (List.mem_of_getElem? hr)
    omega
 ·rw [sum_sorted, I.sum]; exact hlen
 ·rw [List.length_map]
  have := hok.few
  omega
theorem sumL_take {E : List (List Nat)} {k : Nat} {r : List Nat} (h : E[k]? = some r) : ((E.take (k + 1)).map List.length).sum = ((E.take k).map List.length).sum + r.length := by
 rw [List.take_add_one, h, Option.toList_some, List.map_append, List.sum_append]
 rfl
theorem sumL_le {E : List (List Nat)} (k : Nat) : ((E.take k).map List.length).sum ≤ (E.map List.length).sum := by
 conv => rhs; rw [← List.take_append_drop k E]
 rw [List.map_append, List.sum_append]
 omega
end Go.Proofs.YtnmhaipjfpongacGreatDoor

/- Texts of this seat laid together for one claim: Y1, V12, W2, W8, Y3, Y6. No condition of its own: what each proves stands with its theorems. -/
import Derived.Maps.AppendAt
import Derived.Test.YtnmhaipjfpongacGreatDoorPL8
import Derived.Ground.GgzProg
import Derived.Ground.SlgmProg
import Derived.Shelf.SlIter.Nil
import Derived.Shelf.SortM.Plain
import Derived.Shelf.SortM.SortNone
import Derived.Test.YtnmhaipjfpongacGreatDoorProg
import Derived.Test.YtnmhaipjfpongacGreatDoorPL11
import Derived.Test.YtnmhaipjfpongacGreatDoorPL9
import Derived.Deep.AppendLies
import Derived.Deep.RegionHeld3
import Derived.Deep.RegionLaw
import Derived.Test.YtnmhaipjfpongacGreatDoorPL2
namespace Go.Proofs.YtnmhaipjfpongacGreatDoor
open Go.ChangeShapes Go.WideShapes Go.ChangeAt Go.RowKit

abbrev IsB (n0 b : Nat) (l : B) (w : World) : Prop := Lib.IsBuilder 169 5 n0 b (Lib.byteCells l) w

theorem builderAt_ext {n0 b : Nat} {p : Value} {bs : List Value} {w w' : World} (h : Lib.BuilderAt 169 5 n0 b p bs w) (ho : Ext w w') : Lib.BuilderAt 169 5 n0 b p bs w' := by
 obtain ⟨h1, v, h2, h3, h4⟩ := h
 exact ⟨h1, v, ho.heapOf h2 (fun h => h), ho.row h3 (fun _ _ h => h), h4⟩

theorem IsB.ext {n0 b : Nat} {l : B} {w w' : World} (h : IsB n0 b l w) (ho : Ext w w') : IsB n0 b l w' := by
 rcases h with h | h
 ·exact .inl (builderAt_ext h ho)
 ·exact .inr (builderAt_ext h ho)

theorem IsB.fresh (w : World) : IsB w.heap.size w.heap.size [] (w.alloc (.cells #[.pointer none, .slice none 0 0] 169 (0, 0))) :=
 .inl ⟨Nat.le_refl _, .slice none 0 0, (MapKept.heap_alloc w _).1, World.ownsRow_nil _ _ _ _, by intro h; cases h⟩

theorem ext_below {w w1 w2 : World} (h : Ext w w1) (hb : Below w.heap.size w1 w2) : Ext w w2 := Only.of_below (h.extBelow.trans hb)

def keyT (kind word : B) (ins : List B) : B := cnt kind ++ cnt word ++ ins.flatMap cnt

theorem cnt_len (s : B) (h : s.length ≤ 1000000) : (cnt s).length ≤ 21 + s.length := by
 have := dec_le s.length (by omega)
 simp [cnt]; omega

theorem flat_take_step {ins : List B} {j : Nat} {x : B} (hx : ins[j]? = some x) : (ins.take (j + 1)).flatMap cnt = (ins.take j).flatMap cnt ++ cnt x := by
 rw [List.take_add_one, hx]; simp

theorem longTexts_any (w : World) (v : Value) (l : List B) (many most : Int) (hv : Rd S w v l) (hm : 0 ≤ most ∧ most ≤ 1000000) :
  Calls Tryz.prog 50 #[v, .int .i64 many, .int .i64 most] w fun e w' => (∃ r : Int, e = .returned (.int .i64 r) ∧ (r = 0 ∨ r = 1) ∧ (r = 0 → (l.length : Int) ≤ many ∧ ∀ x ∈ l, (x.length : Int) ≤ most)) ∧ w = w' := by
 obtain ⟨a, cap, rfl, _, hm1, hc⟩ := hv
 have hl1 : l.length ≤ 9223372036854775807 := by unfold maxLen at hm1; omega
 obtain ⟨m0, m1⟩ := hm
 have HC := Lib.hid hc
 clear hc hm1
 by_cases hmany : many < (l.length : Int)
 ·go_enter Tryz.func50, Tryz.ntmps50
  go_wp2_with fail
  go_ret
  exact ⟨⟨1, rfl, .inr rfl, fun h => by cases h⟩, rfl⟩
 ·go_enter Tryz.func50, Tryz.ntmps50
  go_wp2_with fail
  go_loop [7, 8] (fun n i => ∃ (j : Nat) (m : Int), j ≤ l.length ∧ i = .int .i64 j ∧ n = .int .i64 m ∧ 0 ≤ m ∧ m ≤ most ∧ Hid (∀ i (q : B), i < j → l[i]? = some q → (q.length : Int) ≤ most)) (fun _ i => l.length - (intOf i).toNat)
  case atStart => exact ⟨0, 0, Nat.zero_le _, rfl, rfl, Int.le_refl _, m0, Lib.hid (fun i q h => absurd h (Nat.not_lt_zero _))⟩
  case round =>
   obtain ⟨j, m, hj, rfl, rfl, hm0, hmm, hb⟩ := hrel
   by_cases hlt : j < l.length
   ·have hltz : (j : Int) < (l.length : Int) := by omega
    obtain ⟨b0, off, rfl, hcell⟩ := HC.out (by intro h; rw [h] at hlt; simp at hlt)
    obtain ⟨x, hx⟩ : ∃ y, l[j]? = some y := ⟨_, List.getElem?_eq_getElem hlt⟩
    have d0 := hcell j x hx
    have HXX := Lib.hid hx
    clear hcell hx
    by_cases h1 : most < (x.length : Int)
    ·go_wp2_with fail
     go_ret
     exact ⟨⟨1, rfl, .inr rfl, fun h => by cases h⟩, rfl⟩
    by_cases h2 : most < m + (x.length : Int)
    ·go_wp2_with fail
     go_ret
     exact ⟨⟨1, rfl, .inr rfl, fun h => by cases h⟩, rfl⟩
    ·go_wp2_with fail
     go_round
     case rel => exact ⟨j + 1, m + x.length, by omega, by go_num, rfl, by omega, by omega, Lib.hid (fun i q hi hq => by
      rcases Nat.lt_succ_iff_lt_or_eq.1 hi with h | rfl
      ·exact hb.out i q h hq
      ·rw [HXX.out] at hq; cases hq; omega)⟩
     case measure => simp [intOf]; omega
   ·have hltz : ¬ ((j : Int) < (l.length : Int)) := by omega
    go_wp2_with fail
    go_ret
    refine ⟨⟨0, rfl, .inl rfl, fun _ => ?_⟩, rfl⟩
    intro x hx
    obtain ⟨i, hi⟩ := List.getElem?_of_mem hx
    exact hb.out i x (by have := (List.getElem?_eq_some_iff.1 hi).1; omega) hi
end Go.Proofs.YtnmhaipjfpongacGreatDoor

namespace Go.Proofs.YtnmhaipjfpongacGreatDoor
open Go.ChangeShapes Go.WideShapes Go.ChangeAt Go.RowKit

abbrev IsBF (n0 b : Nat) (l : B) (w : World) : Prop := Lib.IsBuilderF 169 5 n0 b (Lib.byteCells l) w

theorem builderAtF_ext {n0 b : Nat} {p : Value} {bs : List Value} {w w' : World} (h : Lib.BuilderAtF 169 5 n0 b p bs w) (ho : Ext w w') : Lib.BuilderAtF 169 5 n0 b p bs w' := by
 obtain ⟨h1, v, h2, h3, h4⟩ := h
 refine ⟨h1, v, ho.heapOf h2 (fun h => h), ?_, h4⟩
 obtain ⟨h5, h6⟩ := h3
 refine ⟨h5, ?_⟩
 rcases h6 with h6 | ⟨g, cap, cur, fz, h7, h8, h9, h10⟩
 ·exact .inl h6
 ·exact .inr ⟨g, cap, cur, fz, h7, h8, ho.heapOf h9 (fun h => h), h10⟩

theorem IsBF.ext {n0 b : Nat} {l : B} {w w' : World} (h : IsBF n0 b l w) (ho : Ext w w') : IsBF n0 b l w' := by
 rcases h with h | h
 ·exact .inl (builderAtF_ext h ho)
 ·exact .inr (builderAtF_ext h ho)

theorem IsBF.fresh (w : World) : IsBF w.heap.size w.heap.size [] (w.alloc (.cells #[.pointer none, .slice none 0 0] 169 (0, 0))) :=
 .inl (Lib.BuilderAtF.of ⟨Nat.le_refl _, .slice none 0 0, (MapKept.heap_alloc w _).1, World.ownsRow_nil _ _ _ _, by intro h; cases h⟩)

def TextsKept (w w' : World) : Prop := ∀ (k : Nat) (cs : Array Value) (fz : Nat × Nat), w.heap[k]? = some (.cells cs 9 fz) → w'.heap[k]? = some (.cells cs 9 fz)

theorem TextsKept.ext {a w w' : World} (h : TextsKept a w) (ho : Ext w w') : TextsKept a w' := fun k cs fz hk => ho.heapOf (h k cs fz hk) (fun h => h)

theorem writeK_any (n0 b : Nat) (l s : B) (w : World) (h : IsBF n0 b l w) (hlen : l.length + s.length ≤ 140737488355328) (hBw : n0 ≤ w.heap.size) :
  Calls Tryz.prog 106 #[.pointer (some ⟨b, 0, none⟩), S s] w fun e w' => e = .returned (.tuple #[I s.length, .nilIface]) ∧ IsBF n0 b (l ++ s) w' ∧ Below n0 w w' ∧ Lib.OthersKept 5 (some b) w w' := by
 have hsz : (⟨s.toArray⟩ : ByteArray).size = s.length := by simp [ByteArray.size]
 refine (Any.Builder_WriteString_k { Tryz.lays156 with } Tryz.Builder_Extra_156 n0 b (Lib.byteCells l) ⟨s.toArray⟩ w h (by rw [Lib.byteCells_length, hsz]; exact hlen) hBw).mono ?_
 rintro e w' ⟨rfl, h1, h2, h3⟩
 refine ⟨by rw [hsz], .inr ?_, h2, h3⟩
 have e1 : Lib.byteCells l ++ Lib.strCells ⟨s.toArray⟩ = Lib.byteCells (l ++ s) := by rw [Lib.strCells_eq]; simp [Lib.byteCells]
 rw [← e1]
 exact h1

end Go.Proofs.YtnmhaipjfpongacGreatDoor

namespace Go.Proofs.YtnmhaipjfpongacGreatDoor

instance (L : FL) : Decidable (Rising L) := inferInstanceAs (Decidable (List.Pairwise _ L))

theorem Rising.next {l : FL} (h : Rising l) {i : Nat} {x y : B × B} (hx : l[i]? = some x) (hy : l[i + 1]? = some y) : x.1 < y.1 := by
 obtain ⟨h1, rfl⟩ := List.getElem?_eq_some_iff.1 hx
 obtain ⟨h2, rfl⟩ := List.getElem?_eq_some_iff.1 hy
 exact List.pairwise_iff_getElem.1 h i (i + 1) h1 h2 (Nat.lt_succ_self i)

theorem dig_toNat {k : Nat} (h : k < 10) : (UInt8.ofNat (48 + k)).toNat = 48 + k := by
 have : ∀ k : Fin 10, (UInt8.ofNat (48 + k.val)).toNat = 48 + k.val := by decide +kernel
 exact this ⟨k, h⟩

theorem dec_all (u : Nat) : ∀ c ∈ Lib.decDigits u, 48 ≤ c.toNat ∧ c.toNat ≤ 57 := by
 induction u using Nat.strongRecOn with
 | _ u ih =>
  intro c hc
  by_cases h : u < 10
  ·rw [Lib.decDigits_one h, List.mem_singleton] at hc
   subst hc
   rw [dig_toNat h]; omega
  ·rw [Lib.decDigits, dif_neg h] at hc
   rcases List.mem_append.1 hc with hc | hc
   ·exact ih (u / 10) (by omega) c hc
   ·rw [List.mem_singleton] at hc
    subst hc
    rw [dig_toNat (Nat.mod_lt _ (by decide))]
    have := Nat.mod_lt u (show 0 < 10 by decide)
    omega

theorem dec_ne (u : Nat) : Lib.decDigits u ≠ [] := by
 have h1 := Lib.decDigits_length u
 have h2 := Lib.nDigits_pos u
 intro e
 rw [e] at h1
 simp at h1
 omega

theorem nDigits_le : ∀ (k u : Nat), 1 ≤ k → u < 10 ^ k → Lib.nDigits u ≤ k
 | 0, _, h, _ => absurd h (by decide)
 | k + 1, u, _, h => by
  by_cases h0 : u < 10
  ·rw [Lib.nDigits_small h0]; omega
  ·rw [Lib.nDigits_big h0]
   have hk : 1 ≤ k := by
    rcases Nat.eq_zero_or_pos k with e | e
    ·subst e; simp at h; omega
    ·exact e
   rw [Nat.pow_succ] at h
   have := nDigits_le k (u / 10) hk (by omega)
   omega

theorem parse_app {b : B} : ∀ {a : B} {acc v : Nat}, Lib.parseUint10 acc a = .ok v → Lib.parseUint10 acc (a ++ b) = Lib.parseUint10 v b
 | [], acc, v, h => by
  simp only [Lib.parseUint10] at h
  injection h with h
  rw [h]; rfl
 | c :: r, acc, v, h => by
  rw [List.cons_append]
  simp only [Lib.parseUint10] at h ⊢
  split at h
  ·rename_i hc
   rw [if_pos hc]
   split at h
   ·cases h
   ·rename_i h1
    rw [if_neg h1]
    split at h
    ·cases h
    ·rename_i h2
     rw [if_neg h2]
     exact parse_app h
  ·cases h

theorem parse_dec (u : Nat) : u < 1000000 → Lib.parseUint10 0 (Lib.decDigits u) = .ok u := by
 induction u using Nat.strongRecOn with
 | _ u ih =>
  intro hu
  by_cases h : u < 10
  ·rw [Lib.decDigits_one h]
   simp only [Lib.parseUint10, dig_toNat h]
   rw [if_pos (by omega), if_neg (by omega), if_neg (by omega)]
   congr 1; omega
  ·rw [Lib.decDigits, dif_neg h, parse_app (ih (u / 10) (by omega) (by omega))]
   have hm := Nat.mod_lt u (show 0 < 10 by decide)
   simp only [Lib.parseUint10, dig_toNat hm]
   rw [if_pos (by omega), if_neg (by omega), if_neg (by omega)]
   congr 1; omega

theorem num_dec {u : Nat} (h : u < 10000) : numB 4 (Lib.decDigits u) = some u := by
 have hp := parse_dec u (by omega)
 have hl : (Lib.decDigits u).length ≤ 4 := by rw [Lib.decDigits_length]; exact nDigits_le 4 u (by decide) h
 have ha : Lib.atoiAll (Lib.decDigits u) = .ok (u : Int) := by
  cases hd : Lib.decDigits u with
  | nil => exact absurd hd (dec_ne u)
  | cons c r =>
   have hc := dec_all u c (by rw [hd]; exact .head _)
   rw [hd] at hp
   have h1 : ¬ (c.toNat = 43 ∨ c.toNat = 45) := by omega
   have h2 : ¬ c.toNat = 45 := by omega
   simp only [Lib.atoiAll, Lib.parseMag, if_neg h1, hp]
   have h3 : ¬ (9223372036854775808 ≤ u) := by omega
   simp [h2, h3]
 unfold numB
 rw [ha]
 simp only
 rw [if_pos ⟨hl, by omega, rfl⟩]
 rfl

def Apart (L : FL) : Prop := ∀ q ∈ L, ∀ r ∈ L, aboveB q.1 r.1 = false

theorem aboveB_self (p : B) : aboveB p p = false := by
 unfold aboveB
 cases h : (p ++ [47]).isPrefixOf p with
 | false => rfl
 | true =>
  have := (List.isPrefixOf_iff_prefix.1 h).length_le
  rw [List.length_append] at this
  simp at this
  exact absurd this (by omega)

theorem Apart.nil : Apart [] := by intro q hq; simp at hq
theorem putCode_clash {L : FL} {p x : B} (h : putCode L p x = 0) : clash L p = false := by
 unfold putCode at h
 split at h
 ·split at h
  ·omega
  ·split at h
   ·omega
   ·rename_i h3; simpa using h3
 ·omega

theorem Apart.put {L : FL} (h : Apart L) (hr : Rising L) (p x : B) : Apart (putT L p x) := by
 unfold putT
 by_cases h0 : putCode L p x = 0
 ·rw [if_pos h0]
  have hc := putCode_clash h0
  unfold clash at hc
  rw [List.any_eq_false] at hc
  have key : ∀ q ∈ L, aboveB p q.1 = false ∧ aboveB q.1 p = false := fun q hq => by
   have := hc q hq
   simpa using this
  intro q hq r hr'
  rcases mem_set hr hq with rfl | hq
  ·rcases mem_set hr hr' with rfl | hr'
   ·exact aboveB_self _
   ·exact (key r hr').1
  ·rcases mem_set hr hr' with rfl | hr'
   ·exact (key q hq).2
   ·exact h q hq r hr'
 ·rw [if_neg h0]; exact h

end Go.Proofs.YtnmhaipjfpongacGreatDoor

namespace Go.Proofs.YtnmhaipjfpongacGreatDoor
open Go.ChangeShapes Go.WideShapes Go.ChangeAt Go.RowKit

theorem step_appS {P : Program} {α : Type} (enc : α → List Value) (t e : TypeId) (n by_ : Nat) (z : Value) (hinfo : (P.info? e).map (fun i => (i.zero, i.size, i.bytes)) = some (some z, n, by_)) (ht : P.underlying t = some (.slice e)) (hzs : z.cells.size = n) (hn0 : 0 < n)
  (hlen : ∀ x, (enc x).length = n) (h1c : ∀ x, ∀ u ∈ enc x, u.oneCell' = true) (hby : by_ ≤ 1000)
  {ops : Array Oper} {o : Oper} {a : Act} {K : Act → World → Prop} {Q : Exit → Act → World → Prop} {E : Prop} (s x : Operand) (base : Nat) (v : Value) (l : List α) (k : α) (W : World) (cs : Array Value) (hcs : cs.toList = enc k) (hgd : o.guard = none)
  (ho : o.op = .call { callee := .builtin .append, args := #[s, x], argTypes := #[t, t] }) (hs : a.eval s = v) (hx : a.eval x = .slice (some ⟨W.heap.size, 0, none⟩) 1 1)
  (hrow : W.ownsRow base e n v l.length (l.flatMap enc)) (hl : l.length ≤ 1000000) (hbase : base ≤ W.heap.size)
  (hK : ∀ g cap w', w'.ownsRow base e n (.slice (some ⟨g, 0, none⟩) (l.length + 1) cap) (l.length + 1) ((l ++ [k]).flatMap enc) → W.grownBy w' v.ownBlock → (∀ i, Value.ownBlock (.slice (some ⟨g, 0, none⟩) (l.length + 1) cap) = some i → v.ownBlock = some i ∨ W.heap.size ≤ i) →
   K (a.put o.dst (.slice (some ⟨g, 0, none⟩) (l.length + 1) cap)) w') :
  if Region.wanted o (yielded ops a.tmps) = true then Oper.wp P o a (W.alloc (.cells cs e (0, 0))) K Q else E := by
 obtain ⟨i0, hi, hz0, hz1, hz2⟩ := info_parts hinfo
 have hb : (l.length + 1) * by_ ≤ 1000001 * 1000 := Nat.mul_le_mul (by omega) hby
 refine step_append_lies _ hgd s x t ho base e i0 z n by_ ht hi hz0 hz1 hz2 hzs hn0 v l.length (l.flatMap enc) hs (hrow.alloc _) ⟨W.heap.size, 0, none⟩ 1 1 (enc k) hx (by rw [hlen, Nat.one_mul])
  (fun j u hu => cells_new W cs e j u (by rw [hcs]; exact hu)) (h1c k) (by decide) ?_ ?_ ?_ (W.heap.size + 1) (by simp) ?_
 ·unfold maxLen; omega
 ·omega
 ·simp; omega
 ·intro g cap w' hown hg hat hlt
  refine hK g cap w' (by simpa using hown) ?_ ?_
  ·exact ((Only.alloc (fun i => v.ownBlock = some i) W _).then (Only.of_grown hg)).grown
  ·intro i e
   cases e
   rcases hat with h | h
   ·exact .inl h
   ·exact .inr (by rw [h]; exact Nat.le_succ _)

end Go.Proofs.YtnmhaipjfpongacGreatDoor

namespace Go.Proofs.YtnmhaipjfpongacGreatDoor
open Go.ChangeShapes Go.WideShapes Go.ChangeAt Go.RowKit

theorem digit_ne {k : Nat} (h : k < 10) : UInt8.ofNat (48 + k) ≠ 58 := by
 intro e
 have := congrArg UInt8.toNat e
 simp at this
 omega

theorem digit_inj {a b : Nat} (ha : a < 10) (hb : b < 10) (e : UInt8.ofNat (48 + a) = UInt8.ofNat (48 + b)) : a = b := by
 have := congrArg UInt8.toNat e
 simp only [UInt8.toNat_ofNat'] at this
 omega

theorem dec_no (u : Nat) : (58 : UInt8) ∉ Lib.decDigits u := by
 induction u using Nat.strongRecOn with
 | _ u ih =>
  by_cases h : u < 10
  ·rw [Lib.decDigits_one h, List.mem_singleton]
   exact fun e => digit_ne h e.symm
  ·rw [Lib.decDigits, dif_neg h, List.mem_append, List.mem_singleton]
   rintro (e | e)
   ·exact ih (u / 10) (by omega) e
   ·exact digit_ne (Nat.mod_lt u (by decide)) e.symm

theorem dec_neK (u : Nat) : Lib.decDigits u ≠ [] := by
 by_cases h : u < 10
 ·rw [Lib.decDigits_one h]; simp
 ·rw [Lib.decDigits, dif_neg h]; simp

theorem dec_inj : ∀ (u v : Nat), Lib.decDigits u = Lib.decDigits v → u = v := by
 intro u
 induction u using Nat.strongRecOn with
 | _ u ih =>
  intro v e
  by_cases h : u < 10
  ·by_cases h' : v < 10
   ·rw [Lib.decDigits_one h, Lib.decDigits_one h'] at e
    exact digit_inj h h' (by simpa using e)
   ·rw [Lib.decDigits_one h, Lib.decDigits.eq_def v, dif_neg h'] at e
    have := congrArg List.length e
    simp at this
    exact absurd this (dec_neK (v / 10))
  ·by_cases h' : v < 10
   ·rw [Lib.decDigits_one h', Lib.decDigits.eq_def u, dif_neg h] at e
    have := congrArg List.length e
    simp at this
    exact absurd this (dec_neK (u / 10))
   ·rw [Lib.decDigits.eq_def u, Lib.decDigits.eq_def v, dif_neg h, dif_neg h'] at e
    obtain ⟨e1, e2⟩ := List.append_inj' e rfl
    have i1 := ih (u / 10) (by omega) (v / 10) e1
    have i2 := digit_inj (Nat.mod_lt u (by decide)) (Nat.mod_lt v (by decide)) (by simpa using e2)
    omega

theorem split_at {x : UInt8} : ∀ {d d' a a' : B}, x ∉ d → x ∉ d' → d ++ x :: a = d' ++ x :: a' → d = d' ∧ a = a'
 | [], [], a, a', _, _, e => ⟨rfl, by simpa using e⟩
 | [], y :: d', a, a', _, h', e => by
  have : x = y := by simpa using congrArg List.head? e
  exact absurd (this ▸ List.mem_cons_self) h'
 | y :: d, [], a, a', h, _, e => by
  have : y = x := by simpa using congrArg List.head? e
  exact absurd (this ▸ List.mem_cons_self) h
 | y :: d, z :: d', a, a', h, h', e => by
  rw [List.cons_append, List.cons_append, List.cons.injEq] at e
  obtain ⟨rfl, e⟩ := e
  obtain ⟨rfl, rfl⟩ := split_at (fun hm => h (List.mem_cons_of_mem _ hm)) (fun hm => h' (List.mem_cons_of_mem _ hm)) e
  exact ⟨rfl, rfl⟩

theorem cnt_parse {s t r r' : B} (e : cnt s ++ r = cnt t ++ r') : s = t ∧ r = r' := by
 unfold cnt at e
 rw [List.append_assoc, List.append_assoc, List.cons_append, List.cons_append] at e
 obtain ⟨e1, e2⟩ := split_at (dec_no _) (dec_no _) e
 exact List.append_inj e2 (dec_inj _ _ e1)

theorem cnt_ne (s r : B) : cnt s ++ r ≠ [] := by simp [cnt]

theorem flat_inj : ∀ {l l' : List B}, l.flatMap cnt = l'.flatMap cnt → l = l'
 | [], [], _ => rfl
 | [], y :: l', e => by rw [List.flatMap_cons] at e; exact absurd e.symm (cnt_ne _ _)
 | x :: l, [], e => by rw [List.flatMap_cons] at e; exact absurd e (cnt_ne _ _)
 | x :: l, y :: l', e => by
  rw [List.flatMap_cons, List.flatMap_cons] at e
  obtain ⟨h1, h2⟩ := cnt_parse e
  rw [h1, flat_inj h2]

theorem keyT_inj {k w k' w' : B} {l l' : List B} (e : keyT k w l = keyT k' w' l') : k = k' ∧ w = w' ∧ l = l' := by
 unfold keyT at e
 rw [List.append_assoc, List.append_assoc] at e
 obtain ⟨h1, h2⟩ := cnt_parse e
 obtain ⟨h3, h4⟩ := cnt_parse h2
 exact ⟨h1, h3, flat_inj h4⟩
end Go.Proofs.YtnmhaipjfpongacGreatDoor

namespace Go.Proofs.YtnmhaipjfpongacGreatDoor
open Go.ChangeShapes Go.WideShapes Go.ChangeAt Go.RowKit

theorem flat_take_lenK {ins : List B} (h : ∀ x ∈ ins, x.length ≤ 3000) : ∀ j, ((ins.take j).flatMap cnt).length ≤ 4000 * j
 | 0 => by simp
 | j + 1 => by
  have ih := flat_take_lenK h j
  cases hx : ins[j]? with
  | none =>
   have : ins.take (j + 1) = ins.take j := by rw [List.take_add_one, hx]; simp
   rw [this]; omega
  | some x =>
   have hl := cnt_len x (by have := h x (List.mem_of_getElem? hx); omega)
   have := h x (List.mem_of_getElem? hx)
   rw [flat_take_step hx, List.length_append]
   omega

set_option maxHeartbeats 1000000 in
theorem keyBig_any (w : World) (kind word : B) (v : Value) (ins : List B) (hv : Rd S w v ins) (h1 : kind.length ≤ 100) (h2 : word.length ≤ 100) (h3 : ins.length ≤ 12) (h4 : ∀ x ∈ ins, x.length ≤ 3000) (hp : Pow w) :
  Calls Tryz.prog 123 #[S kind, S word, v] w fun e w' => e = .returned (S (keyT kind word ins)) ∧ Ext w w' := by
 obtain ⟨a, cap, rfl, _, _, hc⟩ := hv
 have l1 := cnt_len kind (by omega)
 have l2 := cnt_len word (by omega)
 have hck : ∀ w1, Pow w1 → Calls Tryz.prog 189 #[S kind] w1 _ := fun w1 h => counted_any w1 kind (by omega) h
 have hcw : ∀ w1, Pow w1 → Calls Tryz.prog 189 #[S word] w1 _ := fun w1 h => counted_any w1 word (by omega) h
 obtain ⟨K, hK⟩ : ∃ K, K = keyT kind word ins := ⟨_, rfl⟩
 obtain ⟨ck, hk⟩ : ∃ ck, ck = cnt kind := ⟨_, rfl⟩
 obtain ⟨cw, hw⟩ : ∃ cw, cw = cnt word := ⟨_, rfl⟩
 have hKe : K = ck ++ cw ++ ins.flatMap cnt := by rw [hK, hk, hw]; rfl
 rw [← hK]
 simp only [← hk] at hck
 simp only [← hw] at hcw
 rw [← hk] at l1
 rw [← hw] at l2
 have l3 : ¬ 9223372036854775807 < ck.length + cw.length := by omega
 have l4 : ck.length + cw.length ≤ 242 := by omega
 have HKE := Lib.hid hKe
 have HCK := Lib.hid hck
 have HCW := Lib.hid hcw
 have HC := Lib.hid hc
 have H4 := Lib.hid h4
 have HP := Lib.hid hp
 clear hc hKe hck hcw hK hk hw h4 hp l1 l2 h1 h2
 go_enter Tryz.func123, Tryz.ntmps123
 go_wp2_with fail
 refine (HCK.out _ (HP.out.ext (Only.alloc (fun _ => False) w _))).mono ?_
 rintro e w1 ⟨rfl, ho⟩
 have HO1 := Lib.hid ((Only.alloc (fun _ => False) w (.cells #[.pointer none, .slice none 0 0] 169 (0, 0))).ext ho)
 have HB1 := Lib.hid ((IsB.fresh w).ext ho)
 clear ho
 go_wp2_with fail
 refine (HCW.out _ (HP.out.ext HO1.out)).mono ?_
 rintro e w2 ⟨rfl, ho⟩
 have HO2 := Lib.hid (HO1.out.ext ho)
 have HB2 := Lib.hid (HB1.out.ext ho)
 clear ho
 go_wp2_with fail
 rw [ba_app]
 refine (write_any w.heap.size w.heap.size [] (ck ++ cw) w2 HB2.out (by simp; omega) HO2.out.size).mono ?_
 rintro e w3 ⟨rfl, hb3, hbl⟩
 have HO3 := Lib.hid (ext_below HO2.out hbl)
 have HB3 := Lib.hid hb3
 clear hb3 hbl HB1 HB2 HCK HCW HO1 HO2
 go_wp2_with fail
 obtain ⟨b, hbE⟩ : ∃ b, b = w.heap.size := ⟨_, rfl⟩
 have HB3' : Hid (IsB w.heap.size b (ck ++ cw) w3) := by rw [hbE]; simpa using HB3
 rw [← hbE]
 clear hbE HB3
 go_loopw [18] (fun i wr => ∃ j : Nat, j ≤ ins.length ∧ i = .int .i64 j ∧ Hid (Ext w wr) ∧ Hid (IsB w.heap.size b (ck ++ cw ++ (ins.take j).flatMap cnt) wr)) (fun i _ => ins.length - (intOf i).toNat)
 case atStart => exact ⟨0, Nat.zero_le _, rfl, HO3, by simpa using HB3'⟩
 case round =>
  obtain ⟨j, hj, rfl, HX, HB⟩ := hrel
  by_cases hlt : j < ins.length
  ·have hltz : (j : Int) < (ins.length : Int) := by omega
   obtain ⟨b0, off, rfl, hcell⟩ := HC.out (by intro h; rw [h] at hlt; simp at hlt)
   obtain ⟨x, hx⟩ : ∃ y, ins[j]? = some y := ⟨_, List.getElem?_eq_getElem hlt⟩
   have d0 : wr.cell? ⟨b0, off + j, none⟩ = some (S x) := HX.out.cellOf (hcell j x hx) (fun h => h)
   have hxl := H4.out x (List.mem_of_getElem? hx)
   have hst := flat_take_step hx
   have hfl := flat_take_lenK H4.out j
   have hcx := counted_any wr x (by omega) (HP.out.ext HX.out)
   have hcl := cnt_len x (by omega)
   obtain ⟨cx, hcx'⟩ : ∃ cx, cx = cnt x := ⟨_, rfl⟩
   rw [← hcx'] at hcx hst hcl
   have HST := Lib.hid hst
   have HCX := Lib.hid hcx
   clear hcell hx hst hcx hcx'
   obtain ⟨F, hF⟩ : ∃ F, F = (ins.take j).flatMap cnt := ⟨_, rfl⟩
   rw [← hF] at HB HST hfl
   clear hF
   go_wp2_with fail
   refine HCX.out.mono ?_
   rintro e w5 ⟨rfl, ho⟩
   have HX5 := Lib.hid (HX.out.ext ho)
   have HB5 := Lib.hid (HB.out.ext ho)
   clear ho
   go_wp2_with fail
   refine (write_any w.heap.size b _ cx w5 HB5.out (by simp; omega) HX5.out.size).mono ?_
   rintro e w6 ⟨rfl, hb6, hbl⟩
   have HX6 := Lib.hid (ext_below HX5.out hbl)
   have HB6 := Lib.hid hb6
   clear hb6 hbl
   go_wp2_with fail
   go_roundw
   case rel => exact ⟨j + 1, by omega, by go_num, HX6, Lib.hid (by rw [HST.out]; simpa using HB6.out)⟩
   case measure => simp [intOf]; omega
  ·have hltz : ¬ ((j : Int) < (ins.length : Int)) := by omega
   have ht : ins.take j = ins := List.take_of_length_le (by omega)
   rw [ht, ← HKE.out] at HB
   go_wp2_with fail
   refine (Tryz.Builder_String_any w.heap.size b K wr HB.out HX.out.size).mono ?_
   rintro e w6 ⟨rfl, hbl⟩
   have HX6 := Lib.hid (ext_below HX.out hbl)
   clear hbl
   go_wp2_with fail
   go_ret
   exact ⟨rfl, HX6.out⟩
end Go.Proofs.YtnmhaipjfpongacGreatDoor

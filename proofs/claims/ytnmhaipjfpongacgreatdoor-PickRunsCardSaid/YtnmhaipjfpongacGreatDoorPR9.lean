/- Texts of this seat laid together for one claim: C3, Y1, C5, Y2, Y3, Y6. No condition of its own: what each proves stands with its theorems. -/
import Derived.Test.YtnmhaipjfpongacGreatDoorPR2
import Derived.Maps.AppendAt
import Derived.Test.YtnmhaipjfpongacGreatDoorPR8
namespace Go.Proofs.YtnmhaipjfpongacGreatDoor
open Go.ChangeShapes Go.WideShapes Go.ChangeAt Go.RowKit

structure CacheAt (w : World) (b mb : Nat) (sv : Value) (many : Nat) (L : List (B × B)) : Prop where
 cells : w.heap[b]? = some (.cells #[I many, sv, .map (some mb)] 191 (0, 0))
 row : w.ownsRow 0 9 1 sv L.length ((L.map (·.1)).map S)
 map : KMap .string S S w mb L

def getL (L : List (B × B)) (k : B) : List (B × B) :=
 match L.lookup k with
 | some x => L.filter (fun p => !(p.1 == k)) ++ [(k, x)]
 | none => L

def putL (many : Nat) (L : List (B × B)) (k x : B) : List (B × B) :=
 if many < (L.filter (fun p => !(p.1 == k)) ++ [(k, x)]).length then (L.filter (fun p => !(p.1 == k)) ++ [(k, x)]).tail else L.filter (fun p => !(p.1 == k)) ++ [(k, x)]

theorem heap_ne_map {w : World} {b mb : Nat} {cs : Array Value} {e : TypeId} {fr : Nat × Nat} {d : TypeDesc} {l : List (Value × Value)} (hb : w.heap[b]? = some (.cells cs e fr)) (hm : MapAt d w mb l) : b ≠ mb := by
 rintro rfl
 obtain ⟨es, c, h, _⟩ := hm
 rw [h] at hb
 cases hb

theorem row_ne_map {w : World} {base : Nat} {e : TypeId} {size : Nat} {v : Value} {n : Nat} {xs : List Value} {mb : Nat} {d : TypeDesc} {l : List (Value × Value)} (h : w.ownsRow base e size v n xs) (hm : MapAt d w mb l) :
  ∀ k, v.ownBlock = some k → k ≠ mb := by
 intro k hk
 rcases h.2 with ⟨rfl, _⟩ | ⟨g, cap, cur, rfl, _, hh, _⟩
 ·cases hk
 ·cases hk
  exact heap_ne_map hh hm

def InCache (b mb : Nat) (sv : Value) (i : Nat) : Prop := i = b ∨ i = mb ∨ sv.ownBlock = some i

theorem CacheAt.later {p : Nat → Prop} {w w' : World} {b mb : Nat} {sv : Value} {many : Nat} {L : List (B × B)} (h : CacheAt w b mb sv many L) (ho : Only p w w') (hp : ∀ i, InCache b mb sv i → ¬ p i) : CacheAt w' b mb sv many L :=
 ⟨ho.heapOf h.cells (hp b (.inl rfl)), ho.row h.row fun k e => hp k (.inr (.inr e)), h.map.later ho (hp mb (.inr (.inl rfl)))⟩

theorem CacheAt.lt {w : World} {b mb : Nat} {sv : Value} {many : Nat} {L : List (B × B)} (h : CacheAt w b mb sv many L) : ∀ i, InCache b mb sv i → i < w.heap.size := by
 rintro i (rfl | rfl | e)
 ·exact lt_of_heap h.cells
 ·exact h.map.lt
 ·exact (h.row.lt i e).2

def Got (w : World) (b mb : Nat) (sv : Value) (many : Nat) (L' : List (B × B)) (r : Value) (e : Ending) (w' : World) : Prop :=
 ∃ sv', e = .returned r ∧ CacheAt w' b mb sv' many L' ∧ Only (InCache b mb sv) w w' ∧ ∀ i, InCache b mb sv' i → InCache b mb sv i ∨ w.heap.size ≤ i

end Go.Proofs.YtnmhaipjfpongacGreatDoor

namespace Go.Proofs.YtnmhaipjfpongacGreatDoor
open Go.ChangeShapes Go.WideShapes Go.ChangeAt Go.RowKit

abbrev IsB (n0 b : Nat) (l : B) (w : World) : Prop := Lib.IsBuilder 169 5 n0 b (Lib.byteCells l) w

theorem builderAt_ext {n0 b : Nat} {p : Value} {bs : List Value} {w w' : World} (h : Lib.BuilderAt 169 5 n0 b p bs w) (ho : Ext w w') : Lib.BuilderAt 169 5 n0 b p bs w' := by
 obtain ⟨h1, v, h2, h3, h4⟩ := h
 exact ⟨h1, v, ho.heapOf h2 (fun h => h), ho.row h3 (fun _ _ h => h), h4⟩

theorem IsB.ext {n0 b : Nat} {l : B} {w w' : World} (h : IsB n0 b l w) (ho : Ext w w') : IsB n0 b l w' := by
 rcases h with h | h
 ·exact .inl (builderAt_ext h ho)
 ·exact .inr (builderAt_ext h ho)

theorem IsB.fresh (w : World) : IsB w.heap.size w.heap.size [] (w.alloc (.cells #[.pointer none, .slice none 0 0] 169 (0, 0))) :=
 .inl ⟨Nat.le_refl _, .slice none 0 0, (MapKept.heap_alloc w _).1, World.ownsRow_nil _ _ _ _, by intro h; cases h⟩

theorem ext_below {w w1 w2 : World} (h : Ext w w1) (hb : Below w.heap.size w1 w2) : Ext w w2 := Only.of_below (h.extBelow.trans hb)

def keyT (kind word : B) (ins : List B) : B := cnt kind ++ cnt word ++ ins.flatMap cnt

theorem cnt_len (s : B) (h : s.length ≤ 1000000) : (cnt s).length ≤ 21 + s.length := by
 have := dec_le s.length (by omega)
 simp [cnt]; omega

theorem flat_take_step {ins : List B} {j : Nat} {x : B} (hx : ins[j]? = some x) : (ins.take (j + 1)).flatMap cnt = (ins.take j).flatMap cnt ++ cnt x := by
 rw [List.take_add_one, hx]; simp

theorem longTexts_any (w : World) (v : Value) (l : List B) (many most : Int) (hv : Rd S w v l) (hm : 0 ≤ most ∧ most ≤ 1000000) :
  Calls Tryz.prog 50 #[v, .int .i64 many, .int .i64 most] w fun e w' => (∃ r : Int, e = .returned (.int .i64 r) ∧ (r = 0 ∨ r = 1) ∧ (r = 0 → (l.length : Int) ≤ many ∧ ∀ x ∈ l, (x.length : Int) ≤ most)) ∧ w = w' := by
 obtain ⟨a, cap, rfl, _, hm1, hc⟩ := hv
 have hl1 : l.length ≤ 9223372036854775807 := by unfold maxLen at hm1; omega
 obtain ⟨m0, m1⟩ := hm
 have HC := Lib.hid hc
 clear hc hm1
 by_cases hmany : many < (l.length : Int)
 ·go_enter Tryz.func50, Tryz.ntmps50
  go_wp2_with fail
  go_ret
  exact ⟨⟨1, rfl, .inr rfl, fun h => by cases h⟩, rfl⟩
 ·go_enter Tryz.func50, Tryz.ntmps50
  go_wp2_with fail
  go_loop [7, 8] (fun n i => ∃ (j : Nat) (m : Int), j ≤ l.length ∧ i = .int .i64 j ∧ n = .int .i64 m ∧ 0 ≤ m ∧ m ≤ most ∧ Hid (∀ i (q : B), i < j → l[i]? = some q → (q.length : Int) ≤ most)) (fun _ i => l.length - (intOf i).toNat)
  case atStart => exact ⟨0, 0, Nat.zero_le _, rfl, rfl, Int.le_refl _, m0, Lib.hid (fun i q h => absurd h (Nat.not_lt_zero _))⟩
  case round =>
   obtain ⟨j, m, hj, rfl, rfl, hm0, hmm, hb⟩ := hrel
   by_cases hlt : j < l.length
   ·have hltz : (j : Int) < (l.length : Int) := by omega
    obtain ⟨b0, off, rfl, hcell⟩ := HC.out (by intro h; rw [h] at hlt; simp at hlt)
    obtain ⟨x, hx⟩ : ∃ y, l[j]? = some y := ⟨_, List.getElem?_eq_getElem hlt⟩
    have d0 := hcell j x hx
    have HXX := Lib.hid hx
    clear hcell hx
    by_cases h1 : most < (x.length : Int)
    ·go_wp2_with fail
     go_ret
     exact ⟨⟨1, rfl, .inr rfl, fun h => by cases h⟩, rfl⟩
    by_cases h2 : most < m + (x.length : Int)
    ·go_wp2_with fail
     go_ret
     exact ⟨⟨1, rfl, .inr rfl, fun h => by cases h⟩, rfl⟩
    ·go_wp2_with fail
     go_round
     case rel => exact ⟨j + 1, m + x.length, by omega, by go_num, rfl, by omega, by omega, Lib.hid (fun i q hi hq => by
      rcases Nat.lt_succ_iff_lt_or_eq.1 hi with h | rfl
      ·exact hb.out i q h hq
      ·rw [HXX.out] at hq; cases hq; omega)⟩
     case measure => simp [intOf]; omega
   ·have hltz : ¬ ((j : Int) < (l.length : Int)) := by omega
    go_wp2_with fail
    go_ret
    refine ⟨⟨0, rfl, .inl rfl, fun _ => ?_⟩, rfl⟩
    intro x hx
    obtain ⟨i, hi⟩ := List.getElem?_of_mem hx
    exact hb.out i x (by have := (List.getElem?_eq_some_iff.1 hi).1; omega) hi
end Go.Proofs.YtnmhaipjfpongacGreatDoor

namespace Go.Proofs.YtnmhaipjfpongacGreatDoor
open Go.ChangeShapes Go.WideShapes Go.ChangeAt Go.RowKit

theorem Only.new {a b c : World} {p : Nat → Prop} (h : Ext a b) (k : Only p b c) (hp : ∀ i, p i → a.heap.size ≤ i) : Ext a c :=
 h.trans k (fun _ _ h => h) fun i hi h => absurd (hp i h) (by omega)

end Go.Proofs.YtnmhaipjfpongacGreatDoor

namespace Go.Proofs.YtnmhaipjfpongacGreatDoor
open Go.ChangeShapes Go.WideShapes Go.ChangeAt Go.RowKit

theorem cnt_ba (s : B) : ((⟨(Lib.decDigits s.length).toArray⟩ : ByteArray) ++ ⟨#[58]⟩ ++ ⟨s.toArray⟩) = ⟨(cnt s).toArray⟩ := by
 rw [show (⟨#[58]⟩ : ByteArray) = ⟨([58] : B).toArray⟩ from rfl, ba_app, ba_app]
 simp [cnt]

end Go.Proofs.YtnmhaipjfpongacGreatDoor

namespace Go.Proofs.YtnmhaipjfpongacGreatDoor
open Go.ChangeShapes Go.WideShapes Go.ChangeAt Go.RowKit

theorem digit_ne {k : Nat} (h : k < 10) : UInt8.ofNat (48 + k) ≠ 58 := by
 intro e
 have := congrArg UInt8.toNat e
 simp at this
 omega

theorem digit_inj {a b : Nat} (ha : a < 10) (hb : b < 10) (e : UInt8.ofNat (48 + a) = UInt8.ofNat (48 + b)) : a = b := by
 have := congrArg UInt8.toNat e
 simp only [UInt8.toNat_ofNat'] at this
 omega

theorem dec_no (u : Nat) : (58 : UInt8) ∉ Lib.decDigits u := by
 induction u using Nat.strongRecOn with
 | _ u ih =>
  by_cases h : u < 10
  ·rw [Lib.decDigits_one h, List.mem_singleton]
   exact fun e => digit_ne h e.symm
  ·rw [Lib.decDigits, dif_neg h, List.mem_append, List.mem_singleton]
   rintro (e | e)
   ·exact ih (u / 10) (by omega) e
   ·exact digit_ne (Nat.mod_lt u (by decide)) e.symm

theorem dec_neK (u : Nat) : Lib.decDigits u ≠ [] := by
 by_cases h : u < 10
 ·rw [Lib.decDigits_one h]; simp
 ·rw [Lib.decDigits, dif_neg h]; simp

theorem dec_inj : ∀ (u v : Nat), Lib.decDigits u = Lib.decDigits v → u = v := by
 intro u
 induction u using Nat.strongRecOn with
 | _ u ih =>
  intro v e
  by_cases h : u < 10
  ·by_cases h' : v < 10
   ·rw [Lib.decDigits_one h, Lib.decDigits_one h'] at e
    exact digit_inj h h' (by simpa using e)
   ·rw [Lib.decDigits_one h, Lib.decDigits.eq_def v, dif_neg h'] at e
    have := congrArg List.length e
    simp at this
    exact absurd this (dec_neK (v / 10))
  ·by_cases h' : v < 10
   ·rw [Lib.decDigits_one h', Lib.decDigits.eq_def u, dif_neg h] at e
    have := congrArg List.length e
    simp at this
    exact absurd this (dec_neK (u / 10))
   ·rw [Lib.decDigits.eq_def u, Lib.decDigits.eq_def v, dif_neg h, dif_neg h'] at e
    obtain ⟨e1, e2⟩ := List.append_inj' e rfl
    have i1 := ih (u / 10) (by omega) (v / 10) e1
    have i2 := digit_inj (Nat.mod_lt u (by decide)) (Nat.mod_lt v (by decide)) (by simpa using e2)
    omega

theorem split_at {x : UInt8} : ∀ {d d' a a' : B}, x ∉ d → x ∉ d' → d ++ x :: a = d' ++ x :: a' → d = d' ∧ a = a'
 | [], [], a, a', _, _, e => ⟨rfl, by simpa using e⟩
 | [], y :: d', a, a', _, h', e => by
  have : x = y := by simpa using congrArg List.head? e
  exact absurd (this ▸ List.mem_cons_self) h'
 | y :: d, [], a, a', h, _, e => by
  have : y = x := by simpa using congrArg List.head? e
  exact absurd (this ▸ List.mem_cons_self) h
 | y :: d, z :: d', a, a', h, h', e => by
  rw [List.cons_append, List.cons_append, List.cons.injEq] at e
  obtain ⟨rfl, e⟩ := e
  obtain ⟨rfl, rfl⟩ := split_at (fun hm => h (List.mem_cons_of_mem _ hm)) (fun hm => h' (List.mem_cons_of_mem _ hm)) e
  exact ⟨rfl, rfl⟩

theorem cnt_parse {s t r r' : B} (e : cnt s ++ r = cnt t ++ r') : s = t ∧ r = r' := by
 unfold cnt at e
 rw [List.append_assoc, List.append_assoc, List.cons_append, List.cons_append] at e
 obtain ⟨e1, e2⟩ := split_at (dec_no _) (dec_no _) e
 exact List.append_inj e2 (dec_inj _ _ e1)

theorem cnt_ne (s r : B) : cnt s ++ r ≠ [] := by simp [cnt]

theorem flat_inj : ∀ {l l' : List B}, l.flatMap cnt = l'.flatMap cnt → l = l'
 | [], [], _ => rfl
 | [], y :: l', e => by rw [List.flatMap_cons] at e; exact absurd e.symm (cnt_ne _ _)
 | x :: l, [], e => by rw [List.flatMap_cons] at e; exact absurd e (cnt_ne _ _)
 | x :: l, y :: l', e => by
  rw [List.flatMap_cons, List.flatMap_cons] at e
  obtain ⟨h1, h2⟩ := cnt_parse e
  rw [h1, flat_inj h2]

theorem keyT_inj {k w k' w' : B} {l l' : List B} (e : keyT k w l = keyT k' w' l') : k = k' ∧ w = w' ∧ l = l' := by
 unfold keyT at e
 rw [List.append_assoc, List.append_assoc] at e
 obtain ⟨h1, h2⟩ := cnt_parse e
 obtain ⟨h3, h4⟩ := cnt_parse h2
 exact ⟨h1, h3, flat_inj h4⟩
end Go.Proofs.YtnmhaipjfpongacGreatDoor

namespace Go.Proofs.YtnmhaipjfpongacGreatDoor
open Go.ChangeShapes Go.WideShapes Go.ChangeAt Go.RowKit

theorem flat_take_lenK {ins : List B} (h : ∀ x ∈ ins, x.length ≤ 3000) : ∀ j, ((ins.take j).flatMap cnt).length ≤ 4000 * j
 | 0 => by simp
 | j + 1 => by
  have ih := flat_take_lenK h j
  cases hx : ins[j]? with
  | none =>
   have : ins.take (j + 1) = ins.take j := by rw [List.take_add_one, hx]; simp
   rw [this]; omega
  | some x =>
   have hl := cnt_len x (by have := h x (List.mem_of_getElem? hx); omega)
   have := h x (List.mem_of_getElem? hx)
   rw [flat_take_step hx, List.length_append]
   omega

set_option maxHeartbeats 1000000 in
theorem keyBig_any (w : World) (kind word : B) (v : Value) (ins : List B) (hv : Rd S w v ins) (h1 : kind.length ≤ 100) (h2 : word.length ≤ 100) (h3 : ins.length ≤ 12) (h4 : ∀ x ∈ ins, x.length ≤ 3000) (hp : Pow w) :
  Calls Tryz.prog 123 #[S kind, S word, v] w fun e w' => e = .returned (S (keyT kind word ins)) ∧ Ext w w' := by
 obtain ⟨a, cap, rfl, _, _, hc⟩ := hv
 have l1 := cnt_len kind (by omega)
 have l2 := cnt_len word (by omega)
 have hck : ∀ w1, Pow w1 → Calls Tryz.prog 189 #[S kind] w1 _ := fun w1 h => counted_any w1 kind (by omega) h
 have hcw : ∀ w1, Pow w1 → Calls Tryz.prog 189 #[S word] w1 _ := fun w1 h => counted_any w1 word (by omega) h
 obtain ⟨K, hK⟩ : ∃ K, K = keyT kind word ins := ⟨_, rfl⟩
 obtain ⟨ck, hk⟩ : ∃ ck, ck = cnt kind := ⟨_, rfl⟩
 obtain ⟨cw, hw⟩ : ∃ cw, cw = cnt word := ⟨_, rfl⟩
 have hKe : K = ck ++ cw ++ ins.flatMap cnt := by rw [hK, hk, hw]; rfl
 rw [← hK]
 simp only [← hk] at hck
 simp only [← hw] at hcw
 rw [← hk] at l1
 rw [← hw] at l2
 have l3 : ¬ 9223372036854775807 < ck.length + cw.length := by omega
 have l4 : ck.length + cw.length ≤ 242 := by omega
 have HKE := Lib.hid hKe
 have HCK := Lib.hid hck
 have HCW := Lib.hid hcw
 have HC := Lib.hid hc
 have H4 := Lib.hid h4
 have HP := Lib.hid hp
 clear hc hKe hck hcw hK hk hw h4 hp l1 l2 h1 h2
 go_enter Tryz.func123, Tryz.ntmps123
 go_wp2_with fail
 refine (HCK.out _ (HP.out.ext (Only.alloc (fun _ => False) w _))).mono ?_
 rintro e w1 ⟨rfl, ho⟩
 have HO1 := Lib.hid ((Only.alloc (fun _ => False) w (.cells #[.pointer none, .slice none 0 0] 169 (0, 0))).ext ho)
 have HB1 := Lib.hid ((IsB.fresh w).ext ho)
 clear ho
 go_wp2_with fail
 refine (HCW.out _ (HP.out.ext HO1.out)).mono ?_
 rintro e w2 ⟨rfl, ho⟩
 have HO2 := Lib.hid (HO1.out.ext ho)
 have HB2 := Lib.hid (HB1.out.ext ho)
 clear ho
 go_wp2_with fail
 rw [ba_app]
 refine (write_any w.heap.size w.heap.size [] (ck ++ cw) w2 HB2.out (by simp; omega) HO2.out.size).mono ?_
 rintro e w3 ⟨rfl, hb3, hbl⟩
 have HO3 := Lib.hid (ext_below HO2.out hbl)
 have HB3 := Lib.hid hb3
 clear hb3 hbl HB1 HB2 HCK HCW HO1 HO2
 go_wp2_with fail
 obtain ⟨b, hbE⟩ : ∃ b, b = w.heap.size := ⟨_, rfl⟩
 have HB3' : Hid (IsB w.heap.size b (ck ++ cw) w3) := by rw [hbE]; simpa using HB3
 rw [← hbE]
 clear hbE HB3
 go_loopw [18] (fun i wr => ∃ j : Nat, j ≤ ins.length ∧ i = .int .i64 j ∧ Hid (Ext w wr) ∧ Hid (IsB w.heap.size b (ck ++ cw ++ (ins.take j).flatMap cnt) wr)) (fun i _ => ins.length - (intOf i).toNat)
 case atStart => exact ⟨0, Nat.zero_le _, rfl, HO3, by simpa using HB3'⟩
 case round =>
  obtain ⟨j, hj, rfl, HX, HB⟩ := hrel
  by_cases hlt : j < ins.length
  ·have hltz : (j : Int) < (ins.length : Int) := by omega
   obtain ⟨b0, off, rfl, hcell⟩ := HC.out (by intro h; rw [h] at hlt; simp at hlt)
   obtain ⟨x, hx⟩ : ∃ y, ins[j]? = some y := ⟨_, List.getElem?_eq_getElem hlt⟩
   have d0 : wr.cell? ⟨b0, off + j, none⟩ = some (S x) := HX.out.cellOf (hcell j x hx) (fun h => h)
   have hxl := H4.out x (List.mem_of_getElem? hx)
   have hst := flat_take_step hx
   have hfl := flat_take_lenK H4.out j
   have hcx := counted_any wr x (by omega) (HP.out.ext HX.out)
   have hcl := cnt_len x (by omega)
   obtain ⟨cx, hcx'⟩ : ∃ cx, cx = cnt x := ⟨_, rfl⟩
   rw [← hcx'] at hcx hst hcl
   have HST := Lib.hid hst
   have HCX := Lib.hid hcx
   clear hcell hx hst hcx hcx'
   obtain ⟨F, hF⟩ : ∃ F, F = (ins.take j).flatMap cnt := ⟨_, rfl⟩
   rw [← hF] at HB HST hfl
   clear hF
   go_wp2_with fail
   refine HCX.out.mono ?_
   rintro e w5 ⟨rfl, ho⟩
   have HX5 := Lib.hid (HX.out.ext ho)
   have HB5 := Lib.hid (HB.out.ext ho)
   clear ho
   go_wp2_with fail
   refine (write_any w.heap.size b _ cx w5 HB5.out (by simp; omega) HX5.out.size).mono ?_
   rintro e w6 ⟨rfl, hb6, hbl⟩
   have HX6 := Lib.hid (ext_below HX5.out hbl)
   have HB6 := Lib.hid hb6
   clear hb6 hbl
   go_wp2_with fail
   go_roundw
   case rel => exact ⟨j + 1, by omega, by go_num, HX6, Lib.hid (by rw [HST.out]; simpa using HB6.out)⟩
   case measure => simp [intOf]; omega
  ·have hltz : ¬ ((j : Int) < (ins.length : Int)) := by omega
   have ht : ins.take j = ins := List.take_of_length_le (by omega)
   rw [ht, ← HKE.out] at HB
   go_wp2_with fail
   refine (Tryz.Builder_String_any w.heap.size b K wr HB.out HX.out.size).mono ?_
   rintro e w6 ⟨rfl, hbl⟩
   have HX6 := Lib.hid (ext_below HX.out hbl)
   clear hbl
   go_wp2_with fail
   go_ret
   exact ⟨rfl, HX6.out⟩
end Go.Proofs.YtnmhaipjfpongacGreatDoor

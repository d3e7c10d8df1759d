/- Texts of this seat laid together for one claim: Y1, V12, Y6, V15. No condition of its own: what each proves stands with its theorems. -/
import Derived.Laws.BytesString
import Derived.Laws.IdiomStrings
import Derived.Maps.AppendAt
import Derived.Test.YtnmhaipjfpongabGreatDoorPS6
import Derived.Ground.GgzProg
import Derived.Ground.SlgmProg
import Derived.Shelf.SlIter.Nil
import Derived.Shelf.SortM.Plain
import Derived.Shelf.SortM.SortNone
import Derived.Test.YtnmhaipjfpongabGreatDoorProg
import Derived.Test.YtnmhaipjfpongabGreatDoorPS10
import Derived.Test.YtnmhaipjfpongabGreatDoorPS7
import Derived.Test.YtnmhaipjfpongabGreatDoorPS11
namespace Go.Proofs.YtnmhaipjfpongabGreatDoor
open Go.ChangeShapes Go.WideShapes Go.ChangeAt Go.RowKit

abbrev IsB (n0 b : Nat) (l : B) (w : World) : Prop := Lib.IsBuilder 152 5 n0 b (Lib.byteCells l) w

theorem builderAt_ext {n0 b : Nat} {p : Value} {bs : List Value} {w w' : World} (h : Lib.BuilderAt 152 5 n0 b p bs w) (ho : Ext w w') : Lib.BuilderAt 152 5 n0 b p bs w' := by
 obtain ⟨h1, v, h2, h3, h4⟩ := h
 exact ⟨h1, v, ho.heapOf h2 (fun h => h), ho.row h3 (fun _ _ h => h), h4⟩

theorem IsB.ext {n0 b : Nat} {l : B} {w w' : World} (h : IsB n0 b l w) (ho : Ext w w') : IsB n0 b l w' := by
 rcases h with h | h
 ·exact .inl (builderAt_ext h ho)
 ·exact .inr (builderAt_ext h ho)

theorem IsB.fresh (w : World) : IsB w.heap.size w.heap.size [] (w.alloc (.cells #[.pointer none, .slice none 0 0] 152 (0, 0))) :=
 .inl ⟨Nat.le_refl _, .slice none 0 0, (MapKept.heap_alloc w _).1, World.ownsRow_nil _ _ _ _, by intro h; cases h⟩

theorem ext_below {w w1 w2 : World} (h : Ext w w1) (hb : Below w.heap.size w1 w2) : Ext w w2 := Only.of_below (h.extBelow.trans hb)

def keyT (kind word : B) (ins : List B) : B := cnt kind ++ cnt word ++ ins.flatMap cnt

theorem cnt_len (s : B) (h : s.length ≤ 1000000) : (cnt s).length ≤ 21 + s.length := by
 have := dec_le s.length (by omega)
 simp [cnt]; omega

theorem flat_take_step {ins : List B} {j : Nat} {x : B} (hx : ins[j]? = some x) : (ins.take (j + 1)).flatMap cnt = (ins.take j).flatMap cnt ++ cnt x := by
 rw [List.take_add_one, hx]; simp

theorem longTexts_any (w : World) (v : Value) (l : List B) (many most : Int) (hv : Rd S w v l) (hm : 0 ≤ most ∧ most ≤ 1000000) :
  Calls Tryz.prog 18 #[v, .int .i64 many, .int .i64 most] w fun e w' => (∃ r : Int, e = .returned (.int .i64 r) ∧ (r = 0 ∨ r = 1) ∧ (r = 0 → (l.length : Int) ≤ many ∧ ∀ x ∈ l, (x.length : Int) ≤ most)) ∧ w = w' := by
 obtain ⟨a, cap, rfl, _, hm1, hc⟩ := hv
 have hl1 : l.length ≤ 9223372036854775807 := by unfold maxLen at hm1; omega
 obtain ⟨m0, m1⟩ := hm
 have HC := Lib.hid hc
 clear hc hm1
 by_cases hmany : many < (l.length : Int)
 ·go_enter Tryz.func18, Tryz.ntmps18
  go_wp2_with fail
  go_ret
  exact ⟨⟨1, rfl, .inr rfl, fun h => by cases h⟩, rfl⟩
 ·go_enter Tryz.func18, Tryz.ntmps18
  go_wp2_with fail
  go_loop [7, 8] (fun n i => ∃ (j : Nat) (m : Int), j ≤ l.length ∧ i = .int .i64 j ∧ n = .int .i64 m ∧ 0 ≤ m ∧ m ≤ most ∧ Hid (∀ i (q : B), i < j → l[i]? = some q → (q.length : Int) ≤ most)) (fun _ i => l.length - (intOf i).toNat)
  case atStart => exact ⟨0, 0, Nat.zero_le _, rfl, rfl, Int.le_refl _, m0, Lib.hid (fun i q h => absurd h (Nat.not_lt_zero _))⟩
  case round =>
   obtain ⟨j, m, hj, rfl, rfl, hm0, hmm, hb⟩ := hrel
   by_cases hlt : j < l.length
   ·have hltz : (j : Int) < (l.length : Int) := by omega
    obtain ⟨b0, off, rfl, hcell⟩ := HC.out (by intro h; rw [h] at hlt; simp at hlt)
    obtain ⟨x, hx⟩ : ∃ y, l[j]? = some y := ⟨_, List.getElem?_eq_getElem hlt⟩
    have d0 := hcell j x hx
    have HXX := Lib.hid hx
    clear hcell hx
    by_cases h1 : most < (x.length : Int)
    ·go_wp2_with fail
     go_ret
     exact ⟨⟨1, rfl, .inr rfl, fun h => by cases h⟩, rfl⟩
    by_cases h2 : most < m + (x.length : Int)
    ·go_wp2_with fail
     go_ret
     exact ⟨⟨1, rfl, .inr rfl, fun h => by cases h⟩, rfl⟩
    ·go_wp2_with fail
     go_round
     case rel => exact ⟨j + 1, m + x.length, by omega, by go_num, rfl, by omega, by omega, Lib.hid (fun i q hi hq => by
      rcases Nat.lt_succ_iff_lt_or_eq.1 hi with h | rfl
      ·exact hb.out i q h hq
      ·rw [HXX.out] at hq; cases hq; omega)⟩
     case measure => simp [intOf]; omega
   ·have hltz : ¬ ((j : Int) < (l.length : Int)) := by omega
    go_wp2_with fail
    go_ret
    refine ⟨⟨0, rfl, .inl rfl, fun _ => ?_⟩, rfl⟩
    intro x hx
    obtain ⟨i, hi⟩ := List.getElem?_of_mem hx
    exact hb.out i x (by have := (List.getElem?_eq_some_iff.1 hi).1; omega) hi
end Go.Proofs.YtnmhaipjfpongabGreatDoor

namespace Go.Proofs.YtnmhaipjfpongabGreatDoor
open Go.ChangeShapes Go.WideShapes Go.ChangeAt Go.RowKit

abbrev IsBF (n0 b : Nat) (l : B) (w : World) : Prop := Lib.IsBuilderF 152 5 n0 b (Lib.byteCells l) w

theorem builderAtF_ext {n0 b : Nat} {p : Value} {bs : List Value} {w w' : World} (h : Lib.BuilderAtF 152 5 n0 b p bs w) (ho : Ext w w') : Lib.BuilderAtF 152 5 n0 b p bs w' := by
 obtain ⟨h1, v, h2, h3, h4⟩ := h
 refine ⟨h1, v, ho.heapOf h2 (fun h => h), ?_, h4⟩
 obtain ⟨h5, h6⟩ := h3
 refine ⟨h5, ?_⟩
 rcases h6 with h6 | ⟨g, cap, cur, fz, h7, h8, h9, h10⟩
 ·exact .inl h6
 ·exact .inr ⟨g, cap, cur, fz, h7, h8, ho.heapOf h9 (fun h => h), h10⟩

theorem IsBF.ext {n0 b : Nat} {l : B} {w w' : World} (h : IsBF n0 b l w) (ho : Ext w w') : IsBF n0 b l w' := by
 rcases h with h | h
 ·exact .inl (builderAtF_ext h ho)
 ·exact .inr (builderAtF_ext h ho)

theorem IsBF.fresh (w : World) : IsBF w.heap.size w.heap.size [] (w.alloc (.cells #[.pointer none, .slice none 0 0] 152 (0, 0))) :=
 .inl (Lib.BuilderAtF.of ⟨Nat.le_refl _, .slice none 0 0, (MapKept.heap_alloc w _).1, World.ownsRow_nil _ _ _ _, by intro h; cases h⟩)

def TextsKept (w w' : World) : Prop := ∀ (k : Nat) (cs : Array Value) (fz : Nat × Nat), w.heap[k]? = some (.cells cs 9 fz) → w'.heap[k]? = some (.cells cs 9 fz)

theorem TextsKept.ext {a w w' : World} (h : TextsKept a w) (ho : Ext w w') : TextsKept a w' := fun k cs fz hk => ho.heapOf (h k cs fz hk) (fun h => h)

theorem writeK_any (n0 b : Nat) (l s : B) (w : World) (h : IsBF n0 b l w) (hlen : l.length + s.length ≤ 140737488355328) (hBw : n0 ≤ w.heap.size) :
  Calls Tryz.prog 101 #[.pointer (some ⟨b, 0, none⟩), S s] w fun e w' => e = .returned (.tuple #[I s.length, .nilIface]) ∧ IsBF n0 b (l ++ s) w' ∧ Below n0 w w' ∧ Lib.OthersKept 5 (some b) w w' := by
 have hsz : (⟨s.toArray⟩ : ByteArray).size = s.length := by simp [ByteArray.size]
 refine (Any.Builder_WriteString_k { Tryz.lays156 with } Tryz.Builder_Extra_156 n0 b (Lib.byteCells l) ⟨s.toArray⟩ w h (by rw [Lib.byteCells_length, hsz]; exact hlen) hBw).mono ?_
 rintro e w' ⟨rfl, h1, h2, h3⟩
 refine ⟨by rw [hsz], .inr ?_, h2, h3⟩
 have e1 : Lib.byteCells l ++ Lib.strCells ⟨s.toArray⟩ = Lib.byteCells (l ++ s) := by rw [Lib.strCells_eq]; simp [Lib.byteCells]
 rw [← e1]
 exact h1

end Go.Proofs.YtnmhaipjfpongabGreatDoor

namespace Go.Proofs.YtnmhaipjfpongabGreatDoor
open Go.ChangeShapes Go.WideShapes Go.ChangeAt Go.RowKit

theorem flat_take_lenK {ins : List B} (h : ∀ x ∈ ins, x.length ≤ 3000) : ∀ j, ((ins.take j).flatMap cnt).length ≤ 4000 * j
 | 0 => by simp
 | j + 1 => by
  have ih := flat_take_lenK h j
  cases hx : ins[j]? with
  | none =>
   have : ins.take (j + 1) = ins.take j := by rw [List.take_add_one, hx]; simp
   rw [this]; omega
  | some x =>
   have hl := cnt_len x (by have := h x (List.mem_of_getElem? hx); omega)
   have := h x (List.mem_of_getElem? hx)
   rw [flat_take_step hx, List.length_append]
   omega

set_option maxHeartbeats 1000000 in
theorem keyBig_any (w : World) (kind word : B) (v : Value) (ins : List B) (hv : Rd S w v ins) (h1 : kind.length ≤ 100) (h2 : word.length ≤ 100) (h3 : ins.length ≤ 12) (h4 : ∀ x ∈ ins, x.length ≤ 3000) (hp : Pow w) :
  Calls Tryz.prog 127 #[S kind, S word, v] w fun e w' => e = .returned (S (keyT kind word ins)) ∧ Ext w w' := by
 obtain ⟨a, cap, rfl, _, _, hc⟩ := hv
 have l1 := cnt_len kind (by omega)
 have l2 := cnt_len word (by omega)
 have hck : ∀ w1, Pow w1 → Calls Tryz.prog 200 #[S kind] w1 _ := fun w1 h => counted_any w1 kind (by omega) h
 have hcw : ∀ w1, Pow w1 → Calls Tryz.prog 200 #[S word] w1 _ := fun w1 h => counted_any w1 word (by omega) h
 obtain ⟨K, hK⟩ : ∃ K, K = keyT kind word ins := ⟨_, rfl⟩
 obtain ⟨ck, hk⟩ : ∃ ck, ck = cnt kind := ⟨_, rfl⟩
 obtain ⟨cw, hw⟩ : ∃ cw, cw = cnt word := ⟨_, rfl⟩
 have hKe : K = ck ++ cw ++ ins.flatMap cnt := by rw [hK, hk, hw]; rfl
 rw [← hK]
 simp only [← hk] at hck
 simp only [← hw] at hcw
 rw [← hk] at l1
 rw [← hw] at l2
 have l3 : ¬ 9223372036854775807 < ck.length + cw.length := by omega
 have l4 : ck.length + cw.length ≤ 242 := by omega
 have HKE := Lib.hid hKe
 have HCK := Lib.hid hck
 have HCW := Lib.hid hcw
 have HC := Lib.hid hc
 have H4 := Lib.hid h4
 have HP := Lib.hid hp
 clear hc hKe hck hcw hK hk hw h4 hp l1 l2 h1 h2
 go_enter Tryz.func127, Tryz.ntmps127
 go_wp2_with fail
 refine (HCK.out _ (HP.out.ext (Only.alloc (fun _ => False) w _))).mono ?_
 rintro e w1 ⟨rfl, ho⟩
 have HO1 := Lib.hid ((Only.alloc (fun _ => False) w (.cells #[.pointer none, .slice none 0 0] 152 (0, 0))).ext ho)
 have HB1 := Lib.hid ((IsB.fresh w).ext ho)
 clear ho
 go_wp2_with fail
 refine (HCW.out _ (HP.out.ext HO1.out)).mono ?_
 rintro e w2 ⟨rfl, ho⟩
 have HO2 := Lib.hid (HO1.out.ext ho)
 have HB2 := Lib.hid (HB1.out.ext ho)
 clear ho
 go_wp2_with fail
 rw [ba_app]
 refine (write_any w.heap.size w.heap.size [] (ck ++ cw) w2 HB2.out (by simp; omega) HO2.out.size).mono ?_
 rintro e w3 ⟨rfl, hb3, hbl⟩
 have HO3 := Lib.hid (ext_below HO2.out hbl)
 have HB3 := Lib.hid hb3
 clear hb3 hbl HB1 HB2 HCK HCW HO1 HO2
 go_wp2_with fail
 obtain ⟨b, hbE⟩ : ∃ b, b = w.heap.size := ⟨_, rfl⟩
 have HB3' : Hid (IsB w.heap.size b (ck ++ cw) w3) := by rw [hbE]; simpa using HB3
 rw [← hbE]
 clear hbE HB3
 go_loopw [18] (fun i wr => ∃ j : Nat, j ≤ ins.length ∧ i = .int .i64 j ∧ Hid (Ext w wr) ∧ Hid (IsB w.heap.size b (ck ++ cw ++ (ins.take j).flatMap cnt) wr)) (fun i _ => ins.length - (intOf i).toNat)
 case atStart => exact ⟨0, Nat.zero_le _, rfl, HO3, by simpa using HB3'⟩
 case round =>
  obtain ⟨j, hj, rfl, HX, HB⟩ := hrel
  by_cases hlt : j < ins.length
  ·have hltz : (j : Int) < (ins.length : Int) := by omega
   obtain ⟨b0, off, rfl, hcell⟩ := HC.out (by intro h; rw [h] at hlt; simp at hlt)
   obtain ⟨x, hx⟩ : ∃ y, ins[j]? = some y := ⟨_, List.getElem?_eq_getElem hlt⟩
   have d0 : wr.cell? ⟨b0, off + j, none⟩ = some (S x) := HX.out.cellOf (hcell j x hx) (fun h => h)
   have hxl := H4.out x (List.mem_of_getElem? hx)
   have hst := flat_take_step hx
   have hfl := flat_take_lenK H4.out j
   have hcx := counted_any wr x (by omega) (HP.out.ext HX.out)
   have hcl := cnt_len x (by omega)
   obtain ⟨cx, hcx'⟩ : ∃ cx, cx = cnt x := ⟨_, rfl⟩
   rw [← hcx'] at hcx hst hcl
   have HST := Lib.hid hst
   have HCX := Lib.hid hcx
   clear hcell hx hst hcx hcx'
   obtain ⟨F, hF⟩ : ∃ F, F = (ins.take j).flatMap cnt := ⟨_, rfl⟩
   rw [← hF] at HB HST hfl
   clear hF
   go_wp2_with fail
   refine HCX.out.mono ?_
   rintro e w5 ⟨rfl, ho⟩
   have HX5 := Lib.hid (HX.out.ext ho)
   have HB5 := Lib.hid (HB.out.ext ho)
   clear ho
   go_wp2_with fail
   refine (write_any w.heap.size b _ cx w5 HB5.out (by simp; omega) HX5.out.size).mono ?_
   rintro e w6 ⟨rfl, hb6, hbl⟩
   have HX6 := Lib.hid (ext_below HX5.out hbl)
   have HB6 := Lib.hid hb6
   clear hb6 hbl
   go_wp2_with fail
   go_roundw
   case rel => exact ⟨j + 1, by omega, by go_num, HX6, Lib.hid (by rw [HST.out]; simpa using HB6.out)⟩
   case measure => simp [intOf]; omega
  ·have hltz : ¬ ((j : Int) < (ins.length : Int)) := by omega
   have ht : ins.take j = ins := List.take_of_length_le (by omega)
   rw [ht, ← HKE.out] at HB
   go_wp2_with fail
   refine (Tryz.Builder_String_any w.heap.size b K wr HB.out HX.out.size).mono ?_
   rintro e w6 ⟨rfl, hbl⟩
   have HX6 := Lib.hid (ext_below HX.out hbl)
   clear hbl
   go_wp2_with fail
   go_ret
   exact ⟨rfl, HX6.out⟩
end Go.Proofs.YtnmhaipjfpongabGreatDoor

namespace Go.Proofs.YtnmhaipjfpongabGreatDoor
open Go.ChangeShapes Go.WideShapes Go.ChangeAt Go.RowKit

structure TT (w0 wr : World) (b mb m : Nat) (slv : Value) (LT LM : FL) : Prop where
 ext : Ext w0 wr
 nb : w0.heap.size ≤ b
 nmb : w0.heap.size ≤ mb
 nm : w0.heap.size ≤ m
 tree : TreeAt wr b mb LT
 model : RTree wr w0.heap.size m slv LM

structure TA (e : TypeId) (w0 wr : World) (b mb m : Nat) (slv : Value) (LT LM : FL) (ha : Nat) (cs : Array Value) : Prop where
 tt : TT w0 wr b mb m slv LT LM
 act : wr.heap[ha]? = some (.cells cs e (0, 0))

theorem blocks_ne {w : World} {b b' : Nat} {cs cs' : Array Value} {e e' : TypeId} {fr fr' : Nat × Nat} (h : w.heap[b]? = some (.cells cs e fr)) (h' : w.heap[b']? = some (.cells cs' e' fr')) (hne : e ≠ e') : b ≠ b' := by
 rintro rfl
 rw [h] at h'
 cases h'
 exact hne rfl

section
variable {w0 wr w' : World} {b mb m : Nat} {slv : Value} {LT LM : FL} {ha : Nat} {cs : Array Value} {e : TypeId}

theorem TT.later (J : TT w0 wr b mb m slv LT LM) (h : Ext wr w') : TT w0 w' b mb m slv LT LM :=
 ⟨J.ext.then h, J.nb, J.nmb, J.nm, J.tree.ext h, J.model.ext h⟩

theorem TT.m_mb (J : TT w0 wr b mb m slv LT LM) : m ≠ mb := heap_ne_map J.model.cells J.tree.map
theorem TT.b_m (J : TT w0 wr b mb m slv LT LM) : b ≠ m := blocks_ne J.tree.cells J.model.cells (by decide)
theorem TT.s_mb (J : TT w0 wr b mb m slv LT LM) : ∀ i, slv.ownBlock = some i → i ≠ mb := row_ne_map J.model.row J.tree.map
theorem TT.s_b (J : TT w0 wr b mb m slv LT LM) : ∀ i, slv.ownBlock = some i → i ≠ b := row_ne J.model.row J.tree.cells (by decide)

theorem TT.treeStep {L' : FL} (J : TT w0 wr b mb m slv LT LM) (ht : TreeAt w' b mb L') (ho : Only (fun i => i = mb) wr w') : TT w0 w' b mb m slv L' LM :=
 ⟨J.ext.trans ho (fun _ _ h => h) (fun i hi e => by have := J.nmb; omega), J.nb, J.nmb, J.nm, ht, J.model.later ho J.m_mb J.s_mb⟩

theorem TT.modelStep {L' : FL} {r : Value} {x : Ending} (J : TT w0 wr b mb m slv LT LM) (h : RDone wr w0.heap.size m slv L' r x w') : ∃ slv', x = .returned r ∧ TT w0 w' b mb m slv' LT L' ∧ Only (InR m slv) wr w' := by
 obtain ⟨slv', rfl, hr, ho, _⟩ := h
 refine ⟨slv', rfl, ⟨J.ext.trans ho (fun _ _ h => h) (fun i hi e => ?_), J.nb, J.nmb, J.nm, J.tree.later ho (fun e => ?_) (fun e => ?_), hr⟩, ho⟩
 ·rcases e with e | e
  ·have := J.nm; omega
  ·have := (J.model.row.lt i e).1; omega
 ·rcases e with e | e
  ·exact J.b_m e
  ·exact J.s_b b e rfl
 ·rcases e with e | e
  ·exact J.m_mb e.symm
  ·exact J.s_mb mb e rfl

theorem TA.later (J : TA e w0 wr b mb m slv LT LM ha cs) (h : Ext wr w') : TA e w0 w' b mb m slv LT LM ha cs := ⟨J.tt.later h, h.heapOf J.act (fun h => h)⟩

theorem TA.treeStep {L' : FL} (J : TA e w0 wr b mb m slv LT LM ha cs) (ht : TreeAt w' b mb L') (ho : Only (fun i => i = mb) wr w') : TA e w0 w' b mb m slv L' LM ha cs :=
 ⟨J.tt.treeStep ht ho, ho.heapOf J.act (heap_ne_map J.act J.tt.tree.map)⟩

theorem TA.modelStep {L' : FL} {r : Value} {x : Ending} (he1 : e ≠ 128) (he2 : e ≠ 78) (J : TA e w0 wr b mb m slv LT LM ha cs) (h : RDone wr w0.heap.size m slv L' r x w') : ∃ slv', x = .returned r ∧ TA e w0 w' b mb m slv' LT L' ha cs := by
 obtain ⟨slv', rfl, h1, ho⟩ := J.tt.modelStep h
 refine ⟨slv', rfl, h1, ho.heapOf J.act fun h => ?_⟩
 rcases h with h | h
 ·exact blocks_ne J.act J.tt.model.cells he1 h
 ·exact row_ne J.tt.model.row J.act (Ne.symm he2) ha h rfl

theorem TA.c (J : TA e w0 wr b mb m slv LT LM ha cs) (j : Nat) : wr.cell? ⟨ha, j, none⟩ = cs[j]? := cell_of_heap J.act j

theorem TA.at (J : TA e w0 wr b mb m slv LT LM ha cs) {j : Nat} {u : Value} (h : cs[j]? = some u) : wr.cell? ⟨ha, j, none⟩ = some u := (J.c j).trans h

theorem TA.put {P : Nat → Addr} (J : TA e w0 wr b mb m slv LT LM ha cs) (hf : Fits LT) (hs : Sents w0 P) (hm : HasMax w0) (hl : ∀ q ∈ LT, q.1.length ≤ 1000) (p x : B) (hp : p.length ≤ 999999) :
  Calls Tryz.prog 52 #[.pointer (some ⟨b, 0, none⟩), S p, S x] wr fun r w' => r = .returned (errC P (putCode LT p x)) ∧ TA e w0 w' b mb m slv (putT LT p x) LM ha cs :=
 (treePut_any wr P b mb LT p x J.tt.tree hf ((hs.ext J.tt.ext).errs _) (hm.ext J.tt.ext) hp (fun q hq => by have := hl q hq; omega)).mono fun _ _ ⟨h1, h2, h3⟩ => ⟨h1, J.treeStep h2 h3⟩

end

theorem lens_put {L : FL} (hr : Rising L) {n : Nat} (h : ∀ q ∈ L, q.1.length ≤ n) (p x : B) (hp : p.length ≤ n) : ∀ q ∈ putT L p x, q.1.length ≤ n := by
 intro q hq
 unfold putT at hq
 split at hq
 ·rcases mem_set hr hq with rfl | h1
  ·exact hp
  ·exact h q h1
 ·exact h q hq
end Go.Proofs.YtnmhaipjfpongabGreatDoor

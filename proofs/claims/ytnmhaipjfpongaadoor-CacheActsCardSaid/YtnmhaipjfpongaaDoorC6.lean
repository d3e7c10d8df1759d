/- CacheNew's loops, step by step: what is kept of memory while a cache, two rows of texts and a third one grow side by side. -/
import Derived.Test.YtnmhaipjfpongaaDoorC5
import Derived.Test.YtnmhaipjfpongaaDoorP1
namespace Go.Proofs.YtnmhaipjfpongaaDoor
open Go.ChangeShapes Go.WideShapes Go.ChangeAt Go.RowKit

def Disj (p q : Nat → Prop) : Prop := ∀ i, p i → ¬ q i
def OwnOf (v : Value) (i : Nat) : Prop := v.ownBlock = some i

theorem Disj.symm {p q : Nat → Prop} (h : Disj p q) : Disj q p := fun i hq hp => h i hp hq

/-- One side grows by what is new. -/
theorem Disj.grow {p p' q : Nat → Prop} {n : Nat} (h : Disj p q) (hg : ∀ i, p' i → p i ∨ n ≤ i) (hq : ∀ i, q i → i < n) : Disj p' q := fun i hp hqi => by
  rcases hg i hp with h' | h'
  · exact h i h' hqi
  · have := hq i hqi; omega

theorem row_lt {w : World} {base : Nat} {e : TypeId} {size : Nat} {v : Value} {n : Nat} {xs : List Value} (h : w.ownsRow base e size v n xs) : ∀ i, OwnOf v i → i < w.heap.size := fun i hi => (h.lt i hi).2
theorem row_ge {w : World} {base : Nat} {e : TypeId} {size : Nat} {v : Value} {n : Nat} {xs : List Value} (h : w.ownsRow base e size v n xs) : ∀ i, OwnOf v i → base ≤ i := fun i hi => (h.lt i hi).1

/-- The state of CacheNew: a cache, and two rows of texts, all made by the call. -/
structure Inv (w0 wr : World) (b mb : Nat) (vl vb sv : Value) (n : Nat) (ls bs : List B) (L : List (B × B)) : Prop where
  ext : Ext w0 wr
  new : ∀ i, InCache b mb sv i → w0.heap.size ≤ i
  cache : CacheAt wr b mb sv n L
  last : wr.ownsRow w0.heap.size 9 1 vl ls.length (ls.map S)
  bytes : wr.ownsRow w0.heap.size 9 1 vb bs.length (bs.map S)
  dl : Disj (OwnOf vl) (InCache b mb sv)
  db : Disj (OwnOf vb) (InCache b mb sv)
  dlb : Disj (OwnOf vl) (OwnOf vb)

section
variable {w0 wr w' : World} {b mb : Nat} {vl vb sv : Value} {n : Nat} {ls bs : List B} {L : List (B × B)}

theorem Inv.later (I : Inv w0 wr b mb vl vb sv n ls bs L) (h : Ext wr w') : Inv w0 w' b mb vl vb sv n ls bs L :=
  ⟨I.ext.ext h, I.new, I.cache.later h (fun _ _ h => h), h.row I.last (fun _ _ h => h), h.row I.bytes (fun _ _ h => h), I.dl, I.db, I.dlb⟩

theorem Inv.cacheStep {L' : List (B × B)} {r : Value} {e : Ending} (I : Inv w0 wr b mb vl vb sv n ls bs L) (h : Got wr b mb sv n L' r e w') : ∃ sv', e = .returned r ∧ Inv w0 w' b mb vl vb sv' n ls bs L' := by
  obtain ⟨sv', rfl, hc, ho, hn⟩ := h
  refine ⟨sv', rfl, I.ext.new ho I.new, new_step I.new hn I.ext.size, hc, ho.row I.last (fun i e => I.dl i e), ho.row I.bytes (fun i e => I.db i e), ?_, ?_, I.dlb⟩
  · exact (I.dl.symm.grow hn (row_lt I.last)).symm
  · exact (I.db.symm.grow hn (row_lt I.bytes)).symm

theorem grown_base (I : Ext w0 wr) {v : Value} (hv : ∀ i, OwnOf v i → w0.heap.size ≤ i) (hg : wr.grownBy w' v.ownBlock) : Ext w0 w' :=
  I.new (Only.of_grown hg) fun i e => hv i e

theorem Inv.appendLast {k : B} {v' : Value} (I : Inv w0 wr b mb vl vb sv n ls bs L) (ho : w'.ownsRow w0.heap.size 9 1 v' (ls.length + 1) (ls.map S ++ [S k])) (hg : wr.grownBy w' vl.ownBlock)
    (hat : ∀ i, OwnOf v' i → OwnOf vl i ∨ wr.heap.size ≤ i) : Inv w0 w' b mb v' vb sv n (ls ++ [k]) bs L :=
  ⟨grown_base I.ext (row_ge I.last) hg, I.new, I.cache.later (Only.of_grown hg) (fun i h e => I.dl i e h), by simpa using ho, (Only.of_grown hg).row I.bytes (fun i e e1 => I.dlb i e1 e),
    I.dl.grow hat I.cache.lt, I.db, I.dlb.grow hat (row_lt I.bytes)⟩

theorem Inv.appendBytes {k : B} {v' : Value} (I : Inv w0 wr b mb vl vb sv n ls bs L) (ho : w'.ownsRow w0.heap.size 9 1 v' (bs.length + 1) (bs.map S ++ [S k])) (hg : wr.grownBy w' vb.ownBlock)
    (hat : ∀ i, OwnOf v' i → OwnOf vb i ∨ wr.heap.size ≤ i) : Inv w0 w' b mb vl v' sv n ls (bs ++ [k]) L :=
  ⟨grown_base I.ext (row_ge I.bytes) hg, I.new, I.cache.later (Only.of_grown hg) (fun i h e => I.db i e h), (Only.of_grown hg).row I.last (fun i e e1 => I.dlb i e e1), by simpa using ho,
    I.dl, I.db.grow hat I.cache.lt, (I.dlb.symm.grow hat (row_lt I.last)).symm⟩
end

theorem Inv.start {w w1 w2 : World} {n : Nat} (h1 : Ext w w1) (hc : CacheAt w2 (w1.heap.size + 1) w1.heap.size (.slice none 0 0) n []) (h2 : Ext w1 w2) :
    Inv w w2 (w1.heap.size + 1) w1.heap.size (.slice none 0 0) (.slice none 0 0) (.slice none 0 0) n [] [] [] := by
  have hz := h1.size
  have hnil : ∀ i, ¬ OwnOf (.slice none 0 0) i := fun i e => by cases e
  refine ⟨h1.ext h2, ?_, hc, World.ownsRow_nil _ _ _ _, World.ownsRow_nil _ _ _ _, fun i e => absurd e (hnil i), fun i e => absurd e (hnil i), fun i e => absurd e (hnil i)⟩
  rintro i (rfl | rfl | e)
  · omega
  · omega
  · exact absurd e (hnil i)

theorem putL_getL (n : Nat) (L : List (B × B)) (k x : B) : putL n (getL L k) k x = putL n L k x := by
  have : (getL L k).filter (fun p => !(p.1 == k)) = L.filter fun p => !(p.1 == k) := by
    unfold getL
    split
    · rw [List.filter_append, List.filter_filter, List.filter_cons_of_neg (by simp)]
      simp
    · rfl
  unfold putL
  rw [this]

/-- 'append(l, x)' at []string, the row the call's own. -/
theorem wpList_app {ops : Array Oper} {rest : List Oper} {o : Oper} {a : Act} {Q : Exit → Act → World → Prop} (s x : Operand) (base : Nat) (v : Value) (l : List B) (k : B) (W : World) (hgd : o.guard = none)
    (ho : o.op = .call { callee := .builtin .append, args := #[s, x], argTypes := #[29, 29] }) (hs : a.eval s = v) (hx : a.eval x = .slice (some ⟨W.heap.size, 0, none⟩) 1 1)
    (hrow : W.ownsRow base 9 1 v l.length (l.map S)) (hl : l.length ≤ 1000000) (hbase : base ≤ W.heap.size)
    (hK : ∀ g cap w', w'.ownsRow base 9 1 (.slice (some ⟨g, 0, none⟩) (l.length + 1) cap) (l.length + 1) (l.map S ++ [S k]) → W.grownBy w' v.ownBlock → (∀ i, OwnOf (.slice (some ⟨g, 0, none⟩) (l.length + 1) cap) i → OwnOf v i ∨ W.heap.size ≤ i) →
      wpList Tryd.prog ops Q rest (a.put o.dst (.slice (some ⟨g, 0, none⟩) (l.length + 1) cap)) w') :
    wpList Tryd.prog ops Q (o :: rest) a (W.alloc (.cells #[S k] 9 (0, 0))) := by
  obtain ⟨i0, hi, hz0, hz1, hz2⟩ := info_parts infoStr
  refine wpList_append_lies _ hgd s x 29 ho base 9 i0 (.string ⟨#[]⟩) 1 16 Tryd.underlying29 hi hz0 hz1 hz2 rfl (by decide) v l.length (l.map S) hs (hrow.alloc _) ⟨W.heap.size, 0, none⟩ 1 1 [S k] hx rfl
    (cell_one_new _ _ _) ?_ (by decide) ?_ ?_ ?_ (W.heap.size + 1) (by simp) ?_
  · intro u hu; simp at hu; subst hu; rfl
  · unfold maxLen; omega
  · omega
  · simp; omega
  · intro g cap w' hown hg hat hlt
    refine hK g cap w' hown ?_ ?_
    · exact ((Only.alloc (fun i => v.ownBlock = some i) W _).then (Only.of_grown hg)).grown
    · intro i e
      cases e
      rcases hat with h | h
      · exact .inl h
      · exact .inr (by rw [h]; exact Nat.le_succ _)

/-- A slice of what is asked of a cache. -/
def Asks (w : World) (v : Value) (l : List (Bool × B × B)) : Prop :=
  ∃ a cap, v = .slice a l.length cap ∧ l.length ≤ cap ∧ cap ≤ maxLen ∧ (l ≠ [] → ∃ b off, a = some ⟨b, off, none⟩ ∧ ∀ i p k x, l[i]? = some (p, k, x) →
    w.cell? ⟨b, off + i * 3, none⟩ = some (.bool p) ∧ w.cell? ⟨b, off + i * 3 + 1, none⟩ = some (S k) ∧ w.cell? ⟨b, off + i * 3 + 2, none⟩ = some (S x))

def LoopOne (w0 : World) (b mb n m : Nat) (vl vb i : Value) (wr : World) : Prop :=
  ∃ (k : Nat) (sv : Value) (R L : List (B × B)), k ≤ m ∧ i = .int .i64 k ∧ Inv w0 wr b mb vl vb sv n (R.reverse.map (·.1)) (R.reverse.map (·.2)) L ∧ Lru n R L ∧ R.length ≤ k

/-- The third row: the keys that have been asked for anew. -/
structure Seen (w0 wr : World) (b mb : Nat) (vl vb sv vs : Value) (l : List B) : Prop where
  row : wr.ownsRow w0.heap.size 9 1 vs l.length (l.map S)
  dc : Disj (OwnOf vs) (InCache b mb sv)
  dl : Disj (OwnOf vs) (OwnOf vl)
  db : Disj (OwnOf vs) (OwnOf vb)

section
variable {w0 wr w' : World} {b mb : Nat} {vl vb sv vs : Value} {n : Nat} {ls bs l : List B} {L : List (B × B)}

theorem Inv.seenAppend {k : B} {v' : Value} (I : Inv w0 wr b mb vl vb sv n ls bs L) (J : Seen w0 wr b mb vl vb sv vs l) (ho : w'.ownsRow w0.heap.size 9 1 v' (l.length + 1) (l.map S ++ [S k])) (hg : wr.grownBy w' vs.ownBlock)
    (hat : ∀ i, OwnOf v' i → OwnOf vs i ∨ wr.heap.size ≤ i) : Inv w0 w' b mb vl vb sv n ls bs L ∧ Seen w0 w' b mb vl vb sv v' (l ++ [k]) :=
  ⟨⟨grown_base I.ext (row_ge J.row) hg, I.new, I.cache.later (Only.of_grown hg) (fun i h e => J.dc i e h), (Only.of_grown hg).row I.last (fun i e e1 => J.dl i e1 e), (Only.of_grown hg).row I.bytes (fun i e e1 => J.db i e1 e), I.dl, I.db, I.dlb⟩,
    ⟨by simpa using ho, J.dc.grow hat I.cache.lt, J.dl.grow hat (row_lt I.last), J.db.grow hat (row_lt I.bytes)⟩⟩

theorem Inv.seenGet {L' : List (B × B)} {r : Value} {e : Ending} (I : Inv w0 wr b mb vl vb sv n ls bs L) (J : Seen w0 wr b mb vl vb sv vs l) (h : Got wr b mb sv n L' r e w') :
    ∃ sv', e = .returned r ∧ Inv w0 w' b mb vl vb sv' n ls bs L' ∧ Seen w0 w' b mb vl vb sv' vs l := by
  obtain ⟨sv', rfl, hc, ho, hn⟩ := h
  refine ⟨sv', rfl, ⟨I.ext.new ho I.new, new_step I.new hn I.ext.size, hc, ho.row I.last (fun i e => I.dl i e), ho.row I.bytes (fun i e => I.db i e), ?_, ?_, I.dlb⟩, ⟨ho.row J.row (fun i e => J.dc i e), ?_, J.dl, J.db⟩⟩
  · exact (I.dl.symm.grow hn (row_lt I.last)).symm
  · exact (I.db.symm.grow hn (row_lt I.bytes)).symm
  · exact (J.dc.symm.grow hn (row_lt J.row)).symm
end

theorem row_cell {w : World} {base g c : Nat} {l : List B} (h : w.ownsRow base 9 1 (.slice (some ⟨g, 0, none⟩) l.length c) l.length (l.map S)) {i : Nat} {x : B} (hx : l[i]? = some x) : w.cell? ⟨g, i, none⟩ = some (S x) := by
  have hi : i < l.length := (List.getElem?_eq_some_iff.1 hx).1
  rw [h.cellAt i (by omega), List.getElem?_map, hx]
  rfl

theorem row_cell' {w : World} {base g c n : Nat} {l : List B} (h : w.ownsRow base 9 1 (.slice (some ⟨g, 0, none⟩) n c) l.length (l.map S)) (hn : n = l.length) {i : Nat} {x : B} (hx : l[i]? = some x) : w.cell? ⟨g, i, none⟩ = some (S x) := by
  subst hn
  exact row_cell h hx

theorem own_form {w : World} {base n m c : Nat} {e : TypeId} {a : Option Addr} {xs : List Value} (h : w.ownsRow base e 1 (.slice a n c) m xs) (hn : 0 < m) : ∃ g, a = some ⟨g, 0, none⟩ := by
  obtain ⟨g, cap, hv, _⟩ := h.form hn
  cases hv
  exact ⟨g, rfl⟩

theorem rev_at (R : List (B × B)) (q : Nat) (hq : q < R.length) : R[R.length - 1 - q]? = R.reverse[q]? := by rw [List.getElem?_reverse hq]

def LoopTwo (w0 : World) (b mb n : Nat) (R : List (B × B)) (vl vb : Value) (ls bs : List B) (vs i : Value) (wr : World) : Prop :=
  ∃ (m : Nat) (z : Int) (sv : Value) (L : List (B × B)), m ≤ R.length ∧ i = .int .i64 z ∧ z = (m : Int) - 1 ∧ Inv w0 wr b mb vl vb sv n ls bs L ∧ L.Perm ((recent R).take n) ∧ Seen w0 wr b mb vl vb sv vs ((recent (R.take (R.length - m))).map (·.1))

theorem getL_perm {L : List (B × B)} {k x : B} (hn : (L.map (·.1)).Nodup) (h : L.lookup k = some x) : (getL L k).Perm L := by
  unfold getL
  rw [h]
  exact (List.perm_append_singleton _ _).trans (perm_of_lookup hn h).symm

theorem getL_len (L : List (B × B)) (k : B) : (getL L k).length ≤ L.length + 1 := by
  unfold getL
  have := List.length_filter_le (fun p : B × B => !(p.1 == k)) L
  split
  · simp; omega
  · omega

/-- A block of another kind is none of the cache's. -/
theorem heap_not_cache {w : World} {b mb : Nat} {sv : Value} {n : Nat} {L : List (B × B)} {i : Nat} {cs : Array Value} {e : TypeId} {fr : Nat × Nat} (hb : w.heap[i]? = some (.cells cs e fr)) (h : CacheAt w b mb sv n L) (h1 : e ≠ 75) (h2 : 9 ≠ e) : ¬ InCache b mb sv i := by
  rintro (rfl | rfl | h3)
  · have := h.cells
    rw [this] at hb
    cases hb
    exact h1 rfl
  · exact heap_ne_map hb h.map rfl
  · exact row_ne h.row hb h2 i h3 rfl

theorem box_not_row {w : World} {base i n : Nat} {v : Value} {xs : List Value} {cs : Array Value} {e : TypeId} {fr : Nat × Nat} (hb : w.heap[i]? = some (.cells cs e fr)) (h2 : 9 ≠ e) (h : w.ownsRow base 9 1 v n xs) : ¬ v.ownBlock = some i :=
  fun h3 => row_ne h hb h2 i h3 rfl

set_option maxHeartbeats 4000000 in
set_option maxRecDepth 100000 in
theorem walkNew (w : World) (n : Nat) (v : Value) (l : List (Bool × B × B)) (hv : Asks w v l) (hn1 : 1 ≤ n) (hn2 : n ≤ 100) (hl : l.length ≤ 100) :
    Calls Tryd.prog 3 #[I n, v] w fun e w' => e = .returned (.bool true) ∧ Ext w w' := by
  obtain ⟨a, cap, rfl, hcap, hm, hc⟩ := hv
  have hx1 : ¬ ((n : Int) < 1) := by omega
  have hx2 : ¬ (100 < (n : Int)) := by omega
  have hx3 : ¬ (100 < (l.length : Int)) := by omega
  have HC := Lib.hid hc
  clear hc hm
  go_enter Tryd.func3, Tryd.ntmps3
  go_wp2_with fail
  refine (cached_any w).mono ?_
  rintro e w1 ⟨rfl, hw1⟩
  have HW1 := Lib.hid hw1
  clear hw1
  go_wp2_with fail
  refine (cacheNew_any n w1 hn1 hn2).mono ?_
  rintro e w2 ⟨rfl, hc, ho, hs⟩
  have I0 := Inv.start HW1.out hc ho
  have HI := Lib.hid I0
  clear hc ho hs I0
  obtain ⟨b, hb⟩ : ∃ b, b = w1.heap.size + 1 := ⟨_, rfl⟩
  obtain ⟨mb, hmb⟩ : ∃ mb, mb = w1.heap.size := ⟨_, rfl⟩
  rw [← hb, ← hmb] at HI
  rw [← hb]
  clear hb hmb HW1
  go_wp2_with fail
  go_loopw [8, 9, 10] (fun vl vb i wr => LoopOne w b mb n l.length vl vb i wr) (fun _ _ i _ => l.length - (intOf i).toNat)
  case atStart => exact ⟨0, _, [], [], Nat.zero_le _, rfl, HI.out, by simp [Lru, recent], Nat.le_refl _⟩
  case round =>
    obtain ⟨k, sv, R, L, hk, rfl, hI, hlru, hRk⟩ := hrel
    have HIr := Lib.hid hI
    have HL := Lib.hid hlru
    clear hI hlru
    by_cases hlt : k < l.length
    · have hltz : (k : Int) < (l.length : Int) := by omega
      obtain ⟨b0, off, rfl, hcell⟩ := HC.out (by intro h; rw [h] at hlt; simp at hlt)
      obtain ⟨⟨p, key, x⟩, hx⟩ : ∃ y, l[k]? = some y := ⟨_, List.getElem?_eq_getElem hlt⟩
      obtain ⟨d0, d1, d2⟩ := hcell k p key x hx
      have d0 := HIr.out.ext.cellOf d0 (fun h => h)
      have d1 := HIr.out.ext.cellOf d1 (fun h => h)
      have d2 := HIr.out.ext.cellOf d2 (fun h => h)
      clear hcell hx
      by_cases hk1 : 100 < key.length
      · have hk1z : 100 < (key.length : Int) := by omega
        go_wp2_with fail
        go_ret
        exact ⟨rfl, HIr.out.ext.thenAlloc _⟩
      by_cases hk2 : 100 < x.length
      · have hk1z : ¬ 100 < (key.length : Int) := by omega
        have hk2z : 100 < (x.length : Int) := by omega
        go_wp2_with fail
        go_ret
        exact ⟨rfl, HIr.out.ext.thenAlloc _⟩
      have hk1z : ¬ 100 < (key.length : Int) := by omega
      have hk2z : ¬ 100 < (x.length : Int) := by omega
      have IA := HIr.out.later (Only.alloc (fun _ => False) wr (.cells #[.bool p, S key, S x] 31 (0, 0)))
      have hLn := HL.out.len
      have hget := get_any _ b mb sv n L key IA.cache (by omega)
      have hbx : ∀ w3, Only (InCache b mb sv) (wr.alloc (.cells #[.bool p, S key, S x] 31 (0, 0))) w3 → w3.heap[wr.heap.size]? = some (.cells #[.bool p, S key, S x] 31 (0, 0)) := fun w3 ho =>
        ho.heapOf (MapKept.heap_alloc wr _).1 fun h => Nat.lt_irrefl _ (HIr.out.cache.lt _ h)
      have HBX := Lib.hid hbx
      have HIA := Lib.hid IA
      clear hbx IA
      cases p with
      | true =>
        have HG := Lib.hid hget
        clear hget
        go_wp2_with fail
        refine HG.out.mono ?_
        rintro e w3 hg
        have hb3 : w3.heap[wr.heap.size]? = some (.cells #[.bool true, S key, S x] 31 (0, 0)) := by
          obtain ⟨_, _, _, ho, _⟩ := hg
          exact HBX.out _ ho
        obtain ⟨sv3, rfl, I3⟩ := HIA.out.cacheStep hg
        have f0 := (cell_of_heap hb3 0).trans (show _ = some (Value.bool true) from rfl)
        have f1 := (cell_of_heap hb3 1).trans (show _ = some (S key) from rfl)
        have f2 := (cell_of_heap hb3 2).trans (show _ = some (S x) from rfl)
        have HI3 := Lib.hid I3
        have HB3 := Lib.hid hb3
        clear I3 hb3 hg
        generalize hr : S ((L.lookup key).getD []) = r0
        generalize hr1 : (L.lookup key).isSome = r1
        clear hr hr1
        go_wp2_with fail
        have hput := put_any w3 b mb sv3 n (getL L key) key x HI3.out.cache (by have := getL_len L key; omega)
        rw [putL_getL] at hput
        refine hput.mono ?_
        clear hput
        rintro e w4 hg
        have hb4 : w4.heap[wr.heap.size]? = some (.cells #[.bool true, S key, S x] 31 (0, 0)) := by
          obtain ⟨_, _, _, ho, _⟩ := hg
          exact ho.heapOf HB3.out fun h => heap_not_cache HB3.out HI3.out.cache (by decide) (by decide) h
        obtain ⟨sv4, rfl, I4⟩ := HI3.out.cacheStep hg
        have f1' := (cell_of_heap hb4 1).trans (show _ = some (S key) from rfl)
        have f2' := (cell_of_heap hb4 2).trans (show _ = some (S x) from rfl)
        have HI4 := Lib.hid I4
        have HB4 := Lib.hid hb4
        have HLR := Lib.hid (HL.out.put hn1 key x)
        have hle : ((putL n L key x).length : Int) ≤ (n : Int) := by have := HLR.out.len; omega
        have HLE := Lib.hid hle
        clear I4 hb4 hg f0 f1 f2 hle
        go_wp2_with (first | (at_builtin; refine wpList_app (.tmp 90) (.tmp 93) w.heap.size _ _ key _ rfl rfl rfl rfl HI4.out.last ?hl1 ?hb1 ?_; (case hl1 => simp; omega); (case hb1 => have := HI4.out.ext.size; omega); intro g5 cap5 w5 ho5 hg5 ha5; have I5 := HI4.out.appendLast ho5 hg5 ha5; have b5 : w5.heap[wr.heap.size]? = some (.cells #[.bool true, S key, S x] 31 (0, 0)) := (Only.of_grown hg5).heapOf HB4.out (box_not_row HB4.out (by decide) HI4.out.last); have HI5 := Lib.hid I5; have HB5 := Lib.hid b5; clear ho5 hg5 ha5 I5 b5) | (at_builtin; refine wpList_app (.tmp 95) (.tmp 97) w.heap.size _ _ x _ rfl rfl rfl rfl HI5.out.bytes ?hl2 ?hb2 ?_; (case hl2 => simp; omega); (case hb2 => have := HI5.out.ext.size; omega); intro g6 cap6 w6 ho6 hg6 ha6; have I6 := HI5.out.appendBytes ho6 hg6 ha6; have HI6 := Lib.hid I6; clear ho6 hg6 ha6 I6) | (go_at_call 15; refine (len_any _ _ _ _ _ _ HI6.out.cache).mono ?_; rintro e w7 ⟨rfl, rfl⟩; have h7 := HLE.out))
        go_roundw
        case rel => exact ⟨k + 1, _, (key, x) :: R, _, by omega, by go_num, by have := HI6.out; simpa using this, HLR.out, by simp; omega⟩
        case measure => simp [intOf]; omega
      | false =>
        cases hlk : L.lookup key with
        | none =>
          have egl : getL L key = L := by unfold getL; rw [hlk]
          rw [hlk, egl] at hget
          have HG := Lib.hid hget
          clear hget hlk egl
          go_wp2_with fail
          refine HG.out.mono ?_
          rintro e w3 hg
          have hb3 : w3.heap[wr.heap.size]? = some (.cells #[.bool false, S key, S x] 31 (0, 0)) := by
            obtain ⟨_, _, _, ho, _⟩ := hg
            exact HBX.out _ ho
          obtain ⟨sv3, rfl, I3⟩ := HIA.out.cacheStep hg
          have f0 := (cell_of_heap hb3 0).trans (show _ = some (Value.bool false) from rfl)
          have HI3 := Lib.hid I3
          clear I3 hb3 hg
          go_wp2_with fail
          go_roundw
          case rel => exact ⟨k + 1, _, R, L, by omega, by go_num, HI3.out, HL.out, by omega⟩
          case measure => simp [intOf]; omega
        | some z =>
          rw [hlk] at hget
          have HLR := Lib.hid (HL.out.get hlk)
          have hle : ((getL L key).length : Int) ≤ (n : Int) := by have := HLR.out.len; omega
          have HLE := Lib.hid hle
          have HG := Lib.hid hget
          clear hget hlk hle
          go_wp2_with fail
          refine HG.out.mono ?_
          rintro e w3 hg
          have hb3 : w3.heap[wr.heap.size]? = some (.cells #[.bool false, S key, S x] 31 (0, 0)) := by
            obtain ⟨_, _, _, ho, _⟩ := hg
            exact HBX.out _ ho
          obtain ⟨sv3, rfl, I3⟩ := HIA.out.cacheStep hg
          have f0 := (cell_of_heap hb3 0).trans (show _ = some (Value.bool false) from rfl)
          have f1 := (cell_of_heap hb3 1).trans (show _ = some (S key) from rfl)
          have HI4 := Lib.hid I3
          have HB4 := Lib.hid hb3
          clear I3 hb3 hg
          go_wp2_with (first | (at_builtin; refine wpList_app (.tmp 90) (.tmp 93) w.heap.size _ _ key _ rfl rfl rfl rfl HI4.out.last ?hl1 ?hb1 ?_; (case hl1 => simp; omega); (case hb1 => have := HI4.out.ext.size; omega); intro g5 cap5 w5 ho5 hg5 ha5; have I5 := HI4.out.appendLast ho5 hg5 ha5; have b5 : w5.heap[wr.heap.size]? = some (.cells #[.bool false, S key, S x] 31 (0, 0)) := (Only.of_grown hg5).heapOf HB4.out (box_not_row HB4.out (by decide) HI4.out.last); have HI5 := Lib.hid I5; have HB5 := Lib.hid b5; clear ho5 hg5 ha5 I5 b5) | (at_builtin; refine wpList_app (.tmp 95) (.tmp 97) w.heap.size _ _ z _ rfl rfl rfl rfl HI5.out.bytes ?hl2 ?hb2 ?_; (case hl2 => simp; omega); (case hb2 => have := HI5.out.ext.size; omega); intro g6 cap6 w6 ho6 hg6 ha6; have I6 := HI5.out.appendBytes ho6 hg6 ha6; have HI6 := Lib.hid I6; clear ho6 hg6 ha6 I6) | (go_at_call 15; refine (len_any _ _ _ _ _ _ HI6.out.cache).mono ?_; rintro e w7 ⟨rfl, rfl⟩; have h7 := HLE.out))
          go_roundw
          case rel => exact ⟨k + 1, _, (key, z) :: R, _, by omega, by go_num, by have := HI6.out; simpa using this, HLR.out, by simp; omega⟩
          case measure => simp [intOf]; omega
    · have hlt' : ¬ ((k : Int) < (l.length : Int)) := by omega
      have hRl : (R.length : Int) ≤ 100 := by omega
      obtain ⟨al, cl, hvl, _, _, hal⟩ := Rd.of_row HIr.out.last
      obtain ⟨ab, cb, hvb, _, _, hab⟩ := Rd.of_row HIr.out.bytes
      have elen : (R.reverse.map (·.1)).length = R.length := by simp
      have elen2 : (R.reverse.map (·.2)).length = R.length := by simp
      rw [elen] at hvl
      rw [elen2] at hvb
      subst hvl
      subst hvb
      have HAL := Lib.hid hal
      have HAB := Lib.hid hab
      clear hal hab elen elen2
      have HP : Hid (L.Perm ((recent R).take n)) := by
        have h := HL.out
        unfold Lru at h
        rw [← h]
        exact (List.reverse_perm L).symm
      go_wp2_with fail
      go_loopw [14, 15] (fun vs i wr => LoopTwo w b mb n R (.slice al R.length cl) (.slice ab R.length cb) (R.reverse.map (·.1)) (R.reverse.map (·.2)) vs i wr) (fun _ i _ => (intOf i + 1).toNat)
      case atStart => exact ⟨R.length, _, sv, L, Nat.le_refl _, rfl, rfl, HIr.out, HP.out, by rw [Nat.sub_self]; exact ⟨World.ownsRow_nil _ _ _ _, fun i e => by (cases e), fun i e => by (cases e), fun i e => by (cases e)⟩⟩
      case round =>
        obtain ⟨m, z, sv2, L2, hm, rfl, hz, hI2, hP2, hJ2⟩ := hrel
        have HI2 := Lib.hid hI2
        have HP2 := Lib.hid hP2
        have HJ2 := Lib.hid hJ2
        clear hI2 hP2
        obtain ⟨ax, cs, hvs, _⟩ := Rd.of_row hJ2.row
        clear hJ2
        by_cases hm0 : m = 0
        · have hz0 : ¬ (0 ≤ z) := by omega
          clear hz hvs
          go_wp2_with fail
          go_ret
          exact ⟨rfl, HI2.out.ext⟩
        obtain ⟨q, rfl⟩ : ∃ q, m = q + 1 := ⟨m - 1, by omega⟩
        have hzq : z = (q : Int) := by omega
        subst hzq
        clear hz hm0
        have hz0 : 0 ≤ (q : Int) := by omega
        obtain ⟨j, hj⟩ : ∃ j, Hid (j = R.length - (q + 1)) := ⟨_, Lib.hid rfl⟩
        rw [← hj.out] at HJ2 hvs
        obtain ⟨p, hp⟩ : ∃ p, R[j]? = some p := ⟨_, List.getElem?_eq_getElem (by have := hj.out; omega)⟩
        have hpr : R.reverse[q]? = some p := by rw [List.getElem?_reverse (by omega), ← hp, hj.out]; congr 1; omega
        have hp1 : (R.reverse.map (·.1))[q]? = some p.1 := by rw [List.getElem?_map, hpr]; rfl
        have hp2 : (R.reverse.map (·.2))[q]? = some p.2 := by rw [List.getElem?_map, hpr]; rfl
        have hstep := seen_step hp
        have hj1 : R.length - q = j + 1 := by have := hj.out; omega
        rw [← hj1] at hstep
        have HST := Lib.hid hstep
        have HP0 := Lib.hid hp
        have HP1 := Lib.hid hp1
        have HP2' := Lib.hid hp2
        obtain ⟨sl, hsl⟩ : ∃ sl, Hid (sl = (recent (R.take j)).map (·.1)) := ⟨_, Lib.hid rfl⟩
        rw [← hsl.out] at HJ2 hvs
        subst hvs
        clear hstep hp hpr hp1 hp2 hj1
        by_cases hs : sl.length < n
        · have hsz : (sl.length : Int) < (n : Int) := by omega
          have hqz : (q : Int) < (R.length : Int) := by omega
          obtain ⟨g1, rfl⟩ := own_form HI2.out.last (by simp; omega)
          obtain ⟨g2, rfl⟩ := own_form HI2.out.bytes (by simp; omega)
          have c8 : wr.cell? ⟨g1, q, none⟩ = some (S p.1) := row_cell' HI2.out.last (by simp) HP1.out
          have hidx := index_any wr (.slice ax sl.length cs) sl p.1 (Rd.of_row HJ2.out.row)
          by_cases hmem : p.1 ∈ sl
          · rw [if_pos (List.idxOf_lt_length_iff.2 hmem)] at hidx
            have HX := Lib.hid hidx
            have hst := HST.out
            rw [if_pos (by rw [← hsl.out]; exact hmem)] at hst
            have HST2 := Lib.hid hst
            clear hidx hst hmem
            generalize List.idxOf p.1 sl = ix at HX
            have hix : (0 : Int) ≤ (ix : Int) := by omega
            go_wp2_with (go_at_call 16; refine HX.out.mono ?_; rintro e w5 ⟨rfl, rfl⟩)
            go_roundw
            case rel => exact ⟨q, _, sv2, L2, by omega, rfl, rfl, HI2.out, HP2.out, by rw [HST2.out, ← hsl.out]; exact HJ2.out⟩
            case measure => simp [intOf]
          · rw [if_neg (fun h => hmem (List.idxOf_lt_length_iff.1 h))] at hidx
            have HX := Lib.hid hidx
            have hst := HST.out
            rw [if_neg (by rw [← hsl.out]; exact hmem)] at hst
            have HST2 := Lib.hid hst
            have hfd := found HP2.out HP0.out (by rw [← hsl.out]; exact hmem) (by have h1 := hs; rw [hsl.out] at h1; simpa using h1)
            have HFD := Lib.hid hfd
            clear hidx hst hmem hfd
            have hneg : ¬ ((0 : Int) ≤ -1) := by omega
            go_wp2_with (first | (go_at_call 16; refine HX.out.mono ?_; rintro e w5 ⟨rfl, rfl⟩) | (at_builtin; refine wpList_app (.tmp 123) (.tmp 128) w.heap.size _ _ p.1 _ rfl rfl rfl rfl HJ2.out.row ?hl1 ?hb1 ?_; (case hl1 => omega); (case hb1 => exact HI2.out.ext.size); intro g5 cap5 w5 ho5 hg5 ha5; obtain ⟨I5, J5⟩ := HI2.out.seenAppend HJ2.out ho5 hg5 ha5; have c9 : w5.cell? ⟨g1, q, none⟩ = some (S p.1) := row_cell' I5.last (by simp) HP1.out; have HI5 := Lib.hid I5; have HJ5 := Lib.hid J5; clear ho5 hg5 ha5 I5 J5))
            have hget := get_any w5 b mb sv2 n L2 p.1 HI5.out.cache (by have := (HP2.out.length_eq); have := List.length_take_le n (recent R); omega)
            rw [HFD.out] at hget
            have HG := Lib.hid hget
            clear hget
            refine HG.out.mono ?_
            rintro e w6 hg
            obtain ⟨sv6, rfl, I6, J6⟩ := HI5.out.seenGet HJ5.out hg
            have c10 : w6.cell? ⟨g2, q, none⟩ = some (S p.2) := row_cell' I6.bytes (by simp) HP2'.out
            have HI6 := Lib.hid I6
            have HJ6 := Lib.hid J6
            clear hg I6 J6
            go_wp2_with fail
            go_roundw
            case rel => exact ⟨q, _, sv6, getL L2 p.1, by omega, rfl, rfl, HI6.out, (getL_perm HI5.out.cache.map.nodup HFD.out).trans HP2.out, by rw [HST2.out, List.map_append, ← hsl.out]; exact HJ6.out⟩
            case measure => simp [intOf]
        · have hsz : ¬ ((sl.length : Int) < (n : Int)) := by omega
          go_wp2_with fail
          go_ret
          exact ⟨rfl, HI2.out.ext⟩
end Go.Proofs.YtnmhaipjfpongaaDoor

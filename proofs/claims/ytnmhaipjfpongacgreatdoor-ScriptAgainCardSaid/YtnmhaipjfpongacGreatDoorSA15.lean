/- Texts of this seat laid together for one claim: Sh5, G1, G8. No condition of its own: what each proves stands with its theorems. -/
import Derived.Ground.Names2Prog
import Derived.Ground.SlgnProg
import Derived.Shelf.Slices.In.SortNone
import Derived.Shelf.Sort.Plain
import Derived.Test.YtnmhaipjfpongacGreatDoorProg
import Derived.Laws.MakeOwn
import Derived.Test.YtnmhaipjfpongacGreatDoorSA13
import Derived.Test.YtnmhaipjfpongacGreatDoorSA14
import Derived.Deep.AppendSrc
import Derived.Deep.Onto
namespace Go.Proofs
open Go.Shelf
def Tryz.lays189_ren : Go.Shelf.Ren := ⟨fun | 189 => 118 | 125 => 181 | 257 => 184 | 128 => 240 | 129 => 241 | 294 => 243 | 295 => 244 | 296 => 245 | 297 => 246 | 298 => 247 | 299 => 248 | 216 => 249 | 300 => 250 | 301 => 251 | 328 => 295 | 329 => 290 | 330 => 291 | 331 => 296 | 332 => 297 | 215 => 298 | 343 => 318 | n => n, fun | 28 => 46 | 3 => 3 | 46 => 248 | 0 => 0 | 51 => 307 | 53 => 309 | 4 => 4 | 183 => 301 | 182 => 300 | 131 => 182 | 5 => 5 | 9 => 9 | 218 => 347 | 222 => 351 | 228 => 362 | 229 => 157 | n => n, fun | n => n⟩
theorem Tryz.lays189 : Go.Proofs.Lays.n189 Tryz.prog Tryz.lays189_ren := {
 mixed := by kernel_rfl
 f125 := Tryz.func181.trans (congrArg some (by kernel_rfl))
 f128 := Tryz.func240.trans (congrArg some (by kernel_rfl))
 f129 := Tryz.func241.trans (congrArg some (by kernel_rfl))
 f189 := Tryz.func118.trans (congrArg some (by kernel_rfl))
 f215 := Tryz.func298.trans (congrArg some (by kernel_rfl))
 f216 := Tryz.func249.trans (congrArg some (by kernel_rfl))
 f257 := Tryz.func184.trans (congrArg some (by kernel_rfl))
 f294 := Tryz.func243.trans (congrArg some (by kernel_rfl))
 f295 := Tryz.func244.trans (congrArg some (by kernel_rfl))
 f296 := Tryz.func245.trans (congrArg some (by kernel_rfl))
 f297 := Tryz.func246.trans (congrArg some (by kernel_rfl))
 f298 := Tryz.func247.trans (congrArg some (by kernel_rfl))
 f299 := Tryz.func248.trans (congrArg some (by kernel_rfl))
 f300 := Tryz.func250.trans (congrArg some (by kernel_rfl))
 f301 := Tryz.func251.trans (congrArg some (by kernel_rfl))
 f328 := Tryz.func295.trans (congrArg some (by kernel_rfl))
 f329 := Tryz.func290.trans (congrArg some (by kernel_rfl))
 f330 := Tryz.func291.trans (congrArg some (by kernel_rfl))
 f331 := Tryz.func296.trans (congrArg some (by kernel_rfl))
 f332 := Tryz.func297.trans (congrArg some (by kernel_rfl))
 f343 := Tryz.func318.trans (congrArg some (by kernel_rfl))
 t0 := Tryz.underlying0
 a0 := Tryz.isAgg0
 z0 := Tryz.sizeOf0
 v0 := Tryz.zeroValue0
 t3 := Tryz.underlying3
 a3 := Tryz.isAgg3
 z3 := Tryz.sizeOf3
 v3 := Tryz.zeroValue3
 t4 := Tryz.underlying4
 a4 := Tryz.isAgg4
 z4 := Tryz.sizeOf4
 v4 := Tryz.zeroValue4
 t5 := Tryz.underlying5
 a5 := Tryz.isAgg5
 z5 := Tryz.sizeOf5
 v5 := Tryz.zeroValue5
 t9 := Tryz.underlying9
 a9 := Tryz.isAgg9
 z9 := Tryz.sizeOf9
 v9 := Tryz.zeroValue9
 t28 := Tryz.underlying46
 a28 := Tryz.isAgg46
 z28 := Tryz.sizeOf46
 v28 := Tryz.zeroValue46
 t46 := Tryz.underlying248
 a46 := Tryz.isAgg248
 z46 := Tryz.sizeOf248
 v46 := Tryz.zeroValue248
 t51 := Tryz.underlying307
 a51 := Tryz.isAgg307
 z51 := Tryz.sizeOf307
 v51 := Tryz.zeroValue307
 t53 := Tryz.underlying309
 a53 := Tryz.isAgg309
 z53 := Tryz.sizeOf309
 v53 := Tryz.zeroValue309
 t131 := Tryz.underlying182
 a131 := Tryz.isAgg182
 z131 := Tryz.sizeOf182
 v131 := Tryz.zeroValue182
 t182 := Tryz.underlying300
 a182 := Tryz.isAgg300
 z182 := Tryz.sizeOf300
 v182 := Tryz.zeroValue300
 t183 := Tryz.underlying301
 a183 := Tryz.isAgg301
 z183 := Tryz.sizeOf301
 v183 := Tryz.zeroValue301
 t218 := Tryz.underlying347
 a218 := Tryz.isAgg347
 z218 := Tryz.sizeOf347
 v218 := Tryz.zeroValue347
 t222 := Tryz.underlying351
 a222 := Tryz.isAgg351
 z222 := Tryz.sizeOf351
 v222 := Tryz.zeroValue351
 t228 := Tryz.underlying362
 a228 := Tryz.isAgg362
 z228 := Tryz.sizeOf362
 v228 := Tryz.zeroValue362
 t229 := Tryz.underlying157
 a229 := Tryz.isAgg157
 z229 := Tryz.sizeOf157
 v229 := Tryz.zeroValue157 }
open Go.Sort Go.RowKit in
theorem Tryz.slices_Sort_int (blk off cap : Nat) (zs : List Int) (w : World) (hH : Holds (Value.int .i64) w blk off zs.toArray) (hblk : blk < w.heap.size) (hsz : zs.length < 4611686018427387904) :
  Calls Tryz.prog 118 #[.slice (some ⟨blk, off, none⟩) zs.length cap] w fun e w' =>
   e = .returned (.tuple #[]) ∧ ∃ n os, w' = grow (putRow (Value.int .i64) (Sort.ahead w n) blk off (zs.mergeSort fun x y => decide (x ≤ y)).toArray) os := Any.slices_Sort_int Tryz.lays189 blk off cap zs w hH hblk hsz
open Go.RowKit Go.Sort in
theorem Tryz.slices_Sort_int_none (p : Option Addr) (cap : Nat) (w : World) :
  Calls Tryz.prog 118 #[.slice p 0 cap] w fun e w' => e = .returned (.tuple #[]) ∧ w' = w := Any.slices_Sort_int_none Tryz.lays189 p cap w
end Go.Proofs

namespace Go.Proofs.YtnmhaipjfpongacGreatDoor
open Go.ChangeShapes Go.WideShapes Go.ChangeAt Go.RowKit Go.Sort

def TabAt (w : World) (b : Nat) (e : TypeId) (n : Nat) (f : Nat → Value) : Prop := ∃ cur, w.heap[b]? = some (.cells cur e (0, 0)) ∧ cur.size = n ∧ ∀ k, k < n → cur[k]? = some (f k)

theorem TabAt.cell {w : World} {b n : Nat} {e : TypeId} {f : Nat → Value} (h : TabAt w b e n f) {k : Nat} (hk : k < n) : w.cell? ⟨b, k, none⟩ = some (f k) := by
 obtain ⟨cur, hh, _, hc⟩ := h
 rw [cell_of_heap hh]
 exact hc k hk
theorem TabAt.free {w : World} {b n : Nat} {e : TypeId} {f : Nat → Value} (h : TabAt w b e n f) (k : Nat) : w.frozen? ⟨b, k, none⟩ = false := by
 obtain ⟨cur, hh, _⟩ := h
 exact free_of_heap hh k
theorem TabAt.later {w w' : World} {b n : Nat} {e : TypeId} {f : Nat → Value} {p : Nat → Prop} (h : TabAt w b e n f) (ho : Only p w w') (hp : ¬ p b) : TabAt w' b e n f := by
 obtain ⟨cur, hh, hs, hc⟩ := h
 exact ⟨cur, ho.heapOf hh hp, hs, hc⟩
theorem TabAt.ext {w w' : World} {b n : Nat} {e : TypeId} {f : Nat → Value} (h : TabAt w b e n f) (ho : Ext w w') : TabAt w' b e n f := h.later ho (fun h => h)
theorem TabAt.set {w : World} {b n : Nat} {e : TypeId} {f : Nat → Value} (h : TabAt w b e n f) (k : Nat) (u : Value) : TabAt (w.setCell ⟨b, k, none⟩ u) b e n (fun i => if i = k then u else f i) := by
 obtain ⟨cur, hh, hs, hc⟩ := h
 refine ⟨_, heap_setCell_same hh k u, by simpa using hs, fun i hi => ?_⟩
 rw [Array.getElem?_setIfInBounds]
 show _ = some (if i = k then u else f i)
 by_cases he : k = i
 ·subst he
  rw [if_pos rfl, if_pos (by omega), if_pos rfl]
 ·have he2 : ¬ i = k := fun h => he h.symm
  rw [if_neg he, if_neg he2]
  exact hc i hi
theorem TabAt.congr {w : World} {b n : Nat} {e : TypeId} {f g : Nat → Value} (h : TabAt w b e n f) (hfg : ∀ k, k < n → f k = g k) : TabAt w b e n g := by
 obtain ⟨cur, hh, hs, hc⟩ := h
 exact ⟨cur, hh, hs, fun k hk => by rw [hc k hk, hfg k hk]⟩
theorem TabAt.made (w : World) (e : TypeId) (n : Nat) (z : Value) : TabAt (w.alloc (.cells (Array.replicate n z) e (0, 0))) w.heap.size e n (fun _ => z) :=
 ⟨_, (MapKept.heap_alloc w _).1, by simp, fun k hk => by rw [Array.getElem?_replicate, if_pos hk]⟩

abbrev IN (k : Nat) : Value := .int .i64 k
abbrev RowI (base : Nat) (w : World) (v : Value) (l : List Nat) : Prop := w.ownsRow base 3 1 v l.length (l.map IN)
theorem infoInt : (Tryz.prog.info? 3).map (fun i => (i.zero, i.size, i.bytes)) = some (some (.int .i64 0), 1, 8) := by kernel_rfl
theorem RowI.nil (base : Nat) (w : World) : RowI base w (.slice none 0 0) [] := World.ownsRow_nil _ _ _ _
theorem RowI.down {b b' : Nat} {w : World} {v : Value} {l : List Nat} (h : RowI b' w v l) (hb : b ≤ b') : RowI b w v l :=
 ⟨h.1, h.2.imp id fun ⟨g, cap, cur, e, hg, r⟩ => ⟨g, cap, cur, e, Nat.le_trans hb hg, r⟩⟩
theorem RowI.ext {base : Nat} {w w' : World} {v : Value} {l : List Nat} (h : RowI base w v l) (ho : Ext w w') : RowI base w' v l := ho.row h fun _ _ h => h
theorem RowI.rd {base : Nat} {w : World} {v : Value} {l : List Nat} (h : RowI base w v l) : Rd IN w v l := Rd.of_row h
theorem RowI.base {base : Nat} {w : World} {v : Value} {l : List Nat} (h : RowI base w v l) : ∀ i, v.ownBlock = some i → base ≤ i := fun i hi => (h.lt i hi).1
theorem RowI.cases {base : Nat} {w : World} {v : Value} {l : List Nat} (h : RowI base w v l) : (v = .slice none 0 0 ∧ l = []) ∨ ∃ g cap, v = .slice (some ⟨g, 0, none⟩) l.length cap := by
 rcases h.2 with ⟨h1, h2⟩ | ⟨g, cap, _, h1, _⟩
 ·exact .inl ⟨h1, by cases l with
   | nil => rfl
   | cons x l => simp at h2⟩
 ·exact .inr ⟨g, cap, h1⟩

theorem wpNum {P : Program} (hP : P = Tryz.prog) {ops : Array Oper} {rest : List Oper} {o : Oper} {a : Act} {Q : Exit → Act → World → Prop} (s x : Operand) (w0 : World) (base : Nat) (v : Value) (l : List Nat) (k : Nat) (W : World) (hgd : o.guard = none)
  (ho : o.op = .call { callee := .builtin .append, args := #[s, x], argTypes := #[46, 46] }) (hs : a.eval s = v) (hx : a.eval x = .slice (some ⟨W.heap.size, 0, none⟩) 1 1)
  (hrow : RowI base W v l) (hl : l.length ≤ 1000000) (hbase : base ≤ W.heap.size) (hxt : Ext w0 W) (hb0 : w0.heap.size ≤ base)
  (hK : ∀ g cap w', Hid (RowI base w' (.slice (some ⟨g, 0, none⟩) (l.length + 1) cap) (l ++ [k])) → Hid (Ext w0 w') → Hid (W.grownBy w' v.ownBlock) →
   wpList P ops Q rest (a.put o.dst (.slice (some ⟨g, 0, none⟩) (l.length + 1) cap)) w') :
  wpList P ops Q (o :: rest) a (W.alloc (.cells #[IN k] 3 (0, 0))) := by
 subst hP
 have hf : ∀ q : List Nat, q.flatMap (fun k => [IN k]) = q.map IN := fun q => by induction q with
  | nil => rfl
  | cons x q ih => rw [List.flatMap_cons, List.map_cons, ih]; rfl
 refine wpList_appS (fun k : Nat => [IN k]) 46 3 1 8 _ infoInt Tryz.underlying46 rfl (by decide) (fun _ => rfl) (fun _ u hu => by cases List.mem_singleton.1 hu; rfl) (by decide) s x base v l k W _ rfl hgd ho hs hx (by rw [hf]; exact hrow) hl hbase ?_
 intro g cap w' h1 h2 h3
 rw [hf] at h1
 refine hK g cap w' (Lib.hid ?_) (Lib.hid (grown_ext hxt (fun i hi => Nat.le_trans hb0 (hrow.base i hi)) h2)) (Lib.hid h2)
 show World.ownsRow _ _ _ _ _ (l ++ [k]).length _
 rw [List.length_append]
 exact h1

def sortN (l : List Nat) : List Nat := l.mergeSort fun x y => decide (x ≤ y)
def InPlaceI (base : Nat) (v r : Value) (l : List Nat) (w : World) (e : Ending) (w' : World) : Prop := e = .returned r ∧ RowI base w' v l ∧ Only (fun i => v.ownBlock = some i) w w'

theorem sortN_int (l : List Nat) : (l.map fun k : Nat => (k : Int)).mergeSort (fun x y => decide (x ≤ y)) = (sortN l).map fun k : Nat => (k : Int) := by
 unfold sortN
 rw [List.map_mergeSort]
 intro a _ b _
 simp

theorem sorted_cells (w : World) (g n cap base : Nat) (os : Array Obj) (cur : Array Value) (ts : List Int) (hh : w.heap[g]? = some (.cells cur 3 (0, 0))) (hb : base ≤ g) (hl : ts.length ≤ cap) (hm : cap ≤ maxLen) (hs : cur.size = cap * 1) :
  (grow (putRow (Value.int .i64) (Sort.ahead w n) g 0 ts.toArray) os).ownsRow base 3 1 (.slice (some ⟨g, 0, none⟩) ts.length cap) ts.length (ts.map (Value.int .i64)) ∧
  w.grownBy (grow (putRow (Value.int .i64) (Sort.ahead w n) g 0 ts.toArray) os) (some g) := by
 have hg : g < w.heap.size := lt_of_heap hh
 have hnew : (grow (putRow (Value.int .i64) (Sort.ahead w n) g 0 ts.toArray) os).heap[g]? = some (.cells (putCells (Value.int .i64) 0 ts.toArray cur) 3 (0, 0)) := by
  rw [heap_grow_old _ _ (by simpa using hg)]
  simp [putRow, mapBlock, Sort.ahead, Array.getElem?_modify, hh, onCells]
 refine ⟨⟨by simp, .inr ⟨g, cap, _, rfl, hb, hnew, hl, hm, by simp [putCells, hs], ?_⟩⟩, ⟨rfl, rfl, rfl, by simp, fun k hk hne => ?_⟩⟩
 ·rw [Nat.mul_one]
  apply List.ext_getElem?
  intro j
  by_cases hj : j < ts.length
  ·rw [List.getElem?_take_of_lt hj, Array.getElem?_toList]
   simp [putCells, hj, show j < cur.size by omega]
  ·rw [List.getElem?_eq_none (by simp; omega), List.getElem?_eq_none (by simp; omega)]
 ·rw [heap_grow_old _ _ (by simpa using hk)]
  have : g ≠ k := fun e => hne (by rw [e])
  simp [putRow, mapBlock, Sort.ahead, Array.getElem?_modify, this]

theorem holds_ints {w : World} {g : Nat} {cur : Array Value} {zs : List Int} (hb : w.heap[g]? = some (.cells cur 3 (0, 0))) (ht : cur.toList.take zs.length = zs.map (Value.int .i64)) : Holds (Value.int .i64) w g 0 zs.toArray := by
 intro j hj
 have hj' : j < zs.length := by simpa using hj
 refine ⟨?_, free_of_heap hb _⟩
 have h1 : (cur.toList.take zs.length)[j]? = (zs.map (Value.int .i64))[j]? := by rw [ht]
 rw [List.getElem?_take_of_lt hj', Array.getElem?_toList, List.getElem?_map, List.getElem?_eq_getElem hj'] at h1
 rw [Nat.zero_add, cell_of_heap hb, h1]
 simp [List.getElem?_eq_getElem hj']

theorem sort_rowI (w : World) (base : Nat) (v : Value) (l : List Nat) (h : RowI base w v l) (hl : l.length ≤ 1000000) :
  Calls Tryz.prog 118 #[v] w (InPlaceI base v (.tuple #[]) (sortN l) w) := by
 rcases h.2 with ⟨rfl, h0⟩ | ⟨g, cap, cur, rfl, hb, hh, h1, h2, h3, h4⟩
 ·cases l with
  | cons x l => simp at h0
  | nil =>
   refine (Tryz.slices_Sort_int_none none 0 w).mono ?_
   rintro e w' ⟨rfl, rfl⟩
   have e : sortN [] = [] := List.mergeSort_nil
   rw [e]
   exact ⟨rfl, RowI.nil _ _, Only.refl _ _⟩
 ·rw [Nat.mul_one] at h4
  have hm : l.map IN = (l.map fun k : Nat => (k : Int)).map (Value.int .i64) := by rw [List.map_map]; rfl
  rw [hm] at h4
  have hc := Tryz.slices_Sort_int g 0 cap (l.map fun k : Nat => (k : Int)) w (holds_ints hh (by rw [List.length_map]; exact h4)) (lt_of_heap hh) (by simp; omega)
  rw [List.length_map] at hc
  refine hc.mono ?_
  rintro e w' ⟨rfl, n, os, rfl⟩
  have hlen : (sortN l).length = l.length := List.length_mergeSort _
  rw [sortN_int]
  obtain ⟨r1, r2⟩ := sorted_cells w g n cap base os cur ((sortN l).map fun k : Nat => (k : Int)) hh hb (by simpa [hlen] using h1) h2 h3
  rw [List.length_map, hlen, List.map_map] at r1
  refine ⟨rfl, ?_, (Only.of_grown r2).mono fun i _ e => e⟩
  show World.ownsRow _ _ _ _ _ (sortN l).length _
  rw [hlen]
  exact r1

def RdLL (w : World) (v : Value) (E : List (List Nat)) : Prop :=
 ∃ a cap, v = .slice a E.length cap ∧ E.length ≤ cap ∧ cap ≤ maxLen ∧ (E ≠ [] → ∃ b off, a = some ⟨b, off, none⟩ ∧ ∀ (i : Nat) x, E[i]? = some x → ∃ u, Rd IN w u x ∧ w.cell? ⟨b, off + i, none⟩ = some u)
def RetLL (E : List (List Nat)) (w : World) (e : Ending) (w' : World) : Prop := ∃ v, e = .returned v ∧ RdLL w' v E ∧ Ext w w'

def byB (l : List Rule) : Nat → B → Option Nat
 | 0, _ => none
 | j + 1, s => if (l[j]?).map Rule.out = some s then some j else byB l j s

theorem byB_some {l : List Rule} (hn : (l.map Rule.out).Nodup) : ∀ {j k : Nat} {s : B}, j ≤ l.length → (byB l j s = some k ↔ k < j ∧ (l[k]?).map Rule.out = some s)
 | 0, k, s, _ => by simp [byB]
 | j + 1, k, s, hj => by
  have ih := byB_some hn (j := j) (k := k) (s := s) (by omega)
  unfold byB
  by_cases h : (l[j]?).map Rule.out = some s
  ·rw [if_pos h]
   constructor
   ·intro e; cases e; exact ⟨Nat.lt_succ_self _, h⟩
   ·rintro ⟨h1, h2⟩
    have : j = k := nodup_inj hn (i := j) (j := k) (x := s) (by rw [List.getElem?_map]; exact h) (by rw [List.getElem?_map]; exact h2)
    rw [this]
  ·rw [if_neg h, ih]
   constructor
   ·rintro ⟨h1, h2⟩; exact ⟨by omega, h2⟩
   ·rintro ⟨h1, h2⟩
    refine ⟨?_, h2⟩
    rcases Nat.lt_succ_iff_lt_or_eq.1 h1 with h3 | rfl
    ·exact h3
    ·exact absurd h2 h

def curB (l : List Rule) (ins : List B) : List Nat := ins.filterMap (byB l l.length)

theorem cur_sorted {l : List Rule} (hr : RightS l) {i : Nat} {r : Rule} (hi : l[i]? = some r) : sortN (curB l r.ins) = edgeB l.length (needB l) i := by
 have hn := hr.2.2
 have hrc := hr.2.1 r (List.mem_of_getElem? hi)
 have hnd : r.ins.Nodup := by
  unfold ruleCode at hrc
  repeat' split at hrc
  all_goals first
   | omega
   | (rename_i h; exact Classical.byContradiction fun h2 => h (.inr h2))
   | (exfalso; simp_all; done)
 have hmem : ∀ k, k ∈ curB l r.ins ↔ k ∈ edgeB l.length (needB l) i := by
  intro k
  rw [mem_edge]
  unfold curB needB
  rw [List.mem_filterMap, hi]
  constructor
  ·rintro ⟨s, hs, hk⟩
   obtain ⟨h1, h2⟩ := (byB_some hn (Nat.le_refl _)).1 hk
   obtain ⟨q, hq, rfl⟩ := Option.map_eq_some_iff.1 h2
   refine ⟨h1, ?_⟩
   rw [hq]
   simpa using hs
  ·rintro ⟨h1, h2⟩
   obtain ⟨q, hq⟩ : ∃ q, l[k]? = some q := ⟨_, List.getElem?_eq_getElem h1⟩
   rw [hq] at h2
   exact ⟨q.out, by simpa using h2, (byB_some hn (Nat.le_refl _)).2 ⟨h1, by rw [hq]; rfl⟩⟩
 have hcn : (curB l r.ins).Nodup := by
  unfold curB
  have key : ∀ ins : List B, ins.Nodup → (ins.filterMap (byB l l.length)).Nodup := by
   intro ins
   induction ins with
   | nil => intro _; exact List.nodup_nil
   | cons s ins ih =>
    intro h
    rw [List.nodup_cons] at h
    rw [List.filterMap_cons]
    split
    ·exact ih h.2
    ·rename_i k hk
     refine List.nodup_cons.2 ⟨fun hm => ?_, ih h.2⟩
     obtain ⟨s', hs', hk'⟩ := List.mem_filterMap.1 hm
     have h1 := ((byB_some hn (Nat.le_refl _)).1 hk).2
     have h2 := ((byB_some hn (Nat.le_refl _)).1 hk').2
     have : s = s' := Option.some.inj (h1.symm.trans h2)
     exact h.1 (this ▸ hs')
  exact key _ hnd
 have hen : (edgeB l.length (needB l) i).Nodup := List.nodup_range.filter _
 have hp : (curB l r.ins).Perm (edgeB l.length (needB l) i) := (List.perm_ext_iff_of_nodup hcn hen).2 hmem
 have hes : (edgeB l.length (needB l) i).Pairwise fun x y => decide (x ≤ y) = true := by
  unfold edgeB
  refine List.Pairwise.filter _ ?_
  exact (List.pairwise_lt_range (n := l.length)).imp fun h => decide_eq_true (Nat.le_of_lt h)
 have hss : (sortN (curB l r.ins)).Pairwise fun x y => decide (x ≤ y) = true := by
  unfold sortN
  refine List.pairwise_mergeSort (le := fun x y : Nat => decide (x ≤ y)) (fun a b c h1 h2 => ?_) (fun a b => ?_) _
  ·exact decide_eq_true (Nat.le_trans (of_decide_eq_true h1) (of_decide_eq_true h2))
  ·rcases Nat.le_total a b with h | h
   ·rw [decide_eq_true h]; rfl
   ·rw [decide_eq_true h, Bool.or_true]
 exact List.Perm.eq_of_pairwise (fun a b _ _ h1 h2 => Nat.le_antisymm (of_decide_eq_true h1) (of_decide_eq_true h2)) hss hes ((List.mergeSort_perm _ _).trans hp)

theorem lookup_filter {k s : B} : ∀ (L : List (B × Nat)), s ≠ k → (L.filter fun p => !(p.1 == k)).lookup s = L.lookup s
 | [], _ => rfl
 | (a, x) :: L, h => by
  by_cases ha : a = k
  ·subst ha
   have hs : (s == a) = false := beq_eq_false_iff_ne.2 h
   rw [List.filter_cons_of_neg (by simp), lookup_filter L h, List.lookup, hs]
  ·rw [List.filter_cons_of_pos (by simpa using ha)]
   simp only [List.lookup]
   rw [lookup_filter L h]
theorem by_step {l : List Rule} {j : Nat} {r : Rule} {L : List (B × Nat)} (hj : l[j]? = some r) (h : ∀ s, L.lookup s = byB l j s) : ∀ s, ((r.out, j) :: L.filter fun p => !(p.1 == r.out)).lookup s = byB l (j + 1) s := by
 intro s
 unfold byB
 rw [hj]
 by_cases e : s = r.out
 ·subst e
  rw [if_pos (by rfl)]
  simp [List.lookup]
 ·rw [if_neg (by simpa using fun h => e h.symm)]
  have hs : (s == r.out) = false := beq_eq_false_iff_ne.2 e
  rw [List.lookup, hs]
  simp only
  rw [lookup_filter L e, h]
end Go.Proofs.YtnmhaipjfpongacGreatDoor

namespace Go.Proofs.YtnmhaipjfpongacGreatDoor
open Go.ChangeShapes Go.WideShapes Go.ChangeAt Go.RowKit

def QI (base : Nat) (w : World) (v : Value) (l : List Nat) : Prop :=
 ∃ ao b off cap, v = .slice ao l.length cap ∧ cap ≤ maxLen ∧ (0 < cap → base ≤ b) ∧ Came w 1 ao b off l.length cap (l.map IN)

theorem QI.of_row {base : Nat} {w : World} {v : Value} {l : List Nat} (h : RowI base w v l) : QI base w v l := by
 rcases h.2 with ⟨rfl, h0⟩ | ⟨g, cap, cur, rfl, hb, hh, h1, h2, h3, h4⟩
 ·cases l with
  | cons x l => simp at h0
  | nil => exact ⟨none, 0, 0, 0, rfl, Nat.zero_le _, fun h => by omega, ⟨Nat.le_refl _, fun h => by omega, fun h => by omega, rfl, fun j u h => by simp at h, fun j h => by simp at h⟩⟩
 ·rw [Nat.mul_one] at h4
  refine ⟨_, g, 0, cap, rfl, h2, fun _ => hb, ⟨h1, fun _ => rfl, fun _ => lt_of_heap hh, by simp, fun j u hj => ?_, fun j hj => ?_⟩⟩
  ·rw [Nat.zero_add, cell_of_heap hh]
   have hlt : j < l.length := by have := (List.getElem?_eq_some_iff.1 hj).1; simpa using this
   have : (cur.toList.take l.length)[j]? = (l.map IN)[j]? := by rw [h4]
   rw [List.getElem?_take_of_lt hlt, Array.getElem?_toList] at this
   rw [this, hj]
  ·rw [Nat.mul_one] at hj
   rw [Nat.zero_add, Nat.mul_one]
   refine ⟨?_, free_of_heap hh _⟩
   rw [cell_of_heap hh, Array.getElem?_eq_getElem (by rw [h3]; omega)]
   rfl

theorem QI.later {base : Nat} {w w' : World} {v : Value} {l : List Nat} {p : Nat → Prop} (h : QI base w v l) (ho : Only p w w') (hp : ∀ b, p b → b < base) : QI base w' v l := by
 obtain ⟨ao, b, off, cap, rfl, h1, h2, hc⟩ := h
 have hn : 0 < cap → ¬ p b := fun h e => by have := hp b e; have := h2 h; omega
 refine ⟨ao, b, off, cap, rfl, h1, h2, ⟨hc.le, hc.addr, fun h => Nat.lt_of_lt_of_le (hc.lt h) ho.size, hc.oldsLen, fun j u hj => ?_, fun j hj => ?_⟩⟩
 ·have hlt := (List.getElem?_eq_some_iff.1 hj).1
  have hle := hc.le
  rw [List.length_map] at hlt
  exact ho.cellOf (hc.olds j u hj) (hn (by omega))
 ·have hcap : 0 < cap := by rw [Nat.mul_one] at hj; omega
  obtain ⟨c1, c2⟩ := hc.spare j hj
  obtain ⟨u, hu⟩ := Option.isSome_iff_exists.1 c1
  exact ⟨by rw [ho.cellOf hu (hn hcap)]; rfl, (ho.frozen (a := ⟨b, off + l.length * 1 + j, none⟩) (hc.lt hcap) (hn hcap)).trans c2⟩
theorem QI.head {base : Nat} {w : World} {v : Value} {k : Nat} {l : List Nat} (h : QI base w v (k :: l)) : ∃ b off cap, v = .slice (some ⟨b, off, none⟩) (l.length + 1) cap ∧ l.length + 1 ≤ cap ∧ cap ≤ maxLen ∧ w.cell? ⟨b, off, none⟩ = some (IN k) ∧
  (cap ≠ 1 → QI base w (.slice (some ⟨b, off + 1, none⟩) l.length (cap - 1)) l) ∧ (cap = 1 → ∀ ad, QI base w (.slice ad 0 0) []) := by
 obtain ⟨ao, b, off, cap, rfl, h1, h2, hc⟩ := h
 have hle := hc.le
 rw [List.length_cons] at hle
 have hcap : 0 < cap := by omega
 have ha := hc.addr hcap
 subst ha
 refine ⟨b, off, cap, rfl, hle, h1, ?_, fun hne => ?_, fun hone ad => ?_⟩
 ·have := hc.olds 0 (IN k) rfl
  rwa [Nat.add_zero] at this
 ·refine ⟨_, b, off + 1, cap - 1, rfl, by omega, fun _ => h2 hcap, ⟨by omega, fun _ => rfl, fun _ => hc.lt hcap, by simp, fun j u hj => ?_, fun j hj => ?_⟩⟩
  ·have := hc.olds (j + 1) u (by rw [List.map_cons, List.getElem?_cons_succ]; exact hj)
   rwa [show off + (j + 1) = off + 1 + j by omega] at this
  ·have := hc.spare j (by rw [Nat.mul_one] at hj ⊢; rw [List.length_cons]; omega)
   rw [List.length_cons, Nat.mul_one] at this
   rw [Nat.mul_one, show off + 1 + l.length + j = off + (l.length + 1) + j by omega]
   exact this
 ·exact ⟨ad, 0, 0, 0, rfl, Nat.zero_le _, fun h => by omega, ⟨Nat.le_refl _, fun h => by omega, fun h => by omega, rfl, fun j u h => by simp at h, fun j h => by simp at h⟩⟩

theorem QI.form {base : Nat} {w : World} {v : Value} {l : List Nat} (h : QI base w v l) : ∃ ao cap, v = .slice ao l.length cap ∧ l.length ≤ cap ∧ cap ≤ maxLen := by
 obtain ⟨ao, b, off, cap, rfl, h1, h2, hc⟩ := h
 exact ⟨ao, cap, rfl, hc.le, h1⟩

theorem run_queue {P : Program} (hP : P = Tryz.prog) (ty : TypeId) (W : World) (base : Nat) (v vx : Value) (l k : List Nat) (hq : QI base W v l) (hrd : Rd IN W vx k) (hl : l.length + k.length ≤ 1000000) (hbase : base ≤ W.heap.size) :
  ∃ v' w', (Builtin.append_ #[46, 46] ty #[v, vx]).run P W = .ok v' w' ∧ QI base w' v' (l ++ k) ∧ Only (fun b => base ≤ b) W w' := by
 subst hP
 obtain ⟨i0, hi, hz0, hz1, hz2⟩ := info_parts infoInt
 obtain ⟨ax, cx, rfl, hcx, hmx, hc⟩ := hrd
 have hsrc : Src Tryz.prog i0.size 46 (.slice ax k.length cx) k.length (k.map IN) W := by
  rw [hz1]
  cases k with
  | nil =>
   cases ax with
   | none => exact Src.ofNil W Tryz.underlying46 cx
   | some ad => exact Src.ofSlice W Tryz.underlying46 ad _ cx [] rfl (fun j u h => by simp at h) (fun u h => by simp at h)
  | cons x k =>
   obtain ⟨b, off, rfl, hcell⟩ := hc (by simp)
   refine Src.ofSlice W Tryz.underlying46 _ _ cx _ (by simp) (fun j u hj => ?_) (fun u hu => by obtain ⟨y, _, rfl⟩ := List.mem_map.1 hu; rfl)
   rw [List.getElem?_map] at hj
   obtain ⟨y, hy, rfl⟩ := Option.map_eq_some_iff.1 hj
   rw [addrAdd]
   exact hcell j y hy
 obtain ⟨ao, b, off, cap, rfl, h1, h2, hcm⟩ := hq
 have hlk : (l ++ k).length = l.length + k.length := List.length_append
 by_cases hroom : l.length + k.length ≤ cap
 ·by_cases hcap : 0 < cap
  ·have ha := hcm.addr hcap
   subst ha
   have hb := h2 hcap
   have hsp : ∀ j, j < (k.map IN).length → (W.cell? ⟨b, off + l.length * i0.size + j, none⟩).isSome = true ∧ W.frozen? ⟨b, off + l.length * i0.size + j, none⟩ = false := fun j hj => by
    rw [List.length_map] at hj
    rw [hz1]
    exact hcm.spare j (by rw [Nat.mul_one]; omega)
   have hrun := run_append_room_src (P := Tryz.prog) W 46 46 ty 3 i0 Tryz.underlying46 hi b off l.length cap (.slice ax k.length cx) k.length (k.map IN) hsrc hroom (fun j hj => (hsp j hj).1) (fun j hj => (hsp j hj).2)
   rw [hz1, Nat.mul_one] at hrun
   have ho := only_setCells b (k.map IN) (off + l.length) W
   refine ⟨_, _, hrun, ⟨_, b, off, cap, by rw [hlk], h1, h2, ⟨by rw [hlk]; exact hroom, fun _ => rfl, fun h => Nat.lt_of_lt_of_le (hcm.lt h) ho.size, by simp, fun j u hj => ?_, fun j hj => ?_⟩⟩, ho.mono fun i _ e => by rw [e]; exact hb⟩
   ·rw [List.map_append] at hj
    by_cases hjl : j < l.length
    ·rw [List.getElem?_append_left (by simpa using hjl)] at hj
     rw [World.cell?_setCells_out b _ _ _ _ (fun _ _ => .inl (by show off + j < off + l.length; omega))]
     exact hcm.olds j u hj
    ·rw [List.getElem?_append_right (by simpa using hjl), List.length_map] at hj
     obtain ⟨hjk, hv⟩ := List.getElem?_eq_some_iff.1 hj
     have := World.cell?_setCells_in b (k.map IN) (off + l.length) W (fun t ht => by
      have := (hsp t ht).1
      rwa [hz1, Nat.mul_one] at this) (j - l.length) hjk
     rw [show off + l.length + (j - l.length) = off + j by omega] at this
     rw [this, hv]
   ·rw [hlk] at hj ⊢
    rw [Nat.mul_one] at hj ⊢
    rw [World.cell?_setCells_out b _ _ _ _ (fun _ _ => .inr (by show off + l.length + (k.map IN).length ≤ off + (l.length + k.length) + j; rw [List.length_map]; omega)), World.frozen?_setCells]
    have := hcm.spare (k.length + j) (by rw [Nat.mul_one]; omega)
    rw [Nat.mul_one, show off + l.length + (k.length + j) = off + (l.length + k.length) + j by omega] at this
    exact this
  ·obtain rfl : cap = 0 := by omega
   obtain rfl : l = [] := List.length_eq_zero_iff.1 (by omega)
   obtain rfl : k = [] := List.length_eq_zero_iff.1 (by omega)
   have hrun : (Builtin.append_ #[46, 46] ty #[.slice ao 0 0, .slice ax 0 cx]).run Tryz.prog W = .ok (.slice ao 0 0) W := by
    have hu : Tryz.prog.underlying 46 = some (.slice 3) := Tryz.underlying46
    have h3 : ∀ w', (Builtin.lenOf (.slice ax 0 cx)).run Tryz.prog w' = .ok 0 w' := hsrc.len
    have h4 : (Builtin.firstCells i0.size 0 (.slice ax 0 cx)).run Tryz.prog W = .ok #[] W := hsrc.cells
    cases ao <;> simp [Builtin.append_, run_underlying hu, sizeOf, typeInfo, hi, h3, h4, storeCells]
   exact ⟨_, _, hrun, ⟨ao, b, off, 0, rfl, h1, h2, hcm⟩, Only.refl _ _⟩
 ·have hold : (Builtin.firstCells i0.size l.length (.slice ao l.length cap)).run Tryz.prog W.drew = .ok (l.map IN).toArray W.drew := by
   rw [hz1]
   cases l with
   | nil =>
    cases ao with
    | none => exact run_firstCells_none W.drew 1 0 0 cap
    | some ad => exact run_firstCells_some W.drew 1 0 ad 0 cap [] rfl (fun j u h => by simp at h)
   | cons x l =>
    have hcap : 0 < cap := by have := hcm.le; rw [List.length_cons] at this; omega
    have ha := hcm.addr hcap
    subst ha
    refine run_firstCells_some W.drew 1 _ _ _ cap _ (by simp) (fun j u hj => ?_)
    rw [addrAdd]
    have := hcm.olds j u hj
    simpa using this
  have hrun := run_append_grow_src (P := Tryz.prog) W 46 46 ty 3 i0 (.int .i64 0) Tryz.underlying46 hi hz0 ao l.length cap (l.map IN) hold (.slice ax k.length cx) k.length (k.map IN) hsrc (by omega) (by omega) (growslice_fits (by omega) (by rw [hz2]; omega))
  have hge := grownCap_ge W (l.length + k.length) cap 3
  have hcmx := grownCap_le_maxLen W (l.length + k.length) cap 3 (by unfold maxLen; omega)
  generalize grownCap W (l.length + k.length) cap 3 = gc at hrun hge hcmx
  have hh := (MapKept.heap_alloc W.drew (.cells ((l.map IN ++ k.map IN).toArray ++ Builtin.zeroCells (Value.int .i64 0).cells (gc - (l.length + k.length))) 3 (0, 0))).1
  have hsz : W.drew.heap.size = W.heap.size := rfl
  rw [hsz] at hh
  have hcs : ((l.map IN ++ k.map IN).toArray ++ Builtin.zeroCells (Value.int .i64 0).cells (gc - (l.length + k.length))).size = gc := by
   rw [Array.size_append, size_zeroCells, List.size_toArray, List.length_append, List.length_map, List.length_map]
   show l.length + k.length + (gc - (l.length + k.length)) * 1 = gc
   omega
  have ho : Only (fun b => base ≤ b) W (W.drew.alloc (.cells ((l.map IN ++ k.map IN).toArray ++ Builtin.zeroCells (Value.int .i64 0).cells (gc - (l.length + k.length))) 3 (0, 0))) := (Only.drew _ W).then (Only.alloc _ _ _)
  refine ⟨_, _, hrun, ⟨_, W.heap.size, 0, gc, by rw [hlk], hcmx, fun _ => hbase, ⟨by rw [hlk]; exact hge, fun _ => rfl, fun _ => lt_of_heap hh, by simp, fun j u hj => ?_, fun j hj => ?_⟩⟩, ho⟩
  ·rw [Nat.zero_add, cell_of_heap hh]
   rw [List.map_append] at hj
   have hlt := (List.getElem?_eq_some_iff.1 hj).1
   rw [Array.getElem?_append_left (by simpa using hlt), List.getElem?_toArray, hj]
  ·rw [hlk] at hj ⊢
   rw [Nat.mul_one] at hj ⊢
   refine ⟨?_, free_of_heap hh _⟩
   rw [Nat.zero_add, cell_of_heap hh, Array.getElem?_eq_getElem (by rw [hcs]; omega)]
   rfl

theorem wpQueue {P : Program} (hP : P = Tryz.prog) {ops : Array Oper} {rest : List Oper} {o : Oper} {a : Act} {Q : Exit → Act → World → Prop} (s x : Operand) (base : Nat) (v vx : Value) (l k : List Nat) (W : World) (hgd : o.guard = none)
  (ho : o.op = .call { callee := .builtin .append, args := #[s, x], argTypes := #[46, 46] }) (hs : a.eval s = v) (hx : a.eval x = vx) (hq : QI base W v l) (hrd : Rd IN W vx k) (hl : l.length + k.length ≤ 1000000) (hbase : base ≤ W.heap.size)
  (hK : ∀ v' w', Hid (QI base w' v' (l ++ k)) → Hid (Only (fun b => base ≤ b) W w') → wpList P ops Q rest (a.put o.dst v') w') :
  wpList P ops Q (o :: rest) a W := by
 refine wpList_plain hgd fun K hK' => ?_
 obtain ⟨v', w', hrun, h1, h2⟩ := run_queue hP o.type W base v vx l k hq hrd hl hbase
 unfold Oper.wp
 simp [execOp, ho, resolve, invoke, builtin, hs, hx, hrun, Result.andThen]
 exact hK' _ _ (hK v' w' (Lib.hid h1) (Lib.hid h2))
end Go.Proofs.YtnmhaipjfpongacGreatDoor

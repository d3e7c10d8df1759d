/- Texts of this seat laid together for one claim: A0, H1, H2, E1, E2, A2. No condition of its own: what each proves stands with its theorems. -/
import Derived.BigQuiet
import Derived.ChangeMaps4
import Derived.Deep.QuietTactic
import Derived.Lib.SliceRun
import Derived.MapKept
import Derived.ProofKit
import Derived.Sort.EncStr
import Derived.WalkKit
import Derived.ChangeMaps5
import Derived.Handed
import Derived.HandedShaped
import Derived.Lay
import Derived.OpenShut
import Derived.Shelf.Vars
import Derived.SliceStrings
import Derived.Test.YtnmhaipjfpongacGreatDoorProg
import Derived.Conc.Holds
import Derived.Leaving
import Derived.SevenTiedAt
import Derived.LaidEql
import Derived.RowKitTokens
import Derived.Stop.Asserts
import Derived.Deep.AppendLies
import Derived.OwnWalk
namespace Go.Proofs.YtnmhaipjfpongacGreatDoor
open Go.ChangeShapes Go.WideShapes Go.ChangeAt Go.RowKit
open Go.MapKept (findNow_spec IsKey Stamped bytes_beq stamped_empty stamped_push stamped_modify stamped_erase run_checkKey run_findKey run_keyThatStays heap_set heap_alloc)
open Go.ChangeMaps (setBlock)

abbrev B := List UInt8
abbrev S (l : B) : Value := .string ⟨l.toArray⟩
abbrev I (n : Int) : Value := .int .i64 n

theorem S_inj {a b : B} (h : S a = S b) : a = b := by simpa using h

structure Only (p : Nat → Prop) (w w' : World) : Prop where
 os : w'.os = w.os
 tape : w'.tape = w.tape
 output : w'.output = w.output
 size : w.heap.size ≤ w'.heap.size
 block : ∀ k, k < w.heap.size → ¬ p k → w'.heap[k]? = w.heap[k]?

abbrev Ext (w w' : World) : Prop := Only (fun _ => False) w w'

theorem Only.refl (p : Nat → Prop) (w : World) : Only p w w := ⟨rfl, rfl, rfl, Nat.le_refl _, fun _ _ _ => rfl⟩

theorem Only.mono {p q : Nat → Prop} {w w' : World} (h : Only p w w') (hpq : ∀ k, k < w.heap.size → p k → q k) : Only q w w' :=
 ⟨h.os, h.tape, h.output, h.size, fun k hk hq => h.block k hk fun hp => hq (hpq k hk hp)⟩

theorem Only.trans {p q r : Nat → Prop} {a b c : World} (h : Only p a b) (k : Only q b c) (hp : ∀ i, i < a.heap.size → p i → r i) (hq : ∀ i, i < a.heap.size → q i → r i) : Only r a c :=
 ⟨k.os.trans h.os, k.tape.trans h.tape, k.output.trans h.output, Nat.le_trans h.size k.size, fun i hi hr =>
  (k.block i (Nat.lt_of_lt_of_le hi h.size) fun h' => hr (hq i hi h')).trans (h.block i hi fun h' => hr (hp i hi h'))⟩

theorem Only.then {p : Nat → Prop} {a b c : World} (h : Only p a b) (k : Only p b c) : Only p a c := h.trans k (fun _ _ h => h) (fun _ _ h => h)

theorem Only.ext {p : Nat → Prop} {a b c : World} (h : Only p a b) (k : Ext b c) : Only p a c := h.trans k (fun _ _ h => h) (fun _ _ h => h.elim)

theorem Only.after {p : Nat → Prop} {a b c : World} (h : Ext a b) (k : Only p b c) : Only p a c := h.trans k (fun _ _ h => h.elim) (fun _ _ h => h)

theorem Only.of_ext {p : Nat → Prop} {w w' : World} (h : Ext w w') : Only p w w' := h.mono fun _ _ h => h.elim

theorem Only.alloc (p : Nat → Prop) (w : World) (o : Obj) : Only p w (w.alloc o) :=
 ⟨rfl, rfl, rfl, by simp, fun k hk _ => Below.heap_alloc _ _ _ hk⟩

theorem Only.drew (p : Nat → Prop) (w : World) : Only p w w.drew := ⟨rfl, rfl, rfl, Nat.le_refl _, fun _ _ _ => rfl⟩
theorem Only.drewN (p : Nat → Prop) (w : World) (n : Nat) : Only p w (w.drewN n) := ⟨rfl, rfl, rfl, Nat.le_refl _, fun _ _ _ => rfl⟩

theorem Only.set {p : Nat → Prop} {w : World} {a : Addr} (u : Value) (h : p a.block) : Only p w (w.setCell a u) :=
 ⟨rfl, rfl, rfl, by simp [World.setCell], fun k _ hp => Below.heap_setCell _ _ _ _ fun e => hp (e ▸ h)⟩

theorem Only.thenAlloc {p : Nat → Prop} {a b : World} (h : Only p a b) (o : Obj) : Only p a (b.alloc o) := h.then (Only.alloc p b o)
theorem Only.thenDrew {p : Nat → Prop} {a b : World} (h : Only p a b) : Only p a b.drew := h.then (Only.drew p b)
theorem Only.thenDrewN {p : Nat → Prop} {a b : World} (h : Only p a b) (n : Nat) : Only p a (b.drewN n) := h.then (Only.drewN p b n)
theorem Only.thenSet {p : Nat → Prop} {a b : World} (h : Only p a b) {x : Addr} (u : Value) (hx : p x.block ∨ a.heap.size ≤ x.block) : Only p a (b.setCell x u) :=
 ⟨h.os, h.tape, h.output, by simpa [World.setCell] using h.size, fun k hk hp => by
  rw [Below.heap_setCell _ _ _ _ (fun e => by rcases hx with hx | hx; exact hp (e ▸ hx); omega)]; exact h.block k hk hp⟩

theorem Only.of_grown {w w' : World} {row : Option Nat} (h : w.grownBy w' row) : Only (fun k => row = some k) w w' :=
 ⟨h.os, h.tape, h.output, h.size, fun k hk hp => h.block k hk fun e => hp e.symm⟩

theorem Only.grown {w w' : World} {row : Option Nat} (h : Only (fun k => row = some k) w w') : w.grownBy w' row :=
 ⟨h.os, h.tape, h.output, h.size, fun k hk hp => h.block k hk fun e => hp e.symm⟩

theorem Only.thenGrown {p : Nat → Prop} {a b c : World} {row : Option Nat} (h : Only p a b) (k : b.grownBy c row) (hr : ∀ i, row = some i → p i ∨ a.heap.size ≤ i) : Only p a c :=
 h.trans (Only.of_grown k) (fun _ _ h => h) fun i hi e => by rcases hr i e with h | h; exact h; omega

theorem Only.of_below {w w' : World} (h : Below w.heap.size w w') : Ext w w' := ⟨h.os, h.tape, h.output, h.size, fun k hk _ => h.block k hk⟩
theorem Only.below {w w' : World} {p : Nat → Prop} {n : Nat} (h : Only p w w') (hn : n ≤ w.heap.size) (hp : ∀ k, k < n → ¬ p k) : Below n w w' :=
 ⟨h.os, h.tape, h.output, h.size, fun k hk => h.block k (by omega) (hp k hk)⟩
theorem Only.extBelow {w w' : World} (h : Ext w w') : Below w.heap.size w w' := Only.below h (Nat.le_refl _) fun _ _ h => h

theorem Only.cell {p : Nat → Prop} {w w' : World} (h : Only p w w') {a : Addr} (hl : a.block < w.heap.size) (hp : ¬ p a.block) : w'.cell? a = w.cell? a := World.cell?_of_block (h.block _ hl hp)
theorem Only.frozen {p : Nat → Prop} {w w' : World} (h : Only p w w') {a : Addr} (hl : a.block < w.heap.size) (hp : ¬ p a.block) : w'.frozen? a = w.frozen? a := World.frozen?_of_block (h.block _ hl hp)

theorem lt_of_cell {w : World} {a : Addr} {v : Value} (h : w.cell? a = some v) : a.block < w.heap.size := by
 rcases Nat.lt_or_ge a.block w.heap.size with h' | h'
 ·exact h'
 ·simp [World.cell?, Array.getElem?_eq_none h'] at h

theorem lt_of_heap {w : World} {b : Nat} {o : Obj} (h : w.heap[b]? = some o) : b < w.heap.size := (Array.getElem?_eq_some_iff.1 h).1

theorem Only.cellOf {p : Nat → Prop} {w w' : World} (h : Only p w w') {a : Addr} {v : Value} (hc : w.cell? a = some v) (hp : ¬ p a.block) : w'.cell? a = some v := (h.cell (lt_of_cell hc) hp).trans hc
theorem Only.heapOf {p : Nat → Prop} {w w' : World} (h : Only p w w') {b : Nat} {o : Obj} (hc : w.heap[b]? = some o) (hp : ¬ p b) : w'.heap[b]? = some o := (h.block b (lt_of_heap hc) hp).trans hc

theorem Only.row {p : Nat → Prop} {w w' : World} (h : Only p w w') {base : Nat} {e : TypeId} {size : Nat} {v : Value} {n : Nat} {xs : List Value} (hr : w.ownsRow base e size v n xs) (hp : ∀ k, v.ownBlock = some k → ¬ p k) : w'.ownsRow base e size v n xs := by
 obtain ⟨h1, h2⟩ := hr
 refine ⟨h1, ?_⟩
 rcases h2 with h2 | ⟨g, cap, cur, hv, hg, hh, r⟩
 ·exact .inl h2
 ·exact .inr ⟨g, cap, cur, hv, hg, h.heapOf hh (hp g (by rw [hv]; rfl)), r⟩

theorem row_take {w : World} {base g n cap : Nat} {e : TypeId} {xs ys : List Value} (h : w.ownsRow base e 1 (.slice (some ⟨g, 0, none⟩) n cap) n xs) (m : Nat) (hm : m ≤ n) (hy : xs.take m = ys) :
  w.ownsRow base e 1 (.slice (some ⟨g, 0, none⟩) m cap) m ys := by
 subst hy
 obtain ⟨h1, h2⟩ := h
 rcases h2 with ⟨h2, _⟩ | ⟨g', cap', cur, hv, hg, hh, hc, hx, hs, ht⟩
 ·cases h2
 ·cases hv
  refine ⟨by simp; omega, .inr ⟨g, cap, cur, rfl, hg, hh, by omega, hx, hs, ?_⟩⟩
  rw [← ht, List.take_take]
  congr 1
  omega

def Rd {α : Type} (enc : α → Value) (w : World) (v : Value) (l : List α) : Prop :=
 ∃ a cap, v = .slice a l.length cap ∧ l.length ≤ cap ∧ cap ≤ maxLen ∧ (l ≠ [] → ∃ b off, a = some ⟨b, off, none⟩ ∧ ∀ i x, l[i]? = some x → w.cell? ⟨b, off + i, none⟩ = some (enc x))

theorem Rd.nil {α : Type} (enc : α → Value) (w : World) : Rd enc w (.slice none 0 0) [] := ⟨none, 0, rfl, Nat.le_refl _, Nat.zero_le _, fun h => absurd rfl h⟩

theorem Rd.of_row {α : Type} {enc : α → Value} {w : World} {base : Nat} {e : TypeId} {v : Value} {n : Nat} {l : List α} (h : w.ownsRow base e 1 v n (l.map enc)) : Rd enc w v l := by
 obtain ⟨h1, h2⟩ := h
 have hn : l.length = n := by simpa using h1
 subst hn
 rcases h2 with ⟨rfl, h2⟩ | ⟨g, cap, cur, rfl, hg, hh, hc, hm, hs, ht⟩
 ·exact ⟨none, 0, by rw [h2], by omega, Nat.zero_le _, fun h => absurd (List.length_eq_zero_iff.1 h2) h⟩
 ·refine ⟨_, cap, rfl, hc, hm, fun _ => ⟨g, 0, rfl, fun i x hx => ?_⟩⟩
  have hi : i < l.length := (List.getElem?_eq_some_iff.1 hx).1
  have hcell : cur[i]? = (cur.toList.take (l.length * 1))[i]? := by rw [List.getElem?_take_of_lt (by omega)]; simp
  rw [ht, List.getElem?_map, hx] at hcell
  simp [World.cell?, hh, hcell]

theorem Rd.later {α : Type} {enc : α → Value} {w w' : World} {v : Value} {l : List α} (h : Rd enc w v l) {p : Nat → Prop} (ho : Only p w w') (hp : ∀ k, v.ownBlock = some k → ¬ p k) : Rd enc w' v l := by
 obtain ⟨a, cap, rfl, h1, h2, h3⟩ := h
 refine ⟨a, cap, rfl, h1, h2, fun hl => ?_⟩
 obtain ⟨b, off, rfl, hc⟩ := h3 hl
 exact ⟨b, off, rfl, fun i x hx => ho.cellOf (hc i x hx) (hp b rfl)⟩

theorem Rd.ext {α : Type} {enc : α → Value} {w w' : World} {v : Value} {l : List α} (h : Rd enc w v l) (ho : Ext w w') : Rd enc w' v l := h.later ho fun _ _ h => h

def putAll (cur : Array Value) : Nat → List Value → Array Value
 | _, [] => cur
 | o, v :: r => putAll (cur.setIfInBounds o v) (o + 1) r

theorem size_putAll : ∀ (vs : List Value) (cur : Array Value) (o : Nat), (putAll cur o vs).size = cur.size
 | [], _, _ => rfl
 | v :: r, cur, o => by rw [putAll, size_putAll r]; simp

theorem take_setIfInBounds (cur : Array Value) (o n : Nat) (v : Value) (h : n ≤ o) : (cur.setIfInBounds o v).toList.take n = cur.toList.take n := by
 rw [Array.toList_setIfInBounds]
 apply List.ext_getElem?
 intro i
 rw [List.getElem?_take, List.getElem?_take, List.getElem?_set]
 split
 ·rw [if_neg (by omega)]
 ·rfl

theorem take_putAll : ∀ (vs : List Value) (cur : Array Value) (o n : Nat), n ≤ o → (putAll cur o vs).toList.take n = cur.toList.take n
 | [], _, _, _, _ => rfl
 | v :: r, cur, o, n, h => by rw [putAll, take_putAll r _ _ _ (by omega), take_setIfInBounds _ _ _ _ h]

theorem heap_setCell_same {w : World} {b : Nat} {cur : Array Value} {e : TypeId} {fr : Nat × Nat} (h : w.heap[b]? = some (.cells cur e fr)) (o : Nat) (v : Value) :
  (w.setCell ⟨b, o, none⟩ v).heap[b]? = some (.cells (cur.setIfInBounds o v) e fr) := by
 simp only [World.setCell, Array.getElem?_modify, if_true, h, Option.map_some]
 rfl

theorem heap_setCells {b : Nat} {e : TypeId} {fr : Nat × Nat} : ∀ (vs : List Value) (o : Nat) (w : World) (cur : Array Value), w.heap[b]? = some (.cells cur e fr) →
  (w.setCells b o vs).heap[b]? = some (.cells (putAll cur o vs) e fr)
 | [], _, _, _, h => h
 | v :: r, o, _, _, h => heap_setCells r (o + 1) _ _ (heap_setCell_same h o v)

theorem only_setCells (b : Nat) : ∀ (vs : List Value) (o : Nat) (w : World), Only (fun k => k = b) w (w.setCells b o vs)
 | [], _, w => Only.refl _ w
 | v :: r, o, w => (Only.set (p := fun k => k = b) (w := w) (a := ⟨b, o, none⟩) v rfl).then (only_setCells b r (o + 1) _)

theorem cell_of_heap {w : World} {b : Nat} {cur : Array Value} {e : TypeId} {fr : Nat × Nat} (h : w.heap[b]? = some (.cells cur e fr)) (o : Nat) : w.cell? ⟨b, o, none⟩ = cur[o]? := by simp [World.cell?, h]
theorem free_of_heap {w : World} {b : Nat} {cur : Array Value} {e : TypeId} (h : w.heap[b]? = some (.cells cur e (0, 0))) (o : Nat) : w.frozen? ⟨b, o, none⟩ = false := by simp [World.frozen?, h]

def MapAt (d : TypeDesc) (w : World) (b : Nat) (l : List (Value × Value)) : Prop :=
 ∃ es clock, w.heap[b]? = some (.map es clock) ∧ (es.toList.map fun e => (e.key, e.val)).Perm l ∧ (∀ x ∈ l, IsKey d x.1) ∧ (l.map (·.1)).Nodup ∧ Stamped es clock

section
variable {d : TypeDesc} {P : Program} {w w' : World} {b : Nat} {l : List (Value × Value)} {t kt et : TypeId}

theorem MapAt.perm {l' : List (Value × Value)} (h : MapAt d w b l) (hp : l.Perm l') : MapAt d w b l' := by
 obtain ⟨es, c, h1, h2, h3, h4, h5⟩ := h
 exact ⟨es, c, h1, h2.trans hp, fun x hx => h3 x (hp.symm.mem_iff.1 hx), (hp.map _).nodup_iff.1 h4, h5⟩

theorem MapAt.lt (h : MapAt d w b l) : b < w.heap.size := by obtain ⟨es, c, h1, _⟩ := h; exact lt_of_heap h1

theorem MapAt.later {p : Nat → Prop} (h : MapAt d w b l) (ho : Only p w w') (hp : ¬ p b) : MapAt d w' b l := by
 obtain ⟨es, c, h1, r⟩ := h
 exact ⟨es, c, ho.heapOf h1 hp, r⟩

theorem MapAt.made (w : World) (d : TypeDesc) : MapAt d (w.alloc (.map #[] 0)) w.heap.size [] :=
 ⟨#[], 0, (heap_alloc w _).1, by simp, by simp, by simp, stamped_empty 0⟩

theorem only_setBlock (w : World) (b : Nat) (o : Obj) : Only (fun k => k = b) w (setBlock w b o) :=
 ⟨rfl, rfl, rfl, by simp [setBlock], fun k _ hk => by simp [setBlock, Ne.symm hk]⟩

theorem MapAt.keyMem {es : Array MapEntry} (h2 : (es.toList.map fun e => (e.key, e.val)).Perm l) {k : Value} : (∃ e ∈ es.toList, e.key = k) ↔ k ∈ l.map (·.1) := by
 rw [← (h2.map (·.1)).mem_iff]
 simp

theorem MapAt.look_miss (h : MapAt d w b l) (ht : P.underlying t = some (.map kt et)) (hk : P.underlying kt = some d) {k z : Value} (hz : (zeroValue et).run P w = .ok z w) (hkey : IsKey d k) (hm : k ∉ l.map (·.1)) (c : Bool) :
  (Instr.lookup t (.map (some b)) k c).run P w = .ok (if c then .tuple #[z, .bool false] else z) w := by
 obtain ⟨es, clock, h1, h2, h3, h4, h5⟩ := h
 have hks : ∀ x ∈ es.toList, IsKey d x.key := fun x hx => h3 (x.key, x.val) (h2.mem_iff.1 (List.mem_map.2 ⟨x, hx, rfl⟩))
 rcases findNow_spec hkey es.toList 0 hks with ⟨f1, _⟩ | ⟨j, e, f1, f2, f3⟩
 ·simp [Instr.lookup, run_underlying ht, MapKept.run_getObj_map h1, run_checkKey hk hkey, run_findKey hk f1, hz, Result.andThen]
 ·exact absurd ((MapAt.keyMem h2).1 ⟨e, List.mem_of_getElem? f2, f3⟩) hm

theorem MapAt.look_hit (h : MapAt d w b l) (ht : P.underlying t = some (.map kt et)) (hk : P.underlying kt = some d) {k v : Value} (hkey : IsKey d k) (hm : (k, v) ∈ l) (c : Bool) :
  (Instr.lookup t (.map (some b)) k c).run P w = .ok (if c then .tuple #[v, .bool true] else v) w := by
 obtain ⟨es, clock, h1, h2, h3, h4, h5⟩ := h
 have hks : ∀ x ∈ es.toList, IsKey d x.key := fun x hx => h3 (x.key, x.val) (h2.mem_iff.1 (List.mem_map.2 ⟨x, hx, rfl⟩))
 rcases findNow_spec hkey es.toList 0 hks with ⟨f1, f2⟩ | ⟨j, e, f1, f2, f3⟩
 ·obtain ⟨e, he, heq⟩ := List.mem_map.1 (h2.mem_iff.2 hm)
  exact absurd (congrArg Prod.fst heq) (f2 e he)
 ·have hv : e.val = v := by
   have hm2 : (k, e.val) ∈ l := h2.mem_iff.1 (List.mem_map.2 ⟨e, List.mem_of_getElem? f2, by rw [f3]⟩)
   have hmm := List.pairwise_map.1 h4
   by_cases hne : e.val = v
   ·exact hne
   ·exact absurd (show ((k, e.val) : Value × Value).1 = ((k, v) : Value × Value).1 from rfl) (fun hh => by
     have := List.Pairwise.forall_of_forall_of_flip (R := fun x y : Value × Value => x.1 = y.1 → x = y) (l := l) (fun x _ _ => rfl) (hmm.imp fun h e => absurd e h) (hmm.imp fun h e => absurd e.symm h) hm2 hm hh
     exact hne (congrArg Prod.snd this))
  simp [Instr.lookup, run_underlying ht, MapKept.run_getObj_map h1, run_checkKey hk hkey, run_findKey hk f1, hv, Result.andThen]

theorem MapAt.store_new (h : MapAt d w b l) (ht : P.underlying t = some (.map kt et)) (hk : P.underlying kt = some d) {k : Value} (v : Value) (hkey : IsKey d k) (hm : k ∉ l.map (·.1)) :
  ∃ w', (Instr.mapUpdate t (.map (some b)) k v).run P w = .ok () w' ∧ MapAt d w' b ((k, v) :: l) ∧ Only (fun i => i = b) w w' ∧ w'.heap.size = w.heap.size := by
 obtain ⟨es, clock, h1, h2, h3, h4, h5⟩ := h
 have hks : ∀ x ∈ es.toList, IsKey d x.key := fun x hx => h3 (x.key, x.val) (h2.mem_iff.1 (List.mem_map.2 ⟨x, hx, rfl⟩))
 rcases findNow_spec hkey es.toList 0 hks with ⟨f1, f2⟩ | ⟨j, e, f1, f2, f3⟩
 ·refine ⟨setBlock w b (.map (es.push ⟨k, v, clock⟩) (clock + 1)), ?_, ⟨_, _, (heap_set h1).1, ?_, ?_, ?_, stamped_push h5 f2⟩, only_setBlock _ _ _, by simp [setBlock]⟩
  ·simp [Instr.mapUpdate, run_underlying ht, MapKept.run_getObj_map h1, run_checkKey hk hkey, run_findKey hk f1, MapKept.run_setObj_map _ h1, Result.andThen, setBlock]
  ·simp only [Array.toList_push, List.map_append, List.map_cons, List.map_nil]
   exact List.perm_append_singleton _ _ |>.trans (h2.cons _)
  ·intro x hx
   rcases List.mem_cons.1 hx with rfl | hx
   ·exact hkey
   ·exact h3 x hx
  ·simpa using ⟨by simpa using hm, h4⟩
 ·exact absurd ((MapAt.keyMem h2).1 ⟨e, List.mem_of_getElem? f2, f3⟩) hm

theorem MapAt.store_old {v0 : Value} {k : Value} (h : MapAt d w b ((k, v0) :: l)) (ht : P.underlying t = some (.map kt et)) (hk : P.underlying kt = some d) (v : Value) :
  ∃ w', (Instr.mapUpdate t (.map (some b)) k v).run P w = .ok () w' ∧ MapAt d w' b ((k, v) :: l) ∧ Only (fun i => i = b) w w' ∧ w'.heap.size = w.heap.size := by
 obtain ⟨es, clock, h1, h2, h3, h4, h5⟩ := h
 have hkey : IsKey d k := h3 (k, v0) (.head _)
 have hks : ∀ x ∈ es.toList, IsKey d x.key := fun x hx => h3 (x.key, x.val) (h2.mem_iff.1 (List.mem_map.2 ⟨x, hx, rfl⟩))
 rcases findNow_spec hkey es.toList 0 hks with ⟨f1, f2⟩ | ⟨j, e, f1, f2, f3⟩
 ·obtain ⟨e, he, heq⟩ := List.mem_map.1 (h2.mem_iff.2 (List.Mem.head _))
  exact absurd (congrArg Prod.fst heq) (f2 e he)
 ·have hj : es[j]? = some e := by simpa using f2
  have hjl : j < es.toList.length := (List.getElem?_eq_some_iff.1 f2).1
  have hkeyf : ∀ e', es[j]? = some e' → ({ e' with key := k, val := v } : MapEntry).key = e'.key := fun e' he' => by rw [hj] at he'; cases he'; exact f3.symm
  have hnd : ∀ v', (((k, v') :: l).map (·.1)).Nodup := fun v' => by simpa using h4
  refine ⟨setBlock w b (.map (es.modify j fun e' => { e' with key := k, val := v }) clock), ?_, ⟨_, _, (heap_set h1).1, ?_, ?_, hnd v, stamped_modify h5 _ _ (fun _ _ => rfl) (fun e' _ he' => hkeyf e' he')⟩, only_setBlock _ _ _, by simp [setBlock]⟩
  ·simp [Instr.mapUpdate, run_underlying ht, MapKept.run_getObj_map h1, run_checkKey hk hkey, run_findKey hk f1, hj, f3, run_keyThatStays hkey, MapKept.run_setObj_map _ h1, Result.andThen, setBlock]
  ·rw [Array.toList_modify, ChangeMaps.modify_eq_set _ _ _ _ f2, List.map_set]
   have e0 : (es.toList.map fun e => (e.key, e.val))[j]? = some (k, e.val) := by simp [hj, f3]
   have p1 := ChangeMaps.set_perm (es.toList.map fun e => (e.key, e.val)) j (by simpa using hjl) (k, v)
   have p2 := ChangeMaps.set_perm (es.toList.map fun e => (e.key, e.val)) j (by simpa using hjl) (k, e.val)
   have e3 : (es.toList.map fun e => (e.key, e.val)).set j (k, e.val) = es.toList.map fun e => (e.key, e.val) := by
    apply List.ext_getElem?
    intro i
    rw [List.getElem?_set]
    split
    ·rename_i hji; subst hji; rw [e0]; simp; omega
    ·rfl
   rw [e3] at p2
   have hval : (k, e.val) = (k, v0) := by
    have hm : (k, e.val) ∈ (k, v0) :: l := h2.mem_iff.1 (List.mem_map.2 ⟨e, List.mem_of_getElem? f2, by rw [f3]⟩)
    rcases List.mem_cons.1 hm with hm | hm
    ·exact hm
    ·have h4' : k ∉ l.map (·.1) := by simpa using (List.nodup_cons.1 h4).1
     exact absurd (List.mem_map.2 ⟨_, hm, rfl⟩) h4'
   rw [hval] at p2
   have p3 := List.Perm.cons_inv (p2.symm.trans h2)
   exact p1.trans (p3.cons _)
  ·intro x hx
   rcases List.mem_cons.1 hx with rfl | hx
   ·exact hkey
   ·exact h3 x (.tail _ hx)

theorem toList_erase (es : Array MapEntry) (j : Nat) (hj : j < es.size) : (es.eraseIdxIfInBounds j).toList = es.toList.eraseIdx j := by
 unfold Array.eraseIdxIfInBounds
 rw [dif_pos hj]
 simp

theorem MapAt.drop_old {v0 : Value} {k : Value} (h : MapAt d w b ((k, v0) :: l)) (ht : P.underlying t = some (.map kt et)) (hk : P.underlying kt = some d) (ty : TypeId) :
  ∃ w', (Builtin.delete_ #[t, kt] ty #[.map (some b), k]).run P w = .ok (.tuple #[]) w' ∧ MapAt d w' b l ∧ Only (fun i => i = b) w w' ∧ w'.heap.size = w.heap.size := by
 obtain ⟨es, clock, h1, h2, h3, h4, h5⟩ := h
 have hkey : IsKey d k := h3 (k, v0) (.head _)
 have hks : ∀ x ∈ es.toList, IsKey d x.key := fun x hx => h3 (x.key, x.val) (h2.mem_iff.1 (List.mem_map.2 ⟨x, hx, rfl⟩))
 rcases findNow_spec hkey es.toList 0 hks with ⟨f1, f2⟩ | ⟨j, e, f1, f2, f3⟩
 ·obtain ⟨e, he, heq⟩ := List.mem_map.1 (h2.mem_iff.2 (List.Mem.head _))
  exact absurd (congrArg Prod.fst heq) (f2 e he)
 ·have hj : es[j]? = some e := by simpa using f2
  have hjl : j < es.toList.length := (List.getElem?_eq_some_iff.1 f2).1
  refine ⟨setBlock w b (.map (es.eraseIdxIfInBounds j) clock), ?_, ⟨_, _, (heap_set h1).1, ?_, fun x hx => h3 x (.tail _ hx), ?_, stamped_erase h5 j⟩, only_setBlock _ _ _, by simp [setBlock]⟩
  ·simp [Builtin.delete_, run_underlying ht, MapKept.run_getObj_map h1, run_checkKey hk hkey, run_findKey hk f1, MapKept.run_setObj_map _ h1, Result.andThen, setBlock]
  ·rw [toList_erase _ _ (by simpa using hjl), ChangeMaps.map_eraseIdx]
   have e0 : (es.toList.map fun e => (e.key, e.val))[j]? = some (k, e.val) := by simp [hj, f3]
   have p2 := ChangeMaps.set_perm (es.toList.map fun e => (e.key, e.val)) j (by simpa using hjl) (k, e.val)
   have e3 : (es.toList.map fun e => (e.key, e.val)).set j (k, e.val) = es.toList.map fun e => (e.key, e.val) := by
    apply List.ext_getElem?
    intro i
    rw [List.getElem?_set]
    split
    ·rename_i hji; subst hji; rw [e0]; simp; omega
    ·rfl
   rw [e3] at p2
   have hval : (k, e.val) = (k, v0) := by
    have hm : (k, e.val) ∈ (k, v0) :: l := h2.mem_iff.1 (List.mem_map.2 ⟨e, List.mem_of_getElem? f2, by rw [f3]⟩)
    rcases List.mem_cons.1 hm with hm | hm
    ·exact hm
    ·have h4' : k ∉ l.map (·.1) := by simpa using (List.nodup_cons.1 h4).1
     exact absurd (List.mem_map.2 ⟨_, hm, rfl⟩) h4'
   rw [hval] at p2
   exact List.Perm.cons_inv (p2.symm.trans h2)
  ·exact (List.nodup_cons.1 (by simpa using h4)).2

theorem MapAt.drop_none {k : Value} (h : MapAt d w b l) (ht : P.underlying t = some (.map kt et)) (hk : P.underlying kt = some d) (ty : TypeId) (hkey : IsKey d k) (hm : k ∉ l.map (·.1)) :
  ∃ w', (Builtin.delete_ #[t, kt] ty #[.map (some b), k]).run P w = .ok (.tuple #[]) w' ∧ MapAt d w' b l ∧ Only (fun i => i = b) w w' ∧ w'.heap.size = w.heap.size := by
 obtain ⟨es, clock, h1, h2, h3, h4, h5⟩ := h
 have hks : ∀ x ∈ es.toList, IsKey d x.key := fun x hx => h3 (x.key, x.val) (h2.mem_iff.1 (List.mem_map.2 ⟨x, hx, rfl⟩))
 rcases findNow_spec hkey es.toList 0 hks with ⟨f1, f2⟩ | ⟨j, e, f1, f2, f3⟩
 ·refine ⟨setBlock w b (.map es clock), ?_, ⟨_, _, (heap_set h1).1, h2, h3, h4, h5⟩, only_setBlock _ _ _, by simp [setBlock]⟩
  simp [Builtin.delete_, run_underlying ht, MapKept.run_getObj_map h1, run_checkKey hk hkey, run_findKey hk f1, MapKept.run_setObj_map _ h1, Result.andThen, setBlock]
 ·exact absurd ((MapAt.keyMem h2).1 ⟨e, List.mem_of_getElem? f2, f3⟩) hm

theorem MapAt.len (h : MapAt d w b l) (ht : P.underlying t = some (.map kt et)) (ty : TypeId) : (Builtin.len_ #[t] ty #[.map (some b)]).run P w = .ok (.int .i64 l.length) w := by
 obtain ⟨es, clock, h1, h2, _⟩ := h
 have e : es.size = l.length := by simpa using h2.length_eq
 simp [Builtin.len_, run_underlying ht, goInt, MapKept.run_getObj_map h1, Result.andThen, e]
end

section
variable {κ α : Type} [BEq κ] [LawfulBEq κ] {d : TypeDesc} {encK : κ → Value} {enc : α → Value} {P : Program} {w w' : World} {b : Nat} {L : List (κ × α)} {t kt et : TypeId}

def KMap (d : TypeDesc) (encK : κ → Value) (enc : α → Value) (w : World) (b : Nat) (L : List (κ × α)) : Prop := MapAt d w b (L.map fun p => (encK p.1, enc p.2))

structure KeyOk (d : TypeDesc) (encK : κ → Value) : Prop where
 isKey : ∀ k, IsKey d (encK k)
 inj : ∀ a b, encK a = encK b → a = b

theorem keyOk_str : KeyOk .string S := ⟨fun _ => trivial, fun _ _ h => S_inj h⟩
theorem keyOk_int : KeyOk (.int .i64) I := ⟨fun _ => rfl, fun _ _ h => by simpa using h⟩

omit [BEq κ] [LawfulBEq κ] in
theorem KMap.perm {L' : List (κ × α)} (h : KMap d encK enc w b L) (hp : L.Perm L') : KMap d encK enc w b L' := MapAt.perm h (hp.map _)
omit [BEq κ] [LawfulBEq κ] in
theorem KMap.later {p : Nat → Prop} (h : KMap d encK enc w b L) (ho : Only p w w') (hp : ¬ p b) : KMap d encK enc w' b L := MapAt.later h ho hp
omit [BEq κ] [LawfulBEq κ] in
theorem KMap.lt (h : KMap d encK enc w b L) : b < w.heap.size := MapAt.lt h
omit [BEq κ] [LawfulBEq κ] in
theorem KMap.made (w : World) (d : TypeDesc) (encK : κ → Value) (enc : α → Value) : KMap d encK enc (w.alloc (.map #[] 0)) w.heap.size [] := MapAt.made w d
omit [BEq κ] [LawfulBEq κ] in
theorem KMap.nodup (h : KMap d encK enc w b L) : (L.map (·.1)).Nodup := by
 obtain ⟨_, _, _, _, _, h4, _⟩ := h
 rw [List.map_map] at h4
 have : ((fun x : Value × Value => x.1) ∘ fun p : κ × α => (encK p.1, enc p.2)) = encK ∘ (·.1) := rfl
 rw [this, ← List.map_map] at h4
 exact List.Pairwise.imp (fun h e => h (congrArg _ e)) (List.pairwise_map.1 h4)

theorem mem_of_lookup {k : κ} {x : α} (h : L.lookup k = some x) : (k, x) ∈ L := by
 induction L with
 | nil => cases h
 | cons p L ih =>
  obtain ⟨k', x'⟩ := p
  by_cases e : k = k'
  ·subst e; simp [List.lookup] at h; subst h; exact .head _
  ·simp [List.lookup, beq_eq_false_iff_ne.2 e] at h; exact .tail _ (ih h)

theorem not_mem_of_lookup {k : κ} (h : L.lookup k = none) : k ∉ L.map (·.1) := by
 induction L with
 | nil => simp
 | cons p L ih =>
  obtain ⟨k', x'⟩ := p
  by_cases e : k = k'
  ·subst e; simp [List.lookup] at h
  ·rw [List.lookup, beq_eq_false_iff_ne.2 e] at h
   have := ih h
   intro hc
   rcases List.mem_cons.1 hc with hc | hc
   ·exact e hc
   ·exact this hc

theorem perm_of_lookup {k : κ} {x : α} (hn : (L.map (·.1)).Nodup) (h : L.lookup k = some x) : L.Perm ((k, x) :: L.filter (fun p => !(p.1 == k))) := by
 induction L with
 | nil => cases h
 | cons p L ih =>
  obtain ⟨k', x'⟩ := p
  rw [List.map_cons, List.nodup_cons] at hn
  by_cases e : k = k'
  ·subst e
   simp [List.lookup] at h
   subst h
   have : L.filter (fun p => !(p.1 == k)) = L := List.filter_eq_self.2 fun p hp => by
    have : p.1 ≠ k := fun e => hn.1 (e ▸ List.mem_map.2 ⟨_, hp, rfl⟩)
    simpa using this
   rw [List.filter_cons_of_neg (by simp), this]
  ·simp [List.lookup, beq_eq_false_iff_ne.2 e] at h
   have h1 := ih hn.2 h
   have : (((k', x') :: L).filter fun p => !(p.1 == k)) = (k', x') :: L.filter fun p => !(p.1 == k) := by simp [Ne.symm e]
   rw [this]
   exact (h1.cons _).trans (List.Perm.swap _ _ _)

theorem filter_of_lookup_none {k : κ} (h : L.lookup k = none) : L.filter (fun p => !(p.1 == k)) = L := by
 refine List.filter_eq_self.2 fun p hp => ?_
 have : p.1 ≠ k := fun e => not_mem_of_lookup h (e ▸ List.mem_map.2 ⟨_, hp, rfl⟩)
 simpa using this

omit [BEq κ] [LawfulBEq κ] in
theorem KMap.keyNot (K : KeyOk d encK) {k : κ} (hm : k ∉ L.map (·.1)) : encK k ∉ (L.map fun p => (encK p.1, enc p.2)).map (·.1) := by
 intro h
 simp only [List.map_map, List.mem_map, Function.comp] at h
 obtain ⟨p, hp, e⟩ := h
 exact hm (List.mem_map.2 ⟨p, hp, K.inj _ _ e⟩)

theorem KMap.look (K : KeyOk d encK) (h : KMap d encK enc w b L) (ht : P.underlying t = some (.map kt et)) (hk : P.underlying kt = some d) {z : Value} (hz : (zeroValue et).run P w = .ok z w) (k : κ) :
  (Instr.lookup t (.map (some b)) (encK k) true).run P w = .ok (.tuple #[(match L.lookup k with | some x => enc x | none => z), .bool (L.lookup k).isSome]) w := by
 cases hl : L.lookup k with
 | none => exact MapAt.look_miss h ht hk hz (K.isKey k) (KMap.keyNot K (not_mem_of_lookup hl)) true
 | some x => exact MapAt.look_hit h ht hk (K.isKey k) (List.mem_map.2 ⟨_, mem_of_lookup hl, rfl⟩) true

theorem KMap.look1 (K : KeyOk d encK) (h : KMap d encK enc w b L) (ht : P.underlying t = some (.map kt et)) (hk : P.underlying kt = some d) {z : Value} (hz : (zeroValue et).run P w = .ok z w) (k : κ) :
  (Instr.lookup t (.map (some b)) (encK k) false).run P w = .ok (match L.lookup k with | some x => enc x | none => z) w := by
 cases hl : L.lookup k with
 | none => exact MapAt.look_miss h ht hk hz (K.isKey k) (KMap.keyNot K (not_mem_of_lookup hl)) false
 | some x => exact MapAt.look_hit h ht hk (K.isKey k) (List.mem_map.2 ⟨_, mem_of_lookup hl, rfl⟩) false

theorem KMap.store (K : KeyOk d encK) (h : KMap d encK enc w b L) (ht : P.underlying t = some (.map kt et)) (hk : P.underlying kt = some d) (k : κ) (x : α) :
  ∃ w', (Instr.mapUpdate t (.map (some b)) (encK k) (enc x)).run P w = .ok () w' ∧ KMap d encK enc w' b ((k, x) :: L.filter (fun p => !(p.1 == k))) ∧ Only (fun i => i = b) w w' ∧ w'.heap.size = w.heap.size := by
 cases hl : L.lookup k with
 | none =>
  rw [filter_of_lookup_none hl]
  exact MapAt.store_new h ht hk (enc x) (K.isKey k) (KMap.keyNot K (not_mem_of_lookup hl))
 | some x0 =>
  have h' := MapAt.perm h ((perm_of_lookup (KMap.nodup h) hl).map _)
  exact MapAt.store_old h' ht hk (enc x)

theorem KMap.drop (K : KeyOk d encK) (h : KMap d encK enc w b L) (ht : P.underlying t = some (.map kt et)) (hk : P.underlying kt = some d) (k : κ) (ty : TypeId) :
  ∃ w', (Builtin.delete_ #[t, kt] ty #[.map (some b), encK k]).run P w = .ok (.tuple #[]) w' ∧ KMap d encK enc w' b (L.filter (fun p => !(p.1 == k))) ∧ Only (fun i => i = b) w w' ∧ w'.heap.size = w.heap.size := by
 cases hl : L.lookup k with
 | none =>
  rw [filter_of_lookup_none hl]
  exact MapAt.drop_none h ht hk ty (K.isKey k) (KMap.keyNot K (not_mem_of_lookup hl))
 | some x0 =>
  have h' := MapAt.perm h ((perm_of_lookup (KMap.nodup h) hl).map _)
  exact MapAt.drop_old h' ht hk ty
end

end Go.Proofs.YtnmhaipjfpongacGreatDoor

namespace Go.Proofs.YtnmhaipjfpongacGreatDoor
open Go.ChangeShapes Go.WideShapes Go.ChangeAt Go.RowKit

variable {H : Type} {enc : TypeId × Value → H}

theorem handed_both {a : Assume} {C : Checked} {os : Os} {f : FuncId} {fn : Func} {s : ChangeSpec} {conds : List PathCond} {apart fresh handsOn again : Bool} {X : World → Array Value → Prop}
  (hX : ∀ (w w' : World) (args : Array Value), w.heap = w'.heap → X w args → X w' args) (own : ownKnob C.prog.godebug = none) (started : os.Started) (noInit : C.prog.inits.idxOf? f = none) (hfn : C.prog.funcs[f]? = some fn)
  (witness : ∃ (w : World) (tape : Tape) (i : Input), w.os = os ∧ (w.forCall tape i).Shaped C.prog ∧ i.vars = [] ∧ Input.okWide C.prog (w.forCall tape i) .any w.heap.size f i ∧
   ((s.pre enc C.prog fn conds apart (w.forCall tape i).memory i.args ∧ X (w.forCall tape i).memory i.args) ∧ sizedMet enc C.prog fn (OpenSpec.ofChange s) apart (w.forCall tape i).memory i.args) ∧ a.holds C.prog (lone (Frame.enter C.prog f i.args .normal) [] (w.forCall tape i)))
  (contract : ∀ (W : World) (base : Nat) (args : Array Value) (ds gs : List (DataW H)) (before : List MemPlace),
   (∀ (j : Nat) t v, fn.params[j]? = some t → args[j]? = some v → Value.okWide C.prog W .any base t v) → DataW.Whole enc C.prog fn.params.toList s.vars apart W args.toList ds gs before →
   conds.all (PathCond.test C.prog ⟨fn.params.toList, ds, s.plain.varTypes C.prog, gs⟩) = true → (DataW.weightsEach C.prog (fn.params.toList ++ s.plain.varTypes C.prog) (ds ++ gs)).all (· ≤ reachBytes) = true →
   X W args → W.ShapedOpen C.prog → a.holds C.prog (lone (Frame.enter C.prog f args .normal) [] W) →
   Calls C.prog f args W fun e W' => ∃ v, e = .returned v ∧ s.post enc C.prog fn apart fresh handsOn again W args v W') :
  ReturnsInHanded a C os f .any (fun w args => (s.pre enc C.prog fn conds apart w args ∧ X w args) ∧ sizedMet enc C.prog fn (OpenSpec.ofChange s) apart w args) (s.post enc C.prog fn apart fresh handsOn again) := by
 refine returnsInHanded_of_calls own started noInit witness fun w tape i _ hsh _ hok hpre hh => ?_
 obtain ⟨_, _, _, fn', hfn', _, _, _, _, hval⟩ := hok
 obtain rfl := Option.some.inj (hfn'.symm.trans hfn)
 obtain ⟨⟨⟨ds, gs, before, hw, hc⟩, hx⟩, hz⟩ := hpre
 have hw' := DataW.Whole.of_heap (w' := w.forCall tape i) (by rfl) hw
 refine (contract _ w.heap.size i.args ds gs before hval hw' hc (hz.weights hw) (hX _ _ _ (by rfl) hx) hsh hh).mono ?_
 rintro e W' ⟨v, rfl, hp⟩
 exact ChangeSpec.post_blind hp

theorem laidMet_over {P : Program} {w0 : World} {laid : List (String × DataW Unit)} (args : Array Value) (hf : w0.layFits P laid [] = true) (hi : w0.layIfaces P laid (w0.layVars P laid) = true) :
  laidMet P laid ((w0.layVars P laid).forCall (fun _ _ => 0) ⟨#[], args, []⟩).memory := by
 have hin : ∀ x ∈ laid, (laid.map (·.1)).contains x.1 = true := fun x hx => List.contains_iff_mem.2 (List.mem_map.2 ⟨x, hx, rfl⟩)
 have e1 : (laid.filter fun x => (laid.map (·.1)).contains x.1) = laid := List.filter_eq_self.2 hin
 have e2 : (laid.filter fun x => !(laid.map (·.1)).contains x.1) = [] := List.filter_eq_nil_iff.2 fun x hx => by rw [hin x hx]; simp
 have h : laidMet P laid (w0.layVars P laid) := laidMet_layVars (laid.map (·.1)) [] (by rw [e1]) (by rw [e1]; exact hf) (by rw [e1]; exact hi) (by rw [e2]; exact LaidIn.none)
 exact h.of_heap (by simp [World.memory, World.forCall, Input.heap])

end Go.Proofs.YtnmhaipjfpongacGreatDoor

namespace Go.Proofs.YtnmhaipjfpongacGreatDoor
open Go.ChangeShapes Go.WideShapes Go.ChangeAt Go.RowKit

theorem reach_arg {H : Type} {P : Program} {ts : List TypeId} {ds : List (DataW H)} (h : (DataW.weightsEach P ts ds).all (· ≤ reachBytes) = true) {j : Nat} {t : TypeId} {d : DataW H} (ht : ts[j]? = some t) (hd : ds[j]? = some d) : ∀ n ∈ d.weights P t, n ≤ 140737488351232 :=
 fun n hn => of_decide_eq_true (List.all_eq_true.1 h _ (DataW.weights_mem_each ht hd n hn))

theorem holds_tied_goes (Lk : Looks) {p : Pinned} {s : OpenSpec} {c : OpenClaim} (kinds : List LaidKind) (tests : Bool) (har : Bool × String) (lk : Bool) (g : Bool)
  (hc : c.holds p s) (hw : c.wfByText s = true) (htie : c.laidByTextAt Lk p kinds tests)
  (hst : c.start = .entering) (hnb : c.noBlocks = false ∧ c.again = false) (hm : p.checked.prog.mainIs = some (har.1, har.2.toList)) (hn : (!har.1 && har.2.isEmpty && !lk) = false)
  (hl : ∀ f fn, p.checked.prog.funcNamed c.func = some f → p.checked.prog.funcs[f]? = some fn → lk = p.checked.prog.looks [] ∧ ∀ (j : Nat) t, fn.params[j]? = some t → p.checked.prog.wantsStandIn t = false)
  (hg : g = c.goesBy p.checked.prog) :
  Claim7.holds p (.plain s) { stood := { row := c, standIns := [], harness := har, looks := lk }, kinds := [], alts := [], goes := g, laidByText := true, laidKinds := kinds, laidTests := tests, laidLooks := Lk } := by
 have h6 : Claim7.isSixth { stood := { row := c, standIns := [], harness := har, looks := lk }, kinds := [] } = false := by simpa [Claim7.isSixth] using hn
 exact ⟨Claim7.tied_new_at Lk kinds tests (Claim7.new_of_sixth hc har lk hst hnb hm h6 hl) hw, (fun D hD => by cases hD), htie, (fun h => by cases h), hg⟩
end Go.Proofs.YtnmhaipjfpongacGreatDoor

namespace Go.Proofs.YtnmhaipjfpongacGreatDoor
open Go.RowKit Go.Extern.Stop Go.Stop Go.Extern

theorem noUnwrapE (v : Value) (xT : TypeId) (w : World) : (Instr.typeAssert (.iface 390 v) xT 333 true).run Tryz.prog w = .ok (.tuple #[.nilIface, .bool false]) w := run_typeAssert_lacksB Tryz.underlying333 (by kernel_rfl) (by kernel_rfl) v xT w
theorem noUnwrapsE (v : Value) (xT : TypeId) (w : World) : (Instr.typeAssert (.iface 390 v) xT 335 true).run Tryz.prog w = .ok (.tuple #[.nilIface, .bool false]) w := run_typeAssert_lacksB Tryz.underlying335 (by kernel_rfl) (by kernel_rfl) v xT w
end Go.Proofs.YtnmhaipjfpongacGreatDoor

namespace Go.Proofs.YtnmhaipjfpongacGreatDoor
open Go.RowKit Go.Extern.Stop Go.Stop Go.Extern

theorem asValueOfT (t : Addr) (w : World) : (ReflectliteValue.unpack (.iface 239 (.pointer (some t)))).run Tryz.prog w
  = .ok (.agg #[.pointer (some ⟨26, 239, none⟩), .pointer (some ⟨w.heap.size, 0, none⟩), .int .u64 150]) (w.alloc (.cells #[.pointer (some t)] 239)) := by kernel_rfl
theorem asTypeT (a : Addr) (w : World) : (ReflectliteValue.methodAny (ReflectliteValue.valueError "reflectlite.Value.Type" 0) (fun t _ _ _ => ReflectliteType.toType t) #[.agg #[.pointer (some ⟨26, 239, none⟩), .pointer (some a), .int .u64 150]]).run Tryz.prog w
  = .ok (.iface 326 (.agg #[.pointer (some ⟨26, 239, none⟩)])) w := by kernel_rfl
theorem asMethodKind (h : Value) (w : World) : (Go.method 529 326 (.agg #[h]) "Kind").run Tryz.prog w = .ok (360, h) w := by kernel_rfl
theorem asKindT (w : World) : (callFunc 360 #[.pointer (some ⟨26, 239, none⟩)]).run Tryz.prog w = .ok (.value (.int .u8 22)) w := by kernel_rfl
theorem asKindE (w : World) : (callFunc 360 #[.pointer (some ⟨26, 226, none⟩)]).run Tryz.prog w = .ok (.value (.int .u8 22)) w := by kernel_rfl

theorem rlm (z : Sem Value) (f : TypeId → Addr → Nat → Nat → Sem Value) (v : Value) :
  ReflectliteValue.method z f #[v] = (do match ← ReflectliteValue.parts v with | none => z | some (t, a, fl) => f t a fl (fl % 32)) := rfl
theorem asPartsT (a : Addr) (w : World) : (ReflectliteValue.parts (.agg #[.pointer (some ⟨26, 239, none⟩), .pointer (some a), .int .u64 150])).run Tryz.prog w = .ok (some (239, a, 150)) w := by kernel_rfl
theorem asIsNilT (a p : Addr) (W : World) (ha : W.cell? a = some (.pointer (some p))) :
  (ReflectliteValue.method (ReflectliteValue.valueError "reflectlite.Value.IsNil" 0) ReflectliteValue.isNil #[.agg #[.pointer (some ⟨26, 239, none⟩), .pointer (some a), .int .u64 150]]).run Tryz.prog W = .ok (.bool false) W := by
 rw [rlm]
 simp only [Sem.run_bind, asPartsT, Result.andThen]
 simp [ReflectliteValue.isNil, loadVar, isAgg, underlying, Tryz.underlying239, ha, Result.andThen]

theorem asMethodElem (h : Value) (w : World) : (Go.method 529 326 (.agg #[h]) "Elem").run Tryz.prog w = .ok (373, .agg #[h]) w := by kernel_rfl
theorem asMethodImplements (h : Value) (w : World) : (Go.method 529 326 (.agg #[h]) "Implements").run Tryz.prog w = .ok (374, .agg #[h]) w := by kernel_rfl
theorem asMethodAssignableTo (h : Value) (w : World) : (Go.method 529 326 (.agg #[h]) "AssignableTo").run Tryz.prog w = .ok (371, .agg #[h]) w := by kernel_rfl
theorem asElemT (w : World) : (callFunc 373 #[.agg #[.pointer (some ⟨26, 239, none⟩)]]).run Tryz.prog w = .ok (.value (.iface 326 (.agg #[.pointer (some ⟨26, 226, none⟩)]))) w := by kernel_rfl
theorem asImplementsE (w : World) : (callFunc 374 #[.agg #[.pointer (some ⟨26, 226, none⟩)], .iface 326 (.agg #[.pointer (some ⟨26, 32, none⟩)])]).run Tryz.prog w = .ok (.value (.bool true)) w := by kernel_rfl
theorem asTypeOfE (v : Value) (w : World) : (callFunc 218 #[.iface 226 v]).run Tryz.prog w = .ok (.value (.iface 326 (.agg #[.pointer (some ⟨26, 226, none⟩)]))) w := by kernel_rfl
theorem asTypeOfS (v : Value) (w : World) : (callFunc 218 #[.iface 390 v]).run Tryz.prog w = .ok (.value (.iface 326 (.agg #[.pointer (some ⟨26, 390, none⟩)]))) w := by kernel_rfl
theorem asAssignableE (w : World) : (callFunc 371 #[.agg #[.pointer (some ⟨26, 226, none⟩)], .iface 326 (.agg #[.pointer (some ⟨26, 226, none⟩)])]).run Tryz.prog w = .ok (.value (.bool true)) w := by kernel_rfl
theorem asAssignableS (w : World) : (callFunc 371 #[.agg #[.pointer (some ⟨26, 390, none⟩)], .iface 326 (.agg #[.pointer (some ⟨26, 226, none⟩)])]).run Tryz.prog w = .ok (.value (.bool false)) w := by kernel_rfl
theorem asValueOfE (e : Addr) (w : World) : (ReflectliteValue.unpack (.iface 226 (.pointer (some e)))).run Tryz.prog w
  = .ok (.agg #[.pointer (some ⟨26, 226, none⟩), .pointer (some ⟨w.heap.size, 0, none⟩), .int .u64 150]) (w.alloc (.cells #[.pointer (some e)] 226)) := by kernel_rfl
theorem noAsS (v : Value) (xT : TypeId) (w : World) : (Instr.typeAssert (.iface 390 v) xT 330 true).run Tryz.prog w = .ok (.tuple #[.nilIface, .bool false]) w := run_typeAssert_lacksB Tryz.underlying330 (by kernel_rfl) (by kernel_rfl) v xT w

theorem asElemOfT (w : World) : (Rtype.elem? 239).run Tryz.prog w = .ok (some 226) w := by kernel_rfl
theorem asMkE (p : Addr) (w : World) : (ReflectliteValue.mk 226 p ReflectliteValue.flagAddr).run Tryz.prog w = .ok (.agg #[.pointer (some ⟨26, 226, none⟩), .pointer (some p), .int .u64 406]) w := by kernel_rfl
theorem asElemV (a p : Addr) (W : World) (ha : W.cell? a = some (.pointer (some p))) :
  (ReflectliteValue.method (ReflectliteValue.valueError "reflectlite.Value.Elem" 0) ReflectliteValue.elem #[.agg #[.pointer (some ⟨26, 239, none⟩), .pointer (some a), .int .u64 150]]).run Tryz.prog W
   = .ok (.agg #[.pointer (some ⟨26, 226, none⟩), .pointer (some p), .int .u64 406]) W := by
 rw [rlm]
 simp only [Sem.run_bind, asPartsT, Result.andThen]
 simp [ReflectliteValue.elem, loadVar, isAgg, underlying, Tryz.underlying239, ha, Result.andThen, asElemOfT, asMkE]
theorem rls (v x : Value) : ReflectliteValue.set #[v, x] = (do
  let (some (dst, a, fl), some (src, b, _)) := (← ReflectliteValue.parts v, ← ReflectliteValue.parts x)
   | unsupported (.noEntry "extern/(internal/reflectlite.Value).Set.zeroValue")
  if fl / ReflectliteValue.flagAddr % 2 == 0 then unsupported (.noEntry "extern/(internal/reflectlite.Value).Set.unaddressable")
  let val ← loadVar src b
  if ← Rtype.directlyAssignable dst src then storeVar dst a val
  else if ← Rtype.implements dst src then
   if (← Rtype.kind src) == 20 then
    match val with
    | .nilIface => unsupported (.noEntry "extern/reflectlite: a nil value of one interface type handed on as a value of another")
    | _ => storeVar dst a val
   else storeVar dst a (.iface src val)
  else panicString ("reflectlite.Set: value of type " ++ (← Rtype.spelt src) ++ " is not assignable to type " ++ (← Rtype.spelt dst))
  pure (.tuple #[])) := rfl
theorem asPartsEa (a : Addr) (w : World) : (ReflectliteValue.parts (.agg #[.pointer (some ⟨26, 226, none⟩), .pointer (some a), .int .u64 406])).run Tryz.prog w = .ok (some (226, a, 406)) w := by kernel_rfl
theorem asPartsE (a : Addr) (w : World) : (ReflectliteValue.parts (.agg #[.pointer (some ⟨26, 226, none⟩), .pointer (some a), .int .u64 150])).run Tryz.prog w = .ok (some (226, a, 150)) w := by kernel_rfl
theorem asDirectE (w : World) : (Rtype.directlyAssignable 226 226).run Tryz.prog w = .ok true w := by kernel_rfl
theorem asSetE (ta b e : Addr) (old : Value) (W : World) (hb : W.cell? b = some (.pointer (some e))) (ht : W.cell? ta = some old) (hf : W.frozen? ta = false) :
  (ReflectliteValue.set #[.agg #[.pointer (some ⟨26, 226, none⟩), .pointer (some ta), .int .u64 406], .agg #[.pointer (some ⟨26, 226, none⟩), .pointer (some b), .int .u64 150]]).run Tryz.prog W
   = .ok (.tuple #[]) (W.setCell ta (.pointer (some e))) := by
 rw [rls]
 simp only [Sem.run_bind, asPartsEa, asPartsE, Result.andThen]
 simp [ReflectliteValue.flagAddr, loadVar, isAgg, underlying, Tryz.underlying226, hb, Result.andThen, asDirectE, storeVar, Value.cells, storeCells, Addr.add]
 rw [run_store Tryz.prog W ta _ _ (by rfl)]
 simp [ht, hf]

def errType : Value := .iface 326 (.agg #[.pointer (some ⟨26, 32, none⟩)])

set_option maxHeartbeats 4000000 in
theorem as_hit (e t : Addr) (old : Value) (w : World) (hg0 : w.cell? ⟨12, 0, none⟩ = some errType) (ht0 : w.cell? t = some old) (hf0 : w.frozen? t = false) :
  Calls Tryz.prog 168 #[.iface 226 (.pointer (some e)), .iface 239 (.pointer (some t))] w fun ev w' => ev = .returned (.bool true) ∧ w' = ((((w.alloc (.cells #[.pointer (some t)] 239)).alloc (.cells #[.pointer (some ⟨26, 239, none⟩), .pointer (some ⟨w.heap.size, 0, none⟩), .int .u64 150] 280)).alloc (.cells #[.pointer (some ⟨26, 239, none⟩), .pointer (some ⟨w.heap.size, 0, none⟩), .int .u64 150] 280)).alloc (.cells #[.pointer (some e)] 226)).setCell t (.pointer (some e)) := by
 have hg : w.cell? ⟨12, 0, none⟩ = some (.iface 326 (.agg #[.pointer (some ⟨26, 32, none⟩)])) := hg0
 have h6 := @run_callFunc_extern Tryz.prog 214 _ (fun args => ReflectliteValue.unpack (args.getD 0 (.tuple #[]))) Tryz.func214 (by kernel_rfl) (by kernel_rfl) (by kernel_rfl) (by kernel_rfl)
 have h7 := @run_callFunc_extern Tryz.prog 215 _ (ReflectliteValue.methodAny (ReflectliteValue.valueError "reflectlite.Value.Type" 0) (fun t _ _ _ => ReflectliteType.toType t)) Tryz.func215 (by kernel_rfl) (by kernel_rfl) (by kernel_rfl) (by kernel_rfl)
 have h8 := @run_callFunc_extern Tryz.prog 216 _ (ReflectliteValue.method (ReflectliteValue.valueError "reflectlite.Value.IsNil" 0) ReflectliteValue.isNil) Tryz.func216 (by kernel_rfl) (by kernel_rfl) (by kernel_rfl) (by kernel_rfl)
 have h11 := @run_callFunc_extern Tryz.prog 279 _ (ReflectliteValue.method (ReflectliteValue.valueError "reflectlite.Value.Elem" 0) ReflectliteValue.elem) Tryz.func279 (by kernel_rfl) (by kernel_rfl) (by kernel_rfl) (by kernel_rfl)
 have h12 := @run_callFunc_extern Tryz.prog 280 _ ReflectliteValue.set Tryz.func280 (by kernel_rfl) (by kernel_rfl) (by kernel_rfl) (by kernel_rfl)
 have tO := asTypeOfE
 have mA := asMethodAssignableTo
 have a25 := asAssignableE
 have v25 := asValueOfE
 have f6 := asValueOfT
 have f7 := asTypeT
 have mK := asMethodKind
 have mE := asMethodElem
 have mI := asMethodImplements
 have k27 := asKindT
 have k25 := asKindE
 have e27 := asElemT
 have i25 := asImplementsE
 have n8 := asIsNilT ⟨w.heap.size, 0, none⟩ t ((w.alloc (.cells #[.pointer (some t)] 239)).alloc (.cells #[.pointer (some ⟨26, 239, none⟩), .pointer (some ⟨w.heap.size, 0, none⟩), .int .u64 150] 280)) (by simp)
 have hlt : 12 < w.heap.size := lt_of_cell hg
 have hg2 : ((w.alloc (.cells #[.pointer (some t)] 239)).alloc (.cells #[.pointer (some ⟨26, 239, none⟩), .pointer (some ⟨w.heap.size, 0, none⟩), .int .u64 150] 280)).cell? ⟨12, 0, none⟩ = some (.iface 326 (.agg #[.pointer (some ⟨26, 32, none⟩)])) := by
  rw [World.cell?_alloc_lt _ _ ⟨12, 0, none⟩ (by simp; omega), World.cell?_alloc_lt _ _ ⟨12, 0, none⟩ hlt]; exact hg
 have htl : t.block < w.heap.size := lt_of_cell ht0
 have el := asElemV ⟨w.heap.size, 0, none⟩ t (((w.alloc (.cells #[.pointer (some t)] 239)).alloc (.cells #[.pointer (some ⟨26, 239, none⟩), .pointer (some ⟨w.heap.size, 0, none⟩), .int .u64 150] 280)).alloc (.cells #[.pointer (some ⟨26, 239, none⟩), .pointer (some ⟨w.heap.size, 0, none⟩), .int .u64 150] 280)) (by rw [World.cell?_alloc_lt _ _ ⟨w.heap.size, 0, none⟩ (by simp; omega)]; simp)
 have st := asSetE t ⟨w.heap.size + 1 + 1 + 1, 0, none⟩ e old ((((w.alloc (.cells #[.pointer (some t)] 239)).alloc (.cells #[.pointer (some ⟨26, 239, none⟩), .pointer (some ⟨w.heap.size, 0, none⟩), .int .u64 150] 280)).alloc (.cells #[.pointer (some ⟨26, 239, none⟩), .pointer (some ⟨w.heap.size, 0, none⟩), .int .u64 150] 280)).alloc (.cells #[.pointer (some e)] 226))
  (by rw [World.cell?_alloc_at _ _ _ _ (by simp)]; rfl)
  (by rw [World.cell?_alloc_lt _ _ t (by simp; omega), World.cell?_alloc_lt _ _ t (by simp; omega), World.cell?_alloc_lt _ _ t (by simp; omega), World.cell?_alloc_lt _ _ t htl]; exact ht0)
  (by rw [World.frozen?_alloc_old _ _ t (by simp; omega), World.frozen?_alloc_old _ _ t (by simp; omega), World.frozen?_alloc_old _ _ t (by simp; omega), World.frozen?_alloc_old _ _ t (Nat.ne_of_lt htl)]; exact hf0)
 go_enter Tryz.func168, Tryz.ntmps168
 go_wp2
 refine wp_loop_rounds 1 ?_
 rw [rounds_succ]
 go_wp2
 go_ret
 exact ⟨rfl, rfl⟩

set_option maxHeartbeats 4000000 in
theorem as_miss (s t : Addr) (w : World) (hg0 : w.cell? ⟨12, 0, none⟩ = some errType) :
  Calls Tryz.prog 168 #[.iface 390 (.pointer (some s)), .iface 239 (.pointer (some t))] w fun ev w' => ev = .returned (.bool false) ∧ Ext w w' := by
 have hg : w.cell? ⟨12, 0, none⟩ = some (.iface 326 (.agg #[.pointer (some ⟨26, 32, none⟩)])) := hg0
 have h6 := @run_callFunc_extern Tryz.prog 214 _ (fun args => ReflectliteValue.unpack (args.getD 0 (.tuple #[]))) Tryz.func214 (by kernel_rfl) (by kernel_rfl) (by kernel_rfl) (by kernel_rfl)
 have h7 := @run_callFunc_extern Tryz.prog 215 _ (ReflectliteValue.methodAny (ReflectliteValue.valueError "reflectlite.Value.Type" 0) (fun t _ _ _ => ReflectliteType.toType t)) Tryz.func215 (by kernel_rfl) (by kernel_rfl) (by kernel_rfl) (by kernel_rfl)
 have h8 := @run_callFunc_extern Tryz.prog 216 _ (ReflectliteValue.method (ReflectliteValue.valueError "reflectlite.Value.IsNil" 0) ReflectliteValue.isNil) Tryz.func216 (by kernel_rfl) (by kernel_rfl) (by kernel_rfl) (by kernel_rfl)
 have tO := asTypeOfS
 have mA := asMethodAssignableTo
 have a25 := asAssignableS
 have f6 := asValueOfT
 have f7 := asTypeT
 have mK := asMethodKind
 have mE := asMethodElem
 have mI := asMethodImplements
 have k27 := asKindT
 have k25 := asKindE
 have e27 := asElemT
 have i25 := asImplementsE
 have nA := noAsS
 have uE := noUnwrapE
 have vE := noUnwrapsE
 have n8 := asIsNilT ⟨w.heap.size, 0, none⟩ t ((w.alloc (.cells #[.pointer (some t)] 239)).alloc (.cells #[.pointer (some ⟨26, 239, none⟩), .pointer (some ⟨w.heap.size, 0, none⟩), .int .u64 150] 280)) (by simp)
 have hlt : 12 < w.heap.size := lt_of_cell hg
 have hg2 : ((w.alloc (.cells #[.pointer (some t)] 239)).alloc (.cells #[.pointer (some ⟨26, 239, none⟩), .pointer (some ⟨w.heap.size, 0, none⟩), .int .u64 150] 280)).cell? ⟨12, 0, none⟩ = some (.iface 326 (.agg #[.pointer (some ⟨26, 32, none⟩)])) := by
  rw [World.cell?_alloc_lt _ _ ⟨12, 0, none⟩ (by simp; omega), World.cell?_alloc_lt _ _ ⟨12, 0, none⟩ hlt]; exact hg
 go_enter Tryz.func168, Tryz.ntmps168
 go_wp2
 refine wp_loop_rounds 1 ?_
 rw [rounds_succ]
 go_wp2
 go_ret
 refine ⟨rfl, ?_⟩
 repeat' (first | with_reducible exact Only.refl _ _ | apply Only.thenAlloc)
end Go.Proofs.YtnmhaipjfpongacGreatDoor

namespace Go.Proofs.YtnmhaipjfpongacGreatDoor
open Go.ChangeShapes Go.WideShapes Go.ChangeAt Go.RowKit

def RdS {α : Type} (n : Nat) (enc : α → List Value) (w : World) (v : Value) (l : List α) : Prop :=
 ∃ a cap, v = .slice a l.length cap ∧ l.length ≤ cap ∧ cap ≤ maxLen ∧ (l ≠ [] → ∃ b off, a = some ⟨b, off, none⟩ ∧ ∀ i x, l[i]? = some x → ∀ j u, (enc x)[j]? = some u → w.cell? ⟨b, off + i * n + j, none⟩ = some u)

theorem flat_len {α : Type} {enc : α → List Value} {n : Nat} (hn : ∀ x, (enc x).length = n) : ∀ l : List α, (l.flatMap enc).length = l.length * n
 | [] => by simp
 | y :: l => by rw [List.flatMap_cons, List.length_append, hn, flat_len hn l, List.length_cons, Nat.succ_mul, Nat.add_comm]

theorem flat_at {α : Type} {enc : α → List Value} {n : Nat} (hn : ∀ x, (enc x).length = n) : ∀ (l : List α) (i : Nat) (x : α), l[i]? = some x → ∀ j u, (enc x)[j]? = some u → (l.flatMap enc)[i * n + j]? = some u
 | [], i, x, h, _, _, _ => by simp at h
 | y :: l, 0, x, h, j, u, hu => by
  have hy : y = x := by simpa using h
  subst hy
  have hj : j < (enc y).length := (List.getElem?_eq_some_iff.1 hu).1
  rw [List.flatMap_cons, Nat.zero_mul, Nat.zero_add, List.getElem?_append_left hj, hu]
 | y :: l, i + 1, x, h, j, u, hu => by
  have h' : l[i]? = some x := by simpa using h
  have := flat_at hn l i x h' j u hu
  have e : (i + 1) * n + j - (enc y).length = i * n + j := by rw [hn, Nat.succ_mul]; omega
  rw [List.flatMap_cons, List.getElem?_append_right (by rw [hn, Nat.succ_mul]; omega), e, this]

theorem RdS.of_row {α : Type} {n : Nat} {enc : α → List Value} (hn : ∀ x, (enc x).length = n) {w : World} {base : Nat} {e : TypeId} {v : Value} {l : List α} (h : w.ownsRow base e n v l.length (l.flatMap enc)) : RdS n enc w v l := by
 obtain ⟨h1, h2⟩ := h
 rcases h2 with ⟨rfl, h2⟩ | ⟨g, cap, cur, rfl, hg, hh, hc, hm, hs, ht⟩
 ·exact ⟨none, 0, by rw [h2], by omega, Nat.zero_le _, fun h => absurd (List.length_eq_zero_iff.1 h2) h⟩
 ·refine ⟨_, cap, rfl, hc, hm, fun _ => ⟨g, 0, rfl, fun i x hx j u hu => ?_⟩⟩
  have hf := flat_at hn l i x hx j u hu
  have hlt := (List.getElem?_eq_some_iff.1 hf).1
  rw [h1] at hlt
  have hcell : cur[i * n + j]? = (cur.toList.take (l.length * n))[i * n + j]? := by rw [List.getElem?_take_of_lt hlt]; simp
  rw [ht, hf] at hcell
  rw [Nat.zero_add]
  simp [World.cell?, hh, hcell]

theorem cells_new (W : World) (cs : Array Value) (e : TypeId) : ∀ j u, cs.toList[j]? = some u → (W.alloc (.cells cs e (0, 0))).cell? ((⟨W.heap.size, 0, none⟩ : Addr).add j) = some u :=
 World.news_of_block (MapKept.heap_alloc W (.cells cs e (0, 0))).1

theorem wpList_appS {P : Program} {α : Type} (enc : α → List Value) (t e : TypeId) (n by_ : Nat) (z : Value) (hinfo : (P.info? e).map (fun i => (i.zero, i.size, i.bytes)) = some (some z, n, by_)) (ht : P.underlying t = some (.slice e)) (hzs : z.cells.size = n) (hn0 : 0 < n)
  (hlen : ∀ x, (enc x).length = n) (h1c : ∀ x, ∀ u ∈ enc x, u.oneCell' = true) (hby : by_ ≤ 1000)
  {ops : Array Oper} {rest : List Oper} {o : Oper} {a : Act} {Q : Exit → Act → World → Prop} (s x : Operand) (base : Nat) (v : Value) (l : List α) (k : α) (W : World) (cs : Array Value) (hcs : cs.toList = enc k) (hgd : o.guard = none)
  (ho : o.op = .call { callee := .builtin .append, args := #[s, x], argTypes := #[t, t] }) (hs : a.eval s = v) (hx : a.eval x = .slice (some ⟨W.heap.size, 0, none⟩) 1 1)
  (hrow : W.ownsRow base e n v l.length (l.flatMap enc)) (hl : l.length ≤ 1000000) (hbase : base ≤ W.heap.size)
  (hK : ∀ g cap w', w'.ownsRow base e n (.slice (some ⟨g, 0, none⟩) (l.length + 1) cap) (l.length + 1) ((l ++ [k]).flatMap enc) → W.grownBy w' v.ownBlock → (∀ i, Value.ownBlock (.slice (some ⟨g, 0, none⟩) (l.length + 1) cap) = some i → v.ownBlock = some i ∨ W.heap.size ≤ i) →
   wpList P ops Q rest (a.put o.dst (.slice (some ⟨g, 0, none⟩) (l.length + 1) cap)) w') :
  wpList P ops Q (o :: rest) a (W.alloc (.cells cs e (0, 0))) := by
 obtain ⟨i0, hi, hz0, hz1, hz2⟩ := info_parts hinfo
 have hb : (l.length + 1) * by_ ≤ 1000001 * 1000 := Nat.mul_le_mul (by omega) hby
 refine wpList_append_lies _ hgd s x t ho base e i0 z n by_ ht hi hz0 hz1 hz2 hzs hn0 v l.length (l.flatMap enc) hs (hrow.alloc _) ⟨W.heap.size, 0, none⟩ 1 1 (enc k) hx (by rw [hlen, Nat.one_mul])
  (fun j u hu => cells_new W cs e j u (by rw [hcs]; exact hu)) (h1c k) (by decide) ?_ ?_ ?_ (W.heap.size + 1) (by simp) ?_
 ·unfold maxLen; omega
 ·omega
 ·simp; omega
 ·intro g cap w' hown hg hat hlt
  refine hK g cap w' (by simpa using hown) ?_ ?_
  ·exact ((Only.alloc (fun i => v.ownBlock = some i) W _).then (Only.of_grown hg)).grown
  ·intro i e
   cases e
   rcases hat with h | h
   ·exact .inl h
   ·exact .inr (by rw [h]; exact Nat.le_succ _)
end Go.Proofs.YtnmhaipjfpongacGreatDoor

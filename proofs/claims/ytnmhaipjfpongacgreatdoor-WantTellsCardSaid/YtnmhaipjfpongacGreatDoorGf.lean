/- Texts of this seat laid together: V2, V3, V4, V5, V6, V7, V8, V9. No condition of its own: what each proves stands with its theorems. -/
import Derived.Test.YtnmhaipjfpongacGreatDoorGd
import Derived.Test.YtnmhaipjfpongacGreatDoorGe
import Derived.Test.YtnmhaipjfpongacGreatDoorGc
import Derived.Sort.Walk0
import Derived.Laws.IdiomRangeMap
import Derived.Maps.RangeRun
import Derived.Test.YtnmhaipjfpongacGreatDoorGb
import Derived.Test.YtnmhaipjfpongacGreatDoorGa
import Derived.Deep.AppendLies
import Derived.Laws.AppendOwnNone
namespace Go.Proofs.YtnmhaipjfpongacGreatDoor

abbrev FL := List (B × B)

def aboveB (a b : B) : Bool := (a ++ [47]).isPrefixOf b
def clash (L : FL) (p : B) : Bool := L.any fun q => aboveB p q.1 || aboveB q.1 p
def Rising (L : FL) : Prop := L.Pairwise fun x y => x.1 < y.1

def insT (L : FL) (p x : B) : FL := L.takeWhile (fun q => decide (q.1 < p)) ++ (p, x) :: L.dropWhile (fun q => decide (q.1 < p))
def chg (p x : B) (q : B × B) : B × B := if q.1 == p then (p, x) else q
def setT (L : FL) (p x : B) : FL := if (L.lookup p).isSome then L.map (chg p x) else insT L p x
def putCode (L : FL) (p x : B) : Nat :=
  if pathOk p then if 2000 < x.length then 2 else if clash L p then 7 else if (L.lookup p).isNone && decide (60 ≤ L.length) then 8 else 0 else 4
def putT (L : FL) (p x : B) : FL := if putCode L p x = 0 then setT L p x else L
def delT (L : FL) (p : B) : FL := L.filter (fun q => !(q.1 == p))

theorem ltB_irrefl (a : B) : ¬ a < a := List.lt_irrefl a
theorem ltB_trans {a b c : B} (h : a < b) (k : b < c) : a < c := List.lt_trans h k
theorem ltB_asymm {a b : B} (h : a < b) : ¬ b < a := fun k => ltB_irrefl _ (ltB_trans h k)
theorem ltB_tri {a b : B} (h : ¬ a < b) (k : ¬ b < a) : a = b := List.le_antisymm (List.not_lt.1 k) (List.not_lt.1 h)
theorem leB_iff {a b : B} : a ≤ b ↔ ¬ b < a := List.not_lt.symm

theorem Rising.nodup {L : FL} (h : Rising L) : (L.map (·.1)).Nodup := by
  rw [List.nodup_iff_pairwise_ne, List.pairwise_map]
  refine List.Pairwise.imp ?_ h
  intro a b hlt e
  rw [e] at hlt
  exact ltB_irrefl _ hlt

theorem Rising.nil : Rising [] := List.Pairwise.nil
theorem Rising.del {L : FL} (h : Rising L) (p : B) : Rising (delT L p) := List.Pairwise.filter _ h

theorem chg_fst (p x : B) (q : B × B) : (chg p x q).1 = q.1 := by
  unfold chg
  split
  · rename_i h; exact (beq_iff_eq.1 h).symm
  · rfl

theorem map_chg_fst (L : FL) (p x : B) : (L.map (chg p x)).map (·.1) = L.map (·.1) := by
  rw [List.map_map]
  exact List.map_congr_left fun q _ => chg_fst p x q

theorem Rising.iff {L : FL} : Rising L ↔ (L.map (·.1)).Pairwise (· < ·) := (List.pairwise_map).symm

theorem lookup_none {L : FL} {p : B} (h : L.lookup p = none) : ∀ q ∈ L, q.1 ≠ p := fun q hq e => not_mem_of_lookup h (List.mem_map.2 ⟨q, hq, e⟩)

theorem Rising.ins {L : FL} (h : Rising L) {p : B} (x : B) (hp : L.lookup p = none) : Rising (insT L p x) := by
  have hne := lookup_none hp
  clear hp
  induction L with
  | nil => exact List.pairwise_singleton _ _
  | cons q L ih =>
    have h1 := List.pairwise_cons.1 h
    unfold insT
    by_cases hq : q.1 < p
    · rw [List.takeWhile_cons_of_pos (by simpa using hq), List.dropWhile_cons_of_pos (by simpa using hq)]
      have := ih h1.2 fun r hr => hne r (.tail _ hr)
      refine List.pairwise_cons.2 ⟨fun r hr => ?_, this⟩
      rcases List.mem_append.1 hr with hr | hr
      · exact h1.1 r (List.takeWhile_sublist _ |>.mem hr)
      · rcases List.mem_cons.1 hr with rfl | hr
        · exact hq
        · exact h1.1 r (List.dropWhile_sublist _ |>.mem hr)
    · rw [List.takeWhile_cons_of_neg (by simpa using hq), List.dropWhile_cons_of_neg (by simpa using hq)]
      have hlt : p < q.1 := by
        by_cases hl : p < q.1
        · exact hl
        · exact absurd (ltB_tri hq hl) (hne q (.head _))
      refine List.pairwise_cons.2 ⟨fun r hr => ?_, h⟩
      rcases List.mem_cons.1 hr with rfl | hr
      · exact hlt
      · exact ltB_trans hlt (h1.1 r hr)

theorem Rising.set {L : FL} (h : Rising L) (p x : B) : Rising (setT L p x) := by
  unfold setT
  cases hl : L.lookup p with
  | some y => rw [if_pos (by simp), Rising.iff, map_chg_fst, ← Rising.iff]; exact h
  | none => rw [if_neg (by simp)]; exact h.ins x hl

theorem Rising.put {L : FL} (h : Rising L) (p x : B) : Rising (putT L p x) := by
  unfold putT
  split
  · exact h.set p x
  · exact h

theorem filter_chg (L : FL) (p x : B) : (L.map (chg p x)).filter (fun q => !(q.1 == p)) = L.filter (fun q => !(q.1 == p)) := by
  induction L with
  | nil => rfl
  | cons q L ih =>
    by_cases hq : q.1 = p
    · rw [List.map_cons, List.filter_cons_of_neg (by rw [chg_fst]; simpa using hq), List.filter_cons_of_neg (by simpa using hq), ih]
    · rw [List.map_cons, List.filter_cons_of_pos (by rw [chg_fst]; simpa using hq), List.filter_cons_of_pos (by simpa using hq), ih]
      have : chg p x q = q := by unfold chg; rw [if_neg (by simpa using hq)]
      rw [this]

theorem lookup_chg {L : FL} {p : B} (x : B) {y : B} (h : L.lookup p = some y) : (L.map (chg p x)).lookup p = some x := by
  induction L with
  | nil => cases h
  | cons q L ih =>
    obtain ⟨k, z⟩ := q
    by_cases hq : k = p
    · subst hq
      have : chg k x (k, z) = (k, x) := by unfold chg; rw [if_pos (by simp)]
      rw [List.map_cons, this]; simp [List.lookup]
    · have hq' : (p == k) = false := beq_eq_false_iff_ne.2 (Ne.symm hq)
      have : chg p x (k, z) = (k, z) := by unfold chg; rw [if_neg (by simpa using hq)]
      rw [List.map_cons, this]
      simp only [List.lookup, hq'] at h ⊢
      exact ih h

/-- What the program's map holds behind a store is the model's list. -/
theorem set_perm {L : FL} (h : Rising L) (p x : B) : ((p, x) :: delT L p).Perm (setT L p x) := by
  unfold setT
  cases hl : L.lookup p with
  | some y =>
    rw [if_pos (by simp)]
    have hn : ((L.map (chg p x)).map (·.1)).Nodup := by rw [map_chg_fst]; exact h.nodup
    have := perm_of_lookup hn (lookup_chg x hl)
    rw [filter_chg] at this
    exact this.symm
  | none =>
    rw [if_neg (by simp)]
    unfold delT insT
    rw [filter_of_lookup_none hl]
    have := (List.perm_middle (a := (p, x)) (l₁ := L.takeWhile fun q => decide (q.1 < p)) (l₂ := L.dropWhile fun q => decide (q.1 < p))).symm
    rw [List.takeWhile_append_dropWhile] at this
    exact this

/-! ### the keys, sorted, are the list's own -/
theorem sorted_keys {L : FL} (h : Rising L) {ss : List B} (hp : ss.Perm (L.map (·.1))) : ss.mergeSort (fun x y => decide (x ≤ y)) = L.map (·.1) := by
  have hs : (ss.mergeSort (fun x y => decide (x ≤ y))).Pairwise (fun x y => decide (x ≤ y) = true) := List.pairwise_mergeSort (fun a b c h1 h2 => by
    have h1 : a ≤ b := of_decide_eq_true h1
    have h2 : b ≤ c := of_decide_eq_true h2
    exact decide_eq_true (List.le_trans h1 h2)) (fun a b => by
    rcases List.le_total a b with h | h
    · simp [decide_eq_true h]
    · simp [decide_eq_true h]) _
  have hk : (L.map (·.1)).Pairwise (fun x y => decide (x ≤ y) = true) := by
    have := Rising.iff.1 h
    exact this.imp fun hlt => decide_eq_true (leB_iff.2 (ltB_asymm hlt))
  refine List.Perm.eq_of_pairwise (fun a b _ _ h1 h2 => ?_) hs hk ((List.mergeSort_perm _ _).trans hp)
  exact List.le_antisymm (of_decide_eq_true h1) (of_decide_eq_true h2)

/-! ### lengths -/
theorem length_ins (L : FL) (p x : B) : (insT L p x).length = L.length + 1 := by
  have := congrArg List.length (List.takeWhile_append_dropWhile (p := fun q : B × B => decide (q.1 < p)) (l := L))
  unfold insT
  simp only [List.length_append, List.length_cons] at this ⊢
  omega

theorem length_del (L : FL) (p : B) : (delT L p).length ≤ L.length := List.length_filter_le _ _

/-- What a tree holds: few files, short paths, short bytes. -/
structure Fits (L : FL) : Prop where
  rising : Rising L
  few : L.length ≤ 60
  path : ∀ q ∈ L, pathOk q.1 = true
  bytes : ∀ q ∈ L, q.2.length ≤ 2000

theorem Fits.nil : Fits [] := ⟨Rising.nil, by simp, by simp, by simp⟩
theorem Fits.del {L : FL} (h : Fits L) (p : B) : Fits (delT L p) :=
  ⟨h.rising.del p, Nat.le_trans (length_del L p) h.few, fun q hq => h.path q (List.mem_filter.1 hq).1, fun q hq => h.bytes q (List.mem_filter.1 hq).1⟩

theorem mem_set {L : FL} (h : Rising L) {p x : B} {q : B × B} (hq : q ∈ setT L p x) : q = (p, x) ∨ q ∈ L := by
  rcases List.mem_cons.1 ((set_perm h p x).mem_iff.2 hq) with h | h
  · exact .inl h
  · exact .inr (List.mem_filter.1 h).1

theorem Fits.put {L : FL} (h : Fits L) (p x : B) : Fits (putT L p x) := by
  refine ⟨h.rising.put p x, ?_, ?_, ?_⟩
  all_goals
    unfold putT
    by_cases h0 : putCode L p x = 0
    · rw [if_pos h0]
      unfold putCode at h0
      by_cases h1 : pathOk p = true
      · rw [if_pos h1] at h0
        by_cases h2 : 2000 < x.length
        · rw [if_pos h2] at h0; omega
        · rw [if_neg h2] at h0
          by_cases h3 : clash L p = true
          · rw [if_pos h3] at h0; omega
          · rw [if_neg h3] at h0
            by_cases h4 : ((L.lookup p).isNone && decide (60 ≤ L.length)) = true
            · rw [if_pos h4] at h0; omega
            · first
                | (unfold setT
                   cases hl : L.lookup p with
                   | some y => rw [if_pos (by simp)]; simpa using h.few
                   | none =>
                     rw [hl] at h4
                     rw [if_neg (by simp), length_ins]
                     simp at h4
                     omega)
                | (intro q hq
                   rcases mem_set h.rising hq with rfl | hq
                   · first | exact h1 | (show x.length ≤ 2000; omega)
                   · first | exact h.path q hq | exact h.bytes q hq)
      · rw [if_neg h1] at h0; omega
    · rw [if_neg h0]
      first | exact h.few | exact h.path | exact h.bytes
end Go.Proofs.YtnmhaipjfpongacGreatDoor

namespace Go.Proofs.YtnmhaipjfpongacGreatDoor
open Go.ChangeShapes Go.WideShapes Go.ChangeAt Go.RowKit

/-- A tree in memory: its files, in whatever order. -/
structure TreeAt (w : World) (b mb : Nat) (L : FL) : Prop where
  cells : w.heap[b]? = some (.cells #[.map (some mb)] 173 (0, 0))
  map : KMap .string S S w mb L

theorem TreeAt.later {p : Nat → Prop} {w w' : World} {b mb : Nat} {L : FL} (h : TreeAt w b mb L) (ho : Only p w w') (h1 : ¬ p b) (h2 : ¬ p mb) : TreeAt w' b mb L :=
  ⟨ho.heapOf h.cells h1, h.map.later ho h2⟩
theorem TreeAt.ext {w w' : World} {b mb : Nat} {L : FL} (h : TreeAt w b mb L) (ho : Ext w w') : TreeAt w' b mb L := h.later ho (fun h => h) (fun h => h)
theorem TreeAt.ne {w : World} {b mb : Nat} {L : FL} (h : TreeAt w b mb L) : b ≠ mb := heap_ne_map h.cells h.map
theorem TreeAt.mapCell {w : World} {b mb : Nat} {L : FL} (h : TreeAt w b mb L) : w.cell? ⟨b, 0, none⟩ = some (.map (some mb)) := (cell_of_heap h.cells 0).trans rfl
theorem TreeAt.stores {w w' : World} {b mb : Nat} {L L' : FL} (h : TreeAt w b mb L) (ho : Only (fun i => i = mb) w w') (hm : KMap .string S S w' mb L') : TreeAt w' b mb L' :=
  ⟨ho.heapOf h.cells h.ne, hm⟩

theorem treeNew_any (w : World) :
    Calls Tryz.prog 91 #[] w fun e w' => e = .returned (.pointer (some ⟨w.heap.size + 1, 0, none⟩)) ∧ TreeAt w' (w.heap.size + 1) w.heap.size [] ∧ Ext w w' ∧ w'.heap.size = w.heap.size + 2 := by
  have hmm := @run_makeMap Tryz.prog
  go_enter Tryz.func91, Tryz.ntmps91
  go_wp2
  go_ret
  refine ⟨rfl, ⟨?_, (KMap.made w .string S S).later (Only.alloc (fun _ => False) _ _) (fun h => h)⟩, (Only.alloc _ _ _).thenAlloc _, by simp⟩
  simpa using (MapKept.heap_alloc (w.alloc (.map #[] 0)) (.cells #[.map (some w.heap.size)] 173 (0, 0))).1

theorem treeGet_any (w : World) (b mb : Nat) (L : FL) (p : B) (h : TreeAt w b mb L) :
    Calls Tryz.prog 42 #[.pointer (some ⟨b, 0, none⟩), S p] w fun e w' => e = .returned (.tuple #[S ((L.lookup p).getD []), .bool (L.lookup p).isSome]) ∧ w = w' := by
  have c0 := h.mapCell
  have hlook := KMap.look (P := Tryz.prog) keyOk_str h.map Tryz.underlying171 Tryz.underlying9 (zeroStr w) p
  clear h
  cases hk : L.lookup p
  all_goals
    simp only [hk] at hlook
    clear hk
    go_enter Tryz.func42, Tryz.ntmps42
    go_wp2_with fail
    go_ret2
    exact ⟨rfl, rfl⟩

set_option maxRecDepth 100000 in
theorem treeRemove_any (w : World) (b mb : Nat) (L : FL) (p : B) (a : Addr) (h : TreeAt w b mb L) (he : w.cell? ⟨1, 0, none⟩ = some (errV a)) :
    Calls Tryz.prog 37 #[.pointer (some ⟨b, 0, none⟩), S p] w fun e w' => e = .returned (if (L.lookup p).isSome then .nilIface else errV a) ∧ TreeAt w' b mb (delT L p) ∧ Only (fun i => i = mb) w w' := by
  have c0 := h.mapCell
  have hlook := KMap.look (P := Tryz.prog) keyOk_str h.map Tryz.underlying171 Tryz.underlying9 (zeroStr w) p
  cases hk : L.lookup p with
  | none =>
    simp only [hk] at hlook
    have e1 : delT L p = L := filter_of_lookup_none hk
    rw [e1]
    have H := Lib.hid h
    clear hk h e1
    go_enter Tryz.func37, Tryz.ntmps37
    go_wp2_with fail
    go_ret
    exact ⟨rfl, H.out, Only.refl _ _⟩
  | some x =>
    simp only [hk] at hlook
    obtain ⟨w1, hrun, hm1, ho1, _⟩ := KMap.drop (P := Tryz.prog) keyOk_str h.map Tryz.underlying171 Tryz.underlying9 p 0
    have H := Lib.hid h
    clear hk h
    go_enter Tryz.func37, Tryz.ntmps37
    go_wp2_with fail
    go_ret
    exact ⟨rfl, H.out.stores ho1 hm1, ho1⟩

/-! ### HasPrefix, above -/
theorem prefix_take (p s : B) : p.isPrefixOf s = (decide (p.length ≤ s.length) && (s.take p.length == p)) := by
  rw [Bool.eq_iff_iff, List.isPrefixOf_iff_prefix, List.prefix_iff_eq_take]
  constructor
  · intro h
    have := congrArg List.length h
    rw [List.length_take] at this
    simp [← h]; omega
  · intro h
    simp at h
    exact h.2.symm

theorem above_eq (a b : B) : aboveB a b = (decide (a.length < b.length) && ((b.take a.length == a) && (b[a.length]? == some 47))) := by
  unfold aboveB
  rw [Bool.eq_iff_iff, List.isPrefixOf_iff_prefix]
  constructor
  · rintro ⟨r, rfl⟩
    simp
  · intro h
    simp only [Bool.and_eq_true, decide_eq_true_eq, beq_iff_eq] at h
    refine ⟨b.drop (a.length + 1), ?_⟩
    have h1 := List.drop_eq_getElem_cons (l := b) h.1
    have h2 := List.take_append_drop a.length b
    have h3 := (List.getElem?_eq_some_iff.1 h.2.2).2
    rw [h1, h3, h.2.1] at h2
    rw [List.append_assoc]
    exact h2

set_option maxHeartbeats 1000000 in
theorem hasPrefixL_any (w : World) (s p : B) : Calls Tryz.prog 179 #[S s, S p] w fun e w' => e = .returned (.bool (p.isPrefixOf s)) ∧ w = w' := by
  rw [prefix_take]
  cases h1 : decide (p.length ≤ s.length) with
  | false =>
    have hz : decide ((p.length : Int) ≤ (s.length : Int)) = false := decide_eq_false (by have := of_decide_eq_false h1; omega)
    have hz1 : ¬ ((p.length : Int) ≤ (s.length : Int)) := of_decide_eq_false hz
    clear h1
    go_enter Tryz.func179, Tryz.ntmps179
    go_wp2_with fail
    go_ret
    exact ⟨rfl, rfl⟩
  | true =>
    have hz : decide ((p.length : Int) ≤ (s.length : Int)) = true := decide_eq_true (by have := of_decide_eq_true h1; omega)
    have hz1 : (p.length : Int) ≤ (s.length : Int) := of_decide_eq_true hz
    have hm := ba_mid s 0 p.length
    rw [List.drop_zero] at hm
    cases h2 : (s.take p.length == p)
    all_goals
      clear h1
      go_enter Tryz.func179, Tryz.ntmps179
      go_wp2_with fail
      go_ret
      exact ⟨rfl, rfl⟩
theorem hasPrefix_any (w : World) (s p : B) : Calls Tryz.prog 113 #[S s, S p] w fun e w' => e = .returned (.bool (p.isPrefixOf s)) ∧ w = w' := by
  have H := Lib.hid (hasPrefixL_any w s p)
  generalize p.isPrefixOf s = r at H
  go_enter Tryz.func113, Tryz.ntmps113
  go_wp2_with (go_at_call 179; refine H.out.mono ?_; rintro e w1 ⟨rfl, rfl⟩)
  go_ret
  exact ⟨rfl, rfl⟩

theorem refAbove_any (w : World) (a b : B) : Calls Tryz.prog 105 #[S a, S b] w fun e w' => e = .returned (.bool (aboveB a b)) ∧ w = w' := by
  rw [above_eq]
  cases h1 : decide (a.length < b.length) with
  | false =>
    have hz : decide ((a.length : Int) < (b.length : Int)) = false := decide_eq_false (by have := of_decide_eq_false h1; omega)
    have hz1 : ¬ ((a.length : Int) < (b.length : Int)) := of_decide_eq_false hz
    clear h1
    go_enter Tryz.func105, Tryz.ntmps105
    go_wp2_with fail
    go_ret
    exact ⟨rfl, rfl⟩
  | true =>
    have hlt : a.length < b.length := of_decide_eq_true h1
    have hz : decide ((a.length : Int) < (b.length : Int)) = true := decide_eq_true (by omega)
    have hz2 : (a.length : Int) ≤ (b.length : Int) := by omega
    have hz3 : (a.length : Int) < (b.length : Int) := by omega
    obtain ⟨c, hc⟩ : ∃ c, b[a.length]? = some c := ⟨_, List.getElem?_eq_getElem hlt⟩
    have hg := ba_get hc
    have hm := ba_mid b 0 a.length
    rw [List.drop_zero] at hm
    rw [hc]
    clear hc h1
    cases h2 : (b.take a.length == a) with
    | false =>
      go_enter Tryz.func105, Tryz.ntmps105
      go_wp2_with fail
      go_ret
      exact ⟨rfl, rfl⟩
    | true =>
      have hcc : ((c.toNat : Int) == 47) = (some c == some 47) := by
        rw [Bool.eq_iff_iff]
        simp only [beq_iff_eq, Option.some.injEq]
        constructor
        · intro h
          have h1 : c.toNat = 47 := by omega
          exact UInt8.toNat_inj.1 (h1.trans (by decide))
        · intro h
          rw [h]
          rfl
      cases h3 : (some c == some (47 : UInt8))
      all_goals
        rw [h3] at hcc
        clear h3
        go_enter Tryz.func105, Tryz.ntmps105
        go_wp2_with fail
        go_ret
        exact ⟨rfl, rfl⟩
end Go.Proofs.YtnmhaipjfpongacGreatDoor

namespace Go.Proofs.YtnmhaipjfpongacGreatDoor
open Go.ChangeShapes Go.WideShapes Go.ChangeAt Go.RowKit
open Go.MapKept (Stamped)
open Go.ChangeMaps (setBlock)

/-- An error by its number; 0: none. -/
def errC (P : Nat → Addr) (c : Nat) : Value := if c = 0 then .nilIface else errV (P (c - 1))

def keyB : Value → B
  | .string s => s.data.toList
  | _ => []

def near (p s : B) : Bool := aboveB p s || aboveB s p

theorem clash_of {es : Array MapEntry} {L : FL} {p : B} (hp : (es.toList.map fun e => (e.key, e.val)).Perm (L.map fun q => (S q.1, S q.2))) : (es.toList.any fun e => near p (keyB e.key)) = clash L p := by
  have h1 : (es.toList.map fun e => keyB e.key).Perm (L.map (·.1)) := by
    have h1 := hp.map (fun q : Value × Value => keyB q.1)
    rw [List.map_map, List.map_map] at h1
    have e2 : ((fun q : Value × Value => keyB q.1) ∘ fun p : B × B => (S p.1, S p.2)) = (·.1) := by
      funext q
      simp [keyB]
    rw [e2] at h1
    exact h1
  have e1 : (es.toList.any fun e => near p (keyB e.key)) = (es.toList.map fun e => keyB e.key).any (near p) := by rw [List.any_map]; rfl
  have e2 : clash L p = (L.map (·.1)).any (near p) := by rw [List.any_map]; rfl
  rw [e1, e2, Bool.eq_iff_iff, List.any_eq_true, List.any_eq_true]
  constructor
  · rintro ⟨x, hx, h⟩; exact ⟨x, h1.mem_iff.1 hx, h⟩
  · rintro ⟨x, hx, h⟩; exact ⟨x, h1.mem_iff.2 hx, h⟩

theorem keyOf_entry {es : Array MapEntry} {L : FL} (hp : (es.toList.map fun e => (e.key, e.val)).Perm (L.map fun q => (S q.1, S q.2))) {e : MapEntry} (he : e ∈ es.toList) : ∃ q ∈ L, e.key = S q.1 ∧ e.val = S q.2 := by
  have := hp.mem_iff.1 (List.mem_map.2 ⟨e, he, rfl⟩)
  obtain ⟨q, hq, e1⟩ := List.mem_map.1 this
  exact ⟨q, hq, (Prod.mk.inj e1).1.symm, (Prod.mk.inj e1).2.symm⟩

theorem ba_slash (a : B) : ((⟨a.toArray⟩ : ByteArray) ++ ⟨#[47]⟩) = ⟨(a ++ [47]).toArray⟩ := by
  rw [show (⟨#[47]⟩ : ByteArray) = ⟨([47] : B).toArray⟩ from rfl]
  exact ba_app a [47]

/-- A step of a range over a map: the world behind it is opaque. -/
theorem next_step {P : Program} {w0 w : World} (hx : Ext w0 w) {ty : TypeId} {r bm clock : Nat} (hr0 : w0.heap.size ≤ r) {seen : Array Nat} {es : Array MapEntry} (hr : w.heap[r]? = some (.mapIter (some bm) clock seen clock)) (hb : w.heap[bm]? = some (.map es clock)) (hbr : bm ≠ r) (hst : Stamped es clock) :
    ((leftOf es seen).size = 0 ∧ (Instr.next (.pointer (some ⟨r, 0, none⟩)) false ty).run P w = .ok (.tuple #[.bool false]) w) ∨
    ∃ e ∈ (leftOf es seen).toList, ∃ w1 : World, Ext w0 w1 ∧ w1.heap[r]? = some (.mapIter (some bm) clock (seen.push e.born) clock) ∧ w1.heap[bm]? = some (.map es clock) ∧
      (Instr.next (.pointer (some ⟨r, 0, none⟩)) false ty).run P w = .ok (.tuple #[.bool true, e.key, e.val]) w1 ∧ (Instr.entry (.pointer (some ⟨r, 0, none⟩))).run P w1 = .ok (.tuple #[e.key, e.val]) w1 := by
  rcases run_next_at (P := P) w ty r bm clock clock seen es clock hr hb hst.1 (Nat.le_refl _) with h | ⟨e, he, w1, hw, hrun⟩
  · exact .inl h
  · have hx1 : Ext w0 w1 := by rcases hw with rfl | rfl; exact hx; exact hx.thenDrew
    have hh1 : w1.heap = w.heap := by rcases hw with rfl | rfl <;> rfl
    have hlr : r < w1.heap.size := by rw [hh1]; exact lt_of_heap hr
    have hr1 : (setBlock w1 r (.mapIter (some bm) clock (seen.push e.born) clock)).heap[r]? = some (.mapIter (some bm) clock (seen.push e.born) clock) := by
      simp [setBlock, hlr]
    have hb1 : (setBlock w1 r (.mapIter (some bm) clock (seen.push e.born) clock)).heap[bm]? = some (.map es clock) := by
      have : w1.heap[bm]? = some (.map es clock) := by rw [hh1]; exact hb
      simp only [setBlock]
      rw [Array.getElem?_setIfInBounds_ne (Ne.symm hbr)]
      exact this
    refine .inr ⟨e, he, _, ?_, hr1, hb1, hrun, run_entry_at _ r bm clock seen es clock e hr1 hb1 (mem_left he).1 hst.2.1⟩
    exact hx1.trans (only_setBlock w1 r _) (fun _ _ h => h) (fun i hi h => absurd h (by omega))

theorem iterSeen_of {w : World} {r : Nat} {a : Option Nat} {b c : Nat} {s : Array Nat} (h : w.heap[r]? = some (.mapIter a b s c)) : w.iterSeen r = s := by
  unfold World.iterSeen
  rw [h]

def PutIs (w : World) (P : Nat → Addr) (b mb : Nat) (L : FL) (p x : B) (e : Ending) (w' : World) : Prop :=
  e = .returned (errC P (putCode L p x)) ∧ TreeAt w' b mb (putT L p x) ∧ Only (fun i => i = mb) w w'

theorem PutIs.fails {w w' : World} {P : Nat → Addr} {b mb : Nat} {L : FL} {p x : B} {c : Nat} (h : TreeAt w b mb L) (hc : putCode L p x = c) (h0 : c ≠ 0) (ho : Ext w w') : PutIs w P b mb L p x (.returned (errV (P (c - 1)))) w' := by
  refine ⟨by rw [hc]; unfold errC; rw [if_neg h0], ?_, Only.of_ext ho⟩
  have : putT L p x = L := by unfold putT; rw [hc, if_neg h0]
  rw [this]
  exact h.ext ho

set_option maxRecDepth 100000 in
set_option maxHeartbeats 1000000 in
theorem put_bad (w : World) (P : Nat → Addr) (b mb : Nat) (L : FL) (p x : B) (h : TreeAt w b mb L) (hs : Errs w P [1, 3, 6, 7]) (hm : HasMax w) (hp : p.length ≤ 999999) (hk : pathOk p = false) :
    Calls Tryz.prog 38 #[.pointer (some ⟨b, 0, none⟩), S p, S x] w (PutIs w P b mb L p x) := by
  have HC := check_any w p (P 3) (by omega) hm (hs.var 3 _ (by decide) rfl)
  rw [hk, if_neg (by decide)] at HC
  have HC := Lib.hid HC
  have hcode : putCode L p x = 4 := by unfold putCode; rw [hk, if_neg (by decide)]
  have HK := Lib.hid hcode
  have H := Lib.hid h
  clear h hs hm hp hk hcode
  go_enter Tryz.func38, Tryz.ntmps38
  go_wp2_with (go_at_call 112; refine HC.out.mono ?_; rintro e w1 ⟨rfl, ho⟩)
  go_ret
  exact PutIs.fails H.out HK.out (by decide) ho

set_option maxRecDepth 100000 in
set_option maxHeartbeats 1000000 in
theorem put_long (w : World) (P : Nat → Addr) (b mb : Nat) (L : FL) (p x : B) (h : TreeAt w b mb L) (hs : Errs w P [1, 3, 6, 7]) (hm : HasMax w) (hp : p.length ≤ 999999) (hk : pathOk p = true) (hx : 2000 < x.length) :
    Calls Tryz.prog 38 #[.pointer (some ⟨b, 0, none⟩), S p, S x] w (PutIs w P b mb L p x) := by
  have HC := check_any w p (P 3) (by omega) hm (hs.var 3 _ (by decide) rfl)
  rw [hk, if_pos rfl] at HC
  have HC := Lib.hid HC
  have hcode : putCode L p x = 2 := by unfold putCode; rw [hk, if_pos rfl, if_pos hx]
  have HK := Lib.hid hcode
  have H := Lib.hid h
  have HE := Lib.hid (hs.var 1 _ (by decide) rfl)
  have hz : (2000 : Int) < (x.length : Int) := by omega
  clear h hs hm hp hk hcode hx
  go_enter Tryz.func38, Tryz.ntmps38
  go_wp2_with fail
  refine HC.out.mono ?_
  rintro e w1 ⟨rfl, ho⟩
  have hE := ho.cellOf HE.out (fun h => h)
  have HO := Lib.hid ho
  clear ho
  go_wp2_with fail
  go_ret
  exact PutIs.fails H.out HK.out (by decide) HO.out
end Go.Proofs.YtnmhaipjfpongacGreatDoor

namespace Go.Proofs.YtnmhaipjfpongacGreatDoor
open Go.ChangeShapes Go.WideShapes Go.ChangeAt Go.RowKit

abbrev unitR : Value → Option (DataW Unit × List MemPlace) := fun _ => some (.nil, [])
def keyStr : Value → B
  | .string s => s.data.toList
  | _ => []

theorem perm_insert {H : Type} (x : Lit × DataW H) : ∀ l, (DataW.insert x l).Perm (x :: l)
  | [] => List.Perm.refl _
  | y :: r => by
    unfold DataW.insert
    split
    · exact List.Perm.refl _
    · exact ((perm_insert x r).cons y).trans (List.Perm.swap _ _ _)

theorem perm_inserts {H : Type} : ∀ l : List (Lit × DataW H), (l.foldr DataW.insert []).Perm l
  | [] => List.Perm.refl _
  | x :: r => (perm_insert x _).trans ((perm_inserts r).cons x)

/-- The kit's word for a map of strings, from mine. -/
theorem ownsMap_of {P : Program} {k : TypeId} (hk : P.underlying k = some .string) {w : World} {mb : Nat} {L : FL} (h : KMap .string S S w mb L) (hl : ∀ q ∈ L, q.1.length ≤ 1000000) (hn : L.length ≤ 1000000) :
    ∃ D0 : DataW Unit, w.ownsMap P k unitR mb L.length D0 ∧ Maps.size D0 = L.length ∧ (strKeys D0).Perm (L.map (·.1)) := by
  obtain ⟨es, clock, hb, hp, _, _, hst⟩ := h
  have hsz : es.size = L.length := by simpa using hp.length_eq
  have hkey : ∀ e ∈ es.toList, ∃ x : B, e.key = S x ∧ x.length ≤ 1000000 := fun e he => by
    have := hp.mem_iff.1 (List.mem_map.2 ⟨e, he, rfl⟩)
    obtain ⟨q, hq, e1⟩ := List.mem_map.1 this
    exact ⟨q.1, (Prod.mk.inj e1).1.symm, hl q hq⟩
  have hrd : ∀ e ∈ es.toList, WideElems.rd P k unitR e = some (.string (keyStr e.key), .nil) := fun e he => by
    obtain ⟨x, hx, hxl⟩ := hkey e he
    have hm : (⟨x.toArray⟩ : ByteArray).size ≤ maxLen := by
      show x.toArray.size ≤ maxLen
      rw [List.size_toArray]
      unfold maxLen
      omega
    unfold WideElems.rd
    rw [hx]
    simp [keyOf, hk, mapKey, keyStr, hm]
  have hrg : es.toList.map (WideElems.rg P k unitR) = es.toList.map fun e => ((.string (keyStr e.key), .nil) : Lit × DataW Unit) :=
    List.map_congr_left fun e he => by unfold WideElems.rg; rw [hrd e he]; rfl
  refine ⟨.map ((es.toList.map (WideElems.rg P k unitR)).foldr DataW.insert []), ⟨es, clock, hb, ⟨?_, hst, fun e he => ⟨_, hrd e he⟩⟩, by omega, rfl⟩, ?_, ?_⟩
  · unfold maxLen; omega
  · show (List.foldr DataW.insert [] _).length = _
    rw [(perm_inserts _).length_eq]
    simpa using hsz
  · show (List.map _ (List.foldr DataW.insert [] _)).Perm _
    refine ((perm_inserts _).map _).trans ?_
    rw [hrg, List.map_map]
    have h1 := hp.map (fun q : Value × Value => keyStr q.1)
    rw [List.map_map, List.map_map] at h1
    have e2 : ((fun q : Value × Value => keyStr q.1) ∘ fun p : B × B => (S p.1, S p.2)) = (·.1) := by
      funext q
      simp [keyStr]
    rw [e2] at h1
    exact h1

theorem sortedKeys_any (w : World) (mb : Nat) (L : FL) (h : KMap .string S S w mb L) (hr : Rising L) (hl : ∀ q ∈ L, q.1.length ≤ 1000000) (hn : L.length ≤ 1000000) :
    Calls Tryz.prog 116 #[.func (.func 183) #[] #[.pointer (some ⟨w.heap.size, 0, none⟩)]] (w.alloc (.cells #[.map (some mb)] 171)) fun e w' =>
      ∃ v, e = .returned v ∧ Rd S w' v (L.map (·.1)) ∧ Ext w w' ∧ ∀ k, v.ownBlock = some k → ∃ cur, w'.heap[k]? = some (.cells cur 9 (0, 0)) := by
  obtain ⟨D0, hown, hsz, hperm⟩ := ownsMap_of (P := Tryz.prog) (k := 9) Tryz.underlying9 h hl hn
  have := Tryz.slices_Sorted_keys_116_117 mb _ D0 _ w hown (by rw [hsz]; unfold maxLen; omega) (by rw [hsz]; omega)
  refine (callsIn_wide.1 this).mono ?_
  rintro e w' ⟨v, ss, rfl, hss, hrow, _, hbel⟩
  have e1 := sorted_keys hr (hss.trans hperm)
  rw [e1] at hrow
  have e2 : ss.length = (L.map (·.1)).length := by rw [(hss.trans hperm).length_eq]
  rw [e2] at hrow
  refine ⟨v, rfl, Rd.of_row hrow, (Only.alloc _ _ _).then (Only.of_below hbel), fun k hk => ?_⟩
  rcases hrow.2 with ⟨rfl, _⟩ | ⟨g, cap, cur, rfl, _, hh, _⟩
  · cases hk
  · cases hk
    exact ⟨cur, hh⟩

theorem paths_any (w : World) (b mb : Nat) (L : FL) (h : TreeAt w b mb L) (hr : Rising L) (hl : ∀ q ∈ L, q.1.length ≤ 1000000) (hn : L.length ≤ 1000000) :
    Calls Tryz.prog 41 #[.pointer (some ⟨b, 0, none⟩)] w fun e w' => ∃ v, e = .returned v ∧ Rd S w' v (L.map (·.1)) ∧ Ext w w' ∧ ∀ k, v.ownBlock = some k → ∃ cur, w'.heap[k]? = some (.cells cur 9 (0, 0)) := by
  have c0 := h.mapCell
  have H1 := Lib.hid (callsIn_wide.1 (Tryz.maps_Keys_117 (some mb) w))
  have H2 := Lib.hid (sortedKeys_any w mb L h.map hr hl hn)
  clear h hr hl hn
  go_enter Tryz.func41, Tryz.ntmps41
  go_wp2_with (go_at_call 117; refine H1.out.mono ?_; rintro e w1 ⟨rfl, rfl⟩)
  go_wp2_with (go_at_call 116; refine H2.out.mono ?_; rintro e w1 ⟨v, rfl, hv, ho, ht⟩)
  go_ret
  exact ⟨v, rfl, hv, ho, ht⟩
end Go.Proofs.YtnmhaipjfpongacGreatDoor

namespace Go.Proofs.YtnmhaipjfpongacGreatDoor
open Go.ChangeShapes Go.WideShapes Go.ChangeAt Go.RowKit

theorem PutIs.done {w W w' : World} {P : Nat → Addr} {b mb : Nat} {L : FL} {p x : B} (_ : TreeAt w b mb L) (hr : Rising L) (hc : putCode L p x = 0) (hE : Ext w W) (hW : TreeAt W b mb L) (hm : KMap .string S S w' mb ((p, x) :: L.filter fun q => !(q.1 == p))) (ho : Only (fun i => i = mb) W w') :
    PutIs w P b mb L p x (.returned .nilIface) w' := by
  have e1 : putT L p x = setT L p x := by unfold putT; rw [if_pos hc]
  refine ⟨by rw [hc]; rfl, ?_, Only.after hE ho⟩
  rw [e1]
  exact hW.stores ho (hm.perm (set_perm hr p x))

set_option maxRecDepth 100000 in
set_option maxHeartbeats 4000000 in
theorem put_main (w : World) (P : Nat → Addr) (b mb : Nat) (L : FL) (p x : B) (h : TreeAt w b mb L) (hf : Fits L) (hs : Errs w P [1, 3, 6, 7]) (hm : HasMax w) (hp : p.length ≤ 999999) (hk : pathOk p = true) (hx : ¬ 2000 < x.length) (hq : ∀ q ∈ L, q.1.length ≤ 999999) :
    Calls Tryz.prog 38 #[.pointer (some ⟨b, 0, none⟩), S p, S x] w (PutIs w P b mb L p x) := by
  have HC := check_any w p (P 3) (by omega) hm (hs.var 3 _ (by decide) rfl)
  rw [hk, if_pos rfl] at HC
  have HC := Lib.hid HC
  have hcode : putCode L p x = if clash L p then 7 else if (L.lookup p).isNone && decide (60 ≤ L.length) then 8 else 0 := by unfold putCode; rw [hk, if_pos rfl, if_neg hx]
  have HK := Lib.hid hcode
  have H := Lib.hid h
  have HE := Lib.hid (hs.var 6 _ (by decide) rfl)
  have HF := Lib.hid (hs.var 7 _ (by decide) rfl)
  have HQ := Lib.hid hq
  have HFew := Lib.hid hf.few
  have hz : ¬ (2000 : Int) < (x.length : Int) := by omega
  have hbp := ba_slash p
  have hlp : ¬ 9223372036854775807 < p.length + 1 := by omega
  have hf := Lib.hid hf
  clear h hs hm hp hk hcode hx hq
  go_enter Tryz.func38, Tryz.ntmps38
  go_wp2_with fail
  refine HC.out.mono ?_
  rintro e w1 ⟨rfl, ho⟩
  have h1 := H.out.ext ho
  have c0 := h1.mapCell
  obtain ⟨es, clock, hb, hpm, _, _, hst⟩ := h1.map
  have hrg := run_range_map (P := Tryz.prog) w1 171 9 9 mb es clock Tryz.underlying171 hb
  have H1 := Lib.hid h1
  have HB := Lib.hid hb
  have HP := Lib.hid hpm
  have HS := Lib.hid hst
  have HO := Lib.hid ho
  clear h1 hb hpm hst ho
  go_wp2_with fail
  have hmr : mb ≠ w1.heap.size := Nat.ne_of_lt (lt_of_heap HB.out)
  go_loopw [] (fun w' => ∃ seen : Array Nat, Hid (Ext w1 w') ∧ Hid (w'.heap[w1.heap.size]? = some (.mapIter (some mb) clock seen clock)) ∧ Hid (∀ y ∈ es.toList, seen.contains y.born = true → near p (keyB y.key) = false)) (fun w' => (leftOf es (w'.iterSeen w1.heap.size)).size)
  case atStart => exact ⟨#[], Lib.hid (Only.alloc _ _ _), Lib.hid (MapKept.heap_alloc w1 _).1, Lib.hid fun y _ h => by simp at h⟩
  case round =>
    obtain ⟨seen, HX, HR, HN⟩ := hrel
    have law := next_step (P := Tryz.prog) (ty := 0) HX.out (Nat.le_refl _) HR.out (HX.out.heapOf HB.out (fun h => h)) hmr HS.out
    rcases law with ⟨h0, hrun⟩ | ⟨e, he, w3, hx3, hr3, hb3, hrun, hen⟩
    · have hno : clash L p = false := by
        rw [← clash_of HP.out, List.any_eq_false]
        intro y hy
        rw [HN.out y hy (all_seen es seen h0 y hy)]
        decide
      have hcode := HK.out
      rw [hno, if_neg (by decide)] at hcode
      have hEW : Ext w wr := HO.out.then HX.out
      have hW : TreeAt wr b mb L := H.out.ext hEW
      clear h0 HN hno HR
      have c0W := hW.mapCell
      have hlook := KMap.look (P := Tryz.prog) keyOk_str hW.map Tryz.underlying171 Tryz.underlying9 (zeroStr wr) p
      have hlen := fun ty => MapAt.len (P := Tryz.prog) hW.map Tryz.underlying171 ty
      simp only [List.length_map] at hlen
      have hFull := hEW.cellOf HF.out (fun h => h)
      have HW := Lib.hid hW
      have HEW := Lib.hid hEW
      clear hW hEW hrg c0 HX
      cases hl : L.lookup p with
      | none =>
        simp only [hl] at hlook
        rw [hl] at hcode
        by_cases hfull : 60 ≤ L.length
        · have hc8 : putCode L p x = 8 := by rw [hcode, if_pos (by simp [hfull])]
          have HC8 := Lib.hid hc8
          have hfz : (60 : Int) ≤ (L.length : Int) := by omega
          clear hcode hc8 hl hfull
          go_wp2_with fail
          go_ret
          exact PutIs.fails H.out HC8.out (by decide) HEW.out
        · have hc0 : putCode L p x = 0 := by rw [hcode, if_neg (by simp [hfull])]
          have HC0 := Lib.hid hc0
          have hfz : ¬ (60 : Int) ≤ (L.length : Int) := by omega
          clear hcode hc0 hl hfull
          obtain ⟨w4, hrun4, hm4, ho4, _⟩ := KMap.store (P := Tryz.prog) keyOk_str HW.out.map Tryz.underlying171 Tryz.underlying9 p x
          go_wp2_with fail
          go_ret
          exact PutIs.done H.out hf.out.rising HC0.out HEW.out HW.out hm4 ho4
      | some y =>
        simp only [hl] at hlook
        rw [hl] at hcode
        have hc0 : putCode L p x = 0 := by rw [hcode, if_neg (by simp)]
        have HC0 := Lib.hid hc0
        clear hcode hc0 hl
        obtain ⟨w4, hrun4, hm4, ho4, _⟩ := KMap.store (P := Tryz.prog) keyOk_str HW.out.map Tryz.underlying171 Tryz.underlying9 p x
        go_wp2_with fail
        go_ret
        exact PutIs.done H.out hf.out.rising HC0.out HEW.out HW.out hm4 ho4
    · obtain ⟨q, hqL, hqk, hqv⟩ := keyOf_entry HP.out (mem_left he).1
      have hql := HQ.out q hqL
      rw [hqk, hqv] at hrun hen
      have HE2 := Lib.hid he
      have HQK := Lib.hid hqk
      generalize q.1 = s at hrun hen hql HQK
      generalize q.2 = sv at hrun hen
      have hbs := ba_slash s
      have hls : ¬ 9223372036854775807 < s.length + 1 := by omega
      have hqc : near p s = true → clash L p = true := fun h => by
        rw [← clash_of HP.out, List.any_eq_true]
        exact ⟨e, (mem_left HE2.out).1, by rw [HQK.out]; simpa [keyB] using h⟩
      have HQC := Lib.hid hqc
      have HP1 := fun W => hasPrefix_any W s (p ++ [47])
      have HP2 := fun W => hasPrefix_any W p (s ++ [47])
      have hnear : near p s = ((p ++ [47]).isPrefixOf s || (s ++ [47]).isPrefixOf p) := rfl
      have HNE := Lib.hid hnear
      have HX3 := Lib.hid hx3
      have HR3 := Lib.hid hr3
      have hEW : Ext w w3 := HO.out.then hx3
      clear he hqk hqv hx3 hr3 hb3 hqL hql hqc hnear
      have hExist := hEW.cellOf HE.out (fun h => h)
      have HEW := Lib.hid hEW
      clear hEW
      generalize (p ++ [47]).isPrefixOf s = r1 at HP1 HNE
      generalize (s ++ [47]).isPrefixOf p = r2 at HP2 HNE
      have HP1 := Lib.hid HP1
      have HP2 := Lib.hid HP2
      cases r1 with
      | true =>
        go_wp2_with fail
        refine (HP1.out _).mono ?_
        rintro e1 w4 ⟨rfl, rfl⟩
        go_wp2_with fail
        go_ret
        exact PutIs.fails H.out (by rw [HK.out, if_pos (HQC.out HNE.out)]) (by decide) HEW.out
      | false =>
        cases r2 with
        | true =>
          go_wp2_with fail
          refine (HP1.out _).mono ?_
          rintro e1 w4 ⟨rfl, rfl⟩
          go_wp2_with fail
          refine (HP2.out _).mono ?_
          rintro e1 w4 ⟨rfl, rfl⟩
          go_wp2_with fail
          go_ret
          exact PutIs.fails H.out (by rw [HK.out, if_pos (HQC.out HNE.out)]) (by decide) HEW.out
        | false =>
          go_wp2_with fail
          refine (HP1.out _).mono ?_
          rintro e1 w4 ⟨rfl, rfl⟩
          go_wp2_with fail
          refine (HP2.out _).mono ?_
          rintro e1 w4 ⟨rfl, rfl⟩
          go_wp2_with fail
          go_roundw
          case rel =>
            refine ⟨seen.push e.born, HX3, HR3, Lib.hid fun y hy hc => ?_⟩
            rw [contains_push] at hc
            rcases Bool.or_eq_true _ _ ▸ hc with h1 | h1
            · exact HN.out y hy h1
            · have : y = e := born_inj HS.out.2.1 hy (mem_left HE2.out).1 (beq_iff_eq.1 h1)
              subst this
              rw [HQK.out]
              simpa [keyB] using HNE.out
          case measure =>
            rw [iterSeen_of HR3.out, iterSeen_of HR.out]
            exact left_shrinks es seen e HE2.out
theorem treePut_any (w : World) (P : Nat → Addr) (b mb : Nat) (L : FL) (p x : B) (h : TreeAt w b mb L) (hf : Fits L) (hs : Errs w P [1, 3, 6, 7]) (hm : HasMax w) (hp : p.length ≤ 999999) (hq : ∀ q ∈ L, q.1.length ≤ 999999) :
    Calls Tryz.prog 38 #[.pointer (some ⟨b, 0, none⟩), S p, S x] w (PutIs w P b mb L p x) := by
  cases hk : pathOk p with
  | false => exact put_bad w P b mb L p x h hs hm hp hk
  | true =>
    by_cases hx : 2000 < x.length
    · exact put_long w P b mb L p x h hs hm hp hk hx
    · exact put_main w P b mb L p x h hf hs hm hp hk hx hq
end Go.Proofs.YtnmhaipjfpongacGreatDoor

namespace Go.Proofs.YtnmhaipjfpongacGreatDoor
open Go.ChangeShapes Go.WideShapes Go.ChangeAt Go.RowKit

abbrev encF (p : B × B) : List Value := [S p.1, S p.2]
theorem encF_len (p : B × B) : (encF p).length = 2 := rfl
theorem encF_one (p : B × B) : ∀ u ∈ encF p, u.oneCell' = true := by
  intro u hu
  rcases List.mem_cons.1 hu with rfl | hu
  · rfl
  · rcases List.mem_cons.1 hu with rfl | hu
    · rfl
    · cases hu
theorem infoFile : (Tryz.prog.info? 65).map (fun i => (i.zero, i.size, i.bytes)) = some (some (.agg #[.string ⟨#[]⟩, .string ⟨#[]⟩]), 2, 32) := by kernel_rfl

/-- The place of a key; -1: none. -/
def fndT (L : List (B × B)) (k : B) : Int := match L.findIdx? (fun p => p.1 == k) with | some i => (i : Int) | none => -1

theorem fndT_hit {L : List (B × B)} {k : B} {j : Nat} {p : B × B} (hp : L[j]? = some p) (hk : p.1 = k) (hb : ∀ i (q : B × B), i < j → L[i]? = some q → q.1 ≠ k) : fndT L k = (j : Int) := by
  have hj := (List.getElem?_eq_some_iff.1 hp).1
  have : L.findIdx? (fun p => p.1 == k) = some j := by
    rw [List.findIdx?_eq_some_iff_getElem]
    refine ⟨hj, ?_, fun i hi => ?_⟩
    · have := (List.getElem?_eq_some_iff.1 hp).2
      rw [this, hk]; simp
    · have := hb i L[i] hi (List.getElem?_eq_getElem (by omega))
      simpa using this
  unfold fndT
  rw [this]

theorem fndT_miss {L : List (B × B)} {k : B} (hb : ∀ (i : Nat) (q : B × B), L[i]? = some q → q.1 ≠ k) : fndT L k = -1 := by
  have : L.findIdx? (fun p => p.1 == k) = none := by
    rw [List.findIdx?_eq_none_iff]
    intro q hq
    obtain ⟨i, hi⟩ := List.getElem?_of_mem hq
    have := hb i q hi
    simpa using this
  unfold fndT
  rw [this]

theorem lookup_of_fndT {L : List (B × B)} {k : B} : (fndT L k = -1 ∧ L.lookup k = none) ∨ ∃ (j : Nat) (x : B), fndT L k = (j : Int) ∧ L[j]? = some (k, x) ∧ L.lookup k = some x := by
  induction L with
  | nil => exact .inl ⟨rfl, rfl⟩
  | cons p L ih =>
    obtain ⟨k', x⟩ := p
    by_cases h : k' = k
    · subst h
      exact .inr ⟨0, x, by simp [fndT, List.findIdx?_cons], rfl, by simp⟩
    · have h' : ¬ k = k' := fun e => h e.symm
      have hl : ((k', x) :: L).lookup k = L.lookup k := by simp [List.lookup, beq_eq_false_iff_ne.2 h']
      rw [hl]
      have hf : ((k', x) :: L).findIdx? (fun p => p.1 == k) = (L.findIdx? (fun p => p.1 == k)).map (· + 1) := by simp [List.findIdx?_cons, h]
      rcases ih with ⟨h1, h2⟩ | ⟨j, y, h1, h2, h3⟩
      · refine .inl ⟨?_, h2⟩
        unfold fndT at h1 ⊢
        rw [hf]
        cases hq : L.findIdx? (fun p => p.1 == k) with
        | none => rfl
        | some i => rw [hq] at h1; simp at h1 <;> omega
      · refine .inr ⟨j + 1, y, ?_, by simpa using h2, h3⟩
        unfold fndT at h1 ⊢
        rw [hf]
        cases hq : L.findIdx? (fun p => p.1 == k) with
        | none => rw [hq] at h1; simp at h1 <;> omega
        | some i => rw [hq] at h1; simp at h1 ⊢; omega

set_option maxHeartbeats 1000000 in
theorem findT_any (w : World) (m : Nat) (slv : Value) (L : List (B × B)) (k : B) (hm : w.heap[m]? = some (.cells #[slv] 147 (0, 0))) (hr : RdS 2 encF w slv L) (hl : L.length ≤ 1000000) :
    Calls Tryz.prog 98 #[.pointer (some ⟨m, 0, none⟩), S k] w fun e w' => e = .returned (I (fndT L k)) ∧ w = w' := by
  obtain ⟨a, cap, rfl, _, _, hc⟩ := hr
  have c1 : w.cell? ⟨m, 0, none⟩ = some (.slice a L.length cap) := (cell_of_heap hm 0).trans rfl
  obtain ⟨r, hR⟩ : ∃ r, Hid (r = fndT L k) := ⟨_, Lib.hid rfl⟩
  rw [← hR.out]
  have HC := Lib.hid hc
  clear hc hm
  go_enter Tryz.func98, Tryz.ntmps98
  go_wp2_with fail
  go_loop [5] (fun i => ∃ j : Nat, j ≤ L.length ∧ i = .int .i64 j ∧ Hid (∀ i q, i < j → L[i]? = some q → q.1 ≠ k)) (fun i => L.length - (intOf i).toNat)
  case atStart => exact ⟨0, Nat.zero_le _, rfl, Lib.hid (fun i q h => absurd h (Nat.not_lt_zero _))⟩
  case round =>
    obtain ⟨j, hj, rfl, hb⟩ := hrel
    by_cases hlt : j < L.length
    · have hltz : (j : Int) < (L.length : Int) := by omega
      obtain ⟨b, off, rfl, hcell⟩ := HC.out (by intro h; rw [h] at hlt; simp at hlt)
      obtain ⟨⟨k', x⟩, hp⟩ : ∃ y, L[j]? = some y := ⟨_, List.getElem?_eq_getElem hlt⟩
      have d0 : w.cell? ⟨b, off + j * 2, none⟩ = some (S k') := hcell j _ hp 0 _ rfl
      have HP := Lib.hid hp
      clear hcell hp
      by_cases hk : k' = k
      · have HK := Lib.hid hk
        rw [hk] at d0
        clear hk
        go_wp2_with fail
        go_ret
        exact ⟨(by rw [hR.out, fndT_hit HP.out HK.out hb.out]; rfl), rfl⟩
      · have hkf : (k' == k) = false := beq_eq_false_iff_ne.2 hk
        have HK := Lib.hid hk
        clear hk
        go_wp2_with fail
        go_round
        case rel => exact ⟨j + 1, by omega, by go_num, Lib.hid (fun i q hi hq => by
          rcases Nat.lt_succ_iff_lt_or_eq.1 hi with h | rfl
          · exact hb.out i q h hq
          · rw [HP.out] at hq; cases hq; exact HK.out)⟩
        case measure => simp [intOf]; omega
    · have hltz : ¬ ((j : Int) < (L.length : Int)) := by omega
      go_wp2_with fail
      go_ret
      exact ⟨(by rw [hR.out, fndT_miss (fun i q hq => hb.out i q (by have := (List.getElem?_eq_some_iff.1 hq).1; omega) hq)]; rfl), rfl⟩


/-- 'append(l, k...)', the row the call's own, k: any elements, none too. -/
theorem wpList_appL {P : Program} {α : Type} (enc : α → List Value) (t e : TypeId) (n by_ : Nat) (z : Value) (hinfo : (P.info? e).map (fun i => (i.zero, i.size, i.bytes)) = some (some z, n, by_)) (ht : P.underlying t = some (.slice e)) (hzs : z.cells.size = n) (hn0 : 0 < n)
    (hlen : ∀ x, (enc x).length = n) (h1c : ∀ x, ∀ u ∈ enc x, u.oneCell' = true) (hby : by_ ≤ 1000)
    {ops : Array Oper} {rest : List Oper} {o : Oper} {a : Act} {Q : Exit → Act → World → Prop} (s x : Operand) (base : Nat) (v : Value) (l k : List α) (W : World) (hgd : o.guard = none)
    (ho : o.op = .call { callee := .builtin .append, args := #[s, x], argTypes := #[t, t] }) (hs : a.eval s = v) (ao : Option Addr) (m c : Nat) (hx : a.eval x = .slice ao m c) (hmk : m = k.length)
    (hsrc : (ao = none ∧ k = [] ∧ c = 0) ∨ ∃ ad, ao = some ad ∧ ∀ j u, (k.flatMap enc)[j]? = some u → W.cell? (ad.add j) = some u)
    (hrow : W.ownsRow base e n v l.length (l.flatMap enc)) (hl : l.length + k.length ≤ 1000000) (hbase : base ≤ W.heap.size)
    (hK : ∀ ao' m' cap w', m' = (l ++ k).length → w'.ownsRow base e n (.slice ao' m' cap) (l ++ k).length ((l ++ k).flatMap enc) → W.grownBy w' v.ownBlock → (∀ i, Value.ownBlock (.slice ao' m' cap) = some i → v.ownBlock = some i ∨ W.heap.size ≤ i) →
      wpList P ops Q rest (a.put o.dst (.slice ao' m' cap)) w') :
    wpList P ops Q (o :: rest) a W := by
  subst hmk
  obtain ⟨i0, hi, hz0, hz1, hz2⟩ := info_parts hinfo
  have hb : (l.length + k.length) * by_ ≤ 1000001 * 1000 := Nat.mul_le_mul (by omega) hby
  have hform : ∀ {W' : World} {v' : Value} {n' : Nat} {xs : List Value}, W'.ownsRow base e n v' n' xs → ∃ ao' cap, v' = .slice ao' n' cap := fun h => by
    rcases h.2 with ⟨rfl, rfl⟩ | ⟨g, cap, _, rfl, _⟩
    · exact ⟨none, 0, rfl⟩
    · exact ⟨_, cap, rfl⟩
  rcases hsrc with ⟨rfl, rfl, rfl⟩ | ⟨ad, rfl, hcells⟩
  · refine wpList_append_own_none hgd s x t ho base e i0 n ht hi v l.length (l.flatMap enc) hs hrow hx ?_
    obtain ⟨ao', cap, hv⟩ := hform hrow
    have hgr : W.grownBy W v.ownBlock := Only.grown (Only.refl _ W)
    rw [hv] at hrow hgr ⊢
    have e1 : l ++ [] = l := List.append_nil l
    have := hK ao' _ cap W rfl
    rw [e1] at this
    rw [hv] at this
    exact this hrow hgr (fun i h => .inl h)
  · refine wpList_plain hgd fun K hK' => ?_
    have h1 : ∀ u ∈ k.flatMap enc, u.oneCell' = true := fun u hu => by
      obtain ⟨y, _, hy⟩ := List.mem_flatMap.1 hu
      exact h1c y u hy
    obtain ⟨v', w', hr, h2, h3, _, h5⟩ := run_append_own_at (P := P) W base t o.type e i0 z n by_ ht hi hz0 hz1 hz2 hzs hn0 v l.length (l.flatMap enc) hrow ad k.length c (k.flatMap enc) (flat_len hlen k) hcells h1 (by unfold maxLen; omega) (by omega) hbase
    obtain ⟨ao', cap, rfl⟩ := hform h2
    unfold Oper.wp execOp
    simp only [ho, resolve, invoke, builtin, Sem.run_bind, Sem.run_pure, Result.andThen_ok, List.map_toArray, List.map_cons, List.map_nil, hs, hx, hr]
    have e1 : (l ++ k).length = l.length + k.length := List.length_append
    have := hK ao' _ cap w' rfl
    rw [e1, List.flatMap_append] at this
    refine hK' _ _ (this h2 h3 fun i hi' => ?_)
    rcases h5 with h5 | h5
    · exact .inl (h5 ▸ hi')
    · right
      rw [h5] at hi'
      have := Option.some.inj hi'
      omega
end Go.Proofs.YtnmhaipjfpongacGreatDoor

namespace Go.Proofs.YtnmhaipjfpongacGreatDoor
open Go.ChangeShapes Go.WideShapes Go.ChangeAt Go.RowKit

/-- The model's tree in memory. -/
structure RTree (w : World) (base m : Nat) (slv : Value) (L : FL) : Prop where
  cells : w.heap[m]? = some (.cells #[slv] 147 (0, 0))
  row : w.ownsRow base 65 2 slv L.length (L.flatMap encF)

theorem RTree.rd {w : World} {base m : Nat} {slv : Value} {L : FL} (h : RTree w base m slv L) : RdS 2 encF w slv L := RdS.of_row encF_len h.row
theorem RTree.ne {w : World} {base m : Nat} {slv : Value} {L : FL} (h : RTree w base m slv L) : ∀ i, slv.ownBlock = some i → i ≠ m := row_ne h.row h.cells (by decide)
theorem RTree.later {p : Nat → Prop} {w w' : World} {base m : Nat} {slv : Value} {L : FL} (h : RTree w base m slv L) (ho : Only p w w') (h1 : ¬ p m) (h2 : ∀ i, slv.ownBlock = some i → ¬ p i) : RTree w' base m slv L :=
  ⟨ho.heapOf h.cells h1, ho.row h.row h2⟩
theorem RTree.ext {w w' : World} {base m : Nat} {slv : Value} {L : FL} (h : RTree w base m slv L) (ho : Ext w w') : RTree w' base m slv L := h.later ho (fun h => h) (fun _ _ h => h)

/-- The blocks of the model. -/
def InR (m : Nat) (slv : Value) (i : Nat) : Prop := i = m ∨ slv.ownBlock = some i

def RDone (w : World) (base m : Nat) (slv : Value) (L : FL) (r : Value) (e : Ending) (w' : World) : Prop :=
  ∃ slv', e = .returned r ∧ RTree w' base m slv' L ∧ Only (InR m slv) w w' ∧ ∀ i, slv'.ownBlock = some i → slv.ownBlock = some i ∨ w.heap.size ≤ i

theorem RDone.same {w w' : World} {base m : Nat} {slv : Value} {L : FL} {r : Value} (h : RTree w base m slv L) (ho : Ext w w') : RDone w base m slv L r (.returned r) w' :=
  ⟨slv, rfl, h.ext ho, Only.of_ext ho, fun _ h => .inl h⟩

/-- A new row is laid into the model's cell. -/
theorem RDone.laid {w w3 : World} {base m : Nat} {slv v : Value} {L T : FL} {r : Value} (h : RTree w base m slv L) (hx : Ext w w3) (hr : w3.ownsRow base 65 2 v T.length (T.flatMap encF)) (hn : ∀ i, v.ownBlock = some i → w.heap.size ≤ i) :
    RDone w base m slv T r (.returned r) (w3.setCell ⟨m, 0, none⟩ v) := by
  have hm3 := hx.heapOf h.cells (fun h => h)
  have hs := Only.set (p := fun i => i = m) (w := w3) (a := ⟨m, 0, none⟩) v rfl
  have hlt := lt_of_heap h.cells
  refine ⟨v, rfl, ⟨(heap_setCell_same hm3 0 v).trans (by simp), hs.row hr (fun i e e1 => by have := hn i e; omega)⟩, ?_, fun i e => .inr (hn i e)⟩
  exact Only.after hx (hs.mono fun i _ e => .inl e)

theorem del_at {L : FL} {p x : B} {j : Nat} (hn : (L.map (·.1)).Nodup) (h : L[j]? = some (p, x)) : delT L p = L.take j ++ L.drop (j + 1) := by
  have hj := (List.getElem?_eq_some_iff.1 h).1
  have he := (List.getElem?_eq_some_iff.1 h).2
  have hs : L = L.take j ++ (p, x) :: L.drop (j + 1) := by
    have h1 := List.drop_eq_getElem_cons hj
    rw [he] at h1
    rw [← h1, List.take_append_drop]
  generalize L.take j = A at hs ⊢
  generalize L.drop (j + 1) = C at hs ⊢
  subst hs
  rw [List.map_append, List.map_cons, List.nodup_append] at hn
  obtain ⟨_, h2, h3⟩ := hn
  have h2' := (List.nodup_cons.1 h2).1
  unfold delT
  rw [List.filter_append, List.filter_cons_of_neg (by simp)]
  have e1 : A.filter (fun q => !(q.1 == p)) = A := List.filter_eq_self.2 fun q hq => by
    have : q.1 ≠ p := fun e => h3 q.1 (List.mem_map.2 ⟨q, hq, rfl⟩) p (.head _) e
    simpa using this
  have e2 : C.filter (fun q => !(q.1 == p)) = C := List.filter_eq_self.2 fun q hq => by
    have : q.1 ≠ p := fun e => h2' (e ▸ List.mem_map.2 ⟨q, hq, rfl⟩)
    simpa using this
  rw [e1, e2]

/-- A part of a row, as a source. -/
theorem part_src {w w' : World} {L : FL} {b off : Nat} (hc : ∀ i x, L[i]? = some x → ∀ j u, (encF x)[j]? = some u → w.cell? ⟨b, off + i * 2 + j, none⟩ = some u) (hx : Ext w w') (k n : Nat) :
    ∀ j u, (((L.drop k).take n).flatMap encF)[j]? = some u → w'.cell? ((⟨b, off + k * 2, none⟩ : Addr).add j) = some u := by
  intro j u hu
  have hlt := (List.getElem?_eq_some_iff.1 hu).1
  rw [flat_len encF_len] at hlt
  have hi : j / 2 < ((L.drop k).take n).length := by omega
  obtain ⟨y, hy⟩ : ∃ y, ((L.drop k).take n)[j / 2]? = some y := ⟨_, List.getElem?_eq_getElem hi⟩
  have hLy : L[k + j / 2]? = some y := by
    rw [List.length_take] at hi
    rw [List.getElem?_take_of_lt (by omega), List.getElem?_drop] at hy
    exact hy
  have h2 : j % 2 < (encF y).length := Nat.mod_lt _ (by decide)
  have hu2 := flat_at encF_len _ _ y hy (j % 2) _ (List.getElem?_eq_getElem h2)
  rw [show j / 2 * 2 + j % 2 = j by omega] at hu2
  rw [hu2] at hu
  cases hu
  have := hx.cellOf (hc _ y hLy (j % 2) _ (List.getElem?_eq_getElem h2)) (fun h => h)
  rw [show off + (k + j / 2) * 2 + j % 2 = off + k * 2 + j by omega] at this
  have hadd : (⟨b, off + k * 2, none⟩ : Addr).add j = ⟨b, off + k * 2 + j, none⟩ := by
    unfold Addr.add
    split
    · subst_vars; rfl
    · rfl
  rw [hadd]
  exact this

theorem take_src {w w' : World} {L : FL} {b off : Nat} (hc : ∀ i x, L[i]? = some x → ∀ j u, (encF x)[j]? = some u → w.cell? ⟨b, off + i * 2 + j, none⟩ = some u) (hx : Ext w w') (k : Nat) :
    ∀ j u, ((L.take k).flatMap encF)[j]? = some u → w'.cell? ((⟨b, off, none⟩ : Addr).add j) = some u := by
  have := part_src hc hx 0 k
  rw [List.drop_zero, Nat.zero_mul, Nat.add_zero] at this
  exact this

theorem drop_src {w w' : World} {L : FL} {b off : Nat} (hc : ∀ i x, L[i]? = some x → ∀ j u, (encF x)[j]? = some u → w.cell? ⟨b, off + i * 2 + j, none⟩ = some u) (hx : Ext w w') (k : Nat) :
    ∀ j u, ((L.drop k).flatMap encF)[j]? = some u → w'.cell? ((⟨b, off + k * 2, none⟩ : Addr).add j) = some u := by
  have := part_src hc hx k L.length
  rw [List.take_of_length_le (by rw [List.length_drop]; omega)] at this
  exact this

theorem none_src {w' : World} {L : FL} {b off k : Nat} (h : L.length ≤ k) :
    ∀ j u, ((L.drop k).flatMap encF)[j]? = some u → w'.cell? ((⟨b, off, none⟩ : Addr).add j) = some u := by
  intro j u hu
  rw [List.drop_of_length_le h] at hu
  simp at hu

theorem cut_src {w w' : World} {L : FL} {b off cap k c : Nat} (hc : ∀ i x, L[i]? = some x → ∀ j u, (encF x)[j]? = some u → w.cell? ⟨b, off + i * 2 + j, none⟩ = some u) (hx : Ext w w') (hcap : L.length ≤ cap) {ao : Option Addr}
    (h : (if cap = k then some (⟨b, off, none⟩ : Addr) else some ⟨b, off + k * 2, none⟩) = ao) :
    (ao = none ∧ L.drop k = [] ∧ c = 0) ∨ ∃ ad, ao = some ad ∧ ∀ j u, ((L.drop k).flatMap encF)[j]? = some u → w'.cell? (ad.add j) = some u := by
  by_cases hk : cap = k
  · rw [if_pos hk] at h
    exact .inr ⟨_, h.symm, none_src (by omega)⟩
  · rw [if_neg hk] at h
    exact .inr ⟨_, h.symm, drop_src hc hx k⟩

set_option maxRecDepth 100000 in
set_option maxHeartbeats 2000000 in
theorem removeM_any (w : World) (base m : Nat) (slv : Value) (L : FL) (p : B) (h : RTree w base m slv L) (hn : (L.map (·.1)).Nodup) (hl : L.length ≤ 1000) (hb : base ≤ w.heap.size) :
    Calls Tryz.prog 71 #[.pointer (some ⟨m, 0, none⟩), S p] w (RDone w base m slv (delT L p) (I (if (L.lookup p).isSome then 0 else 6))) := by
  have hfind := findT_any w m slv L p h.cells h.rd (by omega)
  rcases lookup_of_fndT (L := L) (k := p) with ⟨h1, h2⟩ | ⟨j, x, h1, h2, h3⟩
  · have e1 : delT L p = L := filter_of_lookup_none h2
    rw [e1, h2]
    rw [h1] at hfind
    have HF := Lib.hid hfind
    have H := Lib.hid h
    clear hfind h1 h2 e1 h hn
    go_enter Tryz.func71, Tryz.ntmps71
    go_wp2_with (go_at_call 98; refine HF.out.mono ?_; rintro e w1 ⟨rfl, rfl⟩)
    go_ret
    exact RDone.same H.out (Only.refl _ _)
  · rw [h3]
    rw [h1] at hfind
    have hT := del_at hn h2
    obtain ⟨T, HT⟩ : ∃ T, Hid (T = delT L p) := ⟨_, Lib.hid rfl⟩
    rw [← HT.out] at hT ⊢
    have hjl := (List.getElem?_eq_some_iff.1 h2).1
    have hj : (j : Int) < (L.length : Int) := by omega
    have hj0 : ¬ ((j : Int) < 0) := by omega
    obtain ⟨a, cap, rfl, hcap, _, hc⟩ := h.rd
    obtain ⟨b, off, rfl, hcell⟩ := hc (by rintro rfl; simp at h2)
    have c1 : w.cell? ⟨m, 0, none⟩ = some (.slice (some ⟨b, off, none⟩) L.length cap) := (cell_of_heap h.cells 0).trans rfl
    have HF := Lib.hid hfind
    have H := Lib.hid h
    have HCL := Lib.hid hcell
    have HTT := Lib.hid hT
    have hlt1 : (L.take j).length = j := by rw [List.length_take]; omega
    have hld : (L.drop (j + 1)).length = L.length - (j + 1) := List.length_drop ..
    have hcz : (L.length : Int) ≤ (cap : Int) := by omega
    clear hfind h1 h2 h3 h hc hcell hn hT
    have hjc : (j : Int) ≤ (cap : Int) := by omega
    have hj1 : (j : Int) + 1 ≤ (L.length : Int) := by omega
    go_enter Tryz.func71, Tryz.ntmps71
    go_wp2_with (first | (go_at_call 98; refine HF.out.mono ?_; rintro e w1 ⟨rfl, rfl⟩) | (at_builtin; refine wpList_appL encF 22 65 2 32 _ infoFile Tryz.underlying22 rfl (by decide) encF_len encF_one (by decide) (.tmp 12) (.tmp 18) base (.slice none 0 0) [] (L.take j) w rfl rfl rfl _ _ _ rfl hlt1.symm (.inr ⟨_, rfl, take_src HCL.out (Only.refl _ w) j⟩) (World.ownsRow_nil _ _ _ _) (by simp; omega) hb ?_; intro a1 m1 cap1 w1 hm1 hr1 hg1 ha1; have hx1 : Ext w w1 := (Only.of_grown hg1).mono (fun _ _ h => by cases h); have c2 : w1.cell? ⟨m, 0, none⟩ = some (.slice (some ⟨b, off, none⟩) L.length cap) := hx1.cellOf c1 (fun h => h); have HR1 := Lib.hid hr1; have HX1 := Lib.hid hx1; have HA1 := Lib.hid ha1; clear hr1 hg1 ha1 hm1 hx1) | (at_builtin; generalize hAO : (if cap = j + 1 then some (⟨b, off, none⟩ : Addr) else some ⟨b, off + (j + 1) * 2, none⟩) = ao; refine wpList_appL encF 22 65 2 32 _ infoFile Tryz.underlying22 rfl (by decide) encF_len encF_one (by decide) (.tmp 21) (.tmp 28) base (.slice a1 m1 cap1) ([] ++ L.take j) (L.drop (j + 1)) w1 rfl rfl rfl _ _ _ rfl hld.symm (cut_src HCL.out HX1.out hcap hAO) HR1.out (by simp; omega) (Nat.le_trans hb HX1.out.size) ?_; intro a2 m2 cap2 w2 hm2 hr2 hg2 ha2; have hx2 : Ext w w2 := HX1.out.trans (Only.of_grown hg2) (fun _ _ h => h) (fun i hi h => by rcases HA1.out i h with h | h; cases h; omega); have HR2 := Lib.hid hr2; have HX2 := Lib.hid hx2; have HA2 := Lib.hid ha2; have HM2 := Lib.hid hm2; have hf2 := free_of_heap (hx2.heapOf H.out.cells (fun h => h)) 0; have c3 := (cell_of_heap (hx2.heapOf H.out.cells (fun h => h)) 0).trans rfl; clear hr2 hg2 ha2 hm2 hx2 hAO))
    go_ret
    have hT2 : [] ++ L.take j ++ L.drop (j + 1) = T := by rw [HTT.out]; rfl
    have hr2 := HR2.out
    rw [hT2] at hr2
    exact RDone.laid H.out HX2.out hr2 fun i e => by
      rcases HA2.out i e with h | h
      · rcases HA1.out i h with h | h
        · cases h
        · exact h
      · exact Nat.le_trans HX1.out.size h
end Go.Proofs.YtnmhaipjfpongacGreatDoor

namespace Go.Proofs.YtnmhaipjfpongacGreatDoor
open Go.ChangeShapes Go.WideShapes Go.ChangeAt Go.RowKit

theorem clash_false {L : FL} {p : B} (h : clash L p = false) {j : Nat} {q : B × B} (hq : L[j]? = some q) : aboveB p q.1 = false ∧ aboveB q.1 p = false := by
  have := List.any_eq_false.1 h q (List.mem_of_getElem? hq)
  simpa using this

theorem clash_none {L : FL} {p : B} (h : clash L p = true) : ¬ ∀ i q, i < L.length → L[i]? = some q → near p q.1 = false := by
  intro hn
  obtain ⟨q, hq, h1⟩ := List.any_eq_true.1 h
  obtain ⟨i, hi⟩ := List.getElem?_of_mem hq
  have := hn i q (List.getElem?_eq_some_iff.1 hi).1 hi
  unfold near at this
  rw [this] at h1
  cases h1

set_option maxRecDepth 100000 in
set_option maxHeartbeats 1000000 in
theorem putM_bad (w : World) (base m : Nat) (slv : Value) (L : FL) (p x : B) (h : RTree w base m slv L) (hp : p.length ≤ 999999) (hk : pathOk p = false) :
    Calls Tryz.prog 30 #[.pointer (some ⟨m, 0, none⟩), S p, S x] w (RDone w base m slv (putT L p x) (I (putCode L p x))) := by
  have HC := isPath_any w p hp
  rw [hk] at HC
  have HC := Lib.hid HC
  have hcode : putCode L p x = 4 := by unfold putCode; rw [hk, if_neg (by decide)]
  have hT : putT L p x = L := by unfold putT; rw [hcode, if_neg (by decide)]
  rw [hcode, hT]
  have H := Lib.hid h
  clear h hp hk hcode hT
  go_enter Tryz.func30, Tryz.ntmps30
  go_wp2_with (go_at_call 104; refine HC.out.mono ?_; rintro e w1 ⟨rfl, ho⟩)
  go_ret
  exact RDone.same H.out ho

set_option maxRecDepth 100000 in
set_option maxHeartbeats 1000000 in
theorem putM_long (w : World) (base m : Nat) (slv : Value) (L : FL) (p x : B) (h : RTree w base m slv L) (hp : p.length ≤ 999999) (hk : pathOk p = true) (hx : 2000 < x.length) :
    Calls Tryz.prog 30 #[.pointer (some ⟨m, 0, none⟩), S p, S x] w (RDone w base m slv (putT L p x) (I (putCode L p x))) := by
  have HC := isPath_any w p hp
  rw [hk] at HC
  have HC := Lib.hid HC
  have hcode : putCode L p x = 2 := by unfold putCode; rw [hk, if_pos rfl, if_pos hx]
  have hT : putT L p x = L := by unfold putT; rw [hcode, if_neg (by decide)]
  rw [hcode, hT]
  have H := Lib.hid h
  have hz : (2000 : Int) < (x.length : Int) := by omega
  clear h hp hk hcode hT hx
  go_enter Tryz.func30, Tryz.ntmps30
  go_wp2_with (go_at_call 104; refine HC.out.mono ?_; rintro e w1 ⟨rfl, ho⟩)
  go_ret
  exact RDone.same H.out ho

set_option maxRecDepth 100000 in
set_option maxHeartbeats 2000000 in
theorem putM_clash (w : World) (base m : Nat) (slv : Value) (L : FL) (p x : B) (h : RTree w base m slv L) (hl : L.length ≤ 1000) (hp : p.length ≤ 999999) (hk : pathOk p = true) (hx : ¬ 2000 < x.length) (hc : clash L p = true) :
    Calls Tryz.prog 30 #[.pointer (some ⟨m, 0, none⟩), S p, S x] w (RDone w base m slv (putT L p x) (I (putCode L p x))) := by
  have HC := isPath_any w p hp
  rw [hk] at HC
  have HC := Lib.hid HC
  have hcode : putCode L p x = 7 := by unfold putCode; rw [hk, if_pos rfl, if_neg hx, if_pos hc]
  have hT : putT L p x = L := by unfold putT; rw [hcode, if_neg (by decide)]
  rw [hcode, hT]
  have H := Lib.hid h
  have HCL := Lib.hid (clash_none hc)
  have hz : ¬ (2000 : Int) < (x.length : Int) := by omega
  obtain ⟨a, cap, hv, _, _, hcell⟩ := h.rd
  have HV := Lib.hid hv
  have HCE := Lib.hid hcell
  clear h hp hk hcode hT hx hc hcell hv
  go_enter Tryz.func30, Tryz.ntmps30
  go_wp2_with (go_at_call 104; refine HC.out.mono ?_; rintro e w1 ⟨rfl, ho⟩; have HO := Lib.hid ho; clear ho)
  have c1 : w1.cell? ⟨m, 0, none⟩ = some (.slice a L.length cap) := by
    rw [← HV.out]
    exact (cell_of_heap (HO.out.heapOf H.out.cells (fun h => h)) 0).trans rfl
  go_loop [8] (fun i => ∃ j : Nat, j ≤ L.length ∧ i = .int .i64 j ∧ Hid (∀ i q, i < j → L[i]? = some q → near p q.1 = false)) (fun i => L.length - (intOf i).toNat)
  case atStart => exact ⟨0, Nat.zero_le _, rfl, Lib.hid (fun i q h => absurd h (Nat.not_lt_zero _))⟩
  case round =>
    obtain ⟨j, hj, rfl, hb⟩ := hrel
    by_cases hlt : j < L.length
    · have hltz : (j : Int) < (L.length : Int) := by omega
      obtain ⟨b, off, rfl, hcl⟩ := HCE.out (by intro h; rw [h] at hlt; simp at hlt)
      obtain ⟨⟨k', y⟩, hq⟩ : ∃ y, L[j]? = some y := ⟨_, List.getElem?_eq_getElem hlt⟩
      have d0 : w1.cell? ⟨b, off + j * 2, none⟩ = some (S k') := HO.out.cellOf (hcl j _ hq 0 _ rfl) (fun h => h)
      have HQ := Lib.hid hq
      have HA1 := Lib.hid (fun W => refAbove_any W p k')
      have HA2 := Lib.hid (fun W => refAbove_any W k' p)
      have HN := Lib.hid (show near p k' = (aboveB p k' || aboveB k' p) from rfl)
      clear hcl hq
      generalize aboveB p k' = r1 at HA1 HN
      generalize aboveB k' p = r2 at HA2 HN
      cases r1
      · cases r2
        · go_wp2_with fail
          refine (HA1.out _).mono ?_
          rintro e w2 ⟨rfl, rfl⟩
          go_wp2_with fail
          refine (HA2.out _).mono ?_
          rintro e w2 ⟨rfl, rfl⟩
          go_wp2_with fail
          go_round
          case rel => exact ⟨j + 1, by omega, by go_num, Lib.hid (fun i q hi hq => by
            rcases Nat.lt_succ_iff_lt_or_eq.1 hi with h | rfl
            · exact hb.out i q h hq
            · rw [HQ.out] at hq; cases hq; exact HN.out)⟩
          case measure => simp [intOf]; omega
        · go_wp2_with fail
          refine (HA1.out _).mono ?_
          rintro e w2 ⟨rfl, rfl⟩
          go_wp2_with fail
          refine (HA2.out _).mono ?_
          rintro e w2 ⟨rfl, rfl⟩
          go_wp2_with fail
          go_ret
          exact RDone.same H.out HO.out
      · go_wp2_with fail
        refine (HA1.out _).mono ?_
        rintro e w2 ⟨rfl, rfl⟩
        go_wp2_with fail
        go_ret
        exact RDone.same H.out HO.out
    · exact absurd (fun i q hi hq => hb.out i q (by omega) hq) HCL.out
end Go.Proofs.YtnmhaipjfpongacGreatDoor

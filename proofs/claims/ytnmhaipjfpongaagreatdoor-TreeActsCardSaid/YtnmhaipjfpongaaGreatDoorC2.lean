/- Package cache: New, last, Get, Put and Len over a list of keys and bytes, the one that was asked for longest ago first. No condition but that the cache is one. -/
import Derived.Test.YtnmhaipjfpongaaGreatDoorC1
import Derived.Deep.RegionLaw
import Derived.Deep.RegionHeld3
import Derived.Deep.AppendLies
namespace Go.Proofs.YtnmhaipjfpongaaGreatDoor
open Go.ChangeShapes Go.WideShapes Go.ChangeAt Go.RowKit

theorem infoStr : (Tryz.prog.info? 9).map (fun i => (i.zero, i.size, i.bytes)) = some (some (.string ⟨#[]⟩), 1, 16) := by kernel_rfl

theorem news_one {w : World} {g : Nat} {x : Value} (h : w.cell? ⟨g, 0, none⟩ = some x) : ∀ j u, [x][j]? = some u → w.cell? ((⟨g, 0, none⟩ : Addr).add j) = some u := by
  intro j u hu
  cases j with
  | zero => simpa [Addr.add] using (show w.cell? ⟨g, 0, none⟩ = some u from by rw [h]; simpa using hu)
  | succ j => simp at hu

/-- A key is the last one now. -/
def Lasted (w : World) (b : Nat) (c0 c2 sv : Value) (base : Nat) (ks : List B) (e : Ending) (w' : World) : Prop :=
  e = .returned (.tuple #[]) ∧ ∃ sv', w'.heap[b]? = some (.cells #[c0, sv', c2] 232 (0, 0)) ∧ w'.ownsRow base 9 1 sv' ks.length (ks.map S) ∧
    Only (fun i => i = b ∨ sv.ownBlock = some i) w w' ∧ ∀ i, sv'.ownBlock = some i → sv.ownBlock = some i ∨ w.heap.size ≤ i

theorem row_ne {w : World} {base : Nat} {e e' : TypeId} {size : Nat} {v : Value} {n : Nat} {xs : List Value} {b : Nat} {cs : Array Value} {fr : Nat × Nat} (h : w.ownsRow base e size v n xs) (hb : w.heap[b]? = some (.cells cs e' fr)) (hne : e ≠ e') :
    ∀ k, v.ownBlock = some k → k ≠ b := by
  intro k hk e1
  subst e1
  rcases h.2 with ⟨rfl, _⟩ | ⟨g, cap, cur, rfl, _, hh, _⟩
  · cases hk
  · cases hk
    rw [hh] at hb
    cases hb
    exact hne rfl

theorem last_end {w w3 : World} {b base : Nat} {c0 c2 sv v3 : Value} {l : List B} {k : B} (hb : w3.heap[b]? = some (.cells #[c0, sv, c2] 232 (0, 0))) (ho : w3.ownsRow base 9 1 v3 (l.length + 1) (l.map S ++ [S k]))
    (hw : Only (fun i => sv.ownBlock = some i) w w3) (hn : ∀ i, v3.ownBlock = some i → sv.ownBlock = some i ∨ w.heap.size ≤ i) (_hk : ∀ i, sv.ownBlock = some i → i ≠ b) :
    Lasted w b c0 c2 sv base (l ++ [k]) (.returned (.tuple #[])) (w3.setCell ⟨b, 1, none⟩ v3) := by
  refine ⟨rfl, v3, (heap_setCell_same hb 1 v3).trans (by simp), ?_, ?_, hn⟩
  · have := (Only.set (p := fun i => i = b) (w := w3) (a := ⟨b, 1, none⟩) v3 rfl).row ho (fun i e e1 => row_ne ho hb (by decide) i e e1)
    simpa using this
  · exact (hw.mono fun _ _ e => .inr e).thenSet _ (.inl (.inl rfl))

/-- What slices.DeleteFunc leaves in 'last'. -/
def AtLast (w wx : World) (b base : Nat) (c0 c2 sv : Value) (k : B) (l : List B) (e : Ending) (w2 : World) : Prop :=
  ∃ v2, e = .returned v2 ∧ w2.ownsRow base 9 1 v2 l.length (l.map S) ∧ Only (fun i => sv.ownBlock = some i) wx w2 ∧ v2.ownBlock = sv.ownBlock ∧
    w2.cell? ⟨w.heap.size, 0, none⟩ = some (S k) ∧ w2.cell? ⟨b, 1, none⟩ = some sv ∧ w2.frozen? ⟨b, 1, none⟩ = false ∧ w2.heap[b]? = some (.cells #[c0, sv, c2] 232 (0, 0)) ∧ w.heap.size < w2.heap.size

set_option maxHeartbeats 1000000 in
set_option maxRecDepth 100000 in
theorem last_any (w : World) (b base : Nat) (c0 c2 sv : Value) (ks : List B) (k : B) (hb : w.heap[b]? = some (.cells #[c0, sv, c2] 232 (0, 0))) (hrow : w.ownsRow base 9 1 sv ks.length (ks.map S))
    (hbase : base ≤ w.heap.size) (hlen : ks.length ≤ 1000) :
    Calls Tryz.prog 318 #[.pointer (some ⟨b, 0, none⟩), S k] w (Lasted w b c0 c2 sv base (ks.filter (fun s => !(s == k)) ++ [k])) := by
  have hlt := lt_of_heap hb
  obtain ⟨i0, hi, hz0, hz1, hz2⟩ := info_parts infoStr
  have hblk : ∀ j, sv.ownBlock = some j → j ≠ b := row_ne hrow hb (by decide)
  have hbox : ∀ j, sv.ownBlock = some j → j < w.heap.size := fun j e => (hrow.lt j e).2
  have c1 : w.cell? ⟨b, 1, none⟩ = some sv := by simp [cell_of_heap hb]
  have f1 : w.frozen? ⟨b, 1, none⟩ = false := free_of_heap hb 1
  have hdel : ∀ wx, Ext (w.alloc (.cells #[S k] 9 (0, 0))) wx → Calls Tryz.prog 147 #[sv, .func (.func 327) #[] #[.pointer (some ⟨w.heap.size, 0, none⟩)]] wx (AtLast w wx b base c0 c2 sv k (ks.filter fun s => !(s == k))) := by
    intro wx hx
    have h1 : wx.ownsRow base 9 1 sv ks.length (ks.map S) := hx.row (hrow.alloc _) fun _ _ h => h
    have q1 : wx.cell? ⟨w.heap.size, 0, none⟩ = some (S k) := hx.cellOf ((cell_of_heap (MapKept.heap_alloc w _).1 0).trans rfl) (fun h => h)
    have q2 : wx.heap[b]? = _ := hx.heapOf ((Only.alloc (fun _ => False) w _).heapOf hb (fun h => h)) (fun h => h)
    have hs : w.heap.size + 1 ≤ wx.heap.size := by have := hx.size; simpa using this
    have hbk : ¬ sv.ownBlock = some b := fun e => hblk b e rfl
    have hbx : ¬ sv.ownBlock = some w.heap.size := fun e => Nat.lt_irrefl _ (hbox _ e)
    refine (deleteFunc_str _ _ (fun s => s == k) wx base sv ks h1 enters60 fun w' hw' => last1_tests _ _ _ (hw'.cellOf q1 hbx)).mono ?_
    rintro e w2 ⟨v2, rfl, hr2, ho2, hb2⟩
    have q3 := ho2.heapOf q2 hbk
    exact ⟨v2, rfl, hr2, ho2, hb2, ho2.cellOf q1 hbx, (cell_of_heap q3 1).trans rfl, free_of_heap q3 1, q3, by have := ho2.size; omega⟩
  have HD := Lib.hid hdel
  have HR := Lib.hid hrow
  have HB := Lib.hid hb
  have HK := Lib.hid hblk
  have HX := Lib.hid hbox
  clear hdel hrow hb hblk hbox
  go_enter Tryz.func318, Tryz.ntmps318
  go_wp2_with fail
  go_region_law (first | (go_simp; go_at_call 147; refine (HD.out _ ?hx).mono ?_; (case hx => repeat' (with_reducible first | exact Only.refl _ _ | apply Only.thenAlloc | apply Only.thenDrew)); rintro e w2 ⟨v2, rfl, hr2, ho2, hb2, q1, q2, q3, q4, q5⟩; have HR2 := Lib.hid hr2; have HO2 := Lib.hid ho2; have HB2 := Lib.hid hb2; have HQ4 := Lib.hid q4; have HW2 : Hid (Only (fun i => sv.ownBlock = some i) w w2) := (by refine Only.trans (p := fun _ => False) ?_ ho2 (fun _ _ h => h.elim) (fun _ _ h => h); repeat' (with_reducible first | exact Only.refl _ _ | apply Only.thenAlloc | apply Only.thenDrew)); have hltw : b < w2.heap.size := (by omega); clear hr2 ho2 hb2 q4) | (refine step_append_lies _ rfl (.tmp 10) (.tmp 12) 25 rfl base 9 i0 (.string ⟨#[]⟩) 1 16 Tryz.underlying25 hi hz0 hz1 hz2 rfl (by decide) _ (ks.filter fun s => !(s == k)).length ((ks.filter fun s => !(s == k)).map S) rfl ?hown _ 1 1 [S k] rfl rfl ?hnews ?h1 (by decide) ?h63 ?hby ?hbase _ rfl ?_; (case hown => first | exact HR2.out | exact HR2.out.alloc _); (case hnews => first | exact (cell_one_new _ _ _) | exact news_one (HO2.out.cellOf (by simp) (fun e => Nat.lt_irrefl _ (Nat.lt_trans (Nat.lt_succ_self _) (HX.out _ e))))); (case h1 => intro u hu; simp at hu; subst hu; rfl); (case h63 => have := List.length_filter_le (fun s => !(s == k)) ks; unfold maxLen; omega); (case hby => have := List.length_filter_le (fun s => !(s == k)) ks; omega); (case hbase => first | omega | (simp; omega)); intro g3 cap3 w3 hown3 hgrow3 hat3 hlt3; have hw3 : Only (fun i => sv.ownBlock = some i) w w3 := (by first | exact HW2.out.thenGrown hgrow3 (fun i e => .inl (HB2.out ▸ e)) | exact (HW2.out.thenAlloc _).thenGrown hgrow3 (fun i e => .inl (HB2.out ▸ e))); have hb3 : w3.heap[b]? = some (.cells #[c0, sv, c2] 232 (0, 0)) := hw3.heapOf HB.out (fun e => HK.out _ e rfl); have q6 : w3.cell? ⟨b, 1, none⟩ = some sv := (cell_of_heap hb3 1).trans rfl; have q7 : w3.frozen? ⟨b, 1, none⟩ = false := free_of_heap hb3 1; have HO3 := Lib.hid hown3; have HA3 := Lib.hid hat3; have HW3 := Lib.hid hw3; have HB3 := Lib.hid hb3; clear hown3 hgrow3 hat3 hw3 hb3))
  all_goals go_wp2
  all_goals
    go_end0
    refine last_end HB3.out HO3.out HW3.out ?_ HK.out
    intro i e
    cases e
    rcases HA3.out with h | h
    · exact .inl (HB2.out ▸ h)
    · refine .inr (show w.heap.size ≤ g3 from ?_)
      rw [h]
      first | omega | (simp; omega)
end Go.Proofs.YtnmhaipjfpongaaGreatDoor

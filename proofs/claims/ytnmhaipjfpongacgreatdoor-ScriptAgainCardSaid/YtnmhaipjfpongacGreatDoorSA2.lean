/- Texts of this seat laid together for one claim: C2, C3, C4, C5. No condition of its own: what each proves stands with its theorems. -/
import Derived.Deep.AppendLies
import Derived.Deep.RegionHeld3
import Derived.Deep.RegionLaw
import Derived.Test.YtnmhaipjfpongacGreatDoorSA1
namespace Go.Proofs.YtnmhaipjfpongacGreatDoor
open Go.ChangeShapes Go.WideShapes Go.ChangeAt Go.RowKit

theorem infoStr : (Tryz.prog.info? 9).map (fun i => (i.zero, i.size, i.bytes)) = some (some (.string ⟨#[]⟩), 1, 16) := by kernel_rfl

theorem news_one {w : World} {g : Nat} {x : Value} (h : w.cell? ⟨g, 0, none⟩ = some x) : ∀ j u, [x][j]? = some u → w.cell? ((⟨g, 0, none⟩ : Addr).add j) = some u := by
 intro j u hu
 cases j with
 | zero => simpa [Addr.add] using (show w.cell? ⟨g, 0, none⟩ = some u from by rw [h]; simpa using hu)
 | succ j => simp at hu

def Lasted (w : World) (b : Nat) (c0 c2 sv : Value) (base : Nat) (ks : List B) (e : Ending) (w' : World) : Prop :=
 e = .returned (.tuple #[]) ∧ ∃ sv', w'.heap[b]? = some (.cells #[c0, sv', c2] 191 (0, 0)) ∧ w'.ownsRow base 9 1 sv' ks.length (ks.map S) ∧
  Only (fun i => i = b ∨ sv.ownBlock = some i) w w' ∧ ∀ i, sv'.ownBlock = some i → sv.ownBlock = some i ∨ w.heap.size ≤ i

theorem row_ne {w : World} {base : Nat} {e e' : TypeId} {size : Nat} {v : Value} {n : Nat} {xs : List Value} {b : Nat} {cs : Array Value} {fr : Nat × Nat} (h : w.ownsRow base e size v n xs) (hb : w.heap[b]? = some (.cells cs e' fr)) (hne : e ≠ e') :
  ∀ k, v.ownBlock = some k → k ≠ b := by
 intro k hk e1
 subst e1
 rcases h.2 with ⟨rfl, _⟩ | ⟨g, cap, cur, rfl, _, hh, _⟩
 ·cases hk
 ·cases hk
  rw [hh] at hb
  cases hb
  exact hne rfl

theorem last_end {w w3 : World} {b base : Nat} {c0 c2 sv v3 : Value} {l : List B} {k : B} (hb : w3.heap[b]? = some (.cells #[c0, sv, c2] 191 (0, 0))) (ho : w3.ownsRow base 9 1 v3 (l.length + 1) (l.map S ++ [S k]))
  (hw : Only (fun i => sv.ownBlock = some i) w w3) (hn : ∀ i, v3.ownBlock = some i → sv.ownBlock = some i ∨ w.heap.size ≤ i) (_hk : ∀ i, sv.ownBlock = some i → i ≠ b) :
  Lasted w b c0 c2 sv base (l ++ [k]) (.returned (.tuple #[])) (w3.setCell ⟨b, 1, none⟩ v3) := by
 refine ⟨rfl, v3, (heap_setCell_same hb 1 v3).trans (by simp), ?_, ?_, hn⟩
 ·have := (Only.set (p := fun i => i = b) (w := w3) (a := ⟨b, 1, none⟩) v3 rfl).row ho (fun i e e1 => row_ne ho hb (by decide) i e e1)
  simpa using this
 ·exact (hw.mono fun _ _ e => .inr e).thenSet _ (.inl (.inl rfl))

def AtLast (w wx : World) (b base : Nat) (c0 c2 sv : Value) (k : B) (l : List B) (e : Ending) (w2 : World) : Prop :=
 ∃ v2, e = .returned v2 ∧ w2.ownsRow base 9 1 v2 l.length (l.map S) ∧ Only (fun i => sv.ownBlock = some i) wx w2 ∧ v2.ownBlock = sv.ownBlock ∧
  w2.cell? ⟨w.heap.size, 0, none⟩ = some (S k) ∧ w2.cell? ⟨b, 1, none⟩ = some sv ∧ w2.frozen? ⟨b, 1, none⟩ = false ∧ w2.heap[b]? = some (.cells #[c0, sv, c2] 191 (0, 0)) ∧ w.heap.size < w2.heap.size

set_option maxHeartbeats 1000000 in
set_option maxRecDepth 100000 in
theorem last_any (w : World) (b base : Nat) (c0 c2 sv : Value) (ks : List B) (k : B) (hb : w.heap[b]? = some (.cells #[c0, sv, c2] 191 (0, 0))) (hrow : w.ownsRow base 9 1 sv ks.length (ks.map S))
  (hbase : base ≤ w.heap.size) (hlen : ks.length ≤ 1000) :
  Calls Tryz.prog 190 #[.pointer (some ⟨b, 0, none⟩), S k] w (Lasted w b c0 c2 sv base (ks.filter (fun s => !(s == k)) ++ [k])) := by
 have hlt := lt_of_heap hb
 obtain ⟨i0, hi, hz0, hz1, hz2⟩ := info_parts infoStr
 have hblk : ∀ j, sv.ownBlock = some j → j ≠ b := row_ne hrow hb (by decide)
 have hbox : ∀ j, sv.ownBlock = some j → j < w.heap.size := fun j e => (hrow.lt j e).2
 have c1 : w.cell? ⟨b, 1, none⟩ = some sv := by simp [cell_of_heap hb]
 have f1 : w.frozen? ⟨b, 1, none⟩ = false := free_of_heap hb 1
 have hdel : ∀ wx, Ext (w.alloc (.cells #[S k] 9 (0, 0))) wx → Calls Tryz.prog 253 #[sv, .func (.func 254) #[] #[.pointer (some ⟨w.heap.size, 0, none⟩)]] wx (AtLast w wx b base c0 c2 sv k (ks.filter fun s => !(s == k))) := by
  intro wx hx
  have h1 : wx.ownsRow base 9 1 sv ks.length (ks.map S) := hx.row (hrow.alloc _) fun _ _ h => h
  have q1 : wx.cell? ⟨w.heap.size, 0, none⟩ = some (S k) := hx.cellOf ((cell_of_heap (MapKept.heap_alloc w _).1 0).trans rfl) (fun h => h)
  have q2 : wx.heap[b]? = _ := hx.heapOf ((Only.alloc (fun _ => False) w _).heapOf hb (fun h => h)) (fun h => h)
  have hs : w.heap.size + 1 ≤ wx.heap.size := by have := hx.size; simpa using this
  have hbk : ¬ sv.ownBlock = some b := fun e => hblk b e rfl
  have hbx : ¬ sv.ownBlock = some w.heap.size := fun e => Nat.lt_irrefl _ (hbox _ e)
  refine (deleteFunc_str _ _ (fun s => s == k) wx base sv ks h1 enters60 fun w' hw' => last1_tests _ _ _ (hw'.cellOf q1 hbx)).mono ?_
  rintro e w2 ⟨v2, rfl, hr2, ho2, hb2⟩
  have q3 := ho2.heapOf q2 hbk
  exact ⟨v2, rfl, hr2, ho2, hb2, ho2.cellOf q1 hbx, (cell_of_heap q3 1).trans rfl, free_of_heap q3 1, q3, by have := ho2.size; omega⟩
 have HD := Lib.hid hdel
 have HR := Lib.hid hrow
 have HB := Lib.hid hb
 have HK := Lib.hid hblk
 have HX := Lib.hid hbox
 clear hdel hrow hb hblk hbox
 go_enter Tryz.func190, Tryz.ntmps190
 go_wp2_with fail
 go_region_law (first | (go_simp; go_at_call 253; refine (HD.out _ ?hx).mono ?_; (case hx => repeat' (with_reducible first | exact Only.refl _ _ | apply Only.thenAlloc | apply Only.thenDrew)); rintro e w2 ⟨v2, rfl, hr2, ho2, hb2, q1, q2, q3, q4, q5⟩; have HR2 := Lib.hid hr2; have HO2 := Lib.hid ho2; have HB2 := Lib.hid hb2; have HQ4 := Lib.hid q4; have HW2 : Hid (Only (fun i => sv.ownBlock = some i) w w2) := (by refine Only.trans (p := fun _ => False) ?_ ho2 (fun _ _ h => h.elim) (fun _ _ h => h); repeat' (with_reducible first | exact Only.refl _ _ | apply Only.thenAlloc | apply Only.thenDrew)); have hltw : b < w2.heap.size := (by omega); clear hr2 ho2 hb2 q4) | (refine step_append_lies _ rfl (.tmp 10) (.tmp 12) 53 rfl base 9 i0 (.string ⟨#[]⟩) 1 16 Tryz.underlying53 hi hz0 hz1 hz2 rfl (by decide) _ (ks.filter fun s => !(s == k)).length ((ks.filter fun s => !(s == k)).map S) rfl ?hown _ 1 1 [S k] rfl rfl ?hnews ?h1 (by decide) ?h63 ?hby ?hbase _ rfl ?_; (case hown => first | exact HR2.out | exact HR2.out.alloc _); (case hnews => first | exact (cell_one_new _ _ _) | exact news_one (HO2.out.cellOf (by simp) (fun e => Nat.lt_irrefl _ (Nat.lt_trans (Nat.lt_succ_self _) (HX.out _ e))))); (case h1 => intro u hu; simp at hu; subst hu; rfl); (case h63 => have := List.length_filter_le (fun s => !(s == k)) ks; unfold maxLen; omega); (case hby => have := List.length_filter_le (fun s => !(s == k)) ks; omega); (case hbase => first | omega | (simp; omega)); intro g3 cap3 w3 hown3 hgrow3 hat3 hlt3; have hw3 : Only (fun i => sv.ownBlock = some i) w w3 := (by first | exact HW2.out.thenGrown hgrow3 (fun i e => .inl (HB2.out ▸ e)) | exact (HW2.out.thenAlloc _).thenGrown hgrow3 (fun i e => .inl (HB2.out ▸ e))); have hb3 : w3.heap[b]? = some (.cells #[c0, sv, c2] 191 (0, 0)) := hw3.heapOf HB.out (fun e => HK.out _ e rfl); have q6 : w3.cell? ⟨b, 1, none⟩ = some sv := (cell_of_heap hb3 1).trans rfl; have q7 : w3.frozen? ⟨b, 1, none⟩ = false := free_of_heap hb3 1; have HO3 := Lib.hid hown3; have HA3 := Lib.hid hat3; have HW3 := Lib.hid hw3; have HB3 := Lib.hid hb3; clear hown3 hgrow3 hat3 hw3 hb3))
 all_goals go_wp2
 all_goals
  go_end0
  refine last_end HB3.out HO3.out HW3.out ?_ HK.out
  intro i e
  cases e
  rcases HA3.out with h | h
  ·exact .inl (HB2.out ▸ h)
  ·refine .inr (show w.heap.size ≤ g3 from ?_)
   rw [h]
   first | omega | (simp; omega)
end Go.Proofs.YtnmhaipjfpongacGreatDoor

namespace Go.Proofs.YtnmhaipjfpongacGreatDoor
open Go.ChangeShapes Go.WideShapes Go.ChangeAt Go.RowKit

structure CacheAt (w : World) (b mb : Nat) (sv : Value) (many : Nat) (L : List (B × B)) : Prop where
 cells : w.heap[b]? = some (.cells #[I many, sv, .map (some mb)] 191 (0, 0))
 row : w.ownsRow 0 9 1 sv L.length ((L.map (·.1)).map S)
 map : KMap .string S S w mb L

def getL (L : List (B × B)) (k : B) : List (B × B) :=
 match L.lookup k with
 | some x => L.filter (fun p => !(p.1 == k)) ++ [(k, x)]
 | none => L

def putL (many : Nat) (L : List (B × B)) (k x : B) : List (B × B) :=
 if many < (L.filter (fun p => !(p.1 == k)) ++ [(k, x)]).length then (L.filter (fun p => !(p.1 == k)) ++ [(k, x)]).tail else L.filter (fun p => !(p.1 == k)) ++ [(k, x)]

theorem map_filter_key (L : List (B × B)) (k : B) : (L.filter (fun p => !(p.1 == k))).map (·.1) = (L.map (·.1)).filter (fun s => !(s == k)) := by
 induction L with
 | nil => rfl
 | cons p L ih =>
  by_cases h : p.1 = k
  ·simp [h]
   simpa using ih
  ·simp [h]
   simpa using ih

theorem heap_ne_map {w : World} {b mb : Nat} {cs : Array Value} {e : TypeId} {fr : Nat × Nat} {d : TypeDesc} {l : List (Value × Value)} (hb : w.heap[b]? = some (.cells cs e fr)) (hm : MapAt d w mb l) : b ≠ mb := by
 rintro rfl
 obtain ⟨es, c, h, _⟩ := hm
 rw [h] at hb
 cases hb

theorem row_ne_map {w : World} {base : Nat} {e : TypeId} {size : Nat} {v : Value} {n : Nat} {xs : List Value} {mb : Nat} {d : TypeDesc} {l : List (Value × Value)} (h : w.ownsRow base e size v n xs) (hm : MapAt d w mb l) :
  ∀ k, v.ownBlock = some k → k ≠ mb := by
 intro k hk
 rcases h.2 with ⟨rfl, _⟩ | ⟨g, cap, cur, rfl, _, hh, _⟩
 ·cases hk
 ·cases hk
  exact heap_ne_map hh hm

def InCache (b mb : Nat) (sv : Value) (i : Nat) : Prop := i = b ∨ i = mb ∨ sv.ownBlock = some i

theorem CacheAt.later {p : Nat → Prop} {w w' : World} {b mb : Nat} {sv : Value} {many : Nat} {L : List (B × B)} (h : CacheAt w b mb sv many L) (ho : Only p w w') (hp : ∀ i, InCache b mb sv i → ¬ p i) : CacheAt w' b mb sv many L :=
 ⟨ho.heapOf h.cells (hp b (.inl rfl)), ho.row h.row fun k e => hp k (.inr (.inr e)), h.map.later ho (hp mb (.inr (.inl rfl)))⟩

theorem CacheAt.lt {w : World} {b mb : Nat} {sv : Value} {many : Nat} {L : List (B × B)} (h : CacheAt w b mb sv many L) : ∀ i, InCache b mb sv i → i < w.heap.size := by
 rintro i (rfl | rfl | e)
 ·exact lt_of_heap h.cells
 ·exact h.map.lt
 ·exact (h.row.lt i e).2

theorem cacheNew_any (n : Nat) (w : World) (h1 : 1 ≤ n) (h : n ≤ 100) :
  Calls Tryz.prog 52 #[I n] w fun e w' => e = .returned (.tuple #[.pointer (some ⟨w.heap.size + 1, 0, none⟩), .nilIface]) ∧ CacheAt w' (w.heap.size + 1) w.heap.size (.slice none 0 0) n [] ∧ Ext w w' ∧ w'.heap.size = w.heap.size + 2 := by
 have hmm := @run_makeMap Tryz.prog
 have hz1 : (1 : Int) ≤ (n : Int) := by omega
 have hz2 : (n : Int) ≤ 100 := by omega
 go_enter Tryz.func52, Tryz.ntmps52
 go_wp2
 go_ret2
 refine ⟨rfl, ⟨?_, World.ownsRow_nil _ _ _ _, (KMap.made w .string S S).later (Only.alloc (fun _ => False) _ _) (fun h => h)⟩, (Only.alloc _ _ _).thenAlloc _, by simp⟩
 simpa using (MapKept.heap_alloc (w.alloc (.map #[] 0)) (.cells #[I n, .slice none 0 0, .map (some w.heap.size)] 191 (0, 0))).1

theorem step_drop {κ α : Type} [BEq κ] [LawfulBEq κ] {d : TypeDesc} {encK : κ → Value} {enc : α → Value} {b : Nat} {l : List (κ × α)} {t kt et : TypeId} (KO : KeyOk d encK)
  {ops : Array Oper} {o : Oper} {a : Act} {w : World} {K : Act → World → Prop} {Q : Exit → Act → World → Prop} {E : Prop} (hg : o.guard = none) (m x : Operand)
  (ho : o.op = .call { callee := .builtin .delete, args := #[m, x], argTypes := #[t, kt] }) (ht : Tryz.prog.underlying t = some (.map kt et)) (hk : Tryz.prog.underlying kt = some d)
  (hm : a.eval m = .map (some b)) (k : κ) (hx : a.eval x = encK k) (h : KMap d encK enc w b l)
  (hK : ∀ w', KMap d encK enc w' b (l.filter fun p => !(p.1 == k)) → Only (fun i => i = b) w w' → K (a.put o.dst (.tuple #[])) w') :
  if Region.wanted o (yielded ops a.tmps) = true then Oper.wp Tryz.prog o a w K Q else E := by
 have hw : Region.wanted o (yielded ops a.tmps) = true := by simp [Region.wanted, hg]
 rw [if_pos hw]
 obtain ⟨w', hrun, h1, h2, _⟩ := KMap.drop (P := Tryz.prog) KO h ht hk k o.type
 unfold Oper.wp
 simp [execOp, ho, resolve, invoke, builtin, hm, hx, hrun, Result.andThen]
 exact hK _ h1 h2

def Got (w : World) (b mb : Nat) (sv : Value) (many : Nat) (L' : List (B × B)) (r : Value) (e : Ending) (w' : World) : Prop :=
 ∃ sv', e = .returned r ∧ CacheAt w' b mb sv' many L' ∧ Only (InCache b mb sv) w w' ∧ ∀ i, InCache b mb sv' i → InCache b mb sv i ∨ w.heap.size ≤ i

theorem own_step {b mb : Nat} {sv sv' : Value} {n : Nat} (h : ∀ i, sv'.ownBlock = some i → sv.ownBlock = some i ∨ n ≤ i) : ∀ i, InCache b mb sv' i → InCache b mb sv i ∨ n ≤ i := by
 rintro i (rfl | rfl | e)
 ·exact .inl (.inl rfl)
 ·exact .inl (.inr (.inl rfl))
 ·rcases h i e with h | h
  ·exact .inl (.inr (.inr h))
  ·exact .inr h

set_option maxHeartbeats 1000000 in
theorem get_any (w : World) (b mb : Nat) (sv : Value) (many : Nat) (L : List (B × B)) (k : B) (h : CacheAt w b mb sv many L) (hl : L.length ≤ 1000) :
  Calls Tryz.prog 124 #[.pointer (some ⟨b, 0, none⟩), S k] w (Got w b mb sv many (getL L k) (.tuple #[S ((L.lookup k).getD []), .bool (L.lookup k).isSome])) := by
 have c2 : w.cell? ⟨b, 2, none⟩ = some (.map (some mb)) := (cell_of_heap h.cells 2).trans rfl
 have hlook := KMap.look (P := Tryz.prog) keyOk_str h.map Tryz.underlying171 Tryz.underlying9 (zeroStr w) k
 cases hk : L.lookup k with
 | none =>
  simp only [hk] at hlook
  have e1 : getL L k = L := by unfold getL; rw [hk]
  rw [e1]
  have H := Lib.hid h
  have HK := Lib.hid hk
  clear hk h e1
  go_enter Tryz.func124, Tryz.ntmps124
  go_wp2_with fail
  go_ret2
  exact ⟨sv, rfl, H.out, Only.refl _ _, fun i hi => .inl hi⟩
 | some x =>
  simp only [hk] at hlook
  have e1 : getL L k = L.filter (fun p => !(p.1 == k)) ++ [(k, x)] := by unfold getL; rw [hk]
  rw [e1]
  have hlast := last_any w b 0 (I many) (.map (some mb)) sv (L.map (·.1)) k h.cells (by simpa using h.row) (Nat.zero_le _) (by simpa using hl)
  have H := Lib.hid h
  have HK := Lib.hid hk
  have HL := Lib.hid hlast
  clear hk h e1 hlast
  go_enter Tryz.func124, Tryz.ntmps124
  go_wp2_with (go_at_call 190; refine HL.out.mono ?_; rintro e w1 ⟨rfl, sv1, hb1, hr1, ho1, hn1⟩)
  go_ret2
  have hmb : mb ≠ b := (heap_ne_map H.out.cells H.out.map).symm
  have hmr : ¬ sv.ownBlock = some mb := fun e => row_ne_map H.out.row H.out.map mb e rfl
  refine ⟨sv1, rfl, ⟨hb1, ?_, ?_⟩, ho1.mono ?_, own_step hn1⟩
  ·rw [List.map_append, map_filter_key]
   simpa [← map_filter_key] using hr1
  ·exact (H.out.map.later ho1 (by rintro (h | h); exact hmb h; exact hmr h)).perm ((perm_of_lookup H.out.map.nodup HK.out).trans (List.perm_append_singleton _ _).symm)
  ·rintro i _ (h | h)
   ·exact .inl h
   ·exact .inr (.inr h)
end Go.Proofs.YtnmhaipjfpongacGreatDoor

namespace Go.Proofs.YtnmhaipjfpongacGreatDoor
open Go.ChangeShapes Go.WideShapes Go.ChangeAt Go.RowKit

theorem wpList_store {κ α : Type} [BEq κ] [LawfulBEq κ] {d : TypeDesc} {encK : κ → Value} {enc : α → Value} {b : Nat} {l : List (κ × α)} {t kt et : TypeId} (KO : KeyOk d encK)
  {w : World} {ops : Array Oper} {rest : List Oper} {o : Oper} {a : Act} {Q : Exit → Act → World → Prop} (hg : o.guard = none) (m x v : Operand) (ho : o.op = .mapUpdate t m x v)
  (ht : Tryz.prog.underlying t = some (.map kt et)) (hk : Tryz.prog.underlying kt = some d) (hm : a.eval m = .map (some b)) (k : κ) (hx : a.eval x = encK k) (y : α) (hv : a.eval v = enc y) (h : KMap d encK enc w b l)
  (hK : ∀ w', KMap d encK enc w' b ((k, y) :: l.filter fun p => !(p.1 == k)) → Only (fun i => i = b) w w' → w'.heap.size = w.heap.size → wpList Tryz.prog ops Q rest (a.put o.dst undef) w') :
  wpList Tryz.prog ops Q (o :: rest) a w := by
 refine wpList_plain hg fun K' hK' => ?_
 obtain ⟨w', hrun, h1, h2, h3⟩ := KMap.store (P := Tryz.prog) KO h ht hk k y
 unfold Oper.wp
 simp [execOp, ho, hm, hx, hv, hrun, Result.andThen]
 exact hK' _ _ (hK w' h1 h2 h3)

theorem ownBlock_form {v : Value} {g : Nat} (h : v.ownBlock = some g) : ∃ a n c, v = .slice (some a) n c := by
 cases v with
 | slice a n c =>
  cases a with
  | none => cases h
  | some a => exact ⟨a, n, c, rfl⟩
 | _ => cases h

theorem put_end {w w4 : World} {b mb many : Nat} {sv sv2 v4 : Value} {T : List (B × B)} (hb : w4.heap[b]? = some (.cells #[I many, sv2, .map (some mb)] 191 (0, 0))) (hr : w4.ownsRow 0 9 1 v4 (T.map (·.1)).length ((T.map (·.1)).map S))
  (hm : KMap .string S S w4 mb T) (ho : Only (InCache b mb sv) w w4) (hn : ∀ i, v4.ownBlock = some i → sv.ownBlock = some i ∨ w.heap.size ≤ i) (hne : b ≠ mb) :
  Got w b mb sv many T (.tuple #[]) (.returned (.tuple #[])) (w4.setCell ⟨b, 1, none⟩ v4) := by
 have hs := Only.set (p := fun i => i = b) (w := w4) (a := ⟨b, 1, none⟩) v4 rfl
 exact ⟨v4, rfl, ⟨(heap_setCell_same hb 1 v4).trans (by simp), hs.row (by simpa using hr) (fun i e e1 => row_ne hr hb (by decide) i e e1), hm.later hs (Ne.symm hne)⟩, ho.thenSet _ (.inl (.inl rfl)), own_step hn⟩

theorem put_only {w w1 w2 : World} {b mb : Nat} {sv : Value} (h1 : Only (fun i => i = mb) w w1) (h2 : Only (fun i => i = b ∨ sv.ownBlock = some i) w1 w2) : Only (InCache b mb sv) w w2 :=
 h1.trans h2 (fun _ _ e => .inr (.inl e)) (fun i _ e => by rcases e with e | e; exact .inl e; exact .inr (.inr e))

set_option maxHeartbeats 2000000 in
theorem put_any (w : World) (b mb : Nat) (sv : Value) (many : Nat) (L : List (B × B)) (k x : B) (h : CacheAt w b mb sv many L) (hl : L.length ≤ 1000) :
  Calls Tryz.prog 126 #[.pointer (some ⟨b, 0, none⟩), S k, S x] w (Got w b mb sv many (putL many L k x) (.tuple #[])) := by
 have c2 : w.cell? ⟨b, 2, none⟩ = some (.map (some mb)) := (cell_of_heap h.cells 2).trans rfl
 have hmb : b ≠ mb := heap_ne_map h.cells h.map
 have hmr : ¬ sv.ownBlock = some mb := fun e => row_ne_map h.row h.map mb e rfl
 obtain ⟨L1, HL1⟩ : ∃ L1, Hid (L1 = L.filter (fun p => !(p.1 == k)) ++ [(k, x)]) := ⟨_, Lib.hid rfl⟩
 have hfl := List.length_filter_le (fun p : B × B => !(p.1 == k)) L
 have hL1 : 0 < L1.length ∧ L1.length ≤ 1001 := by rw [HL1.out]; simp; omega
 have hks : (L.map (·.1)).filter (fun s => !(s == k)) ++ [k] = L1.map (·.1) := by rw [HL1.out, List.map_append, map_filter_key]; rfl
 have hlast : ∀ w1, Only (fun i => i = mb) w w1 → Calls Tryz.prog 190 #[.pointer (some ⟨b, 0, none⟩), S k] w1 (Lasted w1 b (I many) (.map (some mb)) sv 0 (L1.map (·.1))) := by
  intro w1 ho1
  have hb1 := ho1.heapOf h.cells hmb
  have hr1 := ho1.row h.row fun i e e1 => hmr (e1 ▸ e)
  rw [← hks]
  exact last_any w1 b 0 (I many) (.map (some mb)) sv (L.map (·.1)) k hb1 (by simpa using hr1) (Nat.zero_le _) (by simpa using hl)
 have hput : putL many L k x = if many < L1.length then L1.tail else L1 := by rw [HL1.out]; rfl
 rw [hput]
 have HLast := Lib.hid hlast
 have HH := Lib.hid h
 have HMB := Lib.hid hmb
 have HMR := Lib.hid hmr
 obtain ⟨hp0, hp1⟩ := hL1
 clear hlast h hmb hmr hks hput hfl
 by_cases hlt : many < L1.length
 all_goals
  go_enter Tryz.func126, Tryz.ntmps126
  go_wp2_with (first | (at_mapUpdate; refine wpList_store keyOk_str rfl _ _ _ rfl Tryz.underlying171 Tryz.underlying9 rfl k rfl x rfl HH.out.map ?_; intro w1 hm1 ho1 hs1; have HM1 := Lib.hid hm1; have HO1 := Lib.hid ho1; have HS1 := Lib.hid hs1; have k2 := (ho1.heapOf HH.out.cells HMB.out); have k3 : w1.cell? ⟨b, 2, none⟩ = some (.map (some mb)) := (cell_of_heap k2 2).trans rfl; clear hm1 ho1 hs1 k2) | (go_at_call 190; refine (HLast.out _ HO1.out).mono ?_; rintro e w2 ⟨rfl, sv2, hb2, hr2, ho2, hn2⟩))
  obtain ⟨g, cap, hsv, _, hglt⟩ := hr2.form (by simpa using hp0)
  have q0 : w2.cell? ⟨b, 0, none⟩ = some (I many) := (cell_of_heap hb2 0).trans rfl
  have q1 : w2.cell? ⟨b, 1, none⟩ = some (.slice (some ⟨g, 0, none⟩) L1.length cap) := by rw [cell_of_heap hb2 1, hsv]; simp
  have q2 : w2.cell? ⟨b, 2, none⟩ = some (.map (some mb)) := (cell_of_heap hb2 2).trans rfl
  have HB2 := Lib.hid hb2
  have HR2 := Lib.hid hr2
  have HO2 := Lib.hid ho2
  have HN2 := Lib.hid hn2
  have HSV := Lib.hid hsv
  clear hb2 hr2 ho2 hn2 hsv
 ·have hz : (many : Int) < (L1.length : Int) := by omega
  obtain ⟨p0, T, HT⟩ : ∃ p0 T, Hid (L1 = p0 :: T) := by
   obtain ⟨p0, T, h⟩ := List.exists_cons_of_length_pos hp0
   exact ⟨p0, T, Lib.hid h⟩
  have q3 : w2.cell? ⟨g, 0, none⟩ = some (S p0.1) := by
   have hh := HR2.out
   rw [HSV.out, HT.out] at hh
   have := hh.cellAt 0 (by simp)
   simpa using this
  have hm2 : ∀ n, KMap .string S S (w2.drewN n).drew mb L1 := fun n => by
   have hmm : KMap .string S S w1 mb L1 := by rw [HL1.out]; exact HM1.out.perm (List.perm_append_singleton _ _).symm
   exact ((hmm.later HO2.out (by rintro (h | h); exact HMB.out h.symm; exact HMR.out h)).later (Only.drewN (fun _ => False) _ n) (fun h => h)).later (Only.drew (fun _ => False) _) (fun h => h)
  have HM2 := Lib.hid hm2
  have hpos : (0 : Int) < (L1.length : Int) := by omega
  clear hm2
  go_quiet (fail)
  go_wp2
  have hnd := HM1.out.nodup
  have hft : L1.filter (fun p => !(p.1 == p0.1)) = T := by
   have h1 : (L1.map (·.1)).Nodup := (((List.perm_append_singleton _ _).map _).nodup_iff.2 hnd : ((L.filter (fun p => !(p.1 == k)) ++ [(k, x)]).map (·.1)).Nodup) |> fun h => by rw [HL1.out]; exact h
   rw [HT.out] at h1 ⊢
   rw [List.map_cons, List.nodup_cons] at h1
   rw [List.filter_cons_of_neg (by simp)]
   refine List.filter_eq_self.2 fun q hq => ?_
   have : q.1 ≠ p0.1 := fun e => h1.1 (e ▸ List.mem_map.2 ⟨q, hq, rfl⟩)
   simpa using this
  have HF := Lib.hid hft
  clear hft hnd
  go_region_law (refine step_drop keyOk_str rfl (.tmp 28) (.tmp 34) rfl Tryz.underlying171 Tryz.underlying9 rfl p0.1 rfl (HM2.out _) ?_; intro w3 hm3 ho3; have hn3 : ¬ sv2.ownBlock = some mb := (fun e => row_ne_map HR2.out (HM2.out 0) mb e rfl); have hb3 : w3.heap[b]? = some (.cells #[I many, sv2, .map (some mb)] 191 (0, 0)) := ho3.heapOf HB2.out HMB.out; have hr3 : w3.ownsRow 0 9 1 sv2 _ _ := ho3.row HR2.out (fun i e e1 => hn3 (e1 ▸ e)); have q6 : w3.cell? ⟨b, 1, none⟩ = some (.slice (some ⟨g, 0, none⟩) L1.length cap) := (by rw [cell_of_heap hb3 1, HSV.out]; simp); have HB3 := Lib.hid hb3; have HR3 := Lib.hid hr3; have HM3 := Lib.hid hm3; have HO3 := Lib.hid ho3; clear hn3 hb3 hr3 hm3 ho3)
  all_goals
   have hdel := delete_first w3 0 sv2 p0.1 (T.map (·.1)) (by have := HR3.out; rw [HT.out] at this; simpa using this)
   rw [HSV.out] at hdel
   have e1 : (L1.map (·.1)).length = L1.length := by simp
   rw [e1] at hdel
   have HD := Lib.hid hdel
   clear hdel e1
   go_wp2_with (go_at_call 193; refine HD.out.mono ?_; rintro e w4 ⟨v4, rfl, hr4, ho4, hb4⟩; obtain ⟨a4, n4, c4, rfl⟩ := ownBlock_form (show v4.ownBlock = some g from hb4); have hne : ¬ g = b := (fun e => row_ne HR2.out HB2.out (by decide) g (by rw [HSV.out]; rfl) e); have hb4' : w4.heap[b]? = some (.cells #[I many, sv2, .map (some mb)] 191 (0, 0)) := ho4.heapOf HB3.out (fun e => hne (by simpa [Value.ownBlock] using e)); have q7 : w4.cell? ⟨b, 1, none⟩ = some sv2 := (cell_of_heap hb4' 1).trans rfl; have q8 : w4.frozen? ⟨b, 1, none⟩ = false := free_of_heap hb4' 1; have HB4 := Lib.hid hb4'; have HR4 := Lib.hid hr4; have HO4 := Lib.hid ho4; have HV4 := Lib.hid hb4; clear hb4' hr4 ho4 hb4 hne)
   go_end0
   have et : (if many < L1.length then L1.tail else L1) = T := by rw [if_pos hlt, HT.out]; rfl
   first | rw [et] | (have et2 : L1.tail = T := by rw [HT.out]; rfl); rw [et2]
   have hg3 : g ≠ mb := fun e => row_ne_map HR2.out (HM2.out 0) g (by rw [HSV.out]; rfl) e
   have hm3 := HM3.out
   rw [HF.out] at hm3
   have ho4 : Only (fun i => i = g) w3 w4 := HO4.out.mono fun i _ e => by simpa [Value.ownBlock] using e.symm
   have hgo : sv.ownBlock = some g ∨ w.heap.size ≤ g := by have := HN2.out g (by rw [HSV.out]; rfl); rw [HS1.out] at this; exact this
   refine put_end HB4.out HR4.out (hm3.later ho4 hg3.symm) ?_ ?_ HMB.out
   ·have h2 := put_only HO1.out HO2.out
    have h3 : Only (InCache b mb sv) w w3 := (((h2.thenDrewN _).thenDrew).trans HO3.out (fun _ _ h => h) (fun i _ e => .inr (.inl e)))
    exact h3.trans ho4 (fun _ _ h => h) (fun i hi e => by subst e; rcases hgo with h | h; exact .inr (.inr h); omega)
   ·intro i e
    rw [HV4.out] at e
    have : i = g := by simpa [Value.ownBlock] using e.symm
    rw [this]; exact hgo
 ·have hz : ¬ (many : Int) < (L1.length : Int) := by omega
  go_quiet (fail)
  go_wp2
  go_end0
  have et : (if many < L1.length then L1.tail else L1) = L1 := if_neg hlt
  try rw [et]
  have hm2 : KMap .string S S w2 mb L1 := by
   have hmm : KMap .string S S w1 mb L1 := by rw [HL1.out]; exact HM1.out.perm (List.perm_append_singleton _ _).symm
   exact hmm.later HO2.out (by rintro (h | h); exact HMB.out h.symm; exact HMR.out h)
  refine ⟨sv2, rfl, ⟨HB2.out, (Only.drewN (fun _ => False) w2 _).row (by have := HR2.out; simpa using this) (fun _ _ h => h), hm2.later (Only.drewN (fun _ => False) _ _) (fun h => h)⟩, (put_only HO1.out HO2.out).thenDrewN _, own_step ?_⟩
  have := HN2.out
  rw [HS1.out] at this
  exact this
end Go.Proofs.YtnmhaipjfpongacGreatDoor

namespace Go.Proofs.YtnmhaipjfpongacGreatDoor
open Go.ChangeShapes Go.WideShapes Go.ChangeAt Go.RowKit

end Go.Proofs.YtnmhaipjfpongacGreatDoor

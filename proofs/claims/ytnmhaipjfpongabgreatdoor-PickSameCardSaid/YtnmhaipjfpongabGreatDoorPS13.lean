/- Texts of this seat laid together for one claim: F0, Y3, Z16. No condition of its own: what each proves stands with its theorems. -/
import Derived.Lib.SlicesCompact
import Derived.Test.YtnmhaipjfpongabGreatDoorPS12
import Derived.Test.YtnmhaipjfpongabGreatDoorPS6
import Derived.Shelf.SlMaps.Clone
import Derived.Test.YtnmhaipjfpongabGreatDoorPS7
namespace Go.Proofs.YtnmhaipjfpongabGreatDoor
open Go.ChangeShapes Go.WideShapes Go.ChangeAt Go.RowKit

def RetE (v : Value) (w : World) (e : Ending) (w' : World) : Prop := e = .returned v ∧ Ext w w'
abbrev Row (base : Nat) (w : World) (v : Value) (l : List B) : Prop := w.ownsRow base 9 1 v l.length (l.map S)
def RetRow (l : List B) (w : World) (e : Ending) (w' : World) : Prop := ∃ v, e = .returned v ∧ Ext w w' ∧ Row w.heap.size w' v l

theorem Row.ext {base : Nat} {w w' : World} {v : Value} {l : List B} (h : Row base w v l) (ho : Ext w w') : Row base w' v l := ho.row h fun _ _ h => h
theorem Row.rd {base : Nat} {w : World} {v : Value} {l : List B} (h : Row base w v l) : Rd S w v l := Rd.of_row h
theorem Row.nil (base : Nat) (w : World) : Row base w (.slice none 0 0) [] := World.ownsRow_nil _ _ _ _
theorem Row.base {base : Nat} {w : World} {v : Value} {l : List B} (h : Row base w v l) : ∀ i, v.ownBlock = some i → base ≤ i := fun i hi => (h.lt i hi).1

theorem grown_ext {w0 wr w' : World} (I : Ext w0 wr) {v : Value} (hv : ∀ i, v.ownBlock = some i → w0.heap.size ≤ i) (hg : wr.grownBy w' v.ownBlock) : Ext w0 w' :=
 I.thenGrown hg fun i hi => .inr (hv i hi)

theorem addrAdd (b off j : Nat) : (⟨b, off, none⟩ : Addr).add j = ⟨b, off + j, none⟩ := by cases j <;> simp [Addr.add]

theorem wpText {P : Program} (hP : P = Tryz.prog) {ops : Array Oper} {rest : List Oper} {o : Oper} {a : Act} {Q : Exit → Act → World → Prop} (s x : Operand) (w0 : World) (base : Nat) (v : Value) (l : List B) (k : B) (W : World) (hgd : o.guard = none)
  (ho : o.op = .call { callee := .builtin .append, args := #[s, x], argTypes := #[24, 24] }) (hs : a.eval s = v) (hx : a.eval x = .slice (some ⟨W.heap.size, 0, none⟩) 1 1)
  (hrow : Row base W v l) (hl : l.length ≤ 1000000) (hbase : base ≤ W.heap.size) (hxt : Ext w0 W) (hb0 : w0.heap.size ≤ base)
  (hK : ∀ g cap w', Hid (Row base w' (.slice (some ⟨g, 0, none⟩) (l.length + 1) cap) (l ++ [k])) → Hid (Ext w0 w') → Hid (W.grownBy w' v.ownBlock) →
   wpList P ops Q rest (a.put o.dst (.slice (some ⟨g, 0, none⟩) (l.length + 1) cap)) w') :
  wpList P ops Q (o :: rest) a (W.alloc (.cells #[S k] 9 (0, 0))) := by
 subst hP
 refine wpList_appS (fun s => [S s]) 24 9 1 16 _ infoStr Tryz.underlying24 rfl (by decide) (fun _ => rfl) (fun _ u hu => by cases List.mem_singleton.1 hu; rfl) (by decide) s x base v l k W _ rfl hgd ho hs hx (by rw [flat_one]; exact hrow) hl hbase ?_
 intro g cap w' h1 h2 h3
 rw [flat_one] at h1
 refine hK g cap w' (Lib.hid ?_) (Lib.hid (grown_ext hxt (fun i hi => Nat.le_trans hb0 (hrow.base i hi)) h2)) (Lib.hid h2)
 show World.ownsRow _ _ _ _ _ (l ++ [k]).length _
 rw [List.length_append]
 exact h1

theorem wpTexts {P : Program} (hP : P = Tryz.prog) {ops : Array Oper} {rest : List Oper} {o : Oper} {a : Act} {Q : Exit → Act → World → Prop} (s x : Operand) (w0 : World) (base : Nat) (v vx : Value) (l k : List B) (W : World) (hgd : o.guard = none)
  (ho : o.op = .call { callee := .builtin .append, args := #[s, x], argTypes := #[24, 24] }) (hs : a.eval s = v) (hx : a.eval x = vx) (hrd : Rd S W vx k) (hnz : vx.ownBlock = none → vx = .slice none 0 0)
  (hrow : Row base W v l) (hl : l.length + k.length ≤ 1000000) (hbase : base ≤ W.heap.size) (hxt : Ext w0 W) (hb0 : w0.heap.size ≤ base)
  (hK : ∀ ao m cap w', m = (l ++ k).length → Hid (Row base w' (.slice ao m cap) (l ++ k)) → Hid (Ext w0 w') → Hid (W.grownBy w' v.ownBlock) →
   wpList P ops Q rest (a.put o.dst (.slice ao m cap)) w') :
  wpList P ops Q (o :: rest) a W := by
 subst hP
 obtain ⟨ao, c, rfl, hcap, hml, hc⟩ := hrd
 refine wpList_appL (fun s => [S s]) 24 9 1 16 _ infoStr Tryz.underlying24 rfl (by decide) (fun _ => rfl) (fun _ u hu => by cases List.mem_singleton.1 hu; rfl) (by decide) s x base v l k W hgd ho hs ao k.length c hx rfl ?_ (by rw [flat_one]; exact hrow) hl hbase ?_
 ·cases ao with
  | none =>
   have hz := hnz rfl
   cases k with
   | nil => cases hz; exact .inl ⟨rfl, rfl, rfl⟩
   | cons y k => obtain ⟨_, _, h, _⟩ := hc (by simp); cases h
  | some ad =>
   refine .inr ⟨ad, rfl, fun j u hu => ?_⟩
   cases k with
   | nil => simp at hu
   | cons y k =>
    obtain ⟨b, off, h, hcell⟩ := hc (by simp)
    cases h
    rw [flat_one, List.getElem?_map] at hu
    cases hq : (y :: k)[j]? with
    | none => rw [hq] at hu; cases hu
    | some z =>
     rw [hq] at hu
     cases hu
     rw [addrAdd]
     exact hcell j z hq
 ·intro ao' m' cap w' hm' h1 h2 h3
  rw [flat_one] at h1
  exact hK ao' m' cap w' hm' (Lib.hid h1) (Lib.hid (grown_ext hxt (fun i hi => Nat.le_trans hb0 (hrow.base i hi)) h2)) (Lib.hid h2)

theorem Row.nz {base : Nat} {w : World} {v : Value} {l : List B} (h : Row base w v l) : v.ownBlock = none → v = .slice none 0 0 := by
 intro hn
 rcases h.2 with ⟨h1, _⟩ | ⟨g, cap, cur, rfl, _⟩
 ·exact h1
 ·cases hn

def linesB (s : B) : List B := if (cutc 10 s).getLast? = some [] then (cutc 10 s).dropLast else cutc 10 s
def endedB (l : List B) : B := l.flatMap (· ++ [10])
def allB (l : List B) : List B := l.flatMap linesB

theorem ended_step {l : List B} {j : Nat} {x : B} (h : l[j]? = some x) : endedB (l.take (j + 1)) = endedB (l.take j) ++ (x ++ [10]) := by
 unfold endedB
 rw [List.take_add_one, h]
 simp
theorem all_step {l : List B} {j : Nat} {x : B} (h : l[j]? = some x) : allB (l.take (j + 1)) = allB (l.take j) ++ linesB x := by
 unfold allB
 rw [List.take_add_one, h]
 simp

theorem ended_cons (x : B) (l : List B) : endedB (x :: l) = x ++ [10] ++ endedB l := by simp [endedB]
theorem ended_app (a b : List B) : endedB (a ++ b) = endedB a ++ endedB b := by simp [endedB]
theorem ended_sub {a b : List B} (h : a.Sublist b) : (endedB a).length ≤ (endedB b).length := by
 induction h with
 | slnil => exact Nat.le_refl _
 | cons x _ ih => rw [ended_cons]; simp; omega
 | cons_cons x _ ih => rw [ended_cons, ended_cons]; simp; omega
theorem ended_mem {x : B} {l : List B} (h : x ∈ l) : x.length ≤ (endedB l).length := by
 have := ended_sub (List.singleton_sublist.2 h)
 rw [ended_cons] at this
 simp at this
 omega
theorem ended_perm {a b : List B} (h : a.Perm b) : (endedB a).length = (endedB b).length := by
 unfold endedB
 exact (h.flatMap_right _).length_eq
theorem ended_join : ∀ {l : List B}, l ≠ [] → endedB l = joinc 10 l ++ [10]
 | [x], _ => by simp [endedB, joinc_one]
 | x :: y :: l, _ => by rw [ended_cons, ended_join (l := y :: l) (by simp), joinc_cons]; simp
theorem ended_cut (s : B) : endedB (cutc 10 s) = s ++ [10] := by rw [ended_join (cutc_ne 10 s), join_cut_c]
theorem linesB_sub (s : B) : (linesB s).Sublist (cutc 10 s) := by
 unfold linesB
 split
 ·exact List.dropLast_sublist _
 ·exact List.Sublist.refl _
theorem ended_lines (s : B) : (endedB (linesB s)).length ≤ s.length + 1 := by
 have := ended_sub (linesB_sub s)
 rw [ended_cut] at this
 simpa using this
def sumLen (l : List B) : Nat := (l.map List.length).sum
theorem sum_cons (x : B) (l : List B) : sumLen (x :: l) = x.length + sumLen l := by simp [sumLen]
theorem sum_mem {x : B} : ∀ {l : List B}, x ∈ l → x.length ≤ sumLen l
 | y :: l, h => by
  rw [sum_cons]
  rcases List.mem_cons.1 h with rfl | h
  ·omega
  ·have := sum_mem h; omega
theorem sum_take (l : List B) : ∀ j, sumLen (l.take j) ≤ sumLen l := by
 induction l with
 | nil => intro j; simp [sumLen]
 | cons x l ih =>
  intro j
  cases j with
  | zero => simp [sumLen]
  | succ j => rw [List.take_succ_cons, sum_cons, sum_cons]; have := ih j; omega
theorem sum_step {l : List B} {j : Nat} {x : B} (h : l[j]? = some x) : sumLen (l.take (j + 1)) = sumLen (l.take j) + x.length := by
 unfold sumLen
 rw [List.take_add_one, h]
 simp
theorem ended_all : ∀ (l : List B), (endedB (allB l)).length ≤ sumLen l + l.length
 | [] => by simp [allB, endedB]
 | x :: l => by
  have := ended_all l
  have h2 := ended_lines x
  rw [show allB (x :: l) = linesB x ++ allB l from rfl, ended_app, List.length_append, sum_cons, List.length_cons]
  omega
theorem len_ended (l : List B) : l.length ≤ (endedB l).length := by
 induction l with
 | nil => exact Nat.le_refl _
 | cons x l ih => rw [ended_cons]; simp; omega

inductive Kd where
 | write | join | upper | lines | sort | count | swap | head
def kinds : List (B × Kd) := [([104, 101, 97, 100], .head), ([115, 119, 97, 112], .swap), ([99, 111, 117, 110, 116], .count), ([115, 111, 114, 116], .sort), ([108, 105, 110, 101, 115], .lines), ([117, 112, 112, 101, 114], .upper), ([106, 111, 105, 110], .join), ([119, 114, 105, 116, 101], .write)]

def Kd.least : Kd → Nat
 | .write => 0
 | _ => 1
def Kd.most : Kd → Nat
 | .write => 0
 | .join | .sort | .count => 8
 | _ => 1
def pairB (s : B) : Bool := s.count 61 == 1 && !(s.head? == some 61)
def Kd.word : Kd → B → Bool
 | .write, _ | .join, _ | .lines, _ => true
 | .upper, s | .count, s => s == []
 | .sort, s => s == [] || s == [111, 110, 99, 101]
 | .swap, s => pairB s
 | .head, s => (numB 3 s).isSome
def upB (c : UInt8) : UInt8 := if 97 ≤ c.toNat ∧ c.toNat ≤ 122 then c - 97 + 65 else c
def sortB (l : List B) : List B := l.mergeSort fun x y => decide (x ≤ y)
def sortedB (w : B) (l : List B) : List B := if w = [111, 110, 99, 101] then Lib.compact (sortB l) else sortB l
def hasB (w s : B) : Bool := Lib.contains s w
def Kd.run : Kd → B → List B → B
 | .write, w, _ => w
 | .join, w, l => Lib.join l w
 | .upper, _, l => (l.headD []).map upB
 | .lines, w, l => endedB ((linesB (l.headD [])).filter (hasB w))
 | .sort, w, l => endedB (sortedB w (allB l))
 | .count, _, l => Lib.decDigits (allB l).length ++ 32 :: Lib.decDigits (sumLen l) ++ [10]
 | .swap, w, l => Lib.replaceAll (l.headD []) (cut1 61 w).1 (cut1 61 w).2.1
 | .head, w, l => endedB ((linesB (l.headD [])).take ((numB 3 w).getD 0))

def actCode (name word : B) (n : Nat) : Nat :=
 match kinds.lookup name with
 | none => 5
 | some k => if n < k.least ∨ k.most < n ∨ k.word word = false then 3 else if 100 < word.length then 10 else 0
def actOut (name word : B) (l : List B) : B :=
 match kinds.lookup name with
 | none => []
 | some k => k.run word l
def runCode (name word : B) (l : List B) : Nat := if actCode name word l.length = 0 then (if 2000 < (actOut name word l).length then 10 else 0) else actCode name word l.length
def runOut (name word : B) (l : List B) : B := if runCode name word l = 0 then actOut name word l else []
end Go.Proofs.YtnmhaipjfpongabGreatDoor

namespace Go.Proofs.YtnmhaipjfpongabGreatDoor
open Go.ChangeShapes Go.WideShapes Go.ChangeAt Go.RowKit

theorem digit_ne {k : Nat} (h : k < 10) : UInt8.ofNat (48 + k) ≠ 58 := by
 intro e
 have := congrArg UInt8.toNat e
 simp at this
 omega

theorem digit_inj {a b : Nat} (ha : a < 10) (hb : b < 10) (e : UInt8.ofNat (48 + a) = UInt8.ofNat (48 + b)) : a = b := by
 have := congrArg UInt8.toNat e
 simp only [UInt8.toNat_ofNat'] at this
 omega

theorem dec_no (u : Nat) : (58 : UInt8) ∉ Lib.decDigits u := by
 induction u using Nat.strongRecOn with
 | _ u ih =>
  by_cases h : u < 10
  ·rw [Lib.decDigits_one h, List.mem_singleton]
   exact fun e => digit_ne h e.symm
  ·rw [Lib.decDigits, dif_neg h, List.mem_append, List.mem_singleton]
   rintro (e | e)
   ·exact ih (u / 10) (by omega) e
   ·exact digit_ne (Nat.mod_lt u (by decide)) e.symm

theorem dec_neK (u : Nat) : Lib.decDigits u ≠ [] := by
 by_cases h : u < 10
 ·rw [Lib.decDigits_one h]; simp
 ·rw [Lib.decDigits, dif_neg h]; simp

theorem dec_inj : ∀ (u v : Nat), Lib.decDigits u = Lib.decDigits v → u = v := by
 intro u
 induction u using Nat.strongRecOn with
 | _ u ih =>
  intro v e
  by_cases h : u < 10
  ·by_cases h' : v < 10
   ·rw [Lib.decDigits_one h, Lib.decDigits_one h'] at e
    exact digit_inj h h' (by simpa using e)
   ·rw [Lib.decDigits_one h, Lib.decDigits.eq_def v, dif_neg h'] at e
    have := congrArg List.length e
    simp at this
    exact absurd this (dec_neK (v / 10))
  ·by_cases h' : v < 10
   ·rw [Lib.decDigits_one h', Lib.decDigits.eq_def u, dif_neg h] at e
    have := congrArg List.length e
    simp at this
    exact absurd this (dec_neK (u / 10))
   ·rw [Lib.decDigits.eq_def u, Lib.decDigits.eq_def v, dif_neg h, dif_neg h'] at e
    obtain ⟨e1, e2⟩ := List.append_inj' e rfl
    have i1 := ih (u / 10) (by omega) (v / 10) e1
    have i2 := digit_inj (Nat.mod_lt u (by decide)) (Nat.mod_lt v (by decide)) (by simpa using e2)
    omega

theorem split_at {x : UInt8} : ∀ {d d' a a' : B}, x ∉ d → x ∉ d' → d ++ x :: a = d' ++ x :: a' → d = d' ∧ a = a'
 | [], [], a, a', _, _, e => ⟨rfl, by simpa using e⟩
 | [], y :: d', a, a', _, h', e => by
  have : x = y := by simpa using congrArg List.head? e
  exact absurd (this ▸ List.mem_cons_self) h'
 | y :: d, [], a, a', h, _, e => by
  have : y = x := by simpa using congrArg List.head? e
  exact absurd (this ▸ List.mem_cons_self) h
 | y :: d, z :: d', a, a', h, h', e => by
  rw [List.cons_append, List.cons_append, List.cons.injEq] at e
  obtain ⟨rfl, e⟩ := e
  obtain ⟨rfl, rfl⟩ := split_at (fun hm => h (List.mem_cons_of_mem _ hm)) (fun hm => h' (List.mem_cons_of_mem _ hm)) e
  exact ⟨rfl, rfl⟩

theorem cnt_parse {s t r r' : B} (e : cnt s ++ r = cnt t ++ r') : s = t ∧ r = r' := by
 unfold cnt at e
 rw [List.append_assoc, List.append_assoc, List.cons_append, List.cons_append] at e
 obtain ⟨e1, e2⟩ := split_at (dec_no _) (dec_no _) e
 exact List.append_inj e2 (dec_inj _ _ e1)

theorem cnt_ne (s r : B) : cnt s ++ r ≠ [] := by simp [cnt]

theorem flat_inj : ∀ {l l' : List B}, l.flatMap cnt = l'.flatMap cnt → l = l'
 | [], [], _ => rfl
 | [], y :: l', e => by rw [List.flatMap_cons] at e; exact absurd e.symm (cnt_ne _ _)
 | x :: l, [], e => by rw [List.flatMap_cons] at e; exact absurd e (cnt_ne _ _)
 | x :: l, y :: l', e => by
  rw [List.flatMap_cons, List.flatMap_cons] at e
  obtain ⟨h1, h2⟩ := cnt_parse e
  rw [h1, flat_inj h2]

theorem keyT_inj {k w k' w' : B} {l l' : List B} (e : keyT k w l = keyT k' w' l') : k = k' ∧ w = w' ∧ l = l' := by
 unfold keyT at e
 rw [List.append_assoc, List.append_assoc] at e
 obtain ⟨h1, h2⟩ := cnt_parse e
 obtain ⟨h3, h4⟩ := cnt_parse h2
 exact ⟨h1, h3, flat_inj h4⟩
end Go.Proofs.YtnmhaipjfpongabGreatDoor

namespace Go.Proofs.YtnmhaipjfpongabGreatDoor
open Go.ChangeShapes Go.WideShapes Go.ChangeAt Go.RowKit

set_option maxRecDepth 100000 in
theorem mapsClone_any (b : Nat) (es : Array MapEntry) (clock : Nat) (w : World) (hb : w.heap[b]? = some (.map es clock)) :
  Calls Tryz.prog 195 #[.map (some b)] w fun e w' => e = .returned (.map (some w.heap.size)) ∧ w' = w.alloc (.map es clock) := by
 have hq := fun w => run_eql_map_nil_sl (P := Tryz.prog) w 156 _ _ (some b) Tryz.underlying156
 go_enter Tryz.func195, Tryz.ntmps195
 go_wp2
 rw [run_callFunc_extern Tryz.func257 (by kernel_rfl) (by kernel_rfl) (by kernel_rfl) (e := Extern.MapsClone.clone) (by kernel_rfl), run_maps_clone_sl w 156 hb]
 simp only [Result.andThen]
 rw [Oper.upon_value]
 go_wp2
 rw [run_typeAssert_map_sl _ 156 _ _ _ _ Tryz.underlying156]
 simp only [Result.andThen]
 rw [Oper.upon_value]
 go_wp2
 go_ret
 exact ⟨rfl, rfl⟩

def CopyIs (w : World) (L : FL) (e : Ending) (w' : World) : Prop := e = .returned (.pointer (some ⟨w.heap.size + 1, 0, none⟩)) ∧ TreeAt w' (w.heap.size + 1) w.heap.size L ∧ Ext w w' ∧ w'.heap.size = w.heap.size + 2
theorem treeCopy_any (w : World) (b mb : Nat) (L : FL) (h : TreeAt w b mb L) : Calls Tryz.prog 121 #[.pointer (some ⟨b, 0, none⟩)] w (CopyIs w L) := by
 have c0 := h.mapCell
 obtain ⟨es, clock, hb, hp⟩ := h.map
 have HC := Lib.hid (mapsClone_any mb es clock w hb)
 have HM : Hid (KMap .string S S (w.alloc (.map es clock)) w.heap.size L) := Lib.hid ⟨es, clock, (MapKept.heap_alloc w _).1, hp⟩
 clear h hb hp
 go_enter Tryz.func121, Tryz.ntmps121
 go_wp2_with fail
 refine HC.out.mono ?_
 rintro e w1 ⟨rfl, rfl⟩
 go_wp2_with fail
 go_ret
 refine ⟨by simp, ⟨?_, HM.out.later (Only.alloc (fun _ => False) _ _) (fun h => h)⟩, (Only.alloc _ _ _).thenAlloc _, by simp⟩
 simpa using (MapKept.heap_alloc (w.alloc (.map es clock)) (.cells #[.map (some w.heap.size)] 158 (0, 0))).1
end Go.Proofs.YtnmhaipjfpongabGreatDoor

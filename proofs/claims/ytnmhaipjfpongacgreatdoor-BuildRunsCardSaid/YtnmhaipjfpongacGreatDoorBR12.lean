/- Texts of this seat laid together for one claim: V12, F0, W2, W8, V15, Z16. No condition of its own: what each proves stands with its theorems. -/
import Derived.Ground.GgzProg
import Derived.Ground.SlgmProg
import Derived.Shelf.SlIter.Nil
import Derived.Shelf.SortM.Plain
import Derived.Shelf.SortM.SortNone
import Derived.Test.YtnmhaipjfpongacGreatDoorProg
import Derived.Test.YtnmhaipjfpongacGreatDoorBR11
import Derived.Test.YtnmhaipjfpongacGreatDoorBR9
import Derived.Test.YtnmhaipjfpongacGreatDoorBR8
import Derived.Lib.SlicesCompact
import Derived.Deep.AppendLies
import Derived.Deep.RegionHeld3
import Derived.Deep.RegionLaw
import Derived.Test.YtnmhaipjfpongacGreatDoorBR10
import Derived.Shelf.SlMaps.Clone
namespace Go.Proofs.YtnmhaipjfpongacGreatDoor
open Go.ChangeShapes Go.WideShapes Go.ChangeAt Go.RowKit

abbrev IsBF (n0 b : Nat) (l : B) (w : World) : Prop := Lib.IsBuilderF 169 5 n0 b (Lib.byteCells l) w

theorem builderAtF_ext {n0 b : Nat} {p : Value} {bs : List Value} {w w' : World} (h : Lib.BuilderAtF 169 5 n0 b p bs w) (ho : Ext w w') : Lib.BuilderAtF 169 5 n0 b p bs w' := by
 obtain ⟨h1, v, h2, h3, h4⟩ := h
 refine ⟨h1, v, ho.heapOf h2 (fun h => h), ?_, h4⟩
 obtain ⟨h5, h6⟩ := h3
 refine ⟨h5, ?_⟩
 rcases h6 with h6 | ⟨g, cap, cur, fz, h7, h8, h9, h10⟩
 ·exact .inl h6
 ·exact .inr ⟨g, cap, cur, fz, h7, h8, ho.heapOf h9 (fun h => h), h10⟩

theorem IsBF.ext {n0 b : Nat} {l : B} {w w' : World} (h : IsBF n0 b l w) (ho : Ext w w') : IsBF n0 b l w' := by
 rcases h with h | h
 ·exact .inl (builderAtF_ext h ho)
 ·exact .inr (builderAtF_ext h ho)

theorem IsBF.fresh (w : World) : IsBF w.heap.size w.heap.size [] (w.alloc (.cells #[.pointer none, .slice none 0 0] 169 (0, 0))) :=
 .inl (Lib.BuilderAtF.of ⟨Nat.le_refl _, .slice none 0 0, (MapKept.heap_alloc w _).1, World.ownsRow_nil _ _ _ _, by intro h; cases h⟩)

def TextsKept (w w' : World) : Prop := ∀ (k : Nat) (cs : Array Value) (fz : Nat × Nat), w.heap[k]? = some (.cells cs 9 fz) → w'.heap[k]? = some (.cells cs 9 fz)

theorem TextsKept.ext {a w w' : World} (h : TextsKept a w) (ho : Ext w w') : TextsKept a w' := fun k cs fz hk => ho.heapOf (h k cs fz hk) (fun h => h)

theorem writeK_any (n0 b : Nat) (l s : B) (w : World) (h : IsBF n0 b l w) (hlen : l.length + s.length ≤ 140737488355328) (hBw : n0 ≤ w.heap.size) :
  Calls Tryz.prog 106 #[.pointer (some ⟨b, 0, none⟩), S s] w fun e w' => e = .returned (.tuple #[I s.length, .nilIface]) ∧ IsBF n0 b (l ++ s) w' ∧ Below n0 w w' ∧ Lib.OthersKept 5 (some b) w w' := by
 have hsz : (⟨s.toArray⟩ : ByteArray).size = s.length := by simp [ByteArray.size]
 refine (Any.Builder_WriteString_k { Tryz.lays156 with } Tryz.Builder_Extra_156 n0 b (Lib.byteCells l) ⟨s.toArray⟩ w h (by rw [Lib.byteCells_length, hsz]; exact hlen) hBw).mono ?_
 rintro e w' ⟨rfl, h1, h2, h3⟩
 refine ⟨by rw [hsz], .inr ?_, h2, h3⟩
 have e1 : Lib.byteCells l ++ Lib.strCells ⟨s.toArray⟩ = Lib.byteCells (l ++ s) := by rw [Lib.strCells_eq]; simp [Lib.byteCells]
 rw [← e1]
 exact h1

end Go.Proofs.YtnmhaipjfpongacGreatDoor

namespace Go.Proofs.YtnmhaipjfpongacGreatDoor
open Go.ChangeShapes Go.WideShapes Go.ChangeAt Go.RowKit

def RetE (v : Value) (w : World) (e : Ending) (w' : World) : Prop := e = .returned v ∧ Ext w w'
abbrev Row (base : Nat) (w : World) (v : Value) (l : List B) : Prop := w.ownsRow base 9 1 v l.length (l.map S)
def RetRow (l : List B) (w : World) (e : Ending) (w' : World) : Prop := ∃ v, e = .returned v ∧ Ext w w' ∧ Row w.heap.size w' v l

theorem Row.ext {base : Nat} {w w' : World} {v : Value} {l : List B} (h : Row base w v l) (ho : Ext w w') : Row base w' v l := ho.row h fun _ _ h => h
theorem Row.rd {base : Nat} {w : World} {v : Value} {l : List B} (h : Row base w v l) : Rd S w v l := Rd.of_row h
theorem Row.nil (base : Nat) (w : World) : Row base w (.slice none 0 0) [] := World.ownsRow_nil _ _ _ _
theorem Row.base {base : Nat} {w : World} {v : Value} {l : List B} (h : Row base w v l) : ∀ i, v.ownBlock = some i → base ≤ i := fun i hi => (h.lt i hi).1

theorem grown_ext {w0 wr w' : World} (I : Ext w0 wr) {v : Value} (hv : ∀ i, v.ownBlock = some i → w0.heap.size ≤ i) (hg : wr.grownBy w' v.ownBlock) : Ext w0 w' :=
 I.thenGrown hg fun i hi => .inr (hv i hi)

theorem addrAdd (b off j : Nat) : (⟨b, off, none⟩ : Addr).add j = ⟨b, off + j, none⟩ := by cases j <;> simp [Addr.add]

theorem wpText {P : Program} (hP : P = Tryz.prog) {ops : Array Oper} {rest : List Oper} {o : Oper} {a : Act} {Q : Exit → Act → World → Prop} (s x : Operand) (w0 : World) (base : Nat) (v : Value) (l : List B) (k : B) (W : World) (hgd : o.guard = none)
  (ho : o.op = .call { callee := .builtin .append, args := #[s, x], argTypes := #[53, 53] }) (hs : a.eval s = v) (hx : a.eval x = .slice (some ⟨W.heap.size, 0, none⟩) 1 1)
  (hrow : Row base W v l) (hl : l.length ≤ 1000000) (hbase : base ≤ W.heap.size) (hxt : Ext w0 W) (hb0 : w0.heap.size ≤ base)
  (hK : ∀ g cap w', Hid (Row base w' (.slice (some ⟨g, 0, none⟩) (l.length + 1) cap) (l ++ [k])) → Hid (Ext w0 w') → Hid (W.grownBy w' v.ownBlock) →
   wpList P ops Q rest (a.put o.dst (.slice (some ⟨g, 0, none⟩) (l.length + 1) cap)) w') :
  wpList P ops Q (o :: rest) a (W.alloc (.cells #[S k] 9 (0, 0))) := by
 subst hP
 refine wpList_appS (fun s => [S s]) 53 9 1 16 _ infoStr Tryz.underlying53 rfl (by decide) (fun _ => rfl) (fun _ u hu => by cases List.mem_singleton.1 hu; rfl) (by decide) s x base v l k W _ rfl hgd ho hs hx (by rw [flat_one]; exact hrow) hl hbase ?_
 intro g cap w' h1 h2 h3
 rw [flat_one] at h1
 refine hK g cap w' (Lib.hid ?_) (Lib.hid (grown_ext hxt (fun i hi => Nat.le_trans hb0 (hrow.base i hi)) h2)) (Lib.hid h2)
 show World.ownsRow _ _ _ _ _ (l ++ [k]).length _
 rw [List.length_append]
 exact h1

theorem wpTexts {P : Program} (hP : P = Tryz.prog) {ops : Array Oper} {rest : List Oper} {o : Oper} {a : Act} {Q : Exit → Act → World → Prop} (s x : Operand) (w0 : World) (base : Nat) (v vx : Value) (l k : List B) (W : World) (hgd : o.guard = none)
  (ho : o.op = .call { callee := .builtin .append, args := #[s, x], argTypes := #[53, 53] }) (hs : a.eval s = v) (hx : a.eval x = vx) (hrd : Rd S W vx k) (hnz : vx.ownBlock = none → vx = .slice none 0 0)
  (hrow : Row base W v l) (hl : l.length + k.length ≤ 1000000) (hbase : base ≤ W.heap.size) (hxt : Ext w0 W) (hb0 : w0.heap.size ≤ base)
  (hK : ∀ ao m cap w', m = (l ++ k).length → Hid (Row base w' (.slice ao m cap) (l ++ k)) → Hid (Ext w0 w') → Hid (W.grownBy w' v.ownBlock) →
   wpList P ops Q rest (a.put o.dst (.slice ao m cap)) w') :
  wpList P ops Q (o :: rest) a W := by
 subst hP
 obtain ⟨ao, c, rfl, hcap, hml, hc⟩ := hrd
 refine wpList_appL (fun s => [S s]) 53 9 1 16 _ infoStr Tryz.underlying53 rfl (by decide) (fun _ => rfl) (fun _ u hu => by cases List.mem_singleton.1 hu; rfl) (by decide) s x base v l k W hgd ho hs ao k.length c hx rfl ?_ (by rw [flat_one]; exact hrow) hl hbase ?_
 ·cases ao with
  | none =>
   have hz := hnz rfl
   cases k with
   | nil => cases hz; exact .inl ⟨rfl, rfl, rfl⟩
   | cons y k => obtain ⟨_, _, h, _⟩ := hc (by simp); cases h
  | some ad =>
   refine .inr ⟨ad, rfl, fun j u hu => ?_⟩
   cases k with
   | nil => simp at hu
   | cons y k =>
    obtain ⟨b, off, h, hcell⟩ := hc (by simp)
    cases h
    rw [flat_one, List.getElem?_map] at hu
    cases hq : (y :: k)[j]? with
    | none => rw [hq] at hu; cases hu
    | some z =>
     rw [hq] at hu
     cases hu
     rw [addrAdd]
     exact hcell j z hq
 ·intro ao' m' cap w' hm' h1 h2 h3
  rw [flat_one] at h1
  exact hK ao' m' cap w' hm' (Lib.hid h1) (Lib.hid (grown_ext hxt (fun i hi => Nat.le_trans hb0 (hrow.base i hi)) h2)) (Lib.hid h2)

theorem Row.nz {base : Nat} {w : World} {v : Value} {l : List B} (h : Row base w v l) : v.ownBlock = none → v = .slice none 0 0 := by
 intro hn
 rcases h.2 with ⟨h1, _⟩ | ⟨g, cap, cur, rfl, _⟩
 ·exact h1
 ·cases hn

def linesB (s : B) : List B := if (cutc 10 s).getLast? = some [] then (cutc 10 s).dropLast else cutc 10 s
def endedB (l : List B) : B := l.flatMap (· ++ [10])
def allB (l : List B) : List B := l.flatMap linesB

theorem ended_step {l : List B} {j : Nat} {x : B} (h : l[j]? = some x) : endedB (l.take (j + 1)) = endedB (l.take j) ++ (x ++ [10]) := by
 unfold endedB
 rw [List.take_add_one, h]
 simp
theorem all_step {l : List B} {j : Nat} {x : B} (h : l[j]? = some x) : allB (l.take (j + 1)) = allB (l.take j) ++ linesB x := by
 unfold allB
 rw [List.take_add_one, h]
 simp

theorem ended_cons (x : B) (l : List B) : endedB (x :: l) = x ++ [10] ++ endedB l := by simp [endedB]
theorem ended_app (a b : List B) : endedB (a ++ b) = endedB a ++ endedB b := by simp [endedB]
theorem ended_sub {a b : List B} (h : a.Sublist b) : (endedB a).length ≤ (endedB b).length := by
 induction h with
 | slnil => exact Nat.le_refl _
 | cons x _ ih => rw [ended_cons]; simp; omega
 | cons_cons x _ ih => rw [ended_cons, ended_cons]; simp; omega
theorem ended_mem {x : B} {l : List B} (h : x ∈ l) : x.length ≤ (endedB l).length := by
 have := ended_sub (List.singleton_sublist.2 h)
 rw [ended_cons] at this
 simp at this
 omega
theorem ended_perm {a b : List B} (h : a.Perm b) : (endedB a).length = (endedB b).length := by
 unfold endedB
 exact (h.flatMap_right _).length_eq
theorem ended_join : ∀ {l : List B}, l ≠ [] → endedB l = joinc 10 l ++ [10]
 | [x], _ => by simp [endedB, joinc_one]
 | x :: y :: l, _ => by rw [ended_cons, ended_join (l := y :: l) (by simp), joinc_cons]; simp
theorem ended_cut (s : B) : endedB (cutc 10 s) = s ++ [10] := by rw [ended_join (cutc_ne 10 s), join_cut_c]
theorem linesB_sub (s : B) : (linesB s).Sublist (cutc 10 s) := by
 unfold linesB
 split
 ·exact List.dropLast_sublist _
 ·exact List.Sublist.refl _
theorem ended_lines (s : B) : (endedB (linesB s)).length ≤ s.length + 1 := by
 have := ended_sub (linesB_sub s)
 rw [ended_cut] at this
 simpa using this
def sumLen (l : List B) : Nat := (l.map List.length).sum
theorem sum_cons (x : B) (l : List B) : sumLen (x :: l) = x.length + sumLen l := by simp [sumLen]
theorem sum_mem {x : B} : ∀ {l : List B}, x ∈ l → x.length ≤ sumLen l
 | y :: l, h => by
  rw [sum_cons]
  rcases List.mem_cons.1 h with rfl | h
  ·omega
  ·have := sum_mem h; omega
theorem sum_take (l : List B) : ∀ j, sumLen (l.take j) ≤ sumLen l := by
 induction l with
 | nil => intro j; simp [sumLen]
 | cons x l ih =>
  intro j
  cases j with
  | zero => simp [sumLen]
  | succ j => rw [List.take_succ_cons, sum_cons, sum_cons]; have := ih j; omega
theorem sum_step {l : List B} {j : Nat} {x : B} (h : l[j]? = some x) : sumLen (l.take (j + 1)) = sumLen (l.take j) + x.length := by
 unfold sumLen
 rw [List.take_add_one, h]
 simp
theorem ended_all : ∀ (l : List B), (endedB (allB l)).length ≤ sumLen l + l.length
 | [] => by simp [allB, endedB]
 | x :: l => by
  have := ended_all l
  have h2 := ended_lines x
  rw [show allB (x :: l) = linesB x ++ allB l from rfl, ended_app, List.length_append, sum_cons, List.length_cons]
  omega
theorem len_ended (l : List B) : l.length ≤ (endedB l).length := by
 induction l with
 | nil => exact Nat.le_refl _
 | cons x l ih => rw [ended_cons]; simp; omega

inductive Kd where
 | write | join | upper | lines | sort | count | swap | head
def kinds : List (B × Kd) := [([104, 101, 97, 100], .head), ([115, 119, 97, 112], .swap), ([99, 111, 117, 110, 116], .count), ([115, 111, 114, 116], .sort), ([108, 105, 110, 101, 115], .lines), ([117, 112, 112, 101, 114], .upper), ([106, 111, 105, 110], .join), ([119, 114, 105, 116, 101], .write)]

def Kd.least : Kd → Nat
 | .write => 0
 | _ => 1
def Kd.most : Kd → Nat
 | .write => 0
 | .join | .sort | .count => 8
 | _ => 1
def pairB (s : B) : Bool := s.count 61 == 1 && !(s.head? == some 61)
def Kd.word : Kd → B → Bool
 | .write, _ | .join, _ | .lines, _ => true
 | .upper, s | .count, s => s == []
 | .sort, s => s == [] || s == [111, 110, 99, 101]
 | .swap, s => pairB s
 | .head, s => (numB 3 s).isSome
def upB (c : UInt8) : UInt8 := if 97 ≤ c.toNat ∧ c.toNat ≤ 122 then c - 97 + 65 else c
def sortB (l : List B) : List B := l.mergeSort fun x y => decide (x ≤ y)
def sortedB (w : B) (l : List B) : List B := if w = [111, 110, 99, 101] then Lib.compact (sortB l) else sortB l
def hasB (w s : B) : Bool := Lib.contains s w
def Kd.run : Kd → B → List B → B
 | .write, w, _ => w
 | .join, w, l => Lib.join l w
 | .upper, _, l => (l.headD []).map upB
 | .lines, w, l => endedB ((linesB (l.headD [])).filter (hasB w))
 | .sort, w, l => endedB (sortedB w (allB l))
 | .count, _, l => Lib.decDigits (allB l).length ++ 32 :: Lib.decDigits (sumLen l) ++ [10]
 | .swap, w, l => Lib.replaceAll (l.headD []) (cut1 61 w).1 (cut1 61 w).2.1
 | .head, w, l => endedB ((linesB (l.headD [])).take ((numB 3 w).getD 0))

def actCode (name word : B) (n : Nat) : Nat :=
 match kinds.lookup name with
 | none => 5
 | some k => if n < k.least ∨ k.most < n ∨ k.word word = false then 3 else if 100 < word.length then 10 else 0
def actOut (name word : B) (l : List B) : B :=
 match kinds.lookup name with
 | none => []
 | some k => k.run word l
def runCode (name word : B) (l : List B) : Nat := if actCode name word l.length = 0 then (if 2000 < (actOut name word l).length then 10 else 0) else actCode name word l.length
def runOut (name word : B) (l : List B) : B := if runCode name word l = 0 then actOut name word l else []
end Go.Proofs.YtnmhaipjfpongacGreatDoor

namespace Go.Proofs.YtnmhaipjfpongacGreatDoor

instance (L : FL) : Decidable (Rising L) := inferInstanceAs (Decidable (List.Pairwise _ L))

theorem Rising.next {l : FL} (h : Rising l) {i : Nat} {x y : B × B} (hx : l[i]? = some x) (hy : l[i + 1]? = some y) : x.1 < y.1 := by
 obtain ⟨h1, rfl⟩ := List.getElem?_eq_some_iff.1 hx
 obtain ⟨h2, rfl⟩ := List.getElem?_eq_some_iff.1 hy
 exact List.pairwise_iff_getElem.1 h i (i + 1) h1 h2 (Nat.lt_succ_self i)

theorem dig_toNat {k : Nat} (h : k < 10) : (UInt8.ofNat (48 + k)).toNat = 48 + k := by
 have : ∀ k : Fin 10, (UInt8.ofNat (48 + k.val)).toNat = 48 + k.val := by decide +kernel
 exact this ⟨k, h⟩

theorem dec_all (u : Nat) : ∀ c ∈ Lib.decDigits u, 48 ≤ c.toNat ∧ c.toNat ≤ 57 := by
 induction u using Nat.strongRecOn with
 | _ u ih =>
  intro c hc
  by_cases h : u < 10
  ·rw [Lib.decDigits_one h, List.mem_singleton] at hc
   subst hc
   rw [dig_toNat h]; omega
  ·rw [Lib.decDigits, dif_neg h] at hc
   rcases List.mem_append.1 hc with hc | hc
   ·exact ih (u / 10) (by omega) c hc
   ·rw [List.mem_singleton] at hc
    subst hc
    rw [dig_toNat (Nat.mod_lt _ (by decide))]
    have := Nat.mod_lt u (show 0 < 10 by decide)
    omega

theorem dec_ne (u : Nat) : Lib.decDigits u ≠ [] := by
 have h1 := Lib.decDigits_length u
 have h2 := Lib.nDigits_pos u
 intro e
 rw [e] at h1
 simp at h1
 omega

theorem nDigits_le : ∀ (k u : Nat), 1 ≤ k → u < 10 ^ k → Lib.nDigits u ≤ k
 | 0, _, h, _ => absurd h (by decide)
 | k + 1, u, _, h => by
  by_cases h0 : u < 10
  ·rw [Lib.nDigits_small h0]; omega
  ·rw [Lib.nDigits_big h0]
   have hk : 1 ≤ k := by
    rcases Nat.eq_zero_or_pos k with e | e
    ·subst e; simp at h; omega
    ·exact e
   rw [Nat.pow_succ] at h
   have := nDigits_le k (u / 10) hk (by omega)
   omega

theorem parse_app {b : B} : ∀ {a : B} {acc v : Nat}, Lib.parseUint10 acc a = .ok v → Lib.parseUint10 acc (a ++ b) = Lib.parseUint10 v b
 | [], acc, v, h => by
  simp only [Lib.parseUint10] at h
  injection h with h
  rw [h]; rfl
 | c :: r, acc, v, h => by
  rw [List.cons_append]
  simp only [Lib.parseUint10] at h ⊢
  split at h
  ·rename_i hc
   rw [if_pos hc]
   split at h
   ·cases h
   ·rename_i h1
    rw [if_neg h1]
    split at h
    ·cases h
    ·rename_i h2
     rw [if_neg h2]
     exact parse_app h
  ·cases h

theorem parse_dec (u : Nat) : u < 1000000 → Lib.parseUint10 0 (Lib.decDigits u) = .ok u := by
 induction u using Nat.strongRecOn with
 | _ u ih =>
  intro hu
  by_cases h : u < 10
  ·rw [Lib.decDigits_one h]
   simp only [Lib.parseUint10, dig_toNat h]
   rw [if_pos (by omega), if_neg (by omega), if_neg (by omega)]
   congr 1; omega
  ·rw [Lib.decDigits, dif_neg h, parse_app (ih (u / 10) (by omega) (by omega))]
   have hm := Nat.mod_lt u (show 0 < 10 by decide)
   simp only [Lib.parseUint10, dig_toNat hm]
   rw [if_pos (by omega), if_neg (by omega), if_neg (by omega)]
   congr 1; omega

theorem num_dec {u : Nat} (h : u < 10000) : numB 4 (Lib.decDigits u) = some u := by
 have hp := parse_dec u (by omega)
 have hl : (Lib.decDigits u).length ≤ 4 := by rw [Lib.decDigits_length]; exact nDigits_le 4 u (by decide) h
 have ha : Lib.atoiAll (Lib.decDigits u) = .ok (u : Int) := by
  cases hd : Lib.decDigits u with
  | nil => exact absurd hd (dec_ne u)
  | cons c r =>
   have hc := dec_all u c (by rw [hd]; exact .head _)
   rw [hd] at hp
   have h1 : ¬ (c.toNat = 43 ∨ c.toNat = 45) := by omega
   have h2 : ¬ c.toNat = 45 := by omega
   simp only [Lib.atoiAll, Lib.parseMag, if_neg h1, hp]
   have h3 : ¬ (9223372036854775808 ≤ u) := by omega
   simp [h2, h3]
 unfold numB
 rw [ha]
 simp only
 rw [if_pos ⟨hl, by omega, rfl⟩]
 rfl

def Apart (L : FL) : Prop := ∀ q ∈ L, ∀ r ∈ L, aboveB q.1 r.1 = false

theorem aboveB_self (p : B) : aboveB p p = false := by
 unfold aboveB
 cases h : (p ++ [47]).isPrefixOf p with
 | false => rfl
 | true =>
  have := (List.isPrefixOf_iff_prefix.1 h).length_le
  rw [List.length_append] at this
  simp at this
  exact absurd this (by omega)

theorem Apart.nil : Apart [] := by intro q hq; simp at hq
theorem putCode_clash {L : FL} {p x : B} (h : putCode L p x = 0) : clash L p = false := by
 unfold putCode at h
 split at h
 ·split at h
  ·omega
  ·split at h
   ·omega
   ·rename_i h3; simpa using h3
 ·omega

theorem Apart.put {L : FL} (h : Apart L) (hr : Rising L) (p x : B) : Apart (putT L p x) := by
 unfold putT
 by_cases h0 : putCode L p x = 0
 ·rw [if_pos h0]
  have hc := putCode_clash h0
  unfold clash at hc
  rw [List.any_eq_false] at hc
  have key : ∀ q ∈ L, aboveB p q.1 = false ∧ aboveB q.1 p = false := fun q hq => by
   have := hc q hq
   simpa using this
  intro q hq r hr'
  rcases mem_set hr hq with rfl | hq
  ·rcases mem_set hr hr' with rfl | hr'
   ·exact aboveB_self _
   ·exact (key r hr').1
  ·rcases mem_set hr hr' with rfl | hr'
   ·exact (key q hq).2
   ·exact h q hq r hr'
 ·rw [if_neg h0]; exact h

end Go.Proofs.YtnmhaipjfpongacGreatDoor

namespace Go.Proofs.YtnmhaipjfpongacGreatDoor
open Go.ChangeShapes Go.WideShapes Go.ChangeAt Go.RowKit

theorem step_appS {P : Program} {α : Type} (enc : α → List Value) (t e : TypeId) (n by_ : Nat) (z : Value) (hinfo : (P.info? e).map (fun i => (i.zero, i.size, i.bytes)) = some (some z, n, by_)) (ht : P.underlying t = some (.slice e)) (hzs : z.cells.size = n) (hn0 : 0 < n)
  (hlen : ∀ x, (enc x).length = n) (h1c : ∀ x, ∀ u ∈ enc x, u.oneCell' = true) (hby : by_ ≤ 1000)
  {ops : Array Oper} {o : Oper} {a : Act} {K : Act → World → Prop} {Q : Exit → Act → World → Prop} {E : Prop} (s x : Operand) (base : Nat) (v : Value) (l : List α) (k : α) (W : World) (cs : Array Value) (hcs : cs.toList = enc k) (hgd : o.guard = none)
  (ho : o.op = .call { callee := .builtin .append, args := #[s, x], argTypes := #[t, t] }) (hs : a.eval s = v) (hx : a.eval x = .slice (some ⟨W.heap.size, 0, none⟩) 1 1)
  (hrow : W.ownsRow base e n v l.length (l.flatMap enc)) (hl : l.length ≤ 1000000) (hbase : base ≤ W.heap.size)
  (hK : ∀ g cap w', w'.ownsRow base e n (.slice (some ⟨g, 0, none⟩) (l.length + 1) cap) (l.length + 1) ((l ++ [k]).flatMap enc) → W.grownBy w' v.ownBlock → (∀ i, Value.ownBlock (.slice (some ⟨g, 0, none⟩) (l.length + 1) cap) = some i → v.ownBlock = some i ∨ W.heap.size ≤ i) →
   K (a.put o.dst (.slice (some ⟨g, 0, none⟩) (l.length + 1) cap)) w') :
  if Region.wanted o (yielded ops a.tmps) = true then Oper.wp P o a (W.alloc (.cells cs e (0, 0))) K Q else E := by
 obtain ⟨i0, hi, hz0, hz1, hz2⟩ := info_parts hinfo
 have hb : (l.length + 1) * by_ ≤ 1000001 * 1000 := Nat.mul_le_mul (by omega) hby
 refine step_append_lies _ hgd s x t ho base e i0 z n by_ ht hi hz0 hz1 hz2 hzs hn0 v l.length (l.flatMap enc) hs (hrow.alloc _) ⟨W.heap.size, 0, none⟩ 1 1 (enc k) hx (by rw [hlen, Nat.one_mul])
  (fun j u hu => cells_new W cs e j u (by rw [hcs]; exact hu)) (h1c k) (by decide) ?_ ?_ ?_ (W.heap.size + 1) (by simp) ?_
 ·unfold maxLen; omega
 ·omega
 ·simp; omega
 ·intro g cap w' hown hg hat hlt
  refine hK g cap w' (by simpa using hown) ?_ ?_
  ·exact ((Only.alloc (fun i => v.ownBlock = some i) W _).then (Only.of_grown hg)).grown
  ·intro i e
   cases e
   rcases hat with h | h
   ·exact .inl h
   ·exact .inr (by rw [h]; exact Nat.le_succ _)

end Go.Proofs.YtnmhaipjfpongacGreatDoor

namespace Go.Proofs.YtnmhaipjfpongacGreatDoor
open Go.ChangeShapes Go.WideShapes Go.ChangeAt Go.RowKit

structure TT (w0 wr : World) (b mb m : Nat) (slv : Value) (LT LM : FL) : Prop where
 ext : Ext w0 wr
 nb : w0.heap.size ≤ b
 nmb : w0.heap.size ≤ mb
 nm : w0.heap.size ≤ m
 tree : TreeAt wr b mb LT
 model : RTree wr w0.heap.size m slv LM

structure TA (e : TypeId) (w0 wr : World) (b mb m : Nat) (slv : Value) (LT LM : FL) (ha : Nat) (cs : Array Value) : Prop where
 tt : TT w0 wr b mb m slv LT LM
 act : wr.heap[ha]? = some (.cells cs e (0, 0))

theorem blocks_ne {w : World} {b b' : Nat} {cs cs' : Array Value} {e e' : TypeId} {fr fr' : Nat × Nat} (h : w.heap[b]? = some (.cells cs e fr)) (h' : w.heap[b']? = some (.cells cs' e' fr')) (hne : e ≠ e') : b ≠ b' := by
 rintro rfl
 rw [h] at h'
 cases h'
 exact hne rfl

section
variable {w0 wr w' : World} {b mb m : Nat} {slv : Value} {LT LM : FL} {ha : Nat} {cs : Array Value} {e : TypeId}

theorem TT.later (J : TT w0 wr b mb m slv LT LM) (h : Ext wr w') : TT w0 w' b mb m slv LT LM :=
 ⟨J.ext.then h, J.nb, J.nmb, J.nm, J.tree.ext h, J.model.ext h⟩

theorem TT.m_mb (J : TT w0 wr b mb m slv LT LM) : m ≠ mb := heap_ne_map J.model.cells J.tree.map
theorem TT.b_m (J : TT w0 wr b mb m slv LT LM) : b ≠ m := blocks_ne J.tree.cells J.model.cells (by decide)
theorem TT.s_mb (J : TT w0 wr b mb m slv LT LM) : ∀ i, slv.ownBlock = some i → i ≠ mb := row_ne_map J.model.row J.tree.map
theorem TT.s_b (J : TT w0 wr b mb m slv LT LM) : ∀ i, slv.ownBlock = some i → i ≠ b := row_ne J.model.row J.tree.cells (by decide)

theorem TT.treeStep {L' : FL} (J : TT w0 wr b mb m slv LT LM) (ht : TreeAt w' b mb L') (ho : Only (fun i => i = mb) wr w') : TT w0 w' b mb m slv L' LM :=
 ⟨J.ext.trans ho (fun _ _ h => h) (fun i hi e => by have := J.nmb; omega), J.nb, J.nmb, J.nm, ht, J.model.later ho J.m_mb J.s_mb⟩

theorem TT.modelStep {L' : FL} {r : Value} {x : Ending} (J : TT w0 wr b mb m slv LT LM) (h : RDone wr w0.heap.size m slv L' r x w') : ∃ slv', x = .returned r ∧ TT w0 w' b mb m slv' LT L' ∧ Only (InR m slv) wr w' := by
 obtain ⟨slv', rfl, hr, ho, _⟩ := h
 refine ⟨slv', rfl, ⟨J.ext.trans ho (fun _ _ h => h) (fun i hi e => ?_), J.nb, J.nmb, J.nm, J.tree.later ho (fun e => ?_) (fun e => ?_), hr⟩, ho⟩
 ·rcases e with e | e
  ·have := J.nm; omega
  ·have := (J.model.row.lt i e).1; omega
 ·rcases e with e | e
  ·exact J.b_m e
  ·exact J.s_b b e rfl
 ·rcases e with e | e
  ·exact J.m_mb e.symm
  ·exact J.s_mb mb e rfl

theorem TA.later (J : TA e w0 wr b mb m slv LT LM ha cs) (h : Ext wr w') : TA e w0 w' b mb m slv LT LM ha cs := ⟨J.tt.later h, h.heapOf J.act (fun h => h)⟩

theorem TA.treeStep {L' : FL} (J : TA e w0 wr b mb m slv LT LM ha cs) (ht : TreeAt w' b mb L') (ho : Only (fun i => i = mb) wr w') : TA e w0 w' b mb m slv L' LM ha cs :=
 ⟨J.tt.treeStep ht ho, ho.heapOf J.act (heap_ne_map J.act J.tt.tree.map)⟩

theorem TA.modelStep {L' : FL} {r : Value} {x : Ending} (he1 : e ≠ 147) (he2 : e ≠ 65) (J : TA e w0 wr b mb m slv LT LM ha cs) (h : RDone wr w0.heap.size m slv L' r x w') : ∃ slv', x = .returned r ∧ TA e w0 w' b mb m slv' LT L' ha cs := by
 obtain ⟨slv', rfl, h1, ho⟩ := J.tt.modelStep h
 refine ⟨slv', rfl, h1, ho.heapOf J.act fun h => ?_⟩
 rcases h with h | h
 ·exact blocks_ne J.act J.tt.model.cells he1 h
 ·exact row_ne J.tt.model.row J.act (Ne.symm he2) ha h rfl

theorem TA.c (J : TA e w0 wr b mb m slv LT LM ha cs) (j : Nat) : wr.cell? ⟨ha, j, none⟩ = cs[j]? := cell_of_heap J.act j

theorem TA.at (J : TA e w0 wr b mb m slv LT LM ha cs) {j : Nat} {u : Value} (h : cs[j]? = some u) : wr.cell? ⟨ha, j, none⟩ = some u := (J.c j).trans h

theorem TA.put {P : Nat → Addr} (J : TA e w0 wr b mb m slv LT LM ha cs) (hf : Fits LT) (hs : Sents w0 P) (hm : HasMax w0) (hl : ∀ q ∈ LT, q.1.length ≤ 1000) (p x : B) (hp : p.length ≤ 999999) :
  Calls Tryz.prog 38 #[.pointer (some ⟨b, 0, none⟩), S p, S x] wr fun r w' => r = .returned (errC P (putCode LT p x)) ∧ TA e w0 w' b mb m slv (putT LT p x) LM ha cs :=
 (treePut_any wr P b mb LT p x J.tt.tree hf ((hs.ext J.tt.ext).errs _) (hm.ext J.tt.ext) hp (fun q hq => by have := hl q hq; omega)).mono fun _ _ ⟨h1, h2, h3⟩ => ⟨h1, J.treeStep h2 h3⟩

end

theorem lens_put {L : FL} (hr : Rising L) {n : Nat} (h : ∀ q ∈ L, q.1.length ≤ n) (p x : B) (hp : p.length ≤ n) : ∀ q ∈ putT L p x, q.1.length ≤ n := by
 intro q hq
 unfold putT at hq
 split at hq
 ·rcases mem_set hr hq with rfl | h1
  ·exact hp
  ·exact h q h1
 ·exact h q hq
end Go.Proofs.YtnmhaipjfpongacGreatDoor

namespace Go.Proofs.YtnmhaipjfpongacGreatDoor
open Go.ChangeShapes Go.WideShapes Go.ChangeAt Go.RowKit

set_option maxRecDepth 100000 in
theorem mapsClone_any (b : Nat) (es : Array MapEntry) (clock : Nat) (w : World) (hb : w.heap[b]? = some (.map es clock)) :
  Calls Tryz.prog 173 #[.map (some b)] w fun e w' => e = .returned (.map (some w.heap.size)) ∧ w' = w.alloc (.map es clock) := by
 have hq := fun w => run_eql_map_nil_sl (P := Tryz.prog) w 171 _ _ (some b) Tryz.underlying171
 go_enter Tryz.func173, Tryz.ntmps173
 go_wp2
 rw [run_callFunc_extern Tryz.func224 (by kernel_rfl) (by kernel_rfl) (by kernel_rfl) (e := Extern.MapsClone.clone) (by kernel_rfl), run_maps_clone_sl w 171 hb]
 simp only [Result.andThen]
 rw [Oper.upon_value]
 go_wp2
 rw [run_typeAssert_map_sl _ 171 _ _ _ _ Tryz.underlying171]
 simp only [Result.andThen]
 rw [Oper.upon_value]
 go_wp2
 go_ret
 exact ⟨rfl, rfl⟩

def CopyIs (w : World) (L : FL) (e : Ending) (w' : World) : Prop := e = .returned (.pointer (some ⟨w.heap.size + 1, 0, none⟩)) ∧ TreeAt w' (w.heap.size + 1) w.heap.size L ∧ Ext w w' ∧ w'.heap.size = w.heap.size + 2
theorem treeCopy_any (w : World) (b mb : Nat) (L : FL) (h : TreeAt w b mb L) : Calls Tryz.prog 100 #[.pointer (some ⟨b, 0, none⟩)] w (CopyIs w L) := by
 have c0 := h.mapCell
 obtain ⟨es, clock, hb, hp⟩ := h.map
 have HC := Lib.hid (mapsClone_any mb es clock w hb)
 have HM : Hid (KMap .string S S (w.alloc (.map es clock)) w.heap.size L) := Lib.hid ⟨es, clock, (MapKept.heap_alloc w _).1, hp⟩
 clear h hb hp
 go_enter Tryz.func100, Tryz.ntmps100
 go_wp2_with fail
 refine HC.out.mono ?_
 rintro e w1 ⟨rfl, rfl⟩
 go_wp2_with fail
 go_ret
 refine ⟨by simp, ⟨?_, HM.out.later (Only.alloc (fun _ => False) _ _) (fun h => h)⟩, (Only.alloc _ _ _).thenAlloc _, by simp⟩
 simpa using (MapKept.heap_alloc (w.alloc (.map es clock)) (.cells #[.map (some w.heap.size)] 173 (0, 0))).1
end Go.Proofs.YtnmhaipjfpongacGreatDoor

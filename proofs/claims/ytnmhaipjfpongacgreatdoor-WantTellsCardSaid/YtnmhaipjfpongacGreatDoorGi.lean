/- Texts of this seat laid together: F0, F1, F2, F3, F4, F5. No condition of its own: what each proves stands with its theorems. -/
import Derived.Test.YtnmhaipjfpongacGreatDoorGh
import Derived.Test.YtnmhaipjfpongacGreatDoorGg
import Derived.Lib.SlicesCompact
import Derived.Sort.OwnSorted
import Derived.Laws.IdiomStrings
import Derived.Laws.EntriesVeiled
namespace Go.Proofs.YtnmhaipjfpongacGreatDoor
open Go.ChangeShapes Go.WideShapes Go.ChangeAt Go.RowKit

/-! ### what a call gives back, memory as it was but for what is new -/
def RetE (v : Value) (w : World) (e : Ending) (w' : World) : Prop := e = .returned v ∧ Ext w w'
/-- A row of texts of the call's own. -/
abbrev Row (base : Nat) (w : World) (v : Value) (l : List B) : Prop := w.ownsRow base 9 1 v l.length (l.map S)
def RetRow (l : List B) (w : World) (e : Ending) (w' : World) : Prop := ∃ v, e = .returned v ∧ Ext w w' ∧ Row w.heap.size w' v l

theorem Row.ext {base : Nat} {w w' : World} {v : Value} {l : List B} (h : Row base w v l) (ho : Ext w w') : Row base w' v l := ho.row h fun _ _ h => h
theorem Row.rd {base : Nat} {w : World} {v : Value} {l : List B} (h : Row base w v l) : Rd S w v l := Rd.of_row h
theorem Row.nil (base : Nat) (w : World) : Row base w (.slice none 0 0) [] := World.ownsRow_nil _ _ _ _
theorem Row.base {base : Nat} {w : World} {v : Value} {l : List B} (h : Row base w v l) : ∀ i, v.ownBlock = some i → base ≤ i := fun i hi => (h.lt i hi).1

theorem grown_ext {w0 wr w' : World} (I : Ext w0 wr) {v : Value} (hv : ∀ i, v.ownBlock = some i → w0.heap.size ≤ i) (hg : wr.grownBy w' v.ownBlock) : Ext w0 w' :=
  I.thenGrown hg fun i hi => .inr (hv i hi)

theorem addrAdd (b off j : Nat) : (⟨b, off, none⟩ : Addr).add j = ⟨b, off + j, none⟩ := by cases j <;> simp [Addr.add]

/-- 'append(l, x)', a text. -/
theorem wpText {P : Program} (hP : P = Tryz.prog) {ops : Array Oper} {rest : List Oper} {o : Oper} {a : Act} {Q : Exit → Act → World → Prop} (s x : Operand) (w0 : World) (base : Nat) (v : Value) (l : List B) (k : B) (W : World) (hgd : o.guard = none)
    (ho : o.op = .call { callee := .builtin .append, args := #[s, x], argTypes := #[53, 53] }) (hs : a.eval s = v) (hx : a.eval x = .slice (some ⟨W.heap.size, 0, none⟩) 1 1)
    (hrow : Row base W v l) (hl : l.length ≤ 1000000) (hbase : base ≤ W.heap.size) (hxt : Ext w0 W) (hb0 : w0.heap.size ≤ base)
    (hK : ∀ g cap w', Hid (Row base w' (.slice (some ⟨g, 0, none⟩) (l.length + 1) cap) (l ++ [k])) → Hid (Ext w0 w') → Hid (W.grownBy w' v.ownBlock) →
      wpList P ops Q rest (a.put o.dst (.slice (some ⟨g, 0, none⟩) (l.length + 1) cap)) w') :
    wpList P ops Q (o :: rest) a (W.alloc (.cells #[S k] 9 (0, 0))) := by
  subst hP
  refine wpList_appS (fun s => [S s]) 53 9 1 16 _ infoStr Tryz.underlying53 rfl (by decide) (fun _ => rfl) (fun _ u hu => by cases List.mem_singleton.1 hu; rfl) (by decide) s x base v l k W _ rfl hgd ho hs hx (by rw [flat_one]; exact hrow) hl hbase ?_
  intro g cap w' h1 h2 h3
  rw [flat_one] at h1
  refine hK g cap w' (Lib.hid ?_) (Lib.hid (grown_ext hxt (fun i hi => Nat.le_trans hb0 (hrow.base i hi)) h2)) (Lib.hid h2)
  show World.ownsRow _ _ _ _ _ (l ++ [k]).length _
  rw [List.length_append]
  exact h1

/-- 'append(l, k...)', texts. -/
theorem wpTexts {P : Program} (hP : P = Tryz.prog) {ops : Array Oper} {rest : List Oper} {o : Oper} {a : Act} {Q : Exit → Act → World → Prop} (s x : Operand) (w0 : World) (base : Nat) (v vx : Value) (l k : List B) (W : World) (hgd : o.guard = none)
    (ho : o.op = .call { callee := .builtin .append, args := #[s, x], argTypes := #[53, 53] }) (hs : a.eval s = v) (hx : a.eval x = vx) (hrd : Rd S W vx k) (hnz : vx.ownBlock = none → vx = .slice none 0 0)
    (hrow : Row base W v l) (hl : l.length + k.length ≤ 1000000) (hbase : base ≤ W.heap.size) (hxt : Ext w0 W) (hb0 : w0.heap.size ≤ base)
    (hK : ∀ ao m cap w', m = (l ++ k).length → Hid (Row base w' (.slice ao m cap) (l ++ k)) → Hid (Ext w0 w') → Hid (W.grownBy w' v.ownBlock) →
      wpList P ops Q rest (a.put o.dst (.slice ao m cap)) w') :
    wpList P ops Q (o :: rest) a W := by
  subst hP
  obtain ⟨ao, c, rfl, hcap, hml, hc⟩ := hrd
  refine wpList_appL (fun s => [S s]) 53 9 1 16 _ infoStr Tryz.underlying53 rfl (by decide) (fun _ => rfl) (fun _ u hu => by cases List.mem_singleton.1 hu; rfl) (by decide) s x base v l k W hgd ho hs ao k.length c hx rfl ?_ (by rw [flat_one]; exact hrow) hl hbase ?_
  · cases ao with
    | none =>
      have hz := hnz rfl
      cases k with
      | nil => cases hz; exact .inl ⟨rfl, rfl, rfl⟩
      | cons y k => obtain ⟨_, _, h, _⟩ := hc (by simp); cases h
    | some ad =>
      refine .inr ⟨ad, rfl, fun j u hu => ?_⟩
      cases k with
      | nil => simp at hu
      | cons y k =>
        obtain ⟨b, off, h, hcell⟩ := hc (by simp)
        cases h
        rw [flat_one, List.getElem?_map] at hu
        cases hq : (y :: k)[j]? with
        | none => rw [hq] at hu; cases hu
        | some z =>
          rw [hq] at hu
          cases hu
          rw [addrAdd]
          exact hcell j z hq
  · intro ao' m' cap w' hm' h1 h2 h3
    rw [flat_one] at h1
    exact hK ao' m' cap w' hm' (Lib.hid h1) (Lib.hid (grown_ext hxt (fun i hi => Nat.le_trans hb0 (hrow.base i hi)) h2)) (Lib.hid h2)

theorem Row.nz {base : Nat} {w : World} {v : Value} {l : List B} (h : Row base w v l) : v.ownBlock = none → v = .slice none 0 0 := by
  intro hn
  rcases h.2 with ⟨h1, _⟩ | ⟨g, cap, cur, rfl, _⟩
  · exact h1
  · cases hn

/-! ### lines -/
def linesB (s : B) : List B := if (cutc 10 s).getLast? = some [] then (cutc 10 s).dropLast else cutc 10 s
def endedB (l : List B) : B := l.flatMap (· ++ [10])
def allB (l : List B) : List B := l.flatMap linesB

theorem ended_step {l : List B} {j : Nat} {x : B} (h : l[j]? = some x) : endedB (l.take (j + 1)) = endedB (l.take j) ++ (x ++ [10]) := by
  unfold endedB
  rw [List.take_add_one, h]
  simp
theorem all_step {l : List B} {j : Nat} {x : B} (h : l[j]? = some x) : allB (l.take (j + 1)) = allB (l.take j) ++ linesB x := by
  unfold allB
  rw [List.take_add_one, h]
  simp

theorem ended_nil : endedB [] = [] := rfl
theorem ended_cons (x : B) (l : List B) : endedB (x :: l) = x ++ [10] ++ endedB l := by simp [endedB]
theorem ended_app (a b : List B) : endedB (a ++ b) = endedB a ++ endedB b := by simp [endedB]
theorem ended_sub {a b : List B} (h : a.Sublist b) : (endedB a).length ≤ (endedB b).length := by
  induction h with
  | slnil => exact Nat.le_refl _
  | cons x _ ih => rw [ended_cons]; simp; omega
  | cons_cons x _ ih => rw [ended_cons, ended_cons]; simp; omega
theorem ended_mem {x : B} {l : List B} (h : x ∈ l) : x.length ≤ (endedB l).length := by
  have := ended_sub (List.singleton_sublist.2 h)
  rw [ended_cons] at this
  simp at this
  omega
theorem ended_perm {a b : List B} (h : a.Perm b) : (endedB a).length = (endedB b).length := by
  unfold endedB
  exact (h.flatMap_right _).length_eq
theorem ended_join : ∀ {l : List B}, l ≠ [] → endedB l = joinc 10 l ++ [10]
  | [x], _ => by simp [endedB, joinc_one]
  | x :: y :: l, _ => by rw [ended_cons, ended_join (l := y :: l) (by simp), joinc_cons]; simp
theorem ended_cut (s : B) : endedB (cutc 10 s) = s ++ [10] := by rw [ended_join (cutc_ne 10 s), join_cut_c]
theorem linesB_sub (s : B) : (linesB s).Sublist (cutc 10 s) := by
  unfold linesB
  split
  · exact List.dropLast_sublist _
  · exact List.Sublist.refl _
theorem ended_lines (s : B) : (endedB (linesB s)).length ≤ s.length + 1 := by
  have := ended_sub (linesB_sub s)
  rw [ended_cut] at this
  simpa using this
def sumLen (l : List B) : Nat := (l.map List.length).sum
theorem sum_cons (x : B) (l : List B) : sumLen (x :: l) = x.length + sumLen l := by simp [sumLen]
theorem sum_mem {x : B} : ∀ {l : List B}, x ∈ l → x.length ≤ sumLen l
  | y :: l, h => by
    rw [sum_cons]
    rcases List.mem_cons.1 h with rfl | h
    · omega
    · have := sum_mem h; omega
theorem sum_take (l : List B) : ∀ j, sumLen (l.take j) ≤ sumLen l := by
  induction l with
  | nil => intro j; simp [sumLen]
  | cons x l ih =>
    intro j
    cases j with
    | zero => simp [sumLen]
    | succ j => rw [List.take_succ_cons, sum_cons, sum_cons]; have := ih j; omega
theorem sum_step {l : List B} {j : Nat} {x : B} (h : l[j]? = some x) : sumLen (l.take (j + 1)) = sumLen (l.take j) + x.length := by
  unfold sumLen
  rw [List.take_add_one, h]
  simp
theorem ended_all : ∀ (l : List B), (endedB (allB l)).length ≤ sumLen l + l.length
  | [] => by simp [allB, endedB]
  | x :: l => by
    have := ended_all l
    have h2 := ended_lines x
    rw [show allB (x :: l) = linesB x ++ allB l from rfl, ended_app, List.length_append, sum_cons, List.length_cons]
    omega
theorem len_ended (l : List B) : l.length ≤ (endedB l).length := by
  induction l with
  | nil => exact Nat.le_refl _
  | cons x l ih => rw [ended_cons]; simp; omega

/-! ### the commands -/
inductive Kd where
  | write | join | upper | lines | sort | count | swap | head
def kinds : List (B × Kd) := [([104, 101, 97, 100], .head), ([115, 119, 97, 112], .swap), ([99, 111, 117, 110, 116], .count), ([115, 111, 114, 116], .sort), ([108, 105, 110, 101, 115], .lines), ([117, 112, 112, 101, 114], .upper), ([106, 111, 105, 110], .join), ([119, 114, 105, 116, 101], .write)]

def Kd.least : Kd → Nat
  | .write => 0
  | _ => 1
def Kd.most : Kd → Nat
  | .write => 0
  | .join | .sort | .count => 8
  | _ => 1
def pairB (s : B) : Bool := s.count 61 == 1 && !(s.head? == some 61)
def Kd.word : Kd → B → Bool
  | .write, _ | .join, _ | .lines, _ => true
  | .upper, s | .count, s => s == []
  | .sort, s => s == [] || s == [111, 110, 99, 101]
  | .swap, s => pairB s
  | .head, s => (numB 3 s).isSome
def upB (c : UInt8) : UInt8 := if 97 ≤ c.toNat ∧ c.toNat ≤ 122 then c - 97 + 65 else c
def sortB (l : List B) : List B := l.mergeSort fun x y => decide (x ≤ y)
def sortedB (w : B) (l : List B) : List B := if w = [111, 110, 99, 101] then Lib.compact (sortB l) else sortB l
def hasB (w s : B) : Bool := Lib.contains s w
def Kd.run : Kd → B → List B → B
  | .write, w, _ => w
  | .join, w, l => Lib.join l w
  | .upper, _, l => (l.headD []).map upB
  | .lines, w, l => endedB ((linesB (l.headD [])).filter (hasB w))
  | .sort, w, l => endedB (sortedB w (allB l))
  | .count, _, l => Lib.decDigits (allB l).length ++ 32 :: Lib.decDigits (sumLen l) ++ [10]
  | .swap, w, l => Lib.replaceAll (l.headD []) (cut1 61 w).1 (cut1 61 w).2.1
  | .head, w, l => endedB ((linesB (l.headD [])).take ((numB 3 w).getD 0))

def actCode (name word : B) (n : Nat) : Nat :=
  match kinds.lookup name with
  | none => 5
  | some k => if n < k.least ∨ k.most < n ∨ k.word word = false then 3 else if 100 < word.length then 10 else 0
def actOut (name word : B) (l : List B) : B :=
  match kinds.lookup name with
  | none => []
  | some k => k.run word l
def runCode (name word : B) (l : List B) : Nat := if actCode name word l.length = 0 then (if 2000 < (actOut name word l).length then 10 else 0) else actCode name word l.length
def runOut (name word : B) (l : List B) : B := if runCode name word l = 0 then actOut name word l else []
end Go.Proofs.YtnmhaipjfpongacGreatDoor

namespace Go.Proofs.YtnmhaipjfpongacGreatDoor
open Go.ChangeShapes Go.WideShapes Go.ChangeAt Go.RowKit

theorem row_fresh {w : World} {base g : Nat} {l : List B} (h : w.heap[g]? = some (.cells (l.map S).toArray 9 (0, 0))) (hb : base ≤ g) (hl : l.length ≤ maxLen) : Row base w (.slice (some ⟨g, 0, none⟩) l.length l.length) l :=
  ⟨by simp, .inr ⟨g, l.length, _, rfl, hb, h, Nat.le_refl _, hl, by simp, by simp [List.take_of_length_le]⟩⟩

def SplitIs (w : World) (i : List B) (x : B) (e : Ending) (w' : World) : Prop :=
  ∃ g, e = .returned (.slice (some ⟨g, 0, none⟩) (i.length + 1) (i.length + 1)) ∧ Ext w w' ∧ w'.cell? ⟨g, i.length, none⟩ = some (S x) ∧ Row w.heap.size w' (.slice (some ⟨g, 0, none⟩) (i.length + 1) (i.length + 1)) (i ++ [x])

theorem split_is (w : World) (d : UInt8) (s : B) (hs : s.length ≤ 900000) (hm : HasMax w) {i : List B} {x : B} (h : cutc d s = i ++ [x]) :
    Calls Tryz.prog 207 #[S s, .string ⟨#[d]⟩] w (SplitIs w i x) := by
  have hle := cutc_len_le d s
  refine (splitC_any w d s (by omega) hm).mono ?_
  rintro e w' ⟨rfl, rfl⟩
  rw [h] at hle ⊢
  have hh := (MapKept.heap_alloc w (.cells ((i ++ [x]).map S).toArray 9 (0, 0))).1
  have hr := row_fresh (base := w.heap.size) hh (Nat.le_refl _) (by unfold maxLen; omega)
  rw [List.length_append] at hr ⊢
  exact ⟨w.heap.size, rfl, Only.alloc _ _ _, (cell_of_heap hh _).trans (by simp), hr⟩

theorem Row.take {base g n cap : Nat} {w : World} {l : List B} (h : Row base w (.slice (some ⟨g, 0, none⟩) n cap) l) (m : Nat) (hm : m ≤ l.length) : Row base w (.slice (some ⟨g, 0, none⟩) m cap) (l.take m) := by
  have hn : n = l.length := by
    obtain ⟨_, h2⟩ := h
    rcases h2 with ⟨h2, _⟩ | ⟨_, _, _, hv, _⟩
    · cases h2
    · cases hv; rfl
  subst hn
  have := row_take h m hm (ys := (l.take m).map S) (by rw [List.map_take])
  show World.ownsRow _ _ _ _ _ (l.take m).length _
  rw [List.length_take, Nat.min_eq_left hm]
  exact this

def RetRowS (l : List B) (w : World) (e : Ending) (w' : World) : Prop := ∃ g cap, e = .returned (.slice (some ⟨g, 0, none⟩) l.length cap) ∧ Ext w w' ∧ Row w.heap.size w' (.slice (some ⟨g, 0, none⟩) l.length cap) l

set_option maxRecDepth 100000 in
set_option maxHeartbeats 1000000 in
theorem linesS_any (w : World) (s : B) (hs : s.length ≤ 900000) (hm : HasMax w) :
    Calls Tryz.prog 300 #[S s] w (RetRowS (linesB s) w) := by
  have hle := cutc_len_le 10 s
  obtain ⟨i, x, hix⟩ : ∃ i x, cutc 10 s = i ++ [x] := ⟨_, _, (List.dropLast_concat_getLast (cutc_ne 10 s)).symm⟩
  have HSP := Lib.hid (split_is w 10 s hs hm hix)
  have hlb : linesB s = if x = [] then i else i ++ [x] := by unfold linesB; rw [hix]; simp
  rw [hlb]
  have hil : (i.length : Int) ≤ 1000000 := by rw [hix] at hle; simp at hle; omega
  have hi0 : (0 : Int) ≤ (i.length : Int) := by omega
  by_cases hx : x = []
  · have hxq : (x == []) = true := beq_iff_eq.2 hx
    rw [if_pos hx]
    clear hle hix hlb hs hm hx
    go_enter Tryz.func300, Tryz.ntmps300
    go_wp2_with fail
    refine (HSP.out).mono ?_
    rintro e w1 ⟨g, rfl, ho, hc, hr⟩
    have HO := Lib.hid ho
    have HR := Lib.hid hr
    have HC := Lib.hid hc
    clear ho hr hc
    have hc := HC.out
    go_wp2_with fail
    go_ret
    exact ⟨_, _, rfl, HO.out, by simpa using HR.out.take i.length (by simp)⟩
  · have hxq : (x == []) = false := beq_eq_false_iff_ne.2 hx
    rw [if_neg hx]
    clear hle hix hlb hs hm hx
    go_enter Tryz.func300, Tryz.ntmps300
    go_wp2_with fail
    refine (HSP.out).mono ?_
    rintro e w1 ⟨g, rfl, ho, hc, hr⟩
    have HO := Lib.hid ho
    have HR := Lib.hid hr
    have HC := Lib.hid hc
    clear ho hr hc
    have hc := HC.out
    go_wp2_with fail
    go_ret
    exact ⟨g, i.length + 1, by simp, HO.out, by simpa using HR.out⟩

theorem lines_any (w : World) (s : B) (hs : s.length ≤ 900000) (hm : HasMax w) :
    Calls Tryz.prog 300 #[S s] w (RetRow (linesB s) w) :=
  (linesS_any w s hs hm).mono fun _ _ ⟨_, _, h1, h2, h3⟩ => ⟨_, h1, h2, h3⟩

theorem ba_10 (x : B) : ((⟨x.toArray⟩ : ByteArray) ++ ⟨#[10]⟩) = ⟨(x ++ [10]).toArray⟩ := ba_app x [10]

set_option maxRecDepth 100000 in
set_option maxHeartbeats 2000000 in
theorem ended_any (w : World) (v : Value) (l : List B) (hv : Rd S w v l) (hb : (endedB l).length ≤ 100000000) :
    Calls Tryz.prog 299 #[v] w (RetE (S (endedB l)) w) := by
  have hx : ∀ x ∈ l, x.length ≤ 100000000 := fun x h => Nat.le_trans (ended_mem h) hb
  have hb : ∀ j, (endedB (l.take j)).length ≤ 100000000 := fun j => Nat.le_trans (ended_sub (List.take_sublist _ _)) hb
  obtain ⟨T, hT⟩ : ∃ T, Hid (T = endedB l) := ⟨_, Lib.hid rfl⟩
  rw [← hT.out]
  obtain ⟨a, cap, rfl, hcap, hml, hc⟩ := hv
  have hlm : (l.length : Int) ≤ 9223372036854775807 := by unfold maxLen at hml; omega
  have HC := Lib.hid hc
  have HBD := Lib.hid hb
  have HXL := Lib.hid hx
  clear hc hb hx
  clear hcap hml
  go_enter Tryz.func299, Tryz.ntmps299
  go_wp2_with fail
  have HB0 : Hid (IsBF w.heap.size w.heap.size [] (w.alloc (.cells #[.pointer none, .slice none 0 0] 169 (0, 0)))) := Lib.hid (IsBF.fresh w)
  have HX0 : Hid (Ext w (w.alloc (.cells #[.pointer none, .slice none 0 0] 169 (0, 0)))) := Lib.hid (Only.alloc _ _ _)
  generalize hw1 : w.alloc (.cells #[.pointer none, .slice none 0 0] 169 (0, 0)) = w1 at HB0 HX0 ⊢
  obtain ⟨bb, hbE⟩ : ∃ b, b = w.heap.size := ⟨_, rfl⟩
  have HB1 : Hid (IsBF w.heap.size bb [] w1) := by rw [hbE]; exact HB0
  rw [← hbE]
  clear hbE HB0 hw1
  go_loopw [5, 8] (fun _ i wr => ∃ j : Nat, j ≤ l.length ∧ i = .int .i64 j ∧ Hid (Ext w wr) ∧ Hid (IsBF w.heap.size bb (endedB (l.take j)) wr)) (fun _ i _ => l.length - (intOf i).toNat)
  case atStart => exact ⟨0, Nat.zero_le _, rfl, HX0, HB1⟩
  case round =>
    obtain ⟨j, hj, rfl, HX, HB⟩ := hrel
    by_cases hlt : j < l.length
    · have hltz : (j : Int) < (l.length : Int) := by omega
      obtain ⟨b0, off, rfl, hcell⟩ := HC.out (by intro h; rw [h] at hlt; simp at hlt)
      obtain ⟨x, hq⟩ : ∃ y, l[j]? = some y := ⟨_, List.getElem?_eq_getElem hlt⟩
      have d0 : wr.cell? ⟨b0, off + j, none⟩ = some (S x) := HX.out.cellOf (hcell j x hq) (fun h => h)
      have hxl := HXL.out x (List.mem_of_getElem? hq)
      have q1 : ¬ 9223372036854775807 < x.length + 1 := by omega
      have HST := Lib.hid (ended_step hq)
      have HBA := Lib.hid (ba_10 x)
      have HL : Hid ((endedB (l.take j)).length + (x ++ [10]).length ≤ 140737488355328) := Lib.hid (by have := HBD.out j; simp; omega)
      clear hcell hq hxl
      go_wp2_with fail
      rw [HBA.out]
      refine (writeK_any w.heap.size bb _ (x ++ [10]) _ HB.out HL.out HX.out.size).mono ?_
      rintro e w6 ⟨rfl, hb6, hbl, _⟩
      have HX6 := Lib.hid (ext_below HX.out hbl)
      have HB6 := Lib.hid hb6
      clear hb6 hbl
      go_wp2_with fail
      go_roundw
      case rel => exact ⟨j + 1, by omega, by go_num, HX6, Lib.hid (by rw [HST.out]; exact HB6.out)⟩
      case measure => simp [intOf]; omega
    · have hltz : ¬ ((j : Int) < (l.length : Int)) := by omega
      have ht : l.take j = l := List.take_of_length_le (by omega)
      rw [ht, ← hT.out] at HB
      go_wp2_with fail
      refine (Tryz.Builder_String_any_k w.heap.size bb T wr HB.out HX.out.size).mono ?_
      rintro e w6 ⟨rfl, _, hbl, _⟩
      have HX6 := Lib.hid (ext_below HX.out hbl)
      clear hbl
      go_wp2_with fail
      go_ret
      exact ⟨rfl, HX6.out⟩

set_option maxRecDepth 100000 in
set_option maxHeartbeats 2000000 in
theorem all_any (w : World) (v : Value) (l : List B) (hv : Rd S w v l) (hb : sumLen l + l.length ≤ 900000) (hm : HasMax w) :
    Calls Tryz.prog 303 #[v] w (RetRow (allB l) w) := by
  have hlen : ∀ j, (allB (l.take j)).length ≤ 900000 := fun j => by
    have h1 := len_ended (allB (l.take j))
    have h2 := ended_all (l.take j)
    have h3 := sum_take l j
    have h4 : (l.take j).length ≤ l.length := List.length_take_le' _ _
    omega
  obtain ⟨a, cap, rfl, hcap, hml, hc⟩ := hv
  have hlm : (l.length : Int) ≤ 9223372036854775807 := by unfold maxLen at hml; omega
  have HX : Hid (∀ x ∈ l, x.length ≤ 900000) := Lib.hid fun x h => by have := sum_mem h; omega
  have HC := Lib.hid hc
  have HLN := Lib.hid hlen
  have HM := Lib.hid hm
  clear hc hlen hm
  clear hcap hml hb
  go_enter Tryz.func303, Tryz.ntmps303
  go_wp2_with fail
  go_loopw [3, 5, 8] (fun o _ i wr => ∃ j : Nat, j ≤ l.length ∧ i = .int .i64 j ∧ Hid (Ext w wr) ∧ Hid (Row w.heap.size wr o (allB (l.take j)))) (fun _ _ i _ => l.length - (intOf i).toNat)
  case atStart => exact ⟨0, Nat.zero_le _, rfl, Lib.hid (Only.refl _ _), Lib.hid (Row.nil _ _)⟩
  case round =>
    obtain ⟨j, hj, rfl, HXX, HR⟩ := hrel
    by_cases hlt : j < l.length
    · have hltz : (j : Int) < (l.length : Int) := by omega
      obtain ⟨b0, off, rfl, hcell⟩ := HC.out (by intro h; rw [h] at hlt; simp at hlt)
      obtain ⟨x, hq⟩ : ∃ y, l[j]? = some y := ⟨_, List.getElem?_eq_getElem hlt⟩
      have d0 : wr.cell? ⟨b0, off + j, none⟩ = some (S x) := HXX.out.cellOf (hcell j x hq) (fun h => h)
      have HLI := Lib.hid (lines_any wr x (HX.out x (List.mem_of_getElem? hq)) (HM.out.ext HXX.out))
      have hst := all_step hq
      have hl1 := HLN.out (j + 1)
      rw [hst, List.length_append] at hl1
      have HL1 := Lib.hid hl1
      have HST := Lib.hid hst
      obtain ⟨A, hA⟩ : ∃ A, A = allB (l.take j) := ⟨_, rfl⟩
      rw [← hA] at HR HL1 HST
      clear hcell hq hst hl1 hA
      go_wp2_with fail
      refine (HLI.out).mono ?_
      rintro e w2 ⟨v2, rfl, ho, hr2⟩
      have HX2 := Lib.hid (HXX.out.then ho)
      have HRA := Lib.hid (HR.out.ext ho)
      have HRB := Lib.hid hr2
      clear hr2 ho
      go_wp2_with (at_builtin; refine wpTexts rfl _ _ w w.heap.size _ _ A (linesB x) w2 rfl rfl rfl rfl HRB.out.rd HRB.out.nz HRA.out (by have := HL1.out; omega) HX2.out.size HX2.out (Nat.le_refl _) ?_; intro ao m cp w3 hm3 HR3 HX3 _; have HM3 := Lib.hid hm3; clear hm3)
      go_roundw
      case rel => exact ⟨j + 1, by omega, by go_num, HX3, Lib.hid (by rw [HST.out]; exact HR3.out)⟩
      case measure => simp [intOf]; omega
    · have hltz : ¬ ((j : Int) < (l.length : Int)) := by omega
      have ht : l.take j = l := List.take_of_length_le (by omega)
      rw [ht] at HR
      go_wp2_with fail
      go_ret
      exact ⟨_, rfl, HXX.out, HR.out⟩
end Go.Proofs.YtnmhaipjfpongacGreatDoor

namespace Go.Proofs.YtnmhaipjfpongacGreatDoor
open Go.ChangeShapes Go.WideShapes Go.ChangeAt Go.RowKit Go.Sort

theorem encStr_S : encStr = S := rfl

def InPlace (base : Nat) (v r : Value) (l : List B) (w : World) (e : Ending) (w' : World) : Prop := e = .returned r ∧ Row base w' v l ∧ Only (fun i => v.ownBlock = some i) w w'

theorem sort_row (w : World) (base : Nat) (v : Value) (l : List B) (h : Row base w v l) (hl : l.length ≤ 1000000) :
    Calls Tryz.prog 115 #[v] w (InPlace base v (.tuple #[]) (sortB l) w) := by
  rcases h.2 with ⟨rfl, h0⟩ | ⟨g, cap, cur, rfl, hb, hh, h1, h2, h3, h4⟩
  · cases l with
    | cons x l => simp at h0
    | nil =>
      refine (Tryz.slices_Sort_string_none none 0 w).mono ?_
      rintro e w' ⟨rfl, rfl⟩
      have e : sortB [] = [] := List.mergeSort_nil
      rw [e]
      exact ⟨rfl, Row.nil _ _, Only.refl _ _⟩
  · rw [Nat.mul_one] at h4
    refine (Tryz.slices_Sort_string g 0 cap l w (holds_of_block hh h4) (lt_of_heap hh) (by omega)).mono ?_
    rintro e w' ⟨rfl, n, os, rfl⟩
    have hlen : (sortB l).length = l.length := List.length_mergeSort _
    have hr := ownsRow_sorted (os := os) (n := n) (ss := l) (ts := sortB l) hlen hb hh h1 h2 h3
    refine ⟨rfl, ?_, (Only.of_grown (grownBy_sorted _)).mono fun i _ e => e⟩
    show World.ownsRow _ _ _ _ _ (sortB l).length _
    rw [hlen]
    exact hr

def CompactIs (base : Nat) (v : Value) (l : List B) (w : World) (e : Ending) (w' : World) : Prop := ∃ v', e = .returned v' ∧ Row base w' v' l ∧ Only (fun i => v.ownBlock = some i) w w'

theorem compact_nil : Lib.compact ([] : List B) = [] := rfl

theorem compact_row (w : World) (base : Nat) (v : Value) (l : List B) (h : Row base w v l) (hl : l.length ≤ 1000000) :
    Calls Tryz.prog 270 #[v] w (CompactIs base v (Lib.compact l) w) := by
  rcases h.2 with ⟨rfl, h0⟩ | ⟨g, cap, cur, rfl, hb, hh, h1, h2, h3, h4⟩
  · cases l with
    | cons x l => simp at h0
    | nil =>
      refine (Tryz.slices_Compact_string_empty none 0 w).mono ?_
      rintro e w' ⟨rfl, rfl⟩
      exact ⟨_, rfl, Row.nil _ _, Only.refl _ _⟩
  · rw [Nat.mul_one] at h4
    refine (Tryz.slices_Compact_string g 0 cap l w (holds_of_block hh h4) (by omega) h1).mono ?_
    rintro e w' ⟨rfl, q, rfl⟩
    have hle : (Lib.compact l).length ≤ l.length := Lib.compact_length_le l
    have hh2 := heap_sorted (n := q) (os := #[]) (Lib.compact l ++ List.replicate (l.length - (Lib.compact l).length) []).toArray hh
    rw [grow_empty] at hh2
    have ho := (Only.of_grown (grownBy_sorted (w := w) (g := g) (n := q) (os := #[]) (Lib.compact l ++ List.replicate (l.length - (Lib.compact l).length) []).toArray)).mono fun i _ e => e
    rw [grow_empty] at ho
    refine ⟨_, rfl, ⟨by simp, .inr ⟨g, cap, _, rfl, hb, hh2, by omega, h2, by simp [putCells, h3], ?_⟩⟩, ho⟩
    have := take_putCells cur (Lib.compact l ++ List.replicate (l.length - (Lib.compact l).length) []) (by simp; omega)
    have h5 := congrArg (List.take (Lib.compact l).length) this
    rw [List.take_take, List.length_append, Nat.min_eq_left (by omega), List.map_append, List.take_append_of_le_length (by simp)] at h5
    rw [Nat.mul_one, h5, encStr_S, List.take_of_length_le (by simp)]

/-! ### upper letters -/
structure Upping (w0 wr : World) (g : Nat) (s : B) (j : Nat) : Prop where
  ext : Ext w0 wr
  new : w0.heap.size ≤ g
  row : ∃ cur k, wr.heap[g]? = some (.cells cur 5 (k, k + 1)) ∧ s.length ≤ k ∧ s.length ≤ cur.size ∧ ∀ (i : Nat) c, s[i]? = some c → cur[i]? = some (.int .u8 ((if i < j then upB c else c).toNat))

theorem Upping.at {w0 wr : World} {g : Nat} {s : B} {j : Nat} (h : Upping w0 wr g s j) {c : UInt8} (hc : s[j]? = some c) : wr.cell? ⟨g, j, none⟩ = some (.int .u8 c.toNat) ∧ wr.frozen? ⟨g, j, none⟩ = false := by
  obtain ⟨cur, k, hh, hk, _, hr⟩ := h.row
  have hj := (List.getElem?_eq_some_iff.1 hc).1
  refine ⟨?_, ?_⟩
  · rw [cell_of_heap hh, hr j c hc, if_neg (Nat.lt_irrefl _)]
  · simp [World.frozen?, hh]; omega

theorem Upping.skip {w0 wr : World} {g : Nat} {s : B} {j : Nat} (h : Upping w0 wr g s j) {c : UInt8} (hc : s[j]? = some c) (hu : upB c = c) : Upping w0 wr g s (j + 1) := by
  obtain ⟨cur, k, hh, hk, hs, hr⟩ := h.row
  refine ⟨h.ext, h.new, cur, k, hh, hk, hs, fun i d hd => ?_⟩
  rw [hr i d hd]
  by_cases h1 : i < j
  · rw [if_pos h1, if_pos (by omega)]
  · rw [if_neg h1]
    by_cases h2 : i = j
    · subst h2
      rw [hc] at hd
      cases hd
      rw [if_pos (Nat.lt_succ_self _), hu]
    · rw [if_neg (by omega)]

theorem Upping.put {w0 wr : World} {g : Nat} {s : B} {j : Nat} (h : Upping w0 wr g s j) {c : UInt8} (hc : s[j]? = some c) {z : Int} (hz : z = (upB c).toNat) : Upping w0 (wr.setCell ⟨g, j, none⟩ (.int .u8 z)) g s (j + 1) := by
  subst hz
  obtain ⟨cur, k, hh, hk, hs, hr⟩ := h.row
  have hj := (List.getElem?_eq_some_iff.1 hc).1
  refine ⟨h.ext.thenSet _ (.inr h.new), h.new, _, k, heap_setCell_same hh j _, hk, by simpa using hs, fun i d hd => ?_⟩
  rw [Array.getElem?_setIfInBounds]
  by_cases h2 : j = i
  · subst h2
    rw [hc] at hd
    cases hd
    rw [if_pos rfl, if_pos (by omega), if_pos (Nat.lt_succ_self _)]
  · rw [if_neg h2, hr i d hd]
    by_cases h1 : i < j
    · rw [if_pos h1, if_pos (by omega)]
    · rw [if_neg h1, if_neg (by omega)]

theorem Upping.start (w : World) (s : B) : Upping w (Lib.bytesWorld w 5 ⟨s.toArray⟩) w.heap.size s 0 := by
  have hh := Lib.bytesWorld_at_new w 5 ⟨s.toArray⟩
  have hs : s.length ≤ (Lib.bytesCells w 5 ⟨s.toArray⟩).size := by simp [Lib.bytesCells]
  refine ⟨ext_bytes _ _ _, Nat.le_refl _, _, _, hh, hs, hs, fun i c hc => ?_⟩
  have hi := (List.getElem?_eq_some_iff.1 hc).1
  rw [if_neg (Nat.not_lt_zero _)]
  unfold Lib.bytesCells
  rw [Array.getElem?_append, if_pos (by simpa using hi)]
  simp [hc]

theorem Upping.done {w0 wr : World} {g : Nat} {s : B} (h : Upping w0 wr g s s.length) (cap : Nat) : (convert 167 9 (.slice (some ⟨g, 0, none⟩) s.length cap)).run Tryz.prog wr = .ok (S (s.map upB)) wr := by
  obtain ⟨cur, k, hh, hk, hs, hr⟩ := h.row
  have := run_convert_bytes_back (P := Tryz.prog) wr 167 9 5 ⟨g, 0, none⟩ cap (s.map upB) Tryz.underlying167 Tryz.underlying5 Tryz.underlying9 (fun j hj => by
    have hj' : j < s.length := by simpa using hj
    have h1 := hr j s[j] (List.getElem?_eq_getElem hj')
    rw [if_pos hj'] at h1
    rw [addrAdd, Nat.zero_add, cell_of_heap hh, h1]
    simp)
  simpa using this

theorem rd_head {w : World} {v : Value} {x : B} {l : List B} (h : Rd S w v (x :: l)) : ∃ b off cap, v = .slice (some ⟨b, off, none⟩) (l.length + 1) cap ∧ w.cell? ⟨b, off, none⟩ = some (S x) ∧ l.length + 1 ≤ 9223372036854775807 := by
  obtain ⟨a, cap, rfl, hcap, hml, hc⟩ := h
  obtain ⟨b, off, rfl, hcell⟩ := hc (by simp)
  exact ⟨b, off, cap, rfl, by simpa using hcell 0 x rfl, by unfold maxLen at hml; simp at hcap; omega⟩

set_option maxRecDepth 100000 in
set_option maxHeartbeats 2000000 in
theorem upper_any (w : World) (wd x : B) (l : List B) (v : Value) (hv : Rd S w v (x :: l)) (hx : x.length ≤ 100000000) :
    Calls Tryz.prog 259 #[S wd, v] w (RetE (S (x.map upB)) w) := by
  obtain ⟨b, off, cap, rfl, hc, hln⟩ := rd_head hv
  have hlz : (0 : Int) < ((l.length + 1 : Nat) : Int) := by omega
  have HCV := Lib.run_convert_string_bytes (P := Tryz.prog) w 9 167 5 ⟨x.toArray⟩ Tryz.underlying9 Tryz.underlying167 Tryz.underlying5
  have HU := Lib.hid (Upping.start w x)
  have hsz : (⟨x.toArray⟩ : ByteArray).size = x.length := by simp [ByteArray.size]
  rw [hsz] at HCV
  clear hv hsz
  go_enter Tryz.func259, Tryz.ntmps259
  go_wp2_with fail
  generalize Lib.bytesWorld w 5 ⟨x.toArray⟩ = w1 at HU ⊢
  generalize grownCap w x.length 0 5 = cp
  generalize w.heap.size = g at HU ⊢
  clear HCV
  go_loopw [6, 7, 14] (fun _ _ i wr => ∃ j : Nat, j ≤ x.length ∧ i = .int .i64 j ∧ Hid (Upping w wr g x j)) (fun _ _ i _ => x.length - (intOf i).toNat)
  case atStart => exact ⟨0, Nat.zero_le _, rfl, HU⟩
  case round =>
    obtain ⟨j, hj, rfl, HU⟩ := hrel
    by_cases hlt : j < x.length
    · have hltz : (j : Int) < (x.length : Int) := by omega
      obtain ⟨c, hq⟩ : ∃ y, x[j]? = some y := ⟨_, List.getElem?_eq_getElem hlt⟩
      have d0 := (HU.out.at hq).1
      have f0 := (HU.out.at hq).2
      have HQ := Lib.hid hq
      clear hq
      by_cases h1 : 97 ≤ c.toNat ∧ c.toNat ≤ 122
      · obtain ⟨h1, h2⟩ := h1
        have h1z : (97 : Int) ≤ (c.toNat : Int) := by omega
        have h2z : (c.toNat : Int) ≤ 122 := by omega
        go_wp2_with fail
        go_roundw
        case rel => exact ⟨j + 1, by omega, by go_num, Lib.hid (HU.out.put HQ.out (by unfold upB; rw [if_pos ⟨h1, h2⟩]; simp [UInt8.toNat_add, UInt8.toNat_sub]; omega))⟩
        case measure => simp [intOf]; omega
      · have hu : upB c = c := if_neg h1
        by_cases h2 : 97 ≤ c.toNat
        · have h1z : (97 : Int) ≤ (c.toNat : Int) := by omega
          have h2z : ¬ (c.toNat : Int) ≤ 122 := by omega
          have HUU := Lib.hid hu
          clear h1 hu
          go_wp2_with fail
          go_roundw
          case rel => exact ⟨j + 1, by omega, by go_num, Lib.hid (HU.out.skip HQ.out HUU.out)⟩
          case measure => simp [intOf]; omega
        · have h1z : ¬ (97 : Int) ≤ (c.toNat : Int) := by omega
          have HUU := Lib.hid hu
          clear h1 hu
          go_wp2_with fail
          go_roundw
          case rel => exact ⟨j + 1, by omega, by go_num, Lib.hid (HU.out.skip HQ.out HUU.out)⟩
          case measure => simp [intOf]; omega
    · have hltz : ¬ ((j : Int) < (x.length : Int)) := by omega
      obtain rfl : j = x.length := by omega
      have hcv := HU.out.done cp
      go_wp2_with fail
      go_ret
      exact ⟨rfl, HU.out.ext⟩
end Go.Proofs.YtnmhaipjfpongacGreatDoor

namespace Go.Proofs.YtnmhaipjfpongacGreatDoor
open Go.ChangeShapes Go.WideShapes Go.ChangeAt Go.RowKit

theorem ext_own {w w2 w3 : World} {v : Value} (h : Ext w w2) (ho : Only (fun i => v.ownBlock = some i) w2 w3) (hr : ∀ i, v.ownBlock = some i → w.heap.size ≤ i) : Ext w w3 :=
  h.trans ho (fun _ _ h => h) fun i hi e => by have := hr i e; omega

theorem contains_any (w : World) (s d : B) (hs : s.length ≤ 1000000) (hm : HasMax w) :
    Calls Tryz.prog 302 #[S s, S d] w fun e w' => e = .returned (.bool (Lib.contains s d)) ∧ w = w' := by
  obtain ⟨m, hm⟩ := hm
  refine (Tryz.strings_Contains ⟨s.toArray⟩ ⟨d.toArray⟩ m w (by simp [ByteArray.size]; omega) hm).mono ?_
  rintro e w' ⟨rfl, rfl⟩
  exact ⟨rfl, rfl⟩

theorem enters_lines1 : ∀ args w, (callFunc 301 args).run Tryz.prog w = .ok (.enter 301 args) w := fun args w => by kernel_rfl

theorem lines1_tests (b : Nat) (k : B) (l : List B) (w : World) (h : w.cell? ⟨b, 0, none⟩ = some (S k)) (hm : HasMax w) (hl : ∀ x ∈ l, x.length ≤ 1000000) :
    TestsOn l 301 #[.pointer (some ⟨b, 0, none⟩)] (fun s => !hasB k s) w := by
  intro x hx
  have HC := Lib.hid (contains_any w x k (hl x hx) hm)
  obtain ⟨r, hr⟩ : ∃ r, r = Lib.contains x k := ⟨_, rfl⟩
  have hr2 : hasB k x = r := hr.symm
  show Calls _ _ _ _ fun e w' => e = .returned (.bool (!hasB k x)) ∧ w = w'
  rw [hr2]
  rw [← hr] at HC
  clear hr hr2 hm hl hx
  go_enter Tryz.func301, Tryz.ntmps301
  go_wp2_with fail
  refine (HC.out).mono ?_
  rintro e w' ⟨rfl, rfl⟩
  go_wp2_with fail
  go_ret
  exact ⟨rfl, rfl⟩

set_option maxRecDepth 100000 in
set_option maxHeartbeats 2000000 in
theorem actLines_any (w : World) (wd x : B) (l : List B) (v : Value) (hv : Rd S w v (x :: l)) (hx : x.length ≤ 900000) (hm : HasMax w) :
    Calls Tryz.prog 260 #[S wd, v] w (RetE (S (endedB ((linesB x).filter (hasB wd)))) w) := by
  obtain ⟨b, off, cap, rfl, hc, hln⟩ := rd_head hv
  have hlz : (0 : Int) < ((l.length + 1 : Nat) : Int) := by omega
  have hx0 : Ext w (w.alloc (.cells #[S wd] 9 (0, 0))) := Only.alloc _ _ _
  have hq0 : (w.alloc (.cells #[S wd] 9 (0, 0))).cell? ⟨w.heap.size, 0, none⟩ = some (S wd) := (cell_of_heap (MapKept.heap_alloc w _).1 0).trans rfl
  have hs0 : (w.alloc (.cells #[S wd] 9 (0, 0))).heap.size = w.heap.size + 1 := by simp
  have HLI := Lib.hid (lines_any (w.alloc (.cells #[S wd] 9 (0, 0))) x hx (hm.ext hx0))
  have hee : (endedB (linesB x)).length ≤ 900001 := by have := ended_lines x; omega
  have HE := Lib.hid hee
  have hcA := hx0.cellOf hc (fun h => h)
  have HX0 := Lib.hid hx0
  have HQ0 := Lib.hid hq0
  have HS0 := Lib.hid hs0
  have HM := Lib.hid hm
  clear hx0 hq0 hs0 hm
  clear hv hx hee
  go_enter Tryz.func260, Tryz.ntmps260
  go_wp2_with fail
  refine (HLI.out).mono ?_
  rintro e w2 ⟨v2, rfl, ho, hr⟩
  have HX2 := Lib.hid (HX0.out.then ho)
  have HQ2 := Lib.hid (ho.cellOf HQ0.out (fun h => h))
  have HR := Lib.hid hr
  have HO := Lib.hid ho
  clear hr ho
  obtain ⟨g, hg⟩ : ∃ g, g = w.heap.size := ⟨_, rfl⟩
  have HG := Lib.hid hg
  rw [← hg] at HQ2 ⊢
  rw [HS0.out, ← hg] at HR
  clear hg
  have hdel := deleteFunc_on 301 (.pointer (some ⟨g, 0, none⟩)) (fun s => !hasB wd s) w2 (g + 1) v2 (linesB x) HR.out enters_lines1
    (fun w' hw' => lines1_tests g wd (linesB x) w' (hw'.cellOf HQ2.out (fun e => absurd (HR.out.base g e) (by omega))) ((HM.out.ext HX2.out).elim fun m h => ⟨m, hw'.cellOf h (fun e => by
      have h1 := HR.out.base _ e
      have h2 := lt_of_cell (HM.out.choose_spec)
      have := HG.out
      exact absurd h2 (by omega))⟩) (fun y hy => by have := ended_mem hy; have := HE.out; omega))
  have hff : (linesB x).filter (fun s => !(!hasB wd s)) = (linesB x).filter (hasB wd) := by congr 1; funext s; simp
  rw [hff] at hdel
  have HD := Lib.hid hdel
  clear hdel hff
  go_wp2_with fail
  refine (HD.out).mono ?_
  rintro e w3 ⟨v3, rfl, hr3, ho3, hb3⟩
  have HX3 := Lib.hid (ext_own HX2.out ho3 (fun i e => by have := HR.out.base i e; have := HG.out; omega))
  have HR3 := Lib.hid hr3
  clear hr3 ho3 hb3
  go_wp2_with fail
  refine (ended_any w3 v3 _ (Row.rd HR3.out) (by have := ended_sub (List.filter_sublist (l := linesB x) (p := hasB wd)); have := HE.out; omega)).mono ?_
  rintro e w4 ⟨rfl, ho4⟩
  have HX4 := Lib.hid (HX3.out.then ho4)
  clear ho4
  go_wp2_with fail
  go_ret
  exact ⟨rfl, HX4.out⟩

theorem compact_sublist (l : List B) : (Lib.compact l).Sublist l := by
  have h1 : ((List.range l.length).filter (Lib.keeps l.toArray)).Sublist (List.range l.length) := List.filter_sublist
  have h2 := h1.map (fun i => l.toArray[i]!)
  have h3 := Lib.range_map_get l.toArray
  rw [List.size_toArray] at h3
  rw [h3] at h2
  exact h2

theorem sorted_sub (wd : B) (l : List B) : (endedB (sortedB wd l)).length ≤ (endedB l).length := by
  unfold sortedB
  have hp : (endedB (sortB l)).length = (endedB l).length := ended_perm (List.mergeSort_perm _ _)
  split
  · exact Nat.le_trans (ended_sub (compact_sublist _)) (Nat.le_of_eq hp)
  · exact Nat.le_of_eq hp

set_option maxRecDepth 100000 in
set_option maxHeartbeats 2000000 in
theorem sorted_any (w : World) (wd : B) (l : List B) (v : Value) (hv : Rd S w v l) (hb : sumLen l + l.length ≤ 900000) (hm : HasMax w) :
    Calls Tryz.prog 262 #[S wd, v] w (RetE (S (endedB (sortedB wd (allB l)))) w) := by
  have HA := Lib.hid (all_any w v l hv hb hm)
  have hel : (endedB (allB l)).length ≤ 900000 := by have := ended_all l; omega
  have hll := len_ended (allB l)
  generalize allB l = L at *
  have HE := Lib.hid hel
  have HLL : Hid (L.length ≤ 1000000) := Lib.hid (by omega)
  have HSL := Lib.hid (sorted_sub wd L)
  have hsl : (sortB L).length = L.length := List.length_mergeSort _
  obtain ⟨T, hT⟩ : ∃ T, T = sortedB wd L := ⟨_, rfl⟩
  by_cases hw : wd = [111, 110, 99, 101]
  · have hwz : (wd == [111, 110, 99, 101]) = true := beq_iff_eq.2 hw
    have ht : T = Lib.compact (sortB L) := by rw [hT]; exact if_pos hw
    rw [← hT] at HSL ⊢
    have HT := Lib.hid ht
    have HSS := Lib.hid hsl
    clear ht hsl
    clear hv hb hm hel hll hw hT
    go_enter Tryz.func262, Tryz.ntmps262
    go_wp2_with fail
    refine (HA.out).mono ?_
    rintro e w1 ⟨v1, rfl, ho, hr⟩
    have HX1 := Lib.hid ho
    have HR1 := Lib.hid hr
    clear ho hr
    go_wp2_with fail
    refine (sort_row w1 w.heap.size v1 L HR1.out HLL.out).mono ?_
    rintro e w2 ⟨rfl, hr2, ho2⟩
    have HX2 := Lib.hid (ext_own HX1.out ho2 HR1.out.base)
    have HR2 := Lib.hid hr2
    clear hr2 ho2
    go_wp2_with fail
    refine (compact_row w2 w.heap.size v1 (sortB L) HR2.out (by rw [HSS.out]; exact HLL.out)).mono ?_
    rintro e w3 ⟨v3, rfl, hr3, ho3⟩
    have HX3 := Lib.hid (ext_own HX2.out ho3 HR2.out.base)
    have HR3 := Lib.hid hr3
    clear hr3 ho3
    rw [← HT.out] at HR3
    go_wp2_with fail
    refine (ended_any w3 v3 _ (Row.rd HR3.out) (by have := HSL.out; have := HE.out; omega)).mono ?_
    rintro e w4 ⟨rfl, ho4⟩
    have HX4 := Lib.hid (HX3.out.then ho4)
    clear ho4
    go_wp2_with fail
    go_ret
    exact ⟨rfl, HX4.out⟩
  · have hwz : (wd == [111, 110, 99, 101]) = false := beq_eq_false_iff_ne.2 hw
    have ht : T = sortB L := by rw [hT]; exact if_neg hw
    rw [← hT] at HSL ⊢
    have HT := Lib.hid ht
    have HSS := Lib.hid hsl
    clear ht hsl
    clear hv hb hm hel hll hw hT
    go_enter Tryz.func262, Tryz.ntmps262
    go_wp2_with fail
    refine (HA.out).mono ?_
    rintro e w1 ⟨v1, rfl, ho, hr⟩
    have HX1 := Lib.hid ho
    have HR1 := Lib.hid hr
    clear ho hr
    go_wp2_with fail
    refine (sort_row w1 w.heap.size v1 L HR1.out HLL.out).mono ?_
    rintro e w2 ⟨rfl, hr2, ho2⟩
    have HX2 := Lib.hid (ext_own HX1.out ho2 HR1.out.base)
    have HR2 := Lib.hid hr2
    clear hr2 ho2
    rw [← HT.out] at HR2
    go_wp2_with fail
    refine (ended_any w2 v1 _ (Row.rd HR2.out) (by have := HSL.out; have := HE.out; omega)).mono ?_
    rintro e w4 ⟨rfl, ho4⟩
    have HX4 := Lib.hid (HX2.out.then ho4)
    clear ho4
    go_wp2_with fail
    go_ret
    exact ⟨rfl, HX4.out⟩

theorem count_ba (d1 d2 : B) : ((⟨d1.toArray⟩ : ByteArray) ++ ⟨#[32]⟩ ++ ⟨d2.toArray⟩ ++ ⟨#[10]⟩) = ⟨(d1 ++ 32 :: d2 ++ [10]).toArray⟩ := by
  rw [show (⟨#[32]⟩ : ByteArray) = ⟨([32] : B).toArray⟩ from rfl, show (⟨#[10]⟩ : ByteArray) = ⟨([10] : B).toArray⟩ from rfl]
  simp only [ba_app]
  simp

set_option maxRecDepth 100000 in
set_option maxHeartbeats 2000000 in
theorem count_any (w : World) (wd : B) (l : List B) (v : Value) (hv : Rd S w v l) (hb : sumLen l + l.length ≤ 900000) (hm : HasMax w) (hp : Pow w) :
    Calls Tryz.prog 263 #[S wd, v] w (RetE (S (Lib.decDigits (allB l).length ++ 32 :: Lib.decDigits (sumLen l) ++ [10])) w) := by
  have HA := Lib.hid (all_any w v l hv hb hm)
  have hll : (allB l).length ≤ 900000 := by have := ended_all l; have := len_ended (allB l); omega
  have HI := Lib.hid (fun W (hW : Ext w W) (n : Nat) (hn : n ≤ 900000) => itoa_any W n (by omega) (hp.ext hW))
  have HST := Lib.hid (fun j => sum_take l j)
  have hsl : sumLen l ≤ 900000 := by omega
  obtain ⟨a, cap, rfl, hcap, hml, hc⟩ := hv
  have hlm : (l.length : Int) ≤ 900000 := by omega
  obtain ⟨N, hN⟩ : ∃ N, N = sumLen l := ⟨_, rfl⟩
  obtain ⟨L, hL⟩ : ∃ L, L = allB l := ⟨_, rfl⟩
  rw [← hL] at hll HA ⊢
  rw [← hN] at hsl ⊢
  have hd1 := dec_le L.length (by omega)
  have hd2 := dec_le N (by omega)
  have HNL := Lib.hid hN
  have HB := Lib.hid (count_ba (Lib.decDigits L.length) (Lib.decDigits N))
  generalize Lib.decDigits L.length ++ 32 :: Lib.decDigits N ++ [10] = R at HB ⊢
  have HI1 := Lib.hid (fun W (hW : Ext w W) => HI.out W hW L.length hll)
  have HI2 := Lib.hid (fun W (hW : Ext w W) => HI.out W hW N hsl)
  obtain ⟨d1, hD1⟩ : ∃ d, d = Lib.decDigits L.length := ⟨_, rfl⟩
  obtain ⟨d2, hD2⟩ : ∃ d, d = Lib.decDigits N := ⟨_, rfl⟩
  rw [← hD1] at HB HI1 hd1
  rw [← hD2] at HB HI2 hd2
  have q1 : ¬ 9223372036854775807 < d1.length + 1 := by omega
  have q2 : ¬ 9223372036854775807 < d1.length + 1 + d2.length := by omega
  have q3 : ¬ 9223372036854775807 < d1.length + 1 + d2.length + 1 := by omega
  have HC := Lib.hid hc
  clear hc
  clear hcap hml hm hp hN hL hD1 hD2 HI hd1 hd2 hb
  go_enter Tryz.func263, Tryz.ntmps263
  go_wp2_with fail
  go_loop [5, 7, 10] (fun n _ i => ∃ j : Nat, j ≤ l.length ∧ i = .int .i64 j ∧ ∃ m : Nat, n = .int .i64 m ∧ m ≤ N ∧ Hid (m = sumLen (l.take j))) (fun _ _ i => l.length - (intOf i).toNat)
  case atStart => exact ⟨0, Nat.zero_le _, rfl, 0, rfl, Nat.zero_le _, Lib.hid rfl⟩
  case round =>
    obtain ⟨j, hj, rfl, m, rfl, hm, HSU⟩ := hrel
    by_cases hlt : j < l.length
    · have hltz : (j : Int) < (l.length : Int) := by omega
      obtain ⟨b0, off, rfl, hcell⟩ := HC.out (by intro h; rw [h] at hlt; simp at hlt)
      obtain ⟨x, hq⟩ : ∃ y, l[j]? = some y := ⟨_, List.getElem?_eq_getElem hlt⟩
      have d0 : w.cell? ⟨b0, off + j, none⟩ = some (S x) := hcell j x hq
      have hs := sum_step hq
      have hle : m + x.length ≤ N := by rw [HNL.out, HSU.out, ← hs]; exact HST.out _
      have HS := Lib.hid hs
      clear hcell hq hs
      go_wp2_with fail
      go_round
      case rel => exact ⟨j + 1, by omega, by go_num, m + x.length, by go_num, hle, Lib.hid (by rw [HS.out, HSU.out])⟩
      case measure => simp [intOf]; omega
    · have hltz : ¬ ((j : Int) < (l.length : Int)) := by omega
      have ht : l.take j = l := List.take_of_length_le (by omega)
      rw [ht, ← HNL.out] at HSU
      obtain rfl := HSU.out
      go_wp2_with fail
      refine (HA.out).mono ?_
      rintro e w1 ⟨v1, rfl, ho, hr⟩
      have HX1 := Lib.hid ho
      have HR1 := Lib.hid hr.rd
      clear ho hr
      obtain ⟨a1, c1, rfl, _, _, _⟩ := HR1.out
      go_wp2_with fail
      refine (HI1.out w1 HX1.out).mono ?_
      rintro e w2 ⟨rfl, ho⟩
      have HX2 := Lib.hid (HX1.out.then ho)
      clear ho
      go_wp2_with fail
      refine (HI2.out w2 HX2.out).mono ?_
      rintro e w3 ⟨rfl, ho⟩
      have HX3 := Lib.hid (HX2.out.then ho)
      clear ho
      go_wp2_with fail
      go_ret
      exact ⟨congrArg (fun x => Ending.returned (Value.string x)) HB.out, HX3.out⟩

set_option maxRecDepth 100000 in
set_option maxHeartbeats 2000000 in
theorem swap_any (w : World) (wd x : B) (l : List B) (v : Value) (hv : Rd S w v (x :: l)) (hx : x.length ≤ 900000) (hw : wd.length ≤ 1000) (hw1 : (cut1 61 wd).1 ≠ []) (hm : HasMax w) :
    Calls Tryz.prog 265 #[S wd, v] w (RetE (S (Lib.replaceAll x (cut1 61 wd).1 (cut1 61 wd).2.1)) w) := by
  obtain ⟨b, off, cap, rfl, hc, hln⟩ := rd_head hv
  have hlz : (0 : Int) < ((l.length + 1 : Nat) : Int) := by omega
  have HCU := Lib.hid (cutD_any w 61 wd (by omega) hm)
  have ⟨hl1, hl2⟩ := cut1_len 61 wd
  generalize cut1 61 wd = r at *
  obtain ⟨p, q, f⟩ := r
  simp only at hw1 hl1 hl2 HCU ⊢
  have hp1 : 1 ≤ p.length := List.length_pos_iff.2 hw1
  have hrep : ∀ W, Ext w W → Calls Tryz.prog 272 #[S x, S p, S q] W (RetE (S (Lib.replaceAll x p q)) W) := fun W hW => by
    obtain ⟨m, hm⟩ := hm.ext hW
    have hk : Lib.countB ⟨x.toArray⟩ ⟨p.toArray⟩ ≤ 900001 := Nat.le_trans (Lib.count_le x p) (by omega)
    have h2 : Lib.countB ⟨x.toArray⟩ ⟨p.toArray⟩ * q.length ≤ 900001 * 1000 := Nat.mul_le_mul hk (by omega)
    refine (Tryz.strings_ReplaceAll ⟨x.toArray⟩ ⟨p.toArray⟩ ⟨q.toArray⟩ m W (by simp [ByteArray.size]; omega) hm (by simpa [ByteArray.size] using hp1) (by simp [ByteArray.size]; omega)).mono ?_
    rintro e w' ⟨rfl, hb⟩
    exact ⟨rfl, Only.of_below hb⟩
  have HRE := Lib.hid hrep
  clear hv hx hw hw1 hm hl1 hl2 hp1 hrep
  go_enter Tryz.func265, Tryz.ntmps265
  go_wp2_with fail
  refine (HCU.out).mono ?_
  rintro e w1 ⟨rfl, ho⟩
  have HO := Lib.hid ho
  clear ho
  have hc1 := HO.out.cellOf hc (fun h => h)
  clear hc
  go_wp2_with fail
  refine (HRE.out w1 HO.out).mono ?_
  rintro e w2 ⟨rfl, ho⟩
  have HX2 := Lib.hid (HO.out.then ho)
  clear ho
  go_wp2_with fail
  go_ret
  exact ⟨rfl, HX2.out⟩

set_option maxRecDepth 100000 in
set_option maxHeartbeats 2000000 in
theorem head_any (w : World) (wd x : B) (l : List B) (v : Value) (n : Nat) (hv : Rd S w v (x :: l)) (hx : x.length ≤ 900000) (hn : numB 3 wd = some n) (hm : HasMax w) :
    Calls Tryz.prog 267 #[S wd, v] w (RetE (S (endedB ((linesB x).take n))) w) := by
  obtain ⟨b, off, cap, rfl, hc, hln⟩ := rd_head hv
  have hlz : (0 : Int) < ((l.length + 1 : Nat) : Int) := by omega
  obtain ⟨hk, h4, hd⟩ := numB_some hn
  have HA := Lib.hid (atoi_ok w wd (by omega) n hk)
  have hlt := atoi_lt hk
  have hn9 : (n : Int) ≤ 1000 := by
    have h2 : (10 : Int) ^ wd.length ≤ 10 ^ 3 := by exact_mod_cast Nat.pow_le_pow_right (show 0 < 10 by omega) h4
    omega
  have HLI := Lib.hid (fun W (hW : Ext w W) => linesS_any W x hx (hm.ext hW))
  have hel : (endedB (linesB x)).length ≤ 900001 := by have := ended_lines x; omega
  have hll : ((linesB x).length : Int) ≤ 900001 := by have := len_ended (linesB x); omega
  generalize linesB x = L at *
  have HE := Lib.hid hel
  clear hv hx hn hk h4 hd hlt hm hel
  go_enter Tryz.func267, Tryz.ntmps267
  go_wp2_with fail
  refine (HA.out).mono ?_
  rintro e w1 ⟨rfl, ho⟩
  have HO := Lib.hid ho
  clear ho
  have hc1 := HO.out.cellOf hc (fun h => h)
  clear hc
  go_wp2_with fail
  refine (HLI.out w1 HO.out).mono ?_
  rintro e w2 ⟨g, cp, rfl, ho, hr⟩
  have HX2 := Lib.hid (HO.out.then ho)
  have HR := Lib.hid hr
  clear hr ho
  have HR2 := Lib.hid (HR.out.take (min n L.length) (Nat.min_le_right _ _))
  have hcp : (L.length : Int) ≤ (cp : Int) := by obtain ⟨_, _, hv, h, _⟩ := HR.out.rd; cases hv; omega
  have ht : L.take (min n L.length) = L.take n := by rw [← List.take_take, List.take_length]
  rw [ht] at HR2
  clear ht
  go_wp2_with fail
  rw [show (min (n : Int) (L.length : Int)).toNat = min n L.length by omega]
  refine (ended_any w2 _ (L.take n) HR2.out.rd (by have := ended_sub (List.take_sublist n L); have := HE.out; omega)).mono ?_
  rintro e w3 ⟨rfl, ho3⟩
  have HX3 := Lib.hid (HX2.out.then ho3)
  clear ho3
  go_wp2_with fail
  go_ret
  exact ⟨rfl, HX3.out⟩
end Go.Proofs.YtnmhaipjfpongacGreatDoor

namespace Go.Proofs.YtnmhaipjfpongacGreatDoor
open Go.ChangeShapes Go.WideShapes Go.ChangeAt Go.RowKit

abbrev FV (n : Nat) : Value := .func (.func n) #[] #[]
def Kd.wordF : Kd → Nat
  | .write => 255
  | .join => 255
  | .upper => 258
  | .lines => 255
  | .sort => 261
  | .count => 258
  | .swap => 264
  | .head => 266
def Kd.runF : Kd → Nat
  | .write => 256
  | .join => 257
  | .upper => 259
  | .lines => 260
  | .sort => 262
  | .count => 263
  | .swap => 265
  | .head => 267

def encK (k : Kd) : Value := .agg #[I k.least, I k.most, FV k.wordF, FV k.runF]

def KindsIs (w : World) (e : Ending) (w' : World) : Prop := ∃ b, e = .returned (.map (some b)) ∧ KMap .string S encK w' b kinds ∧ Ext w w'

set_option maxRecDepth 100000 in
set_option maxHeartbeats 2000000 in
theorem kinds_any (w : World) : Calls Tryz.prog 192 #[] w (KindsIs w) := by
  have hmm := @run_makeMap Tryz.prog
  have k0 := KMap.made w .string S encK
  obtain ⟨w1, r1, k1, o1, _⟩ := KMap.store (P := Tryz.prog) keyOk_str k0 Tryz.underlying258 Tryz.underlying9 [119, 114, 105, 116, 101] Kd.write
  have r1 : (Instr.mapUpdate 258 (.map (some w.heap.size)) (S [119, 114, 105, 116, 101]) (.agg #[I 0, I 0, FV 255, FV 256])).run Tryz.prog (w.alloc (.map #[] 0)) = .ok () w1 := r1
  obtain ⟨w2, r2, k2, o2, _⟩ := KMap.store (P := Tryz.prog) keyOk_str k1 Tryz.underlying258 Tryz.underlying9 [106, 111, 105, 110] Kd.join
  have r2 : (Instr.mapUpdate 258 (.map (some w.heap.size)) (S [106, 111, 105, 110]) (.agg #[I 1, I 8, FV 255, FV 257])).run Tryz.prog w1 = .ok () w2 := r2
  obtain ⟨w3, r3, k3, o3, _⟩ := KMap.store (P := Tryz.prog) keyOk_str k2 Tryz.underlying258 Tryz.underlying9 [117, 112, 112, 101, 114] Kd.upper
  have r3 : (Instr.mapUpdate 258 (.map (some w.heap.size)) (S [117, 112, 112, 101, 114]) (.agg #[I 1, I 1, FV 258, FV 259])).run Tryz.prog w2 = .ok () w3 := r3
  obtain ⟨w4, r4, k4, o4, _⟩ := KMap.store (P := Tryz.prog) keyOk_str k3 Tryz.underlying258 Tryz.underlying9 [108, 105, 110, 101, 115] Kd.lines
  have r4 : (Instr.mapUpdate 258 (.map (some w.heap.size)) (S [108, 105, 110, 101, 115]) (.agg #[I 1, I 1, FV 255, FV 260])).run Tryz.prog w3 = .ok () w4 := r4
  obtain ⟨w5, r5, k5, o5, _⟩ := KMap.store (P := Tryz.prog) keyOk_str k4 Tryz.underlying258 Tryz.underlying9 [115, 111, 114, 116] Kd.sort
  have r5 : (Instr.mapUpdate 258 (.map (some w.heap.size)) (S [115, 111, 114, 116]) (.agg #[I 1, I 8, FV 261, FV 262])).run Tryz.prog w4 = .ok () w5 := r5
  obtain ⟨w6, r6, k6, o6, _⟩ := KMap.store (P := Tryz.prog) keyOk_str k5 Tryz.underlying258 Tryz.underlying9 [99, 111, 117, 110, 116] Kd.count
  have r6 : (Instr.mapUpdate 258 (.map (some w.heap.size)) (S [99, 111, 117, 110, 116]) (.agg #[I 1, I 8, FV 258, FV 263])).run Tryz.prog w5 = .ok () w6 := r6
  obtain ⟨w7, r7, k7, o7, _⟩ := KMap.store (P := Tryz.prog) keyOk_str k6 Tryz.underlying258 Tryz.underlying9 [115, 119, 97, 112] Kd.swap
  have r7 : (Instr.mapUpdate 258 (.map (some w.heap.size)) (S [115, 119, 97, 112]) (.agg #[I 1, I 1, FV 264, FV 265])).run Tryz.prog w6 = .ok () w7 := r7
  obtain ⟨w8, r8, k8, o8, _⟩ := KMap.store (P := Tryz.prog) keyOk_str k7 Tryz.underlying258 Tryz.underlying9 [104, 101, 97, 100] Kd.head
  have r8 : (Instr.mapUpdate 258 (.map (some w.heap.size)) (S [104, 101, 97, 100]) (.agg #[I 1, I 1, FV 266, FV 267])).run Tryz.prog w7 = .ok () w8 := r8
  have hkk : KMap .string S encK w8 w.heap.size kinds := by
    refine Eq.mp (congrArg (KMap .string S encK w8 w.heap.size) ?_) k8
    kernel_rfl
  have HK := Lib.hid hkk
  clear hkk
  have hx : Ext w (w.alloc (.map #[] 0)) := Only.alloc _ _ _
  have x1 := hx.trans o1 (fun _ _ h => h) (fun i hi e => by omega)
  have x2 := x1.trans o2 (fun _ _ h => h) (fun i hi e => by omega)
  have x3 := x2.trans o3 (fun _ _ h => h) (fun i hi e => by omega)
  have x4 := x3.trans o4 (fun _ _ h => h) (fun i hi e => by omega)
  have x5 := x4.trans o5 (fun _ _ h => h) (fun i hi e => by omega)
  have x6 := x5.trans o6 (fun _ _ h => h) (fun i hi e => by omega)
  have x7 := x6.trans o7 (fun _ _ h => h) (fun i hi e => by omega)
  have x8 := x7.trans o8 (fun _ _ h => h) (fun i hi e => by omega)
  have HX := Lib.hid x8
  clear k0 hx k1 o1 x1 k2 o2 x2 k3 o3 x3 k4 o4 x4 k5 o5 x5 k6 o6 x6 k7 o7 x7 k8 o8 x8
  go_enter Tryz.func192, Tryz.ntmps192
  go_wp2_with fail
  go_ret
  exact ⟨_, rfl, HK.out, HX.out⟩

/-! ### the tests of words -/
theorem any_word (w : World) (s : B) : Calls Tryz.prog 255 #[S s] w (RetE (.bool true) w) := by
  go_enter Tryz.func255, Tryz.ntmps255
  go_wp2_with fail
  go_ret
  exact ⟨rfl, Only.refl _ _⟩

theorem empty_word (w : World) (s : B) : Calls Tryz.prog 258 #[S s] w (RetE (.bool (s == [])) w) := by
  obtain ⟨r, hr⟩ : ∃ r, (s == []) = r := ⟨_, rfl⟩
  rw [hr]
  go_enter Tryz.func258, Tryz.ntmps258
  go_wp2_with fail
  go_ret
  exact ⟨rfl, Only.refl _ _⟩

theorem sort_word (w : World) (s : B) : Calls Tryz.prog 261 #[S s] w (RetE (.bool (s == [] || s == [111, 110, 99, 101])) w) := by
  cases h1 : s == [] with
  | true =>
    go_enter Tryz.func261, Tryz.ntmps261
    go_wp2_with fail
    go_ret
    exact ⟨rfl, Only.refl _ _⟩
  | false =>
    cases h2 : s == [111, 110, 99, 101]
    all_goals
      go_enter Tryz.func261, Tryz.ntmps261
      go_wp2_with fail
      go_ret
      exact ⟨rfl, Only.refl _ _⟩

theorem byteI (c : UInt8) (z : Int) (d : UInt8) (hz : z = d.toNat) : ((c.toNat : Int) == z) = (some c == some d) := by
  subst hz
  rw [Bool.eq_iff_iff]
  simp only [beq_iff_eq, Option.some.injEq]
  exact ⟨fun h => UInt8.toNat_inj.1 (by omega), fun h => by rw [h]⟩

theorem pair_word (w : World) (s : B) : Calls Tryz.prog 264 #[S s] w (RetE (.bool (pairB s)) w) := by
  have hC : Calls Tryz.prog 304 #[S s, .string ⟨#[61]⟩] w (fun e w' => e = .returned (I (s.count 61)) ∧ w = w') := by
    refine (Tryz.strings_Count_one ⟨s.toArray⟩ 61 w).mono ?_
    rintro e w' ⟨rfl, rfl⟩
    exact ⟨rfl, rfl⟩
  have HC := Lib.hid hC
  clear hC
  cases s with
  | nil =>
    simp only [List.count_nil] at HC
    go_enter Tryz.func264, Tryz.ntmps264
    go_wp2_with fail
    refine (HC.out).mono ?_
    rintro e w' ⟨rfl, rfl⟩
    go_wp2_with fail
    go_ret
    exact ⟨rfl, Only.refl _ _⟩
  | cons c r =>
    obtain ⟨n, hn⟩ : ∃ n, (c :: r).count 61 = n := ⟨_, rfl⟩
    unfold pairB
    rw [hn] at HC ⊢
    clear hn
    cases h1 : (n : Int) == 1 with
    | true =>
      have h1' : (n == 1) = true := by have := beq_iff_eq.1 h1; exact beq_iff_eq.2 (by omega)
      rw [h1']
      obtain ⟨z, hz⟩ : ∃ z : Bool, ((c.toNat : Int) == 61) = z := ⟨_, rfl⟩
      have e : (some c == some (61 : UInt8)) = z := by rw [← hz]; exact (byteI c 61 61 (by decide)).symm
      simp only [List.head?_cons, e]
      go_enter Tryz.func264, Tryz.ntmps264
      go_wp2_with fail
      refine (HC.out).mono ?_
      rintro e w' ⟨rfl, rfl⟩
      go_wp2_with fail
      go_ret
      exact ⟨by simp [bne]; exact hz, Only.refl _ _⟩
    | false =>
      have h1' : (n == 1) = false := beq_eq_false_iff_ne.2 fun e => by rw [e] at h1; simp at h1
      rw [h1']
      go_enter Tryz.func264, Tryz.ntmps264
      go_wp2_with fail
      refine (HC.out).mono ?_
      rintro e w' ⟨rfl, rfl⟩
      go_wp2_with fail
      go_ret
      exact ⟨rfl, Only.refl _ _⟩

set_option maxRecDepth 100000 in
set_option maxHeartbeats 2000000 in
theorem digits_word (w : World) (s : B) (hs : s.length ≤ 1000000) (hv : AtoiVars w) (hp : Pow w) : Calls Tryz.prog 266 #[S s] w (RetE (.bool (numB 3 s).isSome) w) := by
  by_cases hk : ∃ v, Lib.atoiAll s = .ok v
  · obtain ⟨v, hk⟩ := hk
    have HA := Lib.hid (atoi_ok w s hs v hk)
    have hlt := atoi_lt hk
    by_cases h0 : 0 ≤ v
    · obtain ⟨n, rfl⟩ := Int.eq_ofNat_of_zero_le h0
      by_cases h3 : s.length ≤ 3
      · have h3z : (s.length : Int) ≤ 3 := by omega
        have h5 : n < 1000 := by
          have h2 : (10 : Int) ^ s.length ≤ 10 ^ 3 := by exact_mod_cast Nat.pow_le_pow_right (show 0 < 10 by omega) h3
          omega
        have hr : (numB 3 s).isSome = (Lib.decDigits n == s) := by
          unfold numB
          rw [hk]
          by_cases e : Lib.decDigits n = s
          · simp [h3, e]
          · simp [e]
        have HI := Lib.hid (fun w1 (hw : Ext w w1) => itoa_any w1 n (by omega) (hp.ext hw))
        rw [hr]
        obtain ⟨r, hr⟩ : ∃ r, (Lib.decDigits n == s) = r := ⟨_, rfl⟩
        rw [hr]
        clear hk hlt hs hv hp
        go_enter Tryz.func266, Tryz.ntmps266
        go_wp2_with fail
        refine (HA.out).mono ?_
        rintro e w1 ⟨rfl, ho⟩
        have HO := Lib.hid ho
        clear ho
        go_wp2_with fail
        refine (HI.out _ HO.out).mono ?_
        rintro e w2 ⟨rfl, ho⟩
        have HO2 := Lib.hid (HO.out.then ho)
        clear ho
        go_wp2_with fail
        go_ret
        exact ⟨rfl, HO2.out⟩
      · have h3z : ¬ (s.length : Int) ≤ 3 := by omega
        have hr : (numB 3 s).isSome = false := by unfold numB; rw [hk]; simp [h3]
        rw [hr]
        clear hk hlt hs hv hp h3 hr
        go_enter Tryz.func266, Tryz.ntmps266
        go_wp2_with fail
        refine (HA.out).mono ?_
        rintro e w1 ⟨rfl, ho⟩
        have HO := Lib.hid ho
        clear ho
        go_wp2_with fail
        go_ret
        exact ⟨rfl, HO.out⟩
    · have hr : (numB 3 s).isSome = false := by unfold numB; rw [hk]; simp [h0]
      rw [hr]
      have h0z : ¬ (0 ≤ v) := h0
      clear hk hlt hs hv hp hr
      go_enter Tryz.func266, Tryz.ntmps266
      go_wp2_with fail
      refine (HA.out).mono ?_
      rintro e w1 ⟨rfl, ho⟩
      have HO := Lib.hid ho
      clear ho
      go_wp2_with fail
      go_ret
      exact ⟨rfl, HO.out⟩
  · have hr : (numB 3 s).isSome = false := by
      unfold numB
      split
      · rename_i v e; exact absurd ⟨v, e⟩ hk
      · rfl
    rw [hr]
    have HA := Lib.hid (atoi_bad w s hs hv (fun v e => hk ⟨v, e⟩))
    clear hk hs hv hp hr
    go_enter Tryz.func266, Tryz.ntmps266
    go_wp2_with fail
    refine (HA.out).mono ?_
    rintro e w1 ⟨v, t, p, rfl, ho⟩
    have HO := Lib.hid ho
    clear ho
    go_wp2_with fail
    go_ret
    exact ⟨rfl, HO.out⟩

theorem word_any (w : World) (k : Kd) (s : B) (hs : s.length ≤ 1000000) (hv : AtoiVars w) (hp : Pow w) : Calls Tryz.prog k.wordF #[S s] w (RetE (.bool (k.word s)) w) := by
  cases k
  · exact any_word w s
  · exact any_word w s
  · exact empty_word w s
  · exact any_word w s
  · exact sort_word w s
  · exact empty_word w s
  · exact pair_word w s
  · exact digits_word w s hs hv hp

theorem ent_anything : ∀ args w, (callFunc 255 args).run Tryz.prog w = .ok (.enter 255 args) w := fun args w => by kernel_rfl
theorem ent_empty : ∀ args w, (callFunc 258 args).run Tryz.prog w = .ok (.enter 258 args) w := fun args w => by kernel_rfl
theorem ent_kinds_3 : ∀ args w, (callFunc 261 args).run Tryz.prog w = .ok (.enter 261 args) w := fun args w => by kernel_rfl
theorem ent_pair : ∀ args w, (callFunc 264 args).run Tryz.prog w = .ok (.enter 264 args) w := fun args w => by kernel_rfl
theorem ent_digits : ∀ args w, (callFunc 266 args).run Tryz.prog w = .ok (.enter 266 args) w := fun args w => by kernel_rfl
theorem ent_kinds_1 : ∀ args w, (callFunc 256 args).run Tryz.prog w = .ok (.enter 256 args) w := fun args w => by kernel_rfl
theorem ent_kinds_2 : ∀ args w, (callFunc 257 args).run Tryz.prog w = .ok (.enter 257 args) w := fun args w => by kernel_rfl
theorem ent_upper : ∀ args w, (callFunc 259 args).run Tryz.prog w = .ok (.enter 259 args) w := fun args w => by kernel_rfl
theorem ent_lines : ∀ args w, (callFunc 260 args).run Tryz.prog w = .ok (.enter 260 args) w := fun args w => by kernel_rfl
theorem ent_sorted : ∀ args w, (callFunc 262 args).run Tryz.prog w = .ok (.enter 262 args) w := fun args w => by kernel_rfl
theorem ent_count : ∀ args w, (callFunc 263 args).run Tryz.prog w = .ok (.enter 263 args) w := fun args w => by kernel_rfl
theorem ent_swap : ∀ args w, (callFunc 265 args).run Tryz.prog w = .ok (.enter 265 args) w := fun args w => by kernel_rfl
theorem ent_head : ∀ args w, (callFunc 267 args).run Tryz.prog w = .ok (.enter 267 args) w := fun args w => by kernel_rfl
theorem enters_word : ∀ (k : Kd) args w, (callFunc k.wordF args).run Tryz.prog w = .ok (.enter k.wordF args) w
  | .write => ent_anything | .join => ent_anything | .upper => ent_empty | .lines => ent_anything | .sort => ent_kinds_3 | .count => ent_empty | .swap => ent_pair | .head => ent_digits
theorem enters_run : ∀ (k : Kd) args w, (callFunc k.runF args).run Tryz.prog w = .ok (.enter k.runF args) w
  | .write => ent_kinds_1 | .join => ent_kinds_2 | .upper => ent_upper | .lines => ent_lines | .sort => ent_sorted | .count => ent_count | .swap => ent_swap | .head => ent_head
end Go.Proofs.YtnmhaipjfpongacGreatDoor

namespace Go.Proofs.YtnmhaipjfpongacGreatDoor
open Go.ChangeShapes Go.WideShapes Go.ChangeAt Go.RowKit

/-- What package act's variables hold. -/
structure ActVars (w : World) (P : Nat → Addr) : Prop where
  errs : Errs w P [2, 4, 9]
  max : HasMax w
  atoi : AtoiVars w
  pow : Pow w
theorem ActVars.ext {w w' : World} {P : Nat → Addr} (h : ActVars w P) (ho : Ext w w') : ActVars w' P := ⟨h.errs.ext ho, h.max.ext ho, h.atoi.ext ho, h.pow.ext ho⟩

theorem kind_none {name : B} (h : kinds.lookup name = none) {w : World} {b : Nat} (hk : KMap .string S encK w b kinds) :
    (Instr.lookup 258 (.map (some b)) (S name) true).run Tryz.prog w = .ok (.tuple #[.agg #[I 0, I 0, .nilFunc, .nilFunc], .bool false]) w := by
  have := KMap.look (P := Tryz.prog) keyOk_str hk Tryz.underlying258 Tryz.underlying9 (z := .agg #[I 0, I 0, .nilFunc, .nilFunc]) (by kernel_rfl) name
  rw [h] at this
  exact this

theorem kind_some {name : B} {k : Kd} (h : kinds.lookup name = some k) {w : World} {b : Nat} (hk : KMap .string S encK w b kinds) :
    (Instr.lookup 258 (.map (some b)) (S name) true).run Tryz.prog w = .ok (.tuple #[.agg #[I k.least, I k.most, FV k.wordF, FV k.runF], .bool true]) w := by
  have := KMap.look (P := Tryz.prog) keyOk_str hk Tryz.underlying258 Tryz.underlying9 (z := .agg #[I 0, I 0, .nilFunc, .nilFunc]) (by kernel_rfl) name
  rw [h] at this
  exact this

theorem kind_some1 {name : B} {k : Kd} (h : kinds.lookup name = some k) {w : World} {b : Nat} (hk : KMap .string S encK w b kinds) :
    (Instr.lookup 258 (.map (some b)) (S name) false).run Tryz.prog w = .ok (.agg #[I k.least, I k.most, FV k.wordF, FV k.runF]) w := by
  have := KMap.look1 (P := Tryz.prog) keyOk_str hk Tryz.underlying258 Tryz.underlying9 (z := .agg #[I 0, I 0, .nilFunc, .nilFunc]) (by kernel_rfl) name
  rw [h] at this
  exact this

set_option maxRecDepth 100000 in
set_option maxHeartbeats 2000000 in
theorem actCheck_any (w : World) (P : Nat → Addr) (name wd : B) (n : Nat) (hw : wd.length ≤ 1000000) (hv : ActVars w P) :
    Calls Tryz.prog 191 #[S name, S wd, I n] w (RetE (errC P (actCode name wd n)) w) := by
  cases hk : kinds.lookup name with
  | none =>
    have hc : actCode name wd n = 5 := by unfold actCode; rw [hk]
    rw [hc]
    have HKN := Lib.hid (fun (w1 : World) b (h : KMap .string S encK w1 b kinds) => kind_none hk h)
    have HV := Lib.hid hv
    clear hc hk hv
    go_enter Tryz.func191, Tryz.ntmps191
    go_wp2_with fail
    refine (kinds_any w).mono ?_
    rintro e w1 ⟨b, rfl, hm, ho⟩
    have HO := Lib.hid ho
    have HM := Lib.hid hm
    clear ho hm
    have hlk := HKN.out w1 b HM.out
    have c0 := fun o => (HV.out.ext (HO.out.thenAlloc o)).errs.var 4 _ (by decide) rfl
    go_wp2_with fail
    go_ret
    exact ⟨rfl, by first | exact HO.out.thenAlloc _ | exact (HO.out.thenAlloc _).thenDrewN _⟩
  | some k =>
    have HKS := Lib.hid (fun (w1 : World) b (h : KMap .string S encK w1 b kinds) => kind_some hk h)
    have HWD := Lib.hid (fun W (hW : Ext w W) => word_any W k wd hw (hv.atoi.ext hW) (hv.pow.ext hW))
    have HV := Lib.hid hv
    have eg := enters_word k
    have hcode : actCode name wd n = if n < k.least ∨ k.most < n ∨ k.word wd = false then 3 else if 100 < wd.length then 10 else 0 := by unfold actCode; rw [hk]
    generalize k.wordF = gw at *
    generalize k.runF = gr at *
    generalize k.least = lo at *
    generalize k.most = hi at *
    generalize k.word wd = r at *
    clear hk hv
    by_cases h1 : n < lo
    · rw [if_pos (.inl h1)] at hcode
      rw [hcode]
      have h1z : (n : Int) < (lo : Int) := by omega
      clear hcode h1 eg
      go_enter Tryz.func191, Tryz.ntmps191
      go_wp2_with fail
      refine (kinds_any w).mono ?_
      rintro e w1 ⟨b, rfl, hm, ho⟩
      have HO := Lib.hid ho
      have HM := Lib.hid hm
      clear ho hm
      have hlk := HKS.out w1 b HM.out
      have c0 := fun o => (HV.out.ext (HO.out.thenAlloc o)).errs.var 2 _ (by decide) rfl
      go_wp2_with fail
      go_ret
      exact ⟨rfl, HO.out.thenAlloc _⟩
    · have h1z : ¬ (n : Int) < (lo : Int) := by omega
      by_cases h2 : hi < n
      · rw [if_pos (.inr (.inl h2))] at hcode
        rw [hcode]
        have h2z : (hi : Int) < (n : Int) := by omega
        clear hcode h1 h2 eg
        go_enter Tryz.func191, Tryz.ntmps191
        go_wp2_with fail
        refine (kinds_any w).mono ?_
        rintro e w1 ⟨b, rfl, hm, ho⟩
        have HO := Lib.hid ho
        have HM := Lib.hid hm
        clear ho hm
        have hlk := HKS.out w1 b HM.out
        have c0 := fun o => (HV.out.ext (HO.out.thenAlloc o)).errs.var 2 _ (by decide) rfl
        go_wp2_with fail
        go_ret
        exact ⟨rfl, HO.out.thenAlloc _⟩
      · have h2z : ¬ (hi : Int) < (n : Int) := by omega
        cases r with
        | false =>
          rw [if_pos (.inr (.inr rfl))] at hcode
          rw [hcode]
          clear hcode h1 h2
          go_enter Tryz.func191, Tryz.ntmps191
          go_wp2_with fail
          refine (kinds_any w).mono ?_
          rintro e w1 ⟨b, rfl, hm, ho⟩
          have HO := Lib.hid ho
          have HM := Lib.hid hm
          clear ho hm
          have hlk := HKS.out w1 b HM.out
          go_wp2_with fail
          refine (HWD.out _ (HO.out.thenAlloc _)).mono ?_
          rintro e w2 ⟨rfl, ho2⟩
          have HO2 := Lib.hid ((HO.out.thenAlloc _).then ho2)
          clear ho2
          have c0 := (HV.out.ext HO2.out).errs.var 2 _ (by decide) rfl
          go_wp2_with fail
          go_ret
          exact ⟨rfl, HO2.out⟩
        | true =>
          rw [if_neg (by simp; omega)] at hcode
          clear h1 h2
          by_cases h3 : 100 < wd.length
          · rw [if_pos h3] at hcode
            rw [hcode]
            have h3z : (100 : Int) < (wd.length : Int) := by omega
            clear hcode h3
            go_enter Tryz.func191, Tryz.ntmps191
            go_wp2_with fail
            refine (kinds_any w).mono ?_
            rintro e w1 ⟨b, rfl, hm, ho⟩
            have HO := Lib.hid ho
            have HM := Lib.hid hm
            clear ho hm
            have hlk := HKS.out w1 b HM.out
            go_wp2_with fail
            refine (HWD.out _ (HO.out.thenAlloc _)).mono ?_
            rintro e w2 ⟨rfl, ho2⟩
            have HO2 := Lib.hid ((HO.out.thenAlloc _).then ho2)
            clear ho2
            have c0 := (HV.out.ext HO2.out).errs.var 9 _ (by decide) rfl
            go_wp2_with fail
            go_ret
            exact ⟨rfl, HO2.out⟩
          · rw [if_neg h3] at hcode
            rw [hcode]
            have h3z : ¬ (100 : Int) < (wd.length : Int) := by omega
            clear hcode h3
            go_enter Tryz.func191, Tryz.ntmps191
            go_wp2_with fail
            refine (kinds_any w).mono ?_
            rintro e w1 ⟨b, rfl, hm, ho⟩
            have HO := Lib.hid ho
            have HM := Lib.hid hm
            clear ho hm
            have hlk := HKS.out w1 b HM.out
            go_wp2_with fail
            refine (HWD.out _ (HO.out.thenAlloc _)).mono ?_
            rintro e w2 ⟨rfl, ho2⟩
            have HO2 := Lib.hid ((HO.out.thenAlloc _).then ho2)
            clear ho2
            go_wp2_with fail
            go_ret
            exact ⟨rfl, HO2.out⟩

theorem join_le (sep : B) : ∀ l : List B, (Lib.join l sep).length ≤ sumLen l + l.length * sep.length
  | [] => by simp [Lib.join_nil]
  | x :: r => by
    have h : ∀ q : List B, (Lib.joinTail sep q).length ≤ sumLen q + q.length * sep.length := fun q => by
      induction q with
      | nil => simp [Lib.joinTail]
      | cons y q ih =>
        have e : Lib.joinTail sep (y :: q) = sep ++ y ++ Lib.joinTail sep q := by simp [Lib.joinTail]
        rw [e, sum_cons, List.length_cons, Nat.succ_mul]
        simp
        omega
    have e : Lib.join (x :: r) sep = x ++ Lib.joinTail sep r := Lib.join_cons x r sep
    rw [e, List.length_append, sum_cons, List.length_cons, Nat.succ_mul]
    have := h r
    omega

theorem joinX_any (w : World) (v : Value) (l : List B) (sep : B) (hv : Rd S w v l) (hn : l.length ≤ 1000000) (hl : (Lib.join l sep).length ≤ 140737488355328) :
    Calls Tryz.prog 144 #[v, S sep] w (RetE (S (Lib.join l sep)) w) := by
  obtain ⟨a, cap, rfl, h1, h2, h3⟩ := hv
  cases l with
  | nil =>
    refine (Tryz.strings_Join_none a cap ⟨sep.toArray⟩ w).mono ?_
    rintro e w' ⟨rfl, rfl⟩
    exact ⟨rfl, Only.refl _ _⟩
  | cons x r =>
    obtain ⟨b, off, rfl, hc⟩ := h3 (by simp)
    have hb : b < w.heap.size := lt_of_cell (hc 0 x rfl)
    have hcells : ∀ (j : Nat) y, ((x :: r).map fun z => (⟨z.toArray⟩ : ByteArray))[j]? = some y → w.cell? ⟨b, off + j, none⟩ = some (.string y) := fun j y hy => by
      rw [List.getElem?_map] at hy
      obtain ⟨z, hz, rfl⟩ := Option.map_eq_some_iff.1 hy
      exact hc j z hz
    have hm : (((x :: r).map fun z => (⟨z.toArray⟩ : ByteArray)).map (·.data.toList)) = x :: r := by
      rw [List.map_map]; exact List.map_id _
    have hj : Lib.join (((x :: r).map fun z => (⟨z.toArray⟩ : ByteArray)).map (·.data.toList)) (⟨sep.toArray⟩ : ByteArray).data.toList = Lib.join (x :: r) sep := by rw [hm]
    have hlen : ((x :: r).map fun z => (⟨z.toArray⟩ : ByteArray)).length = (x :: r).length := by simp
    have h := Tryz.strings_Join b off cap ((x :: r).map fun z => (⟨z.toArray⟩ : ByteArray)) ⟨sep.toArray⟩ w hcells hb (by rw [hlen]; omega) (by rw [hlen]; exact h1) (by rw [hj]; exact hl)
    rw [hlen] at h
    refine h.mono ?_
    rintro e w' ⟨rfl, hbl⟩
    exact ⟨by rw [hj], Only.of_below hbl⟩

theorem join_run (w : World) (wd : B) (l : List B) (v : Value) (hv : Rd S w v l) (hb : sumLen l + l.length ≤ 900000) (hw : wd.length ≤ 1000) :
    Calls Tryz.prog 257 #[S wd, v] w (RetE (S (Lib.join l wd)) w) := by
  have hj : Calls Tryz.prog 144 #[v, S wd] w (RetE (S (Lib.join l wd)) w) := joinX_any w v l wd hv (by omega) (by
    have h1 := join_le wd l
    have h2 : l.length * wd.length ≤ 900000 * 1000 := Nat.mul_le_mul (by omega) hw
    omega)
  have HJ := Lib.hid hj
  obtain ⟨a, cap, rfl, _, _, _⟩ := hv
  clear hj
  go_enter Tryz.func257, Tryz.ntmps257
  go_wp2_with fail
  refine (HJ.out).mono ?_
  rintro e w1 ⟨rfl, ho⟩
  have HO := Lib.hid ho
  clear ho
  go_wp2_with fail
  go_ret
  exact ⟨rfl, HO.out⟩

theorem write_run (w : World) (wd : B) (v : Value) : Calls Tryz.prog 256 #[S wd, v] w (RetE (S wd) w) := by
  go_enter Tryz.func256, Tryz.ntmps256
  go_wp2_with fail
  go_ret
  exact ⟨rfl, Only.refl _ _⟩

theorem pair_cut {wd : B} (h : pairB wd = true) : (cut1 61 wd).1 ≠ [] := by
  intro e
  obtain ⟨_, h2, h3⟩ := cut1_spec 61 wd
  unfold pairB at h
  cases hf : (cut1 61 wd).2.2 with
  | true =>
    have := h2 hf
    rw [e] at this
    rw [this] at h
    simp at h
  | false =>
    have := (h3 hf).1
    rw [this] at e
    simp only at e
    rw [e] at h
    simp at h

theorem run_kind (w : World) (P : Nat → Addr) (k : Kd) (wd : B) (l : List B) (v : Value) (hv : Rd S w v l) (hb : sumLen l + l.length ≤ 900000) (hw : wd.length ≤ 1000) (h1 : k.least ≤ l.length) (h2 : k.word wd = true) (hA : ActVars w P) :
    Calls Tryz.prog k.runF #[S wd, v] w (RetE (S (k.run wd l)) w) := by
  have hx : ∀ x r, l = x :: r → x.length ≤ 900000 := fun x r e => by subst e; rw [sum_cons] at hb; omega
  cases k with
  | write => exact write_run w wd v
  | join => exact join_run w wd l v hv hb hw
  | sort => exact sorted_any w wd l v hv hb hA.max
  | count => exact count_any w wd l v hv hb hA.max hA.pow
  | upper =>
    cases l with
    | nil => simp [Kd.least] at h1
    | cons x r => exact upper_any w wd x r v hv (by have := hx x r rfl; omega)
  | lines =>
    cases l with
    | nil => simp [Kd.least] at h1
    | cons x r => exact actLines_any w wd x r v hv (hx x r rfl) hA.max
  | swap =>
    cases l with
    | nil => simp [Kd.least] at h1
    | cons x r => exact swap_any w wd x r v hv (hx x r rfl) hw (pair_cut h2) hA.max
  | head =>
    cases l with
    | nil => simp [Kd.least] at h1
    | cons x r =>
      obtain ⟨n, hn⟩ := Option.isSome_iff_exists.1 h2
      have := head_any w wd x r v n hv (hx x r rfl) hn hA.max
      show Calls _ _ _ _ (RetE (S (endedB ((linesB x).take ((numB 3 wd).getD 0)))) w)
      rw [hn]
      exact this
end Go.Proofs.YtnmhaipjfpongacGreatDoor

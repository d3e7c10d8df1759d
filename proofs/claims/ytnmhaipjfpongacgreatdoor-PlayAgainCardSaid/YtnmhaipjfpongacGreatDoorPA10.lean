/- Texts of this seat laid together for one claim: V12, F0, W2, V6, V15. No condition of its own: what each proves stands with its theorems. -/
import Derived.Test.YtnmhaipjfpongacGreatDoorPA9
import Derived.Test.YtnmhaipjfpongacGreatDoorPA8
import Derived.Test.YtnmhaipjfpongacGreatDoorPA7
import Derived.Lib.SlicesCompact
namespace Go.Proofs.YtnmhaipjfpongacGreatDoor
open Go.ChangeShapes Go.WideShapes Go.ChangeAt Go.RowKit

def lineT (q : B × B) : B := q.1 ++ 32 :: Lib.decDigits q.2.length ++ 10 :: q.2 ++ [10]
def textT (L : FL) : B := L.flatMap lineT

theorem text_take_step {L : FL} {j : Nat} {q : B × B} (h : L[j]? = some q) : textT (L.take (j + 1)) = textT (L.take j) ++ lineT q := by
 unfold textT
 rw [List.take_add_one, h]
 simp

theorem line_len {q : B × B} (h1 : q.1.length ≤ 1000) (h2 : q.2.length ≤ 2000) : (lineT q).length ≤ 3100 := by
 have := dec_le q.2.length (by omega)
 unfold lineT
 simp
 omega

theorem text_take_len {L : FL} (h1 : ∀ q ∈ L, q.1.length ≤ 1000) (h2 : ∀ q ∈ L, q.2.length ≤ 2000) : ∀ j, (textT (L.take j)).length ≤ 3100 * j
 | 0 => by simp [textT]
 | j + 1 => by
  have ih := text_take_len h1 h2 j
  cases hx : L[j]? with
  | none =>
   have : L.take (j + 1) = L.take j := by rw [List.take_add_one, hx]; simp
   rw [this]; omega
  | some q =>
   have hm := List.mem_of_getElem? hx
   have hl := line_len (h1 q hm) (h2 q hm)
   rw [text_take_step hx, List.length_append]
   omega

theorem line_ba (p d x : B) (hd : d = Lib.decDigits x.length) : ((⟨p.toArray⟩ : ByteArray) ++ ⟨#[32]⟩ ++ ⟨d.toArray⟩ ++ ⟨#[10]⟩ ++ ⟨x.toArray⟩ ++ ⟨#[10]⟩) = ⟨(lineT (p, x)).toArray⟩ := by
 rw [show (⟨#[32]⟩ : ByteArray) = ⟨([32] : B).toArray⟩ from rfl, show (⟨#[10]⟩ : ByteArray) = ⟨([10] : B).toArray⟩ from rfl]
 simp only [ba_app]
 simp [lineT, hd]

abbrev IsBF (n0 b : Nat) (l : B) (w : World) : Prop := Lib.IsBuilderF 169 5 n0 b (Lib.byteCells l) w

theorem builderAtF_ext {n0 b : Nat} {p : Value} {bs : List Value} {w w' : World} (h : Lib.BuilderAtF 169 5 n0 b p bs w) (ho : Ext w w') : Lib.BuilderAtF 169 5 n0 b p bs w' := by
 obtain ⟨h1, v, h2, h3, h4⟩ := h
 refine ⟨h1, v, ho.heapOf h2 (fun h => h), ?_, h4⟩
 obtain ⟨h5, h6⟩ := h3
 refine ⟨h5, ?_⟩
 rcases h6 with h6 | ⟨g, cap, cur, fz, h7, h8, h9, h10⟩
 ·exact .inl h6
 ·exact .inr ⟨g, cap, cur, fz, h7, h8, ho.heapOf h9 (fun h => h), h10⟩

theorem IsBF.ext {n0 b : Nat} {l : B} {w w' : World} (h : IsBF n0 b l w) (ho : Ext w w') : IsBF n0 b l w' := by
 rcases h with h | h
 ·exact .inl (builderAtF_ext h ho)
 ·exact .inr (builderAtF_ext h ho)

theorem IsBF.fresh (w : World) : IsBF w.heap.size w.heap.size [] (w.alloc (.cells #[.pointer none, .slice none 0 0] 169 (0, 0))) :=
 .inl (Lib.BuilderAtF.of ⟨Nat.le_refl _, .slice none 0 0, (MapKept.heap_alloc w _).1, World.ownsRow_nil _ _ _ _, by intro h; cases h⟩)

def TextsKept (w w' : World) : Prop := ∀ (k : Nat) (cs : Array Value) (fz : Nat × Nat), w.heap[k]? = some (.cells cs 9 fz) → w'.heap[k]? = some (.cells cs 9 fz)

theorem TextsKept.ext {a w w' : World} (h : TextsKept a w) (ho : Ext w w') : TextsKept a w' := fun k cs fz hk => ho.heapOf (h k cs fz hk) (fun h => h)

theorem TextsKept.others {a w w' : World} {n0 b : Nat} {l : B} (h : TextsKept a w) (hb : IsBF n0 b l w) (ho : Lib.OthersKept 5 (some b) w w') : TextsKept a w' := fun k cs fz hk => by
 have hk' := h k cs fz hk
 refine ho k _ hk' ?_ ?_
 ·intro e
  have e : k = b := Option.some.inj e
  rw [e] at hk'
  rcases hb with ⟨_, v, h2, _⟩ | ⟨_, v, h2, _⟩
  all_goals
   rw [h2] at hk'
   cases hk'
 ·intro c fz' e
  cases e

theorem writeK_any (n0 b : Nat) (l s : B) (w : World) (h : IsBF n0 b l w) (hlen : l.length + s.length ≤ 140737488355328) (hBw : n0 ≤ w.heap.size) :
  Calls Tryz.prog 106 #[.pointer (some ⟨b, 0, none⟩), S s] w fun e w' => e = .returned (.tuple #[I s.length, .nilIface]) ∧ IsBF n0 b (l ++ s) w' ∧ Below n0 w w' ∧ Lib.OthersKept 5 (some b) w w' := by
 have hsz : (⟨s.toArray⟩ : ByteArray).size = s.length := by simp [ByteArray.size]
 refine (Any.Builder_WriteString_k { Tryz.lays156 with } Tryz.Builder_Extra_156 n0 b (Lib.byteCells l) ⟨s.toArray⟩ w h (by rw [Lib.byteCells_length, hsz]; exact hlen) hBw).mono ?_
 rintro e w' ⟨rfl, h1, h2, h3⟩
 refine ⟨by rw [hsz], .inr ?_, h2, h3⟩
 have e1 : Lib.byteCells l ++ Lib.strCells ⟨s.toArray⟩ = Lib.byteCells (l ++ s) := by rw [Lib.strCells_eq]; simp [Lib.byteCells]
 rw [← e1]
 exact h1

set_option maxRecDepth 100000 in
set_option maxHeartbeats 4000000 in
theorem text_any (w : World) (b mb : Nat) (L : FL) (h : TreeAt w b mb L) (hr : Rising L) (h1 : ∀ q ∈ L, q.1.length ≤ 1000) (h2 : ∀ q ∈ L, q.2.length ≤ 2000) (hn : L.length ≤ 60) (hp : Pow w) :
  Calls Tryz.prog 31 #[.pointer (some ⟨b, 0, none⟩)] w fun e w' => e = .returned (S (textT L)) ∧ Ext w w' := by
 have HPA := Lib.hid (fun W (hW : Ext w W) => paths_any W b mb L (h.ext hW) hr (fun q hq => by have := h1 q hq; omega) (by omega))
 obtain ⟨T, hT⟩ : ∃ T, Hid (T = textT L) := ⟨_, Lib.hid rfl⟩
 rw [← hT.out]
 have H := Lib.hid h
 have H1 := Lib.hid h1
 have H2 := Lib.hid h2
 have HP := Lib.hid hp
 have HR := Lib.hid hr
 clear h hr h1 h2 hp
 go_enter Tryz.func31, Tryz.ntmps31
 go_wp2_with fail
 refine (HPA.out _ (Only.alloc (fun _ => False) w _)).mono ?_
 rintro e w1 ⟨v, rfl, hv, ho, ht⟩
 have HO1 := Lib.hid ((Only.alloc (fun _ => False) w (.cells #[.pointer none, .slice none 0 0] 169 (0, 0))).ext ho)
 have HB1 := Lib.hid ((IsBF.fresh w).ext ho)
 obtain ⟨a, cap, rfl, _, _, hc⟩ := hv
 simp only [List.length_map] at *
 have HC := Lib.hid hc
 have HT := Lib.hid ht
 clear ho hc ht
 obtain ⟨bb, hbE⟩ : ∃ b, b = w.heap.size := ⟨_, rfl⟩
 have HB1' : Hid (IsBF w.heap.size bb [] w1) := by rw [hbE]; exact HB1
 rw [← hbE]
 clear hbE HB1
 go_wp2_with fail
 go_loopw [9] (fun i wr => ∃ j : Nat, j ≤ L.length ∧ i = .int .i64 j ∧ Hid (Ext w wr) ∧ Hid (TextsKept w1 wr) ∧ Hid (IsBF w.heap.size bb (textT (L.take j)) wr)) (fun i _ => L.length - (intOf i).toNat)
 case atStart => exact ⟨0, Nat.zero_le _, rfl, HO1, Lib.hid (fun _ _ _ h => h), HB1'⟩
 case round =>
  obtain ⟨j, hj, rfl, HX, HX1, HB⟩ := hrel
  by_cases hlt : j < L.length
  ·have hltz : (j : Int) < (L.length : Int) := by omega
   obtain ⟨b0, off, rfl, hcell⟩ := HC.out (by intro h; rw [List.map_eq_nil_iff] at h; rw [h] at hlt; simp at hlt)
   obtain ⟨⟨p, x⟩, hq⟩ : ∃ y, L[j]? = some y := ⟨_, List.getElem?_eq_getElem hlt⟩
   have d0 : wr.cell? ⟨b0, off + j, none⟩ = some (S p) := by
    obtain ⟨cur, hcur⟩ := HT.out b0 rfl
    have h3 := hcell j p (by rw [List.getElem?_map, hq]; rfl)
    rw [cell_of_heap hcur] at h3
    rw [cell_of_heap (HX1.out _ _ _ hcur)]
    exact h3
   have hW := H.out.ext HX.out
   have c0 := hW.mapCell
   have hlk : L.lookup p = some x := lookup_of_mem HR.out.nodup (List.mem_of_getElem? hq)
   have hlook := KMap.look1 (P := Tryz.prog) keyOk_str hW.map Tryz.underlying171 Tryz.underlying9 (zeroStr wr) p
   simp only [hlk] at hlook
   have hxl := H2.out _ (List.mem_of_getElem? hq)
   have hpl := H1.out _ (List.mem_of_getElem? hq)
   have hxn : x.length ≤ 2000 := hxl
   have hpn : p.length ≤ 1000 := hpl
   have hit := fun W (h : Ext w W) => itoa_any W x.length (by omega) (HP.out.ext h)
   have hdl := dec_le x.length (by omega)
   have hst := text_take_step hq
   have htl := text_take_len H1.out H2.out j
   have hll := line_len (q := (p, x)) hpl hxl
   obtain ⟨d, hd⟩ : ∃ d, d = Lib.decDigits x.length := ⟨_, rfl⟩
   have hba := line_ba p d x hd
   rw [← hd] at hdl
   simp only [← hd] at hit
   obtain ⟨F, hF⟩ : ∃ F, F = textT (L.take j) := ⟨_, rfl⟩
   rw [← hF] at HB hst htl
   obtain ⟨ln, hln⟩ : ∃ ln, ln = lineT (p, x) := ⟨_, rfl⟩
   rw [← hln] at hst hll hba
   have q1 : ¬ 9223372036854775807 < p.length + 1 := by omega
   have q2 : ¬ 9223372036854775807 < p.length + 1 + d.length := by omega
   have q3 : ¬ 9223372036854775807 < p.length + 1 + d.length + 1 := by omega
   have q4 : ¬ 9223372036854775807 < p.length + 1 + d.length + 1 + x.length := by omega
   have q5 : ¬ 9223372036854775807 < p.length + 1 + d.length + 1 + x.length + 1 := by omega
   have hfl : F.length + ln.length ≤ 140737488355328 := by omega
   have hlk5 : ∀ w5, Ext w w5 → (Instr.lookup 171 (.map (some mb)) (S p) false).run Tryz.prog w5 = .ok (S x) w5 := fun w5 h5 => by
    have := KMap.look1 (P := Tryz.prog) keyOk_str (H.out.ext h5).map Tryz.underlying171 Tryz.underlying9 (zeroStr w5) p
    simp only [hlk] at this
    exact this
   have l0d := hlk5 wr.drew HX.out.thenDrew
   have HLK5 := Lib.hid hlk5
   have HIT := Lib.hid hit
   have HST := Lib.hid hst
   have HBA := Lib.hid hba
   have HFL := Lib.hid hfl
   clear hcell hW hlk hq hF hln hd hit hst hba hll htl hdl hxl hpl hlk5 hfl hxn hpn
   go_wp2_with fail
   go_region_law (go_simp; first
    | (go_at_call 107; refine (HIT.out _ (by first | exact HX.out | exact HX.out.thenDrew | exact HX.out.thenDrewN _)).mono ?_; rintro e w5 ⟨rfl, ho⟩; have HX5 : Hid (Ext w w5) := Lib.hid (Only.ext (by first | exact HX.out | exact HX.out.thenDrew | exact HX.out.thenDrewN _) ho); have HB5 : Hid (IsBF w.heap.size bb F w5) := Lib.hid (IsBF.ext HB.out (Only.ext (by first | exact Only.refl _ _ | exact Only.drew _ _ | exact Only.drewN _ _ _) ho)); have HY5 : Hid (TextsKept w1 w5) := Lib.hid (HX1.out.ext (Only.ext (by first | exact Only.refl _ _ | exact Only.drew _ _ | exact Only.drewN _ _ _) ho)); have c5 := (H.out.ext HX5.out).mapCell; have l5 := HLK5.out w5 HX5.out; clear ho)
    | (go_at_call 106; rw [HBA.out]; refine (writeK_any w.heap.size bb F ln _ (by first | exact HB5.out | exact HB5.out.ext (Only.drew _ _) | exact HB5.out.ext (Only.drewN _ _ _)) HFL.out (by first | exact HX5.out.size | exact HX5.out.thenDrew.size | exact (HX5.out.thenDrewN _).size)).mono ?_; rintro e w6 ⟨rfl, hb6, hbl, hok⟩; have HX6 : Hid (Ext w w6) := Lib.hid (ext_below (by first | exact HX5.out | exact HX5.out.thenDrew | exact HX5.out.thenDrewN _) hbl); have HB6 := Lib.hid hb6; have HY6 : Hid (TextsKept w1 w6) := Lib.hid (HY5.out.others HB5.out hok); clear hb6 hbl hok))
   all_goals go_wp2
   all_goals
    refine ⟨⟨j + 1, by omega, by go_num, HX6, HY6, Lib.hid (by rw [HST.out]; exact HB6.out)⟩, (by simp [intOf]; omega)⟩
  ·have hltz : ¬ ((j : Int) < (L.length : Int)) := by omega
   have ht : L.take j = L := List.take_of_length_le (by omega)
   rw [ht, ← hT.out] at HB
   go_wp2_with fail
   refine (Tryz.Builder_String_any_k w.heap.size bb T wr HB.out HX.out.size).mono ?_
   rintro e w6 ⟨rfl, _, hbl, _⟩
   go_wp2_with fail
   go_ret
   exact ⟨rfl, ext_below HX.out hbl⟩
end Go.Proofs.YtnmhaipjfpongacGreatDoor

namespace Go.Proofs.YtnmhaipjfpongacGreatDoor
open Go.ChangeShapes Go.WideShapes Go.ChangeAt Go.RowKit

def RetE (v : Value) (w : World) (e : Ending) (w' : World) : Prop := e = .returned v ∧ Ext w w'
abbrev Row (base : Nat) (w : World) (v : Value) (l : List B) : Prop := w.ownsRow base 9 1 v l.length (l.map S)
def RetRow (l : List B) (w : World) (e : Ending) (w' : World) : Prop := ∃ v, e = .returned v ∧ Ext w w' ∧ Row w.heap.size w' v l

theorem Row.ext {base : Nat} {w w' : World} {v : Value} {l : List B} (h : Row base w v l) (ho : Ext w w') : Row base w' v l := ho.row h fun _ _ h => h
theorem Row.rd {base : Nat} {w : World} {v : Value} {l : List B} (h : Row base w v l) : Rd S w v l := Rd.of_row h
theorem Row.nil (base : Nat) (w : World) : Row base w (.slice none 0 0) [] := World.ownsRow_nil _ _ _ _
theorem Row.base {base : Nat} {w : World} {v : Value} {l : List B} (h : Row base w v l) : ∀ i, v.ownBlock = some i → base ≤ i := fun i hi => (h.lt i hi).1

theorem grown_ext {w0 wr w' : World} (I : Ext w0 wr) {v : Value} (hv : ∀ i, v.ownBlock = some i → w0.heap.size ≤ i) (hg : wr.grownBy w' v.ownBlock) : Ext w0 w' :=
 I.thenGrown hg fun i hi => .inr (hv i hi)

theorem addrAdd (b off j : Nat) : (⟨b, off, none⟩ : Addr).add j = ⟨b, off + j, none⟩ := by cases j <;> simp [Addr.add]

theorem wpText {P : Program} (hP : P = Tryz.prog) {ops : Array Oper} {rest : List Oper} {o : Oper} {a : Act} {Q : Exit → Act → World → Prop} (s x : Operand) (w0 : World) (base : Nat) (v : Value) (l : List B) (k : B) (W : World) (hgd : o.guard = none)
  (ho : o.op = .call { callee := .builtin .append, args := #[s, x], argTypes := #[53, 53] }) (hs : a.eval s = v) (hx : a.eval x = .slice (some ⟨W.heap.size, 0, none⟩) 1 1)
  (hrow : Row base W v l) (hl : l.length ≤ 1000000) (hbase : base ≤ W.heap.size) (hxt : Ext w0 W) (hb0 : w0.heap.size ≤ base)
  (hK : ∀ g cap w', Hid (Row base w' (.slice (some ⟨g, 0, none⟩) (l.length + 1) cap) (l ++ [k])) → Hid (Ext w0 w') → Hid (W.grownBy w' v.ownBlock) →
   wpList P ops Q rest (a.put o.dst (.slice (some ⟨g, 0, none⟩) (l.length + 1) cap)) w') :
  wpList P ops Q (o :: rest) a (W.alloc (.cells #[S k] 9 (0, 0))) := by
 subst hP
 refine wpList_appS (fun s => [S s]) 53 9 1 16 _ infoStr Tryz.underlying53 rfl (by decide) (fun _ => rfl) (fun _ u hu => by cases List.mem_singleton.1 hu; rfl) (by decide) s x base v l k W _ rfl hgd ho hs hx (by rw [flat_one]; exact hrow) hl hbase ?_
 intro g cap w' h1 h2 h3
 rw [flat_one] at h1
 refine hK g cap w' (Lib.hid ?_) (Lib.hid (grown_ext hxt (fun i hi => Nat.le_trans hb0 (hrow.base i hi)) h2)) (Lib.hid h2)
 show World.ownsRow _ _ _ _ _ (l ++ [k]).length _
 rw [List.length_append]
 exact h1

theorem wpTexts {P : Program} (hP : P = Tryz.prog) {ops : Array Oper} {rest : List Oper} {o : Oper} {a : Act} {Q : Exit → Act → World → Prop} (s x : Operand) (w0 : World) (base : Nat) (v vx : Value) (l k : List B) (W : World) (hgd : o.guard = none)
  (ho : o.op = .call { callee := .builtin .append, args := #[s, x], argTypes := #[53, 53] }) (hs : a.eval s = v) (hx : a.eval x = vx) (hrd : Rd S W vx k) (hnz : vx.ownBlock = none → vx = .slice none 0 0)
  (hrow : Row base W v l) (hl : l.length + k.length ≤ 1000000) (hbase : base ≤ W.heap.size) (hxt : Ext w0 W) (hb0 : w0.heap.size ≤ base)
  (hK : ∀ ao m cap w', m = (l ++ k).length → Hid (Row base w' (.slice ao m cap) (l ++ k)) → Hid (Ext w0 w') → Hid (W.grownBy w' v.ownBlock) →
   wpList P ops Q rest (a.put o.dst (.slice ao m cap)) w') :
  wpList P ops Q (o :: rest) a W := by
 subst hP
 obtain ⟨ao, c, rfl, hcap, hml, hc⟩ := hrd
 refine wpList_appL (fun s => [S s]) 53 9 1 16 _ infoStr Tryz.underlying53 rfl (by decide) (fun _ => rfl) (fun _ u hu => by cases List.mem_singleton.1 hu; rfl) (by decide) s x base v l k W hgd ho hs ao k.length c hx rfl ?_ (by rw [flat_one]; exact hrow) hl hbase ?_
 ·cases ao with
  | none =>
   have hz := hnz rfl
   cases k with
   | nil => cases hz; exact .inl ⟨rfl, rfl, rfl⟩
   | cons y k => obtain ⟨_, _, h, _⟩ := hc (by simp); cases h
  | some ad =>
   refine .inr ⟨ad, rfl, fun j u hu => ?_⟩
   cases k with
   | nil => simp at hu
   | cons y k =>
    obtain ⟨b, off, h, hcell⟩ := hc (by simp)
    cases h
    rw [flat_one, List.getElem?_map] at hu
    cases hq : (y :: k)[j]? with
    | none => rw [hq] at hu; cases hu
    | some z =>
     rw [hq] at hu
     cases hu
     rw [addrAdd]
     exact hcell j z hq
 ·intro ao' m' cap w' hm' h1 h2 h3
  rw [flat_one] at h1
  exact hK ao' m' cap w' hm' (Lib.hid h1) (Lib.hid (grown_ext hxt (fun i hi => Nat.le_trans hb0 (hrow.base i hi)) h2)) (Lib.hid h2)

theorem Row.nz {base : Nat} {w : World} {v : Value} {l : List B} (h : Row base w v l) : v.ownBlock = none → v = .slice none 0 0 := by
 intro hn
 rcases h.2 with ⟨h1, _⟩ | ⟨g, cap, cur, rfl, _⟩
 ·exact h1
 ·cases hn

def linesB (s : B) : List B := if (cutc 10 s).getLast? = some [] then (cutc 10 s).dropLast else cutc 10 s
def endedB (l : List B) : B := l.flatMap (· ++ [10])
def allB (l : List B) : List B := l.flatMap linesB

theorem ended_step {l : List B} {j : Nat} {x : B} (h : l[j]? = some x) : endedB (l.take (j + 1)) = endedB (l.take j) ++ (x ++ [10]) := by
 unfold endedB
 rw [List.take_add_one, h]
 simp
theorem all_step {l : List B} {j : Nat} {x : B} (h : l[j]? = some x) : allB (l.take (j + 1)) = allB (l.take j) ++ linesB x := by
 unfold allB
 rw [List.take_add_one, h]
 simp

theorem ended_cons (x : B) (l : List B) : endedB (x :: l) = x ++ [10] ++ endedB l := by simp [endedB]
theorem ended_app (a b : List B) : endedB (a ++ b) = endedB a ++ endedB b := by simp [endedB]
theorem ended_sub {a b : List B} (h : a.Sublist b) : (endedB a).length ≤ (endedB b).length := by
 induction h with
 | slnil => exact Nat.le_refl _
 | cons x _ ih => rw [ended_cons]; simp; omega
 | cons_cons x _ ih => rw [ended_cons, ended_cons]; simp; omega
theorem ended_mem {x : B} {l : List B} (h : x ∈ l) : x.length ≤ (endedB l).length := by
 have := ended_sub (List.singleton_sublist.2 h)
 rw [ended_cons] at this
 simp at this
 omega
theorem ended_perm {a b : List B} (h : a.Perm b) : (endedB a).length = (endedB b).length := by
 unfold endedB
 exact (h.flatMap_right _).length_eq
theorem ended_join : ∀ {l : List B}, l ≠ [] → endedB l = joinc 10 l ++ [10]
 | [x], _ => by simp [endedB, joinc_one]
 | x :: y :: l, _ => by rw [ended_cons, ended_join (l := y :: l) (by simp), joinc_cons]; simp
theorem ended_cut (s : B) : endedB (cutc 10 s) = s ++ [10] := by rw [ended_join (cutc_ne 10 s), join_cut_c]
theorem linesB_sub (s : B) : (linesB s).Sublist (cutc 10 s) := by
 unfold linesB
 split
 ·exact List.dropLast_sublist _
 ·exact List.Sublist.refl _
theorem ended_lines (s : B) : (endedB (linesB s)).length ≤ s.length + 1 := by
 have := ended_sub (linesB_sub s)
 rw [ended_cut] at this
 simpa using this
def sumLen (l : List B) : Nat := (l.map List.length).sum
theorem sum_cons (x : B) (l : List B) : sumLen (x :: l) = x.length + sumLen l := by simp [sumLen]
theorem sum_mem {x : B} : ∀ {l : List B}, x ∈ l → x.length ≤ sumLen l
 | y :: l, h => by
  rw [sum_cons]
  rcases List.mem_cons.1 h with rfl | h
  ·omega
  ·have := sum_mem h; omega
theorem sum_take (l : List B) : ∀ j, sumLen (l.take j) ≤ sumLen l := by
 induction l with
 | nil => intro j; simp [sumLen]
 | cons x l ih =>
  intro j
  cases j with
  | zero => simp [sumLen]
  | succ j => rw [List.take_succ_cons, sum_cons, sum_cons]; have := ih j; omega
theorem sum_step {l : List B} {j : Nat} {x : B} (h : l[j]? = some x) : sumLen (l.take (j + 1)) = sumLen (l.take j) + x.length := by
 unfold sumLen
 rw [List.take_add_one, h]
 simp
theorem ended_all : ∀ (l : List B), (endedB (allB l)).length ≤ sumLen l + l.length
 | [] => by simp [allB, endedB]
 | x :: l => by
  have := ended_all l
  have h2 := ended_lines x
  rw [show allB (x :: l) = linesB x ++ allB l from rfl, ended_app, List.length_append, sum_cons, List.length_cons]
  omega
theorem len_ended (l : List B) : l.length ≤ (endedB l).length := by
 induction l with
 | nil => exact Nat.le_refl _
 | cons x l ih => rw [ended_cons]; simp; omega

inductive Kd where
 | write | join | upper | lines | sort | count | swap | head
def kinds : List (B × Kd) := [([104, 101, 97, 100], .head), ([115, 119, 97, 112], .swap), ([99, 111, 117, 110, 116], .count), ([115, 111, 114, 116], .sort), ([108, 105, 110, 101, 115], .lines), ([117, 112, 112, 101, 114], .upper), ([106, 111, 105, 110], .join), ([119, 114, 105, 116, 101], .write)]

def Kd.least : Kd → Nat
 | .write => 0
 | _ => 1
def Kd.most : Kd → Nat
 | .write => 0
 | .join | .sort | .count => 8
 | _ => 1
def pairB (s : B) : Bool := s.count 61 == 1 && !(s.head? == some 61)
def Kd.word : Kd → B → Bool
 | .write, _ | .join, _ | .lines, _ => true
 | .upper, s | .count, s => s == []
 | .sort, s => s == [] || s == [111, 110, 99, 101]
 | .swap, s => pairB s
 | .head, s => (numB 3 s).isSome
def upB (c : UInt8) : UInt8 := if 97 ≤ c.toNat ∧ c.toNat ≤ 122 then c - 97 + 65 else c
def sortB (l : List B) : List B := l.mergeSort fun x y => decide (x ≤ y)
def sortedB (w : B) (l : List B) : List B := if w = [111, 110, 99, 101] then Lib.compact (sortB l) else sortB l
def hasB (w s : B) : Bool := Lib.contains s w
def Kd.run : Kd → B → List B → B
 | .write, w, _ => w
 | .join, w, l => Lib.join l w
 | .upper, _, l => (l.headD []).map upB
 | .lines, w, l => endedB ((linesB (l.headD [])).filter (hasB w))
 | .sort, w, l => endedB (sortedB w (allB l))
 | .count, _, l => Lib.decDigits (allB l).length ++ 32 :: Lib.decDigits (sumLen l) ++ [10]
 | .swap, w, l => Lib.replaceAll (l.headD []) (cut1 61 w).1 (cut1 61 w).2.1
 | .head, w, l => endedB ((linesB (l.headD [])).take ((numB 3 w).getD 0))

def actCode (name word : B) (n : Nat) : Nat :=
 match kinds.lookup name with
 | none => 5
 | some k => if n < k.least ∨ k.most < n ∨ k.word word = false then 3 else if 100 < word.length then 10 else 0
def actOut (name word : B) (l : List B) : B :=
 match kinds.lookup name with
 | none => []
 | some k => k.run word l
def runCode (name word : B) (l : List B) : Nat := if actCode name word l.length = 0 then (if 2000 < (actOut name word l).length then 10 else 0) else actCode name word l.length
def runOut (name word : B) (l : List B) : B := if runCode name word l = 0 then actOut name word l else []
end Go.Proofs.YtnmhaipjfpongacGreatDoor

namespace Go.Proofs.YtnmhaipjfpongacGreatDoor

instance (L : FL) : Decidable (Rising L) := inferInstanceAs (Decidable (List.Pairwise _ L))

theorem Rising.next {l : FL} (h : Rising l) {i : Nat} {x y : B × B} (hx : l[i]? = some x) (hy : l[i + 1]? = some y) : x.1 < y.1 := by
 obtain ⟨h1, rfl⟩ := List.getElem?_eq_some_iff.1 hx
 obtain ⟨h2, rfl⟩ := List.getElem?_eq_some_iff.1 hy
 exact List.pairwise_iff_getElem.1 h i (i + 1) h1 h2 (Nat.lt_succ_self i)

theorem dig_toNat {k : Nat} (h : k < 10) : (UInt8.ofNat (48 + k)).toNat = 48 + k := by
 have : ∀ k : Fin 10, (UInt8.ofNat (48 + k.val)).toNat = 48 + k.val := by decide +kernel
 exact this ⟨k, h⟩

theorem dec_all (u : Nat) : ∀ c ∈ Lib.decDigits u, 48 ≤ c.toNat ∧ c.toNat ≤ 57 := by
 induction u using Nat.strongRecOn with
 | _ u ih =>
  intro c hc
  by_cases h : u < 10
  ·rw [Lib.decDigits_one h, List.mem_singleton] at hc
   subst hc
   rw [dig_toNat h]; omega
  ·rw [Lib.decDigits, dif_neg h] at hc
   rcases List.mem_append.1 hc with hc | hc
   ·exact ih (u / 10) (by omega) c hc
   ·rw [List.mem_singleton] at hc
    subst hc
    rw [dig_toNat (Nat.mod_lt _ (by decide))]
    have := Nat.mod_lt u (show 0 < 10 by decide)
    omega

theorem dec_ne (u : Nat) : Lib.decDigits u ≠ [] := by
 have h1 := Lib.decDigits_length u
 have h2 := Lib.nDigits_pos u
 intro e
 rw [e] at h1
 simp at h1
 omega

theorem nDigits_le : ∀ (k u : Nat), 1 ≤ k → u < 10 ^ k → Lib.nDigits u ≤ k
 | 0, _, h, _ => absurd h (by decide)
 | k + 1, u, _, h => by
  by_cases h0 : u < 10
  ·rw [Lib.nDigits_small h0]; omega
  ·rw [Lib.nDigits_big h0]
   have hk : 1 ≤ k := by
    rcases Nat.eq_zero_or_pos k with e | e
    ·subst e; simp at h; omega
    ·exact e
   rw [Nat.pow_succ] at h
   have := nDigits_le k (u / 10) hk (by omega)
   omega

theorem parse_app {b : B} : ∀ {a : B} {acc v : Nat}, Lib.parseUint10 acc a = .ok v → Lib.parseUint10 acc (a ++ b) = Lib.parseUint10 v b
 | [], acc, v, h => by
  simp only [Lib.parseUint10] at h
  injection h with h
  rw [h]; rfl
 | c :: r, acc, v, h => by
  rw [List.cons_append]
  simp only [Lib.parseUint10] at h ⊢
  split at h
  ·rename_i hc
   rw [if_pos hc]
   split at h
   ·cases h
   ·rename_i h1
    rw [if_neg h1]
    split at h
    ·cases h
    ·rename_i h2
     rw [if_neg h2]
     exact parse_app h
  ·cases h

theorem parse_dec (u : Nat) : u < 1000000 → Lib.parseUint10 0 (Lib.decDigits u) = .ok u := by
 induction u using Nat.strongRecOn with
 | _ u ih =>
  intro hu
  by_cases h : u < 10
  ·rw [Lib.decDigits_one h]
   simp only [Lib.parseUint10, dig_toNat h]
   rw [if_pos (by omega), if_neg (by omega), if_neg (by omega)]
   congr 1; omega
  ·rw [Lib.decDigits, dif_neg h, parse_app (ih (u / 10) (by omega) (by omega))]
   have hm := Nat.mod_lt u (show 0 < 10 by decide)
   simp only [Lib.parseUint10, dig_toNat hm]
   rw [if_pos (by omega), if_neg (by omega), if_neg (by omega)]
   congr 1; omega

theorem num_dec {u : Nat} (h : u < 10000) : numB 4 (Lib.decDigits u) = some u := by
 have hp := parse_dec u (by omega)
 have hl : (Lib.decDigits u).length ≤ 4 := by rw [Lib.decDigits_length]; exact nDigits_le 4 u (by decide) h
 have ha : Lib.atoiAll (Lib.decDigits u) = .ok (u : Int) := by
  cases hd : Lib.decDigits u with
  | nil => exact absurd hd (dec_ne u)
  | cons c r =>
   have hc := dec_all u c (by rw [hd]; exact .head _)
   rw [hd] at hp
   have h1 : ¬ (c.toNat = 43 ∨ c.toNat = 45) := by omega
   have h2 : ¬ c.toNat = 45 := by omega
   simp only [Lib.atoiAll, Lib.parseMag, if_neg h1, hp]
   have h3 : ¬ (9223372036854775808 ≤ u) := by omega
   simp [h2, h3]
 unfold numB
 rw [ha]
 simp only
 rw [if_pos ⟨hl, by omega, rfl⟩]
 rfl

def Apart (L : FL) : Prop := ∀ q ∈ L, ∀ r ∈ L, aboveB q.1 r.1 = false

theorem aboveB_self (p : B) : aboveB p p = false := by
 unfold aboveB
 cases h : (p ++ [47]).isPrefixOf p with
 | false => rfl
 | true =>
  have := (List.isPrefixOf_iff_prefix.1 h).length_le
  rw [List.length_append] at this
  simp at this
  exact absurd this (by omega)

theorem Apart.nil : Apart [] := by intro q hq; simp at hq
theorem Apart.del {L : FL} (h : Apart L) (p : B) : Apart (delT L p) := fun q hq r hr => h q (List.mem_filter.1 hq).1 r (List.mem_filter.1 hr).1

theorem putCode_clash {L : FL} {p x : B} (h : putCode L p x = 0) : clash L p = false := by
 unfold putCode at h
 split at h
 ·split at h
  ·omega
  ·split at h
   ·omega
   ·rename_i h3; simpa using h3
 ·omega

theorem Apart.put {L : FL} (h : Apart L) (hr : Rising L) (p x : B) : Apart (putT L p x) := by
 unfold putT
 by_cases h0 : putCode L p x = 0
 ·rw [if_pos h0]
  have hc := putCode_clash h0
  unfold clash at hc
  rw [List.any_eq_false] at hc
  have key : ∀ q ∈ L, aboveB p q.1 = false ∧ aboveB q.1 p = false := fun q hq => by
   have := hc q hq
   simpa using this
  intro q hq r hr'
  rcases mem_set hr hq with rfl | hq
  ·rcases mem_set hr hr' with rfl | hr'
   ·exact aboveB_self _
   ·exact (key r hr').1
  ·rcases mem_set hr hr' with rfl | hr'
   ·exact (key q hq).2
   ·exact h q hq r hr'
 ·rw [if_neg h0]; exact h

end Go.Proofs.YtnmhaipjfpongacGreatDoor

namespace Go.Proofs.YtnmhaipjfpongacGreatDoor
open Go.ChangeShapes Go.WideShapes Go.ChangeAt Go.RowKit

theorem PutIs.done {w W w' : World} {P : Nat → Addr} {b mb : Nat} {L : FL} {p x : B} (_ : TreeAt w b mb L) (hr : Rising L) (hc : putCode L p x = 0) (hE : Ext w W) (hW : TreeAt W b mb L) (hm : KMap .string S S w' mb ((p, x) :: L.filter fun q => !(q.1 == p))) (ho : Only (fun i => i = mb) W w') :
  PutIs w P b mb L p x (.returned .nilIface) w' := by
 have e1 : putT L p x = setT L p x := by unfold putT; rw [if_pos hc]
 refine ⟨by rw [hc]; rfl, ?_, Only.after hE ho⟩
 rw [e1]
 exact hW.stores ho (hm.perm (set_perm hr p x))

set_option maxRecDepth 100000 in
set_option maxHeartbeats 4000000 in
theorem put_main (w : World) (P : Nat → Addr) (b mb : Nat) (L : FL) (p x : B) (h : TreeAt w b mb L) (hf : Fits L) (hs : Errs w P [1, 3, 6, 7]) (hm : HasMax w) (hp : p.length ≤ 999999) (hk : pathOk p = true) (hx : ¬ 2000 < x.length) (hq : ∀ q ∈ L, q.1.length ≤ 999999) :
  Calls Tryz.prog 38 #[.pointer (some ⟨b, 0, none⟩), S p, S x] w (PutIs w P b mb L p x) := by
 have HC := check_any w p (P 3) (by omega) hm (hs.var 3 _ (by decide) rfl)
 rw [hk, if_pos rfl] at HC
 have HC := Lib.hid HC
 have hcode : putCode L p x = if clash L p then 7 else if (L.lookup p).isNone && decide (60 ≤ L.length) then 8 else 0 := by unfold putCode; rw [hk, if_pos rfl, if_neg hx]
 have HK := Lib.hid hcode
 have H := Lib.hid h
 have HE := Lib.hid (hs.var 6 _ (by decide) rfl)
 have HF := Lib.hid (hs.var 7 _ (by decide) rfl)
 have HQ := Lib.hid hq
 have HFew := Lib.hid hf.few
 have hz : ¬ (2000 : Int) < (x.length : Int) := by omega
 have hbp := ba_slash p
 have hlp : ¬ 9223372036854775807 < p.length + 1 := by omega
 have hf := Lib.hid hf
 clear h hs hm hp hk hcode hx hq
 go_enter Tryz.func38, Tryz.ntmps38
 go_wp2_with fail
 refine HC.out.mono ?_
 rintro e w1 ⟨rfl, ho⟩
 have h1 := H.out.ext ho
 have c0 := h1.mapCell
 obtain ⟨es, clock, hb, hpm, _, _, hst⟩ := h1.map
 have hrg := run_range_map (P := Tryz.prog) w1 171 9 9 mb es clock Tryz.underlying171 hb
 have H1 := Lib.hid h1
 have HB := Lib.hid hb
 have HP := Lib.hid hpm
 have HS := Lib.hid hst
 have HO := Lib.hid ho
 clear h1 hb hpm hst ho
 go_wp2_with fail
 have hmr : mb ≠ w1.heap.size := Nat.ne_of_lt (lt_of_heap HB.out)
 go_loopw [] (fun w' => ∃ seen : Array Nat, Hid (Ext w1 w') ∧ Hid (w'.heap[w1.heap.size]? = some (.mapIter (some mb) clock seen clock)) ∧ Hid (∀ y ∈ es.toList, seen.contains y.born = true → near p (keyB y.key) = false)) (fun w' => (leftOf es (w'.iterSeen w1.heap.size)).size)
 case atStart => exact ⟨#[], Lib.hid (Only.alloc _ _ _), Lib.hid (MapKept.heap_alloc w1 _).1, Lib.hid fun y _ h => by simp at h⟩
 case round =>
  obtain ⟨seen, HX, HR, HN⟩ := hrel
  have law := next_step (P := Tryz.prog) (ty := 0) HX.out (Nat.le_refl _) HR.out (HX.out.heapOf HB.out (fun h => h)) hmr HS.out
  rcases law with ⟨h0, hrun⟩ | ⟨e, he, w3, hx3, hr3, hb3, hrun, hen⟩
  ·have hno : clash L p = false := by
    rw [← clash_of HP.out, List.any_eq_false]
    intro y hy
    rw [HN.out y hy (all_seen es seen h0 y hy)]
    decide
   have hcode := HK.out
   rw [hno, if_neg (by decide)] at hcode
   have hEW : Ext w wr := HO.out.then HX.out
   have hW : TreeAt wr b mb L := H.out.ext hEW
   clear h0 HN hno HR
   have c0W := hW.mapCell
   have hlook := KMap.look (P := Tryz.prog) keyOk_str hW.map Tryz.underlying171 Tryz.underlying9 (zeroStr wr) p
   have hlen := fun ty => MapAt.len (P := Tryz.prog) hW.map Tryz.underlying171 ty
   simp only [List.length_map] at hlen
   have hFull := hEW.cellOf HF.out (fun h => h)
   have HW := Lib.hid hW
   have HEW := Lib.hid hEW
   clear hW hEW hrg c0 HX
   cases hl : L.lookup p with
   | none =>
    simp only [hl] at hlook
    rw [hl] at hcode
    by_cases hfull : 60 ≤ L.length
    ·have hc8 : putCode L p x = 8 := by rw [hcode, if_pos (by simp [hfull])]
     have HC8 := Lib.hid hc8
     have hfz : (60 : Int) ≤ (L.length : Int) := by omega
     clear hcode hc8 hl hfull
     go_wp2_with fail
     go_ret
     exact PutIs.fails H.out HC8.out (by decide) HEW.out
    ·have hc0 : putCode L p x = 0 := by rw [hcode, if_neg (by simp [hfull])]
     have HC0 := Lib.hid hc0
     have hfz : ¬ (60 : Int) ≤ (L.length : Int) := by omega
     clear hcode hc0 hl hfull
     obtain ⟨w4, hrun4, hm4, ho4, _⟩ := KMap.store (P := Tryz.prog) keyOk_str HW.out.map Tryz.underlying171 Tryz.underlying9 p x
     go_wp2_with fail
     go_ret
     exact PutIs.done H.out hf.out.rising HC0.out HEW.out HW.out hm4 ho4
   | some y =>
    simp only [hl] at hlook
    rw [hl] at hcode
    have hc0 : putCode L p x = 0 := by rw [hcode, if_neg (by simp)]
    have HC0 := Lib.hid hc0
    clear hcode hc0 hl
    obtain ⟨w4, hrun4, hm4, ho4, _⟩ := KMap.store (P := Tryz.prog) keyOk_str HW.out.map Tryz.underlying171 Tryz.underlying9 p x
    go_wp2_with fail
    go_ret
    exact PutIs.done H.out hf.out.rising HC0.out HEW.out HW.out hm4 ho4
  ·obtain ⟨q, hqL, hqk, hqv⟩ := keyOf_entry HP.out (mem_left he).1
   have hql := HQ.out q hqL
   rw [hqk, hqv] at hrun hen
   have HE2 := Lib.hid he
   have HQK := Lib.hid hqk
   generalize q.1 = s at hrun hen hql HQK
   generalize q.2 = sv at hrun hen
   have hbs := ba_slash s
   have hls : ¬ 9223372036854775807 < s.length + 1 := by omega
   have hqc : near p s = true → clash L p = true := fun h => by
    rw [← clash_of HP.out, List.any_eq_true]
    exact ⟨e, (mem_left HE2.out).1, by rw [HQK.out]; simpa [keyB] using h⟩
   have HQC := Lib.hid hqc
   have HP1 := fun W => hasPrefix_any W s (p ++ [47])
   have HP2 := fun W => hasPrefix_any W p (s ++ [47])
   have hnear : near p s = ((p ++ [47]).isPrefixOf s || (s ++ [47]).isPrefixOf p) := rfl
   have HNE := Lib.hid hnear
   have HX3 := Lib.hid hx3
   have HR3 := Lib.hid hr3
   have hEW : Ext w w3 := HO.out.then hx3
   clear he hqk hqv hx3 hr3 hb3 hqL hql hqc hnear
   have hExist := hEW.cellOf HE.out (fun h => h)
   have HEW := Lib.hid hEW
   clear hEW
   generalize (p ++ [47]).isPrefixOf s = r1 at HP1 HNE
   generalize (s ++ [47]).isPrefixOf p = r2 at HP2 HNE
   have HP1 := Lib.hid HP1
   have HP2 := Lib.hid HP2
   cases r1 with
   | true =>
    go_wp2_with fail
    refine (HP1.out _).mono ?_
    rintro e1 w4 ⟨rfl, rfl⟩
    go_wp2_with fail
    go_ret
    exact PutIs.fails H.out (by rw [HK.out, if_pos (HQC.out HNE.out)]) (by decide) HEW.out
   | false =>
    cases r2 with
    | true =>
     go_wp2_with fail
     refine (HP1.out _).mono ?_
     rintro e1 w4 ⟨rfl, rfl⟩
     go_wp2_with fail
     refine (HP2.out _).mono ?_
     rintro e1 w4 ⟨rfl, rfl⟩
     go_wp2_with fail
     go_ret
     exact PutIs.fails H.out (by rw [HK.out, if_pos (HQC.out HNE.out)]) (by decide) HEW.out
    | false =>
     go_wp2_with fail
     refine (HP1.out _).mono ?_
     rintro e1 w4 ⟨rfl, rfl⟩
     go_wp2_with fail
     refine (HP2.out _).mono ?_
     rintro e1 w4 ⟨rfl, rfl⟩
     go_wp2_with fail
     go_roundw
     case rel =>
      refine ⟨seen.push e.born, HX3, HR3, Lib.hid fun y hy hc => ?_⟩
      rw [contains_push] at hc
      rcases Bool.or_eq_true _ _ ▸ hc with h1 | h1
      ·exact HN.out y hy h1
      ·have : y = e := born_inj HS.out.2.1 hy (mem_left HE2.out).1 (beq_iff_eq.1 h1)
       subst this
       rw [HQK.out]
       simpa [keyB] using HNE.out
     case measure =>
      rw [iterSeen_of HR3.out, iterSeen_of HR.out]
      exact left_shrinks es seen e HE2.out
theorem treePut_any (w : World) (P : Nat → Addr) (b mb : Nat) (L : FL) (p x : B) (h : TreeAt w b mb L) (hf : Fits L) (hs : Errs w P [1, 3, 6, 7]) (hm : HasMax w) (hp : p.length ≤ 999999) (hq : ∀ q ∈ L, q.1.length ≤ 999999) :
  Calls Tryz.prog 38 #[.pointer (some ⟨b, 0, none⟩), S p, S x] w (PutIs w P b mb L p x) := by
 cases hk : pathOk p with
 | false => exact put_bad w P b mb L p x h hs hm hp hk
 | true =>
  by_cases hx : 2000 < x.length
  ·exact put_long w P b mb L p x h hs hm hp hk hx
  ·exact put_main w P b mb L p x h hf hs hm hp hk hx hq
end Go.Proofs.YtnmhaipjfpongacGreatDoor

namespace Go.Proofs.YtnmhaipjfpongacGreatDoor
open Go.ChangeShapes Go.WideShapes Go.ChangeAt Go.RowKit

theorem putCode_le (L : FL) (p x : B) : putCode L p x ≤ 12 := by
 unfold putCode
 repeat' split
 all_goals omega

def remCode (L : FL) (p : B) : Nat := if (L.lookup p).isSome then 0 else 6
structure TT (w0 wr : World) (b mb m : Nat) (slv : Value) (LT LM : FL) : Prop where
 ext : Ext w0 wr
 nb : w0.heap.size ≤ b
 nmb : w0.heap.size ≤ mb
 nm : w0.heap.size ≤ m
 tree : TreeAt wr b mb LT
 model : RTree wr w0.heap.size m slv LM

structure TA (e : TypeId) (w0 wr : World) (b mb m : Nat) (slv : Value) (LT LM : FL) (ha : Nat) (cs : Array Value) : Prop where
 tt : TT w0 wr b mb m slv LT LM
 act : wr.heap[ha]? = some (.cells cs e (0, 0))

section
variable {w0 wr w' : World} {b mb m : Nat} {slv : Value} {LT LM : FL} {ha : Nat} {cs : Array Value} {e : TypeId}

theorem TT.later (J : TT w0 wr b mb m slv LT LM) (h : Ext wr w') : TT w0 w' b mb m slv LT LM :=
 ⟨J.ext.then h, J.nb, J.nmb, J.nm, J.tree.ext h, J.model.ext h⟩

theorem TT.m_mb (J : TT w0 wr b mb m slv LT LM) : m ≠ mb := heap_ne_map J.model.cells J.tree.map
theorem TT.s_mb (J : TT w0 wr b mb m slv LT LM) : ∀ i, slv.ownBlock = some i → i ≠ mb := row_ne_map J.model.row J.tree.map
theorem TT.treeStep {L' : FL} (J : TT w0 wr b mb m slv LT LM) (ht : TreeAt w' b mb L') (ho : Only (fun i => i = mb) wr w') : TT w0 w' b mb m slv L' LM :=
 ⟨J.ext.trans ho (fun _ _ h => h) (fun i hi e => by have := J.nmb; omega), J.nb, J.nmb, J.nm, ht, J.model.later ho J.m_mb J.s_mb⟩

theorem TA.later (J : TA e w0 wr b mb m slv LT LM ha cs) (h : Ext wr w') : TA e w0 w' b mb m slv LT LM ha cs := ⟨J.tt.later h, h.heapOf J.act (fun h => h)⟩

theorem TA.treeStep {L' : FL} (J : TA e w0 wr b mb m slv LT LM ha cs) (ht : TreeAt w' b mb L') (ho : Only (fun i => i = mb) wr w') : TA e w0 w' b mb m slv L' LM ha cs :=
 ⟨J.tt.treeStep ht ho, ho.heapOf J.act (heap_ne_map J.act J.tt.tree.map)⟩

theorem TA.c (J : TA e w0 wr b mb m slv LT LM ha cs) (j : Nat) : wr.cell? ⟨ha, j, none⟩ = cs[j]? := cell_of_heap J.act j

theorem TA.at (J : TA e w0 wr b mb m slv LT LM ha cs) {j : Nat} {u : Value} (h : cs[j]? = some u) : wr.cell? ⟨ha, j, none⟩ = some u := (J.c j).trans h

theorem TA.put {P : Nat → Addr} (J : TA e w0 wr b mb m slv LT LM ha cs) (hf : Fits LT) (hs : Sents w0 P) (hm : HasMax w0) (hl : ∀ q ∈ LT, q.1.length ≤ 1000) (p x : B) (hp : p.length ≤ 999999) :
  Calls Tryz.prog 38 #[.pointer (some ⟨b, 0, none⟩), S p, S x] wr fun r w' => r = .returned (errC P (putCode LT p x)) ∧ TA e w0 w' b mb m slv (putT LT p x) LM ha cs :=
 (treePut_any wr P b mb LT p x J.tt.tree hf ((hs.ext J.tt.ext).errs _) (hm.ext J.tt.ext) hp (fun q hq => by have := hl q hq; omega)).mono fun _ _ ⟨h1, h2, h3⟩ => ⟨h1, J.treeStep h2 h3⟩

theorem TA.remove {P : Nat → Addr} (J : TA e w0 wr b mb m slv LT LM ha cs) (hs : Sents w0 P) (p : B) :
  Calls Tryz.prog 37 #[.pointer (some ⟨b, 0, none⟩), S p] wr fun r w' => r = .returned (errC P (remCode LT p)) ∧ TA e w0 w' b mb m slv (delT LT p) LM ha cs :=
 (treeRemove_any wr b mb LT p (P 5) J.tt.tree ((hs.ext J.tt.ext).var 5 _ rfl)).mono fun _ _ ⟨h1, h2, h3⟩ => ⟨by rw [h1]; unfold remCode; split <;> rfl, J.treeStep h2 h3⟩
end

theorem lens_put {L : FL} (hr : Rising L) {n : Nat} (h : ∀ q ∈ L, q.1.length ≤ n) (p x : B) (hp : p.length ≤ n) : ∀ q ∈ putT L p x, q.1.length ≤ n := by
 intro q hq
 unfold putT at hq
 split at hq
 ·rcases mem_set hr hq with rfl | h1
  ·exact hp
  ·exact h q h1
 ·exact h q hq
end Go.Proofs.YtnmhaipjfpongacGreatDoor

/- Texts of this seat laid together for one claim: O2, I4, S3, I3, Z16, S1, I6, S9, S11, O6. No condition of its own: what each proves stands with its theorems. -/
import Derived.ChangeSame
import Derived.Deep.Fields
import Derived.Deep.Slices
import Derived.Test.YtnmhaipjfpongacGreatDoorSA0
import Derived.Test.YtnmhaipjfpongacGreatDoorSA12
import Derived.Deep.RegionHeld3
import Derived.Test.YtnmhaipjfpongacGreatDoorSA9
import Derived.Test.YtnmhaipjfpongacGreatDoorSA7
import Derived.Test.YtnmhaipjfpongacGreatDoorSA20
import Derived.Test.YtnmhaipjfpongacGreatDoorSA21
import Derived.Test.YtnmhaipjfpongacGreatDoorSA22
import Derived.Shelf.SlMaps.Clone
import Derived.Test.YtnmhaipjfpongacGreatDoorSA6
import Derived.Test.YtnmhaipjfpongacGreatDoorSA13
import Derived.Test.YtnmhaipjfpongacGreatDoorSA18
namespace Go.Proofs.YtnmhaipjfpongacGreatDoor
open Go.ChangeShapes Go.WideShapes Go.ChangeAt Go.RowKit

theorem addr_addR (b off n : Nat) : (⟨b, off, none⟩ : Addr).add n = ⟨b, off + n, none⟩ := by
 unfold Addr.add
 split
 ·subst_vars; rfl
 ·rfl

theorem texts_trod {H : Type} {enc : TypeId × Value → H} {w : World} {base : Nat} {spare : Nat → Bool} {held : Bool} {fuel : Nat} {v : Value} {x : DataW H × List MemPlace}
  (h : DataW.trod enc Tryz.prog w base spare held fuel 53 [v] = some x) : ∃ l : List B, Rd S w v l := by
 obtain ⟨d, ps⟩ := x
 rcases open_strings Tryz.underlying53 Tryz.underlying9 (by kernel_rfl) h with ⟨h0, _⟩ | ⟨ad, len, cap, ss, h0, _, hl, hm, hss, _, hc, _⟩
 ·cases h0
  exact ⟨[], Rd.nil _ _⟩
 ·cases h0
  have hle : len ≤ ss.length := by rw [hss]; split <;> omega
  refine ⟨(ss.take len).map (·.data.toList), some ad, cap, by simp [Nat.min_eq_left hle], by simpa [Nat.min_eq_left hle] using hl, hm, fun hne => ?_⟩
  have hpos : 0 < ss.length := by
   rcases Nat.eq_zero_or_pos ss.length with h | h
   ·exact absurd (by simp [List.length_eq_zero_iff.1 h]) hne
   ·exact h
  obtain ⟨b, off, spot⟩ := ad
  have h00 := hc 0 hpos
  have hs : spot = none := by simpa [Addr.add] using World.cell?_spot h00
  subst hs
  refine ⟨b, off, rfl, fun i x hx => ?_⟩
  rw [List.getElem?_map] at hx
  obtain ⟨y, hy, rfl⟩ := Option.map_eq_some_iff.1 hx
  have hi : i < len := by have := (List.getElem?_eq_some_iff.1 hy).1; simp at this; omega
  rw [List.getElem?_take_of_lt hi] at hy
  have := hc i (by omega)
  rw [addr_addR, List.getD_eq_getElem?_getD, hy] at this
  simpa using this

theorem cellsRule : Tryz.prog.cellsOf 55 = 4 := by kernel_rfl

end Go.Proofs.YtnmhaipjfpongacGreatDoor

namespace Go.Proofs.YtnmhaipjfpongacGreatDoor
open Go.ChangeShapes Go.WideShapes Go.ChangeAt Go.RowKit

structure FTree (L : FL) : Prop where
 fits : Fits L
 lens : ∀ q ∈ L, q.1.length ≤ 1000
theorem FTree.nil : FTree [] := ⟨Fits.nil, by simp⟩
theorem FTree.put {L : FL} (h : FTree L) (p x : B) (hp : p.length ≤ 1000) : FTree (putT L p x) := ⟨h.fits.put p x, lens_put h.fits.rising h.lens p x hp⟩
theorem FTree.bytes {L : FL} (h : FTree L) : ∀ p s, L.lookup p = some s → s.length ≤ 2000 := fun _ _ hl => h.fits.bytes _ (mem_of_lookup hl)
section
variable {w0 wr w' : World} {b mb m : Nat} {slv : Value} {LT LM : FL}
end

end Go.Proofs.YtnmhaipjfpongacGreatDoor

namespace Go.Proofs.YtnmhaipjfpongacGreatDoor
open Go.ChangeShapes Go.WideShapes Go.ChangeAt Go.RowKit

section
variable {n : Nat} {nd : Nat → Nat → Bool} {f g : Nat → Bool} {i k : Nat}
end
end Go.Proofs.YtnmhaipjfpongacGreatDoor

namespace Go.Proofs.YtnmhaipjfpongacGreatDoor
open Go.ChangeShapes Go.WideShapes Go.ChangeAt Go.RowKit

theorem of_any (w0 : World) (P : Nat → Addr) (ab tb tmb kb : Nat) (lv : Value) (l : List Rule) (T : FL) (W : B → Tld) (D : B → Prop) (rk : B → Nat) (hS : Asks l T W D rk) (hA : ActVars w0 P) (hE : Errs w0 P [5])
  (hl : RdR w0 lv l) (hw : ∀ r ∈ l, r.ins.length ≤ 12 ∧ r.word.length ≤ 1000) (ht : TreeAt w0 tb tmb T) :
  ∀ (n : Nat) (p : B), D p → rk p < n → ∀ w L, AskAt w0 w P ab tb kb lv L → Knows W L → Calls Tryz.prog 95 #[.pointer (some ⟨ab, 0, none⟩), S p] w (OfPost w0 P ab tb kb lv W (W p) w)
 | 0, _, _, h => by omega
 | n + 1, p, hp, hr => fun w L h1 h2 => of_step w0 P ab tb tmb kb lv l T W n D rk hS hA hE hl hw ht (fun q hq hrq => of_any w0 P ab tb tmb kb lv l T W D rk hS hA hE hl hw ht n q hq hrq) p hp hr w L h1 h2

theorem ErrAt.errC (w : World) (P : Nat → Addr) (c : Nat) : ErrAt w P (c, -1) (errC P c) := by
 cases c with
 | zero => exact ErrAt.nil _ _ _
 | succ c => exact .inr (.inl ⟨by simp, rfl, rfl⟩)

def RetWant (P : Nat → Addr) (x : B × (Nat × Int)) (w : World) (e : Ending) (w' : World) : Prop := ∃ ev, e = .returned (.tuple #[S x.1, ev]) ∧ ErrAt w' P x.2 ev ∧ Ext w w'

theorem need_one {l : List Rule} {out : B} (h : RightS l) (_hm : madeB l out = true) {k : Nat} (hk : l.findIdx? (fun r => r.out == out) = some k) : k ∈ needL l [out] := by
 obtain ⟨r, h1, h2, _⟩ := findI_some hk
 refine mem_needL.2 ⟨(List.getElem?_eq_some_iff.1 h1).1, .root ?_⟩
 unfold needKs
 rw [List.map_cons, List.map_nil, ← h2, madeI_at h.2.2 h1]
 exact .head _

theorem lit_rd (w : World) (out : B) : Rd S (w.alloc (.cells #[S out] 9 (0, 0))) (.slice (some ⟨w.heap.size, 0, none⟩) 1 1) [out] :=
 ⟨_, 1, rfl, Nat.le_refl _, by decide, fun _ => ⟨_, 0, rfl, fun i x hx => by
  have hz := (MapKept.heap_alloc w (.cells #[S out] 9 (0, 0))).1
  obtain ⟨rfl, hx2⟩ : i = 0 ∧ x = out := by
   rcases i with _ | i
   ·simp at hx; exact ⟨rfl, hx.symm⟩
   ·simp at hx
  subst hx2
  exact cell_of_heap hz 0⟩⟩

set_option maxRecDepth 100000 in
set_option maxHeartbeats 8000000 in
theorem wantOf_any (w : World) (P : Nat → Addr) (tb tmb : Nat) (T : FL) (v : Value) (l : List Rule) (out : B) (ht : TreeAt w tb tmb T) (hT : ∀ p s, T.lookup p = some s → s.length ≤ 2000) (hv : RdR w v l) (hs : ∀ r ∈ l, RuleSm 900000 r) (hw : ∀ r ∈ l, r.ins.length ≤ 12 ∧ r.word.length ≤ 1000) (hV : PV w P [1, 2, 3, 4, 5, 6, 8, 9]) :
  Calls Tryz.prog 18 #[.pointer (some ⟨tb, 0, none⟩), v, S out] w (RetWant P (wantRes l T out) w) := by
 have HSH := Lib.hid (sheet_any w P l v hv hs (hV.sub (by decide)))
 have HRD := Lib.hid hv
 have HVV := Lib.hid hV
 have HT := Lib.hid ht
 have HTB := Lib.hid hT
 have HSM := Lib.hid hs
 have HW := Lib.hid hw
 obtain ⟨a, cap, rfl, _, _, _⟩ := hv
 obtain ⟨X, hX⟩ : ∃ X, X = wantRes l T out := ⟨_, rfl⟩
 rw [← hX]
 unfold wantRes at hX
 clear ht hT hs hw hV
 by_cases h0 : (sheetFault l).1 = 0
 ·rw [if_neg (by simpa using h0)] at hX
  have HR := Lib.hid (sheet_ok.1 h0)
  have HN0 := Lib.hid h0
  have HX := Lib.hid hX
  clear h0 hX
  go_enter Tryz.func18, Tryz.ntmps18
  go_wp2_with fail
  refine HSH.out.mono ?_
  rintro e w1 ⟨ev, rfl, he, ho⟩
  obtain rfl := he.zero HN0.out
  have HX1 := Lib.hid ho
  have HND := Lib.hid (graphNeeds_any (w1.alloc (.cells #[S out] 9 (0, 0))) P l [out] (.slice a l.length cap) (.slice (some ⟨w1.heap.size, 0, none⟩) 1 1) (HRD.out.ext (ho.thenAlloc _)) (lit_rd w1 out) (by simp) HSM.out ((HVV.out.ext (ho.thenAlloc _)).sub (by decide)))
  clear he ho
  go_wp2_with fail
  refine HND.out.mono ?_
  rintro e w2 ⟨v2, ev, sm, rfl, hrow, he, ho, hcase⟩
  have HX2 := Lib.hid ((HX1.out.thenAlloc _).then ho)
  have hnf : needFault l [out] = if madeB l out = true then (0, -1) else (6, 0) := by
   unfold needFault
   rw [if_neg (by rw [HN0.out]; simp)]
   unfold badOf
   cases hm : madeB l out <;> simp [List.findIdx?_cons, hm]
  cases hm : madeB l out with
  | false =>
   rw [hm] at hnf
   have hX := HX.out
   rw [if_pos hm] at hX
   subst hX
   rw [if_neg (by decide)] at hnf
   obtain ⟨t, p, rfl⟩ := he.some (by rw [hnf]; decide)
   obtain ⟨a2, c2, rfl, _, _, _⟩ := hrow.rd
   have c0 := (HVV.out.errs.ext HX2.out).var 5 _ (by decide) rfl
   clear hrow he ho hcase hnf hm HX
   go_wp2_with fail
   go_quiet (fail)
   go_wp2_with fail
   go_ret2
   exact ⟨_, rfl, .inr (.inl ⟨by decide, rfl, rfl⟩), HX2.out.thenDrewN _⟩
  | true =>
   rw [hm, if_pos rfl] at hnf
   have hX := HX.out
   rw [if_neg (by rw [hm]; decide)] at hX
   have hsm : sm = needL l [out] := by
    rcases hcase with ⟨h, _⟩ | ⟨_, h⟩
    ·rw [hnf] at h; exact absurd rfl h
    ·exact needOk_eq h
   obtain rfl := he.zero (by rw [hnf])
   have HMD := Lib.hid hm
   have HROW := Lib.hid hrow
   have HSMQ := Lib.hid hsm
   have HPT := Lib.hid (graphPart_any w2 P l (.slice a l.length cap) v2 sm (HRD.out.ext HX2.out) HR.out (fun r hr => (HSM.out r hr).many) hrow.rd ((HVV.out.ext HX2.out).errs.sub (by decide)))
   rw [← hsm] at hX
   have HX := Lib.hid hX
   obtain ⟨a2, c2, rfl, _, _, _⟩ := hrow.rd
   clear hrow he ho hcase hnf hm hsm hX
   go_wp2_with fail
   refine HPT.out.mono ?_
   rintro e w3 ⟨v3, ev, rfl, hrow, he, ho⟩
   have HX3 := Lib.hid (HX2.out.then ho)
   have HEE := Lib.hid he
   obtain ⟨a3, c3, rfl, _, _, _⟩ := hrow.rd
   clear hrow he ho
   cases hp : partB l sm with
   | none =>
    have hX := HX.out
    rw [hp] at hX
    have hX2 : X = ([], (9, -1)) := hX
    subst hX2
    have hf : partFault l sm = (9, -1) := by unfold partFault; rw [hp]; rfl
    rw [hf] at HEE
    obtain ⟨t, p, rfl⟩ := HEE.out.some (by decide)
    clear hX hf hp HX
    go_wp2_with fail
    go_ret2
    exact ⟨_, rfl, HEE.out, HX3.out⟩
   | some o =>
    have hX := HX.out
    rw [hp] at hX
    have hX2 : X = ((wantW l T out).1, ((wantW l T out).2, -1)) := hX
    subst hX2
    have hf : partFault l sm = (0, -1) := by unfold partFault; rw [hp]; rfl
    rw [hf] at HEE
    obtain rfl := HEE.out.zero rfl
    obtain ⟨r1, r2⟩ := ranked_order (orderB_some hp).1
    have hin : InO l o out := fun k hk => by
     have h1 := need_one HR.out HMD.out hk
     exact order_covers hp (mem_needL.1 h1).1 (by rw [HSMQ.out]; simpa using h1)
    have hmm := @run_makeMap Tryz.prog
    have HOF := Lib.hid (fun (w5 : World) (ab kb : Nat) (L : List (B × Tld)) (h1 : AskAt w3 w5 P ab tb kb (.slice a l.length cap) L) (h2 : Knows (wantW l T) L) =>
     of_any w3 P ab tb tmb kb (.slice a l.length cap) l T (wantW l T) (InO l o) (rankO l o) (asks_want r1 r2 HTB.out) ((HVV.out.ext HX3.out).act (by decide)) ((HVV.out.ext HX3.out).errs.sub (by decide)) (HRD.out.ext HX3.out) HW.out (HT.out.ext HX3.out) (l.length + 1) out hin (Nat.lt_succ_of_le (r2 out hin)) w5 L h1 h2)
    have HAS : Hid (AskAt w3 ((w3.alloc (.map #[] 0)).alloc (.cells #[.pointer (some ⟨tb, 0, none⟩), .slice a l.length cap, .map (some w3.heap.size)] 153 (0, 0))) P (w3.heap.size + 1) tb w3.heap.size (.slice a l.length cap) []) := Lib.hid (by
     refine ⟨(Only.alloc _ _ _).thenAlloc _, ?_, (KMap.made w3 .string S (tEnc P)).later (Only.alloc (fun _ => False) _ _) (fun h => h), ⟨Nat.le_succ _, Nat.le_refl _, Nat.succ_ne_self _⟩⟩
     simpa using (MapKept.heap_alloc (w3.alloc (.map #[] 0)) (.cells #[.pointer (some ⟨tb, 0, none⟩), .slice a l.length cap, .map (some w3.heap.size)] 153 (0, 0))).1)
    have HCL := Lib.hid (HOF.out _ _ _ _ HAS.out (fun p x h => by cases h))
    generalize wantW l T out = Y at *
    obtain ⟨y1, y2⟩ := Y
    clear hX hf hp HX r1 r2 hin HOF
    go_wp2_with fail
    refine HCL.out.mono ?_
    rintro e w6 ⟨rfl, L6, ha6, hk6, ho6⟩
    have HX6 := Lib.hid (HX3.out.then ha6.ext)
    obtain ⟨ev, hev⟩ : ∃ ev, ev = errC P y2 := ⟨_, rfl⟩
    have hte : tEnc P (y1, y2) = .agg #[S y1, ev] := by rw [hev]
    have HEV := Lib.hid (fun w : World => by have h := ErrAt.errC w P y2; rw [← hev] at h; exact h)
    have hz7 : (w6.alloc (.cells #[S y1, ev] 155 (0, 0))).heap[w6.heap.size]? = some (.cells #[S y1, ev] 155 (0, 0)) := (MapKept.heap_alloc w6 (.cells #[S y1, ev] 155 (0, 0))).1
    have n0 : (w6.alloc (.cells #[S y1, ev] 155 (0, 0))).cell? ⟨w6.heap.size, 0, none⟩ = some (S y1) := (cell_of_heap hz7 0).trans rfl
    have n1 : (w6.alloc (.cells #[S y1, ev] 155 (0, 0))).cell? ⟨w6.heap.size, 1, none⟩ = some ev := (cell_of_heap hz7 1).trans rfl
    rw [hte]
    have hform : ev = .nilIface ∨ ∃ c, ev = errV (P c) := by
     rw [hev]
     cases y2 with
     | zero => exact .inl rfl
     | succ c => exact .inr ⟨c, rfl⟩
    have HX7 := Lib.hid (HX6.out.thenAlloc (.cells #[S y1, ev] 155 (0, 0)))
    clear hz7 hev hte ha6 hk6 ho6
    rcases hform with rfl | ⟨c, rfl⟩
    all_goals
     go_wp2_with fail
     go_quiet (fail)
     go_wp2_with fail
     go_ret2
     exact ⟨_, rfl, HEV.out _, HX7.out.thenDrewN _⟩
 ·have hX2 : X = ([], sheetFault l) := by rw [if_pos h0] at hX; exact hX
  subst hX2
  have HN0 := Lib.hid h0
  clear hX h0
  go_enter Tryz.func18, Tryz.ntmps18
  go_wp2_with fail
  refine HSH.out.mono ?_
  rintro e w1 ⟨ev, rfl, he, ho⟩
  obtain ⟨t, p, rfl⟩ := he.some HN0.out
  have HX1 := Lib.hid ho
  have HEE := Lib.hid he
  clear he ho
  go_wp2_with fail
  go_ret2
  exact ⟨_, rfl, HEE.out, HX1.out⟩
end Go.Proofs.YtnmhaipjfpongacGreatDoor

namespace Go.Proofs.YtnmhaipjfpongacGreatDoor
open Go.ChangeShapes Go.WideShapes Go.ChangeAt Go.RowKit

set_option maxRecDepth 100000 in
theorem mapsClone_any (b : Nat) (es : Array MapEntry) (clock : Nat) (w : World) (hb : w.heap[b]? = some (.map es clock)) :
  Calls Tryz.prog 173 #[.map (some b)] w fun e w' => e = .returned (.map (some w.heap.size)) ∧ w' = w.alloc (.map es clock) := by
 have hq := fun w => run_eql_map_nil_sl (P := Tryz.prog) w 171 _ _ (some b) Tryz.underlying171
 go_enter Tryz.func173, Tryz.ntmps173
 go_wp2
 rw [run_callFunc_extern Tryz.func224 (by kernel_rfl) (by kernel_rfl) (by kernel_rfl) (e := Extern.MapsClone.clone) (by kernel_rfl), run_maps_clone_sl w 171 hb]
 simp only [Result.andThen]
 rw [Oper.upon_value]
 go_wp2
 rw [run_typeAssert_map_sl _ 171 _ _ _ _ Tryz.underlying171]
 simp only [Result.andThen]
 rw [Oper.upon_value]
 go_wp2
 go_ret
 exact ⟨rfl, rfl⟩

def CopyIs (w : World) (L : FL) (e : Ending) (w' : World) : Prop := e = .returned (.pointer (some ⟨w.heap.size + 1, 0, none⟩)) ∧ TreeAt w' (w.heap.size + 1) w.heap.size L ∧ Ext w w' ∧ w'.heap.size = w.heap.size + 2
theorem treeCopy_any (w : World) (b mb : Nat) (L : FL) (h : TreeAt w b mb L) : Calls Tryz.prog 100 #[.pointer (some ⟨b, 0, none⟩)] w (CopyIs w L) := by
 have c0 := h.mapCell
 obtain ⟨es, clock, hb, hp⟩ := h.map
 have HC := Lib.hid (mapsClone_any mb es clock w hb)
 have HM : Hid (KMap .string S S (w.alloc (.map es clock)) w.heap.size L) := Lib.hid ⟨es, clock, (MapKept.heap_alloc w _).1, hp⟩
 clear h hb hp
 go_enter Tryz.func100, Tryz.ntmps100
 go_wp2_with fail
 refine HC.out.mono ?_
 rintro e w1 ⟨rfl, rfl⟩
 go_wp2_with fail
 go_ret
 refine ⟨by simp, ⟨?_, HM.out.later (Only.alloc (fun _ => False) _ _) (fun h => h)⟩, (Only.alloc _ _ _).thenAlloc _, by simp⟩
 simpa using (MapKept.heap_alloc (w.alloc (.map es clock)) (.cells #[.map (some w.heap.size)] 173 (0, 0))).1
end Go.Proofs.YtnmhaipjfpongacGreatDoor

namespace Go.Proofs.YtnmhaipjfpongacGreatDoor
open Go.ChangeShapes Go.WideShapes Go.ChangeAt Go.RowKit

end Go.Proofs.YtnmhaipjfpongacGreatDoor

namespace Go.Proofs.YtnmhaipjfpongacGreatDoor
open Go.ChangeShapes Go.WideShapes Go.ChangeAt Go.RowKit

def ruleUp : Rule := ⟨[98], [117, 112, 112, 101, 114], [], [[97]]⟩
theorem wanted_need : needL [ruleUp] [[98]] = [0] := by
 have h0 : reachB [ruleUp] [[98]] 0 = true := reachB_iff.2 (.root (by
  have : needKs [ruleUp] [[98]] = [0] := by kernel_rfl
  rw [this]; exact .head _))
 unfold needL
 show List.filter (reachB [ruleUp] [[98]]) [0] = [0]
 rw [List.filter_cons_of_pos h0]
 rfl
end Go.Proofs.YtnmhaipjfpongacGreatDoor

namespace Go.Proofs.YtnmhaipjfpongacGreatDoor
open Go.ChangeShapes Go.WideShapes Go.ChangeAt Go.RowKit

theorem part_codes (l : List Rule) (sm : List Nat) : partFault l sm = (0, -1) ∨ partFault l sm = (9, -1) := by
 unfold partFault
 split
 ·exact .inl rfl
 ·exact .inr rfl
end Go.Proofs.YtnmhaipjfpongacGreatDoor

namespace Go.Proofs.YtnmhaipjfpongacGreatDoor
open Go.ChangeShapes Go.WideShapes Go.ChangeAt Go.RowKit

theorem orderFault_ok {l : List Rule} (h : (orderFault l).1 = 0) : RightS l ∧ orderL l = some (orderOut l) := by
 unfold orderFault at h
 by_cases h0 : (sheetFault l).1 = 0
 ·rw [if_neg (by simpa using h0)] at h
  refine ⟨sheet_ok.1 h0, ?_⟩
  unfold orderOut
  rw [if_neg (by simpa using h0)]
  cases ho : orderL l with
  | some o => rfl
  | none => rw [ho] at h; cases h
 ·rw [if_pos h0] at h
  exact absurd h h0

section
variable {w5 wr w' : World} {P : Nat → Addr} {ab tb kb cb cmb : Nat} {lv : Value} {U U' : FL} {W : B → Tld}
end

end Go.Proofs.YtnmhaipjfpongacGreatDoor

namespace Go.Proofs.YtnmhaipjfpongacGreatDoor
open Go.ChangeShapes Go.WideShapes Go.ChangeAt Go.RowKit

end Go.Proofs.YtnmhaipjfpongacGreatDoor

/- Texts of this seat laid together for one claim: I4, I3, F16, S10, Z16, Z17, S11. No condition of its own: what each proves stands with its theorems. -/
import Derived.Deep.RegionHeld3
import Derived.Test.YtnmhaipjfpongacGreatDoorYF13
import Derived.Test.YtnmhaipjfpongacGreatDoorYF9
import Derived.Test.YtnmhaipjfpongacGreatDoorYF29
import Derived.Test.YtnmhaipjfpongacGreatDoorYF27
import Derived.Test.YtnmhaipjfpongacGreatDoorYF32
import Derived.Test.YtnmhaipjfpongacGreatDoorYF7
import Derived.Test.YtnmhaipjfpongacGreatDoorYF8
import Derived.Shelf.SlMaps.Clone
import Derived.WideKeyEntry
import Derived.Test.YtnmhaipjfpongacGreatDoorYF25
import Derived.Test.YtnmhaipjfpongacGreatDoorYF20
namespace Go.Proofs.YtnmhaipjfpongacGreatDoor
open Go.ChangeShapes Go.WideShapes Go.ChangeAt Go.RowKit

def RetLF (fs : FL) (w : World) (e : Ending) (w' : World) : Prop := ∃ r : Bool, e = .returned (.bool r) ∧ (r = false → fs.length ≤ 30 ∧ ∀ q ∈ fs, q.1.length ≤ 100) ∧ w = w'
structure FTree (L : FL) : Prop where
 fits : Fits L
 lens : ∀ q ∈ L, q.1.length ≤ 1000
theorem FTree.nil : FTree [] := ⟨Fits.nil, by simp⟩
theorem FTree.put {L : FL} (h : FTree L) (p x : B) (hp : p.length ≤ 1000) : FTree (putT L p x) := ⟨h.fits.put p x, lens_put h.fits.rising h.lens p x hp⟩
theorem FTree.bytes {L : FL} (h : FTree L) : ∀ p s, L.lookup p = some s → s.length ≤ 2000 := fun _ _ hl => h.fits.bytes _ (mem_of_lookup hl)
section
variable {w0 wr w' : World} {b mb m : Nat} {slv : Value} {LT LM : FL}
end

set_option maxRecDepth 100000 in
set_option maxHeartbeats 2000000 in
theorem longFiles2_any (w : World) (v : Value) (fs : FL) (hv : RdS 2 encF w v fs) : Calls Tryz.prog 15 #[v] w (RetLF fs w) := by
 obtain ⟨a, cap, rfl, _, hm1, hc⟩ := hv
 have hl1 : fs.length ≤ 9223372036854775807 := by unfold maxLen at hm1; omega
 have HC := Lib.hid hc
 clear hc hm1
 by_cases hmany : 30 < fs.length
 ·have hz : (30 : Int) < (fs.length : Int) := by omega
  clear hmany
  go_enter Tryz.func15, Tryz.ntmps15
  go_wp2_with fail
  go_ret
  exact ⟨true, rfl, (fun h => by cases h), rfl⟩
 ·have hz : ¬ (30 : Int) < (fs.length : Int) := by omega
  have HM : Hid (fs.length ≤ 30) := Lib.hid (by omega)
  clear hmany
  go_enter Tryz.func15, Tryz.ntmps15
  go_wp2_with fail
  go_loop [3, 4] (fun n i => ∃ (j : Nat) (nn : Int), j ≤ fs.length ∧ i = .int .i64 j ∧ n = .int .i64 nn ∧ 0 ≤ nn ∧ nn ≤ 4000 ∧ Hid (∀ i (q : B × B), i < j → fs[i]? = some q → q.1.length ≤ 100)) (fun _ i => fs.length - (intOf i).toNat)
  case atStart => exact ⟨0, 0, Nat.zero_le _, rfl, rfl, by omega, by omega, Lib.hid (fun i q h => absurd h (Nat.not_lt_zero _))⟩
  case round =>
   obtain ⟨j, nn, hj, rfl, rfl, hn0, hn1, HB⟩ := hrel
   by_cases hlt : j < fs.length
   ·have hltz : (j : Int) < (fs.length : Int) := by omega
    have hj0 : (0 : Int) ≤ (j : Int) := by omega
    obtain ⟨b, off, rfl, hcell⟩ := HC.out (by intro h; rw [h] at hlt; simp at hlt)
    obtain ⟨⟨p, x⟩, hq⟩ : ∃ y, fs[j]? = some y := ⟨_, List.getElem?_eq_getElem hlt⟩
    have c0 : w.cell? ⟨b, off + j * 2, none⟩ = some (S p) := hcell j _ hq 0 _ rfl
    have c1 : w.cell? ⟨b, off + j * 2 + 1, none⟩ = some (S x) := hcell j _ hq 1 _ rfl
    have HQ := Lib.hid hq
    clear hcell hq
    by_cases h1 : (4000 : Int) < (x.length : Int)
    ·go_wp2_with fail
     go_ret
     exact ⟨true, rfl, (fun h => by cases h), rfl⟩
    by_cases h2 : (100 : Int) < (p.length : Int)
    ·go_wp2_with fail
     go_ret
     exact ⟨true, rfl, (fun h => by cases h), rfl⟩
    by_cases h3 : (4000 : Int) < nn + (x.length : Int)
    ·go_wp2_with fail
     go_ret
     exact ⟨true, rfl, (fun h => by cases h), rfl⟩
    go_wp2_with fail
    go_round
    case rel => exact ⟨j + 1, nn + x.length, by omega, by go_num, rfl, by omega, by omega, Lib.hid (fun i q hi hq => by
     rcases Nat.lt_succ_iff_lt_or_eq.1 hi with h | rfl
     ·exact HB.out i q h hq
     ·rw [HQ.out] at hq; cases hq; exact (by omega : p.length ≤ 100))⟩
    case measure => simp [intOf]; omega
   ·have hltz : ¬ (j : Int) < (fs.length : Int) := by omega
    go_wp2_with fail
    go_ret
    refine ⟨false, rfl, fun _ => ⟨HM.out, fun q hq => ?_⟩, rfl⟩
    obtain ⟨i, hi⟩ := List.getElem?_of_mem hq
    exact HB.out i q (by have := (List.getElem?_eq_some_iff.1 hi).1; omega) hi

end Go.Proofs.YtnmhaipjfpongacGreatDoor

namespace Go.Proofs.YtnmhaipjfpongacGreatDoor
open Go.ChangeShapes Go.WideShapes Go.ChangeAt Go.RowKit

theorem of_any (w0 : World) (P : Nat → Addr) (ab tb tmb kb : Nat) (lv : Value) (l : List Rule) (T : FL) (W : B → Tld) (D : B → Prop) (rk : B → Nat) (hS : Asks l T W D rk) (hA : ActVars w0 P) (hE : Errs w0 P [5])
  (hl : RdR w0 lv l) (hw : ∀ r ∈ l, r.ins.length ≤ 12 ∧ r.word.length ≤ 1000) (ht : TreeAt w0 tb tmb T) :
  ∀ (n : Nat) (p : B), D p → rk p < n → ∀ w L, AskAt w0 w P ab tb kb lv L → Knows W L → Calls Tryz.prog 95 #[.pointer (some ⟨ab, 0, none⟩), S p] w (OfPost w0 P ab tb kb lv W (W p) w)
 | 0, _, _, h => by omega
 | n + 1, p, hp, hr => fun w L h1 h2 => of_step w0 P ab tb tmb kb lv l T W n D rk hS hA hE hl hw ht (fun q hq hrq => of_any w0 P ab tb tmb kb lv l T W D rk hS hA hE hl hw ht n q hq hrq) p hp hr w L h1 h2

theorem ErrAt.errC (w : World) (P : Nat → Addr) (c : Nat) : ErrAt w P (c, -1) (errC P c) := by
 cases c with
 | zero => exact ErrAt.nil _ _ _
 | succ c => exact .inr (.inl ⟨by simp, rfl, rfl⟩)

def RetWant (P : Nat → Addr) (x : B × (Nat × Int)) (w : World) (e : Ending) (w' : World) : Prop := ∃ ev, e = .returned (.tuple #[S x.1, ev]) ∧ ErrAt w' P x.2 ev ∧ Ext w w'

theorem need_one {l : List Rule} {out : B} (h : RightS l) (_hm : madeB l out = true) {k : Nat} (hk : l.findIdx? (fun r => r.out == out) = some k) : k ∈ needL l [out] := by
 obtain ⟨r, h1, h2, _⟩ := findI_some hk
 refine mem_needL.2 ⟨(List.getElem?_eq_some_iff.1 h1).1, .root ?_⟩
 unfold needKs
 rw [List.map_cons, List.map_nil, ← h2, madeI_at h.2.2 h1]
 exact .head _

theorem lit_rd (w : World) (out : B) : Rd S (w.alloc (.cells #[S out] 9 (0, 0))) (.slice (some ⟨w.heap.size, 0, none⟩) 1 1) [out] :=
 ⟨_, 1, rfl, Nat.le_refl _, by decide, fun _ => ⟨_, 0, rfl, fun i x hx => by
  have hz := (MapKept.heap_alloc w (.cells #[S out] 9 (0, 0))).1
  obtain ⟨rfl, hx2⟩ : i = 0 ∧ x = out := by
   rcases i with _ | i
   ·simp at hx; exact ⟨rfl, hx.symm⟩
   ·simp at hx
  subst hx2
  exact cell_of_heap hz 0⟩⟩

set_option maxRecDepth 100000 in
set_option maxHeartbeats 8000000 in
theorem wantOf_any (w : World) (P : Nat → Addr) (tb tmb : Nat) (T : FL) (v : Value) (l : List Rule) (out : B) (ht : TreeAt w tb tmb T) (hT : ∀ p s, T.lookup p = some s → s.length ≤ 2000) (hv : RdR w v l) (hs : ∀ r ∈ l, RuleSm 900000 r) (hw : ∀ r ∈ l, r.ins.length ≤ 12 ∧ r.word.length ≤ 1000) (hV : PV w P [1, 2, 3, 4, 5, 6, 8, 9]) :
  Calls Tryz.prog 18 #[.pointer (some ⟨tb, 0, none⟩), v, S out] w (RetWant P (wantRes l T out) w) := by
 have HSH := Lib.hid (sheet_any w P l v hv hs (hV.sub (by decide)))
 have HRD := Lib.hid hv
 have HVV := Lib.hid hV
 have HT := Lib.hid ht
 have HTB := Lib.hid hT
 have HSM := Lib.hid hs
 have HW := Lib.hid hw
 obtain ⟨a, cap, rfl, _, _, _⟩ := hv
 obtain ⟨X, hX⟩ : ∃ X, X = wantRes l T out := ⟨_, rfl⟩
 rw [← hX]
 unfold wantRes at hX
 clear ht hT hs hw hV
 by_cases h0 : (sheetFault l).1 = 0
 ·rw [if_neg (by simpa using h0)] at hX
  have HR := Lib.hid (sheet_ok.1 h0)
  have HN0 := Lib.hid h0
  have HX := Lib.hid hX
  clear h0 hX
  go_enter Tryz.func18, Tryz.ntmps18
  go_wp2_with fail
  refine HSH.out.mono ?_
  rintro e w1 ⟨ev, rfl, he, ho⟩
  obtain rfl := he.zero HN0.out
  have HX1 := Lib.hid ho
  have HND := Lib.hid (graphNeeds_any (w1.alloc (.cells #[S out] 9 (0, 0))) P l [out] (.slice a l.length cap) (.slice (some ⟨w1.heap.size, 0, none⟩) 1 1) (HRD.out.ext (ho.thenAlloc _)) (lit_rd w1 out) (by simp) HSM.out ((HVV.out.ext (ho.thenAlloc _)).sub (by decide)))
  clear he ho
  go_wp2_with fail
  refine HND.out.mono ?_
  rintro e w2 ⟨v2, ev, sm, rfl, hrow, he, ho, hcase⟩
  have HX2 := Lib.hid ((HX1.out.thenAlloc _).then ho)
  have hnf : needFault l [out] = if madeB l out = true then (0, -1) else (6, 0) := by
   unfold needFault
   rw [if_neg (by rw [HN0.out]; simp)]
   unfold badOf
   cases hm : madeB l out <;> simp [List.findIdx?_cons, hm]
  cases hm : madeB l out with
  | false =>
   rw [hm] at hnf
   have hX := HX.out
   rw [if_pos hm] at hX
   subst hX
   rw [if_neg (by decide)] at hnf
   obtain ⟨t, p, rfl⟩ := he.some (by rw [hnf]; decide)
   obtain ⟨a2, c2, rfl, _, _, _⟩ := hrow.rd
   have c0 := (HVV.out.errs.ext HX2.out).var 5 _ (by decide) rfl
   clear hrow he ho hcase hnf hm HX
   go_wp2_with fail
   go_quiet (fail)
   go_wp2_with fail
   go_ret2
   exact ⟨_, rfl, .inr (.inl ⟨by decide, rfl, rfl⟩), HX2.out.thenDrewN _⟩
  | true =>
   rw [hm, if_pos rfl] at hnf
   have hX := HX.out
   rw [if_neg (by rw [hm]; decide)] at hX
   have hsm : sm = needL l [out] := by
    rcases hcase with ⟨h, _⟩ | ⟨_, h⟩
    ·rw [hnf] at h; exact absurd rfl h
    ·exact needOk_eq h
   obtain rfl := he.zero (by rw [hnf])
   have HMD := Lib.hid hm
   have HROW := Lib.hid hrow
   have HSMQ := Lib.hid hsm
   have HPT := Lib.hid (graphPart_any w2 P l (.slice a l.length cap) v2 sm (HRD.out.ext HX2.out) HR.out (fun r hr => (HSM.out r hr).many) hrow.rd ((HVV.out.ext HX2.out).errs.sub (by decide)))
   rw [← hsm] at hX
   have HX := Lib.hid hX
   obtain ⟨a2, c2, rfl, _, _, _⟩ := hrow.rd
   clear hrow he ho hcase hnf hm hsm hX
   go_wp2_with fail
   refine HPT.out.mono ?_
   rintro e w3 ⟨v3, ev, rfl, hrow, he, ho⟩
   have HX3 := Lib.hid (HX2.out.then ho)
   have HEE := Lib.hid he
   obtain ⟨a3, c3, rfl, _, _, _⟩ := hrow.rd
   clear hrow he ho
   cases hp : partB l sm with
   | none =>
    have hX := HX.out
    rw [hp] at hX
    have hX2 : X = ([], (9, -1)) := hX
    subst hX2
    have hf : partFault l sm = (9, -1) := by unfold partFault; rw [hp]; rfl
    rw [hf] at HEE
    obtain ⟨t, p, rfl⟩ := HEE.out.some (by decide)
    clear hX hf hp HX
    go_wp2_with fail
    go_ret2
    exact ⟨_, rfl, HEE.out, HX3.out⟩
   | some o =>
    have hX := HX.out
    rw [hp] at hX
    have hX2 : X = ((wantW l T out).1, ((wantW l T out).2, -1)) := hX
    subst hX2
    have hf : partFault l sm = (0, -1) := by unfold partFault; rw [hp]; rfl
    rw [hf] at HEE
    obtain rfl := HEE.out.zero rfl
    obtain ⟨r1, r2⟩ := ranked_order (orderB_some hp).1
    have hin : InO l o out := fun k hk => by
     have h1 := need_one HR.out HMD.out hk
     exact order_covers hp (mem_needL.1 h1).1 (by rw [HSMQ.out]; simpa using h1)
    have hmm := @run_makeMap Tryz.prog
    have HOF := Lib.hid (fun (w5 : World) (ab kb : Nat) (L : List (B × Tld)) (h1 : AskAt w3 w5 P ab tb kb (.slice a l.length cap) L) (h2 : Knows (wantW l T) L) =>
     of_any w3 P ab tb tmb kb (.slice a l.length cap) l T (wantW l T) (InO l o) (rankO l o) (asks_want r1 r2 HTB.out) ((HVV.out.ext HX3.out).act (by decide)) ((HVV.out.ext HX3.out).errs.sub (by decide)) (HRD.out.ext HX3.out) HW.out (HT.out.ext HX3.out) (l.length + 1) out hin (Nat.lt_succ_of_le (r2 out hin)) w5 L h1 h2)
    have HAS : Hid (AskAt w3 ((w3.alloc (.map #[] 0)).alloc (.cells #[.pointer (some ⟨tb, 0, none⟩), .slice a l.length cap, .map (some w3.heap.size)] 153 (0, 0))) P (w3.heap.size + 1) tb w3.heap.size (.slice a l.length cap) []) := Lib.hid (by
     refine ⟨(Only.alloc _ _ _).thenAlloc _, ?_, (KMap.made w3 .string S (tEnc P)).later (Only.alloc (fun _ => False) _ _) (fun h => h), ⟨Nat.le_succ _, Nat.le_refl _, Nat.succ_ne_self _⟩⟩
     simpa using (MapKept.heap_alloc (w3.alloc (.map #[] 0)) (.cells #[.pointer (some ⟨tb, 0, none⟩), .slice a l.length cap, .map (some w3.heap.size)] 153 (0, 0))).1)
    have HCL := Lib.hid (HOF.out _ _ _ _ HAS.out (fun p x h => by cases h))
    generalize wantW l T out = Y at *
    obtain ⟨y1, y2⟩ := Y
    clear hX hf hp HX r1 r2 hin HOF
    go_wp2_with fail
    refine HCL.out.mono ?_
    rintro e w6 ⟨rfl, L6, ha6, hk6, ho6⟩
    have HX6 := Lib.hid (HX3.out.then ha6.ext)
    obtain ⟨ev, hev⟩ : ∃ ev, ev = errC P y2 := ⟨_, rfl⟩
    have hte : tEnc P (y1, y2) = .agg #[S y1, ev] := by rw [hev]
    have HEV := Lib.hid (fun w : World => by have h := ErrAt.errC w P y2; rw [← hev] at h; exact h)
    have hz7 : (w6.alloc (.cells #[S y1, ev] 155 (0, 0))).heap[w6.heap.size]? = some (.cells #[S y1, ev] 155 (0, 0)) := (MapKept.heap_alloc w6 (.cells #[S y1, ev] 155 (0, 0))).1
    have n0 : (w6.alloc (.cells #[S y1, ev] 155 (0, 0))).cell? ⟨w6.heap.size, 0, none⟩ = some (S y1) := (cell_of_heap hz7 0).trans rfl
    have n1 : (w6.alloc (.cells #[S y1, ev] 155 (0, 0))).cell? ⟨w6.heap.size, 1, none⟩ = some ev := (cell_of_heap hz7 1).trans rfl
    rw [hte]
    have hform : ev = .nilIface ∨ ∃ c, ev = errV (P c) := by
     rw [hev]
     cases y2 with
     | zero => exact .inl rfl
     | succ c => exact .inr ⟨c, rfl⟩
    have HX7 := Lib.hid (HX6.out.thenAlloc (.cells #[S y1, ev] 155 (0, 0)))
    clear hz7 hev hte ha6 hk6 ho6
    rcases hform with rfl | ⟨c, rfl⟩
    all_goals
     go_wp2_with fail
     go_quiet (fail)
     go_wp2_with fail
     go_ret2
     exact ⟨_, rfl, HEV.out _, HX7.out.thenDrewN _⟩
 ·have hX2 : X = ([], sheetFault l) := by rw [if_pos h0] at hX; exact hX
  subst hX2
  have HN0 := Lib.hid h0
  clear hX h0
  go_enter Tryz.func18, Tryz.ntmps18
  go_wp2_with fail
  refine HSH.out.mono ?_
  rintro e w1 ⟨ev, rfl, he, ho⟩
  obtain ⟨t, p, rfl⟩ := he.some HN0.out
  have HX1 := Lib.hid ho
  have HEE := Lib.hid he
  clear he ho
  go_wp2_with fail
  go_ret2
  exact ⟨_, rfl, HEE.out, HX1.out⟩
end Go.Proofs.YtnmhaipjfpongacGreatDoor

namespace Go.Proofs.YtnmhaipjfpongacGreatDoor
open Go.ChangeShapes Go.WideShapes Go.ChangeAt Go.RowKit

theorem repl_len (p q : B) (hp : p ≠ []) : ∀ (n : Nat) (s : B), s.length ≤ n → (Lib.replaceAll s p q).length ≤ s.length * (1 + q.length)
 | 0, s, h => by
  rw [List.length_eq_zero_iff.1 (Nat.le_zero.1 h), repl_nil hp]
  simp
 | n + 1, [], _ => by rw [repl_nil hp]; simp
 | n + 1, c :: r, h => by
  have hp1 : 1 ≤ p.length := List.length_pos_iff.2 hp
  cases hh : p.isPrefixOf (c :: r) with
  | true =>
   rw [repl_here hp hh, List.length_append]
   have hle : ((c :: r).drop p.length).length ≤ r.length := by rw [List.length_drop, List.length_cons]; omega
   have h1 := repl_len p q hp n ((c :: r).drop p.length) (by simp at h; omega)
   have h2 : ((c :: r).drop p.length).length * (1 + q.length) ≤ r.length * (1 + q.length) := Nat.mul_le_mul_right _ hle
   have h3 : (c :: r).length * (1 + q.length) = r.length * (1 + q.length) + (1 + q.length) := by rw [List.length_cons, Nat.succ_mul]
   omega
  | false =>
   rw [repl_skip hp hh, List.length_cons]
   have h1 := repl_len p q hp n r (by simpa using h)
   have h3 : (c :: r).length * (1 + q.length) = r.length * (1 + q.length) + (1 + q.length) := by rw [List.length_cons, Nat.succ_mul]
   omega

theorem refMade_any (w : World) (k : Kd) (wd : B) (l : List B) (v : Value) (hk : k ≠ .write) (hv : Rd S w v l) (hb : sumLen l + l.length ≤ 900000) (hw : wd.length ≤ 1000) (h1 : k.least ≤ l.length) (h2 : k.word wd = true) :
  Calls Tryz.prog 171 #[S k.name, S wd, v] w (RetE (S (k.run wd l)) w) := by
 have hx : ∀ x r, l = x :: r → x.length ≤ 900000 := fun x r e => by subst e; rw [sum_cons] at hb; omega
 have he := kdIs k
 cases k with
 | write => exact absurd rfl hk
 | join => exact made_join w _ wd l v he hv h1 hb hw
 | sort => exact made_sort w _ wd l v he hv hb (by
   have h3 : (wd == [] || wd == [111, 110, 99, 101]) = true := h2
   rw [Bool.or_eq_true, beq_iff_eq, beq_iff_eq] at h3
   exact h3)
 | count => exact made_count w _ wd l v he hv hb
 | upper =>
  cases l with
  | nil => simp [Kd.least] at h1
  | cons x r => exact made_upper w _ wd x r v he hv (hx x r rfl)
 | lines =>
  cases l with
  | nil => simp [Kd.least] at h1
  | cons x r => exact made_lines w _ wd x r v he hv (hx x r rfl) hw
 | swap =>
  cases l with
  | nil => simp [Kd.least] at h1
  | cons x r =>
   have hxl := hx x r rfl
   refine made_swap w _ wd x r v he hv hxl hw h2 ?_
   have h3 := repl_len (cut1 61 wd).1 (cut1 61 wd).2.1 (pair_cut h2) x.length x (Nat.le_refl _)
   have h4 := (cut1_len 61 wd).2
   have h5 : x.length * (1 + (cut1 61 wd).2.1.length) ≤ 900000 * 1001 := Nat.mul_le_mul hxl (by omega)
   omega
 | head =>
  cases l with
  | nil => simp [Kd.least] at h1
  | cons x r =>
   obtain ⟨n, hn⟩ := Option.isSome_iff_exists.1 h2
   have := made_head w _ wd x r v n he hv (hx x r rfl) hw hn
   show Calls _ _ _ _ (RetE (S (endedB ((linesB x).take ((numB 3 wd).getD 0)))) w)
   rw [hn]
   exact this

set_option maxRecDepth 100000 in
set_option maxHeartbeats 2000000 in
theorem actOf_any (w : World) (name wd : B) (l : List B) (v : Value) (hv : Rd S w v l) (hb : sumLen l + l.length ≤ 900000) (hw : wd.length ≤ 1000) :
  Calls Tryz.prog 97 #[S name, S wd, v] w (RetE (.tuple #[S (runOut name wd l), I (runCode name wd l)]) w) := by
 have HE := Lib.hid (actError_any w name wd l.length (by omega))
 cases hc : actCode name wd l.length with
 | succ c =>
  have e1 : runCode name wd l = c + 1 := by unfold runCode; rw [hc, if_neg (Nat.succ_ne_zero _)]
  have e2 : runOut name wd l = [] := by unfold runOut; rw [e1, if_neg (Nat.succ_ne_zero _)]
  rw [e1, e2]
  rw [hc] at HE
  obtain ⟨a, cap, rfl, _, _, _⟩ := hv
  have hcz : (0 : Int) < ((c + 1 : Nat) : Int) := by omega
  generalize ((c + 1 : Nat) : Int) = z at *
  clear e1 e2 hc hb hw
  go_enter Tryz.func97, Tryz.ntmps97
  go_wp2_with fail
  refine (HE.out).mono ?_
  rintro e w1 ⟨rfl, ho⟩
  have HO := Lib.hid ho
  clear ho
  go_wp2_with fail
  go_ret2
  exact ⟨rfl, HO.out⟩
 | zero =>
  obtain ⟨k, hk, h1, h2, h3⟩ := actCode_ok hc
  obtain rfl := kind_name hk
  have e0 : actOut k.name wd l = k.run wd l := by unfold actOut; rw [hk]
  have e1 : runCode k.name wd l = if 2000 < (k.run wd l).length then 10 else 0 := by unfold runCode; rw [hc, if_pos rfl, e0]
  have e2 : runOut k.name wd l = if 2000 < (k.run wd l).length then [] else k.run wd l := by
   unfold runOut
   rw [e1, e0]
   by_cases h : 2000 < (k.run wd l).length
   ·rw [if_pos h, if_pos h, if_neg (by decide)]
   ·rw [if_neg h, if_neg h, if_pos rfl]
  rw [e1, e2]
  rw [hc] at HE
  by_cases hwr : k = .write
  ·subst hwr
   show Calls _ _ _ _ (RetE (.tuple #[S (if 2000 < wd.length then [] else wd), I (if 2000 < wd.length then 10 else 0 : Nat)]) w)
   rw [if_neg (by omega), if_neg (by omega)]
   have hlz : ¬ (2000 : Int) < (wd.length : Int) := by omega
   obtain ⟨_, _, _, _, _, _, _, e8⟩ := kdIs .write
   change _ = true at e8
   obtain ⟨a, cap, rfl, _, _, _⟩ := hv
   generalize Kd.write.name = nm at *
   clear e0 e1 e2 hk h1 h2 h3 hc hb hw
   go_enter Tryz.func97, Tryz.ntmps97
   go_wp2_with fail
   refine (HE.out).mono ?_
   rintro e w1 ⟨rfl, ho⟩
   have HO := Lib.hid ho
   clear ho
   go_wp2_with fail
   go_ret2
   exact ⟨rfl, HO.out⟩
  ·have HM := Lib.hid (fun W (hW : Ext w W) => refMade_any W k wd l v hwr (hv.ext hW) hb hw h1 h2)
   obtain ⟨_, _, _, _, _, _, _, e8⟩ := kdIs k
   have e9 : Kd.isN 7 k = false := by cases k <;> first | rfl | exact absurd rfl hwr
   rw [e9] at e8
   obtain ⟨a, cap, rfl, _, _, _⟩ := hv
   generalize k.run wd l = out at *
   generalize k.name = nm at *
   clear e0 e1 e2 hk h1 h2 h3 hc hb hw e9 hwr
   by_cases hl : 2000 < out.length
   ·rw [if_pos hl, if_pos hl]
    have hlz : (2000 : Int) < (out.length : Int) := by omega
    clear hl
    go_enter Tryz.func97, Tryz.ntmps97
    go_wp2_with fail
    refine (HE.out).mono ?_
    rintro e w1 ⟨rfl, ho⟩
    have HO := Lib.hid ho
    clear ho
    go_wp2_with fail
    refine (HM.out _ HO.out).mono ?_
    rintro e w2 ⟨rfl, ho⟩
    have HO2 := Lib.hid (HO.out.then ho)
    clear ho
    go_wp2_with fail
    go_ret2
    exact ⟨rfl, HO2.out⟩
   ·rw [if_neg hl, if_neg hl]
    have hlz : ¬ (2000 : Int) < (out.length : Int) := by omega
    clear hl
    go_enter Tryz.func97, Tryz.ntmps97
    go_wp2_with fail
    refine (HE.out).mono ?_
    rintro e w1 ⟨rfl, ho⟩
    have HO := Lib.hid ho
    clear ho
    go_wp2_with fail
    refine (HM.out _ HO.out).mono ?_
    rintro e w2 ⟨rfl, ho⟩
    have HO2 := Lib.hid (HO.out.then ho)
    clear ho
    go_wp2_with fail
    go_ret2
    exact ⟨rfl, HO2.out⟩

end Go.Proofs.YtnmhaipjfpongacGreatDoor

namespace Go.Proofs.YtnmhaipjfpongacGreatDoor
open Go.ChangeShapes Go.WideShapes Go.ChangeAt Go.RowKit

theorem sumI_le {l : List B} (h : ∀ x ∈ l, x.length ≤ 2000) : sumLen l ≤ l.length * 2000 := by
 induction l with
 | nil => simp [sumLen]
 | cons x l ih =>
  rw [sum_cons, List.length_cons, Nat.succ_mul]
  have := ih fun y hy => h y (.tail _ hy)
  have := h x (.head _)
  omega
theorem fnd_look (T : FL) (p : B) : (∃ (k : Nat) (q : B × B), fndT T p = (k : Int) ∧ T[k]? = some q ∧ T.lookup p = some q.2) ∨ (fndT T p = -1 ∧ T.lookup p = none) := by
 unfold fndT
 induction T with
 | nil => exact .inr ⟨rfl, rfl⟩
 | cons q T ih =>
  obtain ⟨a, x⟩ := q
  rw [List.findIdx?_cons, List.lookup_cons]
  by_cases h : a = p
  ·subst h
   exact .inl ⟨0, (a, x), by simp, rfl, by simp⟩
  ·have h1 : (a == p) = false := beq_eq_false_iff_ne.2 h
   have h2 : (p == a) = false := beq_eq_false_iff_ne.2 (Ne.symm h)
   simp only [h1, h2]
   rcases ih with ⟨k, q, h3, h4, h5⟩ | ⟨h3, h4⟩
   ·refine .inl ⟨k + 1, q, ?_, by simpa using h4, h5⟩
    cases hf : T.findIdx? (fun p_1 => p_1.1 == p) with
    | none => rw [hf] at h3; simp at h3
    | some j =>
     rw [hf] at h3
     have h6 : (j : Int) = (k : Int) := by simpa using h3
     obtain rfl : j = k := by omega
     simp
   ·refine .inr ⟨?_, h4⟩
    cases hf : T.findIdx? (fun p_1 => p_1.1 == p) with
    | none => simp
    | some j => rw [hf] at h3; simp at h3

end Go.Proofs.YtnmhaipjfpongacGreatDoor

namespace Go.Proofs.YtnmhaipjfpongacGreatDoor
open Go.ChangeShapes Go.WideShapes Go.ChangeAt Go.RowKit

set_option maxRecDepth 100000 in
theorem mapsClone_any (b : Nat) (es : Array MapEntry) (clock : Nat) (w : World) (hb : w.heap[b]? = some (.map es clock)) :
  Calls Tryz.prog 173 #[.map (some b)] w fun e w' => e = .returned (.map (some w.heap.size)) ∧ w' = w.alloc (.map es clock) := by
 have hq := fun w => run_eql_map_nil_sl (P := Tryz.prog) w 171 _ _ (some b) Tryz.underlying171
 go_enter Tryz.func173, Tryz.ntmps173
 go_wp2
 rw [run_callFunc_extern Tryz.func224 (by kernel_rfl) (by kernel_rfl) (by kernel_rfl) (e := Extern.MapsClone.clone) (by kernel_rfl), run_maps_clone_sl w 171 hb]
 simp only [Result.andThen]
 rw [Oper.upon_value]
 go_wp2
 rw [run_typeAssert_map_sl _ 171 _ _ _ _ Tryz.underlying171]
 simp only [Result.andThen]
 rw [Oper.upon_value]
 go_wp2
 go_ret
 exact ⟨rfl, rfl⟩

def CopyIs (w : World) (L : FL) (e : Ending) (w' : World) : Prop := e = .returned (.pointer (some ⟨w.heap.size + 1, 0, none⟩)) ∧ TreeAt w' (w.heap.size + 1) w.heap.size L ∧ Ext w w' ∧ w'.heap.size = w.heap.size + 2
theorem treeCopy_any (w : World) (b mb : Nat) (L : FL) (h : TreeAt w b mb L) : Calls Tryz.prog 100 #[.pointer (some ⟨b, 0, none⟩)] w (CopyIs w L) := by
 have c0 := h.mapCell
 obtain ⟨es, clock, hb, hp⟩ := h.map
 have HC := Lib.hid (mapsClone_any mb es clock w hb)
 have HM : Hid (KMap .string S S (w.alloc (.map es clock)) w.heap.size L) := Lib.hid ⟨es, clock, (MapKept.heap_alloc w _).1, hp⟩
 clear h hb hp
 go_enter Tryz.func100, Tryz.ntmps100
 go_wp2_with fail
 refine HC.out.mono ?_
 rintro e w1 ⟨rfl, rfl⟩
 go_wp2_with fail
 go_ret
 refine ⟨by simp, ⟨?_, HM.out.later (Only.alloc (fun _ => False) _ _) (fun h => h)⟩, (Only.alloc _ _ _).thenAlloc _, by simp⟩
 simpa using (MapKept.heap_alloc (w.alloc (.map es clock)) (.cells #[.map (some w.heap.size)] 173 (0, 0))).1
end Go.Proofs.YtnmhaipjfpongacGreatDoor

namespace Go.Proofs.YtnmhaipjfpongacGreatDoor
open Go.ChangeShapes Go.WideShapes Go.ChangeAt Go.RowKit
open Go.MapKept (findNow_spec IsKey Stamped bytes_beq stamped_empty stamped_push stamped_modify stamped_erase run_checkKey run_findKey run_keyThatStays heap_set heap_alloc)
open Go.ChangeMaps (setBlock)

section
variable {d : TypeDesc} {P : Program} {w : World} {b : Nat} {l : List (Value × Value)} {t kt et : TypeId}
theorem heap_setBlock_same {W : World} {b : Nat} {o o' : Obj} (h : W.heap[b]? = some o') : (setBlock W b o).heap[b]? = some o := by
 have := lt_of_heap h
 simp [setBlock, this]
theorem heap_setBlock_ne {W : World} {b c : Nat} (o : Obj) (h : c ≠ b) : (setBlock W b o).heap[c]? = W.heap[c]? := by
 simp only [setBlock]
 rw [Array.getElem?_setIfInBounds_ne (Ne.symm h)]

structure NewEntry (P : Program) (d : TypeDesc) (t : TypeId) (b : Nat) (l : List (Value × Value)) (k z v : Value) (es : Array MapEntry) (c st : Nat) (es1 es2 : Array MapEntry) (c1 : Nat) : Prop where
 lay : ∀ W : World, W.heap[b]? = some (.map es c) → (Instr.mapEntry t (.map (some b)) k).run P W = .ok (.tuple #[z, goInt st]) (setBlock W b (.map es1 c1))
 fill : ∀ W : World, W.heap[b]? = some (.map es1 c1) → (Instr.entryStore t (.map (some b)) (goInt st) v).run P W = .ok () (setBlock W b (.map es2 c1))
 done : ∀ W : World, W.heap[b]? = some (.map es2 c1) → MapAt d W b ((k, v) :: l)

theorem MapAt.entry (h : MapAt d w b l) (ht : P.underlying t = some (.map kt et)) (hk : P.underlying kt = some d) {k z : Value} (v : Value) (hz : ∀ W : World, (zeroValue et).run P W = .ok z W) (hkey : IsKey d k) (hm : k ∉ l.map (·.1)) :
  ∃ es c st es1 es2 c1, w.heap[b]? = some (.map es c) ∧ NewEntry P d t b l k z v es c st es1 es2 c1 := by
 obtain ⟨es, clock, h1, h2, h3, h4, h5⟩ := h
 have hks : ∀ x ∈ es.toList, IsKey d x.key := fun x hx => h3 (x.key, x.val) (h2.mem_iff.1 (List.mem_map.2 ⟨x, hx, rfl⟩))
 rcases findNow_spec hkey es.toList 0 hks with ⟨f1, f2⟩ | ⟨j, e, f1, f2, f3⟩
 ·refine ⟨es, clock, clock, es.push ⟨k, z, clock⟩, es.push ⟨k, v, clock⟩, clock + 1, h1, ⟨fun W hW => ?_, fun W hW => ?_, fun W hW => ⟨_, _, hW, ?_, ?_, ?_, stamped_push h5 f2⟩⟩⟩
  ·simp [Instr.mapEntry, run_underlying ht, MapKept.run_getObj_map hW, run_checkKey hk hkey, run_findKey hk f1, hz, MapKept.run_setObj_map _ hW, Result.andThen, setBlock]
  ·have hn : ((es.push ⟨k, z, clock⟩).toList.map (·.born)).Nodup := (stamped_push (val := z) h5 f2).2.1
   have hidx : (es.push ⟨k, z, clock⟩).findIdx? (fun e => ((e.born : Nat) : Int) == ((clock : Nat) : Int)) = some es.size := by
    rw [Go.WideElems.findIdx_arr]
    exact Go.WideElems.findIdx_born (e0 := ⟨k, z, clock⟩) hn (by simp)
   have hmod : (es.push ⟨k, z, clock⟩).modify es.size (fun e => { e with val := v }) = es.push ⟨k, v, clock⟩ := by
    apply Array.ext'
    rw [Array.toList_modify]
    simp only [Array.toList_push]
    have := Go.WideElems.modify_last (fun e : MapEntry => { e with val := v }) ⟨k, z, clock⟩ es.toList
    simpa using this
   simp [Instr.entryStore, MapKept.run_getObj_map hW, asInt, asIntOf, goInt, hidx, hmod, MapKept.run_setObj_map _ hW, Result.andThen, setBlock]
  ·simp only [Array.toList_push, List.map_append, List.map_cons, List.map_nil]
   exact List.perm_append_singleton _ _ |>.trans (h2.cons _)
  ·intro x hx
   rcases List.mem_cons.1 hx with rfl | hx
   ·exact hkey
   ·exact h3 x hx
  ·simpa using ⟨by simpa using hm, h4⟩
 ·exact absurd ((MapAt.keyMem h2).1 ⟨e, List.mem_of_getElem? f2, f3⟩) hm
end

theorem cloneRow_any (w : World) (v : Value) (l : List B) (h : Rd S w v l) (hl : l.length ≤ 1000000) : Calls Tryz.prog 111 #[v] w (RetRow l w) := by
 obtain ⟨a, cap, rfl, h1, h2, h3⟩ := h
 cases l with
 | nil =>
  cases a with
  | none => exact (Tryz.slices_Clone_string_nil 0 cap w).mono fun e w' ⟨h, h'⟩ => ⟨_, h, by rw [h']; exact Only.refl _ _, Row.nil _ _⟩
  | some a => exact (Tryz.slices_Clone_string_zero a cap w).mono fun e w' ⟨v', h, ho, _, hb⟩ => ⟨v', h, Only.of_below hb, ho⟩
 | cons x r =>
  obtain ⟨b, off, rfl, hc⟩ := h3 (by simp)
  refine (Tryz.slices_Clone_string b off (x :: r).length cap ((x :: r).map fun s => ⟨s.toArray⟩) w (by simp) (by omega) (fun j hj => ?_)).mono fun e w' ⟨v', h, ho, _, hb⟩ => ⟨v', h, Only.of_below hb, ?_⟩
  ·have hj' : j < (x :: r).length := by simpa using hj
   rw [hc j _ (List.getElem?_eq_getElem hj')]
   rw [List.getD_eq_getElem?_getD, List.getElem?_map, List.getElem?_eq_getElem hj']
   rfl
  ·have e1 : ((((x :: r).map fun s : B => (⟨s.toArray⟩ : ByteArray)).take (x :: r).length).map Value.string) = (x :: r).map S := by
    rw [List.take_of_length_le (by simp), List.map_map]; rfl
   rw [e1] at ho
   exact ho

noncomputable def newFault (l : List Rule) (outs : List B) : Nat × Int := if (needFault l outs).1 ≠ 0 then needFault l outs else partFault l (needL l outs)
noncomputable abbrev newE (l : List Rule) (outs : List B) (T : FL) : BE := ⟨l, needL l outs, T⟩
def RetNew (P : Nat → Addr) (l : List Rule) (outs : List B) (T : FL) (cp : Value) (w : World) (e : Ending) (w' : World) : Prop :=
 ∃ v ev, e = .returned (.tuple #[v, ev]) ∧ ErrAt w' P (newFault l outs) ev ∧ Ext w w' ∧
  (((newFault l outs).1 ≠ 0 ∧ v = .pointer none) ∨ ((newFault l outs).1 = 0 ∧ ∃ K : BK, v = PTR K.b ∧ K.cp = cp ∧ BldAt w' P w.heap.size (newE l outs T) K .new))

theorem newFault_ok {l : List Rule} {outs : List B} (h : (newFault l outs).1 = 0) : RightS l ∧ (∀ s ∈ outs, madeB l s = true) ∧ ∃ o, partB l (needL l outs) = some o := by
 unfold newFault at h
 by_cases h0 : (needFault l outs).1 = 0
 ·rw [if_neg (by simpa using h0)] at h
  have hs : (sheetFault l).1 = 0 := by
   unfold needFault at h0
   by_cases h1 : (sheetFault l).1 = 0
   ·exact h1
   ·rw [if_pos h1] at h0; exact absurd h0 h1
  refine ⟨sheet_ok.1 hs, fun s hso => ?_, ?_⟩
  ·unfold needFault at h0
   rw [if_neg (by rw [hs]; simp)] at h0
   cases hb : badOf l outs with
   | some i => rw [hb] at h0; cases h0
   | none =>
    unfold badOf at hb
    rw [List.findIdx?_eq_none_iff] at hb
    simpa using hb s hso
  ·unfold partFault at h
   cases hp : partB l (needL l outs) with
   | some o => exact ⟨o, rfl⟩
   | none => rw [hp] at h; cases h
 ·rw [if_pos h0] at h
  exact absurd h h0
theorem new_well {l : List Rule} {outs : List B} {T : FL} {o : List Nat} (hr : RightS l) (hp : partB l (needL l outs) = some o) (hT : ∀ p s, T.lookup p = some s → s.length ≤ 2000) : BWell (newE l outs T) o (fun i => (needL l outs).contains i) := by
 have hc := Clo.need l outs
 exact ⟨hr, (orderB_some hp).1, hc.lt, fun i hi => order_covers hp (hc.lt i hi) (by simpa using hi), hc.clos, hc.rise, hT⟩
end Go.Proofs.YtnmhaipjfpongacGreatDoor

namespace Go.Proofs.YtnmhaipjfpongacGreatDoor
open Go.ChangeShapes Go.WideShapes Go.ChangeAt Go.RowKit

theorem orderFault_ok {l : List Rule} (h : (orderFault l).1 = 0) : RightS l ∧ orderL l = some (orderOut l) := by
 unfold orderFault at h
 by_cases h0 : (sheetFault l).1 = 0
 ·rw [if_neg (by simpa using h0)] at h
  refine ⟨sheet_ok.1 h0, ?_⟩
  unfold orderOut
  rw [if_neg (by simpa using h0)]
  cases ho : orderL l with
  | some o => rfl
  | none => rw [ho] at h; cases h
 ·rw [if_pos h0] at h
  exact absurd h h0

structure AllAt (w5 wr : World) (P : Nat → Addr) (ab tb kb cb cmb : Nat) (lv : Value) (U : FL) (W : B → Tld) : Prop where
 ask : ∃ L, AskAt w5 wr P ab tb kb lv L ∧ Knows W L
 tree : TreeAt wr cb cmb U
 ft : FTree U
 ne : w5.heap.size ≤ cb ∧ w5.heap.size ≤ cmb ∧ cb ≠ kb ∧ cmb ≠ kb ∧ cb ≠ ab ∧ cmb ≠ ab
section
variable {w5 wr w' : World} {P : Nat → Addr} {ab tb kb cb cmb : Nat} {lv : Value} {U U' : FL} {W : B → Tld}
theorem AllAt.ext (h : AllAt w5 wr P ab tb kb cb cmb lv U W) : Ext w5 wr := by
 obtain ⟨L, h1, _⟩ := h.ask
 exact h1.ext
theorem AllAt.grow (h : AllAt w5 wr P ab tb kb cb cmb lv U W) (ho : Ext wr w') : AllAt w5 w' P ab tb kb cb cmb lv U W := by
 obtain ⟨L, h1, h2⟩ := h.ask
 exact ⟨⟨L, h1.grow ho, h2⟩, h.tree.ext ho, h.ft, h.ne⟩
theorem AllAt.put (h : AllAt w5 wr P ab tb kb cb cmb lv U W) (ht : TreeAt w' cb cmb U') (hf : FTree U') (ho : Only (fun i => i = cmb) wr w') : AllAt w5 w' P ab tb kb cb cmb lv U' W := by
 obtain ⟨L, h1, h2⟩ := h.ask
 exact ⟨⟨L, h1.later ho (fun b e => by subst e; exact ⟨h.ne.2.1, h.ne.2.2.2.2.2, h.ne.2.2.2.1⟩), h2⟩, ht, hf, h.ne⟩
end

end Go.Proofs.YtnmhaipjfpongacGreatDoor

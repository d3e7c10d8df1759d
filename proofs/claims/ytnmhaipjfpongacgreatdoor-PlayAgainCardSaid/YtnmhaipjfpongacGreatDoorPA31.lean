/- Texts of this seat laid together for one claim: H2, O2, I4, I3, F16, S10, Z16, I6, S11, O6. No condition of its own: what each proves stands with its theorems. -/
import Derived.Conc.Holds
import Derived.Leaving
import Derived.SevenTiedAt
import Derived.Test.YtnmhaipjfpongacGreatDoorPA0
import Derived.ChangeSame
import Derived.Deep.Fields
import Derived.Deep.Slices
import Derived.Test.YtnmhaipjfpongacGreatDoorPA13
import Derived.Deep.RegionHeld3
import Derived.Test.YtnmhaipjfpongacGreatDoorPA10
import Derived.Test.YtnmhaipjfpongacGreatDoorPA9
import Derived.Test.YtnmhaipjfpongacGreatDoorPA28
import Derived.Test.YtnmhaipjfpongacGreatDoorPA26
import Derived.Test.YtnmhaipjfpongacGreatDoorPA30
import Derived.Test.YtnmhaipjfpongacGreatDoorPA7
import Derived.Shelf.SlMaps.Clone
import Derived.Test.YtnmhaipjfpongacGreatDoorPA8
import Derived.Test.YtnmhaipjfpongacGreatDoorPA25
import Derived.Test.YtnmhaipjfpongacGreatDoorPA19
namespace Go.Proofs.YtnmhaipjfpongacGreatDoor
open Go.ChangeShapes Go.WideShapes Go.ChangeAt Go.RowKit

theorem reach_arg {H : Type} {P : Program} {ts : List TypeId} {ds : List (DataW H)} (h : (DataW.weightsEach P ts ds).all (· ≤ reachBytes) = true) {j : Nat} {t : TypeId} {d : DataW H} (ht : ts[j]? = some t) (hd : ds[j]? = some d) : ∀ n ∈ d.weights P t, n ≤ 140737488351232 :=
 fun n hn => of_decide_eq_true (List.all_eq_true.1 h _ (DataW.weights_mem_each ht hd n hn))

theorem holds_tied_goes (Lk : Looks) {p : Pinned} {s : OpenSpec} {c : OpenClaim} (kinds : List LaidKind) (tests : Bool) (har : Bool × String) (lk : Bool) (g : Bool)
  (hc : c.holds p s) (hw : c.wfByText s = true) (htie : c.laidByTextAt Lk p kinds tests)
  (hst : c.start = .entering) (hnb : c.noBlocks = false ∧ c.again = false) (hm : p.checked.prog.mainIs = some (har.1, har.2.toList)) (hn : (!har.1 && har.2.isEmpty && !lk) = false)
  (hl : ∀ f fn, p.checked.prog.funcNamed c.func = some f → p.checked.prog.funcs[f]? = some fn → lk = p.checked.prog.looks [] ∧ ∀ (j : Nat) t, fn.params[j]? = some t → p.checked.prog.wantsStandIn t = false)
  (hg : g = c.goesBy p.checked.prog) :
  Claim7.holds p (.plain s) { stood := { row := c, standIns := [], harness := har, looks := lk }, kinds := [], alts := [], goes := g, laidByText := true, laidKinds := kinds, laidTests := tests, laidLooks := Lk } := by
 have h6 : Claim7.isSixth { stood := { row := c, standIns := [], harness := har, looks := lk }, kinds := [] } = false := by simpa [Claim7.isSixth] using hn
 exact ⟨Claim7.tied_new_at Lk kinds tests (Claim7.new_of_sixth hc har lk hst hnb hm h6 hl) hw, (fun D hD => by cases hD), htie, (fun h => by cases h), hg⟩
end Go.Proofs.YtnmhaipjfpongacGreatDoor

namespace Go.Proofs.YtnmhaipjfpongacGreatDoor
open Go.ChangeShapes Go.WideShapes Go.ChangeAt Go.RowKit

theorem addr_addR (b off n : Nat) : (⟨b, off, none⟩ : Addr).add n = ⟨b, off + n, none⟩ := by
 unfold Addr.add
 split
 ·subst_vars; rfl
 ·rfl

end Go.Proofs.YtnmhaipjfpongacGreatDoor

namespace Go.Proofs.YtnmhaipjfpongacGreatDoor
open Go.ChangeShapes Go.WideShapes Go.ChangeAt Go.RowKit

structure FTree (L : FL) : Prop where
 fits : Fits L
 lens : ∀ q ∈ L, q.1.length ≤ 1000
theorem FTree.nil : FTree [] := ⟨Fits.nil, by simp⟩
theorem FTree.put {L : FL} (h : FTree L) (p x : B) (hp : p.length ≤ 1000) : FTree (putT L p x) := ⟨h.fits.put p x, lens_put h.fits.rising h.lens p x hp⟩
theorem FTree.bytes {L : FL} (h : FTree L) : ∀ p s, L.lookup p = some s → s.length ≤ 2000 := fun _ _ hl => h.fits.bytes _ (mem_of_lookup hl)
section
variable {w0 wr w' : World} {b mb m : Nat} {slv : Value} {LT LM : FL}
end

end Go.Proofs.YtnmhaipjfpongacGreatDoor

namespace Go.Proofs.YtnmhaipjfpongacGreatDoor
open Go.ChangeShapes Go.WideShapes Go.ChangeAt Go.RowKit

theorem of_any (w0 : World) (P : Nat → Addr) (ab tb tmb kb : Nat) (lv : Value) (l : List Rule) (T : FL) (W : B → Tld) (D : B → Prop) (rk : B → Nat) (hS : Asks l T W D rk) (hA : ActVars w0 P) (hE : Errs w0 P [5])
  (hl : RdR w0 lv l) (hw : ∀ r ∈ l, r.ins.length ≤ 12 ∧ r.word.length ≤ 1000) (ht : TreeAt w0 tb tmb T) :
  ∀ (n : Nat) (p : B), D p → rk p < n → ∀ w L, AskAt w0 w P ab tb kb lv L → Knows W L → Calls Tryz.prog 95 #[.pointer (some ⟨ab, 0, none⟩), S p] w (OfPost w0 P ab tb kb lv W (W p) w)
 | 0, _, _, h => by omega
 | n + 1, p, hp, hr => fun w L h1 h2 => of_step w0 P ab tb tmb kb lv l T W n D rk hS hA hE hl hw ht (fun q hq hrq => of_any w0 P ab tb tmb kb lv l T W D rk hS hA hE hl hw ht n q hq hrq) p hp hr w L h1 h2

theorem ErrAt.errC (w : World) (P : Nat → Addr) (c : Nat) : ErrAt w P (c, -1) (errC P c) := by
 cases c with
 | zero => exact ErrAt.nil _ _ _
 | succ c => exact .inr (.inl ⟨by simp, rfl, rfl⟩)

def RetWant (P : Nat → Addr) (x : B × (Nat × Int)) (w : World) (e : Ending) (w' : World) : Prop := ∃ ev, e = .returned (.tuple #[S x.1, ev]) ∧ ErrAt w' P x.2 ev ∧ Ext w w'

theorem need_one {l : List Rule} {out : B} (h : RightS l) (_hm : madeB l out = true) {k : Nat} (hk : l.findIdx? (fun r => r.out == out) = some k) : k ∈ needL l [out] := by
 obtain ⟨r, h1, h2, _⟩ := findI_some hk
 refine mem_needL.2 ⟨(List.getElem?_eq_some_iff.1 h1).1, .root ?_⟩
 unfold needKs
 rw [List.map_cons, List.map_nil, ← h2, madeI_at h.2.2 h1]
 exact .head _

theorem lit_rd (w : World) (out : B) : Rd S (w.alloc (.cells #[S out] 9 (0, 0))) (.slice (some ⟨w.heap.size, 0, none⟩) 1 1) [out] :=
 ⟨_, 1, rfl, Nat.le_refl _, by decide, fun _ => ⟨_, 0, rfl, fun i x hx => by
  have hz := (MapKept.heap_alloc w (.cells #[S out] 9 (0, 0))).1
  obtain ⟨rfl, hx2⟩ : i = 0 ∧ x = out := by
   rcases i with _ | i
   ·simp at hx; exact ⟨rfl, hx.symm⟩
   ·simp at hx
  subst hx2
  exact cell_of_heap hz 0⟩⟩

set_option maxRecDepth 100000 in
set_option maxHeartbeats 8000000 in
theorem wantOf_any (w : World) (P : Nat → Addr) (tb tmb : Nat) (T : FL) (v : Value) (l : List Rule) (out : B) (ht : TreeAt w tb tmb T) (hT : ∀ p s, T.lookup p = some s → s.length ≤ 2000) (hv : RdR w v l) (hs : ∀ r ∈ l, RuleSm 900000 r) (hw : ∀ r ∈ l, r.ins.length ≤ 12 ∧ r.word.length ≤ 1000) (hV : PV w P [1, 2, 3, 4, 5, 6, 8, 9]) :
  Calls Tryz.prog 18 #[.pointer (some ⟨tb, 0, none⟩), v, S out] w (RetWant P (wantRes l T out) w) := by
 have HSH := Lib.hid (sheet_any w P l v hv hs (hV.sub (by decide)))
 have HRD := Lib.hid hv
 have HVV := Lib.hid hV
 have HT := Lib.hid ht
 have HTB := Lib.hid hT
 have HSM := Lib.hid hs
 have HW := Lib.hid hw
 obtain ⟨a, cap, rfl, _, _, _⟩ := hv
 obtain ⟨X, hX⟩ : ∃ X, X = wantRes l T out := ⟨_, rfl⟩
 rw [← hX]
 unfold wantRes at hX
 clear ht hT hs hw hV
 by_cases h0 : (sheetFault l).1 = 0
 ·rw [if_neg (by simpa using h0)] at hX
  have HR := Lib.hid (sheet_ok.1 h0)
  have HN0 := Lib.hid h0
  have HX := Lib.hid hX
  clear h0 hX
  go_enter Tryz.func18, Tryz.ntmps18
  go_wp2_with fail
  refine HSH.out.mono ?_
  rintro e w1 ⟨ev, rfl, he, ho⟩
  obtain rfl := he.zero HN0.out
  have HX1 := Lib.hid ho
  have HND := Lib.hid (graphNeeds_any (w1.alloc (.cells #[S out] 9 (0, 0))) P l [out] (.slice a l.length cap) (.slice (some ⟨w1.heap.size, 0, none⟩) 1 1) (HRD.out.ext (ho.thenAlloc _)) (lit_rd w1 out) (by simp) HSM.out ((HVV.out.ext (ho.thenAlloc _)).sub (by decide)))
  clear he ho
  go_wp2_with fail
  refine HND.out.mono ?_
  rintro e w2 ⟨v2, ev, sm, rfl, hrow, he, ho, hcase⟩
  have HX2 := Lib.hid ((HX1.out.thenAlloc _).then ho)
  have hnf : needFault l [out] = if madeB l out = true then (0, -1) else (6, 0) := by
   unfold needFault
   rw [if_neg (by rw [HN0.out]; simp)]
   unfold badOf
   cases hm : madeB l out <;> simp [List.findIdx?_cons, hm]
  cases hm : madeB l out with
  | false =>
   rw [hm] at hnf
   have hX := HX.out
   rw [if_pos hm] at hX
   subst hX
   rw [if_neg (by decide)] at hnf
   obtain ⟨t, p, rfl⟩ := he.some (by rw [hnf]; decide)
   obtain ⟨a2, c2, rfl, _, _, _⟩ := hrow.rd
   have c0 := (HVV.out.errs.ext HX2.out).var 5 _ (by decide) rfl
   clear hrow he ho hcase hnf hm HX
   go_wp2_with fail
   go_quiet (fail)
   go_wp2_with fail
   go_ret2
   exact ⟨_, rfl, .inr (.inl ⟨by decide, rfl, rfl⟩), HX2.out.thenDrewN _⟩
  | true =>
   rw [hm, if_pos rfl] at hnf
   have hX := HX.out
   rw [if_neg (by rw [hm]; decide)] at hX
   have hsm : sm = needL l [out] := by
    rcases hcase with ⟨h, _⟩ | ⟨_, h⟩
    ·rw [hnf] at h; exact absurd rfl h
    ·exact needOk_eq h
   obtain rfl := he.zero (by rw [hnf])
   have HMD := Lib.hid hm
   have HROW := Lib.hid hrow
   have HSMQ := Lib.hid hsm
   have HPT := Lib.hid (graphPart_any w2 P l (.slice a l.length cap) v2 sm (HRD.out.ext HX2.out) HR.out (fun r hr => (HSM.out r hr).many) hrow.rd ((HVV.out.ext HX2.out).errs.sub (by decide)))
   rw [← hsm] at hX
   have HX := Lib.hid hX
   obtain ⟨a2, c2, rfl, _, _, _⟩ := hrow.rd
   clear hrow he ho hcase hnf hm hsm hX
   go_wp2_with fail
   refine HPT.out.mono ?_
   rintro e w3 ⟨v3, ev, rfl, hrow, he, ho⟩
   have HX3 := Lib.hid (HX2.out.then ho)
   have HEE := Lib.hid he
   obtain ⟨a3, c3, rfl, _, _, _⟩ := hrow.rd
   clear hrow he ho
   cases hp : partB l sm with
   | none =>
    have hX := HX.out
    rw [hp] at hX
    have hX2 : X = ([], (9, -1)) := hX
    subst hX2
    have hf : partFault l sm = (9, -1) := by unfold partFault; rw [hp]; rfl
    rw [hf] at HEE
    obtain ⟨t, p, rfl⟩ := HEE.out.some (by decide)
    clear hX hf hp HX
    go_wp2_with fail
    go_ret2
    exact ⟨_, rfl, HEE.out, HX3.out⟩
   | some o =>
    have hX := HX.out
    rw [hp] at hX
    have hX2 : X = ((wantW l T out).1, ((wantW l T out).2, -1)) := hX
    subst hX2
    have hf : partFault l sm = (0, -1) := by unfold partFault; rw [hp]; rfl
    rw [hf] at HEE
    obtain rfl := HEE.out.zero rfl
    obtain ⟨r1, r2⟩ := ranked_order (orderB_some hp).1
    have hin : InO l o out := fun k hk => by
     have h1 := need_one HR.out HMD.out hk
     exact order_covers hp (mem_needL.1 h1).1 (by rw [HSMQ.out]; simpa using h1)
    have hmm := @run_makeMap Tryz.prog
    have HOF := Lib.hid (fun (w5 : World) (ab kb : Nat) (L : List (B × Tld)) (h1 : AskAt w3 w5 P ab tb kb (.slice a l.length cap) L) (h2 : Knows (wantW l T) L) =>
     of_any w3 P ab tb tmb kb (.slice a l.length cap) l T (wantW l T) (InO l o) (rankO l o) (asks_want r1 r2 HTB.out) ((HVV.out.ext HX3.out).act (by decide)) ((HVV.out.ext HX3.out).errs.sub (by decide)) (HRD.out.ext HX3.out) HW.out (HT.out.ext HX3.out) (l.length + 1) out hin (Nat.lt_succ_of_le (r2 out hin)) w5 L h1 h2)
    have HAS : Hid (AskAt w3 ((w3.alloc (.map #[] 0)).alloc (.cells #[.pointer (some ⟨tb, 0, none⟩), .slice a l.length cap, .map (some w3.heap.size)] 153 (0, 0))) P (w3.heap.size + 1) tb w3.heap.size (.slice a l.length cap) []) := Lib.hid (by
     refine ⟨(Only.alloc _ _ _).thenAlloc _, ?_, (KMap.made w3 .string S (tEnc P)).later (Only.alloc (fun _ => False) _ _) (fun h => h), ⟨Nat.le_succ _, Nat.le_refl _, Nat.succ_ne_self _⟩⟩
     simpa using (MapKept.heap_alloc (w3.alloc (.map #[] 0)) (.cells #[.pointer (some ⟨tb, 0, none⟩), .slice a l.length cap, .map (some w3.heap.size)] 153 (0, 0))).1)
    have HCL := Lib.hid (HOF.out _ _ _ _ HAS.out (fun p x h => by cases h))
    generalize wantW l T out = Y at *
    obtain ⟨y1, y2⟩ := Y
    clear hX hf hp HX r1 r2 hin HOF
    go_wp2_with fail
    refine HCL.out.mono ?_
    rintro e w6 ⟨rfl, L6, ha6, hk6, ho6⟩
    have HX6 := Lib.hid (HX3.out.then ha6.ext)
    obtain ⟨ev, hev⟩ : ∃ ev, ev = errC P y2 := ⟨_, rfl⟩
    have hte : tEnc P (y1, y2) = .agg #[S y1, ev] := by rw [hev]
    have HEV := Lib.hid (fun w : World => by have h := ErrAt.errC w P y2; rw [← hev] at h; exact h)
    have hz7 : (w6.alloc (.cells #[S y1, ev] 155 (0, 0))).heap[w6.heap.size]? = some (.cells #[S y1, ev] 155 (0, 0)) := (MapKept.heap_alloc w6 (.cells #[S y1, ev] 155 (0, 0))).1
    have n0 : (w6.alloc (.cells #[S y1, ev] 155 (0, 0))).cell? ⟨w6.heap.size, 0, none⟩ = some (S y1) := (cell_of_heap hz7 0).trans rfl
    have n1 : (w6.alloc (.cells #[S y1, ev] 155 (0, 0))).cell? ⟨w6.heap.size, 1, none⟩ = some ev := (cell_of_heap hz7 1).trans rfl
    rw [hte]
    have hform : ev = .nilIface ∨ ∃ c, ev = errV (P c) := by
     rw [hev]
     cases y2 with
     | zero => exact .inl rfl
     | succ c => exact .inr ⟨c, rfl⟩
    have HX7 := Lib.hid (HX6.out.thenAlloc (.cells #[S y1, ev] 155 (0, 0)))
    clear hz7 hev hte ha6 hk6 ho6
    rcases hform with rfl | ⟨c, rfl⟩
    all_goals
     go_wp2_with fail
     go_quiet (fail)
     go_wp2_with fail
     go_ret2
     exact ⟨_, rfl, HEV.out _, HX7.out.thenDrewN _⟩
 ·have hX2 : X = ([], sheetFault l) := by rw [if_pos h0] at hX; exact hX
  subst hX2
  have HN0 := Lib.hid h0
  clear hX h0
  go_enter Tryz.func18, Tryz.ntmps18
  go_wp2_with fail
  refine HSH.out.mono ?_
  rintro e w1 ⟨ev, rfl, he, ho⟩
  obtain ⟨t, p, rfl⟩ := he.some HN0.out
  have HX1 := Lib.hid ho
  have HEE := Lib.hid he
  clear he ho
  go_wp2_with fail
  go_ret2
  exact ⟨_, rfl, HEE.out, HX1.out⟩
end Go.Proofs.YtnmhaipjfpongacGreatDoor

namespace Go.Proofs.YtnmhaipjfpongacGreatDoor
open Go.ChangeShapes Go.WideShapes Go.ChangeAt Go.RowKit

theorem repl_len (p q : B) (hp : p ≠ []) : ∀ (n : Nat) (s : B), s.length ≤ n → (Lib.replaceAll s p q).length ≤ s.length * (1 + q.length)
 | 0, s, h => by
  rw [List.length_eq_zero_iff.1 (Nat.le_zero.1 h), repl_nil hp]
  simp
 | n + 1, [], _ => by rw [repl_nil hp]; simp
 | n + 1, c :: r, h => by
  have hp1 : 1 ≤ p.length := List.length_pos_iff.2 hp
  cases hh : p.isPrefixOf (c :: r) with
  | true =>
   rw [repl_here hp hh, List.length_append]
   have hle : ((c :: r).drop p.length).length ≤ r.length := by rw [List.length_drop, List.length_cons]; omega
   have h1 := repl_len p q hp n ((c :: r).drop p.length) (by simp at h; omega)
   have h2 : ((c :: r).drop p.length).length * (1 + q.length) ≤ r.length * (1 + q.length) := Nat.mul_le_mul_right _ hle
   have h3 : (c :: r).length * (1 + q.length) = r.length * (1 + q.length) + (1 + q.length) := by rw [List.length_cons, Nat.succ_mul]
   omega
  | false =>
   rw [repl_skip hp hh, List.length_cons]
   have h1 := repl_len p q hp n r (by simpa using h)
   have h3 : (c :: r).length * (1 + q.length) = r.length * (1 + q.length) + (1 + q.length) := by rw [List.length_cons, Nat.succ_mul]
   omega

theorem refMade_any (w : World) (k : Kd) (wd : B) (l : List B) (v : Value) (hk : k ≠ .write) (hv : Rd S w v l) (hb : sumLen l + l.length ≤ 900000) (hw : wd.length ≤ 1000) (h1 : k.least ≤ l.length) (h2 : k.word wd = true) :
  Calls Tryz.prog 171 #[S k.name, S wd, v] w (RetE (S (k.run wd l)) w) := by
 have hx : ∀ x r, l = x :: r → x.length ≤ 900000 := fun x r e => by subst e; rw [sum_cons] at hb; omega
 have he := kdIs k
 cases k with
 | write => exact absurd rfl hk
 | join => exact made_join w _ wd l v he hv h1 hb hw
 | sort => exact made_sort w _ wd l v he hv hb (by
   have h3 : (wd == [] || wd == [111, 110, 99, 101]) = true := h2
   rw [Bool.or_eq_true, beq_iff_eq, beq_iff_eq] at h3
   exact h3)
 | count => exact made_count w _ wd l v he hv hb
 | upper =>
  cases l with
  | nil => simp [Kd.least] at h1
  | cons x r => exact made_upper w _ wd x r v he hv (hx x r rfl)
 | lines =>
  cases l with
  | nil => simp [Kd.least] at h1
  | cons x r => exact made_lines w _ wd x r v he hv (hx x r rfl) hw
 | swap =>
  cases l with
  | nil => simp [Kd.least] at h1
  | cons x r =>
   have hxl := hx x r rfl
   refine made_swap w _ wd x r v he hv hxl hw h2 ?_
   have h3 := repl_len (cut1 61 wd).1 (cut1 61 wd).2.1 (pair_cut h2) x.length x (Nat.le_refl _)
   have h4 := (cut1_len 61 wd).2
   have h5 : x.length * (1 + (cut1 61 wd).2.1.length) ≤ 900000 * 1001 := Nat.mul_le_mul hxl (by omega)
   omega
 | head =>
  cases l with
  | nil => simp [Kd.least] at h1
  | cons x r =>
   obtain ⟨n, hn⟩ := Option.isSome_iff_exists.1 h2
   have := made_head w _ wd x r v n he hv (hx x r rfl) hw hn
   show Calls _ _ _ _ (RetE (S (endedB ((linesB x).take ((numB 3 wd).getD 0)))) w)
   rw [hn]
   exact this

set_option maxRecDepth 100000 in
set_option maxHeartbeats 2000000 in
theorem actOf_any (w : World) (name wd : B) (l : List B) (v : Value) (hv : Rd S w v l) (hb : sumLen l + l.length ≤ 900000) (hw : wd.length ≤ 1000) :
  Calls Tryz.prog 97 #[S name, S wd, v] w (RetE (.tuple #[S (runOut name wd l), I (runCode name wd l)]) w) := by
 have HE := Lib.hid (actError_any w name wd l.length (by omega))
 cases hc : actCode name wd l.length with
 | succ c =>
  have e1 : runCode name wd l = c + 1 := by unfold runCode; rw [hc, if_neg (Nat.succ_ne_zero _)]
  have e2 : runOut name wd l = [] := by unfold runOut; rw [e1, if_neg (Nat.succ_ne_zero _)]
  rw [e1, e2]
  rw [hc] at HE
  obtain ⟨a, cap, rfl, _, _, _⟩ := hv
  have hcz : (0 : Int) < ((c + 1 : Nat) : Int) := by omega
  generalize ((c + 1 : Nat) : Int) = z at *
  clear e1 e2 hc hb hw
  go_enter Tryz.func97, Tryz.ntmps97
  go_wp2_with fail
  refine (HE.out).mono ?_
  rintro e w1 ⟨rfl, ho⟩
  have HO := Lib.hid ho
  clear ho
  go_wp2_with fail
  go_ret2
  exact ⟨rfl, HO.out⟩
 | zero =>
  obtain ⟨k, hk, h1, h2, h3⟩ := actCode_ok hc
  obtain rfl := kind_name hk
  have e0 : actOut k.name wd l = k.run wd l := by unfold actOut; rw [hk]
  have e1 : runCode k.name wd l = if 2000 < (k.run wd l).length then 10 else 0 := by unfold runCode; rw [hc, if_pos rfl, e0]
  have e2 : runOut k.name wd l = if 2000 < (k.run wd l).length then [] else k.run wd l := by
   unfold runOut
   rw [e1, e0]
   by_cases h : 2000 < (k.run wd l).length
   ·rw [if_pos h, if_pos h, if_neg (by decide)]
   ·rw [if_neg h, if_neg h, if_pos rfl]
  rw [e1, e2]
  rw [hc] at HE
  by_cases hwr : k = .write
  ·subst hwr
   show Calls _ _ _ _ (RetE (.tuple #[S (if 2000 < wd.length then [] else wd), I (if 2000 < wd.length then 10 else 0 : Nat)]) w)
   rw [if_neg (by omega), if_neg (by omega)]
   have hlz : ¬ (2000 : Int) < (wd.length : Int) := by omega
   obtain ⟨_, _, _, _, _, _, _, e8⟩ := kdIs .write
   change _ = true at e8
   obtain ⟨a, cap, rfl, _, _, _⟩ := hv
   generalize Kd.write.name = nm at *
   clear e0 e1 e2 hk h1 h2 h3 hc hb hw
   go_enter Tryz.func97, Tryz.ntmps97
   go_wp2_with fail
   refine (HE.out).mono ?_
   rintro e w1 ⟨rfl, ho⟩
   have HO := Lib.hid ho
   clear ho
   go_wp2_with fail
   go_ret2
   exact ⟨rfl, HO.out⟩
  ·have HM := Lib.hid (fun W (hW : Ext w W) => refMade_any W k wd l v hwr (hv.ext hW) hb hw h1 h2)
   obtain ⟨_, _, _, _, _, _, _, e8⟩ := kdIs k
   have e9 : Kd.isN 7 k = false := by cases k <;> first | rfl | exact absurd rfl hwr
   rw [e9] at e8
   obtain ⟨a, cap, rfl, _, _, _⟩ := hv
   generalize k.run wd l = out at *
   generalize k.name = nm at *
   clear e0 e1 e2 hk h1 h2 h3 hc hb hw e9 hwr
   by_cases hl : 2000 < out.length
   ·rw [if_pos hl, if_pos hl]
    have hlz : (2000 : Int) < (out.length : Int) := by omega
    clear hl
    go_enter Tryz.func97, Tryz.ntmps97
    go_wp2_with fail
    refine (HE.out).mono ?_
    rintro e w1 ⟨rfl, ho⟩
    have HO := Lib.hid ho
    clear ho
    go_wp2_with fail
    refine (HM.out _ HO.out).mono ?_
    rintro e w2 ⟨rfl, ho⟩
    have HO2 := Lib.hid (HO.out.then ho)
    clear ho
    go_wp2_with fail
    go_ret2
    exact ⟨rfl, HO2.out⟩
   ·rw [if_neg hl, if_neg hl]
    have hlz : ¬ (2000 : Int) < (out.length : Int) := by omega
    clear hl
    go_enter Tryz.func97, Tryz.ntmps97
    go_wp2_with fail
    refine (HE.out).mono ?_
    rintro e w1 ⟨rfl, ho⟩
    have HO := Lib.hid ho
    clear ho
    go_wp2_with fail
    refine (HM.out _ HO.out).mono ?_
    rintro e w2 ⟨rfl, ho⟩
    have HO2 := Lib.hid (HO.out.then ho)
    clear ho
    go_wp2_with fail
    go_ret2
    exact ⟨rfl, HO2.out⟩

end Go.Proofs.YtnmhaipjfpongacGreatDoor

namespace Go.Proofs.YtnmhaipjfpongacGreatDoor
open Go.ChangeShapes Go.WideShapes Go.ChangeAt Go.RowKit

theorem sumI_le {l : List B} (h : ∀ x ∈ l, x.length ≤ 2000) : sumLen l ≤ l.length * 2000 := by
 induction l with
 | nil => simp [sumLen]
 | cons x l ih =>
  rw [sum_cons, List.length_cons, Nat.succ_mul]
  have := ih fun y hy => h y (.tail _ hy)
  have := h x (.head _)
  omega
theorem fnd_look (T : FL) (p : B) : (∃ (k : Nat) (q : B × B), fndT T p = (k : Int) ∧ T[k]? = some q ∧ T.lookup p = some q.2) ∨ (fndT T p = -1 ∧ T.lookup p = none) := by
 unfold fndT
 induction T with
 | nil => exact .inr ⟨rfl, rfl⟩
 | cons q T ih =>
  obtain ⟨a, x⟩ := q
  rw [List.findIdx?_cons, List.lookup_cons]
  by_cases h : a = p
  ·subst h
   exact .inl ⟨0, (a, x), by simp, rfl, by simp⟩
  ·have h1 : (a == p) = false := beq_eq_false_iff_ne.2 h
   have h2 : (p == a) = false := beq_eq_false_iff_ne.2 (Ne.symm h)
   simp only [h1, h2]
   rcases ih with ⟨k, q, h3, h4, h5⟩ | ⟨h3, h4⟩
   ·refine .inl ⟨k + 1, q, ?_, by simpa using h4, h5⟩
    cases hf : T.findIdx? (fun p_1 => p_1.1 == p) with
    | none => rw [hf] at h3; simp at h3
    | some j =>
     rw [hf] at h3
     have h6 : (j : Int) = (k : Int) := by simpa using h3
     obtain rfl : j = k := by omega
     simp
   ·refine .inr ⟨?_, h4⟩
    cases hf : T.findIdx? (fun p_1 => p_1.1 == p) with
    | none => simp
    | some j => rw [hf] at h3; simp at h3

end Go.Proofs.YtnmhaipjfpongacGreatDoor

namespace Go.Proofs.YtnmhaipjfpongacGreatDoor
open Go.ChangeShapes Go.WideShapes Go.ChangeAt Go.RowKit

set_option maxRecDepth 100000 in
theorem mapsClone_any (b : Nat) (es : Array MapEntry) (clock : Nat) (w : World) (hb : w.heap[b]? = some (.map es clock)) :
  Calls Tryz.prog 173 #[.map (some b)] w fun e w' => e = .returned (.map (some w.heap.size)) ∧ w' = w.alloc (.map es clock) := by
 have hq := fun w => run_eql_map_nil_sl (P := Tryz.prog) w 171 _ _ (some b) Tryz.underlying171
 go_enter Tryz.func173, Tryz.ntmps173
 go_wp2
 rw [run_callFunc_extern Tryz.func224 (by kernel_rfl) (by kernel_rfl) (by kernel_rfl) (e := Extern.MapsClone.clone) (by kernel_rfl), run_maps_clone_sl w 171 hb]
 simp only [Result.andThen]
 rw [Oper.upon_value]
 go_wp2
 rw [run_typeAssert_map_sl _ 171 _ _ _ _ Tryz.underlying171]
 simp only [Result.andThen]
 rw [Oper.upon_value]
 go_wp2
 go_ret
 exact ⟨rfl, rfl⟩

def CopyIs (w : World) (L : FL) (e : Ending) (w' : World) : Prop := e = .returned (.pointer (some ⟨w.heap.size + 1, 0, none⟩)) ∧ TreeAt w' (w.heap.size + 1) w.heap.size L ∧ Ext w w' ∧ w'.heap.size = w.heap.size + 2
theorem treeCopy_any (w : World) (b mb : Nat) (L : FL) (h : TreeAt w b mb L) : Calls Tryz.prog 100 #[.pointer (some ⟨b, 0, none⟩)] w (CopyIs w L) := by
 have c0 := h.mapCell
 obtain ⟨es, clock, hb, hp⟩ := h.map
 have HC := Lib.hid (mapsClone_any mb es clock w hb)
 have HM : Hid (KMap .string S S (w.alloc (.map es clock)) w.heap.size L) := Lib.hid ⟨es, clock, (MapKept.heap_alloc w _).1, hp⟩
 clear h hb hp
 go_enter Tryz.func100, Tryz.ntmps100
 go_wp2_with fail
 refine HC.out.mono ?_
 rintro e w1 ⟨rfl, rfl⟩
 go_wp2_with fail
 go_ret
 refine ⟨by simp, ⟨?_, HM.out.later (Only.alloc (fun _ => False) _ _) (fun h => h)⟩, (Only.alloc _ _ _).thenAlloc _, by simp⟩
 simpa using (MapKept.heap_alloc (w.alloc (.map es clock)) (.cells #[.map (some w.heap.size)] 173 (0, 0))).1
end Go.Proofs.YtnmhaipjfpongacGreatDoor

namespace Go.Proofs.YtnmhaipjfpongacGreatDoor
open Go.ChangeShapes Go.WideShapes Go.ChangeAt Go.RowKit

structure PartAt (w wr : World) (v : Value) (ps : List (Rule × Option Addr × Nat × Nat)) : Prop where
 ext : Ext w wr
 row : wr.ownsRow w.heap.size 55 4 v ps.length (ps.flatMap encR)
 texts : ∀ p ∈ ps, Rd S w (SV p.2) p.1.ins
theorem PartAt.nil (w : World) : PartAt w w (.slice none 0 0) [] := ⟨Only.refl _ _, World.ownsRow_nil _ _ _ _, by simp⟩
theorem PartAt.grow {w wr w' : World} {v : Value} {ps : List (Rule × Option Addr × Nat × Nat)} (h : PartAt w wr v ps) (ho : Ext wr w') : PartAt w w' v ps := ⟨h.ext.then ho, ho.row h.row (fun _ _ h => h), h.texts⟩
theorem PartAt.push {w wr w2 : World} {v v' : Value} {u : Option Addr × Nat × Nat} {ps : List (Rule × Option Addr × Nat × Nat)} {r : Rule} (h : PartAt w wr v ps) (hu : Rd S w (SV u) r.ins) (hr : w2.ownsRow w.heap.size 55 4 v' (ps.length + 1) ((ps ++ [(r, u)]).flatMap encR)) (hg : wr.grownBy w2 v.ownBlock) : PartAt w w2 v' (ps ++ [(r, u)]) := by
 have ho : Only (fun b => v.ownBlock = some b) wr w2 := Only.of_grown hg
 refine ⟨h.ext.trans ho (fun _ _ h => h) (fun i hi e => by have := (h.row.lt i e).1; omega), by rw [List.length_append]; exact hr, fun p hp => ?_⟩
 rcases List.mem_append.1 hp with hp | hp
 ·exact h.texts p hp
 ·rw [List.mem_singleton] at hp
  subst hp
  exact hu
theorem PartAt.rd {w wr : World} {v : Value} {ps : List (Rule × Option Addr × Nat × Nat)} {l : List Rule} (h : PartAt w wr v ps) (hl : ps.map Prod.fst = l) : RdR wr v l := by
 have hs := RdS.of_row encR_len h.row
 obtain ⟨a, cap, h1, h2, h3, h4⟩ := hs
 have hlen : ps.length = l.length := by rw [← hl, List.length_map]
 refine ⟨a, cap, by rw [← hlen]; exact h1, by omega, h3, fun hne => ?_⟩
 obtain ⟨b, off, h5, h6⟩ := h4 (by intro e; rw [e] at hl; exact hne hl.symm)
 refine ⟨b, off, h5, fun i r hi => ?_⟩
 rw [← hl, List.getElem?_map] at hi
 obtain ⟨p, hp, rfl⟩ := Option.map_eq_some_iff.1 hi
 refine ⟨SV p.2, (h.texts p (List.mem_of_getElem? hp)).ext h.ext, ?_, ?_, ?_, ?_⟩
 ·have := h6 i p hp 0 _ rfl; rwa [Nat.add_zero] at this
 ·exact h6 i p hp 1 _ rfl
 ·exact h6 i p hp 2 _ rfl
 ·exact h6 i p hp 3 _ rfl
end Go.Proofs.YtnmhaipjfpongacGreatDoor

namespace Go.Proofs.YtnmhaipjfpongacGreatDoor
open Go.ChangeShapes Go.WideShapes Go.ChangeAt Go.RowKit

theorem orderFault_ok {l : List Rule} (h : (orderFault l).1 = 0) : RightS l ∧ orderL l = some (orderOut l) := by
 unfold orderFault at h
 by_cases h0 : (sheetFault l).1 = 0
 ·rw [if_neg (by simpa using h0)] at h
  refine ⟨sheet_ok.1 h0, ?_⟩
  unfold orderOut
  rw [if_neg (by simpa using h0)]
  cases ho : orderL l with
  | some o => rfl
  | none => rw [ho] at h; cases h
 ·rw [if_pos h0] at h
  exact absurd h h0

structure AllAt (w5 wr : World) (P : Nat → Addr) (ab tb kb cb cmb : Nat) (lv : Value) (U : FL) (W : B → Tld) : Prop where
 ask : ∃ L, AskAt w5 wr P ab tb kb lv L ∧ Knows W L
 tree : TreeAt wr cb cmb U
 ft : FTree U
 ne : w5.heap.size ≤ cb ∧ w5.heap.size ≤ cmb ∧ cb ≠ kb ∧ cmb ≠ kb ∧ cb ≠ ab ∧ cmb ≠ ab
section
variable {w5 wr w' : World} {P : Nat → Addr} {ab tb kb cb cmb : Nat} {lv : Value} {U U' : FL} {W : B → Tld}
theorem AllAt.ext (h : AllAt w5 wr P ab tb kb cb cmb lv U W) : Ext w5 wr := by
 obtain ⟨L, h1, _⟩ := h.ask
 exact h1.ext
theorem AllAt.grow (h : AllAt w5 wr P ab tb kb cb cmb lv U W) (ho : Ext wr w') : AllAt w5 w' P ab tb kb cb cmb lv U W := by
 obtain ⟨L, h1, h2⟩ := h.ask
 exact ⟨⟨L, h1.grow ho, h2⟩, h.tree.ext ho, h.ft, h.ne⟩
theorem AllAt.put (h : AllAt w5 wr P ab tb kb cb cmb lv U W) (ht : TreeAt w' cb cmb U') (hf : FTree U') (ho : Only (fun i => i = cmb) wr w') : AllAt w5 w' P ab tb kb cb cmb lv U' W := by
 obtain ⟨L, h1, h2⟩ := h.ask
 exact ⟨⟨L, h1.later ho (fun b e => by subst e; exact ⟨h.ne.2.1, h.ne.2.2.2.2.2, h.ne.2.2.2.1⟩), h2⟩, ht, hf, h.ne⟩
end

end Go.Proofs.YtnmhaipjfpongacGreatDoor

namespace Go.Proofs.YtnmhaipjfpongacGreatDoor
open Go.ChangeShapes Go.WideShapes Go.ChangeAt Go.RowKit

def RdFF (w : World) (v : Value) (l : List FL) : Prop :=
 ∃ a cap, v = .slice a l.length cap ∧ l.length ≤ cap ∧ cap ≤ maxLen ∧ (l ≠ [] → ∃ b off, a = some ⟨b, off, none⟩ ∧ ∀ (i : Nat) fs, l[i]? = some fs → ∃ u, w.cell? ⟨b, off + i, none⟩ = some u ∧ RdS 2 encF w u fs)
theorem RdFF.ext {w w' : World} {v : Value} {l : List FL} (h : RdFF w v l) (ho : Ext w w') : RdFF w' v l := by
 obtain ⟨a, cap, h1, h2, h3, h4⟩ := h
 refine ⟨a, cap, h1, h2, h3, fun hne => ?_⟩
 obtain ⟨b, off, h5, h6⟩ := h4 hne
 refine ⟨b, off, h5, fun i fs hi => ?_⟩
 obtain ⟨u, h7, h8⟩ := h6 i fs hi
 exact ⟨u, ho.cellOf h7 (fun h => h), h8.ext ho⟩
end Go.Proofs.YtnmhaipjfpongacGreatDoor

/- Texts of this seat laid together for one claim: Z12. No condition of its own: what each proves stands with its theorems. -/
import Derived.Test.YtnmhaipjfpongacGreatDoorYF24
namespace Go.Proofs.YtnmhaipjfpongacGreatDoor
open Go.ChangeShapes Go.WideShapes Go.ChangeAt Go.RowKit
open Go.MapKept (Stamped)
open Go.ChangeMaps (setBlock)

def cRan (s : BS) (k : Nat) : Bool := s.st k == 2 && !s.hit k
def cHit (s : BS) (k : Nat) : Bool := s.st k == 2 && s.hit k
def cFail (s : BS) (k : Nat) : Bool := s.st k == 3
def cLeft (s : BS) (k : Nat) : Bool := s.st k == 4
abbrev cntV (s : BS) (ks : List Nat) : Array Value := #[IN (ks.countP (cRan s)), IN (ks.countP (cHit s)), IN (ks.countP (cFail s)), IN (ks.countP (cLeft s))]
def CntIs (s : BS) (ks : List Nat) (a b c d : Nat) : Prop := a = ks.countP (cRan s) ∧ b = ks.countP (cHit s) ∧ c = ks.countP (cFail s) ∧ d = ks.countP (cLeft s)
theorem cnt_snoc {s : BS} {ks : List Nat} {a b c d k : Nat} (h : CntIs s ks a b c d) : CntIs s (ks ++ [k]) (a + if cRan s k then 1 else 0) (b + if cHit s k then 1 else 0) (c + if cFail s k then 1 else 0) (d + if cLeft s k then 1 else 0) := by
 obtain ⟨rfl, rfl, rfl, rfl⟩ := h
 unfold CntIs
 simp only [List.countP_append, List.countP_cons, List.countP_nil, Nat.zero_add]
 exact ⟨trivial, trivial, trivial, trivial⟩
theorem cnt_le {s : BS} {ks : List Nat} {a b c d : Nat} (h : CntIs s ks a b c d) : a ≤ ks.length ∧ b ≤ ks.length ∧ c ≤ ks.length ∧ d ≤ ks.length := by
 obtain ⟨rfl, rfl, rfl, rfl⟩ := h
 exact ⟨List.countP_le_length, List.countP_le_length, List.countP_le_length, List.countP_le_length⟩
theorem Taken.perm {E : BE} {K : BK} {es : Array MapEntry} {seen : Array Nat} {ks : List Nat} (h : Taken E es (fun _ => true) seen ks) (hE : Ents E K es) (h0 : (leftOf es seen).size = 0) : ks.Perm E.sm := by
 refine (List.perm_ext_iff_of_nodup h.nodup hE.nodup).2 fun k => ?_
 rw [h.mem]
 constructor
 ·rintro ⟨h1, _⟩; exact h1
 ·intro h1
  obtain ⟨e, he, h3, _⟩ := hE.to h1
  exact ⟨h1, rfl, e, he, h3, all_seen es seen h0 e he⟩
theorem cnt_perm {s : BS} {l ks : List Nat} {a b c d : Nat} (h : CntIs s ks a b c d) (hp : ks.Perm l) : #[IN a, IN b, IN c, IN d] = cntV s l := by
 obtain ⟨rfl, rfl, rfl, rfl⟩ := h
 rw [hp.countP_eq, hp.countP_eq, hp.countP_eq, hp.countP_eq]

def RetCnt (v : Array Value) (w : World) (e : Ending) (w' : World) : Prop := e = .returned (.agg v) ∧ Ext w w'
theorem in_succ (a : Nat) : (.int .i64 ((a : Int) + 1) : Value) = IN (a + 1) := by
 unfold IN
 push_cast
 rfl

theorem ext_setZ {w w' : World} (h : Ext w w') {b : Nat} (k : Nat) (v : Value) (hb : w.heap.size ≤ b) : Ext w (w'.setCell ⟨b, k, none⟩ v) := h.trans (Only.set (p := fun i => i = b) v rfl) (fun _ _ h => h) (fun i hi e => by omega)

set_option maxRecDepth 100000 in
set_option maxHeartbeats 8000000 in
theorem countB_any (w : World) (P : Nat → Addr) (base : Nat) (E : BE) (K : BK) (s : BS) (h : BldAt w P base E K s) (hr : E.sm.Pairwise fun x y => x < y) (hl : E.sm.length ≤ 1000) (hI : BInv E s) :
  Calls Tryz.prog 135 #[PTR K.b] w (RetCnt (cntV s E.sm) w) := by
 have hx2 : Ext w ((w.alloc (.cells #[.int .i64 0, .int .i64 0, .int .i64 0, .int .i64 0] 70 (0, 0))).alloc (.cells #[.int .i64 0, .int .i64 0, .int .i64 0, .int .i64 0] 70 (0, 0))) := (Only.alloc _ _ _).thenAlloc _
 have hsz : ((w.alloc (.cells #[.int .i64 0, .int .i64 0, .int .i64 0, .int .i64 0] 70 (0, 0))).alloc (.cells #[.int .i64 0, .int .i64 0, .int .i64 0, .int .i64 0] 70 (0, 0))).heap.size = w.heap.size + 2 := by simp
 obtain ⟨es, clock, hb, hpm, _, _, hst⟩ := h.steps
 have c1 := ((h.ext hx2).cell 1).trans (rfl : _ = some (Value.map (some K.lb)))
 have hrg := run_range_map (P := Tryz.prog) _ 184 3 187 K.lb es clock Tryz.underlying184 (hx2.heapOf hb (fun h => h))
 have HEN : Hid (Ents E K es) := Lib.hid ⟨hpm, hr.imp fun h => Nat.ne_of_lt h⟩
 have HB := Lib.hid hb
 have HS := Lib.hid hst
 have HL := Lib.hid hl
 have HBL := Lib.hid h
 have HI := Lib.hid hI
 have hlb := lt_of_heap hb
 have HMR : Hid (K.lb ≠ w.heap.size + 2) := Lib.hid (by omega)
 have HX3 : Hid (Ext w (((w.alloc (.cells #[.int .i64 0, .int .i64 0, .int .i64 0, .int .i64 0] 70 (0, 0))).alloc (.cells #[.int .i64 0, .int .i64 0, .int .i64 0, .int .i64 0] 70 (0, 0))).alloc (.mapIter (some K.lb) clock #[] clock))) := Lib.hid (hx2.thenAlloc _)
 have HRC3 : Hid ((((w.alloc (.cells #[.int .i64 0, .int .i64 0, .int .i64 0, .int .i64 0] 70 (0, 0))).alloc (.cells #[.int .i64 0, .int .i64 0, .int .i64 0, .int .i64 0] 70 (0, 0))).alloc (.mapIter (some K.lb) clock #[] clock)).heap[w.heap.size]? = some (.cells #[.int .i64 0, .int .i64 0, .int .i64 0, .int .i64 0] 70 (0, 0))) := Lib.hid (((Only.alloc (fun _ => False) _ _).thenAlloc _).heapOf (MapKept.heap_alloc w _).1 (fun h => h))
 have HCC3 : Hid ((((w.alloc (.cells #[.int .i64 0, .int .i64 0, .int .i64 0, .int .i64 0] 70 (0, 0))).alloc (.cells #[.int .i64 0, .int .i64 0, .int .i64 0, .int .i64 0] 70 (0, 0))).alloc (.mapIter (some K.lb) clock #[] clock)).heap[w.heap.size + 1]? = some (.cells #[.int .i64 0, .int .i64 0, .int .i64 0, .int .i64 0] 70 (0, 0))) := Lib.hid (by
  have h := (Only.alloc (fun _ => False) _ (.mapIter (some K.lb) clock #[] clock)).heapOf (MapKept.heap_alloc (w.alloc (.cells #[.int .i64 0, .int .i64 0, .int .i64 0, .int .i64 0] 70 (0, 0))) (.cells #[.int .i64 0, .int .i64 0, .int .i64 0, .int .i64 0] 70 (0, 0))).1 (fun h => h)
  simpa using h)
 have HIT3 : Hid ((((w.alloc (.cells #[.int .i64 0, .int .i64 0, .int .i64 0, .int .i64 0] 70 (0, 0))).alloc (.cells #[.int .i64 0, .int .i64 0, .int .i64 0, .int .i64 0] 70 (0, 0))).alloc (.mapIter (some K.lb) clock #[] clock)).heap[w.heap.size + 2]? = some (.mapIter (some K.lb) clock #[] clock)) := Lib.hid (by
  have h := (MapKept.heap_alloc ((w.alloc (.cells #[.int .i64 0, .int .i64 0, .int .i64 0, .int .i64 0] 70 (0, 0))).alloc (.cells #[.int .i64 0, .int .i64 0, .int .i64 0, .int .i64 0] 70 (0, 0))) (.mapIter (some K.lb) clock #[] clock)).1
  simpa using h)
 have HSZ := Lib.hid hsz
 clear h hb hpm hst hr hl hI hx2 hsz hlb
 go_enter Tryz.func135, Tryz.ntmps135
 go_wp2_with fail
 go_loopw [5] (fun _ w' => ∃ (seen : Array Nat) (ks : List Nat) (a b c d : Nat), Hid (Ext w w') ∧ Hid (w'.heap[w.heap.size + 2]? = some (.mapIter (some K.lb) clock seen clock)) ∧ Hid (w'.heap[w.heap.size + 1]? = some (.cells #[IN a, IN b, IN c, IN d] 70 (0, 0))) ∧ Hid (w'.heap[w.heap.size]? = some (.cells #[.int .i64 0, .int .i64 0, .int .i64 0, .int .i64 0] 70 (0, 0))) ∧ Hid (Taken E es (fun _ => true) seen ks) ∧ Hid (CntIs s ks a b c d)) (fun _ w' => (leftOf es (w'.iterSeen (w.heap.size + 2))).size)
 case atStart => exact ⟨#[], [], 0, 0, 0, 0, HX3, HIT3, HCC3, HRC3, Lib.hid (Taken.start E es (fun _ => true)), Lib.hid ⟨rfl, rfl, rfl, rfl⟩⟩
 case round =>
  clear hrg c1 HX3 HIT3 HCC3 HRC3
  obtain ⟨seen, ks, a, b, c, d, HX, HIT, HCC, HRC, HT, HCN⟩ := hrel
  have law := next_only (P := Tryz.prog) (ty := 0) HIT.out (HX.out.heapOf HB.out (fun h => h)) HMR.out HS.out
  rcases law with ⟨h0, hrun⟩ | ⟨e, he, w3, ho3, hr3, hrun, hen⟩
  ·have HEND := Lib.hid (cnt_perm HCN.out (HT.out.perm HEN.out h0))
   have q0 := (cell_of_heap HCC.out 0).trans (rfl : _ = some (IN a))
   have q1 := (cell_of_heap HCC.out 1).trans (rfl : _ = some (IN b))
   have q2 := (cell_of_heap HCC.out 2).trans (rfl : _ = some (IN c))
   have q3 := (cell_of_heap HCC.out 3).trans (rfl : _ = some (IN d))
   have f0 := free_of_heap HRC.out 0
   have f1 := free_of_heap HRC.out 1
   have f2 := free_of_heap HRC.out 2
   have f3 := free_of_heap HRC.out 3
   have r0 := (cell_of_heap HRC.out 0).trans (rfl : _ = some (Value.int .i64 0))
   have r1 := (cell_of_heap HRC.out 1).trans (rfl : _ = some (Value.int .i64 0))
   have r2 := (cell_of_heap HRC.out 2).trans (rfl : _ = some (Value.int .i64 0))
   have r3 := (cell_of_heap HRC.out 3).trans (rfl : _ = some (Value.int .i64 0))
   clear h0
   go_wp2_with fail
   refine bodyPost_ret (v := .agg (cntV s E.sm)) ?_ rfl ⟨rfl, ext_setZ (ext_setZ (ext_setZ (ext_setZ HX.out _ _ (Nat.le_refl _)) _ _ (Nat.le_refl _)) _ _ (Nat.le_refl _)) _ _ (Nat.le_refl _)⟩
   have hres : Tryz.f135.results = #[.cell 2 70] := by kernel_rfl
   have h1 := heap_setCell_same HRC.out 0 (IN a)
   have h2 := heap_setCell_same h1 1 (IN b)
   have h3 := heap_setCell_same h2 2 (IN c)
   have h4 := heap_setCell_same h3 3 (IN d)
   have e0 := (cell_of_heap h4 0).trans (rfl : _ = some (IN a))
   have e1 := (cell_of_heap h4 1).trans (rfl : _ = some (IN b))
   have e2 := (cell_of_heap h4 2).trans (rfl : _ = some (IN c))
   have e3 := (cell_of_heap h4 3).trans (rfl : _ = some (IN d))
   rw [← HEND.out]
   clear h1 h2 h3 h4 q0 q1 q2 q3 f0 f1 f2 f3 r0 r1 r2 r3
   simp only [results, hres]
   go_simp
  ·obtain ⟨k, hks, hek, hev⟩ := HEN.out.of (mem_left he).1
   rw [hek, hev] at hrun hen
   have HE2 := Lib.hid he
   have HX3 : Hid (Ext w w3) := Lib.hid (HX.out.trans ho3 (fun _ _ h => h) (fun i hi e => by omega))
   have HIT3 := Lib.hid hr3
   have hcc3 := ho3.heapOf HCC.out (by omega)
   have HRC3 := Lib.hid (ho3.heapOf HRC.out (by omega))
   have HT3 := Lib.hid (HT.out.push HEN.out HS.out he hks hek rfl)
   have hcn3 := cnt_snoc (k := k) HCN.out
   have hle := cnt_le HCN.out
   have hlen : ks.length ≤ 1000 := by have := HT.out.len; have := HL.out; omega
   have t4 := (HX3.out.cellOf (HBL.out.stepCell hks 4) (fun h => h)).trans (rfl : _ = some (IN (s.st k)))
   have t5 := (HX3.out.cellOf (HBL.out.stepCell hks 5) (fun h => h)).trans (rfl : _ = some (Value.bool (s.st k == 2 && s.hit k)))
   have q0 := (cell_of_heap hcc3 0).trans (rfl : _ = some (IN a))
   have q1 := (cell_of_heap hcc3 1).trans (rfl : _ = some (IN b))
   have q2 := (cell_of_heap hcc3 2).trans (rfl : _ = some (IN c))
   have q3 := (cell_of_heap hcc3 3).trans (rfl : _ = some (IN d))
   have g0 := free_of_heap hcc3 0
   have g1 := free_of_heap hcc3 1
   have g2 := free_of_heap hcc3 2
   have g3 := free_of_heap hcc3 3
   have hz0 : (a : Int) ≤ 1000 := by omega
   have hz1 : (b : Int) ≤ 1000 := by omega
   have hz2 : (c : Int) ≤ 1000 := by omega
   have hz3 : (d : Int) ≤ 1000 := by omega
   have hn4 := HI.out.rng k hks
   unfold cRan cHit cFail cLeft at hcn3
   have HCC3 := Lib.hid hcc3
   generalize s.st k = n at t4 t5 hcn3 hn4
   generalize s.hit k = hh at t5 hcn3
   clear he hek hev hks hr3 ho3 hcc3 hle hlen
   have hcs : (n = 2 ∧ hh = true) ∨ (n = 2 ∧ hh = false) ∨ n = 3 ∨ n = 4 ∨ n = 1 := by
    cases hh <;> simp <;> omega
   clear hn4
   rcases hcs with ⟨rfl, rfl⟩ | ⟨rfl, rfl⟩ | rfl | rfl | rfl
   ·have HCN3 : Hid (CntIs s (ks ++ [k]) a (b + 1) c d) := Lib.hid (by simpa using hcn3)
    clear hcn3
    have HCC4 : Hid ((w3.setCell ⟨w.heap.size + 1, 1, none⟩ (.int .i64 ((b : Int) + 1))).heap[w.heap.size + 1]? = some (.cells #[IN a, IN (b + 1), IN c, IN d] 70 (0, 0))) := Lib.hid ((heap_setCell_same HCC3.out 1 _).trans (by rw [in_succ]; rfl))
    have hs : Only (fun i => i = w.heap.size + 1) w3 (w3.setCell ⟨w.heap.size + 1, 1, none⟩ (.int .i64 ((b : Int) + 1))) := Only.set _ rfl
    have HRC4 := Lib.hid (hs.heapOf HRC3.out (by omega))
    have HIT4 := Lib.hid (hs.heapOf HIT3.out (by omega))
    have HX4 : Hid (Ext w (w3.setCell ⟨w.heap.size + 1, 1, none⟩ (.int .i64 ((b : Int) + 1)))) := Lib.hid (HX3.out.trans hs (fun _ _ h => h) (fun i hi e => by omega))
    clear hs
    clear HCC3 HRC3 HX3
    go_wp2_with fail
    go_roundw
    case rel => exact ⟨_, _, _, _, _, _, HX4, HIT4, HCC4, HRC4, HT3, HCN3⟩
    case measure =>
     rw [iterSeen_of HIT4.out, iterSeen_of HIT.out]
     exact left_shrinks es seen _ HE2.out
   ·have HCN3 : Hid (CntIs s (ks ++ [k]) (a + 1) b c d) := Lib.hid (by simpa using hcn3)
    clear hcn3
    have HCC4 : Hid ((w3.setCell ⟨w.heap.size + 1, 0, none⟩ (.int .i64 ((a : Int) + 1))).heap[w.heap.size + 1]? = some (.cells #[IN (a + 1), IN b, IN c, IN d] 70 (0, 0))) := Lib.hid ((heap_setCell_same HCC3.out 0 _).trans (by rw [in_succ]; rfl))
    have hs : Only (fun i => i = w.heap.size + 1) w3 (w3.setCell ⟨w.heap.size + 1, 0, none⟩ (.int .i64 ((a : Int) + 1))) := Only.set _ rfl
    have HRC4 := Lib.hid (hs.heapOf HRC3.out (by omega))
    have HIT4 := Lib.hid (hs.heapOf HIT3.out (by omega))
    have HX4 : Hid (Ext w (w3.setCell ⟨w.heap.size + 1, 0, none⟩ (.int .i64 ((a : Int) + 1)))) := Lib.hid (HX3.out.trans hs (fun _ _ h => h) (fun i hi e => by omega))
    clear hs
    clear HCC3 HRC3 HX3
    go_wp2_with fail
    go_roundw
    case rel => exact ⟨_, _, _, _, _, _, HX4, HIT4, HCC4, HRC4, HT3, HCN3⟩
    case measure =>
     rw [iterSeen_of HIT4.out, iterSeen_of HIT.out]
     exact left_shrinks es seen _ HE2.out
   ·have HCN3 : Hid (CntIs s (ks ++ [k]) a b (c + 1) d) := Lib.hid (by simpa using hcn3)
    clear hcn3
    have HCC4 : Hid ((w3.setCell ⟨w.heap.size + 1, 2, none⟩ (.int .i64 ((c : Int) + 1))).heap[w.heap.size + 1]? = some (.cells #[IN a, IN b, IN (c + 1), IN d] 70 (0, 0))) := Lib.hid ((heap_setCell_same HCC3.out 2 _).trans (by rw [in_succ]; rfl))
    have hs : Only (fun i => i = w.heap.size + 1) w3 (w3.setCell ⟨w.heap.size + 1, 2, none⟩ (.int .i64 ((c : Int) + 1))) := Only.set _ rfl
    have HRC4 := Lib.hid (hs.heapOf HRC3.out (by omega))
    have HIT4 := Lib.hid (hs.heapOf HIT3.out (by omega))
    have HX4 : Hid (Ext w (w3.setCell ⟨w.heap.size + 1, 2, none⟩ (.int .i64 ((c : Int) + 1)))) := Lib.hid (HX3.out.trans hs (fun _ _ h => h) (fun i hi e => by omega))
    clear hs
    clear HCC3 HRC3 HX3
    go_wp2_with fail
    go_roundw
    case rel => exact ⟨_, _, _, _, _, _, HX4, HIT4, HCC4, HRC4, HT3, HCN3⟩
    case measure =>
     rw [iterSeen_of HIT4.out, iterSeen_of HIT.out]
     exact left_shrinks es seen _ HE2.out
   ·have HCN3 : Hid (CntIs s (ks ++ [k]) a b c (d + 1)) := Lib.hid (by simpa using hcn3)
    clear hcn3
    have HCC4 : Hid ((w3.setCell ⟨w.heap.size + 1, 3, none⟩ (.int .i64 ((d : Int) + 1))).heap[w.heap.size + 1]? = some (.cells #[IN a, IN b, IN c, IN (d + 1)] 70 (0, 0))) := Lib.hid ((heap_setCell_same HCC3.out 3 _).trans (by rw [in_succ]; rfl))
    have hs : Only (fun i => i = w.heap.size + 1) w3 (w3.setCell ⟨w.heap.size + 1, 3, none⟩ (.int .i64 ((d : Int) + 1))) := Only.set _ rfl
    have HRC4 := Lib.hid (hs.heapOf HRC3.out (by omega))
    have HIT4 := Lib.hid (hs.heapOf HIT3.out (by omega))
    have HX4 : Hid (Ext w (w3.setCell ⟨w.heap.size + 1, 3, none⟩ (.int .i64 ((d : Int) + 1)))) := Lib.hid (HX3.out.trans hs (fun _ _ h => h) (fun i hi e => by omega))
    clear hs
    clear HCC3 HRC3 HX3
    go_wp2_with fail
    go_roundw
    case rel => exact ⟨_, _, _, _, _, _, HX4, HIT4, HCC4, HRC4, HT3, HCN3⟩
    case measure =>
     rw [iterSeen_of HIT4.out, iterSeen_of HIT.out]
     exact left_shrinks es seen _ HE2.out
   ·have HCN3 : Hid (CntIs s (ks ++ [k]) a b c d) := Lib.hid (by simpa using hcn3)
    clear hcn3
    have HCC4 := HCC3
    have HRC4 := HRC3
    have HIT4 := HIT3
    have HX4 := HX3
    clear HCC3 HRC3 HX3
    go_wp2_with fail
    go_roundw
    case rel => exact ⟨_, _, _, _, _, _, HX4, HIT4, HCC4, HRC4, HT3, HCN3⟩
    case measure =>
     rw [iterSeen_of HIT4.out, iterSeen_of HIT.out]
     exact left_shrinks es seen _ HE2.out
end Go.Proofs.YtnmhaipjfpongacGreatDoor

/- Texts of this seat laid together for one claim: I4, I6. No condition of its own: what each proves stands with its theorems. -/
import Derived.Deep.RegionHeld3
import Derived.Test.YtnmhaipjfpongabGreatDoorPS45
import Derived.Test.YtnmhaipjfpongabGreatDoorPS12
import Derived.Test.YtnmhaipjfpongabGreatDoorPS35
import Derived.Test.YtnmhaipjfpongabGreatDoorPS38
namespace Go.Proofs.YtnmhaipjfpongabGreatDoor
open Go.ChangeShapes Go.WideShapes Go.ChangeAt Go.RowKit

def RetLF (fs : FL) (w : World) (e : Ending) (w' : World) : Prop := ∃ r : Bool, e = .returned (.bool r) ∧ (r = false → fs.length ≤ 30 ∧ ∀ q ∈ fs, q.1.length ≤ 100) ∧ w = w'
def treeOfF (fs : FL) : FL := fs.foldl (fun L q => putT L q.1 q.2) []
theorem treeOfF_step {fs : FL} {j : Nat} {q : B × B} (h : fs[j]? = some q) : treeOfF (fs.take (j + 1)) = putT (treeOfF (fs.take j)) q.1 q.2 := by
 unfold treeOfF
 rw [List.take_add_one, h, Option.toList_some, List.foldl_append]
 rfl
structure FTree (L : FL) : Prop where
 fits : Fits L
 lens : ∀ q ∈ L, q.1.length ≤ 1000
theorem FTree.nil : FTree [] := ⟨Fits.nil, by simp⟩
theorem FTree.put {L : FL} (h : FTree L) (p x : B) (hp : p.length ≤ 1000) : FTree (putT L p x) := ⟨h.fits.put p x, lens_put h.fits.rising h.lens p x hp⟩
theorem FTree.bytes {L : FL} (h : FTree L) : ∀ p s, L.lookup p = some s → s.length ≤ 2000 := fun _ _ hl => h.fits.bytes _ (mem_of_lookup hl)
theorem ftree_of {fs : FL} (h : ∀ q ∈ fs, q.1.length ≤ 100) : ∀ j, FTree (treeOfF (fs.take j))
 | 0 => FTree.nil
 | j + 1 => by
  cases hq : fs[j]? with
  | none =>
   have : fs.take (j + 1) = fs.take j := by rw [List.take_add_one, hq]; simp
   rw [this]; exact ftree_of h j
  | some q =>
   rw [treeOfF_step hq]
   exact (ftree_of h j).put _ _ (by have := h q (List.mem_of_getElem? hq); omega)

section
variable {w0 wr w' : World} {b mb m : Nat} {slv : Value} {LT LM : FL}
theorem TT.putF {P : Nat → Addr} (J : TT w0 wr b mb m slv LT LM) (hf : FTree LT) (hs : Errs w0 P [1, 3, 6, 7]) (hm : HasMax w0) (p x : B) (hp : p.length ≤ 1000) :
  Calls Tryz.prog 52 #[.pointer (some ⟨b, 0, none⟩), S p, S x] wr fun r w' => r = .returned (errC P (putCode LT p x)) ∧ TT w0 w' b mb m slv (putT LT p x) LM :=
 (treePut_any wr P b mb LT p x J.tree hf.fits (hs.ext J.ext) (hm.ext J.ext) (by omega) (fun q hq => by have := hf.lens q hq; omega)).mono fun _ _ ⟨h1, h2, h3⟩ => ⟨h1, J.treeStep h2 h3⟩
theorem TT.putMF (J : TT w0 wr b mb m slv LT LM) (hf : FTree LM) (p x : B) (hp : p.length ≤ 1000) :
  Calls Tryz.prog 88 #[.pointer (some ⟨m, 0, none⟩), S p, S x] wr fun r w' => ∃ slv', r = .returned (I (putCode LM p x)) ∧ TT w0 w' b mb m slv' LT (putT LM p x) :=
 (putM_any wr w0.heap.size m slv LM p x J.model hf.fits.rising (by have := hf.fits.few; omega) (by omega) J.ext.size).mono fun _ _ h => by
  obtain ⟨slv', h1, h2, _⟩ := J.modelStep h
  exact ⟨slv', h1, h2⟩
end

def RetFT (fs : FL) (w : World) (e : Ending) (w' : World) : Prop := ∃ (b mb m : Nat) (slv : Value), e = .returned (.tuple #[.pointer (some ⟨b, 0, none⟩), .pointer (some ⟨m, 0, none⟩)]) ∧ TT w w' b mb m slv (treeOfF fs) (treeOfF fs)

set_option maxRecDepth 100000 in
set_option maxHeartbeats 2000000 in
theorem longFiles3_any (w : World) (v : Value) (fs : FL) (hv : RdS 2 encF w v fs) : Calls Tryz.prog 16 #[v] w (RetLF fs w) := by
 obtain ⟨a, cap, rfl, _, hm1, hc⟩ := hv
 have hl1 : fs.length ≤ 9223372036854775807 := by unfold maxLen at hm1; omega
 have HC := Lib.hid hc
 clear hc hm1
 by_cases hmany : 30 < fs.length
 ·have hz : (30 : Int) < (fs.length : Int) := by omega
  clear hmany
  go_enter Tryz.func16, Tryz.ntmps16
  go_wp2_with fail
  go_ret
  exact ⟨true, rfl, (fun h => by cases h), rfl⟩
 ·have hz : ¬ (30 : Int) < (fs.length : Int) := by omega
  have HM : Hid (fs.length ≤ 30) := Lib.hid (by omega)
  clear hmany
  go_enter Tryz.func16, Tryz.ntmps16
  go_wp2_with fail
  go_loop [3, 4] (fun n i => ∃ (j : Nat) (nn : Int), j ≤ fs.length ∧ i = .int .i64 j ∧ n = .int .i64 nn ∧ 0 ≤ nn ∧ nn ≤ 4000 ∧ Hid (∀ i (q : B × B), i < j → fs[i]? = some q → q.1.length ≤ 100)) (fun _ i => fs.length - (intOf i).toNat)
  case atStart => exact ⟨0, 0, Nat.zero_le _, rfl, rfl, by omega, by omega, Lib.hid (fun i q h => absurd h (Nat.not_lt_zero _))⟩
  case round =>
   obtain ⟨j, nn, hj, rfl, rfl, hn0, hn1, HB⟩ := hrel
   by_cases hlt : j < fs.length
   ·have hltz : (j : Int) < (fs.length : Int) := by omega
    have hj0 : (0 : Int) ≤ (j : Int) := by omega
    obtain ⟨b, off, rfl, hcell⟩ := HC.out (by intro h; rw [h] at hlt; simp at hlt)
    obtain ⟨⟨p, x⟩, hq⟩ : ∃ y, fs[j]? = some y := ⟨_, List.getElem?_eq_getElem hlt⟩
    have c0 : w.cell? ⟨b, off + j * 2, none⟩ = some (S p) := hcell j _ hq 0 _ rfl
    have c1 : w.cell? ⟨b, off + j * 2 + 1, none⟩ = some (S x) := hcell j _ hq 1 _ rfl
    have HQ := Lib.hid hq
    clear hcell hq
    by_cases h1 : (4000 : Int) < (x.length : Int)
    ·go_wp2_with fail
     go_ret
     exact ⟨true, rfl, (fun h => by cases h), rfl⟩
    by_cases h2 : (100 : Int) < (p.length : Int)
    ·go_wp2_with fail
     go_ret
     exact ⟨true, rfl, (fun h => by cases h), rfl⟩
    by_cases h3 : (4000 : Int) < nn + (x.length : Int)
    ·go_wp2_with fail
     go_ret
     exact ⟨true, rfl, (fun h => by cases h), rfl⟩
    go_wp2_with fail
    go_round
    case rel => exact ⟨j + 1, nn + x.length, by omega, by go_num, rfl, by omega, by omega, Lib.hid (fun i q hi hq => by
     rcases Nat.lt_succ_iff_lt_or_eq.1 hi with h | rfl
     ·exact HB.out i q h hq
     ·rw [HQ.out] at hq; cases hq; exact (by omega : p.length ≤ 100))⟩
    case measure => simp [intOf]; omega
   ·have hltz : ¬ (j : Int) < (fs.length : Int) := by omega
    go_wp2_with fail
    go_ret
    refine ⟨false, rfl, fun _ => ⟨HM.out, fun q hq => ?_⟩, rfl⟩
    obtain ⟨i, hi⟩ := List.getElem?_of_mem hq
    exact HB.out i q (by have := (List.getElem?_eq_some_iff.1 hi).1; omega) hi

set_option maxRecDepth 100000 in
set_option maxHeartbeats 6000000 in
theorem fileTree3_any (w : World) (P : Nat → Addr) (v : Value) (fs : FL) (hv : RdS 2 encF w v fs) (hl : fs.length ≤ 1000) (hp : ∀ q ∈ fs, q.1.length ≤ 100) (hs : Errs w P [1, 3, 6, 7]) (hm : HasMax w) :
  Calls Tryz.prog 19 #[v] w (RetFT fs w) := by
 obtain ⟨a, cap, rfl, _, _, hc⟩ := hv
 have HC := Lib.hid hc
 have HP := Lib.hid hp
 have HS := Lib.hid hs
 have HMX := Lib.hid hm
 have HF := Lib.hid (ftree_of hp)
 clear hc hp hs hm
 go_enter Tryz.func19, Tryz.ntmps19
 go_wp2_with fail
 refine (treeNew_any w).mono ?_
 rintro e w2 ⟨rfl, ht, ho, hsz⟩
 have HT := Lib.hid ht
 have HO := Lib.hid ho
 have HZ := Lib.hid hsz
 clear ht ho hsz
 have HJ : Hid (TT w (w2.alloc (.cells #[.slice none 0 0] 128 (0, 0))) (w.heap.size + 1) w.heap.size w2.heap.size (.slice none 0 0) [] []) := Lib.hid
  ⟨HO.out.thenAlloc _, Nat.le_succ _, Nat.le_refl _, HO.out.size, HT.out.ext (Only.alloc _ _ _), ⟨(MapKept.heap_alloc w2 _).1, World.ownsRow_nil _ _ _ _⟩⟩
 obtain ⟨b, hb⟩ : ∃ b, b = w.heap.size + 1 := ⟨_, rfl⟩
 obtain ⟨mb, hmb⟩ : ∃ mb, mb = w.heap.size := ⟨_, rfl⟩
 obtain ⟨m, hmm⟩ : ∃ m, m = w2.heap.size := ⟨_, rfl⟩
 rw [← hb, ← hmb, ← hmm] at HJ
 rw [← hb]
 clear hb hmb HT HO HZ
 go_wp2_with fail
 rw [← hmm]
 generalize (w2.alloc (.cells #[.slice none 0 0] 128 (0, 0))) = w3 at HJ ⊢
 clear hmm
 go_loopw [6] (fun i wr => ∃ (j : Nat) (slv : Value), j ≤ fs.length ∧ i = .int .i64 j ∧ Hid (TT w wr b mb m slv (treeOfF (fs.take j)) (treeOfF (fs.take j)))) (fun i _ => fs.length - (intOf i).toNat)
 case atStart => exact ⟨0, _, Nat.zero_le _, rfl, HJ⟩
 case round =>
  clear HJ
  obtain ⟨j, slv, hj, rfl, HI⟩ := hrel
  by_cases hlt : j < fs.length
  ·have hltz : (j : Int) < (fs.length : Int) := by omega
   have hj0 : (0 : Int) ≤ (j : Int) := by omega
   obtain ⟨b0, off0, rfl, hcell⟩ := HC.out (by intro h; rw [h] at hlt; simp at hlt)
   obtain ⟨⟨p, x⟩, hq⟩ : ∃ y, fs[j]? = some y := ⟨_, List.getElem?_eq_getElem hlt⟩
   have HD1 : Hid (w.cell? ⟨b0, off0 + j * 2, none⟩ = some (S p)) := Lib.hid (hcell j _ hq 0 _ rfl)
   have HD2 : Hid (w.cell? ⟨b0, off0 + j * 2 + 1, none⟩ = some (S x)) := Lib.hid (hcell j _ hq 1 _ rfl)
   have d1 := HI.out.ext.cellOf HD1.out (fun h => h)
   have d2 := HI.out.ext.cellOf HD2.out (fun h => h)
   have HPL : Hid (p.length ≤ 1000) := Lib.hid (by have := HP.out _ (List.mem_of_getElem? hq); simp only at this; omega)
   have HST := Lib.hid (treeOfF_step hq)
   have HFJ := Lib.hid (HF.out j)
   clear hcell hq
   generalize treeOfF (fs.take j) = L at HI HST HFJ
   go_wp2_with fail
   go_region_held3 (fun w' => w'.cell? ⟨b0, off0 + j * 2, none⟩ = some (S p) ∧ w'.cell? ⟨b0, off0 + j * 2 + 1, none⟩ = some (S x)) (first | exact ⟨HT.out.ext.cellOf HD1.out (fun h => h), HT.out.ext.cellOf HD2.out (fun h => h)⟩ | exact ⟨d1, d2⟩ | go_keep)
    ((go_at_call 52; refine (TT.putF (w0 := w) (b := b) (mb := mb) (m := m) (slv := slv) (LT := L) (LM := L) (P := P) (by first | exact HI.out | exact HI.out.later (Only.drew _ _) | exact HI.out.later (Only.drewN _ _ _)) HFJ.out HS.out HMX.out p x HPL.out).mono ?_; rintro e w5 ⟨rfl, hT⟩; have HT := Lib.hid hT; clear hT))
   all_goals
    have e1 := HT.out.ext.cellOf HD1.out (fun h => h)
    have e2 := HT.out.ext.cellOf HD2.out (fun h => h)
    clear d1 d2
    go_wp2_with fail
    go_region_held3 (fun w' => w'.cell? ⟨b0, off0 + j * 2, none⟩ = some (S p) ∧ w'.cell? ⟨b0, off0 + j * 2 + 1, none⟩ = some (S x)) (first | exact ⟨HT2.out.ext.cellOf HD1.out (fun h => h), HT2.out.ext.cellOf HD2.out (fun h => h)⟩ | exact ⟨e1, e2⟩ | go_keep)
     ((go_at_call 88; refine (TT.putMF (w0 := w) (b := b) (mb := mb) (m := m) (slv := slv) (LT := putT L p x) (LM := L) (by first | exact HT.out | exact HT.out.later (Only.drew _ _) | exact HT.out.later (Only.drewN _ _ _)) HFJ.out p x HPL.out).mono ?_; rintro e w6 ⟨slv2, rfl, hT⟩; have HT2 := Lib.hid hT; clear hT))
    all_goals
     go_wp2_with fail
     go_roundw
     case rel => exact ⟨j + 1, _, by omega, by go_num, by rw [HST.out]; exact HT2⟩
     case measure => simp [intOf]; omega
  ·have hltz : ¬ (j : Int) < (fs.length : Int) := by omega
   rw [List.take_of_length_le (by omega)] at HI
   go_wp2_with fail
   go_ret2
   exact ⟨_, _, _, _, rfl, HI.out⟩
end Go.Proofs.YtnmhaipjfpongabGreatDoor

namespace Go.Proofs.YtnmhaipjfpongabGreatDoor
open Go.ChangeShapes Go.WideShapes Go.ChangeAt Go.RowKit

structure PartAt (w wr : World) (v : Value) (ps : List (Rule × Option Addr × Nat × Nat)) : Prop where
 ext : Ext w wr
 row : wr.ownsRow w.heap.size 62 4 v ps.length (ps.flatMap encR)
 texts : ∀ p ∈ ps, Rd S w (SV p.2) p.1.ins
theorem PartAt.nil (w : World) : PartAt w w (.slice none 0 0) [] := ⟨Only.refl _ _, World.ownsRow_nil _ _ _ _, by simp⟩
theorem PartAt.grow {w wr w' : World} {v : Value} {ps : List (Rule × Option Addr × Nat × Nat)} (h : PartAt w wr v ps) (ho : Ext wr w') : PartAt w w' v ps := ⟨h.ext.then ho, ho.row h.row (fun _ _ h => h), h.texts⟩
theorem PartAt.push {w wr w2 : World} {v v' : Value} {u : Option Addr × Nat × Nat} {ps : List (Rule × Option Addr × Nat × Nat)} {r : Rule} (h : PartAt w wr v ps) (hu : Rd S w (SV u) r.ins) (hr : w2.ownsRow w.heap.size 62 4 v' (ps.length + 1) ((ps ++ [(r, u)]).flatMap encR)) (hg : wr.grownBy w2 v.ownBlock) : PartAt w w2 v' (ps ++ [(r, u)]) := by
 have ho : Only (fun b => v.ownBlock = some b) wr w2 := Only.of_grown hg
 refine ⟨h.ext.trans ho (fun _ _ h => h) (fun i hi e => by have := (h.row.lt i e).1; omega), by rw [List.length_append]; exact hr, fun p hp => ?_⟩
 rcases List.mem_append.1 hp with hp | hp
 ·exact h.texts p hp
 ·rw [List.mem_singleton] at hp
  subst hp
  exact hu
theorem PartAt.rd {w wr : World} {v : Value} {ps : List (Rule × Option Addr × Nat × Nat)} {l : List Rule} (h : PartAt w wr v ps) (hl : ps.map Prod.fst = l) : RdR wr v l := by
 have hs := RdS.of_row encR_len h.row
 obtain ⟨a, cap, h1, h2, h3, h4⟩ := hs
 have hlen : ps.length = l.length := by rw [← hl, List.length_map]
 refine ⟨a, cap, by rw [← hlen]; exact h1, by omega, h3, fun hne => ?_⟩
 obtain ⟨b, off, h5, h6⟩ := h4 (by intro e; rw [e] at hl; exact hne hl.symm)
 refine ⟨b, off, h5, fun i r hi => ?_⟩
 rw [← hl, List.getElem?_map] at hi
 obtain ⟨p, hp, rfl⟩ := Option.map_eq_some_iff.1 hi
 refine ⟨SV p.2, (h.texts p (List.mem_of_getElem? hp)).ext h.ext, ?_, ?_, ?_, ?_⟩
 ·have := h6 i p hp 0 _ rfl; rwa [Nat.add_zero] at this
 ·exact h6 i p hp 1 _ rfl
 ·exact h6 i p hp 2 _ rfl
 ·exact h6 i p hp 3 _ rfl
end Go.Proofs.YtnmhaipjfpongabGreatDoor

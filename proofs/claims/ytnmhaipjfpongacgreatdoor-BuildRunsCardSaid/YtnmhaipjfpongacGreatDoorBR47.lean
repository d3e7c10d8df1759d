/- Texts of this seat laid together for one claim: I4, I6, Z15. No condition of its own: what each proves stands with its theorems. -/
import Derived.Deep.RegionHeld3
import Derived.Test.YtnmhaipjfpongacGreatDoorBR35
import Derived.Test.YtnmhaipjfpongacGreatDoorBR12
import Derived.Test.YtnmhaipjfpongacGreatDoorBR41
import Derived.Test.YtnmhaipjfpongacGreatDoorBR26
import Derived.Test.YtnmhaipjfpongacGreatDoorBR31
import Derived.Test.YtnmhaipjfpongacGreatDoorBR33
import Derived.Test.YtnmhaipjfpongacGreatDoorBR30
namespace Go.Proofs.YtnmhaipjfpongacGreatDoor
open Go.ChangeShapes Go.WideShapes Go.ChangeAt Go.RowKit

def RetLF (fs : FL) (w : World) (e : Ending) (w' : World) : Prop := ∃ r : Bool, e = .returned (.bool r) ∧ (r = false → fs.length ≤ 30 ∧ ∀ q ∈ fs, q.1.length ≤ 100) ∧ w = w'
def treeOfF (fs : FL) : FL := fs.foldl (fun L q => putT L q.1 q.2) []
theorem treeOfF_step {fs : FL} {j : Nat} {q : B × B} (h : fs[j]? = some q) : treeOfF (fs.take (j + 1)) = putT (treeOfF (fs.take j)) q.1 q.2 := by
 unfold treeOfF
 rw [List.take_add_one, h, Option.toList_some, List.foldl_append]
 rfl
structure FTree (L : FL) : Prop where
 fits : Fits L
 lens : ∀ q ∈ L, q.1.length ≤ 1000
theorem FTree.nil : FTree [] := ⟨Fits.nil, by simp⟩
theorem FTree.put {L : FL} (h : FTree L) (p x : B) (hp : p.length ≤ 1000) : FTree (putT L p x) := ⟨h.fits.put p x, lens_put h.fits.rising h.lens p x hp⟩
theorem FTree.bytes {L : FL} (h : FTree L) : ∀ p s, L.lookup p = some s → s.length ≤ 2000 := fun _ _ hl => h.fits.bytes _ (mem_of_lookup hl)
theorem ftree_of {fs : FL} (h : ∀ q ∈ fs, q.1.length ≤ 100) : ∀ j, FTree (treeOfF (fs.take j))
 | 0 => FTree.nil
 | j + 1 => by
  cases hq : fs[j]? with
  | none =>
   have : fs.take (j + 1) = fs.take j := by rw [List.take_add_one, hq]; simp
   rw [this]; exact ftree_of h j
  | some q =>
   rw [treeOfF_step hq]
   exact (ftree_of h j).put _ _ (by have := h q (List.mem_of_getElem? hq); omega)

section
variable {w0 wr w' : World} {b mb m : Nat} {slv : Value} {LT LM : FL}
theorem TT.putF {P : Nat → Addr} (J : TT w0 wr b mb m slv LT LM) (hf : FTree LT) (hs : Errs w0 P [1, 3, 6, 7]) (hm : HasMax w0) (p x : B) (hp : p.length ≤ 1000) :
  Calls Tryz.prog 38 #[.pointer (some ⟨b, 0, none⟩), S p, S x] wr fun r w' => r = .returned (errC P (putCode LT p x)) ∧ TT w0 w' b mb m slv (putT LT p x) LM :=
 (treePut_any wr P b mb LT p x J.tree hf.fits (hs.ext J.ext) (hm.ext J.ext) (by omega) (fun q hq => by have := hf.lens q hq; omega)).mono fun _ _ ⟨h1, h2, h3⟩ => ⟨h1, J.treeStep h2 h3⟩
theorem TT.putMF (J : TT w0 wr b mb m slv LT LM) (hf : FTree LM) (p x : B) (hp : p.length ≤ 1000) :
  Calls Tryz.prog 30 #[.pointer (some ⟨m, 0, none⟩), S p, S x] wr fun r w' => ∃ slv', r = .returned (I (putCode LM p x)) ∧ TT w0 w' b mb m slv' LT (putT LM p x) :=
 (putM_any wr w0.heap.size m slv LM p x J.model hf.fits.rising (by have := hf.fits.few; omega) (by omega) J.ext.size).mono fun _ _ h => by
  obtain ⟨slv', h1, h2, _⟩ := J.modelStep h
  exact ⟨slv', h1, h2⟩
end

def RetFT (fs : FL) (w : World) (e : Ending) (w' : World) : Prop := ∃ (b mb m : Nat) (slv : Value), e = .returned (.tuple #[.pointer (some ⟨b, 0, none⟩), .pointer (some ⟨m, 0, none⟩)]) ∧ TT w w' b mb m slv (treeOfF fs) (treeOfF fs)

set_option maxRecDepth 100000 in
set_option maxHeartbeats 2000000 in
theorem longFiles2_any (w : World) (v : Value) (fs : FL) (hv : RdS 2 encF w v fs) : Calls Tryz.prog 15 #[v] w (RetLF fs w) := by
 obtain ⟨a, cap, rfl, _, hm1, hc⟩ := hv
 have hl1 : fs.length ≤ 9223372036854775807 := by unfold maxLen at hm1; omega
 have HC := Lib.hid hc
 clear hc hm1
 by_cases hmany : 30 < fs.length
 ·have hz : (30 : Int) < (fs.length : Int) := by omega
  clear hmany
  go_enter Tryz.func15, Tryz.ntmps15
  go_wp2_with fail
  go_ret
  exact ⟨true, rfl, (fun h => by cases h), rfl⟩
 ·have hz : ¬ (30 : Int) < (fs.length : Int) := by omega
  have HM : Hid (fs.length ≤ 30) := Lib.hid (by omega)
  clear hmany
  go_enter Tryz.func15, Tryz.ntmps15
  go_wp2_with fail
  go_loop [3, 4] (fun n i => ∃ (j : Nat) (nn : Int), j ≤ fs.length ∧ i = .int .i64 j ∧ n = .int .i64 nn ∧ 0 ≤ nn ∧ nn ≤ 4000 ∧ Hid (∀ i (q : B × B), i < j → fs[i]? = some q → q.1.length ≤ 100)) (fun _ i => fs.length - (intOf i).toNat)
  case atStart => exact ⟨0, 0, Nat.zero_le _, rfl, rfl, by omega, by omega, Lib.hid (fun i q h => absurd h (Nat.not_lt_zero _))⟩
  case round =>
   obtain ⟨j, nn, hj, rfl, rfl, hn0, hn1, HB⟩ := hrel
   by_cases hlt : j < fs.length
   ·have hltz : (j : Int) < (fs.length : Int) := by omega
    have hj0 : (0 : Int) ≤ (j : Int) := by omega
    obtain ⟨b, off, rfl, hcell⟩ := HC.out (by intro h; rw [h] at hlt; simp at hlt)
    obtain ⟨⟨p, x⟩, hq⟩ : ∃ y, fs[j]? = some y := ⟨_, List.getElem?_eq_getElem hlt⟩
    have c0 : w.cell? ⟨b, off + j * 2, none⟩ = some (S p) := hcell j _ hq 0 _ rfl
    have c1 : w.cell? ⟨b, off + j * 2 + 1, none⟩ = some (S x) := hcell j _ hq 1 _ rfl
    have HQ := Lib.hid hq
    clear hcell hq
    by_cases h1 : (4000 : Int) < (x.length : Int)
    ·go_wp2_with fail
     go_ret
     exact ⟨true, rfl, (fun h => by cases h), rfl⟩
    by_cases h2 : (100 : Int) < (p.length : Int)
    ·go_wp2_with fail
     go_ret
     exact ⟨true, rfl, (fun h => by cases h), rfl⟩
    by_cases h3 : (4000 : Int) < nn + (x.length : Int)
    ·go_wp2_with fail
     go_ret
     exact ⟨true, rfl, (fun h => by cases h), rfl⟩
    go_wp2_with fail
    go_round
    case rel => exact ⟨j + 1, nn + x.length, by omega, by go_num, rfl, by omega, by omega, Lib.hid (fun i q hi hq => by
     rcases Nat.lt_succ_iff_lt_or_eq.1 hi with h | rfl
     ·exact HB.out i q h hq
     ·rw [HQ.out] at hq; cases hq; exact (by omega : p.length ≤ 100))⟩
    case measure => simp [intOf]; omega
   ·have hltz : ¬ (j : Int) < (fs.length : Int) := by omega
    go_wp2_with fail
    go_ret
    refine ⟨false, rfl, fun _ => ⟨HM.out, fun q hq => ?_⟩, rfl⟩
    obtain ⟨i, hi⟩ := List.getElem?_of_mem hq
    exact HB.out i q (by have := (List.getElem?_eq_some_iff.1 hi).1; omega) hi

set_option maxRecDepth 100000 in
set_option maxHeartbeats 6000000 in
theorem fileTree2_any (w : World) (P : Nat → Addr) (v : Value) (fs : FL) (hv : RdS 2 encF w v fs) (hl : fs.length ≤ 1000) (hp : ∀ q ∈ fs, q.1.length ≤ 100) (hs : Errs w P [1, 3, 6, 7]) (hm : HasMax w) :
  Calls Tryz.prog 17 #[v] w (RetFT fs w) := by
 obtain ⟨a, cap, rfl, _, _, hc⟩ := hv
 have HC := Lib.hid hc
 have HP := Lib.hid hp
 have HS := Lib.hid hs
 have HMX := Lib.hid hm
 have HF := Lib.hid (ftree_of hp)
 clear hc hp hs hm
 go_enter Tryz.func17, Tryz.ntmps17
 go_wp2_with fail
 refine (treeNew_any w).mono ?_
 rintro e w2 ⟨rfl, ht, ho, hsz⟩
 have HT := Lib.hid ht
 have HO := Lib.hid ho
 have HZ := Lib.hid hsz
 clear ht ho hsz
 have HJ : Hid (TT w (w2.alloc (.cells #[.slice none 0 0] 147 (0, 0))) (w.heap.size + 1) w.heap.size w2.heap.size (.slice none 0 0) [] []) := Lib.hid
  ⟨HO.out.thenAlloc _, Nat.le_succ _, Nat.le_refl _, HO.out.size, HT.out.ext (Only.alloc _ _ _), ⟨(MapKept.heap_alloc w2 _).1, World.ownsRow_nil _ _ _ _⟩⟩
 obtain ⟨b, hb⟩ : ∃ b, b = w.heap.size + 1 := ⟨_, rfl⟩
 obtain ⟨mb, hmb⟩ : ∃ mb, mb = w.heap.size := ⟨_, rfl⟩
 obtain ⟨m, hmm⟩ : ∃ m, m = w2.heap.size := ⟨_, rfl⟩
 rw [← hb, ← hmb, ← hmm] at HJ
 rw [← hb]
 clear hb hmb HT HO HZ
 go_wp2_with fail
 rw [← hmm]
 generalize (w2.alloc (.cells #[.slice none 0 0] 147 (0, 0))) = w3 at HJ ⊢
 clear hmm
 go_loopw [6] (fun i wr => ∃ (j : Nat) (slv : Value), j ≤ fs.length ∧ i = .int .i64 j ∧ Hid (TT w wr b mb m slv (treeOfF (fs.take j)) (treeOfF (fs.take j)))) (fun i _ => fs.length - (intOf i).toNat)
 case atStart => exact ⟨0, _, Nat.zero_le _, rfl, HJ⟩
 case round =>
  clear HJ
  obtain ⟨j, slv, hj, rfl, HI⟩ := hrel
  by_cases hlt : j < fs.length
  ·have hltz : (j : Int) < (fs.length : Int) := by omega
   have hj0 : (0 : Int) ≤ (j : Int) := by omega
   obtain ⟨b0, off0, rfl, hcell⟩ := HC.out (by intro h; rw [h] at hlt; simp at hlt)
   obtain ⟨⟨p, x⟩, hq⟩ : ∃ y, fs[j]? = some y := ⟨_, List.getElem?_eq_getElem hlt⟩
   have HD1 : Hid (w.cell? ⟨b0, off0 + j * 2, none⟩ = some (S p)) := Lib.hid (hcell j _ hq 0 _ rfl)
   have HD2 : Hid (w.cell? ⟨b0, off0 + j * 2 + 1, none⟩ = some (S x)) := Lib.hid (hcell j _ hq 1 _ rfl)
   have d1 := HI.out.ext.cellOf HD1.out (fun h => h)
   have d2 := HI.out.ext.cellOf HD2.out (fun h => h)
   have HPL : Hid (p.length ≤ 1000) := Lib.hid (by have := HP.out _ (List.mem_of_getElem? hq); simp only at this; omega)
   have HST := Lib.hid (treeOfF_step hq)
   have HFJ := Lib.hid (HF.out j)
   clear hcell hq
   generalize treeOfF (fs.take j) = L at HI HST HFJ
   go_wp2_with fail
   go_region_held3 (fun w' => w'.cell? ⟨b0, off0 + j * 2, none⟩ = some (S p) ∧ w'.cell? ⟨b0, off0 + j * 2 + 1, none⟩ = some (S x)) (first | exact ⟨HT.out.ext.cellOf HD1.out (fun h => h), HT.out.ext.cellOf HD2.out (fun h => h)⟩ | exact ⟨d1, d2⟩ | go_keep)
    ((go_at_call 38; refine (TT.putF (w0 := w) (b := b) (mb := mb) (m := m) (slv := slv) (LT := L) (LM := L) (P := P) (by first | exact HI.out | exact HI.out.later (Only.drew _ _) | exact HI.out.later (Only.drewN _ _ _)) HFJ.out HS.out HMX.out p x HPL.out).mono ?_; rintro e w5 ⟨rfl, hT⟩; have HT := Lib.hid hT; clear hT))
   all_goals
    have e1 := HT.out.ext.cellOf HD1.out (fun h => h)
    have e2 := HT.out.ext.cellOf HD2.out (fun h => h)
    clear d1 d2
    go_wp2_with fail
    go_region_held3 (fun w' => w'.cell? ⟨b0, off0 + j * 2, none⟩ = some (S p) ∧ w'.cell? ⟨b0, off0 + j * 2 + 1, none⟩ = some (S x)) (first | exact ⟨HT2.out.ext.cellOf HD1.out (fun h => h), HT2.out.ext.cellOf HD2.out (fun h => h)⟩ | exact ⟨e1, e2⟩ | go_keep)
     ((go_at_call 30; refine (TT.putMF (w0 := w) (b := b) (mb := mb) (m := m) (slv := slv) (LT := putT L p x) (LM := L) (by first | exact HT.out | exact HT.out.later (Only.drew _ _) | exact HT.out.later (Only.drewN _ _ _)) HFJ.out p x HPL.out).mono ?_; rintro e w6 ⟨slv2, rfl, hT⟩; have HT2 := Lib.hid hT; clear hT))
    all_goals
     go_wp2_with fail
     go_roundw
     case rel => exact ⟨j + 1, _, by omega, by go_num, by rw [HST.out]; exact HT2⟩
     case measure => simp [intOf]; omega
  ·have hltz : ¬ (j : Int) < (fs.length : Int) := by omega
   rw [List.take_of_length_le (by omega)] at HI
   go_wp2_with fail
   go_ret2
   exact ⟨_, _, _, _, rfl, HI.out⟩

end Go.Proofs.YtnmhaipjfpongacGreatDoor

namespace Go.Proofs.YtnmhaipjfpongacGreatDoor
open Go.ChangeShapes Go.WideShapes Go.ChangeAt Go.RowKit

def ruleUp : Rule := ⟨[98], [117, 112, 112, 101, 114], [], [[97]]⟩
theorem wanted_need : needL [ruleUp] [[98]] = [0] := by
 have h0 : reachB [ruleUp] [[98]] 0 = true := reachB_iff.2 (.root (by
  have : needKs [ruleUp] [[98]] = [0] := by kernel_rfl
  rw [this]; exact .head _))
 unfold needL
 show List.filter (reachB [ruleUp] [[98]]) [0] = [0]
 rw [List.filter_cons_of_pos h0]
 rfl
abbrev wantedW (w : World) : World := (w.alloc (.cells #[S [97]] 9 (0, 0))).alloc (.cells #[S [98], S [117, 112, 112, 101, 114], S [], .slice (some ⟨w.heap.size, 0, none⟩) 1 1] 55 (0, 0))
theorem wanted_rd (w : World) : RdR (wantedW w) (.slice (some ⟨w.heap.size + 1, 0, none⟩) 1 1) [ruleUp] := by
 have h1 := (MapKept.heap_alloc w (.cells #[S [97]] 9 (0, 0))).1
 have h2 := (MapKept.heap_alloc (w.alloc (.cells #[S [97]] 9 (0, 0))) (.cells #[S [98], S [117, 112, 112, 101, 114], S [], .slice (some ⟨w.heap.size, 0, none⟩) 1 1] 55 (0, 0))).1
 have hs : (w.alloc (.cells #[S [97]] 9 (0, 0))).heap.size = w.heap.size + 1 := by simp
 rw [hs] at h2
 have h3 := (Only.alloc (fun _ => False) (w.alloc (.cells #[S [97]] 9 (0, 0))) (.cells #[S [98], S [117, 112, 112, 101, 114], S [], .slice (some ⟨w.heap.size, 0, none⟩) 1 1] 55 (0, 0))).heapOf h1 (fun h => h)
 refine ⟨_, 1, rfl, Nat.le_refl _, by decide, fun _ => ⟨w.heap.size + 1, 0, rfl, fun i r hi => ?_⟩⟩
 match i, hi with
 | 0, hi =>
  cases hi
  refine ⟨.slice (some ⟨w.heap.size, 0, none⟩) 1 1, ⟨_, 1, rfl, Nat.le_refl _, by decide, fun _ => ⟨w.heap.size, 0, rfl, fun j s hj => ?_⟩⟩, ?_, ?_, ?_, ?_⟩
  ·match j, hj with
   | 0, hj => cases hj; rw [cell_of_heap h3]; rfl
   | j + 1, hj => simp [ruleUp] at hj
  all_goals (rw [cell_of_heap h2]; rfl)
 | i + 1, hi => simp at hi

structure PartAt (w wr : World) (v : Value) (ps : List (Rule × Option Addr × Nat × Nat)) : Prop where
 ext : Ext w wr
 row : wr.ownsRow w.heap.size 55 4 v ps.length (ps.flatMap encR)
 texts : ∀ p ∈ ps, Rd S w (SV p.2) p.1.ins
theorem PartAt.nil (w : World) : PartAt w w (.slice none 0 0) [] := ⟨Only.refl _ _, World.ownsRow_nil _ _ _ _, by simp⟩
theorem PartAt.grow {w wr w' : World} {v : Value} {ps : List (Rule × Option Addr × Nat × Nat)} (h : PartAt w wr v ps) (ho : Ext wr w') : PartAt w w' v ps := ⟨h.ext.then ho, ho.row h.row (fun _ _ h => h), h.texts⟩
theorem PartAt.push {w wr w2 : World} {v v' : Value} {u : Option Addr × Nat × Nat} {ps : List (Rule × Option Addr × Nat × Nat)} {r : Rule} (h : PartAt w wr v ps) (hu : Rd S w (SV u) r.ins) (hr : w2.ownsRow w.heap.size 55 4 v' (ps.length + 1) ((ps ++ [(r, u)]).flatMap encR)) (hg : wr.grownBy w2 v.ownBlock) : PartAt w w2 v' (ps ++ [(r, u)]) := by
 have ho : Only (fun b => v.ownBlock = some b) wr w2 := Only.of_grown hg
 refine ⟨h.ext.trans ho (fun _ _ h => h) (fun i hi e => by have := (h.row.lt i e).1; omega), by rw [List.length_append]; exact hr, fun p hp => ?_⟩
 rcases List.mem_append.1 hp with hp | hp
 ·exact h.texts p hp
 ·rw [List.mem_singleton] at hp
  subst hp
  exact hu
theorem PartAt.rd {w wr : World} {v : Value} {ps : List (Rule × Option Addr × Nat × Nat)} {l : List Rule} (h : PartAt w wr v ps) (hl : ps.map Prod.fst = l) : RdR wr v l := by
 have hs := RdS.of_row encR_len h.row
 obtain ⟨a, cap, h1, h2, h3, h4⟩ := hs
 have hlen : ps.length = l.length := by rw [← hl, List.length_map]
 refine ⟨a, cap, by rw [← hlen]; exact h1, by omega, h3, fun hne => ?_⟩
 obtain ⟨b, off, h5, h6⟩ := h4 (by intro e; rw [e] at hl; exact hne hl.symm)
 refine ⟨b, off, h5, fun i r hi => ?_⟩
 rw [← hl, List.getElem?_map] at hi
 obtain ⟨p, hp, rfl⟩ := Option.map_eq_some_iff.1 hi
 refine ⟨SV p.2, (h.texts p (List.mem_of_getElem? hp)).ext h.ext, ?_, ?_, ?_, ?_⟩
 ·have := h6 i p hp 0 _ rfl; rwa [Nat.add_zero] at this
 ·exact h6 i p hp 1 _ rfl
 ·exact h6 i p hp 2 _ rfl
 ·exact h6 i p hp 3 _ rfl
end Go.Proofs.YtnmhaipjfpongacGreatDoor

namespace Go.Proofs.YtnmhaipjfpongacGreatDoor
open Go.ChangeShapes Go.WideShapes Go.ChangeAt Go.RowKit

abbrev EB : BE := ⟨[ruleUp], [0], [([97], [120])]⟩
theorem built_e : newE [ruleUp] [[98]] [([97], [120])] = EB := by
 show BE.mk _ _ _ = _
 rw [wanted_need]
theorem built_fault : newFault [ruleUp] [[98]] = (0, -1) := by
 have e1 : needFault [ruleUp] [[98]] = (0, -1) := by kernel_rfl
 have e2 : partFault [ruleUp] [0] = (0, -1) := by kernel_rfl
 unfold newFault
 rw [e1, if_neg (by simp), wanted_need, e2]
theorem built_well : ∃ o is, BWell EB o is := by
 have e1 : (sheetFault [ruleUp]).1 = 0 := by kernel_rfl
 have e2 : partB [ruleUp] (needL [ruleUp] [[98]]) = some [0] := by rw [wanted_need]; kernel_rfl
 have h := new_well (T := [([97], [120])]) (sheet_ok.1 e1) e2 (fun p s h => by have := mem_of_lookup h; simp at this; rw [this.2]; decide)
 rw [built_e] at h
 exact ⟨_, _, h⟩
theorem built_lens : BLens EB := ⟨by decide, fun i hi => by rw [List.mem_singleton] at hi; subst hi; decide, fun i hi => by rw [List.mem_singleton] at hi; subst hi; decide, fun i hi => by rw [List.mem_singleton] at hi; subst hi; decide⟩
theorem built_ans : EB.ans 0 = ([88], 0) := by kernel_rfl
theorem built_run : EB.ans 0 = (runOut (EB.rule 0).kind (EB.rule 0).word (EB.args 0), runCode (EB.rule 0).kind (EB.rule 0).word (EB.args 0)) := by kernel_rfl
theorem built_ready : readyP EB .new 0 = true := by kernel_rfl
theorem built_in : ∀ q ∈ (EB.rule 0).ins, (EB.W q).2 = 0 := by
 intro q hq
 have e : (EB.rule 0).ins = [[97]] := by kernel_rfl
 rw [e, List.mem_singleton] at hq
 subst hq
 exact (by kernel_rfl : (EB.W [97]).2 = 0)
theorem built_look : (putL 3 [] (EB.key 0) (EB.ans 0).1).lookup (EB.key 0) = some (EB.ans 0).1 := by
 show List.lookup _ (if 3 < _ then _ else _) = _
 rw [if_neg (by simp)]
 simp

set_option maxRecDepth 100000 in
set_option maxHeartbeats 8000000 in
theorem built_any (w : World) (P : Nat → Addr) (hV : PV w P [1, 2, 3, 4, 5, 6, 7, 8, 9, 10, 11]) : Calls Tryz.prog 49 #[] w (RetE (.bool true) w) := by
 have HVV := Lib.hid hV
 have e1 : putCode [] [97] [120] = 0 := by decide +kernel
 have e2 : putT [] [97] [120] = [([97], [120])] := by decide +kernel
 have E1 := Lib.hid e1
 have E2 := Lib.hid e2
 obtain ⟨o, is, hW⟩ := built_well
 have HW := Lib.hid hW
 clear hV e1 e2 hW
 go_enter Tryz.func49, Tryz.ntmps49
 go_wp2_with fail
 refine (treeNew_any w).mono ?_
 rintro e w1 ⟨rfl, ht, ho, hs1⟩
 have HT := Lib.hid ht
 have HO := Lib.hid ho
 have HS1 := Lib.hid hs1
 clear ht ho hs1
 obtain ⟨tb, htb⟩ : ∃ tb, tb = w.heap.size + 1 := ⟨_, rfl⟩
 rw [← htb] at HT
 rw [← htb]
 have HTB := Lib.hid htb
 clear htb
 go_wp2_with fail
 refine (cacheNew_any 3 w1 (by decide) (by decide)).mono ?_
 rintro e w2 ⟨rfl, hc, ho2, hs2⟩
 have HC := Lib.hid hc
 have HX2 := Lib.hid (HO.out.then ho2)
 have HS2 := Lib.hid hs2
 have HT2 := Lib.hid (HT.out.ext ho2)
 clear hc ho2 hs2
 obtain ⟨cb, hcb⟩ : ∃ cb, cb = w1.heap.size + 1 := ⟨_, rfl⟩
 rw [← hcb] at HC
 rw [← hcb]
 have HCB := Lib.hid hcb
 clear hcb
 have hput := treePut_any w2 P tb w.heap.size [] [97] [120] HT2.out Fits.nil ((HVV.out.ext HX2.out).errs.sub (by decide)) (HVV.out.ext HX2.out).max (by decide) (by simp)
 unfold PutIs at hput
 rw [E1.out, E2.out, show errC P 0 = .nilIface from rfl] at hput
 have HPU := Lib.hid hput
 clear hput
 go_wp2_with fail
 refine HPU.out.mono ?_
 rintro e w3 ⟨rfl, ht3, ho3⟩
 have HX3 : Hid (Ext w w3) := Lib.hid (HX2.out.trans ho3 (fun _ _ h => h) (fun i hi e => by omega))
 have HC3 : Hid (CacheAt w3 cb w1.heap.size (.slice none 0 0) 3 []) := Lib.hid (HC.out.later ho3 (fun i hi e => by
  have := HS1.out
  have := HCB.out
  rcases hi with h | h | h
  ·omega
  ·omega
  ·cases h))
 have hx4 : Ext w3 (wantedW w3) := (Only.alloc _ w3 _).thenAlloc _
 have hx5 : Ext w3 ((wantedW w3).alloc (.cells #[S [98]] 9 (0, 0))) := hx4.thenAlloc _
 have hn1 := new_any ((wantedW w3).alloc (.cells #[S [98]] 9 (0, 0))) P tb w.heap.size [([97], [120])] _ _ (some ⟨cb, 0, none⟩) [ruleUp] [[98]] (ht3.ext hx5) ((wanted_rd w3).ext (Only.alloc _ _ _)) (lit_rd (wantedW w3) [98]) (by decide)
  (fun r hr => by rw [List.mem_singleton] at hr; subst hr; exact ⟨by decide, by decide, by decide, by decide, by decide⟩) ((HVV.out.ext (HX3.out.then hx5)).sub (by decide))
 unfold RetNew at hn1
 rw [built_fault, built_e] at hn1
 have hz4 : (wantedW w3).heap.size = w3.heap.size + 2 := by simp
 rw [hz4] at hn1
 have HN1 := Lib.hid hn1
 have HX5 := Lib.hid hx5
 have HRD5 := Lib.hid ((wanted_rd w3).ext (Only.alloc (fun _ => False) _ (.cells #[S [98]] 9 (0, 0))))
 have HT5 := Lib.hid (ht3.ext hx5)
 clear ht3 ho3 hx4 hx5 hn1 hz4
 go_wp2_with fail
 refine HN1.out.mono ?_
 rintro e w5 ⟨v1, ev1, rfl, he, ho5, hcase⟩
 obtain rfl := he.zero rfl
 rcases hcase with ⟨h, _⟩ | ⟨_, K1, rfl, hcp1, hb1⟩
 ·exact absurd rfl h
 have HX6 : Hid (Ext w3 w5) := Lib.hid (HX5.out.then ho5)
 have hsz : w3.heap.size + 3 = ((wantedW w3).alloc (.cells #[S [98]] 9 (0, 0))).heap.size := by simp
 have HBS : Hid (∀ i, InBld EB K1 i → w3.heap.size ≤ i ∧ i < w5.heap.size) := Lib.hid (fun i hi => ⟨by have := hb1.ge i hi; omega, hb1.lt i hi⟩)
 have HB1 := Lib.hid hb1
 have HCP1 := Lib.hid hcp1
 have hn2 := new_any (w5.alloc (.cells #[S [98]] 9 (0, 0))) P tb w.heap.size [([97], [120])] _ _ (some ⟨cb, 0, none⟩) [ruleUp] [[98]] (HT5.out.ext (ho5.thenAlloc _)) (HRD5.out.ext (ho5.thenAlloc _)) (lit_rd w5 [98]) (by decide)
  (fun r hr => by rw [List.mem_singleton] at hr; subst hr; exact ⟨by decide, by decide, by decide, by decide, by decide⟩) ((HVV.out.ext (HX3.out.then (HX6.out.thenAlloc _))).sub (by decide))
 unfold RetNew at hn2
 rw [built_fault, built_e] at hn2
 have HN2 := Lib.hid hn2
 clear hn2 hb1 hcp1 ho5 he hsz
 go_wp2_with fail
 refine HN2.out.mono ?_
 rintro e w7 ⟨v2, ev2, rfl, he2, ho7, hcase⟩
 obtain rfl := he2.zero rfl
 rcases hcase with ⟨h, _⟩ | ⟨_, K2, rfl, hcp2, hb2⟩
 ·exact absurd rfl h
 have hsz : w5.heap.size + 1 = (w5.alloc (.cells #[S [98]] 9 (0, 0))).heap.size := by simp
 have HX7 : Hid (Ext w5 w7) := Lib.hid (Only.then (Only.alloc (fun _ => False) w5 (.cells #[S [98]] 9 (0, 0))) ho7)
 have HBS2 : Hid (∀ i, InBld EB K2 i → w5.heap.size ≤ i ∧ i < w7.heap.size) := Lib.hid (fun i hi => ⟨by have := hb2.ge i hi; omega, hb2.lt i hi⟩)
 have HB17 := Lib.hid (HB1.out.ext HX7.out)
 have HB27 := Lib.hid hb2
 have HCP2 := Lib.hid hcp2
 have HX37 := Lib.hid (HX6.out.then HX7.out)
 have HXW7 := Lib.hid (HX3.out.then HX37.out)
 have HCL : Hid (∀ i, InCache cb w1.heap.size (.slice none 0 0) i → w.heap.size ≤ i ∧ i < w3.heap.size) := Lib.hid (fun i hi => ⟨(by
  have := HS1.out
  have := HCB.out
  rcases hi with h | h | h
  ·omega
  ·omega
  ·cases h), HC3.out.lt i hi⟩)
 have HCC7 : Hid (CchAt w7 EB K1 cb w1.heap.size (.slice none 0 0) 3 []) := Lib.hid ⟨HC3.out.later HX37.out (fun _ _ h => h), CacheOk.nil, by decide, by decide, fun i hi e => by have := (HCL.out i hi).2; have := (HBS.out i e).1; omega⟩
 have hsz3 := HX3.out.size
 have hsz5 := HX6.out.size
 have hsz7 := HX7.out.size
 have HAV : Hid (ActVars w P) := Lib.hid (HVV.out.act (by decide))
 have HRN1 := Lib.hid (runC_good HB17.out HCP1.out HCC7.out HW.out (BInv.new _) built_lens HXW7.out (fun j hj => by
  rcases hj with h | h
  ·have := (HBS.out j h.bld).1; omega
  ·exact (HCL.out j h).1) HAV.out (i := 0) (List.mem_singleton.2 rfl) built_ready built_in built_run (by rw [built_ans]) rfl)
 clear he2 ho7 hb2 hcp2 hsz
 go_wp2_with fail
 refine HRN1.out.mono ?_
 intro e w8 hr8
 have hr8' : ∃ sv', e = .returned (.tuple #[.bool false, .nilIface]) ∧ BldAt w8 P _ EB K1 _ ∧ CchAt w8 EB K1 cb w1.heap.size sv' 3 (putL 3 [] (EB.key 0) (EB.ans 0).1) ∧ Only (fun i => InSteps EB K1 i ∨ InCache cb w1.heap.size (.slice none 0 0) i) w7 w8 ∧ ∀ i, InCache cb w1.heap.size sv' i → InCache cb w1.heap.size (.slice none 0 0) i ∨ w7.heap.size ≤ i := hr8
 obtain ⟨sv1, rfl, _, hcc8, ho8, hn8⟩ := hr8'
 have HXW8 : Hid (Ext w w8) := Lib.hid (HXW7.out.trans ho8 (fun _ _ h => h) (fun i hi e => by
  rcases e with h | h
  ·have := (HBS.out i h.bld).1; omega
  ·have := (HCL.out i h).1; omega))
 have HB28 := Lib.hid (HB27.out.later ho8 (fun i hi e => by
  have := HBS2.out i hi
  rcases e with h | h
  ·have := (HBS.out i h.bld).2; omega
  ·have := (HCL.out i h).2; omega))
 have HCC8 : Hid (CchAt w8 EB K2 cb w1.heap.size sv1 3 (putL 3 [] (EB.key 0) (EB.ans 0).1)) := Lib.hid ⟨hcc8.cache, hcc8.ok, hcc8.len, by decide, fun i hi e => by
  have := HBS2.out i e
  rcases hn8 i hi with h | h
  ·have := (HCL.out i h).2; omega
  ·omega⟩
 have HRN2 := Lib.hid (runC_hit HB28.out HCP2.out HCC8.out HW.out (BInv.new _) built_lens HXW8.out (fun j hj => by
  rcases hj with h | h
  ·have := (HBS2.out j h.bld).1; omega
  ·rcases hn8 j h with h | h
   ·exact (HCL.out j h).1
   ·omega) HAV.out (i := 0) (List.mem_singleton.2 rfl) built_ready built_in built_run built_look)
 have HLO : Hid (∀ j, InSteps EB K2 j ∨ InCache cb w1.heap.size sv1 j → w.heap.size ≤ j) := Lib.hid (fun j hj => by
  rcases hj with h | h
  ·have := (HBS2.out j h.bld).1; omega
  ·rcases hn8 j h with h | h
   ·exact (HCL.out j h).1
   ·omega)
 clear hr8 hcc8 ho8 hn8
 go_wp2_with fail
 refine HRN2.out.mono ?_
 intro e w9 hr9
 have hr9' : ∃ sv', e = .returned (.tuple #[.bool true, .nilIface]) ∧ BldAt w9 P _ EB K2 (doneP .new 0 true) ∧ CchAt w9 EB K2 cb w1.heap.size sv' 3 _ ∧ Only (fun i => InSteps EB K2 i ∨ InCache cb w1.heap.size sv1 i) w8 w9 ∧ ∀ i, InCache cb w1.heap.size sv' i → InCache cb w1.heap.size sv1 i ∨ w8.heap.size ≤ i := hr9
 obtain ⟨sv2, rfl, hb29, _, ho9, _⟩ := hr9'
 have HXW9 : Hid (Ext w w9) := Lib.hid (HXW8.out.trans ho9 (fun _ _ h => h) (fun i hi e => by have := HLO.out i e; omega))
 have hres := result_any hb29 ((0 : Nat) : Int)
 rw [resZ_in (List.mem_singleton.2 rfl) rfl, built_ans] at hres
 have HRES := Lib.hid hres
 have hov := over_any hb29 (List.pairwise_singleton _ _) (by decide)
 rw [show overP EB (doneP .new 0 true) = true by kernel_rfl] at hov
 have HOV := Lib.hid hov
 clear hr9 hb29 ho9 hres hov
 go_wp2_with fail
 refine HRES.out.mono ?_
 rintro e w10 ⟨rfl, rfl⟩
 go_wp2_with fail
 refine HOV.out.mono ?_
 rintro e w11 ⟨rfl, ho11⟩
 have HXE := Lib.hid (HXW9.out.then ho11)
 clear ho11
 go_wp2_with fail
 go_ret
 exact ⟨rfl, HXE.out⟩
end Go.Proofs.YtnmhaipjfpongacGreatDoor

/- Texts of this seat laid together for one claim: Yf0, Yb7, Yf1, Pl0, Pl1. No condition of its own: what each proves stands with its theorems. -/
import Derived.Test.YtnmhaipjfpongacGreatDoorPA43
import Derived.Test.YtnmhaipjfpongacGreatDoorPA33
import Derived.Test.YtnmhaipjfpongacGreatDoorPA44
import Derived.Test.YtnmhaipjfpongacGreatDoorPA42
import Derived.Test.YtnmhaipjfpongacGreatDoorPA10
import Derived.Test.YtnmhaipjfpongacGreatDoorPA8
import Derived.Test.YtnmhaipjfpongacGreatDoorPA31
import Derived.Test.YtnmhaipjfpongacGreatDoorPA45
namespace Go.Proofs.YtnmhaipjfpongacGreatDoor

theorem newFault_all {l : List Rule} (hof : (orderFault l).1 = 0) : newFault l (l.map Rule.out) = (0, -1) := by
 obtain ⟨hr, ho⟩ := orderFault_ok hof
 have h0 : needFault l (l.map Rule.out) = (0, -1) := by
  unfold needFault
  rw [if_neg (by rw [sheet_ok.2 hr]; simp), bad_none (fun x hx => by
   obtain ⟨r, hr, rfl⟩ := List.mem_map.1 hx
   exact made_out hr)]
 unfold newFault partFault
 rw [if_neg (by rw [h0]; simp)]
 cases hq : partB l (needL l (l.map Rule.out)) with
 | some o2 => rfl
 | none =>
  have hc := Clo.need l (l.map Rule.out)
  obtain ⟨k, s, hk, hks, hs, hw⟩ := orderB_circle hq (fun a b ha hia hn => by
   have hb := (needB_lt hn).2
   exact ⟨hb, by simpa using hc.clos a (by simpa using hia) b hb hn⟩)
  exact absurd hw (Ordered.no_circle (orderB_some ho).1 (fun _ _ hn => (needB_lt hn).2) (order_covers ho hk rfl) hs)

section
variable {E : BE} {KS : List B} {s : BS} {L : FL} {many : Nat}
end

section
variable {l : List Rule} {T O U : FL} {s t : BS}
theorem all_well (hof : (orderFault l).1 = 0) (hT : FTree T) : ∃ o, BWell (newE l (l.map Rule.out) T) o (fun i => (needL l (l.map Rule.out)).contains i) := by
 obtain ⟨hr, _, o, hp⟩ := newFault_ok (l := l) (outs := l.map Rule.out) (by rw [newFault_all hof])
 exact ⟨o, new_well hr hp hT.bytes⟩
theorem all_sm (hof : (orderFault l).1 = 0) {i : Nat} : i ∈ needL l (l.map Rule.out) ↔ i < l.length := by
 rw [need_rng (orderFault_ok hof).1.2.2, List.mem_range]
theorem order_all (hof : (orderFault l).1 = 0) {i : Nat} : i ∈ orderOut l ↔ i < l.length := by
 obtain ⟨_, ho⟩ := orderFault_ok hof
 exact ⟨fun h => (orderB_some ho).1.lt i h, fun h => order_covers ho h rfl⟩
theorem OutIn.ftree (h : OutIn l O) (hR : RightS l) : FTree O := ⟨h.fits, fun q hq => by
 obtain ⟨r, hr, e⟩ := h.own q hq
 have := (right_short hR r hr).out
 rw [← e]; omega⟩
theorem fresh_stale (hof : (orderFault l).1 = 0) (hT : FTree T) (hn : NoClash l) (hO : OutIn l O) (hI : BInv (newE l (l.map Rule.out) T) s) (hov : ∀ i ∈ needL l (l.map Rule.out), s.st i ≠ 1) : staleL l T (outY (newE l (l.map Rule.out) T) s O (orderOut l)) = [] := by
 obtain ⟨o, hW⟩ := all_well hof hT
 have hfin := hW.final hI hov
 have hl := (outs_lookup hW (show OutIn (newE l (l.map Rule.out) T).l O from hO) hn hfin (orderOut l) (fun i hi => (all_sm hof).2 ((order_all hof).1 hi))).1
 unfold staleL
 rw [List.filter_eq_nil_iff]
 intro p hp
 obtain ⟨i, hi⟩ := List.getElem?_of_mem hp
 rw [List.getElem?_map] at hi
 obtain ⟨r, hr, rfl⟩ := Option.map_eq_some_iff.1 hi
 have hil := (List.getElem?_eq_some_iff.1 hr).1
 have he : (newE l (l.map Rule.out) T).rule i = r := by unfold BE.rule; rw [hr]; rfl
 have h1 := hl i ((order_all hof).2 hil)
 rw [he] at h1
 have h2 : (newE l (l.map Rule.out) T).ans i = wantW l T r.out := by unfold BE.ans BE.W; rw [he]
 unfold staleP
 rw [h1]
 unfold resY
 rw [h2]
 by_cases h0 : (wantW l T r.out).2 = 0
 ·rw [if_pos h0, h0]; simp
 ·rw [if_neg h0]
  have : ((wantW l T r.out).2 == 0) = false := beq_eq_false_iff_ne.2 h0
  rw [this]; simp
end
end Go.Proofs.YtnmhaipjfpongacGreatDoor

namespace Go.Proofs.YtnmhaipjfpongacGreatDoor
open Go.ChangeShapes Go.WideShapes Go.ChangeAt Go.RowKit
section
variable {w0 w : World} {D : Nat → Prop} {n : Nat} {sv lv : Value} {many : Nat} {T O L : FL} {l : List Rule}
def RetTr (w0 w : World) (D : Nat → Prop) (n : Nat) (sv lv : Value) (many : Nat) (T O L : FL) (l : List Rule) (v : Value) (e : Ending) (w' : World) : Prop := e = .returned v ∧ YardAt w0 w' D n sv lv many T O L l ∧ Only (fun i => i = n + 2) w w'
theorem YardAt.put (P : Nat → Addr) (h : YardAt w0 w D n sv lv many T O L l) (hT : FTree T) (hE : Errs w P [1, 3, 6, 7]) (hm : HasMax w) (p x : B) (hp : p.length ≤ 999999) : Calls Tryz.prog 38 #[PTR (n + 3), S p, S x] w (RetTr w0 w D n sv lv many (putT T p x) O L l (errC P (putCode T p x))) := by
 refine (treePut_any w P (n + 3) (n + 2) T p x h.tree hT.fits hE hm hp (fun q hq => by have := hT.lens q hq; omega)).mono ?_
 rintro e w' ⟨rfl, h1, h2⟩
 exact ⟨rfl, h.files h1 h2, h2⟩
theorem YardAt.remove (P : Nat → Addr) (h : YardAt w0 w D n sv lv many T O L l) (hE : Errs w P [5]) (p : B) : Calls Tryz.prog 37 #[PTR (n + 3), S p] w (RetTr w0 w D n sv lv many (delT T p) O L l (errC P (if (T.lookup p).isSome then 0 else 6))) := by
 refine (treeRemove_any w (n + 3) (n + 2) T p (P 5) h.tree (hE.var 5 _ (by decide) rfl)).mono ?_
 rintro e w' ⟨rfl, h1, h2⟩
 refine ⟨?_, h.files h1 h2, h2⟩
 split <;> rfl
theorem FTree.remove {L : FL} (h : FTree L) (p : B) : FTree (delT L p) := ⟨h.fits.del p, fun q hq => h.lens q (List.mem_filter.1 hq).1⟩
end
end Go.Proofs.YtnmhaipjfpongacGreatDoor

namespace Go.Proofs.YtnmhaipjfpongacGreatDoor
open Go.ChangeShapes Go.WideShapes Go.ChangeAt Go.RowKit

structure FTA (T : FL) : Prop where
 ft : FTree T
 ap : Apart T
theorem FTA.nil : FTA [] := ⟨FTree.nil, Apart.nil⟩
theorem FTA.put {T : FL} (h : FTA T) (p x : B) (hp : p.length ≤ 1000) : FTA (putT T p x) := ⟨h.ft.put p x hp, h.ap.put h.ft.fits.rising p x⟩
theorem FTA.del {T : FL} (h : FTA T) (p : B) : FTA (delT T p) := ⟨h.ft.remove p, h.ap.del p⟩
section
variable {w0 w w' : World} {l : List Rule} {n : Nat} {D : Nat → Prop} {sv lv : Value} {T O L : FL} {j : Nat}
end
end Go.Proofs.YtnmhaipjfpongacGreatDoor

namespace Go.Proofs.YtnmhaipjfpongacGreatDoor

theorem AllTo.det {σ : Type} {E : BE} {bs : σ → BS} {step : σ → Nat → σ} {x y z : σ} (h : AllTo E bs step x y) : AllTo E bs step x z → y = z := by
 induction h with
 | stop h1 =>
  intro k
  cases k with
  | stop _ => rfl
  | more k1 _ => rw [h1] at k1; cases k1
 | more h1 _ ih =>
  intro k
  cases k with
  | stop k1 => rw [h1] at k1; cases k1
  | more k1 k2 =>
   rw [h1] at k1
   obtain ⟨rfl, rfl⟩ := List.cons.inj k1
   exact ih k2
open Classical in
noncomputable def allEnd (E : BE) (x : BS × CS) : BS × CS := if h : ∃ y, AllTo E (·.1) (stepM E) x y then h.choose else x
theorem allEnd_is {E : BE} {x y : BS × CS} (h : AllTo E (·.1) (stepM E) x y) : allEnd E x = y := by
 unfold allEnd
 rw [dif_pos ⟨y, h⟩]
 exact (Exists.choose_spec (⟨y, h⟩ : ∃ y, AllTo E (·.1) (stepM E) x y)).det h

structure PS where
 T : FL
 O : FL
 L : FL
def cacheOf : CS → FL
 | some (_, L) => L
 | none => []
noncomputable def mkEnd (l : List Rule) (many : Nat) (x : PS) (os : List B) : BS × CS := allEnd (newE l os x.T) (.new, some (many, x.L))
noncomputable def makeP (l : List Rule) (many : Nat) (x : PS) (os : List B) : PS :=
 if (newFault l os).1 = 0 then ⟨x.T, outY (newE l os x.T) (mkEnd l many x os).1 x.O (orderOut l), cacheOf (mkEnd l many x os).2⟩ else x
theorem newFault_in {l : List Rule} {os : List B} (hof : (orderFault l).1 = 0) (hm : ∀ s ∈ os, madeB l s = true) : newFault l os = (0, -1) := by
 obtain ⟨hr, ho⟩ := orderFault_ok hof
 have h0 : needFault l os = (0, -1) := by
  unfold needFault
  rw [if_neg (by rw [sheet_ok.2 hr]; simp), bad_none hm]
 unfold newFault partFault
 rw [if_neg (by rw [h0]; simp)]
 cases hq : partB l (needL l os) with
 | some o2 => rfl
 | none =>
  have hc := Clo.need l os
  obtain ⟨k, s, hk, hks, hs, hw⟩ := orderB_circle hq (fun a b ha hia hn => by
   have hb := (needB_lt hn).2
   exact ⟨hb, by simpa using hc.clos a (by simpa using hia) b hb hn⟩)
  exact absurd hw (Ordered.no_circle (orderB_some ho).1 (fun _ _ hn => (needB_lt hn).2) (order_covers ho hk rfl) hs)
structure PSok (l : List Rule) (x : PS) : Prop where
 ta : FTA x.T
 oi : OutIn l x.O
theorem PSok.make {l : List Rule} {many : Nat} {x : PS} {os : List B} (hof : (orderFault l).1 = 0) (h : PSok l x) : PSok l (makeP l many x os) := by
 unfold makeP
 split
 ·exact ⟨h.ta, OutIn.outs (E := newE l os x.T) h.oi _ fun _ hi => (order_all hof).1 hi⟩
 ·exact h

def playL : List Rule := [⟨[97, 108, 108], [106, 111, 105, 110], [43], [[97, 46, 117, 112], [98, 46, 117, 112]]⟩, ⟨[97, 46, 117, 112], [117, 112, 112, 101, 114], [], [[97]]⟩, ⟨[98, 46, 117, 112], [117, 112, 112, 101, 114], [], [[98]]⟩,
 ⟨[115, 114, 116], [115, 111, 114, 116], [], [[97], [98], [99]]⟩, ⟨[99, 110, 116], [99, 111, 117, 110, 116], [], [[97, 108, 108], [115, 114, 116]]⟩, ⟨[104, 100], [104, 101, 97, 100], [49], [[115, 114, 116]]⟩]
theorem play_order : orderFault playL = (0, -1) := by kernel_rfl
theorem play_of : (orderFault playL).1 = 0 := by rw [play_order]
theorem play_len : playL.length = 6 := rfl
theorem play_noClash : NoClash playL := by
 have h : (playL.all fun r => playL.all fun q => !aboveB r.out q.out) = true := by decide +kernel
 intro r hr q hq
 have := List.all_eq_true.1 (List.all_eq_true.1 h r hr) q hq
 simpa using this
theorem play_sm : ∀ r ∈ playL, RuleSm 900000 r := fun r hr => (right_short (orderFault_ok play_of).1 r hr).sm
def bitB (n i : Nat) : UInt8 := if n / 2 ^ i % 2 = 1 then 120 else 10
def lettersB (n : Nat) : B := [bitB n 4, bitB n 3, bitB n 2, bitB n 1, bitB n 0]
def fileB0 (q : Nat) : B := [UInt8.ofNat (97 + q % 3)]
def outAt (q : Nat) : B := ((playL[q]?).map Rule.out).getD []
def asksP (v : Nat) : Option (List B) := if v % 8 = 5 then some [] else if v % 8 = 6 then some [outAt (v / 8 % 6)] else if v % 8 = 7 then some [[104, 100], [99, 110, 116]] else none
noncomputable def oneP (x : PS) (v : Nat) : PS × Nat :=
 match asksP v with
 | some outs => (makeP playL 8 x (outsY playL outs), (newFault playL (outsY playL outs)).1)
 | none => if v % 8 = 4 then (⟨delT x.T (fileB0 (v / 8)), x.O, x.L⟩, if (x.T.lookup (fileB0 (v / 8))).isSome then 0 else 6)
  else (⟨putT x.T (fileB0 (v / 8)) (lettersB (v / 8 / 3 % 32)), x.O, x.L⟩, putCode x.T (fileB0 (v / 8)) (lettersB (v / 8 / 3 % 32)))
theorem outAt_made {q : Nat} (h : q < 6) : madeB playL (outAt q) = true := by
 have : ∀ q : Fin 6, madeB playL (outAt q) = true := by decide +kernel
 exact this ⟨q, h⟩
theorem asks_made {v : Nat} {outs : List B} (h : asksP v = some outs) : ∀ s ∈ outsY playL outs, madeB playL s = true := by
 have key : ∀ s ∈ playL.map Rule.out, madeB playL s = true := fun s hs => by
  obtain ⟨r, hr, rfl⟩ := List.mem_map.1 hs
  exact made_out hr
 have hd : ∀ s ∈ [[104, 100], [99, 110, 116]], madeB playL s = true := by decide +kernel
 unfold asksP at h
 unfold outsY
 split at h
 ·cases h; exact key
 ·split at h
  ·cases h
   intro s hs
   rw [if_neg (by simp), List.mem_singleton] at hs
   subst hs
   exact outAt_made (Nat.mod_lt _ (by decide))
  ·split at h
   ·cases h
    intro s hs
    rw [if_neg (by simp)] at hs
    exact hd s hs
   ·cases h
theorem asks_fault {v : Nat} {outs : List B} (h : asksP v = some outs) : newFault playL (outsY playL outs) = (0, -1) := newFault_in play_of (asks_made h)
noncomputable def numP (x : PS) (z : Int) : PS × Int := if z < 0 then (x, -1) else ((oneP x z.toNat).1, ((oneP x z.toNat).2 : Int))
noncomputable def playP : PS → List Int → PS × List Int
 | x, [] => (x, [])
 | x, z :: zs => ((playP (numP x z).1 zs).1, (numP x z).2 :: (playP (numP x z).1 zs).2)
theorem playP_snoc (x : PS) (zs : List Int) (z : Int) : playP x (zs ++ [z]) = ((numP (playP x zs).1 z).1, (playP x zs).2 ++ [(numP (playP x zs).1 z).2]) := by
 induction zs generalizing x with
 | nil => rfl
 | cons y zs ih =>
  show ((playP (numP x y).1 (zs ++ [z])).1, (numP x y).2 :: (playP (numP x y).1 (zs ++ [z])).2) = _
  rw [ih]
  rfl
theorem playP_step {x : PS} {zs : List Int} {j : Nat} {z : Int} (h : zs[j]? = some z) : playP x (zs.take (j + 1)) = ((numP (playP x (zs.take j)).1 z).1, (playP x (zs.take j)).2 ++ [(numP (playP x (zs.take j)).1 z).2]) := by
 rw [List.take_add_one, h]
 exact playP_snoc _ _ _
theorem playP_len (x : PS) (zs : List Int) : (playP x zs).2.length = zs.length := by
 induction zs generalizing x with
 | nil => rfl
 | cons y zs ih => show _ + 1 = _ + 1; rw [ih]
theorem PSok.start : PSok playL ⟨[], [], []⟩ := ⟨FTA.nil, OutIn.nil _⟩
theorem code_le {x : PS} {v : Nat} : (oneP x v).2 ≤ 12 := by
 unfold oneP
 cases ha : asksP v with
 | some outs =>
  show (newFault playL (outsY playL outs)).1 ≤ 12
  rw [asks_fault ha]
  exact Nat.zero_le _
 | none =>
  simp only
  split
  ·simp only; split <;> decide
  ·exact putCode_le _ _ _
end Go.Proofs.YtnmhaipjfpongacGreatDoor

namespace Go.Proofs.YtnmhaipjfpongacGreatDoor
open Go.ChangeShapes Go.WideShapes Go.ChangeAt Go.RowKit

theorem rd_lit {w : World} {b : Nat} {cs : Array Value} {ss : List B} (h : w.heap[b]? = some (.cells cs 9 (0, 0))) (hc : cs.toList = ss.map S) (hl : ss.length ≤ 1000) : Rd S w (.slice (some ⟨b, 0, none⟩) ss.length ss.length) ss := by
 refine ⟨_, ss.length, rfl, Nat.le_refl _, by unfold maxLen; omega, fun _ => ⟨b, 0, rfl, fun i x hx => ?_⟩⟩
 rw [Nat.zero_add, cell_of_heap h i, ← Array.getElem?_toList, hc, List.getElem?_map, hx]
 rfl
abbrev txW (w : World) (ss : List B) : World := w.alloc (.cells (ss.map S).toArray 9 (0, 0))
abbrev sheetCells (n : Nat) : Array Value := #[S [97, 108, 108], S [106, 111, 105, 110], S [43], .slice (some ⟨n, 0, none⟩) 2 2, S [97, 46, 117, 112], S [117, 112, 112, 101, 114], S [], .slice (some ⟨n + 1, 0, none⟩) 1 1, S [98, 46, 117, 112], S [117, 112, 112, 101, 114], S [], .slice (some ⟨n + 2, 0, none⟩) 1 1, S [115, 114, 116], S [115, 111, 114, 116], S [], .slice (some ⟨n + 3, 0, none⟩) 3 3, S [99, 110, 116], S [99, 111, 117, 110, 116], S [], .slice (some ⟨n + 4, 0, none⟩) 2 2, S [104, 100], S [104, 101, 97, 100], S [49], .slice (some ⟨n + 5, 0, none⟩) 1 1]
abbrev sheetW (w : World) : World := (txW (txW (txW (txW (txW (txW w [[97, 46, 117, 112], [98, 46, 117, 112]]) [[97]]) [[98]]) [[97], [98], [99]]) [[97, 108, 108], [115, 114, 116]]) [[115, 114, 116]]).alloc (.cells (sheetCells w.heap.size) 55 (0, 0))
theorem sheet_mem (w : World) : RdR (sheetW w) (.slice (some ⟨w.heap.size + 6, 0, none⟩) 6 6) playL ∧ Ext w (sheetW w) ∧ (sheetW w).heap.size = w.heap.size + 7 := by
 have hA := fun (W : World) ob => Only.alloc (fun _ => False) W ob
 have hM := fun (W : World) ob => (MapKept.heap_alloc W ob).1
 have hZ := fun (W : World) (ob : Obj) => (show (W.alloc ob).heap.size = W.heap.size + 1 by simp)
 obtain ⟨w1, h1⟩ : ∃ w1, w1 = txW w [[97, 46, 117, 112], [98, 46, 117, 112]] := ⟨_, rfl⟩
 obtain ⟨w2, h2⟩ : ∃ w2, w2 = txW w1 [[97]] := ⟨_, rfl⟩
 obtain ⟨w3, h3⟩ : ∃ w3, w3 = txW w2 [[98]] := ⟨_, rfl⟩
 obtain ⟨w4, h4⟩ : ∃ w4, w4 = txW w3 [[97], [98], [99]] := ⟨_, rfl⟩
 obtain ⟨w5, h5⟩ : ∃ w5, w5 = txW w4 [[97, 108, 108], [115, 114, 116]] := ⟨_, rfl⟩
 obtain ⟨w6, h6⟩ : ∃ w6, w6 = txW w5 [[115, 114, 116]] := ⟨_, rfl⟩
 obtain ⟨w7, h7⟩ : ∃ w7, w7 = w6.alloc (.cells (sheetCells w.heap.size) 55 (0, 0)) := ⟨_, rfl⟩
 have e : sheetW w = w7 := by rw [h7, h6, h5, h4, h3, h2, h1]
 rw [e]
 have z1 : w1.heap.size = w.heap.size + 1 := by rw [h1]; exact hZ _ _
 have z2 : w2.heap.size = w.heap.size + 2 := by rw [h2, hZ, z1]
 have z3 : w3.heap.size = w.heap.size + 3 := by rw [h3, hZ, z2]
 have z4 : w4.heap.size = w.heap.size + 4 := by rw [h4, hZ, z3]
 have z5 : w5.heap.size = w.heap.size + 5 := by rw [h5, hZ, z4]
 have z6 : w6.heap.size = w.heap.size + 6 := by rw [h6, hZ, z5]
 have z7 : w7.heap.size = w.heap.size + 7 := by rw [h7, hZ, z6]
 have x1 : Ext w w1 := by rw [h1]; exact hA _ _
 have x2 : Ext w1 w2 := by rw [h2]; exact hA _ _
 have x3 : Ext w2 w3 := by rw [h3]; exact hA _ _
 have x4 : Ext w3 w4 := by rw [h4]; exact hA _ _
 have x5 : Ext w4 w5 := by rw [h5]; exact hA _ _
 have x6 : Ext w5 w6 := by rw [h6]; exact hA _ _
 have x7 : Ext w6 w7 := by rw [h7]; exact hA _ _
 have y6 := x7
 have y5 := x6.then y6
 have y4 := x5.then y5
 have y3 := x4.then y4
 have y2 := x3.then y3
 have y1 := x2.then y2
 have m1 := y1.heapOf (b := w.heap.size) (by rw [h1]; exact hM _ _) (fun h => h)
 have m2 := y2.heapOf (b := w1.heap.size) (by rw [h2]; exact hM _ _) (fun h => h)
 have m3 := y3.heapOf (b := w2.heap.size) (by rw [h3]; exact hM _ _) (fun h => h)
 have m4 := y4.heapOf (b := w3.heap.size) (by rw [h4]; exact hM _ _) (fun h => h)
 have m5 := y5.heapOf (b := w4.heap.size) (by rw [h5]; exact hM _ _) (fun h => h)
 have m6 := y6.heapOf (b := w5.heap.size) (by rw [h6]; exact hM _ _) (fun h => h)
 have m7 : w7.heap[w6.heap.size]? = some (.cells (sheetCells w.heap.size) 55 (0, 0)) := by rw [h7]; exact hM _ _
 rw [z1] at m2
 rw [z2] at m3
 rw [z3] at m4
 rw [z4] at m5
 rw [z5] at m6
 rw [z6] at m7
 have t1 := rd_lit (ss := [[97, 46, 117, 112], [98, 46, 117, 112]]) m1 (by simp) (by decide)
 have t2 := rd_lit (ss := [[97]]) m2 (by simp) (by decide)
 have t3 := rd_lit (ss := [[98]]) m3 (by simp) (by decide)
 have t4 := rd_lit (ss := [[97], [98], [99]]) m4 (by simp) (by decide)
 have t5 := rd_lit (ss := [[97, 108, 108], [115, 114, 116]]) m5 (by simp) (by decide)
 have t6 := rd_lit (ss := [[115, 114, 116]]) m6 (by simp) (by decide)
 have hc := fun i => cell_of_heap m7 i
 refine ⟨⟨_, 6, rfl, Nat.le_refl _, by decide, fun _ => ⟨w.heap.size + 6, 0, rfl, fun i r hi => ?_⟩⟩, x1.then y1, z7⟩
 match i, hi with
 | 0, hi => cases hi; exact ⟨_, t1, hc 0, hc 1, hc 2, hc 3⟩
 | 1, hi => cases hi; exact ⟨_, t2, hc 4, hc 5, hc 6, hc 7⟩
 | 2, hi => cases hi; exact ⟨_, t3, hc 8, hc 9, hc 10, hc 11⟩
 | 3, hi => cases hi; exact ⟨_, t4, hc 12, hc 13, hc 14, hc 15⟩
 | 4, hi => cases hi; exact ⟨_, t5, hc 16, hc 17, hc 18, hc 19⟩
 | 5, hi => cases hi; exact ⟨_, t6, hc 20, hc 21, hc 22, hc 23⟩
 | i + 6, hi => simp [playL] at hi
def RetSheet (w : World) (e : Ending) (w' : World) : Prop := ∃ v, e = .returned v ∧ RdR w' v playL ∧ Ext w w'
set_option maxRecDepth 100000 in
set_option maxHeartbeats 4000000 in
theorem playSheet_any (w : World) : Calls Tryz.prog 141 #[] w (RetSheet w) := by
 go_enter Tryz.func141, Tryz.ntmps141
 go_wp2_with fail
 go_ret
 have h := sheet_mem w
 exact ⟨_, rfl, h.1, h.2.1⟩
def Holds (B : Nat → Prop) (w : World) (φ : World → Prop) : Prop := ∀ (w' : World) (q : Nat → Prop), Only q w w' → (∀ i, q i → i < w.heap.size → ¬ B i) → φ w'
section
variable {B B' : Nat → Prop} {w w' : World} {φ : World → Prop} {q : Nat → Prop}
theorem Holds.now (h : Holds B w φ) : φ w := h w (fun _ => False) (Only.refl _ _) (fun _ h => h.elim)
end
structure PlayAt (w0 w : World) (D : Nat → Prop) (n : Nat) (x : PS) : Prop where
 at_ : ∃ sv lv, YardAt w0 w D n sv lv 8 x.T x.O x.L playL
 ok : PSok playL x
def PlayTo (w0 w : World) (D : Nat → Prop) (n : Nat) (x : PS) (w' : World) : Prop := ∃ D2, PlayAt w0 w' D2 n x ∧ Moved D w w' D2
section
variable {w0 w w' w2 : World} {D D2 : Nat → Prop} {n : Nat} {x x' : PS}
theorem PlayAt.other {q : Nat → Prop} (h : PlayAt w0 w D n x) (ho : Only q w w') (hq : ∀ i, q i → w0.heap.size ≤ i ∧ ¬ D i) : PlayAt w0 w' D n x := by
 obtain ⟨sv, lv, hy⟩ := h.at_
 exact ⟨⟨sv, lv, hy.other ho hq⟩, h.ok⟩
theorem PlayAt.grow (h : PlayAt w0 w D n x) (ho : Ext w w') : PlayAt w0 w' D n x := h.other ho (fun _ e => e.elim)
theorem PlayAt.ext (h : PlayAt w0 w D n x) : Ext w0 w := by
 obtain ⟨sv, lv, hy⟩ := h.at_
 exact hy.ext
theorem PlayAt.lt (h : PlayAt w0 w D n x) : ∀ i, D i → w0.heap.size ≤ i ∧ i < w.heap.size := fun i hi => by
 obtain ⟨sv, lv, hy⟩ := h.at_
 exact ⟨Nat.le_trans hy.low (hy.ge i hi), hy.lt i hi⟩
theorem PlayAt.older {w00 : World} (h : PlayAt w0 w D n x) (hx : Ext w00 w0) : PlayAt w00 w D n x := by
 obtain ⟨sv, lv, hy⟩ := h.at_
 exact ⟨⟨sv, lv, { hy with ext := hx.then hy.ext, low := Nat.le_trans hx.size hy.low }⟩, h.ok⟩
theorem PlayTo.grow (h : PlayTo w0 w D n x w') (ho : Ext w' w2) : PlayTo w0 w D n x w2 := by
 obtain ⟨D2, h1, h2⟩ := h
 exact ⟨D2, h1.grow ho, h2.1.ext ho, h2.2⟩
theorem PlayTo.from (h : PlayTo w0 w' D n x w2) (ho : Ext w w') : PlayTo w0 w D n x w2 := by
 obtain ⟨D2, h1, h2⟩ := h
 exact ⟨D2, h1, Only.after ho h2.1, fun i e => (h2.2 i e).imp id (fun e => Nat.le_trans ho.size e)⟩
end
set_option maxRecDepth 100000 in
set_option maxHeartbeats 8000000 in
theorem playNew_any (w : World) (P : Nat → Addr) (hV : PV w P [1, 2, 3, 4, 5, 6, 7, 8, 9, 10, 11]) : Calls Tryz.prog 77 #[] w (fun e w' => e = .returned (PTR (w.heap.size + 6)) ∧ ∃ D, PlayAt w w' D w.heap.size ⟨[], [], []⟩) := by
 have HV := Lib.hid hV
 clear hV
 go_enter Tryz.func77, Tryz.ntmps77
 go_wp2_with fail
 refine (yardNew_any 8 w P (HV.out.errs.sub (by decide))).mono ?_
 rintro e w1 (⟨h, _⟩ | ⟨k, hk, rfl, hy, hs⟩)
 ·omega
 obtain rfl : k = 8 := by omega
 generalize (fun i => w.heap.size ≤ i ∧ i < w.heap.size + 7) = D at hy
 obtain ⟨n, hn⟩ : ∃ n, n = w.heap.size := ⟨_, rfl⟩
 rw [← hn] at hy ⊢
 have HY := Lib.hid hy
 have HNE := Lib.hid hn
 clear hy hn hs hk
 go_wp2_with fail
 refine (playSheet_any w1).mono ?_
 rintro e w2 ⟨v, rfl, hr, ho⟩
 have hru := yardRules_any P v (HY.out.grow ho) hr play_sm (HV.out.ext (HY.out.ext.then ho))
 have HRU := Lib.hid hru
 obtain ⟨a2, c2, rfl, _, _, _⟩ := hr
 clear ho hru
 go_wp2_with fail
 refine HRU.out.mono ?_
 rintro e w3 ⟨ev, v2, D2, rfl, he, hy3, _⟩
 rw [show rulesY [] playL = playL from if_pos play_of] at hy3
 have HP : Hid (∃ D, PlayAt w w3 D n ⟨[], [], []⟩) := Lib.hid ⟨_, ⟨_, _, hy3⟩, PSok.start⟩
 clear he hy3 HRU HY
 go_wp2_with fail
 go_ret
 rw [← HNE.out]
 exact ⟨rfl, HP.out⟩
end Go.Proofs.YtnmhaipjfpongacGreatDoor

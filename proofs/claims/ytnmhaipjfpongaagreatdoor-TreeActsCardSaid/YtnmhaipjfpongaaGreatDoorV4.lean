/- Package tree: Put. No condition but that the tree is one, and lengths. -/
import Derived.Test.YtnmhaipjfpongaaGreatDoorV3
import Derived.Test.YtnmhaipjfpongaaGreatDoorQ8
import Derived.Test.YtnmhaipjfpongaaGreatDoorB1
import Derived.Laws.IdiomRangeMap
import Derived.Maps.RangeRun
namespace Go.Proofs.YtnmhaipjfpongaaGreatDoor
open Go.ChangeShapes Go.WideShapes Go.ChangeAt Go.RowKit
open Go.MapKept (Stamped)
open Go.ChangeMaps (setBlock)

/-- An error by its number; 0: none. -/
def errC (P : Nat → Addr) (c : Nat) : Value := if c = 0 then .nilIface else errV (P (c - 1))

def keyB : Value → B
  | .string s => s.data.toList
  | _ => []

def near (p s : B) : Bool := aboveB p s || aboveB s p

theorem clash_of {es : Array MapEntry} {L : FL} {p : B} (hp : (es.toList.map fun e => (e.key, e.val)).Perm (L.map fun q => (S q.1, S q.2))) : (es.toList.any fun e => near p (keyB e.key)) = clash L p := by
  have h1 : (es.toList.map fun e => keyB e.key).Perm (L.map (·.1)) := by
    have h1 := hp.map (fun q : Value × Value => keyB q.1)
    rw [List.map_map, List.map_map] at h1
    have e2 : ((fun q : Value × Value => keyB q.1) ∘ fun p : B × B => (S p.1, S p.2)) = (·.1) := by
      funext q
      simp [keyB]
    rw [e2] at h1
    exact h1
  have e1 : (es.toList.any fun e => near p (keyB e.key)) = (es.toList.map fun e => keyB e.key).any (near p) := by rw [List.any_map]; rfl
  have e2 : clash L p = (L.map (·.1)).any (near p) := by rw [List.any_map]; rfl
  rw [e1, e2, Bool.eq_iff_iff, List.any_eq_true, List.any_eq_true]
  constructor
  · rintro ⟨x, hx, h⟩; exact ⟨x, h1.mem_iff.1 hx, h⟩
  · rintro ⟨x, hx, h⟩; exact ⟨x, h1.mem_iff.2 hx, h⟩

theorem keyOf_entry {es : Array MapEntry} {L : FL} (hp : (es.toList.map fun e => (e.key, e.val)).Perm (L.map fun q => (S q.1, S q.2))) {e : MapEntry} (he : e ∈ es.toList) : ∃ q ∈ L, e.key = S q.1 ∧ e.val = S q.2 := by
  have := hp.mem_iff.1 (List.mem_map.2 ⟨e, he, rfl⟩)
  obtain ⟨q, hq, e1⟩ := List.mem_map.1 this
  exact ⟨q, hq, (Prod.mk.inj e1).1.symm, (Prod.mk.inj e1).2.symm⟩

theorem ba_slash (a : B) : ((⟨a.toArray⟩ : ByteArray) ++ ⟨#[47]⟩) = ⟨(a ++ [47]).toArray⟩ := by
  rw [show (⟨#[47]⟩ : ByteArray) = ⟨([47] : B).toArray⟩ from rfl]
  exact ba_app a [47]

/-- A step of a range over a map: the world behind it is opaque. -/
theorem next_step {P : Program} {w0 w : World} (hx : Ext w0 w) {ty : TypeId} {r bm clock : Nat} (hr0 : w0.heap.size ≤ r) {seen : Array Nat} {es : Array MapEntry} (hr : w.heap[r]? = some (.mapIter (some bm) clock seen clock)) (hb : w.heap[bm]? = some (.map es clock)) (hbr : bm ≠ r) (hst : Stamped es clock) :
    ((leftOf es seen).size = 0 ∧ (Instr.next (.pointer (some ⟨r, 0, none⟩)) false ty).run P w = .ok (.tuple #[.bool false]) w) ∨
    ∃ e ∈ (leftOf es seen).toList, ∃ w1 : World, Ext w0 w1 ∧ w1.heap[r]? = some (.mapIter (some bm) clock (seen.push e.born) clock) ∧ w1.heap[bm]? = some (.map es clock) ∧
      (Instr.next (.pointer (some ⟨r, 0, none⟩)) false ty).run P w = .ok (.tuple #[.bool true, e.key, e.val]) w1 ∧ (Instr.entry (.pointer (some ⟨r, 0, none⟩))).run P w1 = .ok (.tuple #[e.key, e.val]) w1 := by
  rcases run_next_at (P := P) w ty r bm clock clock seen es clock hr hb hst.1 (Nat.le_refl _) with h | ⟨e, he, w1, hw, hrun⟩
  · exact .inl h
  · have hx1 : Ext w0 w1 := by rcases hw with rfl | rfl; exact hx; exact hx.thenDrew
    have hh1 : w1.heap = w.heap := by rcases hw with rfl | rfl <;> rfl
    have hlr : r < w1.heap.size := by rw [hh1]; exact lt_of_heap hr
    have hr1 : (setBlock w1 r (.mapIter (some bm) clock (seen.push e.born) clock)).heap[r]? = some (.mapIter (some bm) clock (seen.push e.born) clock) := by
      simp [setBlock, hlr]
    have hb1 : (setBlock w1 r (.mapIter (some bm) clock (seen.push e.born) clock)).heap[bm]? = some (.map es clock) := by
      have : w1.heap[bm]? = some (.map es clock) := by rw [hh1]; exact hb
      simp only [setBlock]
      rw [Array.getElem?_setIfInBounds_ne (Ne.symm hbr)]
      exact this
    refine .inr ⟨e, he, _, ?_, hr1, hb1, hrun, run_entry_at _ r bm clock seen es clock e hr1 hb1 (mem_left he).1 hst.2.1⟩
    exact hx1.trans (only_setBlock w1 r _) (fun _ _ h => h) (fun i hi h => absurd h (by omega))

theorem iterSeen_of {w : World} {r : Nat} {a : Option Nat} {b c : Nat} {s : Array Nat} (h : w.heap[r]? = some (.mapIter a b s c)) : w.iterSeen r = s := by
  unfold World.iterSeen
  rw [h]

def PutIs (w : World) (P : Nat → Addr) (b mb : Nat) (L : FL) (p x : B) (e : Ending) (w' : World) : Prop :=
  e = .returned (errC P (putCode L p x)) ∧ TreeAt w' b mb (putT L p x) ∧ Only (fun i => i = mb) w w'

theorem PutIs.fails {w w' : World} {P : Nat → Addr} {b mb : Nat} {L : FL} {p x : B} {c : Nat} (h : TreeAt w b mb L) (hc : putCode L p x = c) (h0 : c ≠ 0) (ho : Ext w w') : PutIs w P b mb L p x (.returned (errV (P (c - 1)))) w' := by
  refine ⟨by rw [hc]; unfold errC; rw [if_neg h0], ?_, Only.of_ext ho⟩
  have : putT L p x = L := by unfold putT; rw [hc, if_neg h0]
  rw [this]
  exact h.ext ho

set_option maxRecDepth 100000 in
set_option maxHeartbeats 1000000 in
theorem put_bad (w : World) (P : Nat → Addr) (b mb : Nat) (L : FL) (p x : B) (h : TreeAt w b mb L) (hs : Sents w P) (hm : HasMax w) (hp : p.length ≤ 999999) (hk : pathOk p = false) :
    Calls Tryz.prog 17 #[.pointer (some ⟨b, 0, none⟩), S p, S x] w (PutIs w P b mb L p x) := by
  have HC := check_any w p (P 3) (by omega) hm (hs.var 3 _ rfl)
  rw [hk, if_neg (by decide)] at HC
  have HC := Lib.hid HC
  have hcode : putCode L p x = 4 := by unfold putCode; rw [hk, if_neg (by decide)]
  have HK := Lib.hid hcode
  have H := Lib.hid h
  clear h hs hm hp hk hcode
  go_enter Tryz.func17, Tryz.ntmps17
  go_wp2_with (go_at_call 48; refine HC.out.mono ?_; rintro e w1 ⟨rfl, ho⟩)
  go_ret
  exact PutIs.fails H.out HK.out (by decide) ho

set_option maxRecDepth 100000 in
set_option maxHeartbeats 1000000 in
theorem put_long (w : World) (P : Nat → Addr) (b mb : Nat) (L : FL) (p x : B) (h : TreeAt w b mb L) (hs : Sents w P) (hm : HasMax w) (hp : p.length ≤ 999999) (hk : pathOk p = true) (hx : 2000 < x.length) :
    Calls Tryz.prog 17 #[.pointer (some ⟨b, 0, none⟩), S p, S x] w (PutIs w P b mb L p x) := by
  have HC := check_any w p (P 3) (by omega) hm (hs.var 3 _ rfl)
  rw [hk, if_pos rfl] at HC
  have HC := Lib.hid HC
  have hcode : putCode L p x = 2 := by unfold putCode; rw [hk, if_pos rfl, if_pos hx]
  have HK := Lib.hid hcode
  have H := Lib.hid h
  have HE := Lib.hid (hs.var 1 _ rfl)
  have hz : (2000 : Int) < (x.length : Int) := by omega
  clear h hs hm hp hk hcode hx
  go_enter Tryz.func17, Tryz.ntmps17
  go_wp2_with fail
  refine HC.out.mono ?_
  rintro e w1 ⟨rfl, ho⟩
  have hE := ho.cellOf HE.out (fun h => h)
  have HO := Lib.hid ho
  clear ho
  go_wp2_with fail
  go_ret
  exact PutIs.fails H.out HK.out (by decide) HO.out
end Go.Proofs.YtnmhaipjfpongaaGreatDoor

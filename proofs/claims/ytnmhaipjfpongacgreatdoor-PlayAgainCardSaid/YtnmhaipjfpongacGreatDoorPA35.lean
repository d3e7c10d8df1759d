/- Texts of this seat laid together for one claim: Z11, Bm1, Z20, Z19. No condition of its own: what each proves stands with its theorems. -/
import Derived.Test.YtnmhaipjfpongacGreatDoorPA32
import Derived.Test.YtnmhaipjfpongacGreatDoorPA21
import Derived.Test.YtnmhaipjfpongacGreatDoorPA26
import Derived.Test.YtnmhaipjfpongacGreatDoorPA23
import Derived.Test.YtnmhaipjfpongacGreatDoorPA25
import Derived.Test.YtnmhaipjfpongacGreatDoorPA34
namespace Go.Proofs.YtnmhaipjfpongacGreatDoor
open Go.ChangeShapes Go.WideShapes Go.ChangeAt Go.RowKit

def stateB : Nat → B
 | 1 => [119, 97, 105, 116, 115]
 | 2 => [100, 111, 110, 101]
 | 3 => [102, 97, 105, 108, 101, 100]
 | 4 => [108, 101, 102, 116]
 | _ => []
def stateZ (E : BE) (s : BS) (z : Int) : B := if 0 ≤ z ∧ z.toNat ∈ E.sm then stateB (s.st z.toNat) else []
theorem stateZ_in {E : BE} {s : BS} {i : Nat} (hi : i ∈ E.sm) : stateZ E s (i : Int) = stateB (s.st i) := by
 unfold stateZ
 rw [if_pos ⟨by omega, by rw [Int.toNat_natCast]; exact hi⟩, Int.toNat_natCast]
theorem stateZ_out {E : BE} {s : BS} {z : Int} (h : ∀ k ∈ E.sm, (k : Int) ≠ z) : stateZ E s z = [] := by
 unfold stateZ
 exact if_neg fun ⟨h1, h2⟩ => h _ h2 (by omega)
theorem z_cases (E : BE) (z : Int) : (∃ i : Nat, z = (i : Int) ∧ i ∈ E.sm) ∨ ∀ k ∈ E.sm, (k : Int) ≠ z := by
 by_cases h : ∃ i : Nat, z = (i : Int) ∧ i ∈ E.sm
 ·exact .inl h
 ·exact .inr fun k hk e => h ⟨k, e.symm, hk⟩

def RetSt (v : Value) (w : World) (e : Ending) (w' : World) : Prop := e = .returned v ∧ w = w'
section
variable {w : World} {P : Nat → Addr} {base : Nat} {E : BE} {K : BK} {s : BS}

set_option maxRecDepth 100000 in
set_option maxHeartbeats 2000000 in
theorem state_any (h : BldAt w P base E K s) (hI : BInv E s) (z : Int) :
  Calls Tryz.prog 69 #[PTR K.b, I z] w (RetE (S (stateZ E s z)) w) := by
 have c1 := (h.cell 1).trans (rfl : _ = some (Value.map (some K.lb)))
 have hlk := KMap.look (P := Tryz.prog) keyOk_int h.steps Tryz.underlying184 Tryz.underlying3 (z := .pointer none) (by kernel_rfl) z
 rcases z_cases E z with ⟨i, rfl, hi⟩ | hz
 ·rw [steps_lookup hi] at hlk
  simp only [Option.isSome_some] at hlk
  rw [stateZ_in hi]
  have s4 := (h.stepCell hi 4).trans (rfl : _ = some (IN (s.st i)))
  have s4' := fun ob => (Only.alloc (fun _ => False) w ob).cellOf s4 (fun h => h)
  have hr := hI.rng i hi
  clear h hI hi
  rcases (show s.st i = 1 ∨ s.st i = 2 ∨ s.st i = 3 ∨ s.st i = 4 by omega) with e | e | e | e
  all_goals
   rw [e] at s4 s4' ⊢
   clear e hr
   go_enter Tryz.func69, Tryz.ntmps69
   go_wp2_with fail
   go_ret
   exact ⟨rfl, Only.alloc _ _ _⟩
 ·rw [steps_miss hz] at hlk
  simp only [Option.isSome_none] at hlk
  rw [stateZ_out hz]
  clear h hI hz
  go_enter Tryz.func69, Tryz.ntmps69
  go_wp2_with fail
  go_ret
  exact ⟨rfl, Only.refl _ _⟩

noncomputable def resZ (E : BE) (s : BS) (z : Int) : B × Bool := if 0 ≤ z ∧ z.toNat ∈ E.sm ∧ s.st z.toNat = 2 then ((E.ans z.toNat).1, true) else ([], false)
theorem resZ_in {E : BE} {s : BS} {i : Nat} (hi : i ∈ E.sm) (h2 : s.st i = 2) : resZ E s (i : Int) = ((E.ans i).1, true) := by
 unfold resZ
 rw [if_pos ⟨by omega, by rw [Int.toNat_natCast]; exact hi, by rw [Int.toNat_natCast]; exact h2⟩, Int.toNat_natCast]
theorem resZ_not {E : BE} {s : BS} {i : Nat} (h2 : s.st i ≠ 2) : resZ E s (i : Int) = ([], false) := by
 unfold resZ
 exact if_neg fun ⟨_, _, h3⟩ => h2 (by rwa [Int.toNat_natCast] at h3)
theorem resZ_out {E : BE} {s : BS} {z : Int} (h : ∀ k ∈ E.sm, (k : Int) ≠ z) : resZ E s z = ([], false) := by
 unfold resZ
 exact if_neg fun ⟨h1, h2, _⟩ => h _ h2 (by omega)

set_option maxRecDepth 100000 in
set_option maxHeartbeats 2000000 in
theorem result_any (h : BldAt w P base E K s) (z : Int) :
  Calls Tryz.prog 68 #[PTR K.b, I z] w (RetSt (.tuple #[S (resZ E s z).1, .bool (resZ E s z).2]) w) := by
 have c1 := (h.cell 1).trans (rfl : _ = some (Value.map (some K.lb)))
 have hlk := KMap.look (P := Tryz.prog) keyOk_int h.steps Tryz.underlying184 Tryz.underlying3 (z := .pointer none) (by kernel_rfl) z
 rcases z_cases E z with ⟨i, rfl, hi⟩ | hz
 ·rw [steps_lookup hi] at hlk
  simp only [Option.isSome_some] at hlk
  have s4 := (h.stepCell hi 4).trans (rfl : _ = some (IN (s.st i)))
  have s6 := (h.stepCell hi 6).trans (rfl : _ = some (outC E s i))
  by_cases h2 : s.st i = 2
  ·rw [resZ_in hi h2]
   unfold outC at s6
   rw [if_pos h2] at s6
   rw [h2] at s4
   clear h hi h2
   go_enter Tryz.func68, Tryz.ntmps68
   go_wp2_with fail
   go_ret2
   exact ⟨rfl, rfl⟩
  ·rw [resZ_not h2]
   have hne : (((s.st i : Nat) : Int) != 2) = true := by rw [bne_iff_ne]; omega
   clear h hi h2 s6
   go_enter Tryz.func68, Tryz.ntmps68
   go_wp2_with fail
   go_ret2
   exact ⟨rfl, rfl⟩
 ·rw [steps_miss hz] at hlk
  simp only [Option.isSome_none] at hlk
  rw [resZ_out hz]
  clear h hz
  go_enter Tryz.func68, Tryz.ntmps68
  go_wp2_with fail
  go_ret2
  exact ⟨rfl, rfl⟩
end
end Go.Proofs.YtnmhaipjfpongacGreatDoor

namespace Go.Proofs.YtnmhaipjfpongacGreatDoor

def readyM (l : List Rule) (g : Nat → Nat) (t i : Nat) : Bool := (List.range t).all fun k => !needB l i k || g k == 2
theorem readyM_step (l : List Rule) (g : Nat → Nat) (t i : Nat) : readyM l g (t + 1) i = (readyM l g t i && (!needB l i t || g t == 2)) := by
 unfold readyM
 rw [List.range_succ, List.all_append]
 simp
section
variable {E : BE} {o : List Nat} {is : Nat → Bool} {s : BS}
theorem readyM_end (h : BWell E o is) {i : Nat} (hi : i ∈ E.sm) (h1 : s.st i = 1) : readyM E.l (mst E s) E.l.length i = readyP E s i := by
 rw [Bool.eq_iff_iff, ready_iff]
 unfold readyM
 rw [List.all_eq_true]
 constructor
 ·refine fun h2 => ⟨h1, fun k hk hn => ?_⟩
  have := h2 k (List.mem_range.2 (h.lt k hk))
  rw [show needB E.l i k = true from hn, mst_in hk] at this
  simpa using this
 ·rintro ⟨_, h2⟩ k hk
  have hkl := List.mem_range.1 hk
  cases hn : needB E.l i k with
  | false => rfl
  | true =>
   have hks := h.clos i hi k hkl hn
   rw [mst_in hks, h2 k hks hn]
   rfl
def readyMB (E : BE) (s : BS) (i : Nat) : Bool := decide (i ∈ E.sm) && readyP E s i
end

def ones (n : Nat) (g : Nat → Nat) : Nat := (List.range n).countP fun x => g x == 1
theorem ones_less {n : Nat} {f g : Nat → Nat} (hd : ∀ x, g x = 1 → f x = 1) {k : Nat} (hk : k < n) (h1 : g k ≠ 1) (h2 : f k = 1) : ones n g + 1 ≤ ones n f :=
 count_more (n := n) (f := fun x => g x == 1) (g := fun x => f x == 1) (fun x _ h => beq_iff_eq.2 (hd x (beq_iff_eq.1 h))) hk (beq_eq_false_iff_ne.2 h1) (beq_iff_eq.2 h2)
theorem ones_le {n : Nat} {f g : Nat → Nat} (hd : ∀ x, g x = 1 → f x = 1) : ones n g ≤ ones n f :=
 List.countP_mono_left fun x _ h => beq_iff_eq.2 (hd x (beq_iff_eq.1 h))
def Closed1 (n : Nat) (nd : Nat → Nat → Bool) (f : Nat → Nat) : Prop := ∀ a b, a < n → b < n → f a = 1 → nd a b = true → f b < 3
structure FRnd (n : Nat) (nd : Nat → Nat → Bool) (f g : Nat → Nat) (k j : Nat) : Prop where
 keep : ∀ x, f x ≠ 1 → g x = f x
 did : ∀ a b, a < n → b < n → (a < k ∨ (a = k ∧ b < j)) → 3 ≤ f b → nd a b = true → g a ≠ 1
 cnt : (∀ x, g x = f x) ∨ (ones n g + 1 ≤ ones n f ∧ ¬ Closed1 n nd f)
section
variable {n : Nat} {nd : Nat → Nat → Bool} {f g f0 : Nat → Nat} {k j r : Nat}
theorem FRnd.start (n : Nat) (nd : Nat → Nat → Bool) (f : Nat → Nat) : FRnd n nd f f 0 0 := ⟨fun _ _ => rfl, fun a b _ _ h => by omega, .inl fun _ => rfl⟩
theorem FRnd.one (h : FRnd n nd f g k j) (x : Nat) (hx : g x = 1) : f x = 1 := Classical.byContradiction fun hn => hn (by rw [← h.keep x hn]; exact hx)
theorem FRnd.skip (h : FRnd n nd f g k j) (hn : ¬ (g k = 1 ∧ 3 ≤ g j ∧ nd k j = true)) : FRnd n nd f g k (j + 1) :=
 ⟨h.keep, fun a b ha hb hab h3 hnd h1 => by
  by_cases he : a = k ∧ b = j
  ·obtain ⟨rfl, rfl⟩ := he
   exact hn ⟨h1, by rw [h.keep b (by omega)]; exact h3, hnd⟩
  ·exact h.did a b ha hb (by omega) h3 hnd h1, h.cnt⟩
theorem FRnd.mark (h : FRnd n nd f g k j) (h1 : g k = 1) (h3 : 3 ≤ g j) (hnd : nd k j = true) (hk : k < n) (hj : j < n) {g' : Nat → Nat} (hg : ∀ x, g' x = if x = k then 4 else g x) : FRnd n nd f g' k (j + 1) := by
 have hf1 := h.one k h1
 have hd : ∀ x, g' x = 1 → g x = 1 := fun x hx => by
  rw [hg] at hx
  by_cases e : x = k
  ·rw [if_pos e] at hx; omega
  ·rw [if_neg e] at hx; exact hx
 have hk4 : g' k = 4 := by rw [hg, if_pos rfl]
 refine ⟨fun x hx => ?_, fun a b ha hb hab h3' hnd' he => ?_, ?_⟩
 ·rw [hg, if_neg (fun e => hx (by rw [e]; exact hf1))]; exact h.keep x hx
 ·by_cases e : a = k
  ·subst e; omega
  ·exact h.did a b ha hb (by omega) h3' hnd' (hd a he)
 ·right
  have hl := ones_less (n := n) hd hk (by omega) h1
  rcases h.cnt with hs | ⟨hc, hcl⟩
  ·refine ⟨Nat.le_trans hl (ones_le fun x hx => by rw [← hs x]; exact hx), fun hc => ?_⟩
   have := hc k j hk hj hf1 hnd
   rw [← hs j] at this
   omega
  ·exact ⟨by omega, hcl⟩
theorem FRnd.line (h : FRnd n nd f g k n) : FRnd n nd f g (k + 1) 0 := ⟨h.keep, fun a b ha hb hab => h.did a b ha hb (by omega), h.cnt⟩
structure FRds (n : Nat) (nd : Nat → Nat → Bool) (f0 f : Nat → Nat) (r : Nat) : Prop where
 keep : ∀ x, f0 x ≠ 1 → f x = f0 x
 cnt : Closed1 n nd f ∨ ones n f + r ≤ ones n f0
theorem FRds.start (n : Nat) (nd : Nat → Nat → Bool) (f : Nat → Nat) : FRds n nd f f 0 := ⟨fun _ _ => rfl, .inr (Nat.le_refl _)⟩
theorem FRds.next (h : FRds n nd f0 f r) (hr : FRnd n nd f g n 0) : FRds n nd f0 g (r + 1) := by
 refine ⟨fun x hx => by rw [hr.keep x (by rw [h.keep x hx]; exact hx), h.keep x hx], ?_⟩
 rcases hr.cnt with hs | ⟨hc, hcl⟩
 ·refine .inl fun a b ha hb h1 hn => ?_
  refine Classical.byContradiction fun h3 => ?_
  exact hr.did a b ha hb (.inl ha) (by rw [← hs b]; omega) hn h1
 ·rcases h.cnt with h | h
  ·exact absurd h hcl
  ·right; omega
theorem FRds.done (h : FRds n nd f0 f n) {i : Nat} (hi : i < n) (h0 : f0 i ≠ 1) : Closed1 n nd f := by
 rcases h.cnt with h | h
 ·exact h
 ·exfalso
  have h2 := ones_less (n := n) (f := fun _ => 1) (g := f0) (fun _ _ => rfl) hi h0 rfl
  have h3 : ones n (fun _ => 1) ≤ n := by
   unfold ones
   exact Nat.le_trans List.countP_le_length (Nat.le_of_eq List.length_range)
  omega
end
def FOk (E : BE) (s : BS) (g : Nat → Nat) : Prop := ∀ x, g x = mst E s x ∨ (mst E s x = 1 ∧ g x = 4 ∧ LeftP E s x)
theorem FOk.start (E : BE) (s : BS) : FOk E s (mst E s) := fun _ => .inl rfl
theorem FOk.mark {E : BE} {s : BS} {g g' : Nat → Nat} (h : FOk E s g) {k j : Nat} (h1 : g k = 1) (h3 : 3 ≤ g j) (hnd : needB E.l k j = true) (hg : ∀ x, g' x = if x = k then 4 else g x) : FOk E s g' := fun x => by
 by_cases e : x = k
 ·subst e
  right
  have hx1 : mst E s x = 1 := by
   rcases h x with h2 | ⟨_, h2, _⟩
   ·rw [← h2]; exact h1
   ·omega
  have hin : ∀ y, mst E s y ≠ 0 → y ∈ E.sm := fun y hy => Classical.byContradiction fun hn => hy (mst_out hn)
  have hxs := hin x (by omega)
  have hs1 : s.st x = 1 := by rw [← mst_in (s := s) hxs]; exact hx1
  refine ⟨hx1, by rw [hg, if_pos rfl], ?_⟩
  rcases h j with h2 | ⟨h2, _, h4⟩
  ·have hjs := hin j (by omega)
   exact .one hxs hs1 hjs hnd (by rw [← mst_in (s := s) hjs]; omega)
  ·exact .more hxs hs1 (hin j (by omega)) hnd h4
 ·rw [hg, if_neg e]; exact h x
theorem fok_end {E : BE} {s : BS} {g : Nat → Nat} (hlt : ∀ i ∈ E.sm, i < E.l.length) (h : FOk E s g) (hc : Closed1 E.l.length (needB E.l) g) : ∀ x, g x = mst E (spreadP E s) x := by
 have key : ∀ x, LeftP E s x → g x ≠ 1 := fun x hl => by
  induction hl with
  | @one x k hx h1 hk hn h3 =>
   intro e
   have := hc x k (hlt x hx) (hlt k hk) e hn
   rcases h k with h2 | ⟨_, h2, _⟩
   ·rw [mst_in hk] at h2; omega
   ·omega
  | @more x k hx h1 hk hn hl ih =>
   intro e
   have := hc x k (hlt x hx) (hlt k hk) e hn
   rcases h k with h2 | ⟨_, h2, _⟩
   ·rw [mst_in hk, hl.mem.2] at h2; exact ih h2
   ·omega
 intro x
 by_cases hx : x ∈ E.sm
 ·rw [mst_in hx]
  by_cases hl : LeftP E s x
  ·rw [spread_left hl]
   rcases h x with h2 | ⟨_, h2, _⟩
   ·rw [mst_in hx, hl.mem.2] at h2; exact absurd h2 (key x hl)
   ·exact h2
  ·rw [spread_same hl, ← mst_in (s := s) hx]
   rcases h x with h2 | ⟨_, _, h2⟩
   ·exact h2
   ·exact absurd h2 hl
 ·rw [mst_out hx]
  rcases h x with h2 | ⟨_, _, h2⟩
  ·rw [h2, mst_out hx]
  ·exact absurd h2.mem.1 hx
end Go.Proofs.YtnmhaipjfpongacGreatDoor

namespace Go.Proofs.YtnmhaipjfpongacGreatDoor
open Go.ChangeShapes Go.WideShapes Go.ChangeAt Go.RowKit

def ranN (E : BE) (s : BS) : Nat := (E.sm.filter (ranP s)).length
theorem ranN_le (E : BE) (s : BS) : ranN E s ≤ E.sm.length := List.length_filter_le _ _
theorem ranN_more {E : BE} {s s' : BS} {i : Nat} (hn : E.sm.Nodup) (hi : i ∈ E.sm) (h0 : ranP s i = false) (h : ∀ k, ranP s' k = (decide (k = i) || ranP s k)) : ranN E s + 1 ≤ ranN E s' := by
 unfold ranN
 have h1 : (i :: E.sm.filter (ranP s)).Nodup := List.nodup_cons.2 ⟨(fun hm => by have := (List.mem_filter.1 hm).2; rw [h0] at this; cases this), hn.filter _⟩
 have := nodup_len (b := E.sm.filter (ranP s')) h1 fun x hx => by
  rcases List.mem_cons.1 hx with rfl | hx
  ·exact List.mem_filter.2 ⟨hi, by rw [h]; simp⟩
  ·obtain ⟨h2, h3⟩ := List.mem_filter.1 hx
   exact List.mem_filter.2 ⟨h2, by rw [h, h3]; simp⟩
 simpa using this
structure OnceW (E : BE) (o : List Nat) (is : Nat → Bool) (l : List Rule) : Prop where
 well : BWell E o is
 rules : E.l = l
 all : E.sm = List.range l.length
theorem OnceW.mem {E : BE} {o : List Nat} {is : Nat → Bool} {l : List Rule} (h : OnceW E o is l) {i : Nat} : i ∈ E.sm ↔ i < l.length := by rw [h.all, List.mem_range]
theorem OnceW.nd {E : BE} {o : List Nat} {is : Nat → Bool} {l : List Rule} (h : OnceW E o is l) (i k : Nat) : E.nd i k = needB l i k := by unfold BE.nd; rw [h.rules]

structure OnceAt (wB wr : World) (P : Nat → Addr) (base : Nat) (E : BE) (K : BK) (rb n : Nat) (s : BS) (f : Nat → Bool) : Prop where
 bld : BldAt wr P base E K s
 inv : BInv E s
 only : Only (fun i => InSteps E K i ∨ i = rb) wB wr
 tab : TabAt wr rb 4 n (fun k => .bool (f k))
 apart : ¬ InBld E K rb
section
variable {wB wr w' : World} {P : Nat → Addr} {base : Nat} {E : BE} {K : BK} {rb n : Nat} {s : BS} {f : Nat → Bool}
theorem OnceAt.grow (h : OnceAt wB wr P base E K rb n s f) (ho : Ext wr w') : OnceAt wB w' P base E K rb n s f := ⟨h.bld.ext ho, h.inv, h.only.ext ho, h.tab.ext ho, h.apart⟩
theorem OnceAt.run (h : OnceAt wB wr P base E K rb n s f) {s' : BS} (hb : BldAt w' P base E K s') (hi : BInv E s') (ho : Only (InSteps E K) wr w') : OnceAt wB w' P base E K rb n s' f :=
 ⟨hb, hi, h.only.then (ho.mono fun _ _ h => .inl h), h.tab.later ho (fun e => h.apart e.bld), h.apart⟩
theorem OnceAt.mark (h : OnceAt wB wr P base E K rb n s f) (k : Nat) {g : Nat → Bool} (hg : ∀ i, i < n → g i = (decide (i = k) || f i)) : OnceAt wB (wr.setCell ⟨rb, k, none⟩ (.bool true)) P base E K rb n s g := by
 have ho : Only (fun i => i = rb) wr (wr.setCell ⟨rb, k, none⟩ (.bool true)) := Only.set _ rfl
 refine ⟨h.bld.later ho (fun i hi e => h.apart (e ▸ hi)), h.inv, h.only.then (ho.mono fun _ _ h => .inr h), (h.tab.set k (.bool true)).congr fun i hi => ?_, h.apart⟩
 rw [hg i hi]
 by_cases e : i = k
 ·rw [if_pos e, decide_eq_true e]; rfl
 ·rw [if_neg e, decide_eq_false e]; rfl
theorem OnceAt.same (h : OnceAt wB wr P base E K rb n s f) {g : Nat → Bool} (hg : ∀ i, i < n → f i = g i) : OnceAt wB wr P base E K rb n s g := ⟨h.bld, h.inv, h.only, h.tab.congr fun i hi => by rw [hg i hi], h.apart⟩
end
end Go.Proofs.YtnmhaipjfpongacGreatDoor

namespace Go.Proofs.YtnmhaipjfpongacGreatDoor
open Go.ChangeShapes Go.WideShapes Go.ChangeAt Go.RowKit

theorem need_rng {l : List Rule} (hn : (l.map Rule.out).Nodup) : needL l (l.map Rule.out) = List.range l.length := by
 unfold needL
 refine List.filter_eq_self.2 fun i hi => reachB_iff.2 (.root ?_)
 rw [needKs_all hn]; exact hi

theorem rule_word {r : Rule} (h : ruleCode r = 0) : r.word.length ≤ 100 := by
 have h2 : actCode r.kind r.word r.ins.length = 0 := by
  unfold ruleCode at h
  split at h
  ·cases h
  ·split at h
   ·rename_i h3; exact absurd h h3
   ·rename_i h3; exact Classical.byContradiction h3
 obtain ⟨k, _, _, _, h5⟩ := actCode_ok h2
 exact h5

section
variable {wB wr : World} {P : Nat → Addr} {base : Nat} {E : BE} {K : BK} {rb n : Nat} {s : BS} {o : List Nat} {is : Nat → Bool}
def RanIs (E : BE) (s s' : BS) (z : Int) (c : Nat) : Prop :=
 (c ≠ 0 ∧ s' = s ∧ ∀ i ∈ E.sm, (i : Int) = z → readyP E s i = false) ∨ (c = 0 ∧ ∃ i ∈ E.sm, z = (i : Int) ∧ readyP E s i = true ∧ ∀ k, ranP s' k = (decide (k = i) || ranP s k))
def OncePost (wB : World) (P : Nat → Addr) (base : Nat) (E : BE) (K : BK) (rb n : Nat) (s : BS) (z : Int) (e : Ending) (w' : World) : Prop :=
 ∃ (b : Bool) (c : Nat) (s' : BS), e = .returned (.tuple #[.bool b, errC P c]) ∧ OnceAt wB w' P base E K rb n s' (ranP s) ∧ RanIs E s s' z c
theorem OnceAt.runs (h : OnceAt wB wr P base E K rb n s (ranP s)) (hc : K.cp = .pointer none) (hW : BWell E o is) (hL : BLens E) (hV : PV wr P [2, 4, 5, 9, 10, 11]) (z : Int) :
  Calls Tryz.prog 56 #[PTR K.b, I z] wr (OncePost wB P base E K rb n s z) := by
 refine (runN_any h.bld hc hW h.inv hL hV z).mono ?_
 rintro e w' ⟨rfl, hb, ho⟩
 by_cases hz : ∃ i : Nat, i ∈ E.sm ∧ (i : Int) = z ∧ readyP E s i = true
 ·obtain ⟨i, hi, rfl, hr⟩ := hz
  obtain ⟨b, C', e1⟩ := run_ready (C := none) hi hr
  rw [runZ_in hi, e1] at hb
  rw [runZ_in hi, e1]
  exact ⟨b, 0, _, rfl, h.run hb (hW.step h.inv hi hr b) ho, .inr ⟨rfl, i, hi, rfl, hr, fun k => ran_step k⟩⟩
 ·have h1 : ∃ c, runZ E none s z = ((false, c), s, none) ∧ c ≠ 0 := by
   by_cases hin : ∃ i : Nat, i ∈ E.sm ∧ (i : Int) = z
   ·obtain ⟨i, hi, rfl⟩ := hin
    rw [runZ_in hi]
    exact run_not (fun h2 => hz ⟨i, h2.1, rfl, h2.2⟩)
   ·exact ⟨6, runZ_out (fun k hk e => hin ⟨k, hk, e⟩), by decide⟩
  obtain ⟨c, e1, hc0⟩ := h1
  rw [e1] at hb
  rw [e1]
  exact ⟨false, c, s, rfl, h.run hb h.inv ho, .inl ⟨hc0, rfl, fun i hi e2 => by
   cases hr : readyP E s i with
   | false => rfl
   | true => exact absurd ⟨i, hi, e2, hr⟩ hz⟩⟩
theorem OnceAt.vars {w : World} (h : OnceAt wB wr P base E K rb n s (ranP s)) (hx : Ext w wB) (hb : w.heap.size ≤ base) (hB : ∀ i, InSteps E K i → base ≤ i) (hr : w.heap.size ≤ rb) : Ext w wr :=
 hx.trans h.only (fun _ _ h => h) (fun i hi e => by
  rcases e with e | e
  ·have := hB i e; omega
  ·omega)

end
theorem BLens.of {l : List Rule} {sm : List Nat} {T : FL} (h : RightS l) (hs : ∀ r ∈ l, ShortR r) (hl : ∀ i ∈ sm, i < l.length) (hn : sm.length ≤ 1000) : BLens ⟨l, sm, T⟩ := by
 have hm : ∀ i ∈ sm, BE.rule ⟨l, sm, T⟩ i ∈ l := fun i hi => List.mem_of_getElem? (BE.rule_at (E := ⟨l, sm, T⟩) (hl i hi))
 exact ⟨hn, fun i hi => by have := (hs _ (hm i hi)).kind; omega, fun i hi => rule_word (h.2.1 _ (hm i hi)), fun i hi => (hs _ (hm i hi)).many⟩
end Go.Proofs.YtnmhaipjfpongacGreatDoor

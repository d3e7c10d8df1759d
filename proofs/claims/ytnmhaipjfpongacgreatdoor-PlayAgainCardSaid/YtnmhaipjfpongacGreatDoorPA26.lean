/- Texts of this seat laid together for one claim: G11, I5, S3, Z28. No condition of its own: what each proves stands with its theorems. -/
import Derived.Test.YtnmhaipjfpongacGreatDoorPA19
import Derived.Test.YtnmhaipjfpongacGreatDoorPA20
import Derived.Test.YtnmhaipjfpongacGreatDoorPA25
namespace Go.Proofs.YtnmhaipjfpongacGreatDoor
open Go.ChangeShapes Go.WideShapes Go.ChangeAt Go.RowKit

theorem enters_Part1 : ∀ args w, (callFunc 164 args).run Tryz.prog w = .ok (.enter 164 args) w := fun args w => by kernel_rfl

theorem any_natP (l : List Nat) (j : Nat) : (l.map fun k : Nat => (k : Int)).any (fun y => (j : Int) == y) = l.contains j := by
 rw [Bool.eq_iff_iff, List.any_eq_true, List.contains_eq_mem, decide_eq_true_eq]
 constructor
 ·rintro ⟨x, hx, e⟩
  obtain ⟨k, hk, rfl⟩ := List.mem_map.1 hx
  rw [beq_iff_eq] at e
  have : j = k := by omega
  rw [this]; exact hk
 ·intro h
  exact ⟨(j : Int), List.mem_map.2 ⟨j, h, rfl⟩, beq_iff_eq.2 rfl⟩

theorem Part1_test (w : World) (bx : Nat) (lv : Value) (l : List Nat) (j : Nat) (hb : w.cell? ⟨bx, 0, none⟩ = some lv) (hr : Rd IN w lv l) :
  Calls Tryz.prog 164 #[I j, .pointer (some ⟨bx, 0, none⟩)] w (RetE (.bool (l.contains j)) w) := by
 have HI := Lib.hid (containsI_any w lv _ (j : Int) hr.ints)
 rw [any_natP] at HI
 generalize l.contains j = q at HI ⊢
 obtain ⟨a, cap, rfl, _, _, _⟩ := hr
 go_enter Tryz.func164, Tryz.ntmps164
 go_wp2_with fail
 refine (HI.out).mono ?_
 rintro e w1 ⟨rfl, rfl⟩
 go_wp2_with fail
 go_ret
 exact ⟨rfl, Only.refl _ _⟩

def partB (l : List Rule) (sm : List Nat) : Option (List Nat) := orderB l.length (needB l) (fun i => sm.contains i)
def partFault (l : List Rule) (sm : List Nat) : Nat × Int := if (partB l sm).isSome then (0, -1) else (9, -1)

set_option maxRecDepth 100000 in
set_option maxHeartbeats 4000000 in
theorem graphPart_any (w : World) (P : Nat → Addr) (l : List Rule) (v sv : Value) (sm : List Nat) (hv : RdR w v l) (hr : RightS l) (hs : ∀ r ∈ l, r.ins.length ≤ 900000) (hsm : Rd IN w sv sm) (hE : Errs w P [8]) :
  Calls Tryz.prog 94 #[v, sv] w (RetOE P (partFault l sm) ((partB l sm).getD []) w) := by
 have HRD := Lib.hid hv
 have HSM := Lib.hid hsm
 have HR := Lib.hid hr
 have HS := Lib.hid hs
 have HEE := Lib.hid hE
 have h40 := hr.1
 obtain ⟨a, cap, rfl, _, _, _⟩ := hv
 obtain ⟨a2, cap2, rfl, _, _, _⟩ := hsm
 have HB0 := Lib.hid ((MapKept.heap_alloc w (.cells #[.slice a2 sm.length cap2] 46 (0, 0))).1)
 have HX0 : Hid (Ext w (w.alloc (.cells #[.slice a2 sm.length cap2] 46 (0, 0)))) := Lib.hid (Only.alloc _ _ _)
 have HED := Lib.hid (edges_any _ l _ (HRD.out.ext HX0.out) HR.out HS.out)
 obtain ⟨F, hF⟩ : ∃ F, F = partFault l sm := ⟨_, rfl⟩
 obtain ⟨O, hO⟩ : ∃ O, O = (partB l sm).getD [] := ⟨_, rfl⟩
 rw [← hF, ← hO]
 unfold partFault at hF
 have HF := Lib.hid hF
 have HO := Lib.hid hO
 clear hF hO hr hs hE
 go_enter Tryz.func94, Tryz.ntmps94
 go_wp2_with fail
 refine HED.out.mono ?_
 rintro e w2 ⟨v2, rfl, hll, ho⟩
 have hb2 := cell_of_heap (ho.heapOf HB0.out (fun h => h)) 0
 have hor := order1_any 164 (.pointer (some ⟨w.heap.size, 0, none⟩)) (fun i => sm.contains i) w2 v2 l.length (needB l) (by omega) hll enters_Part1
  (fun w3 hx i _ => Part1_test w3 w.heap.size _ sm i (hx.cellOf (hb2.trans rfl) (fun h => h)) (HSM.out.ext ((HX0.out.then ho).then hx)))
 change Calls _ _ _ _ (RetOrder (partB l sm) w2) at hor
 have HOR := Lib.hid hor
 have HX2 := Lib.hid (HX0.out.then ho)
 have HLL := Lib.hid hll
 obtain ⟨a3, c3, rfl, _, _, _⟩ := HLL.out
 rw [List.length_map, List.length_range] at HOR ⊢
 clear hor hb2 ho hll
 cases hol : partB l sm with
 | none =>
  have hF2 := HF.out
  have hO2 := HO.out
  rw [hol] at HOR hF2 hO2
  clear HF HO
  have hF3 : F = (9, -1) := hF2
  have hO3 : O = [] := hO2
  subst hF3
  subst hO3
  clear hol hF2 hO2
  go_wp2_with fail
  refine (HOR.out).mono ?_
  rintro e w3 ⟨v3, rfl, hrow, ho⟩
  have HX3 := Lib.hid (HX2.out.then ho)
  have HROW := Lib.hid hrow
  clear hrow ho
  have c0 := (HEE.out.ext HX3.out).var 8 _ (by decide) rfl
  go_wp2_with fail
  go_quiet (fail)
  go_wp2_with fail
  go_ret2
  exact ⟨_, _, rfl, RowI.nil _ _, .inr (.inl ⟨by decide, rfl, rfl⟩), HX3.out.thenDrewN _⟩
 | some o =>
  have hF2 := HF.out
  have hO2 := HO.out
  rw [hol] at HOR hF2 hO2
  clear HF HO
  have hF3 : F = (0, -1) := hF2
  have hO3 : O = o := hO2
  subst hF3
  subst hO3
  clear hol hF2 hO2
  go_wp2_with fail
  refine (HOR.out).mono ?_
  rintro e w3 ⟨v3, rfl, hrow, ho⟩
  have HX3 := Lib.hid (HX2.out.then ho)
  have HROW := Lib.hid hrow
  clear hrow ho
  obtain ⟨a4, c4, rfl, _, _, _⟩ := HROW.out.rd
  go_wp2_with fail
  go_ret2
  exact ⟨_, _, rfl, HROW.out.down HX2.out.size, ErrAt.nil _ _ _, HX3.out⟩
end Go.Proofs.YtnmhaipjfpongacGreatDoor

namespace Go.Proofs.YtnmhaipjfpongacGreatDoor

open Classical in
noncomputable def reachB (l : List Rule) (outs : List B) (i : Nat) : Bool := decide (Reach (needB l) (needKs l outs) i)
open Classical in
theorem reachB_iff {l : List Rule} {outs : List B} {i : Nat} : reachB l outs i = true ↔ Reach (needB l) (needKs l outs) i := by
 unfold reachB
 exact decide_eq_true_iff
noncomputable def needL (l : List Rule) (outs : List B) : List Nat := (List.range l.length).filter (reachB l outs)
theorem mem_needL {l : List Rule} {outs : List B} {i : Nat} : i ∈ needL l outs ↔ i < l.length ∧ Reach (needB l) (needKs l outs) i := by
 unfold needL
 rw [List.mem_filter, List.mem_range, reachB_iff]
theorem needOk_eq {l : List Rule} {outs : List B} {out : List Nat} (h : NeedOk l.length (needB l) (needKs l outs) out) : out = needL l outs := by
 obtain ⟨N, rfl, hN⟩ := h
 unfold needL
 refine List.filter_congr fun i hi => ?_
 rw [Bool.eq_iff_iff, hN i (List.mem_range.1 hi), reachB_iff]
theorem needL_rise (l : List Rule) (outs : List B) : (needL l outs).Pairwise fun x y => x < y := List.pairwise_lt_range.filter _

structure Clo (l : List Rule) (sm : List Nat) : Prop where
 lt : ∀ i ∈ sm, i < l.length
 rise : sm.Pairwise fun x y => x < y
 clos : ∀ i ∈ sm, ∀ k, k < l.length → needB l i k = true → k ∈ sm
theorem Clo.need (l : List Rule) (outs : List B) : Clo l (needL l outs) :=
 ⟨fun _ hi => (mem_needL.1 hi).1, needL_rise l outs, fun _ hi _ hk hn => mem_needL.2 ⟨hk, .step (mem_needL.1 hi).2 hn⟩⟩

theorem order_covers {n : Nat} {nd : Nat → Nat → Bool} {is : Nat → Bool} {o : List Nat} (h : orderB n nd is = some o) {i : Nat} (hi : i < n) (his : is i = true) : i ∈ o := by
 obtain ⟨h1, h2⟩ := orderB_some h
 refine Classical.byContradiction fun hn => ?_
 have h3 : (i :: o).Nodup := List.nodup_cons.2 ⟨hn, h1.nodup⟩
 have h4 := nodup_len (b := (List.range n).filter is) h3 fun x hx => by
  rcases List.mem_cons.1 hx with rfl | hx
  ·exact List.mem_filter.2 ⟨List.mem_range.2 hi, his⟩
  ·exact List.mem_filter.2 ⟨List.mem_range.2 (h1.lt x hx), h1.is x hx⟩
 rw [List.length_cons, h2] at h4
 unfold manyB at h4
 omega

def ruleAt (l : List Rule) (i : Nat) : Rule := (l[i]?).getD ⟨[], [], [], []⟩
theorem ruleAt_eq {l : List Rule} {i : Nat} (h : i < l.length) : l[i]? = some (ruleAt l i) := by
 unfold ruleAt
 rw [List.getElem?_eq_getElem h]
 rfl

section
variable {l : List Rule} {sm : List Nat}
theorem clo_nodup (h : Clo l sm) : sm.Nodup := h.rise.imp fun h => Nat.ne_of_lt h
theorem find_outI {l : List Rule} (hn : (l.map Rule.out).Nodup) {i : Nat} {r : Rule} (h : l[i]? = some r) : l.findIdx? (fun q => q.out == r.out) = some i := by
 obtain ⟨h1, h2⟩ := List.getElem?_eq_some_iff.1 h
 rw [List.findIdx?_eq_some_iff_getElem]
 refine ⟨h1, by rw [h2]; exact beq_iff_eq.2 rfl, fun j hj => ?_⟩
 rw [Bool.not_eq_true]
 refine beq_eq_false_iff_ne.2 fun e => ?_
 have := nodup_inj hn (i := j) (j := i) (x := r.out) (by rw [List.getElem?_map, List.getElem?_eq_getElem (by omega), Option.map_some, e]) (by rw [List.getElem?_map, h]; rfl)
 omega
theorem madeI_at {l : List Rule} (hn : (l.map Rule.out).Nodup) {i : Nat} {r : Rule} (h : l[i]? = some r) : madeI l r.out = i := by
 unfold madeI idx
 rw [find_outI hn h]
 exact Int.toNat_natCast i
theorem made_out {l : List Rule} {r : Rule} (h : r ∈ l) : madeB l r.out = true := List.any_eq_true.2 ⟨r, h, beq_iff_eq.2 rfl⟩
end

noncomputable def wantRes (l : List Rule) (T : FL) (out : B) : B × (Nat × Int) :=
 if (sheetFault l).1 ≠ 0 then ([], sheetFault l)
 else if madeB l out = false then ([], (6, -1))
 else match partB l (needL l [out]) with
  | none => ([], (9, -1))
  | some _ => ((wantW l T out).1, ((wantW l T out).2, -1))

end Go.Proofs.YtnmhaipjfpongacGreatDoor

namespace Go.Proofs.YtnmhaipjfpongacGreatDoor
open Go.ChangeShapes Go.WideShapes Go.ChangeAt Go.RowKit

def ClosedB (n : Nat) (nd : Nat → Nat → Bool) (f : Nat → Bool) : Prop := ∀ i k, i < n → k < n → f i = true → nd i k = true → f k = true
structure Rnd (n : Nat) (nd : Nat → Nat → Bool) (f g : Nat → Bool) (i k : Nat) : Prop where
 up : ∀ x, x < n → f x = true → g x = true
 low : ∀ S : Nat → Bool, ClosedB n nd S → (∀ x, x < n → f x = true → S x = true) → ∀ x, x < n → g x = true → S x = true
 did : ∀ a b, a < n → b < n → (a < i ∨ (a = i ∧ b < k)) → f a = true → nd a b = true → g b = true
section
variable {n : Nat} {nd : Nat → Nat → Bool} {f g : Nat → Bool} {i k : Nat}
theorem Rnd.start (n : Nat) (nd : Nat → Nat → Bool) (f : Nat → Bool) : Rnd n nd f f 0 0 := ⟨fun _ _ h => h, fun _ _ h => h, fun a b _ _ h => by omega⟩
theorem Rnd.skip (h : Rnd n nd f g i k) (hn : g i = false ∨ nd i k = false) (hi : i < n) : Rnd n nd f g i (k + 1) := by
 refine ⟨h.up, h.low, fun a b ha hb hab hf hnd => ?_⟩
 rcases hab with h1 | ⟨rfl, h1⟩
 ·exact h.did a b ha hb (.inl h1) hf hnd
 ·rcases Nat.lt_succ_iff_lt_or_eq.1 h1 with h2 | rfl
  ·exact h.did a b ha hb (.inr ⟨rfl, h2⟩) hf hnd
  ·rcases hn with e | e
   ·rw [h.up a ha hf] at e; cases e
   ·rw [hnd] at e; cases e
theorem Rnd.mark (h : Rnd n nd f g i k) (hg : g i = true) (hnd : nd i k = true) (hi : i < n) (hk : k < n) {g' : Nat → Bool} (hg' : ∀ x, x < n → g' x = (decide (x = k) || g x)) : Rnd n nd f g' i (k + 1) := by
 refine ⟨fun x hx hf => ?_, fun S hS hs x hx hgx => ?_, fun a b ha hb hab hf hn => ?_⟩
 ·rw [hg' x hx, h.up x hx hf, Bool.or_true]
 ·rw [hg' x hx, Bool.or_eq_true, decide_eq_true_iff] at hgx
  rcases hgx with rfl | hgx
  ·exact hS i x hi hx (h.low S hS hs i hi hg) hnd
  ·exact h.low S hS hs x hx hgx
 ·rw [hg' b hb, Bool.or_eq_true, decide_eq_true_iff]
  rcases hab with h1 | ⟨rfl, h1⟩
  ·exact .inr (h.did a b ha hb (.inl h1) hf hn)
  ·rcases Nat.lt_succ_iff_lt_or_eq.1 h1 with h2 | rfl
   ·exact .inr (h.did a b ha hb (.inr ⟨rfl, h2⟩) hf hn)
   ·exact .inl rfl
theorem Rnd.line (h : Rnd n nd f g i n) : Rnd n nd f g (i + 1) 0 :=
 ⟨h.up, h.low, fun a b ha hb hab hf hn => h.did a b ha hb (by
  rcases hab with h1 | ⟨_, h1⟩
  ·rcases Nat.lt_succ_iff_lt_or_eq.1 h1 with h2 | h2
   ·exact .inl h2
   ·exact .inr ⟨h2, hb⟩
  ·omega) hf hn⟩
structure Rds (n : Nat) (nd : Nat → Nat → Bool) (f0 f : Nat → Bool) (r : Nat) : Prop where
 up : ∀ x, x < n → f0 x = true → f x = true
 low : ∀ S : Nat → Bool, ClosedB n nd S → (∀ x, x < n → f0 x = true → S x = true) → ∀ x, x < n → f x = true → S x = true
 far : ClosedB n nd f ∨ r ≤ (List.range n).countP f
theorem Rds.start (n : Nat) (nd : Nat → Nat → Bool) (f : Nat → Bool) : Rds n nd f f 0 := ⟨fun _ _ h => h, fun _ _ h => h, .inr (Nat.zero_le _)⟩
theorem count_more {f g : Nat → Bool} (hup : ∀ x, x < n → f x = true → g x = true) {k : Nat} (hk : k < n) (h1 : f k = false) (h2 : g k = true) : (List.range n).countP f + 1 ≤ (List.range n).countP g := by
 rw [List.countP_eq_length_filter, List.countP_eq_length_filter]
 have h3 : (k :: (List.range n).filter f).Nodup := List.nodup_cons.2 ⟨(fun hm => by have := (List.mem_filter.1 hm).2; rw [h1] at this; cases this), List.nodup_range.filter _⟩
 have := nodup_len (b := (List.range n).filter g) h3 (fun x hx => by
  rcases List.mem_cons.1 hx with rfl | hx
  ·exact List.mem_filter.2 ⟨List.mem_range.2 hk, h2⟩
  ·obtain ⟨h4, h5⟩ := List.mem_filter.1 hx
   exact List.mem_filter.2 ⟨h4, hup x (List.mem_range.1 h4) h5⟩)
 simpa using this
theorem Rds.next {f0 : Nat → Bool} {r : Nat} (h : Rds n nd f0 f r) (hr : Rnd n nd f g n 0) : Rds n nd f0 g (r + 1) := by
 refine ⟨fun x hx h0 => hr.up x hx (h.up x hx h0), fun S hS hs => hr.low S hS (h.low S hS hs), ?_⟩
 by_cases hc : ClosedB n nd f
 ·refine .inl fun i k hi hk hg hn => ?_
  have := hr.low f hc (fun _ _ h => h) i hi hg
  exact hr.up k hk (hc i k hi hk this hn)
 ·right
  have hcn : r ≤ (List.range n).countP f := h.far.resolve_left hc
  have hex : ∃ i k, i < n ∧ k < n ∧ f i = true ∧ nd i k = true ∧ f k = false := by
   refine Classical.byContradiction fun hne => hc fun i k hi hk hf hn => ?_
   cases hfk : f k with
   | true => rfl
   | false => exact absurd ⟨i, k, hi, hk, hf, hn, hfk⟩ hne
  obtain ⟨i, k, hi, hk, hf, hn, hfk⟩ := hex
  have := count_more hr.up hk hfk (hr.did i k hi hk (.inl hi) hf hn)
  omega
theorem Rds.done {f0 : Nat → Bool} (h : Rds n nd f0 f n) : ClosedB n nd f := by
 rcases h.far with h | h
 ·exact h
 ·intro i k _ hk _ _
  have h1 : (List.range n).countP f = (List.range n).length := Nat.le_antisymm List.countP_le_length (by rw [List.length_range]; exact h)
  exact List.countP_eq_length.1 h1 k (List.mem_range.2 hk)
end
structure NedAt (w wr : World) (n : Nat) (f : Nat → Bool) : Prop where
 ext : Ext w wr
 tab : TabAt wr w.heap.size 4 n (fun k => .bool (f k))
theorem NedAt.grow {w wr w' : World} {n : Nat} {f : Nat → Bool} (h : NedAt w wr n f) (ho : Ext wr w') : NedAt w w' n f := ⟨h.ext.then ho, h.tab.ext ho⟩
theorem NedAt.mark {w wr : World} {n : Nat} {f : Nat → Bool} (h : NedAt w wr n f) (k : Nat) : NedAt w (wr.setCell ⟨w.heap.size, k, none⟩ (.bool true)) n (fun x => decide (x = k) || f x) := by
 refine ⟨ext_setS h.ext _ _ (Nat.le_refl _), (h.tab.set k (.bool true)).congr fun i _ => ?_⟩
 by_cases e : i = k
 ·rw [if_pos e, decide_eq_true e]; rfl
 ·rw [if_neg e, decide_eq_false e]; rfl
theorem NedAt.same {w wr : World} {n : Nat} {f g : Nat → Bool} (h : NedAt w wr n f) (hg : ∀ k, k < n → f k = g k) : NedAt w wr n g := ⟨h.ext, h.tab.congr fun k hk => by rw [hg k hk]⟩
end Go.Proofs.YtnmhaipjfpongacGreatDoor

namespace Go.Proofs.YtnmhaipjfpongacGreatDoor
open Go.ChangeShapes Go.WideShapes Go.ChangeAt Go.RowKit

def lvOne (L : List (B × Nat)) (n : Nat) (s : B) : Nat := match L.lookup s with | some k => max n (k + 1) | none => n
def lvN (L : List (B × Nat)) (ins : List B) : Nat := ins.foldl (lvOne L) 0
def lvPut (rs : List (List Nat)) (n i : Nat) : List (List Nat) := if n = rs.length then rs ++ [[i]] else rs.set n (rs.getD n [] ++ [i])
def lvStep (l : List Rule) (st : List (B × Nat) × List (List Nat)) (i : Nat) : List (B × Nat) × List (List Nat) :=
 (((ruleAt l i).out, lvN st.1 (ruleAt l i).ins) :: st.1.filter (fun p => !(p.1 == (ruleAt l i).out)), lvPut st.2 (lvN st.1 (ruleAt l i).ins) i)
structure LvOk (st : List (B × Nat) × List (List Nat)) (j : Nat) : Prop where
 look : ∀ s k, st.1.lookup s = some k → k < st.2.length
 few : st.2.length ≤ j
 short : ∀ r ∈ st.2, r.length ≤ j
theorem LvOk.one {st : List (B × Nat) × List (List Nat)} {j : Nat} (h : LvOk st j) {n : Nat} (hn : n ≤ st.2.length) (s : B) : lvOne st.1 n s ≤ st.2.length := by
 unfold lvOne
 cases hl : st.1.lookup s with
 | none => exact hn
 | some k => have := h.look s k hl; simp only; omega
theorem LvOk.le {st : List (B × Nat) × List (List Nat)} {j : Nat} (h : LvOk st j) (ins : List B) : lvN st.1 ins ≤ st.2.length := by
 have key : ∀ (ins : List B) (n : Nat), n ≤ st.2.length → ins.foldl (lvOne st.1) n ≤ st.2.length := by
  intro ins
  induction ins with
  | nil => intro n hn; exact hn
  | cons s ins ih => intro n hn; exact ih _ (h.one hn s)
 exact key ins 0 (Nat.zero_le _)
theorem lvPut_len {rs : List (List Nat)} {n i : Nat} (hn : n ≤ rs.length) : n < (lvPut rs n i).length ∧ rs.length ≤ (lvPut rs n i).length ∧ (lvPut rs n i).length ≤ rs.length + 1 := by
 unfold lvPut
 split
 ·simp; omega
 ·simp; omega
theorem lookup_cons_filter {L : List (B × Nat)} {a : B} {n : Nat} {s : B} {k : Nat} (h : ((a, n) :: L.filter (fun p => !(p.1 == a))).lookup s = some k) : (s = a ∧ k = n) ∨ (s ≠ a ∧ L.lookup s = some k) := by
 rw [List.lookup_cons] at h
 by_cases hs : s = a
 ·subst hs
  rw [beq_self_eq_true] at h
  cases h
  exact .inl ⟨rfl, rfl⟩
 ·have e : (s == a) = false := beq_eq_false_iff_ne.2 hs
  rw [e] at h
  refine .inr ⟨hs, ?_⟩
  have key : ∀ L : List (B × Nat), (L.filter (fun p => !(p.1 == a))).lookup s = L.lookup s := by
   intro L
   induction L with
   | nil => rfl
   | cons p L ih =>
    obtain ⟨c, x⟩ := p
    by_cases hc : c = a
    ·subst hc
     rw [List.filter_cons_of_neg (by simp), ih, List.lookup_cons, e]
    ·rw [List.filter_cons_of_pos (by simpa using hc), List.lookup_cons, List.lookup_cons, ih]
  rw [key] at h
  exact h
theorem LvOk.nil : LvOk ([], []) 0 := ⟨fun s k h => (by cases h), Nat.le_refl _, fun r h => (by cases h)⟩
theorem LvOk.step {l : List Rule} {st : List (B × Nat) × List (List Nat)} {j : Nat} (h : LvOk st j) (i : Nat) : LvOk (lvStep l st i) (j + 1) := by
 have hn := h.le (ruleAt l i).ins
 obtain ⟨h1, h2, h3⟩ := lvPut_len (i := i) hn
 refine ⟨fun s k hk => ?_, Nat.le_trans h3 (Nat.succ_le_succ h.few), fun r hr => ?_⟩
 ·rcases lookup_cons_filter hk with ⟨_, rfl⟩ | ⟨_, hk⟩
  ·exact h1
  ·exact Nat.lt_of_lt_of_le (h.look s k hk) h2
 ·change r ∈ lvPut _ _ _ at hr
  unfold lvPut at hr
  split at hr
  ·rcases List.mem_append.1 hr with hr | hr
   ·have := h.short r hr; omega
   ·rw [List.mem_singleton] at hr; subst hr; simp
  ·rcases List.mem_or_eq_of_mem_set hr with hr | rfl
   ·have := h.short r hr; omega
   ·rw [List.length_append, List.length_singleton]
    have : (st.2.getD (lvN st.1 (ruleAt l i).ins) []).length ≤ j := by
     rw [List.getD_eq_getElem?_getD]
     cases hg : st.2[lvN st.1 (ruleAt l i).ins]? with
     | none => simp
     | some r => exact h.short r (List.mem_of_getElem? hg)
    omega
abbrev HD := (Option Addr × Nat × Nat) × List Nat
def encH (p : HD) : List Value := [SV p.1]
theorem rows_ne {w : World} {b b' : Nat} {e e' : TypeId} {s s' : Nat} {v v' : Value} {n n' : Nat} {xs ys : List Value} (h : w.ownsRow b e s v n xs) (h' : w.ownsRow b' e' s' v' n' ys) (hne : e ≠ e') : ∀ i, v.ownBlock = some i → v'.ownBlock ≠ some i := by
 intro i hi hi'
 rcases h'.2 with ⟨rfl, _⟩ | ⟨g, cap, cur, rfl, _, hg, _⟩
 ·cases hi'
 ·cases hi'
  exact row_ne h hg hne _ hi rfl

structure LvAt (w wr : World) (mb : Nat) (L : List (B × Nat)) (v : Value) (rs : List HD) : Prop where
 ext : Ext w wr
 map : KMap .string S IN wr mb L
 mlo : w.heap.size ≤ mb
 out : wr.ownsRow w.heap.size 46 1 v rs.length (rs.flatMap encH)
 row : ∀ (k : Nat) (p : HD), rs[k]? = some p → RowI w.heap.size wr (SV p.1) p.2
 apart : ∀ (k k' : Nat) (p q : HD) (b : Nat), rs[k]? = some p → rs[k']? = some q → (SV p.1).ownBlock = some b → (SV q.1).ownBlock = some b → k = k'
section
variable {w wr w' : World} {mb : Nat} {L L' : List (B × Nat)} {v v' : Value} {rs : List HD}
theorem LvAt.start (hx : Ext w wr) (hm : KMap .string S IN wr mb []) (hb : w.heap.size ≤ mb) : LvAt w wr mb [] (.slice none 0 0) [] :=
 ⟨hx, hm, hb, World.ownsRow_nil _ _ _ _, fun k p h => by simp at h, fun k k' p q b h => by simp at h⟩
theorem LvAt.form (h : LvAt w wr mb L v rs) : ∃ a c, v = .slice a rs.length c := by
 rcases h.out.2 with ⟨h1, h2⟩ | ⟨g, cap, _, h1, _⟩
 ·exact ⟨none, 0, by rw [h2]; exact h1⟩
 ·exact ⟨_, cap, h1⟩
theorem LvAt.grow (h : LvAt w wr mb L v rs) (ho : Ext wr w') : LvAt w w' mb L v rs :=
 ⟨h.ext.then ho, h.map.later ho (fun h => h), h.mlo, ho.row h.out (fun _ _ h => h), fun k p hp => (h.row k p hp).ext ho, h.apart⟩
theorem LvAt.more (h : LvAt w wr mb L v rs) {w2 : World} (hx : Ext wr w2) (hg : w2.grownBy w' v.ownBlock) (hr : w'.ownsRow w.heap.size 46 1 v' (rs.length + 1) ((rs ++ [((none, 0, 0), [])]).flatMap encH)) : LvAt w w' mb L v' (rs ++ [((none, 0, 0), [])]) := by
 have h2 := h.grow hx
 have ho : Only (fun i => v.ownBlock = some i) w2 w' := Only.of_grown hg
 have hlo : ∀ i, v.ownBlock = some i → w.heap.size ≤ i := fun i hi => (h.out.lt i hi).1
 refine ⟨h2.ext.trans ho (fun _ _ h => h) (fun i hi e => by have := hlo i e; omega), h2.map.later ho (fun e => row_ne_map h2.out h2.map _ e rfl), h.mlo, by simpa using hr, fun k p hp => ?_, fun k k' p q b hp hq e1 e2 => ?_⟩
 ·rcases Nat.lt_or_ge k rs.length with hk | hk
  ·rw [List.getElem?_append_left hk] at hp
   exact ho.row (h2.row k p hp) (fun i hi e => rows_ne (h2.row k p hp) h2.out (by decide) i hi e)
  ·rw [List.getElem?_append_right hk] at hp
   have : p = ((none, 0, 0), []) := by
    rcases Nat.eq_zero_or_pos (k - rs.length) with h0 | h0
    ·rw [h0] at hp; simpa using hp.symm
    ·rw [List.getElem?_eq_none (by rw [List.length_singleton]; omega)] at hp; cases hp
   subst this
   exact RowI.nil _ _
 ·have key : ∀ (k : Nat) (p : HD), (rs ++ [((none, 0, 0), [])])[k]? = some p → (SV p.1).ownBlock = some b → rs[k]? = some p := fun k p hp e => by
   rcases Nat.lt_or_ge k rs.length with hk | hk
   ·rw [List.getElem?_append_left hk] at hp; exact hp
   ·rw [List.getElem?_append_right hk] at hp
    rcases Nat.eq_zero_or_pos (k - rs.length) with h0 | h0
    ·rw [h0] at hp
     have : p = ((none, 0, 0), []) := by simpa using hp.symm
     subst this
     cases e
    ·rw [List.getElem?_eq_none (by rw [List.length_singleton]; omega)] at hp; cases hp
  exact h.apart k k' p q b (key k p hp e1) (key k' q hq e2) e1 e2
theorem LvAt.lt (_h : LvAt w wr mb L v rs) {k : Nat} {p : HD} (hp : rs[k]? = some p) : k < rs.length := (List.getElem?_eq_some_iff.1 hp).1
theorem encH_map (rs : List HD) : rs.flatMap encH = rs.map (fun p => SV p.1) := by
 induction rs with
 | nil => rfl
 | cons y rs ih => rw [List.flatMap_cons, List.map_cons, ih]; rfl
theorem encH_get {rs : List HD} {k : Nat} {p : HD} (hp : rs[k]? = some p) : (rs.flatMap encH)[k]? = some (SV p.1) := by
 rw [encH_map, List.getElem?_map, hp]; rfl
theorem LvAt.push {g cap : Nat} (h : LvAt w wr mb L (.slice (some ⟨g, 0, none⟩) rs.length cap) rs) {k : Nat} {p : HD} (hp : rs[k]? = some p) {w2 w1 : World} (hx : Ext wr w2) (hg : w2.grownBy w1 (SV p.1).ownBlock) {u' : Option Addr × Nat × Nat} {c' : List Nat} (hr : RowI w.heap.size w1 (SV u') c') (hat : ∀ i, (SV u').ownBlock = some i → (SV p.1).ownBlock = some i ∨ wr.heap.size ≤ i) :
  w1.cell? ⟨g, k, none⟩ = some (SV p.1) ∧ w1.frozen? ⟨g, k, none⟩ = false ∧ LvAt w (w1.setCell ⟨g, k, none⟩ (SV u')) mb L (.slice (some ⟨g, 0, none⟩) rs.length cap) (rs.set k (u', c')) := by
 have h2 := h.grow hx
 have hk := h.lt hp
 have ho : Only (fun i => (SV p.1).ownBlock = some i) w2 w1 := Only.of_grown hg
 have hlo : ∀ i, (SV p.1).ownBlock = some i → w.heap.size ≤ i := fun i hi => ((h.row k p hp).lt i hi).1
 have hout1 := ho.row h2.out (fun i hi e => rows_ne h2.out (h2.row k p hp) (by decide) i hi e)
 have hst := (World.ownsRow.stored hout1 k (SV u')).1
 have hs : Only (fun i => i = g) w1 (w1.setCell ⟨g, k, none⟩ (SV u')) := Only.set (p := fun i => i = g) (w := w1) (a := ⟨g, k, none⟩) (SV u') rfl
 have hglo : w.heap.size ≤ g := (h.out.lt g rfl).1
 have hmap1 := h2.map.later ho (fun e => row_ne_map (h2.row k p hp) h2.map _ e rfl)
 have hset : (rs.set k (u', c')).flatMap encH = (rs.flatMap encH).set k (SV u') := by
  rw [encH_map, encH_map, List.map_set]
 refine ⟨?_, World.ownsRow.frozenAt hout1 k, (h2.ext.trans ho (fun _ _ h => h) (fun i hi e => by have := hlo i e; omega)).trans hs (fun _ _ h => h) (fun i hi e => by omega), hmap1.later hs (fun e => row_ne_map hout1 hmap1 g rfl e.symm), h.mlo, ?_, fun j q hq => ?_, fun j j' q q' b hq hq' e1 e2 => ?_⟩
 ·rw [World.ownsRow.cellAt hout1 k (by omega)]
  exact encH_get hp
 ·rw [List.length_set, hset]
  exact hst
 ·by_cases hj : j = k
  ·subst hj
   rw [List.getElem?_set_self hk] at hq
   cases hq
   exact hs.row hr (fun i hi e => by
    have e3 : i = g := e
    subst e3
    rcases hat i hi with e4 | e4
    ·exact rows_ne (h.row j p hp) h.out (by decide) i e4 rfl
    ·have := (h.out.lt i rfl).2; omega)
  ·rw [List.getElem?_set_ne (Ne.symm hj)] at hq
   exact hs.row (ho.row (h2.row j q hq) (fun i hi e => hj (h.apart j k q p i hq hp hi e))) (fun i hi e => by
    have e3 : i = g := e
    subst e3
    exact rows_ne (h.row j q hq) h.out (by decide) i hi rfl)
 ·have old : ∀ (j : Nat) (q : HD), j ≠ k → (rs.set k (u', c'))[j]? = some q → (SV q.1).ownBlock = some b → (SV u').ownBlock = some b → False := fun j q hj hq e e' => by
   rw [List.getElem?_set_ne (Ne.symm hj)] at hq
   rcases hat b e' with e4 | e4
   ·exact hj (h.apart j k q p b hq hp e e4)
   ·have := ((h.row j q hq).lt b e).2; omega
  by_cases hj : j = k
  ·by_cases hj' : j' = k
   ·rw [hj, hj']
   ·subst hj
    rw [List.getElem?_set_self hk] at hq
    cases hq
    exact (old j' q' hj' hq' e2 e1).elim
  ·by_cases hj' : j' = k
   ·subst hj'
    rw [List.getElem?_set_self hk] at hq'
    cases hq'
    exact (old j q hj hq e1 e2).elim
   ·rw [List.getElem?_set_ne (Ne.symm hj)] at hq
    rw [List.getElem?_set_ne (Ne.symm hj')] at hq'
    exact h.apart j j' q q' b hq hq' e1 e2
theorem LvAt.rd (h : LvAt w wr mb L v rs) : RdLL wr v (rs.map (·.2)) := by
 rcases h.out.2 with ⟨rfl, h2⟩ | ⟨g, cap, cur, rfl, hb, hg, h1, h3, h4, h5⟩
 ·have : rs = [] := List.eq_nil_of_length_eq_zero h2
  subst this
  exact ⟨none, 0, rfl, Nat.le_refl _, Nat.zero_le _, fun h => absurd rfl h⟩
 ·refine ⟨some ⟨g, 0, none⟩, cap, by rw [List.length_map], by rw [List.length_map]; exact h1, h3, fun _ => ⟨g, 0, rfl, fun i x hx => ?_⟩⟩
  rw [List.getElem?_map] at hx
  obtain ⟨p, hp, rfl⟩ := Option.map_eq_some_iff.1 hx
  refine ⟨SV p.1, (h.row i p hp).rd, ?_⟩
  rw [Nat.zero_add, World.ownsRow.cellAt h.out i (by have := h.lt hp; omega)]
  exact encH_get hp
end
end Go.Proofs.YtnmhaipjfpongacGreatDoor

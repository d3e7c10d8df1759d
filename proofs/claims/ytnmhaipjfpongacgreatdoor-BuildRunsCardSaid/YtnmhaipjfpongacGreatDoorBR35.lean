/- Texts of this seat laid together for one claim: Z28, Z27, O2, O3, O5. No condition of its own: what each proves stands with its theorems. -/
import Derived.Test.YtnmhaipjfpongacGreatDoorBR20
import Derived.Test.YtnmhaipjfpongacGreatDoorBR28
import Derived.Test.YtnmhaipjfpongacGreatDoorBR26
import Derived.Test.YtnmhaipjfpongacGreatDoorBR34
import Derived.Test.YtnmhaipjfpongacGreatDoorBR0
import Derived.Test.YtnmhaipjfpongacGreatDoorBR15
import Derived.Test.YtnmhaipjfpongacGreatDoorBR10
import Derived.DataShut
namespace Go.Proofs.YtnmhaipjfpongacGreatDoor
open Go.ChangeShapes Go.WideShapes Go.ChangeAt Go.RowKit

def lvOne (L : List (B × Nat)) (n : Nat) (s : B) : Nat := match L.lookup s with | some k => max n (k + 1) | none => n
def lvN (L : List (B × Nat)) (ins : List B) : Nat := ins.foldl (lvOne L) 0
def lvPut (rs : List (List Nat)) (n i : Nat) : List (List Nat) := if n = rs.length then rs ++ [[i]] else rs.set n (rs.getD n [] ++ [i])
def lvStep (l : List Rule) (st : List (B × Nat) × List (List Nat)) (i : Nat) : List (B × Nat) × List (List Nat) :=
 (((ruleAt l i).out, lvN st.1 (ruleAt l i).ins) :: st.1.filter (fun p => !(p.1 == (ruleAt l i).out)), lvPut st.2 (lvN st.1 (ruleAt l i).ins) i)
structure LvOk (st : List (B × Nat) × List (List Nat)) (j : Nat) : Prop where
 look : ∀ s k, st.1.lookup s = some k → k < st.2.length
 few : st.2.length ≤ j
 short : ∀ r ∈ st.2, r.length ≤ j
theorem LvOk.one {st : List (B × Nat) × List (List Nat)} {j : Nat} (h : LvOk st j) {n : Nat} (hn : n ≤ st.2.length) (s : B) : lvOne st.1 n s ≤ st.2.length := by
 unfold lvOne
 cases hl : st.1.lookup s with
 | none => exact hn
 | some k => have := h.look s k hl; simp only; omega
theorem LvOk.le {st : List (B × Nat) × List (List Nat)} {j : Nat} (h : LvOk st j) (ins : List B) : lvN st.1 ins ≤ st.2.length := by
 have key : ∀ (ins : List B) (n : Nat), n ≤ st.2.length → ins.foldl (lvOne st.1) n ≤ st.2.length := by
  intro ins
  induction ins with
  | nil => intro n hn; exact hn
  | cons s ins ih => intro n hn; exact ih _ (h.one hn s)
 exact key ins 0 (Nat.zero_le _)
theorem lvPut_len {rs : List (List Nat)} {n i : Nat} (hn : n ≤ rs.length) : n < (lvPut rs n i).length ∧ rs.length ≤ (lvPut rs n i).length ∧ (lvPut rs n i).length ≤ rs.length + 1 := by
 unfold lvPut
 split
 ·simp; omega
 ·simp; omega
theorem lookup_cons_filter {L : List (B × Nat)} {a : B} {n : Nat} {s : B} {k : Nat} (h : ((a, n) :: L.filter (fun p => !(p.1 == a))).lookup s = some k) : (s = a ∧ k = n) ∨ (s ≠ a ∧ L.lookup s = some k) := by
 rw [List.lookup_cons] at h
 by_cases hs : s = a
 ·subst hs
  rw [beq_self_eq_true] at h
  cases h
  exact .inl ⟨rfl, rfl⟩
 ·have e : (s == a) = false := beq_eq_false_iff_ne.2 hs
  rw [e] at h
  refine .inr ⟨hs, ?_⟩
  have key : ∀ L : List (B × Nat), (L.filter (fun p => !(p.1 == a))).lookup s = L.lookup s := by
   intro L
   induction L with
   | nil => rfl
   | cons p L ih =>
    obtain ⟨c, x⟩ := p
    by_cases hc : c = a
    ·subst hc
     rw [List.filter_cons_of_neg (by simp), ih, List.lookup_cons, e]
    ·rw [List.filter_cons_of_pos (by simpa using hc), List.lookup_cons, List.lookup_cons, ih]
  rw [key] at h
  exact h
theorem LvOk.nil : LvOk ([], []) 0 := ⟨fun s k h => (by cases h), Nat.le_refl _, fun r h => (by cases h)⟩
theorem LvOk.step {l : List Rule} {st : List (B × Nat) × List (List Nat)} {j : Nat} (h : LvOk st j) (i : Nat) : LvOk (lvStep l st i) (j + 1) := by
 have hn := h.le (ruleAt l i).ins
 obtain ⟨h1, h2, h3⟩ := lvPut_len (i := i) hn
 refine ⟨fun s k hk => ?_, Nat.le_trans h3 (Nat.succ_le_succ h.few), fun r hr => ?_⟩
 ·rcases lookup_cons_filter hk with ⟨_, rfl⟩ | ⟨_, hk⟩
  ·exact h1
  ·exact Nat.lt_of_lt_of_le (h.look s k hk) h2
 ·change r ∈ lvPut _ _ _ at hr
  unfold lvPut at hr
  split at hr
  ·rcases List.mem_append.1 hr with hr | hr
   ·have := h.short r hr; omega
   ·rw [List.mem_singleton] at hr; subst hr; simp
  ·rcases List.mem_or_eq_of_mem_set hr with hr | rfl
   ·have := h.short r hr; omega
   ·rw [List.length_append, List.length_singleton]
    have : (st.2.getD (lvN st.1 (ruleAt l i).ins) []).length ≤ j := by
     rw [List.getD_eq_getElem?_getD]
     cases hg : st.2[lvN st.1 (ruleAt l i).ins]? with
     | none => simp
     | some r => exact h.short r (List.mem_of_getElem? hg)
    omega
theorem wpNum2 {P : Program} (hP : P = Tryz.prog) {ops : Array Oper} {rest : List Oper} {o : Oper} {a : Act} {Q : Exit → Act → World → Prop} (s x : Operand) (base : Nat) (v : Value) (l : List Nat) (k : Nat) (W : World) (hgd : o.guard = none)
  (ho : o.op = .call { callee := .builtin .append, args := #[s, x], argTypes := #[46, 46] }) (hs : a.eval s = v) (hx : a.eval x = .slice (some ⟨W.heap.size, 0, none⟩) 1 1)
  (hrow : RowI base W v l) (hl : l.length ≤ 1000000) (hbase : base ≤ W.heap.size)
  (hK : ∀ g cap w', Hid (RowI base w' (.slice (some ⟨g, 0, none⟩) (l.length + 1) cap) (l ++ [k])) → Hid (W.grownBy w' v.ownBlock) → Hid (∀ i, Value.ownBlock (.slice (some ⟨g, 0, none⟩) (l.length + 1) cap) = some i → v.ownBlock = some i ∨ W.heap.size ≤ i) →
   wpList P ops Q rest (a.put o.dst (.slice (some ⟨g, 0, none⟩) (l.length + 1) cap)) w') :
  wpList P ops Q (o :: rest) a (W.alloc (.cells #[IN k] 3 (0, 0))) := by
 subst hP
 have hf : ∀ q : List Nat, q.flatMap (fun k => [IN k]) = q.map IN := fun q => by induction q with
  | nil => rfl
  | cons x q ih => rw [List.flatMap_cons, List.map_cons, ih]; rfl
 refine wpList_appS (fun k : Nat => [IN k]) 46 3 1 8 _ infoInt Tryz.underlying46 rfl (by decide) (fun _ => rfl) (fun _ u hu => by cases List.mem_singleton.1 hu; rfl) (by decide) s x base v l k W _ rfl hgd ho hs hx (by rw [hf]; exact hrow) hl hbase ?_
 intro g cap w' h1 h2 h3
 rw [hf] at h1
 refine hK g cap w' (Lib.hid ?_) (Lib.hid h2) (Lib.hid h3)
 show World.ownsRow _ _ _ _ _ (l ++ [k]).length _
 rw [List.length_append]
 exact h1
abbrev HD := (Option Addr × Nat × Nat) × List Nat
def encH (p : HD) : List Value := [SV p.1]
theorem rows_ne {w : World} {b b' : Nat} {e e' : TypeId} {s s' : Nat} {v v' : Value} {n n' : Nat} {xs ys : List Value} (h : w.ownsRow b e s v n xs) (h' : w.ownsRow b' e' s' v' n' ys) (hne : e ≠ e') : ∀ i, v.ownBlock = some i → v'.ownBlock ≠ some i := by
 intro i hi hi'
 rcases h'.2 with ⟨rfl, _⟩ | ⟨g, cap, cur, rfl, _, hg, _⟩
 ·cases hi'
 ·cases hi'
  exact row_ne h hg hne _ hi rfl

structure LvAt (w wr : World) (mb : Nat) (L : List (B × Nat)) (v : Value) (rs : List HD) : Prop where
 ext : Ext w wr
 map : KMap .string S IN wr mb L
 mlo : w.heap.size ≤ mb
 out : wr.ownsRow w.heap.size 46 1 v rs.length (rs.flatMap encH)
 row : ∀ (k : Nat) (p : HD), rs[k]? = some p → RowI w.heap.size wr (SV p.1) p.2
 apart : ∀ (k k' : Nat) (p q : HD) (b : Nat), rs[k]? = some p → rs[k']? = some q → (SV p.1).ownBlock = some b → (SV q.1).ownBlock = some b → k = k'
section
variable {w wr w' : World} {mb : Nat} {L L' : List (B × Nat)} {v v' : Value} {rs : List HD}
theorem LvAt.start (hx : Ext w wr) (hm : KMap .string S IN wr mb []) (hb : w.heap.size ≤ mb) : LvAt w wr mb [] (.slice none 0 0) [] :=
 ⟨hx, hm, hb, World.ownsRow_nil _ _ _ _, fun k p h => by simp at h, fun k k' p q b h => by simp at h⟩
theorem LvAt.form (h : LvAt w wr mb L v rs) : ∃ a c, v = .slice a rs.length c := by
 rcases h.out.2 with ⟨h1, h2⟩ | ⟨g, cap, _, h1, _⟩
 ·exact ⟨none, 0, by rw [h2]; exact h1⟩
 ·exact ⟨_, cap, h1⟩
theorem LvAt.grow (h : LvAt w wr mb L v rs) (ho : Ext wr w') : LvAt w w' mb L v rs :=
 ⟨h.ext.then ho, h.map.later ho (fun h => h), h.mlo, ho.row h.out (fun _ _ h => h), fun k p hp => (h.row k p hp).ext ho, h.apart⟩
theorem LvAt.more (h : LvAt w wr mb L v rs) {w2 : World} (hx : Ext wr w2) (hg : w2.grownBy w' v.ownBlock) (hr : w'.ownsRow w.heap.size 46 1 v' (rs.length + 1) ((rs ++ [((none, 0, 0), [])]).flatMap encH)) : LvAt w w' mb L v' (rs ++ [((none, 0, 0), [])]) := by
 have h2 := h.grow hx
 have ho : Only (fun i => v.ownBlock = some i) w2 w' := Only.of_grown hg
 have hlo : ∀ i, v.ownBlock = some i → w.heap.size ≤ i := fun i hi => (h.out.lt i hi).1
 refine ⟨h2.ext.trans ho (fun _ _ h => h) (fun i hi e => by have := hlo i e; omega), h2.map.later ho (fun e => row_ne_map h2.out h2.map _ e rfl), h.mlo, by simpa using hr, fun k p hp => ?_, fun k k' p q b hp hq e1 e2 => ?_⟩
 ·rcases Nat.lt_or_ge k rs.length with hk | hk
  ·rw [List.getElem?_append_left hk] at hp
   exact ho.row (h2.row k p hp) (fun i hi e => rows_ne (h2.row k p hp) h2.out (by decide) i hi e)
  ·rw [List.getElem?_append_right hk] at hp
   have : p = ((none, 0, 0), []) := by
    rcases Nat.eq_zero_or_pos (k - rs.length) with h0 | h0
    ·rw [h0] at hp; simpa using hp.symm
    ·rw [List.getElem?_eq_none (by rw [List.length_singleton]; omega)] at hp; cases hp
   subst this
   exact RowI.nil _ _
 ·have key : ∀ (k : Nat) (p : HD), (rs ++ [((none, 0, 0), [])])[k]? = some p → (SV p.1).ownBlock = some b → rs[k]? = some p := fun k p hp e => by
   rcases Nat.lt_or_ge k rs.length with hk | hk
   ·rw [List.getElem?_append_left hk] at hp; exact hp
   ·rw [List.getElem?_append_right hk] at hp
    rcases Nat.eq_zero_or_pos (k - rs.length) with h0 | h0
    ·rw [h0] at hp
     have : p = ((none, 0, 0), []) := by simpa using hp.symm
     subst this
     cases e
    ·rw [List.getElem?_eq_none (by rw [List.length_singleton]; omega)] at hp; cases hp
  exact h.apart k k' p q b (key k p hp e1) (key k' q hq e2) e1 e2
theorem LvAt.lt (_h : LvAt w wr mb L v rs) {k : Nat} {p : HD} (hp : rs[k]? = some p) : k < rs.length := (List.getElem?_eq_some_iff.1 hp).1
theorem encH_map (rs : List HD) : rs.flatMap encH = rs.map (fun p => SV p.1) := by
 induction rs with
 | nil => rfl
 | cons y rs ih => rw [List.flatMap_cons, List.map_cons, ih]; rfl
theorem encH_get {rs : List HD} {k : Nat} {p : HD} (hp : rs[k]? = some p) : (rs.flatMap encH)[k]? = some (SV p.1) := by
 rw [encH_map, List.getElem?_map, hp]; rfl
theorem LvAt.push {g cap : Nat} (h : LvAt w wr mb L (.slice (some ⟨g, 0, none⟩) rs.length cap) rs) {k : Nat} {p : HD} (hp : rs[k]? = some p) {w2 w1 : World} (hx : Ext wr w2) (hg : w2.grownBy w1 (SV p.1).ownBlock) {u' : Option Addr × Nat × Nat} {c' : List Nat} (hr : RowI w.heap.size w1 (SV u') c') (hat : ∀ i, (SV u').ownBlock = some i → (SV p.1).ownBlock = some i ∨ wr.heap.size ≤ i) :
  w1.cell? ⟨g, k, none⟩ = some (SV p.1) ∧ w1.frozen? ⟨g, k, none⟩ = false ∧ LvAt w (w1.setCell ⟨g, k, none⟩ (SV u')) mb L (.slice (some ⟨g, 0, none⟩) rs.length cap) (rs.set k (u', c')) := by
 have h2 := h.grow hx
 have hk := h.lt hp
 have ho : Only (fun i => (SV p.1).ownBlock = some i) w2 w1 := Only.of_grown hg
 have hlo : ∀ i, (SV p.1).ownBlock = some i → w.heap.size ≤ i := fun i hi => ((h.row k p hp).lt i hi).1
 have hout1 := ho.row h2.out (fun i hi e => rows_ne h2.out (h2.row k p hp) (by decide) i hi e)
 have hst := (World.ownsRow.stored hout1 k (SV u')).1
 have hs : Only (fun i => i = g) w1 (w1.setCell ⟨g, k, none⟩ (SV u')) := Only.set (p := fun i => i = g) (w := w1) (a := ⟨g, k, none⟩) (SV u') rfl
 have hglo : w.heap.size ≤ g := (h.out.lt g rfl).1
 have hmap1 := h2.map.later ho (fun e => row_ne_map (h2.row k p hp) h2.map _ e rfl)
 have hset : (rs.set k (u', c')).flatMap encH = (rs.flatMap encH).set k (SV u') := by
  rw [encH_map, encH_map, List.map_set]
 refine ⟨?_, World.ownsRow.frozenAt hout1 k, (h2.ext.trans ho (fun _ _ h => h) (fun i hi e => by have := hlo i e; omega)).trans hs (fun _ _ h => h) (fun i hi e => by omega), hmap1.later hs (fun e => row_ne_map hout1 hmap1 g rfl e.symm), h.mlo, ?_, fun j q hq => ?_, fun j j' q q' b hq hq' e1 e2 => ?_⟩
 ·rw [World.ownsRow.cellAt hout1 k (by omega)]
  exact encH_get hp
 ·rw [List.length_set, hset]
  exact hst
 ·by_cases hj : j = k
  ·subst hj
   rw [List.getElem?_set_self hk] at hq
   cases hq
   exact hs.row hr (fun i hi e => by
    have e3 : i = g := e
    subst e3
    rcases hat i hi with e4 | e4
    ·exact rows_ne (h.row j p hp) h.out (by decide) i e4 rfl
    ·have := (h.out.lt i rfl).2; omega)
  ·rw [List.getElem?_set_ne (Ne.symm hj)] at hq
   exact hs.row (ho.row (h2.row j q hq) (fun i hi e => hj (h.apart j k q p i hq hp hi e))) (fun i hi e => by
    have e3 : i = g := e
    subst e3
    exact rows_ne (h.row j q hq) h.out (by decide) i hi rfl)
 ·have old : ∀ (j : Nat) (q : HD), j ≠ k → (rs.set k (u', c'))[j]? = some q → (SV q.1).ownBlock = some b → (SV u').ownBlock = some b → False := fun j q hj hq e e' => by
   rw [List.getElem?_set_ne (Ne.symm hj)] at hq
   rcases hat b e' with e4 | e4
   ·exact hj (h.apart j k q p b hq hp e e4)
   ·have := ((h.row j q hq).lt b e).2; omega
  by_cases hj : j = k
  ·by_cases hj' : j' = k
   ·rw [hj, hj']
   ·subst hj
    rw [List.getElem?_set_self hk] at hq
    cases hq
    exact (old j' q' hj' hq' e2 e1).elim
  ·by_cases hj' : j' = k
   ·subst hj'
    rw [List.getElem?_set_self hk] at hq'
    cases hq'
    exact (old j q hj hq e1 e2).elim
   ·rw [List.getElem?_set_ne (Ne.symm hj)] at hq
    rw [List.getElem?_set_ne (Ne.symm hj')] at hq'
    exact h.apart j j' q q' b hq hq' e1 e2
theorem LvAt.rd (h : LvAt w wr mb L v rs) : RdLL wr v (rs.map (·.2)) := by
 rcases h.out.2 with ⟨rfl, h2⟩ | ⟨g, cap, cur, rfl, hb, hg, h1, h3, h4, h5⟩
 ·have : rs = [] := List.eq_nil_of_length_eq_zero h2
  subst this
  exact ⟨none, 0, rfl, Nat.le_refl _, Nat.zero_le _, fun h => absurd rfl h⟩
 ·refine ⟨some ⟨g, 0, none⟩, cap, by rw [List.length_map], by rw [List.length_map]; exact h1, h3, fun _ => ⟨g, 0, rfl, fun i x hx => ?_⟩⟩
  rw [List.getElem?_map] at hx
  obtain ⟨p, hp, rfl⟩ := Option.map_eq_some_iff.1 hx
  refine ⟨SV p.1, (h.row i p hp).rd, ?_⟩
  rw [Nat.zero_add, World.ownsRow.cellAt h.out i (by have := h.lt hp; omega)]
  exact encH_get hp
end
end Go.Proofs.YtnmhaipjfpongacGreatDoor

namespace Go.Proofs.YtnmhaipjfpongacGreatDoor
open Go.ChangeShapes Go.WideShapes Go.ChangeAt Go.RowKit

def sizeP (p : Int) : Nat := if p = -9223372036854775808 then 0 else p.natAbs
def In64 (p : Int) : Prop := -9223372036854775808 ≤ p ∧ p ≤ 9223372036854775807

structure KeepsOwn {σ : Type} (A : World → σ → Prop) (own : Nat → Prop) (lo : Nat) (bs : σ → BS) (step : σ → Nat → σ) (P : Nat → Addr) (base : Nat) (E : BE) (K : BK) : Prop where
 bld : ∀ w x, A w x → BldAt w P base E K (bs x) ∧ BInv E (bs x)
 size : ∀ w x, A w x → lo ≤ w.heap.size
 other : ∀ w x w' (q : Nat → Prop), A w x → Only q w w' → (∀ i, q i → ¬ own i ∧ lo ≤ i) → A w' x
 run : ∀ w x, A w x → ∀ i ∈ E.sm, readyP E (bs x) i = true → Calls Tryz.prog 56 #[PTR K.b, IN i] w (fun e w' => ∃ b, e = .returned (.tuple #[.bool b, .nilIface]) ∧ A w' (step x i) ∧ Only own w w')
 ran : ∀ x i, i ∈ E.sm → readyP E (bs x) i = true → ∀ k, ranP (bs (step x i)) k = (decide (k = i) || ranP (bs x) k)
inductive PicksTo {σ : Type} (E : BE) (bs : σ → BS) (step : σ → Nat → σ) : List Int → σ → List Nat → σ → Prop
 | nil (x : σ) : PicksTo E bs step [] x [] x
 | skip {p : Int} {ps : List Int} {x y : σ} {o : List Nat} : readyL E (bs x) = [] → PicksTo E bs step ps x o y → PicksTo E bs step (p :: ps) x o y
 | pick {p : Int} {ps : List Int} {x y : σ} {o : List Nat} {k : Nat} : (readyL E (bs x))[sizeP p % (readyL E (bs x)).length]? = some k → PicksTo E bs step ps (step x k) o y → PicksTo E bs step (p :: ps) x (k :: o) y
inductive AllOut {σ : Type} (E : BE) (bs : σ → BS) (step : σ → Nat → σ) : σ → List Nat → σ → Prop
 | stop {x : σ} : readyL E (bs x) = [] → AllOut E bs step x [] x
 | more {x y : σ} {o : List Nat} {i : Nat} {R : List Nat} : readyL E (bs x) = i :: R → AllOut E bs step (step x i) o y → AllOut E bs step x (i :: o) y
end Go.Proofs.YtnmhaipjfpongacGreatDoor

namespace Go.Proofs.YtnmhaipjfpongacGreatDoor
open Go.ChangeShapes Go.WideShapes Go.ChangeAt Go.RowKit

theorem addr_addR (b off n : Nat) : (⟨b, off, none⟩ : Addr).add n = ⟨b, off + n, none⟩ := by
 unfold Addr.add
 split
 ·subst_vars; rfl
 ·rfl

theorem texts_trod {H : Type} {enc : TypeId × Value → H} {w : World} {base : Nat} {spare : Nat → Bool} {held : Bool} {fuel : Nat} {v : Value} {x : DataW H × List MemPlace}
  (h : DataW.trod enc Tryz.prog w base spare held fuel 53 [v] = some x) : ∃ l : List B, Rd S w v l := by
 obtain ⟨d, ps⟩ := x
 rcases open_strings Tryz.underlying53 Tryz.underlying9 (by kernel_rfl) h with ⟨h0, _⟩ | ⟨ad, len, cap, ss, h0, _, hl, hm, hss, _, hc, _⟩
 ·cases h0
  exact ⟨[], Rd.nil _ _⟩
 ·cases h0
  have hle : len ≤ ss.length := by rw [hss]; split <;> omega
  refine ⟨(ss.take len).map (·.data.toList), some ad, cap, by simp [Nat.min_eq_left hle], by simpa [Nat.min_eq_left hle] using hl, hm, fun hne => ?_⟩
  have hpos : 0 < ss.length := by
   rcases Nat.eq_zero_or_pos ss.length with h | h
   ·exact absurd (by simp [List.length_eq_zero_iff.1 h]) hne
   ·exact h
  obtain ⟨b, off, spot⟩ := ad
  have h00 := hc 0 hpos
  have hs : spot = none := by simpa [Addr.add] using World.cell?_spot h00
  subst hs
  refine ⟨b, off, rfl, fun i x hx => ?_⟩
  rw [List.getElem?_map] at hx
  obtain ⟨y, hy, rfl⟩ := Option.map_eq_some_iff.1 hx
  have hi : i < len := by have := (List.getElem?_eq_some_iff.1 hy).1; simp at this; omega
  rw [List.getElem?_take_of_lt hi] at hy
  have := hc i (by omega)
  rw [addr_addR, List.getD_eq_getElem?_getD, hy] at this
  simpa using this

theorem cellsRule : Tryz.prog.cellsOf 55 = 4 := by kernel_rfl

theorem open_rules {H : Type} {enc : TypeId × Value → H} {w : World} {base : Nat} {spare : Nat → Bool} {held : Bool} {fuel : Nat} {a : Option Addr} {len cap : Nat} {x : DataW H × List MemPlace}
  (h : DataW.trod enc Tryz.prog w base spare held fuel 23 [.slice a len cap] = some x) (_hr : ∀ n ∈ x.1.weights Tryz.prog 23, n ≤ 140737488351232) :
  ∃ l : List Rule, l.length = len ∧ RdR w (.slice a len cap) l ∧ True := by
 rcases open_slice_fields Tryz.underlying23 Tryz.underlying55 (by kernel_rfl) cellsRule h with ⟨h0, _⟩ | ⟨ad, len', cap', m, D, Pl, hcs, _, hl, hm, hmm, hxx, hi⟩
 ·cases h0
  exact ⟨[], rfl, RdR.nil _, trivial⟩
 ·cases hcs
  have key : ∀ i, ∃ y : Rule × Value, i < len → (w.cell? (ad.add (i * 4)) = some (S y.1.out) ∧ w.cell? (ad.add (i * 4 + 1)) = some (S y.1.kind) ∧ w.cell? (ad.add (i * 4 + 2)) = some (S y.1.word) ∧ w.cell? (ad.add (i * 4 + 3)) = some y.2) ∧ Rd S w y.2 y.1.ins := by
   intro i
   by_cases hlt : i < len
   ·have him : i < m := by rw [hmm]; split <;> omega
    obtain ⟨ys, n, hD, _, hyl, hf⟩ := hi i him
    obtain ⟨v0, y0, c0, g0, t0⟩ := hf 0 _ rfl
    obtain ⟨v1, y1, c1, g1, t1⟩ := hf 1 _ rfl
    obtain ⟨v2, y2, c2, g2, t2⟩ := hf 2 _ rfl
    obtain ⟨v3, y3, c3, g3, t3⟩ := hf 3 _ rfl
    obtain ⟨p, e0, z0, _⟩ := DataW.trod_string Tryz.underlying9 t0
    obtain ⟨k, e1, z1, _⟩ := DataW.trod_string Tryz.underlying9 t1
    obtain ⟨s, e2, z2, _⟩ := DataW.trod_string Tryz.underlying9 t2
    obtain ⟨q, hq⟩ := texts_trod t3
    cases e0; cases e1; cases e2
    exact ⟨(⟨p.data.toList, k.data.toList, s.data.toList, q⟩, v3), fun _ => ⟨⟨c0, c1, c2, c3⟩, hq⟩⟩
   ·exact ⟨(⟨[], [], [], []⟩, .nilIface), fun h => absurd h hlt⟩
  refine ⟨(List.range len).map fun i => (Classical.choose (key i)).1, by simp, ⟨some ad, cap, by simp, by simpa using hl, hm, fun hne => ?_⟩, trivial⟩
  have hpos : 0 < len := by
   rcases Nat.eq_zero_or_pos len with h | h
   ·subst h; simp at hne
   ·exact h
  obtain ⟨b, off, spot⟩ := ad
  have hs : spot = none := by
   have := (Classical.choose_spec (key 0) hpos).1.1
   simpa [Addr.add] using World.cell?_spot this
  subst hs
  refine ⟨b, off, rfl, fun i r hx => ?_⟩
  have hlt : i < len := by have := (List.getElem?_eq_some_iff.1 hx).1; simpa using this
  have he : (Classical.choose (key i)).1 = r := by
   rw [List.getElem?_map, List.getElem?_range hlt] at hx
   simpa using hx
  obtain ⟨⟨h0, h1, h2, h3⟩, h4⟩ := Classical.choose_spec (key i) hlt
  subst he
  have e := fun n => congrArg w.cell? (addr_addR b off n)
  exact ⟨_, h4, (e _).symm.trans h0, (e _).symm.trans h1, (e _).symm.trans h2, (e _).symm.trans h3⟩
end Go.Proofs.YtnmhaipjfpongacGreatDoor

namespace Go.Proofs.YtnmhaipjfpongacGreatDoor
open Go.ChangeShapes Go.WideShapes Go.ChangeAt Go.RowKit

theorem cellsFile : Tryz.prog.cellsOf 65 = 2 := by kernel_rfl

theorem open_files {H : Type} {enc : TypeId × Value → H} {w : World} {base : Nat} {spare : Nat → Bool} {held : Bool} {fuel : Nat} {a : Option Addr} {len cap : Nat} {x : DataW H × List MemPlace}
  (h : DataW.trod enc Tryz.prog w base spare held fuel 22 [.slice a len cap] = some x) (_hr : ∀ n ∈ x.1.weights Tryz.prog 22, n ≤ 140737488351232) :
  ∃ l : List (B × B), l.length = len ∧ RdS 2 encF w (.slice a len cap) l ∧ True := by
 rcases open_slice_fields Tryz.underlying22 Tryz.underlying65 (by kernel_rfl) cellsFile h with ⟨h0, _⟩ | ⟨ad, len', cap', m, D, Pl, hcs, _, hl, hm, hmm, hxx, hi⟩
 ·cases h0
  exact ⟨[], rfl, RdS.nil _ _ _, trivial⟩
 ·cases hcs
  have key : ∀ i, ∃ y : B × B, i < len → w.cell? (ad.add (i * 2)) = some (S y.1) ∧ w.cell? (ad.add (i * 2 + 1)) = some (S y.2) := by
   intro i
   by_cases hlt : i < len
   ·have him : i < m := by rw [hmm]; split <;> omega
    obtain ⟨ys, n, hD, _, hyl, hf⟩ := hi i him
    obtain ⟨v0, y0, c0, g0, t0⟩ := hf 0 _ rfl
    obtain ⟨v1, y1, c1, g1, t1⟩ := hf 1 _ rfl
    obtain ⟨p, e0, z0, _⟩ := DataW.trod_string Tryz.underlying9 t0
    obtain ⟨k, e1, z1, _⟩ := DataW.trod_string Tryz.underlying9 t1
    cases e0; cases e1
    exact ⟨(p.data.toList, k.data.toList), fun _ => ⟨c0, c1⟩⟩
   ·exact ⟨([], []), fun h => absurd h hlt⟩
  refine ⟨(List.range len).map fun i => Classical.choose (key i), by simp, ⟨some ad, cap, by simp, by simpa using hl, hm, fun hne => ?_⟩, trivial⟩
  have hpos : 0 < len := by
   rcases Nat.eq_zero_or_pos len with h | h
   ·subst h; simp at hne
   ·exact h
  obtain ⟨b, off, spot⟩ := ad
  have hs : spot = none := by
   have := (Classical.choose_spec (key 0) hpos).1
   simpa [Addr.add] using World.cell?_spot this
  subst hs
  refine ⟨b, off, rfl, fun i y hx j u hu => ?_⟩
  have hlt : i < len := by have := (List.getElem?_eq_some_iff.1 hx).1; simpa using this
  have he : Classical.choose (key i) = y := by
   rw [List.getElem?_map, List.getElem?_range hlt] at hx
   simpa using hx
  obtain ⟨h0, h1⟩ := Classical.choose_spec (key i) hlt
  rw [he] at h0 h1
  rw [addr_addR] at h0 h1
  rcases j with _ | _ | j
  ·cases hu; exact h0
  ·cases hu; exact h1
  ·simp at hu
end Go.Proofs.YtnmhaipjfpongacGreatDoor

namespace Go.Proofs.YtnmhaipjfpongacGreatDoor
open Go.ChangeShapes Go.WideShapes Go.ChangeAt Go.RowKit

theorem open_nums64 {H : Type} {enc : TypeId × Value → H} {w : World} {base : Nat} {spare : Nat → Bool} {held : Bool} {fuel : Nat} {a : Option Addr} {len cap : Nat} {x : DataW H × List MemPlace}
  (h : DataW.trod enc Tryz.prog w base spare held fuel 46 [.slice a len cap] = some x) (_hr : ∀ n ∈ x.1.weights Tryz.prog 46, n ≤ 140737488351232) :
  ∃ l : List Int, l.length = len ∧ Rd I w (.slice a len cap) l ∧ ∀ p ∈ l, In64 p := by
 rcases Go.ChangeShapes.open_ints Tryz.underlying46 Tryz.underlying3 (by kernel_rfl) h with ⟨h0, _⟩ | ⟨ad, len', cap', zs, hcs, _, hl, hm, hzl, _, hcell, hwf⟩
 ·cases h0
  exact ⟨[], rfl, Rd.nil _ _, fun p hp => (by cases hp)⟩
 ·cases hcs
  have hzn : len ≤ zs.length := by rw [hzl]; split <;> omega
  have hlen : (zs.take len).length = len := by rw [List.length_take]; omega
  refine ⟨zs.take len, hlen, ⟨some ad, cap, by rw [hlen], by rw [hlen]; exact hl, hm, fun hne => ?_⟩, fun p hp => (Lit.wf_int_iff .i64 p).1 (hwf p (List.mem_of_mem_take hp))⟩
  have hpos : 0 < len := by
   rcases Nat.eq_zero_or_pos len with h | h
   ·subst h; simp at hne
   ·exact h
  obtain ⟨b, off, spot⟩ := ad
  have hs : spot = none := by
   have := hcell 0 (by omega)
   simpa [Addr.add] using World.cell?_spot this
  subst hs
  refine ⟨b, off, rfl, fun i y hx => ?_⟩
  have hlt : i < len := by have := (List.getElem?_eq_some_iff.1 hx).1; omega
  have h1 := hcell i (by omega)
  have he : zs.getD i 0 = y := by
   rw [List.getElem?_take_of_lt hlt] at hx
   rw [List.getD_eq_getElem?_getD, hx]
   rfl
  rw [he] at h1
  rw [addr_addR] at h1
  exact h1
end Go.Proofs.YtnmhaipjfpongacGreatDoor

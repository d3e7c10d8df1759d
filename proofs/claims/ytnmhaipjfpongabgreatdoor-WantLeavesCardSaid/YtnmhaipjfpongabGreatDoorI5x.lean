/- What is wanted hangs on the leaves alone that it needs, in plain words. No condition. -/
import Derived.Test.YtnmhaipjfpongabGreatDoorI0x
import Derived.Test.YtnmhaipjfpongabGreatDoorG10x
import Derived.Test.YtnmhaipjfpongabGreatDoorG11x
namespace Go.Proofs.YtnmhaipjfpongabGreatDoor

open Classical in
noncomputable def reachB (l : List Rule) (outs : List B) (i : Nat) : Bool := decide (Reach (needB l) (needKs l outs) i)
open Classical in
theorem reachB_iff {l : List Rule} {outs : List B} {i : Nat} : reachB l outs i = true ↔ Reach (needB l) (needKs l outs) i := by
  unfold reachB
  exact decide_eq_true_iff
noncomputable def needL (l : List Rule) (outs : List B) : List Nat := (List.range l.length).filter (reachB l outs)
theorem mem_needL {l : List Rule} {outs : List B} {i : Nat} : i ∈ needL l outs ↔ i < l.length ∧ Reach (needB l) (needKs l outs) i := by
  unfold needL
  rw [List.mem_filter, List.mem_range, reachB_iff]
theorem needOk_eq {l : List Rule} {outs : List B} {out : List Nat} (h : NeedOk l.length (needB l) (needKs l outs) out) : out = needL l outs := by
  obtain ⟨N, rfl, hN⟩ := h
  unfold needL
  refine List.filter_congr fun i hi => ?_
  rw [Bool.eq_iff_iff, hN i (List.mem_range.1 hi), reachB_iff]
theorem needL_rise (l : List Rule) (outs : List B) : (needL l outs).Pairwise fun x y => x < y := List.pairwise_lt_range.filter _

/-- Some rules, closed under what they need. -/
structure Clo (l : List Rule) (sm : List Nat) : Prop where
  lt : ∀ i ∈ sm, i < l.length
  rise : sm.Pairwise fun x y => x < y
  clos : ∀ i ∈ sm, ∀ k, k < l.length → needB l i k = true → k ∈ sm
theorem Clo.need (l : List Rule) (outs : List B) : Clo l (needL l outs) :=
  ⟨fun _ hi => (mem_needL.1 hi).1, needL_rise l outs, fun _ hi _ hk hn => mem_needL.2 ⟨hk, .step (mem_needL.1 hi).2 hn⟩⟩

/-- All that are so stand in an order. -/
theorem order_covers {n : Nat} {nd : Nat → Nat → Bool} {is : Nat → Bool} {o : List Nat} (h : orderB n nd is = some o) {i : Nat} (hi : i < n) (his : is i = true) : i ∈ o := by
  obtain ⟨h1, h2⟩ := orderB_some h
  refine Classical.byContradiction fun hn => ?_
  have h3 : (i :: o).Nodup := List.nodup_cons.2 ⟨hn, h1.nodup⟩
  have h4 := nodup_len (b := (List.range n).filter is) h3 fun x hx => by
    rcases List.mem_cons.1 hx with rfl | hx
    · exact List.mem_filter.2 ⟨List.mem_range.2 hi, his⟩
    · exact List.mem_filter.2 ⟨List.mem_range.2 (h1.lt x hx), h1.is x hx⟩
  rw [List.length_cons, h2] at h4
  unfold manyB at h4
  omega

def ruleAt (l : List Rule) (i : Nat) : Rule := (l[i]?).getD ⟨[], [], [], []⟩
def partR (l : List Rule) (sm : List Nat) : List Rule := sm.map (ruleAt l)
theorem ruleAt_eq {l : List Rule} {i : Nat} (h : i < l.length) : l[i]? = some (ruleAt l i) := by
  unfold ruleAt
  rw [List.getElem?_eq_getElem h]
  rfl

section
variable {l : List Rule} {sm : List Nat}
theorem part_at (h : Clo l sm) {a i : Nat} (ha : sm[a]? = some i) : (partR l sm)[a]? = some (ruleAt l i) ∧ l[i]? = some (ruleAt l i) := by
  unfold partR
  rw [List.getElem?_map, ha]
  exact ⟨rfl, ruleAt_eq (h.lt i (List.mem_of_getElem? ha))⟩
theorem part_len : (partR l sm).length = sm.length := List.length_map _
theorem part_need (h : Clo l sm) {a b i k : Nat} (ha : sm[a]? = some i) (hb : sm[b]? = some k) : needB (partR l sm) a b = needB l i k := by
  unfold needB
  rw [(part_at h ha).1, (part_at h hb).1, (part_at h ha).2, (part_at h hb).2]
theorem clo_nodup (h : Clo l sm) : sm.Nodup := h.rise.imp fun h => Nat.ne_of_lt h
theorem part_right (h : Clo l sm) (hr : RightS l) : RightS (partR l sm) := by
  have hn := clo_nodup h
  refine ⟨?_, fun r hr' => ?_, ?_⟩
  · rw [part_len]
    have := nodup_len (b := List.range l.length) hn fun x hx => List.mem_range.2 (h.lt x hx)
    rw [List.length_range] at this
    have := hr.1
    omega
  · obtain ⟨a, ha⟩ := List.getElem?_of_mem hr'
    unfold partR at ha
    rw [List.getElem?_map] at ha
    obtain ⟨i, hi, rfl⟩ := Option.map_eq_some_iff.1 ha
    exact hr.2.1 _ (List.mem_of_getElem? (ruleAt_eq (h.lt i (List.mem_of_getElem? hi))))
  · refine List.pairwise_iff_getElem.2 fun a b ha hb hab e => ?_
    rw [List.length_map, part_len] at ha hb
    have h1 : sm[a]? = some sm[a] := List.getElem?_eq_getElem ha
    have h2 : sm[b]? = some sm[b] := List.getElem?_eq_getElem hb
    simp only [List.getElem_map, partR] at e
    have := nodup_inj hr.2.2 (i := sm[a]) (j := sm[b]) (x := (ruleAt l sm[a]).out) (by rw [List.getElem?_map, (part_at h h1).2]; rfl) (by rw [List.getElem?_map, (part_at h h2).2, Option.map_some, e])
    have := nodup_inj hn (i := a) (j := b) (x := sm[a]) h1 (by rw [h2, this])
    omega
theorem part_idx (_h : Clo l sm) {i : Nat} (hi : i ∈ sm) : ∃ a, sm[a]? = some i ∧ a < (partR l sm).length := by
  obtain ⟨a, ha⟩ := List.getElem?_of_mem hi
  exact ⟨a, ha, by rw [part_len]; exact (List.getElem?_eq_some_iff.1 ha).1⟩
theorem part_sm {a b : Nat} (hn : needB (partR l sm) a b = true) : ∃ i k, sm[a]? = some i ∧ sm[b]? = some k := by
  obtain ⟨h1, h2⟩ := needB_lt hn
  rw [part_len] at h1 h2
  exact ⟨_, _, List.getElem?_eq_getElem h1, List.getElem?_eq_getElem h2⟩
theorem way_up (h : Clo l sm) : ∀ {s a b i k : Nat}, sm[a]? = some i → sm[b]? = some k → Way (needB (partR l sm)) b s a → Way (needB l) k s i
  | 0, a, b, i, k, ha, hb, e => by
    have : a = b := e
    subst this
    rw [ha] at hb
    exact Option.some.inj hb
  | s + 1, a, b, i, k, ha, hb, ⟨c, hn, hw⟩ => by
    obtain ⟨_, j, _, hc⟩ := part_sm hn
    exact ⟨j, by rw [← part_need h ha hc]; exact hn, way_up h hc hb hw⟩
theorem way_down (h : Clo l sm) : ∀ {s a b i k : Nat}, sm[a]? = some i → sm[b]? = some k → Way (needB l) k s i → Way (needB (partR l sm)) b s a
  | 0, a, b, i, k, ha, hb, e => nodup_inj (clo_nodup h) ha (by rw [hb]; exact congrArg some (show k = i from (show i = k from e).symm))
  | s + 1, a, b, i, k, ha, hb, ⟨j, hn, hw⟩ => by
    have hj := h.clos i (List.mem_of_getElem? ha) j (needB_lt hn).2 hn
    obtain ⟨c, hc, _⟩ := part_idx h hj
    exact ⟨c, by rw [part_need h ha hc]; exact hn, way_down h hc hb hw⟩
theorem needB_r (l : List Rule) : ∀ i j, needB l i j = true → j < l.length := fun _ _ h => (needB_lt h).2

/-- An order of those that are needed, and one of the part alone. -/
theorem part_order (h : Clo l sm) : (partB l sm).isSome = (orderB (partR l sm).length (needB (partR l sm)) fun i => (List.range (partR l sm).length).contains i).isSome := by
  cases h1 : partB l sm with
  | some o =>
    cases h2 : orderB (partR l sm).length (needB (partR l sm)) (fun i => (List.range (partR l sm).length).contains i) with
    | some o2 => rfl
    | none =>
      exfalso
      obtain ⟨a, s, ha, _, hs, hw⟩ := orderB_circle h2 (fun i j _ _ hn => ⟨(needB_lt hn).2, by simpa using (needB_lt hn).2⟩)
      rw [part_len] at ha
      have hat : sm[a]? = some sm[a] := List.getElem?_eq_getElem ha
      have hm : sm[a] ∈ sm := List.getElem_mem ha
      exact (orderB_some h1).1.no_circle (needB_r l) (order_covers h1 (h.lt _ hm) (by simp)) hs (way_up h hat hat hw)
  | none =>
    cases h2 : orderB (partR l sm).length (needB (partR l sm)) (fun i => (List.range (partR l sm).length).contains i) with
    | none => rfl
    | some o2 =>
      exfalso
      obtain ⟨i, s, hi, his, hs, hw⟩ := orderB_circle h1 (fun i j hi his hn => ⟨(needB_lt hn).2, by
        have := h.clos i (by simpa using his) j (needB_lt hn).2 hn
        simpa using this⟩)
      have hm : i ∈ sm := by simpa using his
      obtain ⟨a, ha, hlt⟩ := part_idx h hm
      exact (orderB_some h2).1.no_circle (needB_r _) (order_covers h2 hlt (by simpa using hlt)) hs (way_down h ha ha hw)

theorem find_outI {l : List Rule} (hn : (l.map Rule.out).Nodup) {i : Nat} {r : Rule} (h : l[i]? = some r) : l.findIdx? (fun q => q.out == r.out) = some i := by
  obtain ⟨h1, h2⟩ := List.getElem?_eq_some_iff.1 h
  rw [List.findIdx?_eq_some_iff_getElem]
  refine ⟨h1, by rw [h2]; exact beq_iff_eq.2 rfl, fun j hj => ?_⟩
  rw [Bool.not_eq_true]
  refine beq_eq_false_iff_ne.2 fun e => ?_
  have := nodup_inj hn (i := j) (j := i) (x := r.out) (by rw [List.getElem?_map, List.getElem?_eq_getElem (by omega), Option.map_some, e]) (by rw [List.getElem?_map, h]; rfl)
  omega
theorem rule_outI {l : List Rule} (hn : (l.map Rule.out).Nodup) {i : Nat} {r : Rule} (h : l[i]? = some r) : ruleOf l r.out = some r := by
  obtain ⟨r', h1, _, h3⟩ := findI_some (find_outI hn h)
  rw [h] at h1
  cases h1
  exact h3
theorem madeI_at {l : List Rule} (hn : (l.map Rule.out).Nodup) {i : Nat} {r : Rule} (h : l[i]? = some r) : madeI l r.out = i := by
  unfold madeI idx
  rw [find_outI hn h]
  exact Int.toNat_natCast i
theorem made_find {l : List Rule} {s : B} (h : madeB l s = true) : ∃ (i : Nat) (r : Rule), l[i]? = some r ∧ r.out = s := by
  unfold madeB at h
  obtain ⟨r, hr, e⟩ := List.any_eq_true.1 h
  obtain ⟨i, hi⟩ := List.getElem?_of_mem hr
  exact ⟨i, r, hi, beq_iff_eq.1 e⟩
theorem made_out {l : List Rule} {r : Rule} (h : r ∈ l) : madeB l r.out = true := List.any_eq_true.2 ⟨r, h, beq_iff_eq.2 rfl⟩
theorem ruleOf_none {l : List Rule} {s : B} (h : madeB l s = false) : ruleOf l s = none := by
  unfold ruleOf
  unfold madeB at h
  rw [List.any_eq_false] at h
  exact List.find?_eq_none.2 fun x hx => h x hx

/-- The rules of a part that is needed are all needed of it. -/
theorem need_part {outs : List B} (hr : RightS l) (hs : sm = needL l outs) (ho : ∀ s ∈ outs, madeB l s = true) : needL (partR l sm) outs = List.range (partR l sm).length := by
  have h : Clo l sm := hs ▸ Clo.need l outs
  have key : ∀ i, Reach (needB l) (needKs l outs) i → ∀ a, sm[a]? = some i → Reach (needB (partR l sm)) (needKs (partR l sm) outs) a := by
    intro i hi
    induction hi with
    | @root k hk =>
      intro a ha
      obtain ⟨s, hs2, rfl⟩ := List.mem_map.1 hk
      obtain ⟨i, r, hir, rfl⟩ := made_find (ho s hs2)
      rw [madeI_at hr.2.2 hir] at ha
      have hp := (part_at h ha).1
      have : ruleAt l i = r := by unfold ruleAt; rw [hir]; rfl
      rw [this] at hp
      exact .root (List.mem_map.2 ⟨r.out, hs2, madeI_at (part_right h hr).2.2 hp⟩)
    | @step i j hi hn ih =>
      intro b hb
      have him : i ∈ sm := by rw [hs]; exact mem_needL.2 ⟨(needB_lt hn).1, hi⟩
      obtain ⟨a, ha, _⟩ := part_idx h him
      exact .step (ih a ha) (by rw [part_need h ha hb]; exact hn)
  unfold needL
  rw [List.filter_eq_self]
  intro a ha
  rw [List.mem_range, part_len] at ha
  rw [reachB_iff]
  have hm : sm[a] ∈ needL l outs := hs ▸ List.getElem_mem ha
  exact key _ (mem_needL.1 hm).2 a (List.getElem?_eq_getElem ha)

/-- A place that is reached: a rule's own, or an input of one. -/
def Met (l : List Rule) (sm : List Nat) (p : B) : Prop := ∃ k ∈ sm, (ruleAt l k).out = p ∨ p ∈ (ruleAt l k).ins

theorem need_of {i k : Nat} (hi : i < l.length) (hk : k < l.length) (h : (ruleAt l k).out ∈ (ruleAt l i).ins) : needB l i k = true := by
  unfold needB
  rw [ruleAt_eq hi, ruleAt_eq hk]
  simpa using h

theorem want_part (h : Clo l sm) (hr : RightS l) {o o2 : List Nat} {is is2 : Nat → Bool} (ho : Ordered l.length (needB l) is o) (hc : ∀ i ∈ sm, i ∈ o) (ho2 : Ordered (partR l sm).length (needB (partR l sm)) is2 o2) (hc2 : ∀ a, a < (partR l sm).length → a ∈ o2)
    {T U : FL} (hT : ∀ p s, T.lookup p = some s → s.length ≤ 2000) (hU : ∀ p s, U.lookup p = some s → s.length ≤ 2000)
    (hTU : ∀ i ∈ sm, ∀ p ∈ (ruleAt l i).ins, madeB (partR l sm) p = false → U.lookup p = T.lookup p) :
    ∀ (n : Nat) (p : B), Met l sm p → rankO l o p ≤ n → wantW (partR l sm) U p = wantW l T p := by
  obtain ⟨r1, r2⟩ := ranked_order ho
  obtain ⟨q1, q2⟩ := ranked_order ho2
  have A := asks_want r1 r2 hT
  have A2 := asks_want q1 q2 hU
  have hrp := part_right h hr
  -- what is made, is made by a rule that is needed
  have mk : ∀ p, Met l sm p → ∀ k r, l[k]? = some r → r.out = p → k ∈ sm := by
    rintro p ⟨i, hi, hp⟩ k r hk he
    have hrk : ruleAt l k = r := by unfold ruleAt; rw [hk]; rfl
    rcases hp with hp | hp
    · have := nodup_inj hr.2.2 (i := i) (j := k) (x := p) (by rw [List.getElem?_map, ruleAt_eq (h.lt i hi), Option.map_some, hp]) (by rw [List.getElem?_map, hk, Option.map_some, he])
      rw [← this]; exact hi
    · have hkl := (List.getElem?_eq_some_iff.1 hk).1
      exact h.clos i hi k hkl (need_of (h.lt i hi) hkl (by rw [hrk, he]; exact hp))
  have inO1 : ∀ p, Met l sm p → InO l o p := fun p hp k hk => by
    obtain ⟨r, h1, h2, _⟩ := findI_some hk
    exact hc k (mk p hp k r h1 h2)
  have inO2 : ∀ p, InO (partR l sm) o2 p := fun p k hk => by
    obtain ⟨r, h1, _, _⟩ := findI_some hk
    exact hc2 k (List.getElem?_eq_some_iff.1 h1).1
  intro n
  induction n with
  | zero =>
    intro p hp hz
    have hno : l.findIdx? (fun r => r.out == p) = none := by
      unfold rankO at hz
      cases hf : l.findIdx? (fun r => r.out == p) with
      | none => rfl
      | some k => rw [hf] at hz; simp at hz
    have hm1 : madeB l p = false := by
      cases hm : madeB l p with
      | false => rfl
      | true =>
        obtain ⟨i, r, h1, h2⟩ := made_find hm
        rw [List.findIdx?_eq_none_iff] at hno
        have := hno r (List.mem_of_getElem? h1)
        rw [h2] at this
        simp at this
    have hm2 : madeB (partR l sm) p = false := by
      cases hm : madeB (partR l sm) p with
      | false => rfl
      | true =>
        obtain ⟨a, r, h1, h2⟩ := made_find hm
        have ha := (List.getElem?_eq_some_iff.1 h1).1
        rw [part_len] at ha
        have hp2 := part_at h (List.getElem?_eq_getElem ha)
        rw [hp2.1] at h1
        cases h1
        rw [← h2, made_out (List.mem_of_getElem? hp2.2)] at hm1
        cases hm1
    rw [A.step p (inO1 p hp), A2.step p (inO2 p)]
    unfold wStep
    rw [ruleOf_none hm1, ruleOf_none hm2]
    simp only [wLeaf]
    obtain ⟨i, hi, hpi⟩ := hp
    rcases hpi with hpi | hpi
    · rw [← hpi, made_out (List.mem_of_getElem? (ruleAt_eq (h.lt i hi)))] at hm1
      cases hm1
    · rw [hTU i hi p hpi hm2]
  | succ n ih =>
    intro p hp hn
    cases hm1 : madeB l p with
    | false =>
      refine ih p hp ?_
      unfold rankO
      have : l.findIdx? (fun r => r.out == p) = none := by
        rw [List.findIdx?_eq_none_iff]
        unfold madeB at hm1
        rw [List.any_eq_false] at hm1
        intro x hx
        simpa using hm1 x hx
      rw [this]
      exact Nat.zero_le _
    | true =>
      obtain ⟨k, r, hk, he⟩ := made_find hm1
      have hks := mk p hp k r hk he
      have hrk : ruleAt l k = r := by unfold ruleAt; rw [hk]; rfl
      obtain ⟨a, ha, _⟩ := part_idx h hks
      have hpa := (part_at h ha).1
      rw [hrk] at hpa
      have e1 : ruleOf l p = some r := by rw [← he]; exact rule_outI hr.2.2 hk
      have e2 : ruleOf (partR l sm) p = some r := by rw [← he]; exact rule_outI hrp.2.2 hpa
      rw [A.step p (inO1 p hp), A2.step p (inO2 p)]
      unfold wStep
      rw [e1, e2]
      refine wMade_congr fun q hq => ?_
      obtain ⟨_, h2⟩ := A.down p (inO1 p hp) r e1 q hq
      exact ih q ⟨k, hks, .inr (by rw [hrk]; exact hq)⟩ (by omega)
end

/-! ### want.Of in plain words -/
noncomputable def wantRes (l : List Rule) (T : FL) (out : B) : B × (Nat × Int) :=
  if (sheetFault l).1 ≠ 0 then ([], sheetFault l)
  else if madeB l out = false then ([], (6, -1))
  else match partB l (needL l [out]) with
    | none => ([], (9, -1))
    | some _ => ((wantW l T out).1, ((wantW l T out).2, -1))

theorem compact_mem {l : List B} : ∀ (i : Nat), i ≤ l.length → ∀ (j : Nat) (x : B), j < i → l[j]? = some x → x ∈ keptB l i
  | 0, _, _, _, h, _ => by omega
  | i + 1, hi, j, x, hj, hx => by
    obtain ⟨y, hy⟩ : ∃ y, l[i]? = some y := ⟨_, List.getElem?_eq_getElem (by omega)⟩
    have ih := compact_mem (l := l) i (by omega)
    have new : keptB l (i + 1) = keptB l i ++ [y] → x ∈ keptB l (i + 1) := fun e => by
      rw [e]
      rcases Nat.lt_succ_iff_lt_or_eq.1 hj with h | rfl
      · exact List.mem_append_left _ (ih j x h hx)
      · rw [hx] at hy; cases hy
        exact List.mem_append_right _ (.head _)
    cases i with
    | zero => exact new (kept_new hy fun k z e _ => by omega)
    | succ k =>
      obtain ⟨z, hz⟩ : ∃ z, l[k]? = some z := ⟨_, List.getElem?_eq_getElem (by omega)⟩
      by_cases e : y = z
      · subst e
        rw [kept_old hy hz]
        rcases Nat.lt_succ_iff_lt_or_eq.1 hj with h | rfl
        · exact ih j x h hx
        · rw [hx] at hy; cases hy
          exact ih k x (Nat.lt_succ_self _) hz
      · exact new (kept_new hy fun k' z' e' hz' => by
          have : k' = k := by omega
          subst this
          rw [hz] at hz'; cases hz'
          exact e)
theorem leaves_mem {l : List Rule} {p : B} (h : p ∈ (l.flatMap Rule.ins).filter (leafB l)) : p ∈ leavesB l := by
  have h1 : p ∈ sortB ((l.flatMap Rule.ins).filter (leafB l)) := (List.mergeSort_perm _ _).symm.subset h
  obtain ⟨j, hj⟩ := List.getElem?_of_mem h1
  unfold leavesB
  rw [← kept_all]
  exact compact_mem _ (Nat.le_refl _) j p (List.getElem?_eq_some_iff.1 hj).1 hj

theorem want_leaves {l : List Rule} {T U : FL} {out : B} (hr : RightS l) (ho : madeB l out = true) (hT : ∀ p s, T.lookup p = some s → s.length ≤ 2000) (hU : ∀ p s, U.lookup p = some s → s.length ≤ 2000)
    (hTU : ∀ p ∈ leavesB (partR l (needL l [out])), U.lookup p = T.lookup p) :
    wantRes (partR l (needL l [out])) U out = wantRes l T out := by
  have h := Clo.need l [out]
  have hrp := part_right h hr
  have hnp := need_part hr (outs := [out]) rfl (fun s hs => by rw [List.mem_singleton.1 hs]; exact ho)
  have hpo := part_order h
  obtain ⟨i, r, hir, hri⟩ := made_find ho
  have him : i ∈ needL l [out] := mem_needL.2 ⟨(List.getElem?_eq_some_iff.1 hir).1, .root (by
    unfold needKs
    rw [List.map_cons, List.map_nil, ← hri, madeI_at hr.2.2 hir]
    exact .head _)⟩
  have hra : ruleAt l i = r := by unfold ruleAt; rw [hir]; rfl
  obtain ⟨a, ha, _⟩ := part_idx h him
  have hmp : madeB (partR l (needL l [out])) out = true := by
    have := made_out (List.mem_of_getElem? (part_at h ha).1)
    rw [hra, hri] at this
    exact this
  unfold wantRes
  rw [if_neg (show ¬ (sheetFault (partR l (needL l [out]))).1 ≠ 0 by rw [sheet_ok.2 hrp]; simp), if_neg (show ¬ (sheetFault l).1 ≠ 0 by rw [sheet_ok.2 hr]; simp), if_neg (show ¬ madeB (partR l (needL l [out])) out = false by rw [hmp]; simp), if_neg (show ¬ madeB l out = false by rw [ho]; simp), hnp]
  have e2 : partB (partR l (needL l [out])) (List.range (partR l (needL l [out])).length) = orderB (partR l (needL l [out])).length (needB (partR l (needL l [out]))) fun i => (List.range (partR l (needL l [out])).length).contains i := rfl
  rw [← e2] at hpo
  cases h1 : partB l (needL l [out]) with
  | none =>
    rw [h1] at hpo
    cases h2 : partB (partR l (needL l [out])) (List.range (partR l (needL l [out])).length) with
    | none => rfl
    | some o2 => rw [h2] at hpo; cases hpo
  | some o =>
    rw [h1] at hpo
    cases h2 : partB (partR l (needL l [out])) (List.range (partR l (needL l [out])).length) with
    | none => rw [h2] at hpo; cases hpo
    | some o2 =>
      simp only
      have hw := want_part h hr (orderB_some h1).1 (fun i hi => order_covers h1 (h.lt i hi) (by simpa using hi)) (orderB_some h2).1 (fun b hb => order_covers h2 hb (by simpa using hb)) hT hU (fun k hk p hp hmd => hTU p (leaves_mem (List.mem_filter.2 ⟨List.mem_flatMap.2 ⟨ruleAt l k, List.mem_map.2 ⟨k, hk, rfl⟩, hp⟩, by unfold leafB; rw [hmd]; rfl⟩)))
        _ out ⟨i, him, .inl (by rw [hra]; exact hri)⟩ (Nat.le_refl _)
      rw [hw]
end Go.Proofs.YtnmhaipjfpongabGreatDoor

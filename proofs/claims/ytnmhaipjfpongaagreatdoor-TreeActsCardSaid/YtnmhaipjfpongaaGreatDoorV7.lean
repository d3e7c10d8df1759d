/- The model's tree: Find and Remove. No condition but that the model is one. -/
import Derived.Test.YtnmhaipjfpongaaGreatDoorA2
import Derived.Test.YtnmhaipjfpongaaGreatDoorV4
import Derived.Deep.AppendLies
import Derived.Laws.AppendOwnNone
namespace Go.Proofs.YtnmhaipjfpongaaGreatDoor
open Go.ChangeShapes Go.WideShapes Go.ChangeAt Go.RowKit

abbrev encF (p : B × B) : List Value := [S p.1, S p.2]
theorem encF_len (p : B × B) : (encF p).length = 2 := rfl
theorem encF_one (p : B × B) : ∀ u ∈ encF p, u.oneCell' = true := by
  intro u hu
  rcases List.mem_cons.1 hu with rfl | hu
  · rfl
  · rcases List.mem_cons.1 hu with rfl | hu
    · rfl
    · cases hu
theorem infoFile : (Tryz.prog.info? 57).map (fun i => (i.zero, i.size, i.bytes)) = some (some (.agg #[.string ⟨#[]⟩, .string ⟨#[]⟩]), 2, 32) := by kernel_rfl

/-- The place of a key; -1: none. -/
def fndT (L : List (B × B)) (k : B) : Int := match L.findIdx? (fun p => p.1 == k) with | some i => (i : Int) | none => -1

theorem fndT_hit {L : List (B × B)} {k : B} {j : Nat} {p : B × B} (hp : L[j]? = some p) (hk : p.1 = k) (hb : ∀ i (q : B × B), i < j → L[i]? = some q → q.1 ≠ k) : fndT L k = (j : Int) := by
  have hj := (List.getElem?_eq_some_iff.1 hp).1
  have : L.findIdx? (fun p => p.1 == k) = some j := by
    rw [List.findIdx?_eq_some_iff_getElem]
    refine ⟨hj, ?_, fun i hi => ?_⟩
    · have := (List.getElem?_eq_some_iff.1 hp).2
      rw [this, hk]; simp
    · have := hb i L[i] hi (List.getElem?_eq_getElem (by omega))
      simpa using this
  unfold fndT
  rw [this]

theorem fndT_miss {L : List (B × B)} {k : B} (hb : ∀ (i : Nat) (q : B × B), L[i]? = some q → q.1 ≠ k) : fndT L k = -1 := by
  have : L.findIdx? (fun p => p.1 == k) = none := by
    rw [List.findIdx?_eq_none_iff]
    intro q hq
    obtain ⟨i, hi⟩ := List.getElem?_of_mem hq
    have := hb i q hi
    simpa using this
  unfold fndT
  rw [this]

theorem lookup_of_fndT {L : List (B × B)} {k : B} : (fndT L k = -1 ∧ L.lookup k = none) ∨ ∃ (j : Nat) (x : B), fndT L k = (j : Int) ∧ L[j]? = some (k, x) ∧ L.lookup k = some x := by
  induction L with
  | nil => exact .inl ⟨rfl, rfl⟩
  | cons p L ih =>
    obtain ⟨k', x⟩ := p
    by_cases h : k' = k
    · subst h
      exact .inr ⟨0, x, by simp [fndT, List.findIdx?_cons], rfl, by simp⟩
    · have h' : ¬ k = k' := fun e => h e.symm
      have hl : ((k', x) :: L).lookup k = L.lookup k := by simp [List.lookup, beq_eq_false_iff_ne.2 h']
      rw [hl]
      have hf : ((k', x) :: L).findIdx? (fun p => p.1 == k) = (L.findIdx? (fun p => p.1 == k)).map (· + 1) := by simp [List.findIdx?_cons, h]
      rcases ih with ⟨h1, h2⟩ | ⟨j, y, h1, h2, h3⟩
      · refine .inl ⟨?_, h2⟩
        unfold fndT at h1 ⊢
        rw [hf]
        cases hq : L.findIdx? (fun p => p.1 == k) with
        | none => rfl
        | some i => rw [hq] at h1; simp at h1 <;> omega
      · refine .inr ⟨j + 1, y, ?_, by simpa using h2, h3⟩
        unfold fndT at h1 ⊢
        rw [hf]
        cases hq : L.findIdx? (fun p => p.1 == k) with
        | none => rw [hq] at h1; simp at h1 <;> omega
        | some i => rw [hq] at h1; simp at h1 ⊢; omega

set_option maxHeartbeats 1000000 in
theorem findT_any (w : World) (m : Nat) (slv : Value) (L : List (B × B)) (k : B) (hm : w.heap[m]? = some (.cells #[slv] 45 (0, 0))) (hr : RdS 2 encF w slv L) (hl : L.length ≤ 1000000) :
    Calls Tryz.prog 25 #[.pointer (some ⟨m, 0, none⟩), S k] w fun e w' => e = .returned (I (fndT L k)) ∧ w = w' := by
  obtain ⟨a, cap, rfl, _, _, hc⟩ := hr
  have c1 : w.cell? ⟨m, 0, none⟩ = some (.slice a L.length cap) := (cell_of_heap hm 0).trans rfl
  obtain ⟨r, hR⟩ : ∃ r, Hid (r = fndT L k) := ⟨_, Lib.hid rfl⟩
  rw [← hR.out]
  have HC := Lib.hid hc
  clear hc hm
  go_enter Tryz.func25, Tryz.ntmps25
  go_wp2_with fail
  go_loop [5] (fun i => ∃ j : Nat, j ≤ L.length ∧ i = .int .i64 j ∧ Hid (∀ i q, i < j → L[i]? = some q → q.1 ≠ k)) (fun i => L.length - (intOf i).toNat)
  case atStart => exact ⟨0, Nat.zero_le _, rfl, Lib.hid (fun i q h => absurd h (Nat.not_lt_zero _))⟩
  case round =>
    obtain ⟨j, hj, rfl, hb⟩ := hrel
    by_cases hlt : j < L.length
    · have hltz : (j : Int) < (L.length : Int) := by omega
      obtain ⟨b, off, rfl, hcell⟩ := HC.out (by intro h; rw [h] at hlt; simp at hlt)
      obtain ⟨⟨k', x⟩, hp⟩ : ∃ y, L[j]? = some y := ⟨_, List.getElem?_eq_getElem hlt⟩
      have d0 : w.cell? ⟨b, off + j * 2, none⟩ = some (S k') := hcell j _ hp 0 _ rfl
      have HP := Lib.hid hp
      clear hcell hp
      by_cases hk : k' = k
      · have HK := Lib.hid hk
        rw [hk] at d0
        clear hk
        go_wp2_with fail
        go_ret
        exact ⟨(by rw [hR.out, fndT_hit HP.out HK.out hb.out]; rfl), rfl⟩
      · have hkf : (k' == k) = false := beq_eq_false_iff_ne.2 hk
        have HK := Lib.hid hk
        clear hk
        go_wp2_with fail
        go_round
        case rel => exact ⟨j + 1, by omega, by go_num, Lib.hid (fun i q hi hq => by
          rcases Nat.lt_succ_iff_lt_or_eq.1 hi with h | rfl
          · exact hb.out i q h hq
          · rw [HP.out] at hq; cases hq; exact HK.out)⟩
        case measure => simp [intOf]; omega
    · have hltz : ¬ ((j : Int) < (L.length : Int)) := by omega
      go_wp2_with fail
      go_ret
      exact ⟨(by rw [hR.out, fndT_miss (fun i q hq => hb.out i q (by have := (List.getElem?_eq_some_iff.1 hq).1; omega) hq)]; rfl), rfl⟩


/-- 'append(l, k...)', the row the call's own, k: any elements, none too. -/
theorem wpList_appL {P : Program} {α : Type} (enc : α → List Value) (t e : TypeId) (n by_ : Nat) (z : Value) (hinfo : (P.info? e).map (fun i => (i.zero, i.size, i.bytes)) = some (some z, n, by_)) (ht : P.underlying t = some (.slice e)) (hzs : z.cells.size = n) (hn0 : 0 < n)
    (hlen : ∀ x, (enc x).length = n) (h1c : ∀ x, ∀ u ∈ enc x, u.oneCell' = true) (hby : by_ ≤ 1000)
    {ops : Array Oper} {rest : List Oper} {o : Oper} {a : Act} {Q : Exit → Act → World → Prop} (s x : Operand) (base : Nat) (v : Value) (l k : List α) (W : World) (hgd : o.guard = none)
    (ho : o.op = .call { callee := .builtin .append, args := #[s, x], argTypes := #[t, t] }) (hs : a.eval s = v) (ao : Option Addr) (m c : Nat) (hx : a.eval x = .slice ao m c) (hmk : m = k.length)
    (hsrc : (ao = none ∧ k = [] ∧ c = 0) ∨ ∃ ad, ao = some ad ∧ ∀ j u, (k.flatMap enc)[j]? = some u → W.cell? (ad.add j) = some u)
    (hrow : W.ownsRow base e n v l.length (l.flatMap enc)) (hl : l.length + k.length ≤ 1000000) (hbase : base ≤ W.heap.size)
    (hK : ∀ ao' m' cap w', m' = (l ++ k).length → w'.ownsRow base e n (.slice ao' m' cap) (l ++ k).length ((l ++ k).flatMap enc) → W.grownBy w' v.ownBlock → (∀ i, Value.ownBlock (.slice ao' m' cap) = some i → v.ownBlock = some i ∨ W.heap.size ≤ i) →
      wpList P ops Q rest (a.put o.dst (.slice ao' m' cap)) w') :
    wpList P ops Q (o :: rest) a W := by
  subst hmk
  obtain ⟨i0, hi, hz0, hz1, hz2⟩ := info_parts hinfo
  have hb : (l.length + k.length) * by_ ≤ 1000001 * 1000 := Nat.mul_le_mul (by omega) hby
  have hform : ∀ {W' : World} {v' : Value} {n' : Nat} {xs : List Value}, W'.ownsRow base e n v' n' xs → ∃ ao' cap, v' = .slice ao' n' cap := fun h => by
    rcases h.2 with ⟨rfl, rfl⟩ | ⟨g, cap, _, rfl, _⟩
    · exact ⟨none, 0, rfl⟩
    · exact ⟨_, cap, rfl⟩
  rcases hsrc with ⟨rfl, rfl, rfl⟩ | ⟨ad, rfl, hcells⟩
  · refine wpList_append_own_none hgd s x t ho base e i0 n ht hi v l.length (l.flatMap enc) hs hrow hx ?_
    obtain ⟨ao', cap, hv⟩ := hform hrow
    have hgr : W.grownBy W v.ownBlock := Only.grown (Only.refl _ W)
    rw [hv] at hrow hgr ⊢
    have e1 : l ++ [] = l := List.append_nil l
    have := hK ao' _ cap W rfl
    rw [e1] at this
    rw [hv] at this
    exact this hrow hgr (fun i h => .inl h)
  · refine wpList_plain hgd fun K hK' => ?_
    have h1 : ∀ u ∈ k.flatMap enc, u.oneCell' = true := fun u hu => by
      obtain ⟨y, _, hy⟩ := List.mem_flatMap.1 hu
      exact h1c y u hy
    obtain ⟨v', w', hr, h2, h3, _, h5⟩ := run_append_own_at (P := P) W base t o.type e i0 z n by_ ht hi hz0 hz1 hz2 hzs hn0 v l.length (l.flatMap enc) hrow ad k.length c (k.flatMap enc) (flat_len hlen k) hcells h1 (by unfold maxLen; omega) (by omega) hbase
    obtain ⟨ao', cap, rfl⟩ := hform h2
    unfold Oper.wp execOp
    simp only [ho, resolve, invoke, builtin, Sem.run_bind, Sem.run_pure, Result.andThen_ok, List.map_toArray, List.map_cons, List.map_nil, hs, hx, hr]
    have e1 : (l ++ k).length = l.length + k.length := List.length_append
    have := hK ao' _ cap w' rfl
    rw [e1, List.flatMap_append] at this
    refine hK' _ _ (this h2 h3 fun i hi' => ?_)
    rcases h5 with h5 | h5
    · exact .inl (h5 ▸ hi')
    · right
      rw [h5] at hi'
      have := Option.some.inj hi'
      omega
end Go.Proofs.YtnmhaipjfpongaaGreatDoor

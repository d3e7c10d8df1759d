/- Texts of this seat laid together for one claim: Yf0, O6, Yf1. No condition of its own: what each proves stands with its theorems. -/
import Derived.Test.YtnmhaipjfpongacGreatDoorYF45
import Derived.Test.YtnmhaipjfpongacGreatDoorYF34
import Derived.Test.YtnmhaipjfpongacGreatDoorYF48
import Derived.Test.YtnmhaipjfpongacGreatDoorYF44
import Derived.Deep.Slices
import Derived.Test.YtnmhaipjfpongacGreatDoorYF13
import Derived.Test.YtnmhaipjfpongacGreatDoorYF12
import Derived.Test.YtnmhaipjfpongacGreatDoorYF46
namespace Go.Proofs.YtnmhaipjfpongacGreatDoor

theorem newFault_all {l : List Rule} (hof : (orderFault l).1 = 0) : newFault l (l.map Rule.out) = (0, -1) := by
 obtain ⟨hr, ho⟩ := orderFault_ok hof
 have h0 : needFault l (l.map Rule.out) = (0, -1) := by
  unfold needFault
  rw [if_neg (by rw [sheet_ok.2 hr]; simp), bad_none (fun x hx => by
   obtain ⟨r, hr, rfl⟩ := List.mem_map.1 hx
   exact made_out hr)]
 unfold newFault partFault
 rw [if_neg (by rw [h0]; simp)]
 cases hq : partB l (needL l (l.map Rule.out)) with
 | some o2 => rfl
 | none =>
  have hc := Clo.need l (l.map Rule.out)
  obtain ⟨k, s, hk, hks, hs, hw⟩ := orderB_circle hq (fun a b ha hia hn => by
   have hb := (needB_lt hn).2
   exact ⟨hb, by simpa using hc.clos a (by simpa using hia) b hb hn⟩)
  exact absurd hw (Ordered.no_circle (orderB_some ho).1 (fun _ _ hn => (needB_lt hn).2) (order_covers ho hk rfl) hs)

theorem no_tail {p : B} : pathOk (p ++ [47]) = false := by
 cases h : pathOk (p ++ [47]) with
 | false => rfl
 | true =>
  unfold pathOk partsOk at h
  rw [Bool.and_eq_true, List.all_eq_true] at h
  have h1 := h.2 [] (by rw [cut_app_any p []]; simp [cut])
  unfold nameOk at h1
  simp at h1
theorem noClash_of {l : List Rule} (hR : RightS l) (h : ∀ r ∈ l, ∀ q ∈ l, r.out.length + 1 < q.out.length → q.out.take (r.out.length + 1) ≠ r.out ++ [47]) : NoClash l := fun r hr q hq => by
 cases hc : aboveB r.out q.out with
 | false => rfl
 | true =>
  unfold aboveB at hc
  obtain ⟨t, ht⟩ := List.isPrefixOf_iff_prefix.1 hc
  cases t with
  | nil =>
   have := rule_path (hR.2.1 q hq)
   rw [← ht, List.append_nil, no_tail] at this
   cases this
  | cons c t =>
   refine absurd ?_ (h r hr q hq (by rw [← ht]; simp))
   rw [← ht, List.take_left' (by simp)]

section
variable {E : BE} {KS : List B} {s : BS} {L : FL} {many : Nat}
theorem RoomK.mono {s' : BS} (h : RoomK E KS s L) (hs : ∀ k ∈ E.sm, s'.st k = 2 → s.st k = 2) : RoomK E KS s' L := ⟨h.nodup, h.keys, fun i hi h2 => h.has i hi (hs i hi h2)⟩
theorem RoomK.run (h : RoomK E KS s L) (hk : ∀ i ∈ E.sm, E.key i ∈ KS) (hm : KS.length ≤ many) (z : Int) : RoomK E KS (runZ E (some (many, L)) s z).2.1 (cacheZ E many L s z) := by
 unfold cacheZ
 by_cases hin : ∃ i : Nat, i ∈ E.sm ∧ (i : Int) = z
 ·obtain ⟨i, hi, rfl⟩ := hin
  rw [runZ_in hi]
  unfold runP
  split
  ·exact h
  ·split
   ·exact h
   ·split
    ·exact h
    ·split
     ·exact h.mono fun k _ hk => fail_two hk
     ·simp only
      cases hl : L.lookup (E.key i) with
      | some x => exact h.get (by rw [hl]; rfl) (fun k _ hk => done_two hk)
      | none => exact h.put hm (hk i hi) _ (fun k _ hk => done_two hk)
 ·rw [runZ_out (fun k hk e => hin ⟨k, hk, e⟩)]
  exact h
theorem AllTo.inv {σ : Type} {bs : σ → BS} {step : σ → Nat → σ} {I : σ → Prop} (hI : ∀ x i, I x → I (step x i)) {x y : σ} (h : AllTo E bs step x y) : I x → I y := by
 induction h with
 | stop _ => exact id
 | more _ _ ih => exact fun h => ih (hI _ _ h)
theorem room_all {x y : BS × CS} (h : AllTo E (·.1) (stepM E) x y) (hk : ∀ i ∈ E.sm, E.key i ∈ KS) (hm : KS.length ≤ many) (h0 : ∃ L, x.2 = some (many, L) ∧ RoomK E KS x.1 L) : ∃ L, y.2 = some (many, L) ∧ RoomK E KS y.1 L :=
 h.inv (I := fun x => ∃ L, x.2 = some (many, L) ∧ RoomK E KS x.1 L) (fun x i ⟨L, h1, h2⟩ => by
  obtain ⟨s, C⟩ := x
  have h1 : C = some (many, L) := h1
  subst h1
  exact ⟨_, runZ_cs E many L s i, h2.run hk hm i⟩) h0
theorem hits_all {x y : BS × CS} (h : AllTo E (·.1) (stepM E) x y) (h0 : ∃ L, x.2 = some (many, L) ∧ (∀ i ∈ E.sm, (E.ans i).2 = 0 → (L.lookup (E.key i)).isSome = true) ∧ ∀ i ∈ E.sm, x.1.st i = 2 → x.1.hit i = true) : ∀ i ∈ E.sm, y.1.st i = 2 → y.1.hit i = true :=
 (h.inv (I := fun x => ∃ L, x.2 = some (many, L) ∧ (∀ i ∈ E.sm, (E.ans i).2 = 0 → (L.lookup (E.key i)).isSome = true) ∧ ∀ i ∈ E.sm, x.1.st i = 2 → x.1.hit i = true) (fun x i ⟨L, h1, h2, h3⟩ => by
  obtain ⟨s, C⟩ := x
  have h1 : C = some (many, L) := h1
  subst h1
  have hr := hits_run (many := many) h2 h3 (i : Int)
  refine ⟨_, runZ_cs E many L s i, fun k hk ha => ?_, hr.1⟩
  rcases hr.2 with e | ⟨j, _, _, e⟩
  ·rw [e]; exact h2 k hk ha
  ·rw [e, lookup_get]; exact h2 k hk ha) h0).elim fun _ h => h.2.2
theorem count_again {t : BS} (hs : ∀ i ∈ E.sm, s.st i = finS E i) (ht : ∀ i ∈ E.sm, t.st i = finS E i) (hh : ∀ i ∈ E.sm, t.st i = 2 → t.hit i = true) :
  E.sm.countP (cRan t) = 0 ∧ E.sm.countP (cHit t) = E.sm.countP (cRan s) + E.sm.countP (cHit s) ∧ E.sm.countP (cFail t) = E.sm.countP (cFail s) ∧ E.sm.countP (cLeft t) = E.sm.countP (cLeft s) := by
 have h1 := cnt_allhit hh
 have h2 := cnt_done s E.sm
 have h3 := cnt_done t E.sm
 have h4 := cnt_fin ht hs
 refine ⟨h1, by omega, List.countP_congr fun k hk => ?_, List.countP_congr fun k hk => ?_⟩
 ·unfold cFail
  rw [hs k hk, ht k hk]
 ·unfold cLeft
  rw [hs k hk, ht k hk]
end

section
variable {l : List Rule} {T O U : FL} {s t : BS}
theorem all_well (hof : (orderFault l).1 = 0) (hT : FTree T) : ∃ o, BWell (newE l (l.map Rule.out) T) o (fun i => (needL l (l.map Rule.out)).contains i) := by
 obtain ⟨hr, _, o, hp⟩ := newFault_ok (l := l) (outs := l.map Rule.out) (by rw [newFault_all hof])
 exact ⟨o, new_well hr hp hT.bytes⟩
theorem all_sm (hof : (orderFault l).1 = 0) {i : Nat} : i ∈ needL l (l.map Rule.out) ↔ i < l.length := by
 rw [need_rng (orderFault_ok hof).1.2.2, List.mem_range]
theorem order_all (hof : (orderFault l).1 = 0) {i : Nat} : i ∈ orderOut l ↔ i < l.length := by
 obtain ⟨_, ho⟩ := orderFault_ok hof
 exact ⟨fun h => (orderB_some ho).1.lt i h, fun h => order_covers ho h rfl⟩
theorem OutIn.ftree (h : OutIn l O) (hR : RightS l) : FTree O := ⟨h.fits, fun q hq => by
 obtain ⟨r, hr, e⟩ := h.own q hq
 have := (right_short hR r hr).out
 rw [← e]; omega⟩
theorem fresh_in (hof : (orderFault l).1 = 0) (hO : OutIn l O) : OutIn l (outY (newE l (l.map Rule.out) T) s O (orderOut l)) :=
 OutIn.outs (E := newE l (l.map Rule.out) T) hO _ fun _ hi => (order_all hof).1 hi
theorem fresh_stale (hof : (orderFault l).1 = 0) (hT : FTree T) (hn : NoClash l) (hO : OutIn l O) (hI : BInv (newE l (l.map Rule.out) T) s) (hov : ∀ i ∈ needL l (l.map Rule.out), s.st i ≠ 1) : staleL l T (outY (newE l (l.map Rule.out) T) s O (orderOut l)) = [] := by
 obtain ⟨o, hW⟩ := all_well hof hT
 have hfin := hW.final hI hov
 have hl := (outs_lookup hW (show OutIn (newE l (l.map Rule.out) T).l O from hO) hn hfin (orderOut l) (fun i hi => (all_sm hof).2 ((order_all hof).1 hi))).1
 unfold staleL
 rw [List.filter_eq_nil_iff]
 intro p hp
 obtain ⟨i, hi⟩ := List.getElem?_of_mem hp
 rw [List.getElem?_map] at hi
 obtain ⟨r, hr, rfl⟩ := Option.map_eq_some_iff.1 hi
 have hil := (List.getElem?_eq_some_iff.1 hr).1
 have he : (newE l (l.map Rule.out) T).rule i = r := by unfold BE.rule; rw [hr]; rfl
 have h1 := hl i ((order_all hof).2 hil)
 rw [he] at h1
 have h2 : (newE l (l.map Rule.out) T).ans i = wantW l T r.out := by unfold BE.ans BE.W; rw [he]
 unfold staleP
 rw [h1]
 unfold resY
 rw [h2]
 by_cases h0 : (wantW l T r.out).2 = 0
 ·rw [if_pos h0, h0]; simp
 ·rw [if_neg h0]
  have : ((wantW l T r.out).2 == 0) = false := beq_eq_false_iff_ne.2 h0
  rw [this]; simp
theorem fresh_same (hof : (orderFault l).1 = 0) (hT : FTree T) (hn : NoClash l) (hO : OutIn l O) (hU : OutIn l U) (hI : BInv (newE l (l.map Rule.out) T) s) (hov : ∀ i ∈ needL l (l.map Rule.out), s.st i ≠ 1) (hJ : BInv (newE l (l.map Rule.out) T) t) (hov2 : ∀ i ∈ needL l (l.map Rule.out), t.st i ≠ 1) :
  outY (newE l (l.map Rule.out) T) s O (orderOut l) = outY (newE l (l.map Rule.out) T) t U (orderOut l) := by
 obtain ⟨o, hW⟩ := all_well hof hT
 exact outs_same hW (fun i hi => (all_sm hof).2 hi) hO hU hn (hW.final hI hov) (hW.final hJ hov2) (fun i hi => (all_sm hof).2 ((order_all hof).1 hi)) (fun i hi => (order_all hof).2 ((all_sm hof).1 hi))
noncomputable def keysY (l : List Rule) (T : FL) : List B := (needL l (l.map Rule.out)).map (newE l (l.map Rule.out) T).key
theorem keysY_len (hof : (orderFault l).1 = 0) : (keysY l T).length = l.length := by
 unfold keysY
 rw [List.length_map, need_rng (orderFault_ok hof).1.2.2, List.length_range]
structure Kept (KS : List B) (L : FL) : Prop where
 nodup : (L.map (·.1)).Nodup
 keys : ∀ k ∈ L.map (·.1), k ∈ KS
theorem fresh_room {KS : List B} {L L' : FL} (h : Kept KS L) (hm : (KS ++ keysY l T).length ≤ 100) (ha : AllTo (newE l (l.map Rule.out) T) (·.1) (stepM (newE l (l.map Rule.out) T)) (.new, some (100, L)) (s, some (100, L'))) : RoomK (newE l (l.map Rule.out) T) (KS ++ keysY l T) s L' := by
 obtain ⟨L2, e, h2⟩ := room_all ha (KS := KS ++ keysY l T) (fun i hi => List.mem_append_right _ (List.mem_map.2 ⟨i, hi, rfl⟩)) hm ⟨L, rfl, h.nodup, fun k hk => List.mem_append_left _ (h.keys k hk), fun i _ h2 => by cases h2⟩
 cases e
 exact h2
theorem fresh_again {KS : List B} {L1 L2 : FL} (hof : (orderFault l).1 = 0) (hT : FTree T) (hR : RoomK (newE l (l.map Rule.out) T) KS s L1) (hI : BInv (newE l (l.map Rule.out) T) s) (hov : ∀ i ∈ needL l (l.map Rule.out), s.st i ≠ 1) (hks : ∀ k ∈ keysY l T, k ∈ KS) (hm : KS.length ≤ 100) (ha : AllTo (newE l (l.map Rule.out) T) (·.1) (stepM (newE l (l.map Rule.out) T)) (.new, some (100, L1)) (t, some (100, L2))) (hJ : BInv (newE l (l.map Rule.out) T) t) (hov2 : ∀ i ∈ needL l (l.map Rule.out), t.st i ≠ 1) :
  Kept KS L2 ∧ ∃ a b c d : Nat, cntV s (needL l (l.map Rule.out)) = #[IN a, IN b, IN c, IN d] ∧ cntV t (needL l (l.map Rule.out)) = #[IN 0, IN (a + b), IN c, IN d] := by
 obtain ⟨o, hW⟩ := all_well hof hT
 have hf := hW.final hI hov
 have hall : ∀ i ∈ (newE l (l.map Rule.out) T).sm, ((newE l (l.map Rule.out) T).ans i).2 = 0 → (L1.lookup ((newE l (l.map Rule.out) T).key i)).isSome = true := fun i hi h0 => hR.has i hi (by rw [hf i hi]; exact fin_two h0)
 have hh := hits_all (many := 100) ha ⟨L1, rfl, hall, fun i _ h2 => by cases h2⟩
 obtain ⟨c1, c2, c3, c4⟩ := count_again hf (hW.final hJ hov2) hh
 obtain ⟨L3, e, h3⟩ := room_all ha (KS := KS) (fun i hi => hks _ (List.mem_map.2 ⟨i, hi, rfl⟩)) hm ⟨L1, rfl, hR.nodup, hR.keys, fun i _ h2 => by cases h2⟩
 cases e
 refine ⟨⟨h3.nodup, h3.keys⟩, _, _, _, _, rfl, ?_⟩
 show #[IN (List.countP (cRan t) (newE l (l.map Rule.out) T).sm), IN (List.countP (cHit t) (newE l (l.map Rule.out) T).sm), IN (List.countP (cFail t) (newE l (l.map Rule.out) T).sm), IN (List.countP (cLeft t) (newE l (l.map Rule.out) T).sm)] = _
 rw [c1, c2, c3, c4]
end
end Go.Proofs.YtnmhaipjfpongacGreatDoor

namespace Go.Proofs.YtnmhaipjfpongacGreatDoor
open Go.ChangeShapes Go.WideShapes Go.ChangeAt Go.RowKit

def RdFF (w : World) (v : Value) (l : List FL) : Prop :=
 ∃ a cap, v = .slice a l.length cap ∧ l.length ≤ cap ∧ cap ≤ maxLen ∧ (l ≠ [] → ∃ b off, a = some ⟨b, off, none⟩ ∧ ∀ (i : Nat) fs, l[i]? = some fs → ∃ u, w.cell? ⟨b, off + i, none⟩ = some u ∧ RdS 2 encF w u fs)
theorem RdFF.ext {w w' : World} {v : Value} {l : List FL} (h : RdFF w v l) (ho : Ext w w') : RdFF w' v l := by
 obtain ⟨a, cap, h1, h2, h3, h4⟩ := h
 refine ⟨a, cap, h1, h2, h3, fun hne => ?_⟩
 obtain ⟨b, off, h5, h6⟩ := h4 hne
 refine ⟨b, off, h5, fun i fs hi => ?_⟩
 obtain ⟨u, h7, h8⟩ := h6 i fs hi
 exact ⟨u, ho.cellOf h7 (fun h => h), h8.ext ho⟩
theorem trod_files {H : Type} {enc : TypeId × Value → H} {w : World} {base : Nat} {spare : Nat → Bool} {held : Bool} {fuel : Nat} {v : Value} {x : DataW H × List MemPlace}
  (h : DataW.trod enc Tryz.prog w base spare held fuel 22 [v] = some x) : ∃ l : FL, RdS 2 encF w v l := by
 rcases open_slice_fields Tryz.underlying22 Tryz.underlying65 (by kernel_rfl) cellsFile h with ⟨h0, _⟩ | ⟨ad, len', cap', m, D, Pl, hcs, _, hl, hm, hmm, hxx, hi⟩
 ·cases h0
  exact ⟨[], RdS.nil _ _ _⟩
 ·cases hcs
  have key : ∀ i, ∃ y : B × B, i < len' → w.cell? (ad.add (i * 2)) = some (S y.1) ∧ w.cell? (ad.add (i * 2 + 1)) = some (S y.2) := by
   intro i
   by_cases hlt : i < len'
   ·have him : i < m := by rw [hmm]; split <;> omega
    obtain ⟨ys, n, hD, _, hyl, hf⟩ := hi i him
    obtain ⟨v0, y0, c0, g0, t0⟩ := hf 0 _ rfl
    obtain ⟨v1, y1, c1, g1, t1⟩ := hf 1 _ rfl
    obtain ⟨p, e0, z0, _⟩ := DataW.trod_string Tryz.underlying9 t0
    obtain ⟨k, e1, z1, _⟩ := DataW.trod_string Tryz.underlying9 t1
    cases e0; cases e1
    exact ⟨(p.data.toList, k.data.toList), fun _ => ⟨c0, c1⟩⟩
   ·exact ⟨([], []), fun h => absurd h hlt⟩
  refine ⟨(List.range len').map fun i => Classical.choose (key i), some ad, cap', by simp, by simpa using hl, hm, fun hne => ?_⟩
  have hpos : 0 < len' := by
   rcases Nat.eq_zero_or_pos len' with h | h
   ·subst h; simp at hne
   ·exact h
  obtain ⟨b, off, spot⟩ := ad
  have hs : spot = none := by
   have := (Classical.choose_spec (key 0) hpos).1
   simpa [Addr.add] using World.cell?_spot this
  subst hs
  refine ⟨b, off, rfl, fun i y hx j u hu => ?_⟩
  have hlt : i < len' := by have := (List.getElem?_eq_some_iff.1 hx).1; simpa using this
  have he : Classical.choose (key i) = y := by
   rw [List.getElem?_map, List.getElem?_range hlt] at hx
   simpa using hx
  obtain ⟨h0, h1⟩ := Classical.choose_spec (key i) hlt
  rw [he] at h0 h1
  rw [addr_addR] at h0 h1
  rcases j with _ | _ | j
  ·cases hu; exact h0
  ·cases hu; exact h1
  ·simp at hu
theorem cellsFiles : Tryz.prog.cellsOf 22 = 1 := by kernel_rfl
theorem open_edits {H : Type} {enc : TypeId × Value → H} {w : World} {base : Nat} {spare : Nat → Bool} {held : Bool} {fuel : Nat} {a : Option Addr} {len cap : Nat} {x : DataW H × List MemPlace}
  (h : DataW.trod enc Tryz.prog w base spare held fuel 59 [.slice a len cap] = some x) (_hr : ∀ n ∈ x.1.weights Tryz.prog 59, n ≤ 140737488351232) :
  ∃ l : List FL, l.length = len ∧ RdFF w (.slice a len cap) l ∧ True := by
 rcases Go.Deep.open_slice1 Tryz.underlying59 cellsFiles h with ⟨h0, _⟩ | ⟨ad, len', cap', m, n, V, D, Pl, hcs, _, hl, hm, hmm, hxx, hi⟩
 ·cases h0
  exact ⟨[], rfl, ⟨none, 0, rfl, Nat.le_refl _, Nat.zero_le _, fun h => absurd rfl h⟩, trivial⟩
 ·cases hcs
  have key : ∀ i, ∃ y : FL × Value, i < len → w.cell? (ad.add i) = some y.2 ∧ RdS 2 encF w y.2 y.1 := by
   intro i
   by_cases hlt : i < len
   ·have him : i < m := by rw [hmm]; split <;> omega
    obtain ⟨hc, ht⟩ := hi i him
    obtain ⟨fs, hf⟩ := trod_files ht
    exact ⟨(fs, V i), fun _ => ⟨hc, hf⟩⟩
   ·exact ⟨([], .nilIface), fun h => absurd h hlt⟩
  refine ⟨(List.range len).map fun i => (Classical.choose (key i)).1, by simp, ⟨some ad, cap, by simp, by simpa using hl, hm, fun hne => ?_⟩, trivial⟩
  have hpos : 0 < len := by
   rcases Nat.eq_zero_or_pos len with h | h
   ·subst h; simp at hne
   ·exact h
  obtain ⟨b, off, spot⟩ := ad
  have hs : spot = none := by
   have := (Classical.choose_spec (key 0) hpos).1
   simpa [Addr.add] using World.cell?_spot this
  subst hs
  refine ⟨b, off, rfl, fun i fs hx => ?_⟩
  have hlt : i < len := by have := (List.getElem?_eq_some_iff.1 hx).1; simpa using this
  have he : (Classical.choose (key i)).1 = fs := by
   rw [List.getElem?_map, List.getElem?_range hlt] at hx
   simpa using hx
  obtain ⟨h0, h1⟩ := Classical.choose_spec (key i) hlt
  subst he
  exact ⟨_, (congrArg w.cell? (addr_addR b off i)).symm.trans h0, h1⟩
end Go.Proofs.YtnmhaipjfpongacGreatDoor

namespace Go.Proofs.YtnmhaipjfpongacGreatDoor
open Go.ChangeShapes Go.WideShapes Go.ChangeAt Go.RowKit

theorem take_put {L : FL} (hf : Fits L) (ha : Apart L) {t : Nat} {p x : B} (ht : L[t]? = some (p, x)) : putCode (L.take t) p x = 0 ∧ putT (L.take t) p x = L.take (t + 1) := by
 have htl := (List.getElem?_eq_some_iff.1 ht).1
 obtain ⟨h1, h2⟩ := puts_back hf ha t (by omega)
 obtain ⟨h3, h4⟩ := puts_back hf ha (t + 1) (by omega)
 rw [putsC_step ht h1, h2] at h3
 rw [putsT_step ht, h2] at h4
 exact ⟨h3, h4⟩
theorem FTree.take {L : FL} (h : FTree L) (t : Nat) : FTree (L.take t) :=
 ⟨⟨h.fits.rising.sublist (List.take_sublist _ _), by rw [List.length_take]; have := h.fits.few; omega, fun q hq => h.fits.path q (List.mem_of_mem_take hq), fun q hq => h.fits.bytes q (List.mem_of_mem_take hq)⟩, fun q hq => h.lens q (List.mem_of_mem_take hq)⟩
theorem cell_map {w : World} {b k : Nat} {d : TypeDesc} {L : List (Value × Value)} (h : MapAt d w b L) : w.cell? ⟨b, k, none⟩ = none := by
 obtain ⟨es, c, hb, _⟩ := h
 simp [World.cell?, hb]
theorem Rd.offMap {w w' : World} {b : Nat} {M : FL} {v : Value} {L : List B} (h : Rd S w v L) (hm : KMap .string S S w b M) (ho : Only (fun i => i = b) w w') : Rd S w' v L := by
 obtain ⟨a, cap, rfl, h1, h2, h3⟩ := h
 refine ⟨a, cap, rfl, h1, h2, fun hne => ?_⟩
 obtain ⟨b', off, rfl, h4⟩ := h3 hne
 refine ⟨b', off, rfl, fun i x hx => ho.cellOf (h4 i x hx) (fun e => ?_)⟩
 have e : b' = b := e
 subst e
 have := h4 i x hx
 rw [cell_map hm] at this
 cases this
structure FTA (T : FL) : Prop where
 ft : FTree T
 ap : Apart T
theorem FTA.nil : FTA [] := ⟨FTree.nil, Apart.nil⟩
theorem FTA.put {T : FL} (h : FTA T) (p x : B) (hp : p.length ≤ 1000) : FTA (putT T p x) := ⟨h.ft.put p x hp, h.ap.put h.ft.fits.rising p x⟩
theorem FTA.del {T : FL} (h : FTA T) (p : B) : FTA (delT T p) := ⟨h.ft.remove p, h.ap.del p⟩
section
variable {w0 w w' : World} {l : List Rule} {n : Nat} {D : Nat → Prop} {sv lv : Value} {T O L : FL} {j : Nat}
structure FrAt (w0 w : World) (l : List Rule) (n : Nat) (D : Nat → Prop) (sv lv : Value) (T O L : FL) (j : Nat) : Prop where
 yard : YardAt w0 w D n sv lv 100 T O L l
 ft : FTA T
 oi : OutIn l O
 kept : ∃ KS : List B, Kept KS L ∧ KS.length ≤ 12 * j
theorem FrAt.grow (h : FrAt w0 w l n D sv lv T O L j) (ho : Ext w w') : FrAt w0 w' l n D sv lv T O L j := ⟨h.yard.grow ho, h.ft, h.oi, h.kept⟩
theorem FrAt.files {U : FL} (h : FrAt w0 w l n D sv lv T O L j) (hy : YardAt w0 w' D n sv lv 100 U O L l) (hU : FTA U) : FrAt w0 w' l n D sv lv U O L j := ⟨hy, hU, h.oi, h.kept⟩
theorem FrAt.twice {s t : BS} {D2 : Nat → Prop} {sv2 : Value} {L1 L2 : FL} (h : FrAt w0 w l n D sv lv T O L j) (hj : j < 6) (hof : (orderFault l).1 = 0) (h12 : l.length ≤ 12)
  (a1 : AllTo (newE l (l.map Rule.out) T) (·.1) (stepM (newE l (l.map Rule.out) T)) (.new, some (100, L)) (s, some (100, L1))) (i1 : BInv (newE l (l.map Rule.out) T) s) (o1 : ∀ i ∈ needL l (l.map Rule.out), s.st i ≠ 1)
  (a2 : AllTo (newE l (l.map Rule.out) T) (·.1) (stepM (newE l (l.map Rule.out) T)) (.new, some (100, L1)) (t, some (100, L2))) (i2 : BInv (newE l (l.map Rule.out) T) t) (o2 : ∀ i ∈ needL l (l.map Rule.out), t.st i ≠ 1)
  (hy : YardAt w0 w' D2 n sv2 lv 100 T (outY (newE l (l.map Rule.out) T) t (outY (newE l (l.map Rule.out) T) s O (orderOut l)) (orderOut l)) L2 l) :
  FrAt w0 w' l n D2 sv2 lv T (outY (newE l (l.map Rule.out) T) t (outY (newE l (l.map Rule.out) T) s O (orderOut l)) (orderOut l)) L2 (j + 1) ∧ ∃ a b c d : Nat, cntV s (needL l (l.map Rule.out)) = #[IN a, IN b, IN c, IN d] ∧ cntV t (needL l (l.map Rule.out)) = #[IN 0, IN (a + b), IN c, IN d] ∧ a + b ≤ 12 := by
 obtain ⟨KS, hk, hkl⟩ := h.kept
 have hlen : (KS ++ keysY l T).length ≤ 12 * (j + 1) := by rw [List.length_append, keysY_len hof]; omega
 have hr := fresh_room hk (by omega) a1
 obtain ⟨h1, a, b, c, d, e1, e2⟩ := fresh_again hof h.ft.ft hr i1 o1 (fun k hk => List.mem_append_right _ hk) (by omega) a2 i2 o2
 refine ⟨⟨hy, h.ft, fresh_in hof (fresh_in hof h.oi), _, h1, hlen⟩, a, b, c, d, e1, e2, ?_⟩
 have hc := cnt_done s (needL l (l.map Rule.out))
 have hle := List.countP_le_length (p := fun k => s.st k == 2) (l := needL l (l.map Rule.out))
 have hsm : (needL l (l.map Rule.out)).length = l.length := by rw [need_rng (orderFault_ok hof).1.2.2, List.length_range]
 have ea : List.countP (cRan s) (needL l (l.map Rule.out)) = a := by
  have := congrArg (fun x : Array Value => x[0]?) e1
  simp at this
  omega
 have eb : List.countP (cHit s) (needL l (l.map Rule.out)) = b := by
  have := congrArg (fun x : Array Value => x[1]?) e1
  simp at this
  omega
 omega
end
end Go.Proofs.YtnmhaipjfpongacGreatDoor

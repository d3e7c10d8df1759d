/- Texts of this seat laid together for one claim: J4, Ya3, S2. No condition of its own: what each proves stands with its theorems. -/
import Derived.Deep.AppendLies
import Derived.Deep.RegionHeld3
import Derived.Deep.RegionLaw
import Derived.Test.YtnmhaipjfpongacGreatDoorSA5
import Derived.Test.YtnmhaipjfpongacGreatDoorSA18
import Derived.Test.YtnmhaipjfpongacGreatDoorSA9
import Derived.Test.YtnmhaipjfpongacGreatDoorSA6
import Derived.Shelf.SlicesE.Clone
import Derived.Test.YtnmhaipjfpongacGreatDoorSA17
namespace Go.Proofs.YtnmhaipjfpongacGreatDoor
open Go.ChangeShapes Go.WideShapes Go.ChangeAt Go.RowKit

abbrev SV (q : Option Addr × Nat × Nat) : Value := .slice q.1 q.2.1 q.2.2
abbrev encR (p : Rule × Option Addr × Nat × Nat) : List Value := [S p.1.out, S p.1.kind, S p.1.word, SV p.2]
theorem encR_one (p : Rule × Option Addr × Nat × Nat) : ∀ u ∈ encR p, u.oneCell' = true := by
 intro u hu
 simp only [encR, List.mem_cons, List.not_mem_nil, or_false] at hu
 rcases hu with rfl | rfl | rfl | rfl <;> rfl
theorem infoRule : (Tryz.prog.info? 55).map (fun i => (i.zero, i.size, i.bytes)) = some (some (.agg #[.string ⟨#[]⟩, .string ⟨#[]⟩, .string ⟨#[]⟩, .slice none 0 0]), 4, 72) := by kernel_rfl
theorem encR_len (p : Rule × Option Addr × Nat × Nat) : (encR p).length = 4 := rfl

structure OwnR (w wr : World) (v : Value) (ps : List (Rule × Option Addr × Nat × Nat)) : Prop where
 ext : Ext w wr
 row : wr.ownsRow w.heap.size 55 4 v ps.length (ps.flatMap encR)
 texts : ∀ p ∈ ps, Rd S wr (SV p.2) p.1.ins ∧ ∀ b, (SV p.2).ownBlock = some b → b < wr.heap.size ∧ v.ownBlock ≠ some b

theorem OwnR.grow {w wr w' : World} {v : Value} {ps : List (Rule × Option Addr × Nat × Nat)} (h : OwnR w wr v ps) (ho : Ext wr w') : OwnR w w' v ps :=
 ⟨h.ext.then ho, ho.row h.row (fun _ _ h => h), fun p hp => ⟨(h.texts p hp).1.ext ho, fun b hb => ⟨Nat.lt_of_lt_of_le ((h.texts p hp).2 b hb).1 ho.size, ((h.texts p hp).2 b hb).2⟩⟩⟩
theorem OwnR.push {w wr w1 w2 : World} {v v' : Value} {u : Option Addr × Nat × Nat} {ps : List (Rule × Option Addr × Nat × Nat)} {r : Rule} (h : OwnR w wr v ps) (hx : Ext wr w1) (hu : Row wr.heap.size w1 (SV u) r.ins) (hr : w2.ownsRow w.heap.size 55 4 v' (ps.length + 1) ((ps ++ [(r, u)]).flatMap encR)) (hg : w1.grownBy w2 v.ownBlock) (ha : ∀ i, v'.ownBlock = some i → v.ownBlock = some i ∨ w1.heap.size ≤ i) :
  OwnR w w2 v' (ps ++ [(r, u)]) := by
 have ho : Only (fun b => v.ownBlock = some b) w1 w2 := Only.of_grown hg
 have hb : ∀ b, v.ownBlock = some b → w.heap.size ≤ b ∧ b < wr.heap.size := fun b e => h.row.lt b e
 have hw : Ext w w2 := (h.ext.then hx).trans ho (fun _ _ h => h) (fun i hi e => by have := (hb i e).1; omega)
 refine ⟨hw, by rw [List.length_append]; exact hr, fun p hp => ?_⟩
 rcases List.mem_append.1 hp with hp | hp
 ·obtain ⟨h1, h2⟩ := h.texts p hp
  refine ⟨(h1.ext hx).later ho (fun b e e2 => (h2 b e).2 e2), fun b e => ⟨Nat.lt_of_lt_of_le (Nat.lt_of_lt_of_le (h2 b e).1 hx.size) ho.size, fun e2 => ?_⟩⟩
  rcases ha b e2 with e3 | e3
  ·exact (h2 b e).2 e3
  ·have := (h2 b e).1; have := hx.size; omega
 ·rw [List.mem_singleton] at hp
  subst hp
  refine ⟨hu.rd.later ho (fun b e e2 => by have := (hu.lt b e).1; have := (hb b e2).2; omega), fun b e => ⟨Nat.lt_of_lt_of_le (hu.lt b e).2 ho.size, fun e2 => ?_⟩⟩
  have h3 := hu.lt b e
  rcases ha b e2 with e3 | e3
  ·have := (hb b e3).2; omega
  ·omega
theorem OwnR.rd {w wr : World} {v : Value} {ps : List (Rule × Option Addr × Nat × Nat)} {l : List Rule} (h : OwnR w wr v ps) (hl : ps.map Prod.fst = l) : RdR wr v l := by
 have hs := RdS.of_row encR_len h.row
 obtain ⟨a, cap, h1, h2, h3, h4⟩ := hs
 have hlen : ps.length = l.length := by rw [← hl, List.length_map]
 refine ⟨a, cap, by rw [← hlen]; exact h1, by omega, h3, fun hne => ?_⟩
 obtain ⟨b, off, h5, h6⟩ := h4 (by intro e; rw [e] at hl; exact hne hl.symm)
 refine ⟨b, off, h5, fun i r hi => ?_⟩
 rw [← hl, List.getElem?_map] at hi
 obtain ⟨p, hp, rfl⟩ := Option.map_eq_some_iff.1 hi
 refine ⟨SV p.2, (h.texts p (List.mem_of_getElem? hp)).1, ?_, ?_, ?_, ?_⟩
 ·have := h6 i p hp 0 _ rfl; rwa [Nat.add_zero] at this
 ·exact h6 i p hp 1 _ rfl
 ·exact h6 i p hp 2 _ rfl
 ·exact h6 i p hp 3 _ rfl

structure ShortR (r : Rule) : Prop where
 out : r.out.length ≤ 100
 kind : r.kind.length ≤ 60
 word : r.word.length ≤ 150
 many : r.ins.length ≤ 12
 ins : ∀ s ∈ r.ins, s.length ≤ 300
theorem ShortR.sm {r : Rule} (h : ShortR r) : RuleSm 900000 r := ⟨by have := h.out; omega, by have := h.kind; omega, by have := h.word; omega, by have := h.many; omega, fun s hs => by have := h.ins s hs; omega⟩

end Go.Proofs.YtnmhaipjfpongacGreatDoor

namespace Go.Proofs.YtnmhaipjfpongacGreatDoor
open Go.ChangeShapes Go.WideShapes Go.ChangeAt Go.RowKit

def cloneR_ren : Go.Shelf.Ren := ⟨fun | 41 => 110 | n => n, fun | 4 => 4 | 22 => 23 | 23 => 55 | n => n, fun | n => n⟩
theorem cloneR_lays : SlLaysE0.n41 Tryz.prog cloneR_ren := {
 mixed := by kernel_rfl
 f41 := ⟨"slices.Clone[[]kilnyard/api.Rule,kilnyard/api.Rule]", by decide, Tryz.func110.trans (congrArg some (by kernel_rfl))⟩
 t4 := Tryz.underlying4
 a4 := Tryz.isAgg4
 z4 := Tryz.sizeOf4
 v4 := Tryz.zeroValue4
 t22 := Tryz.underlying23
 a22 := Tryz.isAgg23
 z22 := Tryz.sizeOf23
 v22 := Tryz.zeroValue23 }
theorem flat_inv {α : Type} {enc : α → List Value} {n : Nat} (hn : ∀ x, (enc x).length = n) (hp : 0 < n) : ∀ {l : List α} {j : Nat} {u : Value}, (l.flatMap enc)[j]? = some u → ∃ (i : Nat) (x : α) (t : Nat), l[i]? = some x ∧ (enc x)[t]? = some u ∧ j = i * n + t
 | [], j, u, h => by simp at h
 | x :: l, j, u, h => by
  rw [List.flatMap_cons] at h
  rcases Nat.lt_or_ge j n with hj | hj
  ·rw [List.getElem?_append_left (by rw [hn]; exact hj)] at h
   exact ⟨0, x, j, rfl, h, by omega⟩
  ·rw [List.getElem?_append_right (by rw [hn]; exact hj), hn] at h
   obtain ⟨i, y, t, h1, h2, h3⟩ := flat_inv hn hp h
   exact ⟨i + 1, y, t, by simpa using h1, h2, by rw [Nat.succ_mul]; omega⟩
theorem RdR.parts {w : World} {a : Option Addr} {cap : Nat} {l : List Rule} (h : RdR w (.slice a l.length cap) l) (hl : l ≠ []) :
  ∃ (b off : Nat) (ps : List (Rule × Option Addr × Nat × Nat)), a = some ⟨b, off, none⟩ ∧ ps.map Prod.fst = l ∧ (∀ p ∈ ps, Rd S w (SV p.2) p.1.ins) ∧ ∀ j u, (ps.flatMap encR)[j]? = some u → w.cell? ⟨b, off + j, none⟩ = some u := by
 obtain ⟨a', cap', e, _, _, hc⟩ := h
 cases e
 obtain ⟨b, off, rfl, hcell⟩ := hc hl
 have key : ∀ n, n ≤ l.length → ∃ ps : List (Rule × Option Addr × Nat × Nat), ps.map Prod.fst = l.take n ∧ (∀ p ∈ ps, Rd S w (SV p.2) p.1.ins) ∧ ∀ i p, ps[i]? = some p → w.cell? ⟨b, off + i * 4, none⟩ = some (S p.1.out) ∧ w.cell? ⟨b, off + i * 4 + 1, none⟩ = some (S p.1.kind) ∧ w.cell? ⟨b, off + i * 4 + 2, none⟩ = some (S p.1.word) ∧ w.cell? ⟨b, off + i * 4 + 3, none⟩ = some (SV p.2) := by
  intro n
  induction n with
  | zero => exact fun _ => ⟨[], rfl, (by simp), (by simp)⟩
  | succ n ih =>
   intro hn
   obtain ⟨ps, h1, h2, h3⟩ := ih (by omega)
   obtain ⟨r, hr⟩ : ∃ r, l[n]? = some r := ⟨_, List.getElem?_eq_getElem hn⟩
   obtain ⟨u, hu, c0, c1, c2, c3⟩ := hcell n r hr
   have hps : ps.length = n := by have := congrArg List.length h1; rw [List.length_map, List.length_take] at this; omega
   obtain ⟨au, cu, rfl, hu1, hu2, hu3⟩ := hu
   refine ⟨ps ++ [(r, au, r.ins.length, cu)], by rw [List.map_append, h1, List.take_add_one, hr]; rfl, fun p hp => ?_, fun i p hp => ?_⟩
   ·rcases List.mem_append.1 hp with hp | hp
    ·exact h2 p hp
    ·rw [List.mem_singleton.1 hp]; exact ⟨au, cu, rfl, hu1, hu2, hu3⟩
   ·rcases Nat.lt_or_ge i ps.length with hi | hi
    ·rw [List.getElem?_append_left hi] at hp; exact h3 i p hp
    ·rw [List.getElem?_append_right hi] at hp
     have hi0 : i - ps.length = 0 := by
      have := (List.getElem?_eq_some_iff.1 hp).1
      rw [List.length_singleton] at this
      omega
     rw [hi0] at hp
     cases hp
     have : i = n := by omega
     subst this
     exact ⟨c0, c1, c2, c3⟩
 obtain ⟨ps, h1, h2, h3⟩ := key l.length (Nat.le_refl _)
 rw [List.take_length] at h1
 refine ⟨b, off, ps, rfl, h1, h2, fun j u hu => ?_⟩
 obtain ⟨i, p, t, hp, ht, rfl⟩ := flat_inv encR_len (by decide) hu
 obtain ⟨c0, c1, c2, c3⟩ := h3 i p hp
 have ht4 : t = 0 ∨ t = 1 ∨ t = 2 ∨ t = 3 := by
  have := (List.getElem?_eq_some_iff.1 ht).1
  rw [encR_len] at this
  omega
 rcases ht4 with rfl | rfl | rfl | rfl
 ·cases ht; rw [Nat.add_zero]; exact c0
 ·cases ht; rw [← Nat.add_assoc]; exact c1
 ·cases ht; rw [← Nat.add_assoc]; exact c2
 ·cases ht; rw [← Nat.add_assoc]; exact c3
def RetCloneR (w : World) (l : List Rule) (e : Ending) (w' : World) : Prop :=
 ∃ (v : Value) (ps : List (Rule × Option Addr × Nat × Nat)), e = .returned v ∧ ps.map Prod.fst = l ∧ w'.ownsRow w.heap.size 55 4 v l.length (ps.flatMap encR) ∧ (∀ p ∈ ps, Rd S w (SV p.2) p.1.ins) ∧ Ext w w'
set_option maxRecDepth 100000 in
theorem cloneRules_any (w : World) (v : Value) (l : List Rule) (hv : RdR w v l) (hl : l.length ≤ 100000) : Calls Tryz.prog 110 #[v] w (RetCloneR w l) := by
 obtain ⟨i0, hi, hz0, hz1, hz2⟩ := info_parts infoRule
 have hz23 : ∀ w, (Go.sizeOf 55).run Tryz.prog w = .ok 4 w := Tryz.sizeOf55
 obtain ⟨a, cap, rfl, h1, h2, h3⟩ := hv
 have gen : ∀ (b off : Nat) (ps : List (Rule × Option Addr × Nat × Nat)), ps.map Prod.fst = l → (∀ p ∈ ps, Rd S w (SV p.2) p.1.ins) → (∀ j u, (ps.flatMap encR)[j]? = some u → w.cell? ⟨b, off + j, none⟩ = some u) → a = some ⟨b, off, none⟩ → Calls Tryz.prog 110 #[.slice a l.length cap] w (RetCloneR w l) := fun b off ps hps hrd hc ha => by
  subst ha
  have hlen : ps.length = l.length := by rw [← hps, List.length_map]
  refine (AnyE.slices_Clone (ρ := cloneR_ren) cloneR_lays i0 _ 4 72 hi hz0 hz1 hz2 rfl (by decide) hz23 b off l.length cap (ps.flatMap encR) w (by rw [flat_len encR_len, hlen]) (by unfold maxLen; omega) (by omega) hc (fun u hu => ?_)).mono fun e w' ⟨v', h, ho, _, hb⟩ => ⟨v', ps, h, hps, ho, hrd, Only.of_below hb⟩
  obtain ⟨p, _, hp⟩ := List.mem_flatMap.1 hu
  exact encR_one p u hp
 by_cases hne : l = []
 ·subst hne
  cases a with
  | none => exact (AnyE.slices_Clone_nil (ρ := cloneR_ren) cloneR_lays 0 cap w).mono fun e w' ⟨h, h'⟩ => ⟨_, [], h, rfl, World.ownsRow_nil _ _ _ _, (by simp), by rw [h']; exact Only.refl _ _⟩
  | some ad =>
   clear gen h1 h2 h3 hi hz0 hz1 hz2 hz23 hl
   have q22 : ∀ (w : World) (a : Option Addr) (n c n' c' : Nat), (binOp .eql 23 (.slice a n c) (.slice none n' c')).run Tryz.prog w = .ok (.bool a.isNone) w := fun w a n c n' c' => Lib.run_eql_slice_nil w _ _ a n c n' c' Tryz.underlying23
   go_enter Tryz.func110, Tryz.ntmps110
   go_wp2_with fail
   go_ret
   exact ⟨_, [], rfl, rfl, ⟨by simp, .inr ⟨w.heap.size, 0, #[], rfl, Nat.le_refl _, (MapKept.heap_alloc w _).1, by simp, by simp, by simp⟩⟩, by simp, Only.alloc _ _ _⟩
 ·obtain ⟨b, off, ps, ha, hps, hrd, hc⟩ := RdR.parts (w := w) (a := a) (cap := cap) ⟨a, cap, rfl, h1, h2, h3⟩ hne
  exact gen b off ps hps hrd hc ha
end Go.Proofs.YtnmhaipjfpongacGreatDoor

namespace Go.Proofs.YtnmhaipjfpongacGreatDoor
open Go.ChangeShapes Go.WideShapes Go.ChangeAt Go.RowKit

end Go.Proofs.YtnmhaipjfpongacGreatDoor

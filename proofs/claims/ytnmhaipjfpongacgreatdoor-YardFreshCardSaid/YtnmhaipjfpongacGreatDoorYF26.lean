/- Texts of this seat laid together for one claim: J4, Ya3, S2, J10, F11, S1. No condition of its own: what each proves stands with its theorems. -/
import Derived.Test.YtnmhaipjfpongacGreatDoorYF7
import Derived.Test.YtnmhaipjfpongacGreatDoorYF20
import Derived.Test.YtnmhaipjfpongacGreatDoorYF9
import Derived.Shelf.SlicesE.Clone
import Derived.Test.YtnmhaipjfpongacGreatDoorYF18
import Derived.Test.YtnmhaipjfpongacGreatDoorYF21
import Derived.Test.YtnmhaipjfpongacGreatDoorYF15
import Derived.Test.YtnmhaipjfpongacGreatDoorYF5
namespace Go.Proofs.YtnmhaipjfpongacGreatDoor
open Go.ChangeShapes Go.WideShapes Go.ChangeAt Go.RowKit

theorem ownTextsRow_any (w : World) (v : Value) (l : List B) (hv : Rd S w v l) (hl : l.length ≤ 1000000) :
  Calls Tryz.prog 53 #[v] w (RetRow l w) := by
 obtain ⟨a, cap, rfl, _, _, hc⟩ := hv
 cases l with
 | nil =>
  clear hc
  cases a with
  | none =>
   go_enter Tryz.func53, Tryz.ntmps53
   go_wp2_with fail
   go_ret
   exact ⟨_, rfl, Only.refl _ _, Row.nil _ _⟩
  | some a =>
   go_enter Tryz.func53, Tryz.ntmps53
   go_wp2_with fail
   go_ret
   exact ⟨_, rfl, Only.refl _ _, Row.nil _ _⟩
 | cons x r =>
  obtain ⟨b, off, rfl, hcell⟩ := hc (by simp)
  obtain ⟨l, hL⟩ : ∃ l, l = x :: r := ⟨_, rfl⟩
  rw [← hL] at hl hcell ⊢
  have hnews : ∀ j u, (l.map S)[j]? = some u → w.cell? ((⟨b, off, none⟩ : Addr).add j) = some u := fun j u hu => by
   rw [List.getElem?_map] at hu
   obtain ⟨y, hy, rfl⟩ := Option.map_eq_some_iff.1 hu
   rw [addrAdd]
   exact hcell j y hy
  have hone : ∀ u ∈ l.map S, u.oneCell' = true := fun u hu => by
   obtain ⟨y, _, rfl⟩ := List.mem_map.1 hu
   rfl
  have HN := Lib.hid hnews
  have HO := Lib.hid hone
  obtain ⟨i0, hi, hz0, hz1, hz2⟩ := info_parts infoStr
  have HI := Lib.hid hi
  have HZ := Lib.hid (And.intro hz0 (And.intro hz1 hz2))
  clear hc hcell hnews hone hz0 hz1 hz2 hi
  go_enter Tryz.func53, Tryz.ntmps53
  go_wp2_with (at_builtin; refine wpList_append_own_at w rfl (.tmp 4) (.tmp 5) 53 rfl w.heap.size 9 i0 (.string ⟨#[]⟩) 1 16 Tryz.underlying53 HI.out HZ.out.1 HZ.out.2.1 HZ.out.2.2 rfl (by decide) _ 0 [] rfl (World.ownsRow_nil _ _ _ _) ⟨b, off, none⟩ l.length cap (l.map S) rfl (by simp) HN.out HO.out ?h1 ?h2 (Nat.le_refl _) ?_; (case h1 => unfold maxLen; omega); (case h2 => omega); intro v' w' ho hg _ _)
  go_wp2_with fail
  go_ret
  exact ⟨_, rfl, (Only.of_grown hg).mono (fun _ _ h => by cases h), by simpa using ho⟩

abbrev SV (q : Option Addr × Nat × Nat) : Value := .slice q.1 q.2.1 q.2.2
abbrev encR (p : Rule × Option Addr × Nat × Nat) : List Value := [S p.1.out, S p.1.kind, S p.1.word, SV p.2]
theorem encR_one (p : Rule × Option Addr × Nat × Nat) : ∀ u ∈ encR p, u.oneCell' = true := by
 intro u hu
 simp only [encR, List.mem_cons, List.not_mem_nil, or_false] at hu
 rcases hu with rfl | rfl | rfl | rfl <;> rfl
theorem infoRule : (Tryz.prog.info? 55).map (fun i => (i.zero, i.size, i.bytes)) = some (some (.agg #[.string ⟨#[]⟩, .string ⟨#[]⟩, .string ⟨#[]⟩, .slice none 0 0]), 4, 72) := by kernel_rfl
theorem encR_len (p : Rule × Option Addr × Nat × Nat) : (encR p).length = 4 := rfl

structure OwnR (w wr : World) (v : Value) (ps : List (Rule × Option Addr × Nat × Nat)) : Prop where
 ext : Ext w wr
 row : wr.ownsRow w.heap.size 55 4 v ps.length (ps.flatMap encR)
 texts : ∀ p ∈ ps, Rd S wr (SV p.2) p.1.ins ∧ ∀ b, (SV p.2).ownBlock = some b → b < wr.heap.size ∧ v.ownBlock ≠ some b

theorem OwnR.grow {w wr w' : World} {v : Value} {ps : List (Rule × Option Addr × Nat × Nat)} (h : OwnR w wr v ps) (ho : Ext wr w') : OwnR w w' v ps :=
 ⟨h.ext.then ho, ho.row h.row (fun _ _ h => h), fun p hp => ⟨(h.texts p hp).1.ext ho, fun b hb => ⟨Nat.lt_of_lt_of_le ((h.texts p hp).2 b hb).1 ho.size, ((h.texts p hp).2 b hb).2⟩⟩⟩
theorem OwnR.push {w wr w1 w2 : World} {v v' : Value} {u : Option Addr × Nat × Nat} {ps : List (Rule × Option Addr × Nat × Nat)} {r : Rule} (h : OwnR w wr v ps) (hx : Ext wr w1) (hu : Row wr.heap.size w1 (SV u) r.ins) (hr : w2.ownsRow w.heap.size 55 4 v' (ps.length + 1) ((ps ++ [(r, u)]).flatMap encR)) (hg : w1.grownBy w2 v.ownBlock) (ha : ∀ i, v'.ownBlock = some i → v.ownBlock = some i ∨ w1.heap.size ≤ i) :
  OwnR w w2 v' (ps ++ [(r, u)]) := by
 have ho : Only (fun b => v.ownBlock = some b) w1 w2 := Only.of_grown hg
 have hb : ∀ b, v.ownBlock = some b → w.heap.size ≤ b ∧ b < wr.heap.size := fun b e => h.row.lt b e
 have hw : Ext w w2 := (h.ext.then hx).trans ho (fun _ _ h => h) (fun i hi e => by have := (hb i e).1; omega)
 refine ⟨hw, by rw [List.length_append]; exact hr, fun p hp => ?_⟩
 rcases List.mem_append.1 hp with hp | hp
 ·obtain ⟨h1, h2⟩ := h.texts p hp
  refine ⟨(h1.ext hx).later ho (fun b e e2 => (h2 b e).2 e2), fun b e => ⟨Nat.lt_of_lt_of_le (Nat.lt_of_lt_of_le (h2 b e).1 hx.size) ho.size, fun e2 => ?_⟩⟩
  rcases ha b e2 with e3 | e3
  ·exact (h2 b e).2 e3
  ·have := (h2 b e).1; have := hx.size; omega
 ·rw [List.mem_singleton] at hp
  subst hp
  refine ⟨hu.rd.later ho (fun b e e2 => by have := (hu.lt b e).1; have := (hb b e2).2; omega), fun b e => ⟨Nat.lt_of_lt_of_le (hu.lt b e).2 ho.size, fun e2 => ?_⟩⟩
  have h3 := hu.lt b e
  rcases ha b e2 with e3 | e3
  ·have := (hb b e3).2; omega
  ·omega
theorem OwnR.rd {w wr : World} {v : Value} {ps : List (Rule × Option Addr × Nat × Nat)} {l : List Rule} (h : OwnR w wr v ps) (hl : ps.map Prod.fst = l) : RdR wr v l := by
 have hs := RdS.of_row encR_len h.row
 obtain ⟨a, cap, h1, h2, h3, h4⟩ := hs
 have hlen : ps.length = l.length := by rw [← hl, List.length_map]
 refine ⟨a, cap, by rw [← hlen]; exact h1, by omega, h3, fun hne => ?_⟩
 obtain ⟨b, off, h5, h6⟩ := h4 (by intro e; rw [e] at hl; exact hne hl.symm)
 refine ⟨b, off, h5, fun i r hi => ?_⟩
 rw [← hl, List.getElem?_map] at hi
 obtain ⟨p, hp, rfl⟩ := Option.map_eq_some_iff.1 hi
 refine ⟨SV p.2, (h.texts p (List.mem_of_getElem? hp)).1, ?_, ?_, ?_, ?_⟩
 ·have := h6 i p hp 0 _ rfl; rwa [Nat.add_zero] at this
 ·exact h6 i p hp 1 _ rfl
 ·exact h6 i p hp 2 _ rfl
 ·exact h6 i p hp 3 _ rfl

def RetRules (l : List Rule) (w : World) (e : Ending) (w' : World) : Prop := ∃ v, e = .returned v ∧ RdR w' v l ∧ Ext w w'

theorem form4 {w : World} {base : Nat} {e : TypeId} {k n : Nat} {v : Value} {xs : List Value} (h : w.ownsRow base e k v n xs) : ∃ a cap, v = .slice a n cap := by
 rcases h.2 with ⟨h1, h2⟩ | ⟨g, cap, _, h1, _⟩
 ·exact ⟨none, 0, by rw [h1, h2]⟩
 ·exact ⟨_, cap, h1⟩

set_option maxRecDepth 100000 in
set_option maxHeartbeats 4000000 in
theorem ownRules_any (w : World) (v : Value) (l : List Rule) (hv : RdR w v l) (hl : l.length ≤ 900000) (hs : ∀ r ∈ l, r.ins.length ≤ 1000000) :
  Calls Tryz.prog 19 #[v] w (RetRules l w) := by
 obtain ⟨a, cap, rfl, _, _, hc⟩ := hv
 have HC := Lib.hid hc
 have HS := Lib.hid hs
 clear hc hs
 go_enter Tryz.func19, Tryz.ntmps19
 go_wp2_with fail
 go_loopw [3, 4, 5] (fun q i _ wr => ∃ (j : Nat) (ps : List (Rule × Option Addr × Nat × Nat)), j ≤ l.length ∧ i = .int .i64 j ∧ Hid (ps.map Prod.fst = l.take j) ∧ Hid (OwnR w wr q ps)) (fun _ i _ _ => l.length - (intOf i).toNat)
 case atStart => exact ⟨0, [], Nat.zero_le _, rfl, Lib.hid rfl, Lib.hid ⟨Only.refl _ _, World.ownsRow_nil _ _ _ _, by simp⟩⟩
 case round =>
  obtain ⟨j, ps, hj, rfl, HPS, HO⟩ := hrel
  by_cases hlt : j < l.length
  ·have hltz : (j : Int) < (l.length : Int) := by omega
   have hj0 : (0 : Int) ≤ (j : Int) := by omega
   obtain ⟨b, off, rfl, hcell⟩ := HC.out (by intro h; rw [h] at hlt; simp at hlt)
   obtain ⟨r, hq⟩ : ∃ y, l[j]? = some y := ⟨_, List.getElem?_eq_getElem hlt⟩
   obtain ⟨u, hu, c0, c1, c2, c3⟩ := hcell j r hq
   have d0 := HO.out.ext.cellOf c0 (fun h => h)
   have d1 := HO.out.ext.cellOf c1 (fun h => h)
   have d2 := HO.out.ext.cellOf c2 (fun h => h)
   have d3 := HO.out.ext.cellOf c3 (fun h => h)
   have HT := Lib.hid (ownTextsRow_any wr u r.ins (hu.ext HO.out.ext) (HS.out r (List.mem_of_getElem? hq)))
   have HPS2 : Hid (∀ u', (ps ++ [(r, u')]).map Prod.fst = l.take (j + 1)) := Lib.hid (fun u' => by rw [List.map_append, HPS.out, List.take_add_one, hq]; rfl)
   have hpl : ps.length = j := by have := congrArg List.length HPS.out; rw [List.length_map, List.length_take] at this; omega
   have HPL : Hid (ps.length ≤ 1000000) := Lib.hid (by omega)
   obtain ⟨ar, cr, rfl⟩ := form4 HO.out.row
   obtain ⟨au, cu, hua, _, _, _⟩ := hu
   generalize hun : r.ins.length = ln at hua
   subst hua
   clear hcell hq c0 c1 c2 c3 hlt hun hpl
   go_wp2_with fail
   refine HT.out.mono ?_
   rintro e w3 ⟨u3, rfl, ho, hrow⟩
   obtain ⟨a3, c3, rfl⟩ := form4 hrow
   have HX3 := Lib.hid ho
   have HR3 : Hid (Row wr.heap.size w3 (SV (a3, r.ins.length, c3)) r.ins) := Lib.hid hrow
   have e0 := ho.cellOf d0 (fun h => h)
   have e1 := ho.cellOf d1 (fun h => h)
   have e2 := ho.cellOf d2 (fun h => h)
   have HOR := Lib.hid ((Only.drew (fun _ => False) w3).row (ho.row HO.out.row (fun _ _ h => h)) (fun _ _ h => h))
   have HSZ : Hid (w.heap.size ≤ w3.drew.heap.size) := Lib.hid (Nat.le_trans HO.out.ext.size ho.size)
   clear ho hrow d0 d1 d2 d3
   go_wp2_with fail
   go_region_law (refine step_appS encR 23 55 4 72 _ infoRule Tryz.underlying23 rfl (by decide) encR_len encR_one (by decide) (.tmp 18) (.tmp 36) w.heap.size _ ps (r, a3, r.ins.length, c3) w3.drew _ (by rfl) (by rfl) (by rfl) (by rfl) (by rfl) HOR.out HPL.out HSZ.out ?_; intro g5 cap5 w5 ho5 hg5 ha5; have HP5 := Lib.hid (HO.out.push (HX3.out.thenDrew) ((Only.drew (fun _ => False) w3).row HR3.out (fun _ _ h => h)) ho5 hg5 ha5); clear ho5 hg5 ha5)
   all_goals
    go_wp2_with fail
    go_roundw
    case rel => exact ⟨j + 1, _, by omega, by go_num, Lib.hid (HPS2.out _), HP5⟩
    case measure => simp [intOf]; omega
  ·have hltz : ¬ (j : Int) < (l.length : Int) := by omega
   obtain rfl : j = l.length := by omega
   rw [List.take_length] at HPS
   have HF := Lib.hid (HO.out.rd HPS.out)
   have HX := Lib.hid HO.out.ext
   go_wp2_with fail
   go_ret
   exact ⟨_, rfl, HF.out, HX.out⟩

structure ShortR (r : Rule) : Prop where
 out : r.out.length ≤ 100
 kind : r.kind.length ≤ 60
 word : r.word.length ≤ 150
 many : r.ins.length ≤ 12
 ins : ∀ s ∈ r.ins, s.length ≤ 300
theorem ShortR.sm {r : Rule} (h : ShortR r) : RuleSm 900000 r := ⟨by have := h.out; omega, by have := h.kind; omega, by have := h.word; omega, by have := h.many; omega, fun s hs => by have := h.ins s hs; omega⟩

def RetLong (l : List Rule) (many : Int) (w : World) (e : Ending) (w' : World) : Prop :=
 (∃ r : Int, e = .returned (.int .i64 r) ∧ (r = 0 ∨ r = 1) ∧ (r = 0 → ((l.length : Int) ≤ many ∨ l.length = 41) ∧ ∀ x ∈ l, ShortR x)) ∧ w = w'

set_option maxRecDepth 100000 in
set_option maxHeartbeats 4000000 in
theorem longRules_any (w : World) (v : Value) (l : List Rule) (many : Int) (hv : RdR w v l) :
  Calls Tryz.prog 16 #[v, .int .i64 many] w (RetLong l many w) := by
 obtain ⟨a, cap, rfl, _, hm1, hc⟩ := hv
 have hl1 : l.length ≤ 9223372036854775807 := by unfold maxLen at hm1; omega
 have HC := Lib.hid hc
 clear hc hm1
 by_cases hmany : many < (l.length : Int)
 ·by_cases h41 : l.length = 41
  ·have HM : Hid ((l.length : Int) ≤ many ∨ l.length = 41) := Lib.hid (.inr h41)
   have hne : ((l.length : Int) != 41) = false := by rw [h41]; rfl
   clear h41
   go_enter Tryz.func16, Tryz.ntmps16
   go_wp2_with fail
   clear hne hmany
   go_loop [5] (fun i => ∃ j : Nat, j ≤ l.length ∧ i = .int .i64 j ∧ Hid (∀ i (q : Rule), i < j → l[i]? = some q → ShortR q)) (fun i => l.length - (intOf i).toNat)
   case atStart => exact ⟨0, Nat.zero_le _, rfl, Lib.hid (fun i q h => absurd h (Nat.not_lt_zero _))⟩
   case round =>
    obtain ⟨j, hj, rfl, HB⟩ := hrel
    by_cases hlt : j < l.length
    ·have hltz : (j : Int) < (l.length : Int) := by omega
     have hj0 : (0 : Int) ≤ (j : Int) := by omega
     obtain ⟨b, off, rfl, hcell⟩ := HC.out (by intro h; rw [h] at hlt; simp at hlt)
     obtain ⟨r, hq⟩ : ∃ y, l[j]? = some y := ⟨_, List.getElem?_eq_getElem hlt⟩
     obtain ⟨u, hu, c0, c1, c2, c3⟩ := hcell j r hq
     have HQ := Lib.hid hq
     have HLT := Lib.hid (longTexts_any w u r.ins 12 300 hu (by decide))
     obtain ⟨au, cu, hua, _, _, _⟩ := hu
     generalize hun : r.ins.length = ln at hua
     have HUN := Lib.hid hun
     subst hua
     clear hcell hq hun
     by_cases h1 : (100 : Int) < (r.out.length : Int)
     ·go_wp2_with fail
      go_ret
      exact ⟨⟨1, rfl, .inr rfl, fun h => by cases h⟩, rfl⟩
     by_cases h2 : (60 : Int) < (r.kind.length : Int)
     ·go_wp2_with fail
      go_ret
      exact ⟨⟨1, rfl, .inr rfl, fun h => by cases h⟩, rfl⟩
     by_cases h3 : (150 : Int) < (r.word.length : Int)
     ·go_wp2_with fail
      go_ret
      exact ⟨⟨1, rfl, .inr rfl, fun h => by cases h⟩, rfl⟩
     go_wp2_with fail
     refine HLT.out.mono ?_
     rintro e w2 ⟨⟨x, rfl, hr, hz⟩, rfl⟩
     have HZ := Lib.hid hz
     clear hz
     rcases hr with rfl | rfl
     ·have HS := Lib.hid (show ShortR r from ⟨by omega, by omega, by omega, by have := (HZ.out rfl).1; omega, fun s hs => by have := (HZ.out rfl).2 s hs; omega⟩)
      clear h1 h2 h3
      go_wp2_with fail
      go_round
      case rel => exact ⟨j + 1, by omega, by go_num, Lib.hid (fun i q hi hq => by
       rcases Nat.lt_succ_iff_lt_or_eq.1 hi with h | rfl
       ·exact HB.out i q h hq
       ·rw [HQ.out] at hq; cases hq; exact HS.out)⟩
      case measure => simp [intOf]; omega
     ·go_wp2_with fail
      go_ret
      exact ⟨⟨1, rfl, .inr rfl, fun h => by cases h⟩, rfl⟩
    ·have hltz : ¬ (j : Int) < (l.length : Int) := by omega
     go_wp2_with fail
     go_ret
     refine ⟨⟨0, rfl, .inl rfl, fun _ => ⟨HM.out, ?_⟩⟩, rfl⟩
     intro x hx
     obtain ⟨i, hi⟩ := List.getElem?_of_mem hx
     exact HB.out i x (by have := (List.getElem?_eq_some_iff.1 hi).1; omega) hi
  ·have hne : ((l.length : Int) != 41) = true := by
    rw [bne_iff_ne]
    omega
   go_enter Tryz.func16, Tryz.ntmps16
   go_wp2_with fail
   go_ret
   exact ⟨⟨1, rfl, .inr rfl, fun h => by cases h⟩, rfl⟩
 ·have HM : Hid ((l.length : Int) ≤ many ∨ l.length = 41) := Lib.hid (.inl (by omega))
  go_enter Tryz.func16, Tryz.ntmps16
  go_wp2_with fail
  clear hmany
  go_loop [5] (fun i => ∃ j : Nat, j ≤ l.length ∧ i = .int .i64 j ∧ Hid (∀ i (q : Rule), i < j → l[i]? = some q → ShortR q)) (fun i => l.length - (intOf i).toNat)
  case atStart => exact ⟨0, Nat.zero_le _, rfl, Lib.hid (fun i q h => absurd h (Nat.not_lt_zero _))⟩
  case round =>
   obtain ⟨j, hj, rfl, HB⟩ := hrel
   by_cases hlt : j < l.length
   ·have hltz : (j : Int) < (l.length : Int) := by omega
    have hj0 : (0 : Int) ≤ (j : Int) := by omega
    obtain ⟨b, off, rfl, hcell⟩ := HC.out (by intro h; rw [h] at hlt; simp at hlt)
    obtain ⟨r, hq⟩ : ∃ y, l[j]? = some y := ⟨_, List.getElem?_eq_getElem hlt⟩
    obtain ⟨u, hu, c0, c1, c2, c3⟩ := hcell j r hq
    have HQ := Lib.hid hq
    have HLT := Lib.hid (longTexts_any w u r.ins 12 300 hu (by decide))
    obtain ⟨au, cu, hua, _, _, _⟩ := hu
    generalize hun : r.ins.length = ln at hua
    have HUN := Lib.hid hun
    subst hua
    clear hcell hq hun
    by_cases h1 : (100 : Int) < (r.out.length : Int)
    ·go_wp2_with fail
     go_ret
     exact ⟨⟨1, rfl, .inr rfl, fun h => by cases h⟩, rfl⟩
    by_cases h2 : (60 : Int) < (r.kind.length : Int)
    ·go_wp2_with fail
     go_ret
     exact ⟨⟨1, rfl, .inr rfl, fun h => by cases h⟩, rfl⟩
    by_cases h3 : (150 : Int) < (r.word.length : Int)
    ·go_wp2_with fail
     go_ret
     exact ⟨⟨1, rfl, .inr rfl, fun h => by cases h⟩, rfl⟩
    go_wp2_with fail
    refine HLT.out.mono ?_
    rintro e w2 ⟨⟨x, rfl, hr, hz⟩, rfl⟩
    have HZ := Lib.hid hz
    clear hz
    rcases hr with rfl | rfl
    ·have HS := Lib.hid (show ShortR r from ⟨by omega, by omega, by omega, by have := (HZ.out rfl).1; omega, fun s hs => by have := (HZ.out rfl).2 s hs; omega⟩)
     clear h1 h2 h3
     go_wp2_with fail
     go_round
     case rel => exact ⟨j + 1, by omega, by go_num, Lib.hid (fun i q hi hq => by
      rcases Nat.lt_succ_iff_lt_or_eq.1 hi with h | rfl
      ·exact HB.out i q h hq
      ·rw [HQ.out] at hq; cases hq; exact HS.out)⟩
     case measure => simp [intOf]; omega
    ·go_wp2_with fail
     go_ret
     exact ⟨⟨1, rfl, .inr rfl, fun h => by cases h⟩, rfl⟩
   ·have hltz : ¬ (j : Int) < (l.length : Int) := by omega
    go_wp2_with fail
    go_ret
    refine ⟨⟨0, rfl, .inl rfl, fun _ => ⟨HM.out, ?_⟩⟩, rfl⟩
    intro x hx
    obtain ⟨i, hi⟩ := List.getElem?_of_mem hx
    exact HB.out i x (by have := (List.getElem?_eq_some_iff.1 hi).1; omega) hi

set_option maxHeartbeats 1000000 in
theorem indexRef_any (w : World) (v : Value) (l : List B) (x : B) (hv : Rd S w v l) : Calls Tryz.prog 89 #[v, S x] w (RetS (I (idx (fun y => y == x) l)) w) := by
 obtain ⟨a, cap, rfl, hcap, hm, hc⟩ := hv
 have hm' : l.length ≤ 9223372036854775807 := by unfold maxLen at hm; omega
 obtain ⟨R, hR⟩ : ∃ R, Hid (R = idx (fun y => y == x) l) := ⟨_, Lib.hid rfl⟩
 rw [← hR.out]
 clear hm
 have HC := Lib.hid hc
 clear hc
 go_enter Tryz.func89, Tryz.ntmps89
 go_wp2
 go_loop [5] (fun i => ∃ k : Nat, k ≤ l.length ∧ i = .int .i64 k ∧ Hid (∀ j y, j < k → l[j]? = some y → (y == x) = false)) (fun i => l.length + 1 - (intOf i).toNat)
 case atStart => exact ⟨0, Nat.zero_le _, rfl, Lib.hid (fun j x h => absurd h (Nat.not_lt_zero _))⟩
 case round =>
  obtain ⟨k, hk, rfl, HB⟩ := hrel
  by_cases hlt : k < l.length
  ·have hltz : (k : Int) < (l.length : Int) := by omega
   obtain ⟨b, off, rfl, hcell⟩ := HC.out (by intro h; rw [h] at hlt; simp at hlt)
   obtain ⟨y, hy⟩ : ∃ y, l[k]? = some y := ⟨_, List.getElem?_eq_getElem hlt⟩
   have d0 := hcell k y hy
   have HY := Lib.hid hy
   clear hcell hy
   cases hq : y == x with
   | false =>
    go_wp2
    have HQ := Lib.hid hq
    go_round
    case rel => exact ⟨k + 1, by omega, by go_num, Lib.hid (fun j z hj hz => by
     rcases Nat.lt_succ_iff_lt_or_eq.1 hj with h | rfl
     ·exact HB.out j z h hz
     ·rw [HY.out] at hz; cases hz; exact HQ.out)⟩
    case measure => simp [intOf]; omega
   | true =>
    have HK := Lib.hid (idx_hit HY.out hq HB.out)
    go_wp2
    go_ret
    exact ⟨by rw [hR.out, HK.out]; rfl, rfl⟩
  ·have hltz : ¬ (k : Int) < (l.length : Int) := by omega
   have HK := Lib.hid (idx_none (p := fun y => y == x) (l := l) fun j y hy => HB.out j y (by have := (List.getElem?_eq_some_iff.1 hy).1; omega) hy)
   go_wp2
   go_ret
   exact ⟨by rw [hR.out, HK.out]; rfl, rfl⟩

theorem needB_idx {l : List Rule} {i k : Nat} {r q : Rule} (hi : l[i]? = some r) (hk : l[k]? = some q) : decide (0 ≤ idx (fun y => y == q.out) r.ins) = needB l i k := by
 rw [idx_any]
 unfold needB
 rw [hi, hk]
 simp only
 rw [Bool.eq_iff_iff]
 simp [List.any_eq_true]

set_option maxRecDepth 100000 in
set_option maxHeartbeats 2000000 in
theorem needsRule_any (w : World) (v : Value) (l : List Rule) (i k : Nat) (hi : i < l.length) (hk : k < l.length) (hv : RdR w v l) :
  Calls Tryz.prog 103 #[v, I i, I k] w (RetE (.bool (needB l i k)) w) := by
 obtain ⟨a, cap, rfl, _, _, hc⟩ := hv
 obtain ⟨b, off, rfl, hcell⟩ := hc (by intro h; rw [h] at hi; simp at hi)
 obtain ⟨r, hr⟩ : ∃ y, l[i]? = some y := ⟨_, List.getElem?_eq_getElem hi⟩
 obtain ⟨q, hq⟩ : ∃ y, l[k]? = some y := ⟨_, List.getElem?_eq_getElem hk⟩
 obtain ⟨u, hu, _, _, _, c3⟩ := hcell i r hr
 obtain ⟨_, _, d0, _⟩ := hcell k q hq
 have HI := Lib.hid (fun n => indexRef_any (w.drewN n) u r.ins q.out (hu.ext (Only.drewN _ _ n)))
 rw [← needB_idx hr hq]
 generalize idx (fun y => y == q.out) r.ins = R at *
 have hiz : (i : Int) < (l.length : Int) := by omega
 have hkz : (k : Int) < (l.length : Int) := by omega
 have hi0 : (0 : Int) ≤ (i : Int) := by omega
 have hk0 : (0 : Int) ≤ (k : Int) := by omega
 obtain ⟨au, cu, rfl, _, _, _⟩ := hu
 clear hc hcell hr hq hi hk
 go_enter Tryz.func103, Tryz.ntmps103
 go_wp2_with fail
 go_quiet ((go_at_call 89; exact Calls.quiet_of_same ((HI.out _).mono fun _ _ h => ⟨h.1, h.2.symm⟩)))
 go_wp2_with fail
 go_ret
 exact ⟨rfl, Only.drewN _ _ _⟩
end Go.Proofs.YtnmhaipjfpongacGreatDoor

namespace Go.Proofs.YtnmhaipjfpongacGreatDoor
open Go.ChangeShapes Go.WideShapes Go.ChangeAt Go.RowKit

def cloneR_ren : Go.Shelf.Ren := ⟨fun | 41 => 110 | n => n, fun | 4 => 4 | 22 => 23 | 23 => 55 | n => n, fun | n => n⟩
theorem cloneR_lays : SlLaysE0.n41 Tryz.prog cloneR_ren := {
 mixed := by kernel_rfl
 f41 := ⟨"slices.Clone[[]kilnyard/api.Rule,kilnyard/api.Rule]", by decide, Tryz.func110.trans (congrArg some (by kernel_rfl))⟩
 t4 := Tryz.underlying4
 a4 := Tryz.isAgg4
 z4 := Tryz.sizeOf4
 v4 := Tryz.zeroValue4
 t22 := Tryz.underlying23
 a22 := Tryz.isAgg23
 z22 := Tryz.sizeOf23
 v22 := Tryz.zeroValue23 }
theorem flat_inv {α : Type} {enc : α → List Value} {n : Nat} (hn : ∀ x, (enc x).length = n) (hp : 0 < n) : ∀ {l : List α} {j : Nat} {u : Value}, (l.flatMap enc)[j]? = some u → ∃ (i : Nat) (x : α) (t : Nat), l[i]? = some x ∧ (enc x)[t]? = some u ∧ j = i * n + t
 | [], j, u, h => by simp at h
 | x :: l, j, u, h => by
  rw [List.flatMap_cons] at h
  rcases Nat.lt_or_ge j n with hj | hj
  ·rw [List.getElem?_append_left (by rw [hn]; exact hj)] at h
   exact ⟨0, x, j, rfl, h, by omega⟩
  ·rw [List.getElem?_append_right (by rw [hn]; exact hj), hn] at h
   obtain ⟨i, y, t, h1, h2, h3⟩ := flat_inv hn hp h
   exact ⟨i + 1, y, t, by simpa using h1, h2, by rw [Nat.succ_mul]; omega⟩
theorem RdR.parts {w : World} {a : Option Addr} {cap : Nat} {l : List Rule} (h : RdR w (.slice a l.length cap) l) (hl : l ≠ []) :
  ∃ (b off : Nat) (ps : List (Rule × Option Addr × Nat × Nat)), a = some ⟨b, off, none⟩ ∧ ps.map Prod.fst = l ∧ (∀ p ∈ ps, Rd S w (SV p.2) p.1.ins) ∧ ∀ j u, (ps.flatMap encR)[j]? = some u → w.cell? ⟨b, off + j, none⟩ = some u := by
 obtain ⟨a', cap', e, _, _, hc⟩ := h
 cases e
 obtain ⟨b, off, rfl, hcell⟩ := hc hl
 have key : ∀ n, n ≤ l.length → ∃ ps : List (Rule × Option Addr × Nat × Nat), ps.map Prod.fst = l.take n ∧ (∀ p ∈ ps, Rd S w (SV p.2) p.1.ins) ∧ ∀ i p, ps[i]? = some p → w.cell? ⟨b, off + i * 4, none⟩ = some (S p.1.out) ∧ w.cell? ⟨b, off + i * 4 + 1, none⟩ = some (S p.1.kind) ∧ w.cell? ⟨b, off + i * 4 + 2, none⟩ = some (S p.1.word) ∧ w.cell? ⟨b, off + i * 4 + 3, none⟩ = some (SV p.2) := by
  intro n
  induction n with
  | zero => exact fun _ => ⟨[], rfl, (by simp), (by simp)⟩
  | succ n ih =>
   intro hn
   obtain ⟨ps, h1, h2, h3⟩ := ih (by omega)
   obtain ⟨r, hr⟩ : ∃ r, l[n]? = some r := ⟨_, List.getElem?_eq_getElem hn⟩
   obtain ⟨u, hu, c0, c1, c2, c3⟩ := hcell n r hr
   have hps : ps.length = n := by have := congrArg List.length h1; rw [List.length_map, List.length_take] at this; omega
   obtain ⟨au, cu, rfl, hu1, hu2, hu3⟩ := hu
   refine ⟨ps ++ [(r, au, r.ins.length, cu)], by rw [List.map_append, h1, List.take_add_one, hr]; rfl, fun p hp => ?_, fun i p hp => ?_⟩
   ·rcases List.mem_append.1 hp with hp | hp
    ·exact h2 p hp
    ·rw [List.mem_singleton.1 hp]; exact ⟨au, cu, rfl, hu1, hu2, hu3⟩
   ·rcases Nat.lt_or_ge i ps.length with hi | hi
    ·rw [List.getElem?_append_left hi] at hp; exact h3 i p hp
    ·rw [List.getElem?_append_right hi] at hp
     have hi0 : i - ps.length = 0 := by
      have := (List.getElem?_eq_some_iff.1 hp).1
      rw [List.length_singleton] at this
      omega
     rw [hi0] at hp
     cases hp
     have : i = n := by omega
     subst this
     exact ⟨c0, c1, c2, c3⟩
 obtain ⟨ps, h1, h2, h3⟩ := key l.length (Nat.le_refl _)
 rw [List.take_length] at h1
 refine ⟨b, off, ps, rfl, h1, h2, fun j u hu => ?_⟩
 obtain ⟨i, p, t, hp, ht, rfl⟩ := flat_inv encR_len (by decide) hu
 obtain ⟨c0, c1, c2, c3⟩ := h3 i p hp
 have ht4 : t = 0 ∨ t = 1 ∨ t = 2 ∨ t = 3 := by
  have := (List.getElem?_eq_some_iff.1 ht).1
  rw [encR_len] at this
  omega
 rcases ht4 with rfl | rfl | rfl | rfl
 ·cases ht; rw [Nat.add_zero]; exact c0
 ·cases ht; rw [← Nat.add_assoc]; exact c1
 ·cases ht; rw [← Nat.add_assoc]; exact c2
 ·cases ht; rw [← Nat.add_assoc]; exact c3
def RetCloneR (w : World) (l : List Rule) (e : Ending) (w' : World) : Prop :=
 ∃ (v : Value) (ps : List (Rule × Option Addr × Nat × Nat)), e = .returned v ∧ ps.map Prod.fst = l ∧ w'.ownsRow w.heap.size 55 4 v l.length (ps.flatMap encR) ∧ (∀ p ∈ ps, Rd S w (SV p.2) p.1.ins) ∧ Ext w w'
set_option maxRecDepth 100000 in
theorem cloneRules_any (w : World) (v : Value) (l : List Rule) (hv : RdR w v l) (hl : l.length ≤ 100000) : Calls Tryz.prog 110 #[v] w (RetCloneR w l) := by
 obtain ⟨i0, hi, hz0, hz1, hz2⟩ := info_parts infoRule
 have hz23 : ∀ w, (Go.sizeOf 55).run Tryz.prog w = .ok 4 w := Tryz.sizeOf55
 obtain ⟨a, cap, rfl, h1, h2, h3⟩ := hv
 have gen : ∀ (b off : Nat) (ps : List (Rule × Option Addr × Nat × Nat)), ps.map Prod.fst = l → (∀ p ∈ ps, Rd S w (SV p.2) p.1.ins) → (∀ j u, (ps.flatMap encR)[j]? = some u → w.cell? ⟨b, off + j, none⟩ = some u) → a = some ⟨b, off, none⟩ → Calls Tryz.prog 110 #[.slice a l.length cap] w (RetCloneR w l) := fun b off ps hps hrd hc ha => by
  subst ha
  have hlen : ps.length = l.length := by rw [← hps, List.length_map]
  refine (AnyE.slices_Clone (ρ := cloneR_ren) cloneR_lays i0 _ 4 72 hi hz0 hz1 hz2 rfl (by decide) hz23 b off l.length cap (ps.flatMap encR) w (by rw [flat_len encR_len, hlen]) (by unfold maxLen; omega) (by omega) hc (fun u hu => ?_)).mono fun e w' ⟨v', h, ho, _, hb⟩ => ⟨v', ps, h, hps, ho, hrd, Only.of_below hb⟩
  obtain ⟨p, _, hp⟩ := List.mem_flatMap.1 hu
  exact encR_one p u hp
 by_cases hne : l = []
 ·subst hne
  cases a with
  | none => exact (AnyE.slices_Clone_nil (ρ := cloneR_ren) cloneR_lays 0 cap w).mono fun e w' ⟨h, h'⟩ => ⟨_, [], h, rfl, World.ownsRow_nil _ _ _ _, (by simp), by rw [h']; exact Only.refl _ _⟩
  | some ad =>
   clear gen h1 h2 h3 hi hz0 hz1 hz2 hz23 hl
   have q22 : ∀ (w : World) (a : Option Addr) (n c n' c' : Nat), (binOp .eql 23 (.slice a n c) (.slice none n' c')).run Tryz.prog w = .ok (.bool a.isNone) w := fun w a n c n' c' => Lib.run_eql_slice_nil w _ _ a n c n' c' Tryz.underlying23
   go_enter Tryz.func110, Tryz.ntmps110
   go_wp2_with fail
   go_ret
   exact ⟨_, [], rfl, rfl, ⟨by simp, .inr ⟨w.heap.size, 0, #[], rfl, Nat.le_refl _, (MapKept.heap_alloc w _).1, by simp, by simp, by simp⟩⟩, by simp, Only.alloc _ _ _⟩
 ·obtain ⟨b, off, ps, ha, hps, hrd, hc⟩ := RdR.parts (w := w) (a := a) (cap := cap) ⟨a, cap, rfl, h1, h2, h3⟩ hne
  exact gen b off ps hps hrd hc ha
end Go.Proofs.YtnmhaipjfpongacGreatDoor

namespace Go.Proofs.YtnmhaipjfpongacGreatDoor
open Go.ChangeShapes Go.WideShapes Go.ChangeAt Go.RowKit

theorem ext_setS {w w' : World} (h : Ext w w') {b : Nat} (k : Nat) (v : Value) (hb : w.heap.size ≤ b) : Ext w (w'.setCell ⟨b, k, none⟩ v) := h.trans (Only.set (p := fun i => i = b) v rfl) (fun _ _ h => h) (fun i hi e => by omega)
structure OofAt (w wr : World) (n : Nat) (v : Value) (ds : List Nat) : Prop where
 ext : Ext w wr
 tab : TabAt wr w.heap.size 4 n (fun k => .bool (decide (k ∈ ds)))
 row : RowI (w.heap.size + 1) wr v ds
theorem OofAt.grow {w wr w' : World} {n : Nat} {v : Value} {ds : List Nat} (h : OofAt w wr n v ds) (ho : Ext wr w') : OofAt w w' n v ds := ⟨h.ext.then ho, h.tab.ext ho, h.row.ext ho⟩
structure OofMid (w wr : World) (n : Nat) (v : Value) (ds : List Nat) (k : Nat) : Prop where
 ext : Ext w wr
 tab : TabAt wr w.heap.size 4 n (fun i => .bool (decide (i ∈ ds ++ [k])))
 row : RowI (w.heap.size + 1) wr v ds
 lo : w.heap.size + 1 ≤ wr.heap.size
theorem OofAt.mark {w wr : World} {n : Nat} {v : Value} {ds : List Nat} (h : OofAt w wr n v ds) (k : Nat) : OofMid w (wr.setCell ⟨w.heap.size, k, none⟩ (.bool true)) n v ds k := by
 have ho : Only (fun i => i = w.heap.size) wr (wr.setCell ⟨w.heap.size, k, none⟩ (.bool true)) := Only.set _ rfl
 refine ⟨ext_setS h.ext _ _ (Nat.le_refl _), (h.tab.set k (.bool true)).congr fun i _ => ?_, ho.row h.row (fun i e e2 => by have := h.row.base i e; omega), ?_⟩
 ·by_cases e : i = k
  ·rw [if_pos e, decide_eq_true (by rw [e]; simp)]
  ·rw [if_neg e, decide_eq_decide.2 (show i ∈ ds ↔ i ∈ ds ++ [k] by simp [e])]
 ·have := h.tab.lt
  simp
  omega
theorem OofMid.push {w wr w' : World} {n k : Nat} {v v' : Value} {ds : List Nat} (h : OofMid w wr n v ds k) (hg : wr.grownBy w' v.ownBlock) (hr : RowI (w.heap.size + 1) w' v' (ds ++ [k])) : OofAt w w' n v' (ds ++ [k]) :=
 ⟨grown_ext h.ext (fun i hi => by have := h.row.base i hi; omega) hg, h.tab.later (Only.of_grown hg) (fun e => by have := h.row.base _ e; omega), hr⟩

end Go.Proofs.YtnmhaipjfpongacGreatDoor

namespace Go.Proofs.YtnmhaipjfpongacGreatDoor
open Go.ChangeShapes Go.WideShapes Go.ChangeAt Go.RowKit

theorem madeI_out {l : List Rule} (hn : (l.map Rule.out).Nodup) {i : Nat} {r : Rule} (h : l[i]? = some r) : madeI l r.out = i := by
 unfold madeI
 rw [idx_hit (p := fun q => q.out == r.out) h (beq_iff_eq.2 rfl) (fun j y hj hy => beq_eq_false_iff_ne.2 fun e => by
  have := nodup_inj hn (i := j) (j := i) (x := r.out) (by rw [List.getElem?_map, hy, Option.map_some, e]) (by rw [List.getElem?_map, h]; rfl)
  omega)]
 exact Int.toNat_natCast i
theorem needKs_all {l : List Rule} (hn : (l.map Rule.out).Nodup) : needKs l (l.map Rule.out) = List.range l.length := by
 unfold needKs
 apply List.ext_getElem?
 intro i
 rw [List.getElem?_map, List.getElem?_map]
 by_cases hi : i < l.length
 ·rw [List.getElem?_eq_getElem hi, List.getElem?_range hi, Option.map_some, Option.map_some, madeI_out hn (List.getElem?_eq_getElem hi)]
 ·rw [List.getElem?_eq_none (by omega), List.getElem?_eq_none (by simp; omega)]
  rfl
end Go.Proofs.YtnmhaipjfpongacGreatDoor

namespace Go.Proofs.YtnmhaipjfpongacGreatDoor
open Go.ChangeShapes Go.WideShapes Go.ChangeAt Go.RowKit

def Kd.name : Kd → B
 | .head => [104, 101, 97, 100]
 | .swap => [115, 119, 97, 112]
 | .count => [99, 111, 117, 110, 116]
 | .sort => [115, 111, 114, 116]
 | .lines => [108, 105, 110, 101, 115]
 | .upper => [117, 112, 112, 101, 114]
 | .join => [106, 111, 105, 110]
 | .write => [119, 114, 105, 116, 101]

def Kd.num : Kd → Nat
 | .head => 0
 | .swap => 1
 | .count => 2
 | .sort => 3
 | .lines => 4
 | .upper => 5
 | .join => 6
 | .write => 7
def Kd.isN (i : Nat) (k : Kd) : Bool := k.num == i

theorem kind_name {name : B} {k : Kd} (h : kinds.lookup name = some k) : name = k.name := by
 unfold kinds at h
 simp only [List.lookup] at h
 repeat' split at h
 all_goals first
  | (rename_i e; cases h; exact beq_iff_eq.1 e)
  | cases h

theorem kind_not {name : B} (h : kinds.lookup name = none) : (name == [104, 101, 97, 100]) = false ∧ (name == [115, 119, 97, 112]) = false ∧ (name == [99, 111, 117, 110, 116]) = false ∧ (name == [115, 111, 114, 116]) = false ∧
  (name == [108, 105, 110, 101, 115]) = false ∧ (name == [117, 112, 112, 101, 114]) = false ∧ (name == [106, 111, 105, 110]) = false ∧ (name == [119, 114, 105, 116, 101]) = false := by
 unfold kinds at h
 simp only [List.lookup] at h
 repeat' split at h
 all_goals first
  | cases h; done
  | skip
 all_goals (refine ⟨?_, ?_, ?_, ?_, ?_, ?_, ?_, ?_⟩ <;> assumption)

theorem pair_len (wd : B) : (decide ((cutc 61 wd).length = 2) && !(wd.head? == some 61)) = pairB wd := by
 unfold pairB
 rw [cutc_length]
 congr 1
 rw [Bool.eq_iff_iff, decide_eq_true_eq, beq_iff_eq]
 omega

theorem num_isSome (wd : B) : decide (0 ≤ numI 3 wd) = (numB 3 wd).isSome := by
 unfold numI
 cases numB 3 wd with
 | none => rfl
 | some n => exact decide_eq_true (Int.natCast_nonneg n)

set_option maxRecDepth 100000 in
set_option maxHeartbeats 4000000 in
theorem actError_any (w : World) (name wd : B) (n : Nat) (hw : wd.length ≤ 900000) :
  Calls Tryz.prog 170 #[S name, S wd, I n] w (RetE (I (actCode name wd n)) w) := by
 cases hk : kinds.lookup name with
 | none =>
  have hc : actCode name wd n = 5 := by unfold actCode; rw [hk]
  rw [hc]
  obtain ⟨e1, e2, e3, e4, e5, e6, e7, e8⟩ := kind_not hk
  clear hk hc
  go_enter Tryz.func170, Tryz.ntmps170
  go_wp2_with fail
  go_ret
  exact ⟨rfl, Only.refl _ _⟩
 | some k =>
  have hcode : actCode name wd n = if n < k.least ∨ k.most < n ∨ k.word wd = false then 3 else if 100 < wd.length then 10 else 0 := by unfold actCode; rw [hk]
  obtain rfl := kind_name hk
  rw [hcode]
  obtain ⟨R, hR⟩ : ∃ R : Nat, R = if n < k.least ∨ k.most < n ∨ k.word wd = false then 3 else if 100 < wd.length then 10 else 0 := ⟨_, rfl⟩
  rw [← hR]
  have HR := Lib.hid hR
  clear hR
  have HNU := Lib.hid (fun W => numberOf_any W wd 3 (by decide) (by omega))
  have HCU := Lib.hid (fun W => refCutC_any W 61 61 (by decide) wd (by omega))
  have HPL := Lib.hid (pair_len wd)
  have HNI := Lib.hid (num_isSome wd)
  have e1 : (k.name == [104, 101, 97, 100]) = Kd.isN 0 k := by cases k <;> rfl
  have e2 : (k.name == [115, 119, 97, 112]) = Kd.isN 1 k := by cases k <;> rfl
  have e3 : (k.name == [99, 111, 117, 110, 116]) = Kd.isN 2 k := by cases k <;> rfl
  have e4 : (k.name == [115, 111, 114, 116]) = Kd.isN 3 k := by cases k <;> rfl
  have e5 : (k.name == [108, 105, 110, 101, 115]) = Kd.isN 4 k := by cases k <;> rfl
  have e6 : (k.name == [117, 112, 112, 101, 114]) = Kd.isN 5 k := by cases k <;> rfl
  have e7 : (k.name == [106, 111, 105, 110]) = Kd.isN 6 k := by cases k <;> rfl
  have e8 : (k.name == [119, 114, 105, 116, 101]) = Kd.isN 7 k := by cases k <;> rfl
  generalize k.name = nm at *
  clear hk hcode
  go_enter Tryz.func170, Tryz.ntmps170
  go_upto_block 0 with fail
  go_cut [7, 8, 9] (fun a b c wx => a = I k.least ∧ b = I k.most ∧ c = .bool (k.word wd) ∧ Hid (Ext w wx))
  case first =>
   cases k with
   | write =>
    first | change _ = true at e1 | change _ = false at e1
    first | change _ = true at e2 | change _ = false at e2
    first | change _ = true at e3 | change _ = false at e3
    first | change _ = true at e4 | change _ = false at e4
    first | change _ = true at e5 | change _ = false at e5
    first | change _ = true at e6 | change _ = false at e6
    first | change _ = true at e7 | change _ = false at e7
    first | change _ = true at e8 | change _ = false at e8
    go_wp2_with fail
    go_meet
    exact ⟨rfl, rfl, rfl, Lib.hid (Only.refl _ _)⟩
   | join =>
    first | change _ = true at e1 | change _ = false at e1
    first | change _ = true at e2 | change _ = false at e2
    first | change _ = true at e3 | change _ = false at e3
    first | change _ = true at e4 | change _ = false at e4
    first | change _ = true at e5 | change _ = false at e5
    first | change _ = true at e6 | change _ = false at e6
    first | change _ = true at e7 | change _ = false at e7
    first | change _ = true at e8 | change _ = false at e8
    go_wp2_with fail
    go_meet
    exact ⟨rfl, rfl, rfl, Lib.hid (Only.refl _ _)⟩
   | upper =>
    first | change _ = true at e1 | change _ = false at e1
    first | change _ = true at e2 | change _ = false at e2
    first | change _ = true at e3 | change _ = false at e3
    first | change _ = true at e4 | change _ = false at e4
    first | change _ = true at e5 | change _ = false at e5
    first | change _ = true at e6 | change _ = false at e6
    first | change _ = true at e7 | change _ = false at e7
    first | change _ = true at e8 | change _ = false at e8
    go_wp2_with fail
    go_meet
    exact ⟨rfl, rfl, by cases wd <;> rfl, Lib.hid (Only.refl _ _)⟩
   | lines =>
    first | change _ = true at e1 | change _ = false at e1
    first | change _ = true at e2 | change _ = false at e2
    first | change _ = true at e3 | change _ = false at e3
    first | change _ = true at e4 | change _ = false at e4
    first | change _ = true at e5 | change _ = false at e5
    first | change _ = true at e6 | change _ = false at e6
    first | change _ = true at e7 | change _ = false at e7
    first | change _ = true at e8 | change _ = false at e8
    go_wp2_with fail
    go_meet
    exact ⟨rfl, rfl, rfl, Lib.hid (Only.refl _ _)⟩
   | sort =>
    first | change _ = true at e1 | change _ = false at e1
    first | change _ = true at e2 | change _ = false at e2
    first | change _ = true at e3 | change _ = false at e3
    first | change _ = true at e4 | change _ = false at e4
    first | change _ = true at e5 | change _ = false at e5
    first | change _ = true at e6 | change _ = false at e6
    first | change _ = true at e7 | change _ = false at e7
    first | change _ = true at e8 | change _ = false at e8
    cases hq : wd == [] with
    | true =>
     go_wp2_with fail
     go_meet
     exact ⟨rfl, rfl, by show _ = Value.bool (wd == [] || wd == [111, 110, 99, 101]); rw [hq]; rfl, Lib.hid (Only.refl _ _)⟩
    | false =>
     go_wp2_with fail
     go_meet
     exact ⟨rfl, rfl, by show _ = Value.bool (wd == [] || wd == [111, 110, 99, 101]); rw [hq]; rfl, Lib.hid (Only.refl _ _)⟩
   | count =>
    first | change _ = true at e1 | change _ = false at e1
    first | change _ = true at e2 | change _ = false at e2
    first | change _ = true at e3 | change _ = false at e3
    first | change _ = true at e4 | change _ = false at e4
    first | change _ = true at e5 | change _ = false at e5
    first | change _ = true at e6 | change _ = false at e6
    first | change _ = true at e7 | change _ = false at e7
    first | change _ = true at e8 | change _ = false at e8
    go_wp2_with fail
    go_meet
    exact ⟨rfl, rfl, by cases wd <;> rfl, Lib.hid (Only.refl _ _)⟩
   | swap =>
    first | change _ = true at e1 | change _ = false at e1
    first | change _ = true at e2 | change _ = false at e2
    first | change _ = true at e3 | change _ = false at e3
    first | change _ = true at e4 | change _ = false at e4
    first | change _ = true at e5 | change _ = false at e5
    first | change _ = true at e6 | change _ = false at e6
    first | change _ = true at e7 | change _ = false at e7
    first | change _ = true at e8 | change _ = false at e8
    have HW : Hid (Kd.swap.word wd = (decide ((cutc 61 wd).length = 2) && !(wd.head? == some 61))) := Lib.hid HPL.out.symm
    have hl := cutc_length 61 wd
    have hcl := List.count_le_length (a := (61 : UInt8)) (l := wd)
    generalize (cutc 61 wd).length = m at *
    by_cases h2 : m = 2
    ·subst h2
     cases wd with
     | nil => simp at hl
     | cons c r =>
      have hg := ba_get (l := c :: r) (j := 0) (c := c) rfl
      have hlen : (0 : Int) < ((c :: r : B).length : Int) := by simp
      obtain ⟨q, hq⟩ : ∃ q, ((c.toNat : Int) == 61) = q := ⟨_, rfl⟩
      have HQ : Hid ((c == 61) = q) := Lib.hid (by
       rw [← hq, Bool.eq_iff_iff, beq_iff_eq, beq_iff_eq]
       constructor
       ·intro e; rw [e]; rfl
       ·intro e; exact UInt8.toNat_inj.1 (by rw [show (61 : UInt8).toNat = 61 from rfl]; omega))
      have HW2 : Hid (Kd.swap.word (c :: r) = !q) := Lib.hid (by rw [HW.out, ← HQ.out]; simp)
      clear hl hcl HNU HNI HPL HW
      generalize (c :: r : B) = wd at *
      go_wp2_with fail
      refine (HCU.out w).mono ?_
      rintro e w1 ⟨g, cap, rfl, hr, ho⟩
      have HO := Lib.hid ho
      clear ho hr
      have HHQ := Lib.hid hq
      clear hq
      go_wp2_with fail
      go_meet
      exact ⟨rfl, rfl, by rw [HW2.out, ← HHQ.out]; rfl, HO⟩
    ·have hmz : ((m : Int) == 2) = false := beq_eq_false_iff_ne.2 (by omega)
     have HW2 : Hid (Kd.swap.word wd = false) := Lib.hid (by rw [HW.out, decide_eq_false h2]; rfl)
     clear hl hcl HNU HNI HPL HW h2
     go_wp2_with fail
     refine (HCU.out w).mono ?_
     rintro e w1 ⟨g, cap, rfl, hr, ho⟩
     have HO := Lib.hid ho
     clear ho hr
     go_wp2_with fail
     go_meet
     exact ⟨rfl, rfl, by rw [HW2.out], HO⟩
   | head =>
    first | change _ = true at e1 | change _ = false at e1
    first | change _ = true at e2 | change _ = false at e2
    first | change _ = true at e3 | change _ = false at e3
    first | change _ = true at e4 | change _ = false at e4
    first | change _ = true at e5 | change _ = false at e5
    first | change _ = true at e6 | change _ = false at e6
    first | change _ = true at e7 | change _ = false at e7
    first | change _ = true at e8 | change _ = false at e8
    go_wp2_with fail
    refine (HNU.out w).mono ?_
    rintro e w1 ⟨rfl, rfl⟩
    go_wp2_with fail
    go_meet
    exact ⟨rfl, rfl, by rw [HNI.out]; rfl, Lib.hid (Only.refl _ _)⟩
  case rest =>
   obtain ⟨rfl, rfl, rfl, HO⟩ := hcut
   clear e1 e2 e3 e4 e5 e6 e7 e8 HNU HCU HPL HNI
   have hR := HR.out
   clear HR
   generalize k.least = lo at *
   generalize k.most = hi at *
   generalize k.word wd = r at *
   by_cases h1 : n < lo
   ·rw [if_pos (.inl h1)] at hR
    have h1z : (n : Int) < (lo : Int) := by omega
    subst hR
    clear h1
    go_wp2_with fail
    go_ret
    exact ⟨rfl, HO.out⟩
   ·have h1z : ¬ (n : Int) < (lo : Int) := by omega
    by_cases h2 : hi < n
    ·rw [if_pos (.inr (.inl h2))] at hR
     have h2z : (hi : Int) < (n : Int) := by omega
     subst hR
     clear h1 h2
     go_wp2_with fail
     go_ret
     exact ⟨rfl, HO.out⟩
    ·have h2z : ¬ (hi : Int) < (n : Int) := by omega
     cases r with
     | false =>
      rw [if_pos (.inr (.inr rfl))] at hR
      subst hR
      clear h1 h2
      go_wp2_with fail
      go_ret
      exact ⟨rfl, HO.out⟩
     | true =>
      rw [if_neg (by simp; omega)] at hR
      clear h1 h2
      by_cases h3 : 100 < wd.length
      ·rw [if_pos h3] at hR
       have h3z : (100 : Int) < (wd.length : Int) := by omega
       subst hR
       clear h3
       go_wp2_with fail
       go_ret
       exact ⟨rfl, HO.out⟩
      ·rw [if_neg h3] at hR
       have h3z : ¬ (100 : Int) < (wd.length : Int) := by omega
       subst hR
       clear h3
       go_wp2_with fail
       go_ret
       exact ⟨rfl, HO.out⟩
end Go.Proofs.YtnmhaipjfpongacGreatDoor

namespace Go.Proofs.YtnmhaipjfpongacGreatDoor
open Go.ChangeShapes Go.WideShapes Go.ChangeAt Go.RowKit

structure ResAt (w wr : World) : Prop where
 ext : Ext w wr
 cell : wr.heap[w.heap.size]? = some (.cells #[.int .i64 0, .int .i64 0] 37 (0, 0))
theorem ResAt.grow {w wr w' : World} (h : ResAt w wr) (ho : Ext wr w') : ResAt w w' := ⟨h.ext.then ho, ho.heapOf h.cell (fun h => h)⟩
end Go.Proofs.YtnmhaipjfpongacGreatDoor

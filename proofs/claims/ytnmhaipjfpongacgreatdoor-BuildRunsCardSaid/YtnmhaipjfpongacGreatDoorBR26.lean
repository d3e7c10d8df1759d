/- Texts of this seat laid together for one claim: J4. No condition of its own: what each proves stands with its theorems. -/
import Derived.Test.YtnmhaipjfpongacGreatDoorBR8
import Derived.Test.YtnmhaipjfpongacGreatDoorBR20
import Derived.Test.YtnmhaipjfpongacGreatDoorBR12
namespace Go.Proofs.YtnmhaipjfpongacGreatDoor
open Go.ChangeShapes Go.WideShapes Go.ChangeAt Go.RowKit

theorem ownTextsRow_any (w : World) (v : Value) (l : List B) (hv : Rd S w v l) (hl : l.length ≤ 1000000) :
  Calls Tryz.prog 53 #[v] w (RetRow l w) := by
 obtain ⟨a, cap, rfl, _, _, hc⟩ := hv
 cases l with
 | nil =>
  clear hc
  cases a with
  | none =>
   go_enter Tryz.func53, Tryz.ntmps53
   go_wp2_with fail
   go_ret
   exact ⟨_, rfl, Only.refl _ _, Row.nil _ _⟩
  | some a =>
   go_enter Tryz.func53, Tryz.ntmps53
   go_wp2_with fail
   go_ret
   exact ⟨_, rfl, Only.refl _ _, Row.nil _ _⟩
 | cons x r =>
  obtain ⟨b, off, rfl, hcell⟩ := hc (by simp)
  obtain ⟨l, hL⟩ : ∃ l, l = x :: r := ⟨_, rfl⟩
  rw [← hL] at hl hcell ⊢
  have hnews : ∀ j u, (l.map S)[j]? = some u → w.cell? ((⟨b, off, none⟩ : Addr).add j) = some u := fun j u hu => by
   rw [List.getElem?_map] at hu
   obtain ⟨y, hy, rfl⟩ := Option.map_eq_some_iff.1 hu
   rw [addrAdd]
   exact hcell j y hy
  have hone : ∀ u ∈ l.map S, u.oneCell' = true := fun u hu => by
   obtain ⟨y, _, rfl⟩ := List.mem_map.1 hu
   rfl
  have HN := Lib.hid hnews
  have HO := Lib.hid hone
  obtain ⟨i0, hi, hz0, hz1, hz2⟩ := info_parts infoStr
  have HI := Lib.hid hi
  have HZ := Lib.hid (And.intro hz0 (And.intro hz1 hz2))
  clear hc hcell hnews hone hz0 hz1 hz2 hi
  go_enter Tryz.func53, Tryz.ntmps53
  go_wp2_with (at_builtin; refine wpList_append_own_at w rfl (.tmp 4) (.tmp 5) 53 rfl w.heap.size 9 i0 (.string ⟨#[]⟩) 1 16 Tryz.underlying53 HI.out HZ.out.1 HZ.out.2.1 HZ.out.2.2 rfl (by decide) _ 0 [] rfl (World.ownsRow_nil _ _ _ _) ⟨b, off, none⟩ l.length cap (l.map S) rfl (by simp) HN.out HO.out ?h1 ?h2 (Nat.le_refl _) ?_; (case h1 => unfold maxLen; omega); (case h2 => omega); intro v' w' ho hg _ _)
  go_wp2_with fail
  go_ret
  exact ⟨_, rfl, (Only.of_grown hg).mono (fun _ _ h => by cases h), by simpa using ho⟩

abbrev SV (q : Option Addr × Nat × Nat) : Value := .slice q.1 q.2.1 q.2.2
abbrev encR (p : Rule × Option Addr × Nat × Nat) : List Value := [S p.1.out, S p.1.kind, S p.1.word, SV p.2]
theorem encR_one (p : Rule × Option Addr × Nat × Nat) : ∀ u ∈ encR p, u.oneCell' = true := by
 intro u hu
 simp only [encR, List.mem_cons, List.not_mem_nil, or_false] at hu
 rcases hu with rfl | rfl | rfl | rfl <;> rfl
theorem infoRule : (Tryz.prog.info? 55).map (fun i => (i.zero, i.size, i.bytes)) = some (some (.agg #[.string ⟨#[]⟩, .string ⟨#[]⟩, .string ⟨#[]⟩, .slice none 0 0]), 4, 72) := by kernel_rfl
theorem encR_len (p : Rule × Option Addr × Nat × Nat) : (encR p).length = 4 := rfl

structure OwnR (w wr : World) (v : Value) (ps : List (Rule × Option Addr × Nat × Nat)) : Prop where
 ext : Ext w wr
 row : wr.ownsRow w.heap.size 55 4 v ps.length (ps.flatMap encR)
 texts : ∀ p ∈ ps, Rd S wr (SV p.2) p.1.ins ∧ ∀ b, (SV p.2).ownBlock = some b → b < wr.heap.size ∧ v.ownBlock ≠ some b

theorem OwnR.grow {w wr w' : World} {v : Value} {ps : List (Rule × Option Addr × Nat × Nat)} (h : OwnR w wr v ps) (ho : Ext wr w') : OwnR w w' v ps :=
 ⟨h.ext.then ho, ho.row h.row (fun _ _ h => h), fun p hp => ⟨(h.texts p hp).1.ext ho, fun b hb => ⟨Nat.lt_of_lt_of_le ((h.texts p hp).2 b hb).1 ho.size, ((h.texts p hp).2 b hb).2⟩⟩⟩
theorem OwnR.push {w wr w1 w2 : World} {v v' : Value} {u : Option Addr × Nat × Nat} {ps : List (Rule × Option Addr × Nat × Nat)} {r : Rule} (h : OwnR w wr v ps) (hx : Ext wr w1) (hu : Row wr.heap.size w1 (SV u) r.ins) (hr : w2.ownsRow w.heap.size 55 4 v' (ps.length + 1) ((ps ++ [(r, u)]).flatMap encR)) (hg : w1.grownBy w2 v.ownBlock) (ha : ∀ i, v'.ownBlock = some i → v.ownBlock = some i ∨ w1.heap.size ≤ i) :
  OwnR w w2 v' (ps ++ [(r, u)]) := by
 have ho : Only (fun b => v.ownBlock = some b) w1 w2 := Only.of_grown hg
 have hb : ∀ b, v.ownBlock = some b → w.heap.size ≤ b ∧ b < wr.heap.size := fun b e => h.row.lt b e
 have hw : Ext w w2 := (h.ext.then hx).trans ho (fun _ _ h => h) (fun i hi e => by have := (hb i e).1; omega)
 refine ⟨hw, by rw [List.length_append]; exact hr, fun p hp => ?_⟩
 rcases List.mem_append.1 hp with hp | hp
 ·obtain ⟨h1, h2⟩ := h.texts p hp
  refine ⟨(h1.ext hx).later ho (fun b e e2 => (h2 b e).2 e2), fun b e => ⟨Nat.lt_of_lt_of_le (Nat.lt_of_lt_of_le (h2 b e).1 hx.size) ho.size, fun e2 => ?_⟩⟩
  rcases ha b e2 with e3 | e3
  ·exact (h2 b e).2 e3
  ·have := (h2 b e).1; have := hx.size; omega
 ·rw [List.mem_singleton] at hp
  subst hp
  refine ⟨hu.rd.later ho (fun b e e2 => by have := (hu.lt b e).1; have := (hb b e2).2; omega), fun b e => ⟨Nat.lt_of_lt_of_le (hu.lt b e).2 ho.size, fun e2 => ?_⟩⟩
  have h3 := hu.lt b e
  rcases ha b e2 with e3 | e3
  ·have := (hb b e3).2; omega
  ·omega
theorem OwnR.rd {w wr : World} {v : Value} {ps : List (Rule × Option Addr × Nat × Nat)} {l : List Rule} (h : OwnR w wr v ps) (hl : ps.map Prod.fst = l) : RdR wr v l := by
 have hs := RdS.of_row encR_len h.row
 obtain ⟨a, cap, h1, h2, h3, h4⟩ := hs
 have hlen : ps.length = l.length := by rw [← hl, List.length_map]
 refine ⟨a, cap, by rw [← hlen]; exact h1, by omega, h3, fun hne => ?_⟩
 obtain ⟨b, off, h5, h6⟩ := h4 (by intro e; rw [e] at hl; exact hne hl.symm)
 refine ⟨b, off, h5, fun i r hi => ?_⟩
 rw [← hl, List.getElem?_map] at hi
 obtain ⟨p, hp, rfl⟩ := Option.map_eq_some_iff.1 hi
 refine ⟨SV p.2, (h.texts p (List.mem_of_getElem? hp)).1, ?_, ?_, ?_, ?_⟩
 ·have := h6 i p hp 0 _ rfl; rwa [Nat.add_zero] at this
 ·exact h6 i p hp 1 _ rfl
 ·exact h6 i p hp 2 _ rfl
 ·exact h6 i p hp 3 _ rfl

def RetRules (l : List Rule) (w : World) (e : Ending) (w' : World) : Prop := ∃ v, e = .returned v ∧ RdR w' v l ∧ Ext w w'

theorem form4 {w : World} {base : Nat} {e : TypeId} {k n : Nat} {v : Value} {xs : List Value} (h : w.ownsRow base e k v n xs) : ∃ a cap, v = .slice a n cap := by
 rcases h.2 with ⟨h1, h2⟩ | ⟨g, cap, _, h1, _⟩
 ·exact ⟨none, 0, by rw [h1, h2]⟩
 ·exact ⟨_, cap, h1⟩

set_option maxRecDepth 100000 in
set_option maxHeartbeats 4000000 in
theorem ownRules_any (w : World) (v : Value) (l : List Rule) (hv : RdR w v l) (hl : l.length ≤ 900000) (hs : ∀ r ∈ l, r.ins.length ≤ 1000000) :
  Calls Tryz.prog 19 #[v] w (RetRules l w) := by
 obtain ⟨a, cap, rfl, _, _, hc⟩ := hv
 have HC := Lib.hid hc
 have HS := Lib.hid hs
 clear hc hs
 go_enter Tryz.func19, Tryz.ntmps19
 go_wp2_with fail
 go_loopw [3, 4, 5] (fun q i _ wr => ∃ (j : Nat) (ps : List (Rule × Option Addr × Nat × Nat)), j ≤ l.length ∧ i = .int .i64 j ∧ Hid (ps.map Prod.fst = l.take j) ∧ Hid (OwnR w wr q ps)) (fun _ i _ _ => l.length - (intOf i).toNat)
 case atStart => exact ⟨0, [], Nat.zero_le _, rfl, Lib.hid rfl, Lib.hid ⟨Only.refl _ _, World.ownsRow_nil _ _ _ _, by simp⟩⟩
 case round =>
  obtain ⟨j, ps, hj, rfl, HPS, HO⟩ := hrel
  by_cases hlt : j < l.length
  ·have hltz : (j : Int) < (l.length : Int) := by omega
   have hj0 : (0 : Int) ≤ (j : Int) := by omega
   obtain ⟨b, off, rfl, hcell⟩ := HC.out (by intro h; rw [h] at hlt; simp at hlt)
   obtain ⟨r, hq⟩ : ∃ y, l[j]? = some y := ⟨_, List.getElem?_eq_getElem hlt⟩
   obtain ⟨u, hu, c0, c1, c2, c3⟩ := hcell j r hq
   have d0 := HO.out.ext.cellOf c0 (fun h => h)
   have d1 := HO.out.ext.cellOf c1 (fun h => h)
   have d2 := HO.out.ext.cellOf c2 (fun h => h)
   have d3 := HO.out.ext.cellOf c3 (fun h => h)
   have HT := Lib.hid (ownTextsRow_any wr u r.ins (hu.ext HO.out.ext) (HS.out r (List.mem_of_getElem? hq)))
   have HPS2 : Hid (∀ u', (ps ++ [(r, u')]).map Prod.fst = l.take (j + 1)) := Lib.hid (fun u' => by rw [List.map_append, HPS.out, List.take_add_one, hq]; rfl)
   have hpl : ps.length = j := by have := congrArg List.length HPS.out; rw [List.length_map, List.length_take] at this; omega
   have HPL : Hid (ps.length ≤ 1000000) := Lib.hid (by omega)
   obtain ⟨ar, cr, rfl⟩ := form4 HO.out.row
   obtain ⟨au, cu, hua, _, _, _⟩ := hu
   generalize hun : r.ins.length = ln at hua
   subst hua
   clear hcell hq c0 c1 c2 c3 hlt hun hpl
   go_wp2_with fail
   refine HT.out.mono ?_
   rintro e w3 ⟨u3, rfl, ho, hrow⟩
   obtain ⟨a3, c3, rfl⟩ := form4 hrow
   have HX3 := Lib.hid ho
   have HR3 : Hid (Row wr.heap.size w3 (SV (a3, r.ins.length, c3)) r.ins) := Lib.hid hrow
   have e0 := ho.cellOf d0 (fun h => h)
   have e1 := ho.cellOf d1 (fun h => h)
   have e2 := ho.cellOf d2 (fun h => h)
   have HOR := Lib.hid ((Only.drew (fun _ => False) w3).row (ho.row HO.out.row (fun _ _ h => h)) (fun _ _ h => h))
   have HSZ : Hid (w.heap.size ≤ w3.drew.heap.size) := Lib.hid (Nat.le_trans HO.out.ext.size ho.size)
   clear ho hrow d0 d1 d2 d3
   go_wp2_with fail
   go_region_law (refine step_appS encR 23 55 4 72 _ infoRule Tryz.underlying23 rfl (by decide) encR_len encR_one (by decide) (.tmp 18) (.tmp 36) w.heap.size _ ps (r, a3, r.ins.length, c3) w3.drew _ (by rfl) (by rfl) (by rfl) (by rfl) (by rfl) HOR.out HPL.out HSZ.out ?_; intro g5 cap5 w5 ho5 hg5 ha5; have HP5 := Lib.hid (HO.out.push (HX3.out.thenDrew) ((Only.drew (fun _ => False) w3).row HR3.out (fun _ _ h => h)) ho5 hg5 ha5); clear ho5 hg5 ha5)
   all_goals
    go_wp2_with fail
    go_roundw
    case rel => exact ⟨j + 1, _, by omega, by go_num, Lib.hid (HPS2.out _), HP5⟩
    case measure => simp [intOf]; omega
  ·have hltz : ¬ (j : Int) < (l.length : Int) := by omega
   obtain rfl : j = l.length := by omega
   rw [List.take_length] at HPS
   have HF := Lib.hid (HO.out.rd HPS.out)
   have HX := Lib.hid HO.out.ext
   go_wp2_with fail
   go_ret
   exact ⟨_, rfl, HF.out, HX.out⟩

structure ShortR (r : Rule) : Prop where
 out : r.out.length ≤ 100
 kind : r.kind.length ≤ 60
 word : r.word.length ≤ 150
 many : r.ins.length ≤ 12
 ins : ∀ s ∈ r.ins, s.length ≤ 300
theorem ShortR.sm {r : Rule} (h : ShortR r) : RuleSm 900000 r := ⟨by have := h.out; omega, by have := h.kind; omega, by have := h.word; omega, by have := h.many; omega, fun s hs => by have := h.ins s hs; omega⟩

def RetLong (l : List Rule) (many : Int) (w : World) (e : Ending) (w' : World) : Prop :=
 (∃ r : Int, e = .returned (.int .i64 r) ∧ (r = 0 ∨ r = 1) ∧ (r = 0 → ((l.length : Int) ≤ many ∨ l.length = 41) ∧ ∀ x ∈ l, ShortR x)) ∧ w = w'

set_option maxRecDepth 100000 in
set_option maxHeartbeats 4000000 in
theorem longRules_any (w : World) (v : Value) (l : List Rule) (many : Int) (hv : RdR w v l) :
  Calls Tryz.prog 16 #[v, .int .i64 many] w (RetLong l many w) := by
 obtain ⟨a, cap, rfl, _, hm1, hc⟩ := hv
 have hl1 : l.length ≤ 9223372036854775807 := by unfold maxLen at hm1; omega
 have HC := Lib.hid hc
 clear hc hm1
 by_cases hmany : many < (l.length : Int)
 ·by_cases h41 : l.length = 41
  ·have HM : Hid ((l.length : Int) ≤ many ∨ l.length = 41) := Lib.hid (.inr h41)
   have hne : ((l.length : Int) != 41) = false := by rw [h41]; rfl
   clear h41
   go_enter Tryz.func16, Tryz.ntmps16
   go_wp2_with fail
   clear hne hmany
   go_loop [5] (fun i => ∃ j : Nat, j ≤ l.length ∧ i = .int .i64 j ∧ Hid (∀ i (q : Rule), i < j → l[i]? = some q → ShortR q)) (fun i => l.length - (intOf i).toNat)
   case atStart => exact ⟨0, Nat.zero_le _, rfl, Lib.hid (fun i q h => absurd h (Nat.not_lt_zero _))⟩
   case round =>
    obtain ⟨j, hj, rfl, HB⟩ := hrel
    by_cases hlt : j < l.length
    ·have hltz : (j : Int) < (l.length : Int) := by omega
     have hj0 : (0 : Int) ≤ (j : Int) := by omega
     obtain ⟨b, off, rfl, hcell⟩ := HC.out (by intro h; rw [h] at hlt; simp at hlt)
     obtain ⟨r, hq⟩ : ∃ y, l[j]? = some y := ⟨_, List.getElem?_eq_getElem hlt⟩
     obtain ⟨u, hu, c0, c1, c2, c3⟩ := hcell j r hq
     have HQ := Lib.hid hq
     have HLT := Lib.hid (longTexts_any w u r.ins 12 300 hu (by decide))
     obtain ⟨au, cu, hua, _, _, _⟩ := hu
     generalize hun : r.ins.length = ln at hua
     have HUN := Lib.hid hun
     subst hua
     clear hcell hq hun
     by_cases h1 : (100 : Int) < (r.out.length : Int)
     ·go_wp2_with fail
      go_ret
      exact ⟨⟨1, rfl, .inr rfl, fun h => by cases h⟩, rfl⟩
     by_cases h2 : (60 : Int) < (r.kind.length : Int)
     ·go_wp2_with fail
      go_ret
      exact ⟨⟨1, rfl, .inr rfl, fun h => by cases h⟩, rfl⟩
     by_cases h3 : (150 : Int) < (r.word.length : Int)
     ·go_wp2_with fail
      go_ret
      exact ⟨⟨1, rfl, .inr rfl, fun h => by cases h⟩, rfl⟩
     go_wp2_with fail
     refine HLT.out.mono ?_
     rintro e w2 ⟨⟨x, rfl, hr, hz⟩, rfl⟩
     have HZ := Lib.hid hz
     clear hz
     rcases hr with rfl | rfl
     ·have HS := Lib.hid (show ShortR r from ⟨by omega, by omega, by omega, by have := (HZ.out rfl).1; omega, fun s hs => by have := (HZ.out rfl).2 s hs; omega⟩)
      clear h1 h2 h3
      go_wp2_with fail
      go_round
      case rel => exact ⟨j + 1, by omega, by go_num, Lib.hid (fun i q hi hq => by
       rcases Nat.lt_succ_iff_lt_or_eq.1 hi with h | rfl
       ·exact HB.out i q h hq
       ·rw [HQ.out] at hq; cases hq; exact HS.out)⟩
      case measure => simp [intOf]; omega
     ·go_wp2_with fail
      go_ret
      exact ⟨⟨1, rfl, .inr rfl, fun h => by cases h⟩, rfl⟩
    ·have hltz : ¬ (j : Int) < (l.length : Int) := by omega
     go_wp2_with fail
     go_ret
     refine ⟨⟨0, rfl, .inl rfl, fun _ => ⟨HM.out, ?_⟩⟩, rfl⟩
     intro x hx
     obtain ⟨i, hi⟩ := List.getElem?_of_mem hx
     exact HB.out i x (by have := (List.getElem?_eq_some_iff.1 hi).1; omega) hi
  ·have hne : ((l.length : Int) != 41) = true := by
    rw [bne_iff_ne]
    omega
   go_enter Tryz.func16, Tryz.ntmps16
   go_wp2_with fail
   go_ret
   exact ⟨⟨1, rfl, .inr rfl, fun h => by cases h⟩, rfl⟩
 ·have HM : Hid ((l.length : Int) ≤ many ∨ l.length = 41) := Lib.hid (.inl (by omega))
  go_enter Tryz.func16, Tryz.ntmps16
  go_wp2_with fail
  clear hmany
  go_loop [5] (fun i => ∃ j : Nat, j ≤ l.length ∧ i = .int .i64 j ∧ Hid (∀ i (q : Rule), i < j → l[i]? = some q → ShortR q)) (fun i => l.length - (intOf i).toNat)
  case atStart => exact ⟨0, Nat.zero_le _, rfl, Lib.hid (fun i q h => absurd h (Nat.not_lt_zero _))⟩
  case round =>
   obtain ⟨j, hj, rfl, HB⟩ := hrel
   by_cases hlt : j < l.length
   ·have hltz : (j : Int) < (l.length : Int) := by omega
    have hj0 : (0 : Int) ≤ (j : Int) := by omega
    obtain ⟨b, off, rfl, hcell⟩ := HC.out (by intro h; rw [h] at hlt; simp at hlt)
    obtain ⟨r, hq⟩ : ∃ y, l[j]? = some y := ⟨_, List.getElem?_eq_getElem hlt⟩
    obtain ⟨u, hu, c0, c1, c2, c3⟩ := hcell j r hq
    have HQ := Lib.hid hq
    have HLT := Lib.hid (longTexts_any w u r.ins 12 300 hu (by decide))
    obtain ⟨au, cu, hua, _, _, _⟩ := hu
    generalize hun : r.ins.length = ln at hua
    have HUN := Lib.hid hun
    subst hua
    clear hcell hq hun
    by_cases h1 : (100 : Int) < (r.out.length : Int)
    ·go_wp2_with fail
     go_ret
     exact ⟨⟨1, rfl, .inr rfl, fun h => by cases h⟩, rfl⟩
    by_cases h2 : (60 : Int) < (r.kind.length : Int)
    ·go_wp2_with fail
     go_ret
     exact ⟨⟨1, rfl, .inr rfl, fun h => by cases h⟩, rfl⟩
    by_cases h3 : (150 : Int) < (r.word.length : Int)
    ·go_wp2_with fail
     go_ret
     exact ⟨⟨1, rfl, .inr rfl, fun h => by cases h⟩, rfl⟩
    go_wp2_with fail
    refine HLT.out.mono ?_
    rintro e w2 ⟨⟨x, rfl, hr, hz⟩, rfl⟩
    have HZ := Lib.hid hz
    clear hz
    rcases hr with rfl | rfl
    ·have HS := Lib.hid (show ShortR r from ⟨by omega, by omega, by omega, by have := (HZ.out rfl).1; omega, fun s hs => by have := (HZ.out rfl).2 s hs; omega⟩)
     clear h1 h2 h3
     go_wp2_with fail
     go_round
     case rel => exact ⟨j + 1, by omega, by go_num, Lib.hid (fun i q hi hq => by
      rcases Nat.lt_succ_iff_lt_or_eq.1 hi with h | rfl
      ·exact HB.out i q h hq
      ·rw [HQ.out] at hq; cases hq; exact HS.out)⟩
     case measure => simp [intOf]; omega
    ·go_wp2_with fail
     go_ret
     exact ⟨⟨1, rfl, .inr rfl, fun h => by cases h⟩, rfl⟩
   ·have hltz : ¬ (j : Int) < (l.length : Int) := by omega
    go_wp2_with fail
    go_ret
    refine ⟨⟨0, rfl, .inl rfl, fun _ => ⟨HM.out, ?_⟩⟩, rfl⟩
    intro x hx
    obtain ⟨i, hi⟩ := List.getElem?_of_mem hx
    exact HB.out i x (by have := (List.getElem?_eq_some_iff.1 hi).1; omega) hi

set_option maxHeartbeats 1000000 in
theorem indexRef_any (w : World) (v : Value) (l : List B) (x : B) (hv : Rd S w v l) : Calls Tryz.prog 89 #[v, S x] w (RetS (I (idx (fun y => y == x) l)) w) := by
 obtain ⟨a, cap, rfl, hcap, hm, hc⟩ := hv
 have hm' : l.length ≤ 9223372036854775807 := by unfold maxLen at hm; omega
 obtain ⟨R, hR⟩ : ∃ R, Hid (R = idx (fun y => y == x) l) := ⟨_, Lib.hid rfl⟩
 rw [← hR.out]
 clear hm
 have HC := Lib.hid hc
 clear hc
 go_enter Tryz.func89, Tryz.ntmps89
 go_wp2
 go_loop [5] (fun i => ∃ k : Nat, k ≤ l.length ∧ i = .int .i64 k ∧ Hid (∀ j y, j < k → l[j]? = some y → (y == x) = false)) (fun i => l.length + 1 - (intOf i).toNat)
 case atStart => exact ⟨0, Nat.zero_le _, rfl, Lib.hid (fun j x h => absurd h (Nat.not_lt_zero _))⟩
 case round =>
  obtain ⟨k, hk, rfl, HB⟩ := hrel
  by_cases hlt : k < l.length
  ·have hltz : (k : Int) < (l.length : Int) := by omega
   obtain ⟨b, off, rfl, hcell⟩ := HC.out (by intro h; rw [h] at hlt; simp at hlt)
   obtain ⟨y, hy⟩ : ∃ y, l[k]? = some y := ⟨_, List.getElem?_eq_getElem hlt⟩
   have d0 := hcell k y hy
   have HY := Lib.hid hy
   clear hcell hy
   cases hq : y == x with
   | false =>
    go_wp2
    have HQ := Lib.hid hq
    go_round
    case rel => exact ⟨k + 1, by omega, by go_num, Lib.hid (fun j z hj hz => by
     rcases Nat.lt_succ_iff_lt_or_eq.1 hj with h | rfl
     ·exact HB.out j z h hz
     ·rw [HY.out] at hz; cases hz; exact HQ.out)⟩
    case measure => simp [intOf]; omega
   | true =>
    have HK := Lib.hid (idx_hit HY.out hq HB.out)
    go_wp2
    go_ret
    exact ⟨by rw [hR.out, HK.out]; rfl, rfl⟩
  ·have hltz : ¬ (k : Int) < (l.length : Int) := by omega
   have HK := Lib.hid (idx_none (p := fun y => y == x) (l := l) fun j y hy => HB.out j y (by have := (List.getElem?_eq_some_iff.1 hy).1; omega) hy)
   go_wp2
   go_ret
   exact ⟨by rw [hR.out, HK.out]; rfl, rfl⟩

theorem needB_idx {l : List Rule} {i k : Nat} {r q : Rule} (hi : l[i]? = some r) (hk : l[k]? = some q) : decide (0 ≤ idx (fun y => y == q.out) r.ins) = needB l i k := by
 rw [idx_any]
 unfold needB
 rw [hi, hk]
 simp only
 rw [Bool.eq_iff_iff]
 simp [List.any_eq_true]

set_option maxRecDepth 100000 in
set_option maxHeartbeats 2000000 in
theorem needsRule_any (w : World) (v : Value) (l : List Rule) (i k : Nat) (hi : i < l.length) (hk : k < l.length) (hv : RdR w v l) :
  Calls Tryz.prog 103 #[v, I i, I k] w (RetE (.bool (needB l i k)) w) := by
 obtain ⟨a, cap, rfl, _, _, hc⟩ := hv
 obtain ⟨b, off, rfl, hcell⟩ := hc (by intro h; rw [h] at hi; simp at hi)
 obtain ⟨r, hr⟩ : ∃ y, l[i]? = some y := ⟨_, List.getElem?_eq_getElem hi⟩
 obtain ⟨q, hq⟩ : ∃ y, l[k]? = some y := ⟨_, List.getElem?_eq_getElem hk⟩
 obtain ⟨u, hu, _, _, _, c3⟩ := hcell i r hr
 obtain ⟨_, _, d0, _⟩ := hcell k q hq
 have HI := Lib.hid (fun n => indexRef_any (w.drewN n) u r.ins q.out (hu.ext (Only.drewN _ _ n)))
 rw [← needB_idx hr hq]
 generalize idx (fun y => y == q.out) r.ins = R at *
 have hiz : (i : Int) < (l.length : Int) := by omega
 have hkz : (k : Int) < (l.length : Int) := by omega
 have hi0 : (0 : Int) ≤ (i : Int) := by omega
 have hk0 : (0 : Int) ≤ (k : Int) := by omega
 obtain ⟨au, cu, rfl, _, _, _⟩ := hu
 clear hc hcell hr hq hi hk
 go_enter Tryz.func103, Tryz.ntmps103
 go_wp2_with fail
 go_quiet ((go_at_call 89; exact Calls.quiet_of_same ((HI.out _).mono fun _ _ h => ⟨h.1, h.2.symm⟩)))
 go_wp2_with fail
 go_ret
 exact ⟨rfl, Only.drewN _ _ _⟩
end Go.Proofs.YtnmhaipjfpongacGreatDoor

/- Texts of this seat laid together for one claim: Sc3, Sc4, Sc5. No condition of its own: what each proves stands with its theorems. -/
import Derived.Deep.CutBlock
import Derived.Deep.DeepCutAuto
import Derived.Test.YtnmhaipjfpongacGreatDoorSA18
import Derived.Test.YtnmhaipjfpongacGreatDoorSA21
import Derived.Test.YtnmhaipjfpongacGreatDoorSA43
import Derived.Test.YtnmhaipjfpongacGreatDoorSA39
import Derived.Test.YtnmhaipjfpongacGreatDoorSA41
import Derived.BigQuiet
import Derived.Deep.RegionHeld3
import Derived.Test.YtnmhaipjfpongacGreatDoorSA11
import Derived.Test.YtnmhaipjfpongacGreatDoorSA12
namespace Go.Proofs.YtnmhaipjfpongacGreatDoor
open Go.ChangeShapes Go.WideShapes Go.ChangeAt Go.RowKit

theorem linesP_snoc : ∀ (a : List B) (t : B), linesP (a ++ [t]) = match linesP a, lineP t with | some rs, some r => some (rs ++ [r]) | _, _ => none
 | [], t => by
  show (match lineP t, linesP [] with | some r, some rs => some (r :: rs) | _, _ => none) = _
  cases lineP t <;> rfl
 | x :: a, t => by
  have ih := linesP_snoc a t
  show (match lineP x, linesP (a ++ [t]) with | some r, some rs => some (r :: rs) | _, _ => none) = match (match lineP x, linesP a with | some r, some rs => some (r :: rs) | _, _ => none), lineP t with | some rs, some r => some (rs ++ [r]) | _, _ => none
  rw [ih]
  cases lineP x <;> cases linesP a <;> cases lineP t <;> rfl
theorem linesP_take {ls : List B} {j : Nat} {t : B} {rs : List Rule} {r : Rule} (h : ls[j]? = some t) (h1 : linesP (ls.take j) = some rs) (h2 : lineP t = some r) : linesP (ls.take (j + 1)) = some (rs ++ [r]) := by
 rw [List.take_add_one, h, Option.toList_some, linesP_snoc, h1, h2]
theorem linesP_bad : ∀ {ls : List B} {t : B}, t ∈ ls → lineP t = none → linesP ls = none
 | x :: ls, t, h, h2 => by
  show (match lineP x, linesP ls with | some r, some rs => some (r :: rs) | _, _ => none) = none
  rcases List.mem_cons.1 h with rfl | h
  ·rw [h2]
  ·rw [linesP_bad h h2]
   cases lineP x <;> rfl
theorem linesP_len : ∀ {ls : List B} {rs : List Rule}, linesP ls = some rs → rs.length = ls.length
 | [], rs, h => by cases h; rfl
 | x :: ls, rs, h => by
  have h : (match lineP x, linesP ls with | some r, some rs => some (r :: rs) | _, _ => none) = some rs := h
  cases h1 : lineP x with
  | none => rw [h1] at h; cases h
  | some r1 =>
   cases h2 : linesP ls with
   | none => rw [h1, h2] at h; cases h
   | some r2 =>
    rw [h1, h2] at h
    cases h
    rw [List.length_cons, List.length_cons, linesP_len h2]
theorem cutc_part (d : UInt8) : ∀ (s : B) (x : B), x ∈ cutc d s → x.length ≤ s.length
 | [], x, h => by
  simp [cutc] at h
  subst h; simp
 | c :: r, x, h => by
  rw [cutc] at h
  split at h
  ·rcases List.mem_cons.1 h with rfl | h
   ·simp
   ·have := cutc_part d r x h; simp; omega
  ·have ih := cutc_part d r
   cases hq : cutc d r with
   | nil => exact absurd hq (cutc_ne d r)
   | cons y l =>
    rw [hq] at h ih
    rcases List.mem_cons.1 h with rfl | h
    ·have := ih y (.head _); simp; omega
    ·have := ih x (.tail _ h); simp; omega
theorem unq_word : ∀ (acc t : B) {wd q : B}, unq acc t = some (wd, q) → wd.length ≤ acc.length + t.length
 | _, [], _, _, h => by simp [unq] at h
 | acc, [c], wd, q, h => by
  unfold unq at h
  split at h
  ·split at h
   ·cases h
   ·cases h; simp
  ·cases h
 | acc, c :: d :: t, wd, q, h => by
  unfold unq at h
  split at h
  ·split at h
   ·cases h
   ·cases h; simp
  ·split at h
   ·have := unq_word _ _ h; simp only [List.length_cons, List.length_append, List.length_nil] at this ⊢; omega
   ·split at h
    ·have := unq_word _ _ h; simp only [List.length_cons, List.length_append, List.length_nil] at this ⊢; omega
    ·cases h
theorem ins_small {o k wd q : B} {r : Rule} {n : Nat} (h : insP o k wd q = some r) (ho : o.length ≤ n) (hk : k.length ≤ n) (hw : wd.length ≤ n) (hq : q.length ≤ n) : RuleSm (n + 1) r := by
 unfold insP at h
 split at h
 ·cases h
 ·cases h
  exact ⟨Nat.le_succ_of_le ho, Nat.le_succ_of_le hk, Nat.le_succ_of_le hw, Nat.le_trans (cutc_len_le 32 q) (Nat.succ_le_succ hq), fun s hs => Nat.le_succ_of_le (Nat.le_trans (cutc_part 32 q s hs) hq)⟩
theorem line_small {t : B} {r : Rule} (h : lineP t = some r) : RuleSm (t.length + 1) r := by
 unfold lineP at h
 have h3 := cut3_len t
 generalize Lib.cut t [32, 61, 32] = c at h h3
 have h1 := cut1_len 32 c.2.1
 generalize cut1 32 c.2.1 = d at h h1
 have ho : c.1.length ≤ t.length := h3.1
 have hk : d.1.length ≤ t.length := Nat.le_trans h1.1 h3.2
 have hq : d.2.1.length ≤ t.length := Nat.le_trans h1.2 h3.2
 split at h
 ·cases h
 split at h
 ·cases h
  exact ⟨Nat.le_succ_of_le ho, Nat.le_succ_of_le hk, by simp, by simp, by simp⟩
 unfold tailP at h
 split at h
 ·have hd : (d.2.1.drop 1).length ≤ t.length := by rw [List.length_drop]; omega
  cases hu : unq [] (d.2.1.drop 1) with
  | none => rw [hu] at h; cases h
  | some wq =>
   obtain ⟨wd, q⟩ := wq
   have hw := unq_word _ _ hu
   have hql := unq_len _ _ hu
   have hw2 : wd.length ≤ t.length := by simp only [List.length_nil] at hw; omega
   rw [hu] at h
   have h : (if q = [] then some ⟨c.1, d.1, wd, []⟩ else if [32].isPrefixOf q then insP c.1 d.1 wd (q.drop 1) else none) = some r := h
   split at h
   ·cases h
    exact ⟨Nat.le_succ_of_le ho, Nat.le_succ_of_le hk, Nat.le_succ_of_le hw2, by simp, by simp⟩
   split at h
   ·exact ins_small h ho hk hw2 (by rw [List.length_drop]; omega)
   ·cases h
 ·exact ins_small h ho hk (by simp) hq
theorem lines_small {n : Nat} : ∀ {ls : List B} {rs : List Rule}, linesP ls = some rs → (∀ t ∈ ls, t.length ≤ n) → ∀ r ∈ rs, RuleSm (n + 1) r
 | [], rs, h, _, r, hr => by cases h; cases hr
 | x :: ls, rs, h, hn, r, hr => by
  have h : (match lineP x, linesP ls with | some r, some rs => some (r :: rs) | _, _ => none) = some rs := h
  cases h1 : lineP x with
  | none => rw [h1] at h; cases h
  | some r1 =>
   cases h2 : linesP ls with
   | none => rw [h1, h2] at h; cases h
   | some r2 =>
    rw [h1, h2] at h
    cases h
    rcases List.mem_cons.1 hr with rfl | hr
    ·have h3 := line_small h1
     have h4 := hn x (.head _)
     exact ⟨by have := h3.out; omega, by have := h3.kind; omega, by have := h3.word; omega, by have := h3.many; omega, fun s hs => by have := h3.ins s hs; omega⟩
    ·exact lines_small h2 (fun t ht => hn t (.tail _ ht)) r hr
theorem RuleSm.mono {n m : Nat} {r : Rule} (h : RuleSm n r) (hn : n ≤ m) : RuleSm m r := ⟨Nat.le_trans h.out hn, Nat.le_trans h.kind hn, Nat.le_trans h.word hn, Nat.le_trans h.many hn, fun s hs => Nat.le_trans (h.ins s hs) hn⟩
def RetRead (P : Nat → Addr) (x : Nat × List Rule) (w : World) (e : Ending) (w' : World) : Prop :=
 ∃ v ev at_, e = .returned (.tuple #[v, ev]) ∧ ErrAt w' P (x.1, at_) ev ∧ Ext w w' ∧ RdR w' v x.2 ∧ ∀ r ∈ x.2, RuleSm 10001 r
set_option maxRecDepth 100000 in
set_option maxHeartbeats 16000000 in
theorem read_any (w : World) (P : Nat → Addr) (s : B) (ls : List B) (hs : s.length ≤ 10000) (hc : cutc 10 s = ls ++ [[]]) (hV : PV w P [0, 1, 2, 3, 4, 6, 9]) : Calls Tryz.prog 273 #[S s] w (RetRead P (readSh ls) w) := by
 have HV := Lib.hid hV
 have hsz : (s.length : Int) ≤ 10000 := by omega
 have hsp := splitC_any w 10 s (by omega) hV.max
 have hpt := cutc_part 10 s
 have hcl := cutc_len_le 10 s
 rw [hc] at hsp hpt hcl
 obtain ⟨L, hL⟩ : ∃ L, L = ls ++ [[]] := ⟨_, rfl⟩
 rw [← hL] at hsp hpt hcl
 have hLl : L.length = ls.length + 1 := by rw [hL, List.length_append]; rfl
 rw [hLl] at hsp hcl
 have HSP := Lib.hid hsp
 have HLL := Lib.hid hL
 have HPT : Hid (∀ t ∈ ls, t.length ≤ 10000) := Lib.hid (fun t ht => Nat.le_trans (hpt t (by rw [hL]; exact List.mem_append_left _ ht)) hs)
 have hlz : (ls.length : Int) ≤ 10000 := by omega
 have hrd := row_new (w := w) (W := w) (Nat.le_refl _) L (by rw [hLl]; unfold maxLen; omega)
 rw [hLl] at hrd
 have HR1 := Lib.hid (Row.rd hrd)
 have HX1 := Lib.hid (Only.alloc (fun _ => False) w (.cells (L.map S).toArray 9 (0, 0)))
 clear hV hs hc hsp hpt hcl hL hrd
 obtain ⟨R, hR⟩ : ∃ R, R = readSh ls := ⟨_, rfl⟩
 rw [← hR]
 have HR := Lib.hid hR
 clear hR
 go_enter Tryz.func273, Tryz.ntmps273
 go_wp2_with fail
 refine HSP.out.mono ?_
 rintro e w1 ⟨rfl, hw1⟩
 rw [← hw1] at HR1 HX1
 obtain ⟨g1, hg1⟩ : ∃ g1, g1 = w.heap.size := ⟨_, rfl⟩
 rw [← hg1] at HR1 ⊢
 clear hw1 hg1 HSP
 go_wp2_with fail
 go_loopw [5, 6, 7, 8, 9, 19] (fun q _ _ _ _ i wr => ∃ (j : Nat) (qv : Value) (ps : List (Rule × Option Addr × Nat × Nat)), qv = q ∧ j ≤ ls.length ∧ i = .int .i64 j ∧ Hid (linesP (ls.take j) = some (ps.map Prod.fst)) ∧ Hid (OwnR w1 wr qv ps)) (fun _ _ _ _ _ i _ => ls.length + 1 - (intOf i).toNat)
 case atStart => exact ⟨0, _, [], rfl, Nat.zero_le _, rfl, Lib.hid rfl, Lib.hid ⟨Only.refl _ _, World.ownsRow_nil _ _ _ _, fun p hp => by cases hp⟩⟩
 case round =>
  obtain ⟨j, qv, ps, rfl, hj, rfl, HPS, HO⟩ := hrel
  have hjz : (j : Int) < (ls.length : Int) + 1 := by omega
  have hj0 : (0 : Int) ≤ (j : Int) := by omega
  obtain ⟨_, _, ee, _, _, hc0⟩ := HR1.out.ext HO.out.ext
  have hc0 := hc0 (by intro h; rw [h] at hLl; simp at hLl)
  rw [hLl] at ee
  cases ee
  obtain ⟨b, off, ee, hc⟩ := hc0
  cases ee
  have hw1 : IntKind.i64.wrap ((ls.length : Int) + 1 - 1) = (ls.length : Int) := by rw [IntWalk.i64_in _ (by omega)]; omega
  by_cases hlt : j < ls.length
  case pos =>
   obtain ⟨t, ht⟩ : ∃ t, ls[j]? = some t := ⟨_, List.getElem?_eq_getElem hlt⟩
   have hLj : L[j]? = some t := by rw [HLL.out, List.getElem?_append_left hlt, ht]
   have d0 := hc j _ hLj
   rw [Nat.zero_add] at d0
   have hne : ((j : Int) == (ls.length : Int)) = false := beq_eq_false_iff_ne.2 (by omega)
   have htl := HPT.out t (List.mem_of_getElem? ht)
   have hln := line_any wr t (by omega) ((HV.out.max.ext HX1.out).ext HO.out.ext)
   have HLN := Lib.hid hln
   have HT := Lib.hid ht
   have HJ := Lib.hid hlt
   clear hln ht hLj hlt hj htl hc
   go_wp2_with fail
   refine HLN.out.mono ?_
   rintro e w3 ⟨ho3, a, bb, c, au, n, cu, ok, rfl, hcase⟩
   have hAL := Only.alloc (fun _ => False) w3 (.cells #[S a, S bb, S c, .slice au n cu] 55 (0, 0))
   have HX3 := Lib.hid (ho3.then hAL)
   have HO3 := Lib.hid (HO.out.grow HX3.out)
   rcases hcase with ⟨hnone, rfl⟩ | ⟨r, hsome, rfl, rfl, rfl, rfl, rfl, hr3⟩
   ·have HBAD : Hid (readSh ls = (1, [])) := Lib.hid (by unfold readSh; rw [linesP_bad (List.mem_of_getElem? HT.out) hnone])
    have hE := (((HV.out.ext HX1.out).ext HO3.out.ext).errs.var 0 _ (by decide) rfl)
    have HXE := Lib.hid (HX1.out.then HO3.out.ext)
    clear hnone ho3 hAL
    go_wp2_with fail
    go_region_law (fail)
    all_goals
     go_wp2_with fail
     go_ret2
     refine ⟨_, _, (j : Int), rfl, ?_, by first | exact HXE.out.thenDrew.thenAlloc _ | exact (HXE.out.thenAlloc _).thenDrew, by rw [HR.out, HBAD.out]; exact RdR.nil _, by rw [HR.out, HBAD.out]; intro r hr; cases hr⟩
     rw [HR.out, HBAD.out]
     have hm := (MapKept.heap_alloc (w3.alloc (.cells #[S a, S bb, S c, .slice au n cu] 55 (0, 0))) (.cells #[I (j : Int), errV (P 0)] 228 (0, 0))).1
     rw [show (w3.alloc (.cells #[S a, S bb, S c, .slice au n cu] 55 (0, 0))).heap.size = w3.heap.size + 1 by simp] at hm
     exact .inr (.inr ⟨Nat.one_ne_zero, Int.natCast_nonneg _, _, rfl, hm⟩)
   ·have HR3 : Hid (Row wr.heap.size (w3.alloc (.cells #[S r.out, S r.kind, S r.word, .slice au r.ins.length cu] 55 (0, 0))) (.slice au r.ins.length cu) r.ins) := Lib.hid (hAL.row hr3 (fun _ _ h => h))
    have hm := (MapKept.heap_alloc w3 (.cells #[S r.out, S r.kind, S r.word, .slice au r.ins.length cu] 55 (0, 0))).1
    have k0 := (cell_of_heap hm 0).trans (rfl : _ = some (S r.out))
    have k1 := (cell_of_heap hm 1).trans (rfl : _ = some (S r.kind))
    have k2 := (cell_of_heap hm 2).trans (rfl : _ = some (S r.word))
    have k3 := (cell_of_heap hm 3).trans (rfl : _ = some (Value.slice au r.ins.length cu))
    have HBZ : Hid (w1.heap.size ≤ (w3.alloc (.cells #[S r.out, S r.kind, S r.word, .slice au r.ins.length cu] 55 (0, 0))).heap.size) := Lib.hid HO3.out.ext.size
    have HSZ : Hid ((w3.alloc (.cells #[S r.out, S r.kind, S r.word, .slice au r.ins.length cu] 55 (0, 0))).heap.size = w3.heap.size + 1) := Lib.hid (by simp)
    have HPL : Hid (ps.length ≤ 1000000) := Lib.hid (by
     have h1 := linesP_len HPS.out
     rw [List.length_map, List.length_take] at h1
     omega)
    have HPN : Hid (∀ u, linesP (ls.take (j + 1)) = some ((ps ++ [(r, u)]).map Prod.fst)) := Lib.hid (fun u => by rw [List.map_append]; exact linesP_take HT.out HPS.out hsome)
    clear hAL hr3 ho3 hm d0 hsome
    go_wp2_with (at_builtin; refine wpList_appS encR 23 55 4 72 _ infoRule Tryz.underlying23 rfl (by decide) encR_len encR_one (by decide) (.tmp 52) (.tmp 54) w1.heap.size _ ps (r, au, r.ins.length, cu) (w3.alloc (.cells #[S r.out, S r.kind, S r.word, .slice au r.ins.length cu] 55 (0, 0))) #[S r.out, S r.kind, S r.word, .slice au r.ins.length cu] rfl rfl rfl rfl (by show Value.slice (some ⟨w3.heap.size + 1, 0, none⟩) 1 1 = _; rw [HSZ.out]) HO3.out.row HPL.out HBZ.out ?_; intro g5 cap5 w7 ho5 hg5 hn5; have HP5 := Lib.hid (HO.out.push HX3.out HR3.out ho5 hg5 hn5); clear ho5 hg5 hn5)
    go_roundw
    case rel => exact ⟨j + 1, _, _, rfl, HJ.out, by go_num, Lib.hid (HPN.out _), HP5⟩
    case measure => have := HJ.out; simp [intOf]; omega
  case neg =>
   obtain rfl : j = ls.length := by omega
   have hLj : L[ls.length]? = some [] := by rw [HLL.out]; simp
   have d0 := hc _ _ hLj
   rw [Nat.zero_add] at d0
   have hne : ((ls.length : Int) == (ls.length : Int)) = true := beq_self_eq_true _
   rw [List.take_length] at HPS
   have hsm := lines_small HPS.out HPT.out
   have hrd := HO.out.rd (l := ps.map Prod.fst) rfl
   have HSF := Lib.hid (sheet_any wr P (ps.map Prod.fst) qv hrd (fun r hr => (hsm r hr).mono (by decide)) (((HV.out.ext HX1.out).ext HO.out.ext).sub (by decide)))
   have HRE : Hid (R = if (sheetFault (ps.map Prod.fst)).1 = 0 then (0, ps.map Prod.fst) else ((sheetFault (ps.map Prod.fst)).1, [])) := Lib.hid (by rw [HR.out]; unfold readSh; rw [HPS.out])
   have HXR := Lib.hid (HX1.out.then HO.out.ext)
   have HRD := Lib.hid hrd
   have HSM := Lib.hid hsm
   obtain ⟨aq, cq, hqf, _⟩ := id hrd
   subst hqf
   generalize (ps.map Prod.fst) = rs at HSF HRE HRD HSM
   clear hrd hsm hc hlt hj hLj HPS
   by_cases hz : (sheetFault rs).1 = 0
   ·rw [if_pos hz] at HRE
    go_wp2_with fail
    refine HSF.out.mono ?_
    rintro e w5 ⟨ev, rfl, he, ho5⟩
    obtain rfl := he.zero hz
    have HX5 := Lib.hid ho5
    clear he ho5 hz
    go_wp2_with fail
    go_ret2
    exact ⟨_, _, -1, rfl, by rw [HRE.out]; exact ErrAt.nil _ _ _, HXR.out.then HX5.out, by rw [HRE.out]; exact HRD.out.ext HX5.out, by rw [HRE.out]; exact HSM.out⟩
   ·rw [if_neg hz] at HRE
    go_wp2_with fail
    refine HSF.out.mono ?_
    rintro e w5 ⟨ev, rfl, he, ho5⟩
    obtain ⟨t1, q1, rfl⟩ := he.some hz
    have HE5 := Lib.hid he
    have HX5 := Lib.hid ho5
    clear he ho5 hz
    go_wp2_with fail
    go_ret2
    exact ⟨_, _, (sheetFault rs).2, rfl, by rw [HRE.out]; exact HE5.out, HXR.out.then HX5.out, by rw [HRE.out]; exact RdR.nil _, by rw [HRE.out]; intro r hr; cases hr⟩
end Go.Proofs.YtnmhaipjfpongacGreatDoor

namespace Go.Proofs.YtnmhaipjfpongacGreatDoor
open Go.ChangeShapes Go.WideShapes Go.ChangeAt Go.RowKit

section
variable {w0 w : World} {D : Nat → Prop} {n : Nat} {sv lv : Value} {many : Nat} {T O L : FL} {l : List Rule}
structure SheetGo (w wr : World) (v2 : Value) (l : List Rule) (k : Nat) (ps : List (Rule × Option Addr × Nat × Nat)) : Prop where
 ext : Ext w wr
 fst : ps.map Prod.fst = l
 row : wr.ownsRow w.heap.size 55 4 v2 l.length (ps.flatMap encR)
 new : ∀ j p, ps[j]? = some p → j < k → Row w.heap.size wr (SV p.2) p.1.ins
 old : ∀ j p, ps[j]? = some p → k ≤ j → Rd S w (SV p.2) p.1.ins
theorem SheetGo.step {wr w5 : World} {g m c2 k : Nat} {l : List Rule} {ps : List (Rule × Option Addr × Nat × Nat)} {r : Rule} {u u' : Option Addr × Nat × Nat} (h : SheetGo w wr (.slice (some ⟨g, 0, none⟩) m c2) l k ps) (hp : ps[k]? = some (r, u)) (ho : Ext wr w5) (hr : Row wr.heap.size w5 (SV u') r.ins) :
  SheetGo w (w5.setCell ⟨g, k * 4 + 3, none⟩ (SV u')) (.slice (some ⟨g, 0, none⟩) m c2) l (k + 1) (ps.set k (r, u')) := by
 have hg := h.row.lt g rfl
 have hs := h.ext.size
 have hrow5 := ho.row h.row (fun _ _ h => h)
 have hset : Only (fun i => i = g) w5 (w5.setCell ⟨g, k * 4 + 3, none⟩ (SV u')) := Only.set (p := fun i => i = g) (SV u') rfl
 have hl : l[k]? = some r := by rw [← h.fst, List.getElem?_map, hp]; rfl
 have hm : m = l.length := by
  rcases h.row.2 with ⟨h1, _⟩ | ⟨_, _, _, h1, _⟩
  ·cases h1
  ·cases h1; rfl
 subst hm
 refine ⟨(h.ext.then ho).trans hset (fun _ _ h => h) (fun i hi e => by have e : i = g := e; omega), ?_, ?_, fun j p hj hlt => ?_, fun j p hj hle => ?_⟩
 ·rw [List.map_set, h.fst]
  exact List.ext_getElem? fun i => by
   by_cases e : i = k
   ·subst e; rw [hl]; simp [(List.getElem?_eq_some_iff.1 hl).1]
   ·rw [List.getElem?_set_ne (Ne.symm e)]
 ·have := (hrow5.stored (k * 4 + 3) (SV u')).1
  rwa [flat_setY (enc := encR) encR_len (x' := (r, u')) (by decide) hp rfl] at this
 ·by_cases e : j = k
  ·subst e
   have hjl := (List.getElem?_eq_some_iff.1 hp).1
   rw [List.getElem?_set_self hjl] at hj
   cases hj
   exact hset.row (World.ownsRow.mono hr hs) (fun i e1 e2 => by have e2 : i = g := e2; have := (hr.lt i e1).1; omega)
  ·rw [List.getElem?_set_ne (Ne.symm e)] at hj
   have h1 := ho.row (h.new j p hj (by omega)) (fun _ _ h => h)
   exact hset.row h1 (fun i e1 e2 => Row.apart h1 hrow5 e1 (by have e2 : i = g := e2; rw [e2]; rfl))
 ·rw [List.getElem?_set_ne (by omega)] at hj
  exact h.old j p hj (by omega)
def RetRulesO (w : World) (l : List Rule) (e : Ending) (w' : World) : Prop := ∃ v, e = .returned v ∧ RulesIn (fun i => w.heap.size ≤ i) w' v l ∧ Ext w w'
set_option maxRecDepth 100000 in
set_option maxHeartbeats 8000000 in
theorem yardSheet_any (h : YardAt w0 w D n sv lv many T O L l) (hl : l.length ≤ 40) (hs : ∀ r ∈ l, RuleSm 900000 r) : Calls Tryz.prog 201 #[PTR (n + 6)] w (RetRulesO w l) := by
 have HRD := Lib.hid h.rules.rd
 have k2 := (h.cell 2).trans (rfl : _ = some lv)
 have HS := Lib.hid hs
 have HL := Lib.hid hl
 have hlz : (l.length : Int) ≤ 40 := by omega
 obtain ⟨al, cl, hlv, _⟩ := h.rules.rd
 subst hlv
 clear h hs
 go_enter Tryz.func201, Tryz.ntmps201
 go_wp2_with fail
 refine (cloneRules_any w _ l HRD.out (by have := HL.out; omega)).mono ?_
 rintro e w2 ⟨v2, ps, rfl, hps, hr2, ht2, ho2⟩
 have HGO : Hid (SheetGo w w2 v2 l 0 ps) := Lib.hid ⟨ho2, hps, hr2, fun j p _ h => absurd h (Nat.not_lt_zero _), fun j p hp _ => ht2 p (List.mem_of_getElem? hp)⟩
 obtain ⟨a2, c2, rfl⟩ : ∃ a2 c2, v2 = .slice a2 l.length c2 := by
  rcases hr2.2 with ⟨h1, h2⟩ | ⟨g, cap', cur, h1, _⟩
  ·exact ⟨none, 0, by rw [h1, h2]⟩
  ·exact ⟨_, _, h1⟩
 clear hps hr2 ht2 ho2 k2
 go_wp2_with fail
 go_loopw [4, 12] (fun _ i wr => ∃ (k : Nat) (ps : List (Rule × Option Addr × Nat × Nat)), k ≤ l.length ∧ i = .int .i64 k ∧ Hid (SheetGo w wr (.slice a2 l.length c2) l k ps)) (fun _ i _ => l.length - (intOf i).toNat)
 case atStart => exact ⟨0, ps, Nat.zero_le _, rfl, HGO⟩
 case round =>
  clear HGO
  obtain ⟨k, ps, hk, rfl, HGO⟩ := hrel
  by_cases hlt : k < l.length
  ·have hltz : (k : Int) < (l.length : Int) := by omega
   have hk0 : (0 : Int) ≤ (k : Int) := by omega
   have hpl : ps.length = l.length := by rw [← HGO.out.fst, List.length_map]
   obtain ⟨g, rfl⟩ : ∃ g, a2 = some ⟨g, 0, none⟩ := by
    rcases HGO.out.row.2 with ⟨_, h2⟩ | ⟨g, cap', cur, h1, _⟩
    ·omega
    ·cases h1; exact ⟨g, rfl⟩
   obtain ⟨p, hp⟩ : ∃ p, ps[k]? = some p := ⟨_, List.getElem?_eq_getElem (by omega)⟩
   obtain ⟨r, au, nu, cu⟩ := p
   have hold : Rd S w (.slice au nu cu) r.ins := HGO.out.old k _ hp (Nat.le_refl _)
   have hrl : r ∈ l := by
    have : (ps.map Prod.fst)[k]? = some r := by rw [List.getElem?_map, hp]; rfl
    rw [HGO.out.fst] at this
    exact List.mem_of_getElem? this
   have c3 : wr.cell? ⟨g, k * 4 + 3, none⟩ = some (.slice au nu cu) := (HGO.out.row.cellAt (k * 4 + 3) (by omega)).trans (flat_at encR_len ps k _ hp 3 _ rfl)
   have HP := Lib.hid hp
   have HK := Lib.hid hlt
   obtain ⟨_, _, hu, _⟩ := id hold
   have hnu : nu = r.ins.length := by cases hu; rfl
   subst hnu
   have HOR := Lib.hid (hold.ext HGO.out.ext)
   have HIL : Hid (r.ins.length ≤ 1000000) := Lib.hid (by have := (HS.out r hrl).many; omega)
   have HC3 := Lib.hid c3
   clear hp hold hu hpl hk hlt hrl
   go_wp2_with fail
   refine (cloneRow_any _ _ r.ins HOR.out HIL.out).mono ?_
   rintro e w5 ⟨v5, rfl, ho5, hr5⟩
   obtain ⟨a5, c5, rfl, _, _, _⟩ := hr5.rd
   have HST := Lib.hid (HGO.out.step (u' := (a5, r.ins.length, c5)) HP.out ho5 hr5)
   have hfz : w5.frozen? ⟨g, k * 4 + 3, none⟩ = false := (ho5.row HGO.out.row (fun _ _ h => h)).frozenAt (k * 4 + 3)
   have c35 := ho5.cellOf HC3.out (fun h => h)
   clear hr5 ho5 c3
   go_wp2_with fail
   go_roundw
   case rel => exact ⟨k + 1, _, HK.out, by go_num, HST⟩
   case measure => have := HK.out; simp [intOf]; omega
  ·have hltz : ¬ (k : Int) < (l.length : Int) := by omega
   have hg := HGO.out
   have hpl : ps.length = l.length := by rw [← hg.fst, List.length_map]
   have HEND : Hid (RulesIn (fun i => w.heap.size ≤ i) wr (.slice a2 l.length c2) l) := Lib.hid ⟨ps, hg.fst, World.ownsRow.mono hg.row (Nat.zero_le _), fun i e => (hg.row.lt i e).1, fun p hp => by
    obtain ⟨j, hj⟩ := List.getElem?_of_mem hp
    have h1 := hg.new j p hj (by have := (List.getElem?_eq_some_iff.1 hj).1; omega)
    exact ⟨World.ownsRow.mono h1 (Nat.zero_le _), fun i e => (h1.lt i e).1⟩⟩
   clear hg hpl hlt
   go_wp2_with fail
   go_ret
   exact ⟨_, rfl, HEND.out, HGO.out.ext⟩
end
end Go.Proofs.YtnmhaipjfpongacGreatDoor

namespace Go.Proofs.YtnmhaipjfpongacGreatDoor
open Go.ChangeShapes Go.WideShapes Go.ChangeAt Go.RowKit

theorem replace_any (w : World) (x : B) (p q : UInt8) (hx : x.length ≤ 900000) (hm : HasMax w) : Calls Tryz.prog 272 #[S x, S [p], S [q]] w (RetE (S (Lib.replaceAll x [p] [q])) w) := by
 obtain ⟨m, hm⟩ := hm
 have hk : Lib.countB ⟨x.toArray⟩ ⟨#[p]⟩ ≤ 900001 := Nat.le_trans (Lib.count_le x [p]) (by omega)
 refine (Tryz.strings_ReplaceAll ⟨x.toArray⟩ ⟨#[p]⟩ ⟨#[q]⟩ m w (by simp [ByteArray.size]; omega) hm (by simp [ByteArray.size]) (by simp [ByteArray.size]; omega)).mono ?_
 rintro e w' ⟨rfl, hb⟩
 exact ⟨rfl, Only.of_below hb⟩
set_option maxRecDepth 100000 in
set_option maxHeartbeats 4000000 in
theorem joined_any (w : World) (v : Value) (l : List B) (hv : Rd S w v l) (hn : l.length ≤ 1000000) (hl : (Lib.join l [32]).length ≤ 140737488355328) : Calls Tryz.prog 198 #[v] w (RetE (S (joinedP l)) w) := by
 have HJ := Lib.hid (joinX_any w v l [32] hv hn hl)
 obtain ⟨a, cap, rfl, _, _, _⟩ := hv
 by_cases he : l = []
 ·have HP : Hid (joinedP l = [110, 111, 116, 104, 105, 110, 103]) := Lib.hid (by unfold joinedP; rw [if_pos he])
  have hz : ((l.length : Int) == 0) = true := by rw [he]; rfl
  clear he hl hn
  go_enter Tryz.func198, Tryz.ntmps198
  go_wp2_with fail
  go_ret
  exact ⟨by rw [HP.out]; rfl, Only.refl _ _⟩
 ·have HP : Hid (joinedP l = Lib.join l [32]) := Lib.hid (by unfold joinedP; rw [if_neg he])
  have hz : ((l.length : Int) == 0) = false := beq_eq_false_iff_ne.2 (by have := List.length_pos_iff.2 he; omega)
  clear he hl hn
  go_enter Tryz.func198, Tryz.ntmps198
  go_wp2_with fail
  refine HJ.out.mono ?_
  rintro e w1 ⟨rfl, ho⟩
  have HX := Lib.hid ho
  clear ho
  go_wp2_with fail
  go_ret
  exact ⟨by rw [HP.out]; rfl, HX.out⟩
theorem shown_any (w : World) (x : B) (hx : x.length ≤ 900000) (hm : HasMax w) : Calls Tryz.prog 275 #[S x] w (RetE (S (shownP x)) w) := by
 have HR := Lib.hid (replace_any w x 10 59 hx hm)
 clear hx hm
 go_enter Tryz.func275, Tryz.ntmps275
 go_wp2_with fail
 refine HR.out.mono ?_
 rintro e w1 ⟨rfl, ho⟩
 have HX := Lib.hid ho
 clear ho
 go_wp2_with fail
 go_ret
 exact ⟨rfl, HX.out⟩
structure ScAt (w0 w : World) (D : Nat → Prop) (n pb : Nat) (y : YS) : Prop where
 at_ : ∃ sv lv, YardAt w0 w D n sv lv 8 y.x.T y.x.O y.x.L y.l
 ok : YSok y
 p : w.heap[pb]? = some (.cells #[PTR (n + 6)] 217 (0, 0))
 pd : ¬ D pb
def ScTo (w0 w : World) (D : Nat → Prop) (n pb : Nat) (y : YS) (w' : World) : Prop := ∃ D2, ScAt w0 w' D2 n pb y ∧ Moved D w w' D2
abbrev PVS (w : World) (P : Nat → Addr) : Prop := PV w P [0, 1, 2, 3, 4, 5, 6, 7, 8, 9, 10, 11]
def RetPl (P : Nat → Addr) (w0 w : World) (D : Nat → Prop) (n pb : Nat) (R : Act1) (e : Ending) (w' : World) : Prop :=
 ∃ sv ev at_, e = .returned (.tuple #[S sv, ev]) ∧ ErrAt w' P (R.2.2, at_) ev ∧ (R.2.2 = 0 → sv = R.2.1) ∧ ScTo w0 w D n pb R.1 w'
section
variable {w0 w w' w2 : World} {D D2 : Nat → Prop} {n pb : Nat} {y y' : YS} {P : Nat → Addr} {R : Act1}
theorem ScAt.ext (h : ScAt w0 w D n pb y) : Ext w0 w := by
 obtain ⟨sv, lv, hy⟩ := h.at_
 exact hy.ext
theorem ScAt.grow (h : ScAt w0 w D n pb y) (ho : Ext w w') : ScAt w0 w' D n pb y := by
 obtain ⟨sv, lv, hy⟩ := h.at_
 exact ⟨⟨sv, lv, hy.grow ho⟩, h.ok, ho.heapOf h.p (fun h => h), h.pd⟩
theorem ScAt.to {sv lv : Value} (h : ScAt w0 w D n pb y) (hy : YardAt w0 w' D2 n sv lv 8 y'.x.T y'.x.O y'.x.L y'.l) (hm : Moved D w w' D2) (hok : YSok y') : ScTo w0 w D n pb y' w' :=
 ⟨D2, ⟨⟨sv, lv, hy⟩, hok, hm.1.heapOf h.p h.pd, fun k => (hm.2 pb k).elim h.pd (fun k => by have := lt_of_heap h.p; omega)⟩, hm⟩
theorem ScTo.same (h : ScAt w0 w' D n pb y) (ho : Ext w w') : ScTo w0 w D n pb y w' := ⟨D, h, Moved.ext ho⟩
theorem ScTo.grow (h : ScTo w0 w D n pb y w') (ho : Ext w' w2) : ScTo w0 w D n pb y w2 := by
 obtain ⟨D2, h1, h2⟩ := h
 exact ⟨D2, h1.grow ho, h2.1.ext ho, h2.2⟩
theorem ScTo.from (h : ScTo w0 w' D n pb y w2) (ho : Ext w w') : ScTo w0 w D n pb y w2 := by
 obtain ⟨D2, h1, h2⟩ := h
 exact ⟨D2, h1, Only.after ho h2.1, fun i e => (h2.2 i e).imp id (fun e => Nat.le_trans ho.size e)⟩
theorem ScAt.cell (h : ScAt w0 w D n pb y) : w.cell? ⟨pb, 0, none⟩ = some (PTR (n + 6)) := (cell_of_heap h.p 0).trans rfl
theorem PV.two {w : World} {P : Nat → Addr} (h : PVS w P) : PV w P [1, 2, 3, 4, 5, 6, 7, 8, 9, 10, 11] := h.sub (by decide)
set_option maxRecDepth 100000 in
set_option maxHeartbeats 8000000 in
theorem playerShow_any (h : ScAt w0 w D n pb y) (p : B) (hV : PVS w0 P) : Calls Tryz.prog 274 #[PTR pb, S p] w (RetPl P w0 w D n pb (showS y p)) := by
 have HH := Lib.hid h
 have HV := Lib.hid (hV.ext h.ext)
 have c0 := h.cell
 obtain ⟨sv, lv, hy⟩ := h.at_
 have HOUT := Lib.hid (yardOut_any hy)
 have HTRE := Lib.hid (yardTree_any hy)
 have HGO := Lib.hid (treeGet_any w (n + 5) (n + 4) y.x.O p hy.out)
 have HGT := Lib.hid (treeGet_any w (n + 3) (n + 2) y.x.T p hy.tree)
 have hbo := h.ok.fo.bytes p
 have hbt := h.ok.ft.bytes p
 obtain ⟨R, hR⟩ : ∃ R, R = showS y p := ⟨_, rfl⟩
 rw [← hR]
 have HR := Lib.hid hR
 unfold showS at hR
 clear h hV hy
 cases ho : y.x.O.lookup p with
 | some s =>
  rw [ho] at HGO hbo hR
  have HRE : Hid (R = (y, shownP s, 0)) := Lib.hid hR
  have HSH := Lib.hid (shown_any w s (by have := hbo s rfl; omega) HV.out.max)
  have HGO : Hid (Calls Tryz.prog 42 #[PTR (n + 5), S p] w fun e w' => e = .returned (.tuple #[S s, .bool true]) ∧ w = w') := HGO
  clear hbo hbt hR ho
  go_enter Tryz.func274, Tryz.ntmps274
  go_wp2_with fail
  refine HOUT.out.mono ?_
  rintro e w1 ⟨rfl, rfl⟩
  go_wp2_with fail
  refine HGO.out.mono ?_
  rintro e w1 ⟨rfl, rfl⟩
  go_wp2_with fail
  refine HSH.out.mono ?_
  rintro e w2 ⟨rfl, ho⟩
  have HX := Lib.hid ho
  clear ho
  go_wp2_with fail
  go_ret2
  exact ⟨_, _, -1, rfl, by rw [HRE.out]; exact ErrAt.nil _ _ _, fun _ => by rw [HRE.out], by rw [HRE.out]; exact ScTo.same (HH.out.grow HX.out) HX.out⟩
 | none =>
  rw [ho] at HGO hR
  have HGO : Hid (Calls Tryz.prog 42 #[PTR (n + 5), S p] w fun e w' => e = .returned (.tuple #[S [], .bool false]) ∧ w = w') := HGO
  cases ht : y.x.T.lookup p with
  | some s =>
   rw [ht] at HGT hbt hR
   have HRE : Hid (R = (y, shownP s, 0)) := Lib.hid hR
   have HSH := Lib.hid (shown_any w s (by have := hbt s rfl; omega) HV.out.max)
   have HGT : Hid (Calls Tryz.prog 42 #[PTR (n + 3), S p] w fun e w' => e = .returned (.tuple #[S s, .bool true]) ∧ w = w') := HGT
   clear hbo hbt hR ho ht
   go_enter Tryz.func274, Tryz.ntmps274
   go_wp2_with fail
   refine HOUT.out.mono ?_
   rintro e w1 ⟨rfl, rfl⟩
   go_wp2_with fail
   refine HGO.out.mono ?_
   rintro e w1 ⟨rfl, rfl⟩
   go_wp2_with fail
   refine HTRE.out.mono ?_
   rintro e w1 ⟨rfl, rfl⟩
   go_wp2_with fail
   refine HGT.out.mono ?_
   rintro e w1 ⟨rfl, rfl⟩
   go_wp2_with fail
   refine HSH.out.mono ?_
   rintro e w2 ⟨rfl, ho⟩
   have HX := Lib.hid ho
   clear ho
   go_wp2_with fail
   go_ret2
   exact ⟨_, _, -1, rfl, by rw [HRE.out]; exact ErrAt.nil _ _ _, fun _ => by rw [HRE.out], by rw [HRE.out]; exact ScTo.same (HH.out.grow HX.out) HX.out⟩
  | none =>
   rw [ht] at HGT hR
   have HRE : Hid (R = (y, [], 6)) := Lib.hid hR
   have HGT : Hid (Calls Tryz.prog 42 #[PTR (n + 3), S p] w fun e w' => e = .returned (.tuple #[S [], .bool false]) ∧ w = w') := HGT
   have hE := HV.out.errs.var 5 _ (by decide) rfl
   clear hbo hbt hR ho ht
   go_enter Tryz.func274, Tryz.ntmps274
   go_wp2_with fail
   refine HOUT.out.mono ?_
   rintro e w1 ⟨rfl, rfl⟩
   go_wp2_with fail
   refine HGO.out.mono ?_
   rintro e w1 ⟨rfl, rfl⟩
   go_wp2_with fail
   refine HTRE.out.mono ?_
   rintro e w1 ⟨rfl, rfl⟩
   go_wp2_with fail
   refine HGT.out.mono ?_
   rintro e w1 ⟨rfl, rfl⟩
   go_wp2_with fail
   go_quiet (fail)
   go_wp2_with fail
   go_ret2
   exact ⟨[], _, -1, rfl, by rw [HRE.out]; exact .inr (.inl ⟨Nat.succ_ne_zero _, rfl, rfl⟩), (fun h => by rw [HRE.out] at h; cases h), by rw [HRE.out]; exact ScTo.same (HH.out.grow (Only.drewN _ _ _)) (Only.drewN _ _ _)⟩
set_option maxRecDepth 100000 in
set_option maxHeartbeats 8000000 in
theorem playerPut_any (h : ScAt w0 w D n pb y) (s : B) (hs : s.length ≤ 100000) (hV : PVS w0 P) : Calls Tryz.prog 204 #[PTR pb, S s] w (RetPl P w0 w D n pb (putS y s)) := by
 have HH := Lib.hid h
 have HV := Lib.hid (fun W (hW : Ext w W) => hV.ext (h.ext.then hW))
 have c0 := h.cell
 have HOK := Lib.hid h.ok
 obtain ⟨sv, lv, hy⟩ := h.at_
 have HY := Lib.hid hy
 have HCU := Lib.hid (cutD_any w 32 s (by omega) (HV.out w (Only.refl _ _)).max)
 obtain ⟨R, hR⟩ : ∃ R, R = putS y s := ⟨_, rfl⟩
 rw [← hR]
 unfold putS at hR
 have hln := cut1_len 32 s
 generalize cut1 32 s = q at HCU hR hln
 obtain ⟨nm, tx, is⟩ := q
 have HR := Lib.hid hR
 have hnm : nm.length ≤ 100000 := Nat.le_trans hln.1 hs
 have htx : tx.length ≤ 100000 := Nat.le_trans hln.2 hs
 have HCK := Lib.hid (fun W (hW : Ext w W) => pathC_any W P nm (by omega) (HV.out W hW).max ((HV.out W hW).errs.sub (by decide)))
 have HD2 : Hid (D (n + 2)) := Lib.hid (hy.own _ (by omega) (by omega))
 have HNL : Hid (nm.length ≤ 999999 ∧ tx.length ≤ 900000) := Lib.hid ⟨by omega, by omega⟩
 clear h hV hy hln hnm htx hs hR
 cases is
 case false =>
  have HRE : Hid (R = (y, [], 1)) := Lib.hid (by rw [HR.out, if_pos (.inl rfl)])
  have HE0 := Lib.hid (fun W (hW : Ext w W) => (HV.out W hW).errs.var 0 _ (by decide) rfl)
  go_enter Tryz.func204, Tryz.ntmps204
  go_wp2_with fail
  refine HCU.out.mono ?_
  rintro e w1 ⟨rfl, ho⟩
  have HX := Lib.hid ho
  have hE := HE0.out _ ho
  clear ho
  go_wp2_with fail
  go_quiet (fail)
  go_wp2_with fail
  go_ret2
  exact ⟨[], _, -1, rfl, by rw [HRE.out]; exact .inr (.inl ⟨Nat.succ_ne_zero _, rfl, rfl⟩), (fun h => by rw [HRE.out] at h; cases h), by rw [HRE.out]; exact ScTo.same (HH.out.grow (HX.out.thenDrewN _)) (HX.out.thenDrewN _)⟩
 case true =>
  by_cases hk : pathOk nm = false
  case pos =>
   have HRE : Hid (R = (y, [], 1)) := Lib.hid (by rw [HR.out, if_pos (.inr hk)])
   have HE0 := Lib.hid (fun W (hW : Ext w W) => (HV.out W hW).errs.var 0 _ (by decide) rfl)
   rw [if_pos hk] at HCK
   have HCK : Hid (∀ W, Ext w W → Calls Tryz.prog 112 #[S nm] W (RetE (errV (P 3)) W)) := HCK
   clear hk
   go_enter Tryz.func204, Tryz.ntmps204
   go_wp2_with fail
   refine HCU.out.mono ?_
   rintro e w1 ⟨rfl, ho⟩
   have HX1 := Lib.hid ho
   clear ho
   go_wp2_with fail
   refine (HCK.out _ HX1.out).mono ?_
   rintro e w2 ⟨rfl, ho⟩
   have HX := Lib.hid (HX1.out.then ho)
   have hE := HE0.out _ HX.out
   clear ho
   go_wp2_with fail
   go_quiet (fail)
   go_wp2_with fail
   go_ret2
   exact ⟨[], _, -1, rfl, by rw [HRE.out]; exact .inr (.inl ⟨Nat.succ_ne_zero _, rfl, rfl⟩), (fun h => by rw [HRE.out] at h; cases h), by rw [HRE.out]; exact ScTo.same (HH.out.grow (HX.out.thenDrewN _)) (HX.out.thenDrewN _)⟩
  case neg =>
   have HRE : Hid (R = (⟨⟨putT y.x.T nm (hiddenP tx), y.x.O, y.x.L⟩, y.l⟩, okB, putCode y.x.T nm (hiddenP tx))) := Lib.hid (by rw [HR.out, if_neg (by simp [hk])])
   have HPK : Hid (pathOk nm = true) := Lib.hid (by simpa using hk)
   rw [if_neg hk] at HCK
   have HCK : Hid (∀ W, Ext w W → Calls Tryz.prog 112 #[S nm] W (RetE .nilIface W)) := HCK
   have HTR := Lib.hid (fun W (hW : Ext w W) => yardTree_any (HY.out.grow hW))
   have HRP := Lib.hid (fun W (hW : Ext w W) => replace_any W tx 59 10 HNL.out.2 (HV.out W hW).max)
   have HPT := Lib.hid (fun W (hW : Ext w W) => (HY.out.grow hW).put P HOK.out.ft ((HV.out W hW).errs.sub (by decide)) (HV.out W hW).max nm (hiddenP tx) HNL.out.1)
   have HRP : Hid (∀ W, Ext w W → Calls Tryz.prog 272 #[S tx, S [59], S [10]] W (RetE (S (hiddenP tx)) W)) := HRP
   have HC0 := Lib.hid (fun W (hW : Ext w W) => (HH.out.grow hW).cell)
   have HOKN : Hid (YSok ⟨⟨putT y.x.T nm (hiddenP tx), y.x.O, y.x.L⟩, y.l⟩) := Lib.hid ⟨HOK.out.of, HOK.out.ft.put _ _ (pathOk_len HPK.out), HOK.out.fo⟩
   generalize hiddenP tx = hd at HRP HPT HRE HOKN
   clear hk c0
   go_enter Tryz.func204, Tryz.ntmps204
   go_wp2_with fail
   refine HCU.out.mono ?_
   rintro e w1 ⟨rfl, ho⟩
   have HX1 := Lib.hid ho
   clear ho
   go_wp2_with fail
   refine (HCK.out _ HX1.out).mono ?_
   rintro e w2 ⟨rfl, ho⟩
   have HX2 := Lib.hid (HX1.out.then ho)
   have c0 := HC0.out _ HX2.out
   clear ho
   go_wp2_with fail
   refine (HTR.out _ HX2.out).mono ?_
   rintro e w3 ⟨rfl, rfl⟩
   go_wp2_with fail
   refine (HRP.out _ HX2.out).mono ?_
   rintro e w3 ⟨rfl, ho⟩
   have HX3 := Lib.hid (HX2.out.then ho)
   clear ho
   go_wp2_with fail
   refine (HPT.out _ HX3.out).mono ?_
   rintro e w4 ⟨rfl, hy4, ho4⟩
   have HTO : Hid (ScTo w0 w D n pb ⟨⟨putT y.x.T nm hd, y.x.O, y.x.L⟩, y.l⟩ w4) := Lib.hid (ScAt.to (y' := ⟨⟨putT y.x.T nm hd, y.x.O, y.x.L⟩, y.l⟩) HH.out hy4 ⟨Only.after HX3.out (ho4.mono (fun i _ e => by rw [e]; exact HD2.out)), fun _ h => .inl h⟩ HOKN.out)
   clear hy4 ho4
   go_wp2_with fail
   go_ret2
   exact ⟨okB, _, -1, rfl, by rw [HRE.out]; exact ErrAt.errC _ _ _, fun _ => by rw [HRE.out], by rw [HRE.out]; exact HTO.out⟩
end
end Go.Proofs.YtnmhaipjfpongacGreatDoor

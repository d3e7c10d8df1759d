/- CacheActs, whole: for every input the law returns true and its arguments read as before. Beyond the row's own: no condition; the row lists package-level variables, the card ties them. -/
import Derived.Test.YtnmhaipjfpongaaDoorK2
import Derived.Test.YtnmhaipjfpongaaDoorL1
import Derived.Test.YtnmhaipjfpongaaDoorA1
import Derived.Test.YtnmhaipjfpongaaDoorCards
import Derived.Test.YtnmhaipjfpongaaDoorTie
import Derived.LaidMore
import Derived.OpenShut
import Derived.Stop.Joined
import Derived.SevenTiedAt
namespace Go.Proofs.YtnmhaipjfpongaaDoor.cacheActsDone
open Go.ChangeShapes Go.WideShapes Go.ChangeAt Go.RowKit

theorem own : ownKnob Tryd.prog.godebug = none := by kernel_rfl
theorem laidOut : laidOutB Tryd.prog = true := by kernel_rfl
theorem cellsAsk : Tryd.prog.cellsOf 31 = 3 := by kernel_rfl

theorem sents {W : World} (h : laidMetH Tryd.prog Rows.cacheActsRow.laid W) : ∃ p, Sents W p := by
  have h' : laidMet Tryd.prog (Rows.cacheActsRow.laid.filter fun x => x.2.handleName?.isNone) W ∧ handlesMet Tryd.prog (Rows.cacheActsRow.laid.filter fun x => x.2.handleName?.isSome) W := h
  exact sents_of h'.1 h'.2 (by decide +kernel) (by decide +kernel) (List.mem_cons_self ..)

set_option maxHeartbeats 1000000 in
set_option maxRecDepth 100000 in
theorem walkLong (w : World) (z : Int) (a : Option Addr) (len cap : Nat) (h : 100 < len) (hlen : len ≤ 9223372036854775807) :
    Calls Tryd.prog 5 #[.int .i64 z, .slice a len cap] w fun e w' => e = .returned (.bool true) ∧ Ext w w' := by
  have h3 : 100 < (len : Int) := by omega
  clear h
  go_enter Tryd.func5, Tryd.ntmps5
  go_wp2_with (go_at_call 11; refine (cached_any w).mono ?_; rintro e w1 ⟨rfl, hw1⟩)
  go_ret
  exact ⟨rfl, hw1⟩

set_option maxHeartbeats 1000000 in
set_option maxRecDepth 100000 in
theorem walkBound (w : World) (p : Nat → Addr) (hs : Sents w p) (z : Int) (a : Option Addr) (len cap : Nat) (h : z < 1 ∨ 100 < z) (hlen : len ≤ 100) :
    Calls Tryd.prog 5 #[.int .i64 z, .slice a len cap] w fun e w' => e = .returned (.bool true) ∧ Ext w w' := by
  have h3 : ¬ 100 < (len : Int) := by omega
  have HS := Lib.hid hs
  have HH := Lib.hid h
  clear hs
  by_cases h1 : z < 1
  all_goals
    first | have h2 : 100 < z := (by omega) | skip
    clear h
    go_enter Tryd.func5, Tryd.ntmps5
    go_wp2_with (first | (go_at_call 11; refine (cached_any w).mono ?_; rintro e w1 ⟨rfl, hw1⟩; have HW1 := Lib.hid hw1; have HS1 := Lib.hid (HS.out.ext hw1); clear hw1) | (go_at_call 12; refine (cacheNew_bad z _ p HS1.out HH.out).mono ?_; rintro e w2 ⟨rfl, hd⟩; have HW2 := Lib.hid (HW1.out.ext hd.ext); have HS2 := Lib.hid (HS1.out.ext hd.ext); clear hd) | (go_at_call 21; refine (coded2_bound _ p HS2.out).mono ?_; rintro e w3 ⟨rfl, h3⟩; have HW3 := Lib.hid (HW2.out.ext h3); clear h3))
    go_ret
    exact ⟨rfl, HW3.out⟩

/-- An argument of type []Ask, read as a list. -/
theorem open_asks {H : Type} {enc : TypeId × Value → H} {w : World} {base : Nat} {spare : Nat → Bool} {held : Bool} {fuel : Nat} {a : Option Addr} {len cap : Nat} {x : DataW H × List MemPlace}
    (h : DataW.trod enc Tryd.prog w base spare held fuel 22 [.slice a len cap] = some x) : ∃ l, l.length = len ∧ Asks w (.slice a len cap) l := by
  rcases open_slice_fields Tryd.underlying22 Tryd.underlying31 (by kernel_rfl) cellsAsk h with ⟨h0, _⟩ | ⟨ad, len', cap', m, D, Pl, hcs, _, hl, hm, hmm, _, hi⟩
  · cases h0
    exact ⟨[], rfl, none, 0, rfl, Nat.le_refl _, Nat.zero_le _, fun h => absurd rfl h⟩
  · cases hcs
    have key : ∀ i, ∃ y : Bool × B × B, i < len → w.cell? (ad.add (i * 3)) = some (.bool y.1) ∧ w.cell? (ad.add (i * 3 + 1)) = some (S y.2.1) ∧ w.cell? (ad.add (i * 3 + 2)) = some (S y.2.2) := by
      intro i
      by_cases hlt : i < len
      · have him : i < m := by rw [hmm]; split <;> omega
        obtain ⟨ys, n, _, _, _, hf⟩ := hi i him
        obtain ⟨v0, y0, c0, _, t0⟩ := hf 0 _ rfl
        obtain ⟨v1, y1, c1, _, t1⟩ := hf 1 _ rfl
        obtain ⟨v2, y2, c2, _, t2⟩ := hf 2 _ rfl
        obtain ⟨p, e0, _⟩ := DataW.trod_bool Tryd.underlying4 t0
        obtain ⟨k, e1, _⟩ := DataW.trod_string Tryd.underlying9 t1
        obtain ⟨s, e2, _⟩ := DataW.trod_string Tryd.underlying9 t2
        cases e0; cases e1; cases e2
        exact ⟨(p, k.data.toList, s.data.toList), fun _ => ⟨c0, c1, c2⟩⟩
      · exact ⟨(false, [], []), fun h => absurd h hlt⟩
    refine ⟨(List.range len).map fun i => Classical.choose (key i), by simp, some ad, cap, by simp, by simpa using hl, hm, fun hne => ?_⟩
    have hpos : 0 < len := by
      rcases Nat.eq_zero_or_pos len with h | h
      · subst h; simp at hne
      · exact h
    obtain ⟨b, off, spot⟩ := ad
    have hs : spot = none := by
      have := (Classical.choose_spec (key 0) hpos).1
      simpa [Addr.add] using World.cell?_spot this
    subst hs
    refine ⟨b, off, rfl, fun i p k s hx => ?_⟩
    have hlt : i < len := by have := (List.getElem?_eq_some_iff.1 hx).1; simpa using this
    have he : Classical.choose (key i) = (p, k, s) := by
      rw [List.getElem?_map, List.getElem?_range hlt] at hx
      simpa using hx
    obtain ⟨h0, h1, h2⟩ := Classical.choose_spec (key i) hlt
    rw [he] at h0 h1 h2
    have ea : ∀ n, (⟨b, off, none⟩ : Addr).add n = ⟨b, off + n, none⟩ := fun n => by
      unfold Addr.add
      split
      · subst_vars; rfl
      · rfl
    rw [ea] at h0 h1 h2
    exact ⟨h0, h1, h2⟩

/-- The door's own heap meets the condition. -/
theorem door_met (os : Os) (args : Array Value) : laidMetH Tryd.prog Rows.cacheActsRow.laid ((World.doorLaid Tryd.prog 400 os).forCall (fun _ _ => 0) ⟨#[], args, []⟩).memory :=
  laidMetH_of_parts3 (fuel := 8) (laidMet_of_run' 8 (by kernel_rfl) (by kernel_rfl)) (by kernel_rfl) (by kernel_rfl)

set_option maxRecDepth 100000 in
theorem lifted (os : Os) (started : os.Started) (H : Type) (enc : TypeId × Value → H) :
    ReturnsInHanded {} Tryd.checked os 5 .any (fun w args => (Rows.cacheActsSpec.pre enc Tryd.prog Tryd.f5 [] false w args ∧ laidMetH Tryd.prog Rows.cacheActsRow.laid w) ∧ sizedMet enc Tryd.prog Tryd.f5 (OpenSpec.ofChange Rows.cacheActsSpec) false w args)
      (Rows.cacheActsSpec.post enc Tryd.prog Tryd.f5 false true false false) := by
  refine returnsInHanded_of_change_and (C := Tryd.checked) (X := fun w _ => laidMetH Tryd.prog Rows.cacheActsRow.laid w) (fun _ _ _ hh h => h.of_heap hh) own started (by kernel_rfl) Tryd.func5
    (ChangeSpec.witness_shaped (enc := enc) (C := Tryd.checked) (os := os) (X := fun w _ => laidMetH Tryd.prog Rows.cacheActsRow.laid w) false (World.doorLaid Tryd.prog 400 os) #[.int .i64 0, .slice none 0 0] 8 rfl (World.shaped_of_RefB (by kernel_rfl) (by kernel_rfl)) (by kernel_rfl) (by kernel_rfl) (by kernel_rfl) (door_met os _)) ?_
  intro W base args ds gs before hval0 hW _ _ hL _
  have hval : ∀ (j : Nat) t v, Tryd.f5.params[j]? = some t → args[j]? = some v → Value.okWide Tryd.prog W .any base t v := hval0
  have hW' := hW
  obtain ⟨p, q, hA0, hV, rfl, hfz, hnd⟩ := hW
  have hA : DataW.TrodAll enc Tryd.prog W 0 (fun _ => true) true Tryd.f5.params.toList args.toList ds p := hA0
  rw [Tryd.params5] at hA hval
  obtain ⟨v0, vs0, d0, ds0, p0, q0, hargs, rfl, rfl, h0, r0⟩ := trodAll_cons hA
  obtain ⟨v1, vs1, d1, ds1, p1, q1, rfl, rfl, rfl, h1, r1⟩ := trodAll_cons r0
  obtain ⟨rfl, rfl, rfl⟩ := trodAll_nil r1
  obtain rfl : args = #[v0, v1] := by cases args; simp_all
  obtain ⟨rfl, rfl⟩ := trodVars_none hV
  obtain ⟨z, rfl, rfl, rfl, wz⟩ := open_int Tryd.underlying3 (hval 0 3 v0 rfl rfl) h0
  obtain ⟨a, len, cap, rfl⟩ := okWide_slice Tryd.underlying22 (hval 1 22 v1 rfl rfl)
  have k1 := h1
  have lt1 : ∀ x ∈ p1, x.block < W.heap.size := by obtain ⟨m, hm⟩ := k1; exact DataW.trod_lt m _ _ _ hm
  obtain ⟨l, hlen, hask⟩ : ∃ l, l.length = len ∧ Asks W (.slice a len cap) l := by
    obtain ⟨fuel, hf⟩ := h1
    exact open_asks (by simpa [Value.cells] using hf)
  clear hA0 hval0
  simp only [List.append_nil] at hW'
  obtain ⟨pt, hs⟩ := sents hL
  have walk : Calls Tryd.prog 5 #[.int .i64 z, .slice a len cap] W fun e w' => e = .returned (.bool true) ∧ Ext W w' := by
    by_cases h100 : 100 < len
    · refine walkLong W z a len cap h100 ?_
      obtain ⟨a', cap', hv, hc, hm, _⟩ := hask
      unfold maxLen at hm
      cases hv
      omega
    · subst hlen
      by_cases hz : z < 1 ∨ 100 < z
      · exact walkBound W pt hs z a l.length cap hz (by omega)
      · obtain ⟨n, rfl⟩ := Int.eq_ofNat_of_zero_le (show 0 ≤ z by omega)
        exact walkActs W n _ l hask (by omega) (by omega) (by omega)
  refine walk.mono fun e W' ⟨he, hext⟩ => ?_
  subst he
  have bel := hext.extBelow
  exact ⟨_, rfl, _, _, _, [], _, [], hW', trodAll_mk1 (shut_bool Tryd.underlying4 _), (trodAll_cons_mk (shut_int Tryd.underlying3 wz) (trodAll_cons_mk (Below.trod laidOut (by kernel_rfl) (of_decide_eq_true (by kernel_rfl)) k1 bel lt1) trodAll_mk0)), rfl, bel.frame _, fun h => by cases h⟩

theorem said : Rows.CacheActsSaid :=
  OpenClaim.holds_of_wide 5 Tryd.f5 rfl rfl rfl rfl rfl rfl rfl ⟨rfl, rfl, rfl, rfl, rfl⟩ rfl rfl rfl rfl rfl (by kernel_rfl) Tryd.func5 (by kernel_rfl)
    (of_decide_eq_true (by kernel_rfl)) (by unfold Func.isWrapper; first | (rw [if_pos (by decide +kernel)]; kernel_rfl) | (rw [if_neg (by decide +kernel)]; exact ⟨rfl, rfl⟩))
    (fun os started H enc _ => lifted os started H enc)

theorem plain (f : FuncId) (fn : Func) (hf : Tryd.pinned.checked.prog.funcNamed "kilnyard/kilnyardlaw2.CacheActs" = some f) (hfn : Tryd.pinned.checked.prog.funcs[f]? = some fn) :
    true = Tryd.pinned.checked.prog.looks [] ∧ ∀ (j : Nat) t, fn.params[j]? = some t → Tryd.pinned.checked.prog.wantsStandIn t = false := by
  obtain rfl : f = 5 := Option.some.inj ((show Tryd.prog.funcNamed "kilnyard/kilnyardlaw2.CacheActs" = some 5 by kernel_rfl).symm.trans hf) |>.symm
  obtain rfl : fn = Tryd.f5 := (Option.some.inj (Tryd.func5.symm.trans hfn)).symm
  refine ⟨by kernel_rfl, fun j t ht => ?_⟩
  rw [Tryd.params5] at ht
  have hm : t ∈ [3, 22] := by simpa using Array.mem_of_getElem? ht
  have hall : ([3, 22].all fun u => !Tryd.prog.wantsStandIn u) = true := by kernel_rfl
  exact (show Tryd.prog.wantsStandIn t = false by simpa using List.all_eq_true.1 hall t hm)

/-- The card. -/
theorem proved : Rows.CacheActsCardSaid :=
  Claim7.holds_tied_plain_at .later [] _ _ _ _ said (fun _ h => by cases h) (by kernel_rfl) (fun _ h => by cases h) cacheActs_row_tie rfl ⟨rfl, rfl⟩ (by kernel_rfl) rfl plain (by kernel_rfl)
#print axioms proved
end Go.Proofs.YtnmhaipjfpongaaDoor.cacheActsDone

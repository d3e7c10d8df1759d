/- Texts of this seat laid together for one claim: H1, H2, O2. No condition of its own: what each proves stands with its theorems. -/
import Derived.ChangeMaps5
import Derived.Handed
import Derived.HandedShaped
import Derived.Lay
import Derived.OpenShut
import Derived.Shelf.Vars
import Derived.SliceStrings
import Derived.Test.YtnmhaipjfpongacGreatDoorProg
import Derived.Test.YtnmhaipjfpongacGreatDoorPL0
import Derived.Conc.Holds
import Derived.Leaving
import Derived.SevenTiedAt
import Derived.Test.YtnmhaipjfpongacGreatDoorPL17
namespace Go.Proofs.YtnmhaipjfpongacGreatDoor
open Go.ChangeShapes Go.WideShapes Go.ChangeAt Go.RowKit

variable {H : Type} {enc : TypeId × Value → H}

theorem handed_both {a : Assume} {C : Checked} {os : Os} {f : FuncId} {fn : Func} {s : ChangeSpec} {conds : List PathCond} {apart fresh handsOn again : Bool} {X : World → Array Value → Prop}
  (hX : ∀ (w w' : World) (args : Array Value), w.heap = w'.heap → X w args → X w' args) (own : ownKnob C.prog.godebug = none) (started : os.Started) (noInit : C.prog.inits.idxOf? f = none) (hfn : C.prog.funcs[f]? = some fn)
  (witness : ∃ (w : World) (tape : Tape) (i : Input), w.os = os ∧ (w.forCall tape i).Shaped C.prog ∧ i.vars = [] ∧ Input.okWide C.prog (w.forCall tape i) .any w.heap.size f i ∧
   ((s.pre enc C.prog fn conds apart (w.forCall tape i).memory i.args ∧ X (w.forCall tape i).memory i.args) ∧ sizedMet enc C.prog fn (OpenSpec.ofChange s) apart (w.forCall tape i).memory i.args) ∧ a.holds C.prog (lone (Frame.enter C.prog f i.args .normal) [] (w.forCall tape i)))
  (contract : ∀ (W : World) (base : Nat) (args : Array Value) (ds gs : List (DataW H)) (before : List MemPlace),
   (∀ (j : Nat) t v, fn.params[j]? = some t → args[j]? = some v → Value.okWide C.prog W .any base t v) → DataW.Whole enc C.prog fn.params.toList s.vars apart W args.toList ds gs before →
   conds.all (PathCond.test C.prog ⟨fn.params.toList, ds, s.plain.varTypes C.prog, gs⟩) = true → (DataW.weightsEach C.prog (fn.params.toList ++ s.plain.varTypes C.prog) (ds ++ gs)).all (· ≤ reachBytes) = true →
   X W args → W.ShapedOpen C.prog → a.holds C.prog (lone (Frame.enter C.prog f args .normal) [] W) →
   Calls C.prog f args W fun e W' => ∃ v, e = .returned v ∧ s.post enc C.prog fn apart fresh handsOn again W args v W') :
  ReturnsInHanded a C os f .any (fun w args => (s.pre enc C.prog fn conds apart w args ∧ X w args) ∧ sizedMet enc C.prog fn (OpenSpec.ofChange s) apart w args) (s.post enc C.prog fn apart fresh handsOn again) := by
 refine returnsInHanded_of_calls own started noInit witness fun w tape i _ hsh _ hok hpre hh => ?_
 obtain ⟨_, _, _, fn', hfn', _, _, _, _, hval⟩ := hok
 obtain rfl := Option.some.inj (hfn'.symm.trans hfn)
 obtain ⟨⟨⟨ds, gs, before, hw, hc⟩, hx⟩, hz⟩ := hpre
 have hw' := DataW.Whole.of_heap (w' := w.forCall tape i) (by rfl) hw
 refine (contract _ w.heap.size i.args ds gs before hval hw' hc (hz.weights hw) (hX _ _ _ (by rfl) hx) hsh hh).mono ?_
 rintro e W' ⟨v, rfl, hp⟩
 exact ChangeSpec.post_blind hp

theorem laidMet_over {P : Program} {w0 : World} {laid : List (String × DataW Unit)} (args : Array Value) (hf : w0.layFits P laid [] = true) (hi : w0.layIfaces P laid (w0.layVars P laid) = true) :
  laidMet P laid ((w0.layVars P laid).forCall (fun _ _ => 0) ⟨#[], args, []⟩).memory := by
 have hin : ∀ x ∈ laid, (laid.map (·.1)).contains x.1 = true := fun x hx => List.contains_iff_mem.2 (List.mem_map.2 ⟨x, hx, rfl⟩)
 have e1 : (laid.filter fun x => (laid.map (·.1)).contains x.1) = laid := List.filter_eq_self.2 hin
 have e2 : (laid.filter fun x => !(laid.map (·.1)).contains x.1) = [] := List.filter_eq_nil_iff.2 fun x hx => by rw [hin x hx]; simp
 have h : laidMet P laid (w0.layVars P laid) := laidMet_layVars (laid.map (·.1)) [] (by rw [e1]) (by rw [e1]; exact hf) (by rw [e1]; exact hi) (by rw [e2]; exact LaidIn.none)
 exact h.of_heap (by simp [World.memory, World.forCall, Input.heap])

end Go.Proofs.YtnmhaipjfpongacGreatDoor

namespace Go.Proofs.YtnmhaipjfpongacGreatDoor
open Go.ChangeShapes Go.WideShapes Go.ChangeAt Go.RowKit

theorem reach_arg {H : Type} {P : Program} {ts : List TypeId} {ds : List (DataW H)} (h : (DataW.weightsEach P ts ds).all (· ≤ reachBytes) = true) {j : Nat} {t : TypeId} {d : DataW H} (ht : ts[j]? = some t) (hd : ds[j]? = some d) : ∀ n ∈ d.weights P t, n ≤ 140737488351232 :=
 fun n hn => of_decide_eq_true (List.all_eq_true.1 h _ (DataW.weights_mem_each ht hd n hn))

theorem holds_tied_goes (Lk : Looks) {p : Pinned} {s : OpenSpec} {c : OpenClaim} (kinds : List LaidKind) (tests : Bool) (har : Bool × String) (lk : Bool) (g : Bool)
  (hc : c.holds p s) (hw : c.wfByText s = true) (htie : c.laidByTextAt Lk p kinds tests)
  (hst : c.start = .entering) (hnb : c.noBlocks = false ∧ c.again = false) (hm : p.checked.prog.mainIs = some (har.1, har.2.toList)) (hn : (!har.1 && har.2.isEmpty && !lk) = false)
  (hl : ∀ f fn, p.checked.prog.funcNamed c.func = some f → p.checked.prog.funcs[f]? = some fn → lk = p.checked.prog.looks [] ∧ ∀ (j : Nat) t, fn.params[j]? = some t → p.checked.prog.wantsStandIn t = false)
  (hg : g = c.goesBy p.checked.prog) :
  Claim7.holds p (.plain s) { stood := { row := c, standIns := [], harness := har, looks := lk }, kinds := [], alts := [], goes := g, laidByText := true, laidKinds := kinds, laidTests := tests, laidLooks := Lk } := by
 have h6 : Claim7.isSixth { stood := { row := c, standIns := [], harness := har, looks := lk }, kinds := [] } = false := by simpa [Claim7.isSixth] using hn
 exact ⟨Claim7.tied_new_at Lk kinds tests (Claim7.new_of_sixth hc har lk hst hnb hm h6 hl) hw, (fun D hD => by cases hD), htie, (fun h => by cases h), hg⟩
end Go.Proofs.YtnmhaipjfpongacGreatDoor

namespace Go.Proofs.YtnmhaipjfpongacGreatDoor
open Go.ChangeShapes Go.WideShapes Go.ChangeAt Go.RowKit

theorem addr_addR (b off n : Nat) : (⟨b, off, none⟩ : Addr).add n = ⟨b, off + n, none⟩ := by
 unfold Addr.add
 split
 ·subst_vars; rfl
 ·rfl

theorem texts_trod {H : Type} {enc : TypeId × Value → H} {w : World} {base : Nat} {spare : Nat → Bool} {held : Bool} {fuel : Nat} {v : Value} {x : DataW H × List MemPlace}
  (h : DataW.trod enc Tryz.prog w base spare held fuel 53 [v] = some x) : ∃ l : List B, Rd S w v l := by
 obtain ⟨d, ps⟩ := x
 rcases open_strings Tryz.underlying53 Tryz.underlying9 (by kernel_rfl) h with ⟨h0, _⟩ | ⟨ad, len, cap, ss, h0, _, hl, hm, hss, _, hc, _⟩
 ·cases h0
  exact ⟨[], Rd.nil _ _⟩
 ·cases h0
  have hle : len ≤ ss.length := by rw [hss]; split <;> omega
  refine ⟨(ss.take len).map (·.data.toList), some ad, cap, by simp [Nat.min_eq_left hle], by simpa [Nat.min_eq_left hle] using hl, hm, fun hne => ?_⟩
  have hpos : 0 < ss.length := by
   rcases Nat.eq_zero_or_pos ss.length with h | h
   ·exact absurd (by simp [List.length_eq_zero_iff.1 h]) hne
   ·exact h
  obtain ⟨b, off, spot⟩ := ad
  have h00 := hc 0 hpos
  have hs : spot = none := by simpa [Addr.add] using World.cell?_spot h00
  subst hs
  refine ⟨b, off, rfl, fun i x hx => ?_⟩
  rw [List.getElem?_map] at hx
  obtain ⟨y, hy, rfl⟩ := Option.map_eq_some_iff.1 hx
  have hi : i < len := by have := (List.getElem?_eq_some_iff.1 hy).1; simp at this; omega
  rw [List.getElem?_take_of_lt hi] at hy
  have := hc i (by omega)
  rw [addr_addR, List.getD_eq_getElem?_getD, hy] at this
  simpa using this

theorem cellsRule : Tryz.prog.cellsOf 55 = 4 := by kernel_rfl

theorem open_rules {H : Type} {enc : TypeId × Value → H} {w : World} {base : Nat} {spare : Nat → Bool} {held : Bool} {fuel : Nat} {a : Option Addr} {len cap : Nat} {x : DataW H × List MemPlace}
  (h : DataW.trod enc Tryz.prog w base spare held fuel 23 [.slice a len cap] = some x) (_hr : ∀ n ∈ x.1.weights Tryz.prog 23, n ≤ 140737488351232) :
  ∃ l : List Rule, l.length = len ∧ RdR w (.slice a len cap) l ∧ True := by
 rcases open_slice_fields Tryz.underlying23 Tryz.underlying55 (by kernel_rfl) cellsRule h with ⟨h0, _⟩ | ⟨ad, len', cap', m, D, Pl, hcs, _, hl, hm, hmm, hxx, hi⟩
 ·cases h0
  exact ⟨[], rfl, RdR.nil _, trivial⟩
 ·cases hcs
  have key : ∀ i, ∃ y : Rule × Value, i < len → (w.cell? (ad.add (i * 4)) = some (S y.1.out) ∧ w.cell? (ad.add (i * 4 + 1)) = some (S y.1.kind) ∧ w.cell? (ad.add (i * 4 + 2)) = some (S y.1.word) ∧ w.cell? (ad.add (i * 4 + 3)) = some y.2) ∧ Rd S w y.2 y.1.ins := by
   intro i
   by_cases hlt : i < len
   ·have him : i < m := by rw [hmm]; split <;> omega
    obtain ⟨ys, n, hD, _, hyl, hf⟩ := hi i him
    obtain ⟨v0, y0, c0, g0, t0⟩ := hf 0 _ rfl
    obtain ⟨v1, y1, c1, g1, t1⟩ := hf 1 _ rfl
    obtain ⟨v2, y2, c2, g2, t2⟩ := hf 2 _ rfl
    obtain ⟨v3, y3, c3, g3, t3⟩ := hf 3 _ rfl
    obtain ⟨p, e0, z0, _⟩ := DataW.trod_string Tryz.underlying9 t0
    obtain ⟨k, e1, z1, _⟩ := DataW.trod_string Tryz.underlying9 t1
    obtain ⟨s, e2, z2, _⟩ := DataW.trod_string Tryz.underlying9 t2
    obtain ⟨q, hq⟩ := texts_trod t3
    cases e0; cases e1; cases e2
    exact ⟨(⟨p.data.toList, k.data.toList, s.data.toList, q⟩, v3), fun _ => ⟨⟨c0, c1, c2, c3⟩, hq⟩⟩
   ·exact ⟨(⟨[], [], [], []⟩, .nilIface), fun h => absurd h hlt⟩
  refine ⟨(List.range len).map fun i => (Classical.choose (key i)).1, by simp, ⟨some ad, cap, by simp, by simpa using hl, hm, fun hne => ?_⟩, trivial⟩
  have hpos : 0 < len := by
   rcases Nat.eq_zero_or_pos len with h | h
   ·subst h; simp at hne
   ·exact h
  obtain ⟨b, off, spot⟩ := ad
  have hs : spot = none := by
   have := (Classical.choose_spec (key 0) hpos).1.1
   simpa [Addr.add] using World.cell?_spot this
  subst hs
  refine ⟨b, off, rfl, fun i r hx => ?_⟩
  have hlt : i < len := by have := (List.getElem?_eq_some_iff.1 hx).1; simpa using this
  have he : (Classical.choose (key i)).1 = r := by
   rw [List.getElem?_map, List.getElem?_range hlt] at hx
   simpa using hx
  obtain ⟨⟨h0, h1, h2, h3⟩, h4⟩ := Classical.choose_spec (key i) hlt
  subst he
  have e := fun n => congrArg w.cell? (addr_addR b off n)
  exact ⟨_, h4, (e _).symm.trans h0, (e _).symm.trans h1, (e _).symm.trans h2, (e _).symm.trans h3⟩
end Go.Proofs.YtnmhaipjfpongacGreatDoor

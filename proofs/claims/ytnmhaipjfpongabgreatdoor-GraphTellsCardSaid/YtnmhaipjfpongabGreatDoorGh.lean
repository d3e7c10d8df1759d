/- Texts of this seat laid together: H1, H2, V15, W1, W2, W3. No condition of its own: what each proves stands with its theorems. -/
import Derived.Test.YtnmhaipjfpongabGreatDoorGa
import Derived.HandedShaped
import Derived.Handed
import Derived.OpenShut
import Derived.ChangeMaps5
import Derived.SliceStrings
import Derived.Shelf.Vars
import Derived.Lay
import Derived.Test.YtnmhaipjfpongabGreatDoorProg
import Derived.Conc.Holds
import Derived.Leaving
import Derived.SevenTiedAt
import Derived.Test.YtnmhaipjfpongabGreatDoorGg
import Derived.Test.YtnmhaipjfpongabGreatDoorGc
import Derived.Test.YtnmhaipjfpongabGreatDoorGf
import Derived.Test.YtnmhaipjfpongabGreatDoorGe
import Derived.Test.YtnmhaipjfpongabGreatDoorGb
import Derived.Lib.AtoiAllCases
import Derived.IntWalk
import Derived.BigQuiet
import Derived.Sort.Walk0
import Derived.Deep.LoopGhost
namespace Go.Proofs.YtnmhaipjfpongabGreatDoor
open Go.ChangeShapes Go.WideShapes Go.ChangeAt Go.RowKit

variable {H : Type} {enc : TypeId × Value → H}

theorem handed_both {a : Assume} {C : Checked} {os : Os} {f : FuncId} {fn : Func} {s : ChangeSpec} {conds : List PathCond} {apart fresh handsOn again : Bool} {X : World → Array Value → Prop}
    (hX : ∀ (w w' : World) (args : Array Value), w.heap = w'.heap → X w args → X w' args) (own : ownKnob C.prog.godebug = none) (started : os.Started) (noInit : C.prog.inits.idxOf? f = none) (hfn : C.prog.funcs[f]? = some fn)
    (witness : ∃ (w : World) (tape : Tape) (i : Input), w.os = os ∧ (w.forCall tape i).Shaped C.prog ∧ i.vars = [] ∧ Input.okWide C.prog (w.forCall tape i) .any w.heap.size f i ∧
      ((s.pre enc C.prog fn conds apart (w.forCall tape i).memory i.args ∧ X (w.forCall tape i).memory i.args) ∧ sizedMet enc C.prog fn (OpenSpec.ofChange s) apart (w.forCall tape i).memory i.args) ∧ a.holds C.prog (lone (Frame.enter C.prog f i.args .normal) [] (w.forCall tape i)))
    (contract : ∀ (W : World) (base : Nat) (args : Array Value) (ds gs : List (DataW H)) (before : List MemPlace),
      (∀ (j : Nat) t v, fn.params[j]? = some t → args[j]? = some v → Value.okWide C.prog W .any base t v) → DataW.Whole enc C.prog fn.params.toList s.vars apart W args.toList ds gs before →
      conds.all (PathCond.test C.prog ⟨fn.params.toList, ds, s.plain.varTypes C.prog, gs⟩) = true → (DataW.weightsEach C.prog (fn.params.toList ++ s.plain.varTypes C.prog) (ds ++ gs)).all (· ≤ reachBytes) = true →
      X W args → W.ShapedOpen C.prog → a.holds C.prog (lone (Frame.enter C.prog f args .normal) [] W) →
      Calls C.prog f args W fun e W' => ∃ v, e = .returned v ∧ s.post enc C.prog fn apart fresh handsOn again W args v W') :
    ReturnsInHanded a C os f .any (fun w args => (s.pre enc C.prog fn conds apart w args ∧ X w args) ∧ sizedMet enc C.prog fn (OpenSpec.ofChange s) apart w args) (s.post enc C.prog fn apart fresh handsOn again) := by
  refine returnsInHanded_of_calls own started noInit witness fun w tape i _ hsh _ hok hpre hh => ?_
  obtain ⟨_, _, _, fn', hfn', _, _, _, _, hval⟩ := hok
  obtain rfl := Option.some.inj (hfn'.symm.trans hfn)
  obtain ⟨⟨⟨ds, gs, before, hw, hc⟩, hx⟩, hz⟩ := hpre
  have hw' := DataW.Whole.of_heap (w' := w.forCall tape i) (by rfl) hw
  refine (contract _ w.heap.size i.args ds gs before hval hw' hc (hz.weights hw) (hX _ _ _ (by rfl) hx) hsh hh).mono ?_
  rintro e W' ⟨v, rfl, hp⟩
  exact ChangeSpec.post_blind hp

/-- Listed variables laid over whatever world: the condition is met there. -/
theorem laidMet_over {P : Program} {w0 : World} {laid : List (String × DataW Unit)} (args : Array Value) (hf : w0.layFits P laid [] = true) (hi : w0.layIfaces P laid (w0.layVars P laid) = true) :
    laidMet P laid ((w0.layVars P laid).forCall (fun _ _ => 0) ⟨#[], args, []⟩).memory := by
  have hin : ∀ x ∈ laid, (laid.map (·.1)).contains x.1 = true := fun x hx => List.contains_iff_mem.2 (List.mem_map.2 ⟨x, hx, rfl⟩)
  have e1 : (laid.filter fun x => (laid.map (·.1)).contains x.1) = laid := List.filter_eq_self.2 hin
  have e2 : (laid.filter fun x => !(laid.map (·.1)).contains x.1) = [] := List.filter_eq_nil_iff.2 fun x hx => by rw [hin x hx]; simp
  have h : laidMet P laid (w0.layVars P laid) := laidMet_layVars (laid.map (·.1)) [] (by rw [e1]) (by rw [e1]; exact hf) (by rw [e1]; exact hi) (by rw [e2]; exact LaidIn.none)
  exact h.of_heap (by simp [World.memory, World.forCall, Input.heap])

set_option maxRecDepth 100000 in
theorem open_text {H : Type} {enc : TypeId × Value → H} {w : World} {sp : Nat → Bool} {held : Bool} {base b0 : Nat} {r : Reach} {v : Value} {d : DataW H} {ps : List MemPlace} (hd : DataW.Trod enc Tryz.prog w base sp held 9 v d ps) (hval : Value.okWide Tryz.prog w r b0 9 v) : ∃ s : B, v = S s := by
  obtain ⟨s, rfl, _, _, _⟩ := Go.ChangeMaps.open_string Tryz.underlying9 hval hd
  exact ⟨s.data.toList, by simp⟩

set_option maxRecDepth 100000 in
theorem open_texts {H : Type} {enc : TypeId × Value → H} {w : World} {sp : Nat → Bool} {held : Bool} {base b0 : Nat} {r : Reach} {v : Value} {d : DataW H} {ps : List MemPlace} (hd : DataW.Trod enc Tryz.prog w base sp held 24 v d ps) (hval : Value.okWide Tryz.prog w r b0 24 v) : ∃ l : List B, Rd S w v l := by
  obtain ⟨a, len, cap, rfl⟩ := okWide_slice Tryz.underlying24 hval
  obtain ⟨fuel, hf⟩ := hd
  have hf' : DataW.trod enc Tryz.prog w base sp held fuel 24 [.slice a len cap] = some (d, ps) := by simpa [Value.cells] using hf
  rcases open_strings Tryz.underlying24 Tryz.underlying9 (by kernel_rfl) hf' with ⟨h0, _⟩ | ⟨ad, len', cap', ss, h0, _, hl, hm, hss, _, hc, _⟩
  · cases h0
    exact ⟨[], Rd.nil _ _⟩
  · cases h0
    have hle : len ≤ ss.length := by rw [hss]; split <;> omega
    refine ⟨(ss.take len).map (·.data.toList), some ad, cap, by simp [Nat.min_eq_left hle], by simpa [Nat.min_eq_left hle] using hl, hm, fun hne => ?_⟩
    have hpos : 0 < ss.length := by
      rcases Nat.eq_zero_or_pos ss.length with h | h
      · exact absurd (by simp [List.length_eq_zero_iff.1 h]) hne
      · exact h
    obtain ⟨b, off, spot⟩ := ad
    have h00 := hc 0 hpos
    have hs : spot = none := by simpa [Addr.add] using World.cell?_spot h00
    subst hs
    refine ⟨b, off, rfl, fun i x hx => ?_⟩
    rw [List.getElem?_map] at hx
    obtain ⟨y, hy, rfl⟩ := Option.map_eq_some_iff.1 hx
    have hi : i < len := by have := (List.getElem?_eq_some_iff.1 hy).1; simp at this; omega
    rw [List.getElem?_take_of_lt hi] at hy
    have := hc i (by omega)
    have ea : (⟨b, off, none⟩ : Addr).add i = ⟨b, off + i, none⟩ := by
      unfold Addr.add
      split
      · subst_vars; rfl
      · rfl
    rw [ea, List.getD_eq_getElem?_getD, hy] at this
    simpa using this
end Go.Proofs.YtnmhaipjfpongabGreatDoor

namespace Go.Proofs.YtnmhaipjfpongabGreatDoor
open Go.ChangeShapes Go.WideShapes Go.ChangeAt Go.RowKit

theorem leaving_of_handed {a : Assume} {C : Checked} {os : Os} {f : FuncId} {Pre : World → Array Value → Prop} {Post : World → Array Value → Value → World → Prop} (h : ReturnsInHanded a C os f .any Pre Post) : ReturnsInLeavingWide a C os f .any Pre Post :=
  fun enter => ReturnsInOpen.mono (fun _ _ _ x => ⟨x.2.1, onlyLeaving_of_quiet x.1, x.2.2⟩) (fun _ x => x) (h enter)

theorem weightsAll_in {H : Type} {P : Program} {e : TypeId} : ∀ {l : List (DataW H)} {d : DataW H}, d ∈ l → ∀ n ∈ d.weights P e, n ∈ DataW.weightsAll P e l
  | d' :: r, d, hd, n, hn => by
    simp only [DataW.weightsAll, List.mem_append]
    rcases List.mem_cons.1 hd with rfl | h
    · exact Or.inl hn
    · exact Or.inr (weightsAll_in h n hn)

/-- All that is read of an argument is within the form's reach. -/
theorem reach_arg {H : Type} {P : Program} {ts : List TypeId} {ds : List (DataW H)} (h : (DataW.weightsEach P ts ds).all (· ≤ reachBytes) = true) {j : Nat} {t : TypeId} {d : DataW H} (ht : ts[j]? = some t) (hd : ds[j]? = some d) : ∀ n ∈ d.weights P t, n ≤ 140737488351232 :=
  fun n hn => of_decide_eq_true (List.all_eq_true.1 h _ (DataW.weights_mem_each ht hd n hn))

theorem weights_elem {H : Type} {P : Program} {t e : TypeId} (hu : P.underlying t = some (.slice e)) {elems spare : List (DataW H)} {d : DataW H} (hd : d ∈ elems) : ∀ n ∈ d.weights P e, n ∈ (DataW.slice elems spare).weights P t := by
  intro n hn
  simp only [DataW.weights, hu, List.mem_cons, List.mem_append]
  exact .inr (.inl (weightsAll_in hd n hn))

theorem weights_part {H : Type} {P : Program} {t e : TypeId} {fs : Array Field} (hu : P.underlying t = some (.struct fs)) {parts : List (DataW H)} {j : Nat} {d : DataW H} (he : (fs.toList.map (·.type))[j]? = some e) (hd : parts[j]? = some d) : ∀ n ∈ d.weights P e, n ∈ (DataW.agg parts).weights P t := by
  intro n hn
  simp only [DataW.weights, hu]
  exact DataW.weights_mem_each he hd n hn

/-- A tied card without a companion, of a program that may start goroutines. -/
theorem holds_tied_goes (Lk : Looks) {p : Pinned} {s : OpenSpec} {c : OpenClaim} (kinds : List LaidKind) (tests : Bool) (har : Bool × String) (lk : Bool) (g : Bool)
    (hc : c.holds p s) (hw : c.wfByText s = true) (htie : c.laidByTextAt Lk p kinds tests)
    (hst : c.start = .entering) (hnb : c.noBlocks = false ∧ c.again = false) (hm : p.checked.prog.mainIs = some (har.1, har.2.toList)) (hn : (!har.1 && har.2.isEmpty && !lk) = false)
    (hl : ∀ f fn, p.checked.prog.funcNamed c.func = some f → p.checked.prog.funcs[f]? = some fn → lk = p.checked.prog.looks [] ∧ ∀ (j : Nat) t, fn.params[j]? = some t → p.checked.prog.wantsStandIn t = false)
    (hg : g = c.goesBy p.checked.prog) :
    Claim7.holds p (.plain s) { stood := { row := c, standIns := [], harness := har, looks := lk }, kinds := [], alts := [], goes := g, laidByText := true, laidKinds := kinds, laidTests := tests, laidLooks := Lk } := by
  have h6 : Claim7.isSixth { stood := { row := c, standIns := [], harness := har, looks := lk }, kinds := [] } = false := by simpa [Claim7.isSixth] using hn
  exact ⟨Claim7.tied_new_at Lk kinds tests (Claim7.new_of_sixth hc har lk hst hnb hm h6 hl) hw, (fun D hD => by cases hD), htie, (fun h => by cases h), hg⟩
end Go.Proofs.YtnmhaipjfpongabGreatDoor

namespace Go.Proofs.YtnmhaipjfpongabGreatDoor
open Go.ChangeShapes Go.WideShapes Go.ChangeAt Go.RowKit

theorem codedC (w : World) (P : Nat → Addr) (hs : Sents w P) (c : Nat) (hc : c ≤ 12) : Calls Tryz.prog 36 #[errC P c, I c] w fun e w' => e = .returned (.bool true) ∧ Ext w w' := by
  cases c with
  | zero => exact codedN w 0
  | succ i =>
    have := codedE w P hs i (by omega) ((i + 1 : Nat) : Int)
    have e1 : (((i : Int) + 1 == ((i + 1 : Nat) : Int))) = true := by simp
    rw [e1] at this
    exact this

theorem putCode_le (L : FL) (p x : B) : putCode L p x ≤ 12 := by
  unfold putCode
  repeat' split
  all_goals omega

def remCode (L : FL) (p : B) : Nat := if (L.lookup p).isSome then 0 else 6
theorem remCode_le (L : FL) (p : B) : remCode L p ≤ 12 := by unfold remCode; split <;> omega

structure TT (w0 wr : World) (b mb m : Nat) (slv : Value) (LT LM : FL) : Prop where
  ext : Ext w0 wr
  nb : w0.heap.size ≤ b
  nmb : w0.heap.size ≤ mb
  nm : w0.heap.size ≤ m
  tree : TreeAt wr b mb LT
  model : RTree wr w0.heap.size m slv LM

/-- A struct of the walk's own, in a block that is neither tree's. -/
structure TA (e : TypeId) (w0 wr : World) (b mb m : Nat) (slv : Value) (LT LM : FL) (ha : Nat) (cs : Array Value) : Prop where
  tt : TT w0 wr b mb m slv LT LM
  act : wr.heap[ha]? = some (.cells cs e (0, 0))

theorem blocks_ne {w : World} {b b' : Nat} {cs cs' : Array Value} {e e' : TypeId} {fr fr' : Nat × Nat} (h : w.heap[b]? = some (.cells cs e fr)) (h' : w.heap[b']? = some (.cells cs' e' fr')) (hne : e ≠ e') : b ≠ b' := by
  rintro rfl
  rw [h] at h'
  cases h'
  exact hne rfl

section
variable {w0 wr w' : World} {b mb m : Nat} {slv : Value} {LT LM : FL} {ha : Nat} {cs : Array Value} {e : TypeId}

theorem TT.later (J : TT w0 wr b mb m slv LT LM) (h : Ext wr w') : TT w0 w' b mb m slv LT LM :=
  ⟨J.ext.then h, J.nb, J.nmb, J.nm, J.tree.ext h, J.model.ext h⟩

theorem TT.m_mb (J : TT w0 wr b mb m slv LT LM) : m ≠ mb := heap_ne_map J.model.cells J.tree.map
theorem TT.b_m (J : TT w0 wr b mb m slv LT LM) : b ≠ m := blocks_ne J.tree.cells J.model.cells (by decide)
theorem TT.s_mb (J : TT w0 wr b mb m slv LT LM) : ∀ i, slv.ownBlock = some i → i ≠ mb := row_ne_map J.model.row J.tree.map
theorem TT.s_b (J : TT w0 wr b mb m slv LT LM) : ∀ i, slv.ownBlock = some i → i ≠ b := row_ne J.model.row J.tree.cells (by decide)

theorem TT.treeStep {L' : FL} (J : TT w0 wr b mb m slv LT LM) (ht : TreeAt w' b mb L') (ho : Only (fun i => i = mb) wr w') : TT w0 w' b mb m slv L' LM :=
  ⟨J.ext.trans ho (fun _ _ h => h) (fun i hi e => by have := J.nmb; omega), J.nb, J.nmb, J.nm, ht, J.model.later ho J.m_mb J.s_mb⟩

theorem TT.modelStep {L' : FL} {r : Value} {x : Ending} (J : TT w0 wr b mb m slv LT LM) (h : RDone wr w0.heap.size m slv L' r x w') : ∃ slv', x = .returned r ∧ TT w0 w' b mb m slv' LT L' ∧ Only (InR m slv) wr w' := by
  obtain ⟨slv', rfl, hr, ho, _⟩ := h
  refine ⟨slv', rfl, ⟨J.ext.trans ho (fun _ _ h => h) (fun i hi e => ?_), J.nb, J.nmb, J.nm, J.tree.later ho (fun e => ?_) (fun e => ?_), hr⟩, ho⟩
  · rcases e with e | e
    · have := J.nm; omega
    · have := (J.model.row.lt i e).1; omega
  · rcases e with e | e
    · exact J.b_m e
    · exact J.s_b b e rfl
  · rcases e with e | e
    · exact J.m_mb e.symm
    · exact J.s_mb mb e rfl

theorem TA.later (J : TA e w0 wr b mb m slv LT LM ha cs) (h : Ext wr w') : TA e w0 w' b mb m slv LT LM ha cs := ⟨J.tt.later h, h.heapOf J.act (fun h => h)⟩

theorem TA.treeStep {L' : FL} (J : TA e w0 wr b mb m slv LT LM ha cs) (ht : TreeAt w' b mb L') (ho : Only (fun i => i = mb) wr w') : TA e w0 w' b mb m slv L' LM ha cs :=
  ⟨J.tt.treeStep ht ho, ho.heapOf J.act (heap_ne_map J.act J.tt.tree.map)⟩

theorem TA.modelStep {L' : FL} {r : Value} {x : Ending} (he1 : e ≠ 128) (he2 : e ≠ 78) (J : TA e w0 wr b mb m slv LT LM ha cs) (h : RDone wr w0.heap.size m slv L' r x w') : ∃ slv', x = .returned r ∧ TA e w0 w' b mb m slv' LT L' ha cs := by
  obtain ⟨slv', rfl, h1, ho⟩ := J.tt.modelStep h
  refine ⟨slv', rfl, h1, ho.heapOf J.act fun h => ?_⟩
  rcases h with h | h
  · exact blocks_ne J.act J.tt.model.cells he1 h
  · exact row_ne J.tt.model.row J.act (Ne.symm he2) ha h rfl

theorem TA.c (J : TA e w0 wr b mb m slv LT LM ha cs) (j : Nat) : wr.cell? ⟨ha, j, none⟩ = cs[j]? := cell_of_heap J.act j

theorem TA.at (J : TA e w0 wr b mb m slv LT LM ha cs) {j : Nat} {u : Value} (h : cs[j]? = some u) : wr.cell? ⟨ha, j, none⟩ = some u := (J.c j).trans h

theorem TA.put {P : Nat → Addr} (J : TA e w0 wr b mb m slv LT LM ha cs) (hf : Fits LT) (hs : Sents w0 P) (hm : HasMax w0) (hl : ∀ q ∈ LT, q.1.length ≤ 1000) (p x : B) (hp : p.length ≤ 999999) :
    Calls Tryz.prog 52 #[.pointer (some ⟨b, 0, none⟩), S p, S x] wr fun r w' => r = .returned (errC P (putCode LT p x)) ∧ TA e w0 w' b mb m slv (putT LT p x) LM ha cs :=
  (treePut_any wr P b mb LT p x J.tt.tree hf ((hs.ext J.tt.ext).errs _) (hm.ext J.tt.ext) hp (fun q hq => by have := hl q hq; omega)).mono fun _ _ ⟨h1, h2, h3⟩ => ⟨h1, J.treeStep h2 h3⟩

theorem TA.putM (he1 : e ≠ 128) (he2 : e ≠ 78) (J : TA e w0 wr b mb m slv LT LM ha cs) (hf : Fits LM) (p x : B) (hp : p.length ≤ 999999) :
    Calls Tryz.prog 88 #[.pointer (some ⟨m, 0, none⟩), S p, S x] wr fun r w' => ∃ slv', r = .returned (I (putCode LM p x)) ∧ TA e w0 w' b mb m slv' LT (putT LM p x) ha cs :=
  (putM_any wr w0.heap.size m slv LM p x J.tt.model hf.rising (by have := hf.few; omega) hp J.tt.ext.size).mono fun _ _ h => J.modelStep he1 he2 h

theorem TA.remove {P : Nat → Addr} (J : TA e w0 wr b mb m slv LT LM ha cs) (hs : Sents w0 P) (p : B) :
    Calls Tryz.prog 266 #[.pointer (some ⟨b, 0, none⟩), S p] wr fun r w' => r = .returned (errC P (remCode LT p)) ∧ TA e w0 w' b mb m slv (delT LT p) LM ha cs :=
  (treeRemove_any wr b mb LT p (P 5) J.tt.tree ((hs.ext J.tt.ext).var 5 _ rfl)).mono fun _ _ ⟨h1, h2, h3⟩ => ⟨by rw [h1]; unfold remCode; split <;> rfl, J.treeStep h2 h3⟩
end

theorem lens_put {L : FL} (hr : Rising L) {n : Nat} (h : ∀ q ∈ L, q.1.length ≤ n) (p x : B) (hp : p.length ≤ n) : ∀ q ∈ putT L p x, q.1.length ≤ n := by
  intro q hq
  unfold putT at hq
  split at hq
  · rcases mem_set hr hq with rfl | h1
    · exact hp
    · exact h q h1
  · exact h q hq
theorem lens_del {L : FL} {n : Nat} (h : ∀ q ∈ L, q.1.length ≤ n) (p : B) : ∀ q ∈ delT L p, q.1.length ≤ n := fun q hq => h q (List.mem_filter.1 hq).1

/-! ### a closed fact: a file -/
set_option maxRecDepth 100000 in
theorem treed_any (w : World) (P : Nat → Addr) (hs : Errs w P [1, 3, 6, 7]) (hm : HasMax w) (hp : Pow w) : Calls Tryz.prog 33 #[] w fun e w' => e = .returned (.bool true) ∧ Ext w w' := by
  have HS := Lib.hid hs
  have HM := Lib.hid hm
  have HP := Lib.hid hp
  have e1 : putCode [] [97] [120] = 0 := by decide +kernel
  have e2 : putT [] [97] [120] = [([97], [120])] := by decide +kernel
  have e3 : textT [([97], [120])] = [97, 32, 49, 10, 120, 10] := by decide +kernel
  have E1 := Lib.hid e1
  have E2 := Lib.hid e2
  have E3 := Lib.hid e3
  clear hs hm hp e1 e2 e3
  go_enter Tryz.func33, Tryz.ntmps33
  go_wp2_with fail
  refine (treeNew_any w).mono ?_
  rintro e w1 ⟨rfl, ht, ho, _⟩
  have HT := Lib.hid ht
  have HO := Lib.hid ho
  clear ht ho
  have hput := treePut_any w1 P (w.heap.size + 1) w.heap.size [] [97] [120] HT.out Fits.nil (HS.out.ext HO.out) (HM.out.ext HO.out) (by decide) (by simp)
  unfold PutIs at hput
  rw [E1.out, E2.out, show errC P 0 = .nilIface from rfl] at hput
  have HPU := Lib.hid hput
  clear hput
  obtain ⟨b, hb⟩ : ∃ b, b = w.heap.size + 1 := ⟨_, rfl⟩
  rw [← hb] at HPU
  rw [← hb]
  have hbn := Nat.lt_succ_self w.heap.size
  rw [← Nat.succ_eq_add_one] at hb
  have HB := Lib.hid hb
  clear hb hbn
  go_wp2_with fail
  refine HPU.out.mono ?_
  rintro e w2 ⟨rfl, ht2, ho2⟩
  have HX : Hid (Ext w w2) := Lib.hid (HO.out.trans ho2 (fun _ _ h => h) (fun i hi e => by omega))
  have htx := text_any w2 b w.heap.size [([97], [120])] ht2 (List.pairwise_singleton _ _) (by simp) (by simp) (by simp) (HP.out.ext HX.out)
  rw [E3.out] at htx
  have HTX := Lib.hid htx
  clear ht2 ho2 htx
  go_wp2_with fail
  refine HTX.out.mono ?_
  rintro e w3 ⟨rfl, ho3⟩
  have HX3 := Lib.hid (HX.out.then ho3)
  clear ho3
  go_wp2_with fail
  go_ret
  exact ⟨rfl, HX3.out⟩
end Go.Proofs.YtnmhaipjfpongabGreatDoor

namespace Go.Proofs.YtnmhaipjfpongabGreatDoor
open Go.ChangeShapes Go.WideShapes Go.ChangeAt Go.RowKit

/-- What strconv's two errors hold: something. -/
def AtoiVars (w : World) : Prop := (∃ t p, w.cell? ⟨15, 0, none⟩ = some (.iface t p)) ∧ ∃ t p, w.cell? ⟨16, 0, none⟩ = some (.iface t p)
theorem AtoiVars.ext {w w' : World} (h : AtoiVars w) (ho : Ext w w') : AtoiVars w' := by
  obtain ⟨⟨t, p, h1⟩, t', p', h2⟩ := h
  exact ⟨⟨t, p, ho.cellOf h1 (fun h => h)⟩, t', p', ho.cellOf h2 (fun h => h)⟩

theorem atoi_ok (w : World) (s : B) (hs : s.length ≤ 1000000) (v : Int) (h : Lib.atoiAll s = .ok v) :
    Calls Tryz.prog 234 #[S s] w fun e w' => e = .returned (.tuple #[I v, .nilIface]) ∧ Ext w w' := by
  refine (Tryz.strconv_Atoi_ok ⟨s.toArray⟩ (by simp [ByteArray.size]; omega) v h w).mono ?_
  rintro e w' ⟨rfl, rfl | ⟨t, rfl⟩⟩
  · exact ⟨rfl, Only.refl _ _⟩
  · exact ⟨rfl, Only.of_below (Lib.bytesWorld_below _ _ _)⟩

def IfaceIs (w : World) (e : Ending) (w' : World) : Prop := ∃ v t p, e = .returned (.tuple #[I v, .iface t p]) ∧ Ext w w'

theorem atoi_bad (w : World) (s : B) (hs : s.length ≤ 1000000) (hv : AtoiVars w) (h : ∀ v, Lib.atoiAll s ≠ .ok v) :
    Calls Tryz.prog 234 #[S s] w (IfaceIs w) := by
  obtain ⟨⟨t, p, h1⟩, t', p', h2⟩ := hv
  cases hq : Lib.atoiAll s with
  | ok v => exact absurd hq (h v)
  | range =>
    refine (Tryz.strconv_Atoi_range ⟨s.toArray⟩ (by simp [ByteArray.size]; omega) hq _ w h2 (.inr ⟨_, _, rfl⟩)).mono ?_
    rintro e w' ⟨N, rfl, _, _, hb⟩
    exact ⟨_, _, _, rfl, Only.of_below hb⟩
  | _ =>
    refine (Any.strconv_Atoi_syntax Tryz.laysC172 ⟨s.toArray⟩ (by simp [ByteArray.size]; omega) hq _ w h1 (.inr ⟨_, _, rfl⟩)).mono ?_
    rintro e w' ⟨N, rfl, _, _, hb⟩
    exact ⟨_, _, _, rfl, Only.of_below hb⟩

/-! ### numbers in plain words -/
def numB (k : Nat) (s : B) : Option Nat :=
  match Lib.atoiAll s with
  | .ok v => if s.length ≤ k ∧ 0 ≤ v ∧ Lib.decDigits v.toNat = s then some v.toNat else none
  | _ => none

theorem parse10_lt : ∀ (l : B) (acc u : Nat), Lib.parseUint10 acc l = .ok u → u < (acc + 1) * 10 ^ l.length
  | [], acc, u, h => by
    simp only [Lib.parseUint10] at h
    injection h with h
    simp; omega
  | c :: r, acc, u, h => by
    simp only [Lib.parseUint10] at h
    split at h
    · rename_i hc
      split at h
      · cases h
      · split at h
        · cases h
        · have := parse10_lt r _ u h
          rw [List.length_cons, Nat.pow_succ]
          refine Nat.lt_of_lt_of_le this ?_
          rw [Nat.mul_comm (10 ^ r.length) 10, ← Nat.mul_assoc]
          exact Nat.mul_le_mul_right _ (by omega)
    · cases h

theorem atoi_lt {s : B} {v : Int} (h : Lib.atoiAll s = .ok v) : v < 10 ^ s.length := by
  cases s with
  | nil => cases h
  | cons c r =>
    simp only [Lib.atoiAll] at h
    split at h
    · cases h
    · cases h
    · rename_i u hu
      have hu2 : (u : Int) < 10 ^ (c :: r).length := by
        have hl : (if c.toNat = 43 ∨ c.toNat = 45 then r else c :: r).length ≤ (c :: r).length := by split <;> simp
        generalize (if c.toNat = 43 ∨ c.toNat = 45 then r else c :: r) = q at hu hl
        unfold Lib.parseMag at hu
        by_cases hq : q = []
        · rw [if_pos hq] at hu; cases hu
        · rw [if_neg hq] at hu
          have := parse10_lt _ 0 u hu
          have h2 := Nat.pow_le_pow_right (show 0 < 10 by omega) hl
          have h3 : u < 10 ^ (c :: r).length := by omega
          exact_mod_cast h3
      split at h
      · cases h
      · split at h
        · cases h
        · injection h with h
          have h0 : (0 : Int) < 10 ^ (c :: r).length := by exact_mod_cast Nat.pow_pos (show 0 < 10 by omega)
          split at h <;> omega

def NumBad (w : World) (e : Ending) (w' : World) : Prop := ∃ v, e = .returned (.tuple #[I v, .bool false]) ∧ Ext w w'

set_option maxRecDepth 100000 in
theorem number_bad (w : World) (s : B) (hs : s.length ≤ 1000000) (hv : AtoiVars w) (hp : Pow w) (h : numB 4 s = none) :
    Calls Tryz.prog 174 #[S s] w (NumBad w) := by
  by_cases hk : ∃ v, Lib.atoiAll s = .ok v
  · obtain ⟨v, hk⟩ := hk
    have HA := Lib.hid (atoi_ok w s hs v hk)
    have hlt := atoi_lt hk
    have HK := Lib.hid hk
    have HPW := Lib.hid hp
    unfold numB at h
    rw [hk] at h
    simp only at h
    by_cases h4 : s.length ≤ 4
    · have h4z : (s.length : Int) ≤ 4 := by omega
      have h5 : v < 10000 := by
        have h2 : (10 : Int) ^ s.length ≤ 10 ^ 4 := by exact_mod_cast Nat.pow_le_pow_right (show 0 < 10 by omega) h4
        omega
      by_cases h0 : 0 ≤ v
      · obtain ⟨n, rfl⟩ := Int.eq_ofNat_of_zero_le h0
        have hne : Lib.decDigits n ≠ s := fun e => by
          rw [if_pos ⟨h4, h0, e⟩] at h
          cases h
        have HI := Lib.hid (fun w1 (hw : Ext w w1) => itoa_any w1 n (by omega) (HPW.out.ext hw))
        have hq : (Lib.decDigits n == s) = false := beq_eq_false_iff_ne.2 hne
        clear h hk hlt hs hv hp hne
        go_enter Tryz.func174, Tryz.ntmps174
        go_wp2_with fail
        refine HA.out.mono ?_
        rintro e w1 ⟨rfl, ho⟩
        have HO := Lib.hid ho
        clear ho
        go_wp2_with fail
        refine (HI.out _ HO.out).mono ?_
        rintro e w2 ⟨rfl, ho⟩
        have HO2 := Lib.hid (HO.out.then ho)
        clear ho
        go_wp2_with fail
        go_ret2
        exact ⟨_, rfl, HO2.out⟩
      · have h0z : v < 0 := by omega
        clear h hk hlt hs hv hp h0
        go_enter Tryz.func174, Tryz.ntmps174
        go_wp2_with fail
        refine HA.out.mono ?_
        rintro e w1 ⟨rfl, ho⟩
        have HO := Lib.hid ho
        clear ho
        go_wp2_with fail
        go_ret2
        exact ⟨_, rfl, HO.out⟩
    · have h4z : ¬ (s.length : Int) ≤ 4 := by omega
      clear h hk hlt hs hv hp
      go_enter Tryz.func174, Tryz.ntmps174
      go_wp2_with fail
      refine HA.out.mono ?_
      rintro e w1 ⟨rfl, ho⟩
      have HO := Lib.hid ho
      clear ho
      go_wp2_with fail
      go_ret2
      exact ⟨_, rfl, HO.out⟩
  · have HA := Lib.hid (atoi_bad w s hs hv (fun v e => hk ⟨v, e⟩))
    clear h hk hs hv hp
    go_enter Tryz.func174, Tryz.ntmps174
    go_wp2_with fail
    refine HA.out.mono ?_
    rintro e w1 ⟨v, t, p, rfl, ho⟩
    have HO := Lib.hid ho
    clear ho
    go_wp2_with fail
    go_ret2
    exact ⟨_, rfl, HO.out⟩

theorem numB_some {k : Nat} {s : B} {n : Nat} (h : numB k s = some n) : Lib.atoiAll s = .ok (n : Int) ∧ s.length ≤ k ∧ Lib.decDigits n = s := by
  unfold numB at h
  split at h
  · rename_i v hv
    split at h
    · rename_i hc
      cases h
      obtain ⟨h1, h2, h3⟩ := hc
      exact ⟨by rw [hv, Int.toNat_of_nonneg h2], h1, h3⟩
    · cases h
  · cases h

set_option maxRecDepth 100000 in
theorem number_ok (w : World) (s : B) (hp : Pow w) (n : Nat) (h : numB 4 s = some n) :
    Calls Tryz.prog 174 #[S s] w fun e w' => e = .returned (.tuple #[I n, .bool true]) ∧ Ext w w' := by
  obtain ⟨hk, h4, hd⟩ := numB_some h
  have HA := Lib.hid (atoi_ok w s (by omega) n hk)
  have hlt := atoi_lt hk
  have HPW := Lib.hid hp
  have h4z : (s.length : Int) ≤ 4 := by omega
  have h5 : n < 10000 := by
    have h2 : (10 : Int) ^ s.length ≤ 10 ^ 4 := by exact_mod_cast Nat.pow_le_pow_right (show 0 < 10 by omega) h4
    omega
  have HI := Lib.hid (fun w1 (hw : Ext w w1) => itoa_any w1 n (by omega) (HPW.out.ext hw))
  rw [hd] at HI
  have hq : (s == s) = true := by simp
  have h0z : (0 : Int) ≤ (n : Int) := by omega
  clear h hk hlt hp hd
  go_enter Tryz.func174, Tryz.ntmps174
  go_wp2_with fail
  refine HA.out.mono ?_
  rintro e w1 ⟨rfl, ho⟩
  have HO := Lib.hid ho
  clear ho
  go_wp2_with fail
  refine (HI.out _ HO.out).mono ?_
  rintro e w2 ⟨rfl, ho⟩
  have HO2 := Lib.hid (HO.out.then ho)
  clear ho
  go_wp2_with fail
  go_ret2
  exact ⟨rfl, HO2.out⟩

/-! ### a file of a text -/
def fileB (s : B) : Option (B × B × B) :=
  if (cut1 10 s).2.2 && (cut1 32 (cut1 10 s).1).2.2 then
    match numB 4 (cut1 32 (cut1 10 s).1).2.1 with
    | some n => if ((cut1 10 s).2.1)[n]? = some 10 then some ((cut1 32 (cut1 10 s).1).1, ((cut1 10 s).2.1).take n, ((cut1 10 s).2.1).drop (n + 1)) else none
    | none => none
  else none

def FileBad (w : World) (e : Ending) (w' : World) : Prop := e = .returned (.tuple #[S [], S [], S [], .bool false]) ∧ Ext w w'
def FileOk (w : World) (r : B × B × B) (e : Ending) (w' : World) : Prop := e = .returned (.tuple #[S r.1, S r.2.1, S r.2.2, .bool true]) ∧ Ext w w'

set_option maxRecDepth 100000 in
set_option maxHeartbeats 1000000 in
theorem file_bad (w : World) (s : B) (hs : s.length ≤ 900000) (hm : HasMax w) (hv : AtoiVars w) (hp : Pow w) (h : fileB s = none) :
    Calls Tryz.prog 98 #[S s] w (FileBad w) := by
  have HC1 := cutD_any w 10 s (by omega) hm
  have l1 := cut1_len 10 s
  unfold fileB at h
  generalize cut1 10 s = c1 at HC1 l1 h
  obtain ⟨hd, rest, is⟩ := c1
  have HC2 := Lib.hid (fun w1 (hw : Ext w w1) => cutD_any w1 32 hd (by simp at l1; omega) (hm.ext hw))
  have l2 := cut1_len 32 hd
  simp only at HC1 HC2 l1 h
  generalize cut1 32 hd = c2 at HC2 l2 h
  obtain ⟨p, dg, two⟩ := c2
  simp only at HC2 l2 h
  have HC1 := Lib.hid HC1
  have HV := Lib.hid hv
  have HPW := Lib.hid hp
  cases hn : numB 4 dg with
  | none =>
    have HN := Lib.hid (fun w1 (hw : Ext w w1) => number_bad w1 dg (by omega) (HV.out.ext hw) (HPW.out.ext hw) hn)
    clear h hn hs hm hv hp l1 l2
    cases is
    all_goals cases two
    all_goals
      go_enter Tryz.func98, Tryz.ntmps98
      go_wp2_with fail
      refine HC1.out.mono ?_
      rintro e w1 ⟨rfl, ho⟩
      have HO := Lib.hid ho
      clear ho
      go_wp2_with fail
      refine (HC2.out _ HO.out).mono ?_
      rintro e w2 ⟨rfl, ho⟩
      have HO2 := Lib.hid (HO.out.then ho)
      clear ho
      go_wp2_with fail
      refine (HN.out _ HO2.out).mono ?_
      rintro e w3 ⟨v, rfl, ho⟩
      have HO3 := Lib.hid (HO2.out.then ho)
      clear ho
      go_wp2_with fail
      exact bodyPost_ret (v := .tuple #[S [], S [], S [], .bool false]) (by simp [results, Tryz.results98, go_sem]) rfl ⟨rfl, HO3.out⟩
  | some n =>
    have HN := Lib.hid (fun w1 (hw : Ext w w1) => number_ok w1 dg (HPW.out.ext hw) n hn)
    have hn9 : n < 10000 := by
      have h1 := atoi_lt (numB_some hn).1
      have h2 : (10 : Int) ^ dg.length ≤ 10 ^ 4 := by exact_mod_cast Nat.pow_le_pow_right (show 0 < 10 by omega) (numB_some hn).2.1
      omega
    rw [hn] at h
    clear hn hs hm hv hp l1 l2
    cases is
    all_goals cases two
    case true.true =>
      simp at h
      by_cases hl : rest.length ≤ n
      · have hlz : (rest.length : Int) ≤ (n : Int) := by omega
        clear h
        go_enter Tryz.func98, Tryz.ntmps98
        go_wp2_with fail
        refine HC1.out.mono ?_
        rintro e w1 ⟨rfl, ho⟩
        have HO := Lib.hid ho
        clear ho
        go_wp2_with fail
        refine (HC2.out _ HO.out).mono ?_
        rintro e w2 ⟨rfl, ho⟩
        have HO2 := Lib.hid (HO.out.then ho)
        clear ho
        go_wp2_with fail
        refine (HN.out _ HO2.out).mono ?_
        rintro e w3 ⟨rfl, ho⟩
        have HO3 := Lib.hid (HO2.out.then ho)
        clear ho
        go_wp2_with fail
        exact bodyPost_ret (v := .tuple #[S [], S [], S [], .bool false]) (by simp [results, Tryz.results98, go_sem]) rfl ⟨rfl, HO3.out⟩
      · have hlz : ¬ (rest.length : Int) ≤ (n : Int) := by omega
        have hlz2 : (n : Int) < (rest.length : Int) := by omega
        obtain ⟨c, hc⟩ : ∃ c, rest[n]? = some c := ⟨_, List.getElem?_eq_getElem (by omega)⟩
        have hg := ba_get hc
        rw [hc] at h
        have hz : ((c.toNat : Int) == 10) = false := by
          refine beq_eq_false_iff_ne.2 fun e => h ?_
          have h1 : c.toNat = (10 : UInt8).toNat := by rw [show (10 : UInt8).toNat = 10 from rfl]; omega
          rw [UInt8.toNat_inj.1 h1]
        have hz2 : ((c.toNat : Int) != 10) = true := by rw [bne, hz]; rfl
        clear h hc
        go_enter Tryz.func98, Tryz.ntmps98
        go_wp2_with fail
        refine HC1.out.mono ?_
        rintro e w1 ⟨rfl, ho⟩
        have HO := Lib.hid ho
        clear ho
        go_wp2_with fail
        refine (HC2.out _ HO.out).mono ?_
        rintro e w2 ⟨rfl, ho⟩
        have HO2 := Lib.hid (HO.out.then ho)
        clear ho
        go_wp2_with fail
        refine (HN.out _ HO2.out).mono ?_
        rintro e w3 ⟨rfl, ho⟩
        have HO3 := Lib.hid (HO2.out.then ho)
        clear ho
        go_wp2_with fail
        exact bodyPost_ret (v := .tuple #[S [], S [], S [], .bool false]) (by simp [results, Tryz.results98, go_sem]) rfl ⟨rfl, HO3.out⟩
    all_goals
      clear h
      go_enter Tryz.func98, Tryz.ntmps98
      go_wp2_with fail
      refine HC1.out.mono ?_
      rintro e w1 ⟨rfl, ho⟩
      have HO := Lib.hid ho
      clear ho
      go_wp2_with fail
      refine (HC2.out _ HO.out).mono ?_
      rintro e w2 ⟨rfl, ho⟩
      have HO2 := Lib.hid (HO.out.then ho)
      clear ho
      go_wp2_with fail
      refine (HN.out _ HO2.out).mono ?_
      rintro e w3 ⟨rfl, ho⟩
      have HO3 := Lib.hid (HO2.out.then ho)
      clear ho
      go_wp2_with fail
      exact bodyPost_ret (v := .tuple #[S [], S [], S [], .bool false]) (by simp [results, Tryz.results98, go_sem]) rfl ⟨rfl, HO3.out⟩

theorem fileB_some {s : B} {r : B × B × B} (h : fileB s = some r) : ∃ hd rest p dg n, cut1 10 s = (hd, rest, true) ∧ cut1 32 hd = (p, dg, true) ∧ numB 4 dg = some n ∧ rest[n]? = some 10 ∧ r = (p, rest.take n, rest.drop (n + 1)) := by
  unfold fileB at h
  generalize cut1 10 s = c1 at h
  obtain ⟨hd, rest, is⟩ := c1
  simp only at h
  generalize hq : cut1 32 hd = c2 at h
  obtain ⟨p, dg, two⟩ := c2
  simp only at h
  split at h
  · rename_i hc
    simp at hc
    obtain ⟨rfl, rfl⟩ := hc
    split at h
    · rename_i n hn
      split at h
      · rename_i hr
        cases h
        exact ⟨hd, rest, p, dg, n, rfl, hq, hn, hr, rfl⟩
      · cases h
    · cases h
  · cases h

set_option maxRecDepth 100000 in
set_option maxHeartbeats 1000000 in
theorem file_ok (w : World) (s : B) (hs : s.length ≤ 900000) (hm : HasMax w) (hp : Pow w) (r : B × B × B) (h : fileB s = some r) :
    Calls Tryz.prog 98 #[S s] w (FileOk w r) := by
  obtain ⟨hd, rest, p, dg, n, e1, e2, hn, hr, rfl⟩ := fileB_some h
  have HC1 := cutD_any w 10 s (by omega) hm
  have l1 := cut1_len 10 s
  rw [e1] at HC1 l1
  have HC2 := Lib.hid (fun w1 (hw : Ext w w1) => cutD_any w1 32 hd (by simp at l1; omega) (hm.ext hw))
  rw [e2] at HC2
  simp only at HC1 HC2 l1
  have HC1 := Lib.hid HC1
  have HPW := Lib.hid hp
  have HN := Lib.hid (fun w1 (hw : Ext w w1) => number_ok w1 dg (HPW.out.ext hw) n hn)
  have hn9 : n < 10000 := by
    have h1 := atoi_lt (numB_some hn).1
    have h2 : (10 : Int) ^ dg.length ≤ 10 ^ 4 := by exact_mod_cast Nat.pow_le_pow_right (show 0 < 10 by omega) (numB_some hn).2.1
    omega
  have hl : n < rest.length := (List.getElem?_eq_some_iff.1 hr).1
  have hlz : ¬ (rest.length : Int) ≤ (n : Int) := by omega
  have hlz2 : (n : Int) < (rest.length : Int) := by omega
  have hlz3 : (n : Int) + 1 ≤ (rest.length : Int) := by omega
  have hlz4 : (n : Int) ≤ (rest.length : Int) := by omega
  have hg := ba_get hr
  have hm1 := ba_mid rest 0 n
  rw [List.drop_zero] at hm1
  have hm2 := ba_end rest (n + 1)
  unfold FileOk
  obtain ⟨xb, hxb⟩ : ∃ xb, xb = rest.take n := ⟨_, rfl⟩
  obtain ⟨xr, hxr⟩ : ∃ xr, xr = rest.drop (n + 1) := ⟨_, rfl⟩
  rw [← hxb] at hm1
  rw [← hxr] at hm2
  simp only [← hxb, ← hxr]
  clear h e1 e2 hn hr hs hm hp hxb hxr l1
  go_enter Tryz.func98, Tryz.ntmps98
  go_wp2_with fail
  refine HC1.out.mono ?_
  rintro e w1 ⟨rfl, ho⟩
  have HO := Lib.hid ho
  clear ho
  go_wp2_with fail
  refine (HC2.out _ HO.out).mono ?_
  rintro e w2 ⟨rfl, ho⟩
  have HO2 := Lib.hid (HO.out.then ho)
  clear ho
  go_wp2_with fail
  refine (HN.out _ HO2.out).mono ?_
  rintro e w3 ⟨rfl, ho⟩
  have HO3 := Lib.hid (HO2.out.then ho)
  clear ho
  go_wp2_with fail
  have q2 : IntKind.i64.wrap ((n : Int) + 1) = (n : Int) + 1 := IntWalk.i64_in _ (by omega)
  have q3 : ((n : Int) + 1).toNat = n + 1 := by omega
  have q4 : (0 : Int) ≤ (n : Int) + 1 := by omega
  go_quiet (fail)
  go_wp2
  exact bodyPost_ret (v := .tuple #[S p, S xb, S xr, .bool true]) (by simp [results, Tryz.results98, go_sem]) rfl ⟨rfl, HO3.out.thenDrewN _⟩
end Go.Proofs.YtnmhaipjfpongabGreatDoor

namespace Go.Proofs.YtnmhaipjfpongabGreatDoor

theorem fileB_lt {s : B} {r : B × B × B} (h : fileB s = some r) : r.2.2.length < s.length ∧ r.1.length ≤ s.length ∧ r.2.1.length ≤ s.length := by
  obtain ⟨hd, rest, p, dg, n, e1, e2, hn, hr, rfl⟩ := fileB_some h
  have h1 := (cut1_spec 10 s).2.1
  rw [e1] at h1
  have h1 := h1 rfl
  have h2 := cut1_len 32 hd
  rw [e2] at h2
  have h3 : s.length = hd.length + 1 + rest.length := by rw [h1]; simp; omega
  have h4 : n < rest.length := (List.getElem?_eq_some_iff.1 hr).1
  simp at h2 ⊢
  omega

/-- The files of a text, one behind the other; n: more than its bytes. -/
def filesB : Nat → B → Option FL
  | 0, _ => none
  | n + 1, s => if s = [] then some [] else match fileB s with
    | none => none
    | some r => (filesB n r.2.2).map fun l => (r.1, r.2.1) :: l

theorem filesB_nil (n : Nat) : filesB (n + 1) [] = some [] := rfl
theorem filesB_bad {n : Nat} {s : B} (hs : s ≠ []) (h : fileB s = none) : filesB (n + 1) s = none := by rw [filesB, if_neg hs, h]
theorem filesB_more {n : Nat} {s : B} {r : B × B × B} (hs : s ≠ []) (h : fileB s = some r) : filesB (n + 1) s = (filesB n r.2.2).map fun l => (r.1, r.2.1) :: l := by rw [filesB, if_neg hs, h]

/-- Files put one by one. -/
def putsT (T : FL) (l : FL) : FL := l.foldl (fun T q => putT T q.1 q.2) T
def putsC : FL → FL → Nat
  | _, [] => 0
  | T, q :: l => if putCode T q.1 q.2 = 0 then putsC (putT T q.1 q.2) l else putCode T q.1 q.2

theorem putsT_step {T l : FL} {j : Nat} {q : B × B} (h : l[j]? = some q) : putsT T (l.take (j + 1)) = putT (putsT T (l.take j)) q.1 q.2 := by
  unfold putsT
  rw [List.take_add_one, h, List.foldl_append]
  rfl

theorem putsC_step {T : FL} : ∀ {l : FL} {j : Nat} {q : B × B}, l[j]? = some q → putsC T (l.take j) = 0 → putsC T (l.take (j + 1)) = putCode (putsT T (l.take j)) q.1 q.2
  | [], _, _, h, _ => by simp at h
  | x :: l, 0, q, h, _ => by
    obtain rfl : x = q := by simpa using h
    simp [putsC, putsT]
    intro e; exact e.symm
  | x :: l, j + 1, q, h, h0 => by
    simp only [List.take_succ_cons, putsC] at h0 ⊢
    split
    · rename_i hc
      rw [if_pos hc] at h0
      exact putsC_step (l := l) (by simpa using h) h0
    · rename_i hc
      rw [if_neg hc] at h0
      exact absurd h0 hc

theorem putsC_app {T : FL} : ∀ {a b : FL}, putsC T a ≠ 0 → putsC T (a ++ b) = putsC T a
  | [], _, h => absurd rfl h
  | x :: a, b, h => by
    simp only [List.cons_append, putsC] at h ⊢
    split
    · rename_i hc
      rw [if_pos hc] at h
      exact putsC_app h
    · rfl

theorem putsC_bad {l : FL} {T : FL} {j : Nat} {q : B × B} (h : l[j]? = some q) (h0 : putsC T (l.take j) = 0) (hc : putCode (putsT T (l.take j)) q.1 q.2 ≠ 0) : putsC T l = putCode (putsT T (l.take j)) q.1 q.2 := by
  have h1 := putsC_step h h0
  have h2 := List.take_append_drop (j + 1) l
  rw [← congrArg (putsC T) h2, putsC_app (by rw [h1]; exact hc), h1]

theorem Fits.puts {T : FL} (h : Fits T) : ∀ (l : FL), Fits (putsT T l)
  | [] => h
  | q :: l => Fits.puts (T := putT T q.1 q.2) (h.put q.1 q.2) l

instance (L : FL) : Decidable (Rising L) := inferInstanceAs (Decidable (List.Pairwise _ L))

/-- tree.Read's error. -/
def readC (s : B) : Nat := match filesB (s.length + 1) s with
  | none => 1
  | some l => if putsC [] l = 0 then if Rising l then 0 else 3 else putsC [] l
def readT (s : B) : FL := match filesB (s.length + 1) s with
  | none => []
  | some l => putsT [] l

theorem rise_next : ∀ {l : FL}, (∀ (i : Nat) x y, l[i]? = some x → l[i + 1]? = some y → x.1 < y.1) → Rising l
  | [], _ => List.Pairwise.nil
  | [x], _ => List.pairwise_singleton _ _
  | x :: y :: l, h => by
    have ih := rise_next (l := y :: l) fun i a b ha hb => h (i + 1) a b (by simpa using ha) (by simpa using hb)
    have h0 := h 0 x y rfl rfl
    refine List.pairwise_cons.2 ⟨fun z hz => ?_, ih⟩
    rcases List.mem_cons.1 hz with rfl | hz
    · exact h0
    · exact ltB_trans h0 ((List.pairwise_cons.1 ih).1 z hz)

theorem Rising.next {l : FL} (h : Rising l) {i : Nat} {x y : B × B} (hx : l[i]? = some x) (hy : l[i + 1]? = some y) : x.1 < y.1 := by
  obtain ⟨h1, rfl⟩ := List.getElem?_eq_some_iff.1 hx
  obtain ⟨h2, rfl⟩ := List.getElem?_eq_some_iff.1 hy
  exact List.pairwise_iff_getElem.1 h i (i + 1) h1 h2 (Nat.lt_succ_self i)

/-! ### numerals -/
theorem dig_toNat {k : Nat} (h : k < 10) : (UInt8.ofNat (48 + k)).toNat = 48 + k := by
  have : ∀ k : Fin 10, (UInt8.ofNat (48 + k.val)).toNat = 48 + k.val := by decide +kernel
  exact this ⟨k, h⟩

theorem dec_all (u : Nat) : ∀ c ∈ Lib.decDigits u, 48 ≤ c.toNat ∧ c.toNat ≤ 57 := by
  induction u using Nat.strongRecOn with
  | _ u ih =>
    intro c hc
    by_cases h : u < 10
    · rw [Lib.decDigits_one h, List.mem_singleton] at hc
      subst hc
      rw [dig_toNat h]; omega
    · rw [Lib.decDigits, dif_neg h] at hc
      rcases List.mem_append.1 hc with hc | hc
      · exact ih (u / 10) (by omega) c hc
      · rw [List.mem_singleton] at hc
        subst hc
        rw [dig_toNat (Nat.mod_lt _ (by decide))]
        have := Nat.mod_lt u (show 0 < 10 by decide)
        omega

theorem dec_ne (u : Nat) : Lib.decDigits u ≠ [] := by
  have h1 := Lib.decDigits_length u
  have h2 := Lib.nDigits_pos u
  intro e
  rw [e] at h1
  simp at h1
  omega

theorem nDigits_le : ∀ (k u : Nat), 1 ≤ k → u < 10 ^ k → Lib.nDigits u ≤ k
  | 0, _, h, _ => absurd h (by decide)
  | k + 1, u, _, h => by
    by_cases h0 : u < 10
    · rw [Lib.nDigits_small h0]; omega
    · rw [Lib.nDigits_big h0]
      have hk : 1 ≤ k := by
        rcases Nat.eq_zero_or_pos k with e | e
        · subst e; simp at h; omega
        · exact e
      rw [Nat.pow_succ] at h
      have := nDigits_le k (u / 10) hk (by omega)
      omega

theorem parse_app {b : B} : ∀ {a : B} {acc v : Nat}, Lib.parseUint10 acc a = .ok v → Lib.parseUint10 acc (a ++ b) = Lib.parseUint10 v b
  | [], acc, v, h => by
    simp only [Lib.parseUint10] at h
    injection h with h
    rw [h]; rfl
  | c :: r, acc, v, h => by
    rw [List.cons_append]
    simp only [Lib.parseUint10] at h ⊢
    split at h
    · rename_i hc
      rw [if_pos hc]
      split at h
      · cases h
      · rename_i h1
        rw [if_neg h1]
        split at h
        · cases h
        · rename_i h2
          rw [if_neg h2]
          exact parse_app h
    · cases h

theorem parse_dec (u : Nat) : u < 1000000 → Lib.parseUint10 0 (Lib.decDigits u) = .ok u := by
  induction u using Nat.strongRecOn with
  | _ u ih =>
    intro hu
    by_cases h : u < 10
    · rw [Lib.decDigits_one h]
      simp only [Lib.parseUint10, dig_toNat h]
      rw [if_pos (by omega), if_neg (by omega), if_neg (by omega)]
      congr 1; omega
    · rw [Lib.decDigits, dif_neg h, parse_app (ih (u / 10) (by omega) (by omega))]
      have hm := Nat.mod_lt u (show 0 < 10 by decide)
      simp only [Lib.parseUint10, dig_toNat hm]
      rw [if_pos (by omega), if_neg (by omega), if_neg (by omega)]
      congr 1; omega

theorem num_dec {u : Nat} (h : u < 10000) : numB 4 (Lib.decDigits u) = some u := by
  have hp := parse_dec u (by omega)
  have hl : (Lib.decDigits u).length ≤ 4 := by rw [Lib.decDigits_length]; exact nDigits_le 4 u (by decide) h
  have ha : Lib.atoiAll (Lib.decDigits u) = .ok (u : Int) := by
    cases hd : Lib.decDigits u with
    | nil => exact absurd hd (dec_ne u)
    | cons c r =>
      have hc := dec_all u c (by rw [hd]; exact .head _)
      rw [hd] at hp
      have h1 : ¬ (c.toNat = 43 ∨ c.toNat = 45) := by omega
      have h2 : ¬ c.toNat = 45 := by omega
      simp only [Lib.atoiAll, Lib.parseMag, if_neg h1, hp]
      have h3 : ¬ (9223372036854775808 ≤ u) := by omega
      simp [h2, h3]
  unfold numB
  rw [ha]
  simp only
  rw [if_pos ⟨hl, by omega, rfl⟩]
  rfl

/-! ### what is written is read -/
theorem mem_joinS {c : UInt8} (hc : c ≠ 47) : ∀ {l : List B}, c ∈ joinS l → ∃ x ∈ l, c ∈ x
  | [], h => by simp [joinS_nil] at h
  | [x], h => ⟨x, .head _, by rwa [joinS_one] at h⟩
  | x :: y :: l, h => by
    rw [joinS_cons] at h
    rcases List.mem_append.1 h with h | h
    · exact ⟨x, .head _, h⟩
    · rcases List.mem_cons.1 h with h | h
      · exact absurd h hc
      · obtain ⟨z, hz, hcz⟩ := mem_joinS hc h
        exact ⟨z, .tail _ hz, hcz⟩

theorem path_bytes {p : B} (h : pathOk p = true) : (10 : UInt8) ∉ p ∧ (32 : UInt8) ∉ p ∧ p.length ≤ 65 := by
  unfold pathOk at h
  have hl := partsOk_all h
  have h5 : (cut p).length ≤ 5 := by unfold partsOk at h; simp only [Bool.and_eq_true, decide_eq_true_eq] at h; exact h.1
  have hj := join_cut p
  have key : ∀ c ∈ p, c = 47 ∨ byteOk false c = true := by
    intro c hc
    by_cases h47 : c = 47
    · exact .inl h47
    · right
      rw [← hj] at hc
      obtain ⟨x, hx, hcx⟩ := mem_joinS h47 hc
      exact nameOk_all (hl x hx) c hcx
  refine ⟨fun hm => ?_, fun hm => ?_, ?_⟩
  · rcases key _ hm with h | h
    · exact absurd h (by decide)
    · exact absurd h (by decide)
  · rcases key _ hm with h | h
    · exact absurd h (by decide)
    · exact absurd h (by decide)
  · have := joinS_len (cut p) 12 (fun x hx => nameOk_len (hl x hx))
    rw [hj] at this
    have h2 : (cut p).length * 13 ≤ 5 * 13 := Nat.mul_le_mul_right _ h5
    omega

theorem file_line {q : B × B} (h1 : pathOk q.1 = true) (h2 : q.2.length ≤ 2000) (rest : B) : fileB (lineT q ++ rest) = some (q.1, q.2, rest) := by
  obtain ⟨p10, p32, _⟩ := path_bytes h1
  have hd := dec_all q.2.length
  have e : lineT q ++ rest = (q.1 ++ 32 :: Lib.decDigits q.2.length) ++ 10 :: (q.2 ++ 10 :: rest) := by simp [lineT]
  have n10 : (10 : UInt8) ∉ q.1 ++ 32 :: Lib.decDigits q.2.length := by
    intro hm
    rcases List.mem_append.1 hm with hm | hm
    · exact p10 hm
    · rcases List.mem_cons.1 hm with hm | hm
      · exact absurd hm (by decide)
      · have := hd _ hm; exact absurd this (by decide)
  unfold fileB
  rw [e, cut1_hit 10 _ _ n10]
  simp only
  rw [cut1_hit 32 _ _ p32]
  simp only
  rw [num_dec (by omega)]
  simp

theorem lineT_ne (q : B × B) : lineT q ≠ [] := by simp [lineT]

theorem filesB_text : ∀ (L : FL), (∀ q ∈ L, pathOk q.1 = true) → (∀ q ∈ L, q.2.length ≤ 2000) → ∀ n, (textT L).length < n → filesB n (textT L) = some L
  | [], _, _, n + 1, _ => rfl
  | q :: L, h1, h2, n + 1, hn => by
    have e : textT (q :: L) = lineT q ++ textT L := List.flatMap_cons
    have hf := file_line (h1 q (.head _)) (h2 q (.head _)) (textT L)
    rw [← e] at hf
    have hne : textT (q :: L) ≠ [] := by rw [e]; intro h; exact lineT_ne q (List.append_eq_nil_iff.1 h).1
    have hlt : (textT L).length < n := by
      have := (fileB_lt hf).1
      simp only at this
      omega
    rw [filesB_more hne hf, filesB_text L (fun x hx => h1 x (.tail _ hx)) (fun x hx => h2 x (.tail _ hx)) n hlt]
    rfl

/-- None is above another one. -/
def Apart (L : FL) : Prop := ∀ q ∈ L, ∀ r ∈ L, aboveB q.1 r.1 = false

theorem aboveB_self (p : B) : aboveB p p = false := by
  unfold aboveB
  cases h : (p ++ [47]).isPrefixOf p with
  | false => rfl
  | true =>
    have := (List.isPrefixOf_iff_prefix.1 h).length_le
    rw [List.length_append] at this
    simp at this
    exact absurd this (by omega)

theorem Apart.nil : Apart [] := by intro q hq; simp at hq
theorem Apart.del {L : FL} (h : Apart L) (p : B) : Apart (delT L p) := fun q hq r hr => h q (List.mem_filter.1 hq).1 r (List.mem_filter.1 hr).1

theorem putCode_clash {L : FL} {p x : B} (h : putCode L p x = 0) : clash L p = false := by
  unfold putCode at h
  split at h
  · split at h
    · omega
    · split at h
      · omega
      · rename_i h3; simpa using h3
  · omega

theorem Apart.put {L : FL} (h : Apart L) (hr : Rising L) (p x : B) : Apart (putT L p x) := by
  unfold putT
  by_cases h0 : putCode L p x = 0
  · rw [if_pos h0]
    have hc := putCode_clash h0
    unfold clash at hc
    rw [List.any_eq_false] at hc
    have key : ∀ q ∈ L, aboveB p q.1 = false ∧ aboveB q.1 p = false := fun q hq => by
      have := hc q hq
      simpa using this
    intro q hq r hr'
    rcases mem_set hr hq with rfl | hq
    · rcases mem_set hr hr' with rfl | hr'
      · exact aboveB_self _
      · exact (key r hr').1
    · rcases mem_set hr hr' with rfl | hr'
      · exact (key q hq).2
      · exact h q hq r hr'
  · rw [if_neg h0]; exact h

theorem ins_last {p x : B} : ∀ {T : FL}, (∀ r ∈ T, r.1 < p) → insT T p x = T ++ [(p, x)]
  | [], _ => rfl
  | q :: T, h => by
    have h0 := h q (.head _)
    have ih := ins_last (x := x) (T := T) fun r hr => h r (.tail _ hr)
    unfold insT at ih ⊢
    rw [List.takeWhile_cons_of_pos (by simpa using h0), List.dropWhile_cons_of_pos (by simpa using h0), List.cons_append, ih]
    rfl

theorem puts_back {L : FL} (hf : Fits L) (ha : Apart L) : ∀ j, j ≤ L.length → putsC [] (L.take j) = 0 ∧ putsT [] (L.take j) = L.take j
  | 0, _ => ⟨rfl, rfl⟩
  | j + 1, hj => by
    obtain ⟨h1, h2⟩ := puts_back hf ha j (by omega)
    obtain ⟨q, hq⟩ : ∃ q, L[j]? = some q := ⟨_, List.getElem?_eq_getElem (by omega)⟩
    have hm := List.mem_of_getElem? hq
    have hlt : ∀ r ∈ L.take j, r.1 < q.1 := by
      intro r hr
      obtain ⟨i, hi⟩ := List.getElem?_of_mem hr
      rw [List.getElem?_take] at hi
      split at hi
      · rename_i hij
        obtain ⟨a1, rfl⟩ := List.getElem?_eq_some_iff.1 hi
        obtain ⟨a2, rfl⟩ := List.getElem?_eq_some_iff.1 hq
        exact List.pairwise_iff_getElem.1 hf.rising i j a1 a2 hij
      · cases hi
    have hlk : (L.take j).lookup q.1 = none := by
      cases hl : (L.take j).lookup q.1 with
      | none => rfl
      | some y =>
        exfalso
        exact ltB_irrefl _ (hlt (q.1, y) (mem_of_lookup hl))
    have hc : clash (L.take j) q.1 = false := by
      unfold clash
      rw [List.any_eq_false]
      intro r hr
      have hr' := List.mem_of_mem_take hr
      rw [ha q hm r hr', ha r hr' q hm]
      decide
    have hcode : putCode (L.take j) q.1 q.2 = 0 := by
      unfold putCode
      have h60 := hf.few
      rw [if_pos (hf.path q hm), if_neg (by have := hf.bytes q hm; omega), hc, if_neg (by decide), hlk, if_neg (by simp; omega)]
    refine ⟨?_, ?_⟩
    · rw [putsC_step hq h1, h2, hcode]
    · rw [putsT_step hq, h2]
      unfold putT setT
      rw [if_pos hcode, hlk, if_neg (by simp), ins_last hlt, List.take_add_one, hq]
      rfl

/-- The law: what a tree writes is read. -/
theorem read_back {L : FL} (hf : Fits L) (ha : Apart L) : readC (textT L) = 0 ∧ readT (textT L) = L := by
  have h1 := filesB_text L hf.path hf.bytes _ (Nat.lt_succ_self _)
  obtain ⟨h2, h3⟩ := puts_back hf ha L.length (Nat.le_refl _)
  rw [List.take_length] at h2 h3
  unfold readC readT
  rw [h1]
  simp only
  rw [if_pos h2, if_pos hf.rising]
  exact ⟨rfl, h3⟩
end Go.Proofs.YtnmhaipjfpongabGreatDoor

namespace Go.Proofs.YtnmhaipjfpongabGreatDoor
open Go.ChangeShapes Go.WideShapes Go.ChangeAt Go.RowKit

theorem infoOne : (Tryz.prog.info? 147).map (fun i => (i.zero, i.size, i.bytes)) = some (some (.agg #[.string ⟨#[]⟩, .string ⟨#[]⟩]), 2, 32) := by kernel_rfl

def ReadIs (w : World) (P : Nat → Addr) (s : B) (e : Ending) (w' : World) : Prop :=
  (readC s ≠ 0 → e = .returned (.tuple #[.pointer none, errC P (readC s)]) ∧ Ext w w') ∧
  (readC s = 0 → ∃ b mb, e = .returned (.tuple #[.pointer (some ⟨b, 0, none⟩), .nilIface]) ∧ TreeAt w' b mb (readT s) ∧ Ext w w' ∧ w.heap.size ≤ b ∧ w.heap.size ≤ mb)

theorem ReadIs.bad {w w' : World} {P : Nat → Addr} {s : B} {v : Value} {c : Nat} (h : readC s = c) (h0 : c ≠ 0) (hv : v = errC P c) (ho : Ext w w') : ReadIs w P s (.returned (.tuple #[.pointer none, v])) w' := by
  subst hv
  refine ⟨fun _ => ⟨by rw [h], ho⟩, fun e => absurd (h ▸ e) h0⟩

theorem ReadIs.good {w w' : World} {P : Nat → Addr} {s : B} {b mb : Nat} {T : FL} (h : readC s = 0) (hT : readT s = T) (ht : TreeAt w' b mb T) (ho : Ext w w') (hb : w.heap.size ≤ b) (hm : w.heap.size ≤ mb) :
    ReadIs w P s (.returned (.tuple #[.pointer (some ⟨b, 0, none⟩), .nilIface])) w' :=
  ⟨fun e => absurd h e, fun _ => ⟨b, mb, rfl, hT ▸ ht, ho, hb, hm⟩⟩

theorem readC_none {s : B} (h : filesB (s.length + 1) s = none) : readC s = 1 := by unfold readC; rw [h]
theorem readC_put {s : B} {l : FL} (h : filesB (s.length + 1) s = some l) (h0 : putsC [] l ≠ 0) : readC s = putsC [] l := by unfold readC; rw [h]; simp only; rw [if_neg h0]
theorem readC_rise {s : B} {l : FL} (h : filesB (s.length + 1) s = some l) (h0 : putsC [] l = 0) (hr : ¬ Rising l) : readC s = 3 := by unfold readC; rw [h]; simp only; rw [if_pos h0, if_neg hr]
theorem readC_ok {s : B} {l : FL} (h : filesB (s.length + 1) s = some l) (h0 : putsC [] l = 0) (hr : Rising l) : readC s = 0 := by unfold readC; rw [h]; simp only; rw [if_pos h0, if_pos hr]
theorem readT_of {s : B} {l : FL} (h : filesB (s.length + 1) s = some l) : readT s = putsT [] l := by unfold readT; rw [h]

/-- What has been parted: l, and r is left. -/
def Parted (s : B) (l : FL) (r : B) : Prop := (∃ n, r.length < n ∧ filesB (s.length + 1) s = (filesB n r).map (l ++ ·)) ∧ l.length + r.length ≤ s.length ∧ ∀ q ∈ l, q.1.length ≤ s.length

theorem Parted.start (s : B) : Parted s [] s := ⟨⟨s.length + 1, Nat.lt_succ_self _, by cases filesB (s.length + 1) s <;> simp⟩, by simp, by simp⟩

theorem Parted.next {s r : B} {l : FL} (h : Parted s l r) (hr : r ≠ []) {q : B × B × B} (hq : fileB r = some q) : Parted s (l ++ [(q.1, q.2.1)]) q.2.2 := by
  obtain ⟨⟨n, hn, he⟩, hl, hp⟩ := h
  have hlt := fileB_lt hq
  cases n with
  | zero => omega
  | succ n =>
    rw [filesB_more hr hq] at he
    refine ⟨⟨n, by omega, ?_⟩, by rw [List.length_append]; simp; omega, fun x hx => ?_⟩
    · rw [he, Option.map_map]
      congr 1
      funext t
      simp
    · rcases List.mem_append.1 hx with hx | hx
      · exact hp x hx
      · rw [List.mem_singleton] at hx
        subst hx
        show q.1.length ≤ _
        omega

theorem Parted.bad {s r : B} {l : FL} (h : Parted s l r) (hr : r ≠ []) (hq : fileB r = none) : filesB (s.length + 1) s = none := by
  obtain ⟨⟨n, hn, he⟩, _, _⟩ := h
  cases n with
  | zero => omega
  | succ n => rw [filesB_bad hr hq] at he; exact he

theorem Parted.whole {s : B} {l : FL} (h : Parted s l []) : filesB (s.length + 1) s = some l := by
  obtain ⟨⟨n, hn, he⟩, _, _⟩ := h
  cases n with
  | zero => simp at hn
  | succ n => rw [filesB_nil] at he; simpa using he

theorem path_le (L : FL) (hf : Fits L) : ∀ q ∈ L, q.1.length ≤ 999999 := fun q hq => by have := (path_bytes (hf.path q hq)).2.2; omega

set_option maxRecDepth 100000 in
set_option maxHeartbeats 4000000 in
theorem read_any (w : World) (s : B) (P : Nat → Addr) (hs : s.length ≤ 900000) (hE : Errs w P [0, 1, 2, 3, 6, 7]) (hm : HasMax w) (hv : AtoiVars w ∨ filesB (s.length + 1) s ≠ none) (hp : Pow w) :
    Calls Tryz.prog 34 #[S s] w (ReadIs w P s) := by
  have HF := Lib.hid (fun W (hW : Ext w W) r (h : r.length ≤ 900000) (hv : AtoiVars w) => file_bad W r h (hm.ext hW) (hv.ext hW) (hp.ext hW))
  have HAV := Lib.hid hv
  have HG := Lib.hid (fun W (hW : Ext w W) r (h : r.length ≤ 900000) => file_ok W r h (hm.ext hW) (hp.ext hW))
  have HPU := Lib.hid (fun W (hW : Ext w W) b mb T p x (h : TreeAt W b mb T) (hf : Fits T) (hp : p.length ≤ 999999) => treePut_any W P b mb T p x h hf ((hE.ext hW).sub (by decide)) (hm.ext hW) hp (path_le T hf))
  have HEE := Lib.hid hE
  have HLS := Lib.hid hs
  clear hs hE hm hv hp
  go_enter Tryz.func34, Tryz.ntmps34
  go_wp2_with fail
  refine (treeNew_any w).mono ?_
  rintro e w1 ⟨rfl, ht, ho, hsz⟩
  have HT := Lib.hid ht
  have HO := Lib.hid ho
  obtain ⟨b, hb⟩ : ∃ b, b = w.heap.size + 1 := ⟨_, rfl⟩
  obtain ⟨mb, hmb⟩ : ∃ mb, mb = w.heap.size := ⟨_, rfl⟩
  have HB : Hid (w.heap.size ≤ b ∧ w.heap.size ≤ mb ∧ b < w1.heap.size ∧ mb < w1.heap.size) := Lib.hid (by omega)
  rw [← hb, ← hmb] at HT
  rw [← hb]
  clear ht ho hsz hb hmb
  go_wp2_with fail
  go_loopw [0, 5, 6, 7, 8, 9] (fun sv v _ _ _ _ wr => ∃ (r : B) (l : FL), sv = S r ∧ Hid (Parted s l r) ∧ Hid (Ext w1 wr) ∧ Hid (wr.ownsRow w1.heap.size 147 2 v l.length (l.flatMap encF))) (fun sv _ _ _ _ _ _ => match sv with | .string x => x.size | _ => 0)
  case atStart => exact ⟨s, [], rfl, Lib.hid (Parted.start s), Lib.hid (Only.refl _ _), Lib.hid (World.ownsRow_nil _ _ _ _)⟩
  case round =>
    obtain ⟨r, l, rfl, HP, HX, HR⟩ := hrel
    by_cases hr : r = []
    · subst hr
      have HFL := Lib.hid HP.out.whole
      have HLP : Hid (∀ q ∈ l, q.1.length ≤ 999999) := Lib.hid fun q hq => by have := HP.out.2.2 q hq; have := HLS.out; omega
      have hl9 : l.length ≤ 900000 := by have := HP.out.2.1; have := HLS.out; omega
      have hnb := row_geT HR.out
      have hrd := RdS.of_row encF_len HR.out
      obtain ⟨a, cap, rfl, hcap, hml, hc⟩ := hrd
      have HNB := Lib.hid hnb
      have HRD : Hid (RdS 2 encF wr (.slice a l.length cap) l) := Lib.hid (RdS.of_row encF_len HR.out)
      have HTR := Lib.hid (HT.out.ext HX.out)
      have HXX := Lib.hid (HO.out.then HX.out)
      clear hnb hc HP HR HT
      go_wp2_with fail
      go_loopw [11, 12, 37] (fun _ _ i wq => ∃ j : Nat, j ≤ l.length ∧ i = .int .i64 j ∧ Hid (Ext w wq) ∧ Hid (RdS 2 encF wq (.slice a l.length cap) l) ∧ Hid (TreeAt wq b mb (putsT [] (l.take j))) ∧ Hid (putsC [] (l.take j) = 0)) (fun _ _ i _ => l.length - (intOf i).toNat)
      case atStart => exact ⟨0, Nat.zero_le _, rfl, HXX, HRD, Lib.hid HTR.out, Lib.hid rfl⟩
      case round =>
        clear HTR HXX HRD HX
        obtain ⟨j, hj, rfl, HX, HRD, HTR, HC0⟩ := hrel
        by_cases hlt : j < l.length
        · have hltz : (j : Int) < (l.length : Int) := by omega
          obtain ⟨a', cap', hv, _, _, hc⟩ := HRD.out
          cases hv
          obtain ⟨b0, off0, rfl, hcell⟩ := hc (by intro h; rw [h] at hlt; simp at hlt)
          obtain ⟨⟨p, x⟩, hq⟩ : ∃ y, l[j]? = some y := ⟨_, List.getElem?_eq_getElem hlt⟩
          have d0 : wr.cell? ⟨b0, off0 + j * 2, none⟩ = some (S p) := hcell j _ hq 0 _ rfl
          have d1 : wr.cell? ⟨b0, off0 + j * 2 + 1, none⟩ = some (S x) := hcell j _ hq 1 _ rfl
          have HQ := Lib.hid hq
          obtain ⟨T, hT⟩ : ∃ T, T = putsT [] (l.take j) := ⟨_, rfl⟩
          have HT := Lib.hid hT
          rw [← hT] at HTR
          have hft : Fits T := hT ▸ Fits.puts Fits.nil _
          have hxa := fun W => HPU.out W
          have hpl : p.length ≤ 999999 := HLP.out _ (List.mem_of_getElem? hq)
          have HFT := Lib.hid hft
          have HPL := Lib.hid hpl
          have HST := Lib.hid (putsT_step (T := []) hq)
          have HSC := Lib.hid (fun h => putsC_step (T := []) hq h)
          have HBAD := Lib.hid (fun h => putsC_bad (T := []) hq h)
          clear hxa hft hpl hcell hq hc
          cases hc : putCode T p x with
          | zero =>
            have HC := Lib.hid hc
            clear hc
            go_wp2_with fail
            refine (HPU.out _ (HX.out.thenAlloc _) b mb T p x (HTR.out.ext (Only.alloc _ _ _)) HFT.out HPL.out).mono ?_
            rintro e w2 ⟨rfl, ht2, ho2⟩
            rw [HC.out, show errC P 0 = .nilIface from rfl]
            have HX2 : Hid (Ext w w2) := Lib.hid ((HX.out.thenAlloc _).trans ho2 (fun _ _ h => h) (fun i hi e => by have := HB.out.2.1; omega))
            have HR2 : Hid (RdS 2 encF w2 (.slice (some ⟨b0, off0, none⟩) l.length cap) l) := Lib.hid ((HRD.out.ext (Only.alloc _ _ _)).later ho2 fun k hk e => by have := HNB.out k hk; have := HB.out.2.2.2; omega)
            have HT2 := Lib.hid ht2
            clear ht2 ho2
            go_wp2_with fail
            go_roundw
            case rel => exact ⟨j + 1, by omega, by go_num, HX2, HR2, Lib.hid (by rw [HST.out, ← HT.out]; exact HT2.out), Lib.hid (by rw [HSC.out HC0.out, ← HT.out]; exact HC.out)⟩
            case measure => simp [intOf]; omega
          | succ c =>
            have HC := Lib.hid hc
            clear hc
            have hbd : putsC [] l = c + 1 := by rw [HBAD.out HC0.out (by rw [← HT.out, HC.out]; exact Nat.succ_ne_zero _), ← HT.out]; exact HC.out
            have HE := Lib.hid ((readC_put HFL.out (by rw [hbd]; exact Nat.succ_ne_zero _)).trans hbd)
            clear hbd
            go_wp2_with fail
            refine (HPU.out _ (HX.out.thenAlloc _) b mb T p x (HTR.out.ext (Only.alloc _ _ _)) HFT.out HPL.out).mono ?_
            rintro e w2 ⟨rfl, ht2, ho2⟩
            rw [HC.out, show errC P (c + 1) = errV (P c) from rfl]
            have HX2 : Hid (Ext w w2) := Lib.hid ((HX.out.thenAlloc _).trans ho2 (fun _ _ h => h) (fun i hi e => by have := HB.out.2.1; omega))
            clear ht2 ho2
            go_wp2_with fail
            go_ret2
            exact ReadIs.bad HE.out (Nat.succ_ne_zero _) rfl HX2.out
        · have hltz : ¬ (j : Int) < (l.length : Int) := by omega
          have ht : l.take j = l := List.take_of_length_le (by omega)
          rw [ht] at HTR HC0
          have HRT := Lib.hid (readT_of HFL.out)
          clear hj hlt ht
          go_wp2_with fail
          go_loopw [13, 14, 53] (fun _ _ i wq => ∃ j : Nat, j ≤ l.length ∧ i = .int .i64 j ∧ Hid (Ext wr wq) ∧ Hid (∀ (i : Nat) x y, i + 1 < j → l[i]? = some x → l[i + 1]? = some y → x.1 < y.1)) (fun _ _ i _ => l.length - (intOf i).toNat)
          case atStart => exact ⟨0, Nat.zero_le _, rfl, Lib.hid (Only.refl _ _), Lib.hid (fun i x y h => absurd h (Nat.not_lt_zero _))⟩
          case round =>
            obtain ⟨j, hj, rfl, HY, HRI⟩ := hrel
            have HX3 := Lib.hid (HX.out.then HY.out)
            by_cases hlt : j < l.length
            · have hltz : (j : Int) < (l.length : Int) := by omega
              obtain ⟨a', cap', hv, _, _, hc⟩ := (HRD.out.ext HY.out)
              cases hv
              obtain ⟨b0, off0, rfl, hcell⟩ := hc (by intro h; rw [h] at hlt; simp at hlt)
              obtain ⟨⟨p, x⟩, hq⟩ : ∃ y, l[j]? = some y := ⟨_, List.getElem?_eq_getElem hlt⟩
              have d0 : wr.cell? ⟨b0, off0 + j * 2, none⟩ = some (S p) := hcell j _ hq 0 _ rfl
              have d1 : wr.cell? ⟨b0, off0 + j * 2 + 1, none⟩ = some (S x) := hcell j _ hq 1 _ rfl
              by_cases h0 : j = 0
              · have d0' : wr.cell? ⟨b0, off0, none⟩ = some (S p) := by simpa [h0] using d0
                have d1' : wr.cell? ⟨b0, off0 + 1, none⟩ = some (S x) := by simpa [h0] using d1
                clear hcell hq hc d0 d1
                subst h0
                go_wp2_with fail
                go_quiet (fail)
                go_wp2_with fail
                go_roundw
                case rel => exact ⟨1, by omega, by go_num, Lib.hid ((HY.out.thenAlloc _).thenDrewN _), Lib.hid (fun i x y h => absurd h (by omega))⟩
                case measure => simp [intOf]; omega
              · obtain ⟨k, hk⟩ : ∃ k, j = k + 1 := ⟨j - 1, by omega⟩
                obtain ⟨⟨p', x'⟩, hq'⟩ : ∃ y, l[k]? = some y := ⟨_, List.getElem?_eq_getElem (by omega)⟩
                have d2 : wr.cell? ⟨b0, off0 + k * 2, none⟩ = some (S p') := hcell k _ hq' 0 _ rfl
                have hkl : (k : Int) < (l.length : Int) := by omega
                have d2' : (wr.alloc (.cells #[S p, S x] 147 (0, 0))).cell? ⟨b0, off0 + k * 2, none⟩ = some (S p') := (Only.alloc (fun _ => False) _ _).cellOf d2 (fun h => h)
                have hk0 : (0 : Int) ≤ (k : Int) := by omega
                have hbl := bytesLess_eq p p'
                have HQ := Lib.hid hq
                have HQ' := Lib.hid hq'
                clear hcell hq hc hq'
                have hwk : IntKind.i64.wrap ((j : Int) - 1) = (k : Int) := by rw [show (j : Int) - 1 = (k : Int) by omega]; exact IntWalk.i64_in _ (by omega)
                have hg : decide (0 < j) = true := decide_eq_true (by omega)
                have HK := Lib.hid hk
                clear hk h0
                by_cases hpp : p' < p
                · rw [decide_eq_false (List.lt_asymm hpp)] at hbl
                  have hbe : (p == p') = false := beq_eq_false_iff_ne.2 fun e => ltB_irrefl _ (e ▸ hpp)
                  have HPP := Lib.hid hpp
                  clear hpp
                  go_wp2_with fail
                  go_quiet (fail)
                  go_wp2_with fail
                  go_roundw
                  case rel => exact ⟨j + 1, by omega, by go_num, Lib.hid ((HY.out.thenAlloc _).thenDrewN _), Lib.hid (fun i x y hi h1 h2 => by
                    rcases Nat.lt_succ_iff_lt_or_eq.1 hi with h | h
                    · exact HRI.out i x y h h1 h2
                    · have := HK.out
                      obtain rfl : i = k := by omega
                      rw [HQ'.out] at h1
                      rw [← HK.out, HQ.out] at h2
                      cases h1; cases h2
                      exact HPP.out)⟩
                  case measure => simp [intOf]; omega
                · have hor : (Op.bytesLess p p' || p == p') = true := by
                    rw [hbl]
                    by_cases e : p = p'
                    · simp [e]
                    · have : p < p' := Classical.byContradiction fun h => e (ltB_tri h hpp)
                      simp [this]
                  have HE := Lib.hid (readC_rise HFL.out HC0.out (fun h => hpp (h.next HQ'.out (HK.out ▸ HQ.out))))
                  have c0 := (HEE.out.ext (HX3.out.thenAlloc (.cells #[S p, S x] 147 (0, 0)))).var 2 _ (by decide) rfl
                  clear hbl hpp
                  go_wp2_with fail
                  go_quiet (fail)
                  go_wp2_with fail
                  go_quiet (fail)
                  go_wp2
                  go_ret2
                  exact ReadIs.bad HE.out (by decide) rfl (by first | exact ((HX3.out.thenAlloc _).thenDrewN _).thenDrewN _ | exact (HX3.out.thenAlloc _).thenDrewN _)
            · have hltz : ¬ (j : Int) < (l.length : Int) := by omega
              have hri : Rising l := rise_next fun i x y h1 h2 => HRI.out i x y (by have := (List.getElem?_eq_some_iff.1 h2).1; omega) h1 h2
              have HRR := Lib.hid (readC_ok HFL.out HC0.out hri)
              have HTT := Lib.hid (HTR.out.ext HY.out)
              clear hri hlt
              go_wp2_with fail
              go_ret2
              exact ReadIs.good HRR.out HRT.out HTT.out HX3.out HB.out.1 HB.out.2.1
    · have hre : (r == []) = false := beq_eq_false_iff_ne.2 hr
      have hrl : r.length ≤ 900000 := by have := HP.out.2.1; have := HLS.out; omega
      have hll : l.length ≤ 1000000 := by have := HP.out.2.1; have := HLS.out; omega
      cases hq : fileB r with
      | none =>
        have HFF := Lib.hid (HF.out wr (HO.out.then HX.out) r hrl (HAV.out.resolve_right fun h => h (HP.out.bad hr hq)) hq)
        have HC := Lib.hid (readC_none (HP.out.bad hr hq))
        clear hq hrl hll hr
        go_wp2_with fail
        refine HFF.out.mono ?_
        rintro e w2 ⟨rfl, ho⟩
        have HX2 := Lib.hid ((HO.out.then HX.out).then ho)
        have c0 := (HEE.out.ext HX2.out).var 0 _ (by decide) rfl
        clear ho
        go_wp2_with fail
        go_quiet (fail)
        go_wp2
        go_ret2
        exact ReadIs.bad HC.out (by decide) rfl (HX2.out.thenDrewN _)
      | some t =>
        have HN := Lib.hid (HP.out.next hr hq)
        have HLT := Lib.hid (fileB_lt hq)
        have HGG := Lib.hid (HG.out wr (HO.out.then HX.out) r hrl t hq)
        obtain ⟨p, x, r2⟩ := t
        have HLL := Lib.hid hll
        clear hq hrl hr hll
        go_wp2_with fail
        refine HGG.out.mono ?_
        rintro e w2 ⟨rfl, ho⟩
        have HX2 := Lib.hid (HX.out.then ho)
        have HR2 := Lib.hid (ho.row HR.out (fun _ _ h => h))
        clear ho
        go_wp2_with (at_builtin; refine wpList_appS encF 143 147 2 32 _ infoOne Tryz.underlying143 rfl (by decide) encF_len encF_one (by decide) (.tmp 28) (.tmp 32) w1.heap.size _ l (p, x) _ _ rfl rfl rfl rfl rfl HR2.out HLL.out HX2.out.size ?_; intro g5 cap5 w5 ho5 hg5 ha5; have b5 : Ext w1 w5 := grown_baseT HX2.out (row_geT HR2.out) hg5; have HX5 := Lib.hid b5; have HO5 := Lib.hid ho5; clear ho5 hg5 ha5 b5)
        go_roundw
        case rel => exact ⟨r2, l ++ [(p, x)], rfl, HN, HX5, Lib.hid (by rw [List.length_append]; exact HO5.out)⟩
        case measure => simpa [ByteArray.size] using HLT.out.1
end Go.Proofs.YtnmhaipjfpongabGreatDoor

/- Texts of this seat laid together: H1, H2, V15, W1, W2. No condition of its own: what each proves stands with its theorems. -/
import Derived.Test.YtnmhaipjfpongacGreatDoorGa
import Derived.HandedShaped
import Derived.Handed
import Derived.OpenShut
import Derived.ChangeMaps5
import Derived.SliceStrings
import Derived.Shelf.Vars
import Derived.Lay
import Derived.Test.YtnmhaipjfpongacGreatDoorProg
import Derived.Conc.Holds
import Derived.Leaving
import Derived.SevenTiedAt
import Derived.Test.YtnmhaipjfpongacGreatDoorGg
import Derived.Test.YtnmhaipjfpongacGreatDoorGc
import Derived.Test.YtnmhaipjfpongacGreatDoorGf
import Derived.Test.YtnmhaipjfpongacGreatDoorGe
import Derived.Test.YtnmhaipjfpongacGreatDoorGb
import Derived.Lib.AtoiAllCases
import Derived.IntWalk
namespace Go.Proofs.YtnmhaipjfpongacGreatDoor
open Go.ChangeShapes Go.WideShapes Go.ChangeAt Go.RowKit

variable {H : Type} {enc : TypeId × Value → H}

theorem handed_both {a : Assume} {C : Checked} {os : Os} {f : FuncId} {fn : Func} {s : ChangeSpec} {conds : List PathCond} {apart fresh handsOn again : Bool} {X : World → Array Value → Prop}
    (hX : ∀ (w w' : World) (args : Array Value), w.heap = w'.heap → X w args → X w' args) (own : ownKnob C.prog.godebug = none) (started : os.Started) (noInit : C.prog.inits.idxOf? f = none) (hfn : C.prog.funcs[f]? = some fn)
    (witness : ∃ (w : World) (tape : Tape) (i : Input), w.os = os ∧ (w.forCall tape i).Shaped C.prog ∧ i.vars = [] ∧ Input.okWide C.prog (w.forCall tape i) .any w.heap.size f i ∧
      ((s.pre enc C.prog fn conds apart (w.forCall tape i).memory i.args ∧ X (w.forCall tape i).memory i.args) ∧ sizedMet enc C.prog fn (OpenSpec.ofChange s) apart (w.forCall tape i).memory i.args) ∧ a.holds C.prog (lone (Frame.enter C.prog f i.args .normal) [] (w.forCall tape i)))
    (contract : ∀ (W : World) (base : Nat) (args : Array Value) (ds gs : List (DataW H)) (before : List MemPlace),
      (∀ (j : Nat) t v, fn.params[j]? = some t → args[j]? = some v → Value.okWide C.prog W .any base t v) → DataW.Whole enc C.prog fn.params.toList s.vars apart W args.toList ds gs before →
      conds.all (PathCond.test C.prog ⟨fn.params.toList, ds, s.plain.varTypes C.prog, gs⟩) = true → (DataW.weightsEach C.prog (fn.params.toList ++ s.plain.varTypes C.prog) (ds ++ gs)).all (· ≤ reachBytes) = true →
      X W args → W.ShapedOpen C.prog → a.holds C.prog (lone (Frame.enter C.prog f args .normal) [] W) →
      Calls C.prog f args W fun e W' => ∃ v, e = .returned v ∧ s.post enc C.prog fn apart fresh handsOn again W args v W') :
    ReturnsInHanded a C os f .any (fun w args => (s.pre enc C.prog fn conds apart w args ∧ X w args) ∧ sizedMet enc C.prog fn (OpenSpec.ofChange s) apart w args) (s.post enc C.prog fn apart fresh handsOn again) := by
  refine returnsInHanded_of_calls own started noInit witness fun w tape i _ hsh _ hok hpre hh => ?_
  obtain ⟨_, _, _, fn', hfn', _, _, _, _, hval⟩ := hok
  obtain rfl := Option.some.inj (hfn'.symm.trans hfn)
  obtain ⟨⟨⟨ds, gs, before, hw, hc⟩, hx⟩, hz⟩ := hpre
  have hw' := DataW.Whole.of_heap (w' := w.forCall tape i) (by rfl) hw
  refine (contract _ w.heap.size i.args ds gs before hval hw' hc (hz.weights hw) (hX _ _ _ (by rfl) hx) hsh hh).mono ?_
  rintro e W' ⟨v, rfl, hp⟩
  exact ChangeSpec.post_blind hp

/-- Listed variables laid over whatever world: the condition is met there. -/
theorem laidMet_over {P : Program} {w0 : World} {laid : List (String × DataW Unit)} (args : Array Value) (hf : w0.layFits P laid [] = true) (hi : w0.layIfaces P laid (w0.layVars P laid) = true) :
    laidMet P laid ((w0.layVars P laid).forCall (fun _ _ => 0) ⟨#[], args, []⟩).memory := by
  have hin : ∀ x ∈ laid, (laid.map (·.1)).contains x.1 = true := fun x hx => List.contains_iff_mem.2 (List.mem_map.2 ⟨x, hx, rfl⟩)
  have e1 : (laid.filter fun x => (laid.map (·.1)).contains x.1) = laid := List.filter_eq_self.2 hin
  have e2 : (laid.filter fun x => !(laid.map (·.1)).contains x.1) = [] := List.filter_eq_nil_iff.2 fun x hx => by rw [hin x hx]; simp
  have h : laidMet P laid (w0.layVars P laid) := laidMet_layVars (laid.map (·.1)) [] (by rw [e1]) (by rw [e1]; exact hf) (by rw [e1]; exact hi) (by rw [e2]; exact LaidIn.none)
  exact h.of_heap (by simp [World.memory, World.forCall, Input.heap])

set_option maxRecDepth 100000 in
theorem open_text {H : Type} {enc : TypeId × Value → H} {w : World} {sp : Nat → Bool} {held : Bool} {base b0 : Nat} {r : Reach} {v : Value} {d : DataW H} {ps : List MemPlace} (hd : DataW.Trod enc Tryz.prog w base sp held 9 v d ps) (hval : Value.okWide Tryz.prog w r b0 9 v) : ∃ s : B, v = S s := by
  obtain ⟨s, rfl, _, _, _⟩ := Go.ChangeMaps.open_string Tryz.underlying9 hval hd
  exact ⟨s.data.toList, by simp⟩

set_option maxRecDepth 100000 in
theorem open_texts {H : Type} {enc : TypeId × Value → H} {w : World} {sp : Nat → Bool} {held : Bool} {base b0 : Nat} {r : Reach} {v : Value} {d : DataW H} {ps : List MemPlace} (hd : DataW.Trod enc Tryz.prog w base sp held 53 v d ps) (hval : Value.okWide Tryz.prog w r b0 53 v) : ∃ l : List B, Rd S w v l := by
  obtain ⟨a, len, cap, rfl⟩ := okWide_slice Tryz.underlying53 hval
  obtain ⟨fuel, hf⟩ := hd
  have hf' : DataW.trod enc Tryz.prog w base sp held fuel 53 [.slice a len cap] = some (d, ps) := by simpa [Value.cells] using hf
  rcases open_strings Tryz.underlying53 Tryz.underlying9 (by kernel_rfl) hf' with ⟨h0, _⟩ | ⟨ad, len', cap', ss, h0, _, hl, hm, hss, _, hc, _⟩
  · cases h0
    exact ⟨[], Rd.nil _ _⟩
  · cases h0
    have hle : len ≤ ss.length := by rw [hss]; split <;> omega
    refine ⟨(ss.take len).map (·.data.toList), some ad, cap, by simp [Nat.min_eq_left hle], by simpa [Nat.min_eq_left hle] using hl, hm, fun hne => ?_⟩
    have hpos : 0 < ss.length := by
      rcases Nat.eq_zero_or_pos ss.length with h | h
      · exact absurd (by simp [List.length_eq_zero_iff.1 h]) hne
      · exact h
    obtain ⟨b, off, spot⟩ := ad
    have h00 := hc 0 hpos
    have hs : spot = none := by simpa [Addr.add] using World.cell?_spot h00
    subst hs
    refine ⟨b, off, rfl, fun i x hx => ?_⟩
    rw [List.getElem?_map] at hx
    obtain ⟨y, hy, rfl⟩ := Option.map_eq_some_iff.1 hx
    have hi : i < len := by have := (List.getElem?_eq_some_iff.1 hy).1; simp at this; omega
    rw [List.getElem?_take_of_lt hi] at hy
    have := hc i (by omega)
    have ea : (⟨b, off, none⟩ : Addr).add i = ⟨b, off + i, none⟩ := by
      unfold Addr.add
      split
      · subst_vars; rfl
      · rfl
    rw [ea, List.getD_eq_getElem?_getD, hy] at this
    simpa using this
end Go.Proofs.YtnmhaipjfpongacGreatDoor

namespace Go.Proofs.YtnmhaipjfpongacGreatDoor
open Go.ChangeShapes Go.WideShapes Go.ChangeAt Go.RowKit

theorem leaving_of_handed {a : Assume} {C : Checked} {os : Os} {f : FuncId} {Pre : World → Array Value → Prop} {Post : World → Array Value → Value → World → Prop} (h : ReturnsInHanded a C os f .any Pre Post) : ReturnsInLeavingWide a C os f .any Pre Post :=
  fun enter => ReturnsInOpen.mono (fun _ _ _ x => ⟨x.2.1, onlyLeaving_of_quiet x.1, x.2.2⟩) (fun _ x => x) (h enter)

theorem weightsAll_in {H : Type} {P : Program} {e : TypeId} : ∀ {l : List (DataW H)} {d : DataW H}, d ∈ l → ∀ n ∈ d.weights P e, n ∈ DataW.weightsAll P e l
  | d' :: r, d, hd, n, hn => by
    simp only [DataW.weightsAll, List.mem_append]
    rcases List.mem_cons.1 hd with rfl | h
    · exact Or.inl hn
    · exact Or.inr (weightsAll_in h n hn)

/-- All that is read of an argument is within the form's reach. -/
theorem reach_arg {H : Type} {P : Program} {ts : List TypeId} {ds : List (DataW H)} (h : (DataW.weightsEach P ts ds).all (· ≤ reachBytes) = true) {j : Nat} {t : TypeId} {d : DataW H} (ht : ts[j]? = some t) (hd : ds[j]? = some d) : ∀ n ∈ d.weights P t, n ≤ 140737488351232 :=
  fun n hn => of_decide_eq_true (List.all_eq_true.1 h _ (DataW.weights_mem_each ht hd n hn))

theorem weights_elem {H : Type} {P : Program} {t e : TypeId} (hu : P.underlying t = some (.slice e)) {elems spare : List (DataW H)} {d : DataW H} (hd : d ∈ elems) : ∀ n ∈ d.weights P e, n ∈ (DataW.slice elems spare).weights P t := by
  intro n hn
  simp only [DataW.weights, hu, List.mem_cons, List.mem_append]
  exact .inr (.inl (weightsAll_in hd n hn))

theorem weights_part {H : Type} {P : Program} {t e : TypeId} {fs : Array Field} (hu : P.underlying t = some (.struct fs)) {parts : List (DataW H)} {j : Nat} {d : DataW H} (he : (fs.toList.map (·.type))[j]? = some e) (hd : parts[j]? = some d) : ∀ n ∈ d.weights P e, n ∈ (DataW.agg parts).weights P t := by
  intro n hn
  simp only [DataW.weights, hu]
  exact DataW.weights_mem_each he hd n hn

/-- A tied card without a companion, of a program that may start goroutines. -/
theorem holds_tied_goes (Lk : Looks) {p : Pinned} {s : OpenSpec} {c : OpenClaim} (kinds : List LaidKind) (tests : Bool) (har : Bool × String) (lk : Bool) (g : Bool)
    (hc : c.holds p s) (hw : c.wfByText s = true) (htie : c.laidByTextAt Lk p kinds tests)
    (hst : c.start = .entering) (hnb : c.noBlocks = false ∧ c.again = false) (hm : p.checked.prog.mainIs = some (har.1, har.2.toList)) (hn : (!har.1 && har.2.isEmpty && !lk) = false)
    (hl : ∀ f fn, p.checked.prog.funcNamed c.func = some f → p.checked.prog.funcs[f]? = some fn → lk = p.checked.prog.looks [] ∧ ∀ (j : Nat) t, fn.params[j]? = some t → p.checked.prog.wantsStandIn t = false)
    (hg : g = c.goesBy p.checked.prog) :
    Claim7.holds p (.plain s) { stood := { row := c, standIns := [], harness := har, looks := lk }, kinds := [], alts := [], goes := g, laidByText := true, laidKinds := kinds, laidTests := tests, laidLooks := Lk } := by
  have h6 : Claim7.isSixth { stood := { row := c, standIns := [], harness := har, looks := lk }, kinds := [] } = false := by simpa [Claim7.isSixth] using hn
  exact ⟨Claim7.tied_new_at Lk kinds tests (Claim7.new_of_sixth hc har lk hst hnb hm h6 hl) hw, (fun D hD => by cases hD), htie, (fun h => by cases h), hg⟩
end Go.Proofs.YtnmhaipjfpongacGreatDoor

namespace Go.Proofs.YtnmhaipjfpongacGreatDoor
open Go.ChangeShapes Go.WideShapes Go.ChangeAt Go.RowKit

theorem putCode_le (L : FL) (p x : B) : putCode L p x ≤ 12 := by
  unfold putCode
  repeat' split
  all_goals omega

def remCode (L : FL) (p : B) : Nat := if (L.lookup p).isSome then 0 else 6
theorem remCode_le (L : FL) (p : B) : remCode L p ≤ 12 := by unfold remCode; split <;> omega

structure TT (w0 wr : World) (b mb m : Nat) (slv : Value) (LT LM : FL) : Prop where
  ext : Ext w0 wr
  nb : w0.heap.size ≤ b
  nmb : w0.heap.size ≤ mb
  nm : w0.heap.size ≤ m
  tree : TreeAt wr b mb LT
  model : RTree wr w0.heap.size m slv LM

/-- A struct of the walk's own, in a block that is neither tree's. -/
structure TA (e : TypeId) (w0 wr : World) (b mb m : Nat) (slv : Value) (LT LM : FL) (ha : Nat) (cs : Array Value) : Prop where
  tt : TT w0 wr b mb m slv LT LM
  act : wr.heap[ha]? = some (.cells cs e (0, 0))

theorem blocks_ne {w : World} {b b' : Nat} {cs cs' : Array Value} {e e' : TypeId} {fr fr' : Nat × Nat} (h : w.heap[b]? = some (.cells cs e fr)) (h' : w.heap[b']? = some (.cells cs' e' fr')) (hne : e ≠ e') : b ≠ b' := by
  rintro rfl
  rw [h] at h'
  cases h'
  exact hne rfl

section
variable {w0 wr w' : World} {b mb m : Nat} {slv : Value} {LT LM : FL} {ha : Nat} {cs : Array Value} {e : TypeId}

theorem TT.later (J : TT w0 wr b mb m slv LT LM) (h : Ext wr w') : TT w0 w' b mb m slv LT LM :=
  ⟨J.ext.then h, J.nb, J.nmb, J.nm, J.tree.ext h, J.model.ext h⟩

theorem TT.m_mb (J : TT w0 wr b mb m slv LT LM) : m ≠ mb := heap_ne_map J.model.cells J.tree.map
theorem TT.b_m (J : TT w0 wr b mb m slv LT LM) : b ≠ m := blocks_ne J.tree.cells J.model.cells (by decide)
theorem TT.s_mb (J : TT w0 wr b mb m slv LT LM) : ∀ i, slv.ownBlock = some i → i ≠ mb := row_ne_map J.model.row J.tree.map
theorem TT.s_b (J : TT w0 wr b mb m slv LT LM) : ∀ i, slv.ownBlock = some i → i ≠ b := row_ne J.model.row J.tree.cells (by decide)

theorem TT.treeStep {L' : FL} (J : TT w0 wr b mb m slv LT LM) (ht : TreeAt w' b mb L') (ho : Only (fun i => i = mb) wr w') : TT w0 w' b mb m slv L' LM :=
  ⟨J.ext.trans ho (fun _ _ h => h) (fun i hi e => by have := J.nmb; omega), J.nb, J.nmb, J.nm, ht, J.model.later ho J.m_mb J.s_mb⟩

theorem TT.modelStep {L' : FL} {r : Value} {x : Ending} (J : TT w0 wr b mb m slv LT LM) (h : RDone wr w0.heap.size m slv L' r x w') : ∃ slv', x = .returned r ∧ TT w0 w' b mb m slv' LT L' ∧ Only (InR m slv) wr w' := by
  obtain ⟨slv', rfl, hr, ho, _⟩ := h
  refine ⟨slv', rfl, ⟨J.ext.trans ho (fun _ _ h => h) (fun i hi e => ?_), J.nb, J.nmb, J.nm, J.tree.later ho (fun e => ?_) (fun e => ?_), hr⟩, ho⟩
  · rcases e with e | e
    · have := J.nm; omega
    · have := (J.model.row.lt i e).1; omega
  · rcases e with e | e
    · exact J.b_m e
    · exact J.s_b b e rfl
  · rcases e with e | e
    · exact J.m_mb e.symm
    · exact J.s_mb mb e rfl

theorem TA.later (J : TA e w0 wr b mb m slv LT LM ha cs) (h : Ext wr w') : TA e w0 w' b mb m slv LT LM ha cs := ⟨J.tt.later h, h.heapOf J.act (fun h => h)⟩

theorem TA.treeStep {L' : FL} (J : TA e w0 wr b mb m slv LT LM ha cs) (ht : TreeAt w' b mb L') (ho : Only (fun i => i = mb) wr w') : TA e w0 w' b mb m slv L' LM ha cs :=
  ⟨J.tt.treeStep ht ho, ho.heapOf J.act (heap_ne_map J.act J.tt.tree.map)⟩

theorem TA.modelStep {L' : FL} {r : Value} {x : Ending} (he1 : e ≠ 147) (he2 : e ≠ 65) (J : TA e w0 wr b mb m slv LT LM ha cs) (h : RDone wr w0.heap.size m slv L' r x w') : ∃ slv', x = .returned r ∧ TA e w0 w' b mb m slv' LT L' ha cs := by
  obtain ⟨slv', rfl, h1, ho⟩ := J.tt.modelStep h
  refine ⟨slv', rfl, h1, ho.heapOf J.act fun h => ?_⟩
  rcases h with h | h
  · exact blocks_ne J.act J.tt.model.cells he1 h
  · exact row_ne J.tt.model.row J.act (Ne.symm he2) ha h rfl

theorem TA.c (J : TA e w0 wr b mb m slv LT LM ha cs) (j : Nat) : wr.cell? ⟨ha, j, none⟩ = cs[j]? := cell_of_heap J.act j

theorem TA.at (J : TA e w0 wr b mb m slv LT LM ha cs) {j : Nat} {u : Value} (h : cs[j]? = some u) : wr.cell? ⟨ha, j, none⟩ = some u := (J.c j).trans h

theorem TA.put {P : Nat → Addr} (J : TA e w0 wr b mb m slv LT LM ha cs) (hf : Fits LT) (hs : Sents w0 P) (hm : HasMax w0) (hl : ∀ q ∈ LT, q.1.length ≤ 1000) (p x : B) (hp : p.length ≤ 999999) :
    Calls Tryz.prog 38 #[.pointer (some ⟨b, 0, none⟩), S p, S x] wr fun r w' => r = .returned (errC P (putCode LT p x)) ∧ TA e w0 w' b mb m slv (putT LT p x) LM ha cs :=
  (treePut_any wr P b mb LT p x J.tt.tree hf ((hs.ext J.tt.ext).errs _) (hm.ext J.tt.ext) hp (fun q hq => by have := hl q hq; omega)).mono fun _ _ ⟨h1, h2, h3⟩ => ⟨h1, J.treeStep h2 h3⟩

theorem TA.putM (he1 : e ≠ 147) (he2 : e ≠ 65) (J : TA e w0 wr b mb m slv LT LM ha cs) (hf : Fits LM) (p x : B) (hp : p.length ≤ 999999) :
    Calls Tryz.prog 30 #[.pointer (some ⟨m, 0, none⟩), S p, S x] wr fun r w' => ∃ slv', r = .returned (I (putCode LM p x)) ∧ TA e w0 w' b mb m slv' LT (putT LM p x) ha cs :=
  (putM_any wr w0.heap.size m slv LM p x J.tt.model hf.rising (by have := hf.few; omega) hp J.tt.ext.size).mono fun _ _ h => J.modelStep he1 he2 h

theorem TA.remove {P : Nat → Addr} (J : TA e w0 wr b mb m slv LT LM ha cs) (hs : Sents w0 P) (p : B) :
    Calls Tryz.prog 37 #[.pointer (some ⟨b, 0, none⟩), S p] wr fun r w' => r = .returned (errC P (remCode LT p)) ∧ TA e w0 w' b mb m slv (delT LT p) LM ha cs :=
  (treeRemove_any wr b mb LT p (P 5) J.tt.tree ((hs.ext J.tt.ext).var 5 _ rfl)).mono fun _ _ ⟨h1, h2, h3⟩ => ⟨by rw [h1]; unfold remCode; split <;> rfl, J.treeStep h2 h3⟩
theorem TA.removeM (he1 : e ≠ 147) (he2 : e ≠ 65) (J : TA e w0 wr b mb m slv LT LM ha cs) (hf : Fits LM) (p : B) :
    Calls Tryz.prog 71 #[.pointer (some ⟨m, 0, none⟩), S p] wr fun r w' => ∃ slv', r = .returned (I (remCode LM p)) ∧ TA e w0 w' b mb m slv' LT (delT LM p) ha cs :=
  (removeM_any wr w0.heap.size m slv LM p J.tt.model hf.rising.nodup (by have := hf.few; omega) J.tt.ext.size).mono fun _ _ h => by
    obtain ⟨slv', h1, h2⟩ := J.modelStep he1 he2 h
    exact ⟨slv', by rw [h1]; unfold remCode; split <;> rfl, h2⟩
end

theorem lens_put {L : FL} (hr : Rising L) {n : Nat} (h : ∀ q ∈ L, q.1.length ≤ n) (p x : B) (hp : p.length ≤ n) : ∀ q ∈ putT L p x, q.1.length ≤ n := by
  intro q hq
  unfold putT at hq
  split at hq
  · rcases mem_set hr hq with rfl | h1
    · exact hp
    · exact h q h1
  · exact h q hq
theorem lens_del {L : FL} {n : Nat} (h : ∀ q ∈ L, q.1.length ≤ n) (p : B) : ∀ q ∈ delT L p, q.1.length ≤ n := fun q hq => h q (List.mem_filter.1 hq).1

/-! ### a closed fact: a file -/
end Go.Proofs.YtnmhaipjfpongacGreatDoor

namespace Go.Proofs.YtnmhaipjfpongacGreatDoor
open Go.ChangeShapes Go.WideShapes Go.ChangeAt Go.RowKit

/-- What strconv's two errors hold: something. -/
def AtoiVars (w : World) : Prop := (∃ t p, w.cell? ⟨17, 0, none⟩ = some (.iface t p)) ∧ ∃ t p, w.cell? ⟨18, 0, none⟩ = some (.iface t p)
theorem AtoiVars.ext {w w' : World} (h : AtoiVars w) (ho : Ext w w') : AtoiVars w' := by
  obtain ⟨⟨t, p, h1⟩, t', p', h2⟩ := h
  exact ⟨⟨t, p, ho.cellOf h1 (fun h => h)⟩, t', p', ho.cellOf h2 (fun h => h)⟩

theorem atoi_ok (w : World) (s : B) (hs : s.length ≤ 1000000) (v : Int) (h : Lib.atoiAll s = .ok v) :
    Calls Tryz.prog 305 #[S s] w fun e w' => e = .returned (.tuple #[I v, .nilIface]) ∧ Ext w w' := by
  refine (Tryz.strconv_Atoi_ok ⟨s.toArray⟩ (by simp [ByteArray.size]; omega) v h w).mono ?_
  rintro e w' ⟨rfl, rfl | ⟨t, rfl⟩⟩
  · exact ⟨rfl, Only.refl _ _⟩
  · exact ⟨rfl, Only.of_below (Lib.bytesWorld_below _ _ _)⟩

def IfaceIs (w : World) (e : Ending) (w' : World) : Prop := ∃ v t p, e = .returned (.tuple #[I v, .iface t p]) ∧ Ext w w'

theorem atoi_bad (w : World) (s : B) (hs : s.length ≤ 1000000) (hv : AtoiVars w) (h : ∀ v, Lib.atoiAll s ≠ .ok v) :
    Calls Tryz.prog 305 #[S s] w (IfaceIs w) := by
  obtain ⟨⟨t, p, h1⟩, t', p', h2⟩ := hv
  cases hq : Lib.atoiAll s with
  | ok v => exact absurd hq (h v)
  | range =>
    refine (Tryz.strconv_Atoi_range ⟨s.toArray⟩ (by simp [ByteArray.size]; omega) hq _ w h2 (.inr ⟨_, _, rfl⟩)).mono ?_
    rintro e w' ⟨N, rfl, _, _, hb⟩
    exact ⟨_, _, _, rfl, Only.of_below hb⟩
  | _ =>
    refine (Any.strconv_Atoi_syntax Tryz.laysC172 ⟨s.toArray⟩ (by simp [ByteArray.size]; omega) hq _ w h1 (.inr ⟨_, _, rfl⟩)).mono ?_
    rintro e w' ⟨N, rfl, _, _, hb⟩
    exact ⟨_, _, _, rfl, Only.of_below hb⟩

/-! ### numbers in plain words -/
def numB (k : Nat) (s : B) : Option Nat :=
  match Lib.atoiAll s with
  | .ok v => if s.length ≤ k ∧ 0 ≤ v ∧ Lib.decDigits v.toNat = s then some v.toNat else none
  | _ => none

theorem parse10_lt : ∀ (l : B) (acc u : Nat), Lib.parseUint10 acc l = .ok u → u < (acc + 1) * 10 ^ l.length
  | [], acc, u, h => by
    simp only [Lib.parseUint10] at h
    injection h with h
    simp; omega
  | c :: r, acc, u, h => by
    simp only [Lib.parseUint10] at h
    split at h
    · rename_i hc
      split at h
      · cases h
      · split at h
        · cases h
        · have := parse10_lt r _ u h
          rw [List.length_cons, Nat.pow_succ]
          refine Nat.lt_of_lt_of_le this ?_
          rw [Nat.mul_comm (10 ^ r.length) 10, ← Nat.mul_assoc]
          exact Nat.mul_le_mul_right _ (by omega)
    · cases h

theorem atoi_lt {s : B} {v : Int} (h : Lib.atoiAll s = .ok v) : v < 10 ^ s.length := by
  cases s with
  | nil => cases h
  | cons c r =>
    simp only [Lib.atoiAll] at h
    split at h
    · cases h
    · cases h
    · rename_i u hu
      have hu2 : (u : Int) < 10 ^ (c :: r).length := by
        have hl : (if c.toNat = 43 ∨ c.toNat = 45 then r else c :: r).length ≤ (c :: r).length := by split <;> simp
        generalize (if c.toNat = 43 ∨ c.toNat = 45 then r else c :: r) = q at hu hl
        unfold Lib.parseMag at hu
        by_cases hq : q = []
        · rw [if_pos hq] at hu; cases hu
        · rw [if_neg hq] at hu
          have := parse10_lt _ 0 u hu
          have h2 := Nat.pow_le_pow_right (show 0 < 10 by omega) hl
          have h3 : u < 10 ^ (c :: r).length := by omega
          exact_mod_cast h3
      split at h
      · cases h
      · split at h
        · cases h
        · injection h with h
          have h0 : (0 : Int) < 10 ^ (c :: r).length := by exact_mod_cast Nat.pow_pos (show 0 < 10 by omega)
          split at h <;> omega

def NumBad (w : World) (e : Ending) (w' : World) : Prop := ∃ v, e = .returned (.tuple #[I v, .bool false]) ∧ Ext w w'

theorem numB_some {k : Nat} {s : B} {n : Nat} (h : numB k s = some n) : Lib.atoiAll s = .ok (n : Int) ∧ s.length ≤ k ∧ Lib.decDigits n = s := by
  unfold numB at h
  split at h
  · rename_i v hv
    split at h
    · rename_i hc
      cases h
      obtain ⟨h1, h2, h3⟩ := hc
      exact ⟨by rw [hv, Int.toNat_of_nonneg h2], h1, h3⟩
    · cases h
  · cases h

/-! ### a file of a text -/
def fileB (s : B) : Option (B × B × B) :=
  if (cut1 10 s).2.2 && (cut1 32 (cut1 10 s).1).2.2 then
    match numB 4 (cut1 32 (cut1 10 s).1).2.1 with
    | some n => if ((cut1 10 s).2.1)[n]? = some 10 then some ((cut1 32 (cut1 10 s).1).1, ((cut1 10 s).2.1).take n, ((cut1 10 s).2.1).drop (n + 1)) else none
    | none => none
  else none

def FileBad (w : World) (e : Ending) (w' : World) : Prop := e = .returned (.tuple #[S [], S [], S [], .bool false]) ∧ Ext w w'
def FileOk (w : World) (r : B × B × B) (e : Ending) (w' : World) : Prop := e = .returned (.tuple #[S r.1, S r.2.1, S r.2.2, .bool true]) ∧ Ext w w'

theorem fileB_some {s : B} {r : B × B × B} (h : fileB s = some r) : ∃ hd rest p dg n, cut1 10 s = (hd, rest, true) ∧ cut1 32 hd = (p, dg, true) ∧ numB 4 dg = some n ∧ rest[n]? = some 10 ∧ r = (p, rest.take n, rest.drop (n + 1)) := by
  unfold fileB at h
  generalize cut1 10 s = c1 at h
  obtain ⟨hd, rest, is⟩ := c1
  simp only at h
  generalize hq : cut1 32 hd = c2 at h
  obtain ⟨p, dg, two⟩ := c2
  simp only at h
  split at h
  · rename_i hc
    simp at hc
    obtain ⟨rfl, rfl⟩ := hc
    split at h
    · rename_i n hn
      split at h
      · rename_i hr
        cases h
        exact ⟨hd, rest, p, dg, n, rfl, hq, hn, hr, rfl⟩
      · cases h
    · cases h
  · cases h

end Go.Proofs.YtnmhaipjfpongacGreatDoor

namespace Go.Proofs.YtnmhaipjfpongacGreatDoor

theorem fileB_lt {s : B} {r : B × B × B} (h : fileB s = some r) : r.2.2.length < s.length ∧ r.1.length ≤ s.length ∧ r.2.1.length ≤ s.length := by
  obtain ⟨hd, rest, p, dg, n, e1, e2, hn, hr, rfl⟩ := fileB_some h
  have h1 := (cut1_spec 10 s).2.1
  rw [e1] at h1
  have h1 := h1 rfl
  have h2 := cut1_len 32 hd
  rw [e2] at h2
  have h3 : s.length = hd.length + 1 + rest.length := by rw [h1]; simp; omega
  have h4 : n < rest.length := (List.getElem?_eq_some_iff.1 hr).1
  simp at h2 ⊢
  omega

/-- The files of a text, one behind the other; n: more than its bytes. -/
def filesB : Nat → B → Option FL
  | 0, _ => none
  | n + 1, s => if s = [] then some [] else match fileB s with
    | none => none
    | some r => (filesB n r.2.2).map fun l => (r.1, r.2.1) :: l

theorem filesB_nil (n : Nat) : filesB (n + 1) [] = some [] := rfl
theorem filesB_bad {n : Nat} {s : B} (hs : s ≠ []) (h : fileB s = none) : filesB (n + 1) s = none := by rw [filesB, if_neg hs, h]
theorem filesB_more {n : Nat} {s : B} {r : B × B × B} (hs : s ≠ []) (h : fileB s = some r) : filesB (n + 1) s = (filesB n r.2.2).map fun l => (r.1, r.2.1) :: l := by rw [filesB, if_neg hs, h]

/-- Files put one by one. -/
def putsT (T : FL) (l : FL) : FL := l.foldl (fun T q => putT T q.1 q.2) T
def putsC : FL → FL → Nat
  | _, [] => 0
  | T, q :: l => if putCode T q.1 q.2 = 0 then putsC (putT T q.1 q.2) l else putCode T q.1 q.2

theorem putsT_step {T l : FL} {j : Nat} {q : B × B} (h : l[j]? = some q) : putsT T (l.take (j + 1)) = putT (putsT T (l.take j)) q.1 q.2 := by
  unfold putsT
  rw [List.take_add_one, h, List.foldl_append]
  rfl

theorem putsC_step {T : FL} : ∀ {l : FL} {j : Nat} {q : B × B}, l[j]? = some q → putsC T (l.take j) = 0 → putsC T (l.take (j + 1)) = putCode (putsT T (l.take j)) q.1 q.2
  | [], _, _, h, _ => by simp at h
  | x :: l, 0, q, h, _ => by
    obtain rfl : x = q := by simpa using h
    simp [putsC, putsT]
    intro e; exact e.symm
  | x :: l, j + 1, q, h, h0 => by
    simp only [List.take_succ_cons, putsC] at h0 ⊢
    split
    · rename_i hc
      rw [if_pos hc] at h0
      exact putsC_step (l := l) (by simpa using h) h0
    · rename_i hc
      rw [if_neg hc] at h0
      exact absurd h0 hc

theorem putsC_app {T : FL} : ∀ {a b : FL}, putsC T a ≠ 0 → putsC T (a ++ b) = putsC T a
  | [], _, h => absurd rfl h
  | x :: a, b, h => by
    simp only [List.cons_append, putsC] at h ⊢
    split
    · rename_i hc
      rw [if_pos hc] at h
      exact putsC_app h
    · rfl

theorem putsC_bad {l : FL} {T : FL} {j : Nat} {q : B × B} (h : l[j]? = some q) (h0 : putsC T (l.take j) = 0) (hc : putCode (putsT T (l.take j)) q.1 q.2 ≠ 0) : putsC T l = putCode (putsT T (l.take j)) q.1 q.2 := by
  have h1 := putsC_step h h0
  have h2 := List.take_append_drop (j + 1) l
  rw [← congrArg (putsC T) h2, putsC_app (by rw [h1]; exact hc), h1]

theorem Fits.puts {T : FL} (h : Fits T) : ∀ (l : FL), Fits (putsT T l)
  | [] => h
  | q :: l => Fits.puts (T := putT T q.1 q.2) (h.put q.1 q.2) l

instance (L : FL) : Decidable (Rising L) := inferInstanceAs (Decidable (List.Pairwise _ L))

/-- tree.Read's error. -/
def readC (s : B) : Nat := match filesB (s.length + 1) s with
  | none => 1
  | some l => if putsC [] l = 0 then if Rising l then 0 else 3 else putsC [] l
def readT (s : B) : FL := match filesB (s.length + 1) s with
  | none => []
  | some l => putsT [] l

theorem rise_next : ∀ {l : FL}, (∀ (i : Nat) x y, l[i]? = some x → l[i + 1]? = some y → x.1 < y.1) → Rising l
  | [], _ => List.Pairwise.nil
  | [x], _ => List.pairwise_singleton _ _
  | x :: y :: l, h => by
    have ih := rise_next (l := y :: l) fun i a b ha hb => h (i + 1) a b (by simpa using ha) (by simpa using hb)
    have h0 := h 0 x y rfl rfl
    refine List.pairwise_cons.2 ⟨fun z hz => ?_, ih⟩
    rcases List.mem_cons.1 hz with rfl | hz
    · exact h0
    · exact ltB_trans h0 ((List.pairwise_cons.1 ih).1 z hz)

theorem Rising.next {l : FL} (h : Rising l) {i : Nat} {x y : B × B} (hx : l[i]? = some x) (hy : l[i + 1]? = some y) : x.1 < y.1 := by
  obtain ⟨h1, rfl⟩ := List.getElem?_eq_some_iff.1 hx
  obtain ⟨h2, rfl⟩ := List.getElem?_eq_some_iff.1 hy
  exact List.pairwise_iff_getElem.1 h i (i + 1) h1 h2 (Nat.lt_succ_self i)

/-! ### numerals -/
theorem dig_toNat {k : Nat} (h : k < 10) : (UInt8.ofNat (48 + k)).toNat = 48 + k := by
  have : ∀ k : Fin 10, (UInt8.ofNat (48 + k.val)).toNat = 48 + k.val := by decide +kernel
  exact this ⟨k, h⟩

theorem dec_all (u : Nat) : ∀ c ∈ Lib.decDigits u, 48 ≤ c.toNat ∧ c.toNat ≤ 57 := by
  induction u using Nat.strongRecOn with
  | _ u ih =>
    intro c hc
    by_cases h : u < 10
    · rw [Lib.decDigits_one h, List.mem_singleton] at hc
      subst hc
      rw [dig_toNat h]; omega
    · rw [Lib.decDigits, dif_neg h] at hc
      rcases List.mem_append.1 hc with hc | hc
      · exact ih (u / 10) (by omega) c hc
      · rw [List.mem_singleton] at hc
        subst hc
        rw [dig_toNat (Nat.mod_lt _ (by decide))]
        have := Nat.mod_lt u (show 0 < 10 by decide)
        omega

theorem dec_ne (u : Nat) : Lib.decDigits u ≠ [] := by
  have h1 := Lib.decDigits_length u
  have h2 := Lib.nDigits_pos u
  intro e
  rw [e] at h1
  simp at h1
  omega

theorem nDigits_le : ∀ (k u : Nat), 1 ≤ k → u < 10 ^ k → Lib.nDigits u ≤ k
  | 0, _, h, _ => absurd h (by decide)
  | k + 1, u, _, h => by
    by_cases h0 : u < 10
    · rw [Lib.nDigits_small h0]; omega
    · rw [Lib.nDigits_big h0]
      have hk : 1 ≤ k := by
        rcases Nat.eq_zero_or_pos k with e | e
        · subst e; simp at h; omega
        · exact e
      rw [Nat.pow_succ] at h
      have := nDigits_le k (u / 10) hk (by omega)
      omega

theorem parse_app {b : B} : ∀ {a : B} {acc v : Nat}, Lib.parseUint10 acc a = .ok v → Lib.parseUint10 acc (a ++ b) = Lib.parseUint10 v b
  | [], acc, v, h => by
    simp only [Lib.parseUint10] at h
    injection h with h
    rw [h]; rfl
  | c :: r, acc, v, h => by
    rw [List.cons_append]
    simp only [Lib.parseUint10] at h ⊢
    split at h
    · rename_i hc
      rw [if_pos hc]
      split at h
      · cases h
      · rename_i h1
        rw [if_neg h1]
        split at h
        · cases h
        · rename_i h2
          rw [if_neg h2]
          exact parse_app h
    · cases h

theorem parse_dec (u : Nat) : u < 1000000 → Lib.parseUint10 0 (Lib.decDigits u) = .ok u := by
  induction u using Nat.strongRecOn with
  | _ u ih =>
    intro hu
    by_cases h : u < 10
    · rw [Lib.decDigits_one h]
      simp only [Lib.parseUint10, dig_toNat h]
      rw [if_pos (by omega), if_neg (by omega), if_neg (by omega)]
      congr 1; omega
    · rw [Lib.decDigits, dif_neg h, parse_app (ih (u / 10) (by omega) (by omega))]
      have hm := Nat.mod_lt u (show 0 < 10 by decide)
      simp only [Lib.parseUint10, dig_toNat hm]
      rw [if_pos (by omega), if_neg (by omega), if_neg (by omega)]
      congr 1; omega

theorem num_dec {u : Nat} (h : u < 10000) : numB 4 (Lib.decDigits u) = some u := by
  have hp := parse_dec u (by omega)
  have hl : (Lib.decDigits u).length ≤ 4 := by rw [Lib.decDigits_length]; exact nDigits_le 4 u (by decide) h
  have ha : Lib.atoiAll (Lib.decDigits u) = .ok (u : Int) := by
    cases hd : Lib.decDigits u with
    | nil => exact absurd hd (dec_ne u)
    | cons c r =>
      have hc := dec_all u c (by rw [hd]; exact .head _)
      rw [hd] at hp
      have h1 : ¬ (c.toNat = 43 ∨ c.toNat = 45) := by omega
      have h2 : ¬ c.toNat = 45 := by omega
      simp only [Lib.atoiAll, Lib.parseMag, if_neg h1, hp]
      have h3 : ¬ (9223372036854775808 ≤ u) := by omega
      simp [h2, h3]
  unfold numB
  rw [ha]
  simp only
  rw [if_pos ⟨hl, by omega, rfl⟩]
  rfl

/-! ### what is written is read -/
theorem mem_joinS {c : UInt8} (hc : c ≠ 47) : ∀ {l : List B}, c ∈ joinS l → ∃ x ∈ l, c ∈ x
  | [], h => by simp [joinS_nil] at h
  | [x], h => ⟨x, .head _, by rwa [joinS_one] at h⟩
  | x :: y :: l, h => by
    rw [joinS_cons] at h
    rcases List.mem_append.1 h with h | h
    · exact ⟨x, .head _, h⟩
    · rcases List.mem_cons.1 h with h | h
      · exact absurd h hc
      · obtain ⟨z, hz, hcz⟩ := mem_joinS hc h
        exact ⟨z, .tail _ hz, hcz⟩

theorem path_bytes {p : B} (h : pathOk p = true) : (10 : UInt8) ∉ p ∧ (32 : UInt8) ∉ p ∧ p.length ≤ 65 := by
  unfold pathOk at h
  have hl := partsOk_all h
  have h5 : (cut p).length ≤ 5 := by unfold partsOk at h; simp only [Bool.and_eq_true, decide_eq_true_eq] at h; exact h.1
  have hj := join_cut p
  have key : ∀ c ∈ p, c = 47 ∨ byteOk false c = true := by
    intro c hc
    by_cases h47 : c = 47
    · exact .inl h47
    · right
      rw [← hj] at hc
      obtain ⟨x, hx, hcx⟩ := mem_joinS h47 hc
      exact nameOk_all (hl x hx) c hcx
  refine ⟨fun hm => ?_, fun hm => ?_, ?_⟩
  · rcases key _ hm with h | h
    · exact absurd h (by decide)
    · exact absurd h (by decide)
  · rcases key _ hm with h | h
    · exact absurd h (by decide)
    · exact absurd h (by decide)
  · have := joinS_len (cut p) 12 (fun x hx => nameOk_len (hl x hx))
    rw [hj] at this
    have h2 : (cut p).length * 13 ≤ 5 * 13 := Nat.mul_le_mul_right _ h5
    omega

theorem file_line {q : B × B} (h1 : pathOk q.1 = true) (h2 : q.2.length ≤ 2000) (rest : B) : fileB (lineT q ++ rest) = some (q.1, q.2, rest) := by
  obtain ⟨p10, p32, _⟩ := path_bytes h1
  have hd := dec_all q.2.length
  have e : lineT q ++ rest = (q.1 ++ 32 :: Lib.decDigits q.2.length) ++ 10 :: (q.2 ++ 10 :: rest) := by simp [lineT]
  have n10 : (10 : UInt8) ∉ q.1 ++ 32 :: Lib.decDigits q.2.length := by
    intro hm
    rcases List.mem_append.1 hm with hm | hm
    · exact p10 hm
    · rcases List.mem_cons.1 hm with hm | hm
      · exact absurd hm (by decide)
      · have := hd _ hm; exact absurd this (by decide)
  unfold fileB
  rw [e, cut1_hit 10 _ _ n10]
  simp only
  rw [cut1_hit 32 _ _ p32]
  simp only
  rw [num_dec (by omega)]
  simp

theorem lineT_ne (q : B × B) : lineT q ≠ [] := by simp [lineT]

theorem filesB_text : ∀ (L : FL), (∀ q ∈ L, pathOk q.1 = true) → (∀ q ∈ L, q.2.length ≤ 2000) → ∀ n, (textT L).length < n → filesB n (textT L) = some L
  | [], _, _, n + 1, _ => rfl
  | q :: L, h1, h2, n + 1, hn => by
    have e : textT (q :: L) = lineT q ++ textT L := List.flatMap_cons
    have hf := file_line (h1 q (.head _)) (h2 q (.head _)) (textT L)
    rw [← e] at hf
    have hne : textT (q :: L) ≠ [] := by rw [e]; intro h; exact lineT_ne q (List.append_eq_nil_iff.1 h).1
    have hlt : (textT L).length < n := by
      have := (fileB_lt hf).1
      simp only at this
      omega
    rw [filesB_more hne hf, filesB_text L (fun x hx => h1 x (.tail _ hx)) (fun x hx => h2 x (.tail _ hx)) n hlt]
    rfl

/-- None is above another one. -/
def Apart (L : FL) : Prop := ∀ q ∈ L, ∀ r ∈ L, aboveB q.1 r.1 = false

theorem aboveB_self (p : B) : aboveB p p = false := by
  unfold aboveB
  cases h : (p ++ [47]).isPrefixOf p with
  | false => rfl
  | true =>
    have := (List.isPrefixOf_iff_prefix.1 h).length_le
    rw [List.length_append] at this
    simp at this
    exact absurd this (by omega)

theorem Apart.nil : Apart [] := by intro q hq; simp at hq
theorem Apart.del {L : FL} (h : Apart L) (p : B) : Apart (delT L p) := fun q hq r hr => h q (List.mem_filter.1 hq).1 r (List.mem_filter.1 hr).1

theorem putCode_clash {L : FL} {p x : B} (h : putCode L p x = 0) : clash L p = false := by
  unfold putCode at h
  split at h
  · split at h
    · omega
    · split at h
      · omega
      · rename_i h3; simpa using h3
  · omega

theorem Apart.put {L : FL} (h : Apart L) (hr : Rising L) (p x : B) : Apart (putT L p x) := by
  unfold putT
  by_cases h0 : putCode L p x = 0
  · rw [if_pos h0]
    have hc := putCode_clash h0
    unfold clash at hc
    rw [List.any_eq_false] at hc
    have key : ∀ q ∈ L, aboveB p q.1 = false ∧ aboveB q.1 p = false := fun q hq => by
      have := hc q hq
      simpa using this
    intro q hq r hr'
    rcases mem_set hr hq with rfl | hq
    · rcases mem_set hr hr' with rfl | hr'
      · exact aboveB_self _
      · exact (key r hr').1
    · rcases mem_set hr hr' with rfl | hr'
      · exact (key q hq).2
      · exact h q hq r hr'
  · rw [if_neg h0]; exact h

theorem ins_last {p x : B} : ∀ {T : FL}, (∀ r ∈ T, r.1 < p) → insT T p x = T ++ [(p, x)]
  | [], _ => rfl
  | q :: T, h => by
    have h0 := h q (.head _)
    have ih := ins_last (x := x) (T := T) fun r hr => h r (.tail _ hr)
    unfold insT at ih ⊢
    rw [List.takeWhile_cons_of_pos (by simpa using h0), List.dropWhile_cons_of_pos (by simpa using h0), List.cons_append, ih]
    rfl

theorem puts_back {L : FL} (hf : Fits L) (ha : Apart L) : ∀ j, j ≤ L.length → putsC [] (L.take j) = 0 ∧ putsT [] (L.take j) = L.take j
  | 0, _ => ⟨rfl, rfl⟩
  | j + 1, hj => by
    obtain ⟨h1, h2⟩ := puts_back hf ha j (by omega)
    obtain ⟨q, hq⟩ : ∃ q, L[j]? = some q := ⟨_, List.getElem?_eq_getElem (by omega)⟩
    have hm := List.mem_of_getElem? hq
    have hlt : ∀ r ∈ L.take j, r.1 < q.1 := by
      intro r hr
      obtain ⟨i, hi⟩ := List.getElem?_of_mem hr
      rw [List.getElem?_take] at hi
      split at hi
      · rename_i hij
        obtain ⟨a1, rfl⟩ := List.getElem?_eq_some_iff.1 hi
        obtain ⟨a2, rfl⟩ := List.getElem?_eq_some_iff.1 hq
        exact List.pairwise_iff_getElem.1 hf.rising i j a1 a2 hij
      · cases hi
    have hlk : (L.take j).lookup q.1 = none := by
      cases hl : (L.take j).lookup q.1 with
      | none => rfl
      | some y =>
        exfalso
        exact ltB_irrefl _ (hlt (q.1, y) (mem_of_lookup hl))
    have hc : clash (L.take j) q.1 = false := by
      unfold clash
      rw [List.any_eq_false]
      intro r hr
      have hr' := List.mem_of_mem_take hr
      rw [ha q hm r hr', ha r hr' q hm]
      decide
    have hcode : putCode (L.take j) q.1 q.2 = 0 := by
      unfold putCode
      have h60 := hf.few
      rw [if_pos (hf.path q hm), if_neg (by have := hf.bytes q hm; omega), hc, if_neg (by decide), hlk, if_neg (by simp; omega)]
    refine ⟨?_, ?_⟩
    · rw [putsC_step hq h1, h2, hcode]
    · rw [putsT_step hq, h2]
      unfold putT setT
      rw [if_pos hcode, hlk, if_neg (by simp), ins_last hlt, List.take_add_one, hq]
      rfl

/-- The law: what a tree writes is read. -/
theorem read_back {L : FL} (hf : Fits L) (ha : Apart L) : readC (textT L) = 0 ∧ readT (textT L) = L := by
  have h1 := filesB_text L hf.path hf.bytes _ (Nat.lt_succ_self _)
  obtain ⟨h2, h3⟩ := puts_back hf ha L.length (Nat.le_refl _)
  rw [List.take_length] at h2 h3
  unfold readC readT
  rw [h1]
  simp only
  rw [if_pos h2, if_pos hf.rising]
  exact ⟨rfl, h3⟩
end Go.Proofs.YtnmhaipjfpongacGreatDoor

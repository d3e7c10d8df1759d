/- Texts of this seat laid together for one claim: Sc12, L1, L2, Sc14. No condition of its own: what each proves stands with its theorems. -/
import Derived.Test.YtnmhaipjfpongacGreatDoorSA5
import Derived.Test.YtnmhaipjfpongacGreatDoorSA47
import Derived.Test.YtnmhaipjfpongacGreatDoorSA41
import Derived.LaidHandle
import Derived.LaidLaws
import Derived.Test.YtnmhaipjfpongacGreatDoorSA4
import Derived.Deep.CutBlock
import Derived.Deep.DeepCutAuto
import Derived.Test.YtnmhaipjfpongacGreatDoorSA30
import Derived.Test.YtnmhaipjfpongacGreatDoorSA37
import Derived.Test.YtnmhaipjfpongacGreatDoorSA23
import Derived.Test.YtnmhaipjfpongacGreatDoorSA29
namespace Go.Proofs.YtnmhaipjfpongacGreatDoor
open Go.ChangeShapes Go.WideShapes Go.ChangeAt Go.RowKit

abbrev tH : FL := [([97], [120, 10, 121])]
abbrev EH : BE := ⟨[ruleUp], [0], tH⟩
abbrev yH0 : YS := ⟨⟨[], [], []⟩, []⟩
theorem hello_e : newE [ruleUp] [[98]] tH = EH := by
 show (⟨[ruleUp], needL [ruleUp] [[98]], tH⟩ : BE) = _
 rw [wanted_need]
theorem hello_ans : EH.ans 0 = ([88, 10, 89], 0) := by kernel_rfl
theorem hello_ready : readyP EH .new 0 = true := by kernel_rfl
theorem hello_all : AllTo EH (·.1) (stepM EH) (.new, some (8, [])) (doneP .new 0 false, some (8, putL 8 [] (EH.key 0) (EH.ans 0).1)) := by
 have e0 : readyL EH .new = [0] := by kernel_rfl
 have e1 : stepM EH (.new, some (8, [])) 0 = (doneP .new 0 false, some (8, putL 8 [] (EH.key 0) (EH.ans 0).1)) := by
  unfold stepM
  rw [runZ_in (by decide)]
  show ((runP EH (some (8, [])) BS.new 0).2.1, (runP EH (some (8, [])) BS.new 0).2.2) = _
  unfold runP
  rw [if_neg (by decide), if_neg (by decide), if_neg (by rw [hello_ready]; decide), if_neg (by rw [hello_ans]; decide)]
  rfl
 have e2 : readyL EH (doneP .new 0 false) = [] := by kernel_rfl
 refine .more e0 ?_
 rw [e1]
 exact .stop e2
abbrev l1H : B := [112, 117, 116, 32, 97, 32, 120, 59, 121]
abbrev l2H : B := [114, 117, 108, 101, 32, 98, 32, 61, 32, 117, 112, 112, 101, 114, 32, 97]
abbrev l3H : B := [109, 97, 107, 101]
abbrev l4H : B := [115, 104, 111, 119, 32, 98]
theorem hello1 : playS yH0 l1H = (⟨⟨tH, [], []⟩, []⟩, okB, 0) := by kernel_rfl
theorem hello2 : playS ⟨⟨tH, [], []⟩, []⟩ l2H = (⟨⟨tH, [], []⟩, [ruleUp]⟩, okB, 0) := by kernel_rfl
theorem hello3 : ∃ L', playS ⟨⟨tH, [], []⟩, [ruleUp]⟩ l3H = (⟨⟨tH, [([98], [88, 10, 89])], L'⟩, [ruleUp]⟩, [49, 32, 48, 32, 48, 32, 48], 0) := by
 have e : playS ⟨⟨tH, [], []⟩, [ruleUp]⟩ l3H = makeS ⟨⟨tH, [], []⟩, [ruleUp]⟩ [] := by kernel_rfl
 have eo : outsY [ruleUp] [] = [[98]] := by kernel_rfl
 have hend : mkEnd [ruleUp] 8 ⟨tH, [], []⟩ [[98]] = (doneP .new 0 false, some (8, putL 8 [] (EH.key 0) (EH.ans 0).1)) := by
  unfold mkEnd
  rw [hello_e]
  exact allEnd_is hello_all
 rw [e]
 refine ⟨putL 8 [] (EH.key 0) (EH.ans 0).1, ?_⟩
 unfold makeS
 show (if (newFault [ruleUp] (outsY [ruleUp] [])).1 = 0 then ((⟨makeP [ruleUp] 8 ⟨tH, [], []⟩ (outsY [ruleUp] []), [ruleUp]⟩ : YS), Lib.join (countsP ⟨⟨tH, [], []⟩, [ruleUp]⟩ (outsY [ruleUp] [])) [32], 0) else _) = _
 rw [eo, built_fault, if_pos rfl]
 have hmk : makeP [ruleUp] 8 ⟨tH, [], []⟩ [[98]] = ⟨tH, [([98], [88, 10, 89])], putL 8 [] (EH.key 0) (EH.ans 0).1⟩ := by
  unfold makeP
  rw [built_fault, if_pos rfl, hend, hello_e, yarded_order]
  have : outY EH (doneP .new 0 false) [] [0] = [([98], [88, 10, 89])] := by
   show layY EH (doneP .new 0 false) [] 0 = [([98], [88, 10, 89])]
   unfold layY
   rw [mst_in (by decide), show (doneP .new 0 false).st 0 = 2 from rfl, if_pos rfl, hello_ans]
   exact (by decide +kernel : putT [] [98] [88, 10, 89] = [([98], [88, 10, 89])])
  show (⟨tH, outY EH (doneP .new 0 false) [] [0], _⟩ : PS) = _
  rw [this]
  rfl
 have hcn : countsP ⟨⟨tH, [], []⟩, [ruleUp]⟩ [[98]] = [Lib.decDigits 1, Lib.decDigits 0, Lib.decDigits 0, Lib.decDigits 0] := by
  unfold countsP
  show [Lib.decDigits ((needL [ruleUp] [[98]]).countP (cRan (mkEnd [ruleUp] 8 ⟨tH, [], []⟩ [[98]]).1)), Lib.decDigits ((needL [ruleUp] [[98]]).countP (cHit (mkEnd [ruleUp] 8 ⟨tH, [], []⟩ [[98]]).1)), Lib.decDigits ((needL [ruleUp] [[98]]).countP (cFail (mkEnd [ruleUp] 8 ⟨tH, [], []⟩ [[98]]).1)), Lib.decDigits ((needL [ruleUp] [[98]]).countP (cLeft (mkEnd [ruleUp] 8 ⟨tH, [], []⟩ [[98]]).1))] = _
  rw [hend, wanted_need]
  rfl
 rw [hmk, hcn, show Lib.join [Lib.decDigits 1, Lib.decDigits 0, Lib.decDigits 0, Lib.decDigits 0] [32] = [49, 32, 48, 32, 48, 32, 48] by kernel_rfl]
theorem hello4 (L' : FL) : playS ⟨⟨tH, [([98], [88, 10, 89])], L'⟩, [ruleUp]⟩ l4H = (⟨⟨tH, [([98], [88, 10, 89])], L'⟩, [ruleUp]⟩, [88, 59, 89], 0) := by kernel_rfl
theorem hello_run : (runS yH0 [l1H, l2H, l3H, l4H]).2 = [okB, okB, [49, 32, 48, 32, 48, 32, 48], [88, 59, 89]] := by
 obtain ⟨L', h3⟩ := hello3
 show [tellP (playS yH0 l1H), tellP (playS (playS yH0 l1H).1 l2H), tellP (playS (playS (playS yH0 l1H).1 l2H).1 l3H), tellP (playS (playS (playS (playS yH0 l1H).1 l2H).1 l3H).1 l4H)] = _
 rw [hello1]
 show [okB, tellP (playS ⟨⟨tH, [], []⟩, []⟩ l2H), tellP (playS (playS ⟨⟨tH, [], []⟩, []⟩ l2H).1 l3H), tellP (playS (playS (playS ⟨⟨tH, [], []⟩, []⟩ l2H).1 l3H).1 l4H)] = _
 rw [hello2]
 show [okB, okB, tellP (playS ⟨⟨tH, [], []⟩, [ruleUp]⟩ l3H), tellP (playS (playS ⟨⟨tH, [], []⟩, [ruleUp]⟩ l3H).1 l4H)] = _
 rw [h3]
 show [okB, okB, [49, 32, 48, 32, 48, 32, 48], tellP (playS ⟨⟨tH, [([98], [88, 10, 89])], L'⟩, [ruleUp]⟩ l4H)] = _
 rw [hello4]
 rfl
set_option maxRecDepth 100000 in
set_option maxHeartbeats 4000000 in
theorem hello_any (w : World) (P : Nat → Addr) (hV : PVS w P) (hS : Sents w P) (hT : ErrTexts w P) : Calls Tryz.prog 83 #[] w (RetE (.bool true) w) := by
 have hx0 : Ext w (w.alloc (.cells #[S l1H, S l2H, S l3H, S l4H] 9 (0, 0))) := Only.alloc _ _ _
 have hrd := rd_lit (ss := [l1H, l2H, l3H, l4H]) (MapKept.heap_alloc w (.cells #[S l1H, S l2H, S l3H, S l4H] 9 (0, 0))).1 rfl (by decide)
 have hru := scriptRun_any _ P _ [l1H, l2H, l3H, l4H] hrd (by decide) (by decide) (hV.ext hx0) (hS.ext hx0) (hT.ext hx0)
 rw [hello_run] at hru
 have HRU := Lib.hid hru
 have HX0 := Lib.hid hx0
 clear hrd hru hx0 hV hS hT
 go_enter Tryz.func83, Tryz.ntmps83
 go_wp2_with fail
 refine HRU.out.mono ?_
 rintro e w1 ⟨v, rfl, hr, ho⟩
 have hA := Only.alloc (fun _ => False) w1 (.cells #[S okB, S okB, S [49, 32, 48, 32, 48, 32, 48], S [88, 59, 89]] 9 (0, 0))
 have hr2 := rd_lit (ss := [okB, okB, [49, 32, 48, 32, 48, 32, 48], [88, 59, 89]]) (MapKept.heap_alloc w1 (.cells #[S okB, S okB, S [49, 32, 48, 32, 48, 32, 48], S [88, 59, 89]] 9 (0, 0))).1 rfl (by decide)
 have hst := sameTexts_any _ v _ _ _ ((Row.rd hr).ext hA) hr2
 simp only [beq_self_eq_true] at hst
 have HST := Lib.hid hst
 have HX1 := Lib.hid ((HX0.out.then ho).then hA)
 obtain ⟨a, c, rfl, _⟩ := Row.rd hr
 clear hr ho hA hr2 hst
 go_wp2_with fail
 refine HST.out.mono ?_
 rintro e w2 ⟨rfl, hd⟩
 have HX2 := Lib.hid (HX1.out.then hd.ext)
 clear hd
 go_wp2_with fail
 go_ret
 exact ⟨rfl, HX2.out⟩
end Go.Proofs.YtnmhaipjfpongacGreatDoor

namespace Go.Proofs.YtnmhaipjfpongacGreatDoor
open Go.ChangeShapes Go.WideShapes Go.ChangeAt Go.RowKit

def errNames : List String := ["kilnyard/api.ErrText", "kilnyard/api.ErrBound", "kilnyard/api.ErrShape", "kilnyard/api.ErrName", "kilnyard/api.ErrKind", "kilnyard/api.ErrNone", "kilnyard/api.ErrExist", "kilnyard/api.ErrFull", "kilnyard/api.ErrCycle", "kilnyard/api.ErrLong", "kilnyard/api.ErrTurn", "kilnyard/api.ErrDone"]
abbrev sent (s : B) : DataW Unit := .iface "*errors.errorString" (.ptr (.agg [.lit (.string s)]))
def isSent : DataW Unit → Bool
 | .iface n (.ptr (.agg [.lit (.string _)])) => n == "*errors.errorString"
 | _ => false

theorem isSent_eq {d : DataW Unit} (h : isSent d = true) : ∃ s, d = sent s := by
 unfold isSent at h
 split at h
 ·rename_i n s
  obtain rfl : n = "*errors.errorString" := by simpa using h
  exact ⟨s, rfl⟩
 ·cases h

theorem err_star : "*" ++ "errors.errorString" = "*errors.errorString" := by decide
theorem err_row (u : TypeId) (h : Tryz.prog.typeName? 3 u = some "*errors.errorString") : u = 390 :=
 typeName_ptr_named (nm := "errors.errorString") (by rw [err_star]; kernel_rfl) (by kernel_rfl) (by decide) u (by rw [err_star]; exact h)
theorem err_cells : Tryz.prog.cellsOf 392 = 1 := by kernel_rfl
theorem str_cells : Tryz.prog.cellsOf 9 = 1 := by kernel_rfl

theorem err_global {n : String} (h : n ∈ errNames) : ∃ g, Tryz.prog.globalNamed n = some g ∧ (Tryz.prog.globals[g]?).map (·.type) = some 32 := by
 have hall : (errNames.all fun n => match Tryz.prog.globalNamed n with | some g => (Tryz.prog.globals[g]?).map (·.type) == some 32 | none => false) = true := by kernel_rfl
 have := List.all_eq_true.1 hall n h
 revert this
 cases hg : Tryz.prog.globalNamed n with
 | none => intro h; cases h
 | some g => intro h; exact ⟨g, rfl, by simpa using h⟩

def Held (W : World) (n : String) (a : Addr) : Prop := W.var? Tryz.prog n = some #[errV a]

theorem Held.same {W : World} {n : String} {a b : Addr} (h : Held W n a) (h' : Held W n b) : a = b := by
 have := h.symm.trans h'
 simpa using this

set_option maxRecDepth 100000 in
theorem laid_held {W : World} : ∀ {l : List (String × DataW Unit)} {ps : List MemPlace}, DataW.LaidVars Tryz.prog W l ps → ps.Nodup →
  (∀ b off, MemPlace.cell b off ∈ ps → ∀ u v, W.cell? ⟨b, off, none⟩ = some (.iface u v) → Value.okWide Tryz.prog W .any 0 u v) →
  (∀ x ∈ l, x.1 ∈ errNames → ∃ s, x.2 = sent s) →
  (∀ x ∈ l, x.1 ∈ errNames → ∃ a, Held W x.1 a ∧ MemPlace.cell a.block a.off ∈ ps) ∧
  l.Pairwise (fun x y => ∀ a b, x.1 ∈ errNames → y.1 ∈ errNames → Held W x.1 a → Held W y.1 b → a ≠ b)
 | [], _, _, _, _, _ => ⟨fun x hx => (by cases hx), List.Pairwise.nil⟩
 | (n, d) :: r, ps, hv, hnd, hok, hs => by
  obtain ⟨g, t, cs, f, p, q, hg, ht, hvar, hd, hr, rfl⟩ := hv
  have hq : q.Nodup := (List.nodup_append.1 hnd).2.1
  obtain ⟨i1, i2⟩ := laid_held hr hq (fun b off hm => hok b off (List.mem_append_right _ hm)) (fun x hx => hs x (List.mem_cons_of_mem _ hx))
  have key : n ∈ errNames → ∃ a, Held W n a ∧ MemPlace.cell a.block a.off ∈ p := fun hn => by
   obtain ⟨s, hs0⟩ := hs (n, d) List.mem_cons_self hn
   have hs1 : d = sent s := hs0
   subst hs1
   obtain ⟨g', hg', ht'⟩ := err_global hn
   obtain rfl := Option.some.inj (hg.symm.trans hg')
   obtain rfl := Option.some.inj (ht.symm.trans ht')
   obtain ⟨lc⟩ := cs
   have ok0 : ∀ u v, lc = [.iface u v] → Value.okWide Tryz.prog W .any 0 u v := fun u v e => by
    subst e
    exact hok g 0 (by simp [MemPlace.row]) u v (by simpa using World.var?_cell hg hvar 0)
   obtain ⟨a, s', rfl, _, _, _, rfl⟩ := errorString_of_trod Tryz.underlying32 err_row Tryz.underlying390 Tryz.underlying392 rfl rfl Tryz.underlying9 err_cells str_cells hd ok0
   exact ⟨a, hvar, by simp [MemPlace.row]⟩
  refine ⟨fun x hx hn => ?_, List.Pairwise.cons (fun y hy a b hx hny ha hb => ?_) i2⟩
  ·rcases List.mem_cons.1 hx with rfl | hx
   ·obtain ⟨a, ha, hm⟩ := key hn
    exact ⟨a, ha, List.mem_append_left _ (List.mem_append_right _ hm)⟩
   ·obtain ⟨a, ha, hm⟩ := i1 x hx hn
    exact ⟨a, ha, List.mem_append_right _ hm⟩
  ·obtain ⟨a', ha', hm⟩ := key hx
   obtain ⟨b', hb', hm'⟩ := i1 y hy hny
   obtain rfl := ha.same ha'
   obtain rfl := hb.same hb'
   rintro rfl
   exact (List.nodup_append.1 hnd).2.2 _ (List.mem_append_right _ hm) _ hm' rfl

set_option maxRecDepth 100000 in
theorem held_of_laid {W : World} {l : List (String × DataW Unit)} (h : laidMet Tryz.prog l W) (hs : (l.all fun x => !(errNames.contains x.1) || isSent x.2) = true) :
  (∀ n ∈ errNames, (l.map (·.1)).contains n = true → ∃ a c t, Held W n a ∧ W.heap[a.block]? = some (.cells c t (0, 0))) ∧
  (∀ n m a, (l.map (·.1)).contains n = true → (l.map (·.1)).contains m = true → n ∈ errNames → m ∈ errNames → Held W n a → Held W m a → n = m) := by
 obtain ⟨ps, hv, hnd, hrows⟩ := h
 have hs' : ∀ x ∈ l, x.1 ∈ errNames → ∃ s, x.2 = sent s := fun x hx hn => by
  have := List.all_eq_true.1 hs x hx
  refine isSent_eq ?_
  simpa [hn] using this
 obtain ⟨h1, h2⟩ := laid_held hv hnd (fun b off hm => (hrows b off hm).2) hs'
 refine ⟨fun n hn hc => ?_, fun n m a hc hc' hn hm ha hb => ?_⟩
 ·obtain ⟨x, hx, rfl⟩ : ∃ x ∈ l, x.1 = n := by simpa using hc
  obtain ⟨a, ha, hm⟩ := h1 x hx hn
  obtain ⟨c, t, hct⟩ := (hrows a.block a.off hm).1
  exact ⟨a, c, t, ha, hct⟩
 ·obtain ⟨x, hx, rfl⟩ : ∃ x ∈ l, x.1 = n := by simpa using hc
  obtain ⟨y, hy, rfl⟩ : ∃ x ∈ l, x.1 = m := by simpa using hc'
  by_cases hxy : x.1 = y.1
  ·exact hxy
  obtain ⟨i, hi, rfl⟩ := List.mem_iff_getElem.1 hx
  obtain ⟨j, hj, rfl⟩ := List.mem_iff_getElem.1 hy
  rcases Nat.lt_trichotomy i j with h | h | h
  ·exact absurd rfl (List.pairwise_iff_getElem.1 h2 i j hi hj h a a hn hm ha hb)
  ·subst h; rfl
  ·exact absurd rfl (List.pairwise_iff_getElem.1 h2 j i hj hi h a a hm hn hb ha)

theorem type_of_handles {W : World} {hs : List (String × DataW Unit)} (h : handlesMet Tryz.prog hs W) (hm : ("errors.errorType", (.iface "internal/reflectlite.rtype" (.agg [.ptr (.lit (.string [101, 114, 114, 111, 114]))]) : DataW Unit)) ∈ hs) : W.cell? ⟨12, 0, none⟩ = some errType := by
 obtain ⟨name, u, ty, e1, e2, e3, e4, e5⟩ := h _ hm
 have en : name = [101, 114, 114, 111, 114] := (Option.some.inj e1).symm
 subst en
 have rt : (Tryz.prog.cutTypes.find? (·.1 == "internal/reflectlite.rtype")).map (·.2) = some 326 := by kernel_rfl
 have oneRow : ((List.range 429).filter fun t => Tryz.prog.rowNamed t [101, 114, 114, 111, 114]) = [32] := by kernel_rfl
 have size : Tryz.prog.types.size = 429 := by kernel_rfl
 have et : Tryz.prog.globalNamed "errors.errorType" = some 12 := by kernel_rfl
 obtain rfl := Option.some.inj (rt.symm.trans e2)
 have hm : ty ∈ (List.range 429).filter fun t => Tryz.prog.rowNamed t [101, 114, 114, 111, 114] := List.mem_filter.2 ⟨List.mem_range.2 (by rw [← size]; exact e3), e4⟩
 rw [oneRow] at hm
 obtain rfl := List.mem_singleton.1 hm
 have hh : typeHandle Tryz.prog 32 = .pointer (some ⟨26, 32, none⟩) := by kernel_rfl
 rw [hh] at e5
 exact (World.var?_cell et e5 0).trans rfl

theorem sents_of {W : World} {l hs : List (String × DataW Unit)} (h : laidMet Tryz.prog l W) (hh : handlesMet Tryz.prog hs W)
  (c1 : (l.all fun x => !(errNames.contains x.1) || isSent x.2) = true) (c2 : (errNames.all fun n => (l.map (·.1)).contains n) = true)
  (c3 : ("errors.errorType", (.iface "internal/reflectlite.rtype" (.agg [.ptr (.lit (.string [101, 114, 114, 111, 114]))]) : DataW Unit)) ∈ hs) : ∃ p, Sents W p := by
 obtain ⟨h1, h2⟩ := held_of_laid h c1
 have hin : ∀ n ∈ errNames, (l.map (·.1)).contains n = true := fun n hn => List.all_eq_true.1 c2 n hn
 have key : ∀ i : Nat, ∃ a : Addr, ∀ n, errNames[i]? = some n → ∃ c t, Held W n a ∧ W.heap[a.block]? = some (.cells c t (0, 0)) := fun i => by
  cases hi : errNames[i]? with
  | none => exact ⟨⟨0, 0, none⟩, fun n h => by cases h⟩
  | some n =>
   obtain ⟨a, c, t, h3⟩ := h1 n (List.mem_of_getElem? hi) (hin n (List.mem_of_getElem? hi))
   exact ⟨a, fun m hm => by cases hm; exact ⟨c, t, h3⟩⟩
 have hvars : errVars.map some = errNames.map Tryz.prog.globalNamed := by kernel_rfl
 have hlen : errNames.length = 12 := by decide
 have hnd : errNames.Nodup := by decide
 have at_ : ∀ i, i < 12 → ∃ n, errNames[i]? = some n := fun i hi => ⟨_, List.getElem?_eq_getElem (by omega)⟩
 refine ⟨fun i => Classical.choose (key i), fun i g hg => ?_, fun i hi => ?_, fun i j hi hj he => ?_, type_of_handles hh c3⟩
 ·have hg' : (errNames.map Tryz.prog.globalNamed)[i]? = some (some g) := by rw [← hvars, List.getElem?_map, hg]; rfl
  rw [List.getElem?_map] at hg'
  obtain ⟨n, hn, hgn⟩ := Option.map_eq_some_iff.1 hg'
  obtain ⟨c, t, hd, _⟩ := Classical.choose_spec (key i) n hn
  simpa using World.var?_cell hgn hd 0
 ·obtain ⟨n, hn⟩ := at_ i hi
  obtain ⟨c, t, _, hr⟩ := Classical.choose_spec (key i) n hn
  exact ⟨c, t, hr⟩
 ·obtain ⟨n, hn⟩ := at_ i hi
  obtain ⟨m, hm⟩ := at_ j hj
  obtain ⟨_, _, hd, _⟩ := Classical.choose_spec (key i) n hn
  obtain ⟨_, _, hd', _⟩ := Classical.choose_spec (key j) m hm
  have he' : Classical.choose (key i) = Classical.choose (key j) := he
  rw [he'] at hd
  have hnm := h2 n m _ (hin n (List.mem_of_getElem? hn)) (hin m (List.mem_of_getElem? hm)) (List.mem_of_getElem? hn) (List.mem_of_getElem? hm) hd hd'
  subst hnm
  have := (List.getElem?_inj (by omega) hnd).1 (hn.trans hm.symm)
  exact this
end Go.Proofs.YtnmhaipjfpongacGreatDoor

namespace Go.Proofs.YtnmhaipjfpongacGreatDoor
open Go.ChangeShapes Go.WideShapes Go.ChangeAt Go.RowKit

set_option maxRecDepth 100000 in
theorem laid_one {W : World} {n : String} {d : DataW Unit} {g : Nat} (hg : Tryz.prog.globalNamed n = some g) (ht : (Tryz.prog.globals[g]?).map (·.type) = some 32) (hd0 : isSent d = true) : ∀ {l : List (String × DataW Unit)} {ps : List MemPlace}, DataW.LaidVars Tryz.prog W l ps →
  (∀ b off, MemPlace.cell b off ∈ ps → ∀ u v, W.cell? ⟨b, off, none⟩ = some (.iface u v) → Value.okWide Tryz.prog W .any 0 u v) → (n, d) ∈ l → ∃ a, W.cell? ⟨g, 0, none⟩ = some (errV a)
 | [], _, _, _, h => by cases h
 | (n', d') :: r, ps, hv, hok, hm => by
  obtain ⟨g', t, cs, f, p, q, hg', ht', hvar, hd, hr, rfl⟩ := hv
  rcases List.mem_cons.1 hm with e | hm
  ·cases e
   obtain ⟨s, rfl⟩ := isSent_eq hd0
   obtain rfl := Option.some.inj (hg.symm.trans hg')
   obtain rfl := Option.some.inj (ht'.symm.trans ht)
   obtain ⟨lc⟩ := cs
   have ok0 : ∀ u v, lc = [.iface u v] → Value.okWide Tryz.prog W .any 0 u v := fun u v e => by
    subst e
    exact hok g 0 (by simp [MemPlace.row]) u v (by simpa using World.var?_cell hg hvar 0)
   obtain ⟨a, s', rfl, _, _, _, rfl⟩ := errorString_of_trod Tryz.underlying32 err_row Tryz.underlying390 Tryz.underlying392 rfl rfl Tryz.underlying9 err_cells str_cells hd ok0
   exact ⟨a, by simpa using World.var?_cell hg hvar 0⟩
  ·exact laid_one hg ht hd0 hr (fun b off hm => hok b off (List.mem_append_right _ hm)) hm

set_option maxRecDepth 100000 in
theorem one_of_laid {W : World} {l : List (String × DataW Unit)} (h : laidMet Tryz.prog l W) {n : String} {g : Nat} (hg : Tryz.prog.globalNamed n = some g) (ht : (Tryz.prog.globals[g]?).map (·.type) = some 32) (hs : (l.any fun x => x.1 == n && isSent x.2) = true) :
  ∃ a, W.cell? ⟨g, 0, none⟩ = some (errV a) := by
 obtain ⟨ps, hv, _, hrows⟩ := h
 obtain ⟨⟨n', d⟩, hm, hc⟩ := List.any_eq_true.1 hs
 simp only [Bool.and_eq_true, beq_iff_eq] at hc
 obtain ⟨rfl, hd⟩ := hc
 exact laid_one hg ht hd hv (fun b off hm => (hrows b off hm).2) hm
end Go.Proofs.YtnmhaipjfpongacGreatDoor

namespace Go.Proofs.YtnmhaipjfpongacGreatDoor
open Go.ChangeShapes Go.WideShapes Go.ChangeAt Go.RowKit

def sentText : DataW Unit → Option B
 | .iface n (.ptr (.agg [.lit (.string s)])) => if n == "*errors.errorString" then some s else none
 | _ => none
theorem sentText_eq {d : DataW Unit} {s : B} (h : sentText d = some s) : d = sent s := by
 unfold sentText at h
 split at h
 ·rename_i n s'
  split at h
  ·rename_i hn
   obtain rfl : n = "*errors.errorString" := by simpa using hn
   cases h
   rfl
  ·cases h
 ·cases h

set_option maxRecDepth 100000 in
theorem laid_text {W : World} {n : String} {s : B} {g : Nat} (hg : Tryz.prog.globalNamed n = some g) (ht : (Tryz.prog.globals[g]?).map (·.type) = some 32) : ∀ {l : List (String × DataW Unit)} {ps : List MemPlace}, DataW.LaidVars Tryz.prog W l ps →
  (∀ b off, MemPlace.cell b off ∈ ps → ∀ u v, W.cell? ⟨b, off, none⟩ = some (.iface u v) → Value.okWide Tryz.prog W .any 0 u v) → (n, sent s) ∈ l → ∃ a, W.cell? ⟨g, 0, none⟩ = some (errV a) ∧ W.cell? a = some (S s)
 | [], _, _, _, h => by cases h
 | (n', d') :: r, ps, hv, hok, hm => by
  obtain ⟨g', t, cs, f, p, q, hg', ht', hvar, hd, hr, rfl⟩ := hv
  rcases List.mem_cons.1 hm with e | hm
  ·cases e
   obtain rfl := Option.some.inj (hg.symm.trans hg')
   obtain rfl := Option.some.inj (ht'.symm.trans ht)
   obtain ⟨lc⟩ := cs
   have ok0 : ∀ u v, lc = [.iface u v] → Value.okWide Tryz.prog W .any 0 u v := fun u v e => by
    subst e
    exact hok g 0 (by simp [MemPlace.row]) u v (by simpa using World.var?_cell hg hvar 0)
   obtain ⟨a, s', rfl, hc, hs', _, rfl⟩ := errorString_of_trod Tryz.underlying32 err_row Tryz.underlying390 Tryz.underlying392 rfl rfl Tryz.underlying9 err_cells str_cells hd ok0
   refine ⟨a, by simpa using World.var?_cell hg hvar 0, ?_⟩
   obtain ⟨⟨b⟩⟩ := s'
   subst hs'
   exact hc
  ·exact laid_text hg ht hr (fun b off hm => hok b off (List.mem_append_right _ hm)) hm

set_option maxRecDepth 100000 in
theorem texts_of {W : World} {l : List (String × DataW Unit)} {p : Nat → Addr} (h : laidMet Tryz.prog l W) (hs : Sents W p)
  (c : ((List.range 12).all fun i => l.any fun x => some x.1 == errNames[i]? && sentText x.2 == some (errB (i + 1))) = true) : ErrTexts W p := by
 obtain ⟨ps, hv, _, hrows⟩ := h
 have hvars : errVars.map some = errNames.map Tryz.prog.globalNamed := by kernel_rfl
 intro i hi
 obtain ⟨⟨n, d⟩, hm, hc⟩ := List.any_eq_true.1 (List.all_eq_true.1 c i (List.mem_range.2 hi))
 simp only [Bool.and_eq_true, beq_iff_eq] at hc
 obtain ⟨hn, hd⟩ := hc
 obtain rfl := sentText_eq hd
 obtain ⟨g, hg, ht⟩ := err_global (List.mem_of_getElem? hn.symm)
 obtain ⟨a, ha, hx⟩ := laid_text hg ht hv (fun b off hm => (hrows b off hm).2) hm
 have hg' : errVars[i]? = some g := by
  have e : (errVars.map some)[i]? = some (some g) := by rw [hvars, List.getElem?_map, ← hn, Option.map_some, hg]
  rw [List.getElem?_map] at e
  obtain ⟨g', e1, e2⟩ := Option.map_eq_some_iff.1 e
  cases e2
  exact e1
 have := (hs.var i g hg').symm.trans ha
 obtain rfl : p i = a := by simpa using this
 exact hx
end Go.Proofs.YtnmhaipjfpongacGreatDoor

/- Texts of this seat laid together for one claim: L1, L2. No condition of its own: what each proves stands with its theorems. -/
import Derived.LaidHandle
import Derived.LaidLaws
import Derived.Test.YtnmhaipjfpongabGreatDoorPS0
namespace Go.Proofs.YtnmhaipjfpongabGreatDoor
open Go.ChangeShapes Go.WideShapes Go.ChangeAt Go.RowKit

def errNames : List String := ["kilnyard/api.ErrText", "kilnyard/api.ErrBound", "kilnyard/api.ErrShape", "kilnyard/api.ErrName", "kilnyard/api.ErrKind", "kilnyard/api.ErrNone", "kilnyard/api.ErrExist", "kilnyard/api.ErrFull", "kilnyard/api.ErrCycle", "kilnyard/api.ErrLong", "kilnyard/api.ErrTurn", "kilnyard/api.ErrDone"]
abbrev sent (s : B) : DataW Unit := .iface "*errors.errorString" (.ptr (.agg [.lit (.string s)]))
def isSent : DataW Unit → Bool
 | .iface n (.ptr (.agg [.lit (.string _)])) => n == "*errors.errorString"
 | _ => false

theorem isSent_eq {d : DataW Unit} (h : isSent d = true) : ∃ s, d = sent s := by
 unfold isSent at h
 split at h
 ·rename_i n s
  obtain rfl : n = "*errors.errorString" := by simpa using h
  exact ⟨s, rfl⟩
 ·cases h

theorem err_star : "*" ++ "errors.errorString" = "*errors.errorString" := by decide
theorem err_row (u : TypeId) (h : Tryz.prog.typeName? 3 u = some "*errors.errorString") : u = 413 :=
 typeName_ptr_named (nm := "errors.errorString") (by rw [err_star]; kernel_rfl) (by kernel_rfl) (by decide) u (by rw [err_star]; exact h)
theorem err_cells : Tryz.prog.cellsOf 415 = 1 := by kernel_rfl
theorem str_cells : Tryz.prog.cellsOf 9 = 1 := by kernel_rfl

theorem err_global {n : String} (h : n ∈ errNames) : ∃ g, Tryz.prog.globalNamed n = some g ∧ (Tryz.prog.globals[g]?).map (·.type) = some 34 := by
 have hall : (errNames.all fun n => match Tryz.prog.globalNamed n with | some g => (Tryz.prog.globals[g]?).map (·.type) == some 34 | none => false) = true := by kernel_rfl
 have := List.all_eq_true.1 hall n h
 revert this
 cases hg : Tryz.prog.globalNamed n with
 | none => intro h; cases h
 | some g => intro h; exact ⟨g, rfl, by simpa using h⟩

def Held (W : World) (n : String) (a : Addr) : Prop := W.var? Tryz.prog n = some #[errV a]

theorem Held.same {W : World} {n : String} {a b : Addr} (h : Held W n a) (h' : Held W n b) : a = b := by
 have := h.symm.trans h'
 simpa using this

set_option maxRecDepth 100000 in
theorem laid_held {W : World} : ∀ {l : List (String × DataW Unit)} {ps : List MemPlace}, DataW.LaidVars Tryz.prog W l ps → ps.Nodup →
  (∀ b off, MemPlace.cell b off ∈ ps → ∀ u v, W.cell? ⟨b, off, none⟩ = some (.iface u v) → Value.okWide Tryz.prog W .any 0 u v) →
  (∀ x ∈ l, x.1 ∈ errNames → ∃ s, x.2 = sent s) →
  (∀ x ∈ l, x.1 ∈ errNames → ∃ a, Held W x.1 a ∧ MemPlace.cell a.block a.off ∈ ps) ∧
  l.Pairwise (fun x y => ∀ a b, x.1 ∈ errNames → y.1 ∈ errNames → Held W x.1 a → Held W y.1 b → a ≠ b)
 | [], _, _, _, _, _ => ⟨fun x hx => (by cases hx), List.Pairwise.nil⟩
 | (n, d) :: r, ps, hv, hnd, hok, hs => by
  obtain ⟨g, t, cs, f, p, q, hg, ht, hvar, hd, hr, rfl⟩ := hv
  have hq : q.Nodup := (List.nodup_append.1 hnd).2.1
  obtain ⟨i1, i2⟩ := laid_held hr hq (fun b off hm => hok b off (List.mem_append_right _ hm)) (fun x hx => hs x (List.mem_cons_of_mem _ hx))
  have key : n ∈ errNames → ∃ a, Held W n a ∧ MemPlace.cell a.block a.off ∈ p := fun hn => by
   obtain ⟨s, hs0⟩ := hs (n, d) List.mem_cons_self hn
   have hs1 : d = sent s := hs0
   subst hs1
   obtain ⟨g', hg', ht'⟩ := err_global hn
   obtain rfl := Option.some.inj (hg.symm.trans hg')
   obtain rfl := Option.some.inj (ht.symm.trans ht')
   obtain ⟨lc⟩ := cs
   have ok0 : ∀ u v, lc = [.iface u v] → Value.okWide Tryz.prog W .any 0 u v := fun u v e => by
    subst e
    exact hok g 0 (by simp [MemPlace.row]) u v (by simpa using World.var?_cell hg hvar 0)
   obtain ⟨a, s', rfl, _, _, _, rfl⟩ := errorString_of_trod Tryz.underlying34 err_row Tryz.underlying413 Tryz.underlying415 rfl rfl Tryz.underlying9 err_cells str_cells hd ok0
   exact ⟨a, hvar, by simp [MemPlace.row]⟩
  refine ⟨fun x hx hn => ?_, List.Pairwise.cons (fun y hy a b hx hny ha hb => ?_) i2⟩
  ·rcases List.mem_cons.1 hx with rfl | hx
   ·obtain ⟨a, ha, hm⟩ := key hn
    exact ⟨a, ha, List.mem_append_left _ (List.mem_append_right _ hm)⟩
   ·obtain ⟨a, ha, hm⟩ := i1 x hx hn
    exact ⟨a, ha, List.mem_append_right _ hm⟩
  ·obtain ⟨a', ha', hm⟩ := key hx
   obtain ⟨b', hb', hm'⟩ := i1 y hy hny
   obtain rfl := ha.same ha'
   obtain rfl := hb.same hb'
   rintro rfl
   exact (List.nodup_append.1 hnd).2.2 _ (List.mem_append_right _ hm) _ hm' rfl

set_option maxRecDepth 100000 in
theorem held_of_laid {W : World} {l : List (String × DataW Unit)} (h : laidMet Tryz.prog l W) (hs : (l.all fun x => !(errNames.contains x.1) || isSent x.2) = true) :
  (∀ n ∈ errNames, (l.map (·.1)).contains n = true → ∃ a c t, Held W n a ∧ W.heap[a.block]? = some (.cells c t (0, 0))) ∧
  (∀ n m a, (l.map (·.1)).contains n = true → (l.map (·.1)).contains m = true → n ∈ errNames → m ∈ errNames → Held W n a → Held W m a → n = m) := by
 obtain ⟨ps, hv, hnd, hrows⟩ := h
 have hs' : ∀ x ∈ l, x.1 ∈ errNames → ∃ s, x.2 = sent s := fun x hx hn => by
  have := List.all_eq_true.1 hs x hx
  refine isSent_eq ?_
  simpa [hn] using this
 obtain ⟨h1, h2⟩ := laid_held hv hnd (fun b off hm => (hrows b off hm).2) hs'
 refine ⟨fun n hn hc => ?_, fun n m a hc hc' hn hm ha hb => ?_⟩
 ·obtain ⟨x, hx, rfl⟩ : ∃ x ∈ l, x.1 = n := by simpa using hc
  obtain ⟨a, ha, hm⟩ := h1 x hx hn
  obtain ⟨c, t, hct⟩ := (hrows a.block a.off hm).1
  exact ⟨a, c, t, ha, hct⟩
 ·obtain ⟨x, hx, rfl⟩ : ∃ x ∈ l, x.1 = n := by simpa using hc
  obtain ⟨y, hy, rfl⟩ : ∃ x ∈ l, x.1 = m := by simpa using hc'
  by_cases hxy : x.1 = y.1
  ·exact hxy
  obtain ⟨i, hi, rfl⟩ := List.mem_iff_getElem.1 hx
  obtain ⟨j, hj, rfl⟩ := List.mem_iff_getElem.1 hy
  rcases Nat.lt_trichotomy i j with h | h | h
  ·exact absurd rfl (List.pairwise_iff_getElem.1 h2 i j hi hj h a a hn hm ha hb)
  ·subst h; rfl
  ·exact absurd rfl (List.pairwise_iff_getElem.1 h2 j i hj hi h a a hm hn hb ha)

end Go.Proofs.YtnmhaipjfpongabGreatDoor

namespace Go.Proofs.YtnmhaipjfpongabGreatDoor
open Go.ChangeShapes Go.WideShapes Go.ChangeAt Go.RowKit

set_option maxRecDepth 100000 in
theorem laid_one {W : World} {n : String} {d : DataW Unit} {g : Nat} (hg : Tryz.prog.globalNamed n = some g) (ht : (Tryz.prog.globals[g]?).map (·.type) = some 34) (hd0 : isSent d = true) : ∀ {l : List (String × DataW Unit)} {ps : List MemPlace}, DataW.LaidVars Tryz.prog W l ps →
  (∀ b off, MemPlace.cell b off ∈ ps → ∀ u v, W.cell? ⟨b, off, none⟩ = some (.iface u v) → Value.okWide Tryz.prog W .any 0 u v) → (n, d) ∈ l → ∃ a, W.cell? ⟨g, 0, none⟩ = some (errV a)
 | [], _, _, _, h => by cases h
 | (n', d') :: r, ps, hv, hok, hm => by
  obtain ⟨g', t, cs, f, p, q, hg', ht', hvar, hd, hr, rfl⟩ := hv
  rcases List.mem_cons.1 hm with e | hm
  ·cases e
   obtain ⟨s, rfl⟩ := isSent_eq hd0
   obtain rfl := Option.some.inj (hg.symm.trans hg')
   obtain rfl := Option.some.inj (ht'.symm.trans ht)
   obtain ⟨lc⟩ := cs
   have ok0 : ∀ u v, lc = [.iface u v] → Value.okWide Tryz.prog W .any 0 u v := fun u v e => by
    subst e
    exact hok g 0 (by simp [MemPlace.row]) u v (by simpa using World.var?_cell hg hvar 0)
   obtain ⟨a, s', rfl, _, _, _, rfl⟩ := errorString_of_trod Tryz.underlying34 err_row Tryz.underlying413 Tryz.underlying415 rfl rfl Tryz.underlying9 err_cells str_cells hd ok0
   exact ⟨a, by simpa using World.var?_cell hg hvar 0⟩
  ·exact laid_one hg ht hd0 hr (fun b off hm => hok b off (List.mem_append_right _ hm)) hm

set_option maxRecDepth 100000 in
theorem one_of_laid {W : World} {l : List (String × DataW Unit)} (h : laidMet Tryz.prog l W) {n : String} {g : Nat} (hg : Tryz.prog.globalNamed n = some g) (ht : (Tryz.prog.globals[g]?).map (·.type) = some 34) (hs : (l.any fun x => x.1 == n && isSent x.2) = true) :
  ∃ a, W.cell? ⟨g, 0, none⟩ = some (errV a) := by
 obtain ⟨ps, hv, _, hrows⟩ := h
 obtain ⟨⟨n', d⟩, hm, hc⟩ := List.any_eq_true.1 hs
 simp only [Bool.and_eq_true, beq_iff_eq] at hc
 obtain ⟨rfl, hd⟩ := hc
 exact laid_one hg ht hd hv (fun b off hm => (hrows b off hm).2) hm
end Go.Proofs.YtnmhaipjfpongabGreatDoor

/- The model's tree: Put as one law; Paths. No condition but that the model is one. -/
import Derived.Test.YtnmhaipjfpongaaGreatDoorV10
namespace Go.Proofs.YtnmhaipjfpongaaGreatDoor
open Go.ChangeShapes Go.WideShapes Go.ChangeAt Go.RowKit

theorem putM_any (w : World) (base m : Nat) (slv : Value) (L : FL) (p x : B) (h : RTree w base m slv L) (hr : Rising L) (hl : L.length ≤ 1000) (hp : p.length ≤ 999999) (hb : base ≤ w.heap.size) :
    Calls Tryz.prog 18 #[.pointer (some ⟨m, 0, none⟩), S p, S x] w (RDone w base m slv (putT L p x) (I (putCode L p x))) := by
  cases hk : pathOk p with
  | false => exact putM_bad w base m slv L p x h hp hk
  | true =>
    by_cases hx : 2000 < x.length
    · exact putM_long w base m slv L p x h hp hk hx
    · cases hc : clash L p with
      | true => exact putM_clash w base m slv L p x h hl hp hk hx hc
      | false =>
        cases hlk : L.lookup p with
        | some y => exact putM_old w base m slv L p x h hr hl hp hk hx hc y hlk
        | none =>
          by_cases hf : 60 ≤ L.length
          · exact putM_full w base m slv L p x h hl hp hk hx hc hlk hf
          · exact putM_new w base m slv L p x h hl hp hk hx hc hlk hf hb

theorem row_geT {w : World} {base : Nat} {e : TypeId} {size : Nat} {v : Value} {n : Nat} {xs : List Value} (h : w.ownsRow base e size v n xs) : ∀ i, v.ownBlock = some i → base ≤ i := fun i hi => (h.lt i hi).1

theorem grown_baseT {w0 wr w' : World} (I : Ext w0 wr) {v : Value} (hv : ∀ i, v.ownBlock = some i → w0.heap.size ≤ i) (hg : wr.grownBy w' v.ownBlock) : Ext w0 w' :=
  I.trans (Only.of_grown hg) (fun _ _ h => h) (fun i hi h => absurd (hv i h) (by omega))

theorem flat_one (l : List B) : l.flatMap (fun s => [S s]) = l.map S := by
  induction l with
  | nil => rfl
  | cons x l ih => rw [List.flatMap_cons, ih]; rfl

set_option maxHeartbeats 1000000 in
theorem pathsM_any (w : World) (base m : Nat) (slv : Value) (L : FL) (h : RTree w base m slv L) (hl : L.length ≤ 1000000) :
    Calls Tryz.prog 29 #[.pointer (some ⟨m, 0, none⟩)] w fun e w' => ∃ v', e = .returned v' ∧ Rd S w' v' (L.map (·.1)) ∧ Ext w w' := by
  obtain ⟨a, cap, hv, _, _, hc⟩ := h.rd
  subst hv
  have HM := Lib.hid h.cells
  have HC := Lib.hid hc
  clear hc h
  go_enter Tryz.func29, Tryz.ntmps29
  go_wp2_with fail
  go_loopw [3, 4] (fun v i wr => ∃ j : Nat, j ≤ L.length ∧ i = .int .i64 j ∧ Hid (Ext w wr) ∧ Hid (wr.ownsRow w.heap.size 9 1 v ((L.take j).map (·.1)).length (((L.take j).map (·.1)).flatMap fun s => [S s]))) (fun _ i _ => L.length - (intOf i).toNat)
  case atStart => exact ⟨0, Nat.zero_le _, rfl, Lib.hid (Only.refl _ _), Lib.hid (World.ownsRow_nil _ _ _ _)⟩
  case round =>
    obtain ⟨j, hj, rfl, hx, hrow⟩ := hrel
    have HX := hx
    have HR := hrow
    clear hx hrow
    have c1 : wr.cell? ⟨m, 0, none⟩ = some (.slice a L.length cap) := (cell_of_heap (HX.out.heapOf HM.out (fun h => h)) 0).trans rfl
    by_cases hlt : j < L.length
    · have hltz : (j : Int) < (L.length : Int) := by omega
      obtain ⟨b, off, rfl, hcell⟩ := HC.out (by intro h; rw [h] at hlt; simp at hlt)
      obtain ⟨⟨k', x⟩, hp⟩ : ∃ y, L[j]? = some y := ⟨_, List.getElem?_eq_getElem hlt⟩
      have d0 : wr.cell? ⟨b, off + j * 2, none⟩ = some (S k') := HX.out.cellOf (hcell j _ hp 0 _ rfl) (fun h => h)
      have hstep : (L.take (j + 1)).map (·.1) = (L.take j).map (·.1) ++ [k'] := by rw [List.take_add_one, hp]; simp
      have hjl : ((L.take j).map (·.1)).length ≤ 1000000 := by simp; omega
      have HST := Lib.hid hstep
      clear hcell hp hstep
      obtain ⟨ks, hks⟩ : ∃ ks, Hid (ks = (L.take j).map (·.1)) := ⟨_, Lib.hid rfl⟩
      rw [← hks.out] at HR HST hjl
      go_wp2_with (at_builtin; refine wpList_appS (fun s => [S s]) 25 9 1 16 _ infoStr Tryz.underlying25 rfl (by decide) (fun _ => rfl) (fun _ u hu => by cases List.mem_singleton.1 hu; rfl) (by decide) _ _ w.heap.size _ ks k' _ _ rfl rfl rfl rfl rfl HR.out hjl HX.out.size ?_; intro g5 cap5 w5 ho5 hg5 ha5; have b5 : Ext w w5 := grown_baseT HX.out (row_geT HR.out) hg5; have HX5 := Lib.hid b5; have HO5 := Lib.hid ho5; clear ho5 hg5 ha5 b5)
      go_roundw
      case rel => exact ⟨j + 1, by omega, by go_num, HX5, Lib.hid (by rw [HST.out, List.length_append]; exact HO5.out)⟩
      case measure => simp [intOf]; omega
    · have hltz : ¬ ((j : Int) < (L.length : Int)) := by omega
      have ht : (L.take j).map (·.1) = L.map (·.1) := by rw [List.take_of_length_le (by omega)]
      rw [ht, flat_one] at HR
      go_wp2_with fail
      go_ret
      exact ⟨_, rfl, Rd.of_row HR.out, HX.out⟩
end Go.Proofs.YtnmhaipjfpongaaGreatDoor

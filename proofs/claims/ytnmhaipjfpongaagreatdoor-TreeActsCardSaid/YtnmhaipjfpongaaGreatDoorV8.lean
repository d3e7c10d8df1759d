/- The model's tree: Remove. No condition but that the model is one. -/
import Derived.Test.YtnmhaipjfpongaaGreatDoorV7
namespace Go.Proofs.YtnmhaipjfpongaaGreatDoor
open Go.ChangeShapes Go.WideShapes Go.ChangeAt Go.RowKit

/-- The model's tree in memory. -/
structure RTree (w : World) (base m : Nat) (slv : Value) (L : FL) : Prop where
  cells : w.heap[m]? = some (.cells #[slv] 45 (0, 0))
  row : w.ownsRow base 57 2 slv L.length (L.flatMap encF)

theorem RTree.rd {w : World} {base m : Nat} {slv : Value} {L : FL} (h : RTree w base m slv L) : RdS 2 encF w slv L := RdS.of_row encF_len h.row
theorem RTree.ne {w : World} {base m : Nat} {slv : Value} {L : FL} (h : RTree w base m slv L) : ∀ i, slv.ownBlock = some i → i ≠ m := row_ne h.row h.cells (by decide)
theorem RTree.later {p : Nat → Prop} {w w' : World} {base m : Nat} {slv : Value} {L : FL} (h : RTree w base m slv L) (ho : Only p w w') (h1 : ¬ p m) (h2 : ∀ i, slv.ownBlock = some i → ¬ p i) : RTree w' base m slv L :=
  ⟨ho.heapOf h.cells h1, ho.row h.row h2⟩
theorem RTree.ext {w w' : World} {base m : Nat} {slv : Value} {L : FL} (h : RTree w base m slv L) (ho : Ext w w') : RTree w' base m slv L := h.later ho (fun h => h) (fun _ _ h => h)

/-- The blocks of the model. -/
def InR (m : Nat) (slv : Value) (i : Nat) : Prop := i = m ∨ slv.ownBlock = some i

def RDone (w : World) (base m : Nat) (slv : Value) (L : FL) (r : Value) (e : Ending) (w' : World) : Prop :=
  ∃ slv', e = .returned r ∧ RTree w' base m slv' L ∧ Only (InR m slv) w w' ∧ ∀ i, slv'.ownBlock = some i → slv.ownBlock = some i ∨ w.heap.size ≤ i

theorem RDone.same {w w' : World} {base m : Nat} {slv : Value} {L : FL} {r : Value} (h : RTree w base m slv L) (ho : Ext w w') : RDone w base m slv L r (.returned r) w' :=
  ⟨slv, rfl, h.ext ho, Only.of_ext ho, fun _ h => .inl h⟩

/-- A new row is laid into the model's cell. -/
theorem RDone.laid {w w3 : World} {base m : Nat} {slv v : Value} {L T : FL} {r : Value} (h : RTree w base m slv L) (hx : Ext w w3) (hr : w3.ownsRow base 57 2 v T.length (T.flatMap encF)) (hn : ∀ i, v.ownBlock = some i → w.heap.size ≤ i) :
    RDone w base m slv T r (.returned r) (w3.setCell ⟨m, 0, none⟩ v) := by
  have hm3 := hx.heapOf h.cells (fun h => h)
  have hs := Only.set (p := fun i => i = m) (w := w3) (a := ⟨m, 0, none⟩) v rfl
  have hlt := lt_of_heap h.cells
  refine ⟨v, rfl, ⟨(heap_setCell_same hm3 0 v).trans (by simp), hs.row hr (fun i e e1 => by have := hn i e; omega)⟩, ?_, fun i e => .inr (hn i e)⟩
  exact Only.after hx (hs.mono fun i _ e => .inl e)

theorem del_at {L : FL} {p x : B} {j : Nat} (hn : (L.map (·.1)).Nodup) (h : L[j]? = some (p, x)) : delT L p = L.take j ++ L.drop (j + 1) := by
  have hj := (List.getElem?_eq_some_iff.1 h).1
  have he := (List.getElem?_eq_some_iff.1 h).2
  have hs : L = L.take j ++ (p, x) :: L.drop (j + 1) := by
    have h1 := List.drop_eq_getElem_cons hj
    rw [he] at h1
    rw [← h1, List.take_append_drop]
  generalize L.take j = A at hs ⊢
  generalize L.drop (j + 1) = C at hs ⊢
  subst hs
  rw [List.map_append, List.map_cons, List.nodup_append] at hn
  obtain ⟨_, h2, h3⟩ := hn
  have h2' := (List.nodup_cons.1 h2).1
  unfold delT
  rw [List.filter_append, List.filter_cons_of_neg (by simp)]
  have e1 : A.filter (fun q => !(q.1 == p)) = A := List.filter_eq_self.2 fun q hq => by
    have : q.1 ≠ p := fun e => h3 q.1 (List.mem_map.2 ⟨q, hq, rfl⟩) p (.head _) e
    simpa using this
  have e2 : C.filter (fun q => !(q.1 == p)) = C := List.filter_eq_self.2 fun q hq => by
    have : q.1 ≠ p := fun e => h2' (e ▸ List.mem_map.2 ⟨q, hq, rfl⟩)
    simpa using this
  rw [e1, e2]

/-- A part of a row, as a source. -/
theorem part_src {w w' : World} {L : FL} {b off : Nat} (hc : ∀ i x, L[i]? = some x → ∀ j u, (encF x)[j]? = some u → w.cell? ⟨b, off + i * 2 + j, none⟩ = some u) (hx : Ext w w') (k n : Nat) :
    ∀ j u, (((L.drop k).take n).flatMap encF)[j]? = some u → w'.cell? ((⟨b, off + k * 2, none⟩ : Addr).add j) = some u := by
  intro j u hu
  have hlt := (List.getElem?_eq_some_iff.1 hu).1
  rw [flat_len encF_len] at hlt
  have hi : j / 2 < ((L.drop k).take n).length := by omega
  obtain ⟨y, hy⟩ : ∃ y, ((L.drop k).take n)[j / 2]? = some y := ⟨_, List.getElem?_eq_getElem hi⟩
  have hLy : L[k + j / 2]? = some y := by
    rw [List.length_take] at hi
    rw [List.getElem?_take_of_lt (by omega), List.getElem?_drop] at hy
    exact hy
  have h2 : j % 2 < (encF y).length := Nat.mod_lt _ (by decide)
  have hu2 := flat_at encF_len _ _ y hy (j % 2) _ (List.getElem?_eq_getElem h2)
  rw [show j / 2 * 2 + j % 2 = j by omega] at hu2
  rw [hu2] at hu
  cases hu
  have := hx.cellOf (hc _ y hLy (j % 2) _ (List.getElem?_eq_getElem h2)) (fun h => h)
  rw [show off + (k + j / 2) * 2 + j % 2 = off + k * 2 + j by omega] at this
  have hadd : (⟨b, off + k * 2, none⟩ : Addr).add j = ⟨b, off + k * 2 + j, none⟩ := by
    unfold Addr.add
    split
    · subst_vars; rfl
    · rfl
  rw [hadd]
  exact this

theorem take_src {w w' : World} {L : FL} {b off : Nat} (hc : ∀ i x, L[i]? = some x → ∀ j u, (encF x)[j]? = some u → w.cell? ⟨b, off + i * 2 + j, none⟩ = some u) (hx : Ext w w') (k : Nat) :
    ∀ j u, ((L.take k).flatMap encF)[j]? = some u → w'.cell? ((⟨b, off, none⟩ : Addr).add j) = some u := by
  have := part_src hc hx 0 k
  rw [List.drop_zero, Nat.zero_mul, Nat.add_zero] at this
  exact this

theorem drop_src {w w' : World} {L : FL} {b off : Nat} (hc : ∀ i x, L[i]? = some x → ∀ j u, (encF x)[j]? = some u → w.cell? ⟨b, off + i * 2 + j, none⟩ = some u) (hx : Ext w w') (k : Nat) :
    ∀ j u, ((L.drop k).flatMap encF)[j]? = some u → w'.cell? ((⟨b, off + k * 2, none⟩ : Addr).add j) = some u := by
  have := part_src hc hx k L.length
  rw [List.take_of_length_le (by rw [List.length_drop]; omega)] at this
  exact this

theorem none_src {w' : World} {L : FL} {b off k : Nat} (h : L.length ≤ k) :
    ∀ j u, ((L.drop k).flatMap encF)[j]? = some u → w'.cell? ((⟨b, off, none⟩ : Addr).add j) = some u := by
  intro j u hu
  rw [List.drop_of_length_le h] at hu
  simp at hu

theorem cut_src {w w' : World} {L : FL} {b off cap k c : Nat} (hc : ∀ i x, L[i]? = some x → ∀ j u, (encF x)[j]? = some u → w.cell? ⟨b, off + i * 2 + j, none⟩ = some u) (hx : Ext w w') (hcap : L.length ≤ cap) {ao : Option Addr}
    (h : (if cap = k then some (⟨b, off, none⟩ : Addr) else some ⟨b, off + k * 2, none⟩) = ao) :
    (ao = none ∧ L.drop k = [] ∧ c = 0) ∨ ∃ ad, ao = some ad ∧ ∀ j u, ((L.drop k).flatMap encF)[j]? = some u → w'.cell? (ad.add j) = some u := by
  by_cases hk : cap = k
  · rw [if_pos hk] at h
    exact .inr ⟨_, h.symm, none_src (by omega)⟩
  · rw [if_neg hk] at h
    exact .inr ⟨_, h.symm, drop_src hc hx k⟩

set_option maxRecDepth 100000 in
set_option maxHeartbeats 2000000 in
theorem removeM_any (w : World) (base m : Nat) (slv : Value) (L : FL) (p : B) (h : RTree w base m slv L) (hn : (L.map (·.1)).Nodup) (hl : L.length ≤ 1000) (hb : base ≤ w.heap.size) :
    Calls Tryz.prog 20 #[.pointer (some ⟨m, 0, none⟩), S p] w (RDone w base m slv (delT L p) (I (if (L.lookup p).isSome then 0 else 6))) := by
  have hfind := findT_any w m slv L p h.cells h.rd (by omega)
  rcases lookup_of_fndT (L := L) (k := p) with ⟨h1, h2⟩ | ⟨j, x, h1, h2, h3⟩
  · have e1 : delT L p = L := filter_of_lookup_none h2
    rw [e1, h2]
    rw [h1] at hfind
    have HF := Lib.hid hfind
    have H := Lib.hid h
    clear hfind h1 h2 e1 h hn
    go_enter Tryz.func20, Tryz.ntmps20
    go_wp2_with (go_at_call 25; refine HF.out.mono ?_; rintro e w1 ⟨rfl, rfl⟩)
    go_ret
    exact RDone.same H.out (Only.refl _ _)
  · rw [h3]
    rw [h1] at hfind
    have hT := del_at hn h2
    obtain ⟨T, HT⟩ : ∃ T, Hid (T = delT L p) := ⟨_, Lib.hid rfl⟩
    rw [← HT.out] at hT ⊢
    have hjl := (List.getElem?_eq_some_iff.1 h2).1
    have hj : (j : Int) < (L.length : Int) := by omega
    have hj0 : ¬ ((j : Int) < 0) := by omega
    obtain ⟨a, cap, rfl, hcap, _, hc⟩ := h.rd
    obtain ⟨b, off, rfl, hcell⟩ := hc (by rintro rfl; simp at h2)
    have c1 : w.cell? ⟨m, 0, none⟩ = some (.slice (some ⟨b, off, none⟩) L.length cap) := (cell_of_heap h.cells 0).trans rfl
    have HF := Lib.hid hfind
    have H := Lib.hid h
    have HCL := Lib.hid hcell
    have HTT := Lib.hid hT
    have hlt1 : (L.take j).length = j := by rw [List.length_take]; omega
    have hld : (L.drop (j + 1)).length = L.length - (j + 1) := List.length_drop ..
    have hcz : (L.length : Int) ≤ (cap : Int) := by omega
    clear hfind h1 h2 h3 h hc hcell hn hT
    have hjc : (j : Int) ≤ (cap : Int) := by omega
    have hj1 : (j : Int) + 1 ≤ (L.length : Int) := by omega
    go_enter Tryz.func20, Tryz.ntmps20
    go_wp2_with (first | (go_at_call 25; refine HF.out.mono ?_; rintro e w1 ⟨rfl, rfl⟩) | (at_builtin; refine wpList_appL encF 43 57 2 32 _ infoFile Tryz.underlying43 rfl (by decide) encF_len encF_one (by decide) (.tmp 12) (.tmp 18) base (.slice none 0 0) [] (L.take j) w rfl rfl rfl _ _ _ rfl hlt1.symm (.inr ⟨_, rfl, take_src HCL.out (Only.refl _ w) j⟩) (World.ownsRow_nil _ _ _ _) (by simp; omega) hb ?_; intro a1 m1 cap1 w1 hm1 hr1 hg1 ha1; have hx1 : Ext w w1 := (Only.of_grown hg1).mono (fun _ _ h => by cases h); have c2 : w1.cell? ⟨m, 0, none⟩ = some (.slice (some ⟨b, off, none⟩) L.length cap) := hx1.cellOf c1 (fun h => h); have HR1 := Lib.hid hr1; have HX1 := Lib.hid hx1; have HA1 := Lib.hid ha1; clear hr1 hg1 ha1 hm1 hx1) | (at_builtin; generalize hAO : (if cap = j + 1 then some (⟨b, off, none⟩ : Addr) else some ⟨b, off + (j + 1) * 2, none⟩) = ao; refine wpList_appL encF 43 57 2 32 _ infoFile Tryz.underlying43 rfl (by decide) encF_len encF_one (by decide) (.tmp 21) (.tmp 28) base (.slice a1 m1 cap1) ([] ++ L.take j) (L.drop (j + 1)) w1 rfl rfl rfl _ _ _ rfl hld.symm (cut_src HCL.out HX1.out hcap hAO) HR1.out (by simp; omega) (Nat.le_trans hb HX1.out.size) ?_; intro a2 m2 cap2 w2 hm2 hr2 hg2 ha2; have hx2 : Ext w w2 := HX1.out.trans (Only.of_grown hg2) (fun _ _ h => h) (fun i hi h => by rcases HA1.out i h with h | h; cases h; omega); have HR2 := Lib.hid hr2; have HX2 := Lib.hid hx2; have HA2 := Lib.hid ha2; have HM2 := Lib.hid hm2; have hf2 := free_of_heap (hx2.heapOf H.out.cells (fun h => h)) 0; have c3 := (cell_of_heap (hx2.heapOf H.out.cells (fun h => h)) 0).trans rfl; clear hr2 hg2 ha2 hm2 hx2 hAO))
    go_ret
    have hT2 : [] ++ L.take j ++ L.drop (j + 1) = T := by rw [HTT.out]; rfl
    have hr2 := HR2.out
    rw [hT2] at hr2
    exact RDone.laid H.out HX2.out hr2 fun i e => by
      rcases HA2.out i e with h | h
      · rcases HA1.out i h with h | h
        · cases h
        · exact h
      · exact Nat.le_trans HX1.out.size h
end Go.Proofs.YtnmhaipjfpongaaGreatDoor

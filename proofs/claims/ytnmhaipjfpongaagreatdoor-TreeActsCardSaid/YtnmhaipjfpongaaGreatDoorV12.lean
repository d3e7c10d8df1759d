/- Package tree: Text. No condition but that the tree is one, and lengths. -/
import Derived.Test.YtnmhaipjfpongaaGreatDoorV11
import Derived.Test.YtnmhaipjfpongaaGreatDoorV5
import Derived.Test.YtnmhaipjfpongaaGreatDoorY1
namespace Go.Proofs.YtnmhaipjfpongaaGreatDoor
open Go.ChangeShapes Go.WideShapes Go.ChangeAt Go.RowKit

def lineT (q : B × B) : B := q.1 ++ 32 :: Lib.decDigits q.2.length ++ 10 :: q.2 ++ [10]
def textT (L : FL) : B := L.flatMap lineT

theorem text_take_step {L : FL} {j : Nat} {q : B × B} (h : L[j]? = some q) : textT (L.take (j + 1)) = textT (L.take j) ++ lineT q := by
  unfold textT
  rw [List.take_add_one, h]
  simp

theorem line_len {q : B × B} (h1 : q.1.length ≤ 1000) (h2 : q.2.length ≤ 2000) : (lineT q).length ≤ 3100 := by
  have := dec_le q.2.length (by omega)
  unfold lineT
  simp
  omega

theorem text_take_len {L : FL} (h1 : ∀ q ∈ L, q.1.length ≤ 1000) (h2 : ∀ q ∈ L, q.2.length ≤ 2000) : ∀ j, (textT (L.take j)).length ≤ 3100 * j
  | 0 => by simp [textT]
  | j + 1 => by
    have ih := text_take_len h1 h2 j
    cases hx : L[j]? with
    | none =>
      have : L.take (j + 1) = L.take j := by rw [List.take_add_one, hx]; simp
      rw [this]; omega
    | some q =>
      have hm := List.mem_of_getElem? hx
      have hl := line_len (h1 q hm) (h2 q hm)
      rw [text_take_step hx, List.length_append]
      omega

theorem line_ba (p d x : B) (hd : d = Lib.decDigits x.length) : ((⟨p.toArray⟩ : ByteArray) ++ ⟨#[32]⟩ ++ ⟨d.toArray⟩ ++ ⟨#[10]⟩ ++ ⟨x.toArray⟩ ++ ⟨#[10]⟩) = ⟨(lineT (p, x)).toArray⟩ := by
  rw [show (⟨#[32]⟩ : ByteArray) = ⟨([32] : B).toArray⟩ from rfl, show (⟨#[10]⟩ : ByteArray) = ⟨([10] : B).toArray⟩ from rfl]
  simp only [ba_app]
  simp [lineT, hd]

abbrev IsBF (n0 b : Nat) (l : B) (w : World) : Prop := Lib.IsBuilderF 100 5 n0 b (Lib.byteCells l) w

theorem builderAtF_ext {n0 b : Nat} {p : Value} {bs : List Value} {w w' : World} (h : Lib.BuilderAtF 100 5 n0 b p bs w) (ho : Ext w w') : Lib.BuilderAtF 100 5 n0 b p bs w' := by
  obtain ⟨h1, v, h2, h3, h4⟩ := h
  refine ⟨h1, v, ho.heapOf h2 (fun h => h), ?_, h4⟩
  obtain ⟨h5, h6⟩ := h3
  refine ⟨h5, ?_⟩
  rcases h6 with h6 | ⟨g, cap, cur, fz, h7, h8, h9, h10⟩
  · exact .inl h6
  · exact .inr ⟨g, cap, cur, fz, h7, h8, ho.heapOf h9 (fun h => h), h10⟩

theorem IsBF.ext {n0 b : Nat} {l : B} {w w' : World} (h : IsBF n0 b l w) (ho : Ext w w') : IsBF n0 b l w' := by
  rcases h with h | h
  · exact .inl (builderAtF_ext h ho)
  · exact .inr (builderAtF_ext h ho)

theorem IsBF.fresh (w : World) : IsBF w.heap.size w.heap.size [] (w.alloc (.cells #[.pointer none, .slice none 0 0] 100 (0, 0))) :=
  .inl (Lib.BuilderAtF.of ⟨Nat.le_refl _, .slice none 0 0, (MapKept.heap_alloc w _).1, World.ownsRow_nil _ _ _ _, by intro h; cases h⟩)

/-- Rows of texts stand as they stood. -/
def TextsKept (w w' : World) : Prop := ∀ (k : Nat) (cs : Array Value) (fz : Nat × Nat), w.heap[k]? = some (.cells cs 9 fz) → w'.heap[k]? = some (.cells cs 9 fz)

theorem TextsKept.ext {a w w' : World} (h : TextsKept a w) (ho : Ext w w') : TextsKept a w' := fun k cs fz hk => ho.heapOf (h k cs fz hk) (fun h => h)

theorem TextsKept.others {a w w' : World} {n0 b : Nat} {l : B} (h : TextsKept a w) (hb : IsBF n0 b l w) (ho : Lib.OthersKept 5 (some b) w w') : TextsKept a w' := fun k cs fz hk => by
  have hk' := h k cs fz hk
  refine ho k _ hk' ?_ ?_
  · intro e
    have e : k = b := Option.some.inj e
    rw [e] at hk'
    rcases hb with ⟨_, v, h2, _⟩ | ⟨_, v, h2, _⟩
    all_goals
      rw [h2] at hk'
      cases hk'
  · intro c fz' e
    cases e

theorem writeK_any (n0 b : Nat) (l s : B) (w : World) (h : IsBF n0 b l w) (hlen : l.length + s.length ≤ 140737488355328) (hBw : n0 ≤ w.heap.size) :
    Calls Tryz.prog 55 #[.pointer (some ⟨b, 0, none⟩), S s] w fun e w' => e = .returned (.tuple #[I s.length, .nilIface]) ∧ IsBF n0 b (l ++ s) w' ∧ Below n0 w w' ∧ Lib.OthersKept 5 (some b) w w' := by
  have hsz : (⟨s.toArray⟩ : ByteArray).size = s.length := by simp [ByteArray.size]
  refine (Any.Builder_WriteString_k { Tryz.lays156 with } Tryz.Builder_Extra_156 n0 b (Lib.byteCells l) ⟨s.toArray⟩ w h (by rw [Lib.byteCells_length, hsz]; exact hlen) hBw).mono ?_
  rintro e w' ⟨rfl, h1, h2, h3⟩
  refine ⟨by rw [hsz], .inr ?_, h2, h3⟩
  have e1 : Lib.byteCells l ++ Lib.strCells ⟨s.toArray⟩ = Lib.byteCells (l ++ s) := by rw [Lib.strCells_eq]; simp [Lib.byteCells]
  rw [← e1]
  exact h1

set_option maxRecDepth 100000 in
set_option maxHeartbeats 4000000 in
theorem text_any (w : World) (b mb : Nat) (L : FL) (h : TreeAt w b mb L) (hr : Rising L) (h1 : ∀ q ∈ L, q.1.length ≤ 1000) (h2 : ∀ q ∈ L, q.2.length ≤ 2000) (hn : L.length ≤ 60) (hp : Pow w) :
    Calls Tryz.prog 26 #[.pointer (some ⟨b, 0, none⟩)] w fun e w' => e = .returned (S (textT L)) ∧ Ext w w' := by
  have HPA := Lib.hid (fun W (hW : Ext w W) => paths_any W b mb L (h.ext hW) hr (fun q hq => by have := h1 q hq; omega) (by omega))
  obtain ⟨T, hT⟩ : ∃ T, Hid (T = textT L) := ⟨_, Lib.hid rfl⟩
  rw [← hT.out]
  have H := Lib.hid h
  have H1 := Lib.hid h1
  have H2 := Lib.hid h2
  have HP := Lib.hid hp
  have HR := Lib.hid hr
  clear h hr h1 h2 hp
  go_enter Tryz.func26, Tryz.ntmps26
  go_wp2_with fail
  refine (HPA.out _ (Only.alloc (fun _ => False) w _)).mono ?_
  rintro e w1 ⟨v, rfl, hv, ho, ht⟩
  have HO1 := Lib.hid ((Only.alloc (fun _ => False) w (.cells #[.pointer none, .slice none 0 0] 100 (0, 0))).ext ho)
  have HB1 := Lib.hid ((IsBF.fresh w).ext ho)
  obtain ⟨a, cap, rfl, _, _, hc⟩ := hv
  simp only [List.length_map] at *
  have HC := Lib.hid hc
  have HT := Lib.hid ht
  clear ho hc ht
  obtain ⟨bb, hbE⟩ : ∃ b, b = w.heap.size := ⟨_, rfl⟩
  have HB1' : Hid (IsBF w.heap.size bb [] w1) := by rw [hbE]; exact HB1
  rw [← hbE]
  clear hbE HB1
  go_wp2_with fail
  go_loopw [9] (fun i wr => ∃ j : Nat, j ≤ L.length ∧ i = .int .i64 j ∧ Hid (Ext w wr) ∧ Hid (TextsKept w1 wr) ∧ Hid (IsBF w.heap.size bb (textT (L.take j)) wr)) (fun i _ => L.length - (intOf i).toNat)
  case atStart => exact ⟨0, Nat.zero_le _, rfl, HO1, Lib.hid (fun _ _ _ h => h), HB1'⟩
  case round =>
    obtain ⟨j, hj, rfl, HX, HX1, HB⟩ := hrel
    by_cases hlt : j < L.length
    · have hltz : (j : Int) < (L.length : Int) := by omega
      obtain ⟨b0, off, rfl, hcell⟩ := HC.out (by intro h; rw [List.map_eq_nil_iff] at h; rw [h] at hlt; simp at hlt)
      obtain ⟨⟨p, x⟩, hq⟩ : ∃ y, L[j]? = some y := ⟨_, List.getElem?_eq_getElem hlt⟩
      have d0 : wr.cell? ⟨b0, off + j, none⟩ = some (S p) := by
        obtain ⟨cur, hcur⟩ := HT.out b0 rfl
        have h3 := hcell j p (by rw [List.getElem?_map, hq]; rfl)
        rw [cell_of_heap hcur] at h3
        rw [cell_of_heap (HX1.out _ _ _ hcur)]
        exact h3
      have hW := H.out.ext HX.out
      have c0 := hW.mapCell
      have hlk : L.lookup p = some x := lookup_of_mem HR.out.nodup (List.mem_of_getElem? hq)
      have hlook := KMap.look1 (P := Tryz.prog) keyOk_str hW.map Tryz.underlying88 Tryz.underlying9 (zeroStr wr) p
      simp only [hlk] at hlook
      have hxl := H2.out _ (List.mem_of_getElem? hq)
      have hpl := H1.out _ (List.mem_of_getElem? hq)
      have hxn : x.length ≤ 2000 := hxl
      have hpn : p.length ≤ 1000 := hpl
      have hit := fun W (h : Ext w W) => itoa_any W x.length (by omega) (HP.out.ext h)
      have hdl := dec_le x.length (by omega)
      have hst := text_take_step hq
      have htl := text_take_len H1.out H2.out j
      have hll := line_len (q := (p, x)) hpl hxl
      obtain ⟨d, hd⟩ : ∃ d, d = Lib.decDigits x.length := ⟨_, rfl⟩
      have hba := line_ba p d x hd
      rw [← hd] at hdl
      simp only [← hd] at hit
      obtain ⟨F, hF⟩ : ∃ F, F = textT (L.take j) := ⟨_, rfl⟩
      rw [← hF] at HB hst htl
      obtain ⟨ln, hln⟩ : ∃ ln, ln = lineT (p, x) := ⟨_, rfl⟩
      rw [← hln] at hst hll hba
      have q1 : ¬ 9223372036854775807 < p.length + 1 := by omega
      have q2 : ¬ 9223372036854775807 < p.length + 1 + d.length := by omega
      have q3 : ¬ 9223372036854775807 < p.length + 1 + d.length + 1 := by omega
      have q4 : ¬ 9223372036854775807 < p.length + 1 + d.length + 1 + x.length := by omega
      have q5 : ¬ 9223372036854775807 < p.length + 1 + d.length + 1 + x.length + 1 := by omega
      have hfl : F.length + ln.length ≤ 140737488355328 := by omega
      have hlk5 : ∀ w5, Ext w w5 → (Instr.lookup 88 (.map (some mb)) (S p) false).run Tryz.prog w5 = .ok (S x) w5 := fun w5 h5 => by
        have := KMap.look1 (P := Tryz.prog) keyOk_str (H.out.ext h5).map Tryz.underlying88 Tryz.underlying9 (zeroStr w5) p
        simp only [hlk] at this
        exact this
      have l0d := hlk5 wr.drew HX.out.thenDrew
      have HLK5 := Lib.hid hlk5
      have HIT := Lib.hid hit
      have HST := Lib.hid hst
      have HBA := Lib.hid hba
      have HFL := Lib.hid hfl
      clear hcell hW hlk hq hF hln hd hit hst hba hll htl hdl hxl hpl hlk5 hfl hxn hpn
      go_wp2_with fail
      go_region_law (go_simp; first
        | (go_at_call 56; refine (HIT.out _ (by first | exact HX.out | exact HX.out.thenDrew | exact HX.out.thenDrewN _)).mono ?_; rintro e w5 ⟨rfl, ho⟩; have HX5 : Hid (Ext w w5) := Lib.hid (Only.ext (by first | exact HX.out | exact HX.out.thenDrew | exact HX.out.thenDrewN _) ho); have HB5 : Hid (IsBF w.heap.size bb F w5) := Lib.hid (IsBF.ext HB.out (Only.ext (by first | exact Only.refl _ _ | exact Only.drew _ _ | exact Only.drewN _ _ _) ho)); have HY5 : Hid (TextsKept w1 w5) := Lib.hid (HX1.out.ext (Only.ext (by first | exact Only.refl _ _ | exact Only.drew _ _ | exact Only.drewN _ _ _) ho)); have c5 := (H.out.ext HX5.out).mapCell; have l5 := HLK5.out w5 HX5.out; clear ho)
        | (go_at_call 55; rw [HBA.out]; refine (writeK_any w.heap.size bb F ln _ (by first | exact HB5.out | exact HB5.out.ext (Only.drew _ _) | exact HB5.out.ext (Only.drewN _ _ _)) HFL.out (by first | exact HX5.out.size | exact HX5.out.thenDrew.size | exact (HX5.out.thenDrewN _).size)).mono ?_; rintro e w6 ⟨rfl, hb6, hbl, hok⟩; have HX6 : Hid (Ext w w6) := Lib.hid (ext_below (by first | exact HX5.out | exact HX5.out.thenDrew | exact HX5.out.thenDrewN _) hbl); have HB6 := Lib.hid hb6; have HY6 : Hid (TextsKept w1 w6) := Lib.hid (HY5.out.others HB5.out hok); clear hb6 hbl hok))
      all_goals go_wp2
      all_goals
        refine ⟨⟨j + 1, by omega, by go_num, HX6, HY6, Lib.hid (by rw [HST.out]; exact HB6.out)⟩, (by simp [intOf]; omega)⟩
    · have hltz : ¬ ((j : Int) < (L.length : Int)) := by omega
      have ht : L.take j = L := List.take_of_length_le (by omega)
      rw [ht, ← hT.out] at HB
      go_wp2_with fail
      refine (Tryz.Builder_String_any_k w.heap.size bb T wr HB.out HX.out.size).mono ?_
      rintro e w6 ⟨rfl, _, hbl, _⟩
      go_wp2_with fail
      go_ret
      exact ⟨rfl, ext_below HX.out hbl⟩
end Go.Proofs.YtnmhaipjfpongaaGreatDoor

/- Texts of this seat laid together for one claim: V6. No condition of its own: what each proves stands with its theorems. -/
import Derived.Test.YtnmhaipjfpongabGreatDoorPS7
namespace Go.Proofs.YtnmhaipjfpongabGreatDoor
open Go.ChangeShapes Go.WideShapes Go.ChangeAt Go.RowKit

theorem PutIs.done {w W w' : World} {P : Nat → Addr} {b mb : Nat} {L : FL} {p x : B} (_ : TreeAt w b mb L) (hr : Rising L) (hc : putCode L p x = 0) (hE : Ext w W) (hW : TreeAt W b mb L) (hm : KMap .string S S w' mb ((p, x) :: L.filter fun q => !(q.1 == p))) (ho : Only (fun i => i = mb) W w') :
  PutIs w P b mb L p x (.returned .nilIface) w' := by
 have e1 : putT L p x = setT L p x := by unfold putT; rw [if_pos hc]
 refine ⟨by rw [hc]; rfl, ?_, Only.after hE ho⟩
 rw [e1]
 exact hW.stores ho (hm.perm (set_perm hr p x))

set_option maxRecDepth 100000 in
set_option maxHeartbeats 4000000 in
theorem put_main (w : World) (P : Nat → Addr) (b mb : Nat) (L : FL) (p x : B) (h : TreeAt w b mb L) (hf : Fits L) (hs : Errs w P [1, 3, 6, 7]) (hm : HasMax w) (hp : p.length ≤ 999999) (hk : pathOk p = true) (hx : ¬ 2000 < x.length) (hq : ∀ q ∈ L, q.1.length ≤ 999999) :
  Calls Tryz.prog 52 #[.pointer (some ⟨b, 0, none⟩), S p, S x] w (PutIs w P b mb L p x) := by
 have HC := check_any w p (P 3) (by omega) hm (hs.var 3 _ (by decide) rfl)
 rw [hk, if_pos rfl] at HC
 have HC := Lib.hid HC
 have hcode : putCode L p x = if clash L p then 7 else if (L.lookup p).isNone && decide (60 ≤ L.length) then 8 else 0 := by unfold putCode; rw [hk, if_pos rfl, if_neg hx]
 have HK := Lib.hid hcode
 have H := Lib.hid h
 have HE := Lib.hid (hs.var 6 _ (by decide) rfl)
 have HF := Lib.hid (hs.var 7 _ (by decide) rfl)
 have HQ := Lib.hid hq
 have HFew := Lib.hid hf.few
 have hz : ¬ (2000 : Int) < (x.length : Int) := by omega
 have hbp := ba_slash p
 have hlp : ¬ 9223372036854775807 < p.length + 1 := by omega
 have hf := Lib.hid hf
 clear h hs hm hp hk hcode hx hq
 go_enter Tryz.func52, Tryz.ntmps52
 go_wp2_with fail
 refine HC.out.mono ?_
 rintro e w1 ⟨rfl, ho⟩
 have h1 := H.out.ext ho
 have c0 := h1.mapCell
 obtain ⟨es, clock, hb, hpm, _, _, hst⟩ := h1.map
 have hrg := run_range_map (P := Tryz.prog) w1 156 9 9 mb es clock Tryz.underlying156 hb
 have H1 := Lib.hid h1
 have HB := Lib.hid hb
 have HP := Lib.hid hpm
 have HS := Lib.hid hst
 have HO := Lib.hid ho
 clear h1 hb hpm hst ho
 go_wp2_with fail
 have hmr : mb ≠ w1.heap.size := Nat.ne_of_lt (lt_of_heap HB.out)
 go_loopw [] (fun w' => ∃ seen : Array Nat, Hid (Ext w1 w') ∧ Hid (w'.heap[w1.heap.size]? = some (.mapIter (some mb) clock seen clock)) ∧ Hid (∀ y ∈ es.toList, seen.contains y.born = true → near p (keyB y.key) = false)) (fun w' => (leftOf es (w'.iterSeen w1.heap.size)).size)
 case atStart => exact ⟨#[], Lib.hid (Only.alloc _ _ _), Lib.hid (MapKept.heap_alloc w1 _).1, Lib.hid fun y _ h => by simp at h⟩
 case round =>
  obtain ⟨seen, HX, HR, HN⟩ := hrel
  have law := next_step (P := Tryz.prog) (ty := 0) HX.out (Nat.le_refl _) HR.out (HX.out.heapOf HB.out (fun h => h)) hmr HS.out
  rcases law with ⟨h0, hrun⟩ | ⟨e, he, w3, hx3, hr3, hb3, hrun, hen⟩
  ·have hno : clash L p = false := by
    rw [← clash_of HP.out, List.any_eq_false]
    intro y hy
    rw [HN.out y hy (all_seen es seen h0 y hy)]
    decide
   have hcode := HK.out
   rw [hno, if_neg (by decide)] at hcode
   have hEW : Ext w wr := HO.out.then HX.out
   have hW : TreeAt wr b mb L := H.out.ext hEW
   clear h0 HN hno HR
   have c0W := hW.mapCell
   have hlook := KMap.look (P := Tryz.prog) keyOk_str hW.map Tryz.underlying156 Tryz.underlying9 (zeroStr wr) p
   have hlen := fun ty => MapAt.len (P := Tryz.prog) hW.map Tryz.underlying156 ty
   simp only [List.length_map] at hlen
   have hFull := hEW.cellOf HF.out (fun h => h)
   have HW := Lib.hid hW
   have HEW := Lib.hid hEW
   clear hW hEW hrg c0 HX
   cases hl : L.lookup p with
   | none =>
    simp only [hl] at hlook
    rw [hl] at hcode
    by_cases hfull : 60 ≤ L.length
    ·have hc8 : putCode L p x = 8 := by rw [hcode, if_pos (by simp [hfull])]
     have HC8 := Lib.hid hc8
     have hfz : (60 : Int) ≤ (L.length : Int) := by omega
     clear hcode hc8 hl hfull
     go_wp2_with fail
     go_ret
     exact PutIs.fails H.out HC8.out (by decide) HEW.out
    ·have hc0 : putCode L p x = 0 := by rw [hcode, if_neg (by simp [hfull])]
     have HC0 := Lib.hid hc0
     have hfz : ¬ (60 : Int) ≤ (L.length : Int) := by omega
     clear hcode hc0 hl hfull
     obtain ⟨w4, hrun4, hm4, ho4, _⟩ := KMap.store (P := Tryz.prog) keyOk_str HW.out.map Tryz.underlying156 Tryz.underlying9 p x
     go_wp2_with fail
     go_ret
     exact PutIs.done H.out hf.out.rising HC0.out HEW.out HW.out hm4 ho4
   | some y =>
    simp only [hl] at hlook
    rw [hl] at hcode
    have hc0 : putCode L p x = 0 := by rw [hcode, if_neg (by simp)]
    have HC0 := Lib.hid hc0
    clear hcode hc0 hl
    obtain ⟨w4, hrun4, hm4, ho4, _⟩ := KMap.store (P := Tryz.prog) keyOk_str HW.out.map Tryz.underlying156 Tryz.underlying9 p x
    go_wp2_with fail
    go_ret
    exact PutIs.done H.out hf.out.rising HC0.out HEW.out HW.out hm4 ho4
  ·obtain ⟨q, hqL, hqk, hqv⟩ := keyOf_entry HP.out (mem_left he).1
   have hql := HQ.out q hqL
   rw [hqk, hqv] at hrun hen
   have HE2 := Lib.hid he
   have HQK := Lib.hid hqk
   generalize q.1 = s at hrun hen hql HQK
   generalize q.2 = sv at hrun hen
   have hbs := ba_slash s
   have hls : ¬ 9223372036854775807 < s.length + 1 := by omega
   have hqc : near p s = true → clash L p = true := fun h => by
    rw [← clash_of HP.out, List.any_eq_true]
    exact ⟨e, (mem_left HE2.out).1, by rw [HQK.out]; simpa [keyB] using h⟩
   have HQC := Lib.hid hqc
   have HP1 := fun W => hasPrefix_any W s (p ++ [47])
   have HP2 := fun W => hasPrefix_any W p (s ++ [47])
   have hnear : near p s = ((p ++ [47]).isPrefixOf s || (s ++ [47]).isPrefixOf p) := rfl
   have HNE := Lib.hid hnear
   have HX3 := Lib.hid hx3
   have HR3 := Lib.hid hr3
   have hEW : Ext w w3 := HO.out.then hx3
   clear he hqk hqv hx3 hr3 hb3 hqL hql hqc hnear
   have hExist := hEW.cellOf HE.out (fun h => h)
   have HEW := Lib.hid hEW
   clear hEW
   generalize (p ++ [47]).isPrefixOf s = r1 at HP1 HNE
   generalize (s ++ [47]).isPrefixOf p = r2 at HP2 HNE
   have HP1 := Lib.hid HP1
   have HP2 := Lib.hid HP2
   cases r1 with
   | true =>
    go_wp2_with fail
    refine (HP1.out _).mono ?_
    rintro e1 w4 ⟨rfl, rfl⟩
    go_wp2_with fail
    go_ret
    exact PutIs.fails H.out (by rw [HK.out, if_pos (HQC.out HNE.out)]) (by decide) HEW.out
   | false =>
    cases r2 with
    | true =>
     go_wp2_with fail
     refine (HP1.out _).mono ?_
     rintro e1 w4 ⟨rfl, rfl⟩
     go_wp2_with fail
     refine (HP2.out _).mono ?_
     rintro e1 w4 ⟨rfl, rfl⟩
     go_wp2_with fail
     go_ret
     exact PutIs.fails H.out (by rw [HK.out, if_pos (HQC.out HNE.out)]) (by decide) HEW.out
    | false =>
     go_wp2_with fail
     refine (HP1.out _).mono ?_
     rintro e1 w4 ⟨rfl, rfl⟩
     go_wp2_with fail
     refine (HP2.out _).mono ?_
     rintro e1 w4 ⟨rfl, rfl⟩
     go_wp2_with fail
     go_roundw
     case rel =>
      refine ⟨seen.push e.born, HX3, HR3, Lib.hid fun y hy hc => ?_⟩
      rw [contains_push] at hc
      rcases Bool.or_eq_true _ _ ▸ hc with h1 | h1
      ·exact HN.out y hy h1
      ·have : y = e := born_inj HS.out.2.1 hy (mem_left HE2.out).1 (beq_iff_eq.1 h1)
       subst this
       rw [HQK.out]
       simpa [keyB] using HNE.out
     case measure =>
      rw [iterSeen_of HR3.out, iterSeen_of HR.out]
      exact left_shrinks es seen e HE2.out
theorem treePut_any (w : World) (P : Nat → Addr) (b mb : Nat) (L : FL) (p x : B) (h : TreeAt w b mb L) (hf : Fits L) (hs : Errs w P [1, 3, 6, 7]) (hm : HasMax w) (hp : p.length ≤ 999999) (hq : ∀ q ∈ L, q.1.length ≤ 999999) :
  Calls Tryz.prog 52 #[.pointer (some ⟨b, 0, none⟩), S p, S x] w (PutIs w P b mb L p x) := by
 cases hk : pathOk p with
 | false => exact put_bad w P b mb L p x h hs hm hp hk
 | true =>
  by_cases hx : 2000 < x.length
  ·exact put_long w P b mb L p x h hs hm hp hk hx
  ·exact put_main w P b mb L p x h hf hs hm hp hk hx hq
end Go.Proofs.YtnmhaipjfpongabGreatDoor

/- TreeActs' state: package tree and the model side by side, and an act that is read. No condition but what the variables hold. -/
import Derived.Test.YtnmhaipjfpongaaGreatDoorV14
import Derived.Test.YtnmhaipjfpongaaGreatDoorV1
import Derived.Test.YtnmhaipjfpongaaGreatDoorV6
import Derived.Test.YtnmhaipjfpongaaGreatDoorV11
import Derived.Test.YtnmhaipjfpongaaGreatDoorT10
namespace Go.Proofs.YtnmhaipjfpongaaGreatDoor
open Go.ChangeShapes Go.WideShapes Go.ChangeAt Go.RowKit

theorem codedC (w : World) (P : Nat → Addr) (hs : Sents w P) (c : Nat) (hc : c ≤ 12) : Calls Tryz.prog 16 #[errC P c, I c] w fun e w' => e = .returned (.bool true) ∧ Ext w w' := by
  cases c with
  | zero => exact codedN w 0
  | succ i =>
    have := codedE w P hs i (by omega) ((i + 1 : Nat) : Int)
    have e1 : (((i : Int) + 1 == ((i + 1 : Nat) : Int))) = true := by simp
    rw [e1] at this
    exact this

theorem putCode_le (L : FL) (p x : B) : putCode L p x ≤ 12 := by
  unfold putCode
  repeat' split
  all_goals omega

def remCode (L : FL) (p : B) : Nat := if (L.lookup p).isSome then 0 else 6
theorem remCode_le (L : FL) (p : B) : remCode L p ≤ 12 := by unfold remCode; split <;> omega

structure TT (w0 wr : World) (b mb m : Nat) (slv : Value) (LT LM : FL) : Prop where
  ext : Ext w0 wr
  nb : w0.heap.size ≤ b
  nmb : w0.heap.size ≤ mb
  nm : w0.heap.size ≤ m
  tree : TreeAt wr b mb LT
  model : RTree wr w0.heap.size m slv LM

/-- A struct of the walk's own, in a block that is neither tree's. -/
structure TA (e : TypeId) (w0 wr : World) (b mb m : Nat) (slv : Value) (LT LM : FL) (ha : Nat) (cs : Array Value) : Prop where
  tt : TT w0 wr b mb m slv LT LM
  act : wr.heap[ha]? = some (.cells cs e (0, 0))

theorem blocks_ne {w : World} {b b' : Nat} {cs cs' : Array Value} {e e' : TypeId} {fr fr' : Nat × Nat} (h : w.heap[b]? = some (.cells cs e fr)) (h' : w.heap[b']? = some (.cells cs' e' fr')) (hne : e ≠ e') : b ≠ b' := by
  rintro rfl
  rw [h] at h'
  cases h'
  exact hne rfl

section
variable {w0 wr w' : World} {b mb m : Nat} {slv : Value} {LT LM : FL} {ha : Nat} {cs : Array Value} {e : TypeId}

theorem TT.later (J : TT w0 wr b mb m slv LT LM) (h : Ext wr w') : TT w0 w' b mb m slv LT LM :=
  ⟨J.ext.then h, J.nb, J.nmb, J.nm, J.tree.ext h, J.model.ext h⟩

theorem TT.m_mb (J : TT w0 wr b mb m slv LT LM) : m ≠ mb := heap_ne_map J.model.cells J.tree.map
theorem TT.b_m (J : TT w0 wr b mb m slv LT LM) : b ≠ m := blocks_ne J.tree.cells J.model.cells (by decide)
theorem TT.s_mb (J : TT w0 wr b mb m slv LT LM) : ∀ i, slv.ownBlock = some i → i ≠ mb := row_ne_map J.model.row J.tree.map
theorem TT.s_b (J : TT w0 wr b mb m slv LT LM) : ∀ i, slv.ownBlock = some i → i ≠ b := row_ne J.model.row J.tree.cells (by decide)

theorem TT.treeStep {L' : FL} (J : TT w0 wr b mb m slv LT LM) (ht : TreeAt w' b mb L') (ho : Only (fun i => i = mb) wr w') : TT w0 w' b mb m slv L' LM :=
  ⟨J.ext.trans ho (fun _ _ h => h) (fun i hi e => by have := J.nmb; omega), J.nb, J.nmb, J.nm, ht, J.model.later ho J.m_mb J.s_mb⟩

theorem TT.modelStep {L' : FL} {r : Value} {x : Ending} (J : TT w0 wr b mb m slv LT LM) (h : RDone wr w0.heap.size m slv L' r x w') : ∃ slv', x = .returned r ∧ TT w0 w' b mb m slv' LT L' ∧ Only (InR m slv) wr w' := by
  obtain ⟨slv', rfl, hr, ho, _⟩ := h
  refine ⟨slv', rfl, ⟨J.ext.trans ho (fun _ _ h => h) (fun i hi e => ?_), J.nb, J.nmb, J.nm, J.tree.later ho (fun e => ?_) (fun e => ?_), hr⟩, ho⟩
  · rcases e with e | e
    · have := J.nm; omega
    · have := (J.model.row.lt i e).1; omega
  · rcases e with e | e
    · exact J.b_m e
    · exact J.s_b b e rfl
  · rcases e with e | e
    · exact J.m_mb e.symm
    · exact J.s_mb mb e rfl

theorem TA.later (J : TA e w0 wr b mb m slv LT LM ha cs) (h : Ext wr w') : TA e w0 w' b mb m slv LT LM ha cs := ⟨J.tt.later h, h.heapOf J.act (fun h => h)⟩

theorem TA.treeStep {L' : FL} (J : TA e w0 wr b mb m slv LT LM ha cs) (ht : TreeAt w' b mb L') (ho : Only (fun i => i = mb) wr w') : TA e w0 w' b mb m slv L' LM ha cs :=
  ⟨J.tt.treeStep ht ho, ho.heapOf J.act (heap_ne_map J.act J.tt.tree.map)⟩

theorem TA.modelStep {L' : FL} {r : Value} {x : Ending} (he1 : e ≠ 45) (he2 : e ≠ 57) (J : TA e w0 wr b mb m slv LT LM ha cs) (h : RDone wr w0.heap.size m slv L' r x w') : ∃ slv', x = .returned r ∧ TA e w0 w' b mb m slv' LT L' ha cs := by
  obtain ⟨slv', rfl, h1, ho⟩ := J.tt.modelStep h
  refine ⟨slv', rfl, h1, ho.heapOf J.act fun h => ?_⟩
  rcases h with h | h
  · exact blocks_ne J.act J.tt.model.cells he1 h
  · exact row_ne J.tt.model.row J.act (Ne.symm he2) ha h rfl

theorem TA.c (J : TA e w0 wr b mb m slv LT LM ha cs) (j : Nat) : wr.cell? ⟨ha, j, none⟩ = cs[j]? := cell_of_heap J.act j

theorem TA.at (J : TA e w0 wr b mb m slv LT LM ha cs) {j : Nat} {u : Value} (h : cs[j]? = some u) : wr.cell? ⟨ha, j, none⟩ = some u := (J.c j).trans h

theorem TA.put {P : Nat → Addr} (J : TA e w0 wr b mb m slv LT LM ha cs) (hf : Fits LT) (hs : Sents w0 P) (hm : HasMax w0) (hl : ∀ q ∈ LT, q.1.length ≤ 1000) (p x : B) (hp : p.length ≤ 999999) :
    Calls Tryz.prog 17 #[.pointer (some ⟨b, 0, none⟩), S p, S x] wr fun r w' => r = .returned (errC P (putCode LT p x)) ∧ TA e w0 w' b mb m slv (putT LT p x) LM ha cs :=
  (treePut_any wr P b mb LT p x J.tt.tree hf (hs.ext J.tt.ext) (hm.ext J.tt.ext) hp (fun q hq => by have := hl q hq; omega)).mono fun _ _ ⟨h1, h2, h3⟩ => ⟨h1, J.treeStep h2 h3⟩

theorem TA.putM (he1 : e ≠ 45) (he2 : e ≠ 57) (J : TA e w0 wr b mb m slv LT LM ha cs) (hf : Fits LM) (p x : B) (hp : p.length ≤ 999999) :
    Calls Tryz.prog 18 #[.pointer (some ⟨m, 0, none⟩), S p, S x] wr fun r w' => ∃ slv', r = .returned (I (putCode LM p x)) ∧ TA e w0 w' b mb m slv' LT (putT LM p x) ha cs :=
  (putM_any wr w0.heap.size m slv LM p x J.tt.model hf.rising (by have := hf.few; omega) hp J.tt.ext.size).mono fun _ _ h => J.modelStep he1 he2 h

theorem TA.remove {P : Nat → Addr} (J : TA e w0 wr b mb m slv LT LM ha cs) (hs : Sents w0 P) (p : B) :
    Calls Tryz.prog 19 #[.pointer (some ⟨b, 0, none⟩), S p] wr fun r w' => r = .returned (errC P (remCode LT p)) ∧ TA e w0 w' b mb m slv (delT LT p) LM ha cs :=
  (treeRemove_any wr b mb LT p (P 5) J.tt.tree ((hs.ext J.tt.ext).var 5 _ rfl)).mono fun _ _ ⟨h1, h2, h3⟩ => ⟨by rw [h1]; unfold remCode; split <;> rfl, J.treeStep h2 h3⟩

theorem TA.removeM (he1 : e ≠ 45) (he2 : e ≠ 57) (J : TA e w0 wr b mb m slv LT LM ha cs) (hf : Fits LM) (p : B) :
    Calls Tryz.prog 20 #[.pointer (some ⟨m, 0, none⟩), S p] wr fun r w' => ∃ slv', r = .returned (I (remCode LM p)) ∧ TA e w0 w' b mb m slv' LT (delT LM p) ha cs :=
  (removeM_any wr w0.heap.size m slv LM p J.tt.model hf.rising.nodup (by have := hf.few; omega) J.tt.ext.size).mono fun _ _ h => by
    obtain ⟨slv', h1, h2⟩ := J.modelStep he1 he2 h
    exact ⟨slv', by rw [h1]; unfold remCode; split <;> rfl, h2⟩
end

theorem lens_put {L : FL} (hr : Rising L) {n : Nat} (h : ∀ q ∈ L, q.1.length ≤ n) (p x : B) (hp : p.length ≤ n) : ∀ q ∈ putT L p x, q.1.length ≤ n := by
  intro q hq
  unfold putT at hq
  split at hq
  · rcases mem_set hr hq with rfl | h1
    · exact hp
    · exact h q h1
  · exact h q hq
theorem lens_del {L : FL} {n : Nat} (h : ∀ q ∈ L, q.1.length ≤ n) (p : B) : ∀ q ∈ delT L p, q.1.length ≤ n := fun q hq => h q (List.mem_filter.1 hq).1

/-! ### a closed fact: a file -/
set_option maxRecDepth 100000 in
theorem treed_any (w : World) (P : Nat → Addr) (hs : Sents w P) (hm : HasMax w) (hp : Pow w) : Calls Tryz.prog 14 #[] w fun e w' => e = .returned (.bool true) ∧ Ext w w' := by
  have HS := Lib.hid hs
  have HM := Lib.hid hm
  have HP := Lib.hid hp
  have e1 : putCode [] [97] [120] = 0 := by decide +kernel
  have e2 : putT [] [97] [120] = [([97], [120])] := by decide +kernel
  have e3 : textT [([97], [120])] = [97, 32, 49, 10, 120, 10] := by decide +kernel
  have E1 := Lib.hid e1
  have E2 := Lib.hid e2
  have E3 := Lib.hid e3
  clear hs hm hp e1 e2 e3
  go_enter Tryz.func14, Tryz.ntmps14
  go_wp2_with fail
  refine (treeNew_any w).mono ?_
  rintro e w1 ⟨rfl, ht, ho, _⟩
  have HT := Lib.hid ht
  have HO := Lib.hid ho
  clear ht ho
  have hput := treePut_any w1 P (w.heap.size + 1) w.heap.size [] [97] [120] HT.out Fits.nil (HS.out.ext HO.out) (HM.out.ext HO.out) (by decide) (by simp)
  unfold PutIs at hput
  rw [E1.out, E2.out, show errC P 0 = .nilIface from rfl] at hput
  have HPU := Lib.hid hput
  clear hput
  obtain ⟨b, hb⟩ : ∃ b, b = w.heap.size + 1 := ⟨_, rfl⟩
  rw [← hb] at HPU
  rw [← hb]
  have hbn := Nat.lt_succ_self w.heap.size
  rw [← Nat.succ_eq_add_one] at hb
  have HB := Lib.hid hb
  clear hb hbn
  go_wp2_with fail
  refine HPU.out.mono ?_
  rintro e w2 ⟨rfl, ht2, ho2⟩
  have HX : Hid (Ext w w2) := Lib.hid (HO.out.trans ho2 (fun _ _ h => h) (fun i hi e => by omega))
  have htx := text_any w2 b w.heap.size [([97], [120])] ht2 (List.pairwise_singleton _ _) (by simp) (by simp) (by simp) (HP.out.ext HX.out)
  rw [E3.out] at htx
  have HTX := Lib.hid htx
  clear ht2 ho2 htx
  go_wp2_with fail
  refine HTX.out.mono ?_
  rintro e w3 ⟨rfl, ho3⟩
  have HX3 := Lib.hid (HX.out.then ho3)
  clear ho3
  go_wp2_with fail
  go_ret
  exact ⟨rfl, HX3.out⟩
end Go.Proofs.YtnmhaipjfpongaaGreatDoor

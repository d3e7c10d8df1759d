/- Texts of this seat laid together for one claim: Z24, Bm8, Bm12, Z30. No condition of its own: what each proves stands with its theorems. -/
import Derived.Test.YtnmhaipjfpongacGreatDoorYF37
import Derived.Test.YtnmhaipjfpongacGreatDoorYF42
import Derived.Test.YtnmhaipjfpongacGreatDoorYF43
import Derived.Deep.CutBlock
import Derived.Deep.DeepCutAuto
import Derived.Test.YtnmhaipjfpongacGreatDoorYF36
import Derived.Test.YtnmhaipjfpongacGreatDoorYF27
namespace Go.Proofs.YtnmhaipjfpongacGreatDoor
open Go.ChangeShapes Go.WideShapes Go.ChangeAt Go.RowKit

theorem cnt_done (s : BS) : ∀ (l : List Nat), l.countP (cRan s) + l.countP (cHit s) = l.countP (fun k => s.st k == 2)
 | [] => rfl
 | i :: l => by
  have ih := cnt_done s l
  rw [List.countP_cons, List.countP_cons, List.countP_cons]
  unfold cRan cHit at *
  generalize s.hit i = b
  generalize (s.st i == 2) = c
  cases b <;> cases c <;> simp <;> omega
theorem cnt_allhit {s : BS} {l : List Nat} (h : ∀ k ∈ l, s.st k = 2 → s.hit k = true) : l.countP (cRan s) = 0 := by
 rw [List.countP_eq_zero]
 intro i hi
 unfold cRan
 intro h2
 rw [Bool.and_eq_true, beq_iff_eq] at h2
 rw [h i hi h2.1] at h2
 simp at h2
theorem cnt_fin {E : BE} {s t : BS} (h : ∀ i ∈ E.sm, s.st i = finS E i) (h2 : ∀ i ∈ E.sm, t.st i = finS E i) : E.sm.countP (fun k => s.st k == 2) = E.sm.countP (fun k => t.st k == 2) := by
 refine List.countP_congr fun i hi => ?_
 rw [h i hi, h2 i hi]

theorem BInv.over {E : BE} {s : BS} (I : BInv E s) (h : ∀ i ∈ E.sm, s.st i ≠ 1) : ∀ i ∈ E.sm, s.st i = 2 ∨ s.st i = 3 ∨ s.st i = 4 := fun i hi => by
 have := I.rng i hi
 have := h i hi
 omega

section
variable {E : BE} {o : List Nat} {is : Nat → Bool} {s : BS} {many : Nat} {L : FL}
theorem BWell.runZ (h : BWell E o is) (I : BInv E s) (C : CS) (z : Int) : BInv E (runZ E C s z).2.1 := by
 by_cases hin : ∃ i : Nat, i ∈ E.sm ∧ (i : Int) = z
 ·obtain ⟨i, hi, rfl⟩ := hin
  rw [runZ_in hi]
  exact h.run I i
 ·rw [runZ_out (fun k hk e => hin ⟨k, hk, e⟩)]
  exact I
theorem fail_two {i k : Nat} (h : (failP E s i).st k = 2) : s.st k = 2 := by
 unfold failP at h
 rcases spread_cases (E := E) (s := setP s i 3) k with ⟨_, h2, _⟩ | ⟨_, h2⟩
 ·omega
 ·rw [h2] at h
  have e : (setP s i 3).st k = if k = i then 3 else s.st k := rfl
  rw [e] at h
  split at h
  ·omega
  ·exact h
theorem Roomy.mono {s' : BS} (h : Roomy E many s L) (hs : ∀ k ∈ E.sm, s'.st k = 2 → s.st k = 2) : Roomy E many s' L := ⟨h.nodup, h.keys, fun i hi h2 => h.has i hi (hs i hi h2)⟩
theorem done_two {i k : Nat} {b : Bool} (h : (doneP s i b).st k = 2) : k = i ∨ s.st k = 2 := by
 have e : (doneP s i b).st k = if k = i then 2 else s.st k := rfl
 rw [e] at h
 split at h
 ·exact .inl ‹_›
 ·exact .inr h
theorem Roomy.run (h : Roomy E many s L) (hm : E.sm.length ≤ many) (z : Int) : Roomy E many (runZ E (some (many, L)) s z).2.1 (cacheZ E many L s z) := by
 unfold cacheZ
 by_cases hin : ∃ i : Nat, i ∈ E.sm ∧ (i : Int) = z
 ·obtain ⟨i, hi, rfl⟩ := hin
  rw [runZ_in hi]
  unfold runP
  split
  ·exact h
  ·split
   ·exact h
   ·split
    ·exact h
    ·split
     ·exact h.mono fun k _ hk => fail_two hk
     ·simp only
      cases hl : L.lookup (E.key i) with
      | some x => exact h.get (by rw [hl]; rfl) (fun k _ hk => done_two hk)
      | none => exact h.put hm hi _ (fun k _ hk => done_two hk)
 ·rw [runZ_out (fun k hk e => hin ⟨k, hk, e⟩)]
  exact h
theorem hits_run (hall : ∀ i ∈ E.sm, (E.ans i).2 = 0 → (L.lookup (E.key i)).isSome = true) (hh : ∀ i ∈ E.sm, s.st i = 2 → s.hit i = true) (z : Int) :
  (∀ i ∈ E.sm, (runZ E (some (many, L)) s z).2.1.st i = 2 → (runZ E (some (many, L)) s z).2.1.hit i = true) ∧ (cacheZ E many L s z = L ∨ ∃ i ∈ E.sm, (L.lookup (E.key i)).isSome = true ∧ cacheZ E many L s z = getL L (E.key i)) := by
 unfold cacheZ
 by_cases hin : ∃ i : Nat, i ∈ E.sm ∧ (i : Int) = z
 ·obtain ⟨i, hi, rfl⟩ := hin
  rw [runZ_in hi]
  unfold runP
  split
  ·exact ⟨hh, .inl rfl⟩
  ·split
   ·exact ⟨hh, .inl rfl⟩
   ·split
    ·exact ⟨hh, .inl rfl⟩
    ·split
     ·exact ⟨fun k hk h2 => hh k hk (fail_two h2), .inl rfl⟩
     ·rename_i ha
      simp only
      have hs := hall i hi (by simpa using ha)
      cases hl : L.lookup (E.key i) with
      | some x =>
       refine ⟨fun k hk h2 => ?_, .inr ⟨i, hi, by rw [hl]; rfl, rfl⟩⟩
       have e : (doneP s i true).hit k = if k = i then true else s.hit k := rfl
       show (doneP s i true).hit k = true
       rw [e]
       split
       ·rfl
       ·rename_i hki
        rcases done_two h2 with h3 | h3
        ·exact absurd h3 hki
        ·exact hh k hk h3
      | none => rw [hl] at hs; cases hs
 ·rw [runZ_out (fun k hk e => hin ⟨k, hk, e⟩)]
  exact ⟨hh, .inl rfl⟩
theorem nohit_run (hh : ∀ k, s.hit k = false) (z : Int) : ∀ k, (runZ E none s z).2.1.hit k = false := by
 by_cases hin : ∃ i : Nat, i ∈ E.sm ∧ (i : Int) = z
 ·obtain ⟨i, hi, rfl⟩ := hin
  rw [runZ_in hi]
  unfold runP
  split
  ·exact hh
  ·split
   ·exact hh
   ·split
    ·exact hh
    ·split
     ·exact hh
     ·intro k
      show (if k = i then false else s.hit k) = false
      rw [hh k]
      split <;> rfl
 ·rw [runZ_out (fun k hk e => hin ⟨k, hk, e⟩)]
  exact hh
end

noncomputable def stepNn (E : BE) (s : BS) (z : Int) : BS := (runZ E none s z).2.1
theorem run_of {E : BE} {s : BS} {C : CS} {i : Nat} (hi : i ∈ E.sm) (hr : readyP E s i = true) : (runZ E C s (i : Int)).1.2 = 0 ∧ ∀ k, ranP (runZ E C s (i : Int)).2.1 k = (decide (k = i) || ranP s k) := by
 obtain ⟨b, C', e⟩ := run_ready (C := C) hi hr
 rw [runZ_in hi, e]
 exact ⟨rfl, fun k => ran_step k⟩
def RunIs (A : World → Prop) (P : Nat → Addr) (r : Bool × Nat) (e : Ending) (w' : World) : Prop := e = .returned (.tuple #[.bool r.1, errC P r.2]) ∧ A w'
theorem RunIs.ready {A : World → Prop} {P : Nat → Addr} {r : Bool × Nat} {e : Ending} {w' : World} (h : RunIs A P r e w') (h0 : r.2 = 0) : ∃ b, e = .returned (.tuple #[.bool b, .nilIface]) ∧ A w' := by
 obtain ⟨rfl, hA⟩ := h
 rw [h0]
 exact ⟨_, rfl, hA⟩

structure SameG (E : BE) (Ka Kb Kd : BK) (cb many n0 ba bb bd be : Nat) : Prop where
 a : ∀ i, InBld E Ka i → ba ≤ i ∧ i < bb
 b : ∀ i, InBld E Kb i → bb ≤ i ∧ i < bd
 d : ∀ i, InBld E Kd i → bd ≤ i ∧ i < be
 n : n0 ≤ ba ∧ ba ≤ bb ∧ bb ≤ bd ∧ bd ≤ be
 ca : Ka.cp = PTR cb
 cB : Kb.cp = .pointer none
 cd : Kd.cp = PTR cb
 many : many ≤ 100
structure SameAt (w0 : World) (P : Nat → Addr) (E : BE) (Ka Kb Kd : BK) (cb cmb many ba bb bd be : Nat) (X : List (Nat × Obj)) (L : FL) (sa sb sd : BS) (wr : World) : Prop where
 a : BldAt wr P ba E Ka sa
 b : BldAt wr P bb E Kb sb
 d : BldAt wr P bd E Kd sd
 ia : BInv E sa
 ib : BInv E sb
 id : BInv E sd
 ext : Ext w0 wr
 size : be ≤ wr.heap.size
 cch : ∃ sv, CacheAt wr cb cmb sv many L ∧ (∀ i, InCache cb cmb sv i → (w0.heap.size ≤ i ∧ i < ba) ∨ be ≤ i) ∧ CacheOk L ∧ L.length ≤ many ∧ (E.sm.length ≤ many → Roomy E many sa L) ∧ ∀ x ∈ X, ¬ InCache cb cmb sv x.1
 kept : ∀ x ∈ X, wr.heap[x.1]? = some x.2 ∧ be ≤ x.1
 nohit : ∀ k, sb.hit k = false
 hits : E.sm.length ≤ many → ∀ i ∈ E.sm, sd.st i = 2 → sd.hit i = true
section
variable {w0 wr w' : World} {P : Nat → Addr} {E : BE} {Ka Kb Kd : BK} {cb cmb many ba bb bd be : Nat} {X : List (Nat × Obj)} {L : FL} {sa sb sd : BS} {o : List Nat} {is : Nat → Bool}
theorem SameAt.grow (h : SameAt w0 P E Ka Kb Kd cb cmb many ba bb bd be X L sa sb sd wr) (ho : Ext wr w') : SameAt w0 P E Ka Kb Kd cb cmb many ba bb bd be X L sa sb sd w' := by
 obtain ⟨sv, h1, h2, h3⟩ := h.cch
 exact ⟨h.a.ext ho, h.b.ext ho, h.d.ext ho, h.ia, h.ib, h.id, h.ext.then ho, Nat.le_trans h.size ho.size, ⟨sv, h1.later ho (fun _ _ h => h), h2, h3⟩, fun x hx => ⟨ho.heapOf (h.kept x hx).1 (fun h => h), (h.kept x hx).2⟩, h.nohit, h.hits⟩
theorem SameAt.add (h : SameAt w0 P E Ka Kb Kd cb cmb many ba bb bd be X L sa sb sd wr) (ho : Ext wr w') {ob : Obj} (hc : w'.heap[wr.heap.size]? = some ob) : SameAt w0 P E Ka Kb Kd cb cmb many ba bb bd be ((wr.heap.size, ob) :: X) L sa sb sd w' := by
 have g := h.grow ho
 obtain ⟨sv, h1, h2, h3, h4, h5, h6⟩ := h.cch
 exact ⟨g.a, g.b, g.d, g.ia, g.ib, g.id, g.ext, g.size, ⟨sv, h1.later ho (fun _ _ h => h), h2, h3, h4, h5, fun x hx e => by
  rcases List.mem_cons.1 hx with rfl | hx
  ·exact absurd (h1.lt _ e) (Nat.lt_irrefl _)
  ·exact h6 x hx e⟩, fun x hx => by
  rcases List.mem_cons.1 hx with rfl | hx
  ·exact ⟨hc, h.size⟩
  ·exact g.kept x hx, g.nohit, g.hits⟩
theorem SameAt.drop {y : Nat × Obj} (h : SameAt w0 P E Ka Kb Kd cb cmb many ba bb bd be (y :: X) L sa sb sd wr) (G : SameG E Ka Kb Kd cb many w0.heap.size ba bb bd be) (ho : Only (fun i => i = y.1) wr w') (hn : ∀ z ∈ X, z.1 ≠ y.1) : SameAt w0 P E Ka Kb Kd cb cmb many ba bb bd be X L sa sb sd w' := by
 obtain ⟨sv, h1, h2, h3, h4, h5, h6⟩ := h.cch
 have hy := (h.kept y (.head _)).2
 have g := G.n
 exact ⟨h.a.later ho (fun i hi e => by have := G.a i hi; omega), h.b.later ho (fun i hi e => by have := G.b i hi; omega), h.d.later ho (fun i hi e => by have := G.d i hi; omega), h.ia, h.ib, h.id, h.ext.trans ho (fun _ _ h => h) (fun i hi e => by omega), Nat.le_trans h.size ho.size, ⟨sv, h1.later ho (fun i hi e => h6 y (.head _) (e ▸ hi)), h2, h3, h4, h5, fun x hx => h6 x (.tail _ hx)⟩, fun x hx => ⟨ho.heapOf (h.kept x (.tail _ hx)).1 (hn x hx), (h.kept x (.tail _ hx)).2⟩, h.nohit, h.hits⟩
end
end Go.Proofs.YtnmhaipjfpongacGreatDoor

namespace Go.Proofs.YtnmhaipjfpongacGreatDoor
open Go.ChangeShapes Go.WideShapes Go.ChangeAt Go.RowKit

noncomputable def stepM (E : BE) (x : BS × CS) (i : Nat) : BS × CS := ((runZ E x.2 x.1 (i : Int)).2.1, (runZ E x.2 x.1 (i : Int)).2.2)
def Beside (K : MK) (cb lo : Nat) (R : World → Prop) : Prop := ∀ (w w' : World) (q : Nat → Prop), R w → Only q w w' → (∀ i, q i → InM K i ∨ i = cb ∨ lo ≤ i) → R w'
structure MSt (w0 : World) (E : BE) (K : MK) (cb : Nat) (R : World → Prop) (cv : Value) (x : BS × CS) (w : World) : Prop where
 bld : MBldAt w0 w E K x.1
 inv : BInv E x.1
 cch : CchM w K cb cv x.2
 lt : ∀ i, cv.ownBlock = some i → i < w.heap.size
 rest : R w
section
variable {w0 w w' : World} {E : BE} {K : MK} {o : List Nat} {is : Nat → Bool} {cb lo : Nat} {cv : Value} {R : World → Prop} {x : BS × CS}
theorem MSt.grow (h : MSt w0 E K cb R cv x w) (hR : Beside K cb lo R) (ho : Ext w w') : MSt w0 E K cb R cv x w' :=
 ⟨h.bld.grow ho, h.inv, h.cch.ext ho, fun i e => Nat.lt_of_lt_of_le (h.lt i e) ho.size, hR _ _ _ h.rest ho (fun _ h => h.elim)⟩
theorem MSt.other {q : Nat → Prop} (h : MSt w0 E K cb R cv x w) (hR : Beside K cb lo R) (ho : Only q w w') (hq : ∀ i, q i → lo ≤ i ∧ w0.heap.size ≤ i ∧ ¬ InMA K i ∧ i ≠ cb ∧ cv.ownBlock ≠ some i) : MSt w0 E K cb R cv x w' :=
 ⟨h.bld.later ho (fun i e => (hq i e).2.1) (fun i hi e => (hq i e).2.2.1 hi), h.inv, by
  obtain ⟨s, C⟩ := x
  cases C with
  | none => exact h.cch
  | some p =>
   obtain ⟨many, L⟩ := p
   obtain ⟨h1, h2, h3⟩ := h.cch
   exact ⟨h1, h2.later ho (fun e => (hq _ e).2.2.2.1 rfl) (fun i e e2 => (hq i e2).2.2.2.2 e), h3⟩, fun i e => Nat.lt_of_lt_of_le (h.lt i e) ho.size, hR _ _ _ h.rest ho (fun i e => .inr (.inr (hq i e).1))⟩
theorem MSt.run (h : MSt w0 E K cb R cv x w) (hR : Beside K cb lo R) (hW : BWell E o is) (hL : BLens E) (hT : E.T.length ≤ 1000000) (hcb : w0.heap.size ≤ cb) (hcl : cb < w.heap.size) (z : Int) :
  Calls Tryz.prog 57 #[PTR K.b, I z] w (fun e w' => ∃ cv', e = .returned (.tuple #[.bool (runZ E x.2 x.1 z).1.1, IN (runZ E x.2 x.1 z).1.2]) ∧ MSt w0 E K cb R cv' ((runZ E x.2 x.1 z).2.1, (runZ E x.2 x.1 z).2.2) w' ∧ Only (fun i => InM K i ∨ i = cb) w w' ∧ ∀ i, cv'.ownBlock = some i → cv.ownBlock = some i ∨ w.heap.size ≤ i) := by
 refine (runM_any h.bld h.cch hW h.inv hL hT hcb hcl z).mono ?_
 rintro e w' ⟨cv', rfl, h1, h2, h3, h4⟩
 exact ⟨cv', rfl, ⟨h1, hW.runZ h.inv _ z, h2, fun i e => (h4 i e).elim (fun e => Nat.lt_of_lt_of_le (h.lt i e) h3.size) (·.2), hR _ _ _ h.rest h3 (fun i e => e.elim .inl fun e => .inr (.inl e))⟩, h3, fun i e => (h4 i e).imp id (·.1)⟩
end
end Go.Proofs.YtnmhaipjfpongacGreatDoor

namespace Go.Proofs.YtnmhaipjfpongacGreatDoor
open Go.ChangeShapes Go.WideShapes Go.ChangeAt Go.RowKit

section
variable {σ : Type} {E : BE} {bs : σ → BS} {step : σ → Nat → σ}
end
theorem runP_none (E : BE) (s : BS) (i : Nat) : (runP E none s i).2.2 = none := by
 unfold runP
 split
 ·rfl
 ·split
  ·rfl
  ·split
   ·rfl
   ·split <;> rfl
end Go.Proofs.YtnmhaipjfpongacGreatDoor

namespace Go.Proofs.YtnmhaipjfpongacGreatDoor
open Go.ChangeShapes Go.WideShapes Go.ChangeAt Go.RowKit

structure Ran {σ : Type} (E : BE) (bs : σ → BS) (x y : σ) (o : List Nat) : Prop where
 all : ∀ k, ranP (bs y) k = (decide (k ∈ o) || ranP (bs x) k)
 new : ∀ k ∈ o, k ∈ E.sm ∧ ranP (bs x) k = false
 once : o.Nodup
section
variable {σ : Type} {E : BE} {bs : σ → BS} {step : σ → Nat → σ} {x y z : σ} {o p : List Nat}
theorem Ran.nil : Ran E bs x x [] := ⟨fun k => by simp, fun k h => (by cases h), List.nodup_nil⟩
theorem Ran.cons {i : Nat} (hi : i ∈ E.sm) (hr : readyP E (bs x) i = true) (hs : ∀ k, ranP (bs (step x i)) k = (decide (k = i) || ranP (bs x) k)) (h : Ran E bs (step x i) y o) : Ran E bs x y (i :: o) := by
 have h0 : ranP (bs x) i = false := by
  have := (ready_iff.1 hr).1
  unfold ranP
  rw [this]; rfl
 have hno : ∀ k ∈ o, k ≠ i ∧ ranP (bs x) k = false := fun k hk => by
  have h1 := (h.new k hk).2
  rw [hs, Bool.or_eq_false_iff] at h1
  exact ⟨of_decide_eq_false h1.1, h1.2⟩
 refine ⟨fun k => ?_, fun k hk => ?_, List.nodup_cons.2 ⟨fun hk => (hno i hk).1 rfl, h.once⟩⟩
 ·rw [h.all, hs]
  by_cases hk : k = i
  ·simp [hk]
  ·simp [hk]
 ·rcases List.mem_cons.1 hk with rfl | hk
  ·exact ⟨hi, h0⟩
  ·exact ⟨(h.new k hk).1, (hno k hk).2⟩
theorem PicksTo.ran {ps : List Int} (hs : ∀ x i, i ∈ E.sm → readyP E (bs x) i = true → ∀ k, ranP (bs (step x i)) k = (decide (k = i) || ranP (bs x) k)) (h : PicksTo E bs step ps x o y) : Ran E bs x y o := by
 induction h with
 | nil x => exact .nil
 | skip _ _ ih => exact ih
 | pick hk _ ih =>
  have hm := List.mem_filter.1 (List.mem_of_getElem? hk)
  exact .cons hm.1 hm.2 (hs _ _ hm.1 hm.2) ih
theorem AllOut.ran (hs : ∀ x i, i ∈ E.sm → readyP E (bs x) i = true → ∀ k, ranP (bs (step x i)) k = (decide (k = i) || ranP (bs x) k)) (h : AllOut E bs step x o y) : Ran E bs x y o ∧ readyL E (bs y) = [] := by
 induction h with
 | stop h => exact ⟨.nil, h⟩
 | @more x y o i R hk _ ih =>
  have hm : i ∈ readyL E (bs x) := by rw [hk]; exact .head _
  have hm := List.mem_filter.1 hm
  exact ⟨.cons hm.1 hm.2 (hs _ _ hm.1 hm.2) ih.1, ih.2⟩
end

structure PkA (w0 : World) (P : Nat → Addr) (base : Nat) (E : BE) (K : BK) (R : World → Prop) (x : BS) (wr : World) : Prop where
 bld : BldAt wr P base E K x
 inv : BInv E x
 ext : Ext w0 wr
 rest : R wr
 nohit : ∀ k, x.hit k = false
theorem PkA.keeps {w0 : World} {P : Nat → Addr} {base : Nat} {E : BE} {K : BK} {R : World → Prop} {own : Nat → Prop} {o : List Nat} {is : Nat → Bool} (hc : K.cp = .pointer none) (hW : BWell E o is) (hL : BLens E) (hV : PV w0 P [2, 4, 5, 9, 10, 11])
    (hlo : ∀ i, InBld E K i → w0.heap.size ≤ i ∧ own i) (hR : ∀ w w' (q : Nat → Prop), R w → Only q w w' → (∀ i, q i → InBld E K i ∨ (¬ own i ∧ w0.heap.size ≤ i)) → R w') :
    KeepsOwn (fun w x => PkA w0 P base E K R x w) own w0.heap.size (fun x => x) (fun x i => stepNn E x (i : Int)) P base E K :=
  ⟨fun _ _ h => ⟨h.bld, h.inv⟩, fun _ _ h => h.ext.size,
   fun w x w' q h ho hq => ⟨h.bld.later ho (fun i hi e => (hq i e).1 (hlo i hi).2), h.inv, h.ext.trans ho (fun _ _ h => h) (fun i hi e => by have := (hq i e).2; omega), hR w w' q h.rest ho (fun i e => .inr (hq i e)), h.nohit⟩,
   fun w x h i hi hr => (runN_any h.bld hc hW h.inv hL (hV.ext h.ext) (i : Int)).mono fun e w' hp => by
     obtain ⟨rfl, hb', ho⟩ := hp
     rw [(run_of hi hr).1]
     exact ⟨_, rfl, ⟨hb', hW.runZ h.inv _ _, h.ext.trans ho (fun _ _ h => h) (fun i hi e => by have := (hlo i e.bld).1; omega), hR w w' _ h.rest ho (fun i e => .inl e.bld), nohit_run h.nohit _⟩, ho.mono fun i _ e => (hlo i e.bld).2⟩,
   fun _ _ hi hr => (run_of hi hr).2⟩

end Go.Proofs.YtnmhaipjfpongacGreatDoor

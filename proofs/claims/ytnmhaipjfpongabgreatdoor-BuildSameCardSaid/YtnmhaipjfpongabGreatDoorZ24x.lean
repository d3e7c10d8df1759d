/- BuildSame in plain words, and its state in memory: three builds of the same rules, two of them beside one cache. No condition. -/
import Derived.Test.YtnmhaipjfpongabGreatDoorZ23x
import Derived.Test.YtnmhaipjfpongabGreatDoorGn
namespace Go.Proofs.YtnmhaipjfpongabGreatDoor
open Go.ChangeShapes Go.WideShapes Go.ChangeAt Go.RowKit

/-! ### counts -/
theorem cnt_sum {s : BS} : ∀ (l : List Nat), (∀ i ∈ l, s.st i = 2 ∨ s.st i = 3 ∨ s.st i = 4) → l.countP (cRan s) + l.countP (cHit s) + l.countP (cFail s) + l.countP (cLeft s) = l.length
 | [], _ => rfl
 | i :: l, h => by
  have ih := cnt_sum l fun k hk => h k (.tail _ hk)
  have h1 := h i (.head _)
  rw [List.countP_cons, List.countP_cons, List.countP_cons, List.countP_cons, List.length_cons]
  unfold cRan cHit cFail cLeft at *
  generalize s.hit i = b
  rcases h1 with e | e | e <;> rw [e] <;> cases b <;> simp <;> omega
theorem cnt_done (s : BS) : ∀ (l : List Nat), l.countP (cRan s) + l.countP (cHit s) = l.countP (fun k => s.st k == 2)
 | [] => rfl
 | i :: l => by
  have ih := cnt_done s l
  rw [List.countP_cons, List.countP_cons, List.countP_cons]
  unfold cRan cHit at *
  generalize s.hit i = b
  generalize (s.st i == 2) = c
  cases b <;> cases c <;> simp <;> omega
theorem cnt_nohit {s : BS} (h : ∀ k, s.hit k = false) (l : List Nat) : l.countP (cHit s) = 0 := by
 rw [List.countP_eq_zero]
 intro i _
 unfold cHit
 rw [h i]
 simp
theorem cnt_allhit {s : BS} {l : List Nat} (h : ∀ k ∈ l, s.st k = 2 → s.hit k = true) : l.countP (cRan s) = 0 := by
 rw [List.countP_eq_zero]
 intro i hi
 unfold cRan
 intro h2
 rw [Bool.and_eq_true, beq_iff_eq] at h2
 rw [h i hi h2.1] at h2
 simp at h2
theorem cnt_fin {E : BE} {s t : BS} (h : ∀ i ∈ E.sm, s.st i = finS E i) (h2 : ∀ i ∈ E.sm, t.st i = finS E i) : E.sm.countP (fun k => s.st k == 2) = E.sm.countP (fun k => t.st k == 2) := by
 refine List.countP_congr fun i hi => ?_
 rw [h i hi, h2 i hi]

theorem cnt_four (s : BS) (l : List Nat) (h : ∀ i ∈ l, s.st i = 2 ∨ s.st i = 3 ∨ s.st i = 4) : ∃ a b c d : Nat, cntV s l = #[IN a, IN b, IN c, IN d] ∧ a = l.countP (cRan s) ∧ b = l.countP (cHit s) ∧ a + b + c + d = l.length ∧ a + b = l.countP (fun k => s.st k == 2) :=
 ⟨_, _, _, _, rfl, rfl, rfl, cnt_sum l h, cnt_done s l⟩
theorem BInv.over {E : BE} {s : BS} (I : BInv E s) (h : ∀ i ∈ E.sm, s.st i ≠ 1) : ∀ i ∈ E.sm, s.st i = 2 ∨ s.st i = 3 ∨ s.st i = 4 := fun i hi => by
 have := I.rng i hi
 have := h i hi
 omega

/-! ### a run, and the cache's room -/
section
variable {E : BE} {o : List Nat} {is : Nat → Bool} {s : BS} {many : Nat} {L : FL}
theorem ran_is (C : CS) (z : Int) : RanIs E s (runZ E C s z).2.1 z (runZ E C s z).1.2 := by
 by_cases hz : ∃ i : Nat, i ∈ E.sm ∧ (i : Int) = z ∧ readyP E s i = true
 ·obtain ⟨i, hi, rfl, hr⟩ := hz
  obtain ⟨b, C', e1⟩ := run_ready (C := C) hi hr
  rw [runZ_in hi, e1]
  exact .inr ⟨rfl, i, hi, rfl, hr, fun k => ran_step k⟩
 ·have h1 : ∃ c, runZ E C s z = ((false, c), s, C) ∧ c ≠ 0 := by
   by_cases hin : ∃ i : Nat, i ∈ E.sm ∧ (i : Int) = z
   ·obtain ⟨i, hi, rfl⟩ := hin
    rw [runZ_in hi]
    exact run_not (fun h2 => hz ⟨i, h2.1, rfl, h2.2⟩)
   ·exact ⟨6, runZ_out (fun k hk e => hin ⟨k, hk, e⟩), by decide⟩
  obtain ⟨c, e1, hc0⟩ := h1
  rw [e1]
  exact .inl ⟨hc0, rfl, fun i hi e2 => by
   cases hr : readyP E s i with
   | false => rfl
   | true => exact absurd ⟨i, hi, e2, hr⟩ hz⟩
theorem BWell.runZ (h : BWell E o is) (I : BInv E s) (C : CS) (z : Int) : BInv E (runZ E C s z).2.1 := by
 by_cases hin : ∃ i : Nat, i ∈ E.sm ∧ (i : Int) = z
 ·obtain ⟨i, hi, rfl⟩ := hin
  rw [runZ_in hi]
  exact h.run I i
 ·rw [runZ_out (fun k hk e => hin ⟨k, hk, e⟩)]
  exact I
theorem fail_two {i k : Nat} (h : (failP E s i).st k = 2) : s.st k = 2 := by
 unfold failP at h
 rcases spread_cases (E := E) (s := setP s i 3) k with ⟨_, h2, _⟩ | ⟨_, h2⟩
 ·omega
 ·rw [h2] at h
  have e : (setP s i 3).st k = if k = i then 3 else s.st k := rfl
  rw [e] at h
  split at h
  ·omega
  ·exact h
theorem Roomy.mono {s' : BS} (h : Roomy E many s L) (hs : ∀ k ∈ E.sm, s'.st k = 2 → s.st k = 2) : Roomy E many s' L := ⟨h.nodup, h.keys, fun i hi h2 => h.has i hi (hs i hi h2)⟩
theorem done_two {i k : Nat} {b : Bool} (h : (doneP s i b).st k = 2) : k = i ∨ s.st k = 2 := by
 have e : (doneP s i b).st k = if k = i then 2 else s.st k := rfl
 rw [e] at h
 split at h
 ·exact .inl ‹_›
 ·exact .inr h
theorem Roomy.run (h : Roomy E many s L) (hm : E.sm.length ≤ many) (z : Int) : Roomy E many (runZ E (some (many, L)) s z).2.1 (cacheZ E many L s z) := by
 unfold cacheZ
 by_cases hin : ∃ i : Nat, i ∈ E.sm ∧ (i : Int) = z
 ·obtain ⟨i, hi, rfl⟩ := hin
  rw [runZ_in hi]
  unfold runP
  split
  ·exact h
  ·split
   ·exact h
   ·split
    ·exact h
    ·split
     ·exact h.mono fun k _ hk => fail_two hk
     ·simp only
      cases hl : L.lookup (E.key i) with
      | some x => exact h.get (by rw [hl]; rfl) (fun k _ hk => done_two hk)
      | none => exact h.put hm hi _ (fun k _ hk => done_two hk)
 ·rw [runZ_out (fun k hk e => hin ⟨k, hk, e⟩)]
  exact h
/-- A build beside a cache that holds all answers. -/
theorem hits_run (hall : ∀ i ∈ E.sm, (E.ans i).2 = 0 → (L.lookup (E.key i)).isSome = true) (hh : ∀ i ∈ E.sm, s.st i = 2 → s.hit i = true) (z : Int) :
  (∀ i ∈ E.sm, (runZ E (some (many, L)) s z).2.1.st i = 2 → (runZ E (some (many, L)) s z).2.1.hit i = true) ∧ (cacheZ E many L s z = L ∨ ∃ i ∈ E.sm, (L.lookup (E.key i)).isSome = true ∧ cacheZ E many L s z = getL L (E.key i)) := by
 unfold cacheZ
 by_cases hin : ∃ i : Nat, i ∈ E.sm ∧ (i : Int) = z
 ·obtain ⟨i, hi, rfl⟩ := hin
  rw [runZ_in hi]
  unfold runP
  split
  ·exact ⟨hh, .inl rfl⟩
  ·split
   ·exact ⟨hh, .inl rfl⟩
   ·split
    ·exact ⟨hh, .inl rfl⟩
    ·split
     ·exact ⟨fun k hk h2 => hh k hk (fail_two h2), .inl rfl⟩
     ·rename_i ha
      simp only
      have hs := hall i hi (by simpa using ha)
      cases hl : L.lookup (E.key i) with
      | some x =>
       refine ⟨fun k hk h2 => ?_, .inr ⟨i, hi, by rw [hl]; rfl, rfl⟩⟩
       have e : (doneP s i true).hit k = if k = i then true else s.hit k := rfl
       show (doneP s i true).hit k = true
       rw [e]
       split
       ·rfl
       ·rename_i hki
        rcases done_two h2 with h3 | h3
        ·exact absurd h3 hki
        ·exact hh k hk h3
      | none => rw [hl] at hs; cases hs
 ·rw [runZ_out (fun k hk e => hin ⟨k, hk, e⟩)]
  exact ⟨hh, .inl rfl⟩
theorem nohit_run (hh : ∀ k, s.hit k = false) (z : Int) : ∀ k, (runZ E none s z).2.1.hit k = false := by
 by_cases hin : ∃ i : Nat, i ∈ E.sm ∧ (i : Int) = z
 ·obtain ⟨i, hi, rfl⟩ := hin
  rw [runZ_in hi]
  unfold runP
  split
  ·exact hh
  ·split
   ·exact hh
   ·split
    ·exact hh
    ·split
     ·exact hh
     ·intro k
      show (if k = i then false else s.hit k) = false
      rw [hh k]
      split <;> rfl
 ·rw [runZ_out (fun k hk e => hin ⟨k, hk, e⟩)]
  exact hh
end

/-- One step with a cache, one without. -/
noncomputable def stepCc (E : BE) (many : Nat) (x : BS × FL) (z : Int) : BS × FL := ((runZ E (some (many, x.2)) x.1 z).2.1, cacheZ E many x.2 x.1 z)
noncomputable def stepNn (E : BE) (s : BS) (z : Int) : BS := (runZ E none s z).2.1
theorem run_of {E : BE} {s : BS} {C : CS} {i : Nat} (hi : i ∈ E.sm) (hr : readyP E s i = true) : (runZ E C s (i : Int)).1.2 = 0 ∧ ∀ k, ranP (runZ E C s (i : Int)).2.1 k = (decide (k = i) || ranP s k) := by
 obtain ⟨b, C', e⟩ := run_ready (C := C) hi hr
 rw [runZ_in hi, e]
 exact ⟨rfl, fun k => ran_step k⟩
def RunIs (A : World → Prop) (P : Nat → Addr) (r : Bool × Nat) (e : Ending) (w' : World) : Prop := e = .returned (.tuple #[.bool r.1, errC P r.2]) ∧ A w'
theorem RunIs.ready {A : World → Prop} {P : Nat → Addr} {r : Bool × Nat} {e : Ending} {w' : World} (h : RunIs A P r e w') (h0 : r.2 = 0) : ∃ b, e = .returned (.tuple #[.bool b, .nilIface]) ∧ A w' := by
 obtain ⟨rfl, hA⟩ := h
 rw [h0]
 exact ⟨_, rfl, hA⟩

/-! ### in memory -/
/-- Where the three builds lie. -/
structure SameG (E : BE) (Ka Kb Kd : BK) (cb many n0 ba bb bd be : Nat) : Prop where
 a : ∀ i, InBld E Ka i → ba ≤ i ∧ i < bb
 b : ∀ i, InBld E Kb i → bb ≤ i ∧ i < bd
 d : ∀ i, InBld E Kd i → bd ≤ i ∧ i < be
 n : n0 ≤ ba ∧ ba ≤ bb ∧ bb ≤ bd ∧ bd ≤ be
 ca : Ka.cp = PTR cb
 cB : Kb.cp = .pointer none
 cd : Kd.cp = PTR cb
 many : many ≤ 100
structure SameAt (w0 : World) (P : Nat → Addr) (E : BE) (Ka Kb Kd : BK) (cb cmb many ba bb bd be : Nat) (X : List (Nat × Obj)) (L : FL) (sa sb sd : BS) (wr : World) : Prop where
 a : BldAt wr P ba E Ka sa
 b : BldAt wr P bb E Kb sb
 d : BldAt wr P bd E Kd sd
 ia : BInv E sa
 ib : BInv E sb
 id : BInv E sd
 ext : Ext w0 wr
 size : be ≤ wr.heap.size
 cch : ∃ sv, CacheAt wr cb cmb sv many L ∧ (∀ i, InCache cb cmb sv i → (w0.heap.size ≤ i ∧ i < ba) ∨ be ≤ i) ∧ CacheOk L ∧ L.length ≤ many ∧ (E.sm.length ≤ many → Roomy E many sa L) ∧ ∀ x ∈ X, ¬ InCache cb cmb sv x.1
 kept : ∀ x ∈ X, wr.heap[x.1]? = some x.2 ∧ be ≤ x.1
 nohit : ∀ k, sb.hit k = false
 hits : E.sm.length ≤ many → ∀ i ∈ E.sm, sd.st i = 2 → sd.hit i = true
section
variable {w0 wr w' : World} {P : Nat → Addr} {E : BE} {Ka Kb Kd : BK} {cb cmb many ba bb bd be : Nat} {X : List (Nat × Obj)} {L : FL} {sa sb sd : BS} {o : List Nat} {is : Nat → Bool}
theorem SameAt.grow (h : SameAt w0 P E Ka Kb Kd cb cmb many ba bb bd be X L sa sb sd wr) (ho : Ext wr w') : SameAt w0 P E Ka Kb Kd cb cmb many ba bb bd be X L sa sb sd w' := by
 obtain ⟨sv, h1, h2, h3⟩ := h.cch
 exact ⟨h.a.ext ho, h.b.ext ho, h.d.ext ho, h.ia, h.ib, h.id, h.ext.then ho, Nat.le_trans h.size ho.size, ⟨sv, h1.later ho (fun _ _ h => h), h2, h3⟩, fun x hx => ⟨ho.heapOf (h.kept x hx).1 (fun h => h), (h.kept x hx).2⟩, h.nohit, h.hits⟩
theorem SameAt.add (h : SameAt w0 P E Ka Kb Kd cb cmb many ba bb bd be X L sa sb sd wr) (ho : Ext wr w') {ob : Obj} (hc : w'.heap[wr.heap.size]? = some ob) : SameAt w0 P E Ka Kb Kd cb cmb many ba bb bd be ((wr.heap.size, ob) :: X) L sa sb sd w' := by
 have g := h.grow ho
 obtain ⟨sv, h1, h2, h3, h4, h5, h6⟩ := h.cch
 exact ⟨g.a, g.b, g.d, g.ia, g.ib, g.id, g.ext, g.size, ⟨sv, h1.later ho (fun _ _ h => h), h2, h3, h4, h5, fun x hx e => by
  rcases List.mem_cons.1 hx with rfl | hx
  ·exact absurd (h1.lt _ e) (Nat.lt_irrefl _)
  ·exact h6 x hx e⟩, fun x hx => by
  rcases List.mem_cons.1 hx with rfl | hx
  ·exact ⟨hc, h.size⟩
  ·exact g.kept x hx, g.nohit, g.hits⟩
/-- What is kept stands as the cache and steps change. -/
theorem kept_later {sv sv' : Value} {p : Nat → Prop} (hk : ∀ x ∈ X, wr.heap[x.1]? = some x.2 ∧ be ≤ x.1) (hn : ∀ x ∈ X, ¬ InCache cb cmb sv x.1) (ho : Only (fun i => p i ∨ InCache cb cmb sv i) wr w') (hp : ∀ i, p i → i < be) (hs : ∀ i, InCache cb cmb sv' i → InCache cb cmb sv i ∨ wr.heap.size ≤ i) :
  (∀ x ∈ X, w'.heap[x.1]? = some x.2 ∧ be ≤ x.1) ∧ ∀ x ∈ X, ¬ InCache cb cmb sv' x.1 :=
 ⟨fun x hx => ⟨ho.heapOf (hk x hx).1 (fun e => by
   rcases e with e | e
   ·have := hp _ e; have := (hk x hx).2; omega
   ·exact hn x hx e), (hk x hx).2⟩, fun x hx e => by
  rcases hs _ e with e | e
  ·exact hn x hx e
  ·have h1 := (hk x hx).1
   have h2 : x.1 < wr.heap.size := (Array.getElem?_eq_some_iff.1 h1).1
   omega⟩

/-- What is beside a build that runs with the cache. -/
theorem SameAt.beside {n0 lo hi : Nat} {K : BK} {base : Nat} {s : BS} {sv : Value} {p : Nat → Prop} (hb : BldAt wr P base E K s) (hk : ∀ i, InBld E K i → lo ≤ i ∧ i < hi) (hc : ∀ i, InCache cb cmb sv i → (n0 ≤ i ∧ i < ba) ∨ be ≤ i) (h1 : ba ≤ lo ∧ hi ≤ be) (ho : Only (fun i => p i ∨ InCache cb cmb sv i) wr w') (hp : ∀ i, p i → i < lo ∨ hi ≤ i) : BldAt w' P base E K s :=
 hb.later ho (fun i hi e => by
  have := hk i hi
  rcases e with e | e
  ·rcases hp i e with h | h <;> omega
  ·rcases hc i e with h | h <;> omega)

theorem SameAt.runA (h : SameAt w0 P E Ka Kb Kd cb cmb many ba bb bd be X L sa sb sd wr) (G : SameG E Ka Kb Kd cb many w0.heap.size ba bb bd be) (hW : BWell E o is) (hL : BLens E) (hV : PV w0 P [2, 4, 5, 9, 10, 11]) (hd : ∀ i ∈ E.sm, sd.st i = 1) (z : Int) :
  Calls Tryz.prog 58 #[PTR Ka.b, I z] wr (RunIs (SameAt w0 P E Ka Kb Kd cb cmb many ba bb bd be X (stepCc E many (sa, L) z).2 (stepCc E many (sa, L) z).1 sb sd) P (runZ E (some (many, L)) sa z).1) := by
 obtain ⟨sv, h1, h2, h3, h4, h5, h6⟩ := h.cch
 have hn := G.n
 have hC : CchAt wr E Ka cb cmb sv many L := ⟨h1, h3, h4, G.many, fun i hi e => by
  have := G.a i e
  rcases h2 i hi with h | h <;> omega⟩
 refine (runC_any h.a G.ca hC hW h.ia hL h.ext (fun j hj => by
  rcases hj with e | e
  ·have := G.a j e.bld; omega
  ·rcases h2 j e with h | h <;> omega) hV z).mono ?_
 rintro e w' ⟨sv', rfl, hb', hc', ho, hn'⟩
 have hpa : ∀ i, InSteps E Ka i → i < bb := fun i e => (G.a i e.bld).2
 have hkk := kept_later h.kept h6 ho (fun i e => by have := hpa i e; omega) hn'
 refine ⟨rfl, ⟨hb', SameAt.beside h.b G.b h2 ⟨by omega, by omega⟩ ho (fun i e => .inl (hpa i e)), SameAt.beside h.d G.d h2 ⟨by omega, by omega⟩ ho (fun i e => .inl (Nat.lt_of_lt_of_le (hpa i e) hn.2.2.1)), hW.runZ h.ia _ z, h.ib, h.id, h.ext.trans ho (fun _ _ h => h) (fun i hi e => ?_), Nat.le_trans h.size ho.size, ⟨sv', hc'.cache, fun i hi => ?_, hc'.ok, hc'.len, fun hm => (h5 hm).run hm z, hkk.2⟩, hkk.1, h.nohit, fun hm i hi e => ?_⟩⟩
 ·rcases e with e | e
  ·have := G.a i e.bld; omega
  ·rcases h2 i e with h | h <;> omega
 ·rcases hn' i hi with h | h'
  ·exact h2 i h
  ·have := h.size; omega
 ·have := hd i hi; omega

theorem SameAt.runB (h : SameAt w0 P E Ka Kb Kd cb cmb many ba bb bd be X L sa sb sd wr) (G : SameG E Ka Kb Kd cb many w0.heap.size ba bb bd be) (hW : BWell E o is) (hL : BLens E) (hV : PV w0 P [2, 4, 5, 9, 10, 11]) (z : Int) :
  Calls Tryz.prog 58 #[PTR Kb.b, I z] wr (RunIs (SameAt w0 P E Ka Kb Kd cb cmb many ba bb bd be X L sa (stepNn E sb z) sd) P (runZ E none sb z).1) := by
 obtain ⟨sv, h1, h2, h3, h4, h5, h6⟩ := h.cch
 have hn := G.n
 refine (runN_any h.b G.cB hW h.ib hL (hV.ext h.ext) z).mono ?_
 rintro e w' ⟨rfl, hb', ho⟩
 have hpb : ∀ i, InSteps E Kb i → bb ≤ i ∧ i < bd := fun i e => G.b i e.bld
 have far : ∀ i, InCache cb cmb sv i → ¬ InSteps E Kb i := fun i hi e => by
  have := hpb i e
  rcases h2 i hi with h | h <;> omega
 refine ⟨rfl, ⟨h.a.later ho (fun i hi e => by have := G.a i hi; have := hpb i e; omega), hb', h.d.later ho (fun i hi e => by have := G.d i hi; have := hpb i e; omega), h.ia, hW.runZ h.ib _ z, h.id, h.ext.trans ho (fun _ _ h => h) (fun i hi e => by have := hpb i e; omega), Nat.le_trans h.size ho.size, ⟨sv, h1.later ho far, h2, h3, h4, h5, h6⟩, (fun x hx => ⟨ho.heapOf (h.kept x hx).1 (fun e => by have := hpb _ e; have := (h.kept x hx).2; omega), (h.kept x hx).2⟩), nohit_run h.nohit z, h.hits⟩⟩

theorem SameAt.runD (h : SameAt w0 P E Ka Kb Kd cb cmb many ba bb bd be X L sa sb sd wr) (G : SameG E Ka Kb Kd cb many w0.heap.size ba bb bd be) (hW : BWell E o is) (hL : BLens E) (hV : PV w0 P [2, 4, 5, 9, 10, 11]) (hov : ∀ i ∈ E.sm, sa.st i ≠ 1) (z : Int) :
  Calls Tryz.prog 58 #[PTR Kd.b, I z] wr (RunIs (SameAt w0 P E Ka Kb Kd cb cmb many ba bb bd be X (stepCc E many (sd, L) z).2 sa sb (stepCc E many (sd, L) z).1) P (runZ E (some (many, L)) sd z).1) := by
 obtain ⟨sv, h1, h2, h3, h4, h5, h6⟩ := h.cch
 have hn := G.n
 have hC : CchAt wr E Kd cb cmb sv many L := ⟨h1, h3, h4, G.many, fun i hi e => by
  have := G.d i e
  rcases h2 i hi with h | h <;> omega⟩
 have hall : E.sm.length ≤ many → ∀ i ∈ E.sm, (E.ans i).2 = 0 → (L.lookup (E.key i)).isSome = true := fun hm i hi h0 => (h5 hm).has i hi (by rw [hW.final h.ia hov i hi, fin_two h0])
 refine (runC_any h.d G.cd hC hW h.id hL h.ext (fun j hj => by
  rcases hj with e | e
  ·have := G.d j e.bld; omega
  ·rcases h2 j e with h | h <;> omega) hV z).mono ?_
 rintro e w' ⟨sv', rfl, hb', hc', ho, hn'⟩
 have hpd : ∀ i, InSteps E Kd i → bd ≤ i := fun i e => (G.d i e.bld).1
 have hkk := kept_later h.kept h6 ho (fun i e => (G.d i e.bld).2) hn'
 refine ⟨rfl, ⟨SameAt.beside h.a G.a h2 ⟨by omega, by omega⟩ ho (fun i e => .inr (Nat.le_trans hn.2.2.1 (hpd i e))), SameAt.beside h.b G.b h2 ⟨by omega, by omega⟩ ho (fun i e => .inr (hpd i e)), hb', h.ia, h.ib, hW.runZ h.id _ z, h.ext.trans ho (fun _ _ h => h) (fun i hi e => ?_), Nat.le_trans h.size ho.size, ⟨sv', hc'.cache, fun i hi => ?_, hc'.ok, hc'.len, fun hm => ?_, hkk.2⟩, hkk.1, h.nohit, fun hm => (hits_run (hall hm) (h.hits hm) z).1⟩⟩
 ·rcases e with e | e
  ·have := G.d i e.bld; omega
  ·rcases h2 i e with h | h <;> omega
 ·rcases hn' i hi with h | h'
  ·exact h2 i h
  ·have := h.size; omega
 ·show Roomy E many sa (cacheZ E many L sd z)
  rcases (hits_run (many := many) (hall hm) (h.hits hm) z).2 with e | ⟨i, hi, hs, e⟩
  ·rw [e]; exact h5 hm
  ·rw [e]; exact (h5 hm).get hs (fun k _ hk => .inr hk)

theorem SameAt.drop {y : Nat × Obj} (h : SameAt w0 P E Ka Kb Kd cb cmb many ba bb bd be (y :: X) L sa sb sd wr) (G : SameG E Ka Kb Kd cb many w0.heap.size ba bb bd be) (ho : Only (fun i => i = y.1) wr w') (hn : ∀ z ∈ X, z.1 ≠ y.1) : SameAt w0 P E Ka Kb Kd cb cmb many ba bb bd be X L sa sb sd w' := by
 obtain ⟨sv, h1, h2, h3, h4, h5, h6⟩ := h.cch
 have hy := (h.kept y (.head _)).2
 have g := G.n
 exact ⟨h.a.later ho (fun i hi e => by have := G.a i hi; omega), h.b.later ho (fun i hi e => by have := G.b i hi; omega), h.d.later ho (fun i hi e => by have := G.d i hi; omega), h.ia, h.ib, h.id, h.ext.trans ho (fun _ _ h => h) (fun i hi e => by omega), Nat.le_trans h.size ho.size, ⟨sv, h1.later ho (fun i hi e => h6 y (.head _) (e ▸ hi)), h2, h3, h4, h5, fun x hx => h6 x (.tail _ hx)⟩, fun x hx => ⟨ho.heapOf (h.kept x (.tail _ hx)).1 (hn x hx), (h.kept x (.tail _ hx)).2⟩, h.nohit, h.hits⟩
theorem SameAt.keepA (G : SameG E Ka Kb Kd cb many w0.heap.size ba bb bd be) (hW : BWell E o is) (hL : BLens E) (hV : PV w0 P [2, 4, 5, 9, 10, 11]) (hd : ∀ i ∈ E.sm, sd.st i = 1) : KeepsRun (fun X w (x : BS × FL) => SameAt w0 P E Ka Kb Kd cb cmb many ba bb bd be X x.2 x.1 sb sd w) (·.1) (fun x i => stepCc E many x (i : Int)) P ba E Ka :=
 ⟨fun _ _ _ h => ⟨h.a, h.ia⟩, fun _ _ _ _ h ho => h.grow ho, fun _ _ _ _ _ h ho hc => h.add ho hc, fun _ _ _ h y hy => (h.kept y hy).1, fun _ _ _ _ _ h ho hn => h.drop G ho hn, fun _ _ _ h _ hi hr => (h.runA G hW hL hV hd _).mono fun _ _ h => h.ready (run_of hi hr).1, fun _ _ hi hr => (run_of hi hr).2⟩
theorem SameAt.keepB (G : SameG E Ka Kb Kd cb many w0.heap.size ba bb bd be) (hW : BWell E o is) (hL : BLens E) (hV : PV w0 P [2, 4, 5, 9, 10, 11]) : KeepsRun (fun X w s => SameAt w0 P E Ka Kb Kd cb cmb many ba bb bd be X L sa s sd w) (fun s => s) (fun s i => stepNn E s (i : Int)) P bb E Kb :=
 ⟨fun _ _ _ h => ⟨h.b, h.ib⟩, fun _ _ _ _ h ho => h.grow ho, fun _ _ _ _ _ h ho hc => h.add ho hc, fun _ _ _ h y hy => (h.kept y hy).1, fun _ _ _ _ _ h ho hn => h.drop G ho hn, fun _ _ _ h _ hi hr => (h.runB G hW hL hV _).mono fun _ _ h => h.ready (run_of hi hr).1, fun _ _ hi hr => (run_of hi hr).2⟩
theorem SameAt.keepD (G : SameG E Ka Kb Kd cb many w0.heap.size ba bb bd be) (hW : BWell E o is) (hL : BLens E) (hV : PV w0 P [2, 4, 5, 9, 10, 11]) (hov : ∀ i ∈ E.sm, sa.st i ≠ 1) : KeepsRun (fun X w (x : BS × FL) => SameAt w0 P E Ka Kb Kd cb cmb many ba bb bd be X x.2 sa sb x.1 w) (·.1) (fun x i => stepCc E many x (i : Int)) P bd E Kd :=
 ⟨fun _ _ _ h => ⟨h.d, h.id⟩, fun _ _ _ _ h ho => h.grow ho, fun _ _ _ _ _ h ho hc => h.add ho hc, fun _ _ _ h y hy => (h.kept y hy).1, fun _ _ _ _ _ h ho hn => h.drop G ho hn, fun _ _ _ h _ hi hr => (h.runD G hW hL hV hov _).mono fun _ _ h => h.ready (run_of hi hr).1, fun _ _ hi hr => (run_of hi hr).2⟩

/-- What the end tells of one rule. -/
theorem BWell.tells (h : BWell E o is) {s : BS} (I : BInv E s) (hov : ∀ i ∈ E.sm, s.st i ≠ 1) {i : Nat} (hi : i ∈ E.sm) : resZ E s (i : Int) = ((E.ans i).1, (E.ans i).2 == 0) := by
 have e := h.final I hov i hi
 by_cases h0 : (E.ans i).2 = 0
 ·rw [resZ_in hi (by rw [e, fin_two h0]), h0]
  rfl
 ·rw [resZ_not (by rw [e]; exact fin_not h0), show ((E.ans i).2 == 0) = false from beq_eq_false_iff_ne.2 h0, show (E.ans i).1 = [] from (h.ok (E.rule i).out).zero h0]
theorem OnceW.want {l : List Rule} (h : OnceW E o is l) (hp : partB l (List.range l.length) = some o) {i : Nat} (hi : i < l.length) : wantRes l E.T (E.rule i).out = ((E.ans i).1, ((E.ans i).2, -1)) := by
 have hr : RightS l := by rw [← h.rules]; exact h.well.right
 have hm : E.rule i ∈ l := by rw [← h.rules]; exact List.mem_of_getElem? (BE.rule_at (by rw [h.rules]; exact hi))
 unfold wantRes
 rw [if_neg (by rw [sheet_ok.2 hr]; simp), if_neg (by rw [made_out hm]; simp)]
 cases hq : partB l (needL l [(E.rule i).out]) with
 | some o2 =>
  show ((wantW l E.T (E.rule i).out).1, ((wantW l E.T (E.rule i).out).2, (-1 : Int))) = _
  unfold BE.ans BE.W
  rw [h.rules]
 | none =>
  have hc := Clo.need l [(E.rule i).out]
  obtain ⟨k, s, hk, hks, hs, hw⟩ := orderB_circle hq (fun a b ha hia hn => by
   have hb := (needB_lt hn).2
   exact ⟨hb, by simpa using hc.clos a (by simpa using hia) b hb hn⟩)
  exact absurd hw (Ordered.no_circle (orderB_some hp).1 (fun _ _ hn => (needB_lt hn).2) (order_covers hp hk (by simpa using hk)) hs)
end
end Go.Proofs.YtnmhaipjfpongabGreatDoor

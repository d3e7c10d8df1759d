/- Texts of this seat laid together for one claim: Sc0, Sc1. No condition of its own: what each proves stands with its theorems. -/
import Derived.Test.YtnmhaipjfpongacGreatDoorSA12
import Derived.Test.YtnmhaipjfpongacGreatDoorSA41
import Derived.Test.YtnmhaipjfpongacGreatDoorSA5
import Derived.BigQuiet
import Derived.Deep.CutBlock
import Derived.Deep.DeepCutAuto
import Derived.Test.YtnmhaipjfpongacGreatDoorSA11
namespace Go.Proofs.YtnmhaipjfpongacGreatDoor

def unq : B → B → Option (B × B)
 | _, [] => none
 | acc, [c] => if c = 34 then (if acc = [] then none else some (acc, [])) else none
 | acc, c :: d :: t => if c = 34 then (if acc = [] then none else some (acc, d :: t)) else if c ≠ 92 then unq (acc ++ [c]) (d :: t) else if d = 34 ∨ d = 92 ∨ d = 110 then unq (acc ++ [if d = 110 then 10 else d]) t else none
theorem unq_quote (acc t : B) : unq acc (34 :: t) = if acc = [] then none else some (acc, t) := by
 cases t with
 | nil => simp [unq]
 | cons d t => simp [unq]
theorem unq_plain (acc : B) {c : UInt8} (t : B) (h1 : c ≠ 34) (h2 : c ≠ 92) : unq acc (c :: t) = unq (acc ++ [c]) t := by
 cases t with
 | nil => simp [unq, h1]
 | cons d t => simp [unq, h1, h2]
theorem unq_end (acc : B) : unq acc [92] = none := by simp [unq]
theorem unq_esc (acc : B) {d : UInt8} (t : B) (h : d = 34 ∨ d = 92 ∨ d = 110) : unq acc (92 :: d :: t) = unq (acc ++ [if d = 110 then 10 else d]) t := by simp [unq, h]
theorem unq_bad (acc : B) {d : UInt8} (t : B) (h : ¬ (d = 34 ∨ d = 92 ∨ d = 110)) : unq acc (92 :: d :: t) = none := by simp [unq, h]
def insP (o k wd r : B) : Option Rule := if [] ∈ cutc 32 r then none else some ⟨o, k, wd, cutc 32 r⟩
def afterQ (o k : B) : Option (B × B) → Option Rule
 | none => none
 | some (wd, q) => if q = [] then some ⟨o, k, wd, []⟩ else if [32].isPrefixOf q then insP o k wd (q.drop 1) else none
def tailP (o k r : B) : Option Rule := if [34].isPrefixOf r then afterQ o k (unq [] (r.drop 1)) else insP o k [] r
def lineP (s : B) : Option Rule :=
 if (Lib.cut s [32, 61, 32]).2.2 = false then none
 else if (cut1 32 (Lib.cut s [32, 61, 32]).2.1).2.2 = false then some ⟨(Lib.cut s [32, 61, 32]).1, (cut1 32 (Lib.cut s [32, 61, 32]).2.1).1, [], []⟩
 else tailP (Lib.cut s [32, 61, 32]).1 (cut1 32 (Lib.cut s [32, 61, 32]).2.1).1 (cut1 32 (Lib.cut s [32, 61, 32]).2.1).2.1
def linesP : List B → Option (List Rule)
 | [] => some []
 | t :: ts => match lineP t, linesP ts with
  | some r, some rs => some (r :: rs)
  | _, _ => none
def readSh (ls : List B) : Nat × List Rule :=
 match linesP ls with
 | none => (1, [])
 | some l => if (sheetFault l).1 = 0 then (0, l) else ((sheetFault l).1, [])

structure YS where
 x : PS
 l : List Rule
structure YSok (y : YS) : Prop where
 of : (orderFault y.l).1 = 0
 ft : FTree y.x.T
 fo : FTree y.x.O
def shownP (s : B) : B := Lib.replaceAll s [10] [59]
def hiddenP (s : B) : B := Lib.replaceAll s [59] [10]
def okB : B := [111, 107]
def joinedP (l : List B) : B := if l = [] then [110, 111, 116, 104, 105, 110, 103] else Lib.join l [32]
abbrev Act1 := YS × B × Nat
noncomputable def countsP (y : YS) (os : List B) : List B :=
 [Lib.decDigits ((needL y.l os).countP (cRan (mkEnd y.l 8 y.x os).1)), Lib.decDigits ((needL y.l os).countP (cHit (mkEnd y.l 8 y.x os).1)), Lib.decDigits ((needL y.l os).countP (cFail (mkEnd y.l 8 y.x os).1)), Lib.decDigits ((needL y.l os).countP (cLeft (mkEnd y.l 8 y.x os).1))]
noncomputable def makeS (y : YS) (outs : List B) : Act1 :=
 if (newFault y.l (outsY y.l outs)).1 = 0 then (⟨makeP y.l 8 y.x (outsY y.l outs), y.l⟩, Lib.join (countsP y (outsY y.l outs)) [32], 0) else (y, [], (newFault y.l (outsY y.l outs)).1)
noncomputable def putS (y : YS) (rest : B) : Act1 :=
 if (cut1 32 rest).2.2 = false ∨ pathOk (cut1 32 rest).1 = false then (y, [], 1)
 else (⟨⟨putT y.x.T (cut1 32 rest).1 (hiddenP (cut1 32 rest).2.1), y.x.O, y.x.L⟩, y.l⟩, okB, putCode y.x.T (cut1 32 rest).1 (hiddenP (cut1 32 rest).2.1))
noncomputable def ruleS (y : YS) (rest : B) : Act1 :=
 if (readSh (cutc 10 rest)).1 ≠ 0 then (y, [], (readSh (cutc 10 rest)).1)
 else (⟨y.x, rulesY y.l (y.l ++ (readSh (cutc 10 rest)).2)⟩, okB, (orderFault (y.l ++ (readSh (cutc 10 rest)).2)).1)
noncomputable def showS (y : YS) (p : B) : Act1 :=
 match y.x.O.lookup p with
 | some s => (y, shownP s, 0)
 | none => match y.x.T.lookup p with
  | some s => (y, shownP s, 0)
  | none => (y, [], 6)
noncomputable def dropS (y : YS) (p : B) : Act1 := (⟨⟨delT y.x.T p, y.x.O, y.x.L⟩, y.l⟩, okB, if (y.x.T.lookup p).isSome then 0 else 6)
noncomputable def wantS (y : YS) (p : B) : Act1 := (y, shownP (wantRes y.l y.x.T p).1, (wantRes y.l y.x.T p).2.1)
noncomputable def aboutS (y : YS) (word : B) (ps : List B) : Act1 :=
 if ps.all pathOk = false then (y, [], 1)
 else if word = [109, 97, 107, 101] then makeS y ps
 else match ps with
  | [p] => if word = [100, 114, 111, 112] then dropS y p else if word = [115, 104, 111, 119] then showS y p else if word = [119, 97, 110, 116] then wantS y p else (y, [], 1)
  | _ => (y, [], 1)
noncomputable def playS (y : YS) (s : B) : Act1 :=
 if s = [99, 108, 101, 97, 114] then (⟨y.x, []⟩, okB, 0)
 else if s = [115, 116, 97, 108, 101] then (y, joinedP (sortB (staleL y.l y.x.T y.x.O)), 0)
 else if s = [111, 114, 100, 101, 114] then (y, joinedP ((orderOut y.l).map fun i => ((y.l[i]?).map Rule.out).getD []), 0)
 else if s = [108, 101, 97, 118, 101, 115] then (y, joinedP (leavesB y.l), 0)
 else if s = [102, 105, 108, 101, 115] then (y, joinedP (y.x.T.map (·.1)), 0)
 else if s = [109, 97, 107, 101] then makeS y []
 else if (cut1 32 s).2.2 = false then (y, [], 1)
 else if (cut1 32 s).1 = [112, 117, 116] then putS y (cut1 32 s).2.1
 else if (cut1 32 s).1 = [114, 117, 108, 101] then ruleS y (cut1 32 s).2.1
 else aboutS y (cut1 32 s).1 (cutc 32 (cut1 32 s).2.1)
def errWords : List B := [[116, 101, 120, 116], [98, 111, 117, 110, 100], [115, 104, 97, 112, 101], [110, 97, 109, 101], [107, 105, 110, 100], [110, 111, 110, 101], [101, 120, 105, 115, 116], [102, 117, 108, 108], [99, 121, 99, 108, 101], [108, 111, 110, 103], [116, 117, 114, 110], [100, 111, 110, 101]]
def errB (c : Nat) : B := [107, 105, 108, 110, 121, 97, 114, 100, 58, 32] ++ (errWords[c - 1]?).getD []
def tellP (a : Act1) : B := if a.2.2 = 0 then a.2.1 else errB a.2.2
noncomputable def runS : YS → List B → YS × List B
 | y, [] => (y, [])
 | y, s :: ss => ((runS (playS y s).1 ss).1, tellP (playS y s) :: (runS (playS y s).1 ss).2)
theorem runS_snoc (y : YS) (ss : List B) (s : B) : runS y (ss ++ [s]) = ((playS (runS y ss).1 s).1, (runS y ss).2 ++ [tellP (playS (runS y ss).1 s)]) := by
 induction ss generalizing y with
 | nil => rfl
 | cons q ss ih =>
  show ((runS (playS y q).1 (ss ++ [s])).1, tellP (playS y q) :: (runS (playS y q).1 (ss ++ [s])).2) = _
  rw [ih]
  rfl
theorem runS_step {y : YS} {ss : List B} {j : Nat} {s : B} (h : ss[j]? = some s) : runS y (ss.take (j + 1)) = ((playS (runS y (ss.take j)).1 s).1, (runS y (ss.take j)).2 ++ [tellP (playS (runS y (ss.take j)).1 s)]) := by
 rw [List.take_add_one, h]
 exact runS_snoc _ _ _
theorem runS_len (y : YS) (ss : List B) : (runS y ss).2.length = ss.length := by
 induction ss generalizing y with
 | nil => rfl
 | cons q ss ih => show _ + 1 = _ + 1; rw [ih]
theorem runS_take (y : YS) (ss : List B) : ∀ j, (runS y (ss.take j)).2 = (runS y ss).2.take j := by
 induction ss generalizing y with
 | nil => intro j; simp [runS]
 | cons q ss ih =>
  intro j
  cases j with
  | zero => rfl
  | succ j =>
   show tellP (playS y q) :: (runS (playS y q).1 (ss.take j)).2 = _
   rw [ih]
   rfl

theorem orderFault_nil : orderFault [] = (0, -1) := by kernel_rfl
theorem YSok.start : YSok ⟨⟨[], [], []⟩, []⟩ := ⟨by rw [orderFault_nil], FTree.nil, FTree.nil⟩
theorem rulesY_of {l0 l : List Rule} (h : (orderFault l0).1 = 0) : (orderFault (rulesY l0 l)).1 = 0 := by
 unfold rulesY
 split
 ·assumption
 ·exact h
theorem rule_out_len {E : BE} (hr : RightS E.l) (i : Nat) : (E.rule i).out.length ≤ 1000 := by
 by_cases hi : i < E.l.length
 ·have := (right_short hr _ (rule_mem hi)).out; omega
 ·unfold BE.rule
  rw [List.getElem?_eq_none (by omega)]
  decide
theorem lay_ft {E : BE} {s : BS} {O : FL} (hr : RightS E.l) (h : FTree O) (i : Nat) : FTree (layY E s O i) := by
 unfold layY
 split
 ·exact h.put _ _ (rule_out_len hr i)
 ·split
  ·exact h.remove _
  ·exact h
theorem outY_ft {E : BE} {s : BS} (hr : RightS E.l) : ∀ (od : List Nat) {O : FL}, FTree O → FTree (outY E s O od)
 | [], _, h => h
 | i :: od, _, h => outY_ft hr od (lay_ft hr h i)
theorem pathOk_len {p : B} (h : pathOk p = true) : p.length ≤ 1000 := by have := path_short h; omega
theorem YSok.make {y : YS} (h : YSok y) (outs : List B) : YSok (makeS y outs).1 := by
 unfold makeS
 split
 ·rename_i hc
  refine ⟨h.of, ?_, ?_⟩
  ·show FTree (makeP _ _ _ _).T
   unfold makeP
   rw [if_pos hc]
   exact h.ft
  ·show FTree (makeP _ _ _ _).O
   unfold makeP
   rw [if_pos hc]
   exact outY_ft (E := newE y.l _ y.x.T) (orderFault_ok h.of).1 _ h.fo
 ·exact h
theorem YSok.about {y : YS} (h : YSok y) (word : B) (ps : List B) : YSok (aboutS y word ps).1 := by
 unfold aboutS
 split
 ·exact h
 split
 ·exact h.make _
 split
 ·split
  ·exact ⟨h.of, h.ft.remove _, h.fo⟩
  split
  ·unfold showS
   split
   ·exact h
   ·split <;> exact h
  split
  ·exact h
  ·exact h
 ·exact h
theorem YSok.play {y : YS} (h : YSok y) (s : B) : YSok (playS y s).1 := by
 unfold playS
 split
 ·exact ⟨by rw [orderFault_nil], h.ft, h.fo⟩
 split
 ·exact h
 split
 ·exact h
 split
 ·exact h
 split
 ·exact h
 split
 ·exact h.make _
 split
 ·exact h
 split
 ·unfold putS
  split
  ·exact h
  ·rename_i h1
   exact ⟨h.of, h.ft.put _ _ (pathOk_len (by simpa using (not_or.1 h1).2)), h.fo⟩
 split
 ·unfold ruleS
  split
  ·exact h
  ·exact ⟨rulesY_of h.of, h.ft, h.fo⟩
 ·exact h.about _ _
theorem YSok.run {y : YS} (h : YSok y) (ss : List B) : YSok (runS y ss).1 := by
 induction ss generalizing y with
 | nil => exact h
 | cons q ss ih => exact ih (h.play q)
theorem make_code (y : YS) (outs : List B) : (makeS y outs).2.2 ≤ 12 := by
 unfold makeS
 split
 ·exact Nat.zero_le _
 ·exact newFault_le _ _
theorem want_code {y : YS} (h : YSok y) (p : B) : (wantRes y.l y.x.T p).2.1 ≤ 12 := by
 unfold wantRes
 split
 ·exact sheet_le4 _
 split
 ·exact (by decide : 6 ≤ 12)
 split
 ·exact (by decide : 9 ≤ 12)
 ·exact (wantF_ok h.ft.bytes _ p).code
theorem about_code {y : YS} (h : YSok y) (word : B) (ps : List B) : (aboutS y word ps).2.2 ≤ 12 := by
 unfold aboutS
 split
 ·exact (by decide : 1 ≤ 12)
 split
 ·exact make_code y ps
 split
 ·split
  ·unfold dropS
   show (if _ then 0 else 6) ≤ 12
   split <;> decide
  split
  ·unfold showS
   split
   ·exact Nat.zero_le _
   ·split
    ·exact Nat.zero_le _
    ·exact (by decide : 6 ≤ 12)
  split
  ·exact want_code h _
  ·exact (by decide : 1 ≤ 12)
 ·exact (by decide : 1 ≤ 12)
theorem order_le (l : List Rule) : (orderFault l).1 ≤ 12 := by
 unfold orderFault
 split
 ·exact sheet_le4 l
 ·split <;> decide
theorem read_le (ls : List B) : (readSh ls).1 ≤ 12 := by
 unfold readSh
 split
 ·exact (by decide : 1 ≤ 12)
 ·split
  ·exact Nat.zero_le _
  ·exact sheet_le4 _
theorem play_code {y : YS} (h : YSok y) (s : B) : (playS y s).2.2 ≤ 12 := by
 unfold playS
 split
 ·exact Nat.zero_le _
 split
 ·exact Nat.zero_le _
 split
 ·exact Nat.zero_le _
 split
 ·exact Nat.zero_le _
 split
 ·exact Nat.zero_le _
 split
 ·exact make_code y []
 split
 ·exact (by decide : 1 ≤ 12)
 split
 ·unfold putS
  split
  ·exact (by decide : 1 ≤ 12)
  ·exact putCode_le _ _ _
 split
 ·unfold ruleS
  split
  ·exact read_le _
  ·exact order_le _
 ·exact about_code h _ _
end Go.Proofs.YtnmhaipjfpongacGreatDoor

namespace Go.Proofs.YtnmhaipjfpongacGreatDoor
open Go.ChangeShapes Go.WideShapes Go.ChangeAt Go.RowKit

theorem esc_is (d : UInt8) : Lib.contains [34, 92, 110] [d] = (d == 34 || d == 92 || d == 110) := by
 have h : ∀ m : Fin 256, Lib.contains [34, 92, 110] [UInt8.ofNat m.val] = (UInt8.ofNat m.val == 34 || UInt8.ofNat m.val == 92 || UInt8.ofNat m.val == 110) := by decide +kernel
 have := h ⟨d.toNat, d.toNat_lt⟩
 simpa using this
theorem RowB.convAny {base : Nat} {w : World} {v : Value} {l : B} (h : RowB base w v l) : ∃ a cap, v = .slice a l.length cap ∧ ∀ k, (convert 167 9 (.slice a l.length cap)).run Tryz.prog (w.drewN k) = .ok (S l) (w.drewN k) := by
 rcases h.2 with ⟨rfl, h2⟩ | ⟨g, cap, cur, rfl, _⟩
 ·have hl : l = [] := List.length_eq_zero_iff.1 h2
  subst hl
  exact ⟨none, 0, rfl, fun k => by kernel_rfl⟩
 ·exact ⟨_, cap, rfl, fun k => RowB.conv ((Only.drewN (fun _ => False) w k).row h (fun _ _ h => h))⟩
def RetUnq (x : Option (B × B)) (w : World) (e : Ending) (w' : World) : Prop :=
 Ext w w' ∧ ∃ (wd r : B) (ok : Bool), e = .returned (.tuple #[S wd, S r, .bool ok]) ∧ ((x = some (wd, r) ∧ ok = true) ∨ (x = none ∧ ok = false))
set_option maxRecDepth 100000 in
set_option maxHeartbeats 16000000 in
theorem unquote_any (w : World) (s : B) (hs : s.length ≤ 100000) (h0 : s ≠ []) (hm : HasMax w) : Calls Tryz.prog 328 #[S s] w (RetUnq (unq [] (s.drop 1)) w) := by
 have HM := Lib.hid hm
 have hsz : (s.length : Int) ≤ 100000 := by omega
 have HL1 : Hid (1 ≤ s.length) := Lib.hid (by cases s with | nil => exact absurd rfl h0 | cons _ _ => simp)
 obtain ⟨X, hX⟩ : ∃ X, X = unq [] (s.drop 1) := ⟨_, rfl⟩
 rw [← hX]
 have HX0 := Lib.hid hX
 obtain ⟨bs, hbs⟩ : ∃ bs, bs = w.heap.size := ⟨_, rfl⟩
 have HBS : Hid (w.heap.size ≤ bs ∧ bs ≤ w.heap.size) := Lib.hid ⟨by omega, by omega⟩
 clear hm h0 hX hbs hs
 go_enter Tryz.func328, Tryz.ntmps328
 go_wp2_with fail
 go_loopw [5, 6, 7] (fun q i _ wr => ∃ (j : Nat) (qv : Value) (acc : B), qv = q ∧ i = .int .i64 j ∧ 1 ≤ j ∧ j ≤ s.length ∧ Hid (X = unq acc (s.drop j)) ∧ Hid (acc.length ≤ j) ∧ Hid (RowB bs wr qv acc) ∧ Hid (Ext w wr)) (fun _ i _ _ => s.length - (intOf i).toNat)
 case atStart => exact ⟨1, _, [], rfl, rfl, Nat.le_refl _, HL1.out, HX0, Lib.hid (Nat.zero_le _), Lib.hid (World.ownsRow_nil _ _ _ _), Lib.hid (Only.refl _ _)⟩
 case round =>
  obtain ⟨j, qv, acc, rfl, rfl, hj1, hj, HX, HAC, HQ, HW⟩ := hrel
  have hj0 : (0 : Int) ≤ (j : Int) := by omega
  by_cases hlt : j < s.length
  case neg =>
   have hltz : ¬ (j : Int) < (s.length : Int) := by omega
   have HXN : Hid (X = none) := Lib.hid (by rw [HX.out, List.drop_eq_nil_of_le (by omega)]; cases acc <;> rfl)
   clear hlt
   go_wp2_with fail
   go_ret3
   exact ⟨HW.out, [], [], false, rfl, .inr ⟨HXN.out, rfl⟩⟩
  case pos =>
   have hltz : (j : Int) < (s.length : Int) := by omega
   obtain ⟨c, hc⟩ : ∃ y, s[j]? = some y := ⟨_, List.getElem?_eq_getElem hlt⟩
   have hdr : s.drop j = c :: s.drop (j + 1) := by rw [List.drop_eq_getElem_cons hlt]; congr 1; exact Option.some.inj ((List.getElem?_eq_getElem hlt).symm.trans hc)
   have HDR := Lib.hid hdr
   have hg := ba_get hc
   obtain ⟨p1, hp1⟩ : ∃ p1, p1 = j + 1 := ⟨_, rfl⟩
   have hw1 : IntKind.i64.wrap ((j : Int) + 1) = (p1 : Int) := by rw [IntWalk.i64_in _ (by omega)]; omega
   have HP1 := Lib.hid hp1
   have q0 : (0 : Int) ≤ (p1 : Int) := by omega
   have q1 : (p1 : Int) ≤ (s.length : Int) := by omega
   have HAL : Hid (acc.length ≤ 100000) := Lib.hid (by have := HAC.out; omega)
   have HJ := Lib.hid (And.intro hj1 hlt)
   by_cases hq : c = 34
   case pos =>
    subst hq
    have hz : (((34 : UInt8).toNat : Int) == 34) = true := rfl
    have hmd := ba_mid s p1 s.length
    rw [List.take_length] at hmd
    obtain ⟨a5, c5, hqv, hcv⟩ := HQ.out.convAny
    subst hqv
    have HXE : Hid (X = if acc = [] then none else some (acc, s.drop p1)) := Lib.hid (by rw [HX.out, HDR.out, unq_quote, HP1.out])
    by_cases ha : acc = []
    case pos =>
     subst ha
     simp only [List.length_nil] at hcv ⊢
     clear hc hdr hp1 hj1 hj hlt
     go_wp2_with fail
     go_quiet (fail)
     go_wp2_with fail
     go_ret3
     exact ⟨HW.out.thenDrewN _, _, _, _, rfl, .inr ⟨by rw [HXE.out]; simp, by simp⟩⟩
    case neg =>
     have hpos : (0 : Int) < (acc.length : Int) := by have := List.length_pos_iff.2 ha; omega
     have HA := Lib.hid ha
     clear hc hdr hp1 hj1 hj hlt ha
     go_wp2_with fail
     go_quiet (fail)
     go_wp2_with fail
     go_ret3
     exact ⟨HW.out.thenDrewN _, _, _, _, rfl, .inl ⟨by rw [HXE.out, if_neg HA.out], decide_eq_true (List.length_pos_iff.2 HA.out)⟩⟩
   case neg =>
    have hz : ((c.toNat : Int) == 34) = false := byte_ne hq
    by_cases hb : c = 92
    case neg =>
     have hz2 : ((c.toNat : Int) == 92) = false := byte_ne hb
     have HXN : Hid (X = unq (acc ++ [c]) (s.drop (j + 1))) := Lib.hid (by rw [HX.out, HDR.out, unq_plain _ _ hq hb])
     have HAN : Hid ((acc ++ [c]).length ≤ j + 1) := Lib.hid (by rw [List.length_append]; have := HAC.out; simp; omega)
     clear hc hdr hp1 hj1 hj hlt hq hb
     go_wp2_with (at_builtin; refine wpByte rfl (.tmp 47) (.tmp 49) w bs qv acc c wr rfl rfl rfl rfl HQ.out (Nat.le_trans HAL.out (by decide)) (Nat.le_trans HBS.out.2 HW.out.size) HW.out HBS.out.1 ?_; intro g5 cap5 w5 HR5 HX5 _)
     go_roundw
     case rel => exact ⟨j + 1, _, acc ++ [c], rfl, by first | rfl | rw [HP1.out] | go_num, by omega, HJ.out.2, HXN, HAN, HR5, HX5⟩
     case measure => have := HP1.out; have := HJ.out; simp [intOf]; omega
    case pos =>
     subst hb
     have hz2 : (((92 : UInt8).toNat : Int) == 92) = true := rfl
     by_cases he : p1 = s.length
     case pos =>
      have hz3 : ((p1 : Int) == (s.length : Int)) = true := beq_iff_eq.2 (by omega)
      have HXN : Hid (X = none) := Lib.hid (by rw [HX.out, HDR.out, List.drop_eq_nil_of_le (by omega)]; exact unq_end _)
      clear hc hdr hp1 hj1 hj hlt hq he
      go_wp2_with fail
      go_ret3
      exact ⟨HW.out, [], [], false, rfl, .inr ⟨HXN.out, rfl⟩⟩
     case neg =>
      have hz3 : ((p1 : Int) == (s.length : Int)) = false := beq_eq_false_iff_ne.2 (by omega)
      have hlt1 : p1 < s.length := by omega
      obtain ⟨d, hd⟩ : ∃ y, s[p1]? = some y := ⟨_, List.getElem?_eq_getElem hlt1⟩
      have hdr1 : s.drop p1 = d :: s.drop (p1 + 1) := by rw [List.drop_eq_getElem_cons hlt1]; congr 1; exact Option.some.inj ((List.getElem?_eq_getElem hlt1).symm.trans hd)
      rw [← hp1, hdr1] at hdr
      have HDR2 := Lib.hid hdr
      have hgd := ba_get hd
      obtain ⟨p2, hp2⟩ : ∃ p2, p2 = p1 + 1 := ⟨_, rfl⟩
      have hw2 : IntKind.i64.wrap ((j : Int) + 2) = (p2 : Int) := by rw [IntWalk.i64_in _ (by omega)]; omega
      have hw3 : IntKind.i64.wrap ((p1 : Int) + 1) = (p2 : Int) := by rw [IntWalk.i64_in _ (by omega)]; omega
      have hmd := ba_mid s p1 (p1 + 1)
      rw [one_byte hd, ← hp2] at hmd
      have q2 : (0 : Int) ≤ (p2 : Int) := by omega
      have q3 : (p1 : Int) ≤ (p2 : Int) := by omega
      have q4 : (p2 : Int) ≤ (s.length : Int) := by omega
      have q5 : p1 ≤ p2 := by omega
      have q6 : (p1 : Int) < (s.length : Int) := by omega
      have hcon := contains_any wr [34, 92, 110] [d] (by decide) (HM.out.ext HW.out)
      rw [esc_is] at hcon
      have HP2 := Lib.hid hp2
      have hcase : (d = 34 ∨ d = 92 ∨ d = 110) ∨ ¬ (d = 34 ∨ d = 92 ∨ d = 110) := Classical.em _
      rcases hcase with hes | hes
      case inr =>
       have hf : (d == 34 || d == 92 || d == 110) = false := by simpa [not_or, and_assoc] using hes
       rw [hf] at hcon
       have HCON := Lib.hid hcon
       have HXN : Hid (X = none) := Lib.hid (by rw [HX.out, HDR2.out]; exact unq_bad _ _ hes)
       clear hc hdr hp1 hj1 hj hlt hq he hd hdr1 hp2 hlt1 hes hf hcon
       go_wp2_with fail
       refine HCON.out.mono ?_
       rintro e w2 ⟨rfl, rfl⟩
       go_wp2_with fail
       go_ret3
       exact ⟨HW.out, [], [], false, rfl, .inr ⟨HXN.out, rfl⟩⟩
      case inl =>
       have ht : (d == 34 || d == 92 || d == 110) = true := by rcases hes with rfl | rfl | rfl <;> decide
       rw [ht] at hcon
       have HCON := Lib.hid hcon
       have HXN : Hid (X = unq (acc ++ [if d = 110 then 10 else d]) (s.drop (p1 + 1))) := Lib.hid (by rw [HX.out, HDR2.out]; exact unq_esc _ _ hes)
       have HAN : Hid (∀ e : UInt8, (acc ++ [e]).length ≤ p1 + 1) := Lib.hid (fun e => by rw [List.length_append]; have := HAC.out; simp; omega)
       by_cases h110 : d = 110
       case pos =>
        subst h110
        have hzd : (((110 : UInt8).toNat : Int) == 110) = true := rfl
        have HXN2 : Hid (X = unq (acc ++ [10]) (s.drop (p1 + 1))) := HXN
        clear hc hdr hp1 hj1 hj hlt hq he hd hdr1 hp2 hlt1 hes ht hcon HXN
        go_wp2_with fail
        refine HCON.out.mono ?_
        rintro e w2 ⟨rfl, rfl⟩
        go_wp2_with (at_builtin; refine wpByte rfl (.tmp 23) (.tmp 24) w bs qv acc 10 wr rfl rfl rfl rfl HQ.out (Nat.le_trans HAL.out (by decide)) (Nat.le_trans HBS.out.2 HW.out.size) HW.out HBS.out.1 ?_; intro g5 cap5 w5 HR5 HX5 _)
        go_roundw
        case rel => exact ⟨p1 + 1, _, acc ++ [10], rfl, by first | rfl | rw [HP2.out] | go_num, by omega, by have := HP2.out; omega, HXN2, HAN.out _, HR5, HX5⟩
        case measure => have := HP1.out; have := HP2.out; have := HJ.out; simp [intOf]; omega
       case neg =>
        have hzd : ((d.toNat : Int) == 110) = false := byte_ne h110
        have HXN2 : Hid (X = unq (acc ++ [d]) (s.drop (p1 + 1))) := Lib.hid (by have := HXN.out; rwa [if_neg h110] at this)
        clear hc hdr hp1 hj1 hj hlt hq he hd hdr1 hp2 hlt1 hes ht hcon HXN h110
        go_wp2_with fail
        refine HCON.out.mono ?_
        rintro e w2 ⟨rfl, rfl⟩
        go_wp2_with (at_builtin; refine wpByte rfl (.tmp 26) (.tmp 30) w bs qv acc d wr rfl rfl rfl rfl HQ.out (Nat.le_trans HAL.out (by decide)) (Nat.le_trans HBS.out.2 HW.out.size) HW.out HBS.out.1 ?_; intro g5 cap5 w5 HR5 HX5 _)
        go_roundw
        case rel => exact ⟨p1 + 1, _, acc ++ [d], rfl, by first | rfl | rw [HP2.out] | go_num, by omega, by have := HP2.out; omega, HXN2, HAN.out _, HR5, HX5⟩
        case measure => have := HP1.out; have := HP2.out; have := HJ.out; simp [intOf]; omega
end Go.Proofs.YtnmhaipjfpongacGreatDoor

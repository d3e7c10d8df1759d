/- Texts of this seat laid together for one claim: Bm11. No condition of its own: what each proves stands with its theorems. -/
import Derived.Test.YtnmhaipjfpongacGreatDoorBR0
import Derived.Test.YtnmhaipjfpongacGreatDoorBR36
import Derived.Test.YtnmhaipjfpongacGreatDoorBR45
import Derived.Test.YtnmhaipjfpongacGreatDoorBR28
namespace Go.Proofs.YtnmhaipjfpongacGreatDoor
open Go.ChangeShapes Go.WideShapes Go.ChangeAt Go.RowKit

set_option maxRecDepth 100000 in
theorem run_mkTexts (n : Nat) (hn : n ≤ 1000000) (w : World) : (Instr.makeSlice 53 (.int .i64 (n : Int)) (.int .i64 (n : Int))).run Tryz.prog w =
  .ok (.slice (some ⟨w.heap.size, 0, none⟩) n n) (w.alloc (.cells (Array.replicate n (S [])) 9 (0, 0))) := by
 obtain ⟨i0, hi, hz0, hz1, hz2⟩ := info_parts infoStr
 have h := run_make w 53 9 i0 (S []) Tryz.underlying53 hi hz0 .i64 .i64 (n : Int) (n : Int) (by omega) (Int.le_refl _) (by rw [hz2]; omega) (by omega)
 rw [h, hz1]
 rw [Int.toNat_natCast, Nat.mul_one]
 congr 2
 congr 1
 apply Array.ext
 ·simp [madeCells]
 ·intro i h1 h2
  simp [madeCells, Value.cells, Nat.mod_one]
set_option maxRecDepth 100000 in
theorem run_mkInts (n : Nat) (hn : n ≤ 1000000) (w : World) : (Instr.makeSlice 46 (.int .i64 (n : Int)) (.int .i64 (n : Int))).run Tryz.prog w =
  .ok (.slice (some ⟨w.heap.size, 0, none⟩) n n) (w.alloc (.cells (Array.replicate n (.int .i64 0)) 3 (0, 0))) := by
 obtain ⟨i0, hi, hz0, hz1, hz2⟩ := info_parts infoInt
 have h := run_make w 46 3 i0 (.int .i64 0) Tryz.underlying46 hi hz0 .i64 .i64 (n : Int) (n : Int) (by omega) (Int.le_refl _) (by rw [hz2]; omega) (by omega)
 rw [h, hz1]
 rw [Int.toNat_natCast, Nat.mul_one]
 congr 2
 congr 1
 apply Array.ext
 ·simp [madeCells]
 ·intro i h1 h2
  simp [madeCells, Value.cells, Nat.mod_one]
theorem made_fresh {w : World} {ob : Obj} {n : Nat} : ∀ b, Value.ownBlock (.slice (some ⟨w.heap.size, 0, none⟩) n n) = some b → w.heap.size ≤ b ∧ b < (w.alloc ob).heap.size := fun b h => by
 cases h
 simp

def MkPart (w : World) (n : Nat) (T : FL) (i : Nat) (v : Value) (w' : World) : Prop :=
 (i = 1 ∧ ∃ t tv, v = PTR t ∧ w.heap.size ≤ t ∧ RTree w' w.heap.size t tv T) ∨
 ((i = 4 ∨ i = 6) ∧ ∃ b, v = TabS b n ∧ w.heap.size ≤ b ∧ TabAt w' b 9 n (fun _ => S [])) ∨
 (i = 8 ∧ ∃ b, v = TabS b n ∧ w.heap.size ≤ b ∧ TabAt w' b 4 n (fun _ => .bool false)) ∨
 (i = 10 ∧ ∃ b, v = TabS b n ∧ w.heap.size ≤ b ∧ TabAt w' b 3 n (fun _ => .int .i64 0))
theorem MkPart.ext {w : World} {n : Nat} {T : FL} (i : Nat) (v : Value) (a b : World) (h : MkPart w n T i v a) (ho : Ext a b) : MkPart w n T i v b := by
 rcases h with ⟨h1, t, tv, h2, h3, h4⟩ | ⟨h1, t, h2, h3, h4⟩ | ⟨h1, t, h2, h3, h4⟩ | ⟨h1, t, h2, h3, h4⟩
 ·exact .inl ⟨h1, t, tv, h2, h3, h4.ext ho⟩
 ·exact .inr (.inl ⟨h1, t, h2, h3, h4.ext ho⟩)
 ·exact .inr (.inr (.inl ⟨h1, t, h2, h3, h4.ext ho⟩))
 ·exact .inr (.inr (.inr ⟨h1, t, h2, h3, h4.ext ho⟩))
theorem RTree.low {w : World} {b b' m : Nat} {slv : Value} {L : FL} (h : RTree w b' m slv L) (hb : b ≤ b') : RTree w b m slv L :=
 ⟨h.cells, h.row.1, h.row.2.imp id fun ⟨g, cap, cur, e, hg, r⟩ => ⟨g, cap, cur, e, Nat.le_trans hb hg, r⟩⟩
noncomputable def gNew (l : List Rule) (outs : List B) (j i : Nat) : Nat := if decide (i < j) && reachB l outs i then 1 else 0
theorem gNew_end (l : List Rule) (outs : List B) (T : FL) (i : Nat) (hi : i < l.length) : gNew l outs l.length i = mst (newE l outs T) .new i := by
 unfold gNew mst
 rw [decide_eq_true hi, Bool.true_and]
 by_cases h : reachB l outs i = true
 ·rw [if_pos h, if_pos (show i ∈ needL l outs from List.mem_filter.2 ⟨List.mem_range.2 hi, h⟩)]; rfl
 ·rw [if_neg h, if_neg (show ¬ i ∈ needL l outs from fun hm => h (List.mem_filter.1 hm).2)]
theorem mst_new_ne (l : List Rule) (outs : List B) (T : FL) (i : Nat) : mst (newE l outs T) .new i ≠ 2 ∧ mst (newE l outs T) .new i ≠ 3 := by
 unfold mst
 split
 ·exact ⟨(by decide : (1 : Nat) ≠ 2), (by decide : (1 : Nat) ≠ 3)⟩
 ·exact ⟨by decide, by decide⟩
def RetNewM (w : World) (l : List Rule) (outs : List B) (T : FL) (cp lv : Value) (e : Ending) (w' : World) : Prop :=
 ∃ K : MK, e = .returned (PTR K.b) ∧ K.cp = cp ∧ lv = .slice K.la l.length K.lc ∧ MBldAt w w' (newE l outs T) K .new ∧ ∀ i, InMA K i → w.heap.size ≤ i
set_option maxRecDepth 100000 in
set_option maxHeartbeats 8000000 in
theorem newBuild_any (w : World) (base m : Nat) (slv lv vo : Value) (ca : Option Addr) (l : List Rule) (outs : List B) (T : FL) (hm : RTree w base m slv T) (hT : T.length ≤ 1000000) (hv : RdR w lv l) (hvo : Rd S w vo outs) (hr : RightS l) (hb : badOf l outs = none) :
    Calls Tryz.prog 55 #[PTR m, lv, vo, .pointer ca] w (RetNewM w l outs T (.pointer ca) lv) := by
  have HM := Lib.hid hm
  have HT := Lib.hid hT
  have HV := Lib.hid hv
  have HVO := Lib.hid hvo
  have HR := Lib.hid hr
  have HBD := Lib.hid hb
  have hl40 : l.length ≤ 40 := hr.1
  have hlz : (l.length : Int) ≤ 40 := by omega
  obtain ⟨a0, c0, rfl, _, _, _⟩ := hv
  obtain ⟨ao, co, rfl, _, _, _⟩ := hvo
  clear hm hT hr hb
  go_enter Tryz.func55, Tryz.ntmps55
  go_upto_region 2 with fail
  go_cut [10] (fun p wx => ∃ (K : MK), p = PTR K.b ∧ Hid (K.cp = .pointer ca ∧ K.la = a0 ∧ K.lc = c0) ∧ Hid (MAt w wx (newE l outs T) K (gNew l outs 0) (fun _ => []) (fun _ => false) (fun _ => 0)) ∧ Hid (∀ i, InMA K i → w.heap.size ≤ i))
  case first =>
    refine wp_region_held_drew (S := fun w' => Hid (Ext w w')) (by kernel_rfl) (Lib.hid (Only.drew _ _)) (fun hHeld => ?_)
    refine wpAnyH_take (i := 0) (oi := { dst := some 16, op := Op.move (Operand.tmp 0), type := 28, pos := "build.go:110", after := #[], guard := none }) (v := ?_) rfl (by kernel_rfl) (by kernel_rfl) (by kernel_rfl) (fun _ _ _ h => h) (Or.inl ⟨by rfl, ?_⟩) (by assumption) ?_
    rotate_left
    · (intro w hSw; (try dsimp only at hSw); go_simp; try with_reducible rfl)
    try simp only [Act.put, List.setIfInBounds_toArray, List.set_cons_zero, List.set_cons_succ]
    refine wpAnyH_take (i := 2) (oi := { dst := some 18, op := Op.move (Operand.tmp 1), type := 23, pos := "build.go:110", after := #[], guard := none }) (v := ?_) rfl (by kernel_rfl) (by kernel_rfl) (by kernel_rfl) (fun _ _ _ h => h) (Or.inl ⟨by rfl, ?_⟩) (by assumption) ?_
    rotate_left
    · (intro w hSw; (try dsimp only at hSw); go_simp; try with_reducible rfl)
    try simp only [Act.put, List.setIfInBounds_toArray, List.set_cons_zero, List.set_cons_succ]
    refine wpAnyH_take (i := 3) (oi := { dst := some 19, op := Op.move (Operand.tmp 9), type := 3, pos := "build.go:110", after := #[], guard := none }) (v := ?_) rfl (by kernel_rfl) (by kernel_rfl) (by kernel_rfl) (fun _ _ _ h => h) (Or.inl ⟨by rfl, ?_⟩) (by assumption) ?_
    rotate_left
    · (intro w hSw; (try dsimp only at hSw); go_simp; try with_reducible rfl)
    try simp only [Act.put, List.setIfInBounds_toArray, List.set_cons_zero, List.set_cons_succ]
    refine wpAnyH_take (i := 5) (oi := { dst := some 21, op := Op.move (Operand.tmp 9), type := 3, pos := "build.go:110", after := #[], guard := none }) (v := ?_) rfl (by kernel_rfl) (by kernel_rfl) (by kernel_rfl) (fun _ _ _ h => h) (Or.inl ⟨by rfl, ?_⟩) (by assumption) ?_
    rotate_left
    · (intro w hSw; (try dsimp only at hSw); go_simp; try with_reducible rfl)
    try simp only [Act.put, List.setIfInBounds_toArray, List.set_cons_zero, List.set_cons_succ]
    refine wpAnyH_take (i := 7) (oi := { dst := some 23, op := Op.move (Operand.tmp 9), type := 3, pos := "build.go:110", after := #[], guard := none }) (v := ?_) rfl (by kernel_rfl) (by kernel_rfl) (by kernel_rfl) (fun _ _ _ h => h) (Or.inl ⟨by rfl, ?_⟩) (by assumption) ?_
    rotate_left
    · (intro w hSw; (try dsimp only at hSw); go_simp; try with_reducible rfl)
    try simp only [Act.put, List.setIfInBounds_toArray, List.set_cons_zero, List.set_cons_succ]
    refine wpAnyH_take (i := 9) (oi := { dst := some 25, op := Op.move (Operand.tmp 9), type := 3, pos := "build.go:110", after := #[], guard := none }) (v := ?_) rfl (by kernel_rfl) (by kernel_rfl) (by kernel_rfl) (fun _ _ _ h => h) (Or.inl ⟨by rfl, ?_⟩) (by assumption) ?_
    rotate_left
    · (intro w hSw; (try dsimp only at hSw); go_simp; try with_reducible rfl)
    try simp only [Act.put, List.setIfInBounds_toArray, List.set_cons_zero, List.set_cons_succ]
    refine wpAnyH_take (i := 11) (oi := { dst := some 27, op := Op.move (Operand.tmp 3), type := 90, pos := "build.go:110", after := #[], guard := none }) (v := ?_) rfl (by kernel_rfl) (by kernel_rfl) (by kernel_rfl) (fun _ _ _ h => h) (Or.inl ⟨by rfl, ?_⟩) (by assumption) ?_
    rotate_left
    · (intro w hSw; (try dsimp only at hSw); go_simp; try with_reducible rfl)
    try simp only [Act.put, List.setIfInBounds_toArray, List.set_cons_zero, List.set_cons_succ]
    refine makers_any [1, 4, 6, 8, 10] (MkPart w l.length T) _ _ _ 3 (by decide) (by kernel_rfl) (MkPart.ext) (fun wx hx => Lib.hid ((Only.drew _ _).then hx)) ?hop ?hend
    case hop =>
      intro i hi s hs wx hx K hK
      have sz : w.heap.size ≤ wx.heap.size := ((Only.drew (fun _ => False) w).then hx).size
      simp only [List.mem_cons, List.not_mem_nil, or_false] at hi
      rcases hi with rfl | rfl | rfl | rfl | rfl
      · refine wpOp_call1 (t := 16) (v := PTR m) rfl rfl rfl ((eval_putsL s _ (dst_not hs (by kernel_rfl))).trans rfl) (fun w => by kernel_rfl) (copyTree_any wx base m slv T (HM.out.ext ((Only.drew _ _).then hx)) HT.out) (fun e w' h => ?_)
        obtain ⟨slv', rfl, h1, h2⟩ := h
        exact ⟨_, rfl, hK _ _ h2 (.inl ⟨rfl, _, slv', rfl, sz, h1.low sz⟩) (fun b hb => by cases hb)⟩
      · exact wpOp_make1 (t := 19) rfl rfl rfl ((eval_putsL s _ (dst_not hs (by kernel_rfl))).trans rfl) (run_mkTexts l.length (by omega) wx) (hK _ _ (Only.alloc _ _ _) (.inr (.inl ⟨.inl rfl, _, rfl, sz, TabAt.made wx _ l.length _⟩)) made_fresh)
      · exact wpOp_make1 (t := 21) rfl rfl rfl ((eval_putsL s _ (dst_not hs (by kernel_rfl))).trans rfl) (run_mkTexts l.length (by omega) wx) (hK _ _ (Only.alloc _ _ _) (.inr (.inl ⟨.inr rfl, _, rfl, sz, TabAt.made wx _ l.length _⟩)) made_fresh)
      · exact wpOp_make1 (t := 23) rfl rfl rfl ((eval_putsL s _ (dst_not hs (by kernel_rfl))).trans rfl) (run_marks l.length (by omega) wx) (hK _ _ (Only.alloc _ _ _) (.inr (.inr (.inl ⟨rfl, _, rfl, sz, TabAt.made wx _ l.length _⟩))) made_fresh)
      · exact wpOp_make1 (t := 25) rfl rfl rfl ((eval_putsL s _ (dst_not hs (by kernel_rfl))).trans rfl) (run_mkInts l.length (by omega) wx) (hK _ _ (Only.alloc _ _ _) (.inr (.inr (.inr ⟨rfl, _, rfl, sz, TabAt.made wx _ l.length _⟩))) made_fresh)
    case hend =>
      intro s hp wx hx hf hap
      have hHeld : Hid (Ext w wx) := Lib.hid ((Only.drew _ _).then hx)
      obtain ⟨f, hperm⟩ := vals_of hp (by decide)
      rw [putsL_perm hperm _ ?nd]
      case nd => exact (hperm.map _).nodup_iff.2 (show ([some 17, some 20, some 22, some 24, some 26] : List (Option Tmp)).Nodup from by decide)
      have hm : ∀ i, i ∈ [1, 4, 6, 8, 10] → (i, f i) ∈ s := fun i hi => hperm.mem_iff.2 (List.mem_map.2 ⟨i, hi, rfl⟩)
      obtain ⟨t, tv, e1, l1, h1⟩ : ∃ t tv, f 1 = PTR t ∧ w.heap.size ≤ t ∧ RTree wx w.heap.size t tv T := by
        rcases hf _ (hm 1 (by decide)) with ⟨_, h⟩ | ⟨h, _⟩ | ⟨h, _⟩ | ⟨h, _⟩
        · exact h
        · simp at h
        · simp at h
        · simp at h
      obtain ⟨b4, e4, l4, h4⟩ : ∃ b, f 4 = TabS b l.length ∧ w.heap.size ≤ b ∧ TabAt wx b 9 l.length (fun _ => S []) := by
        rcases hf _ (hm 4 (by decide)) with ⟨h, _⟩ | ⟨_, h⟩ | ⟨h, _⟩ | ⟨h, _⟩
        · simp at h
        · exact h
        · simp at h
        · simp at h
      obtain ⟨b6, e6, l6, h6⟩ : ∃ b, f 6 = TabS b l.length ∧ w.heap.size ≤ b ∧ TabAt wx b 9 l.length (fun _ => S []) := by
        rcases hf _ (hm 6 (by decide)) with ⟨h, _⟩ | ⟨_, h⟩ | ⟨h, _⟩ | ⟨h, _⟩
        · simp at h
        · exact h
        · simp at h
        · simp at h
      obtain ⟨b8, e8, l8, h8⟩ : ∃ b, f 8 = TabS b l.length ∧ w.heap.size ≤ b ∧ TabAt wx b 4 l.length (fun _ => .bool false) := by
        rcases hf _ (hm 8 (by decide)) with ⟨h, _⟩ | ⟨h, _⟩ | ⟨_, h⟩ | ⟨h, _⟩
        · simp at h
        · simp at h
        · exact h
        · simp at h
      obtain ⟨b10, e10, l10, h10⟩ : ∃ b, f 10 = TabS b l.length ∧ w.heap.size ≤ b ∧ TabAt wx b 3 l.length (fun _ => .int .i64 0) := by
        rcases hf _ (hm 10 (by decide)) with ⟨h, _⟩ | ⟨h, _⟩ | ⟨h, _⟩ | ⟨_, h⟩
        · simp at h
        · simp at h
        · simp at h
        · exact h
      have hne : b4 ≠ b6 := fun e => hap _ (hm 4 (by decide)) _ (hm 6 (by decide)) (show (4 : Nat) ≠ 6 from by decide) b4 (by rw [e4]; rfl) (by rw [e6, e]; rfl)
      have HMT : Hid (MAt w (wx.alloc (.cells (mCells (newE l outs T) ⟨wx.heap.size, t, tv, a0, c0, b4, b6, b8, b10, .pointer ca⟩) 113 (0, 0))) (newE l outs T) ⟨wx.heap.size, t, tv, a0, c0, b4, b6, b8, b10, .pointer ca⟩ (gNew l outs 0) (fun _ => []) (fun _ => false) (fun _ => 0)) := Lib.hid
        ⟨hHeld.out.thenAlloc _, (MapKept.heap_alloc wx _).1, h1.ext (Only.alloc _ _ _), HV.out,
         ⟨(h4.ext (Only.alloc _ _ _)).congr (fun i _ => by unfold gNew; simp; rfl), h6.ext (Only.alloc _ _ _), h8.ext (Only.alloc _ _ _), h10.ext (Only.alloc _ _ _)⟩, hne, ⟨hHeld.out.size, l1, l4, l6, l8, l10⟩⟩
      have HGG : Hid (∀ i, InMA ⟨wx.heap.size, t, tv, a0, c0, b4, b6, b8, b10, .pointer ca⟩ i → w.heap.size ≤ i) := Lib.hid (HMT.out.ge)
      change wpAnyH _ _ _ _ _ _ _ (((((Act.put _ (some 17) (f 1)).put (some 20) (f 4)).put (some 22) (f 6)).put (some 24) (f 8)).put (some 26) (f 10)) _
      rw [e1, e4, e6, e8, e10]
      clear hx hf hap hperm hp hm e1 e4 e6 e8 e10 h1 h4 h6 h8 h10 l1 l4 l6 l8 l10 hne
      try simp only [Act.put, List.setIfInBounds_toArray, List.set_cons_zero, List.set_cons_succ]
      refine wpAnyH_take (i := 12) (oi := { dst := some 28, op := Op.build 113 #[(0, Operand.tmp 17), (1, Operand.tmp 18), (2, Operand.tmp 20), (3, Operand.tmp 22), (4, Operand.tmp 24), (5, Operand.tmp 26), (6, Operand.tmp 27)], type := 113, pos := "build.go:110", after := #[{ on := 1, ground := Ground.data }, { on := 2, ground := Ground.data }, { on := 4, ground := Ground.data }, { on := 6, ground := Ground.data }, { on := 8, ground := Ground.data }, { on := 10, ground := Ground.data }, { on := 11, ground := Ground.data }], guard := none }) (v := ?_) rfl (by kernel_rfl) (by kernel_rfl) (by kernel_rfl) (fun _ _ _ h => h) (Or.inl ⟨by rfl, ?_⟩) (by assumption) ?_
      rotate_left
      · (intro w hSw; (try dsimp only at hSw); go_simp; try with_reducible rfl)
      try simp only [Act.put, List.setIfInBounds_toArray, List.set_cons_zero, List.set_cons_succ]
      refine wpAnyH_ready (rs := [13]) (by kernel_rfl) (by simp) ?_
      refine AllReadyH.cons (o := { dst := some 29, op := Op.box 113 (Operand.tmp 28), type := 96, pos := "build.go:110", after := #[{ on := 12, ground := Ground.data }], guard := none }) rfl (fun K' hK => ?_) AllReadyH.nil
      go_simp
      refine hK.out _ _ (Lib.hid (hHeld.out.thenAlloc _)) (fun hHeld => ?_)
      clear hK K'
      try simp only [Act.put, List.setIfInBounds_toArray, List.set_cons_zero, List.set_cons_succ]
      refine wpAnyH_take (i := 14) (oi := { dst := some 10, op := Op.assign (Operand.tmp 29), type := 96, pos := "build.go:110", after := #[{ on := 13, ground := Ground.data }, { on := 1, ground := Ground.chain }, { on := 0, ground := Ground.phase }, { on := 1, ground := Ground.phase }, { on := 2, ground := Ground.phase }, { on := 3, ground := Ground.phase }, { on := 4, ground := Ground.phase }, { on := 5, ground := Ground.phase }, { on := 6, ground := Ground.phase }, { on := 7, ground := Ground.phase }, { on := 8, ground := Ground.phase }, { on := 9, ground := Ground.phase }, { on := 10, ground := Ground.phase }, { on := 11, ground := Ground.phase }, { on := 12, ground := Ground.phase }, { on := 13, ground := Ground.phase }], guard := none }) (v := ?_) rfl (by kernel_rfl) (by kernel_rfl) (by kernel_rfl) (fun _ _ _ h => h) (Or.inl ⟨by rfl, ?_⟩) (by assumption) ?_
      rotate_left
      · (intro w hSw; (try dsimp only at hSw); go_simp; try with_reducible rfl)
      try simp only [Act.put, List.setIfInBounds_toArray, List.set_cons_zero, List.set_cons_succ]
      refine wpAnyH_done (by kernel_rfl) ?_ _
      go_wp2_with fail
      go_meet
      exact ⟨_, rfl, Lib.hid ⟨rfl, rfl, rfl⟩, HMT, HGG⟩
  case rest =>
    obtain ⟨K, rfl, HK, HA, HG⟩ := hcut
    have HVC := Lib.hid (HV.out.ext HA.out.ext)
    have HVOC := Lib.hid (HVO.out.ext HA.out.ext)
    have HND := Lib.hid (neededOf_any wc l outs _ _ HVC.out HVOC.out HR.out)
    go_wp2_with fail
    refine HND.out.mono ?_
    rintro e w3 ⟨ho3, hc3⟩
    rcases hc3 with ⟨i, hb3, _⟩ | ⟨_, tb, rfl, htb⟩
    · rw [HBD.out] at hb3; cases hb3
    have HA3 := Lib.hid (HA.out.grow ho3)
    have HTB := Lib.hid htb
    clear ho3 htb HND
    go_wp2_with fail
    go_loopw [13] (fun i wr => ∃ t : Nat, t ≤ l.length ∧ i = .int .i64 t ∧ Hid (MAt w wr (newE l outs T) K (gNew l outs t) (fun _ => []) (fun _ => false) (fun _ => 0)) ∧ Hid (TabAt wr tb 4 l.length (fun k => .bool (reachB l outs k)))) (fun i _ => l.length - (intOf i).toNat)
    case atStart => exact ⟨0, Nat.zero_le _, rfl, HA3, HTB⟩
    case round =>
      clear HA3 HTB
      obtain ⟨t, ht, rfl, HA, HTB⟩ := hrel
      by_cases htl : t < l.length
      · have htz : (t : Int) < (l.length : Int) := by omega
        have ht0 : (0 : Int) ≤ (t : Int) := by omega
        have ht1 : ¬ (t : Int) < 0 := by omega
        have ht2 : ¬ (l.length : Int) ≤ (t : Int) := by omega
        have b0 := HTB.out.cell htl
        have HTL := Lib.hid htl
        cases hre : reachB l outs t with
        | true =>
          simp only [hre] at b0
          have m2 := (HA.out.cell 2).trans (rfl : _ = some (TabS K.st l.length))
          have ts := HA.out.tab.st.cell htl
          have fs := HA.out.tab.st.free t
          obtain ⟨h2, ho2⟩ := HA.out.setSt t 1 (g' := gNew l outs (t + 1)) (fun i => by
            unfold gNew
            by_cases e : i = t
            · subst e; rw [if_pos rfl, decide_eq_true (Nat.lt_succ_self i), hre]; rfl
            · rw [if_neg e, decide_eq_decide.2 (show i < t + 1 ↔ i < t by omega)])
          rw [show stateM 1 = [119, 97, 105, 116, 115] from rfl] at h2 ho2
          have HA2 := Lib.hid h2
          have HTB2 : Hid (TabAt _ tb 4 l.length (fun k => .bool (reachB l outs k))) := Lib.hid (HTB.out.later (only_table (w := wr) (b := K.st) (k := t) (v := S [119, 97, 105, 116, 115])) (Ne.symm (HA.out.tab.st.ne HTB.out (by decide))).symm.symm)
          generalize stateM (gNew l outs t t) = sx at ts
          clear h2 ho2 hre htl ht
          go_wp2_with fail
          go_roundw
          case rel => exact ⟨t + 1, HTL.out, by go_num, HA2, HTB2⟩
          case measure => have := HTL.out; simp [intOf]; omega
        | false =>
          simp only [hre] at b0
          have HA2 := Lib.hid (HA.out.congr (g' := gNew l outs (t + 1)) (fun i _ => by
            unfold gNew
            by_cases e : i = t
            · subst e; rw [hre, Bool.and_false, Bool.and_false]
            · rw [decide_eq_decide.2 (show i < t + 1 ↔ i < t by omega)]) (fun _ _ => rfl) (fun _ _ => rfl) (fun _ _ => rfl))
          clear hre htl ht
          go_wp2_with fail
          go_roundw
          case rel => exact ⟨t + 1, HTL.out, by go_num, HA2, HTB⟩
          case measure => have := HTL.out; simp [intOf]; omega
      · have htz : ¬ (t : Int) < (l.length : Int) := by omega
        have hte : t = l.length := by omega
        rw [hte] at HA
        clear htl ht hte
        go_wp2_with fail
        go_ret
        refine ⟨K, rfl, HK.out.1, by rw [HK.out.2.1, HK.out.2.2], HA.out.congr (fun i hi => gNew_end l outs T i hi) (fun i _ => ?_) (fun i _ => ?_) (fun i _ => ?_), HG.out⟩
        · unfold outM; rw [if_neg (mst_new_ne l outs T i).1]
        · unfold hitM; rw [show (mst (newE l outs T) .new i == 2) = false from beq_eq_false_iff_ne.2 (mst_new_ne l outs T i).1]; rfl
        · unfold whyM; rw [if_neg (mst_new_ne l outs T i).2]
end Go.Proofs.YtnmhaipjfpongacGreatDoor

/- Texts of this seat laid together for one claim: F4. No condition of its own: what each proves stands with its theorems. -/
import Derived.Test.YtnmhaipjfpongabGreatDoorPS16
namespace Go.Proofs.YtnmhaipjfpongabGreatDoor
open Go.ChangeShapes Go.WideShapes Go.ChangeAt Go.RowKit

abbrev FV (n : Nat) : Value := .func (.func n) #[] #[]
def Kd.wordF : Kd → Nat
 | .write => 158
 | .join => 158
 | .upper => 162
 | .lines => 158
 | .sort => 165
 | .count => 162
 | .swap => 168
 | .head => 170
def Kd.runF : Kd → Nat
 | .write => 159
 | .join => 160
 | .upper => 163
 | .lines => 164
 | .sort => 166
 | .count => 167
 | .swap => 169
 | .head => 171

def encK (k : Kd) : Value := .agg #[I k.least, I k.most, FV k.wordF, FV k.runF]

def KindsIs (w : World) (e : Ending) (w' : World) : Prop := ∃ b, e = .returned (.map (some b)) ∧ KMap .string S encK w' b kinds ∧ Ext w w'

set_option maxRecDepth 100000 in
set_option maxHeartbeats 2000000 in
theorem kinds_any (w : World) : Calls Tryz.prog 96 #[] w (KindsIs w) := by
 have hmm := @run_makeMap Tryz.prog
 have k0 := KMap.made w .string S encK
 obtain ⟨w1, r1, k1, o1, _⟩ := KMap.store (P := Tryz.prog) keyOk_str k0 Tryz.underlying141 Tryz.underlying9 [119, 114, 105, 116, 101] Kd.write
 have r1 : (Instr.mapUpdate 141 (.map (some w.heap.size)) (S [119, 114, 105, 116, 101]) (.agg #[I 0, I 0, FV 158, FV 159])).run Tryz.prog (w.alloc (.map #[] 0)) = .ok () w1 := r1
 obtain ⟨w2, r2, k2, o2, _⟩ := KMap.store (P := Tryz.prog) keyOk_str k1 Tryz.underlying141 Tryz.underlying9 [106, 111, 105, 110] Kd.join
 have r2 : (Instr.mapUpdate 141 (.map (some w.heap.size)) (S [106, 111, 105, 110]) (.agg #[I 1, I 8, FV 158, FV 160])).run Tryz.prog w1 = .ok () w2 := r2
 obtain ⟨w3, r3, k3, o3, _⟩ := KMap.store (P := Tryz.prog) keyOk_str k2 Tryz.underlying141 Tryz.underlying9 [117, 112, 112, 101, 114] Kd.upper
 have r3 : (Instr.mapUpdate 141 (.map (some w.heap.size)) (S [117, 112, 112, 101, 114]) (.agg #[I 1, I 1, FV 162, FV 163])).run Tryz.prog w2 = .ok () w3 := r3
 obtain ⟨w4, r4, k4, o4, _⟩ := KMap.store (P := Tryz.prog) keyOk_str k3 Tryz.underlying141 Tryz.underlying9 [108, 105, 110, 101, 115] Kd.lines
 have r4 : (Instr.mapUpdate 141 (.map (some w.heap.size)) (S [108, 105, 110, 101, 115]) (.agg #[I 1, I 1, FV 158, FV 164])).run Tryz.prog w3 = .ok () w4 := r4
 obtain ⟨w5, r5, k5, o5, _⟩ := KMap.store (P := Tryz.prog) keyOk_str k4 Tryz.underlying141 Tryz.underlying9 [115, 111, 114, 116] Kd.sort
 have r5 : (Instr.mapUpdate 141 (.map (some w.heap.size)) (S [115, 111, 114, 116]) (.agg #[I 1, I 8, FV 165, FV 166])).run Tryz.prog w4 = .ok () w5 := r5
 obtain ⟨w6, r6, k6, o6, _⟩ := KMap.store (P := Tryz.prog) keyOk_str k5 Tryz.underlying141 Tryz.underlying9 [99, 111, 117, 110, 116] Kd.count
 have r6 : (Instr.mapUpdate 141 (.map (some w.heap.size)) (S [99, 111, 117, 110, 116]) (.agg #[I 1, I 8, FV 162, FV 167])).run Tryz.prog w5 = .ok () w6 := r6
 obtain ⟨w7, r7, k7, o7, _⟩ := KMap.store (P := Tryz.prog) keyOk_str k6 Tryz.underlying141 Tryz.underlying9 [115, 119, 97, 112] Kd.swap
 have r7 : (Instr.mapUpdate 141 (.map (some w.heap.size)) (S [115, 119, 97, 112]) (.agg #[I 1, I 1, FV 168, FV 169])).run Tryz.prog w6 = .ok () w7 := r7
 obtain ⟨w8, r8, k8, o8, _⟩ := KMap.store (P := Tryz.prog) keyOk_str k7 Tryz.underlying141 Tryz.underlying9 [104, 101, 97, 100] Kd.head
 have r8 : (Instr.mapUpdate 141 (.map (some w.heap.size)) (S [104, 101, 97, 100]) (.agg #[I 1, I 1, FV 170, FV 171])).run Tryz.prog w7 = .ok () w8 := r8
 have hkk : KMap .string S encK w8 w.heap.size kinds := by
  refine Eq.mp (congrArg (KMap .string S encK w8 w.heap.size) ?_) k8
  kernel_rfl
 have HK := Lib.hid hkk
 clear hkk
 have hx : Ext w (w.alloc (.map #[] 0)) := Only.alloc _ _ _
 have x1 := hx.trans o1 (fun _ _ h => h) (fun i hi e => by omega)
 have x2 := x1.trans o2 (fun _ _ h => h) (fun i hi e => by omega)
 have x3 := x2.trans o3 (fun _ _ h => h) (fun i hi e => by omega)
 have x4 := x3.trans o4 (fun _ _ h => h) (fun i hi e => by omega)
 have x5 := x4.trans o5 (fun _ _ h => h) (fun i hi e => by omega)
 have x6 := x5.trans o6 (fun _ _ h => h) (fun i hi e => by omega)
 have x7 := x6.trans o7 (fun _ _ h => h) (fun i hi e => by omega)
 have x8 := x7.trans o8 (fun _ _ h => h) (fun i hi e => by omega)
 have HX := Lib.hid x8
 clear k0 hx k1 o1 x1 k2 o2 x2 k3 o3 x3 k4 o4 x4 k5 o5 x5 k6 o6 x6 k7 o7 x7 k8 o8 x8
 go_enter Tryz.func96, Tryz.ntmps96
 go_wp2_with fail
 go_ret
 exact ⟨_, rfl, HK.out, HX.out⟩

theorem any_word (w : World) (s : B) : Calls Tryz.prog 158 #[S s] w (RetE (.bool true) w) := by
 go_enter Tryz.func158, Tryz.ntmps158
 go_wp2_with fail
 go_ret
 exact ⟨rfl, Only.refl _ _⟩

theorem empty_word (w : World) (s : B) : Calls Tryz.prog 162 #[S s] w (RetE (.bool (s == [])) w) := by
 obtain ⟨r, hr⟩ : ∃ r, (s == []) = r := ⟨_, rfl⟩
 rw [hr]
 go_enter Tryz.func162, Tryz.ntmps162
 go_wp2_with fail
 go_ret
 exact ⟨rfl, Only.refl _ _⟩

theorem sort_word (w : World) (s : B) : Calls Tryz.prog 165 #[S s] w (RetE (.bool (s == [] || s == [111, 110, 99, 101])) w) := by
 cases h1 : s == [] with
 | true =>
  go_enter Tryz.func165, Tryz.ntmps165
  go_wp2_with fail
  go_ret
  exact ⟨rfl, Only.refl _ _⟩
 | false =>
  cases h2 : s == [111, 110, 99, 101]
  all_goals
   go_enter Tryz.func165, Tryz.ntmps165
   go_wp2_with fail
   go_ret
   exact ⟨rfl, Only.refl _ _⟩

theorem byteI (c : UInt8) (z : Int) (d : UInt8) (hz : z = d.toNat) : ((c.toNat : Int) == z) = (some c == some d) := by
 subst hz
 rw [Bool.eq_iff_iff]
 simp only [beq_iff_eq, Option.some.injEq]
 exact ⟨fun h => UInt8.toNat_inj.1 (by omega), fun h => by rw [h]⟩

theorem pair_word (w : World) (s : B) : Calls Tryz.prog 168 #[S s] w (RetE (.bool (pairB s)) w) := by
 have hC : Calls Tryz.prog 232 #[S s, .string ⟨#[61]⟩] w (fun e w' => e = .returned (I (s.count 61)) ∧ w = w') := by
  refine (Tryz.strings_Count_one ⟨s.toArray⟩ 61 w).mono ?_
  rintro e w' ⟨rfl, rfl⟩
  exact ⟨rfl, rfl⟩
 have HC := Lib.hid hC
 clear hC
 cases s with
 | nil =>
  simp only [List.count_nil] at HC
  go_enter Tryz.func168, Tryz.ntmps168
  go_wp2_with fail
  refine (HC.out).mono ?_
  rintro e w' ⟨rfl, rfl⟩
  go_wp2_with fail
  go_ret
  exact ⟨rfl, Only.refl _ _⟩
 | cons c r =>
  obtain ⟨n, hn⟩ : ∃ n, (c :: r).count 61 = n := ⟨_, rfl⟩
  unfold pairB
  rw [hn] at HC ⊢
  clear hn
  cases h1 : (n : Int) == 1 with
  | true =>
   have h1' : (n == 1) = true := by have := beq_iff_eq.1 h1; exact beq_iff_eq.2 (by omega)
   rw [h1']
   obtain ⟨z, hz⟩ : ∃ z : Bool, ((c.toNat : Int) == 61) = z := ⟨_, rfl⟩
   have e : (some c == some (61 : UInt8)) = z := by rw [← hz]; exact (byteI c 61 61 (by decide)).symm
   simp only [List.head?_cons, e]
   go_enter Tryz.func168, Tryz.ntmps168
   go_wp2_with fail
   refine (HC.out).mono ?_
   rintro e w' ⟨rfl, rfl⟩
   go_wp2_with fail
   go_ret
   exact ⟨by simp [bne]; exact hz, Only.refl _ _⟩
  | false =>
   have h1' : (n == 1) = false := beq_eq_false_iff_ne.2 fun e => by rw [e] at h1; simp at h1
   rw [h1']
   go_enter Tryz.func168, Tryz.ntmps168
   go_wp2_with fail
   refine (HC.out).mono ?_
   rintro e w' ⟨rfl, rfl⟩
   go_wp2_with fail
   go_ret
   exact ⟨rfl, Only.refl _ _⟩

set_option maxRecDepth 100000 in
set_option maxHeartbeats 2000000 in
theorem digits_word (w : World) (s : B) (hs : s.length ≤ 1000000) (hv : AtoiVars w) (hp : Pow w) : Calls Tryz.prog 170 #[S s] w (RetE (.bool (numB 3 s).isSome) w) := by
 by_cases hk : ∃ v, Lib.atoiAll s = .ok v
 ·obtain ⟨v, hk⟩ := hk
  have HA := Lib.hid (atoi_ok w s hs v hk)
  have hlt := atoi_lt hk
  by_cases h0 : 0 ≤ v
  ·obtain ⟨n, rfl⟩ := Int.eq_ofNat_of_zero_le h0
   by_cases h3 : s.length ≤ 3
   ·have h3z : (s.length : Int) ≤ 3 := by omega
    have h5 : n < 1000 := by
     have h2 : (10 : Int) ^ s.length ≤ 10 ^ 3 := by exact_mod_cast Nat.pow_le_pow_right (show 0 < 10 by omega) h3
     omega
    have hr : (numB 3 s).isSome = (Lib.decDigits n == s) := by
     unfold numB
     rw [hk]
     by_cases e : Lib.decDigits n = s
     ·simp [h3, e]
     ·simp [e]
    have HI := Lib.hid (fun w1 (hw : Ext w w1) => itoa_any w1 n (by omega) (hp.ext hw))
    rw [hr]
    obtain ⟨r, hr⟩ : ∃ r, (Lib.decDigits n == s) = r := ⟨_, rfl⟩
    rw [hr]
    clear hk hlt hs hv hp
    go_enter Tryz.func170, Tryz.ntmps170
    go_wp2_with fail
    refine (HA.out).mono ?_
    rintro e w1 ⟨rfl, ho⟩
    have HO := Lib.hid ho
    clear ho
    go_wp2_with fail
    refine (HI.out _ HO.out).mono ?_
    rintro e w2 ⟨rfl, ho⟩
    have HO2 := Lib.hid (HO.out.then ho)
    clear ho
    go_wp2_with fail
    go_ret
    exact ⟨rfl, HO2.out⟩
   ·have h3z : ¬ (s.length : Int) ≤ 3 := by omega
    have hr : (numB 3 s).isSome = false := by unfold numB; rw [hk]; simp [h3]
    rw [hr]
    clear hk hlt hs hv hp h3 hr
    go_enter Tryz.func170, Tryz.ntmps170
    go_wp2_with fail
    refine (HA.out).mono ?_
    rintro e w1 ⟨rfl, ho⟩
    have HO := Lib.hid ho
    clear ho
    go_wp2_with fail
    go_ret
    exact ⟨rfl, HO.out⟩
  ·have hr : (numB 3 s).isSome = false := by unfold numB; rw [hk]; simp [h0]
   rw [hr]
   have h0z : ¬ (0 ≤ v) := h0
   clear hk hlt hs hv hp hr
   go_enter Tryz.func170, Tryz.ntmps170
   go_wp2_with fail
   refine (HA.out).mono ?_
   rintro e w1 ⟨rfl, ho⟩
   have HO := Lib.hid ho
   clear ho
   go_wp2_with fail
   go_ret
   exact ⟨rfl, HO.out⟩
 ·have hr : (numB 3 s).isSome = false := by
   unfold numB
   split
   ·rename_i v e; exact absurd ⟨v, e⟩ hk
   ·rfl
  rw [hr]
  have HA := Lib.hid (atoi_bad w s hs hv (fun v e => hk ⟨v, e⟩))
  clear hk hs hv hp hr
  go_enter Tryz.func170, Tryz.ntmps170
  go_wp2_with fail
  refine (HA.out).mono ?_
  rintro e w1 ⟨v, t, p, rfl, ho⟩
  have HO := Lib.hid ho
  clear ho
  go_wp2_with fail
  go_ret
  exact ⟨rfl, HO.out⟩

theorem word_any (w : World) (k : Kd) (s : B) (hs : s.length ≤ 1000000) (hv : AtoiVars w) (hp : Pow w) : Calls Tryz.prog k.wordF #[S s] w (RetE (.bool (k.word s)) w) := by
 cases k
 ·exact any_word w s
 ·exact any_word w s
 ·exact empty_word w s
 ·exact any_word w s
 ·exact sort_word w s
 ·exact empty_word w s
 ·exact pair_word w s
 ·exact digits_word w s hs hv hp

theorem ent_anything : ∀ args w, (callFunc 158 args).run Tryz.prog w = .ok (.enter 158 args) w := fun args w => by kernel_rfl
theorem ent_empty : ∀ args w, (callFunc 162 args).run Tryz.prog w = .ok (.enter 162 args) w := fun args w => by kernel_rfl
theorem ent_kinds_3 : ∀ args w, (callFunc 165 args).run Tryz.prog w = .ok (.enter 165 args) w := fun args w => by kernel_rfl
theorem ent_pair : ∀ args w, (callFunc 168 args).run Tryz.prog w = .ok (.enter 168 args) w := fun args w => by kernel_rfl
theorem ent_digits : ∀ args w, (callFunc 170 args).run Tryz.prog w = .ok (.enter 170 args) w := fun args w => by kernel_rfl
theorem ent_kinds_1 : ∀ args w, (callFunc 159 args).run Tryz.prog w = .ok (.enter 159 args) w := fun args w => by kernel_rfl
theorem ent_kinds_2 : ∀ args w, (callFunc 160 args).run Tryz.prog w = .ok (.enter 160 args) w := fun args w => by kernel_rfl
theorem ent_upper : ∀ args w, (callFunc 163 args).run Tryz.prog w = .ok (.enter 163 args) w := fun args w => by kernel_rfl
theorem ent_lines : ∀ args w, (callFunc 164 args).run Tryz.prog w = .ok (.enter 164 args) w := fun args w => by kernel_rfl
theorem ent_sorted : ∀ args w, (callFunc 166 args).run Tryz.prog w = .ok (.enter 166 args) w := fun args w => by kernel_rfl
theorem ent_count : ∀ args w, (callFunc 167 args).run Tryz.prog w = .ok (.enter 167 args) w := fun args w => by kernel_rfl
theorem ent_swap : ∀ args w, (callFunc 169 args).run Tryz.prog w = .ok (.enter 169 args) w := fun args w => by kernel_rfl
theorem ent_head : ∀ args w, (callFunc 171 args).run Tryz.prog w = .ok (.enter 171 args) w := fun args w => by kernel_rfl
theorem enters_word : ∀ (k : Kd) args w, (callFunc k.wordF args).run Tryz.prog w = .ok (.enter k.wordF args) w
 | .write => ent_anything | .join => ent_anything | .upper => ent_empty | .lines => ent_anything | .sort => ent_kinds_3 | .count => ent_empty | .swap => ent_pair | .head => ent_digits
theorem enters_run : ∀ (k : Kd) args w, (callFunc k.runF args).run Tryz.prog w = .ok (.enter k.runF args) w
 | .write => ent_kinds_1 | .join => ent_kinds_2 | .upper => ent_upper | .lines => ent_lines | .sort => ent_sorted | .count => ent_count | .swap => ent_swap | .head => ent_head
end Go.Proofs.YtnmhaipjfpongabGreatDoor

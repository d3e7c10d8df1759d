/- The plain words of a tree of files: what lies above another; put, remove, paths, text. No condition. -/
import Derived.Test.YtnmhaipjfpongaaGreatDoorQ2
namespace Go.Proofs.YtnmhaipjfpongaaGreatDoor

abbrev FL := List (B × B)

def aboveB (a b : B) : Bool := (a ++ [47]).isPrefixOf b
def clash (L : FL) (p : B) : Bool := L.any fun q => aboveB p q.1 || aboveB q.1 p
def Rising (L : FL) : Prop := L.Pairwise fun x y => x.1 < y.1

def insT (L : FL) (p x : B) : FL := L.takeWhile (fun q => decide (q.1 < p)) ++ (p, x) :: L.dropWhile (fun q => decide (q.1 < p))
def chg (p x : B) (q : B × B) : B × B := if q.1 == p then (p, x) else q
def setT (L : FL) (p x : B) : FL := if (L.lookup p).isSome then L.map (chg p x) else insT L p x
def putCode (L : FL) (p x : B) : Nat :=
  if pathOk p then if 2000 < x.length then 2 else if clash L p then 7 else if (L.lookup p).isNone && decide (60 ≤ L.length) then 8 else 0 else 4
def putT (L : FL) (p x : B) : FL := if putCode L p x = 0 then setT L p x else L
def delT (L : FL) (p : B) : FL := L.filter (fun q => !(q.1 == p))

theorem ltB_irrefl (a : B) : ¬ a < a := List.lt_irrefl a
theorem ltB_trans {a b c : B} (h : a < b) (k : b < c) : a < c := List.lt_trans h k
theorem ltB_asymm {a b : B} (h : a < b) : ¬ b < a := fun k => ltB_irrefl _ (ltB_trans h k)
theorem ltB_tri {a b : B} (h : ¬ a < b) (k : ¬ b < a) : a = b := List.le_antisymm (List.not_lt.1 k) (List.not_lt.1 h)
theorem leB_iff {a b : B} : a ≤ b ↔ ¬ b < a := List.not_lt.symm

theorem Rising.nodup {L : FL} (h : Rising L) : (L.map (·.1)).Nodup := by
  rw [List.nodup_iff_pairwise_ne, List.pairwise_map]
  refine List.Pairwise.imp ?_ h
  intro a b hlt e
  rw [e] at hlt
  exact ltB_irrefl _ hlt

theorem Rising.nil : Rising [] := List.Pairwise.nil
theorem Rising.del {L : FL} (h : Rising L) (p : B) : Rising (delT L p) := List.Pairwise.filter _ h

theorem chg_fst (p x : B) (q : B × B) : (chg p x q).1 = q.1 := by
  unfold chg
  split
  · rename_i h; exact (beq_iff_eq.1 h).symm
  · rfl

theorem map_chg_fst (L : FL) (p x : B) : (L.map (chg p x)).map (·.1) = L.map (·.1) := by
  rw [List.map_map]
  exact List.map_congr_left fun q _ => chg_fst p x q

theorem Rising.iff {L : FL} : Rising L ↔ (L.map (·.1)).Pairwise (· < ·) := (List.pairwise_map).symm

theorem lookup_none {L : FL} {p : B} (h : L.lookup p = none) : ∀ q ∈ L, q.1 ≠ p := fun q hq e => not_mem_of_lookup h (List.mem_map.2 ⟨q, hq, e⟩)

theorem Rising.ins {L : FL} (h : Rising L) {p : B} (x : B) (hp : L.lookup p = none) : Rising (insT L p x) := by
  have hne := lookup_none hp
  clear hp
  induction L with
  | nil => exact List.pairwise_singleton _ _
  | cons q L ih =>
    have h1 := List.pairwise_cons.1 h
    unfold insT
    by_cases hq : q.1 < p
    · rw [List.takeWhile_cons_of_pos (by simpa using hq), List.dropWhile_cons_of_pos (by simpa using hq)]
      have := ih h1.2 fun r hr => hne r (.tail _ hr)
      refine List.pairwise_cons.2 ⟨fun r hr => ?_, this⟩
      rcases List.mem_append.1 hr with hr | hr
      · exact h1.1 r (List.takeWhile_sublist _ |>.mem hr)
      · rcases List.mem_cons.1 hr with rfl | hr
        · exact hq
        · exact h1.1 r (List.dropWhile_sublist _ |>.mem hr)
    · rw [List.takeWhile_cons_of_neg (by simpa using hq), List.dropWhile_cons_of_neg (by simpa using hq)]
      have hlt : p < q.1 := by
        by_cases hl : p < q.1
        · exact hl
        · exact absurd (ltB_tri hq hl) (hne q (.head _))
      refine List.pairwise_cons.2 ⟨fun r hr => ?_, h⟩
      rcases List.mem_cons.1 hr with rfl | hr
      · exact hlt
      · exact ltB_trans hlt (h1.1 r hr)

theorem Rising.set {L : FL} (h : Rising L) (p x : B) : Rising (setT L p x) := by
  unfold setT
  cases hl : L.lookup p with
  | some y => rw [if_pos (by simp), Rising.iff, map_chg_fst, ← Rising.iff]; exact h
  | none => rw [if_neg (by simp)]; exact h.ins x hl

theorem Rising.put {L : FL} (h : Rising L) (p x : B) : Rising (putT L p x) := by
  unfold putT
  split
  · exact h.set p x
  · exact h

theorem filter_chg (L : FL) (p x : B) : (L.map (chg p x)).filter (fun q => !(q.1 == p)) = L.filter (fun q => !(q.1 == p)) := by
  induction L with
  | nil => rfl
  | cons q L ih =>
    by_cases hq : q.1 = p
    · rw [List.map_cons, List.filter_cons_of_neg (by rw [chg_fst]; simpa using hq), List.filter_cons_of_neg (by simpa using hq), ih]
    · rw [List.map_cons, List.filter_cons_of_pos (by rw [chg_fst]; simpa using hq), List.filter_cons_of_pos (by simpa using hq), ih]
      have : chg p x q = q := by unfold chg; rw [if_neg (by simpa using hq)]
      rw [this]

theorem lookup_chg {L : FL} {p : B} (x : B) {y : B} (h : L.lookup p = some y) : (L.map (chg p x)).lookup p = some x := by
  induction L with
  | nil => cases h
  | cons q L ih =>
    obtain ⟨k, z⟩ := q
    by_cases hq : k = p
    · subst hq
      have : chg k x (k, z) = (k, x) := by unfold chg; rw [if_pos (by simp)]
      rw [List.map_cons, this]; simp [List.lookup]
    · have hq' : (p == k) = false := beq_eq_false_iff_ne.2 (Ne.symm hq)
      have : chg p x (k, z) = (k, z) := by unfold chg; rw [if_neg (by simpa using hq)]
      rw [List.map_cons, this]
      simp only [List.lookup, hq'] at h ⊢
      exact ih h

/-- What the program's map holds behind a store is the model's list. -/
theorem set_perm {L : FL} (h : Rising L) (p x : B) : ((p, x) :: delT L p).Perm (setT L p x) := by
  unfold setT
  cases hl : L.lookup p with
  | some y =>
    rw [if_pos (by simp)]
    have hn : ((L.map (chg p x)).map (·.1)).Nodup := by rw [map_chg_fst]; exact h.nodup
    have := perm_of_lookup hn (lookup_chg x hl)
    rw [filter_chg] at this
    exact this.symm
  | none =>
    rw [if_neg (by simp)]
    unfold delT insT
    rw [filter_of_lookup_none hl]
    have := (List.perm_middle (a := (p, x)) (l₁ := L.takeWhile fun q => decide (q.1 < p)) (l₂ := L.dropWhile fun q => decide (q.1 < p))).symm
    rw [List.takeWhile_append_dropWhile] at this
    exact this

/-! ### the keys, sorted, are the list's own -/
theorem sorted_keys {L : FL} (h : Rising L) {ss : List B} (hp : ss.Perm (L.map (·.1))) : ss.mergeSort (fun x y => decide (x ≤ y)) = L.map (·.1) := by
  have hs : (ss.mergeSort (fun x y => decide (x ≤ y))).Pairwise (fun x y => decide (x ≤ y) = true) := List.pairwise_mergeSort (fun a b c h1 h2 => by
    have h1 : a ≤ b := of_decide_eq_true h1
    have h2 : b ≤ c := of_decide_eq_true h2
    exact decide_eq_true (List.le_trans h1 h2)) (fun a b => by
    rcases List.le_total a b with h | h
    · simp [decide_eq_true h]
    · simp [decide_eq_true h]) _
  have hk : (L.map (·.1)).Pairwise (fun x y => decide (x ≤ y) = true) := by
    have := Rising.iff.1 h
    exact this.imp fun hlt => decide_eq_true (leB_iff.2 (ltB_asymm hlt))
  refine List.Perm.eq_of_pairwise (fun a b _ _ h1 h2 => ?_) hs hk ((List.mergeSort_perm _ _).trans hp)
  exact List.le_antisymm (of_decide_eq_true h1) (of_decide_eq_true h2)

/-! ### lengths -/
theorem length_ins (L : FL) (p x : B) : (insT L p x).length = L.length + 1 := by
  have := congrArg List.length (List.takeWhile_append_dropWhile (p := fun q : B × B => decide (q.1 < p)) (l := L))
  unfold insT
  simp only [List.length_append, List.length_cons] at this ⊢
  omega

theorem length_del (L : FL) (p : B) : (delT L p).length ≤ L.length := List.length_filter_le _ _

/-- What a tree holds: few files, short paths, short bytes. -/
structure Fits (L : FL) : Prop where
  rising : Rising L
  few : L.length ≤ 60
  path : ∀ q ∈ L, pathOk q.1 = true
  bytes : ∀ q ∈ L, q.2.length ≤ 2000

theorem Fits.nil : Fits [] := ⟨Rising.nil, by simp, by simp, by simp⟩
theorem Fits.del {L : FL} (h : Fits L) (p : B) : Fits (delT L p) :=
  ⟨h.rising.del p, Nat.le_trans (length_del L p) h.few, fun q hq => h.path q (List.mem_filter.1 hq).1, fun q hq => h.bytes q (List.mem_filter.1 hq).1⟩

theorem mem_set {L : FL} (h : Rising L) {p x : B} {q : B × B} (hq : q ∈ setT L p x) : q = (p, x) ∨ q ∈ L := by
  rcases List.mem_cons.1 ((set_perm h p x).mem_iff.2 hq) with h | h
  · exact .inl h
  · exact .inr (List.mem_filter.1 h).1

theorem Fits.put {L : FL} (h : Fits L) (p x : B) : Fits (putT L p x) := by
  refine ⟨h.rising.put p x, ?_, ?_, ?_⟩
  all_goals
    unfold putT
    by_cases h0 : putCode L p x = 0
    · rw [if_pos h0]
      unfold putCode at h0
      by_cases h1 : pathOk p = true
      · rw [if_pos h1] at h0
        by_cases h2 : 2000 < x.length
        · rw [if_pos h2] at h0; omega
        · rw [if_neg h2] at h0
          by_cases h3 : clash L p = true
          · rw [if_pos h3] at h0; omega
          · rw [if_neg h3] at h0
            by_cases h4 : ((L.lookup p).isNone && decide (60 ≤ L.length)) = true
            · rw [if_pos h4] at h0; omega
            · first
                | (unfold setT
                   cases hl : L.lookup p with
                   | some y => rw [if_pos (by simp)]; simpa using h.few
                   | none =>
                     rw [hl] at h4
                     rw [if_neg (by simp), length_ins]
                     simp at h4
                     omega)
                | (intro q hq
                   rcases mem_set h.rising hq with rfl | hq
                   · first | exact h1 | (show x.length ≤ 2000; omega)
                   · first | exact h.path q hq | exact h.bytes q hq)
      · rw [if_neg h1] at h0; omega
    · rw [if_neg h0]
      first | exact h.few | exact h.path | exact h.bytes
end Go.Proofs.YtnmhaipjfpongaaGreatDoor

/- Plain words of the paths, of no program: a text parted at each slash, joined again; names; what Clean makes of parts; patterns with stars, from the left and row by row. No condition. -/
import Derived.Test.YtnmhaipjfpongaaGreatDoorA0
import Derived.Lib.Split
import Derived.Lib.IndexBytes
namespace Go.Proofs.YtnmhaipjfpongaaGreatDoor

/-! ### parted at each slash -/
def headOn (c : UInt8) : List B → List B
  | [] => [[c]]
  | x :: xs => (c :: x) :: xs

def cut : B → List B
  | [] => [[]]
  | c :: r => if c = 47 then [] :: cut r else headOn c (cut r)

theorem cut_ne (s : B) : cut s ≠ [] := by
  cases s with
  | nil => simp [cut]
  | cons c r => unfold cut; split; simp; cases cut r <;> simp [headOn]

theorem cut_pos (s : B) : 0 < (cut s).length := List.length_pos_iff.2 (cut_ne s)

theorem cut_plain : ∀ (a : B), (47 : UInt8) ∉ a → cut a = [a]
  | [], _ => rfl
  | c :: r, h => by
    have hc : c ≠ 47 := fun e => h (by simp [e])
    rw [cut, if_neg hc, cut_plain r (fun e => h (List.mem_cons_of_mem _ e))]
    rfl

theorem cut_app : ∀ (a b : B), (47 : UInt8) ∉ a → cut (a ++ 47 :: b) = a :: cut b
  | [], b, _ => by simp [cut]
  | c :: r, b, h => by
    have hc : c ≠ 47 := fun e => h (by simp [e])
    rw [List.cons_append, cut, if_neg hc, cut_app r b (fun e => h (List.mem_cons_of_mem _ e))]
    rfl

theorem cut_app_any : ∀ (a b : B), cut (a ++ 47 :: b) = cut a ++ cut b
  | [], b => by simp [cut]
  | c :: r, b => by
    rw [List.cons_append, cut, cut, cut_app_any r b]
    split
    · rfl
    · cases h : cut r with
      | nil => exact absurd h (cut_ne r)
      | cons x xs => rfl

theorem mem_cut : ∀ (s : B) (x : B), x ∈ cut s → (47 : UInt8) ∉ x
  | [], x, h => by simp [cut] at h; simp [h]
  | c :: r, x, h => by
    rw [cut] at h
    split at h
    · rcases List.mem_cons.1 h with h | h
      · simp [h]
      · exact mem_cut r x h
    · rename_i hc
      cases hr : cut r with
      | nil => exact absurd hr (cut_ne r)
      | cons y ys =>
        rw [hr] at h
        rcases List.mem_cons.1 h with h | h
        · have := mem_cut r y (by rw [hr]; exact .head _)
          rw [h]
          intro hm
          rcases List.mem_cons.1 hm with e | e
          · exact hc e.symm
          · exact this e
        · exact mem_cut r x (by rw [hr]; exact .tail _ h)

def joinS (l : List B) : B := List.intercalate [47] l

theorem joinS_nil : joinS [] = [] := rfl
theorem joinS_one (x : B) : joinS [x] = x := by simp [joinS, List.intercalate]
theorem joinS_cons (x y : B) (l : List B) : joinS (x :: y :: l) = x ++ 47 :: joinS (y :: l) := by
  simp [joinS, List.intercalate, List.intersperse]
theorem joinS_cons_ne (x : B) {l : List B} (h : l ≠ []) : joinS (x :: l) = x ++ 47 :: joinS l := by
  cases l with
  | nil => exact absurd rfl h
  | cons y l => exact joinS_cons x y l

theorem joinS_app : ∀ (a b : List B), a ≠ [] → b ≠ [] → joinS (a ++ b) = joinS a ++ 47 :: joinS b
  | [], _, h, _ => absurd rfl h
  | [x], b, _, hb => by rw [List.singleton_append, joinS_cons_ne x hb, joinS_one]
  | x :: y :: a, b, _, hb => by
    have := joinS_app (y :: a) b (by simp) hb
    rw [List.cons_append, joinS_cons_ne x (by simp), this, joinS_cons]
    simp

theorem join_cut : ∀ (s : B), joinS (cut s) = s
  | [] => by simp [cut, joinS_one]
  | c :: r => by
    have ih := join_cut r
    rw [cut]
    split
    · rename_i hc
      rw [joinS_cons_ne [] (cut_ne r), ih, hc]; rfl
    · cases hr : cut r with
      | nil => exact absurd hr (cut_ne r)
      | cons y ys =>
        rw [hr] at ih
        cases ys with
        | nil => rw [joinS_one] at ih; rw [headOn, joinS_one, ih]
        | cons z zs => rw [joinS_cons] at ih; rw [headOn, joinS_cons, List.cons_append, ih]

theorem cut_join : ∀ (l : List B), l ≠ [] → (∀ x ∈ l, (47 : UInt8) ∉ x) → cut (joinS l) = l
  | [], h, _ => absurd rfl h
  | [x], _, h => by rw [joinS_one]; exact cut_plain x (h x (.head _))
  | x :: y :: l, _, h => by
    rw [joinS_cons, cut_app x _ (h x (.head _)), cut_join (y :: l) (by simp) (fun z hz => h z (.tail _ hz))]

theorem joinS_eq_nil {l : List B} (h : ∀ x ∈ l, x ≠ []) : joinS l = [] ↔ l = [] := by
  constructor
  · intro e
    cases l with
    | nil => rfl
    | cons x l =>
      exfalso
      have hx := h x (.head _)
      cases l with
      | nil => rw [joinS_one] at e; exact hx e
      | cons y l => rw [joinS_cons] at e; exact absurd e (by simp)
  · intro e; subst e; rfl

theorem joinS_len : ∀ (l : List B) (m : Nat), (∀ x ∈ l, x.length ≤ m) → (joinS l).length ≤ l.length * (m + 1)
  | [], _, _ => by simp [joinS_nil]
  | [x], m, h => by have := h x (.head _); rw [joinS_one]; simp; omega
  | x :: y :: l, m, h => by
    have h1 := h x (.head _)
    have h2 := joinS_len (y :: l) m (fun z hz => h z (.tail _ hz))
    rw [joinS_cons, List.length_append, List.length_cons]
    have : (x :: y :: l).length = (y :: l).length + 1 := rfl
    rw [this, Nat.add_mul]
    omega

/-- strings.Split's own word, at one byte. -/
theorem index_slash (s : B) : Lib.index s [47] = Lib.indexByte s 47 := Lib.index_one s 47

theorem splitK_cut : ∀ (k : Nat) (s : B), s.count 47 ≤ k → Lib.splitK [47] 0 k s = cut s
  | 0, s, h => by
    have : (47 : UInt8) ∉ s := by
      intro hm
      have := List.count_pos_iff.2 hm
      omega
    rw [cut_plain s this]; rfl
  | k + 1, s, h => by
    unfold Lib.splitK
    rw [index_slash]
    have hge := Lib.indexByte_ge s 47
    by_cases hm : Lib.indexByte s 47 = -1
    · rw [if_pos (by rw [hm]; rfl)]
      have : (47 : UInt8) ∉ s := by
        intro hx
        obtain ⟨i, hi⟩ := List.getElem?_of_mem hx
        exact Lib.indexByte_none hm i hi
      rw [cut_plain s this]
    · obtain ⟨o, ho⟩ := Int.eq_ofNat_of_zero_le (show 0 ≤ Lib.indexByte s 47 by omega)
      have ⟨h1, h2⟩ := Lib.indexByte_some ho
      rw [if_neg (by rw [ho]; simp), ho]
      have hlt : o < s.length := (List.getElem?_eq_some_iff.1 h1).1
      have hs : s = s.take o ++ 47 :: s.drop (o + 1) := by
        have := (List.take_append_drop o s).symm
        rw [List.drop_eq_getElem_cons hlt] at this
        have e : s[o] = 47 := by rw [List.getElem?_eq_getElem hlt] at h1; simpa using h1
        rw [e] at this
        exact this
      have hn : (47 : UInt8) ∉ s.take o := by
        intro hx
        obtain ⟨i, hi⟩ := List.getElem?_of_mem hx
        rw [List.getElem?_take] at hi
        split at hi
        · rename_i hi2; exact h2 i hi2 hi
        · cases hi
      have hc : (s.drop (o + 1)).count 47 ≤ k := by
        have e2 : s.count 47 = (s.take o ++ 47 :: s.drop (o + 1)).count 47 := by rw [← hs]
        rw [List.count_append, List.count_cons_self] at e2
        omega
      rw [show ((o : Int)).toNat = o from rfl]
      rw [Nat.add_zero, show ([47] : B).length = 1 from rfl, splitK_cut k _ hc]
      conv => rhs; rw [hs]
      rw [cut_app _ _ hn]

/-! ### names -/
def isLet (n : Nat) : Bool := (decide (97 ≤ n) && decide (n ≤ 122)) || (decide (48 ≤ n) && decide (n ≤ 57)) || n == 45 || n == 46 || n == 95

def byteOk (stars : Bool) (c : UInt8) : Bool := isLet c.toNat || (stars && c == 42)
def nameOk (stars : Bool) (s : B) : Bool := s != [] && decide (s.length ≤ 12) && s != [46] && s != [46, 46] && s.all (byteOk stars)
def partsOk (stars : Bool) (l : List B) : Bool := decide (l.length ≤ 5) && l.all (nameOk stars)
def pathOk (s : B) : Bool := partsOk false (cut s)

theorem nameOk_ne {st : Bool} {s : B} (h : nameOk st s = true) : s ≠ [] := by
  unfold nameOk at h; intro e; subst e; simp at h
theorem nameOk_len {st : Bool} {s : B} (h : nameOk st s = true) : s.length ≤ 12 := by
  unfold nameOk at h; simp only [Bool.and_eq_true, decide_eq_true_eq] at h; exact h.1.1.1.2
theorem nameOk_dot {st : Bool} {s : B} (h : nameOk st s = true) : s ≠ [46] ∧ s ≠ [46, 46] := by
  unfold nameOk at h; simp only [Bool.and_eq_true, bne_iff_ne] at h; exact ⟨h.1.1.2, h.1.2⟩
theorem nameOk_all {st : Bool} {s : B} (h : nameOk st s = true) : ∀ c ∈ s, byteOk st c = true := by
  unfold nameOk at h; simp only [Bool.and_eq_true, List.all_eq_true] at h; exact h.2

theorem partsOk_len {st : Bool} {l : List B} (h : partsOk st l = true) : l.length ≤ 5 := by
  unfold partsOk at h; simp only [Bool.and_eq_true, decide_eq_true_eq] at h; exact h.1
theorem partsOk_all {st : Bool} {l : List B} (h : partsOk st l = true) : ∀ x ∈ l, nameOk st x = true := by
  unfold partsOk at h; simp only [Bool.and_eq_true, List.all_eq_true] at h; exact h.2
theorem partsOk_mk {st : Bool} {l : List B} (h : l.length ≤ 5) (h2 : ∀ x ∈ l, nameOk st x = true) : partsOk st l = true := by
  unfold partsOk; simp only [Bool.and_eq_true, decide_eq_true_eq, List.all_eq_true]; exact ⟨h, h2⟩

/-! ### what Clean makes of parts -/
def cleanL : List B → List B → Option (List B)
  | out, [] => some out
  | out, w :: r => if w = [] ∨ w = [46] then cleanL out r else if w = [46, 46] then (if out = [] then none else cleanL out.dropLast r) else cleanL (out ++ [w]) r

def cleanR (s : B) : B × Nat :=
  if 200 < s.length then ([], 2) else match cleanL [] (cut s) with
    | none => ([], 3)
    | some l => if l = [] then ([], 6) else if pathOk (joinS l) then (joinS l, 0) else ([], 4)

theorem cleanL_app : ∀ (a b out : List B), cleanL out (a ++ b) = (cleanL out a).bind (fun o => cleanL o b)
  | [], b, out => by simp [cleanL]
  | w :: r, b, out => by
    rw [List.cons_append, cleanL, cleanL]
    split
    · exact cleanL_app r b out
    · split
      · split
        · rfl
        · exact cleanL_app r b _
      · exact cleanL_app r b _

theorem cleanL_names : ∀ (l out : List B), (∀ x ∈ l, nameOk false x = true) → cleanL out l = some (out ++ l)
  | [], out, _ => by simp [cleanL]
  | w :: r, out, h => by
    have hw := h w (.head _)
    have h1 := nameOk_ne hw
    have h2 := nameOk_dot hw
    rw [cleanL, if_neg (by rintro (e | e); exact h1 e; exact h2.1 e), if_neg h2.2, cleanL_names r _ (fun x hx => h x (.tail _ hx))]
    simp

theorem cleanL_mem : ∀ (l out o : List B), cleanL out l = some o → ∀ x ∈ o, x ∈ out ∨ x ∈ l
  | [], out, o, h, x, hx => by simp [cleanL] at h; subst h; exact .inl hx
  | w :: r, out, o, h, x, hx => by
    rw [cleanL] at h
    split at h
    · rcases cleanL_mem r out o h x hx with h | h
      · exact .inl h
      · exact .inr (.tail _ h)
    · split at h
      · split at h
        · cases h
        · rcases cleanL_mem r _ o h x hx with h | h
          · exact .inl (List.mem_of_mem_take (by rw [List.dropLast_eq_take] at h; exact h))
          · exact .inr (.tail _ h)
      · rcases cleanL_mem r _ o h x hx with h | h
        · rcases List.mem_append.1 h with h | h
          · exact .inl h
          · simp at h; subst h; exact .inr (.head _)
        · exact .inr (.tail _ h)

/-- What Clean hands back is a path of names, and clean. -/
theorem cleanR_ok {a s : B} (h : cleanR a = (s, 0)) : ∃ l, l ≠ [] ∧ s = joinS l ∧ cut s = l ∧ (∀ x ∈ l, nameOk false x = true) ∧ l.length ≤ 5 := by
  unfold cleanR at h
  split at h
  · cases h
  · split at h
    · cases h
    · rename_i l hl
      split at h
      · cases h
      · rename_i hne
        split at h
        · rename_i hok
          have e : s = joinS l := by simpa using (congrArg Prod.fst h).symm
          have hc : cut (joinS l) = l := cut_join l hne fun x hx => by
            rcases cleanL_mem _ _ _ hl x hx with h | h
            · cases h
            · exact mem_cut a x h
          unfold pathOk at hok
          rw [hc] at hok
          exact ⟨l, hne, e, by rw [e, hc], partsOk_all hok, partsOk_len hok⟩
        · cases h

theorem cleanR_bad {a s : B} {n : Nat} (h : cleanR a = (s, n)) (hn : n ≠ 0) : s = [] := by
  unfold cleanR at h
  split at h
  · simpa using (congrArg Prod.fst h).symm
  · split at h
    · simpa using (congrArg Prod.fst h).symm
    · split at h
      · simpa using (congrArg Prod.fst h).symm
      · split at h
        · exact absurd (congrArg Prod.snd h).symm hn
        · simpa using (congrArg Prod.fst h).symm

theorem cleanR_names {l : List B} (hne : l ≠ []) (hn : ∀ x ∈ l, nameOk false x = true) (h5 : l.length ≤ 5) (hs : ∀ x ∈ l, (47 : UInt8) ∉ x) {t : B} (ht : cut t = l ++ [[120], [46, 46]] ∨ cut t = l) (hl : t.length ≤ 200) : cleanR t = (joinS l, 0) := by
  have hc : cleanL [] (cut t) = some l := by
    rcases ht with ht | ht
    · rw [ht, cleanL_app, cleanL_names l [] hn]
      simp [cleanL]
    · rw [ht, cleanL_names l [] hn]; rfl
  unfold cleanR
  rw [if_neg (by omega), hc]
  simp only []
  rw [if_neg hne, if_pos]
  unfold pathOk
  rw [cut_join l hne hs]
  exact partsOk_mk h5 hn

/-! ### patterns -/
def glob {α β : Type} (st : α → Bool) (eq : α → β → Bool) : List α → List β → Bool
  | [], s => s.isEmpty
  | c :: p, [] => st c && glob st eq p []
  | c :: p, d :: t => if st c then glob st eq p (d :: t) || glob st eq (c :: p) t else eq c d && glob st eq p t
termination_by p s => p.length + s.length

section
variable {α β : Type} {st : α → Bool} {eq : α → β → Bool}

theorem glob_nil (s : List β) : glob st eq [] s = s.isEmpty := by rw [glob]
theorem glob_cons_nil (c : α) (p : List α) : glob st eq (c :: p) [] = (st c && glob st eq p []) := by rw [glob]
theorem glob_star (c : α) (p : List α) (d : β) (t : List β) (h : st c = true) : glob st eq (c :: p) (d :: t) = (glob st eq p (d :: t) || glob st eq (c :: p) t) := by rw [glob, if_pos h]
theorem glob_one (c : α) (p : List α) (d : β) (t : List β) (h : st c = false) : glob st eq (c :: p) (d :: t) = (eq c d && glob st eq p t) := by rw [glob, if_neg (by simp [h])]

theorem glob_stars_any (c : α) (h : st c = true) : ∀ (s : List β), glob st eq [c] s = true
  | [] => by rw [glob_cons_nil, h, glob_nil]; rfl
  | d :: t => by rw [glob_star c [] d t h, glob_stars_any c h t]; simp

theorem glob_snoc_star (c : α) (h : st c = true) : ∀ (p : List α) (s : List β), glob st eq (p ++ [c]) s = true ↔ ∃ k, k ≤ s.length ∧ glob st eq p (s.take k) = true
  | [], s => by
    rw [List.nil_append]
    refine ⟨fun _ => ⟨0, Nat.zero_le _, by rw [List.take_zero, glob_nil]; rfl⟩, fun _ => glob_stars_any c h s⟩
  | x :: p, [] => by
    have ih := glob_snoc_star c h p []
    rw [List.cons_append, glob_cons_nil, Bool.and_eq_true, ih]
    constructor
    · rintro ⟨h1, k, hk, h2⟩
      refine ⟨0, Nat.le_refl _, ?_⟩
      rw [List.take_nil] at h2
      rw [List.take_nil, glob_cons_nil, h1, h2]; rfl
    · rintro ⟨k, hk, h2⟩
      rw [List.take_nil, glob_cons_nil, Bool.and_eq_true] at h2
      exact ⟨h2.1, 0, Nat.le_refl _, by rw [List.take_nil]; exact h2.2⟩
  | x :: p, d :: t => by
    cases hx : st x with
    | true =>
      have ih1 := glob_snoc_star c h p (d :: t)
      have ih2 := glob_snoc_star c h (x :: p) t
      rw [List.cons_append, glob_star x _ d t hx, Bool.or_eq_true, ih1, ← List.cons_append, ih2]
      constructor
      · rintro (⟨k, hk, h1⟩ | ⟨k, hk, h1⟩)
        · refine ⟨k, hk, ?_⟩
          cases k with
          | zero => rw [List.take_zero] at h1 ⊢; rw [glob_cons_nil, hx, h1]; rfl
          | succ k => rw [List.take_succ_cons] at h1 ⊢; rw [glob_star x _ d _ hx, h1]; rfl
        · refine ⟨k + 1, by simp; omega, ?_⟩
          rw [List.take_succ_cons, glob_star x _ d _ hx, h1]; simp
      · rintro ⟨k, hk, h1⟩
        cases k with
        | zero =>
          rw [List.take_zero, glob_cons_nil, Bool.and_eq_true] at h1
          exact .inl ⟨0, Nat.zero_le _, by rw [List.take_zero]; exact h1.2⟩
        | succ k =>
          rw [List.take_succ_cons, glob_star x _ d _ hx, Bool.or_eq_true] at h1
          rcases h1 with h1 | h1
          · exact .inl ⟨k + 1, hk, by rw [List.take_succ_cons]; exact h1⟩
          · exact .inr ⟨k, by simp at hk; omega, h1⟩
    | false =>
      have ih := glob_snoc_star c h p t
      rw [List.cons_append, glob_one x _ d t hx, Bool.and_eq_true, ih]
      constructor
      · rintro ⟨he, k, hk, h1⟩
        refine ⟨k + 1, by simp; omega, ?_⟩
        rw [List.take_succ_cons, glob_one x _ d _ hx, he, h1]; rfl
      · rintro ⟨k, hk, h1⟩
        cases k with
        | zero => rw [List.take_zero, glob_cons_nil, hx] at h1; cases h1
        | succ k =>
          rw [List.take_succ_cons, glob_one x _ d _ hx, Bool.and_eq_true] at h1
          exact ⟨h1.1, k, by simp at hk; omega, h1.2⟩
termination_by p s => p.length + s.length

theorem glob_snoc_nil (c : α) (h : st c = false) : ∀ (p : List α), glob st eq (p ++ [c]) ([] : List β) = false
  | [] => by rw [List.nil_append, glob_cons_nil, h]; rfl
  | x :: p => by rw [List.cons_append, glob_cons_nil, glob_snoc_nil c h p]; simp

theorem glob_snoc_one (c : α) (h : st c = false) (d : β) : ∀ (p : List α) (s : List β), glob st eq (p ++ [c]) (s ++ [d]) = (glob st eq p s && eq c d)
  | [], [] => by rw [List.nil_append, List.nil_append, glob_one c [] d [] h, glob_nil]; simp
  | [], e :: s => by
    rw [List.nil_append, List.cons_append, glob_one c [] e _ h, glob_nil, glob_nil]
    simp
  | x :: p, [] => by
    rw [List.cons_append, List.nil_append]
    have ih := glob_snoc_one c h d p []
    rw [List.nil_append] at ih
    cases hx : st x with
    | true =>
      rw [glob_star x _ d [] hx, ih, glob_cons_nil, glob_snoc_nil c h p, glob_cons_nil, hx]; simp
    | false =>
      rw [glob_one x _ d [] hx, glob_snoc_nil c h p, glob_cons_nil, hx]; simp
  | x :: p, e :: s => by
    cases hx : st x with
    | true =>
      have ih1 := glob_snoc_one c h d p (e :: s)
      have ih2 := glob_snoc_one c h d (x :: p) s
      rw [List.cons_append, List.cons_append, glob_star x _ e _ hx, ← List.cons_append, ih1, ← List.cons_append, ih2, glob_star x _ e _ hx]
      cases glob st eq p (e :: s) <;> cases glob st eq (x :: p) s <;> simp
    | false =>
      have ih := glob_snoc_one c h d p s
      rw [List.cons_append, List.cons_append, glob_one x _ e _ hx, ih, glob_one x _ e _ hx]
      cases eq x e <;> simp
termination_by p s => p.length + s.length

/-- A row behind a star. -/
theorem row_star (c : α) (h : st c = true) (p : List α) (s : List β) (k : Nat) (hk : k < s.length) : glob st eq (p ++ [c]) (s.take (k + 1)) = (glob st eq p (s.take (k + 1)) || glob st eq (p ++ [c]) (s.take k)) := by
  rw [Bool.eq_iff_iff, Bool.or_eq_true, glob_snoc_star c h, glob_snoc_star c h]
  have e1 : (s.take (k + 1)).length = k + 1 := by simp; omega
  have e2 : (s.take k).length = k := by simp; omega
  rw [e1, e2]
  constructor
  · rintro ⟨j, hj, hg⟩
    rw [List.take_take] at hg
    by_cases e : j = k + 1
    · subst e; left; simpa using hg
    · right; refine ⟨j, by omega, ?_⟩
      rw [List.take_take]
      rw [Nat.min_eq_left (by omega)] at hg ⊢
      exact hg
  · rintro (hg | ⟨j, hj, hg⟩)
    · exact ⟨k + 1, Nat.le_refl _, by rw [List.take_take]; simpa using hg⟩
    · refine ⟨j, by omega, ?_⟩
      rw [List.take_take] at hg ⊢
      rw [Nat.min_eq_left (by omega)] at hg ⊢
      exact hg

theorem row_star0 (c : α) (h : st c = true) (p : List α) : glob st eq (p ++ [c]) ([] : List β) = glob st eq p [] := by
  rw [Bool.eq_iff_iff, glob_snoc_star c h]
  constructor
  · rintro ⟨k, hk, hg⟩; rwa [List.take_nil] at hg
  · intro hg; exact ⟨0, Nat.le_refl _, by rwa [List.take_nil]⟩

theorem row_one (c : α) (h : st c = false) (p : List α) (s : List β) (k : Nat) (d : β) (hd : s[k]? = some d) : glob st eq (p ++ [c]) (s.take (k + 1)) = (glob st eq p (s.take k) && eq c d) := by
  rw [List.take_add_one, hd]
  exact glob_snoc_one c h d p (s.take k)

end
end Go.Proofs.YtnmhaipjfpongaaGreatDoor

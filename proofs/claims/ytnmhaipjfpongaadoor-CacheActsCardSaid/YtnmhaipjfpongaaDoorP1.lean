/- The plain law of CacheNew: what a cache holds that forgets what was asked for longest ago, against all that was put or had. Lists alone, no program. -/
import Derived.Test.YtnmhaipjfpongaaDoorC3
namespace Go.Proofs.YtnmhaipjfpongaaDoor

/-- All that was put or had, the latest first: of each key its latest bytes. -/
def recent : List (B × B) → List (B × B)
  | [] => []
  | p :: R => p :: (recent R).filter fun q => !(q.1 == p.1)

theorem recent_keys (R : List (B × B)) : ∀ q ∈ recent R, q.1 ∈ R.map (·.1) := by
  induction R with
  | nil => intro q hq; cases hq
  | cons p R ih =>
    intro q hq
    rcases List.mem_cons.1 hq with rfl | hq
    · exact .head _
    · exact .tail _ (ih q (List.mem_filter.1 hq).1)

theorem keys_recent (R : List (B × B)) : ∀ k, k ∈ (recent R).map (·.1) ↔ k ∈ R.map (·.1) := by
  induction R with
  | nil => intro k; rfl
  | cons p R ih =>
    intro k
    simp only [recent, List.map_cons, List.mem_cons]
    constructor
    · rintro (rfl | h)
      · exact .inl rfl
      · obtain ⟨q, hq, rfl⟩ := List.mem_map.1 h
        exact .inr ((ih q.1).1 (List.mem_map.2 ⟨q, (List.mem_filter.1 hq).1, rfl⟩))
    · rintro (rfl | h)
      · exact .inl rfl
      · by_cases e : k = p.1
        · exact .inl e
        · right
          obtain ⟨q, hq, rfl⟩ := List.mem_map.1 ((ih k).2 h)
          exact List.mem_map.2 ⟨q, List.mem_filter.2 ⟨hq, by simpa using e⟩, rfl⟩

theorem nodup_recent (R : List (B × B)) : ((recent R).map (·.1)).Nodup := by
  induction R with
  | nil => simp [recent]
  | cons p R ih =>
    simp only [recent, List.map_cons, List.nodup_cons]
    refine ⟨fun h => ?_, ?_⟩
    · obtain ⟨q, hq, e⟩ := List.mem_map.1 h
      have := (List.mem_filter.1 hq).2
      simp [e] at this
    · exact ((List.filter_sublist (l := recent R)).map _).nodup ih

theorem recent_append (A R : List (B × B)) : recent (A ++ R) = recent A ++ (recent R).filter fun q => !(A.map (·.1)).contains q.1 := by
  induction A with
  | nil => simp only [recent, List.nil_append, List.map_nil]; exact (List.filter_eq_self.2 fun q _ => by simp).symm
  | cons p A ih =>
    simp only [List.cons_append, recent, ih, List.filter_append, List.filter_filter, List.map_cons]
    congr 2
    apply List.filter_congr
    intro q _
    by_cases h : q.1 = p.1 <;> simp [h]

theorem recent_snoc (R : List (B × B)) (p : B × B) : recent (R ++ [p]) = if p.1 ∈ (recent R).map (·.1) then recent R else recent R ++ [p] := by
  rw [recent_append]
  have h := keys_recent R p.1
  by_cases hp : p.1 ∈ (recent R).map (·.1)
  · rw [if_pos hp]
    have hp' := h.1 hp
    simp only [recent, List.filter_nil]
    rw [List.filter_cons_of_neg (by simpa using hp')]
    simp
  · rw [if_neg hp]
    have hp' : p.1 ∉ R.map (·.1) := fun e => hp (h.2 e)
    simp only [recent, List.filter_nil]
    rw [List.filter_cons_of_pos (by simpa using hp')]
    simp

/-- The cache holds the first n of them. -/
def Lru (n : Nat) (R L : List (B × B)) : Prop := L.reverse = (recent R).take n

theorem Lru.len {n : Nat} {R L : List (B × B)} (h : Lru n R L) : L.length ≤ n := by
  have : L.reverse.length ≤ n := by rw [h]; exact List.length_take_le _ _
  simpa using this

theorem take_filter_key (k : B) : ∀ (R : List (B × B)) (m : Nat), (R.map (·.1)).Nodup → ((R.take (m + 1)).filter fun q => !(q.1 == k)).take m = (R.filter fun q => !(q.1 == k)).take m := by
  intro R
  induction R with
  | nil => intro m _; simp
  | cons a R ih =>
    intro m hn
    rw [List.map_cons, List.nodup_cons] at hn
    by_cases h : a.1 = k
    · have h1 : ∀ l : List (B × B), (∀ q ∈ l, q ∈ R) → (l.filter fun q => !(q.1 == k)) = l := fun l hl => List.filter_eq_self.2 fun q hq => by
        have : q.1 ≠ k := fun e => hn.1 (h ▸ e ▸ List.mem_map.2 ⟨q, hl q hq, rfl⟩)
        simpa using this
      rw [List.take_succ_cons, List.filter_cons_of_neg (by simp [h]), List.filter_cons_of_neg (by simp [h]), h1 _ (fun q hq => List.mem_of_mem_take hq), h1 _ (fun q hq => hq), List.take_take, Nat.min_self]
    · rw [List.take_succ_cons, List.filter_cons_of_pos (by simpa using h), List.filter_cons_of_pos (by simpa using h)]
      cases m with
      | zero => simp
      | succ m => rw [List.take_succ_cons, List.take_succ_cons, ih m hn.2]

theorem Lru.put {n : Nat} {R L : List (B × B)} (h : Lru n R L) (hn : 1 ≤ n) (k x : B) : Lru n ((k, x) :: R) (putL n L k x) := by
  obtain ⟨m, rfl⟩ : ∃ m, n = m + 1 := ⟨n - 1, by omega⟩
  have hl := h.len
  have key : ((L.filter fun q => !(q.1 == k)) ++ [(k, x)]).reverse.take (m + 1) = (recent ((k, x) :: R)).take (m + 1) := by
    rw [List.reverse_append, List.reverse_singleton, List.singleton_append, recent, List.take_succ_cons, List.take_succ_cons, ← List.filter_reverse, h, take_filter_key k _ m (nodup_recent R)]
  have hf := List.length_filter_le (fun q : B × B => !(q.1 == k)) L
  unfold Lru putL
  split
  · rename_i hlt
    rw [← key]
    have hlen : ((L.filter fun q => !(q.1 == k)) ++ [(k, x)]).length = m + 2 := by simp at hlt ⊢; omega
    generalize (L.filter fun q => !(q.1 == k)) ++ [(k, x)] = Z at hlen
    cases Z with
    | nil => simp at hlen
    | cons z Z =>
      have hz : Z.length = m + 1 := by simpa using hlen
      rw [List.tail_cons, List.reverse_cons, List.take_append_of_le_length (by simp; omega), List.take_of_length_le (by simp; omega)]
  · rename_i hlt
    rw [← key, List.take_of_length_le]
    simp at hlt ⊢
    omega

theorem Lru.get {n : Nat} {R L : List (B × B)} (h : Lru n R L) {k x : B} (hk : L.lookup k = some x) : Lru n ((k, x) :: R) (getL L k) := by
  have hl := h.len
  have hnd : (L.map (·.1)).Nodup := by
    have h1 : (L.reverse.map (·.1)).Nodup := by rw [h]; exact ((List.take_sublist n (recent R)).map _).nodup (nodup_recent R)
    rw [List.map_reverse] at h1
    exact ((List.reverse_perm _).nodup_iff).1 h1
  have hlen : ((L.filter fun q => !(q.1 == k)) ++ [(k, x)]).length = L.length := by
    have := (perm_of_lookup hnd hk).length_eq
    simp at this ⊢
    omega
  have hpos : 0 < L.length := by rw [← hlen]; simp
  obtain ⟨m, rfl⟩ : ∃ m, n = m + 1 := ⟨n - 1, by omega⟩
  have key : ((L.filter fun q => !(q.1 == k)) ++ [(k, x)]).reverse.take (m + 1) = (recent ((k, x) :: R)).take (m + 1) := by
    rw [List.reverse_append, List.reverse_singleton, List.singleton_append, recent, List.take_succ_cons, List.take_succ_cons, ← List.filter_reverse, h, take_filter_key k _ m (nodup_recent R)]
  unfold Lru getL
  rw [hk]
  show ((L.filter fun q => !(q.1 == k)) ++ [(k, x)]).reverse = _
  rw [← key, List.take_of_length_le]
  rw [List.length_reverse, hlen]
  exact hl

/-- What loop two finds: the j-th from behind, its key not seen yet and room for it: it is there. -/
theorem found {n j : Nat} {R L : List (B × B)} {p : B × B} (hL : L.Perm ((recent R).take n)) (hj : R[j]? = some p) (hs : p.1 ∉ (recent (R.take j)).map (·.1)) (hn : (recent (R.take j)).length < n) : L.lookup p.1 = some p.2 := by
  have hlt : j < R.length := (List.getElem?_eq_some_iff.1 hj).1
  have e1 : R = (R.take j ++ [p]) ++ R.drop (j + 1) := by
    have : R.take (j + 1) = R.take j ++ [p] := by rw [List.take_add_one, hj]; rfl
    rw [← this, List.take_append_drop]
  have e2 : recent R = (recent (R.take j) ++ [p]) ++ (recent (R.drop (j + 1))).filter fun q => !((R.take j ++ [p]).map (·.1)).contains q.1 := by
    conv => lhs; rw [e1]
    rw [recent_append, recent_snoc, if_neg hs]
  have hm : p ∈ (recent R).take n := by
    rw [e2]
    refine List.mem_of_getElem? (i := (recent (R.take j)).length) ?_
    rw [List.getElem?_take, if_pos hn, List.getElem?_append_left (by simp), List.getElem?_append_right (Nat.le_refl _)]
    simp
  have hnd : (L.map (·.1)).Nodup := (hL.map _).nodup_iff.2 (((List.take_sublist n (recent R)).map _).nodup (nodup_recent R))
  exact lookup_of_mem hnd (hL.mem_iff.2 hm)

theorem seen_step {j : Nat} {R : List (B × B)} {p : B × B} (hj : R[j]? = some p) : recent (R.take (j + 1)) = if p.1 ∈ (recent (R.take j)).map (·.1) then recent (R.take j) else recent (R.take j) ++ [p] := by
  have : R.take (j + 1) = R.take j ++ [p] := by rw [List.take_add_one, hj]; rfl
  rw [this, recent_snoc]
end Go.Proofs.YtnmhaipjfpongaaDoor

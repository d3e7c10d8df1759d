/- The reference's distances in plain words: ways whose inner places are below a bound. No condition. -/
import Derived.Test.YtnmhaipjfpongabGreatDoorG7x
namespace Go.Proofs.YtnmhaipjfpongabGreatDoor

/-- A way of so many steps, its inner places below m. -/
def WayM (nd : Nat → Nat → Bool) (m : Nat) : Nat → Nat → Nat → Prop
  | 0, _, _ => False
  | 1, i, k => nd i k = true
  | d + 2, i, k => ∃ j, j < m ∧ nd i j = true ∧ WayM nd m (d + 1) j k

/-- The least number of steps below 1000; 1000: there is none. -/
def IsD (nd : Nat → Nat → Bool) (m i k v : Nat) : Prop :=
  (v < 1000 ∧ WayM nd m v i k ∧ ∀ d, d < v → ¬ WayM nd m d i k) ∨ (v = 1000 ∧ ∀ d, d < 1000 → ¬ WayM nd m d i k)

section
variable {nd : Nat → Nat → Bool}
theorem WayM.pos {m d i k : Nat} (h : WayM nd m d i k) : 1 ≤ d := by
  cases d with
  | zero => exact h.elim
  | succ d => omega
theorem WayM.mono {m m' : Nat} (hm : m ≤ m') : ∀ {d i k : Nat}, WayM nd m d i k → WayM nd m' d i k
  | 0, _, _, h => h
  | 1, _, _, h => h
  | d + 2, _, _, ⟨j, h1, h2, h3⟩ => ⟨j, by omega, h2, h3.mono hm⟩
theorem WayM.join {m j : Nat} (hj : j < m) : ∀ {a b i k : Nat}, WayM nd m a i j → WayM nd m b j k → WayM nd m (a + b) i k
  | 0, _, _, _, h, _ => h.elim
  | 1, 0, _, _, _, h => h.elim
  | 1, b + 1, i, k, h, h2 => by
    rw [show 1 + (b + 1) = b + 2 by omega]
    exact ⟨j, hj, h, h2⟩
  | a + 2, b, i, k, ⟨q, h1, h2, h3⟩, h4 => by
    have h5 := WayM.join hj h3 h4
    have hp := h5.pos
    obtain ⟨c, hc⟩ : ∃ c, a + 1 + b = c + 1 := ⟨a + b, by omega⟩
    rw [hc] at h5
    rw [show a + 2 + b = c + 2 by omega]
    exact ⟨q, h1, h2, h5⟩
/-- A way through m is two ways, or none through m. -/
theorem WayM.part {m : Nat} : ∀ {d i k : Nat}, WayM nd (m + 1) d i k → WayM nd m d i k ∨ ∃ a b, a + b ≤ d ∧ WayM nd m a i m ∧ WayM nd m b m k
  | 0, _, _, h => h.elim
  | 1, _, _, h => .inl h
  | d + 2, i, k, ⟨j, h1, h2, h3⟩ => by
    rcases h3.part with h | ⟨a, b, h4, h5, h6⟩
    · by_cases hj : j < m
      · exact .inl ⟨j, hj, h2, h⟩
      · have : j = m := by omega
        subst this
        exact .inr ⟨1, d + 1, by omega, h2, h⟩
    · by_cases hj : j < m
      · have := h5.pos
        obtain ⟨a, rfl⟩ : ∃ c, a = c + 1 := ⟨a - 1, by omega⟩
        exact .inr ⟨a + 2, b, by omega, ⟨j, hj, h2, h5⟩, h6⟩
      · have : j = m := by omega
        subst this
        exact .inr ⟨1, b, by have := h5.pos; omega, h2, h6⟩

theorem IsD.pos {m i k v : Nat} (h : IsD nd m i k v) : 1 ≤ v := by
  rcases h with ⟨_, h, _⟩ | ⟨rfl, _⟩
  · exact h.pos
  · omega
theorem IsD.le {m i k v : Nat} (h : IsD nd m i k v) : v ≤ 1000 := by rcases h with ⟨h, _⟩ | ⟨rfl, _⟩ <;> omega
theorem IsD.lower {m i k v d : Nat} (h : IsD nd m i k v) (hw : WayM nd m d i k) (hd : d < 1000) : v ≤ d := by
  rcases h with ⟨_, _, h⟩ | ⟨rfl, h⟩
  · exact Nat.le_of_not_lt fun h2 => h d h2 hw
  · exact absurd hw (h d hd)
theorem IsD.way {m i k v : Nat} (h : IsD nd m i k v) (hv : v < 1000) : WayM nd m v i k := by
  rcases h with ⟨_, h, _⟩ | ⟨rfl, _⟩
  · exact h
  · omega
theorem IsD.unique {m i k v u : Nat} (h : IsD nd m i k v) (h' : IsD nd m i k u) : v = u := by
  have a := h.le
  have b := h'.le
  by_cases hv : v < 1000
  · by_cases hu : u < 1000
    · have := h.lower (h'.way hu) hu; have := h'.lower (h.way hv) hv; omega
    · have := h'.lower (h.way hv) hv; omega
  · by_cases hu : u < 1000
    · have := h.lower (h'.way hu) hu; omega
    · omega

theorem IsD.start (i k : Nat) : IsD nd 0 i k (if nd i k then 1 else 1000) := by
  have no : ∀ d, 2 ≤ d → ¬ WayM nd 0 d i k := fun d hd h => by
    obtain ⟨d, rfl⟩ : ∃ c, d = c + 2 := ⟨d - 2, by omega⟩
    obtain ⟨j, hj, _⟩ := h
    omega
  cases hn : nd i k with
  | true => exact .inl ⟨by simp, hn, fun d hd h => by have := h.pos; simp at hd; omega⟩
  | false =>
    refine .inr ⟨rfl, fun d _ h => ?_⟩
    rcases Nat.lt_or_ge d 2 with h2 | h2
    · have := h.pos
      have : d = 1 := by omega
      subst this
      have : nd i k = true := h
      rw [hn] at this
      cases this
    · exact no d h2 h
theorem IsD.next {m i k v b c : Nat} (h : IsD nd m i k v) (hb : IsD nd m i m b) (hc : IsD nd m m k c) : IsD nd (m + 1) i k (if b + c < v then b + c else v) := by
  have hle := h.le
  by_cases hlt : b + c < v
  · rw [if_pos hlt]
    refine .inl ⟨by omega, (WayM.join (Nat.lt_succ_self m) ((hb.way (by omega)).mono (Nat.le_succ m)) ((hc.way (by omega)).mono (Nat.le_succ m))), fun d hd hw => ?_⟩
    rcases hw.part with hw | ⟨x, y, h1, h2, h3⟩
    · have := h.lower hw (by omega); omega
    · have := h2.pos; have := h3.pos
      have := hb.lower h2 (by omega); have := hc.lower h3 (by omega); omega
  · rw [if_neg hlt]
    have lo : ∀ d, d < v → d < 1000 → ¬ WayM nd (m + 1) d i k := fun d hd hd2 hw => by
      rcases hw.part with hw | ⟨x, y, h1, h2, h3⟩
      · have := h.lower hw hd2; omega
      · have := h2.pos; have := h3.pos
        have := hb.lower h2 (by omega); have := hc.lower h3 (by omega); omega
    by_cases hv : v < 1000
    · exact .inl ⟨hv, (h.way hv).mono (Nat.le_succ m), fun d hd => lo d hd (by omega)⟩
    · exact .inr ⟨by omega, fun d hd => lo d (by omega) hd⟩
/-- The row and the column of m stay. -/
theorem IsD.row {m k v : Nat} (h : IsD nd m m k v) : IsD nd (m + 1) m k v := by
  have hz : ∀ c, IsD nd m m m c → IsD nd (m + 1) m k v := fun c hc => by
    have := h.next hc h
    rwa [if_neg (by have := hc.pos; omega)] at this
  by_cases hx : ∃ d, d < 1000 ∧ WayM nd m d m m
  · obtain ⟨d, hd, hw⟩ := hx
    have : ∃ c, IsD nd m m m c := by
      induction d using Nat.strongRecOn with
      | ind d ih =>
        by_cases h2 : ∃ e, e < d ∧ WayM nd m e m m
        · obtain ⟨e, h3, h4⟩ := h2; exact ih e h3 (by omega) h4
        · exact ⟨d, .inl ⟨hd, hw, fun e he h5 => h2 ⟨e, he, h5⟩⟩⟩
    obtain ⟨c, hc⟩ := this
    exact hz c hc
  · exact hz 1000 (.inr ⟨rfl, fun d hd hw => hx ⟨d, hd, hw⟩⟩)
theorem IsD.col {m i v : Nat} (h : IsD nd m i m v) : IsD nd (m + 1) i m v := by
  have hz : ∀ c, IsD nd m m m c → IsD nd (m + 1) i m v := fun c hc => by
    have := h.next h hc
    rwa [if_neg (by have := hc.pos; omega)] at this
  by_cases hx : ∃ d, d < 1000 ∧ WayM nd m d m m
  · obtain ⟨d, hd, hw⟩ := hx
    have : ∃ c, IsD nd m m m c := by
      induction d using Nat.strongRecOn with
      | ind d ih =>
        by_cases h2 : ∃ e, e < d ∧ WayM nd m e m m
        · obtain ⟨e, h3, h4⟩ := h2; exact ih e h3 (by omega) h4
        · exact ⟨d, .inl ⟨hd, hw, fun e he h5 => h2 ⟨e, he, h5⟩⟩⟩
    obtain ⟨c, hc⟩ := this
    exact hz c hc
  · exact hz 1000 (.inr ⟨rfl, fun d hd hw => hx ⟨d, hd, hw⟩⟩)

theorem wayM_iff {n : Nat} (hnd : ∀ i j, nd i j = true → j < n) : ∀ {d i k : Nat}, 1 ≤ d → (WayM nd n d i k ↔ Way nd k d i)
  | 1, i, k, _ => by
    constructor
    · intro h; exact ⟨k, h, rfl⟩
    · rintro ⟨j, h, rfl⟩; exact h
  | d + 2, i, k, _ => by
    constructor
    · rintro ⟨j, _, h2, h3⟩; exact ⟨j, h2, (wayM_iff hnd (by omega)).1 h3⟩
    · rintro ⟨j, h2, h3⟩; exact ⟨j, hnd i j h2, h2, (wayM_iff hnd (by omega)).2 h3⟩
theorem isD_least {n i k v : Nat} (hnd : ∀ i j, nd i j = true → j < n) (h : IsD nd n i k v) {m : Nat} (hm : m < 1000) : v = m ↔ Least nd k i m := by
  constructor
  · rintro rfl
    have hw := h.way hm
    exact ⟨hw.pos, (wayM_iff hnd hw.pos).1 hw, fun s h1 h2 h3 => by have := h.lower ((wayM_iff hnd h1).2 h3) (by omega); omega⟩
  · rintro ⟨h1, h2, h3⟩
    have hw := (wayM_iff hnd h1).2 h2
    have hl := h.lower hw hm
    rcases Nat.lt_or_ge v m with h4 | h4
    · exact absurd ((wayM_iff hnd h.pos).1 (h.way (by omega))) (h3 v h.pos h4)
    · omega
end
end Go.Proofs.YtnmhaipjfpongabGreatDoor

/- The plain law of reading: what is read is written so again. No condition. -/
import Derived.Test.YtnmhaipjfpongabGreatDoorGh
namespace Go.Proofs.YtnmhaipjfpongabGreatDoor

theorem file_text {s : B} {r : B × B × B} (h : fileB s = some r) : s = lineT (r.1, r.2.1) ++ r.2.2 := by
  obtain ⟨hd, rest, p, dg, n, e1, e2, hn, hr, rfl⟩ := fileB_some h
  have h1 := (cut1_spec 10 s).2.1
  rw [e1] at h1
  have h2 := (cut1_spec 32 hd).2.1
  rw [e2] at h2
  have h3 := (numB_some hn).2.2
  obtain ⟨h4, h5⟩ := List.getElem?_eq_some_iff.1 hr
  have h6 : rest = rest.take n ++ 10 :: rest.drop (n + 1) := by
    have := (List.take_append_drop n rest).symm
    rw [List.drop_eq_getElem_cons h4, h5] at this
    exact this
  have h7 : (rest.take n).length = n := by rw [List.length_take]; omega
  have h1 := h1 rfl
  have h2 := h2 rfl
  simp only at h1 h2 ⊢
  rw [h1, h2]
  conv => lhs; rw [h6]
  simp [lineT, h7, h3]

theorem files_text : ∀ (n : Nat) (s : B) (l : FL), filesB n s = some l → s = textT l
  | 0, _, _, h => by cases h
  | n + 1, s, l, h => by
    by_cases hs : s = []
    · subst hs
      rw [filesB_nil] at h
      cases h
      rfl
    · cases hf : fileB s with
      | none => rw [filesB_bad hs hf] at h; cases h
      | some r =>
        rw [filesB_more hs hf] at h
        obtain ⟨k, hk, rfl⟩ := Option.map_eq_some_iff.1 h
        have h1 := files_text n _ k hk
        have h2 := file_text hf
        rw [h1] at h2
        rw [h2]
        exact (List.flatMap_cons).symm

theorem putsC_take {l : FL} (h0 : putsC [] l = 0) (j : Nat) : putsC [] (l.take j) = 0 := by
  rcases Nat.eq_zero_or_pos (putsC [] (l.take j)) with h | h
  · exact h
  · exfalso
    have h1 := putsC_app (T := []) (a := l.take j) (b := l.drop j) (by omega)
    rw [List.take_append_drop, h0] at h1
    omega

theorem puts_read {l : FL} (hr : Rising l) (h0 : putsC [] l = 0) : ∀ j, j ≤ l.length → putsT [] (l.take j) = l.take j
  | 0, _ => rfl
  | j + 1, hj => by
    have h2 := puts_read hr h0 j (by omega)
    obtain ⟨q, hq⟩ : ∃ q, l[j]? = some q := ⟨_, List.getElem?_eq_getElem (by omega)⟩
    have hlt : ∀ r ∈ l.take j, r.1 < q.1 := by
      intro r hm
      obtain ⟨i, hi⟩ := List.getElem?_of_mem hm
      rw [List.getElem?_take] at hi
      split at hi
      · rename_i hij
        obtain ⟨a1, rfl⟩ := List.getElem?_eq_some_iff.1 hi
        obtain ⟨a2, rfl⟩ := List.getElem?_eq_some_iff.1 hq
        exact List.pairwise_iff_getElem.1 hr i j a1 a2 hij
      · cases hi
    have hlk : (l.take j).lookup q.1 = none := by
      cases hl : (l.take j).lookup q.1 with
      | none => rfl
      | some y => exact absurd (hlt (q.1, y) (mem_of_lookup hl)) (ltB_irrefl _)
    have hcode : putCode (l.take j) q.1 q.2 = 0 := by
      have h3 := putsC_step (T := []) hq (putsC_take h0 j)
      rw [h2, putsC_take h0 (j + 1)] at h3
      exact h3.symm
    rw [putsT_step hq, h2]
    unfold putT setT
    rw [if_pos hcode, hlk, if_neg (by simp), ins_last hlt, List.take_add_one, hq]
    rfl

/-- What is read is written so again. -/
theorem read_same {s : B} (h : readC s = 0) : textT (readT s) = s := by
  unfold readC readT at *
  cases hf : filesB (s.length + 1) s with
  | none => rw [hf] at h; cases h
  | some l =>
    rw [hf] at h
    simp only at h ⊢
    by_cases h0 : putsC [] l = 0
    · rw [if_pos h0] at h
      by_cases hr : Rising l
      · have h1 := puts_read hr h0 l.length (Nat.le_refl _)
        rw [List.take_length] at h1
        rw [h1]
        exact (files_text _ _ _ hf).symm
      · rw [if_neg hr] at h; cases h
    · rw [if_neg h0] at h; exact absurd h h0
theorem read_fits (s : B) : Fits (readT s) := by
  unfold readT
  cases filesB (s.length + 1) s with
  | none => exact Fits.nil
  | some l => exact Fits.puts Fits.nil l
end Go.Proofs.YtnmhaipjfpongabGreatDoor

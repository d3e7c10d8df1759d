/- Package cache: New, Get, Put and Len over a list of keys and bytes, the one that was asked for longest ago first. No condition but that the cache is one. -/
import Derived.Test.YtnmhaipjfpongaaGreatDoorC2
namespace Go.Proofs.YtnmhaipjfpongaaGreatDoor
open Go.ChangeShapes Go.WideShapes Go.ChangeAt Go.RowKit

/-! ### the cache -/
/-- A cache in memory: L: its keys and bytes, the first one was asked for longest ago. -/
structure CacheAt (w : World) (b mb : Nat) (sv : Value) (many : Nat) (L : List (B × B)) : Prop where
  cells : w.heap[b]? = some (.cells #[I many, sv, .map (some mb)] 232 (0, 0))
  row : w.ownsRow 0 9 1 sv L.length ((L.map (·.1)).map S)
  map : KMap .string S S w mb L

def getL (L : List (B × B)) (k : B) : List (B × B) :=
  match L.lookup k with
  | some x => L.filter (fun p => !(p.1 == k)) ++ [(k, x)]
  | none => L

def putL (many : Nat) (L : List (B × B)) (k x : B) : List (B × B) :=
  if many < (L.filter (fun p => !(p.1 == k)) ++ [(k, x)]).length then (L.filter (fun p => !(p.1 == k)) ++ [(k, x)]).tail else L.filter (fun p => !(p.1 == k)) ++ [(k, x)]

theorem map_filter_key (L : List (B × B)) (k : B) : (L.filter (fun p => !(p.1 == k))).map (·.1) = (L.map (·.1)).filter (fun s => !(s == k)) := by
  induction L with
  | nil => rfl
  | cons p L ih =>
    by_cases h : p.1 = k
    · simp [h]
      simpa using ih
    · simp [h]
      simpa using ih

theorem heap_ne_map {w : World} {b mb : Nat} {cs : Array Value} {e : TypeId} {fr : Nat × Nat} {d : TypeDesc} {l : List (Value × Value)} (hb : w.heap[b]? = some (.cells cs e fr)) (hm : MapAt d w mb l) : b ≠ mb := by
  rintro rfl
  obtain ⟨es, c, h, _⟩ := hm
  rw [h] at hb
  cases hb

theorem row_ne_map {w : World} {base : Nat} {e : TypeId} {size : Nat} {v : Value} {n : Nat} {xs : List Value} {mb : Nat} {d : TypeDesc} {l : List (Value × Value)} (h : w.ownsRow base e size v n xs) (hm : MapAt d w mb l) :
    ∀ k, v.ownBlock = some k → k ≠ mb := by
  intro k hk
  rcases h.2 with ⟨rfl, _⟩ | ⟨g, cap, cur, rfl, _, hh, _⟩
  · cases hk
  · cases hk
    exact heap_ne_map hh hm

/-- The blocks of a cache. -/
def InCache (b mb : Nat) (sv : Value) (i : Nat) : Prop := i = b ∨ i = mb ∨ sv.ownBlock = some i

theorem CacheAt.later {p : Nat → Prop} {w w' : World} {b mb : Nat} {sv : Value} {many : Nat} {L : List (B × B)} (h : CacheAt w b mb sv many L) (ho : Only p w w') (hp : ∀ i, InCache b mb sv i → ¬ p i) : CacheAt w' b mb sv many L :=
  ⟨ho.heapOf h.cells (hp b (.inl rfl)), ho.row h.row fun k e => hp k (.inr (.inr e)), h.map.later ho (hp mb (.inr (.inl rfl)))⟩

theorem CacheAt.lt {w : World} {b mb : Nat} {sv : Value} {many : Nat} {L : List (B × B)} (h : CacheAt w b mb sv many L) : ∀ i, InCache b mb sv i → i < w.heap.size := by
  rintro i (rfl | rfl | e)
  · exact lt_of_heap h.cells
  · exact h.map.lt
  · exact (h.row.lt i e).2

theorem cacheNew_any (n : Nat) (w : World) (h1 : 1 ≤ n) (h : n ≤ 100) :
    Calls Tryz.prog 108 #[I n] w fun e w' => e = .returned (.tuple #[.pointer (some ⟨w.heap.size + 1, 0, none⟩), .nilIface]) ∧ CacheAt w' (w.heap.size + 1) w.heap.size (.slice none 0 0) n [] ∧ Ext w w' ∧ w'.heap.size = w.heap.size + 2 := by
  have hmm := @run_makeMap Tryz.prog
  have hz1 : (1 : Int) ≤ (n : Int) := by omega
  have hz2 : (n : Int) ≤ 100 := by omega
  go_enter Tryz.func108, Tryz.ntmps108
  go_wp2
  go_ret2
  refine ⟨rfl, ⟨?_, World.ownsRow_nil _ _ _ _, (KMap.made w .string S S).later (Only.alloc (fun _ => False) _ _) (fun h => h)⟩, (Only.alloc _ _ _).thenAlloc _, by simp⟩
  simpa using (MapKept.heap_alloc (w.alloc (.map #[] 0)) (.cells #[I n, .slice none 0 0, .map (some w.heap.size)] 232 (0, 0))).1

/-- 'delete(m, k)' as a step of a region that draws its order. -/
theorem step_drop {κ α : Type} [BEq κ] [LawfulBEq κ] {d : TypeDesc} {encK : κ → Value} {enc : α → Value} {b : Nat} {l : List (κ × α)} {t kt et : TypeId} (KO : KeyOk d encK)
    {ops : Array Oper} {o : Oper} {a : Act} {w : World} {K : Act → World → Prop} {Q : Exit → Act → World → Prop} {E : Prop} (hg : o.guard = none) (m x : Operand)
    (ho : o.op = .call { callee := .builtin .delete, args := #[m, x], argTypes := #[t, kt] }) (ht : Tryz.prog.underlying t = some (.map kt et)) (hk : Tryz.prog.underlying kt = some d)
    (hm : a.eval m = .map (some b)) (k : κ) (hx : a.eval x = encK k) (h : KMap d encK enc w b l)
    (hK : ∀ w', KMap d encK enc w' b (l.filter fun p => !(p.1 == k)) → Only (fun i => i = b) w w' → K (a.put o.dst (.tuple #[])) w') :
    if Region.wanted o (yielded ops a.tmps) = true then Oper.wp Tryz.prog o a w K Q else E := by
  have hw : Region.wanted o (yielded ops a.tmps) = true := by simp [Region.wanted, hg]
  rw [if_pos hw]
  obtain ⟨w', hrun, h1, h2, _⟩ := KMap.drop (P := Tryz.prog) KO h ht hk k o.type
  unfold Oper.wp
  simp [execOp, ho, resolve, invoke, builtin, hm, hx, hrun, Result.andThen]
  exact hK _ h1 h2

def Got (w : World) (b mb : Nat) (sv : Value) (many : Nat) (L' : List (B × B)) (r : Value) (e : Ending) (w' : World) : Prop :=
  ∃ sv', e = .returned r ∧ CacheAt w' b mb sv' many L' ∧ Only (InCache b mb sv) w w' ∧ ∀ i, InCache b mb sv' i → InCache b mb sv i ∨ w.heap.size ≤ i

theorem own_step {b mb : Nat} {sv sv' : Value} {n : Nat} (h : ∀ i, sv'.ownBlock = some i → sv.ownBlock = some i ∨ n ≤ i) : ∀ i, InCache b mb sv' i → InCache b mb sv i ∨ n ≤ i := by
  rintro i (rfl | rfl | e)
  · exact .inl (.inl rfl)
  · exact .inl (.inr (.inl rfl))
  · rcases h i e with h | h
    · exact .inl (.inr (.inr h))
    · exact .inr h

set_option maxHeartbeats 1000000 in
theorem get_any (w : World) (b mb : Nat) (sv : Value) (many : Nat) (L : List (B × B)) (k : B) (h : CacheAt w b mb sv many L) (hl : L.length ≤ 1000) :
    Calls Tryz.prog 289 #[.pointer (some ⟨b, 0, none⟩), S k] w (Got w b mb sv many (getL L k) (.tuple #[S ((L.lookup k).getD []), .bool (L.lookup k).isSome])) := by
  have c2 : w.cell? ⟨b, 2, none⟩ = some (.map (some mb)) := (cell_of_heap h.cells 2).trans rfl
  have hlook := KMap.look (P := Tryz.prog) keyOk_str h.map Tryz.underlying88 Tryz.underlying9 (zeroStr w) k
  cases hk : L.lookup k with
  | none =>
    simp only [hk] at hlook
    have e1 : getL L k = L := by unfold getL; rw [hk]
    rw [e1]
    have H := Lib.hid h
    have HK := Lib.hid hk
    clear hk h e1
    go_enter Tryz.func289, Tryz.ntmps289
    go_wp2_with fail
    go_ret2
    exact ⟨sv, rfl, H.out, Only.refl _ _, fun i hi => .inl hi⟩
  | some x =>
    simp only [hk] at hlook
    have e1 : getL L k = L.filter (fun p => !(p.1 == k)) ++ [(k, x)] := by unfold getL; rw [hk]
    rw [e1]
    have hlast := last_any w b 0 (I many) (.map (some mb)) sv (L.map (·.1)) k h.cells (by simpa using h.row) (Nat.zero_le _) (by simpa using hl)
    have H := Lib.hid h
    have HK := Lib.hid hk
    have HL := Lib.hid hlast
    clear hk h e1 hlast
    go_enter Tryz.func289, Tryz.ntmps289
    go_wp2_with (go_at_call 318; refine HL.out.mono ?_; rintro e w1 ⟨rfl, sv1, hb1, hr1, ho1, hn1⟩)
    go_ret2
    have hmb : mb ≠ b := (heap_ne_map H.out.cells H.out.map).symm
    have hmr : ¬ sv.ownBlock = some mb := fun e => row_ne_map H.out.row H.out.map mb e rfl
    refine ⟨sv1, rfl, ⟨hb1, ?_, ?_⟩, ho1.mono ?_, own_step hn1⟩
    · rw [List.map_append, map_filter_key]
      simpa [← map_filter_key] using hr1
    · exact (H.out.map.later ho1 (by rintro (h | h); exact hmb h; exact hmr h)).perm ((perm_of_lookup H.out.map.nodup HK.out).trans (List.perm_append_singleton _ _).symm)
    · rintro i _ (h | h)
      · exact .inl h
      · exact .inr (.inr h)
end Go.Proofs.YtnmhaipjfpongaaGreatDoor

/- The walks of package prop: the class of a mark, what is dropped, the kind for clusters. -/
import Derived.Test.YtgaokehmfebclaaW2
namespace Go.Proofs.Pt
open Go Go.RowKit

theorem rising_of {T : List (Int × Int × Int)} (h : ((List.range T.length).all fun j => (List.range j).all fun i => decide ((T.getD i (0, 0, 0)).2.1 < (T.getD j (0, 0, 0)).1)) = true) (h2 : ((List.range T.length).all fun j => decide ((T.getD j (0, 0, 0)).1 ≤ (T.getD j (0, 0, 0)).2.1)) = true) : Rising T := by
  have a : ∀ i j, i < j → j < T.length → (T.getD i (0, 0, 0)).2.1 < (T.getD j (0, 0, 0)).1 := fun i j hij hj => by
    simpa using all_mem (all_mem h (List.mem_range.2 hj)) (List.mem_range.2 hij)
  have b : ∀ i, i < T.length → (T.getD i (0, 0, 0)).1 ≤ (T.getD i (0, 0, 0)).2.1 := fun i hi => by simpa using all_mem h2 (List.mem_range.2 hi)
  refine ⟨fun i j hij hj => ?_, a, b⟩
  by_cases e : i = j
  · rw [e]; exact Int.le_refl _
  · have := a i j (by omega) hj; have := b i (by omega); omega
theorem clsT_rising : Rising clsT := rising_of (by decide +kernel) (by decide +kernel)
theorem cells3_cons (x : Int × Int × Int) (T : List (Int × Int × Int)) : cells3 (x :: T) = #[Value.int .i64 x.1, Value.int .i64 x.2.1, Value.int .i64 x.2.2] ++ cells3 T := by simp [cells3]
theorem cells3_size (T : List (Int × Int × Int)) : (cells3 T).size = T.length * 3 := by
  induction T with
  | nil => rfl
  | cons x T ih => rw [cells3_cons]; simp [ih]; omega
theorem cells3_get : ∀ (T : List (Int × Int × Int)) (i : Nat), i < T.length →
    (cells3 T)[i * 3]? = some (.int .i64 (T.getD i (0, 0, 0)).1) ∧ (cells3 T)[i * 3 + 1]? = some (.int .i64 (T.getD i (0, 0, 0)).2.1) ∧ (cells3 T)[i * 3 + 2]? = some (.int .i64 (T.getD i (0, 0, 0)).2.2)
  | [], i, h => by simp at h
  | x :: T, 0, _ => by rw [cells3_cons]; simp [Array.getElem?_append]
  | x :: T, i + 1, h => by
    have := cells3_get T i (by simpa using h)
    rw [cells3_cons]
    simp only [Array.getElem?_append, List.size_toArray, List.length_cons, List.length_nil]
    rw [if_neg (by omega), if_neg (by omega), if_neg (by omega)]
    simp only [List.getD_cons_succ]
    rw [show (i + 1) * 3 - (0 + 1 + 1 + 1) = i * 3 by omega, show (i + 1) * 3 + 1 - (0 + 1 + 1 + 1) = i * 3 + 1 by omega, show (i + 1) * 3 + 2 - (0 + 1 + 1 + 1) = i * 3 + 2 by omega]
    exact this
theorem span_new (w : World) (T : List (Int × Int × Int)) (t : TypeId) : SpanAt (w.alloc (.cells (cells3 T) t)) w.heap.size T := by
  intro i hi
  obtain ⟨h1, h2, h3⟩ := cells3_get T i hi
  exact ⟨(World.cell?_alloc_new _ _ _ _).trans h1, (World.cell?_alloc_new _ _ _ _).trans h2, (World.cell?_alloc_new _ _ _ _).trans h3⟩
set_option maxHeartbeats 400000 in
theorem ccc_any (r : Int) (w : World) : Calls Try.prog 11 #[.int .i64 r] w fun e w' => e = .returned (.int .i64 (ccc r)) ∧ Below w.heap.size w w' := by
  go_enter Try.func11, Try.ntmps11
  go_wp2_with fail
  refine (classes_run _).mono ?_
  rintro e w' ⟨rfl, rfl⟩
  go_wp2_with fail
  refine (in_any _ _ clsT r _ (span_new _ _ _) (by simp) (by decide) clsT_rising).mono ?_
  rintro e w' ⟨x, y, v, ok, rfl, hv, _, hb⟩
  go_wp2
  go_ret
  exact ⟨rfl, (((Below.refl _ _).alloc (Nat.le_refl _) _).trans (hb.mono (by simp))).alloc (by have := hb.size; simp at this; omega) _⟩
set_option maxHeartbeats 400000 in
theorem mark_any (r : Int) (w : World) : Calls Try.prog 10 #[.int .i64 r] w fun e w' => e = .returned (.bool (decide (0 < ccc r))) ∧ Below w.heap.size w w' := by
  go_enter Try.func10, Try.ntmps10
  go_wp2_with (go_at_call 11; refine (ccc_any _ _).mono ?_; rintro e w' ⟨rfl, hb⟩)
  go_ret
  exact ⟨by simp, hb⟩
end Go.Proofs.Pt

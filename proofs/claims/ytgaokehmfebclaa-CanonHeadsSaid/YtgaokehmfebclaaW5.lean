/- The walks of package pair: which of two pairs goes ahead, the search in a half of the table, what two values are together. -/
import Derived.Test.YtgaokehmfebclaaW3
import Derived.Test.YtgaokehmfebclaaW4
import Derived.Deep.RegionHeld3
import Derived.StillTailTactics
namespace Go.Proofs.Pt
open Go Go.RowKit

set_option maxHeartbeats 400000 in
theorem or_two (x y : Int) (b c : Nat) (w : World) (h0 : w.cell? ⟨b, 0, none⟩ = some (.int .i64 x)) (h1 : w.cell? ⟨b, 1, none⟩ = some (.int .i64 y)) :
    Calls Try.prog 40 #[.slice (some ⟨b, 0, none⟩) 2 c] w fun e w' => e = .returned (.int .i64 (orI x y)) ∧ w' = w := by
  by_cases hx : x = 0
  · subst hx
    have hf : orI 0 y = y := if_pos rfl
    have HF := Lib.hid hf; clear hf
    by_cases hy : y = 0
    · subst hy
      go_enter Try.func40, Try.ntmps40
      go_wp2
      refine wp_loop_rounds 3 ?_
      rw [rounds_succ]
      go_wp2
      rw [rounds_succ]
      go_wp2
      rw [rounds_succ]
      go_wp2
      go_ret
      exact ⟨by rw [HF.out]; rfl, rfl⟩
    · have hy1 : (y != 0) = true := by simp [hy]
      clear hy
      go_enter Try.func40, Try.ntmps40
      go_wp2
      refine wp_loop_rounds 3 ?_
      rw [rounds_succ]
      go_wp2
      rw [rounds_succ]
      go_wp2
      go_ret
      exact ⟨by rw [HF.out]; rfl, rfl⟩
  · have hx1 : (x != 0) = true := by simp [hx]
    have hf : orI x y = x := if_neg hx
    have HF := Lib.hid hf; clear hx hf
    go_enter Try.func40, Try.ntmps40
    go_wp2
    refine wp_loop_rounds 3 ?_
    simp only [rounds_succ]
    go_wp2
    go_ret
    exact ⟨by rw [HF.out]; rfl, rfl⟩
set_option maxHeartbeats 400000 in
set_option maxRecDepth 100000 in
theorem order_any (a b c d : Int) (w : World) : Calls Try.prog 33 #[.agg #[.int .i64 a, .int .i64 b], .agg #[.int .i64 c, .int .i64 d]] w fun e w' => e = .returned (.int .i64 (lexI a b c d)) ∧ Below w.heap.size w w' := by
  have hlex : lexI a b c d = orI (cmpI a c) (cmpI b d) := rfl
  have HL := Lib.hid hlex; clear hlex
  have c1 : ((w.alloc (Obj.cells #[Value.int .i64 a, Value.int .i64 b] 53)).alloc (Obj.cells #[Value.int .i64 c, Value.int .i64 d] 53)).cell? ⟨w.heap.size, 0, none⟩ = some (.int .i64 a) := by simp [go_sem]
  have c2 : ((w.alloc (Obj.cells #[Value.int .i64 a, Value.int .i64 b] 53)).alloc (Obj.cells #[Value.int .i64 c, Value.int .i64 d] 53)).cell? ⟨w.heap.size, 1, none⟩ = some (.int .i64 b) := by simp [go_sem]
  have c3 : ((w.alloc (Obj.cells #[Value.int .i64 a, Value.int .i64 b] 53)).alloc (Obj.cells #[Value.int .i64 c, Value.int .i64 d] 53)).cell? ⟨w.heap.size + 1, 0, none⟩ = some (.int .i64 c) := by simp [go_sem]
  have c4 : ((w.alloc (Obj.cells #[Value.int .i64 a, Value.int .i64 b] 53)).alloc (Obj.cells #[Value.int .i64 c, Value.int .i64 d] 53)).cell? ⟨w.heap.size + 1, 1, none⟩ = some (.int .i64 d) := by simp [go_sem]
  have hb : Below w.heap.size w ((w.alloc (Obj.cells #[Value.int .i64 a, Value.int .i64 b] 53)).alloc (Obj.cells #[Value.int .i64 c, Value.int .i64 d] 53)) := ((Below.refl _ _).alloc (Nat.le_refl _) _).alloc (by simp) _
  have C1 := Lib.hid c1; have C2 := Lib.hid c2; have C3 := Lib.hid c3; have C4 := Lib.hid c4; clear c1 c2 c3 c4
  go_enter Try.func33, Try.ntmps33
  go_wp2_with fail
  generalize ((w.alloc (Obj.cells #[Value.int .i64 a, Value.int .i64 b] 53)).alloc (Obj.cells #[Value.int .i64 c, Value.int .i64 d] 53)) = w1 at C1 C2 C3 C4 hb ⊢
  refine wp_region_still_tail 10 (by kernel_rfl) (by kernel_rfl) ?_
  change wpStill _ _ w1.drew (fun a' => wpList _ _ _ _ a' w1.drew) _ _
  have c1 : w1.drew.cell? ⟨w.heap.size, 0, none⟩ = some (.int .i64 a) := C1.out
  have c2 : w1.drew.cell? ⟨w.heap.size, 1, none⟩ = some (.int .i64 b) := C2.out
  have c3 : w1.drew.cell? ⟨w.heap.size + 1, 0, none⟩ = some (.int .i64 c) := C3.out
  have c4 : w1.drew.cell? ⟨w.heap.size + 1, 1, none⟩ = some (.int .i64 d) := C4.out
  have hb2 : Below w.heap.size w w1.drew := below_drewN hb 1
  have hz : w.heap.size ≤ w1.drew.heap.size := hb2.size
  clear C1 C2 C3 C4 hb
  generalize w1.drew = w2 at c1 c2 c3 c4 hb2 hz ⊢
  simp only [List.take_succ_cons, List.take_zero, List.drop_succ_cons, List.drop_zero]
  iterate 4 still_step
  still_call (compare_any _ _ _)
  iterate 4 still_step
  still_call (compare_any _ _ _)
  refine wpStill_nil ?_
  clear c1 c2 c3 c4
  go_wp2_with (go_at_call 40; refine (or_two (cmpI a c) (cmpI b d) _ _ _ (by simp [go_sem]) (by simp [go_sem])).mono ?_; rintro e w' ⟨rfl, rfl⟩)
  go_ret
  exact ⟨rfl, hb2.alloc hz _⟩
end Go.Proofs.Pt

/- The plain law of CanonHeads: behind a letter of ASCII order and putting together begin anew. -/
import Derived.Test.YtgaokehmfebclaaPCanonHeadsx1
namespace Go.Proofs.Ytgaokehmfebclaa.Pure
open Go.RowKit Go.Proofs.Ytgaokehmfebclaa.PCanonHeads Go.Proofs.YtgaokehmfebclaaW.PrintWords Go.Proofs.YtgaokehmfebclaaW.PrintLast Go.Proofs.Pt

theorem letter_low (z : Int) : wrap64 (97 + Int.tmod z 26) < 768 := by
  have h1 := Int.tmod_lt_of_pos z (show (0 : Int) < 26 by decide)
  have h2 : -26 < Int.tmod z 26 := by
    have h3 := Int.tmod_lt_of_pos (-z) (show (0 : Int) < 26 by decide)
    rw [Int.neg_tmod] at h3
    omega
  unfold wrap64; omega
theorem CanonHeads : pentroughlaw07_CanonHeads.Pure := by
  intro l0 l1 a2 _ _ _ _ _ _ _
  refine ⟨1, ?_⟩
  unfold pentroughlaw07_CanonHeads.f law07_awake.f
  simp only [Option.bind_some]
  by_cases h0 : (l0.length : Int) > 60
  · rw [if_pos h0]; rfl
  · rw [if_neg h0]
    by_cases h1 : (l1.length : Int) > 60
    · rw [decide_eq_true h1]; rfl
    · rw [decide_eq_false h1]
      have hc := letter_low (Go.bits .and .i64 a2 65535)
      rw [pentroughlaw07_CanonHeads.j0]
      generalize wrap64 (97 + Int.tmod (Go.bits .and .i64 a2 65535) 26) = c at hc ⊢
      have hz : ccc c = 0 := ccc_zero_of (.inl hc)
      have hj : ∀ x, join x c = none := fun x => join_low x hc
      have e1 : canon_Order.f l0 = some (order l0) := if_pos (by omega)
      have e2 : canon_Order.f ([c] ++ l1) = some (order (c :: l1)) := if_pos (by simp; omega)
      have e3 : canon_Compose.f l0 = some (compose l0) := if_pos (by omega)
      have e4 : canon_Compose.f ([c] ++ l1) = some (compose (c :: l1)) := if_pos (by simp; omega)
      have e5 : canon_Order.f (([] ++ l0) ++ ([c] ++ l1)) = some (order (l0 ++ c :: l1)) := if_pos (by simp; omega)
      have e6 : canon_Compose.f (([] ++ l0) ++ ([c] ++ l1)) = some (compose (l0 ++ c :: l1)) := if_pos (by simp; omega)
      have n1 := order_length l0
      have n2 := order_length (c :: l1)
      have n3 := compose_length l0
      have n4 := compose_length (c :: l1)
      simp only [List.length_cons] at n2 n4
      rw [if_neg (by decide)]
      simp only [Option.bind_some]
      rw [if_pos (by simp; omega), if_pos (by simp; omega), if_pos (by simp; omega), e1]
      simp only [Option.bind_some]
      rw [if_pos (by simp; omega), e2]
      simp only [Option.bind_some]
      rw [if_pos (by simp; omega), e3]
      simp only [Option.bind_some]
      rw [if_pos (by simp; omega), e4]
      simp only [Option.bind_some]
      rw [if_pos (by simp; omega), if_pos trivial, e5]
      simp only [Option.bind_some]
      have s1 : ref01_Same.f (order (l0 ++ c :: l1)) (([] ++ order l0) ++ order (c :: l1)) = some true := by
        unfold ref01_Same.f
        rw [if_pos (by rw [order_length]; simp; omega), order_split' l0 l1 hz]; simp
      have s2 : ref01_Same.f (compose (l0 ++ c :: l1)) (([] ++ compose l0) ++ compose (c :: l1)) = some true := by
        unfold ref01_Same.f
        rw [if_pos (by have := compose_length (l0 ++ c :: l1); simp at this; omega), compose_split l0 l1 hz hj]; simp
      rw [s1]
      simp only [Option.bind_some, if_true]
      rw [e6]
      simp only [Option.bind_some]
      rw [s2]
      rfl
end Go.Proofs.Ytgaokehmfebclaa.Pure

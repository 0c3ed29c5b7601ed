/- The walk of package pair's Join: what two values are together. -/
import Derived.Test.YtgaokehmfebclaaW7
namespace Go.Proofs.Pt
open Go Go.RowKit

def inR (r lo hi : Int) : Bool := decide (lo ≤ r) && decide (r ≤ hi)
theorem inR_iff {r lo hi : Int} : inR r lo hi = true ↔ lo ≤ r ∧ r ≤ hi := by simp [inR]
theorem within_any (r lo hi : Int) (w : World) : Calls Try.prog 25 #[.int .i64 r, .int .i64 lo, .int .i64 hi] w fun e w' => e = .returned (.bool (inR r lo hi)) ∧ w' = w := by
  by_cases h1 : lo ≤ r
  · by_cases h2 : r ≤ hi
    · have hv : inR r lo hi = true := inR_iff.2 ⟨h1, h2⟩
      have HV := Lib.hid hv; clear hv
      go_enter Try.func25, Try.ntmps25
      go_wp2
      go_ret
      exact ⟨by rw [HV.out]; rfl, rfl⟩
    · have hv : inR r lo hi = false := by simp [inR, h2]
      have HV := Lib.hid hv; clear hv
      go_enter Try.func25, Try.ntmps25
      go_wp2
      go_ret
      exact ⟨by rw [HV.out]; rfl, rfl⟩
  · have hv : inR r lo hi = false := by simp [inR, h1]
    have HV := Lib.hid hv; clear hv
    go_enter Try.func25, Try.ntmps25
    go_wp2
    go_ret
    exact ⟨by rw [HV.out]; rfl, rfl⟩
def JoinPost (a b : Int) (w : World) (e : Ending) (w' : World) : Prop := ∃ r : Int, ∃ ok : Bool, e = .returned (.tuple #[.int .i64 r, .bool ok]) ∧ r = (join a b).getD 0 ∧ ok = (join a b).isSome ∧ Below w.heap.size w w'
set_option maxHeartbeats 1000000 in
theorem join_any (a b : Int) (w : World) : Calls Try.prog 15 #[.int .i64 a, .int .i64 b] w (JoinPost a b w) := by
  cases hA1 : inR a 4352 4370 with
  | true =>
    obtain ⟨a1, a2⟩ := inR_iff.1 hA1
    have hA2 : inR a 44032 55203 = false := by rw [← Bool.not_eq_true, inR_iff]; omega
    cases hB1 : inR b 4449 4469 with
    | true =>
      obtain ⟨b1, b2⟩ := inR_iff.1 hB1
      have hj : join a b = some (44032 + ((a - 4352) * 21 + b - 4449) * 28) := by unfold join; rw [if_pos ⟨⟨a1, a2⟩, b1, b2⟩]; congr 1; omega
      have HJ := Lib.hid hj; clear hj
      go_enter Try.func15, Try.ntmps15
      go_wp2_with (go_at_call 25; refine (within_any _ _ _ _).mono ?_; rintro e w' ⟨rfl, rfl⟩)
      go_ret2
      exact ⟨_, _, rfl, by rw [HJ.out]; rfl, by rw [HJ.out]; rfl, Below.refl _ _⟩
    | false =>
      have hb1 : ¬ (4449 ≤ b ∧ b ≤ 4469) := by rw [← inR_iff, hB1]; simp
      have HB := Lib.hid hb1; clear hb1
      have hj : join a b = assoc2 pairT a b := by unfold join; rw [if_neg (fun h => HB.out h.2), if_neg (by omega)]
      have HJ := Lib.hid hj; clear hj
      go_enter Try.func15, Try.ntmps15
      go_wp2_with (first | (go_at_call 25; refine (within_any _ _ _ _).mono ?_; rintro e w' ⟨rfl, rfl⟩) | (go_at_call 26; refine (listed_any _ _ _).mono ?_; rintro e w' ⟨r, ok, rfl, hr, hok, hb⟩))
      go_ret2
      exact ⟨_, _, rfl, by rw [HJ.out], by rw [HJ.out], hb⟩
  | false =>
    have ha1 : ¬ (4352 ≤ a ∧ a ≤ 4370) := by rw [← inR_iff, hA1]; simp
    have HA := Lib.hid ha1; clear ha1
    cases hA2 : inR a 44032 55203 with
    | false =>
      have ha2 : ¬ (44032 ≤ a ∧ a ≤ 55203) := by rw [← inR_iff, hA2]; simp
      have HA2 := Lib.hid ha2; clear ha2
      have hj : join a b = assoc2 pairT a b := by unfold join; rw [if_neg (fun h => HA.out h.1), if_neg (fun h => HA2.out h.1.1)]
      have HJ := Lib.hid hj; clear hj
      go_enter Try.func15, Try.ntmps15
      go_wp2_with (first | (go_at_call 25; refine (within_any _ _ _ _).mono ?_; rintro e w' ⟨rfl, rfl⟩) | (go_at_call 26; refine (listed_any _ _ _).mono ?_; rintro e w' ⟨r, ok, rfl, hr, hok, hb⟩))
      go_ret2
      exact ⟨_, _, rfl, by rw [HJ.out], by rw [HJ.out], hb⟩
    | true =>
      obtain ⟨a1, a2⟩ := inR_iff.1 hA2
      by_cases hm : (a - 44032) % 28 = 0
      · cases hB2 : inR b 4520 4546 with
        | true =>
          obtain ⟨b1, b2⟩ := inR_iff.1 hB2
          have hj : join a b = some (a + b - 4519) := by unfold join; rw [if_neg (fun h => HA.out h.1), if_pos ⟨⟨⟨a1, a2⟩, hm⟩, b1, b2⟩]
          have HJ := Lib.hid hj; clear hj
          go_enter Try.func15, Try.ntmps15
          go_wp2_with (go_at_call 25; refine (within_any _ _ _ _).mono ?_; rintro e w' ⟨rfl, rfl⟩)
          go_ret2
          exact ⟨_, _, rfl, by rw [HJ.out]; rfl, by rw [HJ.out]; rfl, Below.refl _ _⟩
        | false =>
          have hb2 : ¬ (4520 ≤ b ∧ b ≤ 4546) := by rw [← inR_iff, hB2]; simp
          have HB := Lib.hid hb2; clear hb2
          have hj : join a b = assoc2 pairT a b := by unfold join; rw [if_neg (fun h => HA.out h.1), if_neg (fun h => HB.out h.2)]
          have HJ := Lib.hid hj; clear hj
          go_enter Try.func15, Try.ntmps15
          go_wp2_with (first | (go_at_call 25; refine (within_any _ _ _ _).mono ?_; rintro e w' ⟨rfl, rfl⟩) | (go_at_call 26; refine (listed_any _ _ _).mono ?_; rintro e w' ⟨r, ok, rfl, hr, hok, hb⟩))
          go_ret2
          exact ⟨_, _, rfl, by rw [HJ.out], by rw [HJ.out], hb⟩
      · have HM := Lib.hid hm
        have hj : join a b = assoc2 pairT a b := by unfold join; rw [if_neg (fun h => HA.out h.1), if_neg (fun h => HM.out h.1.2)]
        have HJ := Lib.hid hj; clear hj
        go_enter Try.func15, Try.ntmps15
        go_wp2_with (first | (go_at_call 25; refine (within_any _ _ _ _).mono ?_; rintro e w' ⟨rfl, rfl⟩) | (go_at_call 26; refine (listed_any _ _ _).mono ?_; rintro e w' ⟨r, ok, rfl, hr, hok, hb⟩))
        go_ret2
        exact ⟨_, _, rfl, by rw [HJ.out], by rw [HJ.out], hb⟩

end Go.Proofs.Pt

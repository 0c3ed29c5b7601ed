/- How many marks the longest row of a list has, by its tails. -/
import Derived.Test.YtgaokehmfebclaaM3
namespace Go.Proofs.Pt
def rowN (l : List Int) : Nat := (l.takeWhile fun x => decide (0 < ccc x)).length
theorem rowN_mark {x : Int} (h : 0 < ccc x) (l : List Int) : rowN (x :: l) = rowN l + 1 := by simp [rowN, h]
theorem rowN_none {x : Int} (h : ¬ 0 < ccc x) (l : List Int) : rowN (x :: l) = 0 := by simp [rowN, h]
theorem marksN_row (l : List Int) : ∀ n, marksN n l = max (n + rowN l) (marks l) := by
  induction l with
  | nil => intro n; simp [marksN, marks, rowN]
  | cons r l ih =>
    intro n
    by_cases h : 0 < ccc r
    · rw [rowN_mark h]
      simp only [marks, marksN, if_pos h]
      rw [ih (n + 1), ih (0 + 1)]
      omega
    · rw [rowN_none h]
      simp only [marks, marksN, if_neg h]
      omega
theorem marks_cons (r : Int) (l : List Int) : marks (r :: l) = max (rowN (r :: l)) (marks l) := by
  by_cases h : 0 < ccc r
  · rw [rowN_mark h]
    simp only [marks, marksN, if_pos h]
    rw [marksN_row l (0 + 1)]
    simp only [marks]
    omega
  · rw [rowN_none h]
    simp only [marks, marksN, if_neg h]
theorem rowN_le (l : List Int) : rowN l ≤ l.length := by
  unfold rowN; exact (List.takeWhile_sublist _).length_le
theorem marks_le (l : List Int) : marks l ≤ l.length := by
  induction l with
  | nil => simp [marks, marksN]
  | cons r l ih => rw [marks_cons]; have := rowN_le (r :: l); simp at this ⊢; omega
end Go.Proofs.Pt

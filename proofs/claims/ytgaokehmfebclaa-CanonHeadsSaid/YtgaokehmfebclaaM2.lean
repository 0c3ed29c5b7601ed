/- Closed facts on the table of pairs: what two values are is made of what these are made of; its head is no mark; of two marks that one value takes the second is of no lower class. No program is in sight here. -/
import Derived.Test.YtgaokehmfebclaaM1
namespace Go.Proofs.Pt

/-! ### pairs -/
theorem pairT_ok : pairT.all (fun x => full x.2.2 == full x.1 ++ full x.2.1 && full x.2.1 == [x.2.1] && decide (ccc x.1 = 0) && decide (ccc x.2.2 = 0) && decide (0 < ccc x.2.1) && decide (65 ≤ x.1) && decide (x.1 ≠ 847) && decide (768 ≤ x.2.1) &&
    (decide (x.2.2 < 4352) || decide (4546 < x.2.2)) && (decide (x.2.2 < 44032) || decide (55203 < x.2.2)) && (decide (x.1 < 4352) || decide (4546 < x.1)) && (decide (x.1 < 44032) || decide (55203 < x.1))) = true := by decide +kernel
theorem join_cases {a b v : Int} (h : join a b = some v) :
    ((4352 ≤ a ∧ a ≤ 4370) ∧ (4449 ≤ b ∧ b ≤ 4469) ∧ v = 44032 + ((a - 4352) * 21 + (b - 4449)) * 28) ∨
    (((44032 ≤ a ∧ a ≤ 55203) ∧ (a - 44032) % 28 = 0) ∧ (4520 ≤ b ∧ b ≤ 4546) ∧ v = a + b - 4519) ∨ (a, b, v) ∈ pairT := by
  unfold join at h
  split at h
  · rename_i c; cases h; exact .inl ⟨c.1, c.2, rfl⟩
  · split at h
    · rename_i c; cases h; exact .inr (.inl ⟨c.1, c.2, rfl⟩)
    · exact .inr (.inr (assoc2_mem h))
structure JoinOk (a b v : Int) : Prop where
  full : full v = full a ++ full b
  plain : Pt.full b = [b]
  head : ccc a = 0
  whole : ccc v = 0
  kind : 0 < ccc b ∨ (4449 ≤ b ∧ b ≤ 4546)
  big : 65 ≤ a
  noj : a ≠ 847
theorem join_ok {a b v : Int} (h : join a b = some v) : JoinOk a b v := by
  rcases join_cases h with ⟨h1, h2, rfl⟩ | ⟨h1, h2, rfl⟩ | h
  · refine ⟨?_, full_plain (.inr (.inl (by omega))), ccc_zero_of (.inr (.inr (by omega))), ccc_zero_of (.inr (.inl (by omega))), .inr (by omega), by omega, by omega⟩
    rw [full_plain (r := a) (.inr (.inl (by omega))), full_plain (r := b) (.inr (.inl (by omega)))]
    unfold Pt.full
    rw [if_pos (by omega)]
    unfold syl
    rw [if_pos (by omega)]
    simp; omega
  · refine ⟨?_, full_plain (.inr (.inl (by omega))), ccc_zero_of (.inr (.inl (by omega))), ccc_zero_of (.inr (.inl (by omega))), .inr (by omega), by omega, by omega⟩
    rw [full_plain (r := b) (.inr (.inl (by omega)))]
    unfold Pt.full
    rw [if_pos (by omega), if_pos (by omega)]
    unfold syl
    rw [if_neg (by omega), if_pos (by omega)]
    simp; omega
  · have := all_mem pairT_ok h
    simp only [Bool.and_eq_true, beq_iff_eq, decide_eq_true_eq] at this
    obtain ⟨⟨⟨⟨⟨⟨⟨⟨⟨⟨⟨h1, h2⟩, h3⟩, h4⟩, h5⟩, h6⟩, h7⟩, h8⟩, h9⟩, h10⟩, h11⟩, h12⟩ := this
    exact ⟨h1, h2, h3, h4, .inl h5, h6, h7⟩
theorem join_low (a : Int) {b : Int} (hb : b < 768) : join a b = none := by
  cases h : join a b with
  | none => rfl
  | some v =>
    rcases join_cases h with ⟨_, h2, _⟩ | ⟨_, h2, _⟩ | h
    · omega
    · omega
    · have := all_mem pairT_ok h
      simp at this; omega
theorem join_small {a : Int} (b : Int) (ha : a < 65 ∨ a = 847) : join a b = none := by
  cases h : join a b with
  | none => rfl
  | some v => have := join_ok h; have := this.big; have := (join_ok h).noj; omega
theorem pairT_order : pairT.all (fun x => pairT.all fun y => decide (y.1 ≠ x.2.2) || decide (ccc x.2.1 ≤ ccc y.2.1)) = true := by decide +kernel
/-- Of two marks that one value takes in turn the second is of no lower class. -/
theorem join_order {h s v r x : Int} (h1 : join h s = some v) (h2 : join v r = some x) (hr : 0 < ccc r) : ccc s ≤ ccc r := by
  rcases join_cases h1 with ⟨_, hs, _⟩ | ⟨_, hs, _⟩ | m1
  · rw [ccc_zero_of (r := s) (.inr (.inr (by omega)))]; omega
  · rw [ccc_zero_of (r := s) (.inr (.inr (by omega)))]; omega
  · rcases join_cases h2 with ⟨_, hr', _⟩ | ⟨_, hr', _⟩ | m2
    · rw [ccc_zero_of (r := r) (.inr (.inr (by omega)))] at hr; omega
    · rw [ccc_zero_of (r := r) (.inr (.inr (by omega)))] at hr; omega
    · have := all_mem (all_mem pairT_order m1) m2
      simp at this; omega

end Go.Proofs.Pt

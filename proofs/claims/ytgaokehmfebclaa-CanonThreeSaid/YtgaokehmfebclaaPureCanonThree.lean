/- The plain law of CanonThree: one value and two marks, put together. -/
import Derived.Test.YtgaokehmfebclaaPCanonThreex1
namespace Go.Proofs.Ytgaokehmfebclaa.Pure
open Go.RowKit Go.Proofs.Ytgaokehmfebclaa.PCanonThree Go.Proofs.YtgaokehmfebclaaW.PrintWords Go.Proofs.YtgaokehmfebclaaW.PrintLast Go.Proofs.Pt

theorem run_three (a m n : Int) (h0 : ccc a = 0) : compose [a, m, n] = ((({ pre := [], hd := some a, tl := [] } : CS).step m).step n).out := by
  unfold compose
  rw [CS.run_cons, CS.run_cons, CS.run_cons, CS.run_nil]
  congr 3
  simp [CS.step, CS.joins, cinit, CS.push, h0, CS.out]
theorem step_some {p : List Int} {h : Int} {t : List Int} {r v : Int} (ho : CS.opens ⟨p, some h, t⟩ (ccc r) = true) (hj : join h r = some v) : CS.step ⟨p, some h, t⟩ r = ⟨p, some v, t⟩ := by
  unfold CS.step CS.joins
  simp only [ho, if_true, hj]
theorem step_none {p : List Int} {h : Int} {t : List Int} {r : Int} (hr : 0 < ccc r) (hj : CS.opens ⟨p, some h, t⟩ (ccc r) = false ∨ join h r = none) : CS.step ⟨p, some h, t⟩ r = ⟨p, some h, t ++ [r]⟩ := by
  unfold CS.step CS.joins
  rcases hj with hj | hj
  · simp only [hj, CS.push]
    rw [if_neg (show ¬ ccc r = 0 by omega)]
    rfl
  · simp only [hj, CS.push, ite_self]
    rw [if_neg (show ¬ ccc r = 0 by omega)]
theorem three_jj {a m n x y : Int} (h0 : ccc a = 0) (h1 : join a m = some x) (h2 : join x n = some y) : compose [a, m, n] = [y] := by
  rw [run_three a m n h0, step_some rfl h1, step_some rfl h2]; rfl
theorem three_jn {a m n x : Int} (h0 : ccc a = 0) (hn : 0 < ccc n) (h1 : join a m = some x) (h2 : join x n = none) : compose [a, m, n] = [x, n] := by
  rw [run_three a m n h0, step_some rfl h1, step_none hn (.inr h2)]; rfl
theorem three_nj {a m n y : Int} (h0 : ccc a = 0) (hm : 0 < ccc m) (h1 : join a m = none) (h2 : join a n = some y) (hlt : ccc m < ccc n) : compose [a, m, n] = [y, m] := by
  rw [run_three a m n h0, step_none hm (.inr h1), step_some (by simp [CS.opens, hlt]) h2]; rfl
theorem three_nn {a m n : Int} (h0 : ccc a = 0) (hm : 0 < ccc m) (hn : 0 < ccc n) (h1 : join a m = none) (h2 : join a n = none ∨ ¬ ccc m < ccc n) : compose [a, m, n] = [a, m, n] := by
  rw [run_three a m n h0, step_none hm (.inr h1), step_none hn (by rcases h2 with h | h; · exact .inr h
                                                                   · exact .inl (by simp [CS.opens]; omega))]
  rfl
theorem three_l0 (v : Int) (l : List Int) (hl : l.length ≤ 100) : ∀ (d k i : Nat), l.length - i = d → i ≤ l.length → d < k → pentroughlaw07_CanonThree.l0 k true l (v :: l) i = some true
  | d, 0, i, _, _, hk => absurd hk (by omega)
  | d, k + 1, i, hd, hi, hk => by
    unfold pentroughlaw07_CanonThree.l0
    by_cases h : i < l.length
    · rw [if_pos (by omega), wrap_nat h (by omega), if_pos (by omega), if_pos (by simp only [List.length_cons]; omega), if_pos (by omega), rd_nat l i h, rd_nat (v :: l) (i + 1) (by simp only [List.length_cons]; omega), if_pos (by simp)]
      exact three_l0 v l hl (d - 1) k (i + 1) (by omega) (by omega) (by omega)
    · rw [if_neg (by omega)]
theorem three_f {a m n v : Int} {l : List Int} (h : compose [a, m, n] = v :: l) : canon_Compose.f [a, m, n] = some (v :: l) := by
  unfold canon_Compose.f; rw [if_pos (by simp), h]
theorem three_rd (v : Int) (l : List Int) : (rd (v :: l) 0 != v) = false := by simp [rd]
theorem three_q3 (k : Nat) (v : Int) (l : List Int) (hl : l.length ≤ 2) : pentroughlaw07_CanonThree.l0 (k + 4) true l (v :: l) 0 = some true := three_l0 v l (by omega) l.length (k + 4) 0 (by omega) (by omega) (by omega)
theorem three_len (v : Int) (l : List Int) (hl : l.length ≤ 2) : ((v :: l).length : Int) = wrap64 ((l.length : Int) + 1) := by simp only [List.length_cons]; unfold wrap64; omega
theorem three_q5 (k : Nat) (v : Int) (l : List Int) (hl : l.length ≤ 2) : pentroughlaw07_CanonThree.j4 (k + 5) true l (v :: l) false = some true := by
  rw [show k + 5 = (k + 4) + 1 from rfl, pentroughlaw07_CanonThree.j4, if_neg (by decide)]
  exact three_q3 k v l hl
theorem three_j3 (k : Nat) (a m n v : Int) (l : List Int) (hl : l.length ≤ 2) (h : compose [a, m, n] = v :: l) : pentroughlaw07_CanonThree.j3 (k + 6) a m n true l v = some true := by
  rw [show k + 6 = (k + 5) + 1 from rfl, pentroughlaw07_CanonThree.j3, three_f h, Option.bind_some, if_pos (three_len v l hl), if_pos (by simp only [List.length_cons]; omega), three_rd]
  exact three_q5 k v l hl
theorem three_j0 (k : Nat) (a m n : Int) (h0 : ccc a = 0) (hm : 0 < ccc m) (hn : 0 < ccc n) : pentroughlaw07_CanonThree.j0 (k + 9) a m n true false = some true := by
  rw [show k + 9 = (k + 8) + 1 from rfl, pentroughlaw07_CanonThree.j0]
  rw [if_neg (by decide)]
  unfold pair_Join.f
  simp only [Option.bind_some]
  cases h1 : join a m with
  | some x =>
    simp only [Option.isSome_some, if_true, Option.getD_some]
    rw [show k + 8 = (k + 7) + 1 from rfl, pentroughlaw07_CanonThree.j1]
    unfold pair_Join.f
    simp only [Option.bind_some]
    cases h2 : join x n with
    | some y =>
      simp only [Option.isSome_some, if_true, Option.getD_some]
      rw [show k + 7 = (k + 6) + 1 from rfl, pentroughlaw07_CanonThree.j2]
      rw [if_pos rfl]
      exact three_j3 k a m n y [] (by simp) (three_jj h0 h1 h2)
    | none =>
      simp only [Option.isSome_none, Option.getD_none]
      rw [if_neg (by decide)]
      rw [show k + 7 = (k + 6) + 1 from rfl, pentroughlaw07_CanonThree.j2]
      rw [if_neg (by decide), if_pos (by simp)]
      exact three_j3 k a m n x ([] ++ [n]) (by simp) (three_jn h0 hn h1 h2)
  | none =>
    simp only [Option.isSome_none, Option.getD_none]
    rw [if_neg (by decide), if_pos (by simp)]
    rw [show k + 8 = (k + 7) + 1 from rfl, pentroughlaw07_CanonThree.j1]
    unfold pair_Join.f
    simp only [Option.bind_some]
    cases h2 : join a n with
    | some y =>
      simp only [Option.isSome_some, if_true, Option.getD_some]
      rw [if_neg (by decide)]
      unfold prop_Ccc.f
      simp only [Option.bind_some]
      by_cases hlt : ccc m < ccc n
      · rw [decide_eq_true hlt]
        rw [show k + 7 = (k + 6) + 1 from rfl, pentroughlaw07_CanonThree.j2]
        rw [if_pos rfl]
        exact three_j3 k a m n y ([] ++ [m]) (by simp) (three_nj h0 hm h1 h2 hlt)
      · rw [decide_eq_false hlt]
        rw [show k + 7 = (k + 6) + 1 from rfl, pentroughlaw07_CanonThree.j2]
        rw [if_neg (by decide), if_pos (by simp)]
        exact three_j3 k a m n a (([] ++ [m]) ++ [n]) (by simp) (three_nn h0 hm hn h1 (.inr hlt))
    | none =>
      simp only [Option.isSome_none, Option.getD_none]
      rw [if_neg (by decide)]
      rw [show k + 7 = (k + 6) + 1 from rfl, pentroughlaw07_CanonThree.j2]
      rw [if_neg (by decide), if_pos (by simp)]
      exact three_j3 k a m n a (([] ++ [m]) ++ [n]) (by simp) (three_nn h0 hm hn h1 (.inl h2))
theorem CanonThree : pentroughlaw07_CanonThree.Pure := by
  intro a m n _ _ _
  refine ⟨12, ?_⟩
  unfold pentroughlaw07_CanonThree.f law07_awake.f prop_Mark.f
  simp only [Option.bind_some]
  by_cases ha : 0 < ccc a
  · rw [if_pos (by simpa using ha)]; rfl
  · rw [if_neg (by simpa using ha)]
    by_cases hm : 0 < ccc m
    · rw [if_pos (by simpa using hm)]
      by_cases hn : 0 < ccc n
      · rw [decide_eq_true hn]
        exact three_j0 3 a m n (by have := ccc_nonneg a; omega) hm hn
      · rw [decide_eq_false hn]; rfl
    · rw [if_neg (by simpa using hm)]; rfl
end Go.Proofs.Ytgaokehmfebclaa.Pure

/- The walks of a stable sort in place over rows of values: the test of two marks, two parts exchanged. -/
import Derived.Test.YtgaokehmfebclaaM10
import Derived.Test.YtgaokehmfebclaaW9
import Derived.BigRegion
namespace Go.Proofs.Pt
open Go Go.RowKit Go.Proofs.YtgaokehmfebclaaW.PrintWords

theorem before_any (x y : Int) (w : World) : Calls Try.prog 19 #[.int .i64 x, .int .i64 y] w fun e w' => e = .returned (.int .i64 (cmpI (ccc x) (ccc y))) ∧ Below w.heap.size w w' := by
  go_enter Try.func19, Try.ntmps19
  go_wp2_with fail
  refine (ccc_any x _).mono ?_
  rintro e w1 ⟨rfl, hb1⟩
  go_wp2_with fail
  refine (ccc_any y _).mono ?_
  rintro e w2 ⟨rfl, hb2⟩
  have hb : Below w.heap.size w w2 := hb1.trans (hb2.mono hb1.size)
  have HB := Lib.hid hb; clear hb hb1 hb2
  go_wp2_with (go_at_call 28; refine (compare_any _ _ _).mono ?_; rintro e w' ⟨rfl, rfl⟩)
  go_ret
  exact ⟨rfl, HB.out⟩

/-- The values' row, a row of the call's own, all of it. -/
structure RowC (w0 : World) (base gb cap : Nat) (xs : List Int) (w : World) : Prop where
  own : w.ownsRow base 38 1 (.slice (some ⟨gb, 0, none⟩) xs.length cap) xs.length (nums .i64 xs)
  bel : Below base w0 w
namespace RowC
variable {w0 w w' : World} {base gb cap : Nat} {xs : List Int}
theorem cell (h : RowC w0 base gb cap xs w) (i : Nat) (hi : i < xs.length) : w.cell? ⟨gb, i, none⟩ = some (.int .i64 (xs.getD i 0)) := by
  rw [h.own.cellAt i (by omega)]
  simp [nums, List.getElem?_eq_getElem hi, List.getD_eq_getElem?_getD]
theorem frozen (h : RowC w0 base gb cap xs w) (i : Nat) : w.frozen? ⟨gb, i, none⟩ = false := h.own.frozenAt i
theorem lt (h : RowC w0 base gb cap xs w) : gb < w.heap.size := own_lt h.own gb rfl
theorem ge (h : RowC w0 base gb cap xs w) : base ≤ gb := own_base h.own gb rfl
theorem below (h : RowC w0 base gb cap xs w) (hb : Below w.heap.size w w') : RowC w0 base gb cap xs w' := ⟨pw_own_below h.own hb, h.bel.trans (hb.mono (Nat.le_trans h.ge (Nat.le_of_lt h.lt)))⟩
theorem set (h : RowC w0 base gb cap xs w) (i : Nat) (x : Int) : RowC w0 base gb cap (xs.set i x) (w.setCell ⟨gb, i, none⟩ (.int .i64 x)) :=
  ⟨by have := (h.own.stored i (.int .i64 x)).1; simpa [nums, List.map_set] using this, h.bel.setCell h.ge _⟩
theorem drew (h : RowC w0 base gb cap xs w) : RowC w0 base gb cap xs w.drew := h.below (pw_below_drewN (Below.refl _ _) 1)
/-- What an exchange of two of its values finds, and what it leaves. -/
theorem swapping (h : RowC w0 base gb cap xs w) (i j : Nat) (hi : i < xs.length) (hj : j < xs.length) :
    w.cell? ⟨gb, i, none⟩ = some (.int .i64 (xs.getD i 0)) ∧ w.cell? ⟨gb, j, none⟩ = some (.int .i64 (xs.getD j 0)) ∧ (∃ u, (w.setCell ⟨gb, i, none⟩ (.int .i64 (xs.getD j 0))).cell? ⟨gb, j, none⟩ = some u) ∧
    w.frozen? ⟨gb, i, none⟩ = false ∧ w.frozen? ⟨gb, j, none⟩ = false ∧ RowC w0 base gb cap (sw xs i j) ((w.setCell ⟨gb, i, none⟩ (.int .i64 (xs.getD j 0))).setCell ⟨gb, j, none⟩ (.int .i64 (xs.getD i 0))).drew :=
  ⟨h.cell i hi, h.cell j hj, ⟨_, (h.set i _).cell j (by simpa using hj)⟩, h.frozen i, h.frozen j, ((h.set i _).set j _).drew⟩
end RowC

set_option maxHeartbeats 1000000 in
set_option maxRecDepth 100000 in
theorem swapRange_any (w0 : World) (base gb cap off n cv a b k : Nat) (p s m t q : List Int) (f : Value) (w : World) (h : RowC w0 base gb cap (p ++ (s ++ (m ++ (t ++ q)))) w) (hp : p.length = off + a) (hs : s.length = k) (ht : t.length = k) (hm : a + k + m.length = b) (hb : b + k ≤ n) (hn : n < 17592186044416) :
    Calls Try.prog 42 #[.slice (some ⟨gb, off, none⟩) n cv, .int .i64 a, .int .i64 b, .int .i64 k, f] w fun e w' => e = .returned (.tuple #[]) ∧ RowC w0 base gb cap (p ++ (t ++ (m ++ (s ++ q)))) w' := by
  have H := Lib.hid h; clear h
  go_enter Try.func42, Try.ntmps42
  go_wp2_with fail
  go_loopw [10] (fun i wr => ∃ j : Nat, j ≤ k ∧ i = .int .i64 j ∧ Hid (RowC w0 base gb cap (p ++ ((t.take j ++ s.drop j) ++ (m ++ ((s.take j ++ t.drop j) ++ q)))) wr)) (fun i _ => k - (intOf i).toNat)
  case atStart => exact ⟨0, Nat.zero_le _, rfl, by simpa using H⟩
  case round =>
    obtain ⟨j, hj, rfl, HR⟩ := hrel
    clear H
    by_cases hlt : j < k
    · have hltz : (j : Int) < (k : Int) := by omega
      obtain ⟨x, s2, hx⟩ : ∃ x s2, s.drop j = x :: s2 := ⟨s[j], s.drop (j + 1), List.drop_eq_getElem_cons (by omega)⟩
      obtain ⟨y, t2, hy⟩ : ∃ y t2, t.drop j = y :: t2 := ⟨t[j], t.drop (j + 1), List.drop_eq_getElem_cons (by omega)⟩
      have hs2 : s2.length + 1 + j = k := by have := congrArg List.length hx; simp at this; omega
      have e1 : p ++ ((t.take j ++ s.drop j) ++ (m ++ ((s.take j ++ t.drop j) ++ q))) = (p ++ t.take j) ++ x :: ((s2 ++ (m ++ s.take j)) ++ y :: (t2 ++ q)) := by rw [hx, hy]; simp
      have hP : (p ++ t.take j).length = off + (a + j) := by simp; omega
      have hQ : (p ++ t.take j).length + 1 + (s2 ++ (m ++ s.take j)).length = off + (b + j) := by simp; omega
      have h1 := HR.out
      rw [e1] at h1
      obtain ⟨g1, g2, ⟨u, g3⟩, g4, g5, g6⟩ := h1.swapping (off + (a + j)) (off + (b + j)) (by rw [List.length_append]; simp only [List.length_cons, List.length_append] at hQ ⊢; omega) (by simp only [List.length_cons, List.length_append] at hP hQ ⊢; omega)
      have v1 : ((p ++ t.take j) ++ x :: ((s2 ++ (m ++ s.take j)) ++ y :: (t2 ++ q))).getD (off + (a + j)) 0 = x := by rw [← hP]; simp [List.getD_eq_getElem?_getD]
      have v2 : ((p ++ t.take j) ++ x :: ((s2 ++ (m ++ s.take j)) ++ y :: (t2 ++ q))).getD (off + (b + j)) 0 = y := by
        rw [← hQ, List.getD_eq_getElem?_getD, List.getElem?_append_right (by omega), show ∀ A B : Nat, A + 1 + B - A = B + 1 from fun A B => by omega, List.getElem?_cons_succ, List.getElem?_append_right (by omega)]; simp
      have v3 : sw ((p ++ t.take j) ++ x :: ((s2 ++ (m ++ s.take j)) ++ y :: (t2 ++ q))) (off + (a + j)) (off + (b + j)) = p ++ ((t.take (j + 1) ++ s.drop (j + 1)) ++ (m ++ ((s.take (j + 1) ++ t.drop (j + 1)) ++ q))) := by
        have z1 : t.take (j + 1) = t.take j ++ [y] := by rw [List.take_add, hy]; rfl
        have z2 : s.take (j + 1) = s.take j ++ [x] := by rw [List.take_add, hx]; rfl
        have z3 : s.drop (j + 1) = s2 := by rw [← List.drop_drop, hx]; rfl
        have z4 : t.drop (j + 1) = t2 := by rw [← List.drop_drop, hy]; rfl
        rw [← hQ, ← hP, sw_split, z1, z2, z3, z4]; simp
      rw [v1, v2, v3] at g6
      rw [v1] at g1
      rw [v2] at g2 g3
      have G := Lib.hid g6
      clear g6 v1 v2 v3 h1 hP hQ e1 hs2 hx hy HR
      obtain ⟨iN, hiN⟩ : ∃ z, z = a + j := ⟨_, rfl⟩
      obtain ⟨jN, hjN⟩ : ∃ z, z = b + j := ⟨_, rfl⟩
      rw [← hiN] at g1 g3 g4 G
      rw [← hjN] at g2 g3 g5 G
      have ea : ((a : Int) + (j : Int)).toNat = iN := by omega
      have pa : (0 : Int) ≤ (a : Int) + (j : Int) := by omega
      have ba : (a : Int) + (j : Int) < (n : Int) := by omega
      have ra : IntKind.i64.wrap ((a : Int) + (j : Int)) = (a : Int) + (j : Int) := by rw [IntKind.wrap_i64]; omega
      have eb : ((b : Int) + (j : Int)).toNat = jN := by omega
      have pb : (0 : Int) ≤ (b : Int) + (j : Int) := by omega
      have bb : (b : Int) + (j : Int) < (n : Int) := by omega
      have rb : IntKind.i64.wrap ((b : Int) + (j : Int)) = (b : Int) + (j : Int) := by rw [IntKind.wrap_i64]; omega
      clear hiN hjN
      go_wp2_with fail
      go_big_region
      clear g1 g2 g3 g4 g5
      generalize ((wr.setCell ⟨gb, off + iN, none⟩ (Value.int IntKind.i64 y)).setCell ⟨gb, off + jN, none⟩ (Value.int IntKind.i64 x)).drew = w3 at G ⊢
      go_wp2
      go_roundw
      case measure => simp [intOf]; omega
      case rel => exact ⟨j + 1, by omega, by go_num, G⟩
    · obtain rfl : j = k := by omega
      go_wp2
      go_end0
      have e := HR.out
      rw [List.take_of_length_le (by omega), List.drop_of_length_le (by omega), List.take_of_length_le (by omega), List.drop_of_length_le (by omega)] at e
      exact ⟨rfl, by simpa using e⟩
end Go.Proofs.Pt

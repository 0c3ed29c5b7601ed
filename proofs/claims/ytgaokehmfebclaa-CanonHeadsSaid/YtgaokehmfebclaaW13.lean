/- The walk of a turn of two parts of a row. -/
import Derived.Test.YtgaokehmfebclaaW12
namespace Go.Proofs.Pt
open Go Go.RowKit Go.Proofs.YtgaokehmfebclaaW.PrintWords

set_option maxHeartbeats 2000000 in
set_option maxRecDepth 100000 in
theorem rotate_any (w0 : World) (base gb cap off n cv a m b : Nat) (p u v q : List Int) (f : Value) (w : World) (h : RowC w0 base gb cap (p ++ (u ++ (v ++ q))) w) (hp : p.length = off + a) (hu : a + u.length = m) (hv : m + v.length = b) (hu0 : 0 < u.length) (hv0 : 0 < v.length) (hb : b ≤ n) (hn : n < 17592186044416) :
    Calls Try.prog 41 #[.slice (some ⟨gb, off, none⟩) n cv, .int .i64 a, .int .i64 m, .int .i64 b, f] w fun e w' => e = .returned (.tuple #[]) ∧ RowC w0 base gb cap (p ++ (v ++ (u ++ q))) w' := by
  have H := Lib.hid h; clear h
  have ru : IntKind.i64.wrap ((m : Int) - (a : Int)) = (u.length : Int) := by rw [IntKind.wrap_i64]; omega
  have rv : IntKind.i64.wrap ((b : Int) - (m : Int)) = (v.length : Int) := by rw [IntKind.wrap_i64]; omega
  go_enter Try.func41, Try.ntmps41
  go_wp2_with fail
  go_loopw [10, 11] (fun vi vj wr => ∃ (i j a' : Nat) (P U V Q : List Int), vi = .int .i64 i ∧ vj = .int .i64 j ∧ P.length = off + a' ∧ a' + i = m ∧ U.length = i ∧ V.length = j ∧ 0 < i ∧ 0 < j ∧ m + j ≤ n ∧ Hid (P ++ (V ++ (U ++ Q)) = p ++ (v ++ (u ++ q))) ∧ Hid (RowC w0 base gb cap (P ++ (U ++ (V ++ Q))) wr)) (fun vi vj _ => (intOf vi).toNat + (intOf vj).toNat)
  case atStart => exact ⟨u.length, v.length, a, p, u, v, q, rfl, rfl, hp, hu, rfl, rfl, hu0, hv0, by omega, rfl, H⟩
  case round =>
    clear H ru rv
    obtain ⟨i, j, a', P, U, V, Q, rfl, rfl, hP, ha', hU, hV, hi0, hj0, hmj, HE, HR⟩ := hrel
    have rp : IntKind.i64.wrap ((m : Int) - (i : Int)) = (a' : Int) := by rw [IntKind.wrap_i64]; omega
    rcases Nat.lt_trichotomy j i with hlt | heq | hgt
    · have hz1 : ¬ (i : Int) = (j : Int) := by omega
      have hz2 : (j : Int) < (i : Int) := by omega
      have rq : IntKind.i64.wrap ((i : Int) - (j : Int)) = ((i - j : Nat) : Int) := by rw [IntKind.wrap_i64]; omega
      have e1 : P ++ (U ++ (V ++ Q)) = P ++ (U.take j ++ (U.drop j ++ (V ++ Q))) := by rw [← List.append_assoc (U.take j), List.take_append_drop]
      have hr := HR.out
      rw [e1] at hr
      have HR2 := Lib.hid hr
      have HE2 : Hid ((P ++ V) ++ (U.take j ++ (U.drop j ++ Q)) = p ++ (v ++ (u ++ q))) := by show _ = _; rw [← HE.out, ← List.append_assoc (U.take j), List.take_append_drop]; simp
      clear hr e1 HR HE
      go_wp2_with (go_at_call 42; refine (swapRange_any w0 base gb cap off n _ a' m j P (U.take j) (U.drop j) V Q _ _ HR2.out hP (by simp; omega) hV (by simp; omega) hmj hn).mono ?_; rintro e w' ⟨rfl, hw⟩)
      have hw2 : RowC w0 base gb cap ((P ++ V) ++ (U.drop j ++ (U.take j ++ Q))) w' := by simpa using hw
      go_roundw
      case measure => simp [intOf]; omega
      case rel => exact ⟨i - j, j, a' + j, P ++ V, U.drop j, U.take j, Q, rfl, rfl, by simp; omega, by omega, by simp; omega, by simp; omega, by omega, hj0, hmj, HE2, hw2⟩
    · subst heq
      go_wp2_with (go_at_call 42; refine (swapRange_any w0 base gb cap off n _ a' m j P U [] V Q _ _ (by simpa using HR.out) hP hU hV (by simp; omega) hmj hn).mono ?_; rintro e w' ⟨rfl, hw⟩)
      go_end0
      have hw2 : RowC w0 base gb cap (P ++ (V ++ (U ++ Q))) w' := by simpa using hw
      rw [HE.out] at hw2
      exact ⟨rfl, hw2⟩
    · have hz1 : ¬ (i : Int) = (j : Int) := by omega
      have hz2 : ¬ (j : Int) < (i : Int) := by omega
      have rq : IntKind.i64.wrap ((j : Int) - (i : Int)) = ((j - i : Nat) : Int) := by rw [IntKind.wrap_i64]; omega
      have rs : IntKind.i64.wrap ((m : Int) + (j : Int)) = (m : Int) + (j : Int) := by rw [IntKind.wrap_i64]; omega
      have rt : IntKind.i64.wrap ((m : Int) + (j : Int) - (i : Int)) = ((m + (j - i) : Nat) : Int) := by rw [IntKind.wrap_i64]; omega
      have e1 : P ++ (U ++ (V ++ Q)) = P ++ (U ++ (V.take (j - i) ++ (V.drop (j - i) ++ Q))) := by rw [← List.append_assoc (V.take (j - i)), List.take_append_drop]
      have hr := HR.out
      rw [e1] at hr
      have HR2 := Lib.hid hr
      have HE2 : Hid (P ++ (V.take (j - i) ++ (V.drop (j - i) ++ (U ++ Q))) = p ++ (v ++ (u ++ q))) := by show _ = _; rw [← HE.out, ← List.append_assoc (V.take (j - i)), List.take_append_drop]
      clear hr e1 HR HE
      go_wp2_with (go_at_call 42; refine (swapRange_any w0 base gb cap off n _ a' (m + (j - i)) i P U (V.take (j - i)) (V.drop (j - i)) Q _ _ HR2.out hP hU (by simp; omega) (by simp; omega) (by omega) hn).mono ?_; rintro e w' ⟨rfl, hw⟩)
      go_roundw
      case measure => simp [intOf]; omega
      case rel => exact ⟨i, j - i, a', P, V.drop (j - i), V.take (j - i), U ++ Q, rfl, rfl, hP, ha', by simp; omega, by simp; omega, hi0, by omega, by omega, HE2, hw⟩
end Go.Proofs.Pt

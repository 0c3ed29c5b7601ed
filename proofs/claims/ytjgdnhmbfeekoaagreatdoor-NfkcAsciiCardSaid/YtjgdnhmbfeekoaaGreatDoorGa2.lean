/- Lemmas and walks that the claims of this seat share: several texts, joined. -/
import Derived.Test.YtjgdnhmbfeekoaaGreatDoorGa1
/- ==== the text W7 ==== -/
section
/- The walk of package pair's Join: what two values are together. -/
namespace Go.Proofs.Pt
open Go Go.RowKit

def ListedPost (a b : Int) (w : World) (e : Ending) (w' : World) : Prop := ∃ r : Int, ∃ ok : Bool, e = .returned (.tuple #[.int .i64 r, .bool ok]) ∧ r = (assoc2 pairT a b).getD 0 ∧ ok = (assoc2 pairT a b).isSome ∧ Below w.heap.size w w'
set_option maxHeartbeats 1000000 in
set_option maxRecDepth 100000 in
theorem listed_any (a b : Int) (w : World) : Calls Tryz.prog 80 #[.agg #[.int .i64 a, .int .i64 b]] w (ListedPost a b w) := by
  have hp : Below w.heap.size w (w.alloc (Obj.cells #[Value.int .i64 a, Value.int .i64 b] 52)) := (Below.refl _ _).alloc (Nat.le_refl _) _
  have ha1 : (w.alloc (Obj.cells #[Value.int .i64 a, Value.int .i64 b] 52)).cell? ⟨w.heap.size, 0, none⟩ = some (.int .i64 a) := by simp
  have ha2 : (w.alloc (Obj.cells #[Value.int .i64 a, Value.int .i64 b] 52)).cell? ⟨w.heap.size, 1, none⟩ = some (.int .i64 b) := by simp
  have hz : w.heap.size < (w.alloc (Obj.cells #[Value.int .i64 a, Value.int .i64 b] 52)).heap.size := by simp
  have HP := Lib.hid hp; have HA1 := Lib.hid ha1; have HA2 := Lib.hid ha2; have HZ := Lib.hid hz; clear hp ha1 ha2 hz
  go_enter Tryz.func80, Tryz.ntmps80
  go_wp2_with fail
  generalize w.alloc (Obj.cells #[Value.int .i64 a, Value.int .i64 b] 52) = w1 at HP HA1 HA2 HZ ⊢
  refine (low_run _).mono ?_
  rintro e w' ⟨rfl, rfl⟩
  have ht : SpanAt (w1.alloc (.cells (cells3 lowT) 58)) w1.heap.size lowT := span_new _ _ _
  have hb2 : Below w1.heap.size w1 (w1.alloc (.cells (cells3 lowT) 58)) := (Below.refl _ _).alloc (Nat.le_refl _) _
  have hz2 : w1.heap.size < (w1.alloc (.cells (cells3 lowT) 58)).heap.size := by simp
  have HT := Lib.hid ht; have HB2 := Lib.hid hb2; have HZ2 := Lib.hid hz2; clear ht hb2 hz2
  generalize w1.alloc (.cells (cells3 lowT) 58) = w2 at HT HB2 HZ2 ⊢
  have hA1 : w2.cell? ⟨w.heap.size, 0, none⟩ = some (.int .i64 a) := (HB2.out.cell (p := ⟨w.heap.size, 0, none⟩) HZ.out).trans HA1.out
  have hA2 : w2.cell? ⟨w.heap.size, 1, none⟩ = some (.int .i64 b) := (HB2.out.cell (p := ⟨w.heap.size, 1, none⟩) HZ.out).trans HA2.out
  rw [lowT_length]
  have hc := HT.out 155 (by rw [lowT_length]; omega)
  obtain ⟨p, hp⟩ : ∃ p, p = lowT.getD 155 (0, 0, 0) := ⟨_, rfl⟩
  rw [← hp] at hc
  have HPP := Lib.hid hp; clear hp
  obtain ⟨hc1, hc2, hc3⟩ := hc
  go_wp2_with fail
  refine wp_region_still_tail 8 (by kernel_rfl) (by kernel_rfl) ?_
  change wpStill _ _ w2.drew (fun a' => wpList _ _ _ _ a' w2.drew) _ _
  have hB1 : w2.drew.cell? ⟨w.heap.size, 0, none⟩ = some (.int .i64 a) := hA1
  have hB2 : w2.drew.cell? ⟨w.heap.size, 1, none⟩ = some (.int .i64 b) := hA2
  have hd1 : w2.drew.cell? ⟨w1.heap.size, 155 * 3, none⟩ = _ := hc1
  have hd2 : w2.drew.cell? ⟨w1.heap.size, 155 * 3 + 1, none⟩ = _ := hc2
  have hd3 : w2.drew.cell? ⟨w1.heap.size, 155 * 3 + 2, none⟩ = _ := hc3
  have HB3 : Hid (Below w1.heap.size w1 w2.drew) := below_drewN HB2.out 1
  have HT3 : Hid (SpanAt w2.drew w1.heap.size lowT) := HT.out
  have HZ3 : Hid (w1.heap.size < w2.drew.heap.size) := HZ2.out
  clear hA1 hA2 hc1 hc2 hc3 HB2 HT HZ2
  generalize w2.drew = w3 at hB1 hB2 hd1 hd2 hd3 HB3 HT3 HZ3 ⊢
  simp only [List.take_succ_cons, List.take_zero, List.drop_succ_cons, List.drop_zero]
  have hw155 : IntKind.i64.wrap 155 = 155 := by decide +kernel
  iterate 8 still_step
  clear hw155
  refine wpStill_nil ?_
  go_wp2_with fail
  refine (order_any a b p.1 p.2.1 _).mono ?_
  rintro e w' ⟨rfl, hb'⟩
  have hB1' : w'.cell? ⟨w.heap.size, 0, none⟩ = some (.int .i64 a) := (hb'.cell (p := ⟨w.heap.size, 0, none⟩) (Nat.lt_trans HZ.out HZ3.out)).trans hB1
  have hB2' : w'.cell? ⟨w.heap.size, 1, none⟩ = some (.int .i64 b) := (hb'.cell (p := ⟨w.heap.size, 1, none⟩) (Nat.lt_trans HZ.out HZ3.out)).trans hB2
  have HT4 : Hid (SpanAt w' w1.heap.size lowT) := HT3.out.below HZ3.out hb'
  have HB5 : Hid (Below w.heap.size w w') := (HP.out.trans (HB3.out.mono (Nat.le_of_lt HZ.out))).trans (hb'.mono (Nat.le_trans (Nat.le_of_lt HZ.out) HB3.out.size))
  have HZ5 : Hid (w1.heap.size < w'.heap.size) := Nat.lt_of_lt_of_le HZ3.out hb'.size
  clear hb' hB1 hB2 hd1 hd2 hd3 HB3 HT3 HZ3
  by_cases hq : 0 < lexI a b p.1 p.2.1
  · have HALF : Hid (assoc2 pairT a b = assoc2 highT a b) := half_high (by rw [← HPP.out]; exact lexI_flip.1 hq)
    go_wp2_with fail
    refine (high_run _).mono ?_
    rintro e w5 ⟨rfl, rfl⟩
    have ht : SpanAt (w'.alloc (.cells (cells3 highT) 58)) w'.heap.size highT := span_new _ _ _
    have hzz : w'.heap.size < (w'.alloc (.cells (cells3 highT) 58)).heap.size := by simp
    have hbb : Below w'.heap.size w' (w'.alloc (.cells (cells3 highT) 58)) := (Below.refl _ _).alloc (Nat.le_refl _) _
    have HT3 := Lib.hid ht; have HZ3 := Lib.hid hzz; have HB6 := Lib.hid hbb; clear ht hzz hbb
    have hC1 : (w'.alloc (.cells (cells3 highT) 58)).cell? ⟨w.heap.size, 0, none⟩ = some (.int .i64 a) := (HB6.out.cell (p := ⟨w.heap.size, 0, none⟩) (Nat.lt_trans HZ.out HZ5.out)).trans hB1'
    have hC2 : (w'.alloc (.cells (cells3 highT) 58)).cell? ⟨w.heap.size, 1, none⟩ = some (.int .i64 b) := (HB6.out.cell (p := ⟨w.heap.size, 1, none⟩) (Nat.lt_trans HZ.out HZ5.out)).trans hB2'
    have HB3 : Hid (Below w.heap.size w (w'.alloc (.cells (cells3 highT) 58))) := HB5.out.trans (HB6.out.mono HB5.out.size)
    clear hB1' hB2' HB6 HT4 hq
    generalize w'.alloc (.cells (cells3 highT) 58) = w6 at HT3 HZ3 hC1 hC2 HB3 ⊢
    go_wp2_with fail
    refine (search2_any _ _ highT a b _ (HT3.out) (HZ3.out) (by have := pairT_length; have := pairT_size; omega) (key_mono highT_asc a b)).mono ?_
    rintro e w4 ⟨k, rfl, hk, h1, h2, hb4⟩
    have hf := found highT_asc h1 h2
    have HF := Lib.hid hf; clear hf h1 h2
    have HB4 := Lib.hid hb4; clear hb4
    by_cases hok : k < highT.length ∧ keyI highT a b k = 0
    · have hd : decide (k < highT.length ∧ keyI highT a b k = 0) = true := decide_eq_true hok
      rw [hd]
      have hr := HF.out.1 hok
      have hc := (HT3.out).below (HZ3.out) HB4.out k hok.1
      have hkz : (k : Int) < (highT.length : Int) := by omega
      have HR := Lib.hid hr; clear hr hd hok
      generalize highT.getD k (0, 0, 0) = q at hc HR
      obtain ⟨hq1, hq2, hq3⟩ := hc
      go_wp2
      go_ret2
      exact ⟨_, _, rfl, by rw [HALF.out, HR.out]; rfl, by rw [HALF.out, HR.out]; rfl, HB3.out.trans (HB4.out.mono HB3.out.size)⟩
    · have hd : decide (k < highT.length ∧ keyI highT a b k = 0) = false := decide_eq_false hok
      rw [hd]
      have hr := HF.out.2 hok
      have HR := Lib.hid hr; clear hr hd hok
      go_wp2
      go_ret2
      exact ⟨_, _, rfl, by rw [HALF.out, HR.out]; rfl, by rw [HALF.out, HR.out]; rfl, HB3.out.trans (HB4.out.mono HB3.out.size)⟩
  · have HALF : Hid (assoc2 pairT a b = assoc2 lowT a b) := half_low (by rw [← HPP.out]; intro h; exact hq (lexI_flip.2 h))
    have HT3 := HT4
    have HZ3 := HZ5
    have HB3 := HB5
    clear HT4 HB5
    rw [show (156 : Nat) = lowT.length from lowT_length.symm]
    go_wp2_with fail
    refine (search2_any _ _ lowT a b _ (HT3.out) (HZ3.out) (by rw [lowT_length]; omega) (key_mono lowT_asc a b)).mono ?_
    rintro e w4 ⟨k, rfl, hk, h1, h2, hb4⟩
    have hf := found lowT_asc h1 h2
    have HF := Lib.hid hf; clear hf h1 h2
    have HB4 := Lib.hid hb4; clear hb4
    by_cases hok : k < lowT.length ∧ keyI lowT a b k = 0
    · have hd : decide (k < lowT.length ∧ keyI lowT a b k = 0) = true := decide_eq_true hok
      rw [hd]
      have hr := HF.out.1 hok
      have hc := (HT3.out).below (HZ3.out) HB4.out k hok.1
      have hkz : (k : Int) < (lowT.length : Int) := by omega
      have HR := Lib.hid hr; clear hr hd hok
      generalize lowT.getD k (0, 0, 0) = q at hc HR
      obtain ⟨hq1, hq2, hq3⟩ := hc
      go_wp2
      go_ret2
      exact ⟨_, _, rfl, by rw [HALF.out, HR.out]; rfl, by rw [HALF.out, HR.out]; rfl, HB3.out.trans (HB4.out.mono HB3.out.size)⟩
    · have hd : decide (k < lowT.length ∧ keyI lowT a b k = 0) = false := decide_eq_false hok
      rw [hd]
      have hr := HF.out.2 hok
      have HR := Lib.hid hr; clear hr hd hok
      go_wp2
      go_ret2
      exact ⟨_, _, rfl, by rw [HALF.out, HR.out]; rfl, by rw [HALF.out, HR.out]; rfl, HB3.out.trans (HB4.out.mono HB3.out.size)⟩
end Go.Proofs.Pt
end

/- ==== the text W8 ==== -/
section
/- The walk of package pair's Join: what two values are together. -/
namespace Go.Proofs.Pt
open Go Go.RowKit

def inR (r lo hi : Int) : Bool := decide (lo ≤ r) && decide (r ≤ hi)
theorem inR_iff {r lo hi : Int} : inR r lo hi = true ↔ lo ≤ r ∧ r ≤ hi := by simp [inR]
theorem within_any (r lo hi : Int) (w : World) : Calls Tryz.prog 49 #[.int .i64 r, .int .i64 lo, .int .i64 hi] w fun e w' => e = .returned (.bool (inR r lo hi)) ∧ w' = w := by
  by_cases h1 : lo ≤ r
  · by_cases h2 : r ≤ hi
    · have hv : inR r lo hi = true := inR_iff.2 ⟨h1, h2⟩
      have HV := Lib.hid hv; clear hv
      go_enter Tryz.func49, Tryz.ntmps49
      go_wp2
      go_ret
      exact ⟨by rw [HV.out]; rfl, rfl⟩
    · have hv : inR r lo hi = false := by simp [inR, h2]
      have HV := Lib.hid hv; clear hv
      go_enter Tryz.func49, Tryz.ntmps49
      go_wp2
      go_ret
      exact ⟨by rw [HV.out]; rfl, rfl⟩
  · have hv : inR r lo hi = false := by simp [inR, h1]
    have HV := Lib.hid hv; clear hv
    go_enter Tryz.func49, Tryz.ntmps49
    go_wp2
    go_ret
    exact ⟨by rw [HV.out]; rfl, rfl⟩
def JoinPost (a b : Int) (w : World) (e : Ending) (w' : World) : Prop := ∃ r : Int, ∃ ok : Bool, e = .returned (.tuple #[.int .i64 r, .bool ok]) ∧ r = (join a b).getD 0 ∧ ok = (join a b).isSome ∧ Below w.heap.size w w'
set_option maxHeartbeats 1000000 in
theorem join_any (a b : Int) (w : World) : Calls Tryz.prog 48 #[.int .i64 a, .int .i64 b] w (JoinPost a b w) := by
  cases hA1 : inR a 4352 4370 with
  | true =>
    obtain ⟨a1, a2⟩ := inR_iff.1 hA1
    have hA2 : inR a 44032 55203 = false := by rw [← Bool.not_eq_true, inR_iff]; omega
    cases hB1 : inR b 4449 4469 with
    | true =>
      obtain ⟨b1, b2⟩ := inR_iff.1 hB1
      have hj : join a b = some (44032 + ((a - 4352) * 21 + b - 4449) * 28) := by unfold join; rw [if_pos ⟨⟨a1, a2⟩, b1, b2⟩]; congr 1; omega
      have HJ := Lib.hid hj; clear hj
      go_enter Tryz.func48, Tryz.ntmps48
      go_wp2_with (go_at_call 49; refine (within_any _ _ _ _).mono ?_; rintro e w' ⟨rfl, rfl⟩)
      go_ret2
      exact ⟨_, _, rfl, by rw [HJ.out]; rfl, by rw [HJ.out]; rfl, Below.refl _ _⟩
    | false =>
      have hb1 : ¬ (4449 ≤ b ∧ b ≤ 4469) := by rw [← inR_iff, hB1]; simp
      have HB := Lib.hid hb1; clear hb1
      have hj : join a b = assoc2 pairT a b := by unfold join; rw [if_neg (fun h => HB.out h.2), if_neg (by omega)]
      have HJ := Lib.hid hj; clear hj
      go_enter Tryz.func48, Tryz.ntmps48
      go_wp2_with (first | (go_at_call 49; refine (within_any _ _ _ _).mono ?_; rintro e w' ⟨rfl, rfl⟩) | (go_at_call 80; refine (listed_any _ _ _).mono ?_; rintro e w' ⟨r, ok, rfl, hr, hok, hb⟩))
      go_ret2
      exact ⟨_, _, rfl, by rw [HJ.out], by rw [HJ.out], hb⟩
  | false =>
    have ha1 : ¬ (4352 ≤ a ∧ a ≤ 4370) := by rw [← inR_iff, hA1]; simp
    have HA := Lib.hid ha1; clear ha1
    cases hA2 : inR a 44032 55203 with
    | false =>
      have ha2 : ¬ (44032 ≤ a ∧ a ≤ 55203) := by rw [← inR_iff, hA2]; simp
      have HA2 := Lib.hid ha2; clear ha2
      have hj : join a b = assoc2 pairT a b := by unfold join; rw [if_neg (fun h => HA.out h.1), if_neg (fun h => HA2.out h.1.1)]
      have HJ := Lib.hid hj; clear hj
      go_enter Tryz.func48, Tryz.ntmps48
      go_wp2_with (first | (go_at_call 49; refine (within_any _ _ _ _).mono ?_; rintro e w' ⟨rfl, rfl⟩) | (go_at_call 80; refine (listed_any _ _ _).mono ?_; rintro e w' ⟨r, ok, rfl, hr, hok, hb⟩))
      go_ret2
      exact ⟨_, _, rfl, by rw [HJ.out], by rw [HJ.out], hb⟩
    | true =>
      obtain ⟨a1, a2⟩ := inR_iff.1 hA2
      by_cases hm : (a - 44032) % 28 = 0
      · cases hB2 : inR b 4520 4546 with
        | true =>
          obtain ⟨b1, b2⟩ := inR_iff.1 hB2
          have hj : join a b = some (a + b - 4519) := by unfold join; rw [if_neg (fun h => HA.out h.1), if_pos ⟨⟨⟨a1, a2⟩, hm⟩, b1, b2⟩]
          have HJ := Lib.hid hj; clear hj
          go_enter Tryz.func48, Tryz.ntmps48
          go_wp2_with (go_at_call 49; refine (within_any _ _ _ _).mono ?_; rintro e w' ⟨rfl, rfl⟩)
          go_ret2
          exact ⟨_, _, rfl, by rw [HJ.out]; rfl, by rw [HJ.out]; rfl, Below.refl _ _⟩
        | false =>
          have hb2 : ¬ (4520 ≤ b ∧ b ≤ 4546) := by rw [← inR_iff, hB2]; simp
          have HB := Lib.hid hb2; clear hb2
          have hj : join a b = assoc2 pairT a b := by unfold join; rw [if_neg (fun h => HA.out h.1), if_neg (fun h => HB.out h.2)]
          have HJ := Lib.hid hj; clear hj
          go_enter Tryz.func48, Tryz.ntmps48
          go_wp2_with (first | (go_at_call 49; refine (within_any _ _ _ _).mono ?_; rintro e w' ⟨rfl, rfl⟩) | (go_at_call 80; refine (listed_any _ _ _).mono ?_; rintro e w' ⟨r, ok, rfl, hr, hok, hb⟩))
          go_ret2
          exact ⟨_, _, rfl, by rw [HJ.out], by rw [HJ.out], hb⟩
      · have HM := Lib.hid hm
        have hj : join a b = assoc2 pairT a b := by unfold join; rw [if_neg (fun h => HA.out h.1), if_neg (fun h => HM.out h.1.2)]
        have HJ := Lib.hid hj; clear hj
        go_enter Tryz.func48, Tryz.ntmps48
        go_wp2_with (first | (go_at_call 49; refine (within_any _ _ _ _).mono ?_; rintro e w' ⟨rfl, rfl⟩) | (go_at_call 80; refine (listed_any _ _ _).mono ?_; rintro e w' ⟨r, ok, rfl, hr, hok, hb⟩))
        go_ret2
        exact ⟨_, _, rfl, by rw [HJ.out], by rw [HJ.out], hb⟩

end Go.Proofs.Pt
end

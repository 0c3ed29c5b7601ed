/- Lemmas and walks that the claims of this seat share: several texts, joined. -/
import Derived.Test.YtjgdnhmbfeekoaaGreatDoorGa1
import Derived.Test.YtjgdnhmbfeekoaaGreatDoorGw1
import Derived.Test.YtjgdnhmbfeekoaaGreatDoorProg
import Derived.Below
import Derived.Deep.Draws
import Derived.Deep.AppendLies
import Derived.Maps.AppendAt
import Derived.OwnWalk
import Derived.Laws.BytesArg
import Derived.Laws.MakeOwn
import Derived.Laws.OwnMore
import Derived.Deep.OwnRows
import Derived.Tactics
import Derived.Lib.ConvBytes
import Derived.Laws.Slices
import Derived.WalkKit
import Derived.KernelRfl
import Derived.RowKit3
import Derived.Deep.LoopGhost
import Derived.Deep.QuietTactic
import Derived.BigQuiet
import Derived.WideLaws
import Derived.Deep.DeepCutAuto
import Derived.Deep.CutBlock
import Derived.Deep.RegionHeld3
import Derived.Laws.Rows
import Derived.Lib.AppendStr
import Derived.ArgAppend
import Derived.Laws.IdiomCopy
import Derived.OrdersHeld
import Derived.Laws.BitsLemmas
import Derived.RowKit
import Derived.Test.YtjgdnhmbfeekoaaGreatDoorGw2
import Derived.Test.YtjgdnhmbfeekoaaGreatDoorGw3
import Derived.BigRegion
/- ==== the text W7 ==== -/
section
/- The walk of package pair's Join: what two values are together. -/
namespace Go.Proofs.Pt
open Go Go.RowKit

def ListedPost (a b : Int) (w : World) (e : Ending) (w' : World) : Prop := ∃ r : Int, ∃ ok : Bool, e = .returned (.tuple #[.int .i64 r, .bool ok]) ∧ r = (assoc2 pairT a b).getD 0 ∧ ok = (assoc2 pairT a b).isSome ∧ Below w.heap.size w w'
set_option maxHeartbeats 1000000 in
set_option maxRecDepth 100000 in
theorem listed_any (a b : Int) (w : World) : Calls Tryz.prog 80 #[.agg #[.int .i64 a, .int .i64 b]] w (ListedPost a b w) := by
  have hp : Below w.heap.size w (w.alloc (Obj.cells #[Value.int .i64 a, Value.int .i64 b] 52)) := (Below.refl _ _).alloc (Nat.le_refl _) _
  have ha1 : (w.alloc (Obj.cells #[Value.int .i64 a, Value.int .i64 b] 52)).cell? ⟨w.heap.size, 0, none⟩ = some (.int .i64 a) := by simp
  have ha2 : (w.alloc (Obj.cells #[Value.int .i64 a, Value.int .i64 b] 52)).cell? ⟨w.heap.size, 1, none⟩ = some (.int .i64 b) := by simp
  have hz : w.heap.size < (w.alloc (Obj.cells #[Value.int .i64 a, Value.int .i64 b] 52)).heap.size := by simp
  have HP := Lib.hid hp; have HA1 := Lib.hid ha1; have HA2 := Lib.hid ha2; have HZ := Lib.hid hz; clear hp ha1 ha2 hz
  go_enter Tryz.func80, Tryz.ntmps80
  go_wp2_with fail
  generalize w.alloc (Obj.cells #[Value.int .i64 a, Value.int .i64 b] 52) = w1 at HP HA1 HA2 HZ ⊢
  refine (low_run _).mono ?_
  rintro e w' ⟨rfl, rfl⟩
  have ht : SpanAt (w1.alloc (.cells (cells3 lowT) 58)) w1.heap.size lowT := span_new _ _ _
  have hb2 : Below w1.heap.size w1 (w1.alloc (.cells (cells3 lowT) 58)) := (Below.refl _ _).alloc (Nat.le_refl _) _
  have hz2 : w1.heap.size < (w1.alloc (.cells (cells3 lowT) 58)).heap.size := by simp
  have HT := Lib.hid ht; have HB2 := Lib.hid hb2; have HZ2 := Lib.hid hz2; clear ht hb2 hz2
  generalize w1.alloc (.cells (cells3 lowT) 58) = w2 at HT HB2 HZ2 ⊢
  have hA1 : w2.cell? ⟨w.heap.size, 0, none⟩ = some (.int .i64 a) := (HB2.out.cell (p := ⟨w.heap.size, 0, none⟩) HZ.out).trans HA1.out
  have hA2 : w2.cell? ⟨w.heap.size, 1, none⟩ = some (.int .i64 b) := (HB2.out.cell (p := ⟨w.heap.size, 1, none⟩) HZ.out).trans HA2.out
  rw [lowT_length]
  have hc := HT.out 155 (by rw [lowT_length]; omega)
  obtain ⟨p, hp⟩ : ∃ p, p = lowT.getD 155 (0, 0, 0) := ⟨_, rfl⟩
  rw [← hp] at hc
  have HPP := Lib.hid hp; clear hp
  obtain ⟨hc1, hc2, hc3⟩ := hc
  go_wp2_with fail
  refine wp_region_still_tail 8 (by kernel_rfl) (by kernel_rfl) ?_
  change wpStill _ _ w2.drew (fun a' => wpList _ _ _ _ a' w2.drew) _ _
  have hB1 : w2.drew.cell? ⟨w.heap.size, 0, none⟩ = some (.int .i64 a) := hA1
  have hB2 : w2.drew.cell? ⟨w.heap.size, 1, none⟩ = some (.int .i64 b) := hA2
  have hd1 : w2.drew.cell? ⟨w1.heap.size, 155 * 3, none⟩ = _ := hc1
  have hd2 : w2.drew.cell? ⟨w1.heap.size, 155 * 3 + 1, none⟩ = _ := hc2
  have hd3 : w2.drew.cell? ⟨w1.heap.size, 155 * 3 + 2, none⟩ = _ := hc3
  have HB3 : Hid (Below w1.heap.size w1 w2.drew) := below_drewN HB2.out 1
  have HT3 : Hid (SpanAt w2.drew w1.heap.size lowT) := HT.out
  have HZ3 : Hid (w1.heap.size < w2.drew.heap.size) := HZ2.out
  clear hA1 hA2 hc1 hc2 hc3 HB2 HT HZ2
  generalize w2.drew = w3 at hB1 hB2 hd1 hd2 hd3 HB3 HT3 HZ3 ⊢
  simp only [List.take_succ_cons, List.take_zero, List.drop_succ_cons, List.drop_zero]
  have hw155 : IntKind.i64.wrap 155 = 155 := by decide +kernel
  iterate 8 still_step
  clear hw155
  refine wpStill_nil ?_
  go_wp2_with fail
  refine (order_any a b p.1 p.2.1 _).mono ?_
  rintro e w' ⟨rfl, hb'⟩
  have hB1' : w'.cell? ⟨w.heap.size, 0, none⟩ = some (.int .i64 a) := (hb'.cell (p := ⟨w.heap.size, 0, none⟩) (Nat.lt_trans HZ.out HZ3.out)).trans hB1
  have hB2' : w'.cell? ⟨w.heap.size, 1, none⟩ = some (.int .i64 b) := (hb'.cell (p := ⟨w.heap.size, 1, none⟩) (Nat.lt_trans HZ.out HZ3.out)).trans hB2
  have HT4 : Hid (SpanAt w' w1.heap.size lowT) := HT3.out.below HZ3.out hb'
  have HB5 : Hid (Below w.heap.size w w') := (HP.out.trans (HB3.out.mono (Nat.le_of_lt HZ.out))).trans (hb'.mono (Nat.le_trans (Nat.le_of_lt HZ.out) HB3.out.size))
  have HZ5 : Hid (w1.heap.size < w'.heap.size) := Nat.lt_of_lt_of_le HZ3.out hb'.size
  clear hb' hB1 hB2 hd1 hd2 hd3 HB3 HT3 HZ3
  by_cases hq : 0 < lexI a b p.1 p.2.1
  · have HALF : Hid (assoc2 pairT a b = assoc2 highT a b) := half_high (by rw [← HPP.out]; exact lexI_flip.1 hq)
    go_wp2_with fail
    refine (high_run _).mono ?_
    rintro e w5 ⟨rfl, rfl⟩
    have ht : SpanAt (w'.alloc (.cells (cells3 highT) 58)) w'.heap.size highT := span_new _ _ _
    have hzz : w'.heap.size < (w'.alloc (.cells (cells3 highT) 58)).heap.size := by simp
    have hbb : Below w'.heap.size w' (w'.alloc (.cells (cells3 highT) 58)) := (Below.refl _ _).alloc (Nat.le_refl _) _
    have HT3 := Lib.hid ht; have HZ3 := Lib.hid hzz; have HB6 := Lib.hid hbb; clear ht hzz hbb
    have hC1 : (w'.alloc (.cells (cells3 highT) 58)).cell? ⟨w.heap.size, 0, none⟩ = some (.int .i64 a) := (HB6.out.cell (p := ⟨w.heap.size, 0, none⟩) (Nat.lt_trans HZ.out HZ5.out)).trans hB1'
    have hC2 : (w'.alloc (.cells (cells3 highT) 58)).cell? ⟨w.heap.size, 1, none⟩ = some (.int .i64 b) := (HB6.out.cell (p := ⟨w.heap.size, 1, none⟩) (Nat.lt_trans HZ.out HZ5.out)).trans hB2'
    have HB3 : Hid (Below w.heap.size w (w'.alloc (.cells (cells3 highT) 58))) := HB5.out.trans (HB6.out.mono HB5.out.size)
    clear hB1' hB2' HB6 HT4 hq
    generalize w'.alloc (.cells (cells3 highT) 58) = w6 at HT3 HZ3 hC1 hC2 HB3 ⊢
    go_wp2_with fail
    refine (search2_any _ _ highT a b _ (HT3.out) (HZ3.out) (by have := pairT_length; have := pairT_size; omega) (key_mono highT_asc a b)).mono ?_
    rintro e w4 ⟨k, rfl, hk, h1, h2, hb4⟩
    have hf := found highT_asc h1 h2
    have HF := Lib.hid hf; clear hf h1 h2
    have HB4 := Lib.hid hb4; clear hb4
    by_cases hok : k < highT.length ∧ keyI highT a b k = 0
    · have hd : decide (k < highT.length ∧ keyI highT a b k = 0) = true := decide_eq_true hok
      rw [hd]
      have hr := HF.out.1 hok
      have hc := (HT3.out).below (HZ3.out) HB4.out k hok.1
      have hkz : (k : Int) < (highT.length : Int) := by omega
      have HR := Lib.hid hr; clear hr hd hok
      generalize highT.getD k (0, 0, 0) = q at hc HR
      obtain ⟨hq1, hq2, hq3⟩ := hc
      go_wp2
      go_ret2
      exact ⟨_, _, rfl, by rw [HALF.out, HR.out]; rfl, by rw [HALF.out, HR.out]; rfl, HB3.out.trans (HB4.out.mono HB3.out.size)⟩
    · have hd : decide (k < highT.length ∧ keyI highT a b k = 0) = false := decide_eq_false hok
      rw [hd]
      have hr := HF.out.2 hok
      have HR := Lib.hid hr; clear hr hd hok
      go_wp2
      go_ret2
      exact ⟨_, _, rfl, by rw [HALF.out, HR.out]; rfl, by rw [HALF.out, HR.out]; rfl, HB3.out.trans (HB4.out.mono HB3.out.size)⟩
  · have HALF : Hid (assoc2 pairT a b = assoc2 lowT a b) := half_low (by rw [← HPP.out]; intro h; exact hq (lexI_flip.2 h))
    have HT3 := HT4
    have HZ3 := HZ5
    have HB3 := HB5
    clear HT4 HB5
    rw [show (156 : Nat) = lowT.length from lowT_length.symm]
    go_wp2_with fail
    refine (search2_any _ _ lowT a b _ (HT3.out) (HZ3.out) (by rw [lowT_length]; omega) (key_mono lowT_asc a b)).mono ?_
    rintro e w4 ⟨k, rfl, hk, h1, h2, hb4⟩
    have hf := found lowT_asc h1 h2
    have HF := Lib.hid hf; clear hf h1 h2
    have HB4 := Lib.hid hb4; clear hb4
    by_cases hok : k < lowT.length ∧ keyI lowT a b k = 0
    · have hd : decide (k < lowT.length ∧ keyI lowT a b k = 0) = true := decide_eq_true hok
      rw [hd]
      have hr := HF.out.1 hok
      have hc := (HT3.out).below (HZ3.out) HB4.out k hok.1
      have hkz : (k : Int) < (lowT.length : Int) := by omega
      have HR := Lib.hid hr; clear hr hd hok
      generalize lowT.getD k (0, 0, 0) = q at hc HR
      obtain ⟨hq1, hq2, hq3⟩ := hc
      go_wp2
      go_ret2
      exact ⟨_, _, rfl, by rw [HALF.out, HR.out]; rfl, by rw [HALF.out, HR.out]; rfl, HB3.out.trans (HB4.out.mono HB3.out.size)⟩
    · have hd : decide (k < lowT.length ∧ keyI lowT a b k = 0) = false := decide_eq_false hok
      rw [hd]
      have hr := HF.out.2 hok
      have HR := Lib.hid hr; clear hr hd hok
      go_wp2
      go_ret2
      exact ⟨_, _, rfl, by rw [HALF.out, HR.out]; rfl, by rw [HALF.out, HR.out]; rfl, HB3.out.trans (HB4.out.mono HB3.out.size)⟩
end Go.Proofs.Pt
end

/- ==== the text W8 ==== -/
section
/- The walk of package pair's Join: what two values are together. -/
namespace Go.Proofs.Pt
open Go Go.RowKit

def inR (r lo hi : Int) : Bool := decide (lo ≤ r) && decide (r ≤ hi)
theorem inR_iff {r lo hi : Int} : inR r lo hi = true ↔ lo ≤ r ∧ r ≤ hi := by simp [inR]
theorem within_any (r lo hi : Int) (w : World) : Calls Tryz.prog 49 #[.int .i64 r, .int .i64 lo, .int .i64 hi] w fun e w' => e = .returned (.bool (inR r lo hi)) ∧ w' = w := by
  by_cases h1 : lo ≤ r
  · by_cases h2 : r ≤ hi
    · have hv : inR r lo hi = true := inR_iff.2 ⟨h1, h2⟩
      have HV := Lib.hid hv; clear hv
      go_enter Tryz.func49, Tryz.ntmps49
      go_wp2
      go_ret
      exact ⟨by rw [HV.out]; rfl, rfl⟩
    · have hv : inR r lo hi = false := by simp [inR, h2]
      have HV := Lib.hid hv; clear hv
      go_enter Tryz.func49, Tryz.ntmps49
      go_wp2
      go_ret
      exact ⟨by rw [HV.out]; rfl, rfl⟩
  · have hv : inR r lo hi = false := by simp [inR, h1]
    have HV := Lib.hid hv; clear hv
    go_enter Tryz.func49, Tryz.ntmps49
    go_wp2
    go_ret
    exact ⟨by rw [HV.out]; rfl, rfl⟩
def JoinPost (a b : Int) (w : World) (e : Ending) (w' : World) : Prop := ∃ r : Int, ∃ ok : Bool, e = .returned (.tuple #[.int .i64 r, .bool ok]) ∧ r = (join a b).getD 0 ∧ ok = (join a b).isSome ∧ Below w.heap.size w w'
set_option maxHeartbeats 1000000 in
theorem join_any (a b : Int) (w : World) : Calls Tryz.prog 48 #[.int .i64 a, .int .i64 b] w (JoinPost a b w) := by
  cases hA1 : inR a 4352 4370 with
  | true =>
    obtain ⟨a1, a2⟩ := inR_iff.1 hA1
    have hA2 : inR a 44032 55203 = false := by rw [← Bool.not_eq_true, inR_iff]; omega
    cases hB1 : inR b 4449 4469 with
    | true =>
      obtain ⟨b1, b2⟩ := inR_iff.1 hB1
      have hj : join a b = some (44032 + ((a - 4352) * 21 + b - 4449) * 28) := by unfold join; rw [if_pos ⟨⟨a1, a2⟩, b1, b2⟩]; congr 1; omega
      have HJ := Lib.hid hj; clear hj
      go_enter Tryz.func48, Tryz.ntmps48
      go_wp2_with (go_at_call 49; refine (within_any _ _ _ _).mono ?_; rintro e w' ⟨rfl, rfl⟩)
      go_ret2
      exact ⟨_, _, rfl, by rw [HJ.out]; rfl, by rw [HJ.out]; rfl, Below.refl _ _⟩
    | false =>
      have hb1 : ¬ (4449 ≤ b ∧ b ≤ 4469) := by rw [← inR_iff, hB1]; simp
      have HB := Lib.hid hb1; clear hb1
      have hj : join a b = assoc2 pairT a b := by unfold join; rw [if_neg (fun h => HB.out h.2), if_neg (by omega)]
      have HJ := Lib.hid hj; clear hj
      go_enter Tryz.func48, Tryz.ntmps48
      go_wp2_with (first | (go_at_call 49; refine (within_any _ _ _ _).mono ?_; rintro e w' ⟨rfl, rfl⟩) | (go_at_call 80; refine (listed_any _ _ _).mono ?_; rintro e w' ⟨r, ok, rfl, hr, hok, hb⟩))
      go_ret2
      exact ⟨_, _, rfl, by rw [HJ.out], by rw [HJ.out], hb⟩
  | false =>
    have ha1 : ¬ (4352 ≤ a ∧ a ≤ 4370) := by rw [← inR_iff, hA1]; simp
    have HA := Lib.hid ha1; clear ha1
    cases hA2 : inR a 44032 55203 with
    | false =>
      have ha2 : ¬ (44032 ≤ a ∧ a ≤ 55203) := by rw [← inR_iff, hA2]; simp
      have HA2 := Lib.hid ha2; clear ha2
      have hj : join a b = assoc2 pairT a b := by unfold join; rw [if_neg (fun h => HA.out h.1), if_neg (fun h => HA2.out h.1.1)]
      have HJ := Lib.hid hj; clear hj
      go_enter Tryz.func48, Tryz.ntmps48
      go_wp2_with (first | (go_at_call 49; refine (within_any _ _ _ _).mono ?_; rintro e w' ⟨rfl, rfl⟩) | (go_at_call 80; refine (listed_any _ _ _).mono ?_; rintro e w' ⟨r, ok, rfl, hr, hok, hb⟩))
      go_ret2
      exact ⟨_, _, rfl, by rw [HJ.out], by rw [HJ.out], hb⟩
    | true =>
      obtain ⟨a1, a2⟩ := inR_iff.1 hA2
      by_cases hm : (a - 44032) % 28 = 0
      · cases hB2 : inR b 4520 4546 with
        | true =>
          obtain ⟨b1, b2⟩ := inR_iff.1 hB2
          have hj : join a b = some (a + b - 4519) := by unfold join; rw [if_neg (fun h => HA.out h.1), if_pos ⟨⟨⟨a1, a2⟩, hm⟩, b1, b2⟩]
          have HJ := Lib.hid hj; clear hj
          go_enter Tryz.func48, Tryz.ntmps48
          go_wp2_with (go_at_call 49; refine (within_any _ _ _ _).mono ?_; rintro e w' ⟨rfl, rfl⟩)
          go_ret2
          exact ⟨_, _, rfl, by rw [HJ.out]; rfl, by rw [HJ.out]; rfl, Below.refl _ _⟩
        | false =>
          have hb2 : ¬ (4520 ≤ b ∧ b ≤ 4546) := by rw [← inR_iff, hB2]; simp
          have HB := Lib.hid hb2; clear hb2
          have hj : join a b = assoc2 pairT a b := by unfold join; rw [if_neg (fun h => HA.out h.1), if_neg (fun h => HB.out h.2)]
          have HJ := Lib.hid hj; clear hj
          go_enter Tryz.func48, Tryz.ntmps48
          go_wp2_with (first | (go_at_call 49; refine (within_any _ _ _ _).mono ?_; rintro e w' ⟨rfl, rfl⟩) | (go_at_call 80; refine (listed_any _ _ _).mono ?_; rintro e w' ⟨r, ok, rfl, hr, hok, hb⟩))
          go_ret2
          exact ⟨_, _, rfl, by rw [HJ.out], by rw [HJ.out], hb⟩
      · have HM := Lib.hid hm
        have hj : join a b = assoc2 pairT a b := by unfold join; rw [if_neg (fun h => HA.out h.1), if_neg (fun h => HM.out h.1.2)]
        have HJ := Lib.hid hj; clear hj
        go_enter Tryz.func48, Tryz.ntmps48
        go_wp2_with (first | (go_at_call 49; refine (within_any _ _ _ _).mono ?_; rintro e w' ⟨rfl, rfl⟩) | (go_at_call 80; refine (listed_any _ _ _).mono ?_; rintro e w' ⟨r, ok, rfl, hr, hok, hb⟩))
        go_ret2
        exact ⟨_, _, rfl, by rw [HJ.out], by rw [HJ.out], hb⟩

end Go.Proofs.Pt
end

/- ==== the text W9 ==== -/
section
/- The walk of package canon's composer: what is put behind what was told. -/
namespace Go.Proofs.Pt
open Go Go.RowKit Go.Proofs.YtjgdnhmbfeekoaaGreatDoorW.PrintWords

/-- May a value of a class be one with the head? -/
def opensP (n head last c : Int) : Bool := decide (0 ≤ head) && (decide (head = n - 1) || decide (last < c))
set_option maxHeartbeats 1000000 in
theorem open_any (g n cap : Nat) (A : Option Addr) (head last c : Int) (w : World) (hn : n ≤ 17592186044416) (h0 : w.cell? ⟨g, 0, none⟩ = some (.slice A n cap)) (h1 : w.cell? ⟨g, 1, none⟩ = some (.int .i64 head)) (h2 : w.cell? ⟨g, 2, none⟩ = some (.int .i64 last)) :
    Calls Tryz.prog 92 #[.pointer (some ⟨g, 0, none⟩), .int .i64 c] w fun e w' => e = .returned (.bool (opensP n head last c)) ∧ ∃ k, w' = w.drewN k := by
  have hw : IntKind.i64.wrap ((n : Int) - 1) = (n : Int) - 1 := by rw [IntKind.wrap_i64]; omega
  by_cases hh : 0 ≤ head
  · by_cases he : head = (n : Int) - 1
    · have hv : opensP n head last c = true := by simp [opensP, he]; omega
      have HV := Lib.hid hv; clear hv
      have hb1 : decide (0 ≤ head) = true := decide_eq_true hh
      have hb2 : (head == (n : Int) - 1) = true := by simp [he]
      clear he
      go_enter Tryz.func92, Tryz.ntmps92
      go_wp2_with fail
      go_quiet (fail)
      go_wp2
      go_ret
      exact ⟨by rw [HV.out]; rfl, _, rfl⟩
    · have hb1 : decide (0 ≤ head) = true := decide_eq_true hh
      have hb2 : (head == (n : Int) - 1) = false := by simp [he]
      have hv : opensP n head last c = decide (last < c) := by simp [opensP, hh, he]
      have HV := Lib.hid hv; clear hv he
      go_enter Tryz.func92, Tryz.ntmps92
      go_wp2_with fail
      go_quiet (fail)
      go_wp2
      go_ret
      exact ⟨by rw [HV.out]; rfl, _, rfl⟩
  · have hb1 : decide (0 ≤ head) = false := decide_eq_false hh
    have hv : opensP n head last c = false := by simp [opensP, hh]
    have HV := Lib.hid hv; clear hv
    go_enter Tryz.func92, Tryz.ntmps92
    go_wp2_with fail
    go_quiet (fail)
    go_wp2
    go_ret
    exact ⟨by rw [HV.out]; rfl, _, rfl⟩
/-- What a value put behind makes of what was told, of the head's place and of the last class. -/
def appP (xs : List Int) (head r : Int) : List Int × Int × Int := (xs ++ [r], if ccc r = 0 then (xs.length : Int) else head, ccc r)
def putP (xs : List Int) (head last r : Int) : List Int × Int × Int :=
  if opensP xs.length head last (ccc r) = true then (match join (rd xs head) r with | some v => (xs.set head.toNat v, head, last) | none => appP xs head r) else appP xs head r
/-- The composer at block g: what was told is a row of the call's own. -/
structure CompAt (w : World) (base g : Nat) (v : Value) (xs : List Int) (head last : Int) : Prop where
  blk : w.heap[g]? = some (.cells #[v, .int .i64 head, .int .i64 last] 80 (0, 0))
  own : w.ownsRow base 3 1 v xs.length (nums .i64 xs)
  ge : base ≤ g
theorem CompAt.cells {w : World} {base g : Nat} {v : Value} {xs : List Int} {head last : Int} (h : CompAt w base g v xs head last) : w.cell? ⟨g, 0, none⟩ = some v ∧ w.cell? ⟨g, 1, none⟩ = some (.int .i64 head) ∧ w.cell? ⟨g, 2, none⟩ = some (.int .i64 last) :=
  ⟨(blk_cell h.blk 0).trans rfl, (blk_cell h.blk 1).trans rfl, (blk_cell h.blk 2).trans rfl⟩
theorem CompAt.lt {w : World} {base g : Nat} {v : Value} {xs : List Int} {head last : Int} (h : CompAt w base g v xs head last) : g < w.heap.size := blk_lt h.blk
theorem CompAt.below {w w' : World} {base g : Nat} {v : Value} {xs : List Int} {head last : Int} (h : CompAt w base g v xs head last) (hb : Below w.heap.size w w') : CompAt w' base g v xs head last :=
  ⟨(hb.block g h.lt).trans h.blk, pw_own_below h.own hb, h.ge⟩
theorem CompAt.apart {w : World} {base g : Nat} {v : Value} {xs : List Int} {head last : Int} (h : CompAt w base g v xs head last) : some g ≠ v.ownBlock := by
  intro e
  obtain ⟨cells, hc⟩ := own_typed h.own g e.symm
  rw [h.blk] at hc
  injection hc with hc
  injection hc with _ ht
  exact absurd ht (by decide)
/-- A store into the composer itself. -/
theorem CompAt.out_ {w : World} {base g : Nat} {v v1 : Value} {xs1 : List Int} {head last : Int} (hb : w.heap[g]? = some (.cells #[v, .int .i64 head, .int .i64 last] 80 (0, 0))) (ho : w.ownsRow base 3 1 v1 xs1.length (nums .i64 xs1)) (hg : base ≤ g) : CompAt (w.setCell ⟨g, 0, none⟩ v1) base g v1 xs1 head last := by
  have hne : some g ≠ v1.ownBlock := by
    intro e
    obtain ⟨cells, hc⟩ := own_typed ho g e.symm
    rw [hb] at hc
    injection hc with hc
    injection hc with _ ht
    exact absurd ht (by decide)
  exact ⟨by simpa using blk_set hb 0 v1, own_move ho fun k hk => Below.heap_setCell w _ v1 k (by rintro rfl; exact hne hk.symm), hg⟩
theorem CompAt.last_ {w : World} {base g : Nat} {v : Value} {xs : List Int} {head last : Int} (h : CompAt w base g v xs head last) (c : Int) : CompAt (w.setCell ⟨g, 2, none⟩ (.int .i64 c)) base g v xs head c :=
  ⟨by simpa using blk_set h.blk 2 (.int .i64 c), own_move h.own fun k hk => Below.heap_setCell w _ _ k (by rintro rfl; exact h.apart hk.symm), h.ge⟩
theorem CompAt.head_ {w : World} {base g : Nat} {v : Value} {xs : List Int} {head last : Int} (h : CompAt w base g v xs head last) (c : Int) : CompAt (w.setCell ⟨g, 1, none⟩ (.int .i64 c)) base g v xs c last :=
  ⟨by simpa using blk_set h.blk 1 (.int .i64 c), own_move h.own fun k hk => Below.heap_setCell w _ _ k (by rintro rfl; exact h.apart hk.symm), h.ge⟩
theorem CompAt.free {w : World} {base g : Nat} {v : Value} {xs : List Int} {head last : Int} (h : CompAt w base g v xs head last) (j : Nat) : w.frozen? ⟨g, j, none⟩ = false := frozen_of_row w g j _ _ h.blk
theorem info_int : (Tryz.prog.info? 3).map (fun i => (i.zero, i.size, i.bytes)) = some (some (.int .i64 0), 1, 8) := by kernel_rfl
def CompPost (w : World) (base g : Nat) (p : List Int × Int × Int) (e : Ending) (w' : World) : Prop := e = .returned (.tuple #[]) ∧ (∃ v, CompAt w' base g v p.1 p.2.1 p.2.2) ∧ Below base w w'
set_option maxHeartbeats 1000000 in
set_option maxRecDepth 100000 in
theorem put_any (base g : Nat) (v : Value) (xs : List Int) (head last r : Int) (w : World) (h : CompAt w base g v xs head last) (hl : xs.length < 17592186044416) (hh : head < xs.length) :
    Calls Tryz.prog 66 #[.pointer (some ⟨g, 0, none⟩), .int .i64 r] w (CompPost w base g (putP xs head last r)) := by
  have H := Lib.hid h; clear h
  go_enter Tryz.func66, Tryz.ntmps66
  go_wp2_with fail
  refine (ccc_any r _).mono ?_
  rintro e w1 ⟨rfl, hb⟩
  have H1 : Hid (CompAt w1 base g v xs head last) := H.out.below hb
  have hb0 : Below base w w1 := hb.mono (Nat.le_trans H.out.ge (Nat.le_of_lt H.out.lt))
  have HB := Lib.hid hb0; clear hb0 hb H
  obtain ⟨A, cap, hv⟩ := own_slice H1.out.own
  subst hv
  obtain ⟨c0, c1, c2⟩ := H1.out.cells
  go_wp2_with fail
  refine (open_any g xs.length cap A head last (ccc r) _ (by omega) c0 c1 c2).mono ?_
  rintro e w2 ⟨rfl, k, rfl⟩
  have H3 : Hid (CompAt (w1.drewN k) base g (.slice A xs.length cap) xs head last) := H1.out.below (pw_below_drewN (Below.refl _ _) k)
  have HB3 : Hid (Below base w (w1.drewN k)) := pw_below_drewN HB.out k
  have HZ3 : Hid (base ≤ (w1.drewN k).heap.size) := Nat.le_trans H3.out.ge (Nat.le_of_lt H3.out.lt)
  clear c0 c1 c2 H1 HB
  generalize w1.drewN k = w3 at H3 HB3 HZ3 ⊢
  obtain ⟨c0, c1, c2⟩ := H3.out.cells
  have hop : ∀ b, opensP xs.length head last (ccc r) = b → putP xs head last r = if b = true then (match join (rd xs head) r with | some v => (xs.set head.toNat v, head, last) | none => appP xs head r) else appP xs head r := fun b h => by unfold putP; rw [h]
  have HOP := Lib.hid hop; clear hop
  cases hb : opensP xs.length head last (ccc r) with
  | false =>
    have hp : putP xs head last r = appP xs head r := by rw [HOP.out false hb]; rfl
    have HP := Lib.hid hp; clear hp HOP
    go_wp2_with (at_builtin; refine print_append_num (w0 := w) base rfl (.tmp 42) (.tmp 44) 25 3 .i64 8 rfl Tryz.underlying25 info_int (by decide) (.slice A xs.length cap) xs r rfl rfl H3.out.own HB3.out HZ3.out (by omega) ?_)
    intro v1 w4 hown hbel hgrow _
    have hb4 := blk_grown H3.out.blk hgrow H3.out.apart
    obtain ⟨A1, cap1, hv1⟩ := own_slice hown
    subst hv1
    have hlen : (xs ++ [r]).length = xs.length + 1 := by simp
    have H4 : Hid (CompAt (w4.setCell ⟨g, 0, none⟩ (.slice A1 (xs.length + 1) cap1)) base g (.slice A1 (xs.length + 1) cap1) (xs ++ [r]) head last) := CompAt.out_ hb4 (by rw [hlen]; exact hown) H3.out.ge
    have HB4 : Hid (Below base w (w4.setCell ⟨g, 0, none⟩ (.slice A1 (xs.length + 1) cap1))) := hbel.setCell H3.out.ge _
    have d0 : w4.cell? ⟨g, 0, none⟩ = some (.slice A xs.length cap) := (blk_cell hb4 0).trans rfl
    have d1 : w4.cell? ⟨g, 1, none⟩ = some (.int .i64 head) := (blk_cell hb4 1).trans rfl
    have d2 : w4.cell? ⟨g, 2, none⟩ = some (.int .i64 last) := (blk_cell hb4 2).trans rfl
    have e0 : w4.frozen? ⟨g, 0, none⟩ = false := frozen_of_row w4 g 0 _ _ hb4
    have e1 : w4.frozen? ⟨g, 1, none⟩ = false := frozen_of_row w4 g 1 _ _ hb4
    have e2 : w4.frozen? ⟨g, 2, none⟩ = false := frozen_of_row w4 g 2 _ _ hb4
    have HG : Hid (base ≤ g) := H3.out.ge
    clear hown hbel hgrow hb4 c0 c1 c2 H3 HB3 HZ3 hlen
    by_cases hz : ccc r = 0
    · have hz1 : (ccc r == 0) = true := by simp [hz]
      have hap : appP xs head r = (xs ++ [r], (xs.length : Int), ccc r) := by simp [appP, hz]
      have HAP := Lib.hid hap; clear hap hz
      go_wp2
      go_end0
      exact ⟨rfl, ⟨_, by rw [HP.out, HAP.out]; exact (H4.out.last_ _).head_ _⟩, (HB4.out.setCell HG.out _).setCell HG.out _⟩
    · have hz1 : (ccc r == 0) = false := by simp [hz]
      have hap : appP xs head r = (xs ++ [r], head, ccc r) := by simp [appP, hz]
      have HAP := Lib.hid hap; clear hap hz
      go_wp2
      go_end0
      exact ⟨rfl, ⟨_, by rw [HP.out, HAP.out]; exact H4.out.last_ _⟩, HB4.out.setCell HG.out _⟩
  | true =>
    have hh0 : 0 ≤ head := by
      unfold opensP at hb
      simp only [Bool.and_eq_true, decide_eq_true_eq] at hb
      exact hb.1
    obtain ⟨gb, cap2, hA, _, _⟩ := H3.out.own.form (by omega)
    have hA2 : A = some ⟨gb, 0, none⟩ ∧ cap = cap2 := by simpa using hA
    obtain ⟨rfl, rfl⟩ := hA2
    clear hA
    have cx : w3.cell? ⟨gb, head.toNat, none⟩ = some (.int .i64 (rd xs head)) := by
      rw [H3.out.own.cellAt head.toNat (by omega)]
      simp [nums, rd, List.getElem?_eq_getElem (show head.toNat < xs.length by omega), List.getD_eq_getElem?_getD]
    have fx : w3.frozen? ⟨gb, head.toNat, none⟩ = false := H3.out.own.frozenAt _
    have hgb : gb < w3.heap.size := own_lt H3.out.own gb rfl
    have hgb2 : base ≤ gb := own_base H3.out.own gb rfl
    have hgg : g ≠ gb := fun e => H3.out.apart (by rw [e]; rfl)
    have hgz : g < w3.heap.size := H3.out.lt
    have hhz : head < (xs.length : Int) := hh
    go_wp2_with fail
    go_region_held3 (fun w' => w'.cell? ⟨g, 0, none⟩ = some (.slice (some ⟨gb, 0, none⟩) xs.length cap) ∧ w'.cell? ⟨g, 1, none⟩ = some (.int .i64 head) ∧ w'.cell? ⟨gb, head.toNat, none⟩ = some (.int .i64 (rd xs head)))
      (first | (exact ⟨c0, c1, cx⟩) | (exact ⟨(hb'.cell (p := ⟨g, 0, none⟩) hgz).trans c0, (hb'.cell (p := ⟨g, 1, none⟩) hgz).trans c1, (hb'.cell (p := ⟨gb, head.toNat, none⟩) hgb).trans cx⟩))
      (first | (go_at_call 48; refine (join_any _ _ _).mono ?_; rintro e w' ⟨rr, ok, rfl, hr, hok, hb'⟩))
    have hb3 : Below w3.heap.size w3 w' := (pw_below_drewN (Below.refl _ _) 1).trans hb'
    have H6 : Hid (CompAt w' base g (.slice (some ⟨gb, 0, none⟩) xs.length cap) xs head last) := H3.out.below hb3
    have HB6 : Hid (Below base w w') := HB3.out.trans (hb3.mono HZ3.out)
    have HZ6 : Hid (base ≤ w'.heap.size) := Nat.le_trans HZ3.out hb3.size
    clear hb' hb3 c0 c1 c2 cx fx H3 HB3 HZ3
    cases hj : join (rd xs head) r with
    | some v =>
      have hp : putP xs head last r = (xs.set head.toNat v, head, last) := by rw [HOP.out true hb]; simp only [if_true, hj]
      have HP := Lib.hid hp; clear hp HOP hj
      go_wp2_with fail
      refine wp_region_still_tail 10 (by kernel_rfl) (by kernel_rfl) ?_
      change wpStill _ _ w'.drew (fun a' => wpList _ _ _ _ a' w'.drew) _ _
      have H7 : Hid (CompAt w'.drew base g (.slice (some ⟨gb, 0, none⟩) xs.length cap) xs head last) := H6.out.below (pw_below_drewN (Below.refl _ _) 1)
      have HB7 : Hid (Below base w w'.drew) := pw_below_drewN HB6.out 1
      clear H6 HB6 HZ6
      generalize w'.drew = w7 at H7 HB7 ⊢
      obtain ⟨c0, c1, c2⟩ := H7.out.cells
      have cx : w7.cell? ⟨gb, head.toNat, none⟩ = some (.int .i64 (rd xs head)) := by
        rw [H7.out.own.cellAt head.toNat (by omega)]
        simp [nums, rd, List.getElem?_eq_getElem (show head.toNat < xs.length by omega), List.getD_eq_getElem?_getD]
      have fx : w7.frozen? ⟨gb, head.toNat, none⟩ = false := H7.out.own.frozenAt _
      have hst := H7.out.own.stored head.toNat (.int .i64 v)
      have HF : Hid (CompAt (w7.setCell ⟨gb, head.toNat, none⟩ (.int .i64 v)) base g (.slice (some ⟨gb, 0, none⟩) xs.length cap) (xs.set head.toNat v) head last) :=
        ⟨blk_far H7.out.blk hgg _, by have := hst.1; simpa [nums, List.map_set] using this, H7.out.ge⟩
      have HBF : Hid (Below base w (w7.setCell ⟨gb, head.toNat, none⟩ (.int .i64 v))) := HB7.out.setCell hgb2 _
      clear hst H7 HB7
      simp only [List.take_succ_cons, List.take_zero, List.drop_succ_cons, List.drop_zero]
      iterate 10 still_step
      refine wpStill_nil ?_
      go_wp2
      go_end0
      exact ⟨rfl, ⟨_, by rw [HP.out]; exact HF.out⟩, HBF.out⟩
    | none =>
      have hp : putP xs head last r = appP xs head r := by rw [HOP.out true hb]; simp only [if_true, hj]
      have HP := Lib.hid hp; clear hp HOP hj
      obtain ⟨c0, c1, c2⟩ := H6.out.cells
      go_wp2_with (at_builtin; refine print_append_num (w0 := w) base rfl (.tmp 42) (.tmp 44) 25 3 .i64 8 rfl Tryz.underlying25 info_int (by decide) (.slice (some ⟨gb, 0, none⟩) xs.length cap) xs r rfl rfl H6.out.own HB6.out HZ6.out (by omega) ?_)
      intro v1 w4 hown hbel hgrow _
      have hb4 := blk_grown H6.out.blk hgrow H6.out.apart
      obtain ⟨A1, cap1, hv1⟩ := own_slice hown
      subst hv1
      have hlen : (xs ++ [r]).length = xs.length + 1 := by simp
      have H4 : Hid (CompAt (w4.setCell ⟨g, 0, none⟩ (.slice A1 (xs.length + 1) cap1)) base g (.slice A1 (xs.length + 1) cap1) (xs ++ [r]) head last) := CompAt.out_ hb4 (by rw [hlen]; exact hown) H6.out.ge
      have HB4 : Hid (Below base w (w4.setCell ⟨g, 0, none⟩ (.slice A1 (xs.length + 1) cap1))) := hbel.setCell H6.out.ge _
      have d0 : w4.cell? ⟨g, 0, none⟩ = some (.slice (some ⟨gb, 0, none⟩) xs.length cap) := (blk_cell hb4 0).trans rfl
      have d1 : w4.cell? ⟨g, 1, none⟩ = some (.int .i64 head) := (blk_cell hb4 1).trans rfl
      have d2 : w4.cell? ⟨g, 2, none⟩ = some (.int .i64 last) := (blk_cell hb4 2).trans rfl
      have e0 : w4.frozen? ⟨g, 0, none⟩ = false := frozen_of_row w4 g 0 _ _ hb4
      have e1 : w4.frozen? ⟨g, 1, none⟩ = false := frozen_of_row w4 g 1 _ _ hb4
      have e2 : w4.frozen? ⟨g, 2, none⟩ = false := frozen_of_row w4 g 2 _ _ hb4
      have HG : Hid (base ≤ g) := H6.out.ge
      clear hown hbel hgrow hb4 c0 c1 c2 H6 HB6 HZ6 hlen
      by_cases hz : ccc r = 0
      · have hz1 : (ccc r == 0) = true := by simp [hz]
        have hap : appP xs head r = (xs ++ [r], (xs.length : Int), ccc r) := by simp [appP, hz]
        have HAP := Lib.hid hap; clear hap hz
        go_wp2
        go_end0
        exact ⟨rfl, ⟨_, by rw [HP.out, HAP.out]; exact (H4.out.last_ _).head_ _⟩, (HB4.out.setCell HG.out _).setCell HG.out _⟩
      · have hz1 : (ccc r == 0) = false := by simp [hz]
        have hap : appP xs head r = (xs ++ [r], head, ccc r) := by simp [appP, hz]
        have HAP := Lib.hid hap; clear hap hz
        go_wp2
        go_end0
        exact ⟨rfl, ⟨_, by rw [HP.out, HAP.out]; exact H4.out.last_ _⟩, HB4.out.setCell HG.out _⟩
end Go.Proofs.Pt
end

/- ==== the text W22 ==== -/
section
/- The walks of package decomp: a value's digits, a row's values, what a value is made of. -/
namespace Go.Proofs.Pt
open Go Go.RowKit Go.Proofs.YtjgdnhmbfeekoaaGreatDoorW.PrintWords

theorem ifmt_any (u : Nat) (hu : u < 9223372036854775808) (w : World) (hV : Vars w) : Calls Tryz.prog 113 #[.int .i64 u, .int .i64 16] w fun e w' => e = .returned (.string ⟨(hexFl 16 u).toArray⟩) ∧ Below w.heap.size w w' := by
  have HV := Lib.hid hV; clear hV
  have hu0 : (u : Int) < 9223372036854775808 := by omega
  go_enter Tryz.func113, Tryz.ntmps113
  go_wp2_with fail
  refine (bits_any u hu _ HV.out).mono ?_
  rintro e w' ⟨rfl, hb⟩
  go_wp2
  go_ret
  exact ⟨rfl, hb⟩
theorem fmt_any (u : Nat) (hu : u < 9223372036854775808) (w : World) (hV : Vars w) : Calls Tryz.prog 84 #[.int .i64 u, .int .i64 16] w fun e w' => e = .returned (.string ⟨(hexFl 16 u).toArray⟩) ∧ Below w.heap.size w w' := by
  have HV := Lib.hid hV; clear hV
  go_enter Tryz.func84, Tryz.ntmps84
  go_wp2_with fail
  refine (ifmt_any u hu _ HV.out).mono ?_
  rintro e w' ⟨rfl, hb⟩
  go_wp2
  go_ret
  exact ⟨rfl, hb⟩
theorem repeat_zeros (c : Nat) : Lib.repeatL [48] c = List.replicate c 48 := by
  have := Lib.repeatL_replicate (48 : UInt8) 1 c
  simpa using this
theorem code_bytes {u : Nat} {s : ByteArray} (hs : s = ⟨(hexU u).toArray⟩) (hz : s.size = (hexU u).length) : (ByteArray.mk (Array.replicate (4 - s.size) 48) ++ s) = ⟨(code u).toArray⟩ := by
  rw [hz]
  apply ByteArray.ext
  rw [ByteArray.data_append, hs]
  unfold code
  simp
def CodePost (u : Nat) (w : World) (e : Ending) (w' : World) : Prop := e = .returned (.string ⟨(code u).toArray⟩) ∧ Below w.heap.size w w'
set_option maxHeartbeats 1000000 in
theorem code_any (u : Nat) (hu : u < 9223372036854775808) (w : World) (hV : Vars w) : Calls Tryz.prog 57 #[.int .i64 u] w (CodePost u w) := by
  have HV := Lib.hid hV; clear hV
  go_enter Tryz.func57, Tryz.ntmps57
  go_wp2_with fail
  refine (fmt_any u hu _ HV.out).mono ?_
  rintro e w1 ⟨rfl, hb1⟩
  have HB1 := Lib.hid hb1; clear hb1
  go_wp2_with fail
  refine (Tryz.strings_ToUpper_ascii _ _ (by show (hexFl 16 u).toArray.size ≤ _; have := hexFl_length 16 u; have := hexF_length 16 u; simp; omega) (fun j b hj => hexFl_ascii 16 u b (List.mem_of_getElem? hj))).mono ?_
  rintro e w2 ⟨rfl, hb2⟩
  have HB2 : Hid (Below w.heap.size w w2) := HB1.out.trans (hb2.mono HB1.out.size)
  clear hb2
  rw [show Lib.toUpperA (ByteArray.mk (hexFl 16 u).toArray).data.toList = hexU u from hexFl_upper 16 u]
  obtain ⟨s, hs⟩ : ∃ s : ByteArray, s = ⟨(hexU u).toArray⟩ := ⟨_, rfl⟩
  have hsz : s.size = (hexU u).length := by rw [hs]; rfl
  have h16 := hexF_length 16 u
  have hn : (s.size : Int) ≤ 16 := by rw [hsz]; unfold hexU; omega
  rw [← hs]
  have HS := Lib.hid hs; have HZ := Lib.hid hsz; clear hs hsz h16
  go_wp2_with fail
  rw [show max 0 (4 - (s.size : Int)) = ((4 - s.size : Nat) : Int) by omega]
  refine (Tryz.strings_Repeat _ _ _ (by omega) (by show 1 * _ ≤ _; omega)).mono ?_
  rintro e w3 ⟨rfl, hb3⟩
  have HB3 : Hid (Below w.heap.size w w3) := HB2.out.trans (hb3.mono HB2.out.size)
  clear hb3
  rw [show Lib.repeatL (ByteArray.mk #[48]).data.toList (4 - s.size) = List.replicate (4 - s.size) 48 from repeat_zeros _]
  go_wp2
  go_ret
  exact ⟨congrArg (fun b => Ending.returned (.string b)) (code_bytes HS.out HZ.out), HB3.out⟩
/-- The pieces of a row's text. -/
theorem pieces {vs : List Int} (h : RowOk vs) : (Lib.splitB ⟨#[44]⟩ 0 (Lib.countB ⟨(inter vs).toArray⟩ ⟨#[44]⟩) ⟨(inter vs).toArray⟩).map (·.data.toList) = vs.map fun v => code v.toNat := by
  rw [Lib.splitB_data]
  exact h.split
theorem set_next (vs : List Int) (k N : Nat) (hk : k < vs.length) (hN : N = vs.length) (v : Int) (hv : v = vs[k]) : (vs.take k ++ List.replicate (N - k) 0).set k v = vs.take (k + 1) ++ List.replicate (N - (k + 1)) 0 := by
  have h1 : (vs.take k).length = k := by simp; omega
  rw [List.set_append_right _ _ (by omega), h1, Nat.sub_self, show N - k = (N - (k + 1)) + 1 by omega, List.replicate_succ, List.set_cons_zero, List.take_succ_eq_append_getElem hk, hv, List.append_assoc]
  rfl
theorem inter_length : ∀ (vs : List Int), (∀ v ∈ vs, (code v.toNat).length = 4) → (inter vs).length ≤ 5 * vs.length
  | [], _ => by simp [inter]
  | [v], h => by have := h v (by simp); simp [inter]; omega
  | v :: w :: vs, h => by
    have h1 := h v (by simp)
    have h2 := inter_length (w :: vs) fun x hx => h x (by simp [hx])
    simp only [inter, List.length_append, List.length_cons] at h2 ⊢
    omega
def PartsPost (vs : List Int) (w : World) (e : Ending) (w' : World) : Prop := ∃ v, e = .returned v ∧ w'.ownsRow w.heap.size 3 1 v vs.length (nums .i64 vs) ∧ Below w.heap.size w w'
set_option maxHeartbeats 1000000 in
theorem parts_any (vs : List Int) (hvs : RowOk vs) (h1 : 1 ≤ vs.length) (h4 : vs.length ≤ 4) (w : World) (hV : Vars w) : Calls Tryz.prog 58 #[.string ⟨(inter vs).toArray⟩] w (PartsPost vs w) := by
  obtain ⟨m, hm⟩ := hV.maxlen
  clear hV
  obtain ⟨t, ht⟩ : ∃ t : ByteArray, t = ⟨(inter vs).toArray⟩ := ⟨_, rfl⟩
  have hp := pieces hvs
  rw [← ht] at hp ⊢
  have hsz : t.size < 4294967281 := by
    have := inter_length vs fun v hv => (hvs.each v hv).2.2
    rw [ht]
    show (inter vs).toArray.size < _
    simp; omega
  have HT := Lib.hid ht; clear ht
  go_enter Tryz.func58, Tryz.ntmps58
  go_wp2_with fail
  refine (Tryz.strings_Split t ⟨#[44]⟩ m _ hsz hm (by decide)).mono ?_
  rintro e w1 ⟨rfl, rfl⟩
  have hall := Lib.splitB_all ⟨#[44]⟩ (by decide) 0 (Lib.countB t ⟨#[44]⟩) t rfl
  generalize Lib.countB t ⟨#[44]⟩ = n at hp hall ⊢
  generalize Lib.splitB ⟨#[44]⟩ 0 n t = sp at hp hall ⊢
  have hn : n + 1 = vs.length := by
    have := congrArg List.length hp
    simp at this; omega
  have hsp : sp.length = vs.length := by omega
  rw [hn]
  have hat : ∀ k (hk : k < vs.length), ∃ x : ByteArray, sp[k]? = some x ∧ x.size = 4 ∧ (∀ y ∈ x.data.toList, isHex y = true) ∧ (parseH x.data.toList : Int) = vs[k] := by
    intro k hk
    have hk2 : k < sp.length := by omega
    have e : (sp[k]).data.toList = code (vs[k]).toNat := by
      have := congrArg (·[k]?) hp
      simpa [List.getElem?_eq_getElem hk, List.getElem?_eq_getElem hk2] using this
    have hv := hvs.each vs[k] (List.getElem_mem hk)
    refine ⟨sp[k], List.getElem?_eq_getElem hk2, ?_, ?_, ?_⟩
    · rw [Lib.size_eq, e]; exact hv.2.2
    · rw [e]; exact code_isHex _
    · rw [e, parse_code (by omega)]; omega
  have HA : Hid (∀ k (hk : k < vs.length), ∃ x : ByteArray, (w.alloc (.cells (sp.map Value.string).toArray 9)).cell? ⟨w.heap.size, k, none⟩ = some (.string x) ∧ x.size = 4 ∧ (∀ y ∈ x.data.toList, isHex y = true) ∧ (parseH x.data.toList : Int) = vs[k]) := by
    intro k hk
    obtain ⟨x, hx, r⟩ := hat k hk
    refine ⟨x, ?_, r⟩
    rw [World.cell?_alloc_new]
    simp [hx]
  have hz1 : (w.alloc (.cells (sp.map Value.string).toArray 9)).heap.size = w.heap.size + 1 := by simp
  have HB1 : Hid (Below w.heap.size w (w.alloc (.cells (sp.map Value.string).toArray 9))) := (Below.refl _ _).alloc (Nat.le_refl _) _
  have hmk := print_make (P := Tryz.prog) 25 3 .i64 8 Tryz.underlying25 info_int (by decide) vs.length (by omega)
  generalize w.alloc (.cells (sp.map Value.string).toArray 9) = w1 at HA hz1 HB1 ⊢
  clear hat hp hall hsp hn hm
  have HZ1 := Lib.hid hz1; clear hz1
  go_wp2
  have hown := own_made w1 w.heap.size 3 .i64 vs.length HB1.out.size (by omega)
  have HO0 := Lib.hid hown; clear hown
  have HB2 : Hid (Below w.heap.size w (w1.alloc (.cells (madeCells #[.int .i64 0] vs.length) 3))) := HB1.out.alloc HB1.out.size _
  have HA2 : Hid (∀ k (hk : k < vs.length), ∃ x : ByteArray, (w1.alloc (.cells (madeCells #[.int .i64 0] vs.length) 3)).cell? ⟨w.heap.size, k, none⟩ = some (.string x) ∧ x.size = 4 ∧ (∀ y ∈ x.data.toList, isHex y = true) ∧ (parseH x.data.toList : Int) = vs[k]) := by
    intro k hk
    obtain ⟨x, hx, r⟩ := HA.out k hk
    exact ⟨x, (((Below.refl _ _).alloc (Nat.le_refl _) _).cell (World.block_lt_of_cell? _ _ hx)).trans hx, r⟩
  have hne : w.heap.size < w1.heap.size := by have := HZ1.out; omega
  generalize w1.alloc (.cells (madeCells #[.int .i64 0] vs.length) 3) = w2 at HO0 HB2 HA2 ⊢
  clear HA HB1 HZ1 hmk
  generalize w1.heap.size = b2 at HO0 hne ⊢
  go_loopw [15] (fun i wr => ∃ k : Nat, k ≤ vs.length ∧ i = .int .i64 k ∧ Hid (wr.ownsRow w.heap.size 3 1 (.slice (some ⟨b2, 0, none⟩) vs.length vs.length) vs.length (nums .i64 (vs.take k ++ List.replicate (vs.length - k) 0))) ∧ Hid (Below w.heap.size w wr) ∧ Hid (∀ k (hk : k < vs.length), ∃ x : ByteArray, wr.cell? ⟨w.heap.size, k, none⟩ = some (.string x) ∧ x.size = 4 ∧ (∀ y ∈ x.data.toList, isHex y = true) ∧ (parseH x.data.toList : Int) = vs[k])) (fun i _ => vs.length - (intOf i).toNat)
  case atStart => exact ⟨0, Nat.zero_le _, rfl, by have := HO0.out; show World.ownsRow _ _ _ _ _ _ _; simpa using this, HB2.out, HA2.out⟩
  case round =>
    obtain ⟨k, hk, rfl, HO, HB, HA⟩ := hrel
    clear HO0 HB2 HA2
    by_cases hlt : k < vs.length
    · obtain ⟨x, hx, hx4, hxx, hxv⟩ := HA.out k hlt
      have hkz : (k : Int) < (vs.length : Int) := by omega
      have HX4 := Lib.hid hx4; have HXX := Lib.hid hxx; have HXV := Lib.hid hxv; clear hx4 hxx hxv
      go_wp2_with fail
      refine (int_any x (by have := HX4.out; omega) (by have := HX4.out; omega) HXX.out _).mono ?_
      rintro e w3 ⟨rfl, hb3⟩
      rw [HXV.out]
      have HO3 : Hid (w3.ownsRow w.heap.size 3 1 (.slice (some ⟨b2, 0, none⟩) vs.length vs.length) vs.length (nums .i64 (vs.take k ++ List.replicate (vs.length - k) 0))) := pw_own_below HO.out hb3
      have HB3 : Hid (Below w.heap.size w w3) := HB.out.trans (hb3.mono HB.out.size)
      have HA3 : Hid (∀ k (hk : k < vs.length), ∃ x : ByteArray, w3.cell? ⟨w.heap.size, k, none⟩ = some (.string x) ∧ x.size = 4 ∧ (∀ y ∈ x.data.toList, isHex y = true) ∧ (parseH x.data.toList : Int) = vs[k]) := by
        intro j hj
        obtain ⟨y, hy, r⟩ := HA.out j hj
        exact ⟨y, (hb3.cell (World.block_lt_of_cell? _ _ hy)).trans hy, r⟩
      clear hb3 hx
      obtain ⟨c1, c2⟩ := own_at HO3.out (k : Int) (by omega) hkz
      rw [Int.toNat_natCast] at c1 c2
      have hst := own_store HO3.out (k : Int) vs[k]
      rw [Int.toNat_natCast, set_next vs k vs.length hlt rfl vs[k] rfl] at hst
      have HST := Lib.hid hst; clear hst
      have hvk := hvs.each vs[k] (List.getElem_mem hlt)
      generalize vs[k] = v at *
      go_wp2
      go_roundw
      case measure => simp [intOf]; omega
      case rel =>
        refine ⟨k + 1, by omega, by go_num, HST.out.1, HB3.out.setCell (by show _ ≤ b2; omega) _, fun j hj => ?_⟩
        obtain ⟨y, hy, r⟩ := HA3.out j hj
        exact ⟨y, (World.cell?_setCell_other _ _ _ _ (by intro h; injection h with h; omega)).trans hy, r⟩
    · obtain rfl : k = vs.length := by omega
      have ho := HO.out
      rw [Nat.sub_self, List.replicate_zero, List.append_nil, List.take_length] at ho
      have HO2 := Lib.hid ho; clear ho HO HA
      go_wp2
      go_ret
      exact ⟨_, rfl, HO2.out, HB.out⟩
end Go.Proofs.Pt
end

/- ==== the text PDx0 ==== -/
section
-- PRINTED by print.py (a twelfth state) out of the translation. Not trusted: Lean checks it.
namespace Go.Proofs.YtjgdnhmbfeekoaaGreatDoor.PD
open Go.RowKit Go.Proofs.YtjgdnhmbfeekoaaGreatDoorW.PrintWords Go.Proofs.YtjgdnhmbfeekoaaGreatDoorW.PrintLast Go.Proofs.YtjgdnhmbfeekoaaGreatDoorW.PrintMore
attribute [local go_sem] max2_int min2_int max_two min_two max_three min_three max_four min_four   -- for this text's walks alone
set_option linter.unusedVariables false
set_option linter.unusedSimpArgs false



def errW : Option Int → Value
  | none => .nilIface
  | some c => .iface 0 (.int .i64 c)
theorem errW_none : errW none = .nilIface := rfl
theorem errW_some (c : Int) : errW (some c) = .iface 0 (.int .i64 c) := rfl

theorem info3 : (Tryz.prog.info? 3).map (fun i => (i.zero, i.size, i.bytes)) = some (some (.int .i64 0), 1, 8) := by kernel_rfl
-- the values' own types

end Go.Proofs.YtjgdnhmbfeekoaaGreatDoor.PD
end

/- ==== the text PDx1 ==== -/
section
-- PRINTED by print.py (a twelfth state) out of the translation. Not trusted: Lean checks it.
namespace Go.Proofs.YtjgdnhmbfeekoaaGreatDoor.PD
open Go.RowKit Go.Proofs.YtjgdnhmbfeekoaaGreatDoorW.PrintWords Go.Proofs.YtjgdnhmbfeekoaaGreatDoorW.PrintLast Go.Proofs.YtjgdnhmbfeekoaaGreatDoorW.PrintMore
attribute [local go_sem] max2_int min2_int max_two min_two max_three min_three max_four min_four   -- for this text's walks alone
set_option linter.unusedVariables false
set_option linter.unusedSimpArgs false

/-! ### decomp_syllable: function 54 -/
def decomp_syllable.f (a0 : Int) : Option (List Int) := (some (([wrap64 (4352 + (wrap64 (Int.tdiv a0 588))), wrap64 (4449 + (wrap64 (Int.tdiv (Int.tmod a0 588) 28)))] : List Int) : List Int)).bind fun y101 => (if (Int.tmod a0 28) > 0 then (if y101.length < 17592186044416 then (some (y101 ++ [wrap64 (4519 + (Int.tmod a0 28))])) else (none)) else (some y101))
set_option maxHeartbeats 8000000 in
set_option maxRecDepth 100000 in
theorem decomp_syllable.calls (a0 : Int) (r : List Int) (w : World) (h : decomp_syllable.f a0 = some r) :
    Calls Tryz.prog 54 #[.int .i64 a0] w fun e w' => ∃ v0_ : Value, e = .returned (v0_) ∧ Kd.R (Kd.int .i64) 3 w' w.heap.size (fun _ => True) v0_ r ∧ Below w.heap.size w w' := by
  have HB := Aside0.mk (Below.refl w.heap.size w)
  have H : ((some (([wrap64 (4352 + (wrap64 (Int.tdiv a0 588))), wrap64 (4449 + (wrap64 (Int.tdiv (Int.tmod a0 588) 28)))] : List Int) : List Int)).bind fun y101 => (if (Int.tmod a0 28) > 0 then (if y101.length < 17592186044416 then (some (y101 ++ [wrap64 (4519 + (Int.tmod a0 28))])) else (none)) else (some y101))) = some r := h
  clear h
  obtain ⟨y101, hy101⟩ : ∃ y_ : List Int, y_ = (([wrap64 (4352 + (wrap64 (Int.tdiv a0 588))), wrap64 (4449 + (wrap64 (Int.tdiv (Int.tmod a0 588) 28)))] : List Int)) := ⟨_, rfl⟩
  replace H : (if (Int.tmod a0 28) > 0 then (if y101.length < 17592186044416 then (some (y101 ++ [wrap64 (4519 + (Int.tmod a0 28))])) else (none)) else (some y101)) = some r := by first | (rw [hy101]; with_reducible exact H) | (have H2_ := (Option.bind_some _ _).symm.trans H; rw [hy101]; with_reducible exact H2_) | (have H2_ := (Option.bind_some _ _).symm.trans H; with_reducible exact H2_) | with_reducible exact H | (rw [hy101]; exact H) | exact H
  have Ny101 := Aside0.mk hy101
  clear hy101
  by_cases c2 : (Int.tmod a0 28) > 0
  · rw [if_pos c2] at H
    have c2b0 : decide (0 < (Int.tmod a0 28)) = true := decide_eq_true c2
    clear c2
    by_cases c3 : y101.length < 17592186044416
    · rw [if_pos c3] at H
      have LMc3 := Aside0.mk c3
      clear c3
      obtain ⟨y104, hy104⟩ : ∃ y_ : List Int, y_ = (y101 ++ [wrap64 (4519 + (Int.tmod a0 28))]) := ⟨_, rfl⟩
      replace H : (some y104) = some r := by first | (rw [hy104]; with_reducible exact H) | (have H2_ := (Option.bind_some _ _).symm.trans H; rw [hy104]; with_reducible exact H2_) | (have H2_ := (Option.bind_some _ _).symm.trans H; with_reducible exact H2_) | with_reducible exact H | (rw [hy104]; exact H) | exact H
      have Ny104 := Aside0.mk hy104
      clear hy104
      obtain rfl := Option.some.inj H
      go_enter Tryz.func54, Tryz.ntmps54
      go_wp2_with (first | ((with_reducible refine gate_dst (N := 12) rfl ?_); refine Kd.R_lit (Kd.int .i64) _ 3 ?hg (N := 12) ?hd (xs := ([wrap64 (4352 + (wrap64 (Int.tdiv a0 588))), wrap64 (4449 + (wrap64 (Int.tdiv (Int.tmod a0 588) 28)))] : List Int)) (inner := [.int .i64 (wrap64 (4352 + (wrap64 (Int.tdiv a0 588)))), .int .i64 (wrap64 (4449 + (wrap64 (Int.tdiv (Int.tmod a0 588) 28))))]) (ok := fun _ => True) (okp := fun _ => True) ?hr ?hp (fun _ hk => hk) trivial (Below.refl _ _) (Nat.le_refl _) (by simp) ?_; (case hd => rfl); (case hg => rfl); (case hr => first | (go_simp; done) | (go_simp; rfl)); (case hp => exact (Reps.one (show Kd.M (Kd.int .i64) _ _ _ (wrap64 (4352 + (wrap64 (Int.tdiv a0 588)))) [.int .i64 (wrap64 (4352 + (wrap64 (Int.tdiv a0 588))))] from rfl) (Reps.one (show Kd.M (Kd.int .i64) _ _ _ (wrap64 (4449 + (wrap64 (Int.tdiv (Int.tmod a0 588) 28)))) [.int .i64 (wrap64 (4449 + (wrap64 (Int.tdiv (Int.tmod a0 588) 28))))] from rfl) (Reps.none _ _)))); intro v102 w4 ho5 hb hg_ hnew_; clear hg_ hnew_; (first | rw [← Ny101.out] at ho5 | (simp only [Int.reduceToNat] at ho5; rw [← Ny101.out] at ho5)); have n0_ := Aside0.mk (Kd.R_lower ho5 (below_size (by repeat (first | (with_reducible first | exact HB.out | apply below_alloc | apply pw_below_drewN | apply below_drew1) | exact HB.out)))); have n1_ := Aside0.mk (below_step (by repeat (first | (with_reducible first | exact HB.out | apply below_alloc | apply pw_below_drewN | apply below_drew1) | exact HB.out)) hb); clear HB; have HO103 := n0_; have HB := n1_; clear n0_ n1_; clear hb ho5) | ((with_reducible refine gate_builtin (b := .append) (xs := #[.tmp 17, .tmp 20]) rfl ?_); at_builtin; refine Kd.R_append (Kd.int .i64) (w0 := w) w.heap.size rfl (.tmp 17) (.tmp 20) 25 3 (.int .i64 0) 8 rfl Tryz.underlying25 info3 rfl (by decide) (by omega) v102 y101 (wrap64 (4519 + (Int.tmod a0 28))) [.int .i64 (wrap64 (4519 + (Int.tmod a0 28)))] (fun _ => True) (fun _ => False) rfl rfl ?aP (fun _ hk => hk.elim) ?aF ?aO ?aB ?aS ?aL ?_; (case aP => exact rfl); (case aB => exact (by repeat (first | (with_reducible first | exact HB.out | apply below_alloc | apply pw_below_drewN | apply below_drew1) | exact HB.out))); (case aF => exact (fun _ _ => trivial)); (case aO => exact (by (with_reducible repeat (first | apply Kd.R_alloc | apply Kd.R_drewN | apply Kd.R_drew)); exact HO103.out)); (case aS => exact (below_size (by repeat (first | (with_reducible first | exact HB.out | apply below_alloc | apply pw_below_drewN | apply below_drew1) | exact HB.out)))); (case aL => have := LMc3.out; omega); intro v105 w6 ho hb hg hat; rw [← Ny104.out] at ho; have n0_ := Aside0.mk (hb); have n1_ := Aside0.mk (ho); clear HB; clear HO103; have HB := n0_; have HO106 := n1_; clear n0_ n1_; clear ho hb hg hat))
      go_ret
      exact ⟨_, by first | rfl | (simp [errW_none, errW_some] <;> rfl) | (simp [*, errW_none, errW_some] <;> rfl), by (with_reducible repeat (first | apply Kd.R_alloc | apply Kd.R_drewN | apply Kd.R_drew)); exact HO106.out, by repeat (first | (with_reducible first | exact HB.out | apply below_alloc | apply pw_below_drewN | apply below_drew1) | exact HB.out)⟩
    · rw [if_neg c3] at H
      exact absurd H (by simp)
  · rw [if_neg c2] at H
    have c2b0 : decide (0 < (Int.tmod a0 28)) = false := decide_eq_false c2
    clear c2
    obtain rfl := Option.some.inj H
    go_enter Tryz.func54, Tryz.ntmps54
    go_wp2_with (first | ((with_reducible refine gate_dst (N := 12) rfl ?_); refine Kd.R_lit (Kd.int .i64) _ 3 ?hg (N := 12) ?hd (xs := ([wrap64 (4352 + (wrap64 (Int.tdiv a0 588))), wrap64 (4449 + (wrap64 (Int.tdiv (Int.tmod a0 588) 28)))] : List Int)) (inner := [.int .i64 (wrap64 (4352 + (wrap64 (Int.tdiv a0 588)))), .int .i64 (wrap64 (4449 + (wrap64 (Int.tdiv (Int.tmod a0 588) 28))))]) (ok := fun _ => True) (okp := fun _ => True) ?hr ?hp (fun _ hk => hk) trivial (Below.refl _ _) (Nat.le_refl _) (by simp) ?_; (case hd => rfl); (case hg => rfl); (case hr => first | (go_simp; done) | (go_simp; rfl)); (case hp => exact (Reps.one (show Kd.M (Kd.int .i64) _ _ _ (wrap64 (4352 + (wrap64 (Int.tdiv a0 588)))) [.int .i64 (wrap64 (4352 + (wrap64 (Int.tdiv a0 588))))] from rfl) (Reps.one (show Kd.M (Kd.int .i64) _ _ _ (wrap64 (4449 + (wrap64 (Int.tdiv (Int.tmod a0 588) 28)))) [.int .i64 (wrap64 (4449 + (wrap64 (Int.tdiv (Int.tmod a0 588) 28))))] from rfl) (Reps.none _ _)))); intro v102 w7 ho8 hb hg_ hnew_; clear hg_ hnew_; (first | rw [← Ny101.out] at ho8 | (simp only [Int.reduceToNat] at ho8; rw [← Ny101.out] at ho8)); have n0_ := Aside0.mk (Kd.R_lower ho8 (below_size (by repeat (first | (with_reducible first | exact HB.out | apply below_alloc | apply pw_below_drewN | apply below_drew1) | exact HB.out)))); have n1_ := Aside0.mk (below_step (by repeat (first | (with_reducible first | exact HB.out | apply below_alloc | apply pw_below_drewN | apply below_drew1) | exact HB.out)) hb); clear HB; have HO103 := n0_; have HB := n1_; clear n0_ n1_; clear hb ho8))
    go_ret
    exact ⟨_, by first | rfl | (simp [errW_none, errW_some] <;> rfl) | (simp [*, errW_none, errW_some] <;> rfl), by (with_reducible repeat (first | apply Kd.R_alloc | apply Kd.R_drewN | apply Kd.R_drew)); exact HO103.out, by repeat (first | (with_reducible first | exact HB.out | apply below_alloc | apply pw_below_drewN | apply below_drew1) | exact HB.out)⟩

end Go.Proofs.YtjgdnhmbfeekoaaGreatDoor.PD
end

/- ==== the text PDx ==== -/
section
-- PRINTED by print.py (a twelfth state) out of the translation. Not trusted: Lean checks it.
namespace Go.Proofs.YtjgdnhmbfeekoaaGreatDoor.PD
open Go.RowKit Go.Proofs.YtjgdnhmbfeekoaaGreatDoorW.PrintWords Go.Proofs.YtjgdnhmbfeekoaaGreatDoorW.PrintLast Go.Proofs.YtjgdnhmbfeekoaaGreatDoorW.PrintMore
attribute [local go_sem] max2_int min2_int max_two min_two max_three min_three max_four min_four   -- for this text's walks alone
set_option linter.unusedVariables false
set_option linter.unusedSimpArgs false

end Go.Proofs.YtjgdnhmbfeekoaaGreatDoor.PD
end

/- ==== the text W23 ==== -/
section
/- The walk of package decomp's Full: what a value is made of. -/
namespace Go.Proofs.Pt
open Go Go.RowKit Go.Proofs.YtjgdnhmbfeekoaaGreatDoorW.PrintWords Go.Proofs.YtjgdnhmbfeekoaaGreatDoor.PD

theorem table_run (w : World) : Calls Tryz.prog 56 #[] w fun e w' => e = .returned (.string ⟨(tabB decT).toArray⟩) ∧ w' = w :=
  calls_told 0 (w' := w) Tryz.func56 (fun _ _ => by simp [results, Tryz.results56, go_sem]) (by kernel_rfl) ⟨rfl, rfl⟩
def FullR (l : List Int) (w : World) (e : Ending) (w' : World) : Prop := ∃ v : Value, e = .returned v ∧ Kd.R (Kd.int .i64) 3 w' w.heap.size (fun _ => True) v l ∧ Below w.heap.size w w'
theorem bind_key (t x : Int) (l : List Int) (hl : l.length = 2) : ((some l).bind fun y101 => (if t > 0 then (if y101.length < 17592186044416 then (some (y101 ++ [x])) else (none)) else (some y101))) = some (l ++ if t = 0 then [] else [x]) ∨ t < 0 := by
  rw [Option.bind_some]
  by_cases h : t > 0
  · rw [if_pos h, if_pos (by omega), if_neg (by omega)]; exact .inl rfl
  · rw [if_neg h]
    by_cases h0 : t = 0
    · rw [if_pos h0, List.append_nil]; exact .inl rfl
    · exact .inr (by omega)
theorem syl_e1 (s : Nat) (hs : s ≤ 11171) : wrap64 (Int.tdiv (s : Int) 588) = (s : Int) / 588 := by rw [Int.tdiv_eq_ediv_of_nonneg (by omega)]; unfold wrap64; omega
theorem syl_e2 (s : Nat) : Int.tmod (s : Int) 28 = (s : Int) % 28 := Int.tmod_eq_emod_of_nonneg (by omega)
theorem syl_e3 (s : Nat) : Int.tmod (s : Int) 588 = (s : Int) % 588 := Int.tmod_eq_emod_of_nonneg (by omega)
theorem syl_e4 (s : Nat) : wrap64 (Int.tdiv ((s : Int) % 588) 28) = (s : Int) % 588 / 28 := by rw [Int.tdiv_eq_ediv_of_nonneg (by omega)]; unfold wrap64; omega
theorem syl_w1 (s : Nat) (hs : s ≤ 11171) : wrap64 (4352 + (s : Int) / 588) = 4352 + (s : Int) / 588 := by unfold wrap64; omega
theorem syl_w2 (s : Nat) : wrap64 (4449 + (s : Int) % 588 / 28) = 4449 + (s : Int) % 588 / 28 := by unfold wrap64; omega
theorem syl_w3 (s : Nat) : wrap64 (4519 + (s : Int) % 28) = 4519 + (s : Int) % 28 := by unfold wrap64; omega
theorem syl_f (s : Nat) (hs : s ≤ 11171) : decomp_syllable.f (s : Int) = some (syl s) := by
  unfold decomp_syllable.f syl
  rw [syl_e1 s hs, syl_e2, syl_e3, syl_e4, syl_w1 s hs, syl_w2, syl_w3]
  have h0 : 0 ≤ (s : Int) % 28 := Int.emod_nonneg _ (by decide)
  generalize hl : [4352 + (s : Int) / 588, 4449 + (s : Int) % 588 / 28] = l
  have hl2 : l.length = 2 := by rw [← hl]; rfl
  clear hl
  generalize (s : Int) % 28 = t at h0
  rcases bind_key t (4519 + t) l hl2 with h | h
  · exact h
  · omega
theorem syllable_any (s : Nat) (hs : s ≤ 11171) (w : World) : Calls Tryz.prog 54 #[.int .i64 s] w (FullR (syl s) w) :=
  decomp_syllable.calls _ _ w (syl_f s hs)
theorem one_R (w : World) (x : Int) : Kd.R (Kd.int .i64) 3 (w.alloc (.cells #[.int .i64 x] 3)) w.heap.size (fun _ => True) (.slice (some ⟨w.heap.size, 0, none⟩) 1 1) [x] :=
  Kd.R_of_own (enc := Value.int .i64) (h1 := fun _ => rfl) (own_lit w w.heap.size 3 .i64 [x] (Nat.le_refl _) (by simp)) (fun _ _ => trivial)
theorem full_none {r : Int} (h1 : ¬ (44032 ≤ r ∧ r ≤ 55203)) (h2 : ¬ (65281 ≤ r ∧ r ≤ 65374)) : full r = (assoc decT r).getD [r] := by unfold full; rw [if_neg h1, if_neg h2]
theorem assoc_neg {r : Int} (h : r < 0) : assoc decT r = none := assoc_none fun x hx => by have := all_mem decT_keys hx; simp at this; omega
theorem code_len (u : Nat) : (code u).length ≤ 16 := by
  have := hexF_length 16 u
  unfold code hexU
  simp only [List.length_append, List.length_replicate]; omega
theorem key_bytes (u : Nat) : ((ByteArray.mk #[32]) ++ (ByteArray.mk (code u).toArray) ++ (ByteArray.mk #[61])) = ⟨(keyB u).toArray⟩ := by
  apply ByteArray.ext
  simp [ByteArray.data_append, keyB]
theorem tab_size : (tabB decT).length ≤ 20000 := by decide +kernel
theorem cut_len (s p : List UInt8) : (Lib.cut s p).2.1.length ≤ s.length := by
  unfold Lib.cut
  split
  · simp
  · simp
theorem drewN_below (w : World) (n : Nat) : Below w.heap.size w (w.drewN n) := pw_below_drewN (Below.refl _ _) n
set_option maxHeartbeats 1000000 in
set_option maxRecDepth 100000 in
theorem full_any (r : Int) (hr : r < 9223372036854775808) (w : World) (hV : Vars w) : Calls Tryz.prog 17 #[.int .i64 r] w (FullR (full r) w) := by
  have HV := Lib.hid hV; clear hV
  by_cases h0 : r < 0
  · have e : full r = [r] := by rw [full_none (by omega) (by omega), assoc_neg h0]; rfl
    have E := Lib.hid e; clear e hr
    go_enter Tryz.func17, Tryz.ntmps17
    go_wp2
    go_ret
    refine ⟨_, rfl, ?_, (Below.refl _ _).alloc (Nat.le_refl _) _⟩
    rw [E.out]
    exact one_R w r
  · by_cases h1 : 44032 ≤ r ∧ r ≤ 55203
    · have e : full r = syl (r - 44032) := by unfold full; rw [if_pos h1]
      obtain ⟨s, hs⟩ : ∃ s : Nat, r - 44032 = (s : Int) := ⟨(r - 44032).toNat, by omega⟩
      rw [hs] at e
      have E := Lib.hid e; have HS := Lib.hid hs; clear e hs
      obtain ⟨h2, h3⟩ := h1
      have h4 : s ≤ 11171 := by have := HS.out; omega
      go_enter Tryz.func17, Tryz.ntmps17
      go_wp2_with fail
      rw [HS.out]
      refine (syllable_any s h4 _).mono ?_
      rintro e w1 ⟨v, rfl, ho, hb⟩
      have HO := Lib.hid ho; have HB := Lib.hid hb; clear ho hb
      obtain ⟨A1, c1, hv1⟩ := own_slice (Kd.own_of_R (h1 := fun _ => rfl) HO.out)
      subst hv1
      go_wp2
      go_ret
      refine ⟨_, rfl, ?_, HB.out⟩
      rw [E.out]
      exact HO.out
    · by_cases h2 : 65281 ≤ r ∧ r ≤ 65374
      · have e : full r = [r - 65248] := by unfold full; rw [if_neg h1, if_pos h2]
        have E := Lib.hid e; clear e
        obtain ⟨h3, h4⟩ := h2
        have h5 : 55203 < r := by omega
        have h6 : decide (55203 < r) = true := decide_eq_true h5
        clear h1
        go_enter Tryz.func17, Tryz.ntmps17
        go_wp2
        go_ret
        refine ⟨_, rfl, ?_, (Below.refl _ _).alloc (Nat.le_refl _) _⟩
        rw [E.out]
        exact one_R w (r - 65248)
      · have e := full_none h1 h2
        have E := Lib.hid e; clear e
        obtain ⟨u, hru⟩ : ∃ u : Nat, r = u := ⟨r.toNat, by omega⟩
        have hu : u < 9223372036854775808 := by omega
        have ha : (r < 44032) ∨ (55203 < r) := by omega
        have hb : (r < 65281) ∨ (65374 < r) := by omega
        have hr0 : 0 ≤ r := by omega
        have HU := Lib.hid hu; have HR := Lib.hid hru
        clear h1 h2 hr h0 hu hru
        have key : ∀ (W : World), Below w.heap.size w W → Calls Tryz.prog 55 #[.string ⟨(tabB decT).toArray⟩, .string ⟨(keyB u).toArray⟩] W fun e w' => (∃ a : ByteArray, (assoc decT r = none ∧ e = .returned (.tuple #[.string a, .string ⟨#[]⟩, .bool false])) ∨ (∃ vs b, assoc decT r = some vs ∧ b.size < 4294967281 ∧ (Lib.cut b.data.toList [32]).1 = inter vs ∧ e = .returned (.tuple #[.string a, .string b, .bool true]))) ∧ Below W.heap.size W w' := by
          intro W hW
          obtain ⟨m, hm⟩ := (HV.out.below hW).maxlen
          refine (Tryz.strings_Cut ⟨(tabB decT).toArray⟩ ⟨(keyB u).toArray⟩ m W (by show (tabB decT).toArray.size < _; have := tab_size; simp; omega) hm).mono ?_
          rintro e w' ⟨rfl, n, rfl⟩
          refine ⟨⟨⟨(Lib.cut (tabB decT) (keyB u)).1.toArray⟩, ?_⟩, drewN_below _ _⟩
          have hu16 : u < 16 ^ 16 := by have := HU.out; omega
          rw [HR.out]
          cases hc : assoc decT (u : Int) with
          | none =>
            have hx := dec_missed hu16 hc
            left
            refine ⟨rfl, ?_⟩
            show Ending.returned (.tuple #[_, .string ⟨(Lib.cut (tabB decT) (keyB u)).2.1.toArray⟩, .bool (Lib.cut (tabB decT) (keyB u)).2.2]) = _
            rw [hx]
          | some vs =>
            obtain ⟨rest, hx⟩ := dec_found hu16 hc
            right
            refine ⟨vs, ⟨(inter vs ++ 32 :: rest).toArray⟩, rfl, ?_, inter_cut vs rest, ?_⟩
            · have h1 := cut_len (tabB decT) (keyB u)
              rw [hx] at h1
              have h2 := tab_size
              show (inter vs ++ 32 :: rest).toArray.size < _
              simp only [List.size_toArray]
              simp only at h1
              omega
            · show Ending.returned (.tuple #[_, .string ⟨(Lib.cut (tabB decT) (keyB u)).2.1.toArray⟩, .bool (Lib.cut (tabB decT) (keyB u)).2.2]) = _
              rw [hx]
        have KEY := Lib.hid key; clear key
        go_enter Tryz.func17, Tryz.ntmps17
        rcases ha with ha | ha
        · have hb0 : r < 65281 := by omega
          have g1 : decide (44032 ≤ r) = false := decide_eq_false (by omega)
          have g2 : decide (65281 ≤ r) = false := decide_eq_false (by omega)
          clear hb
          go_wp2_with fail
          refine (table_run _).mono ?_
          rintro e w1 ⟨rfl, hw1⟩
          have hw1' := hw1.symm; subst hw1'; clear hw1
          go_wp2_with fail
          rw [HR.out]
          refine (code_any u HU.out _ HV.out).mono ?_
          rintro e w1 ⟨rfl, hb1⟩
          have HB1 := Lib.hid hb1; clear hb1
          rw [← HR.out]
          obtain ⟨cs, hcs⟩ : ∃ cs : ByteArray, cs = ⟨(code u).toArray⟩ := ⟨_, rfl⟩
          have hcl : (cs.size : Int) ≤ 16 := by rw [hcs]; have := code_len u; show ((code u).toArray.size : Int) ≤ 16; simp only [List.size_toArray]; omega
          rw [← hcs]
          have HCS := Lib.hid hcs; clear hcs
          go_wp2_with fail
          rw [HCS.out, key_bytes]
          refine (KEY.out w1 HB1.out).mono ?_
          rintro e w2 ⟨⟨a, hk⟩, hb2⟩
          have HB2 : Hid (Below w.heap.size w w2) := HB1.out.trans (hb2.mono HB1.out.size)
          clear hb2
          rcases hk with ⟨hn, rfl⟩ | ⟨vs, b, hn, hbs, hcut, rfl⟩
          · have he : full r = [r] := by rw [E.out, hn]; rfl
            have HE := Lib.hid he; clear he hn
            go_wp2
            go_ret
            refine ⟨_, rfl, ?_, HB2.out.alloc HB2.out.size _⟩
            rw [HE.out]
            exact Kd.R_lower (one_R w2 r) HB2.out.size
          · have he : full r = vs := by rw [E.out, hn]; rfl
            have hro := row_ok hn
            have hlen := full_length r
            rw [he] at hlen
            have HE := Lib.hid he; have HRO := Lib.hid hro; have HLEN := Lib.hid hlen; have HCUT := Lib.hid hcut; clear he hn hro hlen hcut
            obtain ⟨m, hm⟩ := (HV.out.below HB2.out).maxlen
            go_wp2_with fail
            refine (Tryz.strings_Cut b ⟨#[32]⟩ m w2 hbs hm).mono ?_
            rintro e w3 ⟨rfl, n, rfl⟩
            rw [show (Lib.cut b.data.toList (ByteArray.mk #[32]).data.toList).1 = inter vs from HCUT.out]
            clear hm
            have HB3 : Hid (Below w.heap.size w (w2.drewN n)) := HB2.out.trans ((drewN_below w2 n).mono HB2.out.size)
            generalize w2.drewN n = w3 at HB3 ⊢
            go_wp2_with fail
            refine (parts_any vs HRO.out HLEN.out.1 HLEN.out.2 _ (HV.out.below HB3.out)).mono ?_
            rintro e w4 ⟨v, rfl, ho, hb4⟩
            have HO := Lib.hid ho
            have HB4 : Hid (Below w.heap.size w w4) := HB3.out.trans (hb4.mono HB3.out.size)
            clear ho hb4
            obtain ⟨A1, c1, hv1⟩ := own_slice HO.out
            subst hv1
            go_wp2
            go_ret
            refine ⟨_, rfl, ?_, HB4.out⟩
            rw [HE.out]
            exact Kd.R_lower (Kd.R_of_own (enc := Value.int .i64) (h1 := fun _ => rfl) HO.out (fun _ _ => trivial)) HB3.out.size
        · rcases hb with hb | hb
          · have g0 : 44032 ≤ r := by omega
            have g1 : decide (r ≤ 55203) = false := decide_eq_false (by omega)
            have g2 : decide (65281 ≤ r) = false := decide_eq_false (by omega)
            go_wp2_with fail
            refine (table_run _).mono ?_
            rintro e w1 ⟨rfl, hw1⟩
            have hw1' := hw1.symm; subst hw1'; clear hw1
            go_wp2_with fail
            rw [HR.out]
            refine (code_any u HU.out _ HV.out).mono ?_
            rintro e w1 ⟨rfl, hb1⟩
            have HB1 := Lib.hid hb1; clear hb1
            rw [← HR.out]
            obtain ⟨cs, hcs⟩ : ∃ cs : ByteArray, cs = ⟨(code u).toArray⟩ := ⟨_, rfl⟩
            have hcl : (cs.size : Int) ≤ 16 := by rw [hcs]; have := code_len u; show ((code u).toArray.size : Int) ≤ 16; simp only [List.size_toArray]; omega
            rw [← hcs]
            have HCS := Lib.hid hcs; clear hcs
            go_wp2_with fail
            rw [HCS.out, key_bytes]
            refine (KEY.out w1 HB1.out).mono ?_
            rintro e w2 ⟨⟨a, hk⟩, hb2⟩
            have HB2 : Hid (Below w.heap.size w w2) := HB1.out.trans (hb2.mono HB1.out.size)
            clear hb2
            rcases hk with ⟨hn, rfl⟩ | ⟨vs, b, hn, hbs, hcut, rfl⟩
            · have he : full r = [r] := by rw [E.out, hn]; rfl
              have HE := Lib.hid he; clear he hn
              go_wp2
              go_ret
              refine ⟨_, rfl, ?_, HB2.out.alloc HB2.out.size _⟩
              rw [HE.out]
              exact Kd.R_lower (one_R w2 r) HB2.out.size
            · have he : full r = vs := by rw [E.out, hn]; rfl
              have hro := row_ok hn
              have hlen := full_length r
              rw [he] at hlen
              have HE := Lib.hid he; have HRO := Lib.hid hro; have HLEN := Lib.hid hlen; have HCUT := Lib.hid hcut; clear he hn hro hlen hcut
              obtain ⟨m, hm⟩ := (HV.out.below HB2.out).maxlen
              go_wp2_with fail
              refine (Tryz.strings_Cut b ⟨#[32]⟩ m w2 hbs hm).mono ?_
              rintro e w3 ⟨rfl, n, rfl⟩
              rw [show (Lib.cut b.data.toList (ByteArray.mk #[32]).data.toList).1 = inter vs from HCUT.out]
              clear hm
              have HB3 : Hid (Below w.heap.size w (w2.drewN n)) := HB2.out.trans ((drewN_below w2 n).mono HB2.out.size)
              generalize w2.drewN n = w3 at HB3 ⊢
              go_wp2_with fail
              refine (parts_any vs HRO.out HLEN.out.1 HLEN.out.2 _ (HV.out.below HB3.out)).mono ?_
              rintro e w4 ⟨v, rfl, ho, hb4⟩
              have HO := Lib.hid ho
              have HB4 : Hid (Below w.heap.size w w4) := HB3.out.trans (hb4.mono HB3.out.size)
              clear ho hb4
              obtain ⟨A1, c1, hv1⟩ := own_slice HO.out
              subst hv1
              go_wp2
              go_ret
              refine ⟨_, rfl, ?_, HB4.out⟩
              rw [HE.out]
              exact Kd.R_lower (Kd.R_of_own (enc := Value.int .i64) (h1 := fun _ => rfl) HO.out (fun _ _ => trivial)) HB3.out.size
          · have g0 : 44032 ≤ r := by omega
            have g1 : decide (r ≤ 55203) = false := decide_eq_false (by omega)
            have g2 : 65281 ≤ r := by omega
            have g3 : decide (r ≤ 65374) = false := decide_eq_false (by omega)
            go_wp2_with fail
            refine (table_run _).mono ?_
            rintro e w1 ⟨rfl, hw1⟩
            have hw1' := hw1.symm; subst hw1'; clear hw1
            go_wp2_with fail
            rw [HR.out]
            refine (code_any u HU.out _ HV.out).mono ?_
            rintro e w1 ⟨rfl, hb1⟩
            have HB1 := Lib.hid hb1; clear hb1
            rw [← HR.out]
            obtain ⟨cs, hcs⟩ : ∃ cs : ByteArray, cs = ⟨(code u).toArray⟩ := ⟨_, rfl⟩
            have hcl : (cs.size : Int) ≤ 16 := by rw [hcs]; have := code_len u; show ((code u).toArray.size : Int) ≤ 16; simp only [List.size_toArray]; omega
            rw [← hcs]
            have HCS := Lib.hid hcs; clear hcs
            go_wp2_with fail
            rw [HCS.out, key_bytes]
            refine (KEY.out w1 HB1.out).mono ?_
            rintro e w2 ⟨⟨a, hk⟩, hb2⟩
            have HB2 : Hid (Below w.heap.size w w2) := HB1.out.trans (hb2.mono HB1.out.size)
            clear hb2
            rcases hk with ⟨hn, rfl⟩ | ⟨vs, b, hn, hbs, hcut, rfl⟩
            · have he : full r = [r] := by rw [E.out, hn]; rfl
              have HE := Lib.hid he; clear he hn
              go_wp2
              go_ret
              refine ⟨_, rfl, ?_, HB2.out.alloc HB2.out.size _⟩
              rw [HE.out]
              exact Kd.R_lower (one_R w2 r) HB2.out.size
            · have he : full r = vs := by rw [E.out, hn]; rfl
              have hro := row_ok hn
              have hlen := full_length r
              rw [he] at hlen
              have HE := Lib.hid he; have HRO := Lib.hid hro; have HLEN := Lib.hid hlen; have HCUT := Lib.hid hcut; clear he hn hro hlen hcut
              obtain ⟨m, hm⟩ := (HV.out.below HB2.out).maxlen
              go_wp2_with fail
              refine (Tryz.strings_Cut b ⟨#[32]⟩ m w2 hbs hm).mono ?_
              rintro e w3 ⟨rfl, n, rfl⟩
              rw [show (Lib.cut b.data.toList (ByteArray.mk #[32]).data.toList).1 = inter vs from HCUT.out]
              clear hm
              have HB3 : Hid (Below w.heap.size w (w2.drewN n)) := HB2.out.trans ((drewN_below w2 n).mono HB2.out.size)
              generalize w2.drewN n = w3 at HB3 ⊢
              go_wp2_with fail
              refine (parts_any vs HRO.out HLEN.out.1 HLEN.out.2 _ (HV.out.below HB3.out)).mono ?_
              rintro e w4 ⟨v, rfl, ho, hb4⟩
              have HO := Lib.hid ho
              have HB4 : Hid (Below w.heap.size w w4) := HB3.out.trans (hb4.mono HB3.out.size)
              clear ho hb4
              obtain ⟨A1, c1, hv1⟩ := own_slice HO.out
              subst hv1
              go_wp2
              go_ret
              refine ⟨_, rfl, ?_, HB4.out⟩
              rw [HE.out]
              exact Kd.R_lower (Kd.R_of_own (enc := Value.int .i64) (h1 := fun _ => rfl) HO.out (fun _ _ => trivial)) HB3.out.size
end Go.Proofs.Pt
end

/- ==== the text W24 ==== -/
section
/- The contract of decomp.Full in one form: what it tells as a plain function of what it is given. -/
namespace Go.Proofs.Pt
open Go Go.RowKit Go.Proofs.YtjgdnhmbfeekoaaGreatDoorW.PrintWords

def decomp_Full.f (a0 : Int) : Option (List Int) := if a0 < 9223372036854775808 then some (full a0) else none
theorem decomp_Full.calls (a0 : Int) (r : List Int) (w : World) (h : decomp_Full.f a0 = some r) (hV : Vars w) :
    Calls Tryz.prog 17 #[.int .i64 a0] w fun e w' => ∃ v0_ : Value, e = .returned (v0_) ∧ Kd.R (Kd.int .i64) 3 w' w.heap.size (fun _ => True) v0_ r ∧ Below w.heap.size w w' := by
  unfold decomp_Full.f at h
  split at h
  case isFalse => cases h
  rename_i hl
  cases h
  exact full_any a0 hl w hV
end Go.Proofs.Pt
end

/- ==== the text M2 ==== -/
section
/- Closed facts on the table of pairs: what two values are is made of what these are made of; its head is no mark; of two marks that one value takes the second is of no lower class. No program is in sight here. -/
namespace Go.Proofs.Pt

/-! ### pairs -/
theorem pairT_ok : pairT.all (fun x => full x.2.2 == full x.1 ++ full x.2.1 && full x.2.1 == [x.2.1] && decide (ccc x.1 = 0) && decide (ccc x.2.2 = 0) && decide (0 < ccc x.2.1) && decide (65 ≤ x.1) && decide (x.1 ≠ 847) && decide (768 ≤ x.2.1) &&
    (decide (x.2.2 < 4352) || decide (4546 < x.2.2)) && (decide (x.2.2 < 44032) || decide (55203 < x.2.2)) && (decide (x.1 < 4352) || decide (4546 < x.1)) && (decide (x.1 < 44032) || decide (55203 < x.1))) = true := by decide +kernel
theorem join_cases {a b v : Int} (h : join a b = some v) :
    ((4352 ≤ a ∧ a ≤ 4370) ∧ (4449 ≤ b ∧ b ≤ 4469) ∧ v = 44032 + ((a - 4352) * 21 + (b - 4449)) * 28) ∨
    (((44032 ≤ a ∧ a ≤ 55203) ∧ (a - 44032) % 28 = 0) ∧ (4520 ≤ b ∧ b ≤ 4546) ∧ v = a + b - 4519) ∨ (a, b, v) ∈ pairT := by
  unfold join at h
  split at h
  · rename_i c; cases h; exact .inl ⟨c.1, c.2, rfl⟩
  · split at h
    · rename_i c; cases h; exact .inr (.inl ⟨c.1, c.2, rfl⟩)
    · exact .inr (.inr (assoc2_mem h))
structure JoinOk (a b v : Int) : Prop where
  full : full v = full a ++ full b
  plain : Pt.full b = [b]
  head : ccc a = 0
  whole : ccc v = 0
  kind : 0 < ccc b ∨ (4449 ≤ b ∧ b ≤ 4546)
  big : 65 ≤ a
  noj : a ≠ 847
theorem join_ok {a b v : Int} (h : join a b = some v) : JoinOk a b v := by
  rcases join_cases h with ⟨h1, h2, rfl⟩ | ⟨h1, h2, rfl⟩ | h
  · refine ⟨?_, full_plain (.inr (.inl (by omega))), ccc_zero_of (.inr (.inr (by omega))), ccc_zero_of (.inr (.inl (by omega))), .inr (by omega), by omega, by omega⟩
    rw [full_plain (r := a) (.inr (.inl (by omega))), full_plain (r := b) (.inr (.inl (by omega)))]
    unfold Pt.full
    rw [if_pos (by omega)]
    unfold syl
    rw [if_pos (by omega)]
    simp; omega
  · refine ⟨?_, full_plain (.inr (.inl (by omega))), ccc_zero_of (.inr (.inl (by omega))), ccc_zero_of (.inr (.inl (by omega))), .inr (by omega), by omega, by omega⟩
    rw [full_plain (r := b) (.inr (.inl (by omega)))]
    unfold Pt.full
    rw [if_pos (by omega), if_pos (by omega)]
    unfold syl
    rw [if_neg (by omega), if_pos (by omega)]
    simp; omega
  · have := all_mem pairT_ok h
    simp only [Bool.and_eq_true, beq_iff_eq, decide_eq_true_eq] at this
    obtain ⟨⟨⟨⟨⟨⟨⟨⟨⟨⟨⟨h1, h2⟩, h3⟩, h4⟩, h5⟩, h6⟩, h7⟩, h8⟩, h9⟩, h10⟩, h11⟩, h12⟩ := this
    exact ⟨h1, h2, h3, h4, .inl h5, h6, h7⟩
theorem join_low (a : Int) {b : Int} (hb : b < 768) : join a b = none := by
  cases h : join a b with
  | none => rfl
  | some v =>
    rcases join_cases h with ⟨_, h2, _⟩ | ⟨_, h2, _⟩ | h
    · omega
    · omega
    · have := all_mem pairT_ok h
      simp at this; omega
theorem join_small {a : Int} (b : Int) (ha : a < 65 ∨ a = 847) : join a b = none := by
  cases h : join a b with
  | none => rfl
  | some v => have := join_ok h; have := this.big; have := (join_ok h).noj; omega
theorem pairT_order : pairT.all (fun x => pairT.all fun y => decide (y.1 ≠ x.2.2) || decide (ccc x.2.1 ≤ ccc y.2.1)) = true := by decide +kernel
/-- Of two marks that one value takes in turn the second is of no lower class. -/
theorem join_order {h s v r x : Int} (h1 : join h s = some v) (h2 : join v r = some x) (hr : 0 < ccc r) : ccc s ≤ ccc r := by
  rcases join_cases h1 with ⟨_, hs, _⟩ | ⟨_, hs, _⟩ | m1
  · rw [ccc_zero_of (r := s) (.inr (.inr (by omega)))]; omega
  · rw [ccc_zero_of (r := s) (.inr (.inr (by omega)))]; omega
  · rcases join_cases h2 with ⟨_, hr', _⟩ | ⟨_, hr', _⟩ | m2
    · rw [ccc_zero_of (r := r) (.inr (.inr (by omega)))] at hr; omega
    · rw [ccc_zero_of (r := r) (.inr (.inr (by omega)))] at hr; omega
    · have := all_mem (all_mem pairT_order m1) m2
      simp at this; omega

end Go.Proofs.Pt
end

/- ==== the text M3 ==== -/
section
/- Marks in their order: an insertion sort of each row of marks by class, and that lists which differ by marks of unlike classes that stand the other way round have one order. No program is in sight here. -/
namespace Go.Proofs.Pt

/-! ### order -/
/-- One value more behind a list that is told backwards: a mark goes ahead of those marks whose class is greater. -/
def insR : List Int → Int → List Int
  | [], r => [r]
  | x :: t, r => if 0 < ccc r ∧ ccc r < ccc x then x :: insR t r else r :: x :: t
def ordR (t : List Int) (l : List Int) : List Int := l.foldl insR t
def order (l : List Int) : List Int := (ordR [] l).reverse
theorem ordR_nil (t : List Int) : ordR t [] = t := rfl
theorem ordR_cons (t : List Int) (r : Int) (l : List Int) : ordR t (r :: l) = ordR (insR t r) l := rfl
theorem ordR_append (t a b : List Int) : ordR t (a ++ b) = ordR (ordR t a) b := by simp [ordR, List.foldl_append]
theorem insR_length (t : List Int) (r : Int) : (insR t r).length = t.length + 1 := by
  induction t with
  | nil => rfl
  | cons x t ih => simp only [insR]; split <;> simp [ih]
theorem ordR_length (l : List Int) : ∀ t, (ordR t l).length = t.length + l.length := by
  induction l with
  | nil => intro t; simp [ordR]
  | cons r l ih => intro t; rw [ordR_cons, ih, insR_length]; simp; omega
theorem order_length (l : List Int) : (order l).length = l.length := by simp [order, ordR_length]
theorem insR_perm (t : List Int) (r : Int) : (insR t r).Perm (r :: t) := by
  induction t with
  | nil => exact List.Perm.refl _
  | cons x t ih =>
    simp only [insR]; split
    · exact (ih.cons x).trans (List.Perm.swap r x t)
    · exact List.Perm.refl _
theorem ordR_perm (l : List Int) : ∀ t, (ordR t l).Perm (t ++ l) := by
  induction l with
  | nil => intro t; simp [ordR]
  | cons r l ih =>
    intro t; rw [ordR_cons]
    exact (ih _).trans (((insR_perm t r).append_right l).trans (List.perm_middle.symm))
theorem order_perm (l : List Int) : (order l).Perm l := (List.reverse_perm _).trans (by simpa using ordR_perm l [])
theorem mem_order {l : List Int} {x : Int} : x ∈ order l ↔ x ∈ l := (order_perm l).mem_iff

/-- Behind a value that is no mark nothing goes further back. -/
theorem insR_wall (u : List Int) {s : Int} (hs : ccc s = 0) (t : List Int) (r : Int) : insR (u ++ s :: t) r = insR u r ++ s :: t := by
  induction u with
  | nil => simp only [List.nil_append, insR]; rw [if_neg (by have := ccc_nonneg r; omega)]; rfl
  | cons x u ih => simp only [List.cons_append, insR]; split <;> simp [ih]
theorem ordR_wall (l : List Int) {s : Int} (hs : ccc s = 0) (t : List Int) : ∀ u, ordR (u ++ s :: t) l = ordR u l ++ s :: t := by
  induction l with
  | nil => intro u; rfl
  | cons r l ih => intro u; rw [ordR_cons, ordR_cons, insR_wall u hs, ih]
theorem insR_head (t : List Int) {s : Int} (hs : ccc s = 0) : insR t s = s :: t := by
  cases t with
  | nil => rfl
  | cons x t => simp only [insR]; rw [if_neg (by omega)]
theorem order_nil : order [] = [] := rfl
/-- A value that is no mark stays where it is, and parts the rows. -/
theorem order_split (a b : List Int) {s : Int} (hs : ccc s = 0) : order (a ++ s :: b) = order a ++ s :: order b := by
  unfold order
  rw [ordR_append, ordR_cons, insR_head _ hs]
  have := ordR_wall b hs (ordR [] a) []
  simp only [List.nil_append] at this
  rw [this]; simp
theorem order_head {s : Int} (hs : ccc s = 0) (b : List Int) : order (s :: b) = s :: order b := by
  have := order_split [] b hs; simpa [order_nil] using this
theorem order_split' (a b : List Int) {s : Int} (hs : ccc s = 0) : order (a ++ s :: b) = order a ++ order (s :: b) := by
  rw [order_split a b hs, order_head hs]
theorem order_snoc (l : List Int) (r : Int) : order (l ++ [r]) = (insR (order l).reverse r).reverse := by
  simp [order, ordR_append, ordR_cons, ordR_nil]
theorem order_snoc_head (l : List Int) {s : Int} (hs : ccc s = 0) : order (l ++ [s]) = order l ++ [s] := by
  rw [order_split l [] hs]; rfl

/-! ### what differs by marks of unlike classes that stand the other way round -/
inductive Alike : List Int → List Int → Prop
  | refl (l) : Alike l l
  | step (p q : List Int) (a b : Int) (ha : 0 < ccc a) (hb : 0 < ccc b) (hne : ccc a ≠ ccc b) : Alike (p ++ a :: b :: q) (p ++ b :: a :: q)
  | trans {l m n} : Alike l m → Alike m n → Alike l n
theorem Alike.symm {l m : List Int} (h : Alike l m) : Alike m l := by
  induction h with
  | refl => exact .refl _
  | step p q a b ha hb hne => exact .step p q b a hb ha (Ne.symm hne)
  | trans _ _ h1 h2 => exact .trans h2 h1
theorem Alike.left (x : List Int) {l m : List Int} (h : Alike l m) : Alike (x ++ l) (x ++ m) := by
  induction h with
  | refl => exact .refl _
  | step p q a b ha hb hne => have := Alike.step (x ++ p) q a b ha hb hne; simpa using this
  | trans _ _ h1 h2 => exact .trans h1 h2
theorem Alike.right (x : List Int) {l m : List Int} (h : Alike l m) : Alike (l ++ x) (m ++ x) := by
  induction h with
  | refl => exact .refl _
  | step p q a b ha hb hne => have := Alike.step p (q ++ x) a b ha hb hne; simpa using this
  | trans _ _ h1 h2 => exact .trans h1 h2
theorem Alike.both {l m l' m' : List Int} (h : Alike l m) (h' : Alike l' m') : Alike (l ++ l') (m ++ m') := (h.right l').trans (h'.left m)
theorem Alike.perm {l m : List Int} (h : Alike l m) : l.Perm m := by
  induction h with
  | refl => exact List.Perm.refl _
  | step p q a b _ _ _ => exact List.Perm.append_left p (List.Perm.swap b a q)
  | trans _ _ h1 h2 => exact h1.trans h2
/-- What is true of a value for each place stays so, where it hangs on no mark's place. -/
theorem Alike.kinds {l m : List Int} (h : Alike l m) : l.map (fun x => if 0 < ccc x then none else some x) = m.map (fun x => if 0 < ccc x then none else some x) := by
  induction h with
  | refl => rfl
  | step p q a b ha hb _ => simp [ha, hb]
  | trans _ _ h1 h2 => exact h1.trans h2
theorem Alike.classes (c : Int) {l m : List Int} (h : Alike l m) : l.filter (fun x => ccc x == c) = m.filter (fun x => ccc x == c) := by
  induction h with
  | refl => rfl
  | step p q a b _ _ hne =>
    simp only [List.filter_append, List.filter_cons]
    by_cases h1 : ccc a = c <;> by_cases h2 : ccc b = c <;> simp [h1, h2]
    omega
  | trans _ _ h1 h2 => exact h1.trans h2

theorem insR_comm_lt {a b : Int} (ha : 0 < ccc a) (hab : ccc a < ccc b) (t : List Int) : insR (insR t a) b = insR (insR t b) a := by
  induction t with
  | nil => simp only [insR]; rw [if_neg (by omega), if_pos (by omega)]
  | cons x t ih =>
    by_cases h1 : ccc b < ccc x
    · simp only [insR]; rw [if_pos (by omega), if_pos (by omega)]; simp only [insR]; rw [if_pos (by omega), if_pos (by omega), ih]
    · by_cases h2 : ccc a < ccc x
      · simp only [insR]; rw [if_pos (by omega), if_neg (by omega)]; simp only [insR]; rw [if_neg (by omega), if_pos (by omega), if_pos (by omega)]
      · simp only [insR]; rw [if_neg (by omega), if_neg (by omega)]; simp only [insR]; rw [if_neg (by omega), if_pos (by omega), if_neg (by omega)]
theorem insR_comm {a b : Int} (ha : 0 < ccc a) (hb : 0 < ccc b) (hne : ccc a ≠ ccc b) (t : List Int) : insR (insR t a) b = insR (insR t b) a := by
  by_cases h : ccc a < ccc b
  · exact insR_comm_lt ha h t
  · exact (insR_comm_lt hb (by omega) t).symm
theorem Alike.order {l m : List Int} (h : Alike l m) : Pt.order l = Pt.order m := by
  induction h with
  | refl => rfl
  | step p q a b ha hb hne => simp only [Pt.order, ordR_append, ordR_cons, insR_comm ha hb hne]
  | trans _ _ h1 h2 => exact h1.trans h2
theorem alike_insR (t : List Int) (r : Int) : Alike (t.reverse ++ [r]) (insR t r).reverse := by
  induction t with
  | nil => exact .refl _
  | cons x t ih =>
    simp only [insR]; split
    · rename_i h
      simp only [List.reverse_cons, List.append_assoc, List.singleton_append]
      refine (Alike.step t.reverse [] x r (by omega) h.1 (by omega)).trans ?_
      have := ih.right [x]; simpa using this
    · simp; exact .refl _
theorem alike_ordR (l : List Int) : ∀ t, Alike (t.reverse ++ l) (ordR t l).reverse := by
  induction l with
  | nil => intro t; simp [ordR_nil]; exact .refl _
  | cons r l ih =>
    intro t; rw [ordR_cons]
    have h1 := (alike_insR t r).right l
    have h2 := ih (insR t r)
    simp only [List.append_assoc, List.singleton_append] at h1
    exact h1.trans h2
/-- A list and its order differ by nothing else. -/
theorem alike_order (l : List Int) : Alike l (order l) := by simpa [order] using alike_ordR l []
theorem order_order (l : List Int) : order (order l) = order l := (alike_order l).order.symm
def Sorted (l : List Int) : Prop := order l = l
theorem sorted_order (l : List Int) : Sorted (order l) := order_order l
theorem alike_of_order {l m : List Int} (h : order l = order m) : Alike l m := (alike_order l).trans (h ▸ (alike_order m).symm)

/-! ### being in order, place by place -/
/-- No mark stands right behind one of a greater class. -/
def Steps : List Int → Prop
  | [] => True
  | [_] => True
  | a :: b :: l => ¬ (0 < ccc b ∧ ccc b < ccc a) ∧ Steps (b :: l)
theorem steps_tail {a : Int} {l : List Int} (h : Steps (a :: l)) : Steps l := by
  cases l with
  | nil => trivial
  | cons b l => exact h.2
theorem ordR_steps (l : List Int) : ∀ (x : Int) (t : List Int), Steps (x :: l) → ordR (x :: t) l = l.reverse ++ x :: t := by
  induction l with
  | nil => intro x t _; rfl
  | cons r l ih =>
    intro x t h
    rw [ordR_cons]
    simp only [insR]
    rw [if_neg h.1, ih r (x :: t) h.2]; simp
theorem sorted_of_steps {l : List Int} (h : Steps l) : Sorted l := by
  cases l with
  | nil => rfl
  | cons x l =>
    unfold Sorted order
    rw [ordR_cons]
    simp only [insR]
    rw [ordR_steps l x [] h]; simp
theorem steps_append {l m : List Int} (hl : Steps l) (hm : Steps m) (h : ∀ a b, l.getLast? = some a → m.head? = some b → ¬ (0 < ccc b ∧ ccc b < ccc a)) : Steps (l ++ m) := by
  induction l with
  | nil => exact hm
  | cons x l ih =>
    cases l with
    | nil =>
      cases m with
      | nil => trivial
      | cons y m => exact ⟨h x y rfl rfl, hm⟩
    | cons y l => exact ⟨hl.1, ih hl.2 fun a b ha hb => h a b (by simpa using ha) hb⟩
theorem steps_left {l m : List Int} (h : Steps (l ++ m)) : Steps l := by
  induction l with
  | nil => trivial
  | cons x l ih =>
    cases l with
    | nil => trivial
    | cons y l => exact ⟨h.1, ih h.2⟩
theorem steps_right {l m : List Int} (h : Steps (l ++ m)) : Steps m := by
  induction l with
  | nil => exact h
  | cons x l ih => exact ih (steps_tail h)
/-- The same told backwards. -/
def StepsR : List Int → Prop
  | [] => True
  | [_] => True
  | b :: a :: l => ¬ (0 < ccc b ∧ ccc b < ccc a) ∧ StepsR (a :: l)
theorem insR_stepsR (t : List Int) (r : Int) (h : StepsR t) : StepsR (insR t r) ∧ (∀ x u, insR t r = x :: u → x = r ∨ ∃ v, t = x :: v) := by
  induction t with
  | nil => exact ⟨trivial, fun x u e => by simp [insR] at e; exact .inl e.1.symm⟩
  | cons y t ih =>
    simp only [insR]; split
    · rename_i c
      have ht : StepsR t := by cases t with | nil => trivial | cons z t => exact h.2
      obtain ⟨h1, h2⟩ := ih ht
      refine ⟨?_, fun x u e => .inr ⟨t, by simp at e; rw [e.1]⟩⟩
      cases e : insR t r with
      | nil => trivial
      | cons z u =>
        rw [e] at h1
        refine ⟨?_, h1⟩
        rcases h2 z u e with rfl | ⟨v, rfl⟩
        · omega
        · exact h.1
    · rename_i c
      exact ⟨⟨c, h⟩, fun x u e => .inl (by simp at e; exact e.1.symm)⟩
theorem ordR_stepsR (l : List Int) : ∀ t, StepsR t → StepsR (ordR t l) := by
  induction l with
  | nil => intro t h; exact h
  | cons r l ih => intro t h; exact ih _ (insR_stepsR t r h).1
theorem steps_of_stepsR (t : List Int) : StepsR t → Steps t.reverse := by
  induction t with
  | nil => intro _; trivial
  | cons b t ih =>
    intro h
    rw [List.reverse_cons]
    cases t with
    | nil => trivial
    | cons a t =>
      refine steps_append (ih h.2) trivial ?_
      intro x y hx hy
      simp at hx hy; subst hx; subst hy; exact h.1
theorem steps_of_sorted {l : List Int} (h : Sorted l) : Steps l := by
  rw [← h]; exact steps_of_stepsR _ (ordR_stepsR l [] trivial)
theorem sorted_iff {l : List Int} : Sorted l ↔ Steps l := ⟨steps_of_sorted, sorted_of_steps⟩

/-! ### rows -/
/-- How many marks a list ends with. -/
def trail (l : List Int) : Nat := (l.reverse.takeWhile fun x => decide (0 < ccc x)).length
/-- How many marks the longest row has, some marks ahead. -/
def marksN : Nat → List Int → Nat
  | n, [] => n
  | n, r :: l => if 0 < ccc r then marksN (n + 1) l else max n (marksN 0 l)
def marks (l : List Int) : Nat := marksN 0 l
theorem marksN_ge (l : List Int) : ∀ n, n ≤ marksN n l := by
  induction l with
  | nil => intro n; exact Nat.le_refl _
  | cons r l ih => intro n; simp only [marksN]; split; · have := ih (n + 1); omega
                   · omega
theorem marksN_kinds (l : List Int) : ∀ (m : List Int) n, l.map (fun x => if 0 < ccc x then none else some x) = m.map (fun x => if 0 < ccc x then none else some x) → marksN n l = marksN n m := by
  induction l with
  | nil => intro m n h; cases m with | nil => rfl | cons => simp at h
  | cons r l ih =>
    intro m n h
    cases m with
    | nil => simp at h
    | cons q m =>
      simp only [List.map_cons, List.cons.injEq] at h
      simp only [marksN]
      by_cases hr : 0 < ccc r <;> by_cases hq : 0 < ccc q <;> simp only [hr, hq, if_true, if_false] at h ⊢
      · exact ih m _ h.2
      · exact absurd h.1 (by simp)
      · exact absurd h.1 (by simp)
      · rw [ih m 0 h.2]
theorem Alike.marks {l m : List Int} (h : Alike l m) : Pt.marks l = Pt.marks m := marksN_kinds l m 0 h.kinds
theorem order_marks (l : List Int) : marks (order l) = marks l := (alike_order l).marks.symm

end Go.Proofs.Pt
end

/- ==== the text M4 ==== -/
section
/- Values put together: a fold that keeps what was told, its head and what stands behind it; that what is put together is made of the same, and once more put together stays. No program is in sight here. -/
namespace Go.Proofs.Pt

/-- What was told ahead of the head, the head, and what was told behind it. -/
structure CS where
  pre : List Int
  hd : Option Int
  tl : List Int
def CS.out (s : CS) : List Int := s.pre ++ (s.hd.toList ++ s.tl)
def cinit : CS := ⟨[], none, []⟩
/-- May a value of a class be one with the head? -/
def CS.opens (s : CS) (c : Int) : Bool := match s.tl.getLast? with | none => true | some x => decide (ccc x < c)
def CS.joins (s : CS) (r : Int) : Option Int := match s.hd with | none => none | some h => if s.opens (ccc r) = true then join h r else none
def CS.push (s : CS) (r : Int) : CS := if ccc r = 0 then ⟨s.out, some r, []⟩ else ⟨s.pre, s.hd, s.tl ++ [r]⟩
def CS.step (s : CS) (r : Int) : CS := match s.joins r with | some v => ⟨s.pre, some v, s.tl⟩ | none => s.push r
def CS.run (s : CS) (l : List Int) : CS := l.foldl CS.step s
def compose (l : List Int) : List Int := (cinit.run l).out

theorem CS.run_nil (s : CS) : s.run [] = s := rfl
theorem CS.run_cons (s : CS) (r : Int) (l : List Int) : s.run (r :: l) = (s.step r).run l := rfl
theorem CS.run_append (s : CS) (a b : List Int) : s.run (a ++ b) = (s.run a).run b := by simp [CS.run, List.foldl_append]

/-- More ahead of all. -/
def CS.behind (p : List Int) (s : CS) : CS := ⟨p ++ s.pre, s.hd, s.tl⟩
theorem CS.out_behind (p : List Int) (s : CS) : (s.behind p).out = p ++ s.out := by simp [CS.behind, CS.out]
theorem CS.step_behind (p : List Int) (s : CS) (r : Int) : (s.behind p).step r = (s.step r).behind p := by
  have h1 : (s.behind p).joins r = s.joins r := rfl
  simp only [CS.step, h1]
  cases s.joins r with
  | some v => rfl
  | none =>
    simp only [CS.push]
    split
    · simp only [CS.out_behind]; rfl
    · rfl
theorem CS.run_behind (p : List Int) (l : List Int) : ∀ s : CS, (s.behind p).run l = (s.run l).behind p := by
  induction l with
  | nil => intro s; rfl
  | cons r l ih => intro s; rw [CS.run_cons, CS.run_cons, CS.step_behind, ih]
theorem CS.joins_none_low (s : CS) {r : Int} (h : ∀ a, join a r = none) : s.joins r = none := by
  unfold CS.joins
  cases s.hd with
  | none => rfl
  | some a => simp only [h a]; split <;> rfl
/-- A value that is no mark and is one with nothing ahead begins anew. -/
theorem CS.step_new (s : CS) {r : Int} (h0 : ccc r = 0) (h : ∀ a, join a r = none) : s.step r = (cinit.step r).behind s.out := by
  have e1 := s.joins_none_low h
  have e2 := cinit.joins_none_low h
  simp only [CS.step, e1, e2, CS.push, h0, if_true, CS.behind]
  simp [CS.out, cinit]
theorem compose_split (a b : List Int) {r : Int} (h0 : ccc r = 0) (h : ∀ x, join x r = none) : compose (a ++ r :: b) = compose a ++ compose (r :: b) := by
  unfold compose
  rw [CS.run_append, CS.run_cons, CS.step_new _ h0 h, CS.run_behind, CS.out_behind, CS.run_cons]
theorem compose_snoc_new (a : List Int) {r : Int} (h0 : ccc r = 0) (h : ∀ x, join x r = none) : compose (a ++ [r]) = compose a ++ [r] := by
  rw [compose_split a [] h0 h]
  congr 1
  unfold compose
  rw [CS.run_cons, CS.run_nil]
  have e2 := cinit.joins_none_low h
  simp only [CS.step, e2, CS.push, h0, if_true]
  simp [CS.out, cinit]

/-! ### what the fold keeps -/
structure CS.Wf (s : CS) : Prop where
  hd : ∀ h, s.hd = some h → ccc h = 0
  tl : ∀ x ∈ s.tl, 0 < ccc x
  none : s.hd = none → s.pre = []
theorem cinit_wf : cinit.Wf := ⟨by simp [cinit], by simp [cinit], fun _ => rfl⟩
theorem CS.step_wf {s : CS} (h : s.Wf) (r : Int) : (s.step r).Wf := by
  unfold CS.step
  cases e : s.joins r with
  | some v =>
    unfold CS.joins at e
    cases eh : s.hd with
    | none => simp [eh] at e
    | some a =>
      simp only [eh] at e
      split at e
      · exact ⟨fun x hx => by cases hx; exact (join_ok e).whole, h.tl, fun hx => by cases hx⟩
      · cases e
  | none =>
    simp only [CS.push]
    have := ccc_nonneg r
    split
    · rename_i c; exact ⟨fun x hx => by cases hx; exact c, by simp, fun hx => by cases hx⟩
    · exact ⟨h.hd, fun x hx => by simp at hx; rcases hx with hx | rfl; exact h.tl x hx; omega, h.none⟩
theorem CS.run_wf {s : CS} (h : s.Wf) (l : List Int) : (s.run l).Wf := by
  induction l generalizing s with
  | nil => exact h
  | cons r l ih => exact ih (CS.step_wf h r)
theorem CS.step_length (s : CS) (r : Int) : (s.step r).out.length ≤ s.out.length + 1 := by
  unfold CS.step
  cases e : s.joins r with
  | some v =>
    unfold CS.joins at e
    cases eh : s.hd with
    | none => simp [eh] at e
    | some a => simp [CS.out, eh]
  | none =>
    simp only [CS.push]
    split <;> (simp [CS.out]; try omega)
theorem CS.run_length (l : List Int) : ∀ s : CS, (s.run l).out.length ≤ s.out.length + l.length := by
  induction l with
  | nil => intro s; exact Nat.le_refl _
  | cons r l ih => intro s; rw [CS.run_cons]; have := ih (s.step r); have := s.step_length r; simp; omega
theorem compose_length (l : List Int) : (compose l).length ≤ l.length := by
  have := CS.run_length l cinit; simpa [compose, CS.out, cinit] using this

/-! ### made of the same -/
def made (l : List Int) : List Int := l.flatMap full
theorem made_nil : made [] = [] := rfl
theorem made_append (a b : List Int) : made (a ++ b) = made a ++ made b := by simp [made]
theorem made_cons (a : Int) (b : List Int) : made (a :: b) = full a ++ made b := by simp [made]
theorem made_plain {l : List Int} (h : ∀ x ∈ l, full x = [x]) : made l = l := by
  induction l with
  | nil => rfl
  | cons x l ih => rw [made_cons, h x (by simp), ih fun y hy => h y (by simp [hy])]; rfl
theorem made_of_mem {l : List Int} {x : Int} (h : x ∈ made l) : full x = [x] := by
  simp only [made, List.mem_flatMap] at h
  obtain ⟨y, _, hx⟩ := h
  exact full_full hx
theorem made_made (l : List Int) : made (made l) = made l := made_plain fun _ h => made_of_mem h
/-- A mark behind marks of lower classes may go ahead of them. -/
theorem alike_past (t : List Int) {r : Int} (hr : 0 < ccc r) (ht : ∀ x ∈ t, 0 < ccc x ∧ ccc x ≠ ccc r) : Alike (t ++ [r]) (r :: t) := by
  induction t with
  | nil => exact .refl _
  | cons x t ih =>
    have h1 := (ih fun y hy => ht y (by simp [hy])).left [x]
    have h2 := Alike.step [] t x r (ht x (by simp)).1 hr (ht x (by simp)).2
    exact h1.trans h2
theorem steps_le {l : List Int} (h : Steps l) (hm : ∀ x ∈ l, 0 < ccc x) {z : Int} (hz : l.getLast? = some z) : ∀ x ∈ l, ccc x ≤ ccc z := by
  induction l with
  | nil => simp
  | cons a l ih =>
    cases l with
    | nil => intro x hx; simp at hx hz; subst hx; subst hz; exact Int.le_refl _
    | cons b l =>
      have hz' : (b :: l).getLast? = some z := by simpa [List.getLast?_cons_cons] using hz
      have h0 := ih h.2 (fun x hx => hm x (List.mem_cons_of_mem _ hx)) hz'
      intro x hx
      rcases List.mem_cons.1 hx with rfl | hx
      · have h1 := h0 b (by simp)
        have h2 := h.1
        have h3 := hm b (by simp)
        omega
      · exact h0 x hx
theorem steps_snoc {l : List Int} {r : Int} (h : Steps l) (hr : ∀ x, l.getLast? = some x → ¬ (0 < ccc r ∧ ccc r < ccc x)) : Steps (l ++ [r]) :=
  steps_append h trivial fun a b ha hb => by simp at hb; subst hb; exact hr a ha
theorem steps_wall {p t : List Int} {h : Int} (hh : ccc h = 0) (hp : Steps p) (ht : Steps t) : Steps (p ++ h :: t) := by
  refine steps_append hp ?_ fun a b _ hb => by simp at hb; subst hb; omega
  cases t with
  | nil => trivial
  | cons x t => exact ⟨by have := ccc_nonneg x; omega, ht⟩
theorem CS.out_steps {s : CS} (hw : s.Wf) (hp : Steps s.pre) (ht : Steps s.tl) : Steps s.out := by
  unfold CS.out
  cases e : s.hd with
  | none => rw [hw.none e]; simpa using ht
  | some h => simpa using steps_wall (hw.hd h e) hp ht

/-- What may stand behind a head: no value that is not shut off is one with it. -/
def Rest (h : Int) (l : List Int) : Prop := ∀ u t w, l = u ++ t :: w → (∀ x, u.getLast? = some x → ccc x < ccc t) → join h t = none
theorem rest_nil (h : Int) : Rest h [] := fun u t w e => by simp at e
theorem CS.opens_iff (s : CS) (c : Int) : s.opens c = true ↔ ∀ x, s.tl.getLast? = some x → ccc x < c := by
  unfold CS.opens
  cases s.tl.getLast? with
  | none => simp
  | some x => simp
theorem rest_run (p : List Int) (h : Int) (l : List Int) : ∀ u, (∀ x ∈ l, 0 < ccc x) → Rest h (u ++ l) → (⟨p, some h, u⟩ : CS).run l = ⟨p, some h, u ++ l⟩ := by
  induction l with
  | nil => intro u _ _; simp [CS.run_nil]
  | cons r l ih =>
    intro u hm hr
    rw [CS.run_cons]
    have h0 : 0 < ccc r := hm r (by simp)
    have e : (⟨p, some h, u⟩ : CS).joins r = none := by
      simp only [CS.joins]
      split
      · rename_i c; exact hr u r l rfl ((CS.opens_iff _ _).1 c)
      · rfl
    have e2 : (⟨p, some h, u⟩ : CS).step r = ⟨p, some h, u ++ [r]⟩ := by
      simp only [CS.step, e, CS.push]
      rw [if_neg (by omega)]
    rw [e2, ih (u ++ [r]) (fun x hx => hm x (by simp [hx])) (by simpa using hr)]
    simp
theorem lone_run (p : List Int) (l : List Int) : ∀ u, (∀ x ∈ l, 0 < ccc x) → (⟨p, none, u⟩ : CS).run l = ⟨p, none, u ++ l⟩ := by
  induction l with
  | nil => intro u _; simp [CS.run_nil]
  | cons r l ih =>
    intro u hm
    rw [CS.run_cons]
    have h0 : 0 < ccc r := hm r (by simp)
    have e2 : (⟨p, none, u⟩ : CS).step r = ⟨p, none, u ++ [r]⟩ := by
      simp only [CS.step, CS.joins, CS.push]
      rw [if_neg (by omega)]
    rw [e2, ih (u ++ [r]) (fun x hx => hm x (by simp [hx]))]
    simp
theorem join_whole {a b v : Int} (h : join a b = some v) (x : Int) : join x v = none := by
  cases e : join x v with
  | none => rfl
  | some y =>
    have hv : 0 < ccc v ∨ (4449 ≤ v ∧ v ≤ 4546) := (join_ok e).kind
    have h0 := (join_ok h).whole
    rcases join_cases h with ⟨_, _, rfl⟩ | ⟨_, _, rfl⟩ | m
    · omega
    · omega
    · have := all_mem pairT_ok m
      simp at this; omega

/-- The state was put together out of d, values made of nothing else whose marks stand in order. -/
structure Comes (s : CS) (d : List Int) : Prop where
  wf : s.Wf
  alike : Alike (made s.out) d
  plain : ∀ x ∈ s.tl, full x = [x]
  spre : Steps s.pre
  stl : Steps s.tl
  last : ∀ x, s.tl.getLast? = some x → ∃ y, d.getLast? = some y ∧ ccc x ≤ ccc y
  back : ∀ h, s.hd = some h → (cinit.run s.pre).out = s.pre ∧ (cinit.run s.pre).step h = ⟨s.pre, some h, []⟩ ∧ Rest h s.tl
theorem comes_init : Comes cinit [] := ⟨cinit_wf, .refl _, by simp [cinit], trivial, trivial, by simp [cinit], by simp [cinit]⟩
theorem Comes.again {s : CS} {d : List Int} (h : Comes s d) : cinit.run s.out = s := by
  unfold CS.out
  cases e : s.hd with
  | none =>
    have hp := h.wf.none e
    rw [hp]; simp only [List.nil_append, Option.toList_none]
    have := lone_run [] s.tl [] h.wf.tl
    simp only [List.nil_append] at this
    show CS.run ⟨[], none, []⟩ s.tl = s
    rw [this]
    cases s; simp_all
  | some a =>
    obtain ⟨_, h2, h3⟩ := h.back a e
    have hs : s = ⟨s.pre, some a, s.tl⟩ := by cases s; simp_all
    rw [CS.run_append]
    simp only [Option.toList_some, List.singleton_append]
    rw [CS.run_cons, h2, rest_run s.pre a s.tl [] h.wf.tl (by simpa using h3)]
    simpa using hs.symm
theorem Comes.step {s : CS} {d : List Int} {r : Int} (h : Comes s d) (hr : full r = [r]) (hd : Steps (d ++ [r])) : Comes (s.step r) (d ++ [r]) := by
  have hwf := CS.step_wf h.wf r
  cases e : s.joins r with
  | some v =>
    have e0 := e
    unfold CS.joins at e
    cases eh : s.hd with
    | none => simp [eh] at e
    | some a =>
      simp only [eh] at e
      split at e
      · rename_i ho
        have hopen := (CS.opens_iff _ _).1 ho
        have J := join_ok e
        have es : s.step r = ⟨s.pre, some v, s.tl⟩ := by simp only [CS.step, e0]
        rw [es] at hwf ⊢
        obtain ⟨b1, b2, b3⟩ := h.back a eh
        have hlt : ∀ x ∈ s.tl, ccc x < ccc r := by
          intro x hx
          cases eg : s.tl.getLast? with
          | none => rw [List.getLast?_eq_none_iff] at eg; rw [eg] at hx; simp at hx
          | some z => have := steps_le h.stl h.wf.tl eg x hx; have := hopen z eg; omega
        refine ⟨hwf, ?_, h.plain, h.spre, h.stl, ?_, ?_⟩
        · have hA := h.alike.right [r]
          refine Alike.trans ?_ hA
          simp only [CS.out, eh, Option.toList_some, List.singleton_append, made_append, made_cons, J.full, hr, made_plain h.plain, List.append_assoc]
          refine Alike.left _ (Alike.left _ ?_)
          by_cases h0 : 0 < ccc r
          · exact (alike_past s.tl h0 fun x hx => ⟨h.wf.tl x hx, by have := hlt x hx; omega⟩).symm
          · have : s.tl = [] := by
              cases et : s.tl with
              | nil => rfl
              | cons x t =>
                have h1 := hlt x (by simp [et])
                have h2 := h.wf.tl x (by simp [et])
                omega
            rw [this]; exact .refl _
        · intro x hx
          exact ⟨r, by simp, by have := hopen x hx; omega⟩
        · intro b hb
          cases hb
          refine ⟨b1, ?_, ?_⟩
          · have := (cinit.run s.pre).joins_none_low (fun x => join_whole e x)
            simp only [CS.step, this, CS.push, J.whole, if_true]
            rw [b1]
          · intro u t w hu _
            cases ej : join v t with
            | none => rfl
            | some y =>
              have ht : t ∈ s.tl := by rw [hu]; simp
              have h1 := hlt t ht
              have h2 := h.wf.tl t ht
              have := join_order e ej h2
              omega
      · cases e
  | none =>
    have es : s.step r = s.push r := by simp only [CS.step, e]
    have ea := h.again
    have hmade : Alike (made s.out ++ [r]) (d ++ [r]) := h.alike.right [r]
    by_cases h0 : ccc r = 0
    · have es2 : s.step r = ⟨s.out, some r, []⟩ := by rw [es, CS.push, if_pos h0]
      have es3 := es2
      rw [es2] at hwf ⊢
      refine ⟨hwf, ?_, by simp, CS.out_steps h.wf h.spre h.stl, trivial, by simp, ?_⟩
      · have : made (CS.out ⟨s.out, some r, []⟩) = made s.out ++ [r] := by simp [CS.out, made_append, made_cons, made_nil, hr]
        rw [this]; exact hmade
      · intro b hb
        cases hb
        show (cinit.run s.out).out = s.out ∧ (cinit.run s.out).step r = _ ∧ Rest r []
        rw [ea]
        exact ⟨rfl, es3, rest_nil r⟩
    · have h1 : 0 < ccc r := by have := ccc_nonneg r; omega
      have es2 : s.step r = ⟨s.pre, s.hd, s.tl ++ [r]⟩ := by rw [es, CS.push, if_neg h0]
      rw [es2] at hwf ⊢
      have hsn : Steps (s.tl ++ [r]) := by
        refine steps_snoc h.stl fun x hx => ?_
        obtain ⟨y, hy, hxy⟩ := h.last x hx
        have hd' : ¬ (0 < ccc r ∧ ccc r < ccc y) := by
          rcases List.eq_nil_or_concat d with rfl | ⟨d', z, rfl⟩
          · simp at hy
          · simp at hy; subst hy
            have := steps_right (l := d') (m := [z, r]) (by simpa using hd)
            exact this.1
        omega
      refine ⟨hwf, ?_, ?_, h.spre, hsn, ?_, ?_⟩
      · have : made (CS.out ⟨s.pre, s.hd, s.tl ++ [r]⟩) = made s.out ++ [r] := by simp [CS.out, made_append, made_cons, made_nil, hr]
        rw [this]; exact hmade
      · intro x hx; simp at hx; rcases hx with hx | rfl
        · exact h.plain x hx
        · exact hr
      · intro x hx; simp at hx; subst hx; exact ⟨r, by simp, Int.le_refl _⟩
      · intro b hb
        obtain ⟨b1, b2, b3⟩ := h.back b hb
        refine ⟨b1, b2, ?_⟩
        intro u t w hu hop
        rcases List.eq_nil_or_concat w with rfl | ⟨w', z, rfl⟩
        · have hu' : s.tl ++ [r] = u ++ [t] := hu
          obtain ⟨rfl, hrt⟩ := List.append_inj' hu' rfl
          simp at hrt; subst hrt
          unfold CS.joins at e
          simp only [show s.hd = some b from hb] at e
          rw [if_pos ((CS.opens_iff _ _).2 hop)] at e
          exact e
        · have hu' : s.tl ++ [r] = (u ++ t :: w') ++ [z] := by simpa using hu
          obtain ⟨hh, _⟩ := List.append_inj' hu' rfl
          exact b3 u t w' hh hop
theorem Comes.run {s : CS} {d : List Int} (h : Comes s d) (l : List Int) (hl : ∀ x ∈ l, full x = [x]) (hs : Steps (d ++ l)) : Comes (s.run l) (d ++ l) := by
  induction l generalizing s d with
  | nil => simpa [CS.run_nil] using h
  | cons r l ih =>
    rw [CS.run_cons]
    have := ih (h.step (hl r (by simp)) (steps_left (m := l) (by simpa using hs))) (fun x hx => hl x (by simp [hx])) (by simpa using hs)
    simpa using this
theorem comes_compose {d : List Int} (hl : ∀ x ∈ d, full x = [x]) (hs : Sorted d) : Comes (cinit.run d) d := by
  have := comes_init.run d hl (by simpa using steps_of_sorted hs); simpa using this
/-- P7.3: what is put together, made anew and in order, is what it was; it is in order; put together once more it is the same. -/
theorem compose_made {d : List Int} (hl : ∀ x ∈ d, full x = [x]) (hs : Sorted d) : order (made (compose d)) = d :=
  (comes_compose hl hs).alike.order.trans hs
theorem compose_alike {d : List Int} (hl : ∀ x ∈ d, full x = [x]) (hs : Sorted d) : Alike (made (compose d)) d := (comes_compose hl hs).alike
theorem compose_sorted {d : List Int} (hl : ∀ x ∈ d, full x = [x]) (hs : Sorted d) : Sorted (compose d) :=
  let h := comes_compose hl hs
  sorted_of_steps (CS.out_steps h.wf h.spre h.stl)
theorem compose_compose {d : List Int} (hl : ∀ x ∈ d, full x = [x]) (hs : Sorted d) : compose (compose d) = compose d := by
  show (cinit.run (cinit.run d).out).out = _
  rw [(comes_compose hl hs).again]; rfl

end Go.Proofs.Pt
end

/- ==== the text W10 ==== -/
section
/- The walk of package canon's Compose: values put together. -/
namespace Go.Proofs.Pt
open Go Go.RowKit Go.Proofs.YtjgdnhmbfeekoaaGreatDoorW.PrintWords

/-- The program's three variables tell the fold's state. -/
structure Tells (s : CS) (p : List Int × Int × Int) : Prop where
  out : p.1 = s.out
  none_ : s.hd = none → p.2.1 = -1
  some_ : ∀ h, s.hd = some h → p.2.1 = s.pre.length
  last : s.hd ≠ none → ∀ x, s.tl.getLast? = some x → p.2.2 = ccc x
theorem tells_init : Tells cinit ([], -1, 0) := ⟨rfl, fun _ => rfl, fun h e => (by cases e), fun h => absurd rfl h⟩
theorem Tells.push {s : CS} {xs : List Int} {head last : Int} (h : Tells s (xs, head, last)) (r : Int) : Tells (s.push r) (appP xs head r) := by
  unfold CS.push appP
  have ho := h.out
  simp only at ho
  by_cases hc : ccc r = 0
  · rw [if_pos hc, if_pos hc]
    exact ⟨by simp [CS.out, ho], fun e => (by cases e), fun a e => by simp [ho], fun _ x e => by simp at e⟩
  · rw [if_neg hc, if_neg hc]
    exact ⟨by simp [CS.out, ho], h.none_, h.some_, fun _ x e => by simp at e; rw [e]⟩
theorem Tells.step {s : CS} {xs : List Int} {head last : Int} (h : Tells s (xs, head, last)) (r : Int) : Tells (s.step r) (putP xs head last r) := by
  have ho := h.out
  simp only at ho
  unfold putP CS.step CS.joins
  cases eh : s.hd with
  | none =>
    have := h.none_ eh
    simp only at this
    have e : opensP xs.length head last (ccc r) = false := by unfold opensP; simp [this]
    rw [e]
    exact h.push r
  | some a =>
    have h1 := h.some_ a eh
    have h2 := h.last (by rw [eh]; simp)
    simp only at h1 h2
    have hl : xs.length = s.pre.length + (s.tl.length + 1) := by rw [ho]; simp [CS.out, eh]
    have e : opensP xs.length head last (ccc r) = s.opens (ccc r) := by
      unfold opensP CS.opens
      have e1 : decide (0 ≤ head) = true := decide_eq_true (by omega)
      rw [e1, Bool.true_and]
      cases et : s.tl.getLast? with
      | none =>
        rw [List.getLast?_eq_none_iff] at et
        rw [et] at hl
        simp at hl
        have e3 : head = (xs.length : Int) - 1 := by omega
        rw [e3]
        simp
      | some x =>
        have ht : s.tl ≠ [] := by intro e; rw [e] at et; simp at et
        have hlen : 0 < s.tl.length := List.length_pos_iff.2 ht
        rw [h2 x et]
        have : ¬ head = (xs.length : Int) - 1 := by omega
        simp [this]
    have hx : rd xs head = a := by
      unfold rd
      rw [h1, ho]
      simp [CS.out, eh, List.getD_eq_getElem?_getD]
    rw [e, hx]
    cases hop : s.opens (ccc r) with
    | false => simp; exact h.push r
    | true =>
      simp only [if_true]
      cases hj : join a r with
      | none => exact h.push r
      | some v =>
        refine ⟨?_, fun e => (by cases e), fun b e => h1, fun _ => h2⟩
        show xs.set head.toNat v = _
        rw [ho, h1]
        simp [CS.out, eh]
def putsP (p : List Int × Int × Int) : List Int → List Int × Int × Int
  | [] => p
  | r :: l => putsP (putP p.1 p.2.1 p.2.2 r) l
theorem Tells.run (l : List Int) : ∀ {s : CS} {p : List Int × Int × Int}, Tells s p → Tells (s.run l) (putsP p l) := by
  induction l with
  | nil => intro s p h; exact h
  | cons r l ih => intro s p h; obtain ⟨a, b, c⟩ := p; rw [CS.run_cons]; exact ih (h.step r)
theorem putsP_compose (l : List Int) : (putsP ([], -1, 0) l).1 = compose l := (Tells.run l tells_init).out
theorem putsP_snoc (l : List Int) (r : Int) : ∀ p, putsP p (l ++ [r]) = putP (putsP p l).1 (putsP p l).2.1 (putsP p l).2.2 r := by
  induction l with
  | nil => intro p; rfl
  | cons x l ih => intro p; exact ih _
theorem putsP_len (l : List Int) : (putsP ([], -1, 0) l).1.length ≤ l.length ∧ (putsP ([], -1, 0) l).2.1 < (putsP ([], -1, 0) l).1.length := by
  have h := Tells.run l tells_init
  refine ⟨by rw [putsP_compose]; exact compose_length l, ?_⟩
  rw [h.out]
  cases e : (cinit.run l).hd with
  | none => rw [h.none_ e]; omega
  | some a => rw [h.some_ a e]; simp [CS.out, e]; omega

def canon_Compose.f (l0 : List Int) : Option (List Int) := if l0.length < 17592186044416 then some (compose l0) else none
set_option maxHeartbeats 1000000 in
theorem canon_Compose.calls (A0 : Option Addr) (c0 : Nat) (l0 : List Int) (r : List Int) (w : World) (hr0 : Kd.C (Kd.int .i64) w A0 l0.length l0) (_hc0 : l0.length ≤ c0) (h : canon_Compose.f l0 = some r) :
    Calls Tryz.prog 24 #[.slice A0 l0.length c0] w fun e w' => ∃ v0_ : Value, e = .returned (v0_) ∧ Kd.R (Kd.int .i64) 3 w' w.heap.size (fun _ => True) v0_ r ∧ Below w.heap.size w w' := by
  unfold canon_Compose.f at h
  split at h
  case isFalse => cases h
  rename_i hlen
  cases h
  have HR := Lib.hid hr0; clear hr0
  have HL := Lib.hid hlen; clear hlen
  go_enter Tryz.func24, Tryz.ntmps24
  go_wp2_with fail
  have hs : CompAt (w.alloc (Obj.cells #[Value.slice none 0 0, Value.int .i64 (-1), Value.int .i64 0] 80)) w.heap.size w.heap.size (.slice none 0 0) [] (-1) 0 := ⟨by simpa using heap_alloc_new w _, own_nil _ _ _ _, Nat.le_refl _⟩
  have HS := Lib.hid hs; clear hs
  have HB0 : Hid (Below w.heap.size w (w.alloc (Obj.cells #[Value.slice none 0 0, Value.int .i64 (-1), Value.int .i64 0] 80))) := (Below.refl _ _).alloc (Nat.le_refl _) _
  generalize w.alloc (Obj.cells #[Value.slice none 0 0, Value.int .i64 (-1), Value.int .i64 0] 80) = w1 at HS HB0 ⊢
  go_loopw [5, 9] (fun _ i wr => ∃ k : Nat, k ≤ l0.length ∧ i = .int .i64 k ∧ Hid (∃ v, CompAt wr w.heap.size w.heap.size v (putsP ([], -1, 0) (l0.take k)).1 (putsP ([], -1, 0) (l0.take k)).2.1 (putsP ([], -1, 0) (l0.take k)).2.2) ∧ Hid (Below w.heap.size w wr)) (fun _ i _ => l0.length - (intOf i).toNat)
  case atStart => exact ⟨0, Nat.zero_le _, rfl, ⟨_, HS.out⟩, HB0.out⟩
  case round =>
    obtain ⟨k, hk, rfl, HC, HB⟩ := hrel
    clear HS HB0
    by_cases hlt : k < l0.length
    · obtain ⟨ad, e, hcell⟩ := Kd.at_int HR.out k (by omega) (by omega)
      subst e
      have hcell2 : wr.cell? (ad.add k) = some (.int .i64 (rd l0 k)) := (HB.out.cell (World.block_lt_of_cell? w _ hcell)).trans hcell
      clear hcell
      obtain ⟨v, hC⟩ := HC.out
      have hkz : (k : Int) < (l0.length : Int) := by omega
      have hlz : (l0.length : Int) < 17592186044416 := by have := HL.out; omega
      have hp := putsP_len (l0.take k)
      have hsn : putsP ([], -1, 0) (l0.take (k + 1)) = putP (putsP ([], -1, 0) (l0.take k)).1 (putsP ([], -1, 0) (l0.take k)).2.1 (putsP ([], -1, 0) (l0.take k)).2.2 (rd l0 k) := by
        rw [List.take_succ_eq_append_getElem hlt, putsP_snoc]
        congr 1
        simp [rd, List.getD_eq_getElem?_getD, List.getElem?_eq_getElem hlt]
      have hp1 : (putsP ([], -1, 0) (l0.take k)).1.length < 17592186044416 := by have h1 := hp.1; have h2 := List.length_take_le k l0; omega
      have hp2 := hp.2
      have HS := Lib.hid hsn; clear hsn hp HC
      generalize putsP ([], -1, 0) (l0.take k) = p at hC hp1 hp2 HS
      have HC := Lib.hid hC; have HP1 := Lib.hid hp1; have HP2 := Lib.hid hp2; clear hC hp1 hp2
      go_wp2_with (go_at_call 66; refine (put_any _ _ _ _ _ _ _ _ HC.out HP1.out HP2.out).mono ?_; rintro e w' ⟨rfl, hc', hb'⟩)
      go_roundw
      case measure => simp [intOf]; omega
      case rel => exact ⟨k + 1, by omega, by go_num, by rw [HS.out]; exact hc', HB.out.trans hb'⟩
    · obtain rfl : k = l0.length := by omega
      obtain ⟨v, hC⟩ := HC.out
      rw [List.take_length] at hC
      have hv := hC.cells.1
      have hown := hC.own
      rw [putsP_compose] at hown
      have HO := Lib.hid hown; clear hown hC HC
      go_wp2
      go_ret
      exact ⟨_, rfl, Kd.R_of_own (enc := Value.int .i64) (h1 := fun _ => rfl) HO.out (fun _ _ => trivial), HB.out⟩
end Go.Proofs.Pt
end

/- ==== the text M10 ==== -/
section
/- Rows of marks put in order by exchanges: what each step of a stable sort in place keeps (no program in sight). -/
namespace Go.Proofs.Pt

/-- By class, none ahead of a lower one. -/
def Rise (l : List Int) : Prop := l.Pairwise (fun x y => ccc x ≤ ccc y)
/-- All are marks. -/
def AllM (l : List Int) : Prop := ∀ x ∈ l, 0 < ccc x
theorem AllM.perm {l m : List Int} (h : AllM l) (hp : l.Perm m) : AllM m := fun x hx => h x (hp.mem_iff.2 hx)
theorem AllM.alike {l m : List Int} (h : AllM l) (hp : Alike l m) : AllM m := h.perm hp.perm
theorem allM_append {l m : List Int} : AllM (l ++ m) ↔ AllM l ∧ AllM m := by
  unfold AllM
  constructor
  · intro h; exact ⟨fun x hx => h x (by simp [hx]), fun x hx => h x (by simp [hx])⟩
  · rintro ⟨h1, h2⟩ x hx
    rcases List.mem_append.1 hx with h | h
    · exact h1 x h
    · exact h2 x h
theorem rise_append {l m : List Int} : Rise (l ++ m) ↔ Rise l ∧ Rise m ∧ ∀ x ∈ l, ∀ y ∈ m, ccc x ≤ ccc y := List.pairwise_append
theorem rise_nil : Rise [] := List.Pairwise.nil
theorem rise_one (x : Int) : Rise [x] := by simp [Rise]
/-- A mark past marks that are all of lower classes. -/
theorem alike_over {x : Int} (hx : 0 < ccc x) : ∀ (s : List Int), (∀ y ∈ s, 0 < ccc y ∧ ccc y < ccc x) → Alike (x :: s) (s ++ [x])
  | [], _ => .refl _
  | y :: s, h => by
    have h1 := h y (by simp)
    have h2 := (alike_over hx s fun z hz => h z (by simp [hz])).left [y]
    have h3 := Alike.step [] s x y hx h1.1 (by omega)
    exact .trans (by simpa using h3) (by simpa using h2)
/-- Rows of marks the other way round, all of the second of lower classes. -/
theorem alike_turn {v : List Int} : ∀ (u : List Int), (∀ x ∈ u, 0 < ccc x) → (∀ y ∈ v, 0 < ccc y) → (∀ x ∈ u, ∀ y ∈ v, ccc y < ccc x) → Alike (u ++ v) (v ++ u)
  | [], _, _, _ => by simpa using Alike.refl v
  | x :: u, h1, h2, h3 => by
    have i := (alike_turn u (fun a ha => h1 a (by simp [ha])) h2 (fun a ha => h3 a (by simp [ha]))).left [x]
    have j := (alike_over (h1 x (by simp)) v fun y hy => ⟨h2 y hy, h3 x (by simp) y hy⟩).right u
    exact .trans (by simpa using i) (by simpa using j)
/-- Two values, each in the other's place. -/
def sw (xs : List Int) (i j : Nat) : List Int := (xs.set i (xs.getD j 0)).set j (xs.getD i 0)
theorem sw_length (xs : List Int) (i j : Nat) : (sw xs i j).length = xs.length := by simp [sw]
theorem sw_split (p m q : List Int) (x y : Int) : sw (p ++ x :: (m ++ y :: q)) p.length (p.length + 1 + m.length) = p ++ y :: (m ++ x :: q) := by
  unfold sw
  have h1 : (p ++ x :: (m ++ y :: q)).getD (p.length + 1 + m.length) 0 = y := by
    simp only [List.getD_eq_getElem?_getD]
    rw [List.getElem?_append_right (by omega), show p.length + 1 + m.length - p.length = m.length + 1 by omega, List.getElem?_cons_succ, List.getElem?_append_right (by omega)]
    simp
  have h2 : (p ++ x :: (m ++ y :: q)).getD p.length 0 = x := by simp [List.getD_eq_getElem?_getD]
  rw [h1, h2, List.set_append_right _ _ (by omega), Nat.sub_self, List.set_cons_zero, List.set_append_right _ _ (by omega), show p.length + 1 + m.length - p.length = m.length + 1 by omega, List.set_cons_succ, List.set_append_right _ _ (by omega), Nat.sub_self, List.set_cons_zero]
theorem sw_comm (xs : List Int) (i j : Nat) : sw xs i j = sw xs j i := by
  unfold sw
  by_cases e : i = j
  · rw [e]
  · rw [List.set_comm _ _ e]
theorem sw_split' (p m q : List Int) (x y : Int) : sw (p ++ x :: (m ++ y :: q)) (p.length + 1 + m.length) p.length = p ++ y :: (m ++ x :: q) := by rw [sw_comm, sw_split]

/-! ### a part of a row in order: what an insertion sort does -/
structure Insd (u s1 : List Int) (x : Int) (s2 t : List Int) : Prop where
  alike : Alike u (s1 ++ x :: (s2 ++ t))
  rise : Rise (s1 ++ s2)
  over : ∀ y ∈ s2, ccc x < ccc y
theorem Insd.start {u s t : List Int} {x : Int} (ha : Alike u (s ++ x :: t)) (hs : Rise s) : Insd u s x [] t := ⟨by simpa using ha, by simpa using hs, by simp⟩
theorem Insd.step {u s1 s2 t : List Int} {x y : Int} (h : Insd u (s1 ++ [y]) x s2 t) (hu : AllM u) (hlt : ccc x < ccc y) : Insd u s1 x (y :: s2) t := by
  have hm := hu.alike h.alike
  have hx : 0 < ccc x := hm x (by simp)
  have hy : 0 < ccc y := hm y (by simp)
  refine ⟨.trans h.alike ?_, by simpa using h.rise, ?_⟩
  · have := Alike.step s1 (s2 ++ t) y x hy hx (by omega)
    simpa using this
  · intro z hz
    rcases List.mem_cons.1 hz with rfl | hz
    · exact hlt
    · exact h.over z hz
theorem Insd.stop {u s1 s2 t : List Int} {x : Int} (h : Insd u s1 x s2 t) (hs : ∀ y, s1.getLast? = some y → ccc y ≤ ccc x) : Alike u ((s1 ++ x :: s2) ++ t) ∧ Rise (s1 ++ x :: s2) := by
  refine ⟨by simpa using h.alike, ?_⟩
  have hr := rise_append.1 h.rise
  refine rise_append.2 ⟨hr.1, List.Pairwise.cons (fun y hy => Int.le_of_lt (h.over y hy)) hr.2.1, ?_⟩
  intro y hy z hz
  rcases List.mem_cons.1 hz with rfl | hz
  · rcases List.eq_nil_or_concat s1 with rfl | ⟨s, w, rfl⟩
    · simp at hy
    · have hw := hs w (by simp)
      simp only [List.concat_eq_append] at hy hr
      rcases List.mem_append.1 hy with h1 | h1
      · have := (rise_append.1 hr.1).2.2 y h1 w (by simp); omega
      · simp at h1; rw [h1]; exact hw
  · exact hr.2.2 y hy z hz

/-! ### two parts in order, one behind the other: what a merge by turning does -/
theorem rise_turn {a u v b : List Int} (h1 : Rise (a ++ u)) (h2 : Rise (v ++ b)) (h3 : ∀ x ∈ a, ∀ y ∈ b, ccc x ≤ ccc y) (h4 : ∀ x ∈ u, ∀ y ∈ v, ccc y < ccc x) {l r : List Int} (hl : (a ++ v).Perm l) (hr : (u ++ b).Perm r) (hl1 : Rise l) (hr1 : Rise r) : Rise (l ++ r) := by
  have h1' := rise_append.1 h1
  have h2' := rise_append.1 h2
  refine rise_append.2 ⟨hl1, hr1, fun x hx y hy => ?_⟩
  rcases List.mem_append.1 (hl.mem_iff.2 hx) with h | h <;> rcases List.mem_append.1 (hr.mem_iff.2 hy) with g | g
  · exact h1'.2.2 x h y g
  · exact h3 x h y g
  · exact Int.le_of_lt (h4 y g x h)
  · exact h2'.2.2 x h y g
/-- By class rising: put in order it stays. -/
theorem steps_of_rise : ∀ {l : List Int}, Rise l → Steps l
  | [], _ => trivial
  | [_], _ => trivial
  | a :: b :: l, h => ⟨fun hh => by have := (List.pairwise_cons.1 h).1 b (by simp); omega, steps_of_rise (List.pairwise_cons.1 h).2⟩
/-- Where two values' classes rise, and the list rises, place by place. -/
theorem rise_get {l : List Int} (h : Rise l) (i j : Nat) (hij : i ≤ j) (hj : j < l.length) : ccc (l.getD i 0) ≤ ccc (l.getD j 0) := by
  have hi : i < l.length := by omega
  rw [List.getD_eq_getElem?_getD, List.getD_eq_getElem?_getD, List.getElem?_eq_getElem hi, List.getElem?_eq_getElem hj]
  by_cases e : i = j
  · subst e; exact Int.le_refl _
  · exact List.pairwise_iff_getElem.1 h i j hi hj (by omega)
theorem rise_take {l : List Int} (h : Rise l) (k : Nat) (hk : k < l.length) : ∀ z ∈ l.take (k + 1), ccc z ≤ ccc (l.getD k 0) := by
  intro z hz
  obtain ⟨i, hi, rfl⟩ := List.mem_iff_getElem.1 hz
  simp only [List.length_take] at hi
  have := rise_get h i k (by omega) hk
  rw [List.getElem_take]
  simpa [List.getD_eq_getElem?_getD, List.getElem?_eq_getElem (show i < l.length by omega)] using this
theorem rise_drop {l : List Int} (h : Rise l) (k : Nat) (hk : k < l.length) : ∀ z ∈ l.drop k, ccc (l.getD k 0) ≤ ccc z := by
  intro z hz
  obtain ⟨i, hi, rfl⟩ := List.mem_iff_getElem.1 hz
  simp only [List.length_drop] at hi
  have := rise_get h k (k + i) (by omega) (by omega)
  rw [List.getElem_drop]
  simpa [List.getD_eq_getElem?_getD, List.getElem?_eq_getElem (show k + i < l.length by omega)] using this
theorem rise_left {l : List Int} (h : Rise l) (k : Nat) : Rise (l.take k) := by
  have := h; rw [← List.take_append_drop k l] at this; exact (rise_append.1 this).1
theorem rise_right {l : List Int} (h : Rise l) (k : Nat) : Rise (l.drop k) := by
  have := h; rw [← List.take_append_drop k l] at this; exact (rise_append.1 this).2.1
theorem mem_take {l : List Int} {k : Nat} {z : Int} (h : z ∈ l.take k) : z ∈ l := List.mem_of_mem_take h
theorem mem_drop {l : List Int} {k : Nat} {z : Int} (h : z ∈ l.drop k) : z ∈ l := List.mem_of_mem_drop h
/-- One value put among those that rise, behind all lower ones: from ahead of them. -/
theorem put_left {x : Int} {v : List Int} {i : Nat} (hm : AllM (x :: v)) (hv : Rise v) (h1 : ∀ z ∈ v.take i, ccc z < ccc x) (h2 : ∀ z ∈ v.drop i, ccc x ≤ ccc z) : Alike (x :: v) (v.take i ++ x :: v.drop i) ∧ Rise (v.take i ++ x :: v.drop i) := by
  constructor
  · have := (alike_over (hm x (by simp)) (v.take i) fun y hy => ⟨hm y (by simp [mem_take hy]), h1 y hy⟩).right (v.drop i)
    simpa using this
  · refine rise_append.2 ⟨rise_left hv i, List.Pairwise.cons (fun z hz => h2 z hz) (rise_right hv i), ?_⟩
    intro z hz y hy
    rcases List.mem_cons.1 hy with rfl | hy
    · exact Int.le_of_lt (h1 z hz)
    · have := h1 z hz; have := h2 y hy; omega
/-- One value put among those that rise, behind all that are no greater: from behind them. -/
theorem put_right {y : Int} {u : List Int} {i : Nat} (hm : AllM (u ++ [y])) (hu : Rise u) (h1 : ∀ z ∈ u.take i, ccc z ≤ ccc y) (h2 : ∀ z ∈ u.drop i, ccc y < ccc z) : Alike (u ++ [y]) (u.take i ++ y :: u.drop i) ∧ Rise (u.take i ++ y :: u.drop i) := by
  constructor
  · have := (alike_turn (v := [y]) (u.drop i) (fun z hz => hm z (by simp [mem_drop hz])) (fun z hz => hm z (by simp at hz; simp [hz])) (fun z hz w hw => by simp at hw; rw [hw]; exact h2 z hz)).left (u.take i)
    rw [← List.append_assoc, List.take_append_drop] at this
    simpa using this
  · refine rise_append.2 ⟨rise_left hu i, List.Pairwise.cons (fun z hz => Int.le_of_lt (h2 z hz)) (rise_right hu i), ?_⟩
    intro z hz w hw
    rcases List.mem_cons.1 hw with rfl | hw
    · exact h1 z hz
    · have := h1 z hz; have := h2 w hw; omega
/-- Two parts cut where the one's tail goes behind the other's head. -/
theorem merge_cut {u v : List Int} {i j : Nat} (hm : AllM (u ++ v)) (hu : Rise u) (hv : Rise v) (h3 : ∀ x ∈ u.take i, ∀ y ∈ v.drop j, ccc x ≤ ccc y) (h4 : ∀ x ∈ u.drop i, ∀ y ∈ v.take j, ccc y < ccc x)
    {l r : List Int} (hl : Alike (u.take i ++ v.take j) l) (hr : Alike (u.drop i ++ v.drop j) r) (hl1 : Rise l) (hr1 : Rise r) : Alike (u ++ v) (l ++ r) ∧ Rise (l ++ r) := by
  constructor
  · have ht := ((alike_turn (v := v.take j) (u.drop i) (fun z hz => hm z (by simp [mem_drop hz])) (fun z hz => hm z (by simp [mem_take hz])) h4).right (v.drop j)).left (u.take i)
    have e : u.take i ++ ((u.drop i ++ v.take j) ++ v.drop j) = u ++ v := by rw [← List.append_assoc, ← List.append_assoc, List.take_append_drop, List.append_assoc, List.take_append_drop]
    rw [e] at ht
    refine .trans ht ?_
    have := hl.both hr
    simpa using this
  · exact rise_turn (a := u.take i) (u := u.drop i) (v := v.take j) (b := v.drop j) (by rw [List.take_append_drop]; exact hu) (by rw [List.take_append_drop]; exact hv) h3 h4 hl.perm hr.perm hl1 hr1
/-- Where the search of a merge ends: what it then knows. -/
theorem merge_found {u v : List Int} (hu : Rise u) (hv : Rise v) (i j : Nat) (hi : i ≤ u.length) (hj : j ≤ v.length) (h1 : i = 0 ∨ j = v.length ∨ ccc (u.getD (i - 1) 0) ≤ ccc (v.getD j 0)) (h2 : i = u.length ∨ j = 0 ∨ ccc (v.getD (j - 1) 0) < ccc (u.getD i 0)) :
    (∀ x ∈ u.take i, ∀ y ∈ v.drop j, ccc x ≤ ccc y) ∧ (∀ x ∈ u.drop i, ∀ y ∈ v.take j, ccc y < ccc x) := by
  constructor
  · intro x hx y hy
    rcases h1 with h | h | h
    · rw [h] at hx; simp at hx
    · rw [h] at hy; simp at hy
    · by_cases hi0 : i = 0
      · rw [hi0] at hx; simp at hx
      · by_cases hj0 : j = v.length
        · rw [hj0] at hy; simp at hy
        · have a := rise_take hu (i - 1) (by omega) x (by rw [show i - 1 + 1 = i by omega]; exact hx)
          have b := rise_drop hv j (by omega) y hy
          omega
  · intro x hx y hy
    rcases h2 with h | h | h
    · rw [h] at hx; simp at hx
    · rw [h] at hy; simp at hy
    · by_cases hi0 : i = u.length
      · rw [hi0] at hx; simp at hx
      · by_cases hj0 : j = 0
        · rw [hj0] at hy; simp at hy
        · have a := rise_drop hu i (by omega) x hx
          have b := rise_take hv (j - 1) (by omega) y (by rw [show j - 1 + 1 = j by omega]; exact hy)
          omega
/-! ### rows by blocks of one size -/
/-- Blocks of one size, each in order, one behind the other; the last one may be smaller. -/
inductive Blocks (s : Nat) : List Int → Prop
  | last (l) : Rise l → l.length ≤ s → Blocks s l
  | more (l t) : Rise l → l.length = s → Blocks s t → Blocks s (l ++ t)
/-- Whole blocks alone, told from behind. -/
inductive Full (s : Nat) : List Int → Prop
  | nil : Full s []
  | snoc (d l) : Full s d → Rise l → l.length = s → Full s (d ++ l)
theorem Full.blocks {s : Nat} {d : List Int} (h : Full s d) : ∀ {t : List Int}, Blocks s t → Blocks s (d ++ t) := by
  induction h with
  | nil => intro t ht; simpa using ht
  | snoc d l _ hr hl ih => intro t ht; rw [List.append_assoc]; exact ih (.more l t hr hl ht)
theorem Blocks.rise {s : Nat} {l : List Int} (h : Blocks s l) (hl : l.length ≤ s) : Rise l := by
  cases h with
  | last _ h _ => exact h
  | more a t hr ha ht =>
    have : t = [] := List.length_eq_zero_iff.1 (by simp at hl; omega)
    rw [this]; simpa using hr
theorem Blocks.one {s : Nat} {l : List Int} (h : Blocks s l) (hl : s ≤ l.length) : ∃ a t, l = a ++ t ∧ a.length = s ∧ Rise a ∧ Blocks s t := by
  cases h with
  | last _ h h2 => exact ⟨l, [], by simp, by omega, h, .last [] rise_nil (by simp)⟩
  | more a t hr ha ht => exact ⟨a, t, rfl, ha, hr, ht⟩
theorem Blocks.two {s : Nat} {l : List Int} (h : Blocks s l) (hl : 2 * s ≤ l.length) : ∃ a b t, l = a ++ (b ++ t) ∧ a.length = s ∧ b.length = s ∧ Rise a ∧ Rise b ∧ Blocks s t := by
  obtain ⟨a, t, rfl, ha, hra, ht⟩ := h.one (by omega)
  obtain ⟨b, t, rfl, hb, hrb, ht⟩ := ht.one (by simp at hl; omega)
  exact ⟨a, b, t, rfl, ha, hb, hra, hrb, ht⟩
theorem Blocks.nil (s : Nat) : Blocks s [] := .last [] rise_nil (by simp)
end Go.Proofs.Pt
end

/- ==== the text W11 ==== -/
section
/- The walks of a stable sort in place over rows of values: the test of two marks, two parts exchanged. -/
namespace Go.Proofs.Pt
open Go Go.RowKit Go.Proofs.YtjgdnhmbfeekoaaGreatDoorW.PrintWords

theorem before_any (x y : Int) (w : World) : Calls Tryz.prog 64 #[.int .i64 x, .int .i64 y] w fun e w' => e = .returned (.int .i64 (cmpI (ccc x) (ccc y))) ∧ Below w.heap.size w w' := by
  go_enter Tryz.func64, Tryz.ntmps64
  go_wp2_with fail
  refine (ccc_any x _).mono ?_
  rintro e w1 ⟨rfl, hb1⟩
  go_wp2_with fail
  refine (ccc_any y _).mono ?_
  rintro e w2 ⟨rfl, hb2⟩
  have hb : Below w.heap.size w w2 := hb1.trans (hb2.mono hb1.size)
  have HB := Lib.hid hb; clear hb hb1 hb2
  go_wp2_with (go_at_call 90; refine (compare_any _ _ _).mono ?_; rintro e w' ⟨rfl, rfl⟩)
  go_ret
  exact ⟨rfl, HB.out⟩

/-- The values' row, a row of the call's own, all of it. -/
structure RowC (w0 : World) (base gb cap : Nat) (xs : List Int) (w : World) : Prop where
  own : w.ownsRow base 75 1 (.slice (some ⟨gb, 0, none⟩) xs.length cap) xs.length (nums .i64 xs)
  bel : Below base w0 w
namespace RowC
variable {w0 w w' : World} {base gb cap : Nat} {xs : List Int}
theorem cell (h : RowC w0 base gb cap xs w) (i : Nat) (hi : i < xs.length) : w.cell? ⟨gb, i, none⟩ = some (.int .i64 (xs.getD i 0)) := by
  rw [h.own.cellAt i (by omega)]
  simp [nums, List.getElem?_eq_getElem hi, List.getD_eq_getElem?_getD]
theorem frozen (h : RowC w0 base gb cap xs w) (i : Nat) : w.frozen? ⟨gb, i, none⟩ = false := h.own.frozenAt i
theorem lt (h : RowC w0 base gb cap xs w) : gb < w.heap.size := own_lt h.own gb rfl
theorem ge (h : RowC w0 base gb cap xs w) : base ≤ gb := own_base h.own gb rfl
theorem below (h : RowC w0 base gb cap xs w) (hb : Below w.heap.size w w') : RowC w0 base gb cap xs w' := ⟨pw_own_below h.own hb, h.bel.trans (hb.mono (Nat.le_trans h.ge (Nat.le_of_lt h.lt)))⟩
theorem set (h : RowC w0 base gb cap xs w) (i : Nat) (x : Int) : RowC w0 base gb cap (xs.set i x) (w.setCell ⟨gb, i, none⟩ (.int .i64 x)) :=
  ⟨by have := (h.own.stored i (.int .i64 x)).1; simpa [nums, List.map_set] using this, h.bel.setCell h.ge _⟩
theorem drew (h : RowC w0 base gb cap xs w) : RowC w0 base gb cap xs w.drew := h.below (pw_below_drewN (Below.refl _ _) 1)
/-- What an exchange of two of its values finds, and what it leaves. -/
theorem swapping (h : RowC w0 base gb cap xs w) (i j : Nat) (hi : i < xs.length) (hj : j < xs.length) :
    w.cell? ⟨gb, i, none⟩ = some (.int .i64 (xs.getD i 0)) ∧ w.cell? ⟨gb, j, none⟩ = some (.int .i64 (xs.getD j 0)) ∧ (∃ u, (w.setCell ⟨gb, i, none⟩ (.int .i64 (xs.getD j 0))).cell? ⟨gb, j, none⟩ = some u) ∧
    w.frozen? ⟨gb, i, none⟩ = false ∧ w.frozen? ⟨gb, j, none⟩ = false ∧ RowC w0 base gb cap (sw xs i j) ((w.setCell ⟨gb, i, none⟩ (.int .i64 (xs.getD j 0))).setCell ⟨gb, j, none⟩ (.int .i64 (xs.getD i 0))).drew :=
  ⟨h.cell i hi, h.cell j hj, ⟨_, (h.set i _).cell j (by simpa using hj)⟩, h.frozen i, h.frozen j, ((h.set i _).set j _).drew⟩
end RowC

set_option maxHeartbeats 1000000 in
set_option maxRecDepth 100000 in
theorem swapRange_any (w0 : World) (base gb cap off n cv a b k : Nat) (p s m t q : List Int) (f : Value) (w : World) (h : RowC w0 base gb cap (p ++ (s ++ (m ++ (t ++ q)))) w) (hp : p.length = off + a) (hs : s.length = k) (ht : t.length = k) (hm : a + k + m.length = b) (hb : b + k ≤ n) (hn : n < 17592186044416) :
    Calls Tryz.prog 178 #[.slice (some ⟨gb, off, none⟩) n cv, .int .i64 a, .int .i64 b, .int .i64 k, f] w fun e w' => e = .returned (.tuple #[]) ∧ RowC w0 base gb cap (p ++ (t ++ (m ++ (s ++ q)))) w' := by
  have H := Lib.hid h; clear h
  go_enter Tryz.func178, Tryz.ntmps178
  go_wp2_with fail
  go_loopw [10] (fun i wr => ∃ j : Nat, j ≤ k ∧ i = .int .i64 j ∧ Hid (RowC w0 base gb cap (p ++ ((t.take j ++ s.drop j) ++ (m ++ ((s.take j ++ t.drop j) ++ q)))) wr)) (fun i _ => k - (intOf i).toNat)
  case atStart => exact ⟨0, Nat.zero_le _, rfl, by simpa using H⟩
  case round =>
    obtain ⟨j, hj, rfl, HR⟩ := hrel
    clear H
    by_cases hlt : j < k
    · have hltz : (j : Int) < (k : Int) := by omega
      obtain ⟨x, s2, hx⟩ : ∃ x s2, s.drop j = x :: s2 := ⟨s[j], s.drop (j + 1), List.drop_eq_getElem_cons (by omega)⟩
      obtain ⟨y, t2, hy⟩ : ∃ y t2, t.drop j = y :: t2 := ⟨t[j], t.drop (j + 1), List.drop_eq_getElem_cons (by omega)⟩
      have hs2 : s2.length + 1 + j = k := by have := congrArg List.length hx; simp at this; omega
      have e1 : p ++ ((t.take j ++ s.drop j) ++ (m ++ ((s.take j ++ t.drop j) ++ q))) = (p ++ t.take j) ++ x :: ((s2 ++ (m ++ s.take j)) ++ y :: (t2 ++ q)) := by rw [hx, hy]; simp
      have hP : (p ++ t.take j).length = off + (a + j) := by simp; omega
      have hQ : (p ++ t.take j).length + 1 + (s2 ++ (m ++ s.take j)).length = off + (b + j) := by simp; omega
      have h1 := HR.out
      rw [e1] at h1
      obtain ⟨g1, g2, ⟨u, g3⟩, g4, g5, g6⟩ := h1.swapping (off + (a + j)) (off + (b + j)) (by rw [List.length_append]; simp only [List.length_cons, List.length_append] at hQ ⊢; omega) (by simp only [List.length_cons, List.length_append] at hP hQ ⊢; omega)
      have v1 : ((p ++ t.take j) ++ x :: ((s2 ++ (m ++ s.take j)) ++ y :: (t2 ++ q))).getD (off + (a + j)) 0 = x := by rw [← hP]; simp [List.getD_eq_getElem?_getD]
      have v2 : ((p ++ t.take j) ++ x :: ((s2 ++ (m ++ s.take j)) ++ y :: (t2 ++ q))).getD (off + (b + j)) 0 = y := by
        rw [← hQ, List.getD_eq_getElem?_getD, List.getElem?_append_right (by omega), show ∀ A B : Nat, A + 1 + B - A = B + 1 from fun A B => by omega, List.getElem?_cons_succ, List.getElem?_append_right (by omega)]; simp
      have v3 : sw ((p ++ t.take j) ++ x :: ((s2 ++ (m ++ s.take j)) ++ y :: (t2 ++ q))) (off + (a + j)) (off + (b + j)) = p ++ ((t.take (j + 1) ++ s.drop (j + 1)) ++ (m ++ ((s.take (j + 1) ++ t.drop (j + 1)) ++ q))) := by
        have z1 : t.take (j + 1) = t.take j ++ [y] := by rw [List.take_add, hy]; rfl
        have z2 : s.take (j + 1) = s.take j ++ [x] := by rw [List.take_add, hx]; rfl
        have z3 : s.drop (j + 1) = s2 := by rw [← List.drop_drop, hx]; rfl
        have z4 : t.drop (j + 1) = t2 := by rw [← List.drop_drop, hy]; rfl
        rw [← hQ, ← hP, sw_split, z1, z2, z3, z4]; simp
      rw [v1, v2, v3] at g6
      rw [v1] at g1
      rw [v2] at g2 g3
      have G := Lib.hid g6
      clear g6 v1 v2 v3 h1 hP hQ e1 hs2 hx hy HR
      obtain ⟨iN, hiN⟩ : ∃ z, z = a + j := ⟨_, rfl⟩
      obtain ⟨jN, hjN⟩ : ∃ z, z = b + j := ⟨_, rfl⟩
      rw [← hiN] at g1 g3 g4 G
      rw [← hjN] at g2 g3 g5 G
      have ea : ((a : Int) + (j : Int)).toNat = iN := by omega
      have pa : (0 : Int) ≤ (a : Int) + (j : Int) := by omega
      have ba : (a : Int) + (j : Int) < (n : Int) := by omega
      have ra : IntKind.i64.wrap ((a : Int) + (j : Int)) = (a : Int) + (j : Int) := by rw [IntKind.wrap_i64]; omega
      have eb : ((b : Int) + (j : Int)).toNat = jN := by omega
      have pb : (0 : Int) ≤ (b : Int) + (j : Int) := by omega
      have bb : (b : Int) + (j : Int) < (n : Int) := by omega
      have rb : IntKind.i64.wrap ((b : Int) + (j : Int)) = (b : Int) + (j : Int) := by rw [IntKind.wrap_i64]; omega
      clear hiN hjN
      go_wp2_with fail
      go_big_region
      clear g1 g2 g3 g4 g5
      generalize ((wr.setCell ⟨gb, off + iN, none⟩ (Value.int IntKind.i64 y)).setCell ⟨gb, off + jN, none⟩ (Value.int IntKind.i64 x)).drew = w3 at G ⊢
      go_wp2
      go_roundw
      case measure => simp [intOf]; omega
      case rel => exact ⟨j + 1, by omega, by go_num, G⟩
    · obtain rfl : j = k := by omega
      go_wp2
      go_end0
      have e := HR.out
      rw [List.take_of_length_le (by omega), List.drop_of_length_le (by omega), List.take_of_length_le (by omega), List.drop_of_length_le (by omega)] at e
      exact ⟨rfl, by simpa using e⟩
end Go.Proofs.Pt
end

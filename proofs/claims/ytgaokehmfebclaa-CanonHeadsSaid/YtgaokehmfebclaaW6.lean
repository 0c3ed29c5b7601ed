/- The walks of package pair: the search in a half of the table, what two values are together. -/
import Derived.Test.YtgaokehmfebclaaW5
namespace Go.Proofs.Pt
open Go Go.RowKit

set_option maxHeartbeats 400000 in
theorem asks2_any (x y r a b : Int) (w : World) : Calls Try.prog 36 #[.agg #[.int .i64 x, .int .i64 y, .int .i64 r], .agg #[.int .i64 a, .int .i64 b]] w fun e w' => e = .returned (.int .i64 (lexI x y a b)) ∧ Below w.heap.size w w' := by
  go_enter Try.func36, Try.ntmps36
  go_wp2_with fail
  refine (order_any _ _ _ _ _).mono ?_
  rintro e w' ⟨rfl, hb⟩
  have hb2 : Below w.heap.size ((w.alloc (Obj.cells #[Value.int .i64 x, Value.int .i64 y, Value.int .i64 r] 63)).alloc (Obj.cells #[Value.int .i64 a, Value.int .i64 b] 53)) w' := hb.mono (by simp; omega)
  go_wp2
  go_ret
  exact ⟨rfl, (((Below.refl _ _).alloc (Nat.le_refl _) _).alloc (by simp) _).trans hb2⟩
set_option maxHeartbeats 1000000 in
set_option maxRecDepth 100000 in
theorem search2_any (tb c : Nat) (T : List (Int × Int × Int)) (a b : Int) (w : World) (hT : SpanAt w tb T) (hb : tb < w.heap.size) (hn : T.length ≤ 1000)
    (hs : ∀ i j, i ≤ j → j < T.length → keyI T a b j < 0 → keyI T a b i < 0) :
    Calls Try.prog 35 #[.slice (some ⟨tb, 0, none⟩) T.length c, .agg #[.int .i64 a, .int .i64 b], .func (.func 36) #[] #[]] w fun e w' =>
      ∃ k : Nat, e = .returned (.tuple #[.int .i64 k, .bool (decide (k < T.length ∧ keyI T a b k = 0))]) ∧ k ≤ T.length ∧ (∀ i, i < k → keyI T a b i < 0) ∧ (∀ i, k ≤ i → i < T.length → 0 ≤ keyI T a b i) ∧ Below w.heap.size w w' := by
  have hT1 : SpanAt (w.alloc (Obj.cells #[Value.int .i64 a, Value.int .i64 b] 53)) tb T := hT.below hb ((Below.refl _ _).alloc (Nat.le_refl _) _)
  have ha1 : (w.alloc (Obj.cells #[Value.int .i64 a, Value.int .i64 b] 53)).cell? ⟨w.heap.size, 0, none⟩ = some (.int .i64 a) := by simp
  have ha2 : (w.alloc (Obj.cells #[Value.int .i64 a, Value.int .i64 b] 53)).cell? ⟨w.heap.size, 1, none⟩ = some (.int .i64 b) := by simp
  have hb1 : Below w.heap.size w (w.alloc (Obj.cells #[Value.int .i64 a, Value.int .i64 b] 53)) := (Below.refl _ _).alloc (Nat.le_refl _) _
  have hz1 : w.heap.size < (w.alloc (Obj.cells #[Value.int .i64 a, Value.int .i64 b] 53)).heap.size := by simp
  have HS := Lib.hid hs; clear hs
  have HT := Lib.hid hT1; clear hT1 hT
  have HA1 := Lib.hid ha1; have HA2 := Lib.hid ha2; clear ha1 ha2
  have HB1 := Lib.hid hb1; have HZ1 := Lib.hid hz1; clear hb1 hz1
  have HB := Lib.hid hb; clear hb
  go_enter Try.func35, Try.ntmps35
  go_wp2
  generalize w.alloc (Obj.cells #[Value.int .i64 a, Value.int .i64 b] 53) = w1 at HT HA1 HA2 HB1 HZ1 ⊢
  go_loopw [9, 10, 11] (fun i j _ wr => ∃ x y : Nat, i = .int .i64 x ∧ j = .int .i64 y ∧ x ≤ y ∧ y ≤ T.length ∧ Hid (∀ i, i < x → keyI T a b i < 0) ∧ Hid (∀ i, y ≤ i → i < T.length → 0 ≤ keyI T a b i) ∧ Hid (Below w1.heap.size w1 wr)) (fun i j _ _ => (intOf j).toNat - (intOf i).toNat)
  case atStart => exact ⟨0, T.length, rfl, rfl, by omega, by omega, fun i hi => by omega, fun i h1 h2 => by omega, Below.refl _ _⟩
  case round =>
    obtain ⟨x, y, rfl, rfl, hxy, hyn, H1, H2, HW⟩ := hrel
    have hA1 : wr.cell? ⟨w.heap.size, 0, none⟩ = some (.int .i64 a) := (HW.out.cell (p := ⟨w.heap.size, 0, none⟩) HZ1.out).trans HA1.out
    have hA2 : wr.cell? ⟨w.heap.size, 1, none⟩ = some (.int .i64 b) := (HW.out.cell (p := ⟨w.heap.size, 1, none⟩) HZ1.out).trans HA2.out
    by_cases hlt : x < y
    · obtain ⟨m, hm⟩ : ∃ m, m = (x + y) / 2 := ⟨_, rfl⟩
      have hmz : ((x : Int) + (y : Int)) / 2 = (m : Int) := by omega
      have hm0 : (m : Int) < (T.length : Int) := by omega
      have hc := (HT.out.below (by have := HB.out; have := HZ1.out; omega) HW.out) m (by omega)
      have hs1 : keyI T a b m < 0 → ∀ i, i < m + 1 → keyI T a b i < 0 := fun h i hi => HS.out i m (by omega) (by omega) h
      have hs2 : ¬ keyI T a b m < 0 → ∀ i, m ≤ i → i < T.length → 0 ≤ keyI T a b i := fun h i hi hl => by
        have := HS.out m i hi hl; omega
      have hk : keyI T a b m = lexI (T.getD m (0, 0, 0)).1 (T.getD m (0, 0, 0)).2.1 a b := rfl
      rw [hk] at hs1 hs2
      generalize T.getD m (0, 0, 0) = p at hc hs1 hs2
      have S1 := Lib.hid hs1; have S2 := Lib.hid hs2; clear hs1 hs2 hk
      obtain ⟨hc1, hc2, hc3⟩ := hc
      have HM := Lib.hid hm; clear hm
      have hxz : (x : Int) < (y : Int) := by omega
      have hyz : (y : Int) ≤ 1000 := by omega
      by_cases hp : lexI p.1 p.2.1 a b < 0
      · go_wp2_with fail
        refine wp_region_still_tail 6 (by kernel_rfl) (by kernel_rfl) ?_
        change wpStill _ _ wr.drew (fun a' => wpList _ _ _ _ a' wr.drew) _ _
        have hd1 : wr.drew.cell? ⟨tb, m * 3, none⟩ = _ := hc1
        have hd2 : wr.drew.cell? ⟨tb, m * 3 + 1, none⟩ = _ := hc2
        have hd3 : wr.drew.cell? ⟨tb, m * 3 + 2, none⟩ = _ := hc3
        have hB1 : wr.drew.cell? ⟨w.heap.size, 0, none⟩ = some (.int .i64 a) := hA1
        have hB2 : wr.drew.cell? ⟨w.heap.size, 1, none⟩ = some (.int .i64 b) := hA2
        have HW2 : Hid (Below w1.heap.size w1 wr.drew) := below_drewN HW.out 1
        clear hc1 hc2 hc3 hA1 hA2 HW
        generalize wr.drew = w3 at hd1 hd2 hd3 hB1 hB2 HW2 ⊢
        simp only [List.take_succ_cons, List.take_zero, List.drop_succ_cons, List.drop_zero]
        iterate 6 still_step
        refine wpStill_nil ?_
        go_wp2_with (go_at_call 36; refine (asks2_any _ _ _ _ _ _).mono ?_; rintro e w' ⟨rfl, hb'⟩)
        go_roundw
        case measure => have := HM.out; simp [intOf]; omega
        case rel => exact ⟨m + 1, y, by go_num, rfl, by have := HM.out; omega, hyn, S1.out hp, H2, HW2.out.trans (hb'.mono HW2.out.size)⟩
      · go_wp2_with fail
        refine wp_region_still_tail 6 (by kernel_rfl) (by kernel_rfl) ?_
        change wpStill _ _ wr.drew (fun a' => wpList _ _ _ _ a' wr.drew) _ _
        have hd1 : wr.drew.cell? ⟨tb, m * 3, none⟩ = _ := hc1
        have hd2 : wr.drew.cell? ⟨tb, m * 3 + 1, none⟩ = _ := hc2
        have hd3 : wr.drew.cell? ⟨tb, m * 3 + 2, none⟩ = _ := hc3
        have hB1 : wr.drew.cell? ⟨w.heap.size, 0, none⟩ = some (.int .i64 a) := hA1
        have hB2 : wr.drew.cell? ⟨w.heap.size, 1, none⟩ = some (.int .i64 b) := hA2
        have HW2 : Hid (Below w1.heap.size w1 wr.drew) := below_drewN HW.out 1
        clear hc1 hc2 hc3 hA1 hA2 HW
        generalize wr.drew = w3 at hd1 hd2 hd3 hB1 hB2 HW2 ⊢
        simp only [List.take_succ_cons, List.take_zero, List.drop_succ_cons, List.drop_zero]
        iterate 6 still_step
        refine wpStill_nil ?_
        go_wp2_with (go_at_call 36; refine (asks2_any _ _ _ _ _ _).mono ?_; rintro e w' ⟨rfl, hb'⟩)
        go_roundw
        case measure => have := HM.out; simp [intOf]; omega
        case rel => exact ⟨x, m, rfl, by go_num, by have := HM.out; omega, by have := HM.out; omega, H1, S2.out hp, HW2.out.trans (hb'.mono HW2.out.size)⟩
    · obtain rfl : y = x := by omega
      by_cases hn' : y < T.length
      · have hc := (HT.out.below (by have := HB.out; have := HZ1.out; omega) HW.out) y hn'
        have hk : keyI T a b y = lexI (T.getD y (0, 0, 0)).1 (T.getD y (0, 0, 0)).2.1 a b := rfl
        generalize T.getD y (0, 0, 0) = p at hc hk
        have HK := Lib.hid hk; clear hk
        obtain ⟨hc1, hc2, hc3⟩ := hc
        have hnz : (y : Int) < (T.length : Int) := by omega
        go_wp2_with fail
        have ht1 : tb < wr.heap.size := Nat.lt_of_lt_of_le HB.out (Nat.le_trans HB1.out.size HW.out.size)
        have ht2 : w.heap.size < wr.heap.size := Nat.lt_of_lt_of_le HZ1.out HW.out.size
        go_region_held3 (fun w' => w'.cell? ⟨tb, y * 3, none⟩ = some (.int .i64 p.1) ∧ w'.cell? ⟨tb, y * 3 + 1, none⟩ = some (.int .i64 p.2.1) ∧ w'.cell? ⟨tb, y * 3 + 2, none⟩ = some (.int .i64 p.2.2) ∧ w'.cell? ⟨w.heap.size, 0, none⟩ = some (.int .i64 a) ∧ w'.cell? ⟨w.heap.size, 1, none⟩ = some (.int .i64 b))
          (first | (exact ⟨hc1, hc2, hc3, hA1, hA2⟩) | (exact ⟨(hb'.cell (p := ⟨tb, y * 3, none⟩) ht1).trans hc1, (hb'.cell (p := ⟨tb, y * 3 + 1, none⟩) ht1).trans hc2, (hb'.cell (p := ⟨tb, y * 3 + 2, none⟩) ht1).trans hc3, (hb'.cell (p := ⟨w.heap.size, 0, none⟩) ht2).trans hA1, (hb'.cell (p := ⟨w.heap.size, 1, none⟩) ht2).trans hA2⟩))
          (first | (go_at_call 36; refine (asks2_any _ _ _ _ _ _).mono ?_; rintro e w' ⟨rfl, hb'⟩))
        go_wp2
        go_ret2
        refine ⟨y, ?_, hyn, H1.out, H2.out, (below_drewN (HB1.out.trans (HW.out.mono HB1.out.size)) 1).trans (hb'.mono (Nat.le_trans HB1.out.size HW.out.size))⟩
        have e : (lexI p.1 p.2.1 a b == 0) = decide (y < T.length ∧ keyI T a b y = 0) := by
          rw [HK.out]
          by_cases h : lexI p.1 p.2.1 a b = 0
          · simp [h, hn']
          · simp [h]
        rw [← e]; rfl
      · have hnz : decide ((y : Int) < (T.length : Int)) = false := decide_eq_false (by omega)
        go_wp2_with fail
        go_quiet (fail)
        go_wp2
        go_ret2
        refine ⟨y, ?_, hyn, H1.out, H2.out, below_drewN (HB1.out.trans (HW.out.mono HB1.out.size)) _⟩
        simp [hn']
end Go.Proofs.Pt

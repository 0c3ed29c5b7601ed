/- The walk of the search among ranges: package prop's 'in', and the classes, kinds and what is dropped, as the table of ranges tells them. -/
import Derived.Test.YtgaokehmfebclaaProg
import Derived.WalkKit
import Derived.Below
import Derived.Deep.LoopGhost
import Derived.Deep.QuietTactic
import Derived.BigQuiet
import Derived.Lib.Hide
import Derived.Test.YtgaokehmfebclaaP1
namespace Go.Proofs.Pt
open Go.RowKit

theorem below_drewN {B : Nat} {w W : World} (h : Below B w W) (n : Nat) : Below B w (W.drewN n) := ⟨h.os, h.tape, h.output, h.size, h.block⟩

theorem isnan_any (x : Int) (w : World) : Calls Try.prog 39 #[.int .i64 x] w fun e w' => e = .returned (.bool false) ∧ w' = w := by
  go_enter Try.func39, Try.ntmps39
  go_wp2
  go_ret
  exact ⟨by simp, rfl⟩
theorem compare_any (x y : Int) (w : World) : Calls Try.prog 28 #[.int .i64 x, .int .i64 y] w fun e w' => e = .returned (.int .i64 (cmpI x y)) ∧ w' = w := by
  go_enter Try.func28, Try.ntmps28
  go_wp2_with (go_at_call 39; refine (isnan_any _ _).mono ?_; rintro e w' ⟨rfl, rfl⟩)
  · go_ret
    exact ⟨by simp_all [cmpI], rfl⟩
  · go_ret
    have h1 : ¬ x < y := by omega
    exact ⟨by simp_all [cmpI], rfl⟩
  · go_ret
    have h1 : ¬ x < y := by omega
    have h2 : ¬ y < x := by omega
    have h3 : cmpI x y = 0 := by rw [cmpI, if_neg h1, if_neg h2]
    exact ⟨by rw [h3]; rfl, rfl⟩
/-- The search's own question: does a range begin ahead of a value? -/
theorem asks_any (lo hi v r : Int) (w : World) : Calls Try.prog 30 #[.agg #[.int .i64 lo, .int .i64 hi, .int .i64 v], .int .i64 r] w fun e w' => e = .returned (.int .i64 (cmpI lo r)) ∧ Below w.heap.size w w' := by
  go_enter Try.func30, Try.ntmps30
  go_wp2_with (go_at_call 28; refine (compare_any _ _ _).mono ?_; rintro e w' ⟨rfl, rfl⟩)
  go_ret
  exact ⟨rfl, (Below.refl _ _).alloc (Nat.le_refl _) _⟩
/-- At block b of a world the ranges of a table lie. -/
def SpanAt (w : World) (b : Nat) (T : List (Int × Int × Int)) : Prop :=
  ∀ i, i < T.length → w.cell? ⟨b, i * 3, none⟩ = some (.int .i64 (T.getD i (0, 0, 0)).1) ∧ w.cell? ⟨b, i * 3 + 1, none⟩ = some (.int .i64 (T.getD i (0, 0, 0)).2.1) ∧ w.cell? ⟨b, i * 3 + 2, none⟩ = some (.int .i64 (T.getD i (0, 0, 0)).2.2)
theorem SpanAt.below {w w' : World} {b : Nat} {T : List (Int × Int × Int)} (h : SpanAt w b T) (hb : b < w.heap.size) (hw : Below w.heap.size w w') : SpanAt w' b T :=
  fun i hi => ⟨(hw.cell (p := ⟨b, i * 3, none⟩) hb).trans (h i hi).1, (hw.cell (p := ⟨b, i * 3 + 1, none⟩) hb).trans (h i hi).2.1, (hw.cell (p := ⟨b, i * 3 + 2, none⟩) hb).trans (h i hi).2.2⟩
/-- How many ranges begin below a value. -/
def lowN (T : List (Int × Int × Int)) (r : Int) : Nat := T.countP fun x => decide (x.1 < r)
set_option maxHeartbeats 400000 in
theorem search_any (b c : Nat) (T : List (Int × Int × Int)) (r : Int) (w : World) (hT : SpanAt w b T) (hb : b < w.heap.size) (hn : T.length ≤ 1000)
    (hs : ∀ i j, i ≤ j → j < T.length → (T.getD i (0, 0, 0)).1 ≤ (T.getD j (0, 0, 0)).1) :
    Calls Try.prog 29 #[.slice (some ⟨b, 0, none⟩) T.length c, .int .i64 r, .func (.func 30) #[] #[]] w fun e w' =>
      ∃ k : Nat, e = .returned (.tuple #[.int .i64 k, .bool (decide (k < T.length ∧ (T.getD k (0, 0, 0)).1 = r))]) ∧ k ≤ T.length ∧ (∀ i, i < k → (T.getD i (0, 0, 0)).1 < r) ∧ (∀ i, k ≤ i → i < T.length → r ≤ (T.getD i (0, 0, 0)).1) ∧ Below w.heap.size w w' := by
  have HS := Lib.hid hs; clear hs
  have HT := Lib.hid hT; clear hT
  have HB := Lib.hid hb; clear hb
  go_enter Try.func29, Try.ntmps29
  go_wp2
  go_loopw [9, 10, 11] (fun i j _ wr => ∃ x y : Nat, i = .int .i64 x ∧ j = .int .i64 y ∧ x ≤ y ∧ y ≤ T.length ∧ Hid (∀ i, i < x → (T.getD i (0, 0, 0)).1 < r) ∧ Hid (∀ i, y ≤ i → i < T.length → r ≤ (T.getD i (0, 0, 0)).1) ∧ Hid (Below w.heap.size w wr)) (fun i j _ _ => (intOf j).toNat - (intOf i).toNat)
  case atStart => exact ⟨0, T.length, rfl, rfl, by omega, by omega, fun i hi => by omega, fun i h1 h2 => by omega, Below.refl _ _⟩
  case round =>
    obtain ⟨x, y, rfl, rfl, hxy, hyn, H1, H2, HW⟩ := hrel
    by_cases hlt : x < y
    · have hc := (HT.out.below HB.out HW.out) ((x + y) / 2) (by omega)
      have hs1 : (T.getD ((x + y) / 2) (0, 0, 0)).1 < r → ∀ i, i < (x + y) / 2 + 1 → (T.getD i (0, 0, 0)).1 < r := fun h i hi => by
        have := HS.out i ((x + y) / 2) (by omega) (by omega); omega
      have hs2 : ¬ (T.getD ((x + y) / 2) (0, 0, 0)).1 < r → ∀ i, (x + y) / 2 ≤ i → i < T.length → r ≤ (T.getD i (0, 0, 0)).1 := fun h i hi hl => by
        have := HS.out ((x + y) / 2) i hi hl; omega
      generalize T.getD ((x + y) / 2) (0, 0, 0) = p at hc hs1 hs2
      have S1 := Lib.hid hs1; have S2 := Lib.hid hs2; clear hs1 hs2
      obtain ⟨hc1, hc2, hc3⟩ := hc
      have hxz : (x : Int) < (y : Int) := by omega
      have hyz : (y : Int) ≤ 1000 := by omega
      by_cases hp : p.1 < r
      · have hv : cmpI p.1 r < 0 := by unfold cmpI; rw [if_pos hp]; omega
        go_wp2_with (go_at_call 30; refine (asks_any _ _ _ _ _).mono ?_; rintro e w' ⟨rfl, hb'⟩)
        go_roundw
        case measure => simp [intOf]; omega
        case rel => exact ⟨(x + y) / 2 + 1, y, by go_num, rfl, by omega, hyn, S1.out hp, H2, HW.out.trans (hb'.mono HW.out.size)⟩
      · have hv : ¬ cmpI p.1 r < 0 := by unfold cmpI; rw [if_neg hp]; split <;> omega
        go_wp2_with (go_at_call 30; refine (asks_any _ _ _ _ _).mono ?_; rintro e w' ⟨rfl, hb'⟩)
        go_roundw
        case measure => simp [intOf]; omega
        case rel => exact ⟨x, (x + y) / 2, rfl, by go_num, by omega, by omega, H1, S2.out hp, HW.out.trans (hb'.mono HW.out.size)⟩
    · obtain rfl : y = x := by omega
      by_cases hn' : y < T.length
      · have hc := (HT.out.below HB.out HW.out) y hn'
        obtain ⟨p, hp⟩ : ∃ p, p = T.getD y (0, 0, 0) := ⟨_, rfl⟩
        rw [← hp] at hc
        have HP := Lib.hid hp; clear hp
        obtain ⟨hc1, hc2, hc3⟩ := hc
        have hnz : (y : Int) < (T.length : Int) := by omega
        go_wp2_with (go_at_call 30; refine (asks_any _ _ _ _ _).mono ?_; rintro e w' ⟨rfl, hb'⟩)
        go_ret2
        refine ⟨y, ?_, hyn, H1.out, H2.out, HW.out.trans (hb'.mono HW.out.size)⟩
        have e : (cmpI p.1 r == 0) = decide (y < T.length ∧ (T.getD y (0, 0, 0)).1 = r) := by
          rw [← HP.out]
          by_cases h : p.1 = r
          · simp [cmpI, h, hn']
          · simp only [hn', h, and_false, decide_false]
            unfold cmpI
            split
            · rfl
            · rw [if_pos (by omega)]; rfl
        rw [← e]; rfl
      · go_wp2
        go_ret2
        refine ⟨y, ?_, hyn, H1.out, H2.out, HW.out⟩
        simp [hn']
/-- A table of ranges: rising, none empty. -/
def Rising (T : List (Int × Int × Int)) : Prop := (∀ i j, i ≤ j → j < T.length → (T.getD i (0, 0, 0)).1 ≤ (T.getD j (0, 0, 0)).1) ∧ (∀ i j, i < j → j < T.length → (T.getD i (0, 0, 0)).2.1 < (T.getD j (0, 0, 0)).1) ∧ ∀ i, i < T.length → (T.getD i (0, 0, 0)).1 ≤ (T.getD i (0, 0, 0)).2.1
theorem look_at : ∀ (T : List (Int × Int × Int)) (r : Int) (k : Nat), k < T.length → (∀ i, i < k → (T.getD i (0, 0, 0)).2.1 < r) → (T.getD k (0, 0, 0)).1 ≤ r → r ≤ (T.getD k (0, 0, 0)).2.1 → look T r = some (T.getD k (0, 0, 0)).2.2
  | [], _, k, hk, _, _, _ => by simp at hk
  | (lo, hi, v) :: T, r, 0, _, _, h1, h2 => by simp at h1 h2; simp [look, h1, h2]
  | (lo, hi, v) :: T, r, k + 1, hk, h0, h1, h2 => by
    have := h0 0 (by omega)
    simp at this
    simp only [look]
    rw [if_neg (by omega)]
    simpa using look_at T r k (by simpa using hk) (fun i hi => by simpa using h0 (i + 1) (by omega)) (by simpa using h1) (by simpa using h2)
theorem look_out : ∀ (T : List (Int × Int × Int)) (r : Int), (∀ i, i < T.length → r < (T.getD i (0, 0, 0)).1 ∨ (T.getD i (0, 0, 0)).2.1 < r) → look T r = none
  | [], _, _ => rfl
  | (lo, hi, v) :: T, r, h => by
    have := h 0 (by simp)
    simp at this
    simp only [look]
    rw [if_neg (by omega)]
    exact look_out T r fun i hi => by simpa using h (i + 1) (by simpa using hi)
/-- What the search comes to. -/
theorem look_found {T : List (Int × Int × Int)} {r : Int} (hr : Rising T) {k : Nat} (hk : k < T.length) (h : (T.getD k (0, 0, 0)).1 ≤ r) (hu : r ≤ (T.getD k (0, 0, 0)).2.1) : look T r = some (T.getD k (0, 0, 0)).2.2 :=
  look_at T r k hk (fun i hi => by have := hr.2.1 i k hi hk; omega) h hu
theorem look_missed {T : List (Int × Int × Int)} {r : Int} {k : Nat} (h1 : ∀ i, i < k → (T.getD i (0, 0, 0)).2.1 < r) (h2 : ∀ i, k ≤ i → i < T.length → r < (T.getD i (0, 0, 0)).1) : look T r = none :=
  look_out T r fun i hi => by by_cases h : i < k; exact .inr (h1 i h); exact .inl (h2 i (by omega) hi)
def InPost (T : List (Int × Int × Int)) (r : Int) (w : World) (e : Ending) (w' : World) : Prop :=
  ∃ x y v : Int, ∃ ok : Bool, e = .returned (.tuple #[.agg #[.int .i64 x, .int .i64 y, .int .i64 v], .bool ok]) ∧ v = (look T r).getD 0 ∧ ok = (look T r).isSome ∧ Below w.heap.size w w'
set_option maxHeartbeats 400000 in
theorem in_any (b c : Nat) (T : List (Int × Int × Int)) (r : Int) (w : World) (hT : SpanAt w b T) (hb : b < w.heap.size) (hn : T.length ≤ 1000) (hr : Rising T) :
    Calls Try.prog 22 #[.slice (some ⟨b, 0, none⟩) T.length c, .int .i64 r] w (InPost T r w) := by
  have HR := Lib.hid hr; clear hr
  have HT := Lib.hid hT; clear hT
  have HB := Lib.hid hb; clear hb
  go_enter Try.func22, Try.ntmps22
  go_wp2_with fail
  refine (search_any b c T r _ (HT.out.below HB.out ((Below.refl _ _).alloc (Nat.le_refl _) _)) (by have := HB.out; simp; omega) hn HR.out.1).mono ?_
  rintro e w' ⟨k, rfl, hk, h1, h2, hw⟩
  have H1 := Lib.hid h1; have H2 := Lib.hid h2; clear h1 h2
  have hc0 : w'.cell? ⟨w.heap.size, 0, none⟩ = some (.int .i64 0) := (hw.cell (p := ⟨w.heap.size, 0, none⟩) (by simp)).trans (by simp)
  have hc1 : w'.cell? ⟨w.heap.size, 1, none⟩ = some (.int .i64 0) := (hw.cell (p := ⟨w.heap.size, 1, none⟩) (by simp)).trans (by simp)
  have hc2 : w'.cell? ⟨w.heap.size, 2, none⟩ = some (.int .i64 0) := (hw.cell (p := ⟨w.heap.size, 2, none⟩) (by simp)).trans (by simp)
  have hf0 : w'.frozen? ⟨w.heap.size, 0, none⟩ = false := (hw.frozen (p := ⟨w.heap.size, 0, none⟩) (by simp)).trans (by simp)
  have hf1 : w'.frozen? ⟨w.heap.size, 1, none⟩ = false := (hw.frozen (p := ⟨w.heap.size, 1, none⟩) (by simp)).trans (by simp)
  have hf2 : w'.frozen? ⟨w.heap.size, 2, none⟩ = false := (hw.frozen (p := ⟨w.heap.size, 2, none⟩) (by simp)).trans (by simp)
  have hW : Below w.heap.size w w' := ((Below.refl _ _).alloc (Nat.le_refl _) _).trans (hw.mono (by simp))
  have hZ : w.heap.size + 1 ≤ w'.heap.size := by have := hw.size; simpa using this
  clear hw
  by_cases hok : k < T.length ∧ (T.getD k (0, 0, 0)).1 = r
  · have hd : decide (k < T.length ∧ (T.getD k (0, 0, 0)).1 = r) = true := decide_eq_true hok
    rw [hd]
    have hc := HT.out.below HB.out hW k hok.1
    have hp2 := HR.out.2.2 k hok.1
    have hl := look_found (r := r) HR.out hok.1 (by omega) (by omega)
    have HL := Lib.hid hl; clear hl
    generalize T.getD k (0, 0, 0) = p at hc hok hp2 HL
    obtain ⟨hd1, hd2, hd3⟩ := hc
    have hkz : (k : Int) < (T.length : Int) := by omega
    have hpr : p.1 = r := hok.2
    have hnr : ¬ p.2.1 < r := by omega
    clear hok hpr hd
    go_wp2
    refine bodyPost_ret (v := .tuple #[.agg #[.int .i64 p.1, .int .i64 p.2.1, .int .i64 p.2.2], .bool true]) (by simp [results, Try.results22, go_sem, hc0, hc1, hc2]) rfl ⟨_, _, _, true, rfl, by rw [HL.out]; rfl, by rw [HL.out]; rfl, ?_⟩
    exact ((hW.setCell (by simp) _).setCell (by simp) _).setCell (by simp) _
  · have hd : decide (k < T.length ∧ (T.getD k (0, 0, 0)).1 = r) = false := decide_eq_false hok
    rw [hd]
    have hl2 : ∀ i, k ≤ i → i < T.length → r < (T.getD i (0, 0, 0)).1 := fun i h1 h2 => by
      have h3 := H2.out i h1 h2
      have h4 := H2.out k (by omega) (by omega)
      have h5 := HR.out.1 k i h1 h2
      by_cases e : (T.getD k (0, 0, 0)).1 = r
      · exact absurd ⟨by omega, e⟩ hok
      · omega
    have L2 := Lib.hid hl2; clear hl2 hok hd
    by_cases hk0 : k = 0
    · have hl := look_missed (T := T) (r := r) (k := k) (fun i hi => by omega) L2.out
      have HL := Lib.hid hl; clear hl
      subst hk0
      go_wp2
      refine bodyPost_ret (v := .tuple #[.agg #[.int .i64 0, .int .i64 0, .int .i64 0], .bool false]) (by simp [results, Try.results22, go_sem, hc0, hc1, hc2]) rfl ⟨_, _, _, false, rfl, by rw [HL.out]; rfl, by rw [HL.out]; rfl, ?_⟩
      exact ((hW.setCell (by simp) _).setCell (by simp) _).setCell (by simp) _
    · obtain ⟨m, rfl⟩ : ∃ m, k = m + 1 := ⟨k - 1, by omega⟩
      have hc := HT.out.below HB.out hW m (by omega)
      have hlt := H1.out m (by omega)
      have hfd : r ≤ (T.getD m (0, 0, 0)).2.1 → look T r = some (T.getD m (0, 0, 0)).2.2 := fun h => look_found (r := r) HR.out (by omega) (by omega) h
      have hms : (T.getD m (0, 0, 0)).2.1 < r → look T r = none := fun h => look_missed (k := m + 1) (fun i hi => by
        have h1 := HR.out.2.1
        by_cases e : i = m
        · subst e; exact h
        · have h2 := h1 i m (by omega) (by omega); omega) L2.out
      have HF := Lib.hid hfd; have HM := Lib.hid hms; clear hfd hms
      generalize T.getD m (0, 0, 0) = p at hc hlt HF HM
      obtain ⟨hd1, hd2, hd3⟩ := hc
      have hkz : (m : Int) < (T.length : Int) := by omega
      have hkz2 : (m : Int) ≤ 1000 := by omega
      have hm1 : ((m + 1 : Nat) : Int) - 1 = (m : Int) := by omega
      by_cases hh : p.2.1 < r
      · go_wp2
        refine bodyPost_ret (v := .tuple #[.agg #[.int .i64 0, .int .i64 0, .int .i64 0], .bool false]) (by simp [results, Try.results22, go_sem, hc0, hc1, hc2]) rfl ⟨_, _, _, false, rfl, by rw [HM.out hh]; rfl, by rw [HM.out hh]; rfl, ?_⟩
        exact ((hW.setCell (by simp) _).setCell (by simp) _).setCell (by simp) _
      · go_wp2
        refine bodyPost_ret (v := .tuple #[.agg #[.int .i64 p.1, .int .i64 p.2.1, .int .i64 p.2.2], .bool true]) (by simp [results, Try.results22, go_sem, hc0, hc1, hc2]) rfl ⟨_, _, _, true, rfl, by rw [HF.out (by omega)]; rfl, by rw [HF.out (by omega)]; rfl, ?_⟩
        exact ((hW.setCell (by simp) _).setCell (by simp) _).setCell (by simp) _

end Go.Proofs.Pt

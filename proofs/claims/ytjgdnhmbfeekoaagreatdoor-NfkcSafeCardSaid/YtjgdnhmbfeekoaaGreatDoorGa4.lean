/- Lemmas and walks that the claims of this seat share: several texts, joined. -/
import Derived.Test.YtjgdnhmbfeekoaaGreatDoorGa2
import Derived.Test.YtjgdnhmbfeekoaaGreatDoorGa3
import Derived.Test.YtjgdnhmbfeekoaaGreatDoorGa1
import Derived.OrdersHeld
import Derived.Deep.RegionHeld3
import Derived.Laws.BitsLemmas
import Derived.RowKit
/- ==== the text W9 ==== -/
section
/- The walk of package canon's composer: what is put behind what was told. -/
namespace Go.Proofs.Pt
open Go Go.RowKit Go.Proofs.YtjgdnhmbfeekoaaGreatDoorW.PrintWords

/-- May a value of a class be one with the head? -/
def opensP (n head last c : Int) : Bool := decide (0 ≤ head) && (decide (head = n - 1) || decide (last < c))
set_option maxHeartbeats 1000000 in
theorem open_any (g n cap : Nat) (A : Option Addr) (head last c : Int) (w : World) (hn : n ≤ 17592186044416) (h0 : w.cell? ⟨g, 0, none⟩ = some (.slice A n cap)) (h1 : w.cell? ⟨g, 1, none⟩ = some (.int .i64 head)) (h2 : w.cell? ⟨g, 2, none⟩ = some (.int .i64 last)) :
    Calls Tryz.prog 92 #[.pointer (some ⟨g, 0, none⟩), .int .i64 c] w fun e w' => e = .returned (.bool (opensP n head last c)) ∧ ∃ k, w' = w.drewN k := by
  have hw : IntKind.i64.wrap ((n : Int) - 1) = (n : Int) - 1 := by rw [IntKind.wrap_i64]; omega
  by_cases hh : 0 ≤ head
  · by_cases he : head = (n : Int) - 1
    · have hv : opensP n head last c = true := by simp [opensP, he]; omega
      have HV := Lib.hid hv; clear hv
      have hb1 : decide (0 ≤ head) = true := decide_eq_true hh
      have hb2 : (head == (n : Int) - 1) = true := by simp [he]
      clear he
      go_enter Tryz.func92, Tryz.ntmps92
      go_wp2_with fail
      go_quiet (fail)
      go_wp2
      go_ret
      exact ⟨by rw [HV.out]; rfl, _, rfl⟩
    · have hb1 : decide (0 ≤ head) = true := decide_eq_true hh
      have hb2 : (head == (n : Int) - 1) = false := by simp [he]
      have hv : opensP n head last c = decide (last < c) := by simp [opensP, hh, he]
      have HV := Lib.hid hv; clear hv he
      go_enter Tryz.func92, Tryz.ntmps92
      go_wp2_with fail
      go_quiet (fail)
      go_wp2
      go_ret
      exact ⟨by rw [HV.out]; rfl, _, rfl⟩
  · have hb1 : decide (0 ≤ head) = false := decide_eq_false hh
    have hv : opensP n head last c = false := by simp [opensP, hh]
    have HV := Lib.hid hv; clear hv
    go_enter Tryz.func92, Tryz.ntmps92
    go_wp2_with fail
    go_quiet (fail)
    go_wp2
    go_ret
    exact ⟨by rw [HV.out]; rfl, _, rfl⟩
/-- What a value put behind makes of what was told, of the head's place and of the last class. -/
def appP (xs : List Int) (head r : Int) : List Int × Int × Int := (xs ++ [r], if ccc r = 0 then (xs.length : Int) else head, ccc r)
def putP (xs : List Int) (head last r : Int) : List Int × Int × Int :=
  if opensP xs.length head last (ccc r) = true then (match join (rd xs head) r with | some v => (xs.set head.toNat v, head, last) | none => appP xs head r) else appP xs head r
/-- The composer at block g: what was told is a row of the call's own. -/
structure CompAt (w : World) (base g : Nat) (v : Value) (xs : List Int) (head last : Int) : Prop where
  blk : w.heap[g]? = some (.cells #[v, .int .i64 head, .int .i64 last] 80 (0, 0))
  own : w.ownsRow base 3 1 v xs.length (nums .i64 xs)
  ge : base ≤ g
theorem CompAt.cells {w : World} {base g : Nat} {v : Value} {xs : List Int} {head last : Int} (h : CompAt w base g v xs head last) : w.cell? ⟨g, 0, none⟩ = some v ∧ w.cell? ⟨g, 1, none⟩ = some (.int .i64 head) ∧ w.cell? ⟨g, 2, none⟩ = some (.int .i64 last) :=
  ⟨(blk_cell h.blk 0).trans rfl, (blk_cell h.blk 1).trans rfl, (blk_cell h.blk 2).trans rfl⟩
theorem CompAt.lt {w : World} {base g : Nat} {v : Value} {xs : List Int} {head last : Int} (h : CompAt w base g v xs head last) : g < w.heap.size := blk_lt h.blk
theorem CompAt.below {w w' : World} {base g : Nat} {v : Value} {xs : List Int} {head last : Int} (h : CompAt w base g v xs head last) (hb : Below w.heap.size w w') : CompAt w' base g v xs head last :=
  ⟨(hb.block g h.lt).trans h.blk, pw_own_below h.own hb, h.ge⟩
theorem CompAt.apart {w : World} {base g : Nat} {v : Value} {xs : List Int} {head last : Int} (h : CompAt w base g v xs head last) : some g ≠ v.ownBlock := by
  intro e
  obtain ⟨cells, hc⟩ := own_typed h.own g e.symm
  rw [h.blk] at hc
  injection hc with hc
  injection hc with _ ht
  exact absurd ht (by decide)
/-- A store into the composer itself. -/
theorem CompAt.out_ {w : World} {base g : Nat} {v v1 : Value} {xs1 : List Int} {head last : Int} (hb : w.heap[g]? = some (.cells #[v, .int .i64 head, .int .i64 last] 80 (0, 0))) (ho : w.ownsRow base 3 1 v1 xs1.length (nums .i64 xs1)) (hg : base ≤ g) : CompAt (w.setCell ⟨g, 0, none⟩ v1) base g v1 xs1 head last := by
  have hne : some g ≠ v1.ownBlock := by
    intro e
    obtain ⟨cells, hc⟩ := own_typed ho g e.symm
    rw [hb] at hc
    injection hc with hc
    injection hc with _ ht
    exact absurd ht (by decide)
  exact ⟨by simpa using blk_set hb 0 v1, own_move ho fun k hk => Below.heap_setCell w _ v1 k (by rintro rfl; exact hne hk.symm), hg⟩
theorem CompAt.last_ {w : World} {base g : Nat} {v : Value} {xs : List Int} {head last : Int} (h : CompAt w base g v xs head last) (c : Int) : CompAt (w.setCell ⟨g, 2, none⟩ (.int .i64 c)) base g v xs head c :=
  ⟨by simpa using blk_set h.blk 2 (.int .i64 c), own_move h.own fun k hk => Below.heap_setCell w _ _ k (by rintro rfl; exact h.apart hk.symm), h.ge⟩
theorem CompAt.head_ {w : World} {base g : Nat} {v : Value} {xs : List Int} {head last : Int} (h : CompAt w base g v xs head last) (c : Int) : CompAt (w.setCell ⟨g, 1, none⟩ (.int .i64 c)) base g v xs c last :=
  ⟨by simpa using blk_set h.blk 1 (.int .i64 c), own_move h.own fun k hk => Below.heap_setCell w _ _ k (by rintro rfl; exact h.apart hk.symm), h.ge⟩
theorem CompAt.free {w : World} {base g : Nat} {v : Value} {xs : List Int} {head last : Int} (h : CompAt w base g v xs head last) (j : Nat) : w.frozen? ⟨g, j, none⟩ = false := frozen_of_row w g j _ _ h.blk
theorem info_int : (Tryz.prog.info? 3).map (fun i => (i.zero, i.size, i.bytes)) = some (some (.int .i64 0), 1, 8) := by kernel_rfl
def CompPost (w : World) (base g : Nat) (p : List Int × Int × Int) (e : Ending) (w' : World) : Prop := e = .returned (.tuple #[]) ∧ (∃ v, CompAt w' base g v p.1 p.2.1 p.2.2) ∧ Below base w w'
set_option maxHeartbeats 1000000 in
set_option maxRecDepth 100000 in
theorem put_any (base g : Nat) (v : Value) (xs : List Int) (head last r : Int) (w : World) (h : CompAt w base g v xs head last) (hl : xs.length < 17592186044416) (hh : head < xs.length) :
    Calls Tryz.prog 66 #[.pointer (some ⟨g, 0, none⟩), .int .i64 r] w (CompPost w base g (putP xs head last r)) := by
  have H := Lib.hid h; clear h
  go_enter Tryz.func66, Tryz.ntmps66
  go_wp2_with fail
  refine (ccc_any r _).mono ?_
  rintro e w1 ⟨rfl, hb⟩
  have H1 : Hid (CompAt w1 base g v xs head last) := H.out.below hb
  have hb0 : Below base w w1 := hb.mono (Nat.le_trans H.out.ge (Nat.le_of_lt H.out.lt))
  have HB := Lib.hid hb0; clear hb0 hb H
  obtain ⟨A, cap, hv⟩ := own_slice H1.out.own
  subst hv
  obtain ⟨c0, c1, c2⟩ := H1.out.cells
  go_wp2_with fail
  refine (open_any g xs.length cap A head last (ccc r) _ (by omega) c0 c1 c2).mono ?_
  rintro e w2 ⟨rfl, k, rfl⟩
  have H3 : Hid (CompAt (w1.drewN k) base g (.slice A xs.length cap) xs head last) := H1.out.below (pw_below_drewN (Below.refl _ _) k)
  have HB3 : Hid (Below base w (w1.drewN k)) := pw_below_drewN HB.out k
  have HZ3 : Hid (base ≤ (w1.drewN k).heap.size) := Nat.le_trans H3.out.ge (Nat.le_of_lt H3.out.lt)
  clear c0 c1 c2 H1 HB
  generalize w1.drewN k = w3 at H3 HB3 HZ3 ⊢
  obtain ⟨c0, c1, c2⟩ := H3.out.cells
  have hop : ∀ b, opensP xs.length head last (ccc r) = b → putP xs head last r = if b = true then (match join (rd xs head) r with | some v => (xs.set head.toNat v, head, last) | none => appP xs head r) else appP xs head r := fun b h => by unfold putP; rw [h]
  have HOP := Lib.hid hop; clear hop
  cases hb : opensP xs.length head last (ccc r) with
  | false =>
    have hp : putP xs head last r = appP xs head r := by rw [HOP.out false hb]; rfl
    have HP := Lib.hid hp; clear hp HOP
    go_wp2_with (at_builtin; refine print_append_num (w0 := w) base rfl (.tmp 42) (.tmp 44) 25 3 .i64 8 rfl Tryz.underlying25 info_int (by decide) (.slice A xs.length cap) xs r rfl rfl H3.out.own HB3.out HZ3.out (by omega) ?_)
    intro v1 w4 hown hbel hgrow _
    have hb4 := blk_grown H3.out.blk hgrow H3.out.apart
    obtain ⟨A1, cap1, hv1⟩ := own_slice hown
    subst hv1
    have hlen : (xs ++ [r]).length = xs.length + 1 := by simp
    have H4 : Hid (CompAt (w4.setCell ⟨g, 0, none⟩ (.slice A1 (xs.length + 1) cap1)) base g (.slice A1 (xs.length + 1) cap1) (xs ++ [r]) head last) := CompAt.out_ hb4 (by rw [hlen]; exact hown) H3.out.ge
    have HB4 : Hid (Below base w (w4.setCell ⟨g, 0, none⟩ (.slice A1 (xs.length + 1) cap1))) := hbel.setCell H3.out.ge _
    have d0 : w4.cell? ⟨g, 0, none⟩ = some (.slice A xs.length cap) := (blk_cell hb4 0).trans rfl
    have d1 : w4.cell? ⟨g, 1, none⟩ = some (.int .i64 head) := (blk_cell hb4 1).trans rfl
    have d2 : w4.cell? ⟨g, 2, none⟩ = some (.int .i64 last) := (blk_cell hb4 2).trans rfl
    have e0 : w4.frozen? ⟨g, 0, none⟩ = false := frozen_of_row w4 g 0 _ _ hb4
    have e1 : w4.frozen? ⟨g, 1, none⟩ = false := frozen_of_row w4 g 1 _ _ hb4
    have e2 : w4.frozen? ⟨g, 2, none⟩ = false := frozen_of_row w4 g 2 _ _ hb4
    have HG : Hid (base ≤ g) := H3.out.ge
    clear hown hbel hgrow hb4 c0 c1 c2 H3 HB3 HZ3 hlen
    by_cases hz : ccc r = 0
    · have hz1 : (ccc r == 0) = true := by simp [hz]
      have hap : appP xs head r = (xs ++ [r], (xs.length : Int), ccc r) := by simp [appP, hz]
      have HAP := Lib.hid hap; clear hap hz
      go_wp2
      go_end0
      exact ⟨rfl, ⟨_, by rw [HP.out, HAP.out]; exact (H4.out.last_ _).head_ _⟩, (HB4.out.setCell HG.out _).setCell HG.out _⟩
    · have hz1 : (ccc r == 0) = false := by simp [hz]
      have hap : appP xs head r = (xs ++ [r], head, ccc r) := by simp [appP, hz]
      have HAP := Lib.hid hap; clear hap hz
      go_wp2
      go_end0
      exact ⟨rfl, ⟨_, by rw [HP.out, HAP.out]; exact H4.out.last_ _⟩, HB4.out.setCell HG.out _⟩
  | true =>
    have hh0 : 0 ≤ head := by
      unfold opensP at hb
      simp only [Bool.and_eq_true, decide_eq_true_eq] at hb
      exact hb.1
    obtain ⟨gb, cap2, hA, _, _⟩ := H3.out.own.form (by omega)
    have hA2 : A = some ⟨gb, 0, none⟩ ∧ cap = cap2 := by simpa using hA
    obtain ⟨rfl, rfl⟩ := hA2
    clear hA
    have cx : w3.cell? ⟨gb, head.toNat, none⟩ = some (.int .i64 (rd xs head)) := by
      rw [H3.out.own.cellAt head.toNat (by omega)]
      simp [nums, rd, List.getElem?_eq_getElem (show head.toNat < xs.length by omega), List.getD_eq_getElem?_getD]
    have fx : w3.frozen? ⟨gb, head.toNat, none⟩ = false := H3.out.own.frozenAt _
    have hgb : gb < w3.heap.size := own_lt H3.out.own gb rfl
    have hgb2 : base ≤ gb := own_base H3.out.own gb rfl
    have hgg : g ≠ gb := fun e => H3.out.apart (by rw [e]; rfl)
    have hgz : g < w3.heap.size := H3.out.lt
    have hhz : head < (xs.length : Int) := hh
    go_wp2_with fail
    go_region_held3 (fun w' => w'.cell? ⟨g, 0, none⟩ = some (.slice (some ⟨gb, 0, none⟩) xs.length cap) ∧ w'.cell? ⟨g, 1, none⟩ = some (.int .i64 head) ∧ w'.cell? ⟨gb, head.toNat, none⟩ = some (.int .i64 (rd xs head)))
      (first | (exact ⟨c0, c1, cx⟩) | (exact ⟨(hb'.cell (p := ⟨g, 0, none⟩) hgz).trans c0, (hb'.cell (p := ⟨g, 1, none⟩) hgz).trans c1, (hb'.cell (p := ⟨gb, head.toNat, none⟩) hgb).trans cx⟩))
      (first | (go_at_call 48; refine (join_any _ _ _).mono ?_; rintro e w' ⟨rr, ok, rfl, hr, hok, hb'⟩))
    have hb3 : Below w3.heap.size w3 w' := (pw_below_drewN (Below.refl _ _) 1).trans hb'
    have H6 : Hid (CompAt w' base g (.slice (some ⟨gb, 0, none⟩) xs.length cap) xs head last) := H3.out.below hb3
    have HB6 : Hid (Below base w w') := HB3.out.trans (hb3.mono HZ3.out)
    have HZ6 : Hid (base ≤ w'.heap.size) := Nat.le_trans HZ3.out hb3.size
    clear hb' hb3 c0 c1 c2 cx fx H3 HB3 HZ3
    cases hj : join (rd xs head) r with
    | some v =>
      have hp : putP xs head last r = (xs.set head.toNat v, head, last) := by rw [HOP.out true hb]; simp only [if_true, hj]
      have HP := Lib.hid hp; clear hp HOP hj
      go_wp2_with fail
      refine wp_region_still_tail 10 (by kernel_rfl) (by kernel_rfl) ?_
      change wpStill _ _ w'.drew (fun a' => wpList _ _ _ _ a' w'.drew) _ _
      have H7 : Hid (CompAt w'.drew base g (.slice (some ⟨gb, 0, none⟩) xs.length cap) xs head last) := H6.out.below (pw_below_drewN (Below.refl _ _) 1)
      have HB7 : Hid (Below base w w'.drew) := pw_below_drewN HB6.out 1
      clear H6 HB6 HZ6
      generalize w'.drew = w7 at H7 HB7 ⊢
      obtain ⟨c0, c1, c2⟩ := H7.out.cells
      have cx : w7.cell? ⟨gb, head.toNat, none⟩ = some (.int .i64 (rd xs head)) := by
        rw [H7.out.own.cellAt head.toNat (by omega)]
        simp [nums, rd, List.getElem?_eq_getElem (show head.toNat < xs.length by omega), List.getD_eq_getElem?_getD]
      have fx : w7.frozen? ⟨gb, head.toNat, none⟩ = false := H7.out.own.frozenAt _
      have hst := H7.out.own.stored head.toNat (.int .i64 v)
      have HF : Hid (CompAt (w7.setCell ⟨gb, head.toNat, none⟩ (.int .i64 v)) base g (.slice (some ⟨gb, 0, none⟩) xs.length cap) (xs.set head.toNat v) head last) :=
        ⟨blk_far H7.out.blk hgg _, by have := hst.1; simpa [nums, List.map_set] using this, H7.out.ge⟩
      have HBF : Hid (Below base w (w7.setCell ⟨gb, head.toNat, none⟩ (.int .i64 v))) := HB7.out.setCell hgb2 _
      clear hst H7 HB7
      simp only [List.take_succ_cons, List.take_zero, List.drop_succ_cons, List.drop_zero]
      iterate 10 still_step
      refine wpStill_nil ?_
      go_wp2
      go_end0
      exact ⟨rfl, ⟨_, by rw [HP.out]; exact HF.out⟩, HBF.out⟩
    | none =>
      have hp : putP xs head last r = appP xs head r := by rw [HOP.out true hb]; simp only [if_true, hj]
      have HP := Lib.hid hp; clear hp HOP hj
      obtain ⟨c0, c1, c2⟩ := H6.out.cells
      go_wp2_with (at_builtin; refine print_append_num (w0 := w) base rfl (.tmp 42) (.tmp 44) 25 3 .i64 8 rfl Tryz.underlying25 info_int (by decide) (.slice (some ⟨gb, 0, none⟩) xs.length cap) xs r rfl rfl H6.out.own HB6.out HZ6.out (by omega) ?_)
      intro v1 w4 hown hbel hgrow _
      have hb4 := blk_grown H6.out.blk hgrow H6.out.apart
      obtain ⟨A1, cap1, hv1⟩ := own_slice hown
      subst hv1
      have hlen : (xs ++ [r]).length = xs.length + 1 := by simp
      have H4 : Hid (CompAt (w4.setCell ⟨g, 0, none⟩ (.slice A1 (xs.length + 1) cap1)) base g (.slice A1 (xs.length + 1) cap1) (xs ++ [r]) head last) := CompAt.out_ hb4 (by rw [hlen]; exact hown) H6.out.ge
      have HB4 : Hid (Below base w (w4.setCell ⟨g, 0, none⟩ (.slice A1 (xs.length + 1) cap1))) := hbel.setCell H6.out.ge _
      have d0 : w4.cell? ⟨g, 0, none⟩ = some (.slice (some ⟨gb, 0, none⟩) xs.length cap) := (blk_cell hb4 0).trans rfl
      have d1 : w4.cell? ⟨g, 1, none⟩ = some (.int .i64 head) := (blk_cell hb4 1).trans rfl
      have d2 : w4.cell? ⟨g, 2, none⟩ = some (.int .i64 last) := (blk_cell hb4 2).trans rfl
      have e0 : w4.frozen? ⟨g, 0, none⟩ = false := frozen_of_row w4 g 0 _ _ hb4
      have e1 : w4.frozen? ⟨g, 1, none⟩ = false := frozen_of_row w4 g 1 _ _ hb4
      have e2 : w4.frozen? ⟨g, 2, none⟩ = false := frozen_of_row w4 g 2 _ _ hb4
      have HG : Hid (base ≤ g) := H6.out.ge
      clear hown hbel hgrow hb4 c0 c1 c2 H6 HB6 HZ6 hlen
      by_cases hz : ccc r = 0
      · have hz1 : (ccc r == 0) = true := by simp [hz]
        have hap : appP xs head r = (xs ++ [r], (xs.length : Int), ccc r) := by simp [appP, hz]
        have HAP := Lib.hid hap; clear hap hz
        go_wp2
        go_end0
        exact ⟨rfl, ⟨_, by rw [HP.out, HAP.out]; exact (H4.out.last_ _).head_ _⟩, (HB4.out.setCell HG.out _).setCell HG.out _⟩
      · have hz1 : (ccc r == 0) = false := by simp [hz]
        have hap : appP xs head r = (xs ++ [r], head, ccc r) := by simp [appP, hz]
        have HAP := Lib.hid hap; clear hap hz
        go_wp2
        go_end0
        exact ⟨rfl, ⟨_, by rw [HP.out, HAP.out]; exact H4.out.last_ _⟩, HB4.out.setCell HG.out _⟩
end Go.Proofs.Pt
end

/- ==== the text W22 ==== -/
section
/- The walks of package decomp: a value's digits, a row's values, what a value is made of. -/
namespace Go.Proofs.Pt
open Go Go.RowKit Go.Proofs.YtjgdnhmbfeekoaaGreatDoorW.PrintWords

theorem ifmt_any (u : Nat) (hu : u < 9223372036854775808) (w : World) (hV : Vars w) : Calls Tryz.prog 113 #[.int .i64 u, .int .i64 16] w fun e w' => e = .returned (.string ⟨(hexFl 16 u).toArray⟩) ∧ Below w.heap.size w w' := by
  have HV := Lib.hid hV; clear hV
  have hu0 : (u : Int) < 9223372036854775808 := by omega
  go_enter Tryz.func113, Tryz.ntmps113
  go_wp2_with fail
  refine (bits_any u hu _ HV.out).mono ?_
  rintro e w' ⟨rfl, hb⟩
  go_wp2
  go_ret
  exact ⟨rfl, hb⟩
theorem fmt_any (u : Nat) (hu : u < 9223372036854775808) (w : World) (hV : Vars w) : Calls Tryz.prog 84 #[.int .i64 u, .int .i64 16] w fun e w' => e = .returned (.string ⟨(hexFl 16 u).toArray⟩) ∧ Below w.heap.size w w' := by
  have HV := Lib.hid hV; clear hV
  go_enter Tryz.func84, Tryz.ntmps84
  go_wp2_with fail
  refine (ifmt_any u hu _ HV.out).mono ?_
  rintro e w' ⟨rfl, hb⟩
  go_wp2
  go_ret
  exact ⟨rfl, hb⟩
theorem repeat_zeros (c : Nat) : Lib.repeatL [48] c = List.replicate c 48 := by
  have := Lib.repeatL_replicate (48 : UInt8) 1 c
  simpa using this
theorem code_bytes {u : Nat} {s : ByteArray} (hs : s = ⟨(hexU u).toArray⟩) (hz : s.size = (hexU u).length) : (ByteArray.mk (Array.replicate (4 - s.size) 48) ++ s) = ⟨(code u).toArray⟩ := by
  rw [hz]
  apply ByteArray.ext
  rw [ByteArray.data_append, hs]
  unfold code
  simp
def CodePost (u : Nat) (w : World) (e : Ending) (w' : World) : Prop := e = .returned (.string ⟨(code u).toArray⟩) ∧ Below w.heap.size w w'
set_option maxHeartbeats 1000000 in
theorem code_any (u : Nat) (hu : u < 9223372036854775808) (w : World) (hV : Vars w) : Calls Tryz.prog 57 #[.int .i64 u] w (CodePost u w) := by
  have HV := Lib.hid hV; clear hV
  go_enter Tryz.func57, Tryz.ntmps57
  go_wp2_with fail
  refine (fmt_any u hu _ HV.out).mono ?_
  rintro e w1 ⟨rfl, hb1⟩
  have HB1 := Lib.hid hb1; clear hb1
  go_wp2_with fail
  refine (Tryz.strings_ToUpper_ascii _ _ (by show (hexFl 16 u).toArray.size ≤ _; have := hexFl_length 16 u; have := hexF_length 16 u; simp; omega) (fun j b hj => hexFl_ascii 16 u b (List.mem_of_getElem? hj))).mono ?_
  rintro e w2 ⟨rfl, hb2⟩
  have HB2 : Hid (Below w.heap.size w w2) := HB1.out.trans (hb2.mono HB1.out.size)
  clear hb2
  rw [show Lib.toUpperA (ByteArray.mk (hexFl 16 u).toArray).data.toList = hexU u from hexFl_upper 16 u]
  obtain ⟨s, hs⟩ : ∃ s : ByteArray, s = ⟨(hexU u).toArray⟩ := ⟨_, rfl⟩
  have hsz : s.size = (hexU u).length := by rw [hs]; rfl
  have h16 := hexF_length 16 u
  have hn : (s.size : Int) ≤ 16 := by rw [hsz]; unfold hexU; omega
  rw [← hs]
  have HS := Lib.hid hs; have HZ := Lib.hid hsz; clear hs hsz h16
  go_wp2_with fail
  rw [show max 0 (4 - (s.size : Int)) = ((4 - s.size : Nat) : Int) by omega]
  refine (Tryz.strings_Repeat _ _ _ (by omega) (by show 1 * _ ≤ _; omega)).mono ?_
  rintro e w3 ⟨rfl, hb3⟩
  have HB3 : Hid (Below w.heap.size w w3) := HB2.out.trans (hb3.mono HB2.out.size)
  clear hb3
  rw [show Lib.repeatL (ByteArray.mk #[48]).data.toList (4 - s.size) = List.replicate (4 - s.size) 48 from repeat_zeros _]
  go_wp2
  go_ret
  exact ⟨congrArg (fun b => Ending.returned (.string b)) (code_bytes HS.out HZ.out), HB3.out⟩
/-- The pieces of a row's text. -/
theorem pieces {vs : List Int} (h : RowOk vs) : (Lib.splitB ⟨#[44]⟩ 0 (Lib.countB ⟨(inter vs).toArray⟩ ⟨#[44]⟩) ⟨(inter vs).toArray⟩).map (·.data.toList) = vs.map fun v => code v.toNat := by
  rw [Lib.splitB_data]
  exact h.split
theorem set_next (vs : List Int) (k N : Nat) (hk : k < vs.length) (hN : N = vs.length) (v : Int) (hv : v = vs[k]) : (vs.take k ++ List.replicate (N - k) 0).set k v = vs.take (k + 1) ++ List.replicate (N - (k + 1)) 0 := by
  have h1 : (vs.take k).length = k := by simp; omega
  rw [List.set_append_right _ _ (by omega), h1, Nat.sub_self, show N - k = (N - (k + 1)) + 1 by omega, List.replicate_succ, List.set_cons_zero, List.take_succ_eq_append_getElem hk, hv, List.append_assoc]
  rfl
theorem inter_length : ∀ (vs : List Int), (∀ v ∈ vs, (code v.toNat).length = 4) → (inter vs).length ≤ 5 * vs.length
  | [], _ => by simp [inter]
  | [v], h => by have := h v (by simp); simp [inter]; omega
  | v :: w :: vs, h => by
    have h1 := h v (by simp)
    have h2 := inter_length (w :: vs) fun x hx => h x (by simp [hx])
    simp only [inter, List.length_append, List.length_cons] at h2 ⊢
    omega
def PartsPost (vs : List Int) (w : World) (e : Ending) (w' : World) : Prop := ∃ v, e = .returned v ∧ w'.ownsRow w.heap.size 3 1 v vs.length (nums .i64 vs) ∧ Below w.heap.size w w'
set_option maxHeartbeats 1000000 in
theorem parts_any (vs : List Int) (hvs : RowOk vs) (h1 : 1 ≤ vs.length) (h4 : vs.length ≤ 4) (w : World) (hV : Vars w) : Calls Tryz.prog 58 #[.string ⟨(inter vs).toArray⟩] w (PartsPost vs w) := by
  obtain ⟨m, hm⟩ := hV.maxlen
  clear hV
  obtain ⟨t, ht⟩ : ∃ t : ByteArray, t = ⟨(inter vs).toArray⟩ := ⟨_, rfl⟩
  have hp := pieces hvs
  rw [← ht] at hp ⊢
  have hsz : t.size < 4294967281 := by
    have := inter_length vs fun v hv => (hvs.each v hv).2.2
    rw [ht]
    show (inter vs).toArray.size < _
    simp; omega
  have HT := Lib.hid ht; clear ht
  go_enter Tryz.func58, Tryz.ntmps58
  go_wp2_with fail
  refine (Tryz.strings_Split t ⟨#[44]⟩ m _ hsz hm (by decide)).mono ?_
  rintro e w1 ⟨rfl, rfl⟩
  have hall := Lib.splitB_all ⟨#[44]⟩ (by decide) 0 (Lib.countB t ⟨#[44]⟩) t rfl
  generalize Lib.countB t ⟨#[44]⟩ = n at hp hall ⊢
  generalize Lib.splitB ⟨#[44]⟩ 0 n t = sp at hp hall ⊢
  have hn : n + 1 = vs.length := by
    have := congrArg List.length hp
    simp at this; omega
  have hsp : sp.length = vs.length := by omega
  rw [hn]
  have hat : ∀ k (hk : k < vs.length), ∃ x : ByteArray, sp[k]? = some x ∧ x.size = 4 ∧ (∀ y ∈ x.data.toList, isHex y = true) ∧ (parseH x.data.toList : Int) = vs[k] := by
    intro k hk
    have hk2 : k < sp.length := by omega
    have e : (sp[k]).data.toList = code (vs[k]).toNat := by
      have := congrArg (·[k]?) hp
      simpa [List.getElem?_eq_getElem hk, List.getElem?_eq_getElem hk2] using this
    have hv := hvs.each vs[k] (List.getElem_mem hk)
    refine ⟨sp[k], List.getElem?_eq_getElem hk2, ?_, ?_, ?_⟩
    · rw [Lib.size_eq, e]; exact hv.2.2
    · rw [e]; exact code_isHex _
    · rw [e, parse_code (by omega)]; omega
  have HA : Hid (∀ k (hk : k < vs.length), ∃ x : ByteArray, (w.alloc (.cells (sp.map Value.string).toArray 9)).cell? ⟨w.heap.size, k, none⟩ = some (.string x) ∧ x.size = 4 ∧ (∀ y ∈ x.data.toList, isHex y = true) ∧ (parseH x.data.toList : Int) = vs[k]) := by
    intro k hk
    obtain ⟨x, hx, r⟩ := hat k hk
    refine ⟨x, ?_, r⟩
    rw [World.cell?_alloc_new]
    simp [hx]
  have hz1 : (w.alloc (.cells (sp.map Value.string).toArray 9)).heap.size = w.heap.size + 1 := by simp
  have HB1 : Hid (Below w.heap.size w (w.alloc (.cells (sp.map Value.string).toArray 9))) := (Below.refl _ _).alloc (Nat.le_refl _) _
  have hmk := print_make (P := Tryz.prog) 25 3 .i64 8 Tryz.underlying25 info_int (by decide) vs.length (by omega)
  generalize w.alloc (.cells (sp.map Value.string).toArray 9) = w1 at HA hz1 HB1 ⊢
  clear hat hp hall hsp hn hm
  have HZ1 := Lib.hid hz1; clear hz1
  go_wp2
  have hown := own_made w1 w.heap.size 3 .i64 vs.length HB1.out.size (by omega)
  have HO0 := Lib.hid hown; clear hown
  have HB2 : Hid (Below w.heap.size w (w1.alloc (.cells (madeCells #[.int .i64 0] vs.length) 3))) := HB1.out.alloc HB1.out.size _
  have HA2 : Hid (∀ k (hk : k < vs.length), ∃ x : ByteArray, (w1.alloc (.cells (madeCells #[.int .i64 0] vs.length) 3)).cell? ⟨w.heap.size, k, none⟩ = some (.string x) ∧ x.size = 4 ∧ (∀ y ∈ x.data.toList, isHex y = true) ∧ (parseH x.data.toList : Int) = vs[k]) := by
    intro k hk
    obtain ⟨x, hx, r⟩ := HA.out k hk
    exact ⟨x, (((Below.refl _ _).alloc (Nat.le_refl _) _).cell (World.block_lt_of_cell? _ _ hx)).trans hx, r⟩
  have hne : w.heap.size < w1.heap.size := by have := HZ1.out; omega
  generalize w1.alloc (.cells (madeCells #[.int .i64 0] vs.length) 3) = w2 at HO0 HB2 HA2 ⊢
  clear HA HB1 HZ1 hmk
  generalize w1.heap.size = b2 at HO0 hne ⊢
  go_loopw [15] (fun i wr => ∃ k : Nat, k ≤ vs.length ∧ i = .int .i64 k ∧ Hid (wr.ownsRow w.heap.size 3 1 (.slice (some ⟨b2, 0, none⟩) vs.length vs.length) vs.length (nums .i64 (vs.take k ++ List.replicate (vs.length - k) 0))) ∧ Hid (Below w.heap.size w wr) ∧ Hid (∀ k (hk : k < vs.length), ∃ x : ByteArray, wr.cell? ⟨w.heap.size, k, none⟩ = some (.string x) ∧ x.size = 4 ∧ (∀ y ∈ x.data.toList, isHex y = true) ∧ (parseH x.data.toList : Int) = vs[k])) (fun i _ => vs.length - (intOf i).toNat)
  case atStart => exact ⟨0, Nat.zero_le _, rfl, by have := HO0.out; show World.ownsRow _ _ _ _ _ _ _; simpa using this, HB2.out, HA2.out⟩
  case round =>
    obtain ⟨k, hk, rfl, HO, HB, HA⟩ := hrel
    clear HO0 HB2 HA2
    by_cases hlt : k < vs.length
    · obtain ⟨x, hx, hx4, hxx, hxv⟩ := HA.out k hlt
      have hkz : (k : Int) < (vs.length : Int) := by omega
      have HX4 := Lib.hid hx4; have HXX := Lib.hid hxx; have HXV := Lib.hid hxv; clear hx4 hxx hxv
      go_wp2_with fail
      refine (int_any x (by have := HX4.out; omega) (by have := HX4.out; omega) HXX.out _).mono ?_
      rintro e w3 ⟨rfl, hb3⟩
      rw [HXV.out]
      have HO3 : Hid (w3.ownsRow w.heap.size 3 1 (.slice (some ⟨b2, 0, none⟩) vs.length vs.length) vs.length (nums .i64 (vs.take k ++ List.replicate (vs.length - k) 0))) := pw_own_below HO.out hb3
      have HB3 : Hid (Below w.heap.size w w3) := HB.out.trans (hb3.mono HB.out.size)
      have HA3 : Hid (∀ k (hk : k < vs.length), ∃ x : ByteArray, w3.cell? ⟨w.heap.size, k, none⟩ = some (.string x) ∧ x.size = 4 ∧ (∀ y ∈ x.data.toList, isHex y = true) ∧ (parseH x.data.toList : Int) = vs[k]) := by
        intro j hj
        obtain ⟨y, hy, r⟩ := HA.out j hj
        exact ⟨y, (hb3.cell (World.block_lt_of_cell? _ _ hy)).trans hy, r⟩
      clear hb3 hx
      obtain ⟨c1, c2⟩ := own_at HO3.out (k : Int) (by omega) hkz
      rw [Int.toNat_natCast] at c1 c2
      have hst := own_store HO3.out (k : Int) vs[k]
      rw [Int.toNat_natCast, set_next vs k vs.length hlt rfl vs[k] rfl] at hst
      have HST := Lib.hid hst; clear hst
      have hvk := hvs.each vs[k] (List.getElem_mem hlt)
      generalize vs[k] = v at *
      go_wp2
      go_roundw
      case measure => simp [intOf]; omega
      case rel =>
        refine ⟨k + 1, by omega, by go_num, HST.out.1, HB3.out.setCell (by show _ ≤ b2; omega) _, fun j hj => ?_⟩
        obtain ⟨y, hy, r⟩ := HA3.out j hj
        exact ⟨y, (World.cell?_setCell_other _ _ _ _ (by intro h; injection h with h; omega)).trans hy, r⟩
    · obtain rfl : k = vs.length := by omega
      have ho := HO.out
      rw [Nat.sub_self, List.replicate_zero, List.append_nil, List.take_length] at ho
      have HO2 := Lib.hid ho; clear ho HO HA
      go_wp2
      go_ret
      exact ⟨_, rfl, HO2.out, HB.out⟩
end Go.Proofs.Pt
end

/- ==== the text WLast ==== -/
section
/-
  PRINTED WORDS, second file: A REGION THAT DRAWS ITS ORDER, WALKED BY HAND, where its last store writes what its own loads read ('x.f = append(x.f, f(i))'). Plain theorems; no macro, no elab. A claim may hold it (turn the namespace's name).
  A load may be taken first in every world that meets S; behind the operations of ds nothing is shown; sound because each of ds waits for what is taken (Region.lastB). The kernel checks it.
  By an AI agent of Go's test side, Mon Nov 16 2026. No person has read it.
-/
namespace Go.Proofs.YtjgdnhmbfeekoaaGreatDoorW.PrintLast

section
variable {P : Program} {ops : Array Oper} {Q : Exit → Act → World → Prop} {md : Region.Mode} {S : World → Prop} {ds : List Nat}

/-- Operation d waits for operation i, by a chain of at most 'fuel' edges. -/
def Region.reachB (md : Region.Mode) (ops : Array Oper) (i : Nat) : Nat → Nat → Bool
  | 0, _ => false
  | fuel + 1, d => match ops[d]? with
    | some o => o.after.any fun e => Region.binds md e && (e.on == i || Region.reachB md ops i fuel e.on)
    | none => false

/-- What is listed is closed under the edges. -/
def Region.closedB (md : Region.Mode) (ops : Array Oper) (listed : Array Bool) : Bool :=
  (List.range ops.size).all fun j => !listed.getD j false || match ops[j]? with
    | some o => o.after.all fun e => !Region.binds md e || listed.getD e.on false
    | none => true

/-- Each of ds that has not come up yet waits for number i. -/
def Region.lastB (md : Region.Mode) (ops : Array Oper) (listed : Array Bool) (ds : List Nat) (i : Nat) : Bool :=
  ds.all fun d => listed.getD d true || Region.reachB md ops i ops.size d

def ListedClosed (md : Region.Mode) (ops : Array Oper) (listed : Array Bool) : Prop :=
  ∀ j oj, ops[j]? = some oj → listed.getD j false = true → ∀ e ∈ oj.after, Region.binds md e = true → listed.getD e.on false = true

theorem Region.closedB_spec {listed : Array Bool} (h : Region.closedB md ops listed = true) : ListedClosed md ops listed := by
  intro j oj hj hl e he hb
  have hlt : j < ops.size := (Array.getElem?_eq_some_iff.1 hj).1
  have h1 := List.all_eq_true.1 h j (List.mem_range.2 hlt)
  simp only [hl, hj, Bool.not_true, Bool.false_or] at h1
  have h2 := Array.all_eq_true_iff_forall_mem.1 h1 e he
  simpa [hb] using h2

theorem ListedClosed.set {listed : Array Bool} {i : Nat} (h : ListedClosed md ops listed) (hi : i ∈ Region.ready md ops listed) : ListedClosed md ops (listed.setIfInBounds i true) := by
  obtain ⟨_, oi, hoi, hall⟩ := mem_ready.1 hi
  intro j oj hj hl e he hb
  by_cases hij : i = j
  · subst hij
    have : oj = oi := Option.some.inj (hj.symm.trans hoi)
    subst this
    exact getD_set_true (hall e he hb)
  · rw [getD_set_ne false hij] at hl
    exact getD_set_true (h j oj hj hl e he hb)

theorem Region.reach_listed {listed : Array Bool} {i : Nat} (hc : ListedClosed md ops listed) : ∀ (fuel d : Nat), Region.reachB md ops i fuel d = true → listed.getD d false = true → listed.getD i false = true
  | 0, _, h, _ => by simp [Region.reachB] at h
  | fuel + 1, d, h, hl => by
    unfold Region.reachB at h
    cases ho : ops[d]? with
    | none => rw [ho] at h; simp at h
    | some o =>
      rw [ho] at h
      obtain ⟨e, he, h1⟩ := Array.any_eq_true'.1 h
      simp only [Bool.and_eq_true, Bool.or_eq_true, beq_iff_eq] at h1
      have hle := hc d o ho hl e he h1.1
      rcases h1.2 with h2 | h2
      · rw [← h2]; exact hle
      · exact Region.reach_listed hc fuel e.on h2 hle

/-- What waits for i cannot come up before i is listed. -/
theorem Region.reach_not_ready {listed : Array Bool} {i d fuel : Nat} (hc : ListedClosed md ops listed) (hr : Region.reachB md ops i fuel d = true) (hun : listed.getD i true = false) : d ∉ Region.ready md ops listed := by
  intro hd
  obtain ⟨_, o, ho, hall⟩ := mem_ready.1 hd
  have hi : listed.getD i false = true := by
    cases fuel with
    | zero => simp [Region.reachB] at hr
    | succ n =>
      unfold Region.reachB at hr
      rw [ho] at hr
      obtain ⟨e, he, h1⟩ := Array.any_eq_true'.1 hr
      simp only [Bool.and_eq_true, Bool.or_eq_true, beq_iff_eq] at h1
      have hle := hall e he h1.1
      rcases h1.2 with h2 | h2
      · rw [← h2]; exact hle
      · exact Region.reach_listed hc n e.on h2 hle
  rcases Nat.lt_or_ge i listed.size with h' | h'
  · simp [h'] at hun hi
    rw [hun] at hi
    cases hi
  · simp [Array.getElem?_eq_none h'] at hun

/-- Whatever order is picked from here on, AND 'S' HOLDS BEHIND EVERY OPERATION THAT IS CARRIED OUT, those of ds apart. -/
def wpAnyLast (P : Program) (md : Region.Mode) (ops : Array Oper) (Q : Exit → Act → World → Prop) (S : World → Prop) (ds : List Nat) : Nat → Array Bool → Act → World → Prop
  | 0, listed, a, w => Region.ready md ops listed = [] ∧ Q .normal a w
  | fuel + 1, listed, a, w =>
    (Region.ready md ops listed = [] → Q .normal a w) ∧
    ∀ i ∈ Region.ready md ops listed, wpOp P ops Q i (fun a' w' => (i ∉ ds → S w → S w') ∧ wpAnyLast P md ops Q S ds fuel (listed.setIfInBounds i true) a' w') a w

theorem wpAny_of_last : ∀ (fuel : Nat) (listed : Array Bool) (a : Act) (w : World), wpAnyLast P md ops Q S ds fuel listed a w → wpAny P md ops Q fuel listed a w
  | 0, _, _, _, h => h
  | fuel + 1, _, _, _, h => ⟨h.1, fun i hi => wpOp_mono (fun a' w' h' => wpAny_of_last fuel _ a' w' h'.2) (h.2 i hi)⟩

theorem wpAnyLast_first {i : Nat} {oi : Oper} {v : Value} (hi : ops[i]? = some oi) (hsel : ∀ (j : Nat) (o : Oper) cs b, ops[j]? = some o → o.op ≠ .select cs b)
    (hQ : ∀ c a w, Q (.panic c) (a.put oi.dst v) w → Q (.panic c) a w) (n : Nat) :
    ∀ (fuel : Nat) (listed : Array Bool) (a : Act) (w : World),
      (∀ j oj, ops[j]? = some oj → j ≠ i → listed.getD j true = false → (∀ e ∈ oj.after, Region.binds md e = true → e.on ≠ i) → oi.apart ops oj = true) →
      ListedClosed md ops listed → (∀ d ∈ ds, listed.getD d true = false → Region.reachB md ops i n d = true) →
      i ∈ Region.ready md ops listed → YieldsIf P ops S oi v a → S w →
      wpAnyLast P md ops Q S ds fuel (listed.setIfInBounds i true) (a.put oi.dst v) w → wpAnyLast P md ops Q S ds (fuel + 1) listed a w := by
  intro fuel
  induction fuel with
  | zero =>
    intro listed a w _ _ _ hr hy hS H
    refine ⟨fun h => (by rw [h] at hr; cases hr), fun j hj => ?_⟩
    by_cases hji : j = i
    · subst hji; exact hy.wpOp hi hS ⟨fun _ h => h, H⟩
    · have := ready_mono hj hji
      rw [H.1] at this
      cases this
  | succ fuel ih =>
    intro listed a w hfree hc hd hr hy hS H
    refine ⟨fun h => (by rw [h] at hr; cases hr), fun j hj => ?_⟩
    by_cases hji : j = i
    · subst hji; exact hy.wpOp hi hS ⟨fun _ h => h, H⟩
    · have h1 := H.2 j (ready_mono hj hji)
      obtain ⟨hjun, oj, hoj, hall⟩ := mem_ready.1 hj
      have hiun := (mem_ready.1 hr).1
      have hnot : ∀ e ∈ oj.after, Region.binds md e = true → e.on ≠ i := fun e he hb heq => by
        have h1 := hall e he hb
        rw [heq] at h1
        rcases Nat.lt_or_ge i listed.size with h' | h'
        · simp [h'] at hiun h1; rw [hiun] at h1; cases h1
        · simp [Array.getElem?_eq_none h'] at h1
      have hjd : j ∉ ds := fun hm => Region.reach_not_ready hc (hd j hm hjun) hiun hj
      have h2 := wpOp_putIf hoj (hfree j oj hoj hji hjun hnot) (fun cs b => hsel i oi cs b hi) (fun cs b => hsel j oj cs b hoj) hQ hy h1
      have hfree' : ∀ k ok, ops[k]? = some ok → k ≠ i → (listed.setIfInBounds j true).getD k true = false →
          (∀ e ∈ ok.after, Region.binds md e = true → e.on ≠ i) → oi.apart ops ok = true := fun k ok hk hki hun hno => by
        refine hfree k ok hk hki ?_ hno
        by_cases hjk : j = k
        · subst hjk; exact hjun
        · rw [getD_set_ne true hjk] at hun; exact hun
      have hd' : ∀ d ∈ ds, (listed.setIfInBounds j true).getD d true = false → Region.reachB md ops i n d = true := fun d hm hun => by
        refine hd d hm ?_
        by_cases hjk : j = d
        · subst hjk; exact hjun
        · rw [getD_set_ne true hjk] at hun; exact hun
      refine wpOp_mono (fun a' w' h3 => ⟨h3.2.1, ih (listed.setIfInBounds j true) a' w' hfree' (hc.set hj) hd' (ready_mono hr (Ne.symm hji)) h3.1 (h3.2.1 hjd hS) ?_⟩) h2
      rw [Array.setIfInBounds_comm _ _ hji]
      exact h3.2.2

/-- Take number 'i' first, which yields whatever the world: no S is asked for, nor that anything waits for it. -/
theorem wpAnyLast_any {i : Nat} {oi : Oper} {v : Value} (hi : ops[i]? = some oi) (hsel : ∀ (j : Nat) (o : Oper) cs b, ops[j]? = some o → o.op ≠ .select cs b)
    (hQ : ∀ c a w, Q (.panic c) (a.put oi.dst v) w → Q (.panic c) a w) :
    ∀ (fuel : Nat) (listed : Array Bool) (a : Act) (w : World),
      (∀ j oj, ops[j]? = some oj → j ≠ i → listed.getD j true = false → (∀ e ∈ oj.after, Region.binds md e = true → e.on ≠ i) → oi.apart ops oj = true) →
      i ∈ Region.ready md ops listed → Yields P ops oi v a →
      wpAnyLast P md ops Q S ds fuel (listed.setIfInBounds i true) (a.put oi.dst v) w → wpAnyLast P md ops Q S ds (fuel + 1) listed a w := by
  intro fuel
  induction fuel with
  | zero =>
    intro listed a w _ hr hy H
    refine ⟨fun h => (by rw [h] at hr; cases hr), fun j hj => ?_⟩
    by_cases hji : j = i
    · subst hji; exact (hy.yieldsIf (S := fun _ => True)).wpOp hi trivial ⟨fun _ h => h, H⟩
    · have := ready_mono hj hji
      rw [H.1] at this
      cases this
  | succ fuel ih =>
    intro listed a w hfree hr hy H
    refine ⟨fun h => (by rw [h] at hr; cases hr), fun j hj => ?_⟩
    by_cases hji : j = i
    · subst hji; exact (hy.yieldsIf (S := fun _ => True)).wpOp hi trivial ⟨fun _ h => h, H⟩
    · have h1 := H.2 j (ready_mono hj hji)
      obtain ⟨hjun, oj, hoj, hall⟩ := mem_ready.1 hj
      have hiun := (mem_ready.1 hr).1
      have hnot : ∀ e ∈ oj.after, Region.binds md e = true → e.on ≠ i := fun e he hb heq => by
        have h1 := hall e he hb
        rw [heq] at h1
        rcases Nat.lt_or_ge i listed.size with h' | h'
        · simp [h'] at hiun h1; rw [hiun] at h1; cases h1
        · simp [Array.getElem?_eq_none h'] at h1
      have h2 := wpOp_put hoj (hfree j oj hoj hji hjun hnot) (fun cs b => hsel i oi cs b hi) (fun cs b => hsel j oj cs b hoj) hQ hy h1
      have hfree' : ∀ k ok, ops[k]? = some ok → k ≠ i → (listed.setIfInBounds j true).getD k true = false →
          (∀ e ∈ ok.after, Region.binds md e = true → e.on ≠ i) → oi.apart ops ok = true := fun k ok hk hki hun hno => by
        refine hfree k ok hk hki ?_ hno
        by_cases hjk : j = k
        · subst hjk; exact hjun
        · rw [getD_set_ne true hjk] at hun; exact hun
      refine wpOp_mono (fun a' w' h3 => ⟨h3.2.1, ih (listed.setIfInBounds j true) a' w' hfree' (ready_mono hr (Ne.symm hji)) h3.1 ?_⟩) h2
      rw [Array.setIfInBounds_comm _ _ hji]
      exact h3.2.2

/-- Take number 'i' first. -/
theorem wpAnyLast_take {i : Nat} {oi : Oper} {v : Value} {fuel : Nat} {listed : Array Bool} {a : Act} {w : World} (hi : ops[i]? = some oi)
    (hs : Region.noSelect ops = true) (hf : Region.free md ops listed i = true) (hr : (Region.ready md ops listed).contains i = true)
    (hc : Region.closedB md ops listed = true) (hl : Region.lastB md ops listed ds i = true)
    (hQ : ∀ c a w, Q (.panic c) (a.put oi.dst v) w → Q (.panic c) a w) (hy : YieldsIf P ops S oi v a) (hS : S w)
    (h : wpAnyLast P md ops Q S ds fuel (listed.setIfInBounds i true) (a.put oi.dst v) w) : wpAnyLast P md ops Q S ds (fuel + 1) listed a w :=
  wpAnyLast_first hi (Region.noSelect_spec hs) hQ ops.size fuel listed a w (Region.free_spec hi hf) (Region.closedB_spec hc)
    (fun d hm hun => by have := List.all_eq_true.1 hl d hm; rw [hun] at this; simpa using this) (by simpa using hr) hy hS h

theorem wpAnyLast_all {rs : List Nat} {fuel : Nat} {listed : Array Bool} {a : Act} {w : World} (hr : Region.ready md ops listed = rs) (hne : rs ≠ [])
    (h : ∀ i ∈ rs, wpOp P ops Q i (fun a' w' => (i ∉ ds → S w → S w') ∧ wpAnyLast P md ops Q S ds fuel (listed.setIfInBounds i true) a' w') a w) : wpAnyLast P md ops Q S ds (fuel + 1) listed a w :=
  ⟨fun h0 => absurd (hr ▸ h0) hne, hr ▸ h⟩

theorem wpAnyLast_done {listed : Array Bool} {a : Act} {w : World} (hr : Region.ready md ops listed = []) (h : Q .normal a w) :
    ∀ fuel, wpAnyLast P md ops Q S ds fuel listed a w
  | 0 => ⟨hr, h⟩
  | _ + 1 => ⟨fun _ => h, by rw [hr]; simp⟩

theorem wp_region_last {id : Nat} {a : Act} {w : World} (hm : P.follows .mixedOrders = true)
    (h : wpAnyLast P .any ops Q S ds ops.size (Array.replicate ops.size false) a { w with drawn := w.drawn + 1 }) : (Code.region id ops true).wp P Q a w :=
  wp_region_any hm (wpAny_of_last _ _ _ _ h)

end

section
variable {P : Program} {ops : Array Oper} {Q : Exit → Act → World → Prop} {md : Region.Mode} {S : World → Prop} {ds : List Nat}

def AllReadyL (P : Program) (md : Region.Mode) (ops : Array Oper) (Q : Exit → Act → World → Prop) (S : World → Prop) (ds : List Nat) (fuel : Nat) (listed : Array Bool) (a : Act) (w : World) (rs : List Nat) : Prop :=
  ∀ i ∈ rs, wpOp P ops Q i (fun a' w' => (i ∉ ds → S w → S w') ∧ wpAnyLast P md ops Q S ds fuel (listed.setIfInBounds i true) a' w') a w
theorem AllReadyL.nil {fuel : Nat} {listed : Array Bool} {a : Act} {w : World} : AllReadyL P md ops Q S ds fuel listed a w [] := fun _ h => by cases h
theorem AllReadyL.cons {fuel : Nat} {listed : Array Bool} {a : Act} {w : World} {i : Nat} {o : Oper} {rs : List Nat} (ho : ops[i]? = some o) (hd : i ∉ ds)
    (h : ∀ K' : Act → World → Prop, Shut (∀ a w, S w → (S w → wpAnyLast P md ops Q S ds fuel (listed.setIfInBounds i true) a w) → K' a w) → if Region.wanted o (yielded ops a.tmps) = true then Oper.wp P o a w K' Q else K' (a.put o.dst undef) w)
    (hs : AllReadyL P md ops Q S ds fuel listed a w rs) : AllReadyL P md ops Q S ds fuel listed a w (i :: rs) := fun j hj => by
  rcases List.mem_cons.1 hj with rfl | hj
  · exact wpOp_step ho (fun K' hK => h K' (fun a w hS hW => hK a w ⟨fun _ _ => hS, hW hS⟩))
  · exact hs j hj
/-- Behind an operation of ds nothing is shown. -/
theorem AllReadyL.cons_last {fuel : Nat} {listed : Array Bool} {a : Act} {w : World} {i : Nat} {o : Oper} {rs : List Nat} (ho : ops[i]? = some o) (hd : i ∈ ds)
    (h : ∀ K' : Act → World → Prop, Shut (∀ a w, wpAnyLast P md ops Q S ds fuel (listed.setIfInBounds i true) a w → K' a w) → if Region.wanted o (yielded ops a.tmps) = true then Oper.wp P o a w K' Q else K' (a.put o.dst undef) w)
    (hs : AllReadyL P md ops Q S ds fuel listed a w rs) : AllReadyL P md ops Q S ds fuel listed a w (i :: rs) := fun j hj => by
  rcases List.mem_cons.1 hj with rfl | hj
  · exact wpOp_step ho (fun K' hK => h K' (fun a w hW => hK a w ⟨fun hn => absurd hd hn, hW⟩))
  · exact hs j hj
theorem wpAnyLast_ready {rs : List Nat} {fuel : Nat} {listed : Array Bool} {a : Act} {w : World} (hr : Region.ready md ops listed = rs) (hne : rs ≠ [])
    (h : AllReadyL P md ops Q S ds fuel listed a w rs) : wpAnyLast P md ops Q S ds (fuel + 1) listed a w := wpAnyLast_all hr hne h
theorem wp_region_last_drew {id : Nat} {a : Act} {w : World} (hm : P.follows .mixedOrders = true) (hS : S w.drew)
    (h : S w.drew → wpAnyLast P .any ops Q S ds ops.size (Array.replicate ops.size false) a w.drew) : (Code.region id ops true).wp P Q a w :=
  wp_region_last hm (h hS)
/-- THE SAME STEPS WITH WHAT HAS COME UP WRITTEN OUT (a literal array of Bools) and one check a step: quicker, and what is printed stays short. -/
theorem start_ {id n : Nat} {a : Act} {w : World} (l : Array Bool) (hm : P.follows .mixedOrders = true) (hn : ops.size = n) (hl : Array.replicate n false = l) (hS : S w.drew)
    (h : S w.drew → wpAnyLast P .any ops Q S ds n l a w.drew) : (Code.region id ops true).wp P Q a w := by
  subst hn
  subst hl
  exact wp_region_last hm (h hS)
def takeB (md : Region.Mode) (ops : Array Oper) (ds : List Nat) (l l' : Array Bool) (i : Nat) : Bool :=
  Region.noSelect ops && Region.free md ops l i && (Region.ready md ops l).contains i && Region.closedB md ops l && Region.lastB md ops l ds i && (l.setIfInBounds i true == l')
theorem take_ {i : Nat} {N : Option Tmp} {oi : Oper} {v : Value} {fuel : Nat} {l : Array Bool} {a : Act} {w : World} (l' : Array Bool) (hi : ops[i]? = some oi) (hN : oi.dst = N) (hc : takeB md ops ds l l' i = true)
    (hQ : ∀ c a w, Q (.panic c) (a.put oi.dst v) w → Q (.panic c) a w) (hy : YieldsIf P ops S oi v a) (hS : S w) {a' : Act} (ha : a.put N v = a')
    (h : wpAnyLast P md ops Q S ds fuel l' a' w) : wpAnyLast P md ops Q S ds (fuel + 1) l a w := by
  subst ha
  subst hN
  simp only [takeB, Bool.and_eq_true, beq_iff_eq] at hc
  obtain ⟨⟨⟨⟨⟨h1, h2⟩, h3⟩, h4⟩, h5⟩, h6⟩ := hc
  subst h6
  exact wpAnyLast_take hi h1 h2 h3 h4 h5 hQ hy hS h
def anyB (md : Region.Mode) (ops : Array Oper) (l l' : Array Bool) (i : Nat) : Bool :=
  Region.noSelect ops && Region.free md ops l i && (Region.ready md ops l).contains i && (l.setIfInBounds i true == l')
/-- An operation that yields in every world (a move, a number, an address): taken first wherever it may come up, behind a store too. -/
theorem pure_ {i : Nat} {N : Option Tmp} {oi : Oper} {v : Value} {fuel : Nat} {l : Array Bool} {a : Act} {w : World} (l' : Array Bool) (hi : ops[i]? = some oi) (hN : oi.dst = N) (hc : anyB md ops l l' i = true)
    (hQ : ∀ c a w, Q (.panic c) (a.put oi.dst v) w → Q (.panic c) a w) (hy : Yields P ops oi v a) {a' : Act} (ha : a.put N v = a')
    (h : wpAnyLast P md ops Q S ds fuel l' a' w) : wpAnyLast P md ops Q S ds (fuel + 1) l a w := by
  subst ha
  subst hN
  simp only [anyB, Bool.and_eq_true, beq_iff_eq] at hc
  obtain ⟨⟨⟨h1, h2⟩, h3⟩, h6⟩ := hc
  subst h6
  exact wpAnyLast_any hi (Region.noSelect_spec h1) hQ fuel l a w (Region.free_spec hi h2) (by simpa using h3) hy h
def readyB (md : Region.Mode) (ops : Array Oper) (l l' : Array Bool) (i : Nat) : Bool := (Region.ready md ops l == [i]) && (l.setIfInBounds i true == l')
/-- One operation alone may come up now (a call, a build, an append ..): it is run, S is shown behind it. -/
theorem one_ {i : Nat} {N : Option Tmp} {oi : Oper} {fuel : Nat} {l : Array Bool} {a : Act} {w : World} (l' : Array Bool) (hi : ops[i]? = some oi) (hN : oi.dst = N) (hc : readyB md ops l l' i = true) (hd : i ∉ ds)
    (h : ∀ K : Act → World → Prop, Shut (∀ a' w', S w' → (S w' → wpAnyLast P md ops Q S ds fuel l' a' w') → K a' w') → if Region.wanted oi (yielded ops a.tmps) = true then Oper.wp P oi a w K Q else K (a.put N undef) w) :
    wpAnyLast P md ops Q S ds (fuel + 1) l a w := by
  subst hN
  simp only [readyB, Bool.and_eq_true, beq_iff_eq] at hc
  obtain ⟨h1, h2⟩ := hc
  subst h2
  exact wpAnyLast_ready h1 (by simp) (AllReadyL.cons hi hd (fun K hK => h K hK) AllReadyL.nil)
/-- The same for one of ds: nothing is shown behind it. -/
theorem last_ {i : Nat} {N : Option Tmp} {oi : Oper} {fuel : Nat} {l : Array Bool} {a : Act} {w : World} (l' : Array Bool) (hi : ops[i]? = some oi) (hN : oi.dst = N) (hc : readyB md ops l l' i = true) (hd : i ∈ ds)
    (h : ∀ K : Act → World → Prop, Shut (∀ a' w', wpAnyLast P md ops Q S ds fuel l' a' w' → K a' w') → if Region.wanted oi (yielded ops a.tmps) = true then Oper.wp P oi a w K Q else K (a.put N undef) w) :
    wpAnyLast P md ops Q S ds (fuel + 1) l a w := by
  subst hN
  simp only [readyB, Bool.and_eq_true, beq_iff_eq] at hc
  obtain ⟨h1, h2⟩ := hc
  subst h2
  exact wpAnyLast_ready h1 (by simp) (AllReadyL.cons_last hi hd (fun K hK => h K hK) AllReadyL.nil)
theorem done_ {l : Array Bool} {a : Act} {w : World} {n : Nat} (hr : (Region.ready md ops l == []) = true) (h : Q .normal a w) : wpAnyLast P md ops Q S ds n l a w := wpAnyLast_done (by simpa using hr) h n
/-! ### Several operations that write or call may come up: each order is walked, what follows is shown once (join_) -/
theorem two_ {i j : Nat} {Ni Nj : Option Tmp} {oi oj : Oper} {fuel : Nat} {l : Array Bool} {a : Act} {w : World} (li lj : Array Bool) (hi : ops[i]? = some oi) (hj : ops[j]? = some oj) (hNi : oi.dst = Ni) (hNj : oj.dst = Nj)
    (hc : (Region.ready md ops l == [i, j] && l.setIfInBounds i true == li && l.setIfInBounds j true == lj) = true) (hdi : i ∉ ds) (hdj : j ∉ ds)
    (h1 : ∀ K : Act → World → Prop, Shut (∀ a' w', S w' → (S w' → wpAnyLast P md ops Q S ds fuel li a' w') → K a' w') → if Region.wanted oi (yielded ops a.tmps) = true then Oper.wp P oi a w K Q else K (a.put Ni undef) w)
    (h2 : ∀ K : Act → World → Prop, Shut (∀ a' w', S w' → (S w' → wpAnyLast P md ops Q S ds fuel lj a' w') → K a' w') → if Region.wanted oj (yielded ops a.tmps) = true then Oper.wp P oj a w K Q else K (a.put Nj undef) w) :
    wpAnyLast P md ops Q S ds (fuel + 1) l a w := by
  subst hNi
  subst hNj
  simp only [Bool.and_eq_true, beq_iff_eq] at hc
  obtain ⟨⟨h3, h4⟩, h5⟩ := hc
  subst h4
  subst h5
  exact wpAnyLast_ready h3 (by simp) (AllReadyL.cons hi hdi (fun K hK => h1 K hK) (AllReadyL.cons hj hdj (fun K hK => h2 K hK) AllReadyL.nil))
theorem three_ {i j k : Nat} {Ni Nj Nk : Option Tmp} {oi oj ok : Oper} {fuel : Nat} {l : Array Bool} {a : Act} {w : World} (li lj lk : Array Bool) (hi : ops[i]? = some oi) (hj : ops[j]? = some oj) (hk : ops[k]? = some ok) (hNi : oi.dst = Ni) (hNj : oj.dst = Nj) (hNk : ok.dst = Nk)
    (hc : (Region.ready md ops l == [i, j, k] && l.setIfInBounds i true == li && l.setIfInBounds j true == lj && l.setIfInBounds k true == lk) = true) (hdi : i ∉ ds) (hdj : j ∉ ds) (hdk : k ∉ ds)
    (h1 : ∀ K : Act → World → Prop, Shut (∀ a' w', S w' → (S w' → wpAnyLast P md ops Q S ds fuel li a' w') → K a' w') → if Region.wanted oi (yielded ops a.tmps) = true then Oper.wp P oi a w K Q else K (a.put Ni undef) w)
    (h2 : ∀ K : Act → World → Prop, Shut (∀ a' w', S w' → (S w' → wpAnyLast P md ops Q S ds fuel lj a' w') → K a' w') → if Region.wanted oj (yielded ops a.tmps) = true then Oper.wp P oj a w K Q else K (a.put Nj undef) w)
    (h3 : ∀ K : Act → World → Prop, Shut (∀ a' w', S w' → (S w' → wpAnyLast P md ops Q S ds fuel lk a' w') → K a' w') → if Region.wanted ok (yielded ops a.tmps) = true then Oper.wp P ok a w K Q else K (a.put Nk undef) w) :
    wpAnyLast P md ops Q S ds (fuel + 1) l a w := by
  subst hNi
  subst hNj
  subst hNk
  simp only [Bool.and_eq_true, beq_iff_eq] at hc
  obtain ⟨⟨⟨h4, h5⟩, h6⟩, h7⟩ := hc
  subst h5
  subst h6
  subst h7
  exact wpAnyLast_ready h4 (by simp) (AllReadyL.cons hi hdi (fun K hK => h1 K hK) (AllReadyL.cons hj hdj (fun K hK => h2 K hK) (AllReadyL.cons hk hdk (fun K hK => h3 K hK) AllReadyL.nil)))
/-- The act with some destinations filled. -/
def putAll : Act → List (Tmp × Value) → Act
  | a, [] => a
  | a, (n, v) :: r => putAll (a.put (some n) v) r
/-- What follows, once: s the values that the orders leave, F what is known of them and of the world. -/
theorem join_ {σ : Type} {fuel : Nat} {l : Array Bool} {a : Act} {w : World} (fuel' : Nat) (l' : Array Bool) (ns : σ → List (Tmp × Value)) (F : σ → World → Prop)
    (hcont : ∀ s w', F s w' → wpAnyLast P md ops Q S ds fuel' l' (putAll a (ns s)) w')
    (h : (∀ s w', F s w' → wpAnyLast P md ops Q S ds fuel' l' (putAll a (ns s)) w') → wpAnyLast P md ops Q S ds fuel l a w) : wpAnyLast P md ops Q S ds fuel l a w := h hcont
/-- The act written out. -/
theorem norm_ {fuel : Nat} {l : Array Bool} {a a' : Act} {w : World} (ha : a = a') (h : wpAnyLast P md ops Q S ds fuel l a' w) : wpAnyLast P md ops Q S ds fuel l a w := by
  subst ha
  exact h
/-- A call of a Go function, by its contract. -/
theorem call_ {oi : Oper} {N : Option Tmp} {a : Act} {w : World} {K : Act → World → Prop} (f : FuncId) (args : Array Value) (hw : Region.wanted oi (yielded ops a.tmps) = true) (hN : oi.dst = N) (hrun : (execOp a.eval oi).run P w = .ok (.enter f args) w)
    (h : Calls P f args w fun e w' => ∃ v, e = .returned v ∧ K (a.put N v) w') : if Region.wanted oi (yielded ops a.tmps) = true then Oper.wp P oi a w K Q else K (a.put N undef) w := by
  rw [if_pos hw]
  subst hN
  unfold Oper.wp
  rw [hrun, Oper.upon_enter]
  refine h.mono fun e w'' hh => ?_
  obtain ⟨v, rfl, hk⟩ := hh
  exact hk
theorem enters_ {f : FuncId} {fn : Func} (hf : P.funcs[f]? = some fn) (hname : (fn.name == "runtime.NumGoroutine") = false) (hb : fn.body.isSome = true) (args : Array Value) (w : World) : (callFunc f args).run P w = .ok (.enter f args) w := by
  have h1 : fn.name ≠ "runtime.NumGoroutine" := by simpa using hname
  obtain ⟨c, hc⟩ := Option.isSome_iff_exists.1 hb
  simp [callFunc, hf, h1, hc]
/-- The same, the operation's run shown here: 'goes_ A.func3 (by kernel_rfl) rfl #[..] (by rfl) rfl rfl (by rfl) ?_'. -/
theorem goes_ {oi : Oper} {N : Option Tmp} {a : Act} {w : World} {K : Act → World → Prop} {f : FuncId} {fn : Func} {as : Array Operand} {ts : Array TypeId} (hf : P.funcs[f]? = some fn) (hname : (fn.name == "runtime.NumGoroutine") = false) (hb : fn.body.isSome = true) (args : Array Value)
    (hw : Region.wanted oi (yielded ops a.tmps) = true) (hN : oi.dst = N) (hop : oi.op = .call { callee := .value (.func f), args := as, argTypes := ts }) (hargs : as.map a.eval = args)
    (h : Calls P f args w fun e w' => ∃ v, e = .returned v ∧ K (a.put N v) w') : if Region.wanted oi (yielded ops a.tmps) = true then Oper.wp P oi a w K Q else K (a.put N undef) w := by
  refine call_ f args hw hN ?_ h
  have he := enters_ hf hname hb args w
  unfold execOp
  simp [hop, resolve, Deferred.ofValue, invoke, Act.eval, hargs, he]
/-- A call in a plain region, as an arm of go_wp2_with ('hd' first: it fails at once at another operation). -/
theorem goesL_ {rest : List Oper} {oi : Oper} {a : Act} {w : World} (N : Option Tmp) (hd : oi.dst = N) (hg : oi.guard = none) {f : FuncId} {fn : Func} {as : Array Operand} {ts : Array TypeId} (hf : P.funcs[f]? = some fn) (hname : (fn.name == "runtime.NumGoroutine") = false) (hb : fn.body.isSome = true) (args : Array Value)
    (hop : oi.op = .call { callee := .value (.func f), args := as, argTypes := ts }) (hargs : as.map a.eval = args)
    (h : Calls P f args w fun e w' => ∃ v, e = .returned v ∧ wpList P ops Q rest (a.put N v) w') : wpList P ops Q (oi :: rest) a w := by
  refine wpList_plain hg fun K hK => ?_
  have he := enters_ hf hname hb args w
  have hrun : (execOp a.eval oi).run P w = .ok (.enter f args) w := by
    unfold execOp
    simp [hop, resolve, Deferred.ofValue, invoke, Act.eval, hargs, he]
  unfold Oper.wp
  rw [hrun, Oper.upon_enter]
  refine h.mono fun e w'' hh => ?_
  obtain ⟨v, rfl, hk⟩ := hh
  subst hd
  exact hK _ _ hk
/-- An operation that yields a value (and may make memory). -/
theorem value_ {oi : Oper} {N : Option Tmp} {a : Act} {w w1 : World} {v : Value} {K : Act → World → Prop} (hw : Region.wanted oi (yielded ops a.tmps) = true) (hN : oi.dst = N) (hrun : (execOp a.eval oi).run P w = .ok (.value v) w1)
    (h : K (a.put N v) w1) : if Region.wanted oi (yielded ops a.tmps) = true then Oper.wp P oi a w K Q else K (a.put N undef) w := by
  rw [if_pos hw]
  subst hN
  unfold Oper.wp
  rw [hrun]
  exact h
/-- A store. -/
theorem skip_ {oi : Oper} {a : Act} {w w1 : World} {K : Act → World → Prop} (hw : Region.wanted oi (yielded ops a.tmps) = true) (hN : oi.dst = none) (hrun : (execOp a.eval oi).run P w = .ok .skip w1)
    (h : K a w1) : if Region.wanted oi (yielded ops a.tmps) = true then Oper.wp P oi a w K Q else K (a.put none undef) w := by
  rw [if_pos hw]
  unfold Oper.wp
  rw [hrun]
  show K (a.put oi.dst undef) w1
  rw [hN]
  exact h
/-- An operation whose guard is off, behind a store of ds. -/
theorem off_ {oi : Oper} {N : Option Tmp} {a : Act} {w : World} {K : Act → World → Prop} (hw : Region.wanted oi (yielded ops a.tmps) = false) (h : K (a.put N undef) w) : if Region.wanted oi (yielded ops a.tmps) = true then Oper.wp P oi a w K Q else K (a.put N undef) w := by
  rw [hw, if_neg (by simp)]
  exact h
theorem i64_w (n : Int) : IntKind.i64.wrap n = Go.RowKit.wrap64 n := by unfold Go.RowKit.wrap64; exact IntKind.wrap_i64 n
theorem i32_w (n : Int) : IntKind.i32.wrap n = Go.RowKit.wrap32 n := by unfold Go.RowKit.wrap32; exact IntKind.wrap_i32 n
end
end Go.Proofs.YtjgdnhmbfeekoaaGreatDoorW.PrintLast
end

/- ==== the text WTab ==== -/
section
/-! ### 50. A region's order in a table, made once a region: each step asks the table (numbers alone), not the operations -/
namespace Go.Proofs.YtjgdnhmbfeekoaaGreatDoorW.PrintLast
open Go.Proofs.YtjgdnhmbfeekoaaGreatDoorW.PrintWords (Aside0)
def needsOf (md : Region.Mode) (o : Oper) : List Nat := (o.after.toList.filter (fun e => Region.binds md e)).map (fun e => e.on)
def clashOf (md : Region.Mode) (ops : Array Oper) (i : Nat) (oi : Oper) : List Nat := (List.range ops.size).filter fun j => !(j == i) && match ops[j]? with
  | some oj => !(oj.after.any (fun e => Region.binds md e && e.on == i) || oi.apart ops oj)
  | none => false
/-- No select in it; for each operation: what must have come up before it, and what may not come up behind it if it is taken first. -/
def rtab (md : Region.Mode) (ops : Array Oper) : Bool × List (List Nat × List Nat) := (Region.noSelect ops, (List.range ops.size).map fun i => match ops[i]? with
  | some o => (needsOf md o, clashOf md ops i o)
  | none => ([], []))
def readyAt (T : List (List Nat × List Nat)) (l : List Bool) (i : Nat) : Bool := !l.getD i true && match T[i]? with
  | some r => r.1.all (fun j => l.getD j false)
  | none => false
def readyT (T : List (List Nat × List Nat)) (l : List Bool) : List Nat := (List.range T.length).filter (readyAt T l)
def freeT (T : List (List Nat × List Nat)) (l : List Bool) (i : Nat) : Bool := match T[i]? with
  | some r => r.2.all (fun j => l.getD j true)
  | none => false
def closedT (T : List (List Nat × List Nat)) (l : List Bool) : Bool := (List.range T.length).all fun j => !l.getD j false || match T[j]? with
  | some r => r.1.all (fun k => l.getD k false)
  | none => true
def reachT (T : List (List Nat × List Nat)) (i : Nat) : Nat → Nat → Bool
  | 0, _ => false
  | fuel + 1, d => match T[d]? with
    | some r => r.1.any fun j => j == i || reachT T i fuel j
    | none => false
def lastT (T : List (List Nat × List Nat)) (l : List Bool) (ds : List Nat) (i : Nat) : Bool := ds.all fun d => l.getD d true || reachT T i T.length d
section
variable {md : Region.Mode} {ops : Array Oper} {T : Bool × List (List Nat × List Nat)} {l l' li lj lk : Array Bool} {ds : List Nat} {i j k : Nat}
theorem gd (l : Array Bool) (j : Nat) (b : Bool) : l.getD j b = l.toList.getD j b := by simp [Array.getD_eq_getD_getElem?, List.getD_eq_getElem?_getD]
theorem needs_all (o : Oper) (p : Nat → Bool) : o.after.all (fun e => !Region.binds md e || p e.on) = (needsOf md o).all p := by
  unfold needsOf
  rw [← Array.all_toList]
  induction o.after.toList with
  | nil => rfl
  | cons e r ih =>
    rw [List.all_cons, ih, List.filter_cons]
    cases h : Region.binds md e <;> simp
theorem needs_any (o : Oper) (p : Nat → Bool) : o.after.any (fun e => Region.binds md e && p e.on) = (needsOf md o).any p := by
  unfold needsOf
  rw [← Array.any_toList]
  induction o.after.toList with
  | nil => rfl
  | cons e r ih =>
    rw [List.any_cons, ih, List.filter_cons]
    cases h : Region.binds md e <;> simp
theorem rtab_length : (rtab md ops).2.length = ops.size := by simp [rtab]
theorem rtab_some {o : Oper} (h : ops[i]? = some o) : (rtab md ops).2[i]? = some (needsOf md o, clashOf md ops i o) := by
  have hi := (Array.getElem?_eq_some_iff.1 h).1
  unfold rtab
  rw [List.getElem?_map, List.getElem?_range hi, Option.map_some, h]
theorem rtab_none (h : ops[i]? = none) : (rtab md ops).2[i]? = none := by
  have hi : ops.size ≤ i := Array.getElem?_eq_none_iff.1 h
  exact List.getElem?_eq_none (by rw [rtab_length]; exact hi)
theorem readyAt_eq : readyAt (rtab md ops).2 l.toList i = (!l.getD i true && ((ops[i]?).map (·.after.all fun e => !Region.binds md e || l.getD e.on false)).getD false) := by
  unfold readyAt
  rw [gd]
  cases h : ops[i]? with
  | none => rw [rtab_none h]; rfl
  | some o =>
    rw [rtab_some h]
    simp only [Option.map_some, Option.getD_some]
    rw [← needs_all]
    simp only [gd]
theorem ready_eq : Region.ready md ops l = readyT (rtab md ops).2 l.toList := by
  unfold Region.ready readyT
  rw [rtab_length]
  refine List.filter_congr (fun i _ => ?_)
  rw [readyAt_eq]
theorem free_eq : Region.free md ops l i = freeT (rtab md ops).2 l.toList i := by
  unfold Region.free freeT
  cases h : ops[i]? with
  | none => rw [rtab_none h]
  | some oi =>
    rw [rtab_some h]
    simp only [clashOf]
    rw [List.all_filter]
    congr 1
    funext j
    rw [gd]
    cases hj : ops[j]? with
    | none => cases (j == i) <;> cases (l.toList.getD j true) <;> simp
    | some oj =>
      cases (j == i) <;> cases (l.toList.getD j true) <;> cases (oj.after.any (fun e => Region.binds md e && e.on == i) || oi.apart ops oj) <;> simp_all
theorem closed_eq : Region.closedB md ops l = closedT (rtab md ops).2 l.toList := by
  unfold Region.closedB closedT
  rw [rtab_length]
  congr 1
  funext j
  rw [gd]
  cases h : ops[j]? with
  | none => rw [rtab_none h]
  | some o =>
    rw [rtab_some h]
    simp only
    rw [← needs_all]
    simp only [gd]
theorem reach_eq : ∀ (fuel d : Nat), Region.reachB md ops i fuel d = reachT (rtab md ops).2 i fuel d
  | 0, _ => rfl
  | fuel + 1, d => by
    unfold Region.reachB reachT
    cases h : ops[d]? with
    | none => rw [rtab_none h]
    | some o =>
      rw [rtab_some h]
      simp only
      rw [← needs_any]
      congr 1
      funext e
      rw [reach_eq fuel]
theorem last_eq : Region.lastB md ops l ds i = lastT (rtab md ops).2 l.toList ds i := by
  unfold Region.lastB lastT
  rw [rtab_length]
  congr 1
  funext d
  rw [gd, reach_eq]
theorem readyAt_mem (h : readyAt T.2 l.toList i = true) (hT : rtab md ops = T) : (Region.ready md ops l).contains i = true := by
  subst hT
  rw [ready_eq]
  unfold readyT
  rw [List.contains_iff_mem, List.mem_filter, List.mem_range]
  refine ⟨?_, h⟩
  unfold readyAt at h
  rw [Bool.and_eq_true] at h
  cases hq : (rtab md ops).2[i]? with
  | none => rw [hq] at h; simp at h
  | some r => exact (List.getElem?_eq_some_iff.1 hq).1
theorem set_of (h : (l.toList.set i true == l'.toList) = true) : (l.setIfInBounds i true == l') = true := by
  rw [beq_iff_eq] at h ⊢
  apply Array.ext'
  rw [Array.toList_setIfInBounds]
  exact h
def anyT (T : Bool × List (List Nat × List Nat)) (l l' : List Bool) (i : Nat) : Bool := T.1 && freeT T.2 l i && readyAt T.2 l i && (l.set i true == l')
/-- pure_'s condition out of the table. -/
theorem any_of (hT : rtab md ops = T) (h : anyT T l.toList l'.toList i = true) : anyB md ops l l' i = true := by
  simp only [anyT, Bool.and_eq_true] at h
  obtain ⟨⟨⟨h1, h2⟩, h3⟩, h4⟩ := h
  have h5 := readyAt_mem h3 hT
  have h6 := set_of h4
  subst hT
  simp only [anyB, Bool.and_eq_true]
  exact ⟨⟨⟨h1, by rw [free_eq]; exact h2⟩, h5⟩, h6⟩
def takeT (T : Bool × List (List Nat × List Nat)) (ds : List Nat) (l l' : List Bool) (i : Nat) : Bool := T.1 && freeT T.2 l i && readyAt T.2 l i && closedT T.2 l && lastT T.2 l ds i && (l.set i true == l')
/-- take_'s. -/
theorem take_of (hT : rtab md ops = T) (h : takeT T ds l.toList l'.toList i = true) : takeB md ops ds l l' i = true := by
  simp only [takeT, Bool.and_eq_true] at h
  obtain ⟨⟨⟨⟨⟨h1, h2⟩, h3⟩, h4⟩, h5⟩, h6⟩ := h
  have h7 := readyAt_mem h3 hT
  have h8 := set_of h6
  subst hT
  simp only [takeB, Bool.and_eq_true]
  exact ⟨⟨⟨⟨⟨h1, by rw [free_eq]; exact h2⟩, h7⟩, by rw [closed_eq]; exact h4⟩, by rw [last_eq]; exact h5⟩, h8⟩
/-- one_'s and last_'s. -/
theorem one_of (hT : rtab md ops = T) (h : (readyT T.2 l.toList == [i] && l.toList.set i true == l'.toList) = true) : readyB md ops l l' i = true := by
  simp only [Bool.and_eq_true] at h
  obtain ⟨h1, h2⟩ := h
  subst hT
  simp only [readyB, Bool.and_eq_true]
  exact ⟨by rw [ready_eq]; exact h1, set_of h2⟩
theorem two_of (hT : rtab md ops = T) (h : (readyT T.2 l.toList == [i, j] && l.toList.set i true == li.toList && l.toList.set j true == lj.toList) = true) : (Region.ready md ops l == [i, j] && l.setIfInBounds i true == li && l.setIfInBounds j true == lj) = true := by
  simp only [Bool.and_eq_true] at h ⊢
  obtain ⟨⟨h1, h2⟩, h3⟩ := h
  subst hT
  exact ⟨⟨by rw [ready_eq]; exact h1, set_of h2⟩, set_of h3⟩
theorem three_of (hT : rtab md ops = T) (h : (readyT T.2 l.toList == [i, j, k] && l.toList.set i true == li.toList && l.toList.set j true == lj.toList && l.toList.set k true == lk.toList) = true) :
    (Region.ready md ops l == [i, j, k] && l.setIfInBounds i true == li && l.setIfInBounds j true == lj && l.setIfInBounds k true == lk) = true := by
  simp only [Bool.and_eq_true] at h ⊢
  obtain ⟨⟨⟨h1, h2⟩, h3⟩, h4⟩ := h
  subst hT
  exact ⟨⟨⟨by rw [ready_eq]; exact h1, set_of h2⟩, set_of h3⟩, set_of h4⟩
/-- done_'s. -/
theorem done_of (hT : rtab md ops = T) (h : (readyT T.2 l.toList == []) = true) : (Region.ready md ops l == []) = true := by
  subst hT
  rw [ready_eq]
  exact h
/-- What d waits for, as_ bits: told in the table (B), checked in one pass: each bit is a need of d, or a bit of an earlier need's. -/
def upM (B : List Nat) (d : Nat) : List Nat → Nat
  | [] => 0
  | n :: r => (2 ^ n ||| (if n < d then B.getD n 0 else 0)) ||| upM B d r
def waitsOk (T : List (List Nat × List Nat)) (B : List Nat) : Bool := (List.range T.length).all fun d => match T[d]? with
  | some r => (B.getD d 0 ||| upM B d r.1) == upM B d r.1
  | none => false
theorem upM_bit {B : List Nat} {d i : Nat} : ∀ {ns : List Nat}, (upM B d ns).testBit i = true → ∃ n ∈ ns, n = i ∨ (n < d ∧ (B.getD n 0).testBit i = true)
  | [], h => by simp [upM] at h
  | n :: r, h => by
    unfold upM at h
    rw [Nat.testBit_or, Nat.testBit_or, Bool.or_eq_true, Bool.or_eq_true] at h
    rcases h with (h | h) | h
    · rw [Nat.testBit_two_pow] at h
      exact ⟨n, List.mem_cons_self, .inl (by simpa using h)⟩
    · by_cases hn : n < d
      · rw [if_pos hn] at h
        exact ⟨n, List.mem_cons_self, .inr ⟨hn, h⟩⟩
      · rw [if_neg hn] at h
        simp at h
    · obtain ⟨m, hm, h2⟩ := upM_bit h
      exact ⟨m, List.mem_cons_of_mem _ hm, h2⟩
theorem reach_bit {T : List (List Nat × List Nat)} {B : List Nat} (hB : waitsOk T B = true) : ∀ (fuel d : Nat), d < fuel → d < T.length → (B.getD d 0).testBit i = true → reachT T i fuel d = true
  | 0, d, h, _, _ => by omega
  | fuel + 1, d, h, hd, hb => by
    have h1 := List.all_eq_true.1 hB d (List.mem_range.2 hd)
    cases hr : T[d]? with
    | none => rw [hr] at h1; simp at h1
    | some r =>
      rw [hr] at h1
      simp only [beq_iff_eq] at h1
      have h2 : (upM B d r.1).testBit i = true := by rw [← h1, Nat.testBit_or, hb, Bool.true_or]
      obtain ⟨n, hn, h3⟩ := upM_bit h2
      unfold reachT
      rw [hr]
      simp only
      rw [List.any_eq_true]
      refine ⟨n, hn, ?_⟩
      rcases h3 with rfl | ⟨h4, h5⟩
      · simp
      · rw [reach_bit hB fuel n (by omega) (by omega) h5, Bool.or_true]
def lastW (T : List (List Nat × List Nat)) (B : List Nat) (l : List Bool) (ds : List Nat) (i : Nat) : Bool := ds.all fun d => l.getD d true || (decide (d < T.length) && (B.getD d 0).testBit i)
def takeW (T : Bool × List (List Nat × List Nat)) (B : List Nat) (ds : List Nat) (l l' : List Bool) (i : Nat) : Bool := T.1 && freeT T.2 l i && readyAt T.2 l i && closedT T.2 l && lastW T.2 B l ds i && (l.set i true == l')
/-- take_'s, by the bits. -/
theorem take_ofW {B : List Nat} (hT : rtab md ops = T) (hB : waitsOk T.2 B = true) (h : takeW T B ds l.toList l'.toList i = true) : takeB md ops ds l l' i = true := by
  refine take_of hT ?_
  simp only [takeW, takeT, Bool.and_eq_true] at h ⊢
  obtain ⟨⟨⟨⟨⟨h1, h2⟩, h3⟩, h4⟩, h5⟩, h6⟩ := h
  refine ⟨⟨⟨⟨⟨h1, h2⟩, h3⟩, h4⟩, ?_⟩, h6⟩
  unfold lastW at h5
  unfold lastT
  rw [List.all_eq_true] at h5 ⊢
  intro d hd
  have h7 := h5 d hd
  rw [Bool.or_eq_true, Bool.and_eq_true, decide_eq_true_eq] at h7
  rcases h7 with h7 | ⟨h8, h9⟩
  · rw [h7, Bool.true_or]
  · rw [reach_bit hB _ d h8 h8 h9, Bool.or_true]
theorem with_tabW {P : Program} {Q : Exit → Act → World → Prop} {S : World → Prop} {n : Nat} {a : Act} {w : World} {B : List Nat} (hT : rtab md ops = T) (hB : waitsOk T.2 B = true) (h : Aside0 (rtab md ops = T) → Aside0 (waitsOk T.2 B = true) → wpAnyLast P md ops Q S ds n l a w) : wpAnyLast P md ops Q S ds n l a w := h ⟨hT⟩ ⟨hB⟩
theorem with_tab {P : Program} {Q : Exit → Act → World → Prop} {S : World → Prop} {n : Nat} {a : Act} {w : World} (hT : rtab md ops = T) (h : Aside0 (rtab md ops = T) → wpAnyLast P md ops Q S ds n l a w) : wpAnyLast P md ops Q S ds n l a w := h ⟨hT⟩
end
/-- The operations of a region, by its number. -/
def opsIn : Code → Nat → Option (Array Oper)
  | .region id ops _, k => if id == k then some ops else none
  | .seq a b, k => match opsIn a k with
    | some o => some o
    | none => opsIn b k
  | .cond _ a b, k => match opsIn a k with
    | some o => some o
    | none => opsIn b k
  | .block _ c, k => opsIn c k
  | .loop c, k => opsIn c k
  | .scope c, k => opsIn c k
  | .rangeFunc _ _ a b, k => match opsIn a k with
    | some o => some o
    | none => opsIn b k
  | _, _ => none
def opsOf (f : Func) (k : Nat) : Array Oper := ((f.body.bind fun c => opsIn c k)).getD #[]
end Go.Proofs.YtjgdnhmbfeekoaaGreatDoorW.PrintLast
end

/- ==== the text WFour ==== -/
section
/-! ### 56. Four, five, six operations that may come up next, in any order -/
namespace Go.Proofs.YtjgdnhmbfeekoaaGreatDoorW.PrintLast
section
variable {P : Program} {ops : Array Oper} {Q : Exit → Act → World → Prop} {md : Region.Mode} {S : World → Prop} {ds : List Nat} {T : Bool × List (List Nat × List Nat)}
theorem four_ {i j k m : Nat} {Ni Nj Nk Nm : Option Tmp} {oi oj ok om : Oper} {fuel : Nat} {l : Array Bool} {a : Act} {w : World} (li lj lk lm : Array Bool) (hi : ops[i]? = some oi) (hj : ops[j]? = some oj) (hk : ops[k]? = some ok) (hm : ops[m]? = some om) (hNi : oi.dst = Ni) (hNj : oj.dst = Nj) (hNk : ok.dst = Nk) (hNm : om.dst = Nm)
    (hc : (Region.ready md ops l == [i, j, k, m] && l.setIfInBounds i true == li && l.setIfInBounds j true == lj && l.setIfInBounds k true == lk && l.setIfInBounds m true == lm) = true) (hdi : i ∉ ds) (hdj : j ∉ ds) (hdk : k ∉ ds) (hdm : m ∉ ds)
    (hhi : ∀ K : Act → World → Prop, Shut (∀ a' w', S w' → (S w' → wpAnyLast P md ops Q S ds fuel li a' w') → K a' w') → if Region.wanted oi (yielded ops a.tmps) = true then Oper.wp P oi a w K Q else K (a.put Ni undef) w)
    (hhj : ∀ K : Act → World → Prop, Shut (∀ a' w', S w' → (S w' → wpAnyLast P md ops Q S ds fuel lj a' w') → K a' w') → if Region.wanted oj (yielded ops a.tmps) = true then Oper.wp P oj a w K Q else K (a.put Nj undef) w)
    (hhk : ∀ K : Act → World → Prop, Shut (∀ a' w', S w' → (S w' → wpAnyLast P md ops Q S ds fuel lk a' w') → K a' w') → if Region.wanted ok (yielded ops a.tmps) = true then Oper.wp P ok a w K Q else K (a.put Nk undef) w)
    (hhm : ∀ K : Act → World → Prop, Shut (∀ a' w', S w' → (S w' → wpAnyLast P md ops Q S ds fuel lm a' w') → K a' w') → if Region.wanted om (yielded ops a.tmps) = true then Oper.wp P om a w K Q else K (a.put Nm undef) w) :
    wpAnyLast P md ops Q S ds (fuel + 1) l a w := by
  subst hNi
  subst hNj
  subst hNk
  subst hNm
  simp only [Bool.and_eq_true, beq_iff_eq] at hc
  obtain ⟨⟨⟨⟨hr, hsi⟩, hsj⟩, hsk⟩, hsm⟩ := hc
  subst hsi
  subst hsj
  subst hsk
  subst hsm
  exact wpAnyLast_ready hr (by simp) (AllReadyL.cons hi hdi (fun K hK => hhi K hK) (AllReadyL.cons hj hdj (fun K hK => hhj K hK) (AllReadyL.cons hk hdk (fun K hK => hhk K hK) (AllReadyL.cons hm hdm (fun K hK => hhm K hK) AllReadyL.nil))))
theorem four_of {i j k m : Nat} {l li lj lk lm : Array Bool} (hT : rtab md ops = T) (h : (readyT T.2 l.toList == [i, j, k, m] && l.toList.set i true == li.toList && l.toList.set j true == lj.toList && l.toList.set k true == lk.toList && l.toList.set m true == lm.toList) = true) : (Region.ready md ops l == [i, j, k, m] && l.setIfInBounds i true == li && l.setIfInBounds j true == lj && l.setIfInBounds k true == lk && l.setIfInBounds m true == lm) = true := by
  simp only [Bool.and_eq_true] at h ⊢
  obtain ⟨⟨⟨⟨hr, hsi⟩, hsj⟩, hsk⟩, hsm⟩ := h
  subst hT
  exact ⟨⟨⟨⟨by rw [ready_eq]; exact hr, set_of hsi⟩, set_of hsj⟩, set_of hsk⟩, set_of hsm⟩
theorem five_ {i j k m n : Nat} {Ni Nj Nk Nm Nn : Option Tmp} {oi oj ok om on : Oper} {fuel : Nat} {l : Array Bool} {a : Act} {w : World} (li lj lk lm ln : Array Bool) (hi : ops[i]? = some oi) (hj : ops[j]? = some oj) (hk : ops[k]? = some ok) (hm : ops[m]? = some om) (hn : ops[n]? = some on) (hNi : oi.dst = Ni) (hNj : oj.dst = Nj) (hNk : ok.dst = Nk) (hNm : om.dst = Nm) (hNn : on.dst = Nn)
    (hc : (Region.ready md ops l == [i, j, k, m, n] && l.setIfInBounds i true == li && l.setIfInBounds j true == lj && l.setIfInBounds k true == lk && l.setIfInBounds m true == lm && l.setIfInBounds n true == ln) = true) (hdi : i ∉ ds) (hdj : j ∉ ds) (hdk : k ∉ ds) (hdm : m ∉ ds) (hdn : n ∉ ds)
    (hhi : ∀ K : Act → World → Prop, Shut (∀ a' w', S w' → (S w' → wpAnyLast P md ops Q S ds fuel li a' w') → K a' w') → if Region.wanted oi (yielded ops a.tmps) = true then Oper.wp P oi a w K Q else K (a.put Ni undef) w)
    (hhj : ∀ K : Act → World → Prop, Shut (∀ a' w', S w' → (S w' → wpAnyLast P md ops Q S ds fuel lj a' w') → K a' w') → if Region.wanted oj (yielded ops a.tmps) = true then Oper.wp P oj a w K Q else K (a.put Nj undef) w)
    (hhk : ∀ K : Act → World → Prop, Shut (∀ a' w', S w' → (S w' → wpAnyLast P md ops Q S ds fuel lk a' w') → K a' w') → if Region.wanted ok (yielded ops a.tmps) = true then Oper.wp P ok a w K Q else K (a.put Nk undef) w)
    (hhm : ∀ K : Act → World → Prop, Shut (∀ a' w', S w' → (S w' → wpAnyLast P md ops Q S ds fuel lm a' w') → K a' w') → if Region.wanted om (yielded ops a.tmps) = true then Oper.wp P om a w K Q else K (a.put Nm undef) w)
    (hhn : ∀ K : Act → World → Prop, Shut (∀ a' w', S w' → (S w' → wpAnyLast P md ops Q S ds fuel ln a' w') → K a' w') → if Region.wanted on (yielded ops a.tmps) = true then Oper.wp P on a w K Q else K (a.put Nn undef) w) :
    wpAnyLast P md ops Q S ds (fuel + 1) l a w := by
  subst hNi
  subst hNj
  subst hNk
  subst hNm
  subst hNn
  simp only [Bool.and_eq_true, beq_iff_eq] at hc
  obtain ⟨⟨⟨⟨⟨hr, hsi⟩, hsj⟩, hsk⟩, hsm⟩, hsn⟩ := hc
  subst hsi
  subst hsj
  subst hsk
  subst hsm
  subst hsn
  exact wpAnyLast_ready hr (by simp) (AllReadyL.cons hi hdi (fun K hK => hhi K hK) (AllReadyL.cons hj hdj (fun K hK => hhj K hK) (AllReadyL.cons hk hdk (fun K hK => hhk K hK) (AllReadyL.cons hm hdm (fun K hK => hhm K hK) (AllReadyL.cons hn hdn (fun K hK => hhn K hK) AllReadyL.nil)))))
theorem five_of {i j k m n : Nat} {l li lj lk lm ln : Array Bool} (hT : rtab md ops = T) (h : (readyT T.2 l.toList == [i, j, k, m, n] && l.toList.set i true == li.toList && l.toList.set j true == lj.toList && l.toList.set k true == lk.toList && l.toList.set m true == lm.toList && l.toList.set n true == ln.toList) = true) : (Region.ready md ops l == [i, j, k, m, n] && l.setIfInBounds i true == li && l.setIfInBounds j true == lj && l.setIfInBounds k true == lk && l.setIfInBounds m true == lm && l.setIfInBounds n true == ln) = true := by
  simp only [Bool.and_eq_true] at h ⊢
  obtain ⟨⟨⟨⟨⟨hr, hsi⟩, hsj⟩, hsk⟩, hsm⟩, hsn⟩ := h
  subst hT
  exact ⟨⟨⟨⟨⟨by rw [ready_eq]; exact hr, set_of hsi⟩, set_of hsj⟩, set_of hsk⟩, set_of hsm⟩, set_of hsn⟩
theorem six_ {i j k m n q : Nat} {Ni Nj Nk Nm Nn Nq : Option Tmp} {oi oj ok om on oq : Oper} {fuel : Nat} {l : Array Bool} {a : Act} {w : World} (li lj lk lm ln lq : Array Bool) (hi : ops[i]? = some oi) (hj : ops[j]? = some oj) (hk : ops[k]? = some ok) (hm : ops[m]? = some om) (hn : ops[n]? = some on) (hq : ops[q]? = some oq) (hNi : oi.dst = Ni) (hNj : oj.dst = Nj) (hNk : ok.dst = Nk) (hNm : om.dst = Nm) (hNn : on.dst = Nn) (hNq : oq.dst = Nq)
    (hc : (Region.ready md ops l == [i, j, k, m, n, q] && l.setIfInBounds i true == li && l.setIfInBounds j true == lj && l.setIfInBounds k true == lk && l.setIfInBounds m true == lm && l.setIfInBounds n true == ln && l.setIfInBounds q true == lq) = true) (hdi : i ∉ ds) (hdj : j ∉ ds) (hdk : k ∉ ds) (hdm : m ∉ ds) (hdn : n ∉ ds) (hdq : q ∉ ds)
    (hhi : ∀ K : Act → World → Prop, Shut (∀ a' w', S w' → (S w' → wpAnyLast P md ops Q S ds fuel li a' w') → K a' w') → if Region.wanted oi (yielded ops a.tmps) = true then Oper.wp P oi a w K Q else K (a.put Ni undef) w)
    (hhj : ∀ K : Act → World → Prop, Shut (∀ a' w', S w' → (S w' → wpAnyLast P md ops Q S ds fuel lj a' w') → K a' w') → if Region.wanted oj (yielded ops a.tmps) = true then Oper.wp P oj a w K Q else K (a.put Nj undef) w)
    (hhk : ∀ K : Act → World → Prop, Shut (∀ a' w', S w' → (S w' → wpAnyLast P md ops Q S ds fuel lk a' w') → K a' w') → if Region.wanted ok (yielded ops a.tmps) = true then Oper.wp P ok a w K Q else K (a.put Nk undef) w)
    (hhm : ∀ K : Act → World → Prop, Shut (∀ a' w', S w' → (S w' → wpAnyLast P md ops Q S ds fuel lm a' w') → K a' w') → if Region.wanted om (yielded ops a.tmps) = true then Oper.wp P om a w K Q else K (a.put Nm undef) w)
    (hhn : ∀ K : Act → World → Prop, Shut (∀ a' w', S w' → (S w' → wpAnyLast P md ops Q S ds fuel ln a' w') → K a' w') → if Region.wanted on (yielded ops a.tmps) = true then Oper.wp P on a w K Q else K (a.put Nn undef) w)
    (hhq : ∀ K : Act → World → Prop, Shut (∀ a' w', S w' → (S w' → wpAnyLast P md ops Q S ds fuel lq a' w') → K a' w') → if Region.wanted oq (yielded ops a.tmps) = true then Oper.wp P oq a w K Q else K (a.put Nq undef) w) :
    wpAnyLast P md ops Q S ds (fuel + 1) l a w := by
  subst hNi
  subst hNj
  subst hNk
  subst hNm
  subst hNn
  subst hNq
  simp only [Bool.and_eq_true, beq_iff_eq] at hc
  obtain ⟨⟨⟨⟨⟨⟨hr, hsi⟩, hsj⟩, hsk⟩, hsm⟩, hsn⟩, hsq⟩ := hc
  subst hsi
  subst hsj
  subst hsk
  subst hsm
  subst hsn
  subst hsq
  exact wpAnyLast_ready hr (by simp) (AllReadyL.cons hi hdi (fun K hK => hhi K hK) (AllReadyL.cons hj hdj (fun K hK => hhj K hK) (AllReadyL.cons hk hdk (fun K hK => hhk K hK) (AllReadyL.cons hm hdm (fun K hK => hhm K hK) (AllReadyL.cons hn hdn (fun K hK => hhn K hK) (AllReadyL.cons hq hdq (fun K hK => hhq K hK) AllReadyL.nil))))))
theorem six_of {i j k m n q : Nat} {l li lj lk lm ln lq : Array Bool} (hT : rtab md ops = T) (h : (readyT T.2 l.toList == [i, j, k, m, n, q] && l.toList.set i true == li.toList && l.toList.set j true == lj.toList && l.toList.set k true == lk.toList && l.toList.set m true == lm.toList && l.toList.set n true == ln.toList && l.toList.set q true == lq.toList) = true) : (Region.ready md ops l == [i, j, k, m, n, q] && l.setIfInBounds i true == li && l.setIfInBounds j true == lj && l.setIfInBounds k true == lk && l.setIfInBounds m true == lm && l.setIfInBounds n true == ln && l.setIfInBounds q true == lq) = true := by
  simp only [Bool.and_eq_true] at h ⊢
  obtain ⟨⟨⟨⟨⟨⟨hr, hsi⟩, hsj⟩, hsk⟩, hsm⟩, hsn⟩, hsq⟩ := h
  subst hT
  exact ⟨⟨⟨⟨⟨⟨by rw [ready_eq]; exact hr, set_of hsi⟩, set_of hsj⟩, set_of hsk⟩, set_of hsm⟩, set_of hsn⟩, set_of hsq⟩
end
end Go.Proofs.YtjgdnhmbfeekoaaGreatDoorW.PrintLast
end

/- ==== the text WQPut ==== -/
section
/-! ### 39. Stores into a row that may begin inside its block (Q): Q_form, Q_elem, Q_seg; scalars: Q_cell, Q_putg -/
namespace Go.Proofs.YtjgdnhmbfeekoaaGreatDoorW.PrintWords
open Go.RowKit
namespace Kd
section
variable {α : Type} {d : Kd α} {e base g o n cap : Nat} {ok okp : Nat → Prop} {w W : World} {v : Value} {xs : List α}
theorem Q_form (h : d.Q e w base ok v xs) (hp : 0 < xs.length) : ∃ g o cap, v = .slice (some ⟨g, o, none⟩) xs.length cap ∧ base ≤ g ∧ g < w.heap.size ∧ ∃ cells, w.heap[g]? = some (.cells cells e (0, 0)) := by
  obtain ⟨h0, inner, hq, hr⟩ := h
  rcases hq.2 with ⟨h1, _⟩ | ⟨g, off, cap, cur, rfl, hb, hh, r⟩
  · omega
  · exact ⟨g, off * d.sz, cap, rfl, hb, blk_lt hh, cur, hh⟩
/-- Element i of such a row: its cells. -/
theorem Q_elem (h : d.Q e W base ok (.slice (some ⟨g, o, none⟩) n cap) xs) (z : α) (i : Int) (h0 : 0 ≤ i) (h1 : i < n) :
    ∃ c, c.length = d.sz ∧ d.M W base (fun k => ok k ∧ k ≠ g) (xs.getD i.toNat z) c ∧ (∀ j u, c[j]? = some u → W.cell? ⟨g, o + i.toNat * d.sz + j, none⟩ = some u) ∧ ∀ j, W.frozen? ⟨g, o + i.toNat * d.sz + j, none⟩ = false := by
  obtain ⟨hn, hnc, hC⟩ := Q_reads' h
  obtain ⟨_, inner, ho, hr⟩ := h
  have hil : i.toNat < xs.length := by omega
  have hseg : i.toNat * d.sz + d.sz ≤ inner.length := by rw [hr.1, ← Nat.succ_mul]; exact Nat.mul_le_mul_right _ hil
  have hM := hr.2 i.toNat _ (List.getElem?_eq_getElem hil)
  refine ⟨(inner.drop (i.toNat * d.sz)).take d.sz, by rw [List.length_take, List.length_drop]; omega, ?_, fun j u hu => ?_, fun j => ?_⟩
  · rw [List.getD_eq_getElem?_getD, List.getElem?_eq_getElem hil]
    exact d.M_mono (fun k hk => ⟨hk.1, fun he => hk.2 (by rw [he]; simp [Value.ownBlock])⟩) hM
  · rw [List.getElem?_take] at hu
    split at hu
    · rw [List.getElem?_drop] at hu
      subst hn
      obtain ⟨ad, he, hc⟩ := q_cells ho (by omega)
      injection he with he
      subst he
      have := hc _ u hu
      rwa [add_at, ← Nat.add_assoc] at this
    · cases hu
  · obtain ⟨_, cells, hc⟩ := q_typed ho g (by simp [Value.ownBlock])
    exact blk_frozen hc _
/-- A run of cells of element i is written: element i is x' then. c: the element's cells before (Q_elem). -/
theorem Q_seg (h : d.Q e W base ok (.slice (some ⟨g, o, none⟩) n cap) xs) (i : Int) (h0 : 0 ≤ i) (h1 : i < n) {c seg : List Value} {j : Nat} (hcl : c.length = d.sz) (hcc : ∀ j u, c[j]? = some u → W.cell? ⟨g, o + i.toNat * d.sz + j, none⟩ = some u)
    (hj : j + seg.length ≤ d.sz) {x' : α} (hM : d.M W base okp x' (c.take j ++ seg ++ c.drop (j + seg.length))) (hokp : ∀ k, okp k → ok k ∧ k ≠ g) :
    d.Q e (W.setCells g (o + i.toNat * d.sz + j) seg) base ok (.slice (some ⟨g, o, none⟩) n cap) (xs.set i.toNat x') ∧ W.grownBy (W.setCells g (o + i.toNat * d.sz + j) seg) (some g) := by
  obtain ⟨hn, hnc, _⟩ := Q_reads' h
  obtain ⟨hok, inner, ho, hr⟩ := h
  have hil : i.toNat < xs.length := by omega
  have hseg : i.toNat * d.sz + d.sz ≤ inner.length := by rw [hr.1, ← Nat.succ_mul]; exact Nat.mul_le_mul_right _ hil
  have hin : inner.length = n * d.sz := by rw [hr.1, hn]
  obtain ⟨ho1, ho2⟩ := ho
  rcases ho2 with ⟨hz, _⟩ | ⟨g', off, cap', cur, hv, hb, hh, hnc', hcm, hcs, ht⟩
  · omega
  injection hv with ha _ hc
  injection ha with ha
  injection ha with hg hoff
  subst hg; subst hc; subst hoff
  have hcap : n * d.sz ≤ cap * d.sz := Nat.mul_le_mul_right _ hnc
  have hcs' : cur.size = off * d.sz + cap * d.sz := by rw [hcs, Nat.add_mul]
  have hfit : off * d.sz + i.toNat * d.sz + j + seg.length ≤ cur.size := by omega
  obtain ⟨cur', h3, h4, h5⟩ := setCells_row seg (off * d.sz + i.toNat * d.sz + j) W cur hh hfit
  obtain ⟨s1, s2, s3, s4⟩ := setCells_same g seg (off * d.sz + i.toNat * d.sz + j) W
  have hfar : ∀ k, k ≠ g → (W.setCells g (off * d.sz + i.toNat * d.sz + j) seg).heap[k]? = W.heap[k]? := fun k hk => setCells_far seg _ k hk
  rw [← hn] at ht
  -- the row's cells are the block's from off on
  have hat : ∀ q, q < n * d.sz → cur.toList[off * d.sz + q]? = inner[q]? := by
    intro q hq
    rw [← ht, List.getElem?_take, if_pos hq, List.getElem?_drop]
  have hcin : ∀ q, q < d.sz → c[q]? = inner[i.toNat * d.sz + q]? := by
    intro q hq
    have hq' : q < c.length := by omega
    have h6 := hcc q _ (List.getElem?_eq_getElem hq')
    rw [cell_of_row W g _ cur e (0, 0) hh] at h6
    rw [List.getElem?_eq_getElem hq', ← h6, ← hat _ (by omega), Array.getElem?_toList, Nat.add_assoc]
  refine ⟨⟨hok, inner.take (i.toNat * d.sz + j) ++ seg ++ inner.drop (i.toNat * d.sz + j + seg.length), ⟨?_, .inr ⟨g, off, cap, cur', by rw [List.length_set, hn], hb, h3, by rw [List.length_set, ← hn]; exact hnc, hcm, by rw [h4, hcs], ?_⟩⟩, ?_⟩,
    ⟨s1, s2, s3, by rw [s4]; exact Nat.le_refl _, fun k _ hk => hfar k (fun he => hk (by rw [he]))⟩⟩
  · rw [List.length_set]
    simp only [List.length_append, List.length_take, List.length_drop]
    rw [hr.1] at hseg ⊢
    omega
  · rw [List.length_set, ← hn]
    apply List.ext_getElem?
    intro q
    rw [List.getElem?_take, List.getElem?_drop, h5]
    rw [seg_get cur.toList seg (off * d.sz + i.toNat * d.sz + j) (by rw [Array.length_toList]; omega) (off * d.sz + q), seg_get inner seg (i.toNat * d.sz + j) (by omega) q]
    by_cases hq : q < n * d.sz
    · rw [if_pos hq]
      by_cases hq1 : q < i.toNat * d.sz + j
      · rw [if_pos (by omega), if_pos hq1, hat q hq]
      · rw [if_neg (by omega), if_neg hq1]
        by_cases hq2 : q < i.toNat * d.sz + j + seg.length
        · rw [if_pos (by omega), if_pos hq2]
          congr 1
          omega
        · rw [if_neg (by omega), if_neg hq2, hat q hq]
    · rw [if_neg hq, if_neg (by omega), if_neg (by omega), List.getElem?_eq_none (by omega)]
  · refine ⟨?_, fun m p hm => ?_⟩
    · rw [List.length_set]
      simp only [List.length_append, List.length_take, List.length_drop]
      rw [hr.1] at hseg ⊢
      omega
    · have hml : m < xs.length := by
        have := (List.getElem?_eq_some_iff.1 hm).1
        rwa [List.length_set] at this
      have hmfit : m * d.sz + d.sz ≤ inner.length := by rw [hr.1, ← Nat.succ_mul]; exact Nat.mul_le_mul_right _ hml
      have hgo : some g = (Value.slice (some ⟨g, off * d.sz, none⟩) n cap).ownBlock := by simp [Value.ownBlock]
      by_cases hmi : m = i.toNat
      · subst hmi
        rw [List.getElem?_set_self (by omega)] at hm
        injection hm with hm
        subst hm
        have hcells : ((inner.take (i.toNat * d.sz + j) ++ seg ++ inner.drop (i.toNat * d.sz + j + seg.length)).drop (i.toNat * d.sz)).take d.sz = c.take j ++ seg ++ c.drop (j + seg.length) := by
          apply List.ext_getElem?
          intro q
          rw [List.getElem?_take, List.getElem?_drop, seg_get inner seg _ (by omega), seg_get c seg j (by omega) q]
          by_cases hq : q < d.sz
          · rw [if_pos hq, hcin q hq]
            by_cases hq1 : q < j
            · rw [if_pos (by omega), if_pos hq1]
            · rw [if_neg (by omega), if_neg hq1]
              by_cases hq2 : q < j + seg.length
              · rw [if_pos (by omega), if_pos hq2]
                congr 1
                omega
              · rw [if_neg (by omega), if_neg hq2]
          · rw [if_neg hq, if_neg (by omega), if_neg (by omega), List.getElem?_eq_none (by omega)]
        rw [hcells]
        refine d.M_mono (fun k hk => ?_) (d.M_move (w1 := W.setCells g (off * d.sz + i.toNat * d.sz + j) seg) (fun k hk => hfar k (hokp k hk).2) hM)
        exact ⟨(hokp k hk).1, fun he => (hokp k hk).2 (by rw [← hgo] at he; injection he)⟩
      · rw [List.getElem?_set_ne (by omega)] at hm
        have hold := hr.2 m p hm
        have hcells : ((inner.take (i.toNat * d.sz + j) ++ seg ++ inner.drop (i.toNat * d.sz + j + seg.length)).drop (m * d.sz)).take d.sz = (inner.drop (m * d.sz)).take d.sz := by
          apply List.ext_getElem?
          intro q
          rw [List.getElem?_take, List.getElem?_take, List.getElem?_drop, List.getElem?_drop, seg_get inner seg _ (by omega)]
          by_cases hq : q < d.sz
          · rw [if_pos hq, if_pos hq]
            rcases Nat.lt_or_gt_of_ne hmi with hlt | hgt
            · have : m * d.sz + d.sz ≤ i.toNat * d.sz := by rw [← Nat.succ_mul]; exact Nat.mul_le_mul_right _ hlt
              rw [if_pos (by omega)]
            · have : i.toNat * d.sz + d.sz ≤ m * d.sz := by rw [← Nat.succ_mul]; exact Nat.mul_le_mul_right _ hgt
              rw [if_neg (by omega), if_neg (by omega)]
          · rw [if_neg hq, if_neg hq]
        rw [hcells]
        refine d.M_move (fun k hk => hfar k (fun he => hk.2 (by rw [he]; exact hgo))) hold
end
section
variable {α : Type} {enc : α → Value} {h1 : ∀ x, (enc x).oneCell' = true} {e base g o n cap : Nat} {ok : Nat → Prop} {W : World} {xs : List α}
theorem Q_cell (d : α) (h : (scalar enc h1).Q e W base ok (.slice (some ⟨g, o, none⟩) n cap) xs) (i : Int) (h0 : 0 ≤ i) (hi : i < n) : W.cell? ⟨g, o + i.toNat, none⟩ = some (enc (rdOf d xs i)) ∧ W.frozen? ⟨g, o + i.toNat, none⟩ = false := by
  obtain ⟨c, _, hM, hcc, hf⟩ := Q_elem h d i h0 hi
  have hM' : c = [enc (xs.getD i.toNat d)] := hM
  subst hM'
  have h2 := hcc 0 _ rfl
  have h3 := hf 0
  rw [show (scalar enc h1).sz = 1 from rfl, Nat.mul_one, Nat.add_zero] at h2 h3
  exact ⟨h2, h3⟩
theorem Q_putg (h : (scalar enc h1).Q e W base ok (.slice (some ⟨g, o, none⟩) n cap) xs) (i : Int) (h0 : 0 ≤ i) (hi : i < n) (x : α) : (scalar enc h1).Q e (W.setCell ⟨g, o + i.toNat, none⟩ (enc x)) base ok (.slice (some ⟨g, o, none⟩) n cap) (xs.set i.toNat x) ∧ W.grownBy (W.setCell ⟨g, o + i.toNat, none⟩ (enc x)) (some g) := by
  have hp : 0 < xs.length := by have := (Q_reads' h).1; omega
  obtain ⟨c, hcl, _, hcc, _⟩ := Q_elem h (xs[0]'hp) i h0 hi
  have h2 := Q_seg h i h0 hi (c := c) (seg := [enc x]) (j := 0) (okp := fun _ => False) (x' := x) hcl hcc (Nat.le_refl 1) (by
    have hl : c.length = 1 := hcl
    show c.take 0 ++ [enc x] ++ c.drop (0 + 1) = [enc x]
    rw [List.drop_eq_nil_of_le (by omega)]
    rfl) (fun _ hk => hk.elim)
  rw [show (scalar enc h1).sz = 1 from rfl, Nat.mul_one, Nat.add_zero] at h2
  exact h2
end
end Kd
end Go.Proofs.YtjgdnhmbfeekoaaGreatDoorW.PrintWords
end

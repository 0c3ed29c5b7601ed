/- The walk of package canon's composer: what is put behind what was told. -/
import Derived.Test.YtgaokehmfebclaaW8
import Derived.Test.YtgaokehmfebclaaWWords
namespace Go.Proofs.Pt
open Go Go.RowKit Go.Proofs.YtgaokehmfebclaaW.PrintWords

/-- May a value of a class be one with the head? -/
def opensP (n head last c : Int) : Bool := decide (0 ≤ head) && (decide (head = n - 1) || decide (last < c))
set_option maxHeartbeats 1000000 in
theorem open_any (g n cap : Nat) (A : Option Addr) (head last c : Int) (w : World) (hn : n ≤ 17592186044416) (h0 : w.cell? ⟨g, 0, none⟩ = some (.slice A n cap)) (h1 : w.cell? ⟨g, 1, none⟩ = some (.int .i64 head)) (h2 : w.cell? ⟨g, 2, none⟩ = some (.int .i64 last)) :
    Calls Try.prog 31 #[.pointer (some ⟨g, 0, none⟩), .int .i64 c] w fun e w' => e = .returned (.bool (opensP n head last c)) ∧ ∃ k, w' = w.drewN k := by
  have hw : IntKind.i64.wrap ((n : Int) - 1) = (n : Int) - 1 := by rw [IntKind.wrap_i64]; omega
  by_cases hh : 0 ≤ head
  · by_cases he : head = (n : Int) - 1
    · have hv : opensP n head last c = true := by simp [opensP, he]; omega
      have HV := Lib.hid hv; clear hv
      have hb1 : decide (0 ≤ head) = true := decide_eq_true hh
      have hb2 : (head == (n : Int) - 1) = true := by simp [he]
      clear he
      go_enter Try.func31, Try.ntmps31
      go_wp2_with fail
      go_quiet (fail)
      go_wp2
      go_ret
      exact ⟨by rw [HV.out]; rfl, _, rfl⟩
    · have hb1 : decide (0 ≤ head) = true := decide_eq_true hh
      have hb2 : (head == (n : Int) - 1) = false := by simp [he]
      have hv : opensP n head last c = decide (last < c) := by simp [opensP, hh, he]
      have HV := Lib.hid hv; clear hv he
      go_enter Try.func31, Try.ntmps31
      go_wp2_with fail
      go_quiet (fail)
      go_wp2
      go_ret
      exact ⟨by rw [HV.out]; rfl, _, rfl⟩
  · have hb1 : decide (0 ≤ head) = false := decide_eq_false hh
    have hv : opensP n head last c = false := by simp [opensP, hh]
    have HV := Lib.hid hv; clear hv
    go_enter Try.func31, Try.ntmps31
    go_wp2_with fail
    go_quiet (fail)
    go_wp2
    go_ret
    exact ⟨by rw [HV.out]; rfl, _, rfl⟩
/-- What a value put behind makes of what was told, of the head's place and of the last class. -/
def appP (xs : List Int) (head r : Int) : List Int × Int × Int := (xs ++ [r], if ccc r = 0 then (xs.length : Int) else head, ccc r)
def putP (xs : List Int) (head last r : Int) : List Int × Int × Int :=
  if opensP xs.length head last (ccc r) = true then (match join (rd xs head) r with | some v => (xs.set head.toNat v, head, last) | none => appP xs head r) else appP xs head r
/-- The composer at block g: what was told is a row of the call's own. -/
structure CompAt (w : World) (base g : Nat) (v : Value) (xs : List Int) (head last : Int) : Prop where
  blk : w.heap[g]? = some (.cells #[v, .int .i64 head, .int .i64 last] 49 (0, 0))
  own : w.ownsRow base 3 1 v xs.length (nums .i64 xs)
  ge : base ≤ g
theorem CompAt.cells {w : World} {base g : Nat} {v : Value} {xs : List Int} {head last : Int} (h : CompAt w base g v xs head last) : w.cell? ⟨g, 0, none⟩ = some v ∧ w.cell? ⟨g, 1, none⟩ = some (.int .i64 head) ∧ w.cell? ⟨g, 2, none⟩ = some (.int .i64 last) :=
  ⟨(blk_cell h.blk 0).trans rfl, (blk_cell h.blk 1).trans rfl, (blk_cell h.blk 2).trans rfl⟩
theorem CompAt.lt {w : World} {base g : Nat} {v : Value} {xs : List Int} {head last : Int} (h : CompAt w base g v xs head last) : g < w.heap.size := blk_lt h.blk
theorem CompAt.below {w w' : World} {base g : Nat} {v : Value} {xs : List Int} {head last : Int} (h : CompAt w base g v xs head last) (hb : Below w.heap.size w w') : CompAt w' base g v xs head last :=
  ⟨(hb.block g h.lt).trans h.blk, pw_own_below h.own hb, h.ge⟩
theorem CompAt.apart {w : World} {base g : Nat} {v : Value} {xs : List Int} {head last : Int} (h : CompAt w base g v xs head last) : some g ≠ v.ownBlock := by
  intro e
  obtain ⟨cells, hc⟩ := own_typed h.own g e.symm
  rw [h.blk] at hc
  injection hc with hc
  injection hc with _ ht
  exact absurd ht (by decide)
/-- A store into the composer itself. -/
theorem CompAt.out_ {w : World} {base g : Nat} {v v1 : Value} {xs1 : List Int} {head last : Int} (hb : w.heap[g]? = some (.cells #[v, .int .i64 head, .int .i64 last] 49 (0, 0))) (ho : w.ownsRow base 3 1 v1 xs1.length (nums .i64 xs1)) (hg : base ≤ g) : CompAt (w.setCell ⟨g, 0, none⟩ v1) base g v1 xs1 head last := by
  have hne : some g ≠ v1.ownBlock := by
    intro e
    obtain ⟨cells, hc⟩ := own_typed ho g e.symm
    rw [hb] at hc
    injection hc with hc
    injection hc with _ ht
    exact absurd ht (by decide)
  exact ⟨by simpa using blk_set hb 0 v1, own_move ho fun k hk => Below.heap_setCell w _ v1 k (by rintro rfl; exact hne hk.symm), hg⟩
theorem CompAt.last_ {w : World} {base g : Nat} {v : Value} {xs : List Int} {head last : Int} (h : CompAt w base g v xs head last) (c : Int) : CompAt (w.setCell ⟨g, 2, none⟩ (.int .i64 c)) base g v xs head c :=
  ⟨by simpa using blk_set h.blk 2 (.int .i64 c), own_move h.own fun k hk => Below.heap_setCell w _ _ k (by rintro rfl; exact h.apart hk.symm), h.ge⟩
theorem CompAt.head_ {w : World} {base g : Nat} {v : Value} {xs : List Int} {head last : Int} (h : CompAt w base g v xs head last) (c : Int) : CompAt (w.setCell ⟨g, 1, none⟩ (.int .i64 c)) base g v xs c last :=
  ⟨by simpa using blk_set h.blk 1 (.int .i64 c), own_move h.own fun k hk => Below.heap_setCell w _ _ k (by rintro rfl; exact h.apart hk.symm), h.ge⟩
theorem CompAt.free {w : World} {base g : Nat} {v : Value} {xs : List Int} {head last : Int} (h : CompAt w base g v xs head last) (j : Nat) : w.frozen? ⟨g, j, none⟩ = false := frozen_of_row w g j _ _ h.blk
theorem info_int : (Try.prog.info? 3).map (fun i => (i.zero, i.size, i.bytes)) = some (some (.int .i64 0), 1, 8) := by kernel_rfl
def CompPost (w : World) (base g : Nat) (p : List Int × Int × Int) (e : Ending) (w' : World) : Prop := e = .returned (.tuple #[]) ∧ (∃ v, CompAt w' base g v p.1 p.2.1 p.2.2) ∧ Below base w w'
set_option maxHeartbeats 1000000 in
set_option maxRecDepth 100000 in
theorem put_any (base g : Nat) (v : Value) (xs : List Int) (head last r : Int) (w : World) (h : CompAt w base g v xs head last) (hl : xs.length < 17592186044416) (hh : head < xs.length) :
    Calls Try.prog 24 #[.pointer (some ⟨g, 0, none⟩), .int .i64 r] w (CompPost w base g (putP xs head last r)) := by
  have H := Lib.hid h; clear h
  go_enter Try.func24, Try.ntmps24
  go_wp2_with fail
  refine (ccc_any r _).mono ?_
  rintro e w1 ⟨rfl, hb⟩
  have H1 : Hid (CompAt w1 base g v xs head last) := H.out.below hb
  have hb0 : Below base w w1 := hb.mono (Nat.le_trans H.out.ge (Nat.le_of_lt H.out.lt))
  have HB := Lib.hid hb0; clear hb0 hb H
  obtain ⟨A, cap, hv⟩ := own_slice H1.out.own
  subst hv
  obtain ⟨c0, c1, c2⟩ := H1.out.cells
  go_wp2_with fail
  refine (open_any g xs.length cap A head last (ccc r) _ (by omega) c0 c1 c2).mono ?_
  rintro e w2 ⟨rfl, k, rfl⟩
  have H3 : Hid (CompAt (w1.drewN k) base g (.slice A xs.length cap) xs head last) := H1.out.below (pw_below_drewN (Below.refl _ _) k)
  have HB3 : Hid (Below base w (w1.drewN k)) := pw_below_drewN HB.out k
  have HZ3 : Hid (base ≤ (w1.drewN k).heap.size) := Nat.le_trans H3.out.ge (Nat.le_of_lt H3.out.lt)
  clear c0 c1 c2 H1 HB
  generalize w1.drewN k = w3 at H3 HB3 HZ3 ⊢
  obtain ⟨c0, c1, c2⟩ := H3.out.cells
  have hop : ∀ b, opensP xs.length head last (ccc r) = b → putP xs head last r = if b = true then (match join (rd xs head) r with | some v => (xs.set head.toNat v, head, last) | none => appP xs head r) else appP xs head r := fun b h => by unfold putP; rw [h]
  have HOP := Lib.hid hop; clear hop
  cases hb : opensP xs.length head last (ccc r) with
  | false =>
    have hp : putP xs head last r = appP xs head r := by rw [HOP.out false hb]; rfl
    have HP := Lib.hid hp; clear hp HOP
    go_wp2_with (at_builtin; refine print_append_num (w0 := w) base rfl (.tmp 42) (.tmp 44) 22 3 .i64 8 rfl Try.underlying22 info_int (by decide) (.slice A xs.length cap) xs r rfl rfl H3.out.own HB3.out HZ3.out (by omega) ?_)
    intro v1 w4 hown hbel hgrow _
    have hb4 := blk_grown H3.out.blk hgrow H3.out.apart
    obtain ⟨A1, cap1, hv1⟩ := own_slice hown
    subst hv1
    have hlen : (xs ++ [r]).length = xs.length + 1 := by simp
    have H4 : Hid (CompAt (w4.setCell ⟨g, 0, none⟩ (.slice A1 (xs.length + 1) cap1)) base g (.slice A1 (xs.length + 1) cap1) (xs ++ [r]) head last) := CompAt.out_ hb4 (by rw [hlen]; exact hown) H3.out.ge
    have HB4 : Hid (Below base w (w4.setCell ⟨g, 0, none⟩ (.slice A1 (xs.length + 1) cap1))) := hbel.setCell H3.out.ge _
    have d0 : w4.cell? ⟨g, 0, none⟩ = some (.slice A xs.length cap) := (blk_cell hb4 0).trans rfl
    have d1 : w4.cell? ⟨g, 1, none⟩ = some (.int .i64 head) := (blk_cell hb4 1).trans rfl
    have d2 : w4.cell? ⟨g, 2, none⟩ = some (.int .i64 last) := (blk_cell hb4 2).trans rfl
    have e0 : w4.frozen? ⟨g, 0, none⟩ = false := frozen_of_row w4 g 0 _ _ hb4
    have e1 : w4.frozen? ⟨g, 1, none⟩ = false := frozen_of_row w4 g 1 _ _ hb4
    have e2 : w4.frozen? ⟨g, 2, none⟩ = false := frozen_of_row w4 g 2 _ _ hb4
    have HG : Hid (base ≤ g) := H3.out.ge
    clear hown hbel hgrow hb4 c0 c1 c2 H3 HB3 HZ3 hlen
    by_cases hz : ccc r = 0
    · have hz1 : (ccc r == 0) = true := by simp [hz]
      have hap : appP xs head r = (xs ++ [r], (xs.length : Int), ccc r) := by simp [appP, hz]
      have HAP := Lib.hid hap; clear hap hz
      go_wp2
      go_end0
      exact ⟨rfl, ⟨_, by rw [HP.out, HAP.out]; exact (H4.out.last_ _).head_ _⟩, (HB4.out.setCell HG.out _).setCell HG.out _⟩
    · have hz1 : (ccc r == 0) = false := by simp [hz]
      have hap : appP xs head r = (xs ++ [r], head, ccc r) := by simp [appP, hz]
      have HAP := Lib.hid hap; clear hap hz
      go_wp2
      go_end0
      exact ⟨rfl, ⟨_, by rw [HP.out, HAP.out]; exact H4.out.last_ _⟩, HB4.out.setCell HG.out _⟩
  | true =>
    have hh0 : 0 ≤ head := by
      unfold opensP at hb
      simp only [Bool.and_eq_true, decide_eq_true_eq] at hb
      exact hb.1
    obtain ⟨gb, cap2, hA, _, _⟩ := H3.out.own.form (by omega)
    have hA2 : A = some ⟨gb, 0, none⟩ ∧ cap = cap2 := by simpa using hA
    obtain ⟨rfl, rfl⟩ := hA2
    clear hA
    have cx : w3.cell? ⟨gb, head.toNat, none⟩ = some (.int .i64 (rd xs head)) := by
      rw [H3.out.own.cellAt head.toNat (by omega)]
      simp [nums, rd, List.getElem?_eq_getElem (show head.toNat < xs.length by omega), List.getD_eq_getElem?_getD]
    have fx : w3.frozen? ⟨gb, head.toNat, none⟩ = false := H3.out.own.frozenAt _
    have hgb : gb < w3.heap.size := own_lt H3.out.own gb rfl
    have hgb2 : base ≤ gb := own_base H3.out.own gb rfl
    have hgg : g ≠ gb := fun e => H3.out.apart (by rw [e]; rfl)
    have hgz : g < w3.heap.size := H3.out.lt
    have hhz : head < (xs.length : Int) := hh
    go_wp2_with fail
    go_region_held3 (fun w' => w'.cell? ⟨g, 0, none⟩ = some (.slice (some ⟨gb, 0, none⟩) xs.length cap) ∧ w'.cell? ⟨g, 1, none⟩ = some (.int .i64 head) ∧ w'.cell? ⟨gb, head.toNat, none⟩ = some (.int .i64 (rd xs head)))
      (first | (exact ⟨c0, c1, cx⟩) | (exact ⟨(hb'.cell (p := ⟨g, 0, none⟩) hgz).trans c0, (hb'.cell (p := ⟨g, 1, none⟩) hgz).trans c1, (hb'.cell (p := ⟨gb, head.toNat, none⟩) hgb).trans cx⟩))
      (first | (go_at_call 15; refine (join_any _ _ _).mono ?_; rintro e w' ⟨rr, ok, rfl, hr, hok, hb'⟩))
    have hb3 : Below w3.heap.size w3 w' := (pw_below_drewN (Below.refl _ _) 1).trans hb'
    have H6 : Hid (CompAt w' base g (.slice (some ⟨gb, 0, none⟩) xs.length cap) xs head last) := H3.out.below hb3
    have HB6 : Hid (Below base w w') := HB3.out.trans (hb3.mono HZ3.out)
    have HZ6 : Hid (base ≤ w'.heap.size) := Nat.le_trans HZ3.out hb3.size
    clear hb' hb3 c0 c1 c2 cx fx H3 HB3 HZ3
    cases hj : join (rd xs head) r with
    | some v =>
      have hp : putP xs head last r = (xs.set head.toNat v, head, last) := by rw [HOP.out true hb]; simp only [if_true, hj]
      have HP := Lib.hid hp; clear hp HOP hj
      go_wp2_with fail
      refine wp_region_still_tail 10 (by kernel_rfl) (by kernel_rfl) ?_
      change wpStill _ _ w'.drew (fun a' => wpList _ _ _ _ a' w'.drew) _ _
      have H7 : Hid (CompAt w'.drew base g (.slice (some ⟨gb, 0, none⟩) xs.length cap) xs head last) := H6.out.below (pw_below_drewN (Below.refl _ _) 1)
      have HB7 : Hid (Below base w w'.drew) := pw_below_drewN HB6.out 1
      clear H6 HB6 HZ6
      generalize w'.drew = w7 at H7 HB7 ⊢
      obtain ⟨c0, c1, c2⟩ := H7.out.cells
      have cx : w7.cell? ⟨gb, head.toNat, none⟩ = some (.int .i64 (rd xs head)) := by
        rw [H7.out.own.cellAt head.toNat (by omega)]
        simp [nums, rd, List.getElem?_eq_getElem (show head.toNat < xs.length by omega), List.getD_eq_getElem?_getD]
      have fx : w7.frozen? ⟨gb, head.toNat, none⟩ = false := H7.out.own.frozenAt _
      have hst := H7.out.own.stored head.toNat (.int .i64 v)
      have HF : Hid (CompAt (w7.setCell ⟨gb, head.toNat, none⟩ (.int .i64 v)) base g (.slice (some ⟨gb, 0, none⟩) xs.length cap) (xs.set head.toNat v) head last) :=
        ⟨blk_far H7.out.blk hgg _, by have := hst.1; simpa [nums, List.map_set] using this, H7.out.ge⟩
      have HBF : Hid (Below base w (w7.setCell ⟨gb, head.toNat, none⟩ (.int .i64 v))) := HB7.out.setCell hgb2 _
      clear hst H7 HB7
      simp only [List.take_succ_cons, List.take_zero, List.drop_succ_cons, List.drop_zero]
      iterate 10 still_step
      refine wpStill_nil ?_
      go_wp2
      go_end0
      exact ⟨rfl, ⟨_, by rw [HP.out]; exact HF.out⟩, HBF.out⟩
    | none =>
      have hp : putP xs head last r = appP xs head r := by rw [HOP.out true hb]; simp only [if_true, hj]
      have HP := Lib.hid hp; clear hp HOP hj
      obtain ⟨c0, c1, c2⟩ := H6.out.cells
      go_wp2_with (at_builtin; refine print_append_num (w0 := w) base rfl (.tmp 42) (.tmp 44) 22 3 .i64 8 rfl Try.underlying22 info_int (by decide) (.slice (some ⟨gb, 0, none⟩) xs.length cap) xs r rfl rfl H6.out.own HB6.out HZ6.out (by omega) ?_)
      intro v1 w4 hown hbel hgrow _
      have hb4 := blk_grown H6.out.blk hgrow H6.out.apart
      obtain ⟨A1, cap1, hv1⟩ := own_slice hown
      subst hv1
      have hlen : (xs ++ [r]).length = xs.length + 1 := by simp
      have H4 : Hid (CompAt (w4.setCell ⟨g, 0, none⟩ (.slice A1 (xs.length + 1) cap1)) base g (.slice A1 (xs.length + 1) cap1) (xs ++ [r]) head last) := CompAt.out_ hb4 (by rw [hlen]; exact hown) H6.out.ge
      have HB4 : Hid (Below base w (w4.setCell ⟨g, 0, none⟩ (.slice A1 (xs.length + 1) cap1))) := hbel.setCell H6.out.ge _
      have d0 : w4.cell? ⟨g, 0, none⟩ = some (.slice (some ⟨gb, 0, none⟩) xs.length cap) := (blk_cell hb4 0).trans rfl
      have d1 : w4.cell? ⟨g, 1, none⟩ = some (.int .i64 head) := (blk_cell hb4 1).trans rfl
      have d2 : w4.cell? ⟨g, 2, none⟩ = some (.int .i64 last) := (blk_cell hb4 2).trans rfl
      have e0 : w4.frozen? ⟨g, 0, none⟩ = false := frozen_of_row w4 g 0 _ _ hb4
      have e1 : w4.frozen? ⟨g, 1, none⟩ = false := frozen_of_row w4 g 1 _ _ hb4
      have e2 : w4.frozen? ⟨g, 2, none⟩ = false := frozen_of_row w4 g 2 _ _ hb4
      have HG : Hid (base ≤ g) := H6.out.ge
      clear hown hbel hgrow hb4 c0 c1 c2 H6 HB6 HZ6 hlen
      by_cases hz : ccc r = 0
      · have hz1 : (ccc r == 0) = true := by simp [hz]
        have hap : appP xs head r = (xs ++ [r], (xs.length : Int), ccc r) := by simp [appP, hz]
        have HAP := Lib.hid hap; clear hap hz
        go_wp2
        go_end0
        exact ⟨rfl, ⟨_, by rw [HP.out, HAP.out]; exact (H4.out.last_ _).head_ _⟩, (HB4.out.setCell HG.out _).setCell HG.out _⟩
      · have hz1 : (ccc r == 0) = false := by simp [hz]
        have hap : appP xs head r = (xs ++ [r], head, ccc r) := by simp [appP, hz]
        have HAP := Lib.hid hap; clear hap hz
        go_wp2
        go_end0
        exact ⟨rfl, ⟨_, by rw [HP.out, HAP.out]; exact H4.out.last_ _⟩, HB4.out.setCell HG.out _⟩
end Go.Proofs.Pt

/- The walk of package canon's Order. -/
import Derived.Test.YtgaokehmfebclaaW17
import Derived.Test.YtgaokehmfebclaaWMore
namespace Go.Proofs.Pt
open Go Go.RowKit Go.Proofs.YtgaokehmfebclaaW.PrintWords Go.Proofs.YtgaokehmfebclaaW.PrintMore
attribute [local go_sem] max2_int min2_int max_two min_two

theorem RowC.room {w0 w : World} {base gb cap : Nat} {xs : List Int} (h : RowC w0 base gb cap xs w) : xs.length ≤ cap ∧ cap ≤ maxLen := by
  rcases h.own.2 with ⟨h', _⟩ | ⟨g', cap', cur, h', _, _, a, b, _⟩
  · simp at h'
  · simp only [Value.slice.injEq, Option.some.injEq, Addr.mk.injEq, and_true, true_and] at h'
    obtain ⟨_, rfl⟩ := h'
    exact ⟨a, b⟩

/-- What is put in order from the front: the front's part is settled. -/
structure Settled (l d t : List Int) : Prop where
  alike : Alike l (d ++ t)
  steps : Steps d
  edge : (∀ x, d.getLast? = some x → ccc x ≤ 0) ∨ (∀ y, t.head? = some y → ccc y ≤ 0)
theorem Settled.one {l d t : List Int} {x : Int} (h : Settled l d (x :: t)) (hx : ccc x ≤ 0) : Settled l (d ++ [x]) t :=
  ⟨by simpa using h.alike, steps_append h.steps trivial (fun a b _ hb => by simp at hb; subst hb; omega), .inl (fun y hy => by simp at hy; subst hy; exact hx)⟩
theorem Settled.some_ {l d u t u' : List Int} (h : Settled l d (u ++ t)) (hu0 : u ≠ []) (hu : AllM u) (ha : Alike u u') (hr : Rise u') (ht : ∀ y, t.head? = some y → ccc y ≤ 0) : Settled l (d ++ u') t := by
  refine ⟨?_, ?_, .inr ht⟩
  · have := (ha.left d).right t
    exact .trans h.alike (by simpa using this)
  · refine steps_append h.steps (steps_of_rise hr) ?_
    intro a b hla hb hh
    rcases h.edge with he | he
    · have := he a hla; omega
    · obtain ⟨z, u2, rfl⟩ := List.exists_cons_of_ne_nil hu0
      have h1 := he z (by simp)
      have h2 := hu z (by simp)
      omega
theorem Settled.end_ {l d : List Int} (h : Settled l d []) : d = order l := by
  have h1 : order d = d := sorted_of_steps h.steps
  have h2 : Alike l d := by simpa using h.alike
  rw [← h1]; exact h2.order.symm
def lenOf : Value → Nat
  | .slice _ n _ => n
  | _ => 0
def canon_Order.f (l0 : List Int) : Option (List Int) := if l0.length < 17592186044416 then some (order l0) else none
set_option maxHeartbeats 2000000 in
theorem order_some (A0 : Option Addr) (c0 : Nat) (l0 : List Int) (w : World) (hr0 : Kd.C (Kd.int .i64) w A0 l0.length l0) (hlen : l0.length < 17592186044416) (h0 : 0 < l0.length) :
    Calls Try.prog 7 #[.slice A0 l0.length c0] w fun e w' => ∃ v0_ : Value, e = .returned (v0_) ∧ Kd.R (Kd.int .i64) 3 w' w.heap.size (fun _ => True) v0_ (order l0) ∧ Below w.heap.size w w' := by
  have HR := Lib.hid hr0; clear hr0
  have HL := Lib.hid hlen; clear hlen
  go_enter Try.func7, Try.ntmps7
  go_wp2_with fail
  refine (values_any A0 c0 l0 _ HR.out HL.out).mono ?_
  rintro e w1 ⟨v, rfl, ho, hb⟩
  obtain ⟨A, cap, rfl⟩ := own_slice ho
  obtain ⟨gb, cap2, hA, hcap, _⟩ := ho.form h0
  have hA2 : A = some ⟨gb, 0, none⟩ ∧ cap = cap2 := by simpa using hA
  obtain ⟨rfl, rfl⟩ := hA2
  clear hA
  have HC : Hid (RowC w w.heap.size gb cap l0 w1) := ⟨ho, hb⟩
  clear ho hb
  go_wp2_with fail
  have hroom := HC.out.room
  have hmx : maxLen ≤ 9223372036854775807 := by decide
  go_loopw [4] (fun rest wr => ∃ (P : Option Addr) (k cv : Nat) (d t : List Int), rest = .slice P t.length cv ∧ (0 < t.length → P = some ⟨gb, k, none⟩) ∧ d.length = k ∧ k + t.length = l0.length ∧ t.length ≤ cv ∧ cv ≤ 9223372036854775807 ∧ Hid (Settled l0 d t) ∧ Hid (RowC w w.heap.size gb cap (d ++ t) wr)) (fun rest _ => lenOf rest)
  case atStart => exact ⟨_, 0, cap, [], l0, rfl, fun _ => rfl, rfl, by omega, hroom.1, by omega, ⟨.refl _, trivial, .inl (fun x hx => by simp at hx)⟩, HC⟩
  case round =>
    clear HC hroom hmx
    obtain ⟨P, k, cv, d, t, rfl, hP, hd, ht, hcv, hcv2, HS, HR2⟩ := hrel
    by_cases hlt : 0 < t.length
    · obtain rfl := hP hlt
      clear hP
      have htl : t.length < 17592186044416 := by have := HL.out; omega
      have hz : (0 : Int) < (t.length : Int) := by omega
      go_wp2_with fail
      refine (row_any w w.heap.size gb cap k t.length cv d t _ HR2.out hd rfl htl).mono ?_
      rintro e w2 ⟨n, rfl, hn, hm, hx, hb⟩
      have HR3 : Hid (RowC w w.heap.size gb cap (d ++ (t.take n ++ t.drop n)) w2) := by show RowC _ _ _ _ _ _; rw [List.take_append_drop]; exact HR2.out.below hb
      have HM := Lib.hid hm; have HX := Lib.hid hx; clear hm hx hb HR2
      go_wp2_with fail
      refine (sort_any w w.heap.size gb cap k n cv d (t.take n) (t.drop n) _ HR3.out HM.out hd (by simp; omega) (by omega)).mono ?_
      rintro e w3 ⟨rfl, u', ha, hr, hw⟩
      have hul : u'.length = n := by rw [← ha.perm.length_eq]; simp; omega
      by_cases h1 : n = 0
      · subst h1
        obtain ⟨x, t', rfl⟩ : ∃ x t', t = x :: t' := List.exists_cons_of_ne_nil (by intro e; rw [e] at hlt; simp at hlt)
        obtain rfl : u' = [] := List.length_eq_zero_iff.1 hul
        have HN : Hid (Settled l0 (d ++ [x]) t') := HS.out.one (HX.out x rfl)
        have HW : Hid (RowC w w.heap.size gb cap ((d ++ [x]) ++ t') w3) := by show RowC _ _ _ _ _ _; simpa using hw
        clear ha hr hw HS HX HM HR3
        simp only [List.length_cons] at ht hcv htl hz hlt
        go_wp2
        go_roundw
        case measure => simp [lenOf]
        case rel => exact ⟨_, k + 1, cv - 1, d ++ [x], t', rfl, fun h => by rw [if_neg (by omega)], by simp; omega, by omega, by omega, by omega, HN, HW⟩
      · have hn1 : (1 : Int) ≤ (n : Int) := by omega
        have hne : t.take n ≠ [] := by intro e; have := congrArg List.length e; rw [List.length_take, List.length_nil] at this; omega
        have hS2 : Settled l0 d (t.take n ++ t.drop n) := by rw [List.take_append_drop]; exact HS.out
        have HN : Hid (Settled l0 (d ++ u') (t.drop n)) := hS2.some_ hne HM.out ha hr (by intro y hy; rw [List.head?_drop] at hy; exact HX.out y hy)
        have HW : Hid (RowC w w.heap.size gb cap ((d ++ u') ++ t.drop n) w3) := by show RowC _ _ _ _ _ _; simpa using hw
        have hdl : (t.drop n).length = t.length - n := by simp
        clear ha hr hw HS HX HM HR3 hne hS2
        go_wp2
        go_roundw
        case measure => simp [lenOf]; omega
        case rel =>
          refine ⟨(if cv - (n - 1) = 1 then some ⟨gb, k + (n - 1), none⟩ else some ⟨gb, k + (n - 1) + 1, none⟩), k + n, cv - n, d ++ u', t.drop n, ?_, fun h => ?_, by simp; omega, by omega, by omega, by omega, HN, HW⟩
          · rw [hdl, show t.length - (n - 1) - 1 = t.length - n by omega, show cv - (n - 1) - 1 = cv - n by omega]
          · rw [if_neg (by omega), show k + (n - 1) + 1 = k + n by omega]
    · obtain rfl : t = [] := List.length_eq_zero_iff.1 (by omega)
      have hdo := HS.out.end_
      have hr2 := HR2.out
      rw [List.append_nil] at hr2
      have hdl : d.length = l0.length := by simp at ht; omega
      have HO : Hid (wr.ownsRow w.heap.size 38 1 (.slice (some ⟨gb, 0, none⟩) d.length cap) d.length (nums .i64 d)) := hr2.own
      have HB : Hid (Below w.heap.size w wr) := hr2.bel
      have HD := Lib.hid hdo
      clear hr2 HR2 HS hdo hP
      have hc := numbers_any w.heap.size (some ⟨gb, 0, none⟩) cap d wr HO.out (by have := HL.out; omega)
      rw [hdl] at hc
      have HC := Lib.hid hc
      have HDL := Lib.hid hdl
      clear hc hdl ht hd
      go_wp2_with fail
      refine HC.out.mono ?_
      rintro e w4 ⟨v, rfl, ho, hb⟩
      have HO4 := Lib.hid (own_weaken ho HB.out.size)
      have HB4 : Hid (Below w.heap.size w w4) := HB.out.trans (hb.mono HB.out.size)
      clear ho hb HO HB
      go_wp2
      go_ret
      exact ⟨_, rfl, Kd.R_of_own (enc := Value.int .i64) (h1 := fun _ => rfl) (by rw [← HD.out, HDL.out]; exact HO4.out) (fun _ _ => trivial), HB4.out⟩
set_option maxHeartbeats 2000000 in
theorem order_none (A0 : Option Addr) (c0 : Nat) (w : World) (hr0 : Kd.C (Kd.int .i64) w A0 0 []) :
    Calls Try.prog 7 #[.slice A0 0 c0] w fun e w' => ∃ v0_ : Value, e = .returned (v0_) ∧ Kd.R (Kd.int .i64) 3 w' w.heap.size (fun _ => True) v0_ (order []) ∧ Below w.heap.size w w' := by
  have HR := Lib.hid hr0; clear hr0
  go_enter Try.func7, Try.ntmps7
  go_wp2_with fail
  refine (values_any A0 c0 [] _ HR.out (by decide)).mono ?_
  rintro e w1 ⟨v, rfl, ho, hb⟩
  obtain ⟨A, cap, rfl⟩ := own_slice ho
  have HO := Lib.hid ho; have HB := Lib.hid hb; clear ho hb
  simp only [List.length_nil] at HO
  go_wp2_with fail
  refine wp_loop_rounds 1 ?_
  rw [rounds_succ]
  go_wp2_with fail
  refine (numbers_any w.heap.size A cap [] _ HO.out (by decide)).mono ?_
  rintro e w4 ⟨v, rfl, ho, hb⟩
  have HO4 := Lib.hid (own_weaken ho HB.out.size)
  have HB4 : Hid (Below w.heap.size w w4) := HB.out.trans (hb.mono HB.out.size)
  clear ho hb HO HB
  go_wp2
  go_ret
  exact ⟨_, rfl, Kd.R_of_own (enc := Value.int .i64) (h1 := fun _ => rfl) HO4.out (fun _ _ => trivial), HB4.out⟩
theorem canon_Order.calls (A0 : Option Addr) (c0 : Nat) (l0 : List Int) (r : List Int) (w : World) (hr0 : Kd.C (Kd.int .i64) w A0 l0.length l0) (_hc0 : l0.length ≤ c0) (h : canon_Order.f l0 = some r) :
    Calls Try.prog 7 #[.slice A0 l0.length c0] w fun e w' => ∃ v0_ : Value, e = .returned (v0_) ∧ Kd.R (Kd.int .i64) 3 w' w.heap.size (fun _ => True) v0_ r ∧ Below w.heap.size w w' := by
  unfold canon_Order.f at h
  split at h
  case isFalse => cases h
  rename_i hlen
  cases h
  cases l0 with
  | nil => exact order_none A0 c0 w hr0
  | cons x l => exact order_some A0 c0 (x :: l) w hr0 hlen (by simp)
end Go.Proofs.Pt

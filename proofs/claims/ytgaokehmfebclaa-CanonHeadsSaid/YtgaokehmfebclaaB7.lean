/- What the base functions of layer 7's statements tell, in closed form: equal lists, rows of marks, the document's example. -/
import Derived.Test.YtgaokehmfebclaaPBx
import Derived.Test.YtgaokehmfebclaaW19
namespace Go.Proofs.Pt
open Go Go.RowKit Go.Proofs.YtgaokehmfebclaaW.PrintWords Go.Proofs.YtgaokehmfebclaaW.PrintMore Go.Proofs.Ytgaokehmfebclaa.PB

def rowN (l : List Int) : Nat := (l.takeWhile fun x => decide (0 < ccc x)).length
theorem rowN_mark {x : Int} (h : 0 < ccc x) (l : List Int) : rowN (x :: l) = rowN l + 1 := by simp [rowN, h]
theorem rowN_none {x : Int} (h : ¬ 0 < ccc x) (l : List Int) : rowN (x :: l) = 0 := by simp [rowN, h]
theorem marksN_row (l : List Int) : ∀ n, marksN n l = max (n + rowN l) (marks l) := by
  induction l with
  | nil => intro n; simp [marksN, marks, rowN]
  | cons r l ih =>
    intro n
    by_cases h : 0 < ccc r
    · rw [rowN_mark h]
      simp only [marks, marksN, if_pos h]
      rw [ih (n + 1), ih (0 + 1)]
      omega
    · rw [rowN_none h]
      simp only [marks, marksN, if_neg h]
      omega
theorem marks_cons (r : Int) (l : List Int) : marks (r :: l) = max (rowN (r :: l)) (marks l) := by
  by_cases h : 0 < ccc r
  · rw [rowN_mark h]
    simp only [marks, marksN, if_pos h]
    rw [marksN_row l (0 + 1)]
    simp only [marks]
    omega
  · rw [rowN_none h]
    simp only [marks, marksN, if_neg h]
theorem rowN_le (l : List Int) : rowN l ≤ l.length := by
  unfold rowN; exact (List.takeWhile_sublist _).length_le
theorem marks_le (l : List Int) : marks l ≤ l.length := by
  induction l with
  | nil => simp [marks, marksN]
  | cons r l ih => rw [marks_cons]; have := rowN_le (r :: l); simp at this ⊢; omega
theorem wrap_nat {i n : Nat} (h : i < n) (hn : n ≤ 17592186044416) : wrap64 ((i : Int) + 1) = ((i + 1 : Nat) : Int) := by unfold wrap64; omega
theorem rd_nat (l : List Int) (i : Nat) (h : i < l.length) : rd l (i : Int) = l[i] := by simp [rd, List.getD_eq_getElem?_getD, List.getElem?_eq_getElem h]
theorem drop_two (l m : List Int) (i : Nat) (hl : i < l.length) (hm : i < m.length) : (l.drop i = m.drop i) ↔ (l[i] = m[i] ∧ l.drop (i + 1) = m.drop (i + 1)) := by
  rw [List.drop_eq_getElem_cons hl, List.drop_eq_getElem_cons hm, List.cons.injEq]
theorem same_l0 (l m : List Int) (hlen : l.length = m.length) (hn : l.length ≤ 17592186044416) : ∀ (d k i : Nat), l.length - i = d → i ≤ l.length → d < k → pentroughref01_Same.l0 k l m i = some (decide (l.drop i = m.drop i))
  | d, 0, i, _, _, hk => absurd hk (by omega)
  | d, k + 1, i, hd, hi, hk => by
    unfold pentroughref01_Same.l0
    by_cases h : i < l.length
    · rw [if_pos (by omega), if_pos (by omega), if_pos (by omega), rd_nat l i h, rd_nat m i (by omega), wrap_nat h hn]
      by_cases e : l[i] = m[i]
      · rw [if_pos e, same_l0 l m hlen hn (d - 1) k (i + 1) (by omega) (by omega) (by omega)]
        congr 1
        exact decide_eq_decide.2 (by rw [drop_two l m i h (by omega)]; simp [e])
      · rw [if_neg e]
        congr 1
        exact (decide_eq_false (by rw [drop_two l m i h (by omega)]; simp [e])).symm
    · rw [if_neg (by omega), List.drop_of_length_le (by omega), List.drop_of_length_le (by omega)]
      simp
theorem same_f (l m : List Int) (hn : l.length ≤ 17592186044416) (k : Nat) (hk : l.length < k) : pentroughref01_Same.f k l m = some (decide (l = m)) := by
  unfold pentroughref01_Same.f
  by_cases h : l.length = m.length
  · rw [if_pos (by omega)]
    have := same_l0 l m h hn l.length k 0 (by omega) (by omega) hk
    simpa using this
  · rw [if_neg (by omega)]
    congr 1
    exact (decide_eq_false (fun e => h (by rw [e]))).symm
theorem equal_l0 (l m : List Int) (hlen : l.length = m.length) (hn : l.length ≤ 17592186044416) : ∀ (d k i : Nat), l.length - i = d → i ≤ l.length → d < k → slices_Equal_int_int.l0 k l m l.length i = some (decide (l.drop i = m.drop i))
  | d, 0, i, _, _, hk => absurd hk (by omega)
  | d, k + 1, i, hd, hi, hk => by
    unfold slices_Equal_int_int.l0
    by_cases h : i < l.length
    · rw [if_pos (by omega), if_pos (by omega), if_pos (by omega), if_pos (by omega), rd_nat l i h, rd_nat m i (by omega), wrap_nat h hn]
      by_cases e : l[i] = m[i]
      · rw [if_pos e, equal_l0 l m hlen hn (d - 1) k (i + 1) (by omega) (by omega) (by omega)]
        congr 1
        exact decide_eq_decide.2 (by rw [drop_two l m i h (by omega)]; simp [e])
      · rw [if_neg e]
        congr 1
        exact (decide_eq_false (by rw [drop_two l m i h (by omega)]; simp [e])).symm
    · rw [if_neg (by omega), List.drop_of_length_le (by omega), List.drop_of_length_le (by omega)]
      simp
theorem equal_f (l m : List Int) (hn : l.length ≤ 17592186044416) (k : Nat) (hk : l.length < k) : slices_Equal_int_int.f k l m = some (decide (l = m)) := by
  unfold slices_Equal_int_int.f
  by_cases h : l.length = m.length
  · rw [if_pos (by omega)]
    have := equal_l0 l m h hn l.length k 0 (by omega) (by omega) hk
    simpa using this
  · rw [if_neg (by omega)]
    congr 1
    exact (decide_eq_false (fun e => h (by rw [e]))).symm
theorem sorted_f (l : List Int) (hn : l.length < 17592186044416) (k : Nat) (hk : l.length < k) : Go.Proofs.Ytgaokehmfebclaa.PB.canon_Sorted.f k l = some (decide (order l = l)) := by
  unfold Go.Proofs.Ytgaokehmfebclaa.PB.canon_Sorted.f canon_Order.f
  rw [if_pos hn]
  simp only [Option.bind_some]
  rw [equal_f (order l) l (by rw [order_length]; omega) k (by rw [order_length]; omega)]
  rfl
theorem values_l0 (l : List Int) (hn : l.length < 17592186044416) : ∀ (d k i : Nat), l.length - i = d → i ≤ l.length → d < k → canon_values.l0 k (l.take i) l l.length i = some l
  | d, 0, i, _, _, hk => absurd hk (by omega)
  | d, k + 1, i, hd, hi, hk => by
    unfold canon_values.l0
    by_cases h : i < l.length
    · rw [if_pos (by omega), if_pos (by omega), if_pos (by omega), if_pos (by have := List.length_take_le i l; omega), rd_nat l i h, wrap_nat h (by omega), ← List.take_succ_eq_append_getElem h]
      exact values_l0 l hn (d - 1) k (i + 1) (by omega) (by omega) (by omega)
    · rw [if_neg (by omega), List.take_of_length_le (by omega)]
theorem values_f (l : List Int) (hn : l.length < 17592186044416) (k : Nat) (hk : l.length < k) : canon_values.f k l = some l := by
  have := values_l0 l hn l.length k 0 (by omega) (by omega) hk
  simpa [canon_values.f] using this
theorem row_l0 (l : List Int) (hn : l.length < 17592186044416) : ∀ (d k i : Nat), l.length - i = d → i ≤ l.length → d < k → canon_row.l0 k l i = some ((i + rowN (l.drop i) : Nat) : Int)
  | d, 0, i, _, _, hk => absurd hk (by omega)
  | d, k + 1, i, hd, hi, hk => by
    unfold canon_row.l0
    by_cases h : i < l.length
    · rw [if_pos (by omega), if_pos (by omega), rd_nat l i h, wrap_nat h (by omega), List.drop_eq_getElem_cons h]
      unfold prop_Mark.f
      simp only [Option.bind_some]
      by_cases e : 0 < ccc l[i]
      · rw [if_pos (by simpa using e), row_l0 l hn (d - 1) k (i + 1) (by omega) (by omega) (by omega), rowN_mark e]
        congr 2; omega
      · rw [if_neg (by simpa using e), rowN_none e]
        rfl
    · rw [if_neg (by omega), List.drop_of_length_le (by omega)]
      rfl
theorem row_f (l : List Int) (hn : l.length < 17592186044416) (k : Nat) (hk : l.length < k) : canon_row.f k l = some (rowN l : Int) := by
  have := row_l0 l hn l.length k 0 (by omega) (by omega) hk
  simpa [canon_row.f] using this
theorem marks_l0 : ∀ (l : List Int) (k m : Nat), l.length < 17592186044416 → 2 * l.length < k → Go.Proofs.Ytgaokehmfebclaa.PB.canon_Marks.l0 k m l = some ((max m (marks l) : Nat) : Int)
  | l, 0, m, _, hk => absurd hk (by omega)
  | [], k + 1, m, _, hk => by unfold Go.Proofs.Ytgaokehmfebclaa.PB.canon_Marks.l0; simp [marks, marksN]
  | r :: l, k + 1, m, hn, hk => by
    unfold Go.Proofs.Ytgaokehmfebclaa.PB.canon_Marks.l0
    simp only [List.length_cons] at hn hk
    rw [if_pos (by simp only [List.length_cons]; omega), row_f (r :: l) (by simpa using hn) k (by simp only [List.length_cons]; omega)]
    simp only [Option.bind_some]
    rw [if_pos (by simp only [List.length_cons]; omega)]
    have e : mx (m : Int) (rowN (r :: l) : Int) = ((max m (rowN (r :: l)) : Nat) : Int) := by unfold mx; split <;> omega
    rw [e]
    show Go.Proofs.Ytgaokehmfebclaa.PB.canon_Marks.l0 k _ l = _
    rw [marks_l0 l k _ (by omega) (by omega), marks_cons]
    congr 2; omega
theorem marks_f (l : List Int) (hn : l.length < 17592186044416) (k : Nat) (hk : 2 * l.length < k) : Go.Proofs.Ytgaokehmfebclaa.PB.canon_Marks.f k l = some (marks l : Int) := by
  unfold Go.Proofs.Ytgaokehmfebclaa.PB.canon_Marks.f
  rw [values_f l hn k (by omega)]
  have := marks_l0 l k 0 hn hk
  simpa using this
theorem awake7_f : pentroughlaw07_awake.f 10 = some true := by
  unfold pentroughlaw07_awake.f
  have h1 : canon_Order.f [97, 770, 803] = some [97, 803, 770] := by decide +kernel
  have h2 : canon_Compose.f [97, 803, 770] = some [7853] := by decide +kernel
  rw [h1]
  simp only [Option.bind_some, h2]
  rw [sorted_f [97, 803, 770] (by decide) 10 (by decide), marks_f [97, 803, 770] (by decide) 10 (by decide)]
  decide +kernel

/-! ### contracts in closed form -/
def ref01_Same.f (l0 l1 : List Int) : Option Bool := if l0.length < 17592186044416 then some (decide (l0 = l1)) else none
theorem ref01_Same.calls (A0 : Option Addr) (c0 : Nat) (l0 : List Int) (A1 : Option Addr) (c1 : Nat) (l1 : List Int) (r : Bool) (w : World) (hr0 : Kd.C (Kd.int .i64) w A0 l0.length l0) (hc0 : l0.length ≤ c0) (hr1 : Kd.C (Kd.int .i64) w A1 l1.length l1) (hc1 : l1.length ≤ c1) (h : ref01_Same.f l0 l1 = some r) :
    Calls Try.prog 12 #[.slice A0 l0.length c0, .slice A1 l1.length c1] w fun e w' => e = .returned (.bool r) ∧ Drawn0 w w' := by
  unfold ref01_Same.f at h
  split at h
  case isFalse => cases h
  rename_i hl
  cases h
  exact pentroughref01_Same.calls (l0.length + 1) A0 c0 l0 A1 c1 l1 _ w hr0 hc0 hr1 hc1 (same_f l0 l1 (by omega) _ (by omega))
def slices_Equal.f (l0 l1 : List Int) : Option Bool := if l0.length < 17592186044416 then some (decide (l0 = l1)) else none
theorem slices_Equal.calls (A0 : Option Addr) (c0 : Nat) (l0 : List Int) (A1 : Option Addr) (c1 : Nat) (l1 : List Int) (r : Bool) (w : World) (hr0 : Kd.C (Kd.int .i64) w A0 l0.length l0) (hc0 : l0.length ≤ c0) (hr1 : Kd.C (Kd.int .i64) w A1 l1.length l1) (hc1 : l1.length ≤ c1) (h : slices_Equal.f l0 l1 = some r) :
    Calls Try.prog 21 #[.slice A0 l0.length c0, .slice A1 l1.length c1] w fun e w' => e = .returned (.bool r) ∧ Drawn0 w w' := by
  unfold slices_Equal.f at h
  split at h
  case isFalse => cases h
  rename_i hl
  cases h
  exact slices_Equal_int_int.calls (l0.length + 1) A0 c0 l0 A1 c1 l1 _ w hr0 hc0 hr1 hc1 (equal_f l0 l1 (by omega) _ (by omega))
def canon_Sorted.f (l0 : List Int) : Option Bool := if l0.length < 17592186044416 then some (decide (order l0 = l0)) else none
theorem canon_Sorted.calls (A0 : Option Addr) (c0 : Nat) (l0 : List Int) (r : Bool) (w : World) (hr0 : Kd.C (Kd.int .i64) w A0 l0.length l0) (hc0 : l0.length ≤ c0) (h : canon_Sorted.f l0 = some r) :
    Calls Try.prog 8 #[.slice A0 l0.length c0] w fun e w' => e = .returned (.bool r) ∧ Below w.heap.size w w' := by
  unfold canon_Sorted.f at h
  split at h
  case isFalse => cases h
  rename_i hl
  cases h
  exact Go.Proofs.Ytgaokehmfebclaa.PB.canon_Sorted.calls (l0.length + 1) A0 c0 l0 _ w hr0 hc0 (sorted_f l0 hl _ (by omega))
def canon_Marks.f (l0 : List Int) : Option Int := if l0.length < 17592186044416 then some (marks l0 : Int) else none
theorem canon_Marks.calls (A0 : Option Addr) (c0 : Nat) (l0 : List Int) (r : Int) (w : World) (hr0 : Kd.C (Kd.int .i64) w A0 l0.length l0) (hc0 : l0.length ≤ c0) (h : canon_Marks.f l0 = some r) :
    Calls Try.prog 9 #[.slice A0 l0.length c0] w fun e w' => e = .returned (.int .i64 r) ∧ Below w.heap.size w w' := by
  unfold canon_Marks.f at h
  split at h
  case isFalse => cases h
  rename_i hl
  cases h
  exact Go.Proofs.Ytgaokehmfebclaa.PB.canon_Marks.calls (2 * l0.length + 1) A0 c0 l0 _ w hr0 hc0 (marks_f l0 hl _ (by omega))
def law07_awake.f : Option Bool := some true
theorem law07_awake.calls (r : Bool) (w : World) (h : law07_awake.f = some r) :
    Calls Try.prog 6 #[] w fun e w' => e = .returned (.bool r) ∧ Below w.heap.size w w' := by
  cases h
  exact pentroughlaw07_awake.calls 10 true w awake7_f
end Go.Proofs.Pt

/- Lemmas and walks that the claims of this seat share: several texts, joined. -/
import Derived.Test.YtjgdnhmbfeekoaaGreatDoorGa5
import Derived.Test.YtjgdnhmbfeekoaaGreatDoorGa2
import Derived.WalkMore
import Derived.Deep.LoopGhost
import Derived.Test.YtjgdnhmbfeekoaaGreatDoorProg
import Derived.Below
import Derived.Deep.Draws
import Derived.Deep.AppendLies
import Derived.Maps.AppendAt
import Derived.OwnWalk
import Derived.Laws.BytesArg
import Derived.Laws.MakeOwn
import Derived.Laws.OwnMore
import Derived.Deep.OwnRows
import Derived.Tactics
import Derived.Lib.ConvBytes
import Derived.Laws.Slices
import Derived.WalkKit
import Derived.KernelRfl
import Derived.RowKit3
import Derived.Deep.QuietTactic
import Derived.BigQuiet
import Derived.WideLaws
import Derived.Deep.DeepCutAuto
import Derived.Deep.CutBlock
import Derived.Deep.RegionHeld3
import Derived.Laws.Rows
import Derived.Lib.AppendStr
import Derived.ArgAppend
import Derived.Laws.IdiomCopy
import Derived.OrdersHeld
import Derived.Laws.BitsLemmas
import Derived.RowKit
import Derived.Test.YtjgdnhmbfeekoaaGreatDoorGw1
import Derived.Test.YtjgdnhmbfeekoaaGreatDoorGw2
import Derived.Test.YtjgdnhmbfeekoaaGreatDoorGw3
/- ==== the text B7 ==== -/
section
/- What the base functions of layer 7's statements tell, in closed form: equal lists, rows of marks, the document's example. -/
namespace Go.Proofs.Pt
open Go Go.RowKit Go.Proofs.YtjgdnhmbfeekoaaGreatDoorW.PrintWords Go.Proofs.YtjgdnhmbfeekoaaGreatDoorW.PrintMore Go.Proofs.YtjgdnhmbfeekoaaGreatDoor.PB

def rowN (l : List Int) : Nat := (l.takeWhile fun x => decide (0 < ccc x)).length
theorem rowN_mark {x : Int} (h : 0 < ccc x) (l : List Int) : rowN (x :: l) = rowN l + 1 := by simp [rowN, h]
theorem rowN_none {x : Int} (h : ¬ 0 < ccc x) (l : List Int) : rowN (x :: l) = 0 := by simp [rowN, h]
theorem marksN_row (l : List Int) : ∀ n, marksN n l = max (n + rowN l) (marks l) := by
  induction l with
  | nil => intro n; simp [marksN, marks, rowN]
  | cons r l ih =>
    intro n
    by_cases h : 0 < ccc r
    · rw [rowN_mark h]
      simp only [marks, marksN, if_pos h]
      rw [ih (n + 1), ih (0 + 1)]
      omega
    · rw [rowN_none h]
      simp only [marks, marksN, if_neg h]
      omega
theorem marks_cons (r : Int) (l : List Int) : marks (r :: l) = max (rowN (r :: l)) (marks l) := by
  by_cases h : 0 < ccc r
  · rw [rowN_mark h]
    simp only [marks, marksN, if_pos h]
    rw [marksN_row l (0 + 1)]
    simp only [marks]
    omega
  · rw [rowN_none h]
    simp only [marks, marksN, if_neg h]
theorem rowN_le (l : List Int) : rowN l ≤ l.length := by
  unfold rowN; exact (List.takeWhile_sublist _).length_le
theorem marks_le (l : List Int) : marks l ≤ l.length := by
  induction l with
  | nil => simp [marks, marksN]
  | cons r l ih => rw [marks_cons]; have := rowN_le (r :: l); simp at this ⊢; omega
theorem wrap_nat {i n : Nat} (h : i < n) (hn : n ≤ 17592186044416) : wrap64 ((i : Int) + 1) = ((i + 1 : Nat) : Int) := by unfold wrap64; omega
theorem rd_nat (l : List Int) (i : Nat) (h : i < l.length) : rd l (i : Int) = l[i] := by simp [rd, List.getD_eq_getElem?_getD, List.getElem?_eq_getElem h]
theorem drop_two (l m : List Int) (i : Nat) (hl : i < l.length) (hm : i < m.length) : (l.drop i = m.drop i) ↔ (l[i] = m[i] ∧ l.drop (i + 1) = m.drop (i + 1)) := by
  rw [List.drop_eq_getElem_cons hl, List.drop_eq_getElem_cons hm, List.cons.injEq]
theorem same_l0 (l m : List Int) (hlen : l.length = m.length) (hn : l.length ≤ 17592186044416) : ∀ (d k i : Nat), l.length - i = d → i ≤ l.length → d < k → pentroughref01_Same.l0 k l m i = some (decide (l.drop i = m.drop i))
  | d, 0, i, _, _, hk => absurd hk (by omega)
  | d, k + 1, i, hd, hi, hk => by
    unfold pentroughref01_Same.l0
    by_cases h : i < l.length
    · rw [if_pos (by omega), if_pos (by omega), if_pos (by omega), rd_nat l i h, rd_nat m i (by omega), wrap_nat h hn]
      by_cases e : l[i] = m[i]
      · rw [if_pos e, same_l0 l m hlen hn (d - 1) k (i + 1) (by omega) (by omega) (by omega)]
        congr 1
        exact decide_eq_decide.2 (by rw [drop_two l m i h (by omega)]; simp [e])
      · rw [if_neg e]
        congr 1
        exact (decide_eq_false (by rw [drop_two l m i h (by omega)]; simp [e])).symm
    · rw [if_neg (by omega), List.drop_of_length_le (by omega), List.drop_of_length_le (by omega)]
      simp
theorem same_f (l m : List Int) (hn : l.length ≤ 17592186044416) (k : Nat) (hk : l.length < k) : pentroughref01_Same.f k l m = some (decide (l = m)) := by
  unfold pentroughref01_Same.f
  by_cases h : l.length = m.length
  · rw [if_pos (by omega)]
    have := same_l0 l m h hn l.length k 0 (by omega) (by omega) hk
    simpa using this
  · rw [if_neg (by omega)]
    congr 1
    exact (decide_eq_false (fun e => h (by rw [e]))).symm
theorem equal_l0 (l m : List Int) (hlen : l.length = m.length) (hn : l.length ≤ 17592186044416) : ∀ (d k i : Nat), l.length - i = d → i ≤ l.length → d < k → slices_Equal_int_int.l0 k l m l.length i = some (decide (l.drop i = m.drop i))
  | d, 0, i, _, _, hk => absurd hk (by omega)
  | d, k + 1, i, hd, hi, hk => by
    unfold slices_Equal_int_int.l0
    by_cases h : i < l.length
    · rw [if_pos (by omega), if_pos (by omega), if_pos (by omega), if_pos (by omega), rd_nat l i h, rd_nat m i (by omega), wrap_nat h hn]
      by_cases e : l[i] = m[i]
      · rw [if_pos e, equal_l0 l m hlen hn (d - 1) k (i + 1) (by omega) (by omega) (by omega)]
        congr 1
        exact decide_eq_decide.2 (by rw [drop_two l m i h (by omega)]; simp [e])
      · rw [if_neg e]
        congr 1
        exact (decide_eq_false (by rw [drop_two l m i h (by omega)]; simp [e])).symm
    · rw [if_neg (by omega), List.drop_of_length_le (by omega), List.drop_of_length_le (by omega)]
      simp
theorem equal_f (l m : List Int) (hn : l.length ≤ 17592186044416) (k : Nat) (hk : l.length < k) : slices_Equal_int_int.f k l m = some (decide (l = m)) := by
  unfold slices_Equal_int_int.f
  by_cases h : l.length = m.length
  · rw [if_pos (by omega)]
    have := equal_l0 l m h hn l.length k 0 (by omega) (by omega) hk
    simpa using this
  · rw [if_neg (by omega)]
    congr 1
    exact (decide_eq_false (fun e => h (by rw [e]))).symm
theorem sorted_f (l : List Int) (hn : l.length < 17592186044416) (k : Nat) (hk : l.length < k) : Go.Proofs.YtjgdnhmbfeekoaaGreatDoor.PB.canon_Sorted.f k l = some (decide (order l = l)) := by
  unfold Go.Proofs.YtjgdnhmbfeekoaaGreatDoor.PB.canon_Sorted.f canon_Order.f
  rw [if_pos hn]
  simp only [Option.bind_some]
  rw [equal_f (order l) l (by rw [order_length]; omega) k (by rw [order_length]; omega)]
  rfl
theorem values_l0 (l : List Int) (hn : l.length < 17592186044416) : ∀ (d k i : Nat), l.length - i = d → i ≤ l.length → d < k → canon_values.l0 k (l.take i) l l.length i = some l
  | d, 0, i, _, _, hk => absurd hk (by omega)
  | d, k + 1, i, hd, hi, hk => by
    unfold canon_values.l0
    by_cases h : i < l.length
    · rw [if_pos (by omega), if_pos (by omega), if_pos (by omega), if_pos (by have := List.length_take_le i l; omega), rd_nat l i h, wrap_nat h (by omega), ← List.take_succ_eq_append_getElem h]
      exact values_l0 l hn (d - 1) k (i + 1) (by omega) (by omega) (by omega)
    · rw [if_neg (by omega), List.take_of_length_le (by omega)]
theorem values_f (l : List Int) (hn : l.length < 17592186044416) (k : Nat) (hk : l.length < k) : canon_values.f k l = some l := by
  have := values_l0 l hn l.length k 0 (by omega) (by omega) hk
  simpa [canon_values.f] using this
theorem row_l0 (l : List Int) (hn : l.length < 17592186044416) : ∀ (d k i : Nat), l.length - i = d → i ≤ l.length → d < k → canon_row.l0 k l i = some ((i + rowN (l.drop i) : Nat) : Int)
  | d, 0, i, _, _, hk => absurd hk (by omega)
  | d, k + 1, i, hd, hi, hk => by
    unfold canon_row.l0
    by_cases h : i < l.length
    · rw [if_pos (by omega), if_pos (by omega), rd_nat l i h, wrap_nat h (by omega), List.drop_eq_getElem_cons h]
      unfold prop_Mark.f
      simp only [Option.bind_some]
      by_cases e : 0 < ccc l[i]
      · rw [if_pos (by simpa using e), row_l0 l hn (d - 1) k (i + 1) (by omega) (by omega) (by omega), rowN_mark e]
        congr 2; omega
      · rw [if_neg (by simpa using e), rowN_none e]
        rfl
    · rw [if_neg (by omega), List.drop_of_length_le (by omega)]
      rfl
theorem row_f (l : List Int) (hn : l.length < 17592186044416) (k : Nat) (hk : l.length < k) : canon_row.f k l = some (rowN l : Int) := by
  have := row_l0 l hn l.length k 0 (by omega) (by omega) hk
  simpa [canon_row.f] using this
theorem marks_l0 : ∀ (l : List Int) (k m : Nat), l.length < 17592186044416 → 2 * l.length < k → Go.Proofs.YtjgdnhmbfeekoaaGreatDoor.PB.canon_Marks.l0 k m l = some ((max m (marks l) : Nat) : Int)
  | l, 0, m, _, hk => absurd hk (by omega)
  | [], k + 1, m, _, hk => by unfold Go.Proofs.YtjgdnhmbfeekoaaGreatDoor.PB.canon_Marks.l0; simp [marks, marksN]
  | r :: l, k + 1, m, hn, hk => by
    unfold Go.Proofs.YtjgdnhmbfeekoaaGreatDoor.PB.canon_Marks.l0
    simp only [List.length_cons] at hn hk
    rw [if_pos (by simp only [List.length_cons]; omega), row_f (r :: l) (by simpa using hn) k (by simp only [List.length_cons]; omega)]
    simp only [Option.bind_some]
    rw [if_pos (by simp only [List.length_cons]; omega)]
    have e : mx (m : Int) (rowN (r :: l) : Int) = ((max m (rowN (r :: l)) : Nat) : Int) := by unfold mx; split <;> omega
    rw [e]
    show Go.Proofs.YtjgdnhmbfeekoaaGreatDoor.PB.canon_Marks.l0 k _ l = _
    rw [marks_l0 l k _ (by omega) (by omega), marks_cons]
    congr 2; omega
theorem marks_f (l : List Int) (hn : l.length < 17592186044416) (k : Nat) (hk : 2 * l.length < k) : Go.Proofs.YtjgdnhmbfeekoaaGreatDoor.PB.canon_Marks.f k l = some (marks l : Int) := by
  unfold Go.Proofs.YtjgdnhmbfeekoaaGreatDoor.PB.canon_Marks.f
  rw [values_f l hn k (by omega)]
  have := marks_l0 l k 0 hn hk
  simpa using this
theorem awake7_f : pentroughlaw07_awake.f 10 = some true := by
  unfold pentroughlaw07_awake.f
  have h1 : canon_Order.f [97, 770, 803] = some [97, 803, 770] := by decide +kernel
  have h2 : canon_Compose.f [97, 803, 770] = some [7853] := by decide +kernel
  rw [h1]
  simp only [Option.bind_some, h2]
  rw [sorted_f [97, 803, 770] (by decide) 10 (by decide), marks_f [97, 803, 770] (by decide) 10 (by decide)]
  decide +kernel

/-! ### contracts in closed form -/
def ref01_Same.f (l0 l1 : List Int) : Option Bool := if l0.length < 17592186044416 then some (decide (l0 = l1)) else none
theorem ref01_Same.calls (A0 : Option Addr) (c0 : Nat) (l0 : List Int) (A1 : Option Addr) (c1 : Nat) (l1 : List Int) (r : Bool) (w : World) (hr0 : Kd.C (Kd.int .i64) w A0 l0.length l0) (hc0 : l0.length ≤ c0) (hr1 : Kd.C (Kd.int .i64) w A1 l1.length l1) (hc1 : l1.length ≤ c1) (h : ref01_Same.f l0 l1 = some r) :
    Calls Tryz.prog 18 #[.slice A0 l0.length c0, .slice A1 l1.length c1] w fun e w' => e = .returned (.bool r) ∧ Drawn0 w w' := by
  unfold ref01_Same.f at h
  split at h
  case isFalse => cases h
  rename_i hl
  cases h
  exact pentroughref01_Same.calls (l0.length + 1) A0 c0 l0 A1 c1 l1 _ w hr0 hc0 hr1 hc1 (same_f l0 l1 (by omega) _ (by omega))
def slices_Equal.f (l0 l1 : List Int) : Option Bool := if l0.length < 17592186044416 then some (decide (l0 = l1)) else none
theorem slices_Equal.calls (A0 : Option Addr) (c0 : Nat) (l0 : List Int) (A1 : Option Addr) (c1 : Nat) (l1 : List Int) (r : Bool) (w : World) (hr0 : Kd.C (Kd.int .i64) w A0 l0.length l0) (hc0 : l0.length ≤ c0) (hr1 : Kd.C (Kd.int .i64) w A1 l1.length l1) (hc1 : l1.length ≤ c1) (h : slices_Equal.f l0 l1 = some r) :
    Calls Tryz.prog 67 #[.slice A0 l0.length c0, .slice A1 l1.length c1] w fun e w' => e = .returned (.bool r) ∧ Drawn0 w w' := by
  unfold slices_Equal.f at h
  split at h
  case isFalse => cases h
  rename_i hl
  cases h
  exact slices_Equal_int_int.calls (l0.length + 1) A0 c0 l0 A1 c1 l1 _ w hr0 hc0 hr1 hc1 (equal_f l0 l1 (by omega) _ (by omega))
def canon_Sorted.f (l0 : List Int) : Option Bool := if l0.length < 17592186044416 then some (decide (order l0 = l0)) else none
theorem canon_Sorted.calls (A0 : Option Addr) (c0 : Nat) (l0 : List Int) (r : Bool) (w : World) (hr0 : Kd.C (Kd.int .i64) w A0 l0.length l0) (hc0 : l0.length ≤ c0) (h : canon_Sorted.f l0 = some r) :
    Calls Tryz.prog 25 #[.slice A0 l0.length c0] w fun e w' => e = .returned (.bool r) ∧ Below w.heap.size w w' := by
  unfold canon_Sorted.f at h
  split at h
  case isFalse => cases h
  rename_i hl
  cases h
  exact Go.Proofs.YtjgdnhmbfeekoaaGreatDoor.PB.canon_Sorted.calls (l0.length + 1) A0 c0 l0 _ w hr0 hc0 (sorted_f l0 hl _ (by omega))
def canon_Marks.f (l0 : List Int) : Option Int := if l0.length < 17592186044416 then some (marks l0 : Int) else none
theorem canon_Marks.calls (A0 : Option Addr) (c0 : Nat) (l0 : List Int) (r : Int) (w : World) (hr0 : Kd.C (Kd.int .i64) w A0 l0.length l0) (hc0 : l0.length ≤ c0) (h : canon_Marks.f l0 = some r) :
    Calls Tryz.prog 37 #[.slice A0 l0.length c0] w fun e w' => e = .returned (.int .i64 r) ∧ Below w.heap.size w w' := by
  unfold canon_Marks.f at h
  split at h
  case isFalse => cases h
  rename_i hl
  cases h
  exact Go.Proofs.YtjgdnhmbfeekoaaGreatDoor.PB.canon_Marks.calls (2 * l0.length + 1) A0 c0 l0 _ w hr0 hc0 (marks_f l0 hl _ (by omega))
def law07_awake.f : Option Bool := some true
theorem law07_awake.calls (r : Bool) (w : World) (h : law07_awake.f = some r) :
    Calls Tryz.prog 22 #[] w fun e w' => e = .returned (.bool r) ∧ Below w.heap.size w w' := by
  cases h
  exact pentroughlaw07_awake.calls 10 true w awake7_f
end Go.Proofs.Pt
end

/- ==== the text E8 ==== -/
section
/- The contracts that the statements of layers 5 to 8 lean on, together. -/
namespace Go.Proofs.Pt
end Go.Proofs.Pt
end

/- ==== the text M5 ==== -/
section
/- No more marks in a row than may be, and the one form of all that are alike: what is in that form stays. No program is in sight here. -/
namespace Go.Proofs.Pt

/-! ### no more than thirty marks in a row -/
def safeN : Nat → List Int → List Int
  | _, [] => []
  | n, r :: l => if 0 < ccc r then (if n = 30 then 847 :: r :: safeN 1 l else r :: safeN (n + 1) l) else r :: safeN 0 l
/-- How many marks stand at the end by then. -/
def safeC : Nat → List Int → Nat
  | n, [] => n
  | n, r :: l => if 0 < ccc r then (if n = 30 then safeC 1 l else safeC (n + 1) l) else safeC 0 l
def safe (l : List Int) : List Int := safeN 0 l
theorem safeN_append (a b : List Int) : ∀ n, safeN n (a ++ b) = safeN n a ++ safeN (safeC n a) b := by
  induction a with
  | nil => intro n; rfl
  | cons r a ih => intro n; simp only [List.cons_append, safeN, safeC]; split <;> (try split) <;> simp [ih]
theorem safeC_append (a b : List Int) : ∀ n, safeC n (a ++ b) = safeC (safeC n a) b := by
  induction a with
  | nil => intro n; rfl
  | cons r a ih => intro n; simp only [List.cons_append, safeC]; split <;> (try split) <;> simp [ih]
theorem safe_snoc (p : List Int) (d : Int) : safe (p ++ [d]) = safe p ++ (if 0 < ccc d ∧ safeC 0 p = 30 then [847, d] else [d]) := by
  unfold safe
  rw [safeN_append]
  simp only [safeN]
  by_cases h : 0 < ccc d <;> by_cases h2 : safeC 0 p = 30 <;> simp [h, h2]
theorem safeC_snoc (p : List Int) (d : Int) : safeC 0 (p ++ [d]) = if 0 < ccc d then (if safeC 0 p = 30 then 1 else safeC 0 p + 1) else 0 := by
  rw [safeC_append]; rfl
theorem safe_split (a b : List Int) {s : Int} (hs : ccc s = 0) : safe (a ++ s :: b) = safe a ++ s :: safe b := by
  unfold safe
  rw [safeN_append]
  simp only [safeN]
  rw [if_neg (by omega)]
theorem safe_head {s : Int} (hs : ccc s = 0) (b : List Int) : safe (s :: b) = s :: safe b := by
  simpa [safe, safeN] using safe_split [] b hs
theorem mem_safeN {x : Int} (l : List Int) : ∀ n, x ∈ safeN n l → x = 847 ∨ x ∈ l := by
  induction l with
  | nil => intro n h; simp [safeN] at h
  | cons r l ih =>
    intro n h
    simp only [safeN] at h
    split at h
    · split at h
      · simp at h; rcases h with h | h | h
        · exact .inl h
        · exact .inr (by simp [h])
        · rcases ih _ h with h | h; exact .inl h; exact .inr (by simp [h])
      · simp at h; rcases h with h | h
        · exact .inr (by simp [h])
        · rcases ih _ h with h | h; exact .inl h; exact .inr (by simp [h])
    · simp at h; rcases h with h | h
      · exact .inr (by simp [h])
      · rcases ih _ h with h | h; exact .inl h; exact .inr (by simp [h])
theorem safeN_fix (l : List Int) : ∀ n, marksN n l ≤ 30 → safeN n l = l := by
  induction l with
  | nil => intro n _; rfl
  | cons r l ih =>
    intro n h
    simp only [marksN] at h
    simp only [safeN]
    by_cases hr : 0 < ccc r
    · rw [if_pos hr] at h ⊢
      have := marksN_ge l (n + 1)
      rw [if_neg (by omega), ih (n + 1) h]
    · rw [if_neg hr] at h ⊢
      rw [ih 0 (by omega)]
theorem safe_fix {l : List Int} (h : marks l ≤ 30) : safe l = l := safeN_fix l 0 h
theorem safeN_marks (l : List Int) : ∀ n, n ≤ 30 → marksN n (safeN n l) ≤ 30 := by
  induction l with
  | nil => intro n h; exact h
  | cons r l ih =>
    intro n hn
    simp only [safeN]
    split
    · rename_i hr
      split
      · simp only [marksN]
        rw [if_neg (by rw [ccc_joiner]; omega), if_pos hr]
        have := ih 1 (by omega); simp only [Nat.zero_add]; omega
      · simp only [marksN]; rw [if_pos hr]; exact ih _ (by omega)
    · simp only [marksN]; rw [if_neg (by assumption)]; have := ih 0 (by omega); omega
theorem safe_marks (l : List Int) : marks (safe l) ≤ 30 := safeN_marks l 0 (by omega)
theorem safe_safe (l : List Int) : safe (safe l) = safe l := safe_fix (safe_marks l)
theorem safeN_length (l : List Int) : ∀ n, l.length ≤ (safeN n l).length ∧ ((safeN n l).length - l.length) * 30 ≤ l.length + n := by
  induction l with
  | nil => intro n; simp [safeN]
  | cons r l ih =>
    intro n
    simp only [safeN]
    split
    · split
      · have := ih 1; simp only [List.length_cons]; omega
      · have := ih (n + 1); simp only [List.length_cons]; omega
    · have := ih 0; simp only [List.length_cons]; omega
theorem safeC_le (l : List Int) : ∀ n, n ≤ 30 → safeC n l ≤ 30 := by
  induction l with
  | nil => intro n h; exact h
  | cons r l ih =>
    intro n h
    simp only [safeC]
    split
    · split
      · exact ih 1 (by omega)
      · exact ih _ (by omega)
    · exact ih 0 (by omega)

/-! ### the form -/
def nfkd (l : List Int) : List Int := order (safe (made l))
def nfkc (l : List Int) : List Int := compose (nfkd l)
theorem nfkd_plain {l : List Int} {x : Int} (h : x ∈ nfkd l) : full x = [x] := by
  unfold nfkd at h
  rw [mem_order] at h
  rcases mem_safeN _ _ h with rfl | h
  · exact full_plain (.inr (.inr rfl))
  · exact made_of_mem h
theorem nfkd_sorted (l : List Int) : Sorted (nfkd l) := sorted_order _
theorem nfkd_marks (l : List Int) : marks (nfkd l) ≤ 30 := by
  unfold nfkd; rw [order_marks]; exact safe_marks _
theorem nfkd_made (l : List Int) : nfkd (made l) = nfkd l := by unfold nfkd; rw [made_made]
theorem nfkc_made (l : List Int) : nfkc (made l) = nfkc l := by unfold nfkc; rw [nfkd_made]
theorem nfkd_congr {l m : List Int} (h : made l = made m) : nfkd l = nfkd m := by unfold nfkd; rw [h]
theorem nfkc_congr {l m : List Int} (h : made l = made m) : nfkc l = nfkc m := by unfold nfkc; rw [nfkd_congr h]
theorem nfkd_nfkd (l : List Int) : nfkd (nfkd l) = nfkd l := by
  have h1 : made (nfkd l) = nfkd l := made_plain fun _ h => nfkd_plain h
  show order (safe (made (nfkd l))) = nfkd l
  rw [h1, safe_fix (nfkd_marks l)]; exact nfkd_sorted l
theorem nfkc_nfkd (l : List Int) : nfkc (nfkd l) = nfkc l := by unfold nfkc; rw [nfkd_nfkd]
theorem nfkc_alike (l : List Int) : Alike (made (nfkc l)) (nfkd l) := compose_alike (fun _ h => nfkd_plain h) (nfkd_sorted l)
theorem nfkd_nfkc (l : List Int) : nfkd (nfkc l) = nfkd l := by
  have h := nfkc_alike l
  show order (safe (made (nfkc l))) = nfkd l
  rw [safe_fix (by rw [h.marks]; exact nfkd_marks l), h.order]; exact nfkd_sorted l
theorem nfkc_nfkc (l : List Int) : nfkc (nfkc l) = nfkc l := by
  show compose (nfkd (nfkc l)) = compose (nfkd l)
  rw [nfkd_nfkc]
/-- Of no value that is a mark more stands in what it is made of; of what is no mark the first one is no mark. -/
theorem decT_marks : decT.all (fun x => decide (ccc x.1 = 0) && (match x.2 with | [] => false | y :: _ => decide (ccc y = 0))) = true := by decide +kernel
theorem full_mark {r : Int} (h : 0 < ccc r) : full r = [r] := by
  rcases full_cases r with ⟨h0, h1, _⟩ | ⟨h0, h1, _⟩ | h' | h'
  · rw [ccc_zero_of (by omega)] at h; omega
  · rw [ccc_zero_of (by omega)] at h; omega
  · have := all_mem decT_marks h'; simp at this; omega
  · exact h'
theorem full_head {r : Int} (h : ccc r = 0) : ∃ y t, full r = y :: t ∧ ccc y = 0 := by
  rcases full_cases r with ⟨h0, h1, e⟩ | ⟨h0, h1, e⟩ | h' | h'
  · rw [e]; unfold syl; split <;> exact ⟨_, _, rfl, ccc_zero_of (by omega)⟩
  · rw [e]; exact ⟨_, _, rfl, ccc_zero_of (by omega)⟩
  · have := all_mem decT_marks h'
    cases e : full r with
    | nil => exact absurd e (full_ne_nil r)
    | cons y t => rw [e] at this; simp at this; exact ⟨y, t, rfl, this.2⟩
  · rw [h']; exact ⟨_, _, rfl, h⟩
theorem marksN_mono (l : List Int) : ∀ n m, n ≤ m → marksN n l ≤ marksN m l := by
  induction l with
  | nil => intro n m h; exact h
  | cons r l ih =>
    intro n m h
    simp only [marksN]
    split
    · exact ih _ _ (by omega)
    · omega
theorem marksN_right (t l : List Int) : ∀ m, marksN 0 l ≤ marksN m (t ++ l) := by
  induction t with
  | nil => intro m; exact marksN_mono l 0 m (by omega)
  | cons r t ih =>
    intro m
    simp only [List.cons_append, marksN]
    split
    · exact ih _
    · have := ih 0; omega
theorem marksN_made (l : List Int) : ∀ n m, n ≤ m → marksN n l ≤ marksN m (made l) := by
  induction l with
  | nil => intro n m h; exact h
  | cons r l ih =>
    intro n m h
    rw [made_cons]
    by_cases hr : 0 < ccc r
    · rw [full_mark hr]
      simp only [List.singleton_append, marksN]
      rw [if_pos hr, if_pos hr]
      exact ih _ _ (by omega)
    · have h0 : ccc r = 0 := by have := ccc_nonneg r; omega
      obtain ⟨y, t, e, hy⟩ := full_head h0
      rw [e]
      simp only [List.cons_append, marksN]
      rw [if_neg (by omega), if_neg (by omega)]
      have h1 := ih 0 0 (by omega)
      have h2 := marksN_right t (made l) 0
      omega
theorem nfkc_marks (l : List Int) : marks (nfkc l) ≤ 30 := by
  have h1 := marksN_made (nfkc l) 0 0 (by omega)
  have h2 := (nfkc_alike l).marks
  have h3 := nfkd_marks l
  unfold marks at h2 h3 ⊢
  omega

/-! ### rows apart -/
theorem made_split (a b : List Int) {s : Int} (hs : full s = [s]) : made (a ++ s :: b) = made a ++ s :: made b := by
  rw [made_append, made_cons, hs]; rfl
theorem nfkd_split (a b : List Int) {s : Int} (h0 : ccc s = 0) (hs : full s = [s]) : nfkd (a ++ s :: b) = nfkd a ++ nfkd (s :: b) := by
  have e : nfkd (s :: b) = s :: nfkd b := by
    have := made_split [] b hs
    simp only [List.nil_append, made_nil] at this
    unfold nfkd; rw [this, safe_head h0, order_head h0]
  rw [e]
  unfold nfkd
  rw [made_split a b hs, safe_split _ _ h0, order_split _ _ h0]
theorem nfkd_cons {s : Int} (b : List Int) (h0 : ccc s = 0) (hs : full s = [s]) : nfkd (s :: b) = s :: nfkd b := by
  have := made_split [] b hs
  simp only [List.nil_append, made_nil] at this
  unfold nfkd; rw [this, safe_head h0, order_head h0]
theorem nfkc_split (a b : List Int) {s : Int} (h0 : ccc s = 0) (hs : full s = [s]) (hj : ∀ x, join x s = none) : nfkc (a ++ s :: b) = nfkc a ++ nfkc (s :: b) := by
  unfold nfkc
  rw [nfkd_split a b h0 hs, nfkd_cons b h0 hs, compose_split _ _ h0 hj]
theorem nfkc_snoc (a : List Int) {s : Int} (h0 : ccc s = 0) (hs : full s = [s]) (hj : ∀ x, join x s = none) : nfkc (a ++ [s]) = nfkc a ++ [s] := by
  rw [nfkc_split a [] h0 hs hj]
  congr 1
  unfold nfkc
  rw [nfkd_cons [] h0 hs]
  have := compose_snoc_new [] h0 hj
  exact this
theorem low_plain {r : Int} (h : r < 160) : ccc r = 0 ∧ full r = [r] ∧ ∀ x, join x r = none :=
  ⟨ccc_zero_of (by omega), full_plain (.inl h), fun x => join_low x (by omega)⟩
theorem nfkc_ascii {l : List Int} (h : ∀ x ∈ l, x < 160) : nfkc l = l := by
  rcases List.eq_nil_or_concat l with rfl | ⟨l', z, rfl⟩
  · rfl
  · rw [List.concat_eq_append] at h ⊢
    obtain ⟨h0, h1, h2⟩ := low_plain (h z (by simp))
    rw [nfkc_snoc l' h0 h1 h2, nfkc_ascii fun x hx => h x (by simp [hx])]
termination_by l.length
decreasing_by simp_all

/-- What has a mark more, and another of an unlike class, the other way round. -/
theorem nfkc_swap (l : List Int) {a b : Int} (ha : 0 < ccc a) (hb : 0 < ccc b) (hne : ccc a ≠ ccc b) (hm : marks (made l) ≤ 28) : nfkc (l ++ [a, b]) = nfkc (l ++ [b, a]) := by
  have hA : Alike (made (l ++ [a, b])) (made (l ++ [b, a])) := by
    simp only [made_append, made_cons, made_nil, full_mark ha, full_mark hb]
    exact Alike.left _ (by simpa using Alike.step [] [] a b ha hb hne)
  have hk : ∀ (p : List Int) n, marksN n (p ++ made [a, b]) ≤ marksN n p + 2 := by
    intro p
    induction p with
    | nil => intro n; simp [made_cons, made_nil, full_mark ha, full_mark hb, marksN, ha, hb]
    | cons r p ih =>
      intro n
      simp only [List.cons_append, marksN]
      split
      · exact ih _
      · have := ih 0; omega
  have h1 : marks (made (l ++ [a, b])) ≤ 30 := by
    rw [made_append]
    have := hk (made l) 0
    unfold marks at hm ⊢; omega
  unfold nfkc nfkd
  rw [safe_fix h1, safe_fix (by rw [← hA.marks]; exact h1), hA.order]

end Go.Proofs.Pt
end

/- ==== the text W25 ==== -/
section
/- The walk of package nfkc's Safe: no more marks in a row than may be. -/
namespace Go.Proofs.Pt
open Go Go.RowKit Go.Proofs.YtjgdnhmbfeekoaaGreatDoorW.PrintWords

theorem safe_next (l : List Int) (k : Nat) (hk : k < l.length) (h : ¬ 0 < ccc l[k]) : safe (l.take (k + 1)) = safe (l.take k) ++ [l[k]] ∧ safeC 0 (l.take (k + 1)) = 0 := by
  rw [List.take_succ_eq_append_getElem hk, safe_snoc, safeC_snoc, if_neg (fun x => h x.1), if_neg h]
  exact ⟨rfl, rfl⟩
theorem safe_mark (l : List Int) (k : Nat) (hk : k < l.length) (h : 0 < ccc l[k]) (hn : safeC 0 (l.take k) ≠ 30) : safe (l.take (k + 1)) = safe (l.take k) ++ [l[k]] ∧ safeC 0 (l.take (k + 1)) = safeC 0 (l.take k) + 1 := by
  rw [List.take_succ_eq_append_getElem hk, safe_snoc, safeC_snoc, if_neg (fun x => hn x.2), if_pos h, if_neg hn]
  exact ⟨rfl, rfl⟩
theorem safe_full (l : List Int) (k : Nat) (hk : k < l.length) (h : 0 < ccc l[k]) (hn : safeC 0 (l.take k) = 30) : safe (l.take (k + 1)) = safe (l.take k) ++ [847] ++ [l[k]] ∧ safeC 0 (l.take (k + 1)) = 1 := by
  rw [List.take_succ_eq_append_getElem hk, safe_snoc, safeC_snoc, if_pos ⟨h, hn⟩, if_pos h, if_pos hn]
  exact ⟨by simp, rfl⟩
theorem safe_len (l : List Int) (k : Nat) (hk : k ≤ l.length) : (safe (l.take k)).length ≤ 2 * k := by
  have := safeN_length (l.take k) 0
  unfold safe
  simp only [List.length_take] at this
  omega
def nfkc_Safe.f (l0 : List Int) : Option (List Int) := if l0.length < 4398046511104 then some (safe l0) else none
set_option maxHeartbeats 2000000 in
theorem nfkc_Safe.calls (A0 : Option Addr) (c0 : Nat) (l0 : List Int) (r : List Int) (w : World) (hr0 : Kd.C (Kd.int .i64) w A0 l0.length l0) (_hc0 : l0.length ≤ c0) (h : nfkc_Safe.f l0 = some r) :
    Calls Tryz.prog 29 #[.slice A0 l0.length c0] w fun e w' => ∃ v0_ : Value, e = .returned (v0_) ∧ Kd.R (Kd.int .i64) 3 w' w.heap.size (fun _ => True) v0_ r ∧ Below w.heap.size w w' := by
  unfold nfkc_Safe.f at h
  split at h
  case isFalse => cases h
  rename_i hlen
  cases h
  have HR := Lib.hid hr0; clear hr0
  have HL := Lib.hid hlen; clear hlen
  go_enter Tryz.func29, Tryz.ntmps29
  go_wp2
  go_step3
  go_wp2
  go_step3
  go_wp2
  go_loopg [3, 4, 9] l0.length (fun g v n i wr => ∃ k : Nat, k + g = l0.length ∧ i = .int .i64 k ∧ n = .int .i64 (safeC 0 (l0.take k) : Int) ∧ Hid (wr.ownsRow w.heap.size 3 1 v (safe (l0.take k)).length (nums .i64 (safe (l0.take k)))) ∧ Hid (Below w.heap.size w wr))
  case atStart => exact ⟨0, by omega, rfl, rfl, own_nil _ _ _ _, Below.refl _ _⟩
  case round =>
    obtain ⟨k, hk, rfl, rfl, HO, HB⟩ := hrel
    obtain ⟨A1, cap1, hv1⟩ := own_slice HO.out
    subst hv1
    by_cases hlt : k < l0.length
    · obtain ⟨gk, rfl⟩ : ∃ m, gk = m + 1 := ⟨gk - 1, by omega⟩
      obtain ⟨ad, e, hcell⟩ := Kd.at_int HR.out k (by omega) (by omega)
      subst e
      have hcell2 : wr.cell? (ad.add k) = some (.int .i64 (rd l0 k)) := (HB.out.cell (World.block_lt_of_cell? w _ hcell)).trans hcell
      clear hcell
      have hrd : rd l0 (k : Int) = l0[k] := by simp [rd, List.getD_eq_getElem?_getD, List.getElem?_eq_getElem hlt]
      rw [hrd] at hcell2
      have hkz : (k : Int) < (l0.length : Int) := by omega
      have hlz : (l0.length : Int) < 4398046511104 := by have := HL.out; omega
      have hsl := safe_len l0 k (by omega)
      have hc30 := safeC_le (l0.take k) 0 (by omega)
      have HSL := Lib.hid hsl
      have HK := Lib.hid hk
      by_cases hm : 0 < ccc l0[k]
      · by_cases h30 : safeC 0 (l0.take k) = 30
        · have HN := Lib.hid (safe_full l0 k hlt hm h30)
          have hd : decide (0 < ccc l0[k]) = true := decide_eq_true hm
          have he : ((safeC 0 (l0.take k) : Int) == 30) = true := by simpa using (by omega : (safeC 0 (l0.take k) : Int) = 30)
          generalize safeC 0 (l0.take k) = n at *
          generalize safe (l0.take k) = xs at *
          generalize l0[k] = x at *
          clear hsl hk hm h30 hrd
          go_wp2_with fail
          refine (mark_any x _).mono ?_
          rintro e w1 ⟨rfl, hb1⟩
          rw [hd]
          have HO1 : Hid (w1.ownsRow w.heap.size 3 1 (.slice A1 xs.length cap1) xs.length (nums .i64 xs)) := pw_own_below HO.out hb1
          have HB1 : Hid (Below w.heap.size w w1) := HB.out.trans (hb1.mono HB.out.size)
          have HZ1 : Hid (w.heap.size ≤ w1.heap.size) := HB1.out.size
          clear hb1 hcell2 HO HB
          go_wp2_with (at_builtin; refine print_append_num (w0 := w) w.heap.size rfl (.tmp 24) (.tmp 25) 25 3 .i64 8 rfl Tryz.underlying25 info_int (by decide) (.slice A1 xs.length cap1) xs 847 rfl rfl HO1.out HB1.out HZ1.out (by have := HSL.out; omega) ?_)
          intro v1 w4 hown hbel hgrow _
          have HO4 : Hid (w4.ownsRow w.heap.size 3 1 v1 (xs ++ [847]).length (nums .i64 (xs ++ [847]))) := by show World.ownsRow _ _ _ _ _ _ _; rw [List.length_append]; exact hown
          have HB4 := Lib.hid hbel; clear hown hbel hgrow HO1 HB1 HZ1
          have HZ4 : Hid (w.heap.size ≤ w4.heap.size) := HB4.out.size
          have hl4 : (xs ++ [847]).length = xs.length + 1 := by simp
          have HL4 := Lib.hid hl4; clear hl4
          generalize xs ++ [847] = ys at *
          obtain ⟨A2, cap2, hv2⟩ := own_slice HO4.out
          subst hv2
          go_wp2_with (at_builtin; refine print_append_num (w0 := w) w.heap.size rfl (.tmp 29) (.tmp 31) 25 3 .i64 8 rfl Tryz.underlying25 info_int (by decide) (.slice A2 ys.length cap2) ys x rfl rfl HO4.out HB4.out HZ4.out (by have := HSL.out; have := HL4.out; omega) ?_)
          intro v2 w5 hown hbel hgrow _
          have HO5 := Lib.hid hown; have HB5 := Lib.hid hbel; clear hown hbel hgrow
          obtain ⟨A3, cap3, hv3⟩ := own_slice HO5.out
          subst hv3
          go_wp2
          go_roundg gk
          case measure => omega
          case rel => exact ⟨k + 1, by have := HK.out; omega, by go_num, by rw [HN.out.2]; rfl, by rw [HN.out.1]; show World.ownsRow _ _ _ _ _ _ _; rw [List.length_append]; exact HO5.out, HB5.out⟩
        · have HN := Lib.hid (safe_mark l0 k hlt hm h30)
          have hd : decide (0 < ccc l0[k]) = true := decide_eq_true hm
          have hne : ((safeC 0 (l0.take k) : Int) == 30) = false := by simpa using (by omega : ¬ (safeC 0 (l0.take k) : Int) = 30)
          generalize safeC 0 (l0.take k) = n at *
          generalize safe (l0.take k) = xs at *
          generalize l0[k] = x at *
          clear hsl hk hm h30 hrd
          go_wp2_with fail
          refine (mark_any x _).mono ?_
          rintro e w1 ⟨rfl, hb1⟩
          rw [hd]
          have HO1 : Hid (w1.ownsRow w.heap.size 3 1 (.slice A1 xs.length cap1) xs.length (nums .i64 xs)) := pw_own_below HO.out hb1
          have HB1 : Hid (Below w.heap.size w w1) := HB.out.trans (hb1.mono HB.out.size)
          have HZ1 : Hid (w.heap.size ≤ w1.heap.size) := HB1.out.size
          clear hb1 hcell2 HO HB
          go_wp2_with (at_builtin; refine print_append_num (w0 := w) w.heap.size rfl (.tmp 29) (.tmp 31) 25 3 .i64 8 rfl Tryz.underlying25 info_int (by decide) (.slice A1 xs.length cap1) xs x rfl rfl HO1.out HB1.out HZ1.out (by have := HSL.out; omega) ?_)
          intro v1 w4 hown hbel hgrow _
          have HO4 := Lib.hid hown; have HB4 := Lib.hid hbel; clear hown hbel hgrow
          obtain ⟨A2, cap2, hv2⟩ := own_slice HO4.out
          subst hv2
          go_wp2
          go_roundg gk
          case measure => omega
          case rel => exact ⟨k + 1, by have := HK.out; omega, by go_num, by rw [HN.out.2]; go_num, by rw [HN.out.1]; show World.ownsRow _ _ _ _ _ _ _; rw [List.length_append]; exact HO4.out, HB4.out⟩
      · have HN := Lib.hid (safe_next l0 k hlt hm)
        have hd : decide (0 < ccc l0[k]) = false := decide_eq_false hm
        generalize safeC 0 (l0.take k) = n at *
        generalize safe (l0.take k) = xs at *
        generalize l0[k] = x at *
        clear hsl hk hm hrd
        go_wp2_with fail
        refine (mark_any x _).mono ?_
        rintro e w1 ⟨rfl, hb1⟩
        rw [hd]
        have HO1 : Hid (w1.ownsRow w.heap.size 3 1 (.slice A1 xs.length cap1) xs.length (nums .i64 xs)) := pw_own_below HO.out hb1
        have HB1 : Hid (Below w.heap.size w w1) := HB.out.trans (hb1.mono HB.out.size)
        have HZ1 : Hid (w.heap.size ≤ w1.heap.size) := HB1.out.size
        clear hb1 hcell2 HO HB
        go_wp2_with (at_builtin; refine print_append_num (w0 := w) w.heap.size rfl (.tmp 17) (.tmp 19) 25 3 .i64 8 rfl Tryz.underlying25 info_int (by decide) (.slice A1 xs.length cap1) xs x rfl rfl HO1.out HB1.out HZ1.out (by have := HSL.out; omega) ?_)
        intro v1 w4 hown hbel hgrow _
        have HO4 := Lib.hid hown; have HB4 := Lib.hid hbel; clear hown hbel hgrow
        obtain ⟨A2, cap2, hv2⟩ := own_slice HO4.out
        subst hv2
        go_wp2
        go_roundg gk
        case measure => omega
        case rel => exact ⟨k + 1, by have := HK.out; omega, by go_num, by rw [HN.out.2]; rfl, by rw [HN.out.1]; show World.ownsRow _ _ _ _ _ _ _; rw [List.length_append]; exact HO4.out, HB4.out⟩
    · have e : l0.take k = l0 := List.take_of_length_le (by omega)
      rw [e] at HO ⊢
      obtain rfl : k = l0.length := by omega
      clear e
      go_wp2
      rw [Exit.noGoto_ret]
      go_ret
      exact ⟨_, rfl, Kd.R_of_own (enc := Value.int .i64) (h1 := fun _ => rfl) HO.out (fun _ _ => trivial), HB.out⟩
end Go.Proofs.Pt
end

/- ==== the text E9 ==== -/
section
/- The contracts that the base functions of layer 8 lean on, together. -/
namespace Go.Proofs.Pt
end Go.Proofs.Pt
end

/- ==== the text PEx0 ==== -/
section
-- PRINTED by print.py (a twelfth state) out of the translation. Not trusted: Lean checks it.
namespace Go.Proofs.YtjgdnhmbfeekoaaGreatDoor.PE
open Go.RowKit Go.Proofs.YtjgdnhmbfeekoaaGreatDoorW.PrintWords Go.Proofs.YtjgdnhmbfeekoaaGreatDoorW.PrintLast Go.Proofs.YtjgdnhmbfeekoaaGreatDoorW.PrintMore
attribute [local go_sem] max2_int min2_int max_two min_two max_three min_three max_four min_four   -- for this text's walks alone
set_option linter.unusedVariables false
set_option linter.unusedSimpArgs false



def errW : Option Int → Value
  | none => .nilIface
  | some c => .iface 0 (.int .i64 c)
theorem errW_none : errW none = .nilIface := rfl
theorem errW_some (c : Int) : errW (some c) = .iface 0 (.int .i64 c) := rfl

theorem info3 : (Tryz.prog.info? 3).map (fun i => (i.zero, i.size, i.bytes)) = some (some (.int .i64 0), 1, 8) := by kernel_rfl
-- the values' own types
def rd_L1 (xs : List (List Int)) (i : Int) : (List Int) := xs.getD i.toNat ([] : List Int)
theorem at_L1 {w : World} {A : Option Addr} {n : Nat} {xs : List (List Int)} (h : Kd.C (Kd.slice 3 (Kd.int .i64)) w A n xs) (i : Int) (h0 : 0 ≤ i) (h1 : i < n) : ∃ ad A0 c0, A = some ad ∧ w.cell? (ad.add i.toNat) = some (.slice A0 (rd_L1 xs i).length c0) ∧ (rd_L1 xs i).length ≤ c0 ∧ (Kd.int .i64).C w A0 (rd_L1 xs i).length (rd_L1 xs i) := by
  obtain ⟨ad, c, e, _, hK, hc0⟩ := Kd.C_get h ([] : List Int) i h0 h1
  have hc : ∀ j u, c[j]? = some u → w.cell? (ad.add (i.toNat * 1 + j)) = some u := hc0
  obtain ⟨A0, c0, rfl, l0, g0⟩ := hK
  exact ⟨ad, A0, c0, e, by have hq := hc 0 _ rfl; rwa [Nat.mul_one, Nat.add_zero] at hq, l0, g0⟩

end Go.Proofs.YtjgdnhmbfeekoaaGreatDoor.PE
end

/- ==== the text PEx1 ==== -/
section
-- PRINTED by print.py (a twelfth state) out of the translation. Not trusted: Lean checks it.
namespace Go.Proofs.YtjgdnhmbfeekoaaGreatDoor.PE
open Go.RowKit Go.Proofs.YtjgdnhmbfeekoaaGreatDoorW.PrintWords Go.Proofs.YtjgdnhmbfeekoaaGreatDoorW.PrintLast Go.Proofs.YtjgdnhmbfeekoaaGreatDoorW.PrintMore
attribute [local go_sem] max2_int min2_int max_two min_two max_three min_three max_four min_four   -- for this text's walks alone
set_option linter.unusedVariables false
set_option linter.unusedSimpArgs false

/-! ### nfkc_Made: function 27 -/
def nfkc_Made.l0 : Nat → List Int → List Int → Int → Int → Option (List Int)
  | 0, _, _, _, _ => none
  | k + 1, x3, x6, x7, x8 => if x8 < x7 then (if 0 ≤ x8 then (if x8 < (x6.length : Int) then ((Go.Proofs.Pt.decomp_Full.f (rd x6 x8)).bind fun t102 => (if x3.length + t102.length < 17592186044416 then (nfkc_Made.l0 k (x3 ++ t102) x6 x7 (wrap64 (x8 + 1))) else (none))) else (none)) else (none)) else (some x3)
def nfkc_Made.f (k : Nat) (l0 : List Int) : Option (List Int) := nfkc_Made.l0 k ([] : List Int) l0 (l0.length : Int) 0
theorem nfkc_Made.mono_l : ∀ k, (∀ y0 y1 y2 y3, LeO (nfkc_Made.l0 k y0 y1 y2 y3) (nfkc_Made.l0 (k + 1) y0 y1 y2 y3))
  | 0 => fun _ _ _ _ r h => by simp [nfkc_Made.l0] at h
  | k + 1 => by
    have ih0 := nfkc_Made.mono_l k
    · intro y0 y1 y2 y3
      unfold nfkc_Made.l0
      repeat' first
      | (with_reducible exact ih0 _ _ _ _)
      | (with_reducible exact LeO.refl _)
      | (with_reducible exact LeO.none _)
      | (with_reducible refine LeO.ite ?_ ?_)
      | (with_reducible refine LeO.bind ?_ (fun _ => ?_))
      | exact ih0 _ _ _ _
      | exact LeO.none _
      | refine LeO.ite ?_ ?_
      | refine LeO.bind ?_ (fun _ => ?_)
theorem nfkc_Made.mono : ∀ a0 k, LeO (nfkc_Made.f k a0) (nfkc_Made.f (k + 1) a0) := by
  intro a0 k
  have ih0 := nfkc_Made.mono_l k
  unfold nfkc_Made.f
  repeat' first
      | (with_reducible exact ih0 _ _ _ _)
      | (with_reducible exact LeO.refl _)
      | (with_reducible exact LeO.none _)
      | (with_reducible refine LeO.ite ?_ ?_)
      | (with_reducible refine LeO.bind ?_ (fun _ => ?_))
      | exact ih0 _ _ _ _
      | exact LeO.none _
      | refine LeO.ite ?_ ?_
      | refine LeO.bind ?_ (fun _ => ?_)
set_option maxHeartbeats 8000000 in
set_option maxRecDepth 100000 in
theorem nfkc_Made.calls (k : Nat) (A0 : Option Addr) (c0 : Nat) (l0 : List Int) (r : List Int) (w : World) (hr0 : Kd.C (Kd.int .i64) w A0 l0.length l0) (hc0 : l0.length ≤ c0) (h : nfkc_Made.f k l0 = some r) (hV : Go.Proofs.Pt.Vars w) :
    Calls Tryz.prog 27 #[.slice A0 l0.length c0] w fun e w' => ∃ v0_ : Value, e = .returned (v0_) ∧ Kd.R (Kd.int .i64) 3 w' w.heap.size (fun _ => True) v0_ r ∧ Below w.heap.size w w' := by
  have HV := Aside0.mk hV
  clear hV
  have HR0 := Aside0.mk hr0
  have HC0 := Aside0.mk hc0
  clear hr0 hc0
  have HB := Aside0.mk (Below.refl w.heap.size w)
  have H : (nfkc_Made.l0 k ([] : List Int) l0 (l0.length : Int) 0) = some r := h
  clear h
  have H' := Aside0.mk H
  clear H
  go_enter Tryz.func27, Tryz.ntmps27
  go_wp2
  go_loopg [3, 8] k (fun kq v3 v8 w' => ∃ (x3_1 : List Int) (x8_1 : Int), v8 = .int .i64 x8_1 ∧ Aside0 (nfkc_Made.l0 kq x3_1 l0 (l0.length : Int) x8_1 = some r) ∧ Aside0 (kq ≤ k) ∧ Aside0 (Kd.R (Kd.int .i64) 3 w' w.heap.size (fun _ => True) v3 x3_1) ∧ Aside0 (Below w.heap.size w w'))
  case atStart => exact ⟨(([] : List Int)), (0), (by first | rfl | (simp; done) | (simp [*]; done)), H', ⟨Nat.le_refl _⟩, ⟨by first | exact Kd.R_nil _ _ _ _ _ | exact Kd.N_nil _ _ _ _ _ | exact Kd.V_nil _ _ _ _ _ | exact Kd.Q_nil _ _ _ _ _ | exact Kd.S_nil _ _ _ _ _⟩, ⟨by repeat (first | (with_reducible first | exact HB.out | apply below_alloc | apply pw_below_drewN | apply below_drew1) | exact HB.out)⟩⟩
  case round =>
    clear H'
    obtain ⟨x3_1, x8_1, rfl, HA, HK1, HO_3, HB⟩ := hrel
    cases gk with
    | zero => exact absurd HA.out (by simp [nfkc_Made.l0])
    | succ k1 =>
      have H := HA.out
      clear HA
      simp only [nfkc_Made.l0] at H
      by_cases c2 : x8_1 < (l0.length : Int)
      · rw [if_pos c2] at H
        have c2b0 : decide (x8_1 < (l0.length : Int)) = true := decide_eq_true c2
        clear c2
        by_cases c3 : 0 ≤ x8_1
        · rw [if_pos c3] at H
          have c3b0 : decide (0 ≤ x8_1) = true := decide_eq_true c3
          clear c3
          by_cases c4 : x8_1 < (l0.length : Int)
          · rw [if_pos c4] at H
            have c4b0 : decide (x8_1 < (l0.length : Int)) = true := decide_eq_true c4
            clear c4
            replace H := Option.bind_eq_some_iff.mp H
            obtain ⟨t102, A50, H⟩ := H
            replace H : (if x3_1.length + t102.length < 17592186044416 then (nfkc_Made.l0 k1 (x3_1 ++ t102) l0 (l0.length : Int) (wrap64 (x8_1 + 1))) else (none)) = some r := H
            have A5 := Aside0.mk A50
            clear A50
            by_cases c6 : x3_1.length + t102.length < 17592186044416
            · rw [if_pos c6] at H
              have LMc6 := Aside0.mk c6
              clear c6
              obtain ⟨y105, hy105⟩ : ∃ y_ : List Int, y_ = (x3_1 ++ t102) := ⟨_, rfl⟩
              replace H : (nfkc_Made.l0 k1 y105 l0 (l0.length : Int) (wrap64 (x8_1 + 1))) = some r := by first | (rw [hy105]; with_reducible exact H) | (have H2_ := (Option.bind_some _ _).symm.trans H; rw [hy105]; with_reducible exact H2_) | (have H2_ := (Option.bind_some _ _).symm.trans H; with_reducible exact H2_) | with_reducible exact H | (rw [hy105]; exact H) | exact H
              have Ny105 := Aside0.mk hy105
              clear hy105
              have H' := Aside0.mk H
              clear H
              have p101 : 0 ≤ (x8_1 : Int) := of_decide_eq_true (by first | (with_reducible assumption) | assumption)
              have q101 : x8_1 < (l0.length : Int) := of_decide_eq_true (by first | (with_reducible assumption) | assumption)
              obtain ⟨ad101, e101, hx101_0⟩ := Kd.at_int HR0.out x8_1 p101 q101
              cases e101
              replace hx101_0 := (HB.out.cell (World.block_lt_of_cell? w _ hx101_0)).trans hx101_0
              replace p101 := eq_true p101
              replace q101 := eq_true q101
              go_wp2_with (first | ((with_reducible refine gate_callee (f := 17) rfl ?_); refine goesL_ (some 14) rfl rfl Tryz.func17 (by kernel_rfl) rfl #[.int .i64 (rd l0 x8_1)] rfl (by (try simp only [List.map_toArray, List.map_cons, List.map_nil]); first | done | rfl | (simp only [List.length_drop, List.length_take]; rfl)) ?_; (with_reducible refine (Go.Proofs.Pt.decomp_Full.calls (rd l0 x8_1) t102 _ A5.out ?sideV).mono ?_); (case sideV => exact HV.out.below (by repeat (first | (with_reducible first | exact HB.out | apply below_alloc | apply pw_below_drewN | apply below_drew1) | exact HB.out))); rintro e w7 ⟨v103, rfl, ho0, hb⟩; refine ⟨_, rfl, ?_⟩; have n0_ := Aside0.mk (Kd.R_elder' (by (with_reducible repeat (first | apply Kd.R_alloc | apply Kd.R_drewN | apply Kd.R_drew)); exact HO_3.out) (Kd.R_base ho0) hb); have n1_ := Aside0.mk (Kd.R_lower (Kd.R_new' ho0 (Kd.R_lt (by (with_reducible repeat (first | apply Kd.R_alloc | apply Kd.R_drewN | apply Kd.R_drew)); exact HO_3.out))) (below_size (by repeat (first | (with_reducible first | exact HB.out | apply below_alloc | apply pw_below_drewN | apply below_drew1) | exact HB.out)))); have n2_ := Aside0.mk (below_step (by repeat (first | (with_reducible first | exact HB.out | apply below_alloc | apply pw_below_drewN | apply below_drew1) | exact HB.out)) hb); clear HO_3; clear HB; have HO_3 := n0_; have HO104 := n1_; have HB := n2_; clear n0_ n1_ n2_; (try clear hb); (try clear hb2); (try clear hk); (try clear hi); (try clear ho0); obtain ⟨Ao9, co9, eo9⟩ := Kd.R_slice HO104.out; subst eo9) | ((with_reducible refine gate_builtin (b := .append) (xs := #[.tmp 12, .tmp 14]) rfl ?_); at_builtin; refine Kd.R_append_rows (Kd.int .i64) (w0 := w) w.heap.size rfl (.tmp 12) (.tmp 14) 25 3 (.int .i64 0) 8 rfl Tryz.underlying25 info3 rfl (by decide) (by omega) u3 x3_1 t102 _ _ _ (fun k_ => some k_ ≠ (.slice Ao9 t102.length co9 : Value).ownBlock) (fun _ => False) rfl rfl ?aO ?aR (fun _ _ h => h) (fun _ h => h.elim) ?aF ?aB ?aS ?aL ?_; (case aR => repeat (first | exact (Kd.R_reads' HO104.out).2.2 | (with_reducible refine Kd.C_alloc ?_ _) | (with_reducible refine Kd.C_drewN ?_ _) | (with_reducible refine Kd.C_drew ?_))); (case aB => exact (by repeat (first | (with_reducible first | exact HB.out | apply below_alloc | apply pw_below_drewN | apply below_drew1) | exact HB.out))); (case aF => exact (fun k_ hk => Kd.fresh' (Kd.R_lt (by (with_reducible repeat (first | apply Kd.R_alloc | apply Kd.R_drewN | apply Kd.R_drew)); exact HO104.out)) k_ hk)); (case aO => exact (by (with_reducible repeat (first | apply Kd.R_alloc | apply Kd.R_drewN | apply Kd.R_drew)); exact Kd.R_mono HO_3.out (fun _ hk => hk.2))); (case aS => exact (below_size (by repeat (first | (with_reducible first | exact HB.out | apply below_alloc | apply pw_below_drewN | apply below_drew1) | exact HB.out)))); (case aL => have := LMc6.out; omega); intro v106 w8 ho hb hg hat; rw [← Ny105.out] at ho; have n0_ := Aside0.mk (Kd.R_after (ok := (fun _ => True)) (by (with_reducible repeat (first | apply Kd.R_alloc | apply Kd.R_drewN | apply Kd.R_drew)); exact HO104.out) hg hat); have n1_ := Aside0.mk (hb); have n2_ := Aside0.mk (ho); clear HO104; clear HB; clear HO_3; have HO104 := n0_; have HB := n1_; have HO107 := n2_; clear n0_ n1_ n2_; clear ho hb hg hat))
              go_roundg k1
              case measure => have := HK1.out; omega
              case rel => exact ⟨(y105), (wrap64 (x8_1 + 1)), (by first | rfl | (simp; done) | (simp [*]; done)), H', ⟨by have := HK1.out; omega⟩, ⟨by (with_reducible repeat (first | apply Kd.R_alloc | apply Kd.R_drewN | apply Kd.R_drew)); exact Kd.R_mono HO107.out (fun _ hk => trivial)⟩, ⟨by repeat (first | (with_reducible first | exact HB.out | apply below_alloc | apply pw_below_drewN | apply below_drew1) | exact HB.out)⟩⟩
            · rw [if_neg c6] at H
              exact absurd H (by simp)
          · rw [if_neg c4] at H
            exact absurd H (by simp)
        · rw [if_neg c3] at H
          exact absurd H (by simp)
      · rw [if_neg c2] at H
        have c2b0 : decide (x8_1 < (l0.length : Int)) = false := decide_eq_false c2
        clear c2
        obtain rfl := Option.some.inj H
        go_wp2
        go_ret
        exact ⟨_, by first | rfl | (simp [errW_none, errW_some] <;> rfl) | (simp [*, errW_none, errW_some] <;> rfl), by (with_reducible repeat (first | apply Kd.R_alloc | apply Kd.R_drewN | apply Kd.R_drew)); exact HO_3.out, by repeat (first | (with_reducible first | exact HB.out | apply below_alloc | apply pw_below_drewN | apply below_drew1) | exact HB.out)⟩

/-! ### nfkc_Nfkd: function 31 -/
def nfkc_Nfkd.f (k : Nat) (l0 : List Int) : Option (List Int) := (nfkc_Made.f k l0).bind fun t108 => ((Go.Proofs.Pt.nfkc_Safe.f t108).bind fun t111 => ((Go.Proofs.Pt.canon_Order.f t111).bind fun t114 => (some t114)))
theorem nfkc_Nfkd.mono : ∀ a0 k, LeO (nfkc_Nfkd.f k a0) (nfkc_Nfkd.f (k + 1) a0) := by
  intro a0 k
  unfold nfkc_Nfkd.f
  repeat' first
      | (with_reducible exact nfkc_Made.mono _ _)
      | (with_reducible exact LeO.refl _)
      | (with_reducible exact LeO.none _)
      | (with_reducible refine LeO.ite ?_ ?_)
      | (with_reducible refine LeO.bind ?_ (fun _ => ?_))
      | exact nfkc_Made.mono _ _
      | exact LeO.none _
      | refine LeO.ite ?_ ?_
      | refine LeO.bind ?_ (fun _ => ?_)
set_option maxHeartbeats 8000000 in
set_option maxRecDepth 100000 in
theorem nfkc_Nfkd.calls (k : Nat) (A0 : Option Addr) (c0 : Nat) (l0 : List Int) (r : List Int) (w : World) (hr0 : Kd.C (Kd.int .i64) w A0 l0.length l0) (hc0 : l0.length ≤ c0) (h : nfkc_Nfkd.f k l0 = some r) (hV : Go.Proofs.Pt.Vars w) :
    Calls Tryz.prog 31 #[.slice A0 l0.length c0] w fun e w' => ∃ v0_ : Value, e = .returned (v0_) ∧ Kd.R (Kd.int .i64) 3 w' w.heap.size (fun _ => True) v0_ r ∧ Below w.heap.size w w' := by
  have HV := Aside0.mk hV
  clear hV
  have HR0 := Aside0.mk hr0
  have HC0 := Aside0.mk hc0
  clear hr0 hc0
  have HB := Aside0.mk (Below.refl w.heap.size w)
  have H : ((nfkc_Made.f k l0).bind fun t108 => ((Go.Proofs.Pt.nfkc_Safe.f t108).bind fun t111 => ((Go.Proofs.Pt.canon_Order.f t111).bind fun t114 => (some t114)))) = some r := h
  clear h
  replace H := Option.bind_eq_some_iff.mp H
  obtain ⟨t108, A20, H⟩ := H
  replace H : ((Go.Proofs.Pt.nfkc_Safe.f t108).bind fun t111 => ((Go.Proofs.Pt.canon_Order.f t111).bind fun t114 => (some t114))) = some r := H
  have A2 := Aside0.mk A20
  clear A20
  replace H := Option.bind_eq_some_iff.mp H
  obtain ⟨t111, A30, H⟩ := H
  replace H : ((Go.Proofs.Pt.canon_Order.f t111).bind fun t114 => (some t114)) = some r := H
  have A3 := Aside0.mk A30
  clear A30
  replace H := Option.bind_eq_some_iff.mp H
  obtain ⟨t114, A40, H⟩ := H
  replace H : (some t114) = some r := H
  have A4 := Aside0.mk A40
  clear A40
  obtain rfl := Option.some.inj H
  go_enter Tryz.func31, Tryz.ntmps31
  go_wp2_with (first | ((with_reducible refine gate_callee (f := 27) rfl ?_); refine goesL_ (some 4) rfl rfl Tryz.func27 (by kernel_rfl) rfl #[.slice A0 l0.length c0] rfl (by (try simp only [List.map_toArray, List.map_cons, List.map_nil]); first | done | rfl | (simp only [List.length_drop, List.length_take]; rfl)) ?_; (with_reducible refine (nfkc_Made.calls k _ _ l0 t108 _ ?side1 ?side2 A2.out ?sideV).mono ?_); (case sideV => exact HV.out.below (by repeat (first | (with_reducible first | exact HB.out | apply below_alloc | apply pw_below_drewN | apply below_drew1) | exact HB.out))); (case side1 => repeat (first | exact HR0.out | (with_reducible refine Kd.C_alloc ?_ _) | (with_reducible refine Kd.C_drewN ?_ _) | (with_reducible refine Kd.C_drew ?_))); (case side2 => exact HC0.out); rintro e w5 ⟨v109, rfl, ho0, hb⟩; refine ⟨_, rfl, ?_⟩; have n0_ := Aside0.mk (Kd.R_lower ho0 (below_size (by repeat (first | (with_reducible first | exact HB.out | apply below_alloc | apply pw_below_drewN | apply below_drew1) | exact HB.out)))); have n1_ := Aside0.mk (below_step (by repeat (first | (with_reducible first | exact HB.out | apply below_alloc | apply pw_below_drewN | apply below_drew1) | exact HB.out)) hb); clear HB; have HO110 := n0_; have HB := n1_; clear n0_ n1_; (try clear hb); (try clear hb2); (try clear hk); (try clear hi); (try clear ho0); obtain ⟨Ao6, co6, eo6⟩ := Kd.R_slice HO110.out; subst eo6) | ((with_reducible refine gate_callee (f := 29) rfl ?_); refine goesL_ (some 5) rfl rfl Tryz.func29 (by kernel_rfl) rfl #[.slice Ao6 t108.length co6] rfl (by (try simp only [List.map_toArray, List.map_cons, List.map_nil]); first | done | rfl | (simp only [List.length_drop, List.length_take]; rfl)) ?_; (with_reducible refine (Go.Proofs.Pt.nfkc_Safe.calls _ _ t108 t111 _ ?side1 ?side2 A3.out).mono ?_); (case side1 => repeat (first | exact (Kd.R_reads' HO110.out).2.2 | (with_reducible refine Kd.C_alloc ?_ _) | (with_reducible refine Kd.C_drewN ?_ _) | (with_reducible refine Kd.C_drew ?_))); (case side2 => exact (Kd.R_reads' HO110.out).2.1); rintro e w7 ⟨v112, rfl, ho0, hb⟩; refine ⟨_, rfl, ?_⟩; have n0_ := Aside0.mk (Kd.R_elder' (by (with_reducible repeat (first | apply Kd.R_alloc | apply Kd.R_drewN | apply Kd.R_drew)); exact HO110.out) (Kd.R_base ho0) hb); have n1_ := Aside0.mk (Kd.R_lower (Kd.R_new' ho0 (Kd.R_lt (by (with_reducible repeat (first | apply Kd.R_alloc | apply Kd.R_drewN | apply Kd.R_drew)); exact HO110.out))) (below_size (by repeat (first | (with_reducible first | exact HB.out | apply below_alloc | apply pw_below_drewN | apply below_drew1) | exact HB.out)))); have n2_ := Aside0.mk (below_step (by repeat (first | (with_reducible first | exact HB.out | apply below_alloc | apply pw_below_drewN | apply below_drew1) | exact HB.out)) hb); clear HO110; clear HB; have HO110 := n0_; have HO113 := n1_; have HB := n2_; clear n0_ n1_ n2_; (try clear hb); (try clear hb2); (try clear hk); (try clear hi); (try clear ho0); obtain ⟨Ao8, co8, eo8⟩ := Kd.R_slice HO113.out; subst eo8) | ((with_reducible refine gate_callee (f := 23) rfl ?_); refine goesL_ (some 6) rfl rfl Tryz.func23 (by kernel_rfl) rfl #[.slice Ao8 t111.length co8] rfl (by (try simp only [List.map_toArray, List.map_cons, List.map_nil]); first | done | rfl | (simp only [List.length_drop, List.length_take]; rfl)) ?_; (with_reducible refine (Go.Proofs.Pt.canon_Order.calls _ _ t111 t114 _ ?side1 ?side2 A4.out).mono ?_); (case side1 => repeat (first | exact (Kd.R_reads' HO113.out).2.2 | (with_reducible refine Kd.C_alloc ?_ _) | (with_reducible refine Kd.C_drewN ?_ _) | (with_reducible refine Kd.C_drew ?_))); (case side2 => exact (Kd.R_reads' HO113.out).2.1); rintro e w9 ⟨v115, rfl, ho0, hb⟩; refine ⟨_, rfl, ?_⟩; have n0_ := Aside0.mk (Kd.R_elder' (by (with_reducible repeat (first | apply Kd.R_alloc | apply Kd.R_drewN | apply Kd.R_drew)); exact HO110.out) (Kd.R_base ho0) hb); have n1_ := Aside0.mk (Kd.R_elder' (by (with_reducible repeat (first | apply Kd.R_alloc | apply Kd.R_drewN | apply Kd.R_drew)); exact HO113.out) (Kd.R_base ho0) hb); have n2_ := Aside0.mk (Kd.R_lower (Kd.R_new' (Kd.R_new' ho0 (Kd.R_lt (by (with_reducible repeat (first | apply Kd.R_alloc | apply Kd.R_drewN | apply Kd.R_drew)); exact HO110.out))) (Kd.R_lt (by (with_reducible repeat (first | apply Kd.R_alloc | apply Kd.R_drewN | apply Kd.R_drew)); exact HO113.out))) (below_size (by repeat (first | (with_reducible first | exact HB.out | apply below_alloc | apply pw_below_drewN | apply below_drew1) | exact HB.out)))); have n3_ := Aside0.mk (below_step (by repeat (first | (with_reducible first | exact HB.out | apply below_alloc | apply pw_below_drewN | apply below_drew1) | exact HB.out)) hb); clear HO110; clear HO113; clear HB; have HO110 := n0_; have HO113 := n1_; have HO116 := n2_; have HB := n3_; clear n0_ n1_ n2_ n3_; (try clear hb); (try clear hb2); (try clear hk); (try clear hi); (try clear ho0)))
  go_ret
  exact ⟨_, by first | rfl | (simp [errW_none, errW_some] <;> rfl) | (simp [*, errW_none, errW_some] <;> rfl), by (with_reducible repeat (first | apply Kd.R_alloc | apply Kd.R_drewN | apply Kd.R_drew)); exact Kd.R_mono HO116.out (fun _ hk => trivial), by repeat (first | (with_reducible first | exact HB.out | apply below_alloc | apply pw_below_drewN | apply below_drew1) | exact HB.out)⟩

/-! ### nfkc_Nfkc: function 33 -/
def nfkc_Nfkc.f (k : Nat) (l0 : List Int) : Option (List Int) := (nfkc_Nfkd.f k l0).bind fun t117 => ((Go.Proofs.Pt.canon_Compose.f t117).bind fun t120 => (some t120))
theorem nfkc_Nfkc.mono : ∀ a0 k, LeO (nfkc_Nfkc.f k a0) (nfkc_Nfkc.f (k + 1) a0) := by
  intro a0 k
  unfold nfkc_Nfkc.f
  repeat' first
      | (with_reducible exact nfkc_Nfkd.mono _ _)
      | (with_reducible exact LeO.refl _)
      | (with_reducible exact LeO.none _)
      | (with_reducible refine LeO.ite ?_ ?_)
      | (with_reducible refine LeO.bind ?_ (fun _ => ?_))
      | exact nfkc_Nfkd.mono _ _
      | exact LeO.none _
      | refine LeO.ite ?_ ?_
      | refine LeO.bind ?_ (fun _ => ?_)
set_option maxHeartbeats 8000000 in
set_option maxRecDepth 100000 in
theorem nfkc_Nfkc.calls (k : Nat) (A0 : Option Addr) (c0 : Nat) (l0 : List Int) (r : List Int) (w : World) (hr0 : Kd.C (Kd.int .i64) w A0 l0.length l0) (hc0 : l0.length ≤ c0) (h : nfkc_Nfkc.f k l0 = some r) (hV : Go.Proofs.Pt.Vars w) :
    Calls Tryz.prog 33 #[.slice A0 l0.length c0] w fun e w' => ∃ v0_ : Value, e = .returned (v0_) ∧ Kd.R (Kd.int .i64) 3 w' w.heap.size (fun _ => True) v0_ r ∧ Below w.heap.size w w' := by
  have HV := Aside0.mk hV
  clear hV
  have HR0 := Aside0.mk hr0
  have HC0 := Aside0.mk hc0
  clear hr0 hc0
  have HB := Aside0.mk (Below.refl w.heap.size w)
  have H : ((nfkc_Nfkd.f k l0).bind fun t117 => ((Go.Proofs.Pt.canon_Compose.f t117).bind fun t120 => (some t120))) = some r := h
  clear h
  replace H := Option.bind_eq_some_iff.mp H
  obtain ⟨t117, A20, H⟩ := H
  replace H : ((Go.Proofs.Pt.canon_Compose.f t117).bind fun t120 => (some t120)) = some r := H
  have A2 := Aside0.mk A20
  clear A20
  replace H := Option.bind_eq_some_iff.mp H
  obtain ⟨t120, A30, H⟩ := H
  replace H : (some t120) = some r := H
  have A3 := Aside0.mk A30
  clear A30
  obtain rfl := Option.some.inj H
  go_enter Tryz.func33, Tryz.ntmps33
  go_wp2_with (first | ((with_reducible refine gate_callee (f := 31) rfl ?_); refine goesL_ (some 4) rfl rfl Tryz.func31 (by kernel_rfl) rfl #[.slice A0 l0.length c0] rfl (by (try simp only [List.map_toArray, List.map_cons, List.map_nil]); first | done | rfl | (simp only [List.length_drop, List.length_take]; rfl)) ?_; (with_reducible refine (nfkc_Nfkd.calls k _ _ l0 t117 _ ?side1 ?side2 A2.out ?sideV).mono ?_); (case sideV => exact HV.out.below (by repeat (first | (with_reducible first | exact HB.out | apply below_alloc | apply pw_below_drewN | apply below_drew1) | exact HB.out))); (case side1 => repeat (first | exact HR0.out | (with_reducible refine Kd.C_alloc ?_ _) | (with_reducible refine Kd.C_drewN ?_ _) | (with_reducible refine Kd.C_drew ?_))); (case side2 => exact HC0.out); rintro e w4 ⟨v118, rfl, ho0, hb⟩; refine ⟨_, rfl, ?_⟩; have n0_ := Aside0.mk (Kd.R_lower ho0 (below_size (by repeat (first | (with_reducible first | exact HB.out | apply below_alloc | apply pw_below_drewN | apply below_drew1) | exact HB.out)))); have n1_ := Aside0.mk (below_step (by repeat (first | (with_reducible first | exact HB.out | apply below_alloc | apply pw_below_drewN | apply below_drew1) | exact HB.out)) hb); clear HB; have HO119 := n0_; have HB := n1_; clear n0_ n1_; (try clear hb); (try clear hb2); (try clear hk); (try clear hi); (try clear ho0); obtain ⟨Ao5, co5, eo5⟩ := Kd.R_slice HO119.out; subst eo5) | ((with_reducible refine gate_callee (f := 24) rfl ?_); refine goesL_ (some 5) rfl rfl Tryz.func24 (by kernel_rfl) rfl #[.slice Ao5 t117.length co5] rfl (by (try simp only [List.map_toArray, List.map_cons, List.map_nil]); first | done | rfl | (simp only [List.length_drop, List.length_take]; rfl)) ?_; (with_reducible refine (Go.Proofs.Pt.canon_Compose.calls _ _ t117 t120 _ ?side1 ?side2 A3.out).mono ?_); (case side1 => repeat (first | exact (Kd.R_reads' HO119.out).2.2 | (with_reducible refine Kd.C_alloc ?_ _) | (with_reducible refine Kd.C_drewN ?_ _) | (with_reducible refine Kd.C_drew ?_))); (case side2 => exact (Kd.R_reads' HO119.out).2.1); rintro e w6 ⟨v121, rfl, ho0, hb⟩; refine ⟨_, rfl, ?_⟩; have n0_ := Aside0.mk (Kd.R_elder' (by (with_reducible repeat (first | apply Kd.R_alloc | apply Kd.R_drewN | apply Kd.R_drew)); exact HO119.out) (Kd.R_base ho0) hb); have n1_ := Aside0.mk (Kd.R_lower (Kd.R_new' ho0 (Kd.R_lt (by (with_reducible repeat (first | apply Kd.R_alloc | apply Kd.R_drewN | apply Kd.R_drew)); exact HO119.out))) (below_size (by repeat (first | (with_reducible first | exact HB.out | apply below_alloc | apply pw_below_drewN | apply below_drew1) | exact HB.out)))); have n2_ := Aside0.mk (below_step (by repeat (first | (with_reducible first | exact HB.out | apply below_alloc | apply pw_below_drewN | apply below_drew1) | exact HB.out)) hb); clear HO119; clear HB; have HO119 := n0_; have HO122 := n1_; have HB := n2_; clear n0_ n1_ n2_; (try clear hb); (try clear hb2); (try clear hk); (try clear hi); (try clear ho0)))
  go_ret
  exact ⟨_, by first | rfl | (simp [errW_none, errW_some] <;> rfl) | (simp [*, errW_none, errW_some] <;> rfl), by (with_reducible repeat (first | apply Kd.R_alloc | apply Kd.R_drewN | apply Kd.R_drew)); exact Kd.R_mono HO122.out (fun _ hk => trivial), by repeat (first | (with_reducible first | exact HB.out | apply below_alloc | apply pw_below_drewN | apply below_drew1) | exact HB.out)⟩

/-! ### nfkc_Is: function 35 -/
def nfkc_Is.f (k : Nat) (l0 : List Int) : Option (Bool) := (nfkc_Nfkc.f k l0).bind fun t123 => ((Go.Proofs.Pt.slices_Equal.f t123 l0).bind fun t126 => (some t126))
theorem nfkc_Is.mono : ∀ a0 k, LeO (nfkc_Is.f k a0) (nfkc_Is.f (k + 1) a0) := by
  intro a0 k
  unfold nfkc_Is.f
  repeat' first
      | (with_reducible exact nfkc_Nfkc.mono _ _)
      | (with_reducible exact LeO.refl _)
      | (with_reducible exact LeO.none _)
      | (with_reducible refine LeO.ite ?_ ?_)
      | (with_reducible refine LeO.bind ?_ (fun _ => ?_))
      | exact nfkc_Nfkc.mono _ _
      | exact LeO.none _
      | refine LeO.ite ?_ ?_
      | refine LeO.bind ?_ (fun _ => ?_)
set_option maxHeartbeats 8000000 in
set_option maxRecDepth 100000 in
theorem nfkc_Is.calls (k : Nat) (A0 : Option Addr) (c0 : Nat) (l0 : List Int) (r : Bool) (w : World) (hr0 : Kd.C (Kd.int .i64) w A0 l0.length l0) (hc0 : l0.length ≤ c0) (h : nfkc_Is.f k l0 = some r) (hV : Go.Proofs.Pt.Vars w) :
    Calls Tryz.prog 35 #[.slice A0 l0.length c0] w fun e w' => e = .returned (.bool r) ∧ Below w.heap.size w w' := by
  have HV := Aside0.mk hV
  clear hV
  have HR0 := Aside0.mk hr0
  have HC0 := Aside0.mk hc0
  clear hr0 hc0
  have HB := Aside0.mk (Below.refl w.heap.size w)
  have H : ((nfkc_Nfkc.f k l0).bind fun t123 => ((Go.Proofs.Pt.slices_Equal.f t123 l0).bind fun t126 => (some t126))) = some r := h
  clear h
  replace H := Option.bind_eq_some_iff.mp H
  obtain ⟨t123, A20, H⟩ := H
  replace H : ((Go.Proofs.Pt.slices_Equal.f t123 l0).bind fun t126 => (some t126)) = some r := H
  have A2 := Aside0.mk A20
  clear A20
  replace H := Option.bind_eq_some_iff.mp H
  obtain ⟨t126, A30, H⟩ := H
  replace H : (some t126) = some r := H
  have A3 := Aside0.mk A30
  clear A30
  obtain rfl := Option.some.inj H
  go_enter Tryz.func35, Tryz.ntmps35
  go_wp2_with (first | ((with_reducible refine gate_callee (f := 33) rfl ?_); refine goesL_ (some 4) rfl rfl Tryz.func33 (by kernel_rfl) rfl #[.slice A0 l0.length c0] rfl (by (try simp only [List.map_toArray, List.map_cons, List.map_nil]); first | done | rfl | (simp only [List.length_drop, List.length_take]; rfl)) ?_; (with_reducible refine (nfkc_Nfkc.calls k _ _ l0 t123 _ ?side1 ?side2 A2.out ?sideV).mono ?_); (case sideV => exact HV.out.below (by repeat (first | (with_reducible first | exact HB.out | apply below_alloc | apply pw_below_drewN | apply below_drew1) | exact HB.out))); (case side1 => repeat (first | exact HR0.out | (with_reducible refine Kd.C_alloc ?_ _) | (with_reducible refine Kd.C_drewN ?_ _) | (with_reducible refine Kd.C_drew ?_))); (case side2 => exact HC0.out); rintro e w4 ⟨v124, rfl, ho0, hb⟩; refine ⟨_, rfl, ?_⟩; have n0_ := Aside0.mk (Kd.R_lower ho0 (below_size (by repeat (first | (with_reducible first | exact HB.out | apply below_alloc | apply pw_below_drewN | apply below_drew1) | exact HB.out)))); have n1_ := Aside0.mk (below_step (by repeat (first | (with_reducible first | exact HB.out | apply below_alloc | apply pw_below_drewN | apply below_drew1) | exact HB.out)) hb); clear HB; have HO125 := n0_; have HB := n1_; clear n0_ n1_; (try clear hb); (try clear hb2); (try clear hk); (try clear hi); (try clear ho0); obtain ⟨Ao5, co5, eo5⟩ := Kd.R_slice HO125.out; subst eo5) | ((with_reducible refine gate_callee (f := 67) rfl ?_); refine goesL_ (some 6) rfl rfl Tryz.func67 (by kernel_rfl) rfl #[.slice Ao5 t123.length co5, .slice A0 l0.length c0] rfl (by (try simp only [List.map_toArray, List.map_cons, List.map_nil]); first | done | rfl | (simp only [List.length_drop, List.length_take]; rfl)) ?_; (with_reducible refine (Go.Proofs.Pt.slices_Equal.calls _ _ t123 _ _ l0 t126 _ ?side1 ?side2 ?side3 ?side4 A3.out).mono ?_); (case side1 => repeat (first | exact (Kd.R_reads' HO125.out).2.2 | (with_reducible refine Kd.C_alloc ?_ _) | (with_reducible refine Kd.C_drewN ?_ _) | (with_reducible refine Kd.C_drew ?_))); (case side2 => exact (Kd.R_reads' HO125.out).2.1); (case side3 => repeat (first | exact (Kd.C_below HR0.out HB.out) | (with_reducible refine Kd.C_alloc ?_ _) | (with_reducible refine Kd.C_drewN ?_ _) | (with_reducible refine Kd.C_drew ?_))); (case side4 => exact HC0.out); rintro e w' ⟨rfl, ⟨nd, rfl⟩⟩; refine ⟨_, rfl, ?_⟩))
  go_ret
  exact ⟨by first | rfl | (simp [errW_none, errW_some] <;> rfl) | (simp [*, errW_none, errW_some] <;> rfl), by repeat (first | (with_reducible first | exact HB.out | apply below_alloc | apply pw_below_drewN | apply below_drew1) | exact HB.out)⟩

/-! ### pentroughlaw08_awake: function 26 -/
def pentroughlaw08_awake.f (k : Nat)  : Option (Bool) := (nfkc_Nfkc.f k (([64257, 8491] : List Int))).bind fun t130 => (if (t130.length : Int) = 3 then (if 0 < (t130.length : Int) then (if (rd t130 0) = 102 then (if 2 < (t130.length : Int) then (if (rd t130 2) = 197 then ((nfkc_Is.f k t130).bind fun t135 => (if t135 = true then ((nfkc_Made.f k t130).bind fun t136 => (some ((t136.length : Int) == 4))) else (some false))) else (some false)) else (none)) else (some false)) else (none)) else (some false))
theorem pentroughlaw08_awake.mono : ∀ k, LeO (pentroughlaw08_awake.f k ) (pentroughlaw08_awake.f (k + 1) ) := by
  intro  k
  unfold pentroughlaw08_awake.f
  repeat' first
      | (with_reducible exact nfkc_Is.mono _ _)
      | (with_reducible exact nfkc_Made.mono _ _)
      | (with_reducible exact nfkc_Nfkc.mono _ _)
      | (with_reducible exact LeO.refl _)
      | (with_reducible exact LeO.none _)
      | (with_reducible refine LeO.ite ?_ ?_)
      | (with_reducible refine LeO.bind ?_ (fun _ => ?_))
      | exact nfkc_Is.mono _ _
      | exact nfkc_Made.mono _ _
      | exact nfkc_Nfkc.mono _ _
      | exact LeO.none _
      | refine LeO.ite ?_ ?_
      | refine LeO.bind ?_ (fun _ => ?_)
set_option maxHeartbeats 8000000 in
set_option maxRecDepth 100000 in
theorem pentroughlaw08_awake.calls (k : Nat)  (r : Bool) (w : World) (h : pentroughlaw08_awake.f k  = some r) (hV : Go.Proofs.Pt.Vars w) :
    Calls Tryz.prog 26 #[] w fun e w' => e = .returned (.bool r) ∧ Below w.heap.size w w' := by
  have HV := Aside0.mk hV
  clear hV
  have HB := Aside0.mk (Below.refl w.heap.size w)
  have H : ((nfkc_Nfkc.f k (([64257, 8491] : List Int))).bind fun t130 => (if (t130.length : Int) = 3 then (if 0 < (t130.length : Int) then (if (rd t130 0) = 102 then (if 2 < (t130.length : Int) then (if (rd t130 2) = 197 then ((nfkc_Is.f k t130).bind fun t135 => (if t135 = true then ((nfkc_Made.f k t130).bind fun t136 => (some ((t136.length : Int) == 4))) else (some false))) else (some false)) else (none)) else (some false)) else (none)) else (some false))) = some r := h
  clear h
  obtain ⟨y127, hy127⟩ : ∃ y_ : List Int, y_ = (([64257, 8491] : List Int)) := ⟨_, rfl⟩
  replace H : ((nfkc_Nfkc.f k y127).bind fun t130 => (if (t130.length : Int) = 3 then (if 0 < (t130.length : Int) then (if (rd t130 0) = 102 then (if 2 < (t130.length : Int) then (if (rd t130 2) = 197 then ((nfkc_Is.f k t130).bind fun t135 => (if t135 = true then ((nfkc_Made.f k t130).bind fun t136 => (some ((t136.length : Int) == 4))) else (some false))) else (some false)) else (none)) else (some false)) else (none)) else (some false))) = some r := by first | (rw [hy127]; with_reducible exact H) | (have H2_ := (Option.bind_some _ _).symm.trans H; rw [hy127]; with_reducible exact H2_) | (have H2_ := (Option.bind_some _ _).symm.trans H; with_reducible exact H2_) | with_reducible exact H | (rw [hy127]; exact H) | exact H
  have Ny127 := Aside0.mk hy127
  clear hy127
  replace H := Option.bind_eq_some_iff.mp H
  obtain ⟨t130, A10, H⟩ := H
  replace H : (if (t130.length : Int) = 3 then (if 0 < (t130.length : Int) then (if (rd t130 0) = 102 then (if 2 < (t130.length : Int) then (if (rd t130 2) = 197 then ((nfkc_Is.f k t130).bind fun t135 => (if t135 = true then ((nfkc_Made.f k t130).bind fun t136 => (some ((t136.length : Int) == 4))) else (some false))) else (some false)) else (none)) else (some false)) else (none)) else (some false)) = some r := H
  have A1 := Aside0.mk A10
  clear A10
  by_cases c2 : (t130.length : Int) = 3
  · rw [if_pos c2] at H
    have c2b0 : ((t130.length : Int) == 3) = true := beq_iff_eq.mpr c2
    have c2b1 : ((t130.length : Int) != 3) = false := bne_eq_false_iff_eq.mpr c2
    clear c2
    by_cases c3 : 0 < (t130.length : Int)
    · rw [if_pos c3] at H
      have c3b0 : decide (0 < (t130.length : Int)) = true := decide_eq_true c3
      have c3b1 : decide (0 < t130.length) = true := decide_eq_true (by omega)
      clear c3
      by_cases c4 : (rd t130 0) = 102
      · rw [if_pos c4] at H
        have c4b0 : ((rd t130 0) == 102) = true := beq_iff_eq.mpr c4
        have c4b1 : ((rd t130 0) != 102) = false := bne_eq_false_iff_eq.mpr c4
        clear c4
        by_cases c5 : 2 < (t130.length : Int)
        · rw [if_pos c5] at H
          have c5b0 : decide (2 < (t130.length : Int)) = true := decide_eq_true c5
          have c5b1 : decide (2 < t130.length) = true := decide_eq_true (by omega)
          clear c5
          by_cases c6 : (rd t130 2) = 197
          · rw [if_pos c6] at H
            have c6b0 : ((rd t130 2) == 197) = true := beq_iff_eq.mpr c6
            have c6b1 : ((rd t130 2) != 197) = false := bne_eq_false_iff_eq.mpr c6
            clear c6
            replace H := Option.bind_eq_some_iff.mp H
            obtain ⟨t135, A70, H⟩ := H
            replace H : (if t135 = true then ((nfkc_Made.f k t130).bind fun t136 => (some ((t136.length : Int) == 4))) else (some false)) = some r := H
            have A7 := Aside0.mk A70
            clear A70
            by_cases c8 : t135 = true
            · subst c8
              have H1 : ((nfkc_Made.f k t130).bind fun t136 => (some ((t136.length : Int) == 4))) = some r := by rw [if_pos rfl] at H; exact H
              clear H
              have H := H1
              clear H1
              replace H := Option.bind_eq_some_iff.mp H
              obtain ⟨t136, A90, H⟩ := H
              replace H : (some ((t136.length : Int) == 4)) = some r := H
              have A9 := Aside0.mk A90
              clear A90
              obtain rfl := Option.some.inj H
              go_enter Tryz.func26, Tryz.ntmps26
              go_wp2_with (first | ((with_reducible refine gate_dst (N := 2) rfl ?_); (try (refine gate_guard (by rfl) ?_; dsimp only)); refine Kd.R_lit (Kd.int .i64) _ 3 ?hg (N := 2) ?hd (xs := ([64257, 8491] : List Int)) (inner := [.int .i64 64257, .int .i64 8491]) (ok := fun _ => True) (okp := fun _ => True) ?hr ?hp (fun _ hk => hk) trivial (Below.refl _ _) (Nat.le_refl _) (by simp) ?_; (case hd => rfl); (case hg => rfl); (case hr => first | (go_simp; done) | (go_simp; rfl)); (case hp => exact (Reps.one (show Kd.M (Kd.int .i64) _ _ _ 64257 [.int .i64 64257] from rfl) (Reps.one (show Kd.M (Kd.int .i64) _ _ _ 8491 [.int .i64 8491] from rfl) (Reps.none _ _)))); intro v128 w10 ho11 hb hg_ hnew_; clear hg_ hnew_; (first | rw [← Ny127.out] at ho11 | (simp only [Int.reduceToNat] at ho11; rw [← Ny127.out] at ho11)); have n0_ := Aside0.mk (Kd.R_lower ho11 (below_size (by repeat (first | (with_reducible first | exact HB.out | apply below_alloc | apply pw_below_drewN | apply below_drew1) | exact HB.out)))); have n1_ := Aside0.mk (below_step (by repeat (first | (with_reducible first | exact HB.out | apply below_alloc | apply pw_below_drewN | apply below_drew1) | exact HB.out)) hb); clear HB; have HO129 := n0_; have HB := n1_; clear n0_ n1_; clear hb ho11; obtain ⟨Ao12, co12, eo12⟩ := Kd.R_slice HO129.out; subst eo12) | ((with_reducible refine gate_callee (f := 33) rfl ?_); refine goesL_ (some 3) rfl rfl Tryz.func33 (by kernel_rfl) rfl #[.slice Ao12 y127.length co12] rfl (by (try simp only [List.map_toArray, List.map_cons, List.map_nil]); first | done | rfl | (simp only [List.length_drop, List.length_take]; rfl)) ?_; (with_reducible refine (nfkc_Nfkc.calls k _ _ y127 t130 _ ?side1 ?side2 A1.out ?sideV).mono ?_); (case sideV => exact HV.out.below (by repeat (first | (with_reducible first | exact HB.out | apply below_alloc | apply pw_below_drewN | apply below_drew1) | exact HB.out))); (case side1 => repeat (first | exact (Kd.R_reads' HO129.out).2.2 | (with_reducible refine Kd.C_alloc ?_ _) | (with_reducible refine Kd.C_drewN ?_ _) | (with_reducible refine Kd.C_drew ?_))); (case side2 => exact (Kd.R_reads' HO129.out).2.1); rintro e w13 ⟨v131, rfl, ho0, hb⟩; refine ⟨_, rfl, ?_⟩; have n0_ := Aside0.mk (Kd.R_elder' (by (with_reducible repeat (first | apply Kd.R_alloc | apply Kd.R_drewN | apply Kd.R_drew)); exact HO129.out) (Kd.R_base ho0) hb); have n1_ := Aside0.mk (Kd.R_lower (Kd.R_new' ho0 (Kd.R_lt (by (with_reducible repeat (first | apply Kd.R_alloc | apply Kd.R_drewN | apply Kd.R_drew)); exact HO129.out))) (below_size (by repeat (first | (with_reducible first | exact HB.out | apply below_alloc | apply pw_below_drewN | apply below_drew1) | exact HB.out)))); have n2_ := Aside0.mk (below_step (by repeat (first | (with_reducible first | exact HB.out | apply below_alloc | apply pw_below_drewN | apply below_drew1) | exact HB.out)) hb); clear HO129; clear HB; have HO129 := n0_; have HO132 := n1_; have HB := n2_; clear n0_ n1_ n2_; (try clear hb); (try clear hb2); (try clear hk); (try clear hi); (try clear ho0); obtain ⟨Ao14, co14, eo14⟩ := Kd.R_slice HO132.out; subst eo14; have p133 : 0 ≤ (0 : Int) := (by omega); have q133 : 0 < (t130.length : Int) := of_decide_eq_true (by first | (with_reducible assumption) | assumption); obtain ⟨ad133, e133, hx133_0⟩ := Kd.at_int (Kd.R_reads' HO132.out).2.2 0 p133 q133; cases e133; have qi133 : (0 < t130.length) = True := eq_true (by omega); (try rw [show ((0 : Int)).toNat = 0 from rfl] at hx133_0); (try rw [Addr.add_zero'] at hx133_0); replace p133 := eq_true p133; replace q133 := eq_true q133; have p134 : 0 ≤ (2 : Int) := (by omega); have q134 : 2 < (t130.length : Int) := of_decide_eq_true (by first | (with_reducible assumption) | assumption); obtain ⟨ad134, e134, hx134_0⟩ := Kd.at_int (Kd.R_reads' HO132.out).2.2 2 p134 q134; obtain rfl : ad133 = ad134 := (by injection e134); (try simp only [show (2 : Int).toNat = 2 from rfl, Nat.reduceMul, Nat.reduceEqDiff, Go.Addr.add, ↓reduceIte] at hx134_0); have qi134 : (2 < t130.length) = True := eq_true (by omega); (try rw [show ((2 : Int)).toNat = 2 from rfl] at hx134_0); replace p134 := eq_true p134; replace q134 := eq_true q134) | (go_at_call 35; (with_reducible refine (nfkc_Is.calls k _ _ t130 true _ ?side1 ?side2 A7.out ?sideV).mono ?_); (case sideV => exact HV.out.below (by repeat (first | (with_reducible first | exact HB.out | apply below_alloc | apply pw_below_drewN | apply below_drew1) | exact HB.out))); (case side1 => repeat (first | exact (Kd.R_reads' HO132.out).2.2 | (with_reducible refine Kd.C_alloc ?_ _) | (with_reducible refine Kd.C_drewN ?_ _) | (with_reducible refine Kd.C_drew ?_))); (case side2 => exact (Kd.R_reads' HO132.out).2.1); rintro e w15 ⟨rfl, hb⟩; have n0_ := Aside0.mk (Kd.R_below (by (with_reducible repeat (first | apply Kd.R_alloc | apply Kd.R_drewN | apply Kd.R_drew)); exact HO129.out) hb); have n1_ := Aside0.mk (Kd.R_below (by (with_reducible repeat (first | apply Kd.R_alloc | apply Kd.R_drewN | apply Kd.R_drew)); exact HO132.out) hb); have n2_ := Aside0.mk (below_step (by repeat (first | (with_reducible first | exact HB.out | apply below_alloc | apply pw_below_drewN | apply below_drew1) | exact HB.out)) hb); clear HO129; clear HO132; clear HB; have HO129 := n0_; have HO132 := n1_; have HB := n2_; clear n0_ n1_ n2_; (try clear hb); (try clear hb2); (try clear hk); (try clear hi)) | (go_at_call 27; (with_reducible refine (nfkc_Made.calls k _ _ t130 t136 _ ?side1 ?side2 A9.out ?sideV).mono ?_); (case sideV => exact HV.out.below (by repeat (first | (with_reducible first | exact HB.out | apply below_alloc | apply pw_below_drewN | apply below_drew1) | exact HB.out))); (case side1 => repeat (first | exact (Kd.R_reads' HO132.out).2.2 | (with_reducible refine Kd.C_alloc ?_ _) | (with_reducible refine Kd.C_drewN ?_ _) | (with_reducible refine Kd.C_drew ?_))); (case side2 => exact (Kd.R_reads' HO132.out).2.1); rintro e w16 ⟨v137, rfl, ho0, hb⟩; have n0_ := Aside0.mk (Kd.R_elder' (by (with_reducible repeat (first | apply Kd.R_alloc | apply Kd.R_drewN | apply Kd.R_drew)); exact HO129.out) (Kd.R_base ho0) hb); have n1_ := Aside0.mk (Kd.R_elder' (by (with_reducible repeat (first | apply Kd.R_alloc | apply Kd.R_drewN | apply Kd.R_drew)); exact HO132.out) (Kd.R_base ho0) hb); have n2_ := Aside0.mk (Kd.R_lower (Kd.R_new' (Kd.R_new' ho0 (Kd.R_lt (by (with_reducible repeat (first | apply Kd.R_alloc | apply Kd.R_drewN | apply Kd.R_drew)); exact HO129.out))) (Kd.R_lt (by (with_reducible repeat (first | apply Kd.R_alloc | apply Kd.R_drewN | apply Kd.R_drew)); exact HO132.out))) (below_size (by repeat (first | (with_reducible first | exact HB.out | apply below_alloc | apply pw_below_drewN | apply below_drew1) | exact HB.out)))); have n3_ := Aside0.mk (below_step (by repeat (first | (with_reducible first | exact HB.out | apply below_alloc | apply pw_below_drewN | apply below_drew1) | exact HB.out)) hb); clear HO129; clear HO132; clear HB; have HO129 := n0_; have HO132 := n1_; have HO138 := n2_; have HB := n3_; clear n0_ n1_ n2_ n3_; (try clear hb); (try clear hb2); (try clear hk); (try clear hi); (try clear ho0); obtain ⟨Ao17, co17, eo17⟩ := Kd.R_slice HO138.out; subst eo17))
              go_ret
              exact ⟨by first | rfl | (simp [errW_none, errW_some] <;> rfl) | (simp [*, errW_none, errW_some] <;> rfl), by repeat (first | (with_reducible first | exact HB.out | apply below_alloc | apply pw_below_drewN | apply below_drew1) | exact HB.out)⟩
            · replace c8 := Bool.eq_false_iff.mpr c8
              subst c8
              have H1 : (some false) = some r := by rw [if_neg (show ¬ (false = true) by decide)] at H; exact H
              clear H
              have H := H1
              clear H1
              obtain rfl := Option.some.inj H
              go_enter Tryz.func26, Tryz.ntmps26
              go_wp2_with (first | ((with_reducible refine gate_dst (N := 2) rfl ?_); (try (refine gate_guard (by rfl) ?_; dsimp only)); refine Kd.R_lit (Kd.int .i64) _ 3 ?hg (N := 2) ?hd (xs := ([64257, 8491] : List Int)) (inner := [.int .i64 64257, .int .i64 8491]) (ok := fun _ => True) (okp := fun _ => True) ?hr ?hp (fun _ hk => hk) trivial (Below.refl _ _) (Nat.le_refl _) (by simp) ?_; (case hd => rfl); (case hg => rfl); (case hr => first | (go_simp; done) | (go_simp; rfl)); (case hp => exact (Reps.one (show Kd.M (Kd.int .i64) _ _ _ 64257 [.int .i64 64257] from rfl) (Reps.one (show Kd.M (Kd.int .i64) _ _ _ 8491 [.int .i64 8491] from rfl) (Reps.none _ _)))); intro v128 w18 ho19 hb hg_ hnew_; clear hg_ hnew_; (first | rw [← Ny127.out] at ho19 | (simp only [Int.reduceToNat] at ho19; rw [← Ny127.out] at ho19)); have n0_ := Aside0.mk (Kd.R_lower ho19 (below_size (by repeat (first | (with_reducible first | exact HB.out | apply below_alloc | apply pw_below_drewN | apply below_drew1) | exact HB.out)))); have n1_ := Aside0.mk (below_step (by repeat (first | (with_reducible first | exact HB.out | apply below_alloc | apply pw_below_drewN | apply below_drew1) | exact HB.out)) hb); clear HB; have HO129 := n0_; have HB := n1_; clear n0_ n1_; clear hb ho19; obtain ⟨Ao20, co20, eo20⟩ := Kd.R_slice HO129.out; subst eo20) | ((with_reducible refine gate_callee (f := 33) rfl ?_); refine goesL_ (some 3) rfl rfl Tryz.func33 (by kernel_rfl) rfl #[.slice Ao20 y127.length co20] rfl (by (try simp only [List.map_toArray, List.map_cons, List.map_nil]); first | done | rfl | (simp only [List.length_drop, List.length_take]; rfl)) ?_; (with_reducible refine (nfkc_Nfkc.calls k _ _ y127 t130 _ ?side1 ?side2 A1.out ?sideV).mono ?_); (case sideV => exact HV.out.below (by repeat (first | (with_reducible first | exact HB.out | apply below_alloc | apply pw_below_drewN | apply below_drew1) | exact HB.out))); (case side1 => repeat (first | exact (Kd.R_reads' HO129.out).2.2 | (with_reducible refine Kd.C_alloc ?_ _) | (with_reducible refine Kd.C_drewN ?_ _) | (with_reducible refine Kd.C_drew ?_))); (case side2 => exact (Kd.R_reads' HO129.out).2.1); rintro e w21 ⟨v131, rfl, ho0, hb⟩; refine ⟨_, rfl, ?_⟩; have n0_ := Aside0.mk (Kd.R_elder' (by (with_reducible repeat (first | apply Kd.R_alloc | apply Kd.R_drewN | apply Kd.R_drew)); exact HO129.out) (Kd.R_base ho0) hb); have n1_ := Aside0.mk (Kd.R_lower (Kd.R_new' ho0 (Kd.R_lt (by (with_reducible repeat (first | apply Kd.R_alloc | apply Kd.R_drewN | apply Kd.R_drew)); exact HO129.out))) (below_size (by repeat (first | (with_reducible first | exact HB.out | apply below_alloc | apply pw_below_drewN | apply below_drew1) | exact HB.out)))); have n2_ := Aside0.mk (below_step (by repeat (first | (with_reducible first | exact HB.out | apply below_alloc | apply pw_below_drewN | apply below_drew1) | exact HB.out)) hb); clear HO129; clear HB; have HO129 := n0_; have HO132 := n1_; have HB := n2_; clear n0_ n1_ n2_; (try clear hb); (try clear hb2); (try clear hk); (try clear hi); (try clear ho0); obtain ⟨Ao22, co22, eo22⟩ := Kd.R_slice HO132.out; subst eo22; have p133 : 0 ≤ (0 : Int) := (by omega); have q133 : 0 < (t130.length : Int) := of_decide_eq_true (by first | (with_reducible assumption) | assumption); obtain ⟨ad133, e133, hx133_0⟩ := Kd.at_int (Kd.R_reads' HO132.out).2.2 0 p133 q133; cases e133; have qi133 : (0 < t130.length) = True := eq_true (by omega); (try rw [show ((0 : Int)).toNat = 0 from rfl] at hx133_0); (try rw [Addr.add_zero'] at hx133_0); replace p133 := eq_true p133; replace q133 := eq_true q133; have p134 : 0 ≤ (2 : Int) := (by omega); have q134 : 2 < (t130.length : Int) := of_decide_eq_true (by first | (with_reducible assumption) | assumption); obtain ⟨ad134, e134, hx134_0⟩ := Kd.at_int (Kd.R_reads' HO132.out).2.2 2 p134 q134; obtain rfl : ad133 = ad134 := (by injection e134); (try simp only [show (2 : Int).toNat = 2 from rfl, Nat.reduceMul, Nat.reduceEqDiff, Go.Addr.add, ↓reduceIte] at hx134_0); have qi134 : (2 < t130.length) = True := eq_true (by omega); (try rw [show ((2 : Int)).toNat = 2 from rfl] at hx134_0); replace p134 := eq_true p134; replace q134 := eq_true q134) | (go_at_call 35; (with_reducible refine (nfkc_Is.calls k _ _ t130 false _ ?side1 ?side2 A7.out ?sideV).mono ?_); (case sideV => exact HV.out.below (by repeat (first | (with_reducible first | exact HB.out | apply below_alloc | apply pw_below_drewN | apply below_drew1) | exact HB.out))); (case side1 => repeat (first | exact (Kd.R_reads' HO132.out).2.2 | (with_reducible refine Kd.C_alloc ?_ _) | (with_reducible refine Kd.C_drewN ?_ _) | (with_reducible refine Kd.C_drew ?_))); (case side2 => exact (Kd.R_reads' HO132.out).2.1); rintro e w23 ⟨rfl, hb⟩; have n0_ := Aside0.mk (Kd.R_below (by (with_reducible repeat (first | apply Kd.R_alloc | apply Kd.R_drewN | apply Kd.R_drew)); exact HO129.out) hb); have n1_ := Aside0.mk (Kd.R_below (by (with_reducible repeat (first | apply Kd.R_alloc | apply Kd.R_drewN | apply Kd.R_drew)); exact HO132.out) hb); have n2_ := Aside0.mk (below_step (by repeat (first | (with_reducible first | exact HB.out | apply below_alloc | apply pw_below_drewN | apply below_drew1) | exact HB.out)) hb); clear HO129; clear HO132; clear HB; have HO129 := n0_; have HO132 := n1_; have HB := n2_; clear n0_ n1_ n2_; (try clear hb); (try clear hb2); (try clear hk); (try clear hi)))
              go_ret
              exact ⟨by first | rfl | (simp [errW_none, errW_some] <;> rfl) | (simp [*, errW_none, errW_some] <;> rfl), by repeat (first | (with_reducible first | exact HB.out | apply below_alloc | apply pw_below_drewN | apply below_drew1) | exact HB.out)⟩
          · rw [if_neg c6] at H
            have c6b0 : ((rd t130 2) == 197) = false := beq_eq_false_iff_ne.mpr c6
            have c6b1 : ((rd t130 2) != 197) = true := bne_iff_ne.mpr c6
            obtain rfl := Option.some.inj H
            go_enter Tryz.func26, Tryz.ntmps26
            go_wp2_with (first | ((with_reducible refine gate_dst (N := 2) rfl ?_); (try (refine gate_guard (by rfl) ?_; dsimp only)); refine Kd.R_lit (Kd.int .i64) _ 3 ?hg (N := 2) ?hd (xs := ([64257, 8491] : List Int)) (inner := [.int .i64 64257, .int .i64 8491]) (ok := fun _ => True) (okp := fun _ => True) ?hr ?hp (fun _ hk => hk) trivial (Below.refl _ _) (Nat.le_refl _) (by simp) ?_; (case hd => rfl); (case hg => rfl); (case hr => first | (go_simp; done) | (go_simp; rfl)); (case hp => exact (Reps.one (show Kd.M (Kd.int .i64) _ _ _ 64257 [.int .i64 64257] from rfl) (Reps.one (show Kd.M (Kd.int .i64) _ _ _ 8491 [.int .i64 8491] from rfl) (Reps.none _ _)))); intro v128 w24 ho25 hb hg_ hnew_; clear hg_ hnew_; (first | rw [← Ny127.out] at ho25 | (simp only [Int.reduceToNat] at ho25; rw [← Ny127.out] at ho25)); have n0_ := Aside0.mk (Kd.R_lower ho25 (below_size (by repeat (first | (with_reducible first | exact HB.out | apply below_alloc | apply pw_below_drewN | apply below_drew1) | exact HB.out)))); have n1_ := Aside0.mk (below_step (by repeat (first | (with_reducible first | exact HB.out | apply below_alloc | apply pw_below_drewN | apply below_drew1) | exact HB.out)) hb); clear HB; have HO129 := n0_; have HB := n1_; clear n0_ n1_; clear hb ho25; obtain ⟨Ao26, co26, eo26⟩ := Kd.R_slice HO129.out; subst eo26) | ((with_reducible refine gate_callee (f := 33) rfl ?_); refine goesL_ (some 3) rfl rfl Tryz.func33 (by kernel_rfl) rfl #[.slice Ao26 y127.length co26] rfl (by (try simp only [List.map_toArray, List.map_cons, List.map_nil]); first | done | rfl | (simp only [List.length_drop, List.length_take]; rfl)) ?_; (with_reducible refine (nfkc_Nfkc.calls k _ _ y127 t130 _ ?side1 ?side2 A1.out ?sideV).mono ?_); (case sideV => exact HV.out.below (by repeat (first | (with_reducible first | exact HB.out | apply below_alloc | apply pw_below_drewN | apply below_drew1) | exact HB.out))); (case side1 => repeat (first | exact (Kd.R_reads' HO129.out).2.2 | (with_reducible refine Kd.C_alloc ?_ _) | (with_reducible refine Kd.C_drewN ?_ _) | (with_reducible refine Kd.C_drew ?_))); (case side2 => exact (Kd.R_reads' HO129.out).2.1); rintro e w27 ⟨v131, rfl, ho0, hb⟩; refine ⟨_, rfl, ?_⟩; have n0_ := Aside0.mk (Kd.R_elder' (by (with_reducible repeat (first | apply Kd.R_alloc | apply Kd.R_drewN | apply Kd.R_drew)); exact HO129.out) (Kd.R_base ho0) hb); have n1_ := Aside0.mk (Kd.R_lower (Kd.R_new' ho0 (Kd.R_lt (by (with_reducible repeat (first | apply Kd.R_alloc | apply Kd.R_drewN | apply Kd.R_drew)); exact HO129.out))) (below_size (by repeat (first | (with_reducible first | exact HB.out | apply below_alloc | apply pw_below_drewN | apply below_drew1) | exact HB.out)))); have n2_ := Aside0.mk (below_step (by repeat (first | (with_reducible first | exact HB.out | apply below_alloc | apply pw_below_drewN | apply below_drew1) | exact HB.out)) hb); clear HO129; clear HB; have HO129 := n0_; have HO132 := n1_; have HB := n2_; clear n0_ n1_ n2_; (try clear hb); (try clear hb2); (try clear hk); (try clear hi); (try clear ho0); obtain ⟨Ao28, co28, eo28⟩ := Kd.R_slice HO132.out; subst eo28; have p133 : 0 ≤ (0 : Int) := (by omega); have q133 : 0 < (t130.length : Int) := of_decide_eq_true (by first | (with_reducible assumption) | assumption); obtain ⟨ad133, e133, hx133_0⟩ := Kd.at_int (Kd.R_reads' HO132.out).2.2 0 p133 q133; cases e133; have qi133 : (0 < t130.length) = True := eq_true (by omega); (try rw [show ((0 : Int)).toNat = 0 from rfl] at hx133_0); (try rw [Addr.add_zero'] at hx133_0); replace p133 := eq_true p133; replace q133 := eq_true q133; have p134 : 0 ≤ (2 : Int) := (by omega); have q134 : 2 < (t130.length : Int) := of_decide_eq_true (by first | (with_reducible assumption) | assumption); obtain ⟨ad134, e134, hx134_0⟩ := Kd.at_int (Kd.R_reads' HO132.out).2.2 2 p134 q134; obtain rfl : ad133 = ad134 := (by injection e134); (try simp only [show (2 : Int).toNat = 2 from rfl, Nat.reduceMul, Nat.reduceEqDiff, Go.Addr.add, ↓reduceIte] at hx134_0); have qi134 : (2 < t130.length) = True := eq_true (by omega); (try rw [show ((2 : Int)).toNat = 2 from rfl] at hx134_0); replace p134 := eq_true p134; replace q134 := eq_true q134))
            go_ret
            exact ⟨by first | rfl | (simp [errW_none, errW_some] <;> rfl) | (simp [*, errW_none, errW_some] <;> rfl), by repeat (first | (with_reducible first | exact HB.out | apply below_alloc | apply pw_below_drewN | apply below_drew1) | exact HB.out)⟩
        · rw [if_neg c5] at H
          exact absurd H (by simp)
      · rw [if_neg c4] at H
        have c4b0 : ((rd t130 0) == 102) = false := beq_eq_false_iff_ne.mpr c4
        have c4b1 : ((rd t130 0) != 102) = true := bne_iff_ne.mpr c4
        obtain rfl := Option.some.inj H
        go_enter Tryz.func26, Tryz.ntmps26
        go_wp2_with (first | ((with_reducible refine gate_dst (N := 2) rfl ?_); (try (refine gate_guard (by rfl) ?_; dsimp only)); refine Kd.R_lit (Kd.int .i64) _ 3 ?hg (N := 2) ?hd (xs := ([64257, 8491] : List Int)) (inner := [.int .i64 64257, .int .i64 8491]) (ok := fun _ => True) (okp := fun _ => True) ?hr ?hp (fun _ hk => hk) trivial (Below.refl _ _) (Nat.le_refl _) (by simp) ?_; (case hd => rfl); (case hg => rfl); (case hr => first | (go_simp; done) | (go_simp; rfl)); (case hp => exact (Reps.one (show Kd.M (Kd.int .i64) _ _ _ 64257 [.int .i64 64257] from rfl) (Reps.one (show Kd.M (Kd.int .i64) _ _ _ 8491 [.int .i64 8491] from rfl) (Reps.none _ _)))); intro v128 w29 ho30 hb hg_ hnew_; clear hg_ hnew_; (first | rw [← Ny127.out] at ho30 | (simp only [Int.reduceToNat] at ho30; rw [← Ny127.out] at ho30)); have n0_ := Aside0.mk (Kd.R_lower ho30 (below_size (by repeat (first | (with_reducible first | exact HB.out | apply below_alloc | apply pw_below_drewN | apply below_drew1) | exact HB.out)))); have n1_ := Aside0.mk (below_step (by repeat (first | (with_reducible first | exact HB.out | apply below_alloc | apply pw_below_drewN | apply below_drew1) | exact HB.out)) hb); clear HB; have HO129 := n0_; have HB := n1_; clear n0_ n1_; clear hb ho30; obtain ⟨Ao31, co31, eo31⟩ := Kd.R_slice HO129.out; subst eo31) | ((with_reducible refine gate_callee (f := 33) rfl ?_); refine goesL_ (some 3) rfl rfl Tryz.func33 (by kernel_rfl) rfl #[.slice Ao31 y127.length co31] rfl (by (try simp only [List.map_toArray, List.map_cons, List.map_nil]); first | done | rfl | (simp only [List.length_drop, List.length_take]; rfl)) ?_; (with_reducible refine (nfkc_Nfkc.calls k _ _ y127 t130 _ ?side1 ?side2 A1.out ?sideV).mono ?_); (case sideV => exact HV.out.below (by repeat (first | (with_reducible first | exact HB.out | apply below_alloc | apply pw_below_drewN | apply below_drew1) | exact HB.out))); (case side1 => repeat (first | exact (Kd.R_reads' HO129.out).2.2 | (with_reducible refine Kd.C_alloc ?_ _) | (with_reducible refine Kd.C_drewN ?_ _) | (with_reducible refine Kd.C_drew ?_))); (case side2 => exact (Kd.R_reads' HO129.out).2.1); rintro e w32 ⟨v131, rfl, ho0, hb⟩; refine ⟨_, rfl, ?_⟩; have n0_ := Aside0.mk (Kd.R_elder' (by (with_reducible repeat (first | apply Kd.R_alloc | apply Kd.R_drewN | apply Kd.R_drew)); exact HO129.out) (Kd.R_base ho0) hb); have n1_ := Aside0.mk (Kd.R_lower (Kd.R_new' ho0 (Kd.R_lt (by (with_reducible repeat (first | apply Kd.R_alloc | apply Kd.R_drewN | apply Kd.R_drew)); exact HO129.out))) (below_size (by repeat (first | (with_reducible first | exact HB.out | apply below_alloc | apply pw_below_drewN | apply below_drew1) | exact HB.out)))); have n2_ := Aside0.mk (below_step (by repeat (first | (with_reducible first | exact HB.out | apply below_alloc | apply pw_below_drewN | apply below_drew1) | exact HB.out)) hb); clear HO129; clear HB; have HO129 := n0_; have HO132 := n1_; have HB := n2_; clear n0_ n1_ n2_; (try clear hb); (try clear hb2); (try clear hk); (try clear hi); (try clear ho0); obtain ⟨Ao33, co33, eo33⟩ := Kd.R_slice HO132.out; subst eo33; have p133 : 0 ≤ (0 : Int) := (by omega); have q133 : 0 < (t130.length : Int) := of_decide_eq_true (by first | (with_reducible assumption) | assumption); obtain ⟨ad133, e133, hx133_0⟩ := Kd.at_int (Kd.R_reads' HO132.out).2.2 0 p133 q133; cases e133; have qi133 : (0 < t130.length) = True := eq_true (by omega); (try rw [show ((0 : Int)).toNat = 0 from rfl] at hx133_0); (try rw [Addr.add_zero'] at hx133_0); replace p133 := eq_true p133; replace q133 := eq_true q133))
        go_ret
        exact ⟨by first | rfl | (simp [errW_none, errW_some] <;> rfl) | (simp [*, errW_none, errW_some] <;> rfl), by repeat (first | (with_reducible first | exact HB.out | apply below_alloc | apply pw_below_drewN | apply below_drew1) | exact HB.out)⟩
    · rw [if_neg c3] at H
      exact absurd H (by simp)
  · rw [if_neg c2] at H
    have c2b0 : ((t130.length : Int) == 3) = false := beq_eq_false_iff_ne.mpr c2
    have c2b1 : ((t130.length : Int) != 3) = true := bne_iff_ne.mpr c2
    obtain rfl := Option.some.inj H
    go_enter Tryz.func26, Tryz.ntmps26
    go_wp2_with (first | ((with_reducible refine gate_dst (N := 2) rfl ?_); (try (refine gate_guard (by rfl) ?_; dsimp only)); refine Kd.R_lit (Kd.int .i64) _ 3 ?hg (N := 2) ?hd (xs := ([64257, 8491] : List Int)) (inner := [.int .i64 64257, .int .i64 8491]) (ok := fun _ => True) (okp := fun _ => True) ?hr ?hp (fun _ hk => hk) trivial (Below.refl _ _) (Nat.le_refl _) (by simp) ?_; (case hd => rfl); (case hg => rfl); (case hr => first | (go_simp; done) | (go_simp; rfl)); (case hp => exact (Reps.one (show Kd.M (Kd.int .i64) _ _ _ 64257 [.int .i64 64257] from rfl) (Reps.one (show Kd.M (Kd.int .i64) _ _ _ 8491 [.int .i64 8491] from rfl) (Reps.none _ _)))); intro v128 w34 ho35 hb hg_ hnew_; clear hg_ hnew_; (first | rw [← Ny127.out] at ho35 | (simp only [Int.reduceToNat] at ho35; rw [← Ny127.out] at ho35)); have n0_ := Aside0.mk (Kd.R_lower ho35 (below_size (by repeat (first | (with_reducible first | exact HB.out | apply below_alloc | apply pw_below_drewN | apply below_drew1) | exact HB.out)))); have n1_ := Aside0.mk (below_step (by repeat (first | (with_reducible first | exact HB.out | apply below_alloc | apply pw_below_drewN | apply below_drew1) | exact HB.out)) hb); clear HB; have HO129 := n0_; have HB := n1_; clear n0_ n1_; clear hb ho35; obtain ⟨Ao36, co36, eo36⟩ := Kd.R_slice HO129.out; subst eo36) | ((with_reducible refine gate_callee (f := 33) rfl ?_); refine goesL_ (some 3) rfl rfl Tryz.func33 (by kernel_rfl) rfl #[.slice Ao36 y127.length co36] rfl (by (try simp only [List.map_toArray, List.map_cons, List.map_nil]); first | done | rfl | (simp only [List.length_drop, List.length_take]; rfl)) ?_; (with_reducible refine (nfkc_Nfkc.calls k _ _ y127 t130 _ ?side1 ?side2 A1.out ?sideV).mono ?_); (case sideV => exact HV.out.below (by repeat (first | (with_reducible first | exact HB.out | apply below_alloc | apply pw_below_drewN | apply below_drew1) | exact HB.out))); (case side1 => repeat (first | exact (Kd.R_reads' HO129.out).2.2 | (with_reducible refine Kd.C_alloc ?_ _) | (with_reducible refine Kd.C_drewN ?_ _) | (with_reducible refine Kd.C_drew ?_))); (case side2 => exact (Kd.R_reads' HO129.out).2.1); rintro e w37 ⟨v131, rfl, ho0, hb⟩; refine ⟨_, rfl, ?_⟩; have n0_ := Aside0.mk (Kd.R_elder' (by (with_reducible repeat (first | apply Kd.R_alloc | apply Kd.R_drewN | apply Kd.R_drew)); exact HO129.out) (Kd.R_base ho0) hb); have n1_ := Aside0.mk (Kd.R_lower (Kd.R_new' ho0 (Kd.R_lt (by (with_reducible repeat (first | apply Kd.R_alloc | apply Kd.R_drewN | apply Kd.R_drew)); exact HO129.out))) (below_size (by repeat (first | (with_reducible first | exact HB.out | apply below_alloc | apply pw_below_drewN | apply below_drew1) | exact HB.out)))); have n2_ := Aside0.mk (below_step (by repeat (first | (with_reducible first | exact HB.out | apply below_alloc | apply pw_below_drewN | apply below_drew1) | exact HB.out)) hb); clear HO129; clear HB; have HO129 := n0_; have HO132 := n1_; have HB := n2_; clear n0_ n1_ n2_; (try clear hb); (try clear hb2); (try clear hk); (try clear hi); (try clear ho0); obtain ⟨Ao38, co38, eo38⟩ := Kd.R_slice HO132.out; subst eo38))
    go_ret
    exact ⟨by first | rfl | (simp [errW_none, errW_some] <;> rfl) | (simp [*, errW_none, errW_some] <;> rfl), by repeat (first | (with_reducible first | exact HB.out | apply below_alloc | apply pw_below_drewN | apply below_drew1) | exact HB.out)⟩

end Go.Proofs.YtjgdnhmbfeekoaaGreatDoor.PE
end

/- ==== the text PEx ==== -/
section
-- PRINTED by print.py (a twelfth state) out of the translation. Not trusted: Lean checks it.
namespace Go.Proofs.YtjgdnhmbfeekoaaGreatDoor.PE
open Go.RowKit Go.Proofs.YtjgdnhmbfeekoaaGreatDoorW.PrintWords Go.Proofs.YtjgdnhmbfeekoaaGreatDoorW.PrintLast Go.Proofs.YtjgdnhmbfeekoaaGreatDoorW.PrintMore
attribute [local go_sem] max2_int min2_int max_two min_two max_three min_three max_four min_four   -- for this text's walks alone
set_option linter.unusedVariables false
set_option linter.unusedSimpArgs false

end Go.Proofs.YtjgdnhmbfeekoaaGreatDoor.PE
end

/- ==== the text B8 ==== -/
section
/- What the base functions of layer 8 tell, in closed form. -/
namespace Go.Proofs.Pt
open Go Go.RowKit Go.Proofs.YtjgdnhmbfeekoaaGreatDoorW.PrintWords Go.Proofs.YtjgdnhmbfeekoaaGreatDoorW.PrintMore Go.Proofs.YtjgdnhmbfeekoaaGreatDoor

/-- Not too long, and each an int. -/
def Fine (l : List Int) : Prop := l.length < 1099511627776 ∧ ∀ x ∈ l, x < 9223372036854775808
instance (l : List Int) : Decidable (Fine l) := by unfold Fine; exact inferInstance
theorem full_f {x : Int} (h : x < 9223372036854775808) : decomp_Full.f x = some (full x) := if_pos h
theorem made_length (l : List Int) : (made l).length ≤ 4 * l.length := by
  induction l with
  | nil => simp [made]
  | cons x l ih => rw [made_cons]; have := full_length x; simp only [List.length_append, List.length_cons]; omega
theorem made_take (l : List Int) (i : Nat) (h : i < l.length) : made (l.take (i + 1)) = made (l.take i) ++ full l[i] := by
  rw [List.take_succ_eq_append_getElem h, made_append]; simp [made]
theorem made_l0 (l : List Int) (hf : Fine l) : ∀ (d k i : Nat), l.length - i = d → i ≤ l.length → d < k → PE.nfkc_Made.l0 k (made (l.take i)) l l.length i = some (made l)
  | d, 0, i, _, _, hk => absurd hk (by omega)
  | d, k + 1, i, hd, hi, hk => by
    unfold PE.nfkc_Made.l0
    have hn := hf.1
    by_cases h : i < l.length
    · have h1 := made_length (l.take i)
      have h2 := full_length l[i]
      have h3 := List.length_take_le i l
      rw [if_pos (by omega), if_pos (by omega), if_pos (by omega), rd_nat l i h, full_f (hf.2 _ (List.getElem_mem h)), wrap_nat h (by omega)]
      simp only [Option.bind_some]
      rw [if_pos (by omega), ← made_take l i h]
      exact made_l0 l hf (d - 1) k (i + 1) (by omega) (by omega) (by omega)
    · rw [if_neg (by omega), List.take_of_length_le (by omega)]
theorem made_f (l : List Int) (hf : Fine l) (k : Nat) (hk : l.length < k) : PE.nfkc_Made.f k l = some (made l) := by
  have := made_l0 l hf l.length k 0 (by omega) (by omega) hk
  simpa [PE.nfkc_Made.f, made] using this
theorem safe_length (l : List Int) : (safe l).length ≤ 2 * l.length := by
  have := safe_len l l.length (Nat.le_refl _)
  rwa [List.take_length] at this
theorem nfkd_length (l : List Int) : (nfkd l).length ≤ 8 * l.length := by
  unfold nfkd
  rw [order_length]
  have := safe_length (made l)
  have := made_length l
  omega
theorem nfkc_length (l : List Int) : (nfkc l).length ≤ 8 * l.length := by
  unfold nfkc
  have := compose_length (nfkd l)
  have := nfkd_length l
  omega
theorem nfkd_f (l : List Int) (hf : Fine l) (k : Nat) (hk : l.length < k) : PE.nfkc_Nfkd.f k l = some (nfkd l) := by
  unfold PE.nfkc_Nfkd.f
  have hn := hf.1
  have h1 := made_length l
  have h2 := safe_length (made l)
  rw [made_f l hf k hk]
  simp only [Option.bind_some]
  unfold nfkc_Safe.f canon_Order.f
  rw [if_pos (by omega)]
  simp only [Option.bind_some]
  rw [if_pos (by omega)]
  rfl
theorem nfkc_f (l : List Int) (hf : Fine l) (k : Nat) (hk : l.length < k) : PE.nfkc_Nfkc.f k l = some (nfkc l) := by
  unfold PE.nfkc_Nfkc.f
  have hn := hf.1
  have h1 := nfkd_length l
  rw [nfkd_f l hf k hk]
  simp only [Option.bind_some]
  unfold canon_Compose.f
  rw [if_pos (by omega)]
  rfl
theorem is_f (l : List Int) (hf : Fine l) (k : Nat) (hk : l.length < k) : PE.nfkc_Is.f k l = some (decide (nfkc l = l)) := by
  unfold PE.nfkc_Is.f
  have hn := hf.1
  have h1 := nfkc_length l
  rw [nfkc_f l hf k hk]
  simp only [Option.bind_some]
  unfold slices_Equal.f
  rw [if_pos (by omega)]
  rfl
theorem awake8_f : PE.pentroughlaw08_awake.f 10 = some true := by
  unfold PE.pentroughlaw08_awake.f
  have f1 : Fine [64257, 8491] := ⟨by simp, by simp⟩
  have f2 : Fine [102, 105, 197] := ⟨by simp, by simp⟩
  have e1 : nfkc [64257, 8491] = [102, 105, 197] := by decide +kernel
  have e2 : nfkc [102, 105, 197] = [102, 105, 197] := by decide +kernel
  have e3 : made [102, 105, 197] = [102, 105, 65, 778] := by decide +kernel
  rw [nfkc_f _ f1 10 (by decide), e1]
  simp only [Option.bind_some]
  rw [is_f _ f2 10 (by decide), e2, made_f _ f2 10 (by decide), e3]
  decide +kernel

/-! ### contracts in closed form -/
def nfkc_Made.f (l0 : List Int) : Option (List Int) := if Fine l0 then some (made l0) else none
theorem nfkc_Made.calls (A0 : Option Addr) (c0 : Nat) (l0 : List Int) (r : List Int) (w : World) (hr0 : Kd.C (Kd.int .i64) w A0 l0.length l0) (hc0 : l0.length ≤ c0) (h : nfkc_Made.f l0 = some r) (hV : Vars w) :
    Calls Tryz.prog 27 #[.slice A0 l0.length c0] w fun e w' => ∃ v0_ : Value, e = .returned (v0_) ∧ Kd.R (Kd.int .i64) 3 w' w.heap.size (fun _ => True) v0_ r ∧ Below w.heap.size w w' := by
  unfold nfkc_Made.f at h
  split at h
  case isFalse => cases h
  rename_i hl
  cases h
  exact PE.nfkc_Made.calls (l0.length + 1) A0 c0 l0 _ w hr0 hc0 (made_f l0 hl _ (by omega)) hV
def nfkc_Nfkd.f (l0 : List Int) : Option (List Int) := if Fine l0 then some (nfkd l0) else none
theorem nfkc_Nfkd.calls (A0 : Option Addr) (c0 : Nat) (l0 : List Int) (r : List Int) (w : World) (hr0 : Kd.C (Kd.int .i64) w A0 l0.length l0) (hc0 : l0.length ≤ c0) (h : nfkc_Nfkd.f l0 = some r) (hV : Vars w) :
    Calls Tryz.prog 31 #[.slice A0 l0.length c0] w fun e w' => ∃ v0_ : Value, e = .returned (v0_) ∧ Kd.R (Kd.int .i64) 3 w' w.heap.size (fun _ => True) v0_ r ∧ Below w.heap.size w w' := by
  unfold nfkc_Nfkd.f at h
  split at h
  case isFalse => cases h
  rename_i hl
  cases h
  exact PE.nfkc_Nfkd.calls (l0.length + 1) A0 c0 l0 _ w hr0 hc0 (nfkd_f l0 hl _ (by omega)) hV
def nfkc_Nfkc.f (l0 : List Int) : Option (List Int) := if Fine l0 then some (nfkc l0) else none
theorem nfkc_Nfkc.calls (A0 : Option Addr) (c0 : Nat) (l0 : List Int) (r : List Int) (w : World) (hr0 : Kd.C (Kd.int .i64) w A0 l0.length l0) (hc0 : l0.length ≤ c0) (h : nfkc_Nfkc.f l0 = some r) (hV : Vars w) :
    Calls Tryz.prog 33 #[.slice A0 l0.length c0] w fun e w' => ∃ v0_ : Value, e = .returned (v0_) ∧ Kd.R (Kd.int .i64) 3 w' w.heap.size (fun _ => True) v0_ r ∧ Below w.heap.size w w' := by
  unfold nfkc_Nfkc.f at h
  split at h
  case isFalse => cases h
  rename_i hl
  cases h
  exact PE.nfkc_Nfkc.calls (l0.length + 1) A0 c0 l0 _ w hr0 hc0 (nfkc_f l0 hl _ (by omega)) hV
def nfkc_Is.f (l0 : List Int) : Option Bool := if Fine l0 then some (decide (nfkc l0 = l0)) else none
theorem nfkc_Is.calls (A0 : Option Addr) (c0 : Nat) (l0 : List Int) (r : Bool) (w : World) (hr0 : Kd.C (Kd.int .i64) w A0 l0.length l0) (hc0 : l0.length ≤ c0) (h : nfkc_Is.f l0 = some r) (hV : Vars w) :
    Calls Tryz.prog 35 #[.slice A0 l0.length c0] w fun e w' => e = .returned (.bool r) ∧ Below w.heap.size w w' := by
  unfold nfkc_Is.f at h
  split at h
  case isFalse => cases h
  rename_i hl
  cases h
  exact PE.nfkc_Is.calls (l0.length + 1) A0 c0 l0 _ w hr0 hc0 (is_f l0 hl _ (by omega)) hV
def law08_awake.f : Option Bool := some true
theorem law08_awake.calls (r : Bool) (w : World) (h : law08_awake.f = some r) (hV : Vars w) :
    Calls Tryz.prog 26 #[] w fun e w' => e = .returned (.bool r) ∧ Below w.heap.size w w' := by
  cases h
  exact PE.pentroughlaw08_awake.calls 10 true w awake8_f hV
end Go.Proofs.Pt
end

/- ==== the text M6 ==== -/
section
/- The form, value by value, with little kept: what is told of each value, one behind the other, and at the end, is the form of all at once. No program is in sight here. -/
namespace Go.Proofs.Pt

/-! ### what is kept -/
/-- How many marks a state has. -/
def nmarks : List Int → Nat
  | [] => 0
  | h :: t => if 0 < ccc h then t.length + 1 else t.length
def sane (L : List Int) : Bool := L.tail.all (fun x => decide (0 < ccc x)) && decide (nmarks L ≤ 30) && (order L == L)
/-- A value that is no mark: what is kept then, and what is told. -/
def nhead (L : List Int) (d : Int) : List Int × List Int :=
  match compose L with
  | [x] => if ccc x = 0 then (match join x d with | some v => ([v], []) | none => ([d], [x])) else ([d], [x])
  | c => ([d], c)
def nins (L : List Int) (d : Int) : List Int := (insR L.reverse d).reverse
def nput (L : List Int) (d : Int) : List Int × List Int :=
  if ccc d = 0 then nhead L d
  else if nmarks L = 30 then (nins (nhead L 847).1 d, (nhead L 847).2) else (nins L d, [])
def nputs (L : List Int) : List Int → List Int × List Int
  | [] => (L, [])
  | d :: ds => ((nputs (nput L d).1 ds).1, (nput L d).2 ++ (nputs (nput L d).1 ds).2)
def nfeed (L : List Int) (r : Int) : List Int × List Int := nputs (if sane L = true then L else []) (full r)
def nend (L : List Int) : List Int := if sane L = true then compose L else []
def nfeeds (L : List Int) : List Int → List Int × List Int
  | [] => (L, [])
  | r :: l => ((nfeeds (nfeed L r).1 l).1, (nfeed L r).2 ++ (nfeeds (nfeed L r).1 l).2)
def nall (l : List Int) : List Int := (nfeeds [] l).2 ++ nend (nfeeds [] l).1

theorem nputs_append (a b : List Int) : ∀ L, nputs L (a ++ b) = ((nputs (nputs L a).1 b).1, (nputs L a).2 ++ (nputs (nputs L a).1 b).2) := by
  induction a with
  | nil => intro L; simp [nputs]
  | cons d a ih => intro L; simp only [List.cons_append, nputs, ih, List.append_assoc]
theorem nfeeds_append (a b : List Int) : ∀ L, nfeeds L (a ++ b) = ((nfeeds (nfeeds L a).1 b).1, (nfeeds L a).2 ++ (nfeeds (nfeeds L a).1 b).2) := by
  induction a with
  | nil => intro L; simp [nfeeds]
  | cons d a ih => intro L; simp only [List.cons_append, nfeeds, ih, List.append_assoc]

/-- A state in its form: a head that is no mark, or none, and marks in order. -/
structure Kept (L hs t : List Int) : Prop where
  eq : L = hs ++ t
  one : hs = [] ∨ ∃ h, hs = [h] ∧ ccc h = 0
  marks : ∀ x ∈ t, 0 < ccc x
  few : t.length ≤ 30
  steps : Steps t
theorem Kept.nmarks {L hs t : List Int} (k : Kept L hs t) : nmarks L = t.length := by
  rcases k.one with rfl | ⟨h, rfl, h0⟩
  · rw [k.eq, List.nil_append]
    cases ht : t with
    | nil => rfl
    | cons x u => have := k.marks x (by simp [ht]); simp [Pt.nmarks, this]
  · rw [k.eq]; simp [Pt.nmarks, h0]
theorem Kept.sorted {L hs t : List Int} (k : Kept L hs t) : Sorted L := by
  rcases k.one with rfl | ⟨h, rfl, h0⟩
  · rw [k.eq]; exact sorted_of_steps (by simpa using k.steps)
  · rw [k.eq]; exact sorted_of_steps (steps_wall (p := []) h0 trivial k.steps)
theorem Kept.sane {L hs t : List Int} (k : Kept L hs t) : sane L = true := by
  unfold Pt.sane
  rw [k.nmarks]
  have h1 : L.tail.all (fun x => decide (0 < ccc x)) = true := by
    rw [List.all_eq_true]
    intro x hx
    have : x ∈ t := by
      rcases k.one with rfl | ⟨h, rfl, h0⟩
      · rw [k.eq] at hx; exact List.mem_of_mem_tail (by simpa using hx)
      · rw [k.eq] at hx; simpa using hx
    simp [k.marks x this]
  have h2 : order L = L := k.sorted
  simp [h1, k.few, h2]
theorem kept_nil : Kept [] [] [] := ⟨rfl, .inl rfl, by simp, by simp, trivial⟩
theorem kept_of_sane {L : List Int} (h : sane L = true) : ∃ hs t, Kept L hs t := by
  unfold sane at h
  simp only [Bool.and_eq_true, decide_eq_true_eq, beq_iff_eq, List.all_eq_true] at h
  obtain ⟨⟨h1, h2⟩, h3⟩ := h
  have hst := steps_of_sorted h3
  cases L with
  | nil => exact ⟨[], [], kept_nil⟩
  | cons x t =>
    simp only [List.tail_cons] at h1
    by_cases h0 : 0 < ccc x
    · refine ⟨[], x :: t, rfl, .inl rfl, ?_, ?_, hst⟩
      · intro y hy
        rcases List.mem_cons.1 hy with rfl | hy
        · exact h0
        · exact h1 y hy
      · simpa [nmarks, h0] using h2
    · exact ⟨[x], t, rfl, .inr ⟨x, rfl, by have := ccc_nonneg x; omega⟩, h1, by simpa [nmarks, h0] using h2, steps_tail hst⟩
theorem insR_marks {t : List Int} {r : Int} (ht : ∀ x ∈ t, 0 < ccc x) (hr : 0 < ccc r) : ∀ x ∈ insR t r, 0 < ccc x := by
  intro x hx
  have := (insR_perm t r).mem_iff.1 hx
  simp at this
  rcases this with rfl | h
  · exact hr
  · exact ht x h
theorem stepsR_of_steps (t : List Int) (h : Steps t) : StepsR t.reverse := by
  induction t with
  | nil => trivial
  | cons a t ih =>
    rw [List.reverse_cons]
    have ih' := ih (steps_tail h)
    have key : ∀ (u : List Int), StepsR u → (∀ x, u.getLast? = some x → ¬ (0 < ccc x ∧ ccc x < ccc a)) → StepsR (u ++ [a]) := by
      intro u
      induction u with
      | nil => intro _ _; trivial
      | cons b u ihu =>
        intro hu hl
        cases u with
        | nil => exact ⟨hl b rfl, trivial⟩
        | cons c u => exact ⟨hu.1, ihu hu.2 fun x hx => hl x (by simpa [List.getLast?_cons_cons] using hx)⟩
    refine key _ ih' fun x hx => ?_
    rw [List.getLast?_reverse] at hx
    cases t with
    | nil => simp at hx
    | cons y t => simp at hx; subst hx; exact h.1
theorem Kept.ins {L hs t : List Int} (k : Kept L hs t) {d : Int} (hd : 0 < ccc d) (hl : t.length < 30) : Kept (nins L d) hs (insR t.reverse d).reverse := by
  refine ⟨?_, k.one, ?_, ?_, ?_⟩
  · unfold nins
    rcases k.one with rfl | ⟨h, rfl, h0⟩
    · rw [k.eq]; simp
    · rw [k.eq]
      have : ([h] ++ t).reverse = t.reverse ++ h :: [] := by simp
      rw [this, insR_wall _ h0]; simp
  · intro x hx
    simp only [List.mem_reverse] at hx
    exact insR_marks (fun y hy => k.marks y (by simpa using hy)) hd x hx
  · simp [insR_length]; omega
  · exact steps_of_stepsR _ (insR_stepsR _ _ (stepsR_of_steps _ k.steps)).1

/-- The fold over a state: nothing is told ahead of its head. -/
theorem Kept.pre {L hs t : List Int} (k : Kept L hs t) : (cinit.run L).pre = [] := by
  have key : ∀ (l : List Int) (s : CS), s.pre = [] → (∀ x ∈ l, 0 < ccc x) → (s.run l).pre = [] := by
    intro l
    induction l with
    | nil => intro s h _; exact h
    | cons r l ih =>
      intro s h hl
      rw [CS.run_cons]
      refine ih _ ?_ fun x hx => hl x (by simp [hx])
      unfold CS.step
      cases s.joins r with
      | some v => exact h
      | none => simp only [CS.push]; rw [if_neg (by have := hl r (by simp); omega)]; exact h
  rw [k.eq, CS.run_append]
  refine key t _ ?_ k.marks
  rcases k.one with rfl | ⟨h, rfl, h0⟩
  · rfl
  · rw [CS.run_cons, CS.run_nil]
    simp only [CS.step, CS.joins, cinit, CS.push, h0, if_true]
    rfl
theorem run_one {d : Int} (h0 : ccc d = 0) : cinit.run [d] = ⟨[], some d, []⟩ := by
  rw [CS.run_cons, CS.run_nil]
  simp only [CS.step, CS.joins, cinit, CS.push, h0, if_true]
  rfl
/-- What a value that is no mark does to the state is what it does to the fold. -/
theorem Kept.head {L hs t : List Int} (k : Kept L hs t) {d : Int} (h0 : ccc d = 0) :
    ∃ v, (nhead L d).1 = [v] ∧ ccc v = 0 ∧ (cinit.run L).step d = (cinit.run [v]).behind (nhead L d).2 := by
  have hw : (cinit.run L).Wf := CS.run_wf cinit_wf L
  have hpre := k.pre
  have hc : compose L = (cinit.run L).out := rfl
  generalize cinit.run L = s at hw hpre hc
  have hout : s.out = s.hd.toList ++ s.tl := by simp [CS.out, hpre]
  cases e : s.joins d with
  | some v =>
    have e0 := e
    unfold CS.joins at e
    cases eh : s.hd with
    | none => simp [eh] at e
    | some a =>
      simp only [eh] at e
      split at e
      · rename_i ho
        have hopen := (CS.opens_iff _ _).1 ho
        have htl : s.tl = [] := by
          cases eg : s.tl.getLast? with
          | none => exact List.getLast?_eq_none_iff.1 eg
          | some z => have := hopen z eg; have := ccc_nonneg z; omega
        have hcc : compose L = [a] := by rw [hc, hout, eh, htl]; rfl
        have hn : nhead L d = ([v], []) := by
          unfold nhead; rw [hcc]; simp only [hw.hd a eh, if_true, e]
        have hv := (join_ok e).whole
        refine ⟨v, by rw [hn], hv, ?_⟩
        rw [hn, run_one hv]
        simp only [CS.step, e0, CS.behind, htl, hpre, List.append_nil]
      · cases e
  | none =>
    have hst : s.step d = ⟨s.out, some d, []⟩ := by simp only [CS.step, e, CS.push, h0, if_true]
    have hn : nhead L d = ([d], compose L) := by
      unfold nhead
      split
      · rename_i x hx
        split
        · rename_i hx0
          have : s.hd = some x ∧ s.tl = [] := by
            rw [hc, hout] at hx
            cases eh : s.hd with
            | none =>
              rw [eh] at hx; simp at hx
              have := hw.tl x (by rw [hx]; simp); omega
            | some a => rw [eh] at hx; simpa using hx
          have hj : join x d = none := by
            unfold CS.joins at e
            simp only [this.1] at e
            rw [if_pos ((CS.opens_iff _ _).2 (by rw [this.2]; simp))] at e
            exact e
          rw [hj, hx]
        · rw [hx]
      · rfl
    refine ⟨d, by rw [hn], h0, ?_⟩
    rw [hst, hn, run_one h0, hc]
    simp [CS.behind]

/-- The state and what was told, behind values of which no more than thirty marks stand in a row. -/
structure Holds (L out q : List Int) (n : Nat) : Prop where
  kept : ∃ hs t X, Kept L hs t ∧ order q = X ++ t ∧ (X = [] ∨ ∃ X' s, X = X' ++ [s] ∧ ccc s = 0) ∧ cinit.run X = (cinit.run hs).behind out ∧ t.length = n
theorem holds_init : Holds [] [] [] 0 := ⟨[], [], [], kept_nil, rfl, .inl rfl, rfl, rfl⟩
theorem Holds.nmarks {L out q : List Int} {n : Nat} (h : Holds L out q n) : nmarks L = n ∧ n ≤ 30 := by
  obtain ⟨hs, t, X, k, _, _, _, e⟩ := h.kept
  exact ⟨by rw [k.nmarks, e], by have := k.few; omega⟩
theorem Holds.told {L out q : List Int} {n : Nat} (h : Holds L out q n) : compose (order q) = out ++ compose L := by
  obtain ⟨hs, t, X, k, e, _, er, _⟩ := h.kept
  unfold compose
  rw [e, CS.run_append, er, CS.run_behind, CS.out_behind, k.eq, CS.run_append]
theorem Holds.head {L out q : List Int} {n : Nat} (h : Holds L out q n) {d : Int} (h0 : ccc d = 0) : Holds (nhead L d).1 (out ++ (nhead L d).2) (q ++ [d]) 0 := by
  obtain ⟨hs, t, X, k, e, _, er, _⟩ := h.kept
  obtain ⟨v, h1, hv, hst⟩ := k.head h0
  refine ⟨[v], [], X ++ t ++ [d], ⟨by rw [h1]; rfl, .inr ⟨v, rfl, hv⟩, by simp, by simp, trivial⟩, ?_, .inr ⟨X ++ t, d, rfl, h0⟩, ?_, rfl⟩
  · rw [order_snoc_head q h0, e]; simp
  · rw [CS.run_append, CS.run_append, er, CS.run_behind, ← CS.run_append, ← k.eq, CS.run_cons, CS.run_nil, CS.step_behind, hst]
    simp [CS.behind]
theorem Holds.mark {L out q : List Int} {n : Nat} (h : Holds L out q n) {d : Int} (hd : 0 < ccc d) (hn : n < 30) : Holds (nins L d) out (q ++ [d]) (n + 1) := by
  obtain ⟨hs, t, X, k, e, hX, er, en⟩ := h.kept
  refine ⟨hs, (insR t.reverse d).reverse, X, k.ins hd (by omega), ?_, hX, er, ?_⟩
  · rw [order_snoc, e]
    rcases hX with rfl | ⟨X', s, rfl, hs0⟩
    · simp
    · have : (X' ++ [s] ++ t).reverse = t.reverse ++ s :: X'.reverse := by simp
      rw [this, insR_wall _ hs0]; simp
  · simp [insR_length]; omega
theorem Holds.put {L out p : List Int} (h : Holds L out (safe p) (safeC 0 p)) (d : Int) : Holds (nput L d).1 (out ++ (nput L d).2) (safe (p ++ [d])) (safeC 0 (p ++ [d])) := by
  have hm := h.nmarks
  rw [safe_snoc, safeC_snoc]
  by_cases h0 : ccc d = 0
  · have e : nput L d = nhead L d := by unfold nput; rw [if_pos h0]
    rw [e, if_neg (by omega), if_neg (by omega)]
    exact h.head h0
  · have hd : 0 < ccc d := by have := ccc_nonneg d; omega
    by_cases h30 : safeC 0 p = 30
    · have e : nput L d = (nins (nhead L 847).1 d, (nhead L 847).2) := by unfold nput; rw [if_neg h0, if_pos (by omega)]
      rw [e, if_pos ⟨hd, h30⟩, if_pos hd, if_pos h30]
      have := (h.head ccc_joiner).mark hd (by omega)
      simpa using this
    · have e : nput L d = (nins L d, []) := by unfold nput; rw [if_neg h0, if_neg (by omega)]
      rw [e, if_neg (by omega), if_pos hd, if_neg h30]
      simpa using h.mark hd (by omega)
theorem Holds.puts {L out p : List Int} (h : Holds L out (safe p) (safeC 0 p)) (ds : List Int) : Holds (nputs L ds).1 (out ++ (nputs L ds).2) (safe (p ++ ds)) (safeC 0 (p ++ ds)) := by
  induction ds generalizing L out p with
  | nil => simpa [nputs] using h
  | cons d ds ih => have := ih (h.put d); simpa [nputs] using this
theorem Holds.sane {L out q : List Int} {n : Nat} (h : Holds L out q n) : sane L = true := by
  obtain ⟨hs, t, X, k, _⟩ := h.kept; exact k.sane
theorem Holds.feed {L out p : List Int} (h : Holds L out (safe p) (safeC 0 p)) (r : Int) : Holds (nfeed L r).1 (out ++ (nfeed L r).2) (safe (p ++ full r)) (safeC 0 (p ++ full r)) := by
  unfold nfeed; rw [if_pos h.sane]; exact h.puts _
theorem Holds.feeds {L out p : List Int} (h : Holds L out (safe p) (safeC 0 p)) (l : List Int) : Holds (nfeeds L l).1 (out ++ (nfeeds L l).2) (safe (p ++ made l)) (safeC 0 (p ++ made l)) := by
  induction l generalizing L out p with
  | nil => simpa [nfeeds, made_nil] using h
  | cons r l ih => have := ih (h.feed r); simpa [nfeeds, made_cons] using this
theorem feeds_holds (l : List Int) : Holds (nfeeds [] l).1 (nfeeds [] l).2 (safe (made l)) (safeC 0 (made l)) := by
  have := (show Holds [] [] (safe []) (safeC 0 []) from holds_init).feeds l; simpa using this
/-- P9.4: value by value it is the same form. -/
theorem nall_nfkc (l : List Int) : nall l = nfkc l := by
  have h := feeds_holds l
  unfold nall nend
  rw [if_pos h.sane]
  exact h.told.symm
/-- What was told before the end is what the form of all begins with. -/
theorem nfeeds_prefix (a b : List Int) : ∃ t, nfkc (a ++ b) = (nfeeds [] a).2 ++ t := by
  rw [← nall_nfkc]; unfold nall; rw [nfeeds_append]; exact ⟨_, by simp; rfl⟩

/-! ### never is more kept than thirty-one values -/
theorem Kept.length {L hs t : List Int} (k : Kept L hs t) : L.length ≤ 31 := by
  have := k.few
  rcases k.one with rfl | ⟨h, rfl, h0⟩
  · rw [k.eq]; simp; omega
  · rw [k.eq]; simp; omega
theorem kept_one {v : Int} (hv : ccc v = 0) : Kept [v] [v] [] := ⟨rfl, .inr ⟨v, rfl, hv⟩, by simp, by simp, trivial⟩
theorem nhead_told (L : List Int) (d : Int) : (nhead L d).2.length ≤ L.length := by
  have := compose_length L
  unfold nhead
  split
  · rename_i x hx
    rw [hx] at this
    split
    · split <;> simp_all
    · simpa using this
  · exact this
theorem sane_put {L : List Int} (h : sane L = true) (d : Int) : sane (nput L d).1 = true ∧ (nput L d).2.length ≤ 31 := by
  obtain ⟨hs, t, k⟩ := kept_of_sane h
  have hL := k.length
  unfold nput
  split
  · rename_i h0
    obtain ⟨v, h1, hv, _⟩ := k.head h0
    rw [h1]
    exact ⟨(kept_one hv).sane, by have := nhead_told L d; omega⟩
  · rename_i h0
    have hd : 0 < ccc d := by have := ccc_nonneg d; omega
    split
    · obtain ⟨v, h1, hv, _⟩ := k.head ccc_joiner
      simp only [h1]
      exact ⟨((kept_one hv).ins hd (by simp)).sane, by have := nhead_told L 847; omega⟩
    · rename_i h30
      exact ⟨(k.ins hd (by rw [← k.nmarks]; have := k.few; rw [← k.nmarks] at this; omega)).sane, by simp⟩
theorem sane_puts (ds : List Int) : ∀ {L : List Int}, sane L = true → sane (nputs L ds).1 = true ∧ (nputs L ds).2.length ≤ 31 * ds.length := by
  induction ds with
  | nil => intro L h; exact ⟨h, by simp [nputs]⟩
  | cons d ds ih =>
    intro L h
    have h1 := sane_put h d
    have h2 := ih h1.1
    simp only [nputs, List.length_append, List.length_cons]
    exact ⟨h2.1, by omega⟩
theorem sane_nil : sane [] = true := kept_nil.sane
theorem sane_feed (L : List Int) (r : Int) : sane (nfeed L r).1 = true ∧ (nfeed L r).2.length ≤ 31 * (full r).length := by
  unfold nfeed
  split
  · rename_i h; exact sane_puts _ h
  · exact sane_puts _ sane_nil
theorem sane_length {L : List Int} (h : sane L = true) : L.length ≤ 31 := by
  obtain ⟨hs, t, k⟩ := kept_of_sane h; exact k.length
/-- A value below 160 tells all that was kept. -/
theorem feed_low {L : List Int} (h : sane L = true) {x : Int} (hx : x < 160) : nfeed L x = ([x], nend L) := by
  obtain ⟨h0, h1, h2⟩ := low_plain hx
  have e : nhead L x = ([x], compose L) := by
    unfold nhead
    split
    · rename_i y hy; rw [h2 y, hy]; split <;> rfl
    · rfl
  unfold nfeed nend
  rw [if_pos h, if_pos h, h1]
  simp only [nputs, nput, h0, if_true, e, List.append_nil]

end Go.Proofs.Pt
end

/- ==== the text M7 ==== -/
section
/- Closed facts on the tables of case and of what is dropped. No program is in sight here. -/
namespace Go.Proofs.Pt

def foldAll (l : List Int) : List Int := l.flatMap foldc
def left (l : List Int) : List Int := (foldAll l).filter fun x => !drops x
/-- Made of nothing else, without case, not dropped. -/
def plainB (e : Int) : Bool := full e == [e] && foldc e == [e] && !drops e
theorem caseT_ok : caseT.all (fun x => x.2.all (fun y => foldc y == [y]) && !drops x.1 && decide (65 ≤ x.1) && decide (x.1 ≤ 7928) && decide (x.1 ≠ 847) && (decide (x.1 < 4352) || decide (4546 < x.1)) && decide (1 ≤ x.2.length) && decide (x.2.length ≤ 3) && decide ((made x.2).length ≤ 4)) = true := by decide +kernel
theorem drpT_ok : drpT.all (fun x => (decide (x.2.1 < 4352) || decide (4370 < x.1)) && (decide (x.2.1 < 4449) || decide (4469 < x.1)) && (decide (x.2.1 < 4520) || decide (4546 < x.1)) && (decide (x.2.1 < 44032) || decide (55203 < x.1))) = true := by decide +kernel
theorem drops_joiner : drops 847 = true := by decide +kernel
theorem caseT_plain : caseT.all (fun x => !(full x.1 == [x.1]) || x.2.all (fun y => drops y || (full y).all plainB)) = true := by decide +kernel
theorem pairT_fold : pairT.all (fun x => (foldc x.2.2).all (fun y => drops y || (full y).all plainB)) = true := by decide +kernel
theorem pairT_back : pairT.all (fun x => !((full x.2.2).all plainB) || (!drops x.2.2 && made ((foldc x.2.2).filter fun y => !drops y) == full x.2.2)) = true := by decide +kernel
theorem decT_nojoin : decT.all (fun x => x.2.all fun y => decide (y ≠ 847)) = true := by decide +kernel

end Go.Proofs.Pt
end

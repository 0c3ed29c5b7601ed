/- The search in the halves of the table of pairs finds what the whole table says. No program is in sight here. -/
import Derived.Test.YtgaokehmfebclaaM1
namespace Go.Proofs.Pt

def cmpI (x y : Int) : Int := if x < y then -1 else if y < x then 1 else 0
def orI (x y : Int) : Int := if x = 0 then y else x
def lexI (a b c d : Int) : Int := orI (cmpI a c) (cmpI b d)
/-- Where a table's place stands to a pair. -/
def keyI (T : List (Int × Int × Int)) (a b : Int) (i : Nat) : Int := lexI (T.getD i (0, 0, 0)).1 (T.getD i (0, 0, 0)).2.1 a b
theorem cmpI_lt {x y : Int} : cmpI x y < 0 ↔ x < y := by unfold cmpI; split <;> (try split) <;> omega
theorem cmpI_zero {x y : Int} : cmpI x y = 0 ↔ x = y := by unfold cmpI; split <;> (try split) <;> omega
theorem lexI_zero {a b c d : Int} : lexI a b c d = 0 ↔ a = c ∧ b = d := by
  unfold lexI orI
  split
  · rename_i h; rw [cmpI_zero] at h ⊢; simp [h]
  · rename_i h; rw [cmpI_zero] at h; constructor
    · intro h'; rw [cmpI_zero] at h'; exact absurd h' h
    · intro h'; exact absurd h'.1 h
theorem lexI_lt {a b c d : Int} : lexI a b c d < 0 ↔ a < c ∨ (a = c ∧ b < d) := by
  unfold lexI orI
  split
  · rename_i h; rw [cmpI_zero] at h; rw [cmpI_lt]; omega
  · rename_i h; rw [cmpI_zero] at h; rw [cmpI_lt]; omega
/-- Pair by pair rising. -/
def Asc : List (Int × Int × Int) → Prop
  | [] => True
  | [_] => True
  | x :: y :: l => (x.1 < y.1 ∨ (x.1 = y.1 ∧ x.2.1 < y.2.1)) ∧ Asc (y :: l)
def ascB : List (Int × Int × Int) → Bool
  | [] => true
  | [_] => true
  | x :: y :: l => (decide (x.1 < y.1) || (decide (x.1 = y.1) && decide (x.2.1 < y.2.1))) && ascB (y :: l)
theorem asc_of : ∀ l, ascB l = true → Asc l
  | [], _ => trivial
  | [_], _ => trivial
  | x :: y :: l, h => by
    simp only [ascB, Bool.and_eq_true, Bool.or_eq_true, decide_eq_true_eq] at h
    exact ⟨h.1, asc_of _ h.2⟩
theorem Asc.tail {x : Int × Int × Int} : ∀ {l}, Asc (x :: l) → Asc l
  | [], _ => trivial
  | _ :: _, h => h.2
theorem Asc.head : ∀ (l : List (Int × Int × Int)) (x : Int × Int × Int), Asc (x :: l) → ∀ y ∈ l, x.1 < y.1 ∨ (x.1 = y.1 ∧ x.2.1 < y.2.1)
  | [], _, _ => by simp
  | z :: l, x, h => by
    intro y hy
    rcases List.mem_cons.1 hy with rfl | hy
    · exact h.1
    · have h1 := Asc.head l z h.2 y hy
      have h2 := h.1
      omega
theorem Asc.lt : ∀ (l : List (Int × Int × Int)), Asc l → ∀ i j, i < j → j < l.length → (l.getD i (0, 0, 0)).1 < (l.getD j (0, 0, 0)).1 ∨ ((l.getD i (0, 0, 0)).1 = (l.getD j (0, 0, 0)).1 ∧ (l.getD i (0, 0, 0)).2.1 < (l.getD j (0, 0, 0)).2.1)
  | [], _ => by intro i j _ h; simp at h
  | x :: l, h => by
    intro i j hij hj
    cases j with
    | zero => omega
    | succ j =>
      have hj' : j < l.length := by simpa using hj
      cases i with
      | zero =>
        have := Asc.head l x h (l.getD j (0, 0, 0)) (by rw [List.getD_eq_getElem?_getD, List.getElem?_eq_getElem hj']; simp)
        simpa using this
      | succ i => simpa using Asc.lt l h.tail i j (by omega) hj'
theorem key_mono {T : List (Int × Int × Int)} (h : Asc T) (a b : Int) (i j : Nat) (hij : i ≤ j) (hj : j < T.length) (hk : keyI T a b j < 0) : keyI T a b i < 0 := by
  by_cases e : i = j
  · rw [e]; exact hk
  · have h1 := h.lt T i j (by omega) hj
    unfold keyI at hk ⊢
    rw [lexI_lt] at hk ⊢
    omega
theorem assoc2_get : ∀ (T : List (Int × Int × Int)), Asc T → ∀ (a b : Int) (k : Nat), k < T.length → keyI T a b k = 0 → assoc2 T a b = some (T.getD k (0, 0, 0)).2.2
  | [], _ => by intro a b k h; simp at h
  | (x, y, v) :: T, h => by
    intro a b k hk hz
    unfold keyI at hz
    rw [lexI_zero] at hz
    cases k with
    | zero => simp at hz; simp [assoc2, hz.1, hz.2]
    | succ k =>
      have hk' : k < T.length := by simpa using hk
      simp only [List.getD_cons_succ] at hz ⊢
      have h1 : x < (T.getD k (0, 0, 0)).1 ∨ (x = (T.getD k (0, 0, 0)).1 ∧ y < (T.getD k (0, 0, 0)).2.1) := Asc.head T (x, y, v) h (T.getD k (0, 0, 0)) (by rw [List.getD_eq_getElem?_getD, List.getElem?_eq_getElem hk']; simp)
      simp only [assoc2]
      rw [if_neg (by omega)]
      exact assoc2_get T h.tail a b k hk' (by unfold keyI; rw [lexI_zero]; exact hz)
theorem assoc2_out {T : List (Int × Int × Int)} {a b : Int} (h : ∀ i, i < T.length → keyI T a b i ≠ 0) : assoc2 T a b = none := by
  refine assoc2_none fun x hx => ?_
  obtain ⟨i, hi, rfl⟩ := List.getElem_of_mem hx
  have := h i hi
  unfold keyI at this
  rw [ne_eq, lexI_zero] at this
  rwa [List.getD_eq_getElem?_getD, List.getElem?_eq_getElem hi] at this
theorem assoc2_append : ∀ (A B : List (Int × Int × Int)) (a b : Int), assoc2 (A ++ B) a b = (assoc2 A a b).or (assoc2 B a b)
  | [], B, a, b => by simp [assoc2]
  | (x, y, v) :: A, B, a, b => by
    simp only [List.cons_append, assoc2]
    split
    · rfl
    · exact assoc2_append A B a b
/-- What the search comes to, in a table that rises. -/
theorem found {T : List (Int × Int × Int)} (h : Asc T) {a b : Int} {k : Nat} (h1 : ∀ i, i < k → keyI T a b i < 0) (h2 : ∀ i, k ≤ i → i < T.length → 0 ≤ keyI T a b i) :
    (k < T.length ∧ keyI T a b k = 0 → assoc2 T a b = some (T.getD k (0, 0, 0)).2.2) ∧ (¬ (k < T.length ∧ keyI T a b k = 0) → assoc2 T a b = none) := by
  refine ⟨fun hk => assoc2_get T h a b k hk.1 hk.2, fun hk => assoc2_out fun i hi => ?_⟩
  by_cases e : i < k
  · have := h1 i e; omega
  · intro hz
    by_cases e2 : i = k
    · subst e2; exact hk ⟨hi, hz⟩
    · have h3 := h2 k (Nat.le_refl _) (by omega)
      have h4 := h.lt T k i (by omega) hi
      unfold keyI at hz h3
      rw [lexI_zero] at hz
      have h5 : lexI (T.getD k (0, 0, 0)).1 (T.getD k (0, 0, 0)).2.1 a b < 0 := lexI_lt.2 (by omega)
      omega
def lowT : List (Int × Int × Int) := pairT.take 156
def highT : List (Int × Int × Int) := pairT.drop 156
theorem pairT_asc : Asc pairT := asc_of _ (by decide +kernel)
theorem lowT_asc : Asc lowT := asc_of _ (by decide +kernel)
theorem highT_asc : Asc highT := asc_of _ (by decide +kernel)
theorem lowT_length : lowT.length = 156 := by decide +kernel
theorem pairT_length : pairT.length ≤ 1000 := by decide +kernel
theorem pairT_halves : pairT = lowT ++ highT := (List.take_append_drop 156 pairT).symm
theorem lowT_get (i : Nat) (hi : i < 156) : lowT.getD i (0, 0, 0) = pairT.getD i (0, 0, 0) := by
  have : i < pairT.length := by have h := pairT_halves; have := congrArg List.length h; rw [List.length_append, lowT_length] at this; omega
  unfold lowT
  simp [List.getD_eq_getElem?_getD, hi]
theorem highT_get (i : Nat) : highT.getD i (0, 0, 0) = pairT.getD (156 + i) (0, 0, 0) := by
  unfold highT
  simp [List.getD_eq_getElem?_getD, List.getElem?_drop]
theorem pairT_size : pairT.length = 156 + highT.length := by
  have := congrArg List.length pairT_halves; rw [List.length_append, lowT_length] at this; exact this
/-- Behind the last pair of the first half it is the second half that tells. -/
theorem half_high {a b : Int} (h : lexI (lowT.getD 155 (0, 0, 0)).1 (lowT.getD 155 (0, 0, 0)).2.1 a b < 0) : assoc2 pairT a b = assoc2 highT a b := by
  rw [pairT_halves, assoc2_append, assoc2_out (T := lowT)]
  · rfl
  · intro i hi
    rw [lowT_length] at hi
    have := key_mono lowT_asc a b i 155 (by omega) (by rw [lowT_length]; omega) h
    omega
theorem half_low {a b : Int} (h : ¬ lexI (lowT.getD 155 (0, 0, 0)).1 (lowT.getD 155 (0, 0, 0)).2.1 a b < 0) : assoc2 pairT a b = assoc2 lowT a b := by
  rw [pairT_halves, assoc2_append, assoc2_out (T := highT)]
  · simp
  · intro i hi hz
    unfold keyI at hz
    rw [lexI_zero, highT_get] at hz
    rw [lexI_lt, lowT_get 155 (by omega)] at h
    have := pairT_asc.lt pairT 155 (156 + i) (by omega) (by rw [pairT_size]; omega)
    omega
theorem lexI_flip {a b c d : Int} : 0 < lexI a b c d ↔ lexI c d a b < 0 := by
  rw [lexI_lt]
  unfold lexI orI cmpI
  split <;> split <;> (try split) <;> (try split) <;> omega

end Go.Proofs.Pt

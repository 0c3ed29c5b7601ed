/- Rows of marks put in order by exchanges: what each step of a stable sort in place keeps (no program in sight). -/
import Derived.Test.YtgaokehmfebclaaM3
namespace Go.Proofs.Pt

/-- By class, none ahead of a lower one. -/
def Rise (l : List Int) : Prop := l.Pairwise (fun x y => ccc x ≤ ccc y)
/-- All are marks. -/
def AllM (l : List Int) : Prop := ∀ x ∈ l, 0 < ccc x
theorem AllM.perm {l m : List Int} (h : AllM l) (hp : l.Perm m) : AllM m := fun x hx => h x (hp.mem_iff.2 hx)
theorem AllM.alike {l m : List Int} (h : AllM l) (hp : Alike l m) : AllM m := h.perm hp.perm
theorem allM_append {l m : List Int} : AllM (l ++ m) ↔ AllM l ∧ AllM m := by
  unfold AllM
  constructor
  · intro h; exact ⟨fun x hx => h x (by simp [hx]), fun x hx => h x (by simp [hx])⟩
  · rintro ⟨h1, h2⟩ x hx
    rcases List.mem_append.1 hx with h | h
    · exact h1 x h
    · exact h2 x h
theorem rise_append {l m : List Int} : Rise (l ++ m) ↔ Rise l ∧ Rise m ∧ ∀ x ∈ l, ∀ y ∈ m, ccc x ≤ ccc y := List.pairwise_append
theorem rise_nil : Rise [] := List.Pairwise.nil
theorem rise_one (x : Int) : Rise [x] := by simp [Rise]
/-- A mark past marks that are all of lower classes. -/
theorem alike_over {x : Int} (hx : 0 < ccc x) : ∀ (s : List Int), (∀ y ∈ s, 0 < ccc y ∧ ccc y < ccc x) → Alike (x :: s) (s ++ [x])
  | [], _ => .refl _
  | y :: s, h => by
    have h1 := h y (by simp)
    have h2 := (alike_over hx s fun z hz => h z (by simp [hz])).left [y]
    have h3 := Alike.step [] s x y hx h1.1 (by omega)
    exact .trans (by simpa using h3) (by simpa using h2)
/-- Rows of marks the other way round, all of the second of lower classes. -/
theorem alike_turn {v : List Int} : ∀ (u : List Int), (∀ x ∈ u, 0 < ccc x) → (∀ y ∈ v, 0 < ccc y) → (∀ x ∈ u, ∀ y ∈ v, ccc y < ccc x) → Alike (u ++ v) (v ++ u)
  | [], _, _, _ => by simpa using Alike.refl v
  | x :: u, h1, h2, h3 => by
    have i := (alike_turn u (fun a ha => h1 a (by simp [ha])) h2 (fun a ha => h3 a (by simp [ha]))).left [x]
    have j := (alike_over (h1 x (by simp)) v fun y hy => ⟨h2 y hy, h3 x (by simp) y hy⟩).right u
    exact .trans (by simpa using i) (by simpa using j)
/-- Two values, each in the other's place. -/
def sw (xs : List Int) (i j : Nat) : List Int := (xs.set i (xs.getD j 0)).set j (xs.getD i 0)
theorem sw_length (xs : List Int) (i j : Nat) : (sw xs i j).length = xs.length := by simp [sw]
theorem sw_split (p m q : List Int) (x y : Int) : sw (p ++ x :: (m ++ y :: q)) p.length (p.length + 1 + m.length) = p ++ y :: (m ++ x :: q) := by
  unfold sw
  have h1 : (p ++ x :: (m ++ y :: q)).getD (p.length + 1 + m.length) 0 = y := by
    simp only [List.getD_eq_getElem?_getD]
    rw [List.getElem?_append_right (by omega), show p.length + 1 + m.length - p.length = m.length + 1 by omega, List.getElem?_cons_succ, List.getElem?_append_right (by omega)]
    simp
  have h2 : (p ++ x :: (m ++ y :: q)).getD p.length 0 = x := by simp [List.getD_eq_getElem?_getD]
  rw [h1, h2, List.set_append_right _ _ (by omega), Nat.sub_self, List.set_cons_zero, List.set_append_right _ _ (by omega), show p.length + 1 + m.length - p.length = m.length + 1 by omega, List.set_cons_succ, List.set_append_right _ _ (by omega), Nat.sub_self, List.set_cons_zero]
theorem sw_comm (xs : List Int) (i j : Nat) : sw xs i j = sw xs j i := by
  unfold sw
  by_cases e : i = j
  · rw [e]
  · rw [List.set_comm _ _ e]
theorem sw_split' (p m q : List Int) (x y : Int) : sw (p ++ x :: (m ++ y :: q)) (p.length + 1 + m.length) p.length = p ++ y :: (m ++ x :: q) := by rw [sw_comm, sw_split]

/-! ### a part of a row in order: what an insertion sort does -/
structure Insd (u s1 : List Int) (x : Int) (s2 t : List Int) : Prop where
  alike : Alike u (s1 ++ x :: (s2 ++ t))
  rise : Rise (s1 ++ s2)
  over : ∀ y ∈ s2, ccc x < ccc y
theorem Insd.start {u s t : List Int} {x : Int} (ha : Alike u (s ++ x :: t)) (hs : Rise s) : Insd u s x [] t := ⟨by simpa using ha, by simpa using hs, by simp⟩
theorem Insd.step {u s1 s2 t : List Int} {x y : Int} (h : Insd u (s1 ++ [y]) x s2 t) (hu : AllM u) (hlt : ccc x < ccc y) : Insd u s1 x (y :: s2) t := by
  have hm := hu.alike h.alike
  have hx : 0 < ccc x := hm x (by simp)
  have hy : 0 < ccc y := hm y (by simp)
  refine ⟨.trans h.alike ?_, by simpa using h.rise, ?_⟩
  · have := Alike.step s1 (s2 ++ t) y x hy hx (by omega)
    simpa using this
  · intro z hz
    rcases List.mem_cons.1 hz with rfl | hz
    · exact hlt
    · exact h.over z hz
theorem Insd.stop {u s1 s2 t : List Int} {x : Int} (h : Insd u s1 x s2 t) (hs : ∀ y, s1.getLast? = some y → ccc y ≤ ccc x) : Alike u ((s1 ++ x :: s2) ++ t) ∧ Rise (s1 ++ x :: s2) := by
  refine ⟨by simpa using h.alike, ?_⟩
  have hr := rise_append.1 h.rise
  refine rise_append.2 ⟨hr.1, List.Pairwise.cons (fun y hy => Int.le_of_lt (h.over y hy)) hr.2.1, ?_⟩
  intro y hy z hz
  rcases List.mem_cons.1 hz with rfl | hz
  · rcases List.eq_nil_or_concat s1 with rfl | ⟨s, w, rfl⟩
    · simp at hy
    · have hw := hs w (by simp)
      simp only [List.concat_eq_append] at hy hr
      rcases List.mem_append.1 hy with h1 | h1
      · have := (rise_append.1 hr.1).2.2 y h1 w (by simp); omega
      · simp at h1; rw [h1]; exact hw
  · exact hr.2.2 y hy z hz

/-! ### two parts in order, one behind the other: what a merge by turning does -/
theorem rise_turn {a u v b : List Int} (h1 : Rise (a ++ u)) (h2 : Rise (v ++ b)) (h3 : ∀ x ∈ a, ∀ y ∈ b, ccc x ≤ ccc y) (h4 : ∀ x ∈ u, ∀ y ∈ v, ccc y < ccc x) {l r : List Int} (hl : (a ++ v).Perm l) (hr : (u ++ b).Perm r) (hl1 : Rise l) (hr1 : Rise r) : Rise (l ++ r) := by
  have h1' := rise_append.1 h1
  have h2' := rise_append.1 h2
  refine rise_append.2 ⟨hl1, hr1, fun x hx y hy => ?_⟩
  rcases List.mem_append.1 (hl.mem_iff.2 hx) with h | h <;> rcases List.mem_append.1 (hr.mem_iff.2 hy) with g | g
  · exact h1'.2.2 x h y g
  · exact h3 x h y g
  · exact Int.le_of_lt (h4 y g x h)
  · exact h2'.2.2 x h y g
/-- By class rising: put in order it stays. -/
theorem steps_of_rise : ∀ {l : List Int}, Rise l → Steps l
  | [], _ => trivial
  | [_], _ => trivial
  | a :: b :: l, h => ⟨fun hh => by have := (List.pairwise_cons.1 h).1 b (by simp); omega, steps_of_rise (List.pairwise_cons.1 h).2⟩
/-- Where two values' classes rise, and the list rises, place by place. -/
theorem rise_get {l : List Int} (h : Rise l) (i j : Nat) (hij : i ≤ j) (hj : j < l.length) : ccc (l.getD i 0) ≤ ccc (l.getD j 0) := by
  have hi : i < l.length := by omega
  rw [List.getD_eq_getElem?_getD, List.getD_eq_getElem?_getD, List.getElem?_eq_getElem hi, List.getElem?_eq_getElem hj]
  by_cases e : i = j
  · subst e; exact Int.le_refl _
  · exact List.pairwise_iff_getElem.1 h i j hi hj (by omega)
theorem rise_take {l : List Int} (h : Rise l) (k : Nat) (hk : k < l.length) : ∀ z ∈ l.take (k + 1), ccc z ≤ ccc (l.getD k 0) := by
  intro z hz
  obtain ⟨i, hi, rfl⟩ := List.mem_iff_getElem.1 hz
  simp only [List.length_take] at hi
  have := rise_get h i k (by omega) hk
  rw [List.getElem_take]
  simpa [List.getD_eq_getElem?_getD, List.getElem?_eq_getElem (show i < l.length by omega)] using this
theorem rise_drop {l : List Int} (h : Rise l) (k : Nat) (hk : k < l.length) : ∀ z ∈ l.drop k, ccc (l.getD k 0) ≤ ccc z := by
  intro z hz
  obtain ⟨i, hi, rfl⟩ := List.mem_iff_getElem.1 hz
  simp only [List.length_drop] at hi
  have := rise_get h k (k + i) (by omega) (by omega)
  rw [List.getElem_drop]
  simpa [List.getD_eq_getElem?_getD, List.getElem?_eq_getElem (show k + i < l.length by omega)] using this
theorem rise_left {l : List Int} (h : Rise l) (k : Nat) : Rise (l.take k) := by
  have := h; rw [← List.take_append_drop k l] at this; exact (rise_append.1 this).1
theorem rise_right {l : List Int} (h : Rise l) (k : Nat) : Rise (l.drop k) := by
  have := h; rw [← List.take_append_drop k l] at this; exact (rise_append.1 this).2.1
theorem mem_take {l : List Int} {k : Nat} {z : Int} (h : z ∈ l.take k) : z ∈ l := List.mem_of_mem_take h
theorem mem_drop {l : List Int} {k : Nat} {z : Int} (h : z ∈ l.drop k) : z ∈ l := List.mem_of_mem_drop h
/-- One value put among those that rise, behind all lower ones: from ahead of them. -/
theorem put_left {x : Int} {v : List Int} {i : Nat} (hm : AllM (x :: v)) (hv : Rise v) (h1 : ∀ z ∈ v.take i, ccc z < ccc x) (h2 : ∀ z ∈ v.drop i, ccc x ≤ ccc z) : Alike (x :: v) (v.take i ++ x :: v.drop i) ∧ Rise (v.take i ++ x :: v.drop i) := by
  constructor
  · have := (alike_over (hm x (by simp)) (v.take i) fun y hy => ⟨hm y (by simp [mem_take hy]), h1 y hy⟩).right (v.drop i)
    simpa using this
  · refine rise_append.2 ⟨rise_left hv i, List.Pairwise.cons (fun z hz => h2 z hz) (rise_right hv i), ?_⟩
    intro z hz y hy
    rcases List.mem_cons.1 hy with rfl | hy
    · exact Int.le_of_lt (h1 z hz)
    · have := h1 z hz; have := h2 y hy; omega
/-- One value put among those that rise, behind all that are no greater: from behind them. -/
theorem put_right {y : Int} {u : List Int} {i : Nat} (hm : AllM (u ++ [y])) (hu : Rise u) (h1 : ∀ z ∈ u.take i, ccc z ≤ ccc y) (h2 : ∀ z ∈ u.drop i, ccc y < ccc z) : Alike (u ++ [y]) (u.take i ++ y :: u.drop i) ∧ Rise (u.take i ++ y :: u.drop i) := by
  constructor
  · have := (alike_turn (v := [y]) (u.drop i) (fun z hz => hm z (by simp [mem_drop hz])) (fun z hz => hm z (by simp at hz; simp [hz])) (fun z hz w hw => by simp at hw; rw [hw]; exact h2 z hz)).left (u.take i)
    rw [← List.append_assoc, List.take_append_drop] at this
    simpa using this
  · refine rise_append.2 ⟨rise_left hu i, List.Pairwise.cons (fun z hz => Int.le_of_lt (h2 z hz)) (rise_right hu i), ?_⟩
    intro z hz w hw
    rcases List.mem_cons.1 hw with rfl | hw
    · exact h1 z hz
    · have := h1 z hz; have := h2 w hw; omega
/-- Two parts cut where the one's tail goes behind the other's head. -/
theorem merge_cut {u v : List Int} {i j : Nat} (hm : AllM (u ++ v)) (hu : Rise u) (hv : Rise v) (h3 : ∀ x ∈ u.take i, ∀ y ∈ v.drop j, ccc x ≤ ccc y) (h4 : ∀ x ∈ u.drop i, ∀ y ∈ v.take j, ccc y < ccc x)
    {l r : List Int} (hl : Alike (u.take i ++ v.take j) l) (hr : Alike (u.drop i ++ v.drop j) r) (hl1 : Rise l) (hr1 : Rise r) : Alike (u ++ v) (l ++ r) ∧ Rise (l ++ r) := by
  constructor
  · have ht := ((alike_turn (v := v.take j) (u.drop i) (fun z hz => hm z (by simp [mem_drop hz])) (fun z hz => hm z (by simp [mem_take hz])) h4).right (v.drop j)).left (u.take i)
    have e : u.take i ++ ((u.drop i ++ v.take j) ++ v.drop j) = u ++ v := by rw [← List.append_assoc, ← List.append_assoc, List.take_append_drop, List.append_assoc, List.take_append_drop]
    rw [e] at ht
    refine .trans ht ?_
    have := hl.both hr
    simpa using this
  · exact rise_turn (a := u.take i) (u := u.drop i) (v := v.take j) (b := v.drop j) (by rw [List.take_append_drop]; exact hu) (by rw [List.take_append_drop]; exact hv) h3 h4 hl.perm hr.perm hl1 hr1
/-- Where the search of a merge ends: what it then knows. -/
theorem merge_found {u v : List Int} (hu : Rise u) (hv : Rise v) (i j : Nat) (hi : i ≤ u.length) (hj : j ≤ v.length) (h1 : i = 0 ∨ j = v.length ∨ ccc (u.getD (i - 1) 0) ≤ ccc (v.getD j 0)) (h2 : i = u.length ∨ j = 0 ∨ ccc (v.getD (j - 1) 0) < ccc (u.getD i 0)) :
    (∀ x ∈ u.take i, ∀ y ∈ v.drop j, ccc x ≤ ccc y) ∧ (∀ x ∈ u.drop i, ∀ y ∈ v.take j, ccc y < ccc x) := by
  constructor
  · intro x hx y hy
    rcases h1 with h | h | h
    · rw [h] at hx; simp at hx
    · rw [h] at hy; simp at hy
    · by_cases hi0 : i = 0
      · rw [hi0] at hx; simp at hx
      · by_cases hj0 : j = v.length
        · rw [hj0] at hy; simp at hy
        · have a := rise_take hu (i - 1) (by omega) x (by rw [show i - 1 + 1 = i by omega]; exact hx)
          have b := rise_drop hv j (by omega) y hy
          omega
  · intro x hx y hy
    rcases h2 with h | h | h
    · rw [h] at hx; simp at hx
    · rw [h] at hy; simp at hy
    · by_cases hi0 : i = u.length
      · rw [hi0] at hx; simp at hx
      · by_cases hj0 : j = 0
        · rw [hj0] at hy; simp at hy
        · have a := rise_drop hu i (by omega) x hx
          have b := rise_take hv (j - 1) (by omega) y (by rw [show j - 1 + 1 = j by omega]; exact hy)
          omega
/-! ### rows by blocks of one size -/
/-- Blocks of one size, each in order, one behind the other; the last one may be smaller. -/
inductive Blocks (s : Nat) : List Int → Prop
  | last (l) : Rise l → l.length ≤ s → Blocks s l
  | more (l t) : Rise l → l.length = s → Blocks s t → Blocks s (l ++ t)
/-- Whole blocks alone, told from behind. -/
inductive Full (s : Nat) : List Int → Prop
  | nil : Full s []
  | snoc (d l) : Full s d → Rise l → l.length = s → Full s (d ++ l)
theorem Full.blocks {s : Nat} {d : List Int} (h : Full s d) : ∀ {t : List Int}, Blocks s t → Blocks s (d ++ t) := by
  induction h with
  | nil => intro t ht; simpa using ht
  | snoc d l _ hr hl ih => intro t ht; rw [List.append_assoc]; exact ih (.more l t hr hl ht)
theorem Blocks.rise {s : Nat} {l : List Int} (h : Blocks s l) (hl : l.length ≤ s) : Rise l := by
  cases h with
  | last _ h _ => exact h
  | more a t hr ha ht =>
    have : t = [] := List.length_eq_zero_iff.1 (by simp at hl; omega)
    rw [this]; simpa using hr
theorem Blocks.one {s : Nat} {l : List Int} (h : Blocks s l) (hl : s ≤ l.length) : ∃ a t, l = a ++ t ∧ a.length = s ∧ Rise a ∧ Blocks s t := by
  cases h with
  | last _ h h2 => exact ⟨l, [], by simp, by omega, h, .last [] rise_nil (by simp)⟩
  | more a t hr ha ht => exact ⟨a, t, rfl, ha, hr, ht⟩
theorem Blocks.two {s : Nat} {l : List Int} (h : Blocks s l) (hl : 2 * s ≤ l.length) : ∃ a b t, l = a ++ (b ++ t) ∧ a.length = s ∧ b.length = s ∧ Rise a ∧ Rise b ∧ Blocks s t := by
  obtain ⟨a, t, rfl, ha, hra, ht⟩ := h.one (by omega)
  obtain ⟨b, t, rfl, hb, hrb, ht⟩ := ht.one (by simp at hl; omega)
  exact ⟨a, b, t, rfl, ha, hb, hra, hrb, ht⟩
theorem Blocks.nil (s : Nat) : Blocks s [] := .last [] rise_nil (by simp)
end Go.Proofs.Pt

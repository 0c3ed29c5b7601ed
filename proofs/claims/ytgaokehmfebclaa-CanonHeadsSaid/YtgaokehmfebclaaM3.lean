/- Marks in their order: an insertion sort of each row of marks by class, and that lists which differ by marks of unlike classes that stand the other way round have one order. No program is in sight here. -/
import Derived.Test.YtgaokehmfebclaaM2
namespace Go.Proofs.Pt

/-! ### order -/
/-- One value more behind a list that is told backwards: a mark goes ahead of those marks whose class is greater. -/
def insR : List Int → Int → List Int
  | [], r => [r]
  | x :: t, r => if 0 < ccc r ∧ ccc r < ccc x then x :: insR t r else r :: x :: t
def ordR (t : List Int) (l : List Int) : List Int := l.foldl insR t
def order (l : List Int) : List Int := (ordR [] l).reverse
theorem ordR_nil (t : List Int) : ordR t [] = t := rfl
theorem ordR_cons (t : List Int) (r : Int) (l : List Int) : ordR t (r :: l) = ordR (insR t r) l := rfl
theorem ordR_append (t a b : List Int) : ordR t (a ++ b) = ordR (ordR t a) b := by simp [ordR, List.foldl_append]
theorem insR_length (t : List Int) (r : Int) : (insR t r).length = t.length + 1 := by
  induction t with
  | nil => rfl
  | cons x t ih => simp only [insR]; split <;> simp [ih]
theorem ordR_length (l : List Int) : ∀ t, (ordR t l).length = t.length + l.length := by
  induction l with
  | nil => intro t; simp [ordR]
  | cons r l ih => intro t; rw [ordR_cons, ih, insR_length]; simp; omega
theorem order_length (l : List Int) : (order l).length = l.length := by simp [order, ordR_length]
theorem insR_perm (t : List Int) (r : Int) : (insR t r).Perm (r :: t) := by
  induction t with
  | nil => exact List.Perm.refl _
  | cons x t ih =>
    simp only [insR]; split
    · exact (ih.cons x).trans (List.Perm.swap r x t)
    · exact List.Perm.refl _
theorem ordR_perm (l : List Int) : ∀ t, (ordR t l).Perm (t ++ l) := by
  induction l with
  | nil => intro t; simp [ordR]
  | cons r l ih =>
    intro t; rw [ordR_cons]
    exact (ih _).trans (((insR_perm t r).append_right l).trans (List.perm_middle.symm))
theorem order_perm (l : List Int) : (order l).Perm l := (List.reverse_perm _).trans (by simpa using ordR_perm l [])
theorem mem_order {l : List Int} {x : Int} : x ∈ order l ↔ x ∈ l := (order_perm l).mem_iff

/-- Behind a value that is no mark nothing goes further back. -/
theorem insR_wall (u : List Int) {s : Int} (hs : ccc s = 0) (t : List Int) (r : Int) : insR (u ++ s :: t) r = insR u r ++ s :: t := by
  induction u with
  | nil => simp only [List.nil_append, insR]; rw [if_neg (by have := ccc_nonneg r; omega)]; rfl
  | cons x u ih => simp only [List.cons_append, insR]; split <;> simp [ih]
theorem ordR_wall (l : List Int) {s : Int} (hs : ccc s = 0) (t : List Int) : ∀ u, ordR (u ++ s :: t) l = ordR u l ++ s :: t := by
  induction l with
  | nil => intro u; rfl
  | cons r l ih => intro u; rw [ordR_cons, ordR_cons, insR_wall u hs, ih]
theorem insR_head (t : List Int) {s : Int} (hs : ccc s = 0) : insR t s = s :: t := by
  cases t with
  | nil => rfl
  | cons x t => simp only [insR]; rw [if_neg (by omega)]
theorem order_nil : order [] = [] := rfl
/-- A value that is no mark stays where it is, and parts the rows. -/
theorem order_split (a b : List Int) {s : Int} (hs : ccc s = 0) : order (a ++ s :: b) = order a ++ s :: order b := by
  unfold order
  rw [ordR_append, ordR_cons, insR_head _ hs]
  have := ordR_wall b hs (ordR [] a) []
  simp only [List.nil_append] at this
  rw [this]; simp
theorem order_head {s : Int} (hs : ccc s = 0) (b : List Int) : order (s :: b) = s :: order b := by
  have := order_split [] b hs; simpa [order_nil] using this
theorem order_split' (a b : List Int) {s : Int} (hs : ccc s = 0) : order (a ++ s :: b) = order a ++ order (s :: b) := by
  rw [order_split a b hs, order_head hs]
theorem order_snoc (l : List Int) (r : Int) : order (l ++ [r]) = (insR (order l).reverse r).reverse := by
  simp [order, ordR_append, ordR_cons, ordR_nil]
theorem order_snoc_head (l : List Int) {s : Int} (hs : ccc s = 0) : order (l ++ [s]) = order l ++ [s] := by
  rw [order_split l [] hs]; rfl

/-! ### what differs by marks of unlike classes that stand the other way round -/
inductive Alike : List Int → List Int → Prop
  | refl (l) : Alike l l
  | step (p q : List Int) (a b : Int) (ha : 0 < ccc a) (hb : 0 < ccc b) (hne : ccc a ≠ ccc b) : Alike (p ++ a :: b :: q) (p ++ b :: a :: q)
  | trans {l m n} : Alike l m → Alike m n → Alike l n
theorem Alike.symm {l m : List Int} (h : Alike l m) : Alike m l := by
  induction h with
  | refl => exact .refl _
  | step p q a b ha hb hne => exact .step p q b a hb ha (Ne.symm hne)
  | trans _ _ h1 h2 => exact .trans h2 h1
theorem Alike.left (x : List Int) {l m : List Int} (h : Alike l m) : Alike (x ++ l) (x ++ m) := by
  induction h with
  | refl => exact .refl _
  | step p q a b ha hb hne => have := Alike.step (x ++ p) q a b ha hb hne; simpa using this
  | trans _ _ h1 h2 => exact .trans h1 h2
theorem Alike.right (x : List Int) {l m : List Int} (h : Alike l m) : Alike (l ++ x) (m ++ x) := by
  induction h with
  | refl => exact .refl _
  | step p q a b ha hb hne => have := Alike.step p (q ++ x) a b ha hb hne; simpa using this
  | trans _ _ h1 h2 => exact .trans h1 h2
theorem Alike.both {l m l' m' : List Int} (h : Alike l m) (h' : Alike l' m') : Alike (l ++ l') (m ++ m') := (h.right l').trans (h'.left m)
theorem Alike.perm {l m : List Int} (h : Alike l m) : l.Perm m := by
  induction h with
  | refl => exact List.Perm.refl _
  | step p q a b _ _ _ => exact List.Perm.append_left p (List.Perm.swap b a q)
  | trans _ _ h1 h2 => exact h1.trans h2
/-- What is true of a value for each place stays so, where it hangs on no mark's place. -/
theorem Alike.kinds {l m : List Int} (h : Alike l m) : l.map (fun x => if 0 < ccc x then none else some x) = m.map (fun x => if 0 < ccc x then none else some x) := by
  induction h with
  | refl => rfl
  | step p q a b ha hb _ => simp [ha, hb]
  | trans _ _ h1 h2 => exact h1.trans h2
theorem Alike.classes (c : Int) {l m : List Int} (h : Alike l m) : l.filter (fun x => ccc x == c) = m.filter (fun x => ccc x == c) := by
  induction h with
  | refl => rfl
  | step p q a b _ _ hne =>
    simp only [List.filter_append, List.filter_cons]
    by_cases h1 : ccc a = c <;> by_cases h2 : ccc b = c <;> simp [h1, h2]
    omega
  | trans _ _ h1 h2 => exact h1.trans h2

theorem insR_comm_lt {a b : Int} (ha : 0 < ccc a) (hab : ccc a < ccc b) (t : List Int) : insR (insR t a) b = insR (insR t b) a := by
  induction t with
  | nil => simp only [insR]; rw [if_neg (by omega), if_pos (by omega)]
  | cons x t ih =>
    by_cases h1 : ccc b < ccc x
    · simp only [insR]; rw [if_pos (by omega), if_pos (by omega)]; simp only [insR]; rw [if_pos (by omega), if_pos (by omega), ih]
    · by_cases h2 : ccc a < ccc x
      · simp only [insR]; rw [if_pos (by omega), if_neg (by omega)]; simp only [insR]; rw [if_neg (by omega), if_pos (by omega), if_pos (by omega)]
      · simp only [insR]; rw [if_neg (by omega), if_neg (by omega)]; simp only [insR]; rw [if_neg (by omega), if_pos (by omega), if_neg (by omega)]
theorem insR_comm {a b : Int} (ha : 0 < ccc a) (hb : 0 < ccc b) (hne : ccc a ≠ ccc b) (t : List Int) : insR (insR t a) b = insR (insR t b) a := by
  by_cases h : ccc a < ccc b
  · exact insR_comm_lt ha h t
  · exact (insR_comm_lt hb (by omega) t).symm
theorem Alike.order {l m : List Int} (h : Alike l m) : Pt.order l = Pt.order m := by
  induction h with
  | refl => rfl
  | step p q a b ha hb hne => simp only [Pt.order, ordR_append, ordR_cons, insR_comm ha hb hne]
  | trans _ _ h1 h2 => exact h1.trans h2
theorem alike_insR (t : List Int) (r : Int) : Alike (t.reverse ++ [r]) (insR t r).reverse := by
  induction t with
  | nil => exact .refl _
  | cons x t ih =>
    simp only [insR]; split
    · rename_i h
      simp only [List.reverse_cons, List.append_assoc, List.singleton_append]
      refine (Alike.step t.reverse [] x r (by omega) h.1 (by omega)).trans ?_
      have := ih.right [x]; simpa using this
    · simp; exact .refl _
theorem alike_ordR (l : List Int) : ∀ t, Alike (t.reverse ++ l) (ordR t l).reverse := by
  induction l with
  | nil => intro t; simp [ordR_nil]; exact .refl _
  | cons r l ih =>
    intro t; rw [ordR_cons]
    have h1 := (alike_insR t r).right l
    have h2 := ih (insR t r)
    simp only [List.append_assoc, List.singleton_append] at h1
    exact h1.trans h2
/-- A list and its order differ by nothing else. -/
theorem alike_order (l : List Int) : Alike l (order l) := by simpa [order] using alike_ordR l []
theorem order_order (l : List Int) : order (order l) = order l := (alike_order l).order.symm
def Sorted (l : List Int) : Prop := order l = l
theorem sorted_order (l : List Int) : Sorted (order l) := order_order l
theorem alike_of_order {l m : List Int} (h : order l = order m) : Alike l m := (alike_order l).trans (h ▸ (alike_order m).symm)

/-! ### being in order, place by place -/
/-- No mark stands right behind one of a greater class. -/
def Steps : List Int → Prop
  | [] => True
  | [_] => True
  | a :: b :: l => ¬ (0 < ccc b ∧ ccc b < ccc a) ∧ Steps (b :: l)
theorem steps_tail {a : Int} {l : List Int} (h : Steps (a :: l)) : Steps l := by
  cases l with
  | nil => trivial
  | cons b l => exact h.2
theorem ordR_steps (l : List Int) : ∀ (x : Int) (t : List Int), Steps (x :: l) → ordR (x :: t) l = l.reverse ++ x :: t := by
  induction l with
  | nil => intro x t _; rfl
  | cons r l ih =>
    intro x t h
    rw [ordR_cons]
    simp only [insR]
    rw [if_neg h.1, ih r (x :: t) h.2]; simp
theorem sorted_of_steps {l : List Int} (h : Steps l) : Sorted l := by
  cases l with
  | nil => rfl
  | cons x l =>
    unfold Sorted order
    rw [ordR_cons]
    simp only [insR]
    rw [ordR_steps l x [] h]; simp
theorem steps_append {l m : List Int} (hl : Steps l) (hm : Steps m) (h : ∀ a b, l.getLast? = some a → m.head? = some b → ¬ (0 < ccc b ∧ ccc b < ccc a)) : Steps (l ++ m) := by
  induction l with
  | nil => exact hm
  | cons x l ih =>
    cases l with
    | nil =>
      cases m with
      | nil => trivial
      | cons y m => exact ⟨h x y rfl rfl, hm⟩
    | cons y l => exact ⟨hl.1, ih hl.2 fun a b ha hb => h a b (by simpa using ha) hb⟩
theorem steps_left {l m : List Int} (h : Steps (l ++ m)) : Steps l := by
  induction l with
  | nil => trivial
  | cons x l ih =>
    cases l with
    | nil => trivial
    | cons y l => exact ⟨h.1, ih h.2⟩
theorem steps_right {l m : List Int} (h : Steps (l ++ m)) : Steps m := by
  induction l with
  | nil => exact h
  | cons x l ih => exact ih (steps_tail h)
/-- The same told backwards. -/
def StepsR : List Int → Prop
  | [] => True
  | [_] => True
  | b :: a :: l => ¬ (0 < ccc b ∧ ccc b < ccc a) ∧ StepsR (a :: l)
theorem insR_stepsR (t : List Int) (r : Int) (h : StepsR t) : StepsR (insR t r) ∧ (∀ x u, insR t r = x :: u → x = r ∨ ∃ v, t = x :: v) := by
  induction t with
  | nil => exact ⟨trivial, fun x u e => by simp [insR] at e; exact .inl e.1.symm⟩
  | cons y t ih =>
    simp only [insR]; split
    · rename_i c
      have ht : StepsR t := by cases t with | nil => trivial | cons z t => exact h.2
      obtain ⟨h1, h2⟩ := ih ht
      refine ⟨?_, fun x u e => .inr ⟨t, by simp at e; rw [e.1]⟩⟩
      cases e : insR t r with
      | nil => trivial
      | cons z u =>
        rw [e] at h1
        refine ⟨?_, h1⟩
        rcases h2 z u e with rfl | ⟨v, rfl⟩
        · omega
        · exact h.1
    · rename_i c
      exact ⟨⟨c, h⟩, fun x u e => .inl (by simp at e; exact e.1.symm)⟩
theorem ordR_stepsR (l : List Int) : ∀ t, StepsR t → StepsR (ordR t l) := by
  induction l with
  | nil => intro t h; exact h
  | cons r l ih => intro t h; exact ih _ (insR_stepsR t r h).1
theorem steps_of_stepsR (t : List Int) : StepsR t → Steps t.reverse := by
  induction t with
  | nil => intro _; trivial
  | cons b t ih =>
    intro h
    rw [List.reverse_cons]
    cases t with
    | nil => trivial
    | cons a t =>
      refine steps_append (ih h.2) trivial ?_
      intro x y hx hy
      simp at hx hy; subst hx; subst hy; exact h.1
theorem steps_of_sorted {l : List Int} (h : Sorted l) : Steps l := by
  rw [← h]; exact steps_of_stepsR _ (ordR_stepsR l [] trivial)
theorem sorted_iff {l : List Int} : Sorted l ↔ Steps l := ⟨steps_of_sorted, sorted_of_steps⟩

/-! ### rows -/
/-- How many marks a list ends with. -/
def trail (l : List Int) : Nat := (l.reverse.takeWhile fun x => decide (0 < ccc x)).length
/-- How many marks the longest row has, some marks ahead. -/
def marksN : Nat → List Int → Nat
  | n, [] => n
  | n, r :: l => if 0 < ccc r then marksN (n + 1) l else max n (marksN 0 l)
def marks (l : List Int) : Nat := marksN 0 l
theorem marksN_ge (l : List Int) : ∀ n, n ≤ marksN n l := by
  induction l with
  | nil => intro n; exact Nat.le_refl _
  | cons r l ih => intro n; simp only [marksN]; split; · have := ih (n + 1); omega
                   · omega
theorem marksN_kinds (l : List Int) : ∀ (m : List Int) n, l.map (fun x => if 0 < ccc x then none else some x) = m.map (fun x => if 0 < ccc x then none else some x) → marksN n l = marksN n m := by
  induction l with
  | nil => intro m n h; cases m with | nil => rfl | cons => simp at h
  | cons r l ih =>
    intro m n h
    cases m with
    | nil => simp at h
    | cons q m =>
      simp only [List.map_cons, List.cons.injEq] at h
      simp only [marksN]
      by_cases hr : 0 < ccc r <;> by_cases hq : 0 < ccc q <;> simp only [hr, hq, if_true, if_false] at h ⊢
      · exact ih m _ h.2
      · exact absurd h.1 (by simp)
      · exact absurd h.1 (by simp)
      · rw [ih m 0 h.2]
theorem Alike.marks {l m : List Int} (h : Alike l m) : Pt.marks l = Pt.marks m := marksN_kinds l m 0 h.kinds
theorem order_marks (l : List Int) : marks (order l) = marks l := (alike_order l).marks.symm

end Go.Proofs.Pt

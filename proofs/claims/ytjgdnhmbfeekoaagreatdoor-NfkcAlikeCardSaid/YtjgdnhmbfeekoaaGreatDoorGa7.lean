/- Lemmas and walks that the claims of this seat share: several texts, joined. -/
import Derived.Test.YtjgdnhmbfeekoaaGreatDoorGa6
/- ==== the text M8 ==== -/
section
/- Values without their case and without what is dropped, in the form: what came out comes out again. No program is in sight here. -/
namespace Go.Proofs.Pt

theorem foldAll_append (a b : List Int) : foldAll (a ++ b) = foldAll a ++ foldAll b := by simp [foldAll]
theorem foldAll_cons (a : Int) (b : List Int) : foldAll (a :: b) = foldc a ++ foldAll b := by simp [foldAll]
theorem left_append (a b : List Int) : left (a ++ b) = left a ++ left b := by simp [left, foldAll_append]
theorem left_cons (a : Int) (b : List Int) : left (a :: b) = left [a] ++ left b := left_append [a] b
theorem foldc_cases (r : Int) : (r, foldc r) ∈ caseT ∨ foldc r = [r] := by
  unfold foldc
  cases h : assoc caseT r with
  | none => exact .inr rfl
  | some l => exact .inl (assoc_mem h)
theorem foldc_plain {r : Int} (h : r < 65 ∨ 7928 < r ∨ r = 847 ∨ (4352 ≤ r ∧ r ≤ 4546)) : foldc r = [r] := by
  unfold foldc
  rw [assoc_none]; · rfl
  intro x hx
  have := all_mem caseT_ok hx
  simp at this; omega
theorem foldc_foldc {r x : Int} (hx : x ∈ foldc r) : foldc x = [x] := by
  rcases foldc_cases r with h | h
  · have := all_mem caseT_ok h
    simp only [Bool.and_eq_true, List.all_eq_true, beq_iff_eq] at this
    exact this.1.1.1.1.1.1.1.1 x hx
  · rw [h] at hx; simp at hx; rw [hx]; exact h
theorem foldAll_plain {l : List Int} (h : ∀ x ∈ l, foldc x = [x]) : foldAll l = l := by
  induction l with
  | nil => rfl
  | cons x l ih => rw [foldAll_cons, h x (by simp), ih fun y hy => h y (by simp [hy])]; rfl
theorem foldAll_mem {l : List Int} {x : Int} (h : x ∈ foldAll l) : foldc x = [x] := by
  simp only [foldAll, List.mem_flatMap] at h
  obtain ⟨y, _, hx⟩ := h; exact foldc_foldc hx
theorem foldAll_foldAll (l : List Int) : foldAll (foldAll l) = foldAll l := foldAll_plain fun _ h => foldAll_mem h
theorem left_foldAll (l : List Int) : left (foldAll l) = left l := by unfold left; rw [foldAll_foldAll]
theorem left_left (l : List Int) : left (left l) = left l := by
  have h : foldAll (left l) = left l := foldAll_plain fun x hx => foldAll_mem (List.mem_filter.1 hx).1
  show (foldAll (left l)).filter _ = _
  rw [h]; unfold left; rw [List.filter_filter]; simp
theorem left_dropped {r : Int} (h : drops r = true) : left [r] = [] := by
  have : foldc r = [r] := by
    rcases foldc_cases r with h' | h'
    · have := all_mem caseT_ok h'; simp [h] at this
    · exact h'
  simp [left, foldAll, this, h]
theorem foldc_made (r : Int) : 1 ≤ (foldc r).length ∧ (made (foldc r)).length ≤ 4 := by
  rcases foldc_cases r with h | h
  · have := all_mem caseT_ok h
    simp only [Bool.and_eq_true, decide_eq_true_eq] at this
    exact ⟨this.1.1.2, this.2⟩
  · rw [h]; simp [made_cons, made_nil]; exact (full_length r).2

/-! ### value by value -/
def ffeed (L : List Int) (r : Int) : List Int × List Int := nfeeds (if sane L = true then L else []) (left [r])
def ffeeds (L : List Int) : List Int → List Int × List Int
  | [] => (L, [])
  | r :: l => ((ffeeds (nfeeds L (left [r])).1 l).1, (nfeeds L (left [r])).2 ++ (ffeeds (nfeeds L (left [r])).1 l).2)
def fall (l : List Int) : List Int := (ffeeds [] l).2 ++ nend (ffeeds [] l).1
theorem ffeeds_left (l : List Int) : ∀ L, ffeeds L l = nfeeds L (left l) := by
  induction l with
  | nil => intro L; rfl
  | cons r l ih => intro L; rw [left_cons, nfeeds_append]; simp only [ffeeds, ih]
theorem fall_nall (l : List Int) : fall l = nall (left l) := by unfold fall nall; rw [ffeeds_left]
theorem fall_nfkc (l : List Int) : fall l = nfkc (left l) := by rw [fall_nall, nall_nfkc]
theorem sane_feeds (l : List Int) : ∀ {L : List Int}, sane L = true → sane (nfeeds L l).1 = true ∧ (nfeeds L l).2.length ≤ 31 * (made l).length := by
  induction l with
  | nil => intro L h; exact ⟨h, by simp [nfeeds]⟩
  | cons r l ih =>
    intro L h
    have h1 := sane_feed L r
    have h2 := ih h1.1
    simp only [nfeeds, List.length_append, made_cons]
    exact ⟨h2.1, by omega⟩
theorem made_filter_length (p : Int → Bool) (l : List Int) : (made (l.filter p)).length ≤ (made l).length := by
  induction l with
  | nil => exact Nat.le_refl _
  | cons x l ih => simp only [List.filter_cons]; split <;> simp [made_cons] <;> omega
theorem sane_ffeed (L : List Int) (r : Int) : sane (ffeed L r).1 = true ∧ (ffeed L r).2.length ≤ 124 := by
  have hs : sane (if sane L = true then L else []) = true := by split; assumption; exact sane_nil
  have h1 := sane_feeds (left [r]) hs
  have h2 := made_filter_length (fun x => !drops x) (foldAll [r])
  have h3 := (foldc_made r).2
  have h4 : foldAll [r] = foldc r := by simp [foldAll]
  rw [h4] at h2
  refine ⟨h1.1, ?_⟩
  unfold ffeed
  have h5 : left [r] = (foldc r).filter fun x => !drops x := by unfold left; rw [h4]
  rw [h5] at h1
  rw [h5]
  omega

/-! ### what came out comes out again -/
theorem plainB_iff {e : Int} : plainB e = true ↔ full e = [e] ∧ foldc e = [e] ∧ drops e = false := by simp [plainB, and_assoc]
theorem drops_not {r : Int} (h : (4352 ≤ r ∧ r ≤ 4370) ∨ (4449 ≤ r ∧ r ≤ 4469) ∨ (4520 ≤ r ∧ r ≤ 4546) ∨ (44032 ≤ r ∧ r ≤ 55203)) : drops r = false := by
  unfold drops
  rw [look_none]; · rfl
  intro x hx
  have := all_mem drpT_ok hx
  simp at this; omega
theorem syl_plain {s e : Int} (h0 : 0 ≤ s) (h1 : s ≤ 11171) (he : e ∈ syl s) : plainB e = true ∧ e ≠ 847 := by
  have : (4352 ≤ e ∧ e ≤ 4370) ∨ (4449 ≤ e ∧ e ≤ 4469) ∨ (4520 ≤ e ∧ e ≤ 4546) := by
    unfold syl at he
    split at he <;> simp at he <;> omega
  refine ⟨plainB_iff.2 ⟨full_plain (.inr (.inl (by omega))), foldc_plain (by omega), drops_not (by omega)⟩, by omega⟩
theorem full_nojoin {r : Int} (h : r ≠ 847) : ∀ e ∈ full r, e ≠ 847 := by
  intro e he
  rcases full_cases r with ⟨h0, h1, e'⟩ | ⟨h0, h1, e'⟩ | h' | h'
  · rw [e'] at he; exact (syl_plain (by omega) (by omega) he).2
  · rw [e'] at he; simp at he; omega
  · have := all_mem decT_nojoin h'
    simp only [List.all_eq_true, decide_eq_true_eq] at this
    exact this e he
  · rw [h'] at he; simp at he; omega
theorem mem_compose {l : List Int} {x : Int} (h : x ∈ compose l) : x ∈ l ∨ ∃ a b, join a b = some x := by
  have key : ∀ (l : List Int) (s : CS), ∀ x ∈ (s.run l).out, x ∈ s.out ∨ x ∈ l ∨ ∃ a b, join a b = some x := by
    intro l
    induction l with
    | nil => intro s x hx; exact .inl hx
    | cons r l ih =>
      intro s x hx
      rw [CS.run_cons] at hx
      rcases ih _ x hx with h1 | h1 | h1
      · unfold CS.step at h1
        cases e : s.joins r with
        | some v =>
          rw [e] at h1
          unfold CS.joins at e
          cases eh : s.hd with
          | none => simp [eh] at e
          | some a =>
            simp only [eh] at e
            split at e
            · simp [CS.out] at h1
              rcases h1 with h1 | h1 | h1
              · exact .inl (by simp [CS.out, h1])
              · subst h1; exact .inr (.inr ⟨a, r, e⟩)
              · exact .inl (by simp [CS.out, h1])
            · cases e
        | none =>
          rw [e] at h1
          simp only [CS.push] at h1
          split at h1
          · simp [CS.out] at h1
            rcases h1 with h1 | h1 | h1 | h1
            · exact .inl (by simp [CS.out, h1])
            · exact .inl (by simp [CS.out, h1])
            · exact .inl (by simp [CS.out, h1])
            · exact .inr (.inl (by simp [h1]))
          · simp [CS.out] at h1
            rcases h1 with h1 | h1 | h1 | h1
            · exact .inl (by simp [CS.out, h1])
            · exact .inl (by simp [CS.out, h1])
            · exact .inl (by simp [CS.out, h1])
            · exact .inr (.inl (by simp [h1]))
      · exact .inr (.inl (by simp [h1]))
      · exact .inr (.inr h1)
  rcases key l cinit x h with h1 | h1 | h1
  · simp [CS.out, cinit] at h1
  · exact .inl h1
  · exact .inr h1
/-- Of what is left of a value of the form: all that it is made of is plain. -/
theorem left_plain {z y e : Int} (hz : full z = [z] ∨ ∃ a b, join a b = some z) (hy : y ∈ foldc z) (hd : drops y = false) (he : e ∈ full y) : plainB e = true := by
  rcases hz with hz | ⟨a, b, hz⟩
  · rcases foldc_cases z with h | h
    · have := all_mem caseT_plain h
      simp only [hz, beq_self_eq_true, Bool.not_true, Bool.false_or, List.all_eq_true, Bool.or_eq_true] at this
      rcases this y hy with h1 | h1
      · rw [hd] at h1; cases h1
      · exact h1 e he
    · rw [h] at hy; simp at hy; subst hy
      rw [hz] at he; simp at he; subst he
      exact plainB_iff.2 ⟨hz, h, hd⟩
  · have hs : ∀ {z : Int}, 44032 ≤ z → z ≤ 55203 → y ∈ foldc z → e ∈ full y → plainB e = true := by
      intro z h0 h1 hy he
      rw [foldc_plain (by omega)] at hy; simp at hy; subst hy
      unfold full at he; rw [if_pos ⟨h0, h1⟩] at he
      exact (syl_plain (by omega) (by omega) he).1
    rcases join_cases hz with ⟨h1, h2, rfl⟩ | ⟨h1, h2, rfl⟩ | h
    · exact hs (by omega) (by omega) hy he
    · exact hs (by omega) (by omega) hy he
    · have := all_mem pairT_fold h
      simp only [List.all_eq_true, Bool.or_eq_true] at this
      rcases this y hy with h1 | h1
      · rw [hd] at h1; cases h1
      · exact h1 e he
/-- A value that comes back by itself. -/
def Back (x : Int) : Prop := x = 847 ∨ (x ≠ 847 ∧ made ((foldc x).filter fun y => !drops y) = full x)
theorem back_plain {x : Int} (h : plainB x = true) : Back x := by
  obtain ⟨h1, h2, h3⟩ := plainB_iff.1 h
  refine .inr ⟨fun e => (by rw [e, drops_joiner] at h3; cases h3), ?_⟩
  rw [h2]; simp [h3, made_cons, made_nil]
theorem back_join {a b x : Int} (h : join a b = some x) (hp : ∀ e ∈ full x, plainB e = true) : Back x := by
  have hs : ∀ {x : Int}, 44032 ≤ x → x ≤ 55203 → Back x := by
    intro x h0 h1
    refine .inr ⟨by omega, ?_⟩
    rw [foldc_plain (by omega)]
    simp [drops_not (r := x) (by omega), made_cons, made_nil]
  rcases join_cases h with ⟨h1, h2, rfl⟩ | ⟨h1, h2, rfl⟩ | h
  · exact hs (by omega) (by omega)
  · exact hs (by omega) (by omega)
  · have := all_mem pairT_back h
    have hp' : (full x).all plainB = true := List.all_eq_true.2 hp
    simp only [hp', Bool.not_true, Bool.false_or, Bool.and_eq_true, beq_iff_eq, Bool.not_eq_true'] at this
    refine .inr ⟨fun e => ?_, this.2⟩
    rw [e, drops_joiner] at this; cases this.1
theorem left_back {l : List Int} (h : ∀ x ∈ l, Back x) : made (left l) = (made l).filter fun x => decide (x ≠ 847) := by
  induction l with
  | nil => rfl
  | cons x l ih =>
    rw [left_cons, made_append, made_cons, List.filter_append, ih fun y hy => h y (by simp [hy])]
    congr 1
    rcases h x (by simp) with rfl | ⟨hx, hb⟩
    · rw [left_dropped drops_joiner, full_plain (.inr (.inr rfl))]; rfl
    · have e : left [x] = (foldc x).filter fun y => !drops y := by simp [left, foldAll]
      rw [e, hb, List.filter_eq_self.2]
      intro e he; simpa using full_nojoin hx e he
/-- What Safe makes: a Joiner stands just behind thirty marks, a mark behind it. -/
def Shape : Nat → List Int → Prop
  | _, [] => True
  | n, r :: l => if 0 < ccc r then n < 30 ∧ Shape (n + 1) l
      else if r = 847 then n = 30 ∧ (match l with | [] => False | q :: l => 0 < ccc q ∧ Shape 1 l)
      else Shape 0 l
theorem shape_safe (l : List Int) : ∀ n, n ≤ 30 → (∀ x ∈ l, x ≠ 847) → Shape n (safeN n l) := by
  induction l with
  | nil => intro n _ _; trivial
  | cons r l ih =>
    intro n hn hl
    have hl' : ∀ x ∈ l, x ≠ 847 := fun x hx => hl x (by simp [hx])
    simp only [safeN]
    by_cases hr : 0 < ccc r
    · rw [if_pos hr]
      by_cases h30 : n = 30
      · rw [if_pos h30]
        unfold Shape
        rw [if_neg (by rw [ccc_joiner]; omega), if_pos rfl]
        exact ⟨h30, hr, ih 1 (by omega) hl'⟩
      · rw [if_neg h30]
        unfold Shape
        rw [if_pos hr]
        exact ⟨by omega, ih _ (by omega) hl'⟩
    · rw [if_neg hr]
      unfold Shape
      rw [if_neg hr, if_neg (hl r (by simp))]
      exact ih 0 (by omega) hl'
theorem shape_kinds : ∀ (k n : Nat) (l m : List Int), l.length ≤ k → l.map (fun x => if 0 < ccc x then none else some x) = m.map (fun x => if 0 < ccc x then none else some x) → Shape n l → Shape n m := by
  intro k
  induction k with
  | zero =>
    intro n l m hk h _
    cases l with
    | nil => cases m with | nil => trivial | cons => simp at h
    | cons => simp at hk
  | succ k ih =>
    intro n l m hk h hs
    cases l with
    | nil => cases m with | nil => trivial | cons => simp at h
    | cons r l =>
      cases m with
      | nil => simp at h
      | cons q m =>
        simp only [List.map_cons, List.cons.injEq] at h
        simp only [List.length_cons] at hk
        unfold Shape at hs ⊢
        by_cases hr : 0 < ccc r
        · have hq : 0 < ccc q := by
            by_cases hq : 0 < ccc q
            · exact hq
            · rw [if_pos hr, if_neg hq] at h; exact absurd h.1 (by simp)
          rw [if_pos hr] at hs; rw [if_pos hq]
          exact ⟨hs.1, ih _ l m (by omega) h.2 hs.2⟩
        · have hq : ¬ 0 < ccc q := by
            intro hq; rw [if_neg hr, if_pos hq] at h; exact absurd h.1 (by simp)
          rw [if_neg hr, if_neg hq] at h
          have hrq : r = q := by simpa using h.1
          subst hrq
          rw [if_neg hr] at hs ⊢
          by_cases hj : r = 847
          · rw [if_pos hj] at hs ⊢
            refine ⟨hs.1, ?_⟩
            cases l with
            | nil => exact hs.2.elim
            | cons a l =>
              cases m with
              | nil => simp at h
              | cons b m =>
                simp only [List.map_cons, List.cons.injEq] at h
                have ha : 0 < ccc a := hs.2.1
                have hb : 0 < ccc b := by
                  by_cases hb : 0 < ccc b
                  · exact hb
                  · rw [if_pos ha, if_neg hb] at h; exact absurd h.2.1 (by simp)
                simp only [List.length_cons] at hk
                exact ⟨hb, ih _ l m (by omega) h.2.2 hs.2.2⟩
          · rw [if_neg hj] at hs ⊢
            exact ih _ l m (by omega) h.2 hs
theorem shape_again : ∀ (k n : Nat) (l : List Int), l.length ≤ k → Shape n l → safeN n (l.filter fun x => decide (x ≠ 847)) = l := by
  intro k
  induction k with
  | zero => intro n l hk _; cases l with | nil => rfl | cons => simp at hk
  | succ k ih =>
    intro n l hk hs
    cases l with
    | nil => rfl
    | cons r l =>
      simp only [List.length_cons] at hk
      unfold Shape at hs
      by_cases hr : 0 < ccc r
      · rw [if_pos hr] at hs
        have hj : r ≠ 847 := by intro e; rw [e, ccc_joiner] at hr; omega
        rw [List.filter_cons_of_pos (by simpa using hj)]
        simp only [safeN]
        rw [if_pos hr, if_neg (by omega), ih _ l (by omega) hs.2]
      · rw [if_neg hr] at hs
        by_cases hj : r = 847
        · rw [if_pos hj] at hs
          subst hj
          cases l with
          | nil => exact hs.2.elim
          | cons q l =>
            simp only [List.length_cons] at hk
            have hq : 0 < ccc q := hs.2.1
            have hqj : q ≠ 847 := by intro e; rw [e, ccc_joiner] at hq; omega
            rw [List.filter_cons_of_neg (by simp), List.filter_cons_of_pos (by simpa using hqj)]
            simp only [safeN]
            rw [if_pos hq, if_pos hs.1, ih _ l (by omega) hs.2.2]
        · rw [if_neg hj] at hs
          rw [List.filter_cons_of_pos (by simpa using hj)]
          simp only [safeN]
          rw [if_neg hr, ih _ l (by omega) hs]
/-- What a text's values become. -/
def vals (x : List Int) : List Int := nfkc (left (nfkc x))
theorem left_nfkc_plain (x : List Int) : ∀ e ∈ made (left (nfkc x)), plainB e = true := by
  intro e he
  simp only [made, List.mem_flatMap] at he
  obtain ⟨y, hy, he⟩ := he
  unfold left at hy
  rw [List.mem_filter] at hy
  obtain ⟨hy, hd⟩ := hy
  simp only [foldAll, List.mem_flatMap] at hy
  obtain ⟨z, hz, hy⟩ := hy
  refine left_plain ?_ hy (by simpa using hd) he
  rcases mem_compose hz with h | h
  · exact .inl (nfkd_plain h)
  · exact .inr h
theorem plain_nojoin {e : Int} (h : plainB e = true) : e ≠ 847 := by
  intro h1
  have := (plainB_iff.1 h).2.2
  rw [h1, drops_joiner] at this; cases this
theorem join_nojoin {a b y : Int} (h : join a b = some y) : y ≠ 847 := by
  intro e
  have h1 := (join_ok h).full
  rw [e, full_plain (.inr (.inr rfl))] at h1
  have h2 := congrArg List.length h1
  have h3 := (full_length a).1
  have h4 := (full_length b).1
  simp only [List.length_append, List.length_cons, List.length_nil] at h2
  omega
/-- Out of plain values, put in the form, comes what comes back by itself. -/
theorem form_back {w v : List Int} (hv : nfkc w = v) (hw : ∀ e ∈ made w, plainB e = true) : nfkc (left v) = v := by
  have hA : Alike (made v) (nfkd w) := hv ▸ nfkc_alike w
  have hA2 : Alike (made v) (safe (made w)) := hA.trans (alike_order _).symm
  have hsh : Shape 0 (made v) := shape_kinds _ 0 _ _ (Nat.le_refl _) hA2.symm.kinds (shape_safe _ 0 (by omega) fun e he => plain_nojoin (hw e he))
  have hback : ∀ y ∈ v, Back y := by
    intro y hy
    have hin : ∀ e ∈ full y, e = 847 ∨ plainB e = true := by
      intro e he
      have h1 : e ∈ made v := by simp only [made, List.mem_flatMap]; exact ⟨y, hy, he⟩
      have h2 := hA2.perm.mem_iff.1 h1
      rcases mem_safeN _ _ h2 with h | h
      · exact .inl h
      · exact .inr (hw e h)
    rw [← hv] at hy
    rcases mem_compose hy with h | ⟨a, b, h⟩
    · have hf := nfkd_plain h
      have hy2 : y ∈ full y := by rw [hf]; simp
      rcases hin y hy2 with h | h
      · exact .inl h
      · exact back_plain h
    · have hj := join_nojoin h
      refine back_join h fun e he => ?_
      rcases hin e he with h1 | h1
      · exact absurd h1 (full_nojoin hj e he)
      · exact h1
  have h1 := left_back hback
  have h2 : safe (made (left v)) = made v := by
    rw [h1]; exact shape_again _ 0 _ (Nat.le_refl _) hsh
  have h3 : nfkd (left v) = nfkd w := by
    have : nfkd (left v) = order (safe (made (left v))) := rfl
    rw [this, h2, hA.order]; exact nfkd_sorted _
  have e1 : nfkc (left v) = compose (nfkd (left v)) := rfl
  rw [e1, h3]; exact hv
theorem vals_left (x : List Int) : nfkc (left (vals x)) = vals x := form_back rfl (left_nfkc_plain x)
theorem vals_vals (x : List Int) : vals (vals x) = vals x := by
  have h : nfkc (vals x) = vals x := nfkc_nfkc _
  show nfkc (left (nfkc (vals x))) = vals x
  rw [h]; exact vals_left x
theorem nfkc_vals (x : List Int) : nfkc (vals x) = vals x := nfkc_nfkc _
theorem vals_congr {x y : List Int} (h : nfkc x = nfkc y) : vals x = vals y := by unfold vals; rw [h]

end Go.Proofs.Pt
end

/- ==== the text N8 ==== -/
section
/- Lists of ints that stay such: what the plain laws of layers 5 to 8 share. -/
namespace Go.Proofs.Pt
open Go Go.RowKit

theorem wf_lt {x : Int} (h : (Lit.int .i64 x).wf = true) : x < 9223372036854775808 := by
  simp [Lit.wf] at h
  omega
theorem wf_ge {x : Int} (h : (Lit.int .i64 x).wf = true) : -9223372036854775808 ≤ x := by
  simp only [Lit.wf, Bool.and_eq_true, decide_eq_true_eq] at h
  have e : IntKind.i64.min = -9223372036854775808 := by decide +kernel
  omega
theorem fine_of {l : List Int} (h1 : (l.length : Int) ≤ 1000) (h : ∀ x ∈ l, (Lit.int .i64 x).wf = true) : Fine l := ⟨by omega, fun x hx => wf_lt (h x hx)⟩
theorem full_small {r x : Int} (hr : r < 9223372036854775808) (hx : x ∈ full r) : x < 9223372036854775808 := by
  rcases full_cases r with ⟨h0, h1, h⟩ | ⟨h0, h1, h⟩ | h | h
  · rw [h] at hx; have := syl_parts (by omega) (by omega) hx; omega
  · rw [h] at hx; simp at hx; omega
  · have := all_mem decT_small h
    simp only [Bool.and_eq_true, decide_eq_true_eq, List.all_eq_true] at this
    have := (this.2 x hx).1.2; omega
  · rw [h] at hx; simp at hx; omega
theorem made_small {l : List Int} (h : ∀ x ∈ l, x < 9223372036854775808) : ∀ x ∈ made l, x < 9223372036854775808 := by
  intro x hx
  simp only [made, List.mem_flatMap] at hx
  obtain ⟨y, hy, hx⟩ := hx
  exact full_small (h y hy) hx
theorem nfkd_small {l : List Int} (h : ∀ x ∈ l, x < 9223372036854775808) : ∀ x ∈ nfkd l, x < 9223372036854775808 := by
  intro x hx
  unfold nfkd at hx
  rw [mem_order] at hx
  rcases mem_safeN _ _ hx with rfl | h'
  · omega
  · exact made_small h x h'
theorem pairT_small : pairT.all (fun x => decide (x.2.2 ≤ 65535)) = true := by decide +kernel
theorem join_small_ {a b v : Int} (h : join a b = some v) : v < 9223372036854775808 := by
  rcases join_cases h with ⟨h1, h2, rfl⟩ | ⟨h1, h2, rfl⟩ | m
  · omega
  · omega
  · have := all_mem pairT_small m
    simp at this; omega
theorem compose_small {l : List Int} (h : ∀ x ∈ l, x < 9223372036854775808) : ∀ x ∈ compose l, x < 9223372036854775808 := by
  intro x hx
  rcases mem_compose hx with h' | ⟨a, b, h'⟩
  · exact h x h'
  · exact join_small_ h'
theorem nfkc_small {l : List Int} (h : ∀ x ∈ l, x < 9223372036854775808) : ∀ x ∈ nfkc l, x < 9223372036854775808 := compose_small (nfkd_small h)
theorem same_some {l m : List Int} (h : l.length < 17592186044416) (e : l = m) : ref01_Same.f l m = some true := by
  unfold ref01_Same.f; rw [if_pos h, decide_eq_true e]
theorem letter_lt (z a : Int) (ha : 0 ≤ a ∧ a ≤ 97) : wrap64 (a + Int.tmod z 26) < 160 := by
  have h1 := Int.tmod_lt_of_pos z (show (0 : Int) < 26 by decide)
  have h2 : -26 < Int.tmod z 26 := by
    have h3 := Int.tmod_lt_of_pos (-z) (show (0 : Int) < 26 by decide)
    rw [Int.neg_tmod] at h3
    omega
  unfold wrap64; omega
end Go.Proofs.Pt
end

/- Values put together: a fold that keeps what was told, its head and what stands behind it; that what is put together is made of the same, and once more put together stays. No program is in sight here. -/
import Derived.Test.YtgaokehmfebclaaM3
namespace Go.Proofs.Pt

/-- What was told ahead of the head, the head, and what was told behind it. -/
structure CS where
  pre : List Int
  hd : Option Int
  tl : List Int
def CS.out (s : CS) : List Int := s.pre ++ (s.hd.toList ++ s.tl)
def cinit : CS := ⟨[], none, []⟩
/-- May a value of a class be one with the head? -/
def CS.opens (s : CS) (c : Int) : Bool := match s.tl.getLast? with | none => true | some x => decide (ccc x < c)
def CS.joins (s : CS) (r : Int) : Option Int := match s.hd with | none => none | some h => if s.opens (ccc r) = true then join h r else none
def CS.push (s : CS) (r : Int) : CS := if ccc r = 0 then ⟨s.out, some r, []⟩ else ⟨s.pre, s.hd, s.tl ++ [r]⟩
def CS.step (s : CS) (r : Int) : CS := match s.joins r with | some v => ⟨s.pre, some v, s.tl⟩ | none => s.push r
def CS.run (s : CS) (l : List Int) : CS := l.foldl CS.step s
def compose (l : List Int) : List Int := (cinit.run l).out

theorem CS.run_nil (s : CS) : s.run [] = s := rfl
theorem CS.run_cons (s : CS) (r : Int) (l : List Int) : s.run (r :: l) = (s.step r).run l := rfl
theorem CS.run_append (s : CS) (a b : List Int) : s.run (a ++ b) = (s.run a).run b := by simp [CS.run, List.foldl_append]

/-- More ahead of all. -/
def CS.behind (p : List Int) (s : CS) : CS := ⟨p ++ s.pre, s.hd, s.tl⟩
theorem CS.out_behind (p : List Int) (s : CS) : (s.behind p).out = p ++ s.out := by simp [CS.behind, CS.out]
theorem CS.step_behind (p : List Int) (s : CS) (r : Int) : (s.behind p).step r = (s.step r).behind p := by
  have h1 : (s.behind p).joins r = s.joins r := rfl
  simp only [CS.step, h1]
  cases s.joins r with
  | some v => rfl
  | none =>
    simp only [CS.push]
    split
    · simp only [CS.out_behind]; rfl
    · rfl
theorem CS.run_behind (p : List Int) (l : List Int) : ∀ s : CS, (s.behind p).run l = (s.run l).behind p := by
  induction l with
  | nil => intro s; rfl
  | cons r l ih => intro s; rw [CS.run_cons, CS.run_cons, CS.step_behind, ih]
theorem CS.joins_none_low (s : CS) {r : Int} (h : ∀ a, join a r = none) : s.joins r = none := by
  unfold CS.joins
  cases s.hd with
  | none => rfl
  | some a => simp only [h a]; split <;> rfl
/-- A value that is no mark and is one with nothing ahead begins anew. -/
theorem CS.step_new (s : CS) {r : Int} (h0 : ccc r = 0) (h : ∀ a, join a r = none) : s.step r = (cinit.step r).behind s.out := by
  have e1 := s.joins_none_low h
  have e2 := cinit.joins_none_low h
  simp only [CS.step, e1, e2, CS.push, h0, if_true, CS.behind]
  simp [CS.out, cinit]
theorem compose_split (a b : List Int) {r : Int} (h0 : ccc r = 0) (h : ∀ x, join x r = none) : compose (a ++ r :: b) = compose a ++ compose (r :: b) := by
  unfold compose
  rw [CS.run_append, CS.run_cons, CS.step_new _ h0 h, CS.run_behind, CS.out_behind, CS.run_cons]
theorem compose_snoc_new (a : List Int) {r : Int} (h0 : ccc r = 0) (h : ∀ x, join x r = none) : compose (a ++ [r]) = compose a ++ [r] := by
  rw [compose_split a [] h0 h]
  congr 1
  unfold compose
  rw [CS.run_cons, CS.run_nil]
  have e2 := cinit.joins_none_low h
  simp only [CS.step, e2, CS.push, h0, if_true]
  simp [CS.out, cinit]

/-! ### what the fold keeps -/
structure CS.Wf (s : CS) : Prop where
  hd : ∀ h, s.hd = some h → ccc h = 0
  tl : ∀ x ∈ s.tl, 0 < ccc x
  none : s.hd = none → s.pre = []
theorem cinit_wf : cinit.Wf := ⟨by simp [cinit], by simp [cinit], fun _ => rfl⟩
theorem CS.step_wf {s : CS} (h : s.Wf) (r : Int) : (s.step r).Wf := by
  unfold CS.step
  cases e : s.joins r with
  | some v =>
    unfold CS.joins at e
    cases eh : s.hd with
    | none => simp [eh] at e
    | some a =>
      simp only [eh] at e
      split at e
      · exact ⟨fun x hx => by cases hx; exact (join_ok e).whole, h.tl, fun hx => by cases hx⟩
      · cases e
  | none =>
    simp only [CS.push]
    have := ccc_nonneg r
    split
    · rename_i c; exact ⟨fun x hx => by cases hx; exact c, by simp, fun hx => by cases hx⟩
    · exact ⟨h.hd, fun x hx => by simp at hx; rcases hx with hx | rfl; exact h.tl x hx; omega, h.none⟩
theorem CS.run_wf {s : CS} (h : s.Wf) (l : List Int) : (s.run l).Wf := by
  induction l generalizing s with
  | nil => exact h
  | cons r l ih => exact ih (CS.step_wf h r)
theorem CS.step_length (s : CS) (r : Int) : (s.step r).out.length ≤ s.out.length + 1 := by
  unfold CS.step
  cases e : s.joins r with
  | some v =>
    unfold CS.joins at e
    cases eh : s.hd with
    | none => simp [eh] at e
    | some a => simp [CS.out, eh]
  | none =>
    simp only [CS.push]
    split <;> (simp [CS.out]; try omega)
theorem CS.run_length (l : List Int) : ∀ s : CS, (s.run l).out.length ≤ s.out.length + l.length := by
  induction l with
  | nil => intro s; exact Nat.le_refl _
  | cons r l ih => intro s; rw [CS.run_cons]; have := ih (s.step r); have := s.step_length r; simp; omega
theorem compose_length (l : List Int) : (compose l).length ≤ l.length := by
  have := CS.run_length l cinit; simpa [compose, CS.out, cinit] using this

/-! ### made of the same -/
def made (l : List Int) : List Int := l.flatMap full
theorem made_nil : made [] = [] := rfl
theorem made_append (a b : List Int) : made (a ++ b) = made a ++ made b := by simp [made]
theorem made_cons (a : Int) (b : List Int) : made (a :: b) = full a ++ made b := by simp [made]
theorem made_plain {l : List Int} (h : ∀ x ∈ l, full x = [x]) : made l = l := by
  induction l with
  | nil => rfl
  | cons x l ih => rw [made_cons, h x (by simp), ih fun y hy => h y (by simp [hy])]; rfl
theorem made_of_mem {l : List Int} {x : Int} (h : x ∈ made l) : full x = [x] := by
  simp only [made, List.mem_flatMap] at h
  obtain ⟨y, _, hx⟩ := h
  exact full_full hx
theorem made_made (l : List Int) : made (made l) = made l := made_plain fun _ h => made_of_mem h
/-- A mark behind marks of lower classes may go ahead of them. -/
theorem alike_past (t : List Int) {r : Int} (hr : 0 < ccc r) (ht : ∀ x ∈ t, 0 < ccc x ∧ ccc x ≠ ccc r) : Alike (t ++ [r]) (r :: t) := by
  induction t with
  | nil => exact .refl _
  | cons x t ih =>
    have h1 := (ih fun y hy => ht y (by simp [hy])).left [x]
    have h2 := Alike.step [] t x r (ht x (by simp)).1 hr (ht x (by simp)).2
    exact h1.trans h2
theorem steps_le {l : List Int} (h : Steps l) (hm : ∀ x ∈ l, 0 < ccc x) {z : Int} (hz : l.getLast? = some z) : ∀ x ∈ l, ccc x ≤ ccc z := by
  induction l with
  | nil => simp
  | cons a l ih =>
    cases l with
    | nil => intro x hx; simp at hx hz; subst hx; subst hz; exact Int.le_refl _
    | cons b l =>
      have hz' : (b :: l).getLast? = some z := by simpa [List.getLast?_cons_cons] using hz
      have h0 := ih h.2 (fun x hx => hm x (List.mem_cons_of_mem _ hx)) hz'
      intro x hx
      rcases List.mem_cons.1 hx with rfl | hx
      · have h1 := h0 b (by simp)
        have h2 := h.1
        have h3 := hm b (by simp)
        omega
      · exact h0 x hx
theorem steps_snoc {l : List Int} {r : Int} (h : Steps l) (hr : ∀ x, l.getLast? = some x → ¬ (0 < ccc r ∧ ccc r < ccc x)) : Steps (l ++ [r]) :=
  steps_append h trivial fun a b ha hb => by simp at hb; subst hb; exact hr a ha
theorem steps_wall {p t : List Int} {h : Int} (hh : ccc h = 0) (hp : Steps p) (ht : Steps t) : Steps (p ++ h :: t) := by
  refine steps_append hp ?_ fun a b _ hb => by simp at hb; subst hb; omega
  cases t with
  | nil => trivial
  | cons x t => exact ⟨by have := ccc_nonneg x; omega, ht⟩
theorem CS.out_steps {s : CS} (hw : s.Wf) (hp : Steps s.pre) (ht : Steps s.tl) : Steps s.out := by
  unfold CS.out
  cases e : s.hd with
  | none => rw [hw.none e]; simpa using ht
  | some h => simpa using steps_wall (hw.hd h e) hp ht

/-- What may stand behind a head: no value that is not shut off is one with it. -/
def Rest (h : Int) (l : List Int) : Prop := ∀ u t w, l = u ++ t :: w → (∀ x, u.getLast? = some x → ccc x < ccc t) → join h t = none
theorem rest_nil (h : Int) : Rest h [] := fun u t w e => by simp at e
theorem CS.opens_iff (s : CS) (c : Int) : s.opens c = true ↔ ∀ x, s.tl.getLast? = some x → ccc x < c := by
  unfold CS.opens
  cases s.tl.getLast? with
  | none => simp
  | some x => simp
theorem rest_run (p : List Int) (h : Int) (l : List Int) : ∀ u, (∀ x ∈ l, 0 < ccc x) → Rest h (u ++ l) → (⟨p, some h, u⟩ : CS).run l = ⟨p, some h, u ++ l⟩ := by
  induction l with
  | nil => intro u _ _; simp [CS.run_nil]
  | cons r l ih =>
    intro u hm hr
    rw [CS.run_cons]
    have h0 : 0 < ccc r := hm r (by simp)
    have e : (⟨p, some h, u⟩ : CS).joins r = none := by
      simp only [CS.joins]
      split
      · rename_i c; exact hr u r l rfl ((CS.opens_iff _ _).1 c)
      · rfl
    have e2 : (⟨p, some h, u⟩ : CS).step r = ⟨p, some h, u ++ [r]⟩ := by
      simp only [CS.step, e, CS.push]
      rw [if_neg (by omega)]
    rw [e2, ih (u ++ [r]) (fun x hx => hm x (by simp [hx])) (by simpa using hr)]
    simp
theorem lone_run (p : List Int) (l : List Int) : ∀ u, (∀ x ∈ l, 0 < ccc x) → (⟨p, none, u⟩ : CS).run l = ⟨p, none, u ++ l⟩ := by
  induction l with
  | nil => intro u _; simp [CS.run_nil]
  | cons r l ih =>
    intro u hm
    rw [CS.run_cons]
    have h0 : 0 < ccc r := hm r (by simp)
    have e2 : (⟨p, none, u⟩ : CS).step r = ⟨p, none, u ++ [r]⟩ := by
      simp only [CS.step, CS.joins, CS.push]
      rw [if_neg (by omega)]
    rw [e2, ih (u ++ [r]) (fun x hx => hm x (by simp [hx]))]
    simp
theorem join_whole {a b v : Int} (h : join a b = some v) (x : Int) : join x v = none := by
  cases e : join x v with
  | none => rfl
  | some y =>
    have hv : 0 < ccc v ∨ (4449 ≤ v ∧ v ≤ 4546) := (join_ok e).kind
    have h0 := (join_ok h).whole
    rcases join_cases h with ⟨_, _, rfl⟩ | ⟨_, _, rfl⟩ | m
    · omega
    · omega
    · have := all_mem pairT_ok m
      simp at this; omega

/-- The state was put together out of d, values made of nothing else whose marks stand in order. -/
structure Comes (s : CS) (d : List Int) : Prop where
  wf : s.Wf
  alike : Alike (made s.out) d
  plain : ∀ x ∈ s.tl, full x = [x]
  spre : Steps s.pre
  stl : Steps s.tl
  last : ∀ x, s.tl.getLast? = some x → ∃ y, d.getLast? = some y ∧ ccc x ≤ ccc y
  back : ∀ h, s.hd = some h → (cinit.run s.pre).out = s.pre ∧ (cinit.run s.pre).step h = ⟨s.pre, some h, []⟩ ∧ Rest h s.tl
theorem comes_init : Comes cinit [] := ⟨cinit_wf, .refl _, by simp [cinit], trivial, trivial, by simp [cinit], by simp [cinit]⟩
theorem Comes.again {s : CS} {d : List Int} (h : Comes s d) : cinit.run s.out = s := by
  unfold CS.out
  cases e : s.hd with
  | none =>
    have hp := h.wf.none e
    rw [hp]; simp only [List.nil_append, Option.toList_none]
    have := lone_run [] s.tl [] h.wf.tl
    simp only [List.nil_append] at this
    show CS.run ⟨[], none, []⟩ s.tl = s
    rw [this]
    cases s; simp_all
  | some a =>
    obtain ⟨_, h2, h3⟩ := h.back a e
    have hs : s = ⟨s.pre, some a, s.tl⟩ := by cases s; simp_all
    rw [CS.run_append]
    simp only [Option.toList_some, List.singleton_append]
    rw [CS.run_cons, h2, rest_run s.pre a s.tl [] h.wf.tl (by simpa using h3)]
    simpa using hs.symm
theorem Comes.step {s : CS} {d : List Int} {r : Int} (h : Comes s d) (hr : full r = [r]) (hd : Steps (d ++ [r])) : Comes (s.step r) (d ++ [r]) := by
  have hwf := CS.step_wf h.wf r
  cases e : s.joins r with
  | some v =>
    have e0 := e
    unfold CS.joins at e
    cases eh : s.hd with
    | none => simp [eh] at e
    | some a =>
      simp only [eh] at e
      split at e
      · rename_i ho
        have hopen := (CS.opens_iff _ _).1 ho
        have J := join_ok e
        have es : s.step r = ⟨s.pre, some v, s.tl⟩ := by simp only [CS.step, e0]
        rw [es] at hwf ⊢
        obtain ⟨b1, b2, b3⟩ := h.back a eh
        have hlt : ∀ x ∈ s.tl, ccc x < ccc r := by
          intro x hx
          cases eg : s.tl.getLast? with
          | none => rw [List.getLast?_eq_none_iff] at eg; rw [eg] at hx; simp at hx
          | some z => have := steps_le h.stl h.wf.tl eg x hx; have := hopen z eg; omega
        refine ⟨hwf, ?_, h.plain, h.spre, h.stl, ?_, ?_⟩
        · have hA := h.alike.right [r]
          refine Alike.trans ?_ hA
          simp only [CS.out, eh, Option.toList_some, List.singleton_append, made_append, made_cons, J.full, hr, made_plain h.plain, List.append_assoc]
          refine Alike.left _ (Alike.left _ ?_)
          by_cases h0 : 0 < ccc r
          · exact (alike_past s.tl h0 fun x hx => ⟨h.wf.tl x hx, by have := hlt x hx; omega⟩).symm
          · have : s.tl = [] := by
              cases et : s.tl with
              | nil => rfl
              | cons x t =>
                have h1 := hlt x (by simp [et])
                have h2 := h.wf.tl x (by simp [et])
                omega
            rw [this]; exact .refl _
        · intro x hx
          exact ⟨r, by simp, by have := hopen x hx; omega⟩
        · intro b hb
          cases hb
          refine ⟨b1, ?_, ?_⟩
          · have := (cinit.run s.pre).joins_none_low (fun x => join_whole e x)
            simp only [CS.step, this, CS.push, J.whole, if_true]
            rw [b1]
          · intro u t w hu _
            cases ej : join v t with
            | none => rfl
            | some y =>
              have ht : t ∈ s.tl := by rw [hu]; simp
              have h1 := hlt t ht
              have h2 := h.wf.tl t ht
              have := join_order e ej h2
              omega
      · cases e
  | none =>
    have es : s.step r = s.push r := by simp only [CS.step, e]
    have ea := h.again
    have hmade : Alike (made s.out ++ [r]) (d ++ [r]) := h.alike.right [r]
    by_cases h0 : ccc r = 0
    · have es2 : s.step r = ⟨s.out, some r, []⟩ := by rw [es, CS.push, if_pos h0]
      have es3 := es2
      rw [es2] at hwf ⊢
      refine ⟨hwf, ?_, by simp, CS.out_steps h.wf h.spre h.stl, trivial, by simp, ?_⟩
      · have : made (CS.out ⟨s.out, some r, []⟩) = made s.out ++ [r] := by simp [CS.out, made_append, made_cons, made_nil, hr]
        rw [this]; exact hmade
      · intro b hb
        cases hb
        show (cinit.run s.out).out = s.out ∧ (cinit.run s.out).step r = _ ∧ Rest r []
        rw [ea]
        exact ⟨rfl, es3, rest_nil r⟩
    · have h1 : 0 < ccc r := by have := ccc_nonneg r; omega
      have es2 : s.step r = ⟨s.pre, s.hd, s.tl ++ [r]⟩ := by rw [es, CS.push, if_neg h0]
      rw [es2] at hwf ⊢
      have hsn : Steps (s.tl ++ [r]) := by
        refine steps_snoc h.stl fun x hx => ?_
        obtain ⟨y, hy, hxy⟩ := h.last x hx
        have hd' : ¬ (0 < ccc r ∧ ccc r < ccc y) := by
          rcases List.eq_nil_or_concat d with rfl | ⟨d', z, rfl⟩
          · simp at hy
          · simp at hy; subst hy
            have := steps_right (l := d') (m := [z, r]) (by simpa using hd)
            exact this.1
        omega
      refine ⟨hwf, ?_, ?_, h.spre, hsn, ?_, ?_⟩
      · have : made (CS.out ⟨s.pre, s.hd, s.tl ++ [r]⟩) = made s.out ++ [r] := by simp [CS.out, made_append, made_cons, made_nil, hr]
        rw [this]; exact hmade
      · intro x hx; simp at hx; rcases hx with hx | rfl
        · exact h.plain x hx
        · exact hr
      · intro x hx; simp at hx; subst hx; exact ⟨r, by simp, Int.le_refl _⟩
      · intro b hb
        obtain ⟨b1, b2, b3⟩ := h.back b hb
        refine ⟨b1, b2, ?_⟩
        intro u t w hu hop
        rcases List.eq_nil_or_concat w with rfl | ⟨w', z, rfl⟩
        · have hu' : s.tl ++ [r] = u ++ [t] := hu
          obtain ⟨rfl, hrt⟩ := List.append_inj' hu' rfl
          simp at hrt; subst hrt
          unfold CS.joins at e
          simp only [show s.hd = some b from hb] at e
          rw [if_pos ((CS.opens_iff _ _).2 hop)] at e
          exact e
        · have hu' : s.tl ++ [r] = (u ++ t :: w') ++ [z] := by simpa using hu
          obtain ⟨hh, _⟩ := List.append_inj' hu' rfl
          exact b3 u t w' hh hop
theorem Comes.run {s : CS} {d : List Int} (h : Comes s d) (l : List Int) (hl : ∀ x ∈ l, full x = [x]) (hs : Steps (d ++ l)) : Comes (s.run l) (d ++ l) := by
  induction l generalizing s d with
  | nil => simpa [CS.run_nil] using h
  | cons r l ih =>
    rw [CS.run_cons]
    have := ih (h.step (hl r (by simp)) (steps_left (m := l) (by simpa using hs))) (fun x hx => hl x (by simp [hx])) (by simpa using hs)
    simpa using this
theorem comes_compose {d : List Int} (hl : ∀ x ∈ d, full x = [x]) (hs : Sorted d) : Comes (cinit.run d) d := by
  have := comes_init.run d hl (by simpa using steps_of_sorted hs); simpa using this
/-- P7.3: what is put together, made anew and in order, is what it was; it is in order; put together once more it is the same. -/
theorem compose_made {d : List Int} (hl : ∀ x ∈ d, full x = [x]) (hs : Sorted d) : order (made (compose d)) = d :=
  (comes_compose hl hs).alike.order.trans hs
theorem compose_alike {d : List Int} (hl : ∀ x ∈ d, full x = [x]) (hs : Sorted d) : Alike (made (compose d)) d := (comes_compose hl hs).alike
theorem compose_sorted {d : List Int} (hl : ∀ x ∈ d, full x = [x]) (hs : Sorted d) : Sorted (compose d) :=
  let h := comes_compose hl hs
  sorted_of_steps (CS.out_steps h.wf h.spre h.stl)
theorem compose_compose {d : List Int} (hl : ∀ x ∈ d, full x = [x]) (hs : Sorted d) : compose (compose d) = compose d := by
  show (cinit.run (cinit.run d).out).out = _
  rw [(comes_compose hl hs).again]; rfl

end Go.Proofs.Pt

/- Lemmas and walks that the claims of this seat share: several texts, joined. -/
import Derived.Test.YtjgdnhmbfeekoaaGreatDoorGa6
import Derived.Test.YtjgdnhmbfeekoaaGreatDoorGa4
import Derived.Deep.LoopGhost
import Derived.BigRegion
/- ==== the text M4 ==== -/
section
/- Values put together: a fold that keeps what was told, its head and what stands behind it; that what is put together is made of the same, and once more put together stays. No program is in sight here. -/
namespace Go.Proofs.Pt

/-- What was told ahead of the head, the head, and what was told behind it. -/
structure CS where
  pre : List Int
  hd : Option Int
  tl : List Int
def CS.out (s : CS) : List Int := s.pre ++ (s.hd.toList ++ s.tl)
def cinit : CS := ⟨[], none, []⟩
/-- May a value of a class be one with the head? -/
def CS.opens (s : CS) (c : Int) : Bool := match s.tl.getLast? with | none => true | some x => decide (ccc x < c)
def CS.joins (s : CS) (r : Int) : Option Int := match s.hd with | none => none | some h => if s.opens (ccc r) = true then join h r else none
def CS.push (s : CS) (r : Int) : CS := if ccc r = 0 then ⟨s.out, some r, []⟩ else ⟨s.pre, s.hd, s.tl ++ [r]⟩
def CS.step (s : CS) (r : Int) : CS := match s.joins r with | some v => ⟨s.pre, some v, s.tl⟩ | none => s.push r
def CS.run (s : CS) (l : List Int) : CS := l.foldl CS.step s
def compose (l : List Int) : List Int := (cinit.run l).out

theorem CS.run_nil (s : CS) : s.run [] = s := rfl
theorem CS.run_cons (s : CS) (r : Int) (l : List Int) : s.run (r :: l) = (s.step r).run l := rfl
theorem CS.run_append (s : CS) (a b : List Int) : s.run (a ++ b) = (s.run a).run b := by simp [CS.run, List.foldl_append]

/-- More ahead of all. -/
def CS.behind (p : List Int) (s : CS) : CS := ⟨p ++ s.pre, s.hd, s.tl⟩
theorem CS.out_behind (p : List Int) (s : CS) : (s.behind p).out = p ++ s.out := by simp [CS.behind, CS.out]
theorem CS.step_behind (p : List Int) (s : CS) (r : Int) : (s.behind p).step r = (s.step r).behind p := by
  have h1 : (s.behind p).joins r = s.joins r := rfl
  simp only [CS.step, h1]
  cases s.joins r with
  | some v => rfl
  | none =>
    simp only [CS.push]
    split
    · simp only [CS.out_behind]; rfl
    · rfl
theorem CS.run_behind (p : List Int) (l : List Int) : ∀ s : CS, (s.behind p).run l = (s.run l).behind p := by
  induction l with
  | nil => intro s; rfl
  | cons r l ih => intro s; rw [CS.run_cons, CS.run_cons, CS.step_behind, ih]
theorem CS.joins_none_low (s : CS) {r : Int} (h : ∀ a, join a r = none) : s.joins r = none := by
  unfold CS.joins
  cases s.hd with
  | none => rfl
  | some a => simp only [h a]; split <;> rfl
/-- A value that is no mark and is one with nothing ahead begins anew. -/
theorem CS.step_new (s : CS) {r : Int} (h0 : ccc r = 0) (h : ∀ a, join a r = none) : s.step r = (cinit.step r).behind s.out := by
  have e1 := s.joins_none_low h
  have e2 := cinit.joins_none_low h
  simp only [CS.step, e1, e2, CS.push, h0, if_true, CS.behind]
  simp [CS.out, cinit]
theorem compose_split (a b : List Int) {r : Int} (h0 : ccc r = 0) (h : ∀ x, join x r = none) : compose (a ++ r :: b) = compose a ++ compose (r :: b) := by
  unfold compose
  rw [CS.run_append, CS.run_cons, CS.step_new _ h0 h, CS.run_behind, CS.out_behind, CS.run_cons]
theorem compose_snoc_new (a : List Int) {r : Int} (h0 : ccc r = 0) (h : ∀ x, join x r = none) : compose (a ++ [r]) = compose a ++ [r] := by
  rw [compose_split a [] h0 h]
  congr 1
  unfold compose
  rw [CS.run_cons, CS.run_nil]
  have e2 := cinit.joins_none_low h
  simp only [CS.step, e2, CS.push, h0, if_true]
  simp [CS.out, cinit]

/-! ### what the fold keeps -/
structure CS.Wf (s : CS) : Prop where
  hd : ∀ h, s.hd = some h → ccc h = 0
  tl : ∀ x ∈ s.tl, 0 < ccc x
  none : s.hd = none → s.pre = []
theorem cinit_wf : cinit.Wf := ⟨by simp [cinit], by simp [cinit], fun _ => rfl⟩
theorem CS.step_wf {s : CS} (h : s.Wf) (r : Int) : (s.step r).Wf := by
  unfold CS.step
  cases e : s.joins r with
  | some v =>
    unfold CS.joins at e
    cases eh : s.hd with
    | none => simp [eh] at e
    | some a =>
      simp only [eh] at e
      split at e
      · exact ⟨fun x hx => by cases hx; exact (join_ok e).whole, h.tl, fun hx => by cases hx⟩
      · cases e
  | none =>
    simp only [CS.push]
    have := ccc_nonneg r
    split
    · rename_i c; exact ⟨fun x hx => by cases hx; exact c, by simp, fun hx => by cases hx⟩
    · exact ⟨h.hd, fun x hx => by simp at hx; rcases hx with hx | rfl; exact h.tl x hx; omega, h.none⟩
theorem CS.run_wf {s : CS} (h : s.Wf) (l : List Int) : (s.run l).Wf := by
  induction l generalizing s with
  | nil => exact h
  | cons r l ih => exact ih (CS.step_wf h r)
theorem CS.step_length (s : CS) (r : Int) : (s.step r).out.length ≤ s.out.length + 1 := by
  unfold CS.step
  cases e : s.joins r with
  | some v =>
    unfold CS.joins at e
    cases eh : s.hd with
    | none => simp [eh] at e
    | some a => simp [CS.out, eh]
  | none =>
    simp only [CS.push]
    split <;> (simp [CS.out]; try omega)
theorem CS.run_length (l : List Int) : ∀ s : CS, (s.run l).out.length ≤ s.out.length + l.length := by
  induction l with
  | nil => intro s; exact Nat.le_refl _
  | cons r l ih => intro s; rw [CS.run_cons]; have := ih (s.step r); have := s.step_length r; simp; omega
theorem compose_length (l : List Int) : (compose l).length ≤ l.length := by
  have := CS.run_length l cinit; simpa [compose, CS.out, cinit] using this

/-! ### made of the same -/
def made (l : List Int) : List Int := l.flatMap full
theorem made_nil : made [] = [] := rfl
theorem made_append (a b : List Int) : made (a ++ b) = made a ++ made b := by simp [made]
theorem made_cons (a : Int) (b : List Int) : made (a :: b) = full a ++ made b := by simp [made]
theorem made_plain {l : List Int} (h : ∀ x ∈ l, full x = [x]) : made l = l := by
  induction l with
  | nil => rfl
  | cons x l ih => rw [made_cons, h x (by simp), ih fun y hy => h y (by simp [hy])]; rfl
theorem made_of_mem {l : List Int} {x : Int} (h : x ∈ made l) : full x = [x] := by
  simp only [made, List.mem_flatMap] at h
  obtain ⟨y, _, hx⟩ := h
  exact full_full hx
theorem made_made (l : List Int) : made (made l) = made l := made_plain fun _ h => made_of_mem h
/-- A mark behind marks of lower classes may go ahead of them. -/
theorem alike_past (t : List Int) {r : Int} (hr : 0 < ccc r) (ht : ∀ x ∈ t, 0 < ccc x ∧ ccc x ≠ ccc r) : Alike (t ++ [r]) (r :: t) := by
  induction t with
  | nil => exact .refl _
  | cons x t ih =>
    have h1 := (ih fun y hy => ht y (by simp [hy])).left [x]
    have h2 := Alike.step [] t x r (ht x (by simp)).1 hr (ht x (by simp)).2
    exact h1.trans h2
theorem steps_le {l : List Int} (h : Steps l) (hm : ∀ x ∈ l, 0 < ccc x) {z : Int} (hz : l.getLast? = some z) : ∀ x ∈ l, ccc x ≤ ccc z := by
  induction l with
  | nil => simp
  | cons a l ih =>
    cases l with
    | nil => intro x hx; simp at hx hz; subst hx; subst hz; exact Int.le_refl _
    | cons b l =>
      have hz' : (b :: l).getLast? = some z := by simpa [List.getLast?_cons_cons] using hz
      have h0 := ih h.2 (fun x hx => hm x (List.mem_cons_of_mem _ hx)) hz'
      intro x hx
      rcases List.mem_cons.1 hx with rfl | hx
      · have h1 := h0 b (by simp)
        have h2 := h.1
        have h3 := hm b (by simp)
        omega
      · exact h0 x hx
theorem steps_snoc {l : List Int} {r : Int} (h : Steps l) (hr : ∀ x, l.getLast? = some x → ¬ (0 < ccc r ∧ ccc r < ccc x)) : Steps (l ++ [r]) :=
  steps_append h trivial fun a b ha hb => by simp at hb; subst hb; exact hr a ha
theorem steps_wall {p t : List Int} {h : Int} (hh : ccc h = 0) (hp : Steps p) (ht : Steps t) : Steps (p ++ h :: t) := by
  refine steps_append hp ?_ fun a b _ hb => by simp at hb; subst hb; omega
  cases t with
  | nil => trivial
  | cons x t => exact ⟨by have := ccc_nonneg x; omega, ht⟩
theorem CS.out_steps {s : CS} (hw : s.Wf) (hp : Steps s.pre) (ht : Steps s.tl) : Steps s.out := by
  unfold CS.out
  cases e : s.hd with
  | none => rw [hw.none e]; simpa using ht
  | some h => simpa using steps_wall (hw.hd h e) hp ht

/-- What may stand behind a head: no value that is not shut off is one with it. -/
def Rest (h : Int) (l : List Int) : Prop := ∀ u t w, l = u ++ t :: w → (∀ x, u.getLast? = some x → ccc x < ccc t) → join h t = none
theorem rest_nil (h : Int) : Rest h [] := fun u t w e => by simp at e
theorem CS.opens_iff (s : CS) (c : Int) : s.opens c = true ↔ ∀ x, s.tl.getLast? = some x → ccc x < c := by
  unfold CS.opens
  cases s.tl.getLast? with
  | none => simp
  | some x => simp
theorem rest_run (p : List Int) (h : Int) (l : List Int) : ∀ u, (∀ x ∈ l, 0 < ccc x) → Rest h (u ++ l) → (⟨p, some h, u⟩ : CS).run l = ⟨p, some h, u ++ l⟩ := by
  induction l with
  | nil => intro u _ _; simp [CS.run_nil]
  | cons r l ih =>
    intro u hm hr
    rw [CS.run_cons]
    have h0 : 0 < ccc r := hm r (by simp)
    have e : (⟨p, some h, u⟩ : CS).joins r = none := by
      simp only [CS.joins]
      split
      · rename_i c; exact hr u r l rfl ((CS.opens_iff _ _).1 c)
      · rfl
    have e2 : (⟨p, some h, u⟩ : CS).step r = ⟨p, some h, u ++ [r]⟩ := by
      simp only [CS.step, e, CS.push]
      rw [if_neg (by omega)]
    rw [e2, ih (u ++ [r]) (fun x hx => hm x (by simp [hx])) (by simpa using hr)]
    simp
theorem lone_run (p : List Int) (l : List Int) : ∀ u, (∀ x ∈ l, 0 < ccc x) → (⟨p, none, u⟩ : CS).run l = ⟨p, none, u ++ l⟩ := by
  induction l with
  | nil => intro u _; simp [CS.run_nil]
  | cons r l ih =>
    intro u hm
    rw [CS.run_cons]
    have h0 : 0 < ccc r := hm r (by simp)
    have e2 : (⟨p, none, u⟩ : CS).step r = ⟨p, none, u ++ [r]⟩ := by
      simp only [CS.step, CS.joins, CS.push]
      rw [if_neg (by omega)]
    rw [e2, ih (u ++ [r]) (fun x hx => hm x (by simp [hx]))]
    simp
theorem join_whole {a b v : Int} (h : join a b = some v) (x : Int) : join x v = none := by
  cases e : join x v with
  | none => rfl
  | some y =>
    have hv : 0 < ccc v ∨ (4449 ≤ v ∧ v ≤ 4546) := (join_ok e).kind
    have h0 := (join_ok h).whole
    rcases join_cases h with ⟨_, _, rfl⟩ | ⟨_, _, rfl⟩ | m
    · omega
    · omega
    · have := all_mem pairT_ok m
      simp at this; omega

/-- The state was put together out of d, values made of nothing else whose marks stand in order. -/
structure Comes (s : CS) (d : List Int) : Prop where
  wf : s.Wf
  alike : Alike (made s.out) d
  plain : ∀ x ∈ s.tl, full x = [x]
  spre : Steps s.pre
  stl : Steps s.tl
  last : ∀ x, s.tl.getLast? = some x → ∃ y, d.getLast? = some y ∧ ccc x ≤ ccc y
  back : ∀ h, s.hd = some h → (cinit.run s.pre).out = s.pre ∧ (cinit.run s.pre).step h = ⟨s.pre, some h, []⟩ ∧ Rest h s.tl
theorem comes_init : Comes cinit [] := ⟨cinit_wf, .refl _, by simp [cinit], trivial, trivial, by simp [cinit], by simp [cinit]⟩
theorem Comes.again {s : CS} {d : List Int} (h : Comes s d) : cinit.run s.out = s := by
  unfold CS.out
  cases e : s.hd with
  | none =>
    have hp := h.wf.none e
    rw [hp]; simp only [List.nil_append, Option.toList_none]
    have := lone_run [] s.tl [] h.wf.tl
    simp only [List.nil_append] at this
    show CS.run ⟨[], none, []⟩ s.tl = s
    rw [this]
    cases s; simp_all
  | some a =>
    obtain ⟨_, h2, h3⟩ := h.back a e
    have hs : s = ⟨s.pre, some a, s.tl⟩ := by cases s; simp_all
    rw [CS.run_append]
    simp only [Option.toList_some, List.singleton_append]
    rw [CS.run_cons, h2, rest_run s.pre a s.tl [] h.wf.tl (by simpa using h3)]
    simpa using hs.symm
theorem Comes.step {s : CS} {d : List Int} {r : Int} (h : Comes s d) (hr : full r = [r]) (hd : Steps (d ++ [r])) : Comes (s.step r) (d ++ [r]) := by
  have hwf := CS.step_wf h.wf r
  cases e : s.joins r with
  | some v =>
    have e0 := e
    unfold CS.joins at e
    cases eh : s.hd with
    | none => simp [eh] at e
    | some a =>
      simp only [eh] at e
      split at e
      · rename_i ho
        have hopen := (CS.opens_iff _ _).1 ho
        have J := join_ok e
        have es : s.step r = ⟨s.pre, some v, s.tl⟩ := by simp only [CS.step, e0]
        rw [es] at hwf ⊢
        obtain ⟨b1, b2, b3⟩ := h.back a eh
        have hlt : ∀ x ∈ s.tl, ccc x < ccc r := by
          intro x hx
          cases eg : s.tl.getLast? with
          | none => rw [List.getLast?_eq_none_iff] at eg; rw [eg] at hx; simp at hx
          | some z => have := steps_le h.stl h.wf.tl eg x hx; have := hopen z eg; omega
        refine ⟨hwf, ?_, h.plain, h.spre, h.stl, ?_, ?_⟩
        · have hA := h.alike.right [r]
          refine Alike.trans ?_ hA
          simp only [CS.out, eh, Option.toList_some, List.singleton_append, made_append, made_cons, J.full, hr, made_plain h.plain, List.append_assoc]
          refine Alike.left _ (Alike.left _ ?_)
          by_cases h0 : 0 < ccc r
          · exact (alike_past s.tl h0 fun x hx => ⟨h.wf.tl x hx, by have := hlt x hx; omega⟩).symm
          · have : s.tl = [] := by
              cases et : s.tl with
              | nil => rfl
              | cons x t =>
                have h1 := hlt x (by simp [et])
                have h2 := h.wf.tl x (by simp [et])
                omega
            rw [this]; exact .refl _
        · intro x hx
          exact ⟨r, by simp, by have := hopen x hx; omega⟩
        · intro b hb
          cases hb
          refine ⟨b1, ?_, ?_⟩
          · have := (cinit.run s.pre).joins_none_low (fun x => join_whole e x)
            simp only [CS.step, this, CS.push, J.whole, if_true]
            rw [b1]
          · intro u t w hu _
            cases ej : join v t with
            | none => rfl
            | some y =>
              have ht : t ∈ s.tl := by rw [hu]; simp
              have h1 := hlt t ht
              have h2 := h.wf.tl t ht
              have := join_order e ej h2
              omega
      · cases e
  | none =>
    have es : s.step r = s.push r := by simp only [CS.step, e]
    have ea := h.again
    have hmade : Alike (made s.out ++ [r]) (d ++ [r]) := h.alike.right [r]
    by_cases h0 : ccc r = 0
    · have es2 : s.step r = ⟨s.out, some r, []⟩ := by rw [es, CS.push, if_pos h0]
      have es3 := es2
      rw [es2] at hwf ⊢
      refine ⟨hwf, ?_, by simp, CS.out_steps h.wf h.spre h.stl, trivial, by simp, ?_⟩
      · have : made (CS.out ⟨s.out, some r, []⟩) = made s.out ++ [r] := by simp [CS.out, made_append, made_cons, made_nil, hr]
        rw [this]; exact hmade
      · intro b hb
        cases hb
        show (cinit.run s.out).out = s.out ∧ (cinit.run s.out).step r = _ ∧ Rest r []
        rw [ea]
        exact ⟨rfl, es3, rest_nil r⟩
    · have h1 : 0 < ccc r := by have := ccc_nonneg r; omega
      have es2 : s.step r = ⟨s.pre, s.hd, s.tl ++ [r]⟩ := by rw [es, CS.push, if_neg h0]
      rw [es2] at hwf ⊢
      have hsn : Steps (s.tl ++ [r]) := by
        refine steps_snoc h.stl fun x hx => ?_
        obtain ⟨y, hy, hxy⟩ := h.last x hx
        have hd' : ¬ (0 < ccc r ∧ ccc r < ccc y) := by
          rcases List.eq_nil_or_concat d with rfl | ⟨d', z, rfl⟩
          · simp at hy
          · simp at hy; subst hy
            have := steps_right (l := d') (m := [z, r]) (by simpa using hd)
            exact this.1
        omega
      refine ⟨hwf, ?_, ?_, h.spre, hsn, ?_, ?_⟩
      · have : made (CS.out ⟨s.pre, s.hd, s.tl ++ [r]⟩) = made s.out ++ [r] := by simp [CS.out, made_append, made_cons, made_nil, hr]
        rw [this]; exact hmade
      · intro x hx; simp at hx; rcases hx with hx | rfl
        · exact h.plain x hx
        · exact hr
      · intro x hx; simp at hx; subst hx; exact ⟨r, by simp, Int.le_refl _⟩
      · intro b hb
        obtain ⟨b1, b2, b3⟩ := h.back b hb
        refine ⟨b1, b2, ?_⟩
        intro u t w hu hop
        rcases List.eq_nil_or_concat w with rfl | ⟨w', z, rfl⟩
        · have hu' : s.tl ++ [r] = u ++ [t] := hu
          obtain ⟨rfl, hrt⟩ := List.append_inj' hu' rfl
          simp at hrt; subst hrt
          unfold CS.joins at e
          simp only [show s.hd = some b from hb] at e
          rw [if_pos ((CS.opens_iff _ _).2 hop)] at e
          exact e
        · have hu' : s.tl ++ [r] = (u ++ t :: w') ++ [z] := by simpa using hu
          obtain ⟨hh, _⟩ := List.append_inj' hu' rfl
          exact b3 u t w' hh hop
theorem Comes.run {s : CS} {d : List Int} (h : Comes s d) (l : List Int) (hl : ∀ x ∈ l, full x = [x]) (hs : Steps (d ++ l)) : Comes (s.run l) (d ++ l) := by
  induction l generalizing s d with
  | nil => simpa [CS.run_nil] using h
  | cons r l ih =>
    rw [CS.run_cons]
    have := ih (h.step (hl r (by simp)) (steps_left (m := l) (by simpa using hs))) (fun x hx => hl x (by simp [hx])) (by simpa using hs)
    simpa using this
theorem comes_compose {d : List Int} (hl : ∀ x ∈ d, full x = [x]) (hs : Sorted d) : Comes (cinit.run d) d := by
  have := comes_init.run d hl (by simpa using steps_of_sorted hs); simpa using this
/-- P7.3: what is put together, made anew and in order, is what it was; it is in order; put together once more it is the same. -/
theorem compose_made {d : List Int} (hl : ∀ x ∈ d, full x = [x]) (hs : Sorted d) : order (made (compose d)) = d :=
  (comes_compose hl hs).alike.order.trans hs
theorem compose_alike {d : List Int} (hl : ∀ x ∈ d, full x = [x]) (hs : Sorted d) : Alike (made (compose d)) d := (comes_compose hl hs).alike
theorem compose_sorted {d : List Int} (hl : ∀ x ∈ d, full x = [x]) (hs : Sorted d) : Sorted (compose d) :=
  let h := comes_compose hl hs
  sorted_of_steps (CS.out_steps h.wf h.spre h.stl)
theorem compose_compose {d : List Int} (hl : ∀ x ∈ d, full x = [x]) (hs : Sorted d) : compose (compose d) = compose d := by
  show (cinit.run (cinit.run d).out).out = _
  rw [(comes_compose hl hs).again]; rfl

end Go.Proofs.Pt
end

/- ==== the text W10 ==== -/
section
/- The walk of package canon's Compose: values put together. -/
namespace Go.Proofs.Pt
open Go Go.RowKit Go.Proofs.YtjgdnhmbfeekoaaGreatDoorW.PrintWords

/-- The program's three variables tell the fold's state. -/
structure Tells (s : CS) (p : List Int × Int × Int) : Prop where
  out : p.1 = s.out
  none_ : s.hd = none → p.2.1 = -1
  some_ : ∀ h, s.hd = some h → p.2.1 = s.pre.length
  last : s.hd ≠ none → ∀ x, s.tl.getLast? = some x → p.2.2 = ccc x
theorem tells_init : Tells cinit ([], -1, 0) := ⟨rfl, fun _ => rfl, fun h e => (by cases e), fun h => absurd rfl h⟩
theorem Tells.push {s : CS} {xs : List Int} {head last : Int} (h : Tells s (xs, head, last)) (r : Int) : Tells (s.push r) (appP xs head r) := by
  unfold CS.push appP
  have ho := h.out
  simp only at ho
  by_cases hc : ccc r = 0
  · rw [if_pos hc, if_pos hc]
    exact ⟨by simp [CS.out, ho], fun e => (by cases e), fun a e => by simp [ho], fun _ x e => by simp at e⟩
  · rw [if_neg hc, if_neg hc]
    exact ⟨by simp [CS.out, ho], h.none_, h.some_, fun _ x e => by simp at e; rw [e]⟩
theorem Tells.step {s : CS} {xs : List Int} {head last : Int} (h : Tells s (xs, head, last)) (r : Int) : Tells (s.step r) (putP xs head last r) := by
  have ho := h.out
  simp only at ho
  unfold putP CS.step CS.joins
  cases eh : s.hd with
  | none =>
    have := h.none_ eh
    simp only at this
    have e : opensP xs.length head last (ccc r) = false := by unfold opensP; simp [this]
    rw [e]
    exact h.push r
  | some a =>
    have h1 := h.some_ a eh
    have h2 := h.last (by rw [eh]; simp)
    simp only at h1 h2
    have hl : xs.length = s.pre.length + (s.tl.length + 1) := by rw [ho]; simp [CS.out, eh]
    have e : opensP xs.length head last (ccc r) = s.opens (ccc r) := by
      unfold opensP CS.opens
      have e1 : decide (0 ≤ head) = true := decide_eq_true (by omega)
      rw [e1, Bool.true_and]
      cases et : s.tl.getLast? with
      | none =>
        rw [List.getLast?_eq_none_iff] at et
        rw [et] at hl
        simp at hl
        have e3 : head = (xs.length : Int) - 1 := by omega
        rw [e3]
        simp
      | some x =>
        have ht : s.tl ≠ [] := by intro e; rw [e] at et; simp at et
        have hlen : 0 < s.tl.length := List.length_pos_iff.2 ht
        rw [h2 x et]
        have : ¬ head = (xs.length : Int) - 1 := by omega
        simp [this]
    have hx : rd xs head = a := by
      unfold rd
      rw [h1, ho]
      simp [CS.out, eh, List.getD_eq_getElem?_getD]
    rw [e, hx]
    cases hop : s.opens (ccc r) with
    | false => simp; exact h.push r
    | true =>
      simp only [if_true]
      cases hj : join a r with
      | none => exact h.push r
      | some v =>
        refine ⟨?_, fun e => (by cases e), fun b e => h1, fun _ => h2⟩
        show xs.set head.toNat v = _
        rw [ho, h1]
        simp [CS.out, eh]
def putsP (p : List Int × Int × Int) : List Int → List Int × Int × Int
  | [] => p
  | r :: l => putsP (putP p.1 p.2.1 p.2.2 r) l
theorem Tells.run (l : List Int) : ∀ {s : CS} {p : List Int × Int × Int}, Tells s p → Tells (s.run l) (putsP p l) := by
  induction l with
  | nil => intro s p h; exact h
  | cons r l ih => intro s p h; obtain ⟨a, b, c⟩ := p; rw [CS.run_cons]; exact ih (h.step r)
theorem putsP_compose (l : List Int) : (putsP ([], -1, 0) l).1 = compose l := (Tells.run l tells_init).out
theorem putsP_snoc (l : List Int) (r : Int) : ∀ p, putsP p (l ++ [r]) = putP (putsP p l).1 (putsP p l).2.1 (putsP p l).2.2 r := by
  induction l with
  | nil => intro p; rfl
  | cons x l ih => intro p; exact ih _
theorem putsP_len (l : List Int) : (putsP ([], -1, 0) l).1.length ≤ l.length ∧ (putsP ([], -1, 0) l).2.1 < (putsP ([], -1, 0) l).1.length := by
  have h := Tells.run l tells_init
  refine ⟨by rw [putsP_compose]; exact compose_length l, ?_⟩
  rw [h.out]
  cases e : (cinit.run l).hd with
  | none => rw [h.none_ e]; omega
  | some a => rw [h.some_ a e]; simp [CS.out, e]; omega

def canon_Compose.f (l0 : List Int) : Option (List Int) := if l0.length < 17592186044416 then some (compose l0) else none
set_option maxHeartbeats 1000000 in
theorem canon_Compose.calls (A0 : Option Addr) (c0 : Nat) (l0 : List Int) (r : List Int) (w : World) (hr0 : Kd.C (Kd.int .i64) w A0 l0.length l0) (_hc0 : l0.length ≤ c0) (h : canon_Compose.f l0 = some r) :
    Calls Tryz.prog 24 #[.slice A0 l0.length c0] w fun e w' => ∃ v0_ : Value, e = .returned (v0_) ∧ Kd.R (Kd.int .i64) 3 w' w.heap.size (fun _ => True) v0_ r ∧ Below w.heap.size w w' := by
  unfold canon_Compose.f at h
  split at h
  case isFalse => cases h
  rename_i hlen
  cases h
  have HR := Lib.hid hr0; clear hr0
  have HL := Lib.hid hlen; clear hlen
  go_enter Tryz.func24, Tryz.ntmps24
  go_wp2_with fail
  have hs : CompAt (w.alloc (Obj.cells #[Value.slice none 0 0, Value.int .i64 (-1), Value.int .i64 0] 80)) w.heap.size w.heap.size (.slice none 0 0) [] (-1) 0 := ⟨by simpa using heap_alloc_new w _, own_nil _ _ _ _, Nat.le_refl _⟩
  have HS := Lib.hid hs; clear hs
  have HB0 : Hid (Below w.heap.size w (w.alloc (Obj.cells #[Value.slice none 0 0, Value.int .i64 (-1), Value.int .i64 0] 80))) := (Below.refl _ _).alloc (Nat.le_refl _) _
  generalize w.alloc (Obj.cells #[Value.slice none 0 0, Value.int .i64 (-1), Value.int .i64 0] 80) = w1 at HS HB0 ⊢
  go_loopw [5, 9] (fun _ i wr => ∃ k : Nat, k ≤ l0.length ∧ i = .int .i64 k ∧ Hid (∃ v, CompAt wr w.heap.size w.heap.size v (putsP ([], -1, 0) (l0.take k)).1 (putsP ([], -1, 0) (l0.take k)).2.1 (putsP ([], -1, 0) (l0.take k)).2.2) ∧ Hid (Below w.heap.size w wr)) (fun _ i _ => l0.length - (intOf i).toNat)
  case atStart => exact ⟨0, Nat.zero_le _, rfl, ⟨_, HS.out⟩, HB0.out⟩
  case round =>
    obtain ⟨k, hk, rfl, HC, HB⟩ := hrel
    clear HS HB0
    by_cases hlt : k < l0.length
    · obtain ⟨ad, e, hcell⟩ := Kd.at_int HR.out k (by omega) (by omega)
      subst e
      have hcell2 : wr.cell? (ad.add k) = some (.int .i64 (rd l0 k)) := (HB.out.cell (World.block_lt_of_cell? w _ hcell)).trans hcell
      clear hcell
      obtain ⟨v, hC⟩ := HC.out
      have hkz : (k : Int) < (l0.length : Int) := by omega
      have hlz : (l0.length : Int) < 17592186044416 := by have := HL.out; omega
      have hp := putsP_len (l0.take k)
      have hsn : putsP ([], -1, 0) (l0.take (k + 1)) = putP (putsP ([], -1, 0) (l0.take k)).1 (putsP ([], -1, 0) (l0.take k)).2.1 (putsP ([], -1, 0) (l0.take k)).2.2 (rd l0 k) := by
        rw [List.take_succ_eq_append_getElem hlt, putsP_snoc]
        congr 1
        simp [rd, List.getD_eq_getElem?_getD, List.getElem?_eq_getElem hlt]
      have hp1 : (putsP ([], -1, 0) (l0.take k)).1.length < 17592186044416 := by have h1 := hp.1; have h2 := List.length_take_le k l0; omega
      have hp2 := hp.2
      have HS := Lib.hid hsn; clear hsn hp HC
      generalize putsP ([], -1, 0) (l0.take k) = p at hC hp1 hp2 HS
      have HC := Lib.hid hC; have HP1 := Lib.hid hp1; have HP2 := Lib.hid hp2; clear hC hp1 hp2
      go_wp2_with (go_at_call 66; refine (put_any _ _ _ _ _ _ _ _ HC.out HP1.out HP2.out).mono ?_; rintro e w' ⟨rfl, hc', hb'⟩)
      go_roundw
      case measure => simp [intOf]; omega
      case rel => exact ⟨k + 1, by omega, by go_num, by rw [HS.out]; exact hc', HB.out.trans hb'⟩
    · obtain rfl : k = l0.length := by omega
      obtain ⟨v, hC⟩ := HC.out
      rw [List.take_length] at hC
      have hv := hC.cells.1
      have hown := hC.own
      rw [putsP_compose] at hown
      have HO := Lib.hid hown; clear hown hC HC
      go_wp2
      go_ret
      exact ⟨_, rfl, Kd.R_of_own (enc := Value.int .i64) (h1 := fun _ => rfl) HO.out (fun _ _ => trivial), HB.out⟩
end Go.Proofs.Pt
end

/- ==== the text M10 ==== -/
section
/- Rows of marks put in order by exchanges: what each step of a stable sort in place keeps (no program in sight). -/
namespace Go.Proofs.Pt

/-- By class, none ahead of a lower one. -/
def Rise (l : List Int) : Prop := l.Pairwise (fun x y => ccc x ≤ ccc y)
/-- All are marks. -/
def AllM (l : List Int) : Prop := ∀ x ∈ l, 0 < ccc x
theorem AllM.perm {l m : List Int} (h : AllM l) (hp : l.Perm m) : AllM m := fun x hx => h x (hp.mem_iff.2 hx)
theorem AllM.alike {l m : List Int} (h : AllM l) (hp : Alike l m) : AllM m := h.perm hp.perm
theorem allM_append {l m : List Int} : AllM (l ++ m) ↔ AllM l ∧ AllM m := by
  unfold AllM
  constructor
  · intro h; exact ⟨fun x hx => h x (by simp [hx]), fun x hx => h x (by simp [hx])⟩
  · rintro ⟨h1, h2⟩ x hx
    rcases List.mem_append.1 hx with h | h
    · exact h1 x h
    · exact h2 x h
theorem rise_append {l m : List Int} : Rise (l ++ m) ↔ Rise l ∧ Rise m ∧ ∀ x ∈ l, ∀ y ∈ m, ccc x ≤ ccc y := List.pairwise_append
theorem rise_nil : Rise [] := List.Pairwise.nil
theorem rise_one (x : Int) : Rise [x] := by simp [Rise]
/-- A mark past marks that are all of lower classes. -/
theorem alike_over {x : Int} (hx : 0 < ccc x) : ∀ (s : List Int), (∀ y ∈ s, 0 < ccc y ∧ ccc y < ccc x) → Alike (x :: s) (s ++ [x])
  | [], _ => .refl _
  | y :: s, h => by
    have h1 := h y (by simp)
    have h2 := (alike_over hx s fun z hz => h z (by simp [hz])).left [y]
    have h3 := Alike.step [] s x y hx h1.1 (by omega)
    exact .trans (by simpa using h3) (by simpa using h2)
/-- Rows of marks the other way round, all of the second of lower classes. -/
theorem alike_turn {v : List Int} : ∀ (u : List Int), (∀ x ∈ u, 0 < ccc x) → (∀ y ∈ v, 0 < ccc y) → (∀ x ∈ u, ∀ y ∈ v, ccc y < ccc x) → Alike (u ++ v) (v ++ u)
  | [], _, _, _ => by simpa using Alike.refl v
  | x :: u, h1, h2, h3 => by
    have i := (alike_turn u (fun a ha => h1 a (by simp [ha])) h2 (fun a ha => h3 a (by simp [ha]))).left [x]
    have j := (alike_over (h1 x (by simp)) v fun y hy => ⟨h2 y hy, h3 x (by simp) y hy⟩).right u
    exact .trans (by simpa using i) (by simpa using j)
/-- Two values, each in the other's place. -/
def sw (xs : List Int) (i j : Nat) : List Int := (xs.set i (xs.getD j 0)).set j (xs.getD i 0)
theorem sw_length (xs : List Int) (i j : Nat) : (sw xs i j).length = xs.length := by simp [sw]
theorem sw_split (p m q : List Int) (x y : Int) : sw (p ++ x :: (m ++ y :: q)) p.length (p.length + 1 + m.length) = p ++ y :: (m ++ x :: q) := by
  unfold sw
  have h1 : (p ++ x :: (m ++ y :: q)).getD (p.length + 1 + m.length) 0 = y := by
    simp only [List.getD_eq_getElem?_getD]
    rw [List.getElem?_append_right (by omega), show p.length + 1 + m.length - p.length = m.length + 1 by omega, List.getElem?_cons_succ, List.getElem?_append_right (by omega)]
    simp
  have h2 : (p ++ x :: (m ++ y :: q)).getD p.length 0 = x := by simp [List.getD_eq_getElem?_getD]
  rw [h1, h2, List.set_append_right _ _ (by omega), Nat.sub_self, List.set_cons_zero, List.set_append_right _ _ (by omega), show p.length + 1 + m.length - p.length = m.length + 1 by omega, List.set_cons_succ, List.set_append_right _ _ (by omega), Nat.sub_self, List.set_cons_zero]
theorem sw_comm (xs : List Int) (i j : Nat) : sw xs i j = sw xs j i := by
  unfold sw
  by_cases e : i = j
  · rw [e]
  · rw [List.set_comm _ _ e]
theorem sw_split' (p m q : List Int) (x y : Int) : sw (p ++ x :: (m ++ y :: q)) (p.length + 1 + m.length) p.length = p ++ y :: (m ++ x :: q) := by rw [sw_comm, sw_split]

/-! ### a part of a row in order: what an insertion sort does -/
structure Insd (u s1 : List Int) (x : Int) (s2 t : List Int) : Prop where
  alike : Alike u (s1 ++ x :: (s2 ++ t))
  rise : Rise (s1 ++ s2)
  over : ∀ y ∈ s2, ccc x < ccc y
theorem Insd.start {u s t : List Int} {x : Int} (ha : Alike u (s ++ x :: t)) (hs : Rise s) : Insd u s x [] t := ⟨by simpa using ha, by simpa using hs, by simp⟩
theorem Insd.step {u s1 s2 t : List Int} {x y : Int} (h : Insd u (s1 ++ [y]) x s2 t) (hu : AllM u) (hlt : ccc x < ccc y) : Insd u s1 x (y :: s2) t := by
  have hm := hu.alike h.alike
  have hx : 0 < ccc x := hm x (by simp)
  have hy : 0 < ccc y := hm y (by simp)
  refine ⟨.trans h.alike ?_, by simpa using h.rise, ?_⟩
  · have := Alike.step s1 (s2 ++ t) y x hy hx (by omega)
    simpa using this
  · intro z hz
    rcases List.mem_cons.1 hz with rfl | hz
    · exact hlt
    · exact h.over z hz
theorem Insd.stop {u s1 s2 t : List Int} {x : Int} (h : Insd u s1 x s2 t) (hs : ∀ y, s1.getLast? = some y → ccc y ≤ ccc x) : Alike u ((s1 ++ x :: s2) ++ t) ∧ Rise (s1 ++ x :: s2) := by
  refine ⟨by simpa using h.alike, ?_⟩
  have hr := rise_append.1 h.rise
  refine rise_append.2 ⟨hr.1, List.Pairwise.cons (fun y hy => Int.le_of_lt (h.over y hy)) hr.2.1, ?_⟩
  intro y hy z hz
  rcases List.mem_cons.1 hz with rfl | hz
  · rcases List.eq_nil_or_concat s1 with rfl | ⟨s, w, rfl⟩
    · simp at hy
    · have hw := hs w (by simp)
      simp only [List.concat_eq_append] at hy hr
      rcases List.mem_append.1 hy with h1 | h1
      · have := (rise_append.1 hr.1).2.2 y h1 w (by simp); omega
      · simp at h1; rw [h1]; exact hw
  · exact hr.2.2 y hy z hz

/-! ### two parts in order, one behind the other: what a merge by turning does -/
theorem rise_turn {a u v b : List Int} (h1 : Rise (a ++ u)) (h2 : Rise (v ++ b)) (h3 : ∀ x ∈ a, ∀ y ∈ b, ccc x ≤ ccc y) (h4 : ∀ x ∈ u, ∀ y ∈ v, ccc y < ccc x) {l r : List Int} (hl : (a ++ v).Perm l) (hr : (u ++ b).Perm r) (hl1 : Rise l) (hr1 : Rise r) : Rise (l ++ r) := by
  have h1' := rise_append.1 h1
  have h2' := rise_append.1 h2
  refine rise_append.2 ⟨hl1, hr1, fun x hx y hy => ?_⟩
  rcases List.mem_append.1 (hl.mem_iff.2 hx) with h | h <;> rcases List.mem_append.1 (hr.mem_iff.2 hy) with g | g
  · exact h1'.2.2 x h y g
  · exact h3 x h y g
  · exact Int.le_of_lt (h4 y g x h)
  · exact h2'.2.2 x h y g
/-- By class rising: put in order it stays. -/
theorem steps_of_rise : ∀ {l : List Int}, Rise l → Steps l
  | [], _ => trivial
  | [_], _ => trivial
  | a :: b :: l, h => ⟨fun hh => by have := (List.pairwise_cons.1 h).1 b (by simp); omega, steps_of_rise (List.pairwise_cons.1 h).2⟩
/-- Where two values' classes rise, and the list rises, place by place. -/
theorem rise_get {l : List Int} (h : Rise l) (i j : Nat) (hij : i ≤ j) (hj : j < l.length) : ccc (l.getD i 0) ≤ ccc (l.getD j 0) := by
  have hi : i < l.length := by omega
  rw [List.getD_eq_getElem?_getD, List.getD_eq_getElem?_getD, List.getElem?_eq_getElem hi, List.getElem?_eq_getElem hj]
  by_cases e : i = j
  · subst e; exact Int.le_refl _
  · exact List.pairwise_iff_getElem.1 h i j hi hj (by omega)
theorem rise_take {l : List Int} (h : Rise l) (k : Nat) (hk : k < l.length) : ∀ z ∈ l.take (k + 1), ccc z ≤ ccc (l.getD k 0) := by
  intro z hz
  obtain ⟨i, hi, rfl⟩ := List.mem_iff_getElem.1 hz
  simp only [List.length_take] at hi
  have := rise_get h i k (by omega) hk
  rw [List.getElem_take]
  simpa [List.getD_eq_getElem?_getD, List.getElem?_eq_getElem (show i < l.length by omega)] using this
theorem rise_drop {l : List Int} (h : Rise l) (k : Nat) (hk : k < l.length) : ∀ z ∈ l.drop k, ccc (l.getD k 0) ≤ ccc z := by
  intro z hz
  obtain ⟨i, hi, rfl⟩ := List.mem_iff_getElem.1 hz
  simp only [List.length_drop] at hi
  have := rise_get h k (k + i) (by omega) (by omega)
  rw [List.getElem_drop]
  simpa [List.getD_eq_getElem?_getD, List.getElem?_eq_getElem (show k + i < l.length by omega)] using this
theorem rise_left {l : List Int} (h : Rise l) (k : Nat) : Rise (l.take k) := by
  have := h; rw [← List.take_append_drop k l] at this; exact (rise_append.1 this).1
theorem rise_right {l : List Int} (h : Rise l) (k : Nat) : Rise (l.drop k) := by
  have := h; rw [← List.take_append_drop k l] at this; exact (rise_append.1 this).2.1
theorem mem_take {l : List Int} {k : Nat} {z : Int} (h : z ∈ l.take k) : z ∈ l := List.mem_of_mem_take h
theorem mem_drop {l : List Int} {k : Nat} {z : Int} (h : z ∈ l.drop k) : z ∈ l := List.mem_of_mem_drop h
/-- One value put among those that rise, behind all lower ones: from ahead of them. -/
theorem put_left {x : Int} {v : List Int} {i : Nat} (hm : AllM (x :: v)) (hv : Rise v) (h1 : ∀ z ∈ v.take i, ccc z < ccc x) (h2 : ∀ z ∈ v.drop i, ccc x ≤ ccc z) : Alike (x :: v) (v.take i ++ x :: v.drop i) ∧ Rise (v.take i ++ x :: v.drop i) := by
  constructor
  · have := (alike_over (hm x (by simp)) (v.take i) fun y hy => ⟨hm y (by simp [mem_take hy]), h1 y hy⟩).right (v.drop i)
    simpa using this
  · refine rise_append.2 ⟨rise_left hv i, List.Pairwise.cons (fun z hz => h2 z hz) (rise_right hv i), ?_⟩
    intro z hz y hy
    rcases List.mem_cons.1 hy with rfl | hy
    · exact Int.le_of_lt (h1 z hz)
    · have := h1 z hz; have := h2 y hy; omega
/-- One value put among those that rise, behind all that are no greater: from behind them. -/
theorem put_right {y : Int} {u : List Int} {i : Nat} (hm : AllM (u ++ [y])) (hu : Rise u) (h1 : ∀ z ∈ u.take i, ccc z ≤ ccc y) (h2 : ∀ z ∈ u.drop i, ccc y < ccc z) : Alike (u ++ [y]) (u.take i ++ y :: u.drop i) ∧ Rise (u.take i ++ y :: u.drop i) := by
  constructor
  · have := (alike_turn (v := [y]) (u.drop i) (fun z hz => hm z (by simp [mem_drop hz])) (fun z hz => hm z (by simp at hz; simp [hz])) (fun z hz w hw => by simp at hw; rw [hw]; exact h2 z hz)).left (u.take i)
    rw [← List.append_assoc, List.take_append_drop] at this
    simpa using this
  · refine rise_append.2 ⟨rise_left hu i, List.Pairwise.cons (fun z hz => Int.le_of_lt (h2 z hz)) (rise_right hu i), ?_⟩
    intro z hz w hw
    rcases List.mem_cons.1 hw with rfl | hw
    · exact h1 z hz
    · have := h1 z hz; have := h2 w hw; omega
/-- Two parts cut where the one's tail goes behind the other's head. -/
theorem merge_cut {u v : List Int} {i j : Nat} (hm : AllM (u ++ v)) (hu : Rise u) (hv : Rise v) (h3 : ∀ x ∈ u.take i, ∀ y ∈ v.drop j, ccc x ≤ ccc y) (h4 : ∀ x ∈ u.drop i, ∀ y ∈ v.take j, ccc y < ccc x)
    {l r : List Int} (hl : Alike (u.take i ++ v.take j) l) (hr : Alike (u.drop i ++ v.drop j) r) (hl1 : Rise l) (hr1 : Rise r) : Alike (u ++ v) (l ++ r) ∧ Rise (l ++ r) := by
  constructor
  · have ht := ((alike_turn (v := v.take j) (u.drop i) (fun z hz => hm z (by simp [mem_drop hz])) (fun z hz => hm z (by simp [mem_take hz])) h4).right (v.drop j)).left (u.take i)
    have e : u.take i ++ ((u.drop i ++ v.take j) ++ v.drop j) = u ++ v := by rw [← List.append_assoc, ← List.append_assoc, List.take_append_drop, List.append_assoc, List.take_append_drop]
    rw [e] at ht
    refine .trans ht ?_
    have := hl.both hr
    simpa using this
  · exact rise_turn (a := u.take i) (u := u.drop i) (v := v.take j) (b := v.drop j) (by rw [List.take_append_drop]; exact hu) (by rw [List.take_append_drop]; exact hv) h3 h4 hl.perm hr.perm hl1 hr1
/-- Where the search of a merge ends: what it then knows. -/
theorem merge_found {u v : List Int} (hu : Rise u) (hv : Rise v) (i j : Nat) (hi : i ≤ u.length) (hj : j ≤ v.length) (h1 : i = 0 ∨ j = v.length ∨ ccc (u.getD (i - 1) 0) ≤ ccc (v.getD j 0)) (h2 : i = u.length ∨ j = 0 ∨ ccc (v.getD (j - 1) 0) < ccc (u.getD i 0)) :
    (∀ x ∈ u.take i, ∀ y ∈ v.drop j, ccc x ≤ ccc y) ∧ (∀ x ∈ u.drop i, ∀ y ∈ v.take j, ccc y < ccc x) := by
  constructor
  · intro x hx y hy
    rcases h1 with h | h | h
    · rw [h] at hx; simp at hx
    · rw [h] at hy; simp at hy
    · by_cases hi0 : i = 0
      · rw [hi0] at hx; simp at hx
      · by_cases hj0 : j = v.length
        · rw [hj0] at hy; simp at hy
        · have a := rise_take hu (i - 1) (by omega) x (by rw [show i - 1 + 1 = i by omega]; exact hx)
          have b := rise_drop hv j (by omega) y hy
          omega
  · intro x hx y hy
    rcases h2 with h | h | h
    · rw [h] at hx; simp at hx
    · rw [h] at hy; simp at hy
    · by_cases hi0 : i = u.length
      · rw [hi0] at hx; simp at hx
      · by_cases hj0 : j = 0
        · rw [hj0] at hy; simp at hy
        · have a := rise_drop hu i (by omega) x hx
          have b := rise_take hv (j - 1) (by omega) y (by rw [show j - 1 + 1 = j by omega]; exact hy)
          omega
/-! ### rows by blocks of one size -/
/-- Blocks of one size, each in order, one behind the other; the last one may be smaller. -/
inductive Blocks (s : Nat) : List Int → Prop
  | last (l) : Rise l → l.length ≤ s → Blocks s l
  | more (l t) : Rise l → l.length = s → Blocks s t → Blocks s (l ++ t)
/-- Whole blocks alone, told from behind. -/
inductive Full (s : Nat) : List Int → Prop
  | nil : Full s []
  | snoc (d l) : Full s d → Rise l → l.length = s → Full s (d ++ l)
theorem Full.blocks {s : Nat} {d : List Int} (h : Full s d) : ∀ {t : List Int}, Blocks s t → Blocks s (d ++ t) := by
  induction h with
  | nil => intro t ht; simpa using ht
  | snoc d l _ hr hl ih => intro t ht; rw [List.append_assoc]; exact ih (.more l t hr hl ht)
theorem Blocks.rise {s : Nat} {l : List Int} (h : Blocks s l) (hl : l.length ≤ s) : Rise l := by
  cases h with
  | last _ h _ => exact h
  | more a t hr ha ht =>
    have : t = [] := List.length_eq_zero_iff.1 (by simp at hl; omega)
    rw [this]; simpa using hr
theorem Blocks.one {s : Nat} {l : List Int} (h : Blocks s l) (hl : s ≤ l.length) : ∃ a t, l = a ++ t ∧ a.length = s ∧ Rise a ∧ Blocks s t := by
  cases h with
  | last _ h h2 => exact ⟨l, [], by simp, by omega, h, .last [] rise_nil (by simp)⟩
  | more a t hr ha ht => exact ⟨a, t, rfl, ha, hr, ht⟩
theorem Blocks.two {s : Nat} {l : List Int} (h : Blocks s l) (hl : 2 * s ≤ l.length) : ∃ a b t, l = a ++ (b ++ t) ∧ a.length = s ∧ b.length = s ∧ Rise a ∧ Rise b ∧ Blocks s t := by
  obtain ⟨a, t, rfl, ha, hra, ht⟩ := h.one (by omega)
  obtain ⟨b, t, rfl, hb, hrb, ht⟩ := ht.one (by simp at hl; omega)
  exact ⟨a, b, t, rfl, ha, hb, hra, hrb, ht⟩
theorem Blocks.nil (s : Nat) : Blocks s [] := .last [] rise_nil (by simp)
end Go.Proofs.Pt
end

/- ==== the text W11 ==== -/
section
/- The walks of a stable sort in place over rows of values: the test of two marks, two parts exchanged. -/
namespace Go.Proofs.Pt
open Go Go.RowKit Go.Proofs.YtjgdnhmbfeekoaaGreatDoorW.PrintWords

theorem before_any (x y : Int) (w : World) : Calls Tryz.prog 64 #[.int .i64 x, .int .i64 y] w fun e w' => e = .returned (.int .i64 (cmpI (ccc x) (ccc y))) ∧ Below w.heap.size w w' := by
  go_enter Tryz.func64, Tryz.ntmps64
  go_wp2_with fail
  refine (ccc_any x _).mono ?_
  rintro e w1 ⟨rfl, hb1⟩
  go_wp2_with fail
  refine (ccc_any y _).mono ?_
  rintro e w2 ⟨rfl, hb2⟩
  have hb : Below w.heap.size w w2 := hb1.trans (hb2.mono hb1.size)
  have HB := Lib.hid hb; clear hb hb1 hb2
  go_wp2_with (go_at_call 90; refine (compare_any _ _ _).mono ?_; rintro e w' ⟨rfl, rfl⟩)
  go_ret
  exact ⟨rfl, HB.out⟩

/-- The values' row, a row of the call's own, all of it. -/
structure RowC (w0 : World) (base gb cap : Nat) (xs : List Int) (w : World) : Prop where
  own : w.ownsRow base 75 1 (.slice (some ⟨gb, 0, none⟩) xs.length cap) xs.length (nums .i64 xs)
  bel : Below base w0 w
namespace RowC
variable {w0 w w' : World} {base gb cap : Nat} {xs : List Int}
theorem cell (h : RowC w0 base gb cap xs w) (i : Nat) (hi : i < xs.length) : w.cell? ⟨gb, i, none⟩ = some (.int .i64 (xs.getD i 0)) := by
  rw [h.own.cellAt i (by omega)]
  simp [nums, List.getElem?_eq_getElem hi, List.getD_eq_getElem?_getD]
theorem frozen (h : RowC w0 base gb cap xs w) (i : Nat) : w.frozen? ⟨gb, i, none⟩ = false := h.own.frozenAt i
theorem lt (h : RowC w0 base gb cap xs w) : gb < w.heap.size := own_lt h.own gb rfl
theorem ge (h : RowC w0 base gb cap xs w) : base ≤ gb := own_base h.own gb rfl
theorem below (h : RowC w0 base gb cap xs w) (hb : Below w.heap.size w w') : RowC w0 base gb cap xs w' := ⟨pw_own_below h.own hb, h.bel.trans (hb.mono (Nat.le_trans h.ge (Nat.le_of_lt h.lt)))⟩
theorem set (h : RowC w0 base gb cap xs w) (i : Nat) (x : Int) : RowC w0 base gb cap (xs.set i x) (w.setCell ⟨gb, i, none⟩ (.int .i64 x)) :=
  ⟨by have := (h.own.stored i (.int .i64 x)).1; simpa [nums, List.map_set] using this, h.bel.setCell h.ge _⟩
theorem drew (h : RowC w0 base gb cap xs w) : RowC w0 base gb cap xs w.drew := h.below (pw_below_drewN (Below.refl _ _) 1)
/-- What an exchange of two of its values finds, and what it leaves. -/
theorem swapping (h : RowC w0 base gb cap xs w) (i j : Nat) (hi : i < xs.length) (hj : j < xs.length) :
    w.cell? ⟨gb, i, none⟩ = some (.int .i64 (xs.getD i 0)) ∧ w.cell? ⟨gb, j, none⟩ = some (.int .i64 (xs.getD j 0)) ∧ (∃ u, (w.setCell ⟨gb, i, none⟩ (.int .i64 (xs.getD j 0))).cell? ⟨gb, j, none⟩ = some u) ∧
    w.frozen? ⟨gb, i, none⟩ = false ∧ w.frozen? ⟨gb, j, none⟩ = false ∧ RowC w0 base gb cap (sw xs i j) ((w.setCell ⟨gb, i, none⟩ (.int .i64 (xs.getD j 0))).setCell ⟨gb, j, none⟩ (.int .i64 (xs.getD i 0))).drew :=
  ⟨h.cell i hi, h.cell j hj, ⟨_, (h.set i _).cell j (by simpa using hj)⟩, h.frozen i, h.frozen j, ((h.set i _).set j _).drew⟩
end RowC

set_option maxHeartbeats 1000000 in
set_option maxRecDepth 100000 in
theorem swapRange_any (w0 : World) (base gb cap off n cv a b k : Nat) (p s m t q : List Int) (f : Value) (w : World) (h : RowC w0 base gb cap (p ++ (s ++ (m ++ (t ++ q)))) w) (hp : p.length = off + a) (hs : s.length = k) (ht : t.length = k) (hm : a + k + m.length = b) (hb : b + k ≤ n) (hn : n < 17592186044416) :
    Calls Tryz.prog 178 #[.slice (some ⟨gb, off, none⟩) n cv, .int .i64 a, .int .i64 b, .int .i64 k, f] w fun e w' => e = .returned (.tuple #[]) ∧ RowC w0 base gb cap (p ++ (t ++ (m ++ (s ++ q)))) w' := by
  have H := Lib.hid h; clear h
  go_enter Tryz.func178, Tryz.ntmps178
  go_wp2_with fail
  go_loopw [10] (fun i wr => ∃ j : Nat, j ≤ k ∧ i = .int .i64 j ∧ Hid (RowC w0 base gb cap (p ++ ((t.take j ++ s.drop j) ++ (m ++ ((s.take j ++ t.drop j) ++ q)))) wr)) (fun i _ => k - (intOf i).toNat)
  case atStart => exact ⟨0, Nat.zero_le _, rfl, by simpa using H⟩
  case round =>
    obtain ⟨j, hj, rfl, HR⟩ := hrel
    clear H
    by_cases hlt : j < k
    · have hltz : (j : Int) < (k : Int) := by omega
      obtain ⟨x, s2, hx⟩ : ∃ x s2, s.drop j = x :: s2 := ⟨s[j], s.drop (j + 1), List.drop_eq_getElem_cons (by omega)⟩
      obtain ⟨y, t2, hy⟩ : ∃ y t2, t.drop j = y :: t2 := ⟨t[j], t.drop (j + 1), List.drop_eq_getElem_cons (by omega)⟩
      have hs2 : s2.length + 1 + j = k := by have := congrArg List.length hx; simp at this; omega
      have e1 : p ++ ((t.take j ++ s.drop j) ++ (m ++ ((s.take j ++ t.drop j) ++ q))) = (p ++ t.take j) ++ x :: ((s2 ++ (m ++ s.take j)) ++ y :: (t2 ++ q)) := by rw [hx, hy]; simp
      have hP : (p ++ t.take j).length = off + (a + j) := by simp; omega
      have hQ : (p ++ t.take j).length + 1 + (s2 ++ (m ++ s.take j)).length = off + (b + j) := by simp; omega
      have h1 := HR.out
      rw [e1] at h1
      obtain ⟨g1, g2, ⟨u, g3⟩, g4, g5, g6⟩ := h1.swapping (off + (a + j)) (off + (b + j)) (by rw [List.length_append]; simp only [List.length_cons, List.length_append] at hQ ⊢; omega) (by simp only [List.length_cons, List.length_append] at hP hQ ⊢; omega)
      have v1 : ((p ++ t.take j) ++ x :: ((s2 ++ (m ++ s.take j)) ++ y :: (t2 ++ q))).getD (off + (a + j)) 0 = x := by rw [← hP]; simp [List.getD_eq_getElem?_getD]
      have v2 : ((p ++ t.take j) ++ x :: ((s2 ++ (m ++ s.take j)) ++ y :: (t2 ++ q))).getD (off + (b + j)) 0 = y := by
        rw [← hQ, List.getD_eq_getElem?_getD, List.getElem?_append_right (by omega), show ∀ A B : Nat, A + 1 + B - A = B + 1 from fun A B => by omega, List.getElem?_cons_succ, List.getElem?_append_right (by omega)]; simp
      have v3 : sw ((p ++ t.take j) ++ x :: ((s2 ++ (m ++ s.take j)) ++ y :: (t2 ++ q))) (off + (a + j)) (off + (b + j)) = p ++ ((t.take (j + 1) ++ s.drop (j + 1)) ++ (m ++ ((s.take (j + 1) ++ t.drop (j + 1)) ++ q))) := by
        have z1 : t.take (j + 1) = t.take j ++ [y] := by rw [List.take_add, hy]; rfl
        have z2 : s.take (j + 1) = s.take j ++ [x] := by rw [List.take_add, hx]; rfl
        have z3 : s.drop (j + 1) = s2 := by rw [← List.drop_drop, hx]; rfl
        have z4 : t.drop (j + 1) = t2 := by rw [← List.drop_drop, hy]; rfl
        rw [← hQ, ← hP, sw_split, z1, z2, z3, z4]; simp
      rw [v1, v2, v3] at g6
      rw [v1] at g1
      rw [v2] at g2 g3
      have G := Lib.hid g6
      clear g6 v1 v2 v3 h1 hP hQ e1 hs2 hx hy HR
      obtain ⟨iN, hiN⟩ : ∃ z, z = a + j := ⟨_, rfl⟩
      obtain ⟨jN, hjN⟩ : ∃ z, z = b + j := ⟨_, rfl⟩
      rw [← hiN] at g1 g3 g4 G
      rw [← hjN] at g2 g3 g5 G
      have ea : ((a : Int) + (j : Int)).toNat = iN := by omega
      have pa : (0 : Int) ≤ (a : Int) + (j : Int) := by omega
      have ba : (a : Int) + (j : Int) < (n : Int) := by omega
      have ra : IntKind.i64.wrap ((a : Int) + (j : Int)) = (a : Int) + (j : Int) := by rw [IntKind.wrap_i64]; omega
      have eb : ((b : Int) + (j : Int)).toNat = jN := by omega
      have pb : (0 : Int) ≤ (b : Int) + (j : Int) := by omega
      have bb : (b : Int) + (j : Int) < (n : Int) := by omega
      have rb : IntKind.i64.wrap ((b : Int) + (j : Int)) = (b : Int) + (j : Int) := by rw [IntKind.wrap_i64]; omega
      clear hiN hjN
      go_wp2_with fail
      go_big_region
      clear g1 g2 g3 g4 g5
      generalize ((wr.setCell ⟨gb, off + iN, none⟩ (Value.int IntKind.i64 y)).setCell ⟨gb, off + jN, none⟩ (Value.int IntKind.i64 x)).drew = w3 at G ⊢
      go_wp2
      go_roundw
      case measure => simp [intOf]; omega
      case rel => exact ⟨j + 1, by omega, by go_num, G⟩
    · obtain rfl : j = k := by omega
      go_wp2
      go_end0
      have e := HR.out
      rw [List.take_of_length_le (by omega), List.drop_of_length_le (by omega), List.take_of_length_le (by omega), List.drop_of_length_le (by omega)] at e
      exact ⟨rfl, by simpa using e⟩
end Go.Proofs.Pt
end

/- ==== the text W12 ==== -/
section
/- The walk of a stable sort's small parts: values put in by exchanges. -/
namespace Go.Proofs.Pt
open Go Go.RowKit Go.Proofs.YtjgdnhmbfeekoaaGreatDoorW.PrintWords

def BEF : Value := .func (.func 64) #[] #[]
def InsPost (w0 : World) (base gb cap : Nat) (p u q : List Int) (e : Ending) (w' : World) : Prop := e = .returned (.tuple #[]) ∧ ∃ u', Alike u u' ∧ Rise u' ∧ RowC w0 base gb cap (p ++ (u' ++ q)) w'
theorem getD_at (A : List Int) (x : Int) (B : List Int) (k : Nat) (h : A.length = k) : (A ++ x :: B).getD k 0 = x := by subst h; simp [List.getD_eq_getElem?_getD]
set_option maxHeartbeats 2000000 in
set_option maxRecDepth 100000 in
theorem insertion_any (w0 : World) (base gb cap off n cv a b : Nat) (p u q : List Int) (w : World) (h : RowC w0 base gb cap (p ++ (u ++ q)) w) (hu : AllM u) (hp : p.length = off + a) (hul : a + u.length = b) (hb : b ≤ n) (hn : n < 17592186044416) :
    Calls Tryz.prog 121 #[.slice (some ⟨gb, off, none⟩) n cv, .int .i64 a, .int .i64 b, .func (.func 64) #[] #[]] w (InsPost w0 base gb cap p u q) := by
  have H := Lib.hid h; clear h
  have HU := Lib.hid hu; clear hu
  have hsp : ∃ s t, Alike u (s ++ t) ∧ Rise s ∧ (u = [] ∧ s = [] ∧ t = [] ∨ s.length = 1) ∧ p ++ (u ++ q) = p ++ (s ++ (t ++ q)) := by
    cases u with
    | nil => exact ⟨[], [], .refl _, rise_nil, .inl ⟨rfl, rfl, rfl⟩, rfl⟩
    | cons x u => exact ⟨[x], u, .refl _, rise_one x, .inr rfl, rfl⟩
  go_enter Tryz.func121, Tryz.ntmps121
  go_wp2_with fail
  go_loopw [8] (fun vi wr => ∃ (i : Nat) (s t : List Int), vi = .int .i64 i ∧ a < i ∧ (u = [] ∧ s = [] ∧ t = [] ∨ a + s.length = i) ∧ i ≤ b + 1 ∧ Hid (Alike u (s ++ t) ∧ Rise s ∧ RowC w0 base gb cap (p ++ (s ++ (t ++ q))) wr)) (fun vi _ => b + 1 - (intOf vi).toNat)
  case atStart =>
    obtain ⟨s, t, h1, h2, h3, h4⟩ := hsp
    exact ⟨a + 1, s, t, by go_num, by omega, h3.imp id (fun h => by omega), by omega, h1, h2, by rw [← h4]; exact H.out⟩
  case round =>
    clear H hsp
    obtain ⟨i, s, t, rfl, hai, hcase, hib, HR⟩ := hrel
    by_cases hlt : i < b
    · have hltz : (i : Int) < (b : Int) := by omega
      have hsl : a + s.length = i := by
        rcases hcase with ⟨h1, _, _⟩ | h1
        · rw [h1] at hul; simp at hul; omega
        · exact h1
      have htl : (s ++ t).length = u.length := HR.out.1.perm.length_eq.symm
      obtain ⟨x, t', rfl⟩ : ∃ x t', t = x :: t' := by
        cases t with
        | nil => simp at htl; omega
        | cons x t' => exact ⟨x, t', rfl⟩
      clear hcase
      go_wp2_with fail
      go_loopw [9] (fun vj wq => ∃ (j : Nat) (s1 s2 : List Int), vj = .int .i64 j ∧ a + s1.length = j ∧ s1.length + s2.length = s.length ∧ Hid (Insd u s1 x s2 t' ∧ RowC w0 base gb cap (p ++ (s1 ++ x :: (s2 ++ (t' ++ q)))) wq)) (fun vj _ => (intOf vj).toNat)
      case atStart => exact ⟨i, s, [], rfl, hsl, by simp, Insd.start HR.out.1 HR.out.2.1, by simpa using HR.out.2.2⟩
      case round =>
        clear HR
        obtain ⟨j, s1, s2, rfl, hj, hss, HI⟩ := hrel
        rcases List.eq_nil_or_concat s1 with rfl | ⟨s0, y, rfl⟩
        · simp at hj
          subst hj
          have hf : decide ((a : Int) > (a : Int)) = false := by simp
          have hst := HI.out.1.stop (by simp)
          have hr := HI.out.2
          have HN : Hid (Alike u ((x :: s2) ++ t') ∧ Rise (x :: s2) ∧ RowC w0 base gb cap (p ++ ((x :: s2) ++ (t' ++ q))) wr) := ⟨hst.1, hst.2, by simpa using hr⟩
          clear HI hst hr
          go_wp2_with fail
          go_quiet (fail)
          go_wp2
          go_roundw
          case measure => simp [intOf]; omega
          case rel => exact ⟨i + 1, x :: s2, t', by go_num, by omega, .inr (by simp at hss ⊢; omega), by omega, HN.out.1, HN.out.2.1, HN.out.2.2.below (pw_below_drewN (Below.refl _ _) _)⟩
        · rw [List.concat_eq_append] at hj hss HI
          have hjl : a + s0.length + 1 = j := by simp at hj; omega
          obtain ⟨k, rfl⟩ : ∃ k, j = k + 1 := ⟨j - 1, by omega⟩
          have hja : decide ((k : Int) + 1 > (a : Int)) = true := decide_eq_true (by omega)
          have hlen : (p ++ s0).length = off + k := by simp; omega
          have hsw : ∀ wz, RowC w0 base gb cap (p ++ ((s0 ++ [y]) ++ x :: (s2 ++ (t' ++ q)))) wz → wz.cell? ⟨gb, off + (k + 1), none⟩ = some (.int .i64 x) ∧ wz.cell? ⟨gb, off + k, none⟩ = some (.int .i64 y) ∧ (∃ uu, (wz.setCell ⟨gb, off + (k + 1), none⟩ (.int .i64 y)).cell? ⟨gb, off + k, none⟩ = some uu) ∧
              wz.frozen? ⟨gb, off + (k + 1), none⟩ = false ∧ wz.frozen? ⟨gb, off + k, none⟩ = false ∧ RowC w0 base gb cap (p ++ (s0 ++ x :: ((y :: s2) ++ (t' ++ q)))) ((wz.setCell ⟨gb, off + (k + 1), none⟩ (.int .i64 y)).setCell ⟨gb, off + k, none⟩ (.int .i64 x)).drew := by
            intro wz hz
            have e1 : p ++ ((s0 ++ [y]) ++ x :: (s2 ++ (t' ++ q))) = (p ++ s0) ++ y :: ([] ++ x :: (s2 ++ (t' ++ q))) := by simp
            rw [e1] at hz
            have g := hz.swapping (off + (k + 1)) (off + k) (by simp at hlen ⊢; omega) (by simp at hlen ⊢; omega)
            have v1 := getD_at (p ++ s0) y ([] ++ x :: (s2 ++ (t' ++ q))) (off + k) hlen
            have v2 : ((p ++ s0) ++ y :: ([] ++ x :: (s2 ++ (t' ++ q)))).getD (off + (k + 1)) 0 = x := by
              have := getD_at ((p ++ s0) ++ [y]) x (s2 ++ (t' ++ q)) (off + (k + 1)) (by simp at hlen ⊢; omega)
              simpa using this
            have v3 : sw ((p ++ s0) ++ y :: ([] ++ x :: (s2 ++ (t' ++ q)))) (off + (k + 1)) (off + k) = p ++ (s0 ++ x :: ((y :: s2) ++ (t' ++ q))) := by
              have := sw_split' (p ++ s0) [] (s2 ++ (t' ++ q)) y x
              rw [hlen] at this
              rw [show off + (k + 1) = off + k + 1 + ([] : List Int).length from rfl, this]; simp
            rw [v1, v2, v3] at g
            exact g
          have HSW := Lib.hid hsw; clear hsw hlen
          obtain ⟨g1, g2, _, _, _, _⟩ := HSW.out wr HI.out.2
          have hgb : gb < wr.heap.size := HI.out.2.lt
          have ea : ((k : Int) + 1).toNat = k + 1 := by omega
          have pa : (0 : Int) ≤ (k : Int) + 1 := by omega
          have ba : (k : Int) + 1 < (n : Int) := by omega
          have bb : (k : Int) < (n : Int) := by omega
          have ra : IntKind.i64.wrap ((k : Int) + 1) = (k : Int) + 1 := by rw [IntKind.wrap_i64]; omega
          have rb : IntKind.i64.wrap ((k : Int)) = (k : Int) := by rw [IntKind.wrap_i64]; omega
          go_wp2_with fail
          go_region_held3 (fun w' => w'.cell? ⟨gb, off + (k + 1), none⟩ = some (.int .i64 x) ∧ w'.cell? ⟨gb, off + k, none⟩ = some (.int .i64 y))
            (first | (exact ⟨g1, g2⟩) | (exact ⟨(hb'.cell (p := ⟨gb, off + (k + 1), none⟩) hgb).trans g1, (hb'.cell (p := ⟨gb, off + k, none⟩) hgb).trans g2⟩))
            (first | (go_at_call 64; refine (before_any _ _ _).mono ?_; rintro e w' ⟨rfl, hb'⟩))
          have H2 : Hid (RowC w0 base gb cap (p ++ ((s0 ++ [y]) ++ x :: (s2 ++ (t' ++ q)))) w') := HI.out.2.below ((pw_below_drewN (Below.refl _ _) 1).trans hb')
          have HI1 := Lib.hid HI.out.1
          clear g1 g2 hgb HI hb'
          cases hd : decide (cmpI (ccc x) (ccc y) < 0) with
          | true =>
            have hlt2 := cmpI_lt.1 (of_decide_eq_true hd)
            clear hd
            have HN : Hid (Insd u s0 x (y :: s2) t') := HI1.out.step HU.out hlt2
            obtain ⟨g1, g2, ⟨uu, g3⟩, g4, g5, g6⟩ := HSW.out w' H2.out
            have G := Lib.hid g6
            clear g6 HSW H2 HI1 hlt2
            go_wp2_with fail
            go_big_region
            clear g1 g2 g3 g4 g5
            generalize ((w'.setCell ⟨gb, off + (k + 1), none⟩ (Value.int IntKind.i64 y)).setCell ⟨gb, off + k, none⟩ (Value.int IntKind.i64 x)).drew = w3 at G ⊢
            go_wp2
            go_roundw
            case measure => simp [intOf]
            case rel => exact ⟨k, s0, y :: s2, by first | rfl | go_num, by omega, by simp at hss ⊢; omega, HN.out, G.out⟩
          | false =>
            have hlt2 : ¬ ccc x < ccc y := fun h => of_decide_eq_false hd (cmpI_lt.2 h)
            clear hd
            have hst := HI1.out.stop (by intro z hz; simp at hz; subst hz; omega)
            have hr := H2.out
            have HN : Hid (Alike u (((s0 ++ [y]) ++ x :: s2) ++ t') ∧ Rise ((s0 ++ [y]) ++ x :: s2) ∧ RowC w0 base gb cap (p ++ (((s0 ++ [y]) ++ x :: s2) ++ (t' ++ q))) w') := ⟨hst.1, hst.2, by simpa using hr⟩
            clear hst hr HSW H2 HI1 hlt2
            go_wp2
            go_roundw
            case measure => simp [intOf]; omega
            case rel => exact ⟨i + 1, (s0 ++ [y]) ++ x :: s2, t', by go_num, by omega, .inr (by simp at hss ⊢; omega), by omega, HN.out⟩
    · have htl : (s ++ t).length = u.length := HR.out.1.perm.length_eq.symm
      have ht : t = [] := by
        rcases hcase with ⟨_, _, h⟩ | h
        · exact h
        · rw [List.length_append] at htl; exact List.length_eq_zero_iff.1 (by omega)
      subst ht
      have HN : Hid (Alike u s ∧ Rise s ∧ RowC w0 base gb cap (p ++ (s ++ q)) wr) := ⟨by simpa using HR.out.1, HR.out.2.1, by simpa using HR.out.2.2⟩
      clear HR
      go_wp2
      go_end0
      exact ⟨rfl, s, HN.out.1, HN.out.2.1, HN.out.2.2⟩
end Go.Proofs.Pt
end

/- ==== the text W13 ==== -/
section
/- The walk of a turn of two parts of a row. -/
namespace Go.Proofs.Pt
open Go Go.RowKit Go.Proofs.YtjgdnhmbfeekoaaGreatDoorW.PrintWords

set_option maxHeartbeats 2000000 in
set_option maxRecDepth 100000 in
theorem rotate_any (w0 : World) (base gb cap off n cv a m b : Nat) (p u v q : List Int) (f : Value) (w : World) (h : RowC w0 base gb cap (p ++ (u ++ (v ++ q))) w) (hp : p.length = off + a) (hu : a + u.length = m) (hv : m + v.length = b) (hu0 : 0 < u.length) (hv0 : 0 < v.length) (hb : b ≤ n) (hn : n < 17592186044416) :
    Calls Tryz.prog 156 #[.slice (some ⟨gb, off, none⟩) n cv, .int .i64 a, .int .i64 m, .int .i64 b, f] w fun e w' => e = .returned (.tuple #[]) ∧ RowC w0 base gb cap (p ++ (v ++ (u ++ q))) w' := by
  have H := Lib.hid h; clear h
  have ru : IntKind.i64.wrap ((m : Int) - (a : Int)) = (u.length : Int) := by rw [IntKind.wrap_i64]; omega
  have rv : IntKind.i64.wrap ((b : Int) - (m : Int)) = (v.length : Int) := by rw [IntKind.wrap_i64]; omega
  go_enter Tryz.func156, Tryz.ntmps156
  go_wp2_with fail
  go_loopw [10, 11] (fun vi vj wr => ∃ (i j a' : Nat) (P U V Q : List Int), vi = .int .i64 i ∧ vj = .int .i64 j ∧ P.length = off + a' ∧ a' + i = m ∧ U.length = i ∧ V.length = j ∧ 0 < i ∧ 0 < j ∧ m + j ≤ n ∧ Hid (P ++ (V ++ (U ++ Q)) = p ++ (v ++ (u ++ q))) ∧ Hid (RowC w0 base gb cap (P ++ (U ++ (V ++ Q))) wr)) (fun vi vj _ => (intOf vi).toNat + (intOf vj).toNat)
  case atStart => exact ⟨u.length, v.length, a, p, u, v, q, rfl, rfl, hp, hu, rfl, rfl, hu0, hv0, by omega, rfl, H⟩
  case round =>
    clear H ru rv
    obtain ⟨i, j, a', P, U, V, Q, rfl, rfl, hP, ha', hU, hV, hi0, hj0, hmj, HE, HR⟩ := hrel
    have rp : IntKind.i64.wrap ((m : Int) - (i : Int)) = (a' : Int) := by rw [IntKind.wrap_i64]; omega
    rcases Nat.lt_trichotomy j i with hlt | heq | hgt
    · have hz1 : ¬ (i : Int) = (j : Int) := by omega
      have hz2 : (j : Int) < (i : Int) := by omega
      have rq : IntKind.i64.wrap ((i : Int) - (j : Int)) = ((i - j : Nat) : Int) := by rw [IntKind.wrap_i64]; omega
      have e1 : P ++ (U ++ (V ++ Q)) = P ++ (U.take j ++ (U.drop j ++ (V ++ Q))) := by rw [← List.append_assoc (U.take j), List.take_append_drop]
      have hr := HR.out
      rw [e1] at hr
      have HR2 := Lib.hid hr
      have HE2 : Hid ((P ++ V) ++ (U.take j ++ (U.drop j ++ Q)) = p ++ (v ++ (u ++ q))) := by show _ = _; rw [← HE.out, ← List.append_assoc (U.take j), List.take_append_drop]; simp
      clear hr e1 HR HE
      go_wp2_with (go_at_call 178; refine (swapRange_any w0 base gb cap off n _ a' m j P (U.take j) (U.drop j) V Q _ _ HR2.out hP (by simp; omega) hV (by simp; omega) hmj hn).mono ?_; rintro e w' ⟨rfl, hw⟩)
      have hw2 : RowC w0 base gb cap ((P ++ V) ++ (U.drop j ++ (U.take j ++ Q))) w' := by simpa using hw
      go_roundw
      case measure => simp [intOf]; omega
      case rel => exact ⟨i - j, j, a' + j, P ++ V, U.drop j, U.take j, Q, rfl, rfl, by simp; omega, by omega, by simp; omega, by simp; omega, by omega, hj0, hmj, HE2, hw2⟩
    · subst heq
      go_wp2_with (go_at_call 178; refine (swapRange_any w0 base gb cap off n _ a' m j P U [] V Q _ _ (by simpa using HR.out) hP hU hV (by simp; omega) hmj hn).mono ?_; rintro e w' ⟨rfl, hw⟩)
      go_end0
      have hw2 : RowC w0 base gb cap (P ++ (V ++ (U ++ Q))) w' := by simpa using hw
      rw [HE.out] at hw2
      exact ⟨rfl, hw2⟩
    · have hz1 : ¬ (i : Int) = (j : Int) := by omega
      have hz2 : ¬ (j : Int) < (i : Int) := by omega
      have rq : IntKind.i64.wrap ((j : Int) - (i : Int)) = ((j - i : Nat) : Int) := by rw [IntKind.wrap_i64]; omega
      have rs : IntKind.i64.wrap ((m : Int) + (j : Int)) = (m : Int) + (j : Int) := by rw [IntKind.wrap_i64]; omega
      have rt : IntKind.i64.wrap ((m : Int) + (j : Int) - (i : Int)) = ((m + (j - i) : Nat) : Int) := by rw [IntKind.wrap_i64]; omega
      have e1 : P ++ (U ++ (V ++ Q)) = P ++ (U ++ (V.take (j - i) ++ (V.drop (j - i) ++ Q))) := by rw [← List.append_assoc (V.take (j - i)), List.take_append_drop]
      have hr := HR.out
      rw [e1] at hr
      have HR2 := Lib.hid hr
      have HE2 : Hid (P ++ (V.take (j - i) ++ (V.drop (j - i) ++ (U ++ Q))) = p ++ (v ++ (u ++ q))) := by show _ = _; rw [← HE.out, ← List.append_assoc (V.take (j - i)), List.take_append_drop]
      clear hr e1 HR HE
      go_wp2_with (go_at_call 178; refine (swapRange_any w0 base gb cap off n _ a' (m + (j - i)) i P U (V.take (j - i)) (V.drop (j - i)) Q _ _ HR2.out hP hU (by simp; omega) (by simp; omega) (by omega) hn).mono ?_; rintro e w' ⟨rfl, hw⟩)
      go_roundw
      case measure => simp [intOf]; omega
      case rel => exact ⟨i, j - i, a', P, V.drop (j - i), V.take (j - i), U ++ Q, rfl, rfl, hP, ha', by simp; omega, by simp; omega, hi0, by omega, by omega, HE2, hw⟩
end Go.Proofs.Pt
end

/- ==== the text W14 ==== -/
section
/- The walk of a stable merge of two parts of a row in place. -/
namespace Go.Proofs.Pt
open Go Go.RowKit Go.Proofs.YtjgdnhmbfeekoaaGreatDoorW.PrintWords

def MergePost (w0 : World) (base gb cap : Nat) (p u v q : List Int) (e : Ending) (w' : World) : Prop := e = .returned (.tuple #[]) ∧ ∃ u', Alike (u ++ v) u' ∧ Rise u' ∧ RowC w0 base gb cap (p ++ (u' ++ q)) w'
set_option maxHeartbeats 4000000 in
set_option maxRecDepth 100000 in
theorem symMerge_left (w0 : World) (base gb cap off n cv a m b : Nat) (p : List Int) (x : Int) (v q : List Int) (w : World) (h : RowC w0 base gb cap (p ++ (x :: (v ++ q))) w) (hu : AllM (x :: v)) (hs : Rise v) (hp : p.length = off + a) (hul : a + 1 = m) (hvl : m + v.length = b) (hb : b ≤ n) (hn : n < 17592186044416) :
    Calls Tryz.prog 122 #[.slice (some ⟨gb, off, none⟩) n cv, .int .i64 a, .int .i64 m, .int .i64 b, .func (.func 64) #[] #[]] w (MergePost w0 base gb cap p [x] v q) := by
  have H := Lib.hid h; clear h
  have HU := Lib.hid hu; clear hu
  have HS := Lib.hid hs; clear hs
  have ru : IntKind.i64.wrap ((m : Int) - (a : Int)) = 1 := by rw [IntKind.wrap_i64]; omega
  go_enter Tryz.func122, Tryz.ntmps122
  go_wp2_with fail
  go_loopw [10, 11] (fun vi vj wr => ∃ i j : Nat, vi = .int .i64 i ∧ vj = .int .i64 j ∧ m ≤ i ∧ i ≤ j ∧ j ≤ b ∧ Hid (∀ z ∈ v.take (i - m), ccc z < ccc x) ∧ Hid (∀ z ∈ v.drop (j - m), ccc x ≤ ccc z) ∧ Hid (RowC w0 base gb cap (p ++ (x :: (v ++ q))) wr)) (fun vi vj _ => (intOf vj).toNat - (intOf vi).toNat)
  case atStart => exact ⟨m, b, rfl, rfl, Nat.le_refl _, by omega, Nat.le_refl _, (show ∀ z ∈ v.take (m - m), _ from by simp), (show ∀ z ∈ v.drop (b - m), _ from by rw [List.drop_of_length_le (by omega)]; simp), H⟩
  case round =>
    clear H
    obtain ⟨i, j, rfl, rfl, hmi, hij, hj, H1, H2, HR⟩ := hrel
    by_cases hlt : i < j
    · obtain ⟨k, hk⟩ : ∃ k, k = (i + j) / 2 := ⟨_, rfl⟩
      have hk1 : i ≤ k := by omega
      have hk2 : k < j := by omega
      have rh : ((i : Int) + (j : Int)) / 2 = (k : Int) := by omega
      have hltz : (i : Int) < (j : Int) := by omega
      have hkn : (k : Int) < (n : Int) := by omega
      have han : (a : Int) < (n : Int) := by omega
      have hkm : k - m < v.length := by omega
      obtain ⟨y, hy⟩ : ∃ y, y = v.getD (k - m) 0 := ⟨_, rfl⟩
      have c1 : wr.cell? ⟨gb, off + k, none⟩ = some (.int .i64 y) := by
        rw [HR.out.cell (off + k) (by simp; omega), hy]
        congr 2
        rw [List.getD_eq_getElem?_getD, List.getD_eq_getElem?_getD, List.getElem?_append_right (by omega), show off + k - p.length = (k - m) + 1 by omega, List.getElem?_cons_succ, List.getElem?_append_left hkm]
      have c2 : wr.cell? ⟨gb, off + a, none⟩ = some (.int .i64 x) := by
        rw [HR.out.cell (off + a) (by simp; omega), getD_at p x _ _ hp]
      have hgb : gb < wr.heap.size := HR.out.lt
      have HY1 : Hid (ccc y < ccc x → ∀ z ∈ v.take (k + 1 - m), ccc z < ccc x) := by
        intro h z hz
        rw [show k + 1 - m = (k - m) + 1 by omega] at hz
        have := rise_take HS.out (k - m) hkm z hz
        rw [← hy] at this; omega
      have HY2 : Hid (ccc x ≤ ccc y → ∀ z ∈ v.drop (k - m), ccc x ≤ ccc z) := by
        intro h z hz
        have := rise_drop HS.out (k - m) hkm z hz
        rw [← hy] at this; omega
      clear hy hk
      go_wp2_with fail
      go_region_held3 (fun w' => w'.cell? ⟨gb, off + k, none⟩ = some (.int .i64 y) ∧ w'.cell? ⟨gb, off + a, none⟩ = some (.int .i64 x))
        (first | (exact ⟨c1, c2⟩) | (exact ⟨(hb'.cell (p := ⟨gb, off + k, none⟩) hgb).trans c1, (hb'.cell (p := ⟨gb, off + a, none⟩) hgb).trans c2⟩))
        (first | (go_at_call 64; refine (before_any _ _ _).mono ?_; rintro e w' ⟨rfl, hb'⟩))
      have HR2 : Hid (RowC w0 base gb cap (p ++ (x :: (v ++ q))) w') := HR.out.below ((pw_below_drewN (Below.refl _ _) 1).trans hb')
      clear c1 c2 hgb hb' HR
      cases hd : decide (cmpI (ccc y) (ccc x) < 0) with
      | true =>
        have HN := Lib.hid (HY1.out (cmpI_lt.1 (of_decide_eq_true hd)))
        clear HY1 HY2 hd
        go_wp2
        go_roundw
        case measure => simp [intOf]; omega
        case rel => exact ⟨k + 1, j, by go_num, rfl, by omega, by omega, hj, HN, H2, HR2⟩
      | false =>
        have HN := Lib.hid (HY2.out (Int.not_lt.1 fun h => of_decide_eq_false hd (cmpI_lt.2 h)))
        clear HY1 HY2 hd
        go_wp2
        go_roundw
        case measure => simp [intOf]; omega
        case rel => exact ⟨i, k, rfl, rfl, hmi, by omega, by omega, H1, HN, HR2⟩
    · obtain rfl : i = j := by omega
      obtain ⟨i', hi'⟩ : ∃ i', i = m + i' := ⟨i - m, by omega⟩
      have HP : Hid (Alike (x :: v) (v.take i' ++ x :: v.drop i') ∧ Rise (v.take i' ++ x :: v.drop i')) := put_left HU.out HS.out (by have := H1.out; rwa [hi', Nat.add_sub_cancel_left] at this) (by have := H2.out; rwa [hi', Nat.add_sub_cancel_left] at this)
      clear H1 H2
      have ri : IntKind.i64.wrap ((i : Int) - 1) = (i : Int) - 1 := by rw [IntKind.wrap_i64]; omega
      go_wp2_with fail
      go_loopw [13] (fun vk wr => ∃ k t : Nat, vk = .int .i64 k ∧ k = a + t ∧ t ≤ i' ∧ Hid (RowC w0 base gb cap (p ++ (v.take t ++ x :: (v.drop t ++ q))) wr)) (fun vk _ => b - (intOf vk).toNat)
      case atStart => exact ⟨a, 0, rfl, rfl, Nat.zero_le _, by simpa using HR⟩
      case round =>
        clear HR
        obtain ⟨k, t, rfl, hk, ht, HR⟩ := hrel
        by_cases hlt2 : t < i'
        · have hz : (k : Int) < (i : Int) - 1 := by omega
          obtain ⟨y, v2, hy⟩ : ∃ y v2, v.drop t = y :: v2 := ⟨v[t], v.drop (t + 1), List.drop_eq_getElem_cons (by omega)⟩
          have hsw : wr.cell? ⟨gb, off + k, none⟩ = some (.int .i64 x) ∧ wr.cell? ⟨gb, off + (k + 1), none⟩ = some (.int .i64 y) ∧ (∃ uu, (wr.setCell ⟨gb, off + k, none⟩ (.int .i64 y)).cell? ⟨gb, off + (k + 1), none⟩ = some uu) ∧
              wr.frozen? ⟨gb, off + k, none⟩ = false ∧ wr.frozen? ⟨gb, off + (k + 1), none⟩ = false ∧ RowC w0 base gb cap (p ++ (v.take (t + 1) ++ x :: (v.drop (t + 1) ++ q))) ((wr.setCell ⟨gb, off + k, none⟩ (.int .i64 y)).setCell ⟨gb, off + (k + 1), none⟩ (.int .i64 x)).drew := by
            have hz := HR.out
            rw [hy] at hz
            have e1 : p ++ (v.take t ++ x :: ((y :: v2) ++ q)) = (p ++ v.take t) ++ x :: ([] ++ y :: (v2 ++ q)) := by simp
            rw [e1] at hz
            have hlen : (p ++ v.take t).length = off + k := by simp; omega
            have g := hz.swapping (off + k) (off + (k + 1)) (by simp at hlen ⊢; omega) (by simp at hlen ⊢; omega)
            have v1 := getD_at (p ++ v.take t) x ([] ++ y :: (v2 ++ q)) (off + k) hlen
            have vv2 : ((p ++ v.take t) ++ x :: ([] ++ y :: (v2 ++ q))).getD (off + (k + 1)) 0 = y := by
              have := getD_at ((p ++ v.take t) ++ [x]) y (v2 ++ q) (off + (k + 1)) (by simp at hlen ⊢; omega)
              simpa using this
            have z1 : v.take (t + 1) = v.take t ++ [y] := by rw [List.take_add, hy]; rfl
            have z3 : v.drop (t + 1) = v2 := by rw [← List.drop_drop, hy]; rfl
            have v3 : sw ((p ++ v.take t) ++ x :: ([] ++ y :: (v2 ++ q))) (off + k) (off + (k + 1)) = p ++ (v.take (t + 1) ++ x :: (v.drop (t + 1) ++ q)) := by
              have := sw_split (p ++ v.take t) [] (v2 ++ q) x y
              rw [hlen] at this
              rw [show off + (k + 1) = off + k + 1 + ([] : List Int).length from rfl, this, z1, z3]; simp
            rw [v1, vv2, v3] at g
            exact g
          obtain ⟨g1, g2, ⟨uu, g3⟩, g4, g5, g6⟩ := hsw
          have G := Lib.hid g6
          clear g6 hy HR
          have ea : ((k : Int) + 1).toNat = k + 1 := by omega
          have pa : (0 : Int) ≤ (k : Int) + 1 := by omega
          have ba : (k : Int) + 1 < (n : Int) := by omega
          have bb : (k : Int) < (n : Int) := by omega
          have ra : IntKind.i64.wrap ((k : Int) + 1) = (k : Int) + 1 := by rw [IntKind.wrap_i64]; omega
          have HK := Lib.hid hk; clear hk
          go_wp2_with fail
          go_big_region
          clear g1 g2 g3 g4 g5
          generalize ((wr.setCell ⟨gb, off + k, none⟩ (Value.int IntKind.i64 y)).setCell ⟨gb, off + (k + 1), none⟩ (Value.int IntKind.i64 x)).drew = w3 at G ⊢
          go_wp2
          go_roundw
          case measure => simp [intOf]; omega
          case rel => exact ⟨k + 1, t + 1, by go_num, by rw [HK.out]; omega, by omega, G⟩
        · obtain rfl : t = i' := by omega
          have hz : ¬ (k : Int) < (i : Int) - 1 := by omega
          go_wp2
          go_end0
          exact ⟨rfl, v.take t ++ x :: v.drop t, HP.out.1, HP.out.2, by simpa using HR.out⟩

set_option maxHeartbeats 4000000 in
set_option maxRecDepth 100000 in
theorem symMerge_right (w0 : World) (base gb cap off n cv a m b : Nat) (p u : List Int) (y : Int) (q : List Int) (w : World) (h : RowC w0 base gb cap (p ++ (u ++ (y :: q))) w) (hu : AllM (u ++ [y])) (hs : Rise u) (hp : p.length = off + a) (hul : a + u.length = m) (hu1 : u.length ≠ 1) (hvl : m + 1 = b) (hb : b ≤ n) (hn : n < 17592186044416) :
    Calls Tryz.prog 122 #[.slice (some ⟨gb, off, none⟩) n cv, .int .i64 a, .int .i64 m, .int .i64 b, .func (.func 64) #[] #[]] w (MergePost w0 base gb cap p u [y] q) := by
  have H := Lib.hid h; clear h
  have HU := Lib.hid hu; clear hu
  have HS := Lib.hid hs; clear hs
  have ru : IntKind.i64.wrap ((m : Int) - (a : Int)) = (u.length : Int) := by rw [IntKind.wrap_i64]; omega
  have rv : IntKind.i64.wrap ((b : Int) - (m : Int)) = 1 := by rw [IntKind.wrap_i64]; omega
  have hu2 : ((u.length : Int) == 1) = false := by simpa using (by omega : ¬ (u.length : Int) = 1)
  go_enter Tryz.func122, Tryz.ntmps122
  go_wp2_with fail
  go_loopw [14, 15] (fun vi vj wr => ∃ i j : Nat, vi = .int .i64 i ∧ vj = .int .i64 j ∧ a ≤ i ∧ i ≤ j ∧ j ≤ m ∧ Hid (∀ z ∈ u.take (i - a), ccc z ≤ ccc y) ∧ Hid (∀ z ∈ u.drop (j - a), ccc y < ccc z) ∧ Hid (RowC w0 base gb cap (p ++ (u ++ (y :: q))) wr)) (fun vi vj _ => (intOf vj).toNat - (intOf vi).toNat)
  case atStart => exact ⟨a, m, rfl, rfl, Nat.le_refl _, by omega, Nat.le_refl _, (show ∀ z ∈ u.take (a - a), _ from by simp), (show ∀ z ∈ u.drop (m - a), _ from by rw [List.drop_of_length_le (by omega)]; simp), H⟩
  case round =>
    clear H
    obtain ⟨i, j, rfl, rfl, hmi, hij, hj, H1, H2, HR⟩ := hrel
    by_cases hlt : i < j
    · obtain ⟨k, hk⟩ : ∃ k, k = (i + j) / 2 := ⟨_, rfl⟩
      have hk1 : i ≤ k := by omega
      have hk2 : k < j := by omega
      have rh : ((i : Int) + (j : Int)) / 2 = (k : Int) := by omega
      have hltz : (i : Int) < (j : Int) := by omega
      have hkn : (k : Int) < (n : Int) := by omega
      have hmn : (m : Int) < (n : Int) := by omega
      have hkm : k - a < u.length := by omega
      obtain ⟨x, hx⟩ : ∃ x, x = u.getD (k - a) 0 := ⟨_, rfl⟩
      have c1 : wr.cell? ⟨gb, off + k, none⟩ = some (.int .i64 x) := by
        rw [HR.out.cell (off + k) (by simp; omega), hx]
        congr 2
        rw [List.getD_eq_getElem?_getD, List.getD_eq_getElem?_getD, List.getElem?_append_right (by omega), show off + k - p.length = k - a by omega, List.getElem?_append_left hkm]
      have c2 : wr.cell? ⟨gb, off + m, none⟩ = some (.int .i64 y) := by
        rw [HR.out.cell (off + m) (by simp; omega)]
        have := getD_at (p ++ u) y q (off + m) (by simp; omega)
        rw [List.append_assoc] at this
        rw [this]
      have hgb : gb < wr.heap.size := HR.out.lt
      have HY1 : Hid (ccc x ≤ ccc y → ∀ z ∈ u.take (k + 1 - a), ccc z ≤ ccc y) := by
        intro h z hz
        rw [show k + 1 - a = (k - a) + 1 by omega] at hz
        have := rise_take HS.out (k - a) hkm z hz
        rw [← hx] at this; omega
      have HY2 : Hid (ccc y < ccc x → ∀ z ∈ u.drop (k - a), ccc y < ccc z) := by
        intro h z hz
        have := rise_drop HS.out (k - a) hkm z hz
        rw [← hx] at this; omega
      clear hx hk
      go_wp2_with fail
      go_region_held3 (fun w' => w'.cell? ⟨gb, off + k, none⟩ = some (.int .i64 x) ∧ w'.cell? ⟨gb, off + m, none⟩ = some (.int .i64 y))
        (first | (exact ⟨c1, c2⟩) | (exact ⟨(hb'.cell (p := ⟨gb, off + k, none⟩) hgb).trans c1, (hb'.cell (p := ⟨gb, off + m, none⟩) hgb).trans c2⟩))
        (first | (go_at_call 64; refine (before_any _ _ _).mono ?_; rintro e w' ⟨rfl, hb'⟩))
      have HR2 : Hid (RowC w0 base gb cap (p ++ (u ++ (y :: q))) w') := HR.out.below ((pw_below_drewN (Below.refl _ _) 1).trans hb')
      clear c1 c2 hgb hb' HR
      cases hd : decide (cmpI (ccc y) (ccc x) < 0) with
      | true =>
        have HN := Lib.hid (HY2.out (cmpI_lt.1 (of_decide_eq_true hd)))
        clear HY1 HY2 hd
        go_wp2
        go_roundw
        case measure => simp [intOf]; omega
        case rel => exact ⟨i, k, rfl, rfl, hmi, by omega, by omega, H1, HN, HR2⟩
      | false =>
        have HN := Lib.hid (HY1.out (Int.not_lt.1 fun h => of_decide_eq_false hd (cmpI_lt.2 h)))
        clear HY1 HY2 hd
        go_wp2
        go_roundw
        case measure => simp [intOf]; omega
        case rel => exact ⟨k + 1, j, by go_num, rfl, by omega, by omega, hj, HN, H2, HR2⟩
    · obtain rfl : i = j := by omega
      obtain ⟨i', hi'⟩ : ∃ i', i = a + i' := ⟨i - a, by omega⟩
      have HP : Hid (Alike (u ++ [y]) (u.take i' ++ y :: u.drop i') ∧ Rise (u.take i' ++ y :: u.drop i')) := put_right HU.out HS.out (by have := H1.out; rwa [hi', Nat.add_sub_cancel_left] at this) (by have := H2.out; rwa [hi', Nat.add_sub_cancel_left] at this)
      clear H1 H2
      go_wp2_with fail
      go_loopw [17] (fun vk wr => ∃ k t : Nat, vk = .int .i64 k ∧ k = a + t ∧ i' ≤ t ∧ t ≤ u.length ∧ Hid (RowC w0 base gb cap (p ++ (u.take t ++ y :: (u.drop t ++ q))) wr)) (fun vk _ => (intOf vk).toNat)
      case atStart => exact ⟨m, u.length, rfl, by omega, by omega, Nat.le_refl _, by simpa using HR⟩
      case round =>
        clear HR
        obtain ⟨k, t, rfl, hk, ht, ht2, HR⟩ := hrel
        by_cases hlt2 : i' < t
        · obtain ⟨k, rfl⟩ : ∃ k', k = k' + 1 := ⟨k - 1, by omega⟩
          obtain ⟨t, rfl⟩ : ∃ t', t = t' + 1 := ⟨t - 1, by omega⟩
          have hz : (i : Int) < (k : Int) + 1 := by omega
          obtain ⟨x, u2, hx⟩ : ∃ x u2, u.drop t = x :: u2 := ⟨u[t], u.drop (t + 1), List.drop_eq_getElem_cons (by omega)⟩
          have hsw : wr.cell? ⟨gb, off + (k + 1), none⟩ = some (.int .i64 y) ∧ wr.cell? ⟨gb, off + k, none⟩ = some (.int .i64 x) ∧ (∃ uu, (wr.setCell ⟨gb, off + (k + 1), none⟩ (.int .i64 x)).cell? ⟨gb, off + k, none⟩ = some uu) ∧
              wr.frozen? ⟨gb, off + (k + 1), none⟩ = false ∧ wr.frozen? ⟨gb, off + k, none⟩ = false ∧ RowC w0 base gb cap (p ++ (u.take t ++ y :: (u.drop t ++ q))) ((wr.setCell ⟨gb, off + (k + 1), none⟩ (.int .i64 x)).setCell ⟨gb, off + k, none⟩ (.int .i64 y)).drew := by
            have hz := HR.out
            have z1 : u.take (t + 1) = u.take t ++ [x] := by rw [List.take_add, hx]; rfl
            have z3 : u.drop (t + 1) = u2 := by rw [← List.drop_drop, hx]; rfl
            rw [z1, z3] at hz
            have e1 : p ++ ((u.take t ++ [x]) ++ y :: (u2 ++ q)) = (p ++ u.take t) ++ x :: ([] ++ y :: (u2 ++ q)) := by simp
            rw [e1] at hz
            have hlen : (p ++ u.take t).length = off + k := by simp; omega
            have g := hz.swapping (off + (k + 1)) (off + k) (by simp at hlen ⊢; omega) (by simp at hlen ⊢; omega)
            have v1 := getD_at (p ++ u.take t) x ([] ++ y :: (u2 ++ q)) (off + k) hlen
            have vv2 : ((p ++ u.take t) ++ x :: ([] ++ y :: (u2 ++ q))).getD (off + (k + 1)) 0 = y := by
              have := getD_at ((p ++ u.take t) ++ [x]) y (u2 ++ q) (off + (k + 1)) (by simp at hlen ⊢; omega)
              simpa using this
            have v3 : sw ((p ++ u.take t) ++ x :: ([] ++ y :: (u2 ++ q))) (off + (k + 1)) (off + k) = p ++ (u.take t ++ y :: (u.drop t ++ q)) := by
              have := sw_split' (p ++ u.take t) [] (u2 ++ q) x y
              rw [hlen] at this
              rw [show off + (k + 1) = off + k + 1 + ([] : List Int).length from rfl, this, hx]; simp
            rw [v1, vv2, v3] at g
            exact g
          obtain ⟨g1, g2, ⟨uu, g3⟩, g4, g5, g6⟩ := hsw
          have G := Lib.hid g6
          clear g6 hx HR
          have ea : ((k : Int) + 1).toNat = k + 1 := by omega
          have pa : (0 : Int) ≤ (k : Int) + 1 := by omega
          have ba : (k : Int) + 1 < (n : Int) := by omega
          have bb : (k : Int) < (n : Int) := by omega
          have ra : IntKind.i64.wrap ((k : Int) + 1) = (k : Int) + 1 := by rw [IntKind.wrap_i64]; omega
          have rb : IntKind.i64.wrap (k : Int) = (k : Int) := by rw [IntKind.wrap_i64]; omega
          have HK := Lib.hid hk; clear hk
          go_wp2_with fail
          go_big_region
          clear g1 g2 g3 g4 g5
          generalize ((wr.setCell ⟨gb, off + (k + 1), none⟩ (Value.int IntKind.i64 x)).setCell ⟨gb, off + k, none⟩ (Value.int IntKind.i64 y)).drew = w3 at G ⊢
          go_wp2
          go_roundw
          case measure => simp [intOf]
          case rel => exact ⟨k, t, by first | rfl | go_num, by have := HK.out; omega, by omega, by omega, G⟩
        · obtain rfl : t = i' := by omega
          have hz : ¬ (i : Int) < (k : Int) := by omega
          go_wp2
          go_end0
          exact ⟨rfl, u.take t ++ y :: u.drop t, HP.out.1, HP.out.2, by simpa using HR.out⟩
end Go.Proofs.Pt
end

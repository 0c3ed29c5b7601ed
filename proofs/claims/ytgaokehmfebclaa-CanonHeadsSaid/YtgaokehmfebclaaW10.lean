/- The walk of package canon's Compose: values put together. -/
import Derived.Test.YtgaokehmfebclaaM4
import Derived.Test.YtgaokehmfebclaaW9
import Derived.Deep.LoopGhost
namespace Go.Proofs.Pt
open Go Go.RowKit Go.Proofs.YtgaokehmfebclaaW.PrintWords

/-- The program's three variables tell the fold's state. -/
structure Tells (s : CS) (p : List Int × Int × Int) : Prop where
  out : p.1 = s.out
  none_ : s.hd = none → p.2.1 = -1
  some_ : ∀ h, s.hd = some h → p.2.1 = s.pre.length
  last : s.hd ≠ none → ∀ x, s.tl.getLast? = some x → p.2.2 = ccc x
theorem tells_init : Tells cinit ([], -1, 0) := ⟨rfl, fun _ => rfl, fun h e => (by cases e), fun h => absurd rfl h⟩
theorem Tells.push {s : CS} {xs : List Int} {head last : Int} (h : Tells s (xs, head, last)) (r : Int) : Tells (s.push r) (appP xs head r) := by
  unfold CS.push appP
  have ho := h.out
  simp only at ho
  by_cases hc : ccc r = 0
  · rw [if_pos hc, if_pos hc]
    exact ⟨by simp [CS.out, ho], fun e => (by cases e), fun a e => by simp [ho], fun _ x e => by simp at e⟩
  · rw [if_neg hc, if_neg hc]
    exact ⟨by simp [CS.out, ho], h.none_, h.some_, fun _ x e => by simp at e; rw [e]⟩
theorem Tells.step {s : CS} {xs : List Int} {head last : Int} (h : Tells s (xs, head, last)) (r : Int) : Tells (s.step r) (putP xs head last r) := by
  have ho := h.out
  simp only at ho
  unfold putP CS.step CS.joins
  cases eh : s.hd with
  | none =>
    have := h.none_ eh
    simp only at this
    have e : opensP xs.length head last (ccc r) = false := by unfold opensP; simp [this]
    rw [e]
    exact h.push r
  | some a =>
    have h1 := h.some_ a eh
    have h2 := h.last (by rw [eh]; simp)
    simp only at h1 h2
    have hl : xs.length = s.pre.length + (s.tl.length + 1) := by rw [ho]; simp [CS.out, eh]
    have e : opensP xs.length head last (ccc r) = s.opens (ccc r) := by
      unfold opensP CS.opens
      have e1 : decide (0 ≤ head) = true := decide_eq_true (by omega)
      rw [e1, Bool.true_and]
      cases et : s.tl.getLast? with
      | none =>
        rw [List.getLast?_eq_none_iff] at et
        rw [et] at hl
        simp at hl
        have e3 : head = (xs.length : Int) - 1 := by omega
        rw [e3]
        simp
      | some x =>
        have ht : s.tl ≠ [] := by intro e; rw [e] at et; simp at et
        have hlen : 0 < s.tl.length := List.length_pos_iff.2 ht
        rw [h2 x et]
        have : ¬ head = (xs.length : Int) - 1 := by omega
        simp [this]
    have hx : rd xs head = a := by
      unfold rd
      rw [h1, ho]
      simp [CS.out, eh, List.getD_eq_getElem?_getD]
    rw [e, hx]
    cases hop : s.opens (ccc r) with
    | false => simp; exact h.push r
    | true =>
      simp only [if_true]
      cases hj : join a r with
      | none => exact h.push r
      | some v =>
        refine ⟨?_, fun e => (by cases e), fun b e => h1, fun _ => h2⟩
        show xs.set head.toNat v = _
        rw [ho, h1]
        simp [CS.out, eh]
def putsP (p : List Int × Int × Int) : List Int → List Int × Int × Int
  | [] => p
  | r :: l => putsP (putP p.1 p.2.1 p.2.2 r) l
theorem Tells.run (l : List Int) : ∀ {s : CS} {p : List Int × Int × Int}, Tells s p → Tells (s.run l) (putsP p l) := by
  induction l with
  | nil => intro s p h; exact h
  | cons r l ih => intro s p h; obtain ⟨a, b, c⟩ := p; rw [CS.run_cons]; exact ih (h.step r)
theorem putsP_compose (l : List Int) : (putsP ([], -1, 0) l).1 = compose l := (Tells.run l tells_init).out
theorem putsP_snoc (l : List Int) (r : Int) : ∀ p, putsP p (l ++ [r]) = putP (putsP p l).1 (putsP p l).2.1 (putsP p l).2.2 r := by
  induction l with
  | nil => intro p; rfl
  | cons x l ih => intro p; exact ih _
theorem putsP_len (l : List Int) : (putsP ([], -1, 0) l).1.length ≤ l.length ∧ (putsP ([], -1, 0) l).2.1 < (putsP ([], -1, 0) l).1.length := by
  have h := Tells.run l tells_init
  refine ⟨by rw [putsP_compose]; exact compose_length l, ?_⟩
  rw [h.out]
  cases e : (cinit.run l).hd with
  | none => rw [h.none_ e]; omega
  | some a => rw [h.some_ a e]; simp [CS.out, e]; omega

def canon_Compose.f (l0 : List Int) : Option (List Int) := if l0.length < 17592186044416 then some (compose l0) else none
set_option maxHeartbeats 1000000 in
theorem canon_Compose.calls (A0 : Option Addr) (c0 : Nat) (l0 : List Int) (r : List Int) (w : World) (hr0 : Kd.C (Kd.int .i64) w A0 l0.length l0) (_hc0 : l0.length ≤ c0) (h : canon_Compose.f l0 = some r) :
    Calls Try.prog 14 #[.slice A0 l0.length c0] w fun e w' => ∃ v0_ : Value, e = .returned (v0_) ∧ Kd.R (Kd.int .i64) 3 w' w.heap.size (fun _ => True) v0_ r ∧ Below w.heap.size w w' := by
  unfold canon_Compose.f at h
  split at h
  case isFalse => cases h
  rename_i hlen
  cases h
  have HR := Lib.hid hr0; clear hr0
  have HL := Lib.hid hlen; clear hlen
  go_enter Try.func14, Try.ntmps14
  go_wp2_with fail
  have hs : CompAt (w.alloc (Obj.cells #[Value.slice none 0 0, Value.int .i64 (-1), Value.int .i64 0] 49)) w.heap.size w.heap.size (.slice none 0 0) [] (-1) 0 := ⟨by simpa using heap_alloc_new w _, own_nil _ _ _ _, Nat.le_refl _⟩
  have HS := Lib.hid hs; clear hs
  have HB0 : Hid (Below w.heap.size w (w.alloc (Obj.cells #[Value.slice none 0 0, Value.int .i64 (-1), Value.int .i64 0] 49))) := (Below.refl _ _).alloc (Nat.le_refl _) _
  generalize w.alloc (Obj.cells #[Value.slice none 0 0, Value.int .i64 (-1), Value.int .i64 0] 49) = w1 at HS HB0 ⊢
  go_loopw [5, 9] (fun _ i wr => ∃ k : Nat, k ≤ l0.length ∧ i = .int .i64 k ∧ Hid (∃ v, CompAt wr w.heap.size w.heap.size v (putsP ([], -1, 0) (l0.take k)).1 (putsP ([], -1, 0) (l0.take k)).2.1 (putsP ([], -1, 0) (l0.take k)).2.2) ∧ Hid (Below w.heap.size w wr)) (fun _ i _ => l0.length - (intOf i).toNat)
  case atStart => exact ⟨0, Nat.zero_le _, rfl, ⟨_, HS.out⟩, HB0.out⟩
  case round =>
    obtain ⟨k, hk, rfl, HC, HB⟩ := hrel
    clear HS HB0
    by_cases hlt : k < l0.length
    · obtain ⟨ad, e, hcell⟩ := Kd.at_int HR.out k (by omega) (by omega)
      subst e
      have hcell2 : wr.cell? (ad.add k) = some (.int .i64 (rd l0 k)) := (HB.out.cell (World.block_lt_of_cell? w _ hcell)).trans hcell
      clear hcell
      obtain ⟨v, hC⟩ := HC.out
      have hkz : (k : Int) < (l0.length : Int) := by omega
      have hlz : (l0.length : Int) < 17592186044416 := by have := HL.out; omega
      have hp := putsP_len (l0.take k)
      have hsn : putsP ([], -1, 0) (l0.take (k + 1)) = putP (putsP ([], -1, 0) (l0.take k)).1 (putsP ([], -1, 0) (l0.take k)).2.1 (putsP ([], -1, 0) (l0.take k)).2.2 (rd l0 k) := by
        rw [List.take_succ_eq_append_getElem hlt, putsP_snoc]
        congr 1
        simp [rd, List.getD_eq_getElem?_getD, List.getElem?_eq_getElem hlt]
      have hp1 : (putsP ([], -1, 0) (l0.take k)).1.length < 17592186044416 := by have h1 := hp.1; have h2 := List.length_take_le k l0; omega
      have hp2 := hp.2
      have HS := Lib.hid hsn; clear hsn hp HC
      generalize putsP ([], -1, 0) (l0.take k) = p at hC hp1 hp2 HS
      have HC := Lib.hid hC; have HP1 := Lib.hid hp1; have HP2 := Lib.hid hp2; clear hC hp1 hp2
      go_wp2_with (go_at_call 24; refine (put_any _ _ _ _ _ _ _ _ HC.out HP1.out HP2.out).mono ?_; rintro e w' ⟨rfl, hc', hb'⟩)
      go_roundw
      case measure => simp [intOf]; omega
      case rel => exact ⟨k + 1, by omega, by go_num, by rw [HS.out]; exact hc', HB.out.trans hb'⟩
    · obtain rfl : k = l0.length := by omega
      obtain ⟨v, hC⟩ := HC.out
      rw [List.take_length] at hC
      have hv := hC.cells.1
      have hown := hC.own
      rw [putsP_compose] at hown
      have HO := Lib.hid hown; clear hown hC HC
      go_wp2
      go_ret
      exact ⟨_, rfl, Kd.R_of_own (enc := Value.int .i64) (h1 := fun _ => rfl) HO.out (fun _ _ => trivial), HB.out⟩
end Go.Proofs.Pt

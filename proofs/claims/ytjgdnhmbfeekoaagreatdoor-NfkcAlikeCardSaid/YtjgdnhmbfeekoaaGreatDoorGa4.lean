/- Lemmas and walks that the claims of this seat share: several texts, joined. -/
import Derived.Test.YtjgdnhmbfeekoaaGreatDoorGa3
/- ==== the text W15 ==== -/
section
/- The walk of a stable merge of two parts of a row in place: the whole, by the number of values. -/
namespace Go.Proofs.Pt
open Go Go.RowKit Go.Proofs.YtjgdnhmbfeekoaaGreatDoorW.PrintWords

def MergeTo (N : Nat) (w0 : World) (base gb cap off n cv : Nat) : Prop :=
  ∀ (a m b : Nat) (p u v q : List Int) (w : World), (u ++ v).length ≤ N → RowC w0 base gb cap (p ++ (u ++ (v ++ q))) w → AllM (u ++ v) → Rise u → Rise v → p.length = off + a → a + u.length = m → m + v.length = b → 0 < u.length → 0 < v.length → b ≤ n → n < 17592186044416 →
    Calls Tryz.prog 122 #[.slice (some ⟨gb, off, none⟩) n cv, .int .i64 a, .int .i64 m, .int .i64 b, .func (.func 64) #[] #[]] w (MergePost w0 base gb cap p u v q)
set_option maxHeartbeats 16000000 in
set_option maxRecDepth 100000 in
theorem symMerge_step (N : Nat) (w0 : World) (base gb cap off n cv : Nat) (IH : MergeTo N w0 base gb cap off n cv) (a m b : Nat) (p u v q : List Int) (w : World) (hN : (u ++ v).length ≤ N + 1) (h : RowC w0 base gb cap (p ++ (u ++ (v ++ q))) w) (hu : AllM (u ++ v)) (hr : Rise u) (hs : Rise v) (hp : p.length = off + a) (hul : a + u.length = m) (hvl : m + v.length = b) (hu1 : 1 < u.length) (hv1 : 1 < v.length) (hb : b ≤ n) (hn : n < 17592186044416) :
    Calls Tryz.prog 122 #[.slice (some ⟨gb, off, none⟩) n cv, .int .i64 a, .int .i64 m, .int .i64 b, .func (.func 64) #[] #[]] w (MergePost w0 base gb cap p u v q) := by
  have H := Lib.hid h; clear h
  have HU := Lib.hid hu; clear hu
  have HR1 := Lib.hid hr; clear hr
  have HS1 := Lib.hid hs; clear hs
  have ru : IntKind.i64.wrap ((m : Int) - (a : Int)) = (u.length : Int) := by rw [IntKind.wrap_i64]; omega
  have rv : IntKind.i64.wrap ((b : Int) - (m : Int)) = (v.length : Int) := by rw [IntKind.wrap_i64]; omega
  have hu2 : ((u.length : Int) == 1) = false := by simpa using (by omega : ¬ (u.length : Int) = 1)
  have hv2 : ((v.length : Int) == 1) = false := by simpa using (by omega : ¬ (v.length : Int) = 1)
  obtain ⟨mid, hmid⟩ : ∃ mid, mid = (a + b) / 2 := ⟨_, rfl⟩
  have rmid : ((a : Int) + (b : Int)) / 2 = (mid : Int) := by omega
  have rn : IntKind.i64.wrap ((mid : Int) + (m : Int)) = (mid : Int) + (m : Int) := by rw [IntKind.wrap_i64]; omega
  obtain ⟨pn, hpn⟩ : ∃ pn, pn + 1 = mid + m := ⟨mid + m - 1, by omega⟩
  have rp : IntKind.i64.wrap ((mid : Int) + (m : Int) - 1) = (pn : Int) := by rw [IntKind.wrap_i64]; omega
  have HM := Lib.hid hmid; clear hmid
  have HPN := Lib.hid hpn; clear hpn
  by_cases hway0 : mid < m
  · have hway : (mid : Int) < (m : Int) := by omega
    obtain ⟨s0, hs0⟩ : ∃ s0, s0 + b = mid + m := ⟨mid + m - b, by have := HM.out; omega⟩
    have rs0 : IntKind.i64.wrap ((mid : Int) + (m : Int) - (b : Int)) = (s0 : Int) := by rw [IntKind.wrap_i64]; omega
    obtain ⟨r0, hr0⟩ : ∃ r0, r0 = mid := ⟨_, rfl⟩
    have HC1 : Hid (s0 = a ∨ mid + m = s0 + b) := .inr hs0.symm
    have HC2 : Hid (r0 = m ∨ mid = r0) := .inr hr0.symm
    have hb1 : a ≤ s0 ∧ s0 ≤ r0 ∧ r0 ≤ m ∧ r0 ≤ mid ∧ mid + m ≤ s0 + b := by have := HM.out; omega
    go_enter Tryz.func122, Tryz.ntmps122
    go_wp2_with fail
    go_loopw [20, 21] (fun vi vj wr => ∃ i j : Nat, vi = .int .i64 i ∧ vj = .int .i64 j ∧ s0 ≤ i ∧ i ≤ j ∧ j ≤ r0 ∧ Hid (i = s0 ∨ ccc (u.getD (i - a - 1) 0) ≤ ccc (v.getD (mid - i) 0)) ∧ Hid (j = r0 ∨ ccc (v.getD (mid - j - 1) 0) < ccc (u.getD (j - a) 0)) ∧ Hid (RowC w0 base gb cap (p ++ (u ++ (v ++ q))) wr)) (fun vi vj _ => (intOf vj).toNat - (intOf vi).toNat)
    case atStart => exact ⟨s0, r0, rfl, by rw [hr0], Nat.le_refl _, hb1.2.1, Nat.le_refl _, .inl rfl, .inl rfl, H⟩
    case round =>
      clear H
      obtain ⟨i, j, rfl, rfl, hsi, hij, hjr, H1, H2, HR⟩ := hrel
      by_cases hlt : i < j
      · obtain ⟨c, hc⟩ : ∃ c, c = (i + j) / 2 := ⟨_, rfl⟩
        have hc1 : i ≤ c := by omega
        have hc2 : c < j := by omega
        have rh : ((i : Int) + (j : Int)) / 2 = (c : Int) := by omega
        have hltz : (i : Int) < (j : Int) := by omega
        have hcn : (c : Int) < (n : Int) := by omega
        obtain ⟨d, hd⟩ : ∃ d, d = pn - c := ⟨_, rfl⟩
        have hpn := HPN.out
        have hdc : d + c = pn := by omega
        have rd_ : IntKind.i64.wrap ((pn : Int) - (c : Int)) = (d : Int) := by rw [IntKind.wrap_i64]; omega
        have hdn : (d : Int) < (n : Int) := by omega
        have hdm : d - m < v.length := by omega
        have hca : c - a < u.length := by omega
        obtain ⟨x, hx⟩ : ∃ x, x = u.getD (c - a) 0 := ⟨_, rfl⟩
        obtain ⟨y, hy⟩ : ∃ y, y = v.getD (d - m) 0 := ⟨_, rfl⟩
        have c1 : wr.cell? ⟨gb, off + c, none⟩ = some (.int .i64 x) := by
          rw [HR.out.cell (off + c) (by simp; omega), hx]
          congr 2
          rw [List.getD_eq_getElem?_getD, List.getD_eq_getElem?_getD, List.getElem?_append_right (by omega), show off + c - p.length = c - a by omega, List.getElem?_append_left hca]
        have c2 : wr.cell? ⟨gb, off + d, none⟩ = some (.int .i64 y) := by
          rw [HR.out.cell (off + d) (by simp; omega), hy]
          congr 2
          rw [List.getD_eq_getElem?_getD, List.getD_eq_getElem?_getD, List.getElem?_append_right (by omega), List.getElem?_append_right (by omega), show off + d - p.length - u.length = d - m by omega, List.getElem?_append_left hdm]
        have hgb : gb < wr.heap.size := HR.out.lt
        have HX1 : Hid (ccc x ≤ ccc y → ccc (u.getD (c + 1 - a - 1) 0) ≤ ccc (v.getD (mid - (c + 1)) 0)) := by
          intro h
          rw [show c + 1 - a - 1 = c - a by omega, show mid - (c + 1) = d - m by omega, ← hx, ← hy]; exact h
        have HX2 : Hid (ccc y < ccc x → ccc (v.getD (mid - c - 1) 0) < ccc (u.getD (c - a) 0)) := by
          intro h
          rw [show mid - c - 1 = d - m by omega, ← hx, ← hy]; exact h
        clear hx hy hc hd hpn hdc
        go_wp2_with fail
        go_region_held3 (fun w' => w'.cell? ⟨gb, off + c, none⟩ = some (.int .i64 x) ∧ w'.cell? ⟨gb, off + d, none⟩ = some (.int .i64 y))
          (first | (exact ⟨c1, c2⟩) | (exact ⟨(hb'.cell (p := ⟨gb, off + c, none⟩) hgb).trans c1, (hb'.cell (p := ⟨gb, off + d, none⟩) hgb).trans c2⟩))
          (first | (go_at_call 64; refine (before_any _ _ _).mono ?_; rintro e w' ⟨rfl, hb'⟩))
        have HR2 : Hid (RowC w0 base gb cap (p ++ (u ++ (v ++ q))) w') := HR.out.below ((pw_below_drewN (Below.refl _ _) 1).trans hb')
        clear c1 c2 hgb hb' HR
        cases hd : decide (cmpI (ccc y) (ccc x) < 0) with
        | true =>
          have HN := Lib.hid (HX2.out (cmpI_lt.1 (of_decide_eq_true hd)))
          clear HX1 HX2 hd
          go_wp2
          go_roundw
          case measure => simp [intOf]; omega
          case rel => exact ⟨i, c, rfl, rfl, hsi, by omega, by omega, H1, .inr HN.out, HR2⟩
        | false =>
          have HN := Lib.hid (HX1.out (Int.not_lt.1 fun h => of_decide_eq_false hd (cmpI_lt.2 h)))
          clear HX1 HX2 hd
          go_wp2
          go_roundw
          case measure => simp [intOf]; omega
          case rel => exact ⟨c + 1, j, by go_num, rfl, by omega, by omega, hjr, .inr HN.out, H2, HR2⟩
      · obtain rfl : i = j := by omega
        obtain ⟨g, hg⟩ : ∃ g, i = a + g := ⟨i - a, by omega⟩
        obtain ⟨f, hf⟩ : ∃ f, mid = i + f := ⟨mid - i, by omega⟩
        obtain ⟨en, hen⟩ : ∃ en, en = m + f := ⟨_, rfl⟩
        have hm0 := HM.out
        have hgl : g ≤ u.length := by omega
        have hfl : f ≤ v.length := by omega
        have hfound := merge_found HR1.out HS1.out g f hgl hfl
          (by have c1 := HC1.out; rcases H1.out with h | h
              · rcases c1 with k | k
                · exact .inl (by omega)
                · exact .inr (.inl (by omega))
              · exact .inr (.inr (by rw [show i - a - 1 = g - 1 by omega, show mid - i = f by omega] at h; exact h)))
          (by have c2 := HC2.out; rcases H2.out with h | h
              · rcases c2 with k | k
                · exact .inl (by omega)
                · exact .inr (.inl (by omega))
              · exact .inr (.inr (by rw [show mid - i - 1 = f - 1 by omega, show i - a = g by omega] at h; exact h)))
        have HCUT : Hid (∀ l r, Alike (u.take g ++ v.take f) l → Alike (u.drop g ++ v.drop f) r → Rise l → Rise r → Alike (u ++ v) (l ++ r) ∧ Rise (l ++ r)) := fun l r h1 h2 h3 h4 => merge_cut HU.out HR1.out HS1.out hfound.1 hfound.2 h1 h2 h3 h4
        have ML : Hid (AllM (u.take g ++ v.take f)) := fun z hz => HU.out z (by rcases List.mem_append.1 hz with h | h <;> simp [mem_take h])
        have MR : Hid (AllM (u.drop g ++ v.drop f)) := fun z hz => HU.out z (by rcases List.mem_append.1 hz with h | h <;> simp [mem_drop h])
        have R1 : Hid (Rise (u.take g)) := rise_left HR1.out g
        have R2 : Hid (Rise (u.drop g)) := rise_right HR1.out g
        have R3 : Hid (Rise (v.take f)) := rise_left HS1.out f
        have R4 : Hid (Rise (v.drop f)) := rise_right HS1.out f
        have HR4 : Hid (RowC w0 base gb cap (p ++ (u.take g ++ (u.drop g ++ (v.take f ++ (v.drop f ++ q))))) wr) := by show RowC _ _ _ _ _ _; rw [← List.append_assoc (u.take g), List.take_append_drop, ← List.append_assoc (v.take f), List.take_append_drop]; exact HR.out
        have l1 : (u.take g).length = g := by simp; omega
        have l2 : (u.drop g).length + g = u.length := by simp; omega
        have l3 : (v.take f).length = f := by simp; omega
        have l4 : (v.drop f).length + f = v.length := by simp; omega
        have HNN : Hid (u.length + v.length ≤ N + 1) := by show u.length + v.length ≤ N + 1; simpa using hN
        clear H1 H2 HC1 HC2 hfound HR hm0 HU HR1 HS1 hN
        have re : IntKind.i64.wrap ((mid : Int) + (m : Int) - (i : Int)) = (en : Int) := by rw [IntKind.wrap_i64]; omega
        generalize u.take g = us at *
        generalize u.drop g = ut at *
        generalize v.take f = vs at *
        generalize v.drop f = vt at *
        have HGH : Hid (i = a + g ∧ mid = i + f ∧ en = m + f) := ⟨hg, hf, hen⟩
        clear hlt
        by_cases qa : ut.length = 0
        · by_cases qb : vs.length = 0
          · have k1 : ¬ (i : Int) < (m : Int) := by omega
            have k2 : ¬ (m : Int) < (en : Int) := by omega
            have k3 : (a : Int) < (i : Int) := by omega
            have k4 : ¬ (i : Int) < (mid : Int) := by omega
            have k5 : ¬ (mid : Int) < (en : Int) := by omega
            have k6 : (en : Int) < (b : Int) := by omega
            clear hg hf hen
            have hz0 : ut = [] := List.length_eq_zero_iff.1 (by have := HGH.out; omega)
            have HW : Hid (RowC w0 base gb cap (p ++ (us ++ (vs ++ ((ut ++ vt) ++ q)))) wr) := by show RowC _ _ _ _ _ _; have := HR4.out; rw [hz0] at this ⊢; simpa using this
            clear HR4 hz0
            obtain ⟨l, ha, hl, hw⟩ : ∃ l, Alike (us ++ vs) l ∧ Rise l ∧ RowC w0 base gb cap (p ++ (l ++ ((ut ++ vt) ++ q))) wr := by
              have hz0 : vs = [] := List.length_eq_zero_iff.1 (by have := HGH.out; omega)
              have r1 := R1.out; have r3 := R3.out; have h := HW.out
              exact ⟨us ++ vs, .refl _, by rw [hz0] at *; simpa using r1, by simpa using h⟩
            have HA := Lib.hid ha; have HL := Lib.hid hl; have HW2 := Lib.hid hw; clear ha hl hw HW
            have hll : l.length = g + f := by have := HA.out.perm.length_eq; simp at this; omega
            go_wp2
            all_goals
              obtain ⟨r, ha, hl, hw⟩ : ∃ r, Alike (ut ++ vt) r ∧ Rise r ∧ p ++ (l ++ ((ut ++ vt) ++ q)) = (p ++ l) ++ (r ++ q) := by
                have hz0 : ut = [] := List.length_eq_zero_iff.1 (by have := HGH.out; omega)
                have r2 := R2.out; have r4 := R4.out
                exact ⟨ut ++ vt, .refl _, by rw [hz0] at *; simpa using r4, by simp⟩
              have HA2 := Lib.hid ha; have HL2 := Lib.hid hl; have HW3 := HW2; rw [hw] at HW3
              go_end0
              have hz := HCUT.out l r HA.out HA2.out HL.out HL2.out
              exact ⟨rfl, l ++ r, hz.1, hz.2, by simpa using HW3.out⟩
          · by_cases qd : vt.length = 0
            · have k1 : ¬ (i : Int) < (m : Int) := by omega
              have k2 : (m : Int) < (en : Int) := by omega
              have k3 : (a : Int) < (i : Int) := by omega
              have k4 : (i : Int) < (mid : Int) := by omega
              have k5 : ¬ (mid : Int) < (en : Int) := by omega
              have k6 : ¬ (en : Int) < (b : Int) := by omega
              clear hg hf hen
              have hz0 : ut = [] := List.length_eq_zero_iff.1 (by have := HGH.out; omega)
              have HW : Hid (RowC w0 base gb cap (p ++ (us ++ (vs ++ ((ut ++ vt) ++ q)))) wr) := by show RowC _ _ _ _ _ _; have := HR4.out; rw [hz0] at this ⊢; simpa using this
              clear HR4 hz0
              go_wp2_with fail
              refine (IH a i mid p us vs ((ut ++ vt) ++ q) _ (by have := HNN.out; have := HGH.out; simp; omega) HW.out ML.out R1.out R3.out hp (by have := HGH.out; omega) (by have := HGH.out; omega) (by have := HGH.out; omega) (by have := HGH.out; omega) (by have := HGH.out; omega) hn).mono ?_
              rintro e w2 ⟨rfl, l, ha, hl, hw⟩
              have HA := Lib.hid ha; have HL := Lib.hid hl; have HW2 := Lib.hid hw; clear ha hl hw HW
              have hll : l.length = g + f := by have := HA.out.perm.length_eq; simp at this; omega
              go_wp2
              all_goals
                obtain ⟨r, ha, hl, hw⟩ : ∃ r, Alike (ut ++ vt) r ∧ Rise r ∧ p ++ (l ++ ((ut ++ vt) ++ q)) = (p ++ l) ++ (r ++ q) := by
                  have hz0 : ut = [] := List.length_eq_zero_iff.1 (by have := HGH.out; omega)
                  have r2 := R2.out; have r4 := R4.out
                  exact ⟨ut ++ vt, .refl _, by rw [hz0] at *; simpa using r4, by simp⟩
                have HA2 := Lib.hid ha; have HL2 := Lib.hid hl; have HW3 := HW2; rw [hw] at HW3
                go_end0
                have hz := HCUT.out l r HA.out HA2.out HL.out HL2.out
                exact ⟨rfl, l ++ r, hz.1, hz.2, by simpa using HW3.out⟩
            · have k1 : ¬ (i : Int) < (m : Int) := by omega
              have k2 : (m : Int) < (en : Int) := by omega
              have k3 : (a : Int) < (i : Int) := by omega
              have k4 : (i : Int) < (mid : Int) := by omega
              have k5 : ¬ (mid : Int) < (en : Int) := by omega
              have k6 : (en : Int) < (b : Int) := by omega
              clear hg hf hen
              have hz0 : ut = [] := List.length_eq_zero_iff.1 (by have := HGH.out; omega)
              have HW : Hid (RowC w0 base gb cap (p ++ (us ++ (vs ++ ((ut ++ vt) ++ q)))) wr) := by show RowC _ _ _ _ _ _; have := HR4.out; rw [hz0] at this ⊢; simpa using this
              clear HR4 hz0
              go_wp2_with fail
              refine (IH a i mid p us vs ((ut ++ vt) ++ q) _ (by have := HNN.out; have := HGH.out; simp; omega) HW.out ML.out R1.out R3.out hp (by have := HGH.out; omega) (by have := HGH.out; omega) (by have := HGH.out; omega) (by have := HGH.out; omega) (by have := HGH.out; omega) hn).mono ?_
              rintro e w2 ⟨rfl, l, ha, hl, hw⟩
              have HA := Lib.hid ha; have HL := Lib.hid hl; have HW2 := Lib.hid hw; clear ha hl hw HW
              have hll : l.length = g + f := by have := HA.out.perm.length_eq; simp at this; omega
              go_wp2
              all_goals
                obtain ⟨r, ha, hl, hw⟩ : ∃ r, Alike (ut ++ vt) r ∧ Rise r ∧ p ++ (l ++ ((ut ++ vt) ++ q)) = (p ++ l) ++ (r ++ q) := by
                  have hz0 : ut = [] := List.length_eq_zero_iff.1 (by have := HGH.out; omega)
                  have r2 := R2.out; have r4 := R4.out
                  exact ⟨ut ++ vt, .refl _, by rw [hz0] at *; simpa using r4, by simp⟩
                have HA2 := Lib.hid ha; have HL2 := Lib.hid hl; have HW3 := HW2; rw [hw] at HW3
                go_end0
                have hz := HCUT.out l r HA.out HA2.out HL.out HL2.out
                exact ⟨rfl, l ++ r, hz.1, hz.2, by simpa using HW3.out⟩
        · by_cases qb : vs.length = 0
          · by_cases qc : us.length = 0
            · have k1 : (i : Int) < (m : Int) := by omega
              have k2 : ¬ (m : Int) < (en : Int) := by omega
              have k3 : ¬ (a : Int) < (i : Int) := by omega
              have k4 : ¬ (i : Int) < (mid : Int) := by omega
              have k5 : (mid : Int) < (en : Int) := by omega
              have k6 : (en : Int) < (b : Int) := by omega
              clear hg hf hen
              have hz0 : vs = [] := List.length_eq_zero_iff.1 (by have := HGH.out; omega)
              have HW : Hid (RowC w0 base gb cap (p ++ (us ++ (vs ++ ((ut ++ vt) ++ q)))) wr) := by show RowC _ _ _ _ _ _; have := HR4.out; rw [hz0] at this ⊢; simpa using this
              clear HR4 hz0
              obtain ⟨l, ha, hl, hw⟩ : ∃ l, Alike (us ++ vs) l ∧ Rise l ∧ RowC w0 base gb cap (p ++ (l ++ ((ut ++ vt) ++ q))) wr := by
                have hz0 : us = [] := List.length_eq_zero_iff.1 (by have := HGH.out; omega)
                have r1 := R1.out; have r3 := R3.out; have h := HW.out
                exact ⟨us ++ vs, .refl _, by rw [hz0] at *; simpa using r3, by simpa using h⟩
              have HA := Lib.hid ha; have HL := Lib.hid hl; have HW2 := Lib.hid hw; clear ha hl hw HW
              have hll : l.length = g + f := by have := HA.out.perm.length_eq; simp at this; omega
              go_wp2_with fail
              refine (IH mid en b (p ++ l) ut vt q _ (by have := HNN.out; have := HGH.out; simp; omega) (by simpa using HW2.out) MR.out R2.out R4.out (by have := HGH.out; simp; omega) (by have := HGH.out; omega) (by have := HGH.out; omega) (by have := HGH.out; omega) (by have := HGH.out; omega) hb hn).mono ?_
              rintro e w3 ⟨rfl, r, ha, hl, hw⟩
              have HA2 := Lib.hid ha; have HL2 := Lib.hid hl; have HW3 := Lib.hid hw; clear ha hl hw HW2
              go_wp2
              go_end0
              have hz := HCUT.out l r HA.out HA2.out HL.out HL2.out
              exact ⟨rfl, l ++ r, hz.1, hz.2, by simpa using HW3.out⟩
            · have k1 : (i : Int) < (m : Int) := by omega
              have k2 : ¬ (m : Int) < (en : Int) := by omega
              have k3 : (a : Int) < (i : Int) := by omega
              have k4 : ¬ (i : Int) < (mid : Int) := by omega
              have k5 : (mid : Int) < (en : Int) := by omega
              have k6 : (en : Int) < (b : Int) := by omega
              clear hg hf hen
              have hz0 : vs = [] := List.length_eq_zero_iff.1 (by have := HGH.out; omega)
              have HW : Hid (RowC w0 base gb cap (p ++ (us ++ (vs ++ ((ut ++ vt) ++ q)))) wr) := by show RowC _ _ _ _ _ _; have := HR4.out; rw [hz0] at this ⊢; simpa using this
              clear HR4 hz0
              obtain ⟨l, ha, hl, hw⟩ : ∃ l, Alike (us ++ vs) l ∧ Rise l ∧ RowC w0 base gb cap (p ++ (l ++ ((ut ++ vt) ++ q))) wr := by
                have hz0 : vs = [] := List.length_eq_zero_iff.1 (by have := HGH.out; omega)
                have r1 := R1.out; have r3 := R3.out; have h := HW.out
                exact ⟨us ++ vs, .refl _, by rw [hz0] at *; simpa using r1, by simpa using h⟩
              have HA := Lib.hid ha; have HL := Lib.hid hl; have HW2 := Lib.hid hw; clear ha hl hw HW
              have hll : l.length = g + f := by have := HA.out.perm.length_eq; simp at this; omega
              go_wp2_with fail
              refine (IH mid en b (p ++ l) ut vt q _ (by have := HNN.out; have := HGH.out; simp; omega) (by simpa using HW2.out) MR.out R2.out R4.out (by have := HGH.out; simp; omega) (by have := HGH.out; omega) (by have := HGH.out; omega) (by have := HGH.out; omega) (by have := HGH.out; omega) hb hn).mono ?_
              rintro e w3 ⟨rfl, r, ha, hl, hw⟩
              have HA2 := Lib.hid ha; have HL2 := Lib.hid hl; have HW3 := Lib.hid hw; clear ha hl hw HW2
              go_wp2
              go_end0
              have hz := HCUT.out l r HA.out HA2.out HL.out HL2.out
              exact ⟨rfl, l ++ r, hz.1, hz.2, by simpa using HW3.out⟩
          · by_cases qc : us.length = 0
            · by_cases qd : vt.length = 0
              · have k1 : (i : Int) < (m : Int) := by omega
                have k2 : (m : Int) < (en : Int) := by omega
                have k3 : ¬ (a : Int) < (i : Int) := by omega
                have k4 : (i : Int) < (mid : Int) := by omega
                have k5 : (mid : Int) < (en : Int) := by omega
                have k6 : ¬ (en : Int) < (b : Int) := by omega
                clear hg hf hen
                go_wp2_with fail
                refine (rotate_any w0 base gb cap off n _ i m en (p ++ us) ut vs (vt ++ q) _ _ (by simpa using HR4.out) (by have := HGH.out; simp; omega) (by have := HGH.out; omega) (by have := HGH.out; omega) (by have := HGH.out; omega) (by have := HGH.out; omega) (by have := HGH.out; omega) hn).mono ?_
                rintro e w1 ⟨rfl, hw1⟩
                have HW : Hid (RowC w0 base gb cap (p ++ (us ++ (vs ++ ((ut ++ vt) ++ q)))) w1) := by show RowC _ _ _ _ _ _; simpa using hw1
                clear hw1 HR4
                obtain ⟨l, ha, hl, hw⟩ : ∃ l, Alike (us ++ vs) l ∧ Rise l ∧ RowC w0 base gb cap (p ++ (l ++ ((ut ++ vt) ++ q))) w1 := by
                  have hz0 : us = [] := List.length_eq_zero_iff.1 (by have := HGH.out; omega)
                  have r1 := R1.out; have r3 := R3.out; have h := HW.out
                  exact ⟨us ++ vs, .refl _, by rw [hz0] at *; simpa using r3, by simpa using h⟩
                have HA := Lib.hid ha; have HL := Lib.hid hl; have HW2 := Lib.hid hw; clear ha hl hw HW
                have hll : l.length = g + f := by have := HA.out.perm.length_eq; simp at this; omega
                go_wp2
                all_goals
                  obtain ⟨r, ha, hl, hw⟩ : ∃ r, Alike (ut ++ vt) r ∧ Rise r ∧ p ++ (l ++ ((ut ++ vt) ++ q)) = (p ++ l) ++ (r ++ q) := by
                    have hz0 : vt = [] := List.length_eq_zero_iff.1 (by have := HGH.out; omega)
                    have r2 := R2.out; have r4 := R4.out
                    exact ⟨ut ++ vt, .refl _, by rw [hz0] at *; simpa using r2, by simp⟩
                  have HA2 := Lib.hid ha; have HL2 := Lib.hid hl; have HW3 := HW2; rw [hw] at HW3
                  go_end0
                  have hz := HCUT.out l r HA.out HA2.out HL.out HL2.out
                  exact ⟨rfl, l ++ r, hz.1, hz.2, by simpa using HW3.out⟩
              · have k1 : (i : Int) < (m : Int) := by omega
                have k2 : (m : Int) < (en : Int) := by omega
                have k3 : ¬ (a : Int) < (i : Int) := by omega
                have k4 : (i : Int) < (mid : Int) := by omega
                have k5 : (mid : Int) < (en : Int) := by omega
                have k6 : (en : Int) < (b : Int) := by omega
                clear hg hf hen
                go_wp2_with fail
                refine (rotate_any w0 base gb cap off n _ i m en (p ++ us) ut vs (vt ++ q) _ _ (by simpa using HR4.out) (by have := HGH.out; simp; omega) (by have := HGH.out; omega) (by have := HGH.out; omega) (by have := HGH.out; omega) (by have := HGH.out; omega) (by have := HGH.out; omega) hn).mono ?_
                rintro e w1 ⟨rfl, hw1⟩
                have HW : Hid (RowC w0 base gb cap (p ++ (us ++ (vs ++ ((ut ++ vt) ++ q)))) w1) := by show RowC _ _ _ _ _ _; simpa using hw1
                clear hw1 HR4
                obtain ⟨l, ha, hl, hw⟩ : ∃ l, Alike (us ++ vs) l ∧ Rise l ∧ RowC w0 base gb cap (p ++ (l ++ ((ut ++ vt) ++ q))) w1 := by
                  have hz0 : us = [] := List.length_eq_zero_iff.1 (by have := HGH.out; omega)
                  have r1 := R1.out; have r3 := R3.out; have h := HW.out
                  exact ⟨us ++ vs, .refl _, by rw [hz0] at *; simpa using r3, by simpa using h⟩
                have HA := Lib.hid ha; have HL := Lib.hid hl; have HW2 := Lib.hid hw; clear ha hl hw HW
                have hll : l.length = g + f := by have := HA.out.perm.length_eq; simp at this; omega
                go_wp2_with fail
                refine (IH mid en b (p ++ l) ut vt q _ (by have := HNN.out; have := HGH.out; simp; omega) (by simpa using HW2.out) MR.out R2.out R4.out (by have := HGH.out; simp; omega) (by have := HGH.out; omega) (by have := HGH.out; omega) (by have := HGH.out; omega) (by have := HGH.out; omega) hb hn).mono ?_
                rintro e w3 ⟨rfl, r, ha, hl, hw⟩
                have HA2 := Lib.hid ha; have HL2 := Lib.hid hl; have HW3 := Lib.hid hw; clear ha hl hw HW2
                go_wp2
                go_end0
                have hz := HCUT.out l r HA.out HA2.out HL.out HL2.out
                exact ⟨rfl, l ++ r, hz.1, hz.2, by simpa using HW3.out⟩
            · by_cases qd : vt.length = 0
              · have k1 : (i : Int) < (m : Int) := by omega
                have k2 : (m : Int) < (en : Int) := by omega
                have k3 : (a : Int) < (i : Int) := by omega
                have k4 : (i : Int) < (mid : Int) := by omega
                have k5 : (mid : Int) < (en : Int) := by omega
                have k6 : ¬ (en : Int) < (b : Int) := by omega
                clear hg hf hen
                go_wp2_with fail
                refine (rotate_any w0 base gb cap off n _ i m en (p ++ us) ut vs (vt ++ q) _ _ (by simpa using HR4.out) (by have := HGH.out; simp; omega) (by have := HGH.out; omega) (by have := HGH.out; omega) (by have := HGH.out; omega) (by have := HGH.out; omega) (by have := HGH.out; omega) hn).mono ?_
                rintro e w1 ⟨rfl, hw1⟩
                have HW : Hid (RowC w0 base gb cap (p ++ (us ++ (vs ++ ((ut ++ vt) ++ q)))) w1) := by show RowC _ _ _ _ _ _; simpa using hw1
                clear hw1 HR4
                go_wp2_with fail
                refine (IH a i mid p us vs ((ut ++ vt) ++ q) _ (by have := HNN.out; have := HGH.out; simp; omega) HW.out ML.out R1.out R3.out hp (by have := HGH.out; omega) (by have := HGH.out; omega) (by have := HGH.out; omega) (by have := HGH.out; omega) (by have := HGH.out; omega) hn).mono ?_
                rintro e w2 ⟨rfl, l, ha, hl, hw⟩
                have HA := Lib.hid ha; have HL := Lib.hid hl; have HW2 := Lib.hid hw; clear ha hl hw HW
                have hll : l.length = g + f := by have := HA.out.perm.length_eq; simp at this; omega
                go_wp2
                all_goals
                  obtain ⟨r, ha, hl, hw⟩ : ∃ r, Alike (ut ++ vt) r ∧ Rise r ∧ p ++ (l ++ ((ut ++ vt) ++ q)) = (p ++ l) ++ (r ++ q) := by
                    have hz0 : vt = [] := List.length_eq_zero_iff.1 (by have := HGH.out; omega)
                    have r2 := R2.out; have r4 := R4.out
                    exact ⟨ut ++ vt, .refl _, by rw [hz0] at *; simpa using r2, by simp⟩
                  have HA2 := Lib.hid ha; have HL2 := Lib.hid hl; have HW3 := HW2; rw [hw] at HW3
                  go_end0
                  have hz := HCUT.out l r HA.out HA2.out HL.out HL2.out
                  exact ⟨rfl, l ++ r, hz.1, hz.2, by simpa using HW3.out⟩
              · have k1 : (i : Int) < (m : Int) := by omega
                have k2 : (m : Int) < (en : Int) := by omega
                have k3 : (a : Int) < (i : Int) := by omega
                have k4 : (i : Int) < (mid : Int) := by omega
                have k5 : (mid : Int) < (en : Int) := by omega
                have k6 : (en : Int) < (b : Int) := by omega
                clear hg hf hen
                go_wp2_with fail
                refine (rotate_any w0 base gb cap off n _ i m en (p ++ us) ut vs (vt ++ q) _ _ (by simpa using HR4.out) (by have := HGH.out; simp; omega) (by have := HGH.out; omega) (by have := HGH.out; omega) (by have := HGH.out; omega) (by have := HGH.out; omega) (by have := HGH.out; omega) hn).mono ?_
                rintro e w1 ⟨rfl, hw1⟩
                have HW : Hid (RowC w0 base gb cap (p ++ (us ++ (vs ++ ((ut ++ vt) ++ q)))) w1) := by show RowC _ _ _ _ _ _; simpa using hw1
                clear hw1 HR4
                go_wp2_with fail
                refine (IH a i mid p us vs ((ut ++ vt) ++ q) _ (by have := HNN.out; have := HGH.out; simp; omega) HW.out ML.out R1.out R3.out hp (by have := HGH.out; omega) (by have := HGH.out; omega) (by have := HGH.out; omega) (by have := HGH.out; omega) (by have := HGH.out; omega) hn).mono ?_
                rintro e w2 ⟨rfl, l, ha, hl, hw⟩
                have HA := Lib.hid ha; have HL := Lib.hid hl; have HW2 := Lib.hid hw; clear ha hl hw HW
                have hll : l.length = g + f := by have := HA.out.perm.length_eq; simp at this; omega
                go_wp2_with fail
                refine (IH mid en b (p ++ l) ut vt q _ (by have := HNN.out; have := HGH.out; simp; omega) (by simpa using HW2.out) MR.out R2.out R4.out (by have := HGH.out; simp; omega) (by have := HGH.out; omega) (by have := HGH.out; omega) (by have := HGH.out; omega) (by have := HGH.out; omega) hb hn).mono ?_
                rintro e w3 ⟨rfl, r, ha, hl, hw⟩
                have HA2 := Lib.hid ha; have HL2 := Lib.hid hl; have HW3 := Lib.hid hw; clear ha hl hw HW2
                go_wp2
                go_end0
                have hz := HCUT.out l r HA.out HA2.out HL.out HL2.out
                exact ⟨rfl, l ++ r, hz.1, hz.2, by simpa using HW3.out⟩
  · have hway : ¬ (mid : Int) < (m : Int) := by omega
    obtain ⟨s0, hs0⟩ : ∃ s0, s0 = a := ⟨_, rfl⟩
    obtain ⟨r0, hr0⟩ : ∃ r0, r0 = m := ⟨_, rfl⟩
    have HC1 : Hid (s0 = a ∨ mid + m = s0 + b) := .inl hs0
    have HC2 : Hid (r0 = m ∨ mid = r0) := .inl hr0
    have hb1 : a ≤ s0 ∧ s0 ≤ r0 ∧ r0 ≤ m ∧ r0 ≤ mid ∧ mid + m ≤ s0 + b := by have := HM.out; omega
    go_enter Tryz.func122, Tryz.ntmps122
    go_wp2_with fail
    go_loopw [20, 21] (fun vi vj wr => ∃ i j : Nat, vi = .int .i64 i ∧ vj = .int .i64 j ∧ s0 ≤ i ∧ i ≤ j ∧ j ≤ r0 ∧ Hid (i = s0 ∨ ccc (u.getD (i - a - 1) 0) ≤ ccc (v.getD (mid - i) 0)) ∧ Hid (j = r0 ∨ ccc (v.getD (mid - j - 1) 0) < ccc (u.getD (j - a) 0)) ∧ Hid (RowC w0 base gb cap (p ++ (u ++ (v ++ q))) wr)) (fun vi vj _ => (intOf vj).toNat - (intOf vi).toNat)
    case atStart => exact ⟨s0, r0, by rw [hs0], by rw [hr0], Nat.le_refl _, hb1.2.1, Nat.le_refl _, .inl rfl, .inl rfl, H⟩
    case round =>
      clear H
      obtain ⟨i, j, rfl, rfl, hsi, hij, hjr, H1, H2, HR⟩ := hrel
      by_cases hlt : i < j
      · obtain ⟨c, hc⟩ : ∃ c, c = (i + j) / 2 := ⟨_, rfl⟩
        have hc1 : i ≤ c := by omega
        have hc2 : c < j := by omega
        have rh : ((i : Int) + (j : Int)) / 2 = (c : Int) := by omega
        have hltz : (i : Int) < (j : Int) := by omega
        have hcn : (c : Int) < (n : Int) := by omega
        obtain ⟨d, hd⟩ : ∃ d, d = pn - c := ⟨_, rfl⟩
        have hpn := HPN.out
        have hdc : d + c = pn := by omega
        have rd_ : IntKind.i64.wrap ((pn : Int) - (c : Int)) = (d : Int) := by rw [IntKind.wrap_i64]; omega
        have hdn : (d : Int) < (n : Int) := by omega
        have hdm : d - m < v.length := by omega
        have hca : c - a < u.length := by omega
        obtain ⟨x, hx⟩ : ∃ x, x = u.getD (c - a) 0 := ⟨_, rfl⟩
        obtain ⟨y, hy⟩ : ∃ y, y = v.getD (d - m) 0 := ⟨_, rfl⟩
        have c1 : wr.cell? ⟨gb, off + c, none⟩ = some (.int .i64 x) := by
          rw [HR.out.cell (off + c) (by simp; omega), hx]
          congr 2
          rw [List.getD_eq_getElem?_getD, List.getD_eq_getElem?_getD, List.getElem?_append_right (by omega), show off + c - p.length = c - a by omega, List.getElem?_append_left hca]
        have c2 : wr.cell? ⟨gb, off + d, none⟩ = some (.int .i64 y) := by
          rw [HR.out.cell (off + d) (by simp; omega), hy]
          congr 2
          rw [List.getD_eq_getElem?_getD, List.getD_eq_getElem?_getD, List.getElem?_append_right (by omega), List.getElem?_append_right (by omega), show off + d - p.length - u.length = d - m by omega, List.getElem?_append_left hdm]
        have hgb : gb < wr.heap.size := HR.out.lt
        have HX1 : Hid (ccc x ≤ ccc y → ccc (u.getD (c + 1 - a - 1) 0) ≤ ccc (v.getD (mid - (c + 1)) 0)) := by
          intro h
          rw [show c + 1 - a - 1 = c - a by omega, show mid - (c + 1) = d - m by omega, ← hx, ← hy]; exact h
        have HX2 : Hid (ccc y < ccc x → ccc (v.getD (mid - c - 1) 0) < ccc (u.getD (c - a) 0)) := by
          intro h
          rw [show mid - c - 1 = d - m by omega, ← hx, ← hy]; exact h
        clear hx hy hc hd hpn hdc
        go_wp2_with fail
        go_region_held3 (fun w' => w'.cell? ⟨gb, off + c, none⟩ = some (.int .i64 x) ∧ w'.cell? ⟨gb, off + d, none⟩ = some (.int .i64 y))
          (first | (exact ⟨c1, c2⟩) | (exact ⟨(hb'.cell (p := ⟨gb, off + c, none⟩) hgb).trans c1, (hb'.cell (p := ⟨gb, off + d, none⟩) hgb).trans c2⟩))
          (first | (go_at_call 64; refine (before_any _ _ _).mono ?_; rintro e w' ⟨rfl, hb'⟩))
        have HR2 : Hid (RowC w0 base gb cap (p ++ (u ++ (v ++ q))) w') := HR.out.below ((pw_below_drewN (Below.refl _ _) 1).trans hb')
        clear c1 c2 hgb hb' HR
        cases hd : decide (cmpI (ccc y) (ccc x) < 0) with
        | true =>
          have HN := Lib.hid (HX2.out (cmpI_lt.1 (of_decide_eq_true hd)))
          clear HX1 HX2 hd
          go_wp2
          go_roundw
          case measure => simp [intOf]; omega
          case rel => exact ⟨i, c, rfl, rfl, hsi, by omega, by omega, H1, .inr HN.out, HR2⟩
        | false =>
          have HN := Lib.hid (HX1.out (Int.not_lt.1 fun h => of_decide_eq_false hd (cmpI_lt.2 h)))
          clear HX1 HX2 hd
          go_wp2
          go_roundw
          case measure => simp [intOf]; omega
          case rel => exact ⟨c + 1, j, by go_num, rfl, by omega, by omega, hjr, .inr HN.out, H2, HR2⟩
      · obtain rfl : i = j := by omega
        obtain ⟨g, hg⟩ : ∃ g, i = a + g := ⟨i - a, by omega⟩
        obtain ⟨f, hf⟩ : ∃ f, mid = i + f := ⟨mid - i, by omega⟩
        obtain ⟨en, hen⟩ : ∃ en, en = m + f := ⟨_, rfl⟩
        have hm0 := HM.out
        have hgl : g ≤ u.length := by omega
        have hfl : f ≤ v.length := by omega
        have hfound := merge_found HR1.out HS1.out g f hgl hfl
          (by have c1 := HC1.out; rcases H1.out with h | h
              · rcases c1 with k | k
                · exact .inl (by omega)
                · exact .inr (.inl (by omega))
              · exact .inr (.inr (by rw [show i - a - 1 = g - 1 by omega, show mid - i = f by omega] at h; exact h)))
          (by have c2 := HC2.out; rcases H2.out with h | h
              · rcases c2 with k | k
                · exact .inl (by omega)
                · exact .inr (.inl (by omega))
              · exact .inr (.inr (by rw [show mid - i - 1 = f - 1 by omega, show i - a = g by omega] at h; exact h)))
        have HCUT : Hid (∀ l r, Alike (u.take g ++ v.take f) l → Alike (u.drop g ++ v.drop f) r → Rise l → Rise r → Alike (u ++ v) (l ++ r) ∧ Rise (l ++ r)) := fun l r h1 h2 h3 h4 => merge_cut HU.out HR1.out HS1.out hfound.1 hfound.2 h1 h2 h3 h4
        have ML : Hid (AllM (u.take g ++ v.take f)) := fun z hz => HU.out z (by rcases List.mem_append.1 hz with h | h <;> simp [mem_take h])
        have MR : Hid (AllM (u.drop g ++ v.drop f)) := fun z hz => HU.out z (by rcases List.mem_append.1 hz with h | h <;> simp [mem_drop h])
        have R1 : Hid (Rise (u.take g)) := rise_left HR1.out g
        have R2 : Hid (Rise (u.drop g)) := rise_right HR1.out g
        have R3 : Hid (Rise (v.take f)) := rise_left HS1.out f
        have R4 : Hid (Rise (v.drop f)) := rise_right HS1.out f
        have HR4 : Hid (RowC w0 base gb cap (p ++ (u.take g ++ (u.drop g ++ (v.take f ++ (v.drop f ++ q))))) wr) := by show RowC _ _ _ _ _ _; rw [← List.append_assoc (u.take g), List.take_append_drop, ← List.append_assoc (v.take f), List.take_append_drop]; exact HR.out
        have l1 : (u.take g).length = g := by simp; omega
        have l2 : (u.drop g).length + g = u.length := by simp; omega
        have l3 : (v.take f).length = f := by simp; omega
        have l4 : (v.drop f).length + f = v.length := by simp; omega
        have HNN : Hid (u.length + v.length ≤ N + 1) := by show u.length + v.length ≤ N + 1; simpa using hN
        clear H1 H2 HC1 HC2 hfound HR hm0 HU HR1 HS1 hN
        have re : IntKind.i64.wrap ((mid : Int) + (m : Int) - (i : Int)) = (en : Int) := by rw [IntKind.wrap_i64]; omega
        generalize u.take g = us at *
        generalize u.drop g = ut at *
        generalize v.take f = vs at *
        generalize v.drop f = vt at *
        have HGH : Hid (i = a + g ∧ mid = i + f ∧ en = m + f) := ⟨hg, hf, hen⟩
        clear hlt
        by_cases qa : ut.length = 0
        · by_cases qb : vs.length = 0
          · have k1 : ¬ (i : Int) < (m : Int) := by omega
            have k2 : ¬ (m : Int) < (en : Int) := by omega
            have k3 : (a : Int) < (i : Int) := by omega
            have k4 : ¬ (i : Int) < (mid : Int) := by omega
            have k5 : ¬ (mid : Int) < (en : Int) := by omega
            have k6 : (en : Int) < (b : Int) := by omega
            clear hg hf hen
            have hz0 : ut = [] := List.length_eq_zero_iff.1 (by have := HGH.out; omega)
            have HW : Hid (RowC w0 base gb cap (p ++ (us ++ (vs ++ ((ut ++ vt) ++ q)))) wr) := by show RowC _ _ _ _ _ _; have := HR4.out; rw [hz0] at this ⊢; simpa using this
            clear HR4 hz0
            obtain ⟨l, ha, hl, hw⟩ : ∃ l, Alike (us ++ vs) l ∧ Rise l ∧ RowC w0 base gb cap (p ++ (l ++ ((ut ++ vt) ++ q))) wr := by
              have hz0 : vs = [] := List.length_eq_zero_iff.1 (by have := HGH.out; omega)
              have r1 := R1.out; have r3 := R3.out; have h := HW.out
              exact ⟨us ++ vs, .refl _, by rw [hz0] at *; simpa using r1, by simpa using h⟩
            have HA := Lib.hid ha; have HL := Lib.hid hl; have HW2 := Lib.hid hw; clear ha hl hw HW
            have hll : l.length = g + f := by have := HA.out.perm.length_eq; simp at this; omega
            go_wp2
            all_goals
              obtain ⟨r, ha, hl, hw⟩ : ∃ r, Alike (ut ++ vt) r ∧ Rise r ∧ p ++ (l ++ ((ut ++ vt) ++ q)) = (p ++ l) ++ (r ++ q) := by
                have hz0 : ut = [] := List.length_eq_zero_iff.1 (by have := HGH.out; omega)
                have r2 := R2.out; have r4 := R4.out
                exact ⟨ut ++ vt, .refl _, by rw [hz0] at *; simpa using r4, by simp⟩
              have HA2 := Lib.hid ha; have HL2 := Lib.hid hl; have HW3 := HW2; rw [hw] at HW3
              go_end0
              have hz := HCUT.out l r HA.out HA2.out HL.out HL2.out
              exact ⟨rfl, l ++ r, hz.1, hz.2, by simpa using HW3.out⟩
          · by_cases qd : vt.length = 0
            · have k1 : ¬ (i : Int) < (m : Int) := by omega
              have k2 : (m : Int) < (en : Int) := by omega
              have k3 : (a : Int) < (i : Int) := by omega
              have k4 : (i : Int) < (mid : Int) := by omega
              have k5 : ¬ (mid : Int) < (en : Int) := by omega
              have k6 : ¬ (en : Int) < (b : Int) := by omega
              clear hg hf hen
              have hz0 : ut = [] := List.length_eq_zero_iff.1 (by have := HGH.out; omega)
              have HW : Hid (RowC w0 base gb cap (p ++ (us ++ (vs ++ ((ut ++ vt) ++ q)))) wr) := by show RowC _ _ _ _ _ _; have := HR4.out; rw [hz0] at this ⊢; simpa using this
              clear HR4 hz0
              go_wp2_with fail
              refine (IH a i mid p us vs ((ut ++ vt) ++ q) _ (by have := HNN.out; have := HGH.out; simp; omega) HW.out ML.out R1.out R3.out hp (by have := HGH.out; omega) (by have := HGH.out; omega) (by have := HGH.out; omega) (by have := HGH.out; omega) (by have := HGH.out; omega) hn).mono ?_
              rintro e w2 ⟨rfl, l, ha, hl, hw⟩
              have HA := Lib.hid ha; have HL := Lib.hid hl; have HW2 := Lib.hid hw; clear ha hl hw HW
              have hll : l.length = g + f := by have := HA.out.perm.length_eq; simp at this; omega
              go_wp2
              all_goals
                obtain ⟨r, ha, hl, hw⟩ : ∃ r, Alike (ut ++ vt) r ∧ Rise r ∧ p ++ (l ++ ((ut ++ vt) ++ q)) = (p ++ l) ++ (r ++ q) := by
                  have hz0 : ut = [] := List.length_eq_zero_iff.1 (by have := HGH.out; omega)
                  have r2 := R2.out; have r4 := R4.out
                  exact ⟨ut ++ vt, .refl _, by rw [hz0] at *; simpa using r4, by simp⟩
                have HA2 := Lib.hid ha; have HL2 := Lib.hid hl; have HW3 := HW2; rw [hw] at HW3
                go_end0
                have hz := HCUT.out l r HA.out HA2.out HL.out HL2.out
                exact ⟨rfl, l ++ r, hz.1, hz.2, by simpa using HW3.out⟩
            · have k1 : ¬ (i : Int) < (m : Int) := by omega
              have k2 : (m : Int) < (en : Int) := by omega
              have k3 : (a : Int) < (i : Int) := by omega
              have k4 : (i : Int) < (mid : Int) := by omega
              have k5 : ¬ (mid : Int) < (en : Int) := by omega
              have k6 : (en : Int) < (b : Int) := by omega
              clear hg hf hen
              have hz0 : ut = [] := List.length_eq_zero_iff.1 (by have := HGH.out; omega)
              have HW : Hid (RowC w0 base gb cap (p ++ (us ++ (vs ++ ((ut ++ vt) ++ q)))) wr) := by show RowC _ _ _ _ _ _; have := HR4.out; rw [hz0] at this ⊢; simpa using this
              clear HR4 hz0
              go_wp2_with fail
              refine (IH a i mid p us vs ((ut ++ vt) ++ q) _ (by have := HNN.out; have := HGH.out; simp; omega) HW.out ML.out R1.out R3.out hp (by have := HGH.out; omega) (by have := HGH.out; omega) (by have := HGH.out; omega) (by have := HGH.out; omega) (by have := HGH.out; omega) hn).mono ?_
              rintro e w2 ⟨rfl, l, ha, hl, hw⟩
              have HA := Lib.hid ha; have HL := Lib.hid hl; have HW2 := Lib.hid hw; clear ha hl hw HW
              have hll : l.length = g + f := by have := HA.out.perm.length_eq; simp at this; omega
              go_wp2
              all_goals
                obtain ⟨r, ha, hl, hw⟩ : ∃ r, Alike (ut ++ vt) r ∧ Rise r ∧ p ++ (l ++ ((ut ++ vt) ++ q)) = (p ++ l) ++ (r ++ q) := by
                  have hz0 : ut = [] := List.length_eq_zero_iff.1 (by have := HGH.out; omega)
                  have r2 := R2.out; have r4 := R4.out
                  exact ⟨ut ++ vt, .refl _, by rw [hz0] at *; simpa using r4, by simp⟩
                have HA2 := Lib.hid ha; have HL2 := Lib.hid hl; have HW3 := HW2; rw [hw] at HW3
                go_end0
                have hz := HCUT.out l r HA.out HA2.out HL.out HL2.out
                exact ⟨rfl, l ++ r, hz.1, hz.2, by simpa using HW3.out⟩
        · by_cases qb : vs.length = 0
          · by_cases qc : us.length = 0
            · have k1 : (i : Int) < (m : Int) := by omega
              have k2 : ¬ (m : Int) < (en : Int) := by omega
              have k3 : ¬ (a : Int) < (i : Int) := by omega
              have k4 : ¬ (i : Int) < (mid : Int) := by omega
              have k5 : (mid : Int) < (en : Int) := by omega
              have k6 : (en : Int) < (b : Int) := by omega
              clear hg hf hen
              have hz0 : vs = [] := List.length_eq_zero_iff.1 (by have := HGH.out; omega)
              have HW : Hid (RowC w0 base gb cap (p ++ (us ++ (vs ++ ((ut ++ vt) ++ q)))) wr) := by show RowC _ _ _ _ _ _; have := HR4.out; rw [hz0] at this ⊢; simpa using this
              clear HR4 hz0
              obtain ⟨l, ha, hl, hw⟩ : ∃ l, Alike (us ++ vs) l ∧ Rise l ∧ RowC w0 base gb cap (p ++ (l ++ ((ut ++ vt) ++ q))) wr := by
                have hz0 : us = [] := List.length_eq_zero_iff.1 (by have := HGH.out; omega)
                have r1 := R1.out; have r3 := R3.out; have h := HW.out
                exact ⟨us ++ vs, .refl _, by rw [hz0] at *; simpa using r3, by simpa using h⟩
              have HA := Lib.hid ha; have HL := Lib.hid hl; have HW2 := Lib.hid hw; clear ha hl hw HW
              have hll : l.length = g + f := by have := HA.out.perm.length_eq; simp at this; omega
              go_wp2_with fail
              refine (IH mid en b (p ++ l) ut vt q _ (by have := HNN.out; have := HGH.out; simp; omega) (by simpa using HW2.out) MR.out R2.out R4.out (by have := HGH.out; simp; omega) (by have := HGH.out; omega) (by have := HGH.out; omega) (by have := HGH.out; omega) (by have := HGH.out; omega) hb hn).mono ?_
              rintro e w3 ⟨rfl, r, ha, hl, hw⟩
              have HA2 := Lib.hid ha; have HL2 := Lib.hid hl; have HW3 := Lib.hid hw; clear ha hl hw HW2
              go_wp2
              go_end0
              have hz := HCUT.out l r HA.out HA2.out HL.out HL2.out
              exact ⟨rfl, l ++ r, hz.1, hz.2, by simpa using HW3.out⟩
            · have k1 : (i : Int) < (m : Int) := by omega
              have k2 : ¬ (m : Int) < (en : Int) := by omega
              have k3 : (a : Int) < (i : Int) := by omega
              have k4 : ¬ (i : Int) < (mid : Int) := by omega
              have k5 : (mid : Int) < (en : Int) := by omega
              have k6 : (en : Int) < (b : Int) := by omega
              clear hg hf hen
              have hz0 : vs = [] := List.length_eq_zero_iff.1 (by have := HGH.out; omega)
              have HW : Hid (RowC w0 base gb cap (p ++ (us ++ (vs ++ ((ut ++ vt) ++ q)))) wr) := by show RowC _ _ _ _ _ _; have := HR4.out; rw [hz0] at this ⊢; simpa using this
              clear HR4 hz0
              obtain ⟨l, ha, hl, hw⟩ : ∃ l, Alike (us ++ vs) l ∧ Rise l ∧ RowC w0 base gb cap (p ++ (l ++ ((ut ++ vt) ++ q))) wr := by
                have hz0 : vs = [] := List.length_eq_zero_iff.1 (by have := HGH.out; omega)
                have r1 := R1.out; have r3 := R3.out; have h := HW.out
                exact ⟨us ++ vs, .refl _, by rw [hz0] at *; simpa using r1, by simpa using h⟩
              have HA := Lib.hid ha; have HL := Lib.hid hl; have HW2 := Lib.hid hw; clear ha hl hw HW
              have hll : l.length = g + f := by have := HA.out.perm.length_eq; simp at this; omega
              go_wp2_with fail
              refine (IH mid en b (p ++ l) ut vt q _ (by have := HNN.out; have := HGH.out; simp; omega) (by simpa using HW2.out) MR.out R2.out R4.out (by have := HGH.out; simp; omega) (by have := HGH.out; omega) (by have := HGH.out; omega) (by have := HGH.out; omega) (by have := HGH.out; omega) hb hn).mono ?_
              rintro e w3 ⟨rfl, r, ha, hl, hw⟩
              have HA2 := Lib.hid ha; have HL2 := Lib.hid hl; have HW3 := Lib.hid hw; clear ha hl hw HW2
              go_wp2
              go_end0
              have hz := HCUT.out l r HA.out HA2.out HL.out HL2.out
              exact ⟨rfl, l ++ r, hz.1, hz.2, by simpa using HW3.out⟩
          · by_cases qc : us.length = 0
            · by_cases qd : vt.length = 0
              · have k1 : (i : Int) < (m : Int) := by omega
                have k2 : (m : Int) < (en : Int) := by omega
                have k3 : ¬ (a : Int) < (i : Int) := by omega
                have k4 : (i : Int) < (mid : Int) := by omega
                have k5 : (mid : Int) < (en : Int) := by omega
                have k6 : ¬ (en : Int) < (b : Int) := by omega
                clear hg hf hen
                go_wp2_with fail
                refine (rotate_any w0 base gb cap off n _ i m en (p ++ us) ut vs (vt ++ q) _ _ (by simpa using HR4.out) (by have := HGH.out; simp; omega) (by have := HGH.out; omega) (by have := HGH.out; omega) (by have := HGH.out; omega) (by have := HGH.out; omega) (by have := HGH.out; omega) hn).mono ?_
                rintro e w1 ⟨rfl, hw1⟩
                have HW : Hid (RowC w0 base gb cap (p ++ (us ++ (vs ++ ((ut ++ vt) ++ q)))) w1) := by show RowC _ _ _ _ _ _; simpa using hw1
                clear hw1 HR4
                obtain ⟨l, ha, hl, hw⟩ : ∃ l, Alike (us ++ vs) l ∧ Rise l ∧ RowC w0 base gb cap (p ++ (l ++ ((ut ++ vt) ++ q))) w1 := by
                  have hz0 : us = [] := List.length_eq_zero_iff.1 (by have := HGH.out; omega)
                  have r1 := R1.out; have r3 := R3.out; have h := HW.out
                  exact ⟨us ++ vs, .refl _, by rw [hz0] at *; simpa using r3, by simpa using h⟩
                have HA := Lib.hid ha; have HL := Lib.hid hl; have HW2 := Lib.hid hw; clear ha hl hw HW
                have hll : l.length = g + f := by have := HA.out.perm.length_eq; simp at this; omega
                go_wp2
                all_goals
                  obtain ⟨r, ha, hl, hw⟩ : ∃ r, Alike (ut ++ vt) r ∧ Rise r ∧ p ++ (l ++ ((ut ++ vt) ++ q)) = (p ++ l) ++ (r ++ q) := by
                    have hz0 : vt = [] := List.length_eq_zero_iff.1 (by have := HGH.out; omega)
                    have r2 := R2.out; have r4 := R4.out
                    exact ⟨ut ++ vt, .refl _, by rw [hz0] at *; simpa using r2, by simp⟩
                  have HA2 := Lib.hid ha; have HL2 := Lib.hid hl; have HW3 := HW2; rw [hw] at HW3
                  go_end0
                  have hz := HCUT.out l r HA.out HA2.out HL.out HL2.out
                  exact ⟨rfl, l ++ r, hz.1, hz.2, by simpa using HW3.out⟩
              · have k1 : (i : Int) < (m : Int) := by omega
                have k2 : (m : Int) < (en : Int) := by omega
                have k3 : ¬ (a : Int) < (i : Int) := by omega
                have k4 : (i : Int) < (mid : Int) := by omega
                have k5 : (mid : Int) < (en : Int) := by omega
                have k6 : (en : Int) < (b : Int) := by omega
                clear hg hf hen
                go_wp2_with fail
                refine (rotate_any w0 base gb cap off n _ i m en (p ++ us) ut vs (vt ++ q) _ _ (by simpa using HR4.out) (by have := HGH.out; simp; omega) (by have := HGH.out; omega) (by have := HGH.out; omega) (by have := HGH.out; omega) (by have := HGH.out; omega) (by have := HGH.out; omega) hn).mono ?_
                rintro e w1 ⟨rfl, hw1⟩
                have HW : Hid (RowC w0 base gb cap (p ++ (us ++ (vs ++ ((ut ++ vt) ++ q)))) w1) := by show RowC _ _ _ _ _ _; simpa using hw1
                clear hw1 HR4
                obtain ⟨l, ha, hl, hw⟩ : ∃ l, Alike (us ++ vs) l ∧ Rise l ∧ RowC w0 base gb cap (p ++ (l ++ ((ut ++ vt) ++ q))) w1 := by
                  have hz0 : us = [] := List.length_eq_zero_iff.1 (by have := HGH.out; omega)
                  have r1 := R1.out; have r3 := R3.out; have h := HW.out
                  exact ⟨us ++ vs, .refl _, by rw [hz0] at *; simpa using r3, by simpa using h⟩
                have HA := Lib.hid ha; have HL := Lib.hid hl; have HW2 := Lib.hid hw; clear ha hl hw HW
                have hll : l.length = g + f := by have := HA.out.perm.length_eq; simp at this; omega
                go_wp2_with fail
                refine (IH mid en b (p ++ l) ut vt q _ (by have := HNN.out; have := HGH.out; simp; omega) (by simpa using HW2.out) MR.out R2.out R4.out (by have := HGH.out; simp; omega) (by have := HGH.out; omega) (by have := HGH.out; omega) (by have := HGH.out; omega) (by have := HGH.out; omega) hb hn).mono ?_
                rintro e w3 ⟨rfl, r, ha, hl, hw⟩
                have HA2 := Lib.hid ha; have HL2 := Lib.hid hl; have HW3 := Lib.hid hw; clear ha hl hw HW2
                go_wp2
                go_end0
                have hz := HCUT.out l r HA.out HA2.out HL.out HL2.out
                exact ⟨rfl, l ++ r, hz.1, hz.2, by simpa using HW3.out⟩
            · by_cases qd : vt.length = 0
              · have k1 : (i : Int) < (m : Int) := by omega
                have k2 : (m : Int) < (en : Int) := by omega
                have k3 : (a : Int) < (i : Int) := by omega
                have k4 : (i : Int) < (mid : Int) := by omega
                have k5 : (mid : Int) < (en : Int) := by omega
                have k6 : ¬ (en : Int) < (b : Int) := by omega
                clear hg hf hen
                go_wp2_with fail
                refine (rotate_any w0 base gb cap off n _ i m en (p ++ us) ut vs (vt ++ q) _ _ (by simpa using HR4.out) (by have := HGH.out; simp; omega) (by have := HGH.out; omega) (by have := HGH.out; omega) (by have := HGH.out; omega) (by have := HGH.out; omega) (by have := HGH.out; omega) hn).mono ?_
                rintro e w1 ⟨rfl, hw1⟩
                have HW : Hid (RowC w0 base gb cap (p ++ (us ++ (vs ++ ((ut ++ vt) ++ q)))) w1) := by show RowC _ _ _ _ _ _; simpa using hw1
                clear hw1 HR4
                go_wp2_with fail
                refine (IH a i mid p us vs ((ut ++ vt) ++ q) _ (by have := HNN.out; have := HGH.out; simp; omega) HW.out ML.out R1.out R3.out hp (by have := HGH.out; omega) (by have := HGH.out; omega) (by have := HGH.out; omega) (by have := HGH.out; omega) (by have := HGH.out; omega) hn).mono ?_
                rintro e w2 ⟨rfl, l, ha, hl, hw⟩
                have HA := Lib.hid ha; have HL := Lib.hid hl; have HW2 := Lib.hid hw; clear ha hl hw HW
                have hll : l.length = g + f := by have := HA.out.perm.length_eq; simp at this; omega
                go_wp2
                all_goals
                  obtain ⟨r, ha, hl, hw⟩ : ∃ r, Alike (ut ++ vt) r ∧ Rise r ∧ p ++ (l ++ ((ut ++ vt) ++ q)) = (p ++ l) ++ (r ++ q) := by
                    have hz0 : vt = [] := List.length_eq_zero_iff.1 (by have := HGH.out; omega)
                    have r2 := R2.out; have r4 := R4.out
                    exact ⟨ut ++ vt, .refl _, by rw [hz0] at *; simpa using r2, by simp⟩
                  have HA2 := Lib.hid ha; have HL2 := Lib.hid hl; have HW3 := HW2; rw [hw] at HW3
                  go_end0
                  have hz := HCUT.out l r HA.out HA2.out HL.out HL2.out
                  exact ⟨rfl, l ++ r, hz.1, hz.2, by simpa using HW3.out⟩
              · have k1 : (i : Int) < (m : Int) := by omega
                have k2 : (m : Int) < (en : Int) := by omega
                have k3 : (a : Int) < (i : Int) := by omega
                have k4 : (i : Int) < (mid : Int) := by omega
                have k5 : (mid : Int) < (en : Int) := by omega
                have k6 : (en : Int) < (b : Int) := by omega
                clear hg hf hen
                go_wp2_with fail
                refine (rotate_any w0 base gb cap off n _ i m en (p ++ us) ut vs (vt ++ q) _ _ (by simpa using HR4.out) (by have := HGH.out; simp; omega) (by have := HGH.out; omega) (by have := HGH.out; omega) (by have := HGH.out; omega) (by have := HGH.out; omega) (by have := HGH.out; omega) hn).mono ?_
                rintro e w1 ⟨rfl, hw1⟩
                have HW : Hid (RowC w0 base gb cap (p ++ (us ++ (vs ++ ((ut ++ vt) ++ q)))) w1) := by show RowC _ _ _ _ _ _; simpa using hw1
                clear hw1 HR4
                go_wp2_with fail
                refine (IH a i mid p us vs ((ut ++ vt) ++ q) _ (by have := HNN.out; have := HGH.out; simp; omega) HW.out ML.out R1.out R3.out hp (by have := HGH.out; omega) (by have := HGH.out; omega) (by have := HGH.out; omega) (by have := HGH.out; omega) (by have := HGH.out; omega) hn).mono ?_
                rintro e w2 ⟨rfl, l, ha, hl, hw⟩
                have HA := Lib.hid ha; have HL := Lib.hid hl; have HW2 := Lib.hid hw; clear ha hl hw HW
                have hll : l.length = g + f := by have := HA.out.perm.length_eq; simp at this; omega
                go_wp2_with fail
                refine (IH mid en b (p ++ l) ut vt q _ (by have := HNN.out; have := HGH.out; simp; omega) (by simpa using HW2.out) MR.out R2.out R4.out (by have := HGH.out; simp; omega) (by have := HGH.out; omega) (by have := HGH.out; omega) (by have := HGH.out; omega) (by have := HGH.out; omega) hb hn).mono ?_
                rintro e w3 ⟨rfl, r, ha, hl, hw⟩
                have HA2 := Lib.hid ha; have HL2 := Lib.hid hl; have HW3 := Lib.hid hw; clear ha hl hw HW2
                go_wp2
                go_end0
                have hz := HCUT.out l r HA.out HA2.out HL.out HL2.out
                exact ⟨rfl, l ++ r, hz.1, hz.2, by simpa using HW3.out⟩
end Go.Proofs.Pt
end

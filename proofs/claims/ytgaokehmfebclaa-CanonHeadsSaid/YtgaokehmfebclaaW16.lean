/- The walk of the library's stable sort in place, at rows of marks: it is the order by class, what is of one class as it stood. -/
import Derived.Test.YtgaokehmfebclaaW15
namespace Go.Proofs.Pt
open Go Go.RowKit Go.Proofs.YtgaokehmfebclaaW.PrintWords

theorem symMerge_any (w0 : World) (base gb cap off n cv : Nat) : ∀ N : Nat, MergeTo N w0 base gb cap off n cv := by
  intro N
  induction N with
  | zero =>
    intro a m b p u v q w hN _ _ _ _ _ _ _ h0
    have h1 : u.length + v.length ≤ 0 := by simpa using hN
    omega
  | succ N ih =>
    intro a m b p u v q w hN h hu hr hs hp hul hvl hu0 hv0 hb hn
    by_cases h1 : u.length = 1
    · obtain ⟨x, rfl⟩ := List.length_eq_one_iff.1 h1
      exact symMerge_left w0 base gb cap off n cv a m b p x v q w (by simpa using h) (by simpa using hu) hs hp hul hvl hb hn
    · by_cases h2 : v.length = 1
      · obtain ⟨y, rfl⟩ := List.length_eq_one_iff.1 h2
        exact symMerge_right w0 base gb cap off n cv a m b p u y q w (by simpa using h) hu hr hp hul h1 hvl hb hn
      · exact symMerge_step N w0 base gb cap off n cv ih a m b p u v q w hN h hu hr hs hp hul hvl (by omega) (by omega) hb hn
def StabPost (w0 : World) (base gb cap : Nat) (p u q : List Int) (e : Ending) (w' : World) : Prop := e = .returned (.tuple #[]) ∧ ∃ u', Alike u u' ∧ Rise u' ∧ RowC w0 base gb cap (p ++ (u' ++ q)) w'
set_option maxHeartbeats 4000000 in
set_option maxRecDepth 100000 in
theorem stable_any (w0 : World) (base gb cap off n cv : Nat) (p u q : List Int) (w : World) (h : RowC w0 base gb cap (p ++ (u ++ q)) w) (hu : AllM u) (hp : p.length = off) (hul : u.length = n) (hn : n < 17592186044416) :
    Calls Try.prog 27 #[.slice (some ⟨gb, off, none⟩) n cv, .int .i64 n, .func (.func 19) #[] #[]] w (StabPost w0 base gb cap p u q) := by
  have H := Lib.hid h; clear h
  have HU := Lib.hid hu; clear hu
  go_enter Try.func27, Try.ntmps27
  go_wp2_with fail
  go_loopw [7, 8] (fun va vb wr => ∃ (a b : Nat) (d t : List Int), va = .int .i64 a ∧ vb = .int .i64 b ∧ Hid (b = a + 20) ∧ d.length = a ∧ a + t.length = n ∧ Hid (Alike u (d ++ t) ∧ Full 20 d ∧ RowC w0 base gb cap (p ++ (d ++ (t ++ q))) wr)) (fun va _ _ => n - (intOf va).toNat)
  case atStart => exact ⟨0, 20, [], u, rfl, rfl, rfl, rfl, by omega, .refl _, .nil, by simpa using H.out⟩
  case round =>
    clear H
    obtain ⟨a, b, d, t, rfl, rfl, hb, hd, ht, HR⟩ := hrel
    have hb' := hb.out
    by_cases hlt : b ≤ n
    · have hz : (b : Int) ≤ (n : Int) := by omega
      have r1 : IntKind.i64.wrap ((b : Int) + 20) = ((b + 20 : Nat) : Int) := by rw [IntKind.wrap_i64]; omega
      have HM : Hid (AllM (t.take 20)) := fun z hz => HU.out z (HR.out.1.perm.mem_iff.2 (by simp [mem_take hz]))
      have HC : Hid (RowC w0 base gb cap ((p ++ d) ++ (t.take 20 ++ (t.drop 20 ++ q))) wr) := by show RowC _ _ _ _ _ _; rw [← List.append_assoc (t.take 20), List.take_append_drop]; simpa using HR.out.2.2
      have HA : Hid (Alike u (d ++ t) ∧ Full 20 d) := ⟨HR.out.1, HR.out.2.1⟩
      clear HR hb'
      go_wp2_with fail
      refine (insertion_any w0 base gb cap off n cv a b (p ++ d) (t.take 20) (t.drop 20 ++ q) _ HC.out HM.out (by simp; omega) (by have := hb.out; simp; omega) hlt hn).mono ?_
      rintro e w1 ⟨rfl, t1, ha1, hr1, hw1⟩
      have hl1 : t1.length = 20 := by have := ha1.perm.length_eq; have h2 := hb.out; simp at this; omega
      have HN : Hid (Alike u ((d ++ t1) ++ t.drop 20) ∧ Full 20 (d ++ t1) ∧ RowC w0 base gb cap (p ++ ((d ++ t1) ++ (t.drop 20 ++ q))) w1) := by
        refine ⟨?_, .snoc d t1 HA.out.2 hr1 hl1, by simpa using hw1⟩
        have h2 := (ha1.left d).right (t.drop 20)
        rw [List.append_assoc d (t.take 20), List.take_append_drop] at h2
        exact .trans HA.out.1 h2
      clear ha1 hr1 hw1 HC HM HA
      go_wp2
      go_roundw
      case measure => have := hb.out; simp [intOf]; omega
      case rel => exact ⟨b, b + 20, d ++ t1, t.drop 20, rfl, by first | rfl | go_num, rfl, by have := hb.out; simp; omega, by have := hb.out; simp; omega, HN.out⟩
    · have hz : ¬ (b : Int) ≤ (n : Int) := by omega
      have htl : t.length < 20 := by omega
      have HM : Hid (AllM t) := fun z hz => HU.out z (HR.out.1.perm.mem_iff.2 (by simp [hz]))
      have HC : Hid (RowC w0 base gb cap ((p ++ d) ++ (t ++ q)) wr) := by show RowC _ _ _ _ _ _; simpa using HR.out.2.2
      have HA : Hid (Alike u (d ++ t) ∧ Full 20 d) := ⟨HR.out.1, HR.out.2.1⟩
      clear HR hb' hb
      go_wp2_with fail
      refine (insertion_any w0 base gb cap off n cv a n (p ++ d) t q _ HC.out HM.out (by simp; omega) ht (Nat.le_refl _) hn).mono ?_
      rintro e w1 ⟨rfl, t1, ha1, hr1, hw1⟩
      have hl1 : t1.length = t.length := ha1.perm.length_eq.symm
      have HN : Hid (∃ l, Alike u l ∧ Blocks 20 l ∧ RowC w0 base gb cap (p ++ (l ++ q)) w1) := ⟨d ++ t1, .trans HA.out.1 (ha1.left d), HA.out.2.blocks (.last t1 hr1 (by omega)), by simpa using hw1⟩
      clear ha1 hr1 hw1 HC HM HA hl1 htl hd ht hz hlt
      go_wp2_with fail
      go_loopw [6] (fun vs wr => ∃ s : Nat, vs = .int .i64 s ∧ 0 < s ∧ Hid (∃ l, Alike u l ∧ Blocks s l ∧ RowC w0 base gb cap (p ++ (l ++ q)) wr)) (fun vs _ => n - (intOf vs).toNat)
      case atStart => exact ⟨20, rfl, by omega, HN⟩
      case round =>
        clear HN
        obtain ⟨s, rfl, hs0, HR⟩ := hrel
        by_cases hlt : s < n
        · have hz : (s : Int) < (n : Int) := by omega
          have r1 : IntKind.i64.wrap (2 * (s : Int)) = ((2 * s : Nat) : Int) := by rw [IntKind.wrap_i64]; omega
          have r2 : IntKind.i64.wrap ((s : Int) * 2) = ((2 * s : Nat) : Int) := by rw [IntKind.wrap_i64]; omega
          obtain ⟨l, hl1, hl2, hl3⟩ := HR.out
          have hll : l.length = n := by rw [← hl1.perm.length_eq]; exact hul
          have HS : Hid (Alike u l ∧ Blocks s l ∧ RowC w0 base gb cap (p ++ (l ++ q)) wr) := ⟨hl1, hl2, hl3⟩
          clear hl1 hl2 hl3 HR
          obtain ⟨s2, hs2⟩ : ∃ s2, s2 = 2 * s := ⟨_, rfl⟩
          rw [← hs2] at r1 r2
          have HS2 := Lib.hid hs2; clear hs2
          go_wp2_with fail
          go_loopw [7, 8] (fun va vb wr => ∃ (a b : Nat) (d t : List Int), va = .int .i64 a ∧ vb = .int .i64 b ∧ Hid (b = a + s2) ∧ d.length = a ∧ a + t.length = n ∧ Hid (Alike u (d ++ t) ∧ Full s2 d ∧ Blocks s t ∧ RowC w0 base gb cap (p ++ (d ++ (t ++ q))) wr)) (fun va _ _ => n - (intOf va).toNat)
          case atStart => exact ⟨0, s2, [], l, rfl, rfl, (by show _ = _; omega), rfl, by omega, HS.out.1, .nil, HS.out.2.1, by simpa using HS.out.2.2⟩
          case round =>
            clear HS
            obtain ⟨a, b, d, t, rfl, rfl, hb, hd, ht, HR⟩ := hrel
            have hb' := hb.out
            have hs2' := HS2.out
            by_cases hle : b ≤ n
            · have hz2 : (b : Int) ≤ (n : Int) := by omega
              have r3 : IntKind.i64.wrap ((b : Int) + (s2 : Int)) = ((b + s2 : Nat) : Int) := by rw [IntKind.wrap_i64]; omega
              obtain ⟨mm, hmm⟩ : ∃ mm, mm = a + s := ⟨_, rfl⟩
              have r4 : IntKind.i64.wrap ((a : Int) + (s : Int)) = (mm : Int) := by rw [IntKind.wrap_i64]; omega
              have HMM := Lib.hid hmm
              obtain ⟨h1, h2, h3, h4⟩ := HR.out
              obtain ⟨x, y, t', rfl, hx, hy, hrx, hry, hbt⟩ := h3.two (by omega)
              have HM : Hid (AllM (x ++ y)) := fun z hz => HU.out z (h1.perm.mem_iff.2 (by rcases List.mem_append.1 hz with h | h <;> simp [h]))
              have HC : Hid (RowC w0 base gb cap ((p ++ d) ++ (x ++ (y ++ (t' ++ q)))) wr) := by show RowC _ _ _ _ _ _; simpa using h4
              have HA : Hid (Alike u (d ++ (x ++ (y ++ t'))) ∧ Full s2 d ∧ Rise x ∧ Rise y ∧ Blocks s t') := ⟨h1, h2, hrx, hry, hbt⟩
              have htl : a + (s + (s + t'.length)) = n := by simp at ht; omega
              have q1 : a + x.length = mm := by omega
              have q2 : mm + y.length = b := by omega
              have q3 : (p ++ d).length = off + a := by simp; omega
              have q4 : 0 < x.length := by omega
              have q5 : 0 < y.length := by omega
              clear HR h1 h2 h3 h4 hrx hry hbt ht hmm hb'
              go_wp2_with fail
              refine (symMerge_any w0 base gb cap off n cv _ a mm b (p ++ d) x y (t' ++ q) _ (Nat.le_refl _) HC.out HM.out HA.out.2.2.1 HA.out.2.2.2.1 q3 q1 q2 q4 q5 hle hn).mono ?_
              rintro e w1 ⟨rfl, z, hz1, hz3, hz4⟩
              have hzl : z.length = s2 := by have := hz1.perm.length_eq; simp at this; omega
              have HN : Hid (Alike u ((d ++ z) ++ t') ∧ Full s2 (d ++ z) ∧ Blocks s t' ∧ RowC w0 base gb cap (p ++ ((d ++ z) ++ (t' ++ q))) w1) := by
                refine ⟨?_, .snoc d z HA.out.2.1 hz3 hzl, HA.out.2.2.2.2, by simpa using hz4⟩
                have h2 := (hz1.left d).right t'
                exact .trans HA.out.1 (by simpa using h2)
              clear hz1 hz3 hz4 HC HM HA hs2'
              go_wp2
              go_roundw
              case measure => have := hb.out; have := HS2.out; simp [intOf]; omega
              case rel => exact ⟨b, b + s2, d ++ z, t', rfl, by first | rfl | go_num, rfl, by have := hb.out; simp; omega, by have := hb.out; have := HS2.out; omega, HN.out⟩
            · have hz2 : ¬ (b : Int) ≤ (n : Int) := by omega
              obtain ⟨mm, hmm⟩ : ∃ mm, mm = a + s := ⟨_, rfl⟩
              have r4 : IntKind.i64.wrap ((a : Int) + (s : Int)) = (mm : Int) := by rw [IntKind.wrap_i64]; omega
              have HMM := Lib.hid hmm
              obtain ⟨h1, h2, h3, h4⟩ := HR.out
              by_cases hmn : mm < n
              · have hz3 : (mm : Int) < (n : Int) := by omega
                obtain ⟨x, y, rfl, hx, hrx, hy⟩ := h3.one (by omega)
                have hyl : a + (s + y.length) = n := by simp at ht; omega
                have hry := hy.rise (by omega)
                have HM : Hid (AllM (x ++ y)) := fun z hz => HU.out z (h1.perm.mem_iff.2 (by rcases List.mem_append.1 hz with h | h <;> simp [h]))
                have HC : Hid (RowC w0 base gb cap ((p ++ d) ++ (x ++ (y ++ q))) wr) := by show RowC _ _ _ _ _ _; simpa using h4
                have HA : Hid (Alike u (d ++ (x ++ y)) ∧ Full s2 d ∧ Rise x ∧ Rise y) := ⟨h1, h2, hrx, hry⟩
                have HB : Hid (¬ b ≤ n) := hle
                have q1 : a + x.length = mm := by omega
                have q2 : mm + y.length = n := by omega
                have q3 : (p ++ d).length = off + a := by simp; omega
                have q4 : 0 < x.length := by omega
                have q5 : 0 < y.length := by omega
                clear HR h1 h2 h3 h4 hrx hry hy ht hmm hb'
                go_wp2_with fail
                refine (symMerge_any w0 base gb cap off n cv _ a mm n (p ++ d) x y q _ (Nat.le_refl _) HC.out HM.out HA.out.2.2.1 HA.out.2.2.2 q3 q1 q2 q4 q5 (Nat.le_refl _) hn).mono ?_
                rintro e w1 ⟨rfl, z, hz1, hz3, hz4⟩
                have hzl : z.length ≤ s2 := by have h1 := hz1.perm.length_eq; have := hb.out; rw [List.length_append] at h1; omega
                have HN : Hid (∃ l, Alike u l ∧ Blocks s2 l ∧ RowC w0 base gb cap (p ++ (l ++ q)) w1) := ⟨d ++ z, .trans HA.out.1 (hz1.left d), HA.out.2.1.blocks (.last z hz3 hzl), by simpa using hz4⟩
                clear hz1 hz3 hz4 HC HM HA hs2'
                go_wp2
                go_roundw
                case measure => have := HS2.out; simp [intOf]; omega
                case rel => exact ⟨s2, rfl, by have := HS2.out; omega, HN⟩
              · have hz3 : ¬ (mm : Int) < (n : Int) := by omega
                have HN : Hid (∃ l, Alike u l ∧ Blocks s2 l ∧ RowC w0 base gb cap (p ++ (l ++ q)) wr) := ⟨d ++ t, h1, h2.blocks (.last t (h3.rise (by omega)) (by omega)), by simpa using h4⟩
                clear HR h1 h2 h3 h4 hb' hs2' hmm
                go_wp2
                go_roundw
                case measure => have := HS2.out; simp [intOf]; omega
                case rel => exact ⟨s2, rfl, by have := HS2.out; omega, HN⟩
        · have hz : ¬ (s : Int) < (n : Int) := by omega
          obtain ⟨l, hl1, hl2, hl3⟩ := HR.out
          have hll : l.length = n := by rw [← hl1.perm.length_eq]; exact hul
          have HS : Hid (Alike u l ∧ Rise l ∧ RowC w0 base gb cap (p ++ (l ++ q)) wr) := ⟨hl1, hl2.rise (by omega), hl3⟩
          clear hl1 hl2 hl3 HR
          go_wp2
          go_end0
          exact ⟨rfl, l, HS.out.1, HS.out.2.1, HS.out.2.2⟩
end Go.Proofs.Pt

/- Lemmas and walks that the claims of this seat share: several texts, joined. -/
import Derived.Test.YtjgdnhmbfeekoaaGreatDoorGa4
import Derived.Test.YtjgdnhmbfeekoaaGreatDoorGw3
import Derived.Test.YtjgdnhmbfeekoaaGreatDoorGa2
import Derived.Test.YtjgdnhmbfeekoaaGreatDoorProg
import Derived.Below
import Derived.Deep.Draws
import Derived.Deep.AppendLies
import Derived.Maps.AppendAt
import Derived.OwnWalk
import Derived.Laws.BytesArg
import Derived.Laws.MakeOwn
import Derived.Laws.OwnMore
import Derived.Deep.OwnRows
import Derived.Tactics
import Derived.Lib.ConvBytes
import Derived.Laws.Slices
import Derived.WalkKit
import Derived.KernelRfl
import Derived.RowKit3
import Derived.Deep.LoopGhost
import Derived.Deep.QuietTactic
import Derived.BigQuiet
import Derived.WideLaws
import Derived.Deep.DeepCutAuto
import Derived.Deep.CutBlock
import Derived.Deep.RegionHeld3
import Derived.Laws.Rows
import Derived.Lib.AppendStr
import Derived.ArgAppend
import Derived.Laws.IdiomCopy
import Derived.OrdersHeld
import Derived.Laws.BitsLemmas
import Derived.RowKit
import Derived.Test.YtjgdnhmbfeekoaaGreatDoorGw1
import Derived.Test.YtjgdnhmbfeekoaaGreatDoorGw2
/- ==== the text W16 ==== -/
section
/- The walk of the library's stable sort in place, at rows of marks: it is the order by class, what is of one class as it stood. -/
namespace Go.Proofs.Pt
open Go Go.RowKit Go.Proofs.YtjgdnhmbfeekoaaGreatDoorW.PrintWords

theorem symMerge_any (w0 : World) (base gb cap off n cv : Nat) : ∀ N : Nat, MergeTo N w0 base gb cap off n cv := by
  intro N
  induction N with
  | zero =>
    intro a m b p u v q w hN _ _ _ _ _ _ _ h0
    have h1 : u.length + v.length ≤ 0 := by simpa using hN
    omega
  | succ N ih =>
    intro a m b p u v q w hN h hu hr hs hp hul hvl hu0 hv0 hb hn
    by_cases h1 : u.length = 1
    · obtain ⟨x, rfl⟩ := List.length_eq_one_iff.1 h1
      exact symMerge_left w0 base gb cap off n cv a m b p x v q w (by simpa using h) (by simpa using hu) hs hp hul hvl hb hn
    · by_cases h2 : v.length = 1
      · obtain ⟨y, rfl⟩ := List.length_eq_one_iff.1 h2
        exact symMerge_right w0 base gb cap off n cv a m b p u y q w (by simpa using h) hu hr hp hul h1 hvl hb hn
      · exact symMerge_step N w0 base gb cap off n cv ih a m b p u v q w hN h hu hr hs hp hul hvl (by omega) (by omega) hb hn
def StabPost (w0 : World) (base gb cap : Nat) (p u q : List Int) (e : Ending) (w' : World) : Prop := e = .returned (.tuple #[]) ∧ ∃ u', Alike u u' ∧ Rise u' ∧ RowC w0 base gb cap (p ++ (u' ++ q)) w'
set_option maxHeartbeats 4000000 in
set_option maxRecDepth 100000 in
theorem stable_any (w0 : World) (base gb cap off n cv : Nat) (p u q : List Int) (w : World) (h : RowC w0 base gb cap (p ++ (u ++ q)) w) (hu : AllM u) (hp : p.length = off) (hul : u.length = n) (hn : n < 17592186044416) :
    Calls Tryz.prog 91 #[.slice (some ⟨gb, off, none⟩) n cv, .int .i64 n, .func (.func 64) #[] #[]] w (StabPost w0 base gb cap p u q) := by
  have H := Lib.hid h; clear h
  have HU := Lib.hid hu; clear hu
  go_enter Tryz.func91, Tryz.ntmps91
  go_wp2_with fail
  go_loopw [7, 8] (fun va vb wr => ∃ (a b : Nat) (d t : List Int), va = .int .i64 a ∧ vb = .int .i64 b ∧ Hid (b = a + 20) ∧ d.length = a ∧ a + t.length = n ∧ Hid (Alike u (d ++ t) ∧ Full 20 d ∧ RowC w0 base gb cap (p ++ (d ++ (t ++ q))) wr)) (fun va _ _ => n - (intOf va).toNat)
  case atStart => exact ⟨0, 20, [], u, rfl, rfl, rfl, rfl, by omega, .refl _, .nil, by simpa using H.out⟩
  case round =>
    clear H
    obtain ⟨a, b, d, t, rfl, rfl, hb, hd, ht, HR⟩ := hrel
    have hb' := hb.out
    by_cases hlt : b ≤ n
    · have hz : (b : Int) ≤ (n : Int) := by omega
      have r1 : IntKind.i64.wrap ((b : Int) + 20) = ((b + 20 : Nat) : Int) := by rw [IntKind.wrap_i64]; omega
      have HM : Hid (AllM (t.take 20)) := fun z hz => HU.out z (HR.out.1.perm.mem_iff.2 (by simp [mem_take hz]))
      have HC : Hid (RowC w0 base gb cap ((p ++ d) ++ (t.take 20 ++ (t.drop 20 ++ q))) wr) := by show RowC _ _ _ _ _ _; rw [← List.append_assoc (t.take 20), List.take_append_drop]; simpa using HR.out.2.2
      have HA : Hid (Alike u (d ++ t) ∧ Full 20 d) := ⟨HR.out.1, HR.out.2.1⟩
      clear HR hb'
      go_wp2_with fail
      refine (insertion_any w0 base gb cap off n cv a b (p ++ d) (t.take 20) (t.drop 20 ++ q) _ HC.out HM.out (by simp; omega) (by have := hb.out; simp; omega) hlt hn).mono ?_
      rintro e w1 ⟨rfl, t1, ha1, hr1, hw1⟩
      have hl1 : t1.length = 20 := by have := ha1.perm.length_eq; have h2 := hb.out; simp at this; omega
      have HN : Hid (Alike u ((d ++ t1) ++ t.drop 20) ∧ Full 20 (d ++ t1) ∧ RowC w0 base gb cap (p ++ ((d ++ t1) ++ (t.drop 20 ++ q))) w1) := by
        refine ⟨?_, .snoc d t1 HA.out.2 hr1 hl1, by simpa using hw1⟩
        have h2 := (ha1.left d).right (t.drop 20)
        rw [List.append_assoc d (t.take 20), List.take_append_drop] at h2
        exact .trans HA.out.1 h2
      clear ha1 hr1 hw1 HC HM HA
      go_wp2
      go_roundw
      case measure => have := hb.out; simp [intOf]; omega
      case rel => exact ⟨b, b + 20, d ++ t1, t.drop 20, rfl, by first | rfl | go_num, rfl, by have := hb.out; simp; omega, by have := hb.out; simp; omega, HN.out⟩
    · have hz : ¬ (b : Int) ≤ (n : Int) := by omega
      have htl : t.length < 20 := by omega
      have HM : Hid (AllM t) := fun z hz => HU.out z (HR.out.1.perm.mem_iff.2 (by simp [hz]))
      have HC : Hid (RowC w0 base gb cap ((p ++ d) ++ (t ++ q)) wr) := by show RowC _ _ _ _ _ _; simpa using HR.out.2.2
      have HA : Hid (Alike u (d ++ t) ∧ Full 20 d) := ⟨HR.out.1, HR.out.2.1⟩
      clear HR hb' hb
      go_wp2_with fail
      refine (insertion_any w0 base gb cap off n cv a n (p ++ d) t q _ HC.out HM.out (by simp; omega) ht (Nat.le_refl _) hn).mono ?_
      rintro e w1 ⟨rfl, t1, ha1, hr1, hw1⟩
      have hl1 : t1.length = t.length := ha1.perm.length_eq.symm
      have HN : Hid (∃ l, Alike u l ∧ Blocks 20 l ∧ RowC w0 base gb cap (p ++ (l ++ q)) w1) := ⟨d ++ t1, .trans HA.out.1 (ha1.left d), HA.out.2.blocks (.last t1 hr1 (by omega)), by simpa using hw1⟩
      clear ha1 hr1 hw1 HC HM HA hl1 htl hd ht hz hlt
      go_wp2_with fail
      go_loopw [6] (fun vs wr => ∃ s : Nat, vs = .int .i64 s ∧ 0 < s ∧ Hid (∃ l, Alike u l ∧ Blocks s l ∧ RowC w0 base gb cap (p ++ (l ++ q)) wr)) (fun vs _ => n - (intOf vs).toNat)
      case atStart => exact ⟨20, rfl, by omega, HN⟩
      case round =>
        clear HN
        obtain ⟨s, rfl, hs0, HR⟩ := hrel
        by_cases hlt : s < n
        · have hz : (s : Int) < (n : Int) := by omega
          have r1 : IntKind.i64.wrap (2 * (s : Int)) = ((2 * s : Nat) : Int) := by rw [IntKind.wrap_i64]; omega
          have r2 : IntKind.i64.wrap ((s : Int) * 2) = ((2 * s : Nat) : Int) := by rw [IntKind.wrap_i64]; omega
          obtain ⟨l, hl1, hl2, hl3⟩ := HR.out
          have hll : l.length = n := by rw [← hl1.perm.length_eq]; exact hul
          have HS : Hid (Alike u l ∧ Blocks s l ∧ RowC w0 base gb cap (p ++ (l ++ q)) wr) := ⟨hl1, hl2, hl3⟩
          clear hl1 hl2 hl3 HR
          obtain ⟨s2, hs2⟩ : ∃ s2, s2 = 2 * s := ⟨_, rfl⟩
          rw [← hs2] at r1 r2
          have HS2 := Lib.hid hs2; clear hs2
          go_wp2_with fail
          go_loopw [7, 8] (fun va vb wr => ∃ (a b : Nat) (d t : List Int), va = .int .i64 a ∧ vb = .int .i64 b ∧ Hid (b = a + s2) ∧ d.length = a ∧ a + t.length = n ∧ Hid (Alike u (d ++ t) ∧ Full s2 d ∧ Blocks s t ∧ RowC w0 base gb cap (p ++ (d ++ (t ++ q))) wr)) (fun va _ _ => n - (intOf va).toNat)
          case atStart => exact ⟨0, s2, [], l, rfl, rfl, (by show _ = _; omega), rfl, by omega, HS.out.1, .nil, HS.out.2.1, by simpa using HS.out.2.2⟩
          case round =>
            clear HS
            obtain ⟨a, b, d, t, rfl, rfl, hb, hd, ht, HR⟩ := hrel
            have hb' := hb.out
            have hs2' := HS2.out
            by_cases hle : b ≤ n
            · have hz2 : (b : Int) ≤ (n : Int) := by omega
              have r3 : IntKind.i64.wrap ((b : Int) + (s2 : Int)) = ((b + s2 : Nat) : Int) := by rw [IntKind.wrap_i64]; omega
              obtain ⟨mm, hmm⟩ : ∃ mm, mm = a + s := ⟨_, rfl⟩
              have r4 : IntKind.i64.wrap ((a : Int) + (s : Int)) = (mm : Int) := by rw [IntKind.wrap_i64]; omega
              have HMM := Lib.hid hmm
              obtain ⟨h1, h2, h3, h4⟩ := HR.out
              obtain ⟨x, y, t', rfl, hx, hy, hrx, hry, hbt⟩ := h3.two (by omega)
              have HM : Hid (AllM (x ++ y)) := fun z hz => HU.out z (h1.perm.mem_iff.2 (by rcases List.mem_append.1 hz with h | h <;> simp [h]))
              have HC : Hid (RowC w0 base gb cap ((p ++ d) ++ (x ++ (y ++ (t' ++ q)))) wr) := by show RowC _ _ _ _ _ _; simpa using h4
              have HA : Hid (Alike u (d ++ (x ++ (y ++ t'))) ∧ Full s2 d ∧ Rise x ∧ Rise y ∧ Blocks s t') := ⟨h1, h2, hrx, hry, hbt⟩
              have htl : a + (s + (s + t'.length)) = n := by simp at ht; omega
              have q1 : a + x.length = mm := by omega
              have q2 : mm + y.length = b := by omega
              have q3 : (p ++ d).length = off + a := by simp; omega
              have q4 : 0 < x.length := by omega
              have q5 : 0 < y.length := by omega
              clear HR h1 h2 h3 h4 hrx hry hbt ht hmm hb'
              go_wp2_with fail
              refine (symMerge_any w0 base gb cap off n cv _ a mm b (p ++ d) x y (t' ++ q) _ (Nat.le_refl _) HC.out HM.out HA.out.2.2.1 HA.out.2.2.2.1 q3 q1 q2 q4 q5 hle hn).mono ?_
              rintro e w1 ⟨rfl, z, hz1, hz3, hz4⟩
              have hzl : z.length = s2 := by have := hz1.perm.length_eq; simp at this; omega
              have HN : Hid (Alike u ((d ++ z) ++ t') ∧ Full s2 (d ++ z) ∧ Blocks s t' ∧ RowC w0 base gb cap (p ++ ((d ++ z) ++ (t' ++ q))) w1) := by
                refine ⟨?_, .snoc d z HA.out.2.1 hz3 hzl, HA.out.2.2.2.2, by simpa using hz4⟩
                have h2 := (hz1.left d).right t'
                exact .trans HA.out.1 (by simpa using h2)
              clear hz1 hz3 hz4 HC HM HA hs2'
              go_wp2
              go_roundw
              case measure => have := hb.out; have := HS2.out; simp [intOf]; omega
              case rel => exact ⟨b, b + s2, d ++ z, t', rfl, by first | rfl | go_num, rfl, by have := hb.out; simp; omega, by have := hb.out; have := HS2.out; omega, HN.out⟩
            · have hz2 : ¬ (b : Int) ≤ (n : Int) := by omega
              obtain ⟨mm, hmm⟩ : ∃ mm, mm = a + s := ⟨_, rfl⟩
              have r4 : IntKind.i64.wrap ((a : Int) + (s : Int)) = (mm : Int) := by rw [IntKind.wrap_i64]; omega
              have HMM := Lib.hid hmm
              obtain ⟨h1, h2, h3, h4⟩ := HR.out
              by_cases hmn : mm < n
              · have hz3 : (mm : Int) < (n : Int) := by omega
                obtain ⟨x, y, rfl, hx, hrx, hy⟩ := h3.one (by omega)
                have hyl : a + (s + y.length) = n := by simp at ht; omega
                have hry := hy.rise (by omega)
                have HM : Hid (AllM (x ++ y)) := fun z hz => HU.out z (h1.perm.mem_iff.2 (by rcases List.mem_append.1 hz with h | h <;> simp [h]))
                have HC : Hid (RowC w0 base gb cap ((p ++ d) ++ (x ++ (y ++ q))) wr) := by show RowC _ _ _ _ _ _; simpa using h4
                have HA : Hid (Alike u (d ++ (x ++ y)) ∧ Full s2 d ∧ Rise x ∧ Rise y) := ⟨h1, h2, hrx, hry⟩
                have HB : Hid (¬ b ≤ n) := hle
                have q1 : a + x.length = mm := by omega
                have q2 : mm + y.length = n := by omega
                have q3 : (p ++ d).length = off + a := by simp; omega
                have q4 : 0 < x.length := by omega
                have q5 : 0 < y.length := by omega
                clear HR h1 h2 h3 h4 hrx hry hy ht hmm hb'
                go_wp2_with fail
                refine (symMerge_any w0 base gb cap off n cv _ a mm n (p ++ d) x y q _ (Nat.le_refl _) HC.out HM.out HA.out.2.2.1 HA.out.2.2.2 q3 q1 q2 q4 q5 (Nat.le_refl _) hn).mono ?_
                rintro e w1 ⟨rfl, z, hz1, hz3, hz4⟩
                have hzl : z.length ≤ s2 := by have h1 := hz1.perm.length_eq; have := hb.out; rw [List.length_append] at h1; omega
                have HN : Hid (∃ l, Alike u l ∧ Blocks s2 l ∧ RowC w0 base gb cap (p ++ (l ++ q)) w1) := ⟨d ++ z, .trans HA.out.1 (hz1.left d), HA.out.2.1.blocks (.last z hz3 hzl), by simpa using hz4⟩
                clear hz1 hz3 hz4 HC HM HA hs2'
                go_wp2
                go_roundw
                case measure => have := HS2.out; simp [intOf]; omega
                case rel => exact ⟨s2, rfl, by have := HS2.out; omega, HN⟩
              · have hz3 : ¬ (mm : Int) < (n : Int) := by omega
                have HN : Hid (∃ l, Alike u l ∧ Blocks s2 l ∧ RowC w0 base gb cap (p ++ (l ++ q)) wr) := ⟨d ++ t, h1, h2.blocks (.last t (h3.rise (by omega)) (by omega)), by simpa using h4⟩
                clear HR h1 h2 h3 h4 hb' hs2' hmm
                go_wp2
                go_roundw
                case measure => have := HS2.out; simp [intOf]; omega
                case rel => exact ⟨s2, rfl, by have := HS2.out; omega, HN⟩
        · have hz : ¬ (s : Int) < (n : Int) := by omega
          obtain ⟨l, hl1, hl2, hl3⟩ := HR.out
          have hll : l.length = n := by rw [← hl1.perm.length_eq]; exact hul
          have HS : Hid (Alike u l ∧ Rise l ∧ RowC w0 base gb cap (p ++ (l ++ q)) wr) := ⟨hl1, hl2.rise (by omega), hl3⟩
          clear hl1 hl2 hl3 HR
          go_wp2
          go_end0
          exact ⟨rfl, l, HS.out.1, HS.out.2.1, HS.out.2.2⟩
end Go.Proofs.Pt
end

/- ==== the text W17 ==== -/
section
/- The walks of package canon's values, row, numbers, and of the library's sort's entry. -/
namespace Go.Proofs.Pt
open Go Go.RowKit Go.Proofs.YtjgdnhmbfeekoaaGreatDoorW.PrintWords

theorem sort_any (w0 : World) (base gb cap off n cv : Nat) (p u q : List Int) (w : World) (h : RowC w0 base gb cap (p ++ (u ++ q)) w) (hu : AllM u) (hp : p.length = off) (hul : u.length = n) (hn : n < 17592186044416) :
    Calls Tryz.prog 63 #[.slice (some ⟨gb, off, none⟩) n cv, .func (.func 64) #[] #[]] w (StabPost w0 base gb cap p u q) := by
  have H := Lib.hid h; clear h
  go_enter Tryz.func63, Tryz.ntmps63
  go_wp2_with fail
  refine (stable_any w0 base gb cap off n cv p u q _ H.out hu hp hul hn).mono ?_
  rintro e w1 ⟨rfl, h⟩
  go_wp2
  go_end0
  exact ⟨rfl, h⟩
theorem info_value : (Tryz.prog.info? 75).map (fun i => (i.zero, i.size, i.bytes)) = some (some (.int .i64 0), 1, 8) := by kernel_rfl
set_option maxHeartbeats 1000000 in
theorem values_any (A : Option Addr) (cap : Nat) (l : List Int) (w : World) (hr : Kd.C (Kd.int .i64) w A l.length l) (hl : l.length < 17592186044416) :
    Calls Tryz.prog 61 #[.slice A l.length cap] w fun e w' => ∃ v : Value, e = .returned v ∧ w'.ownsRow w.heap.size 75 1 v l.length (nums .i64 l) ∧ Below w.heap.size w w' := by
  have HR := Lib.hid hr; clear hr
  have HL := Lib.hid hl; clear hl
  go_enter Tryz.func61, Tryz.ntmps61
  go_wp2_with fail
  go_loopw [3, 8] (fun v i wr => ∃ k : Nat, k ≤ l.length ∧ i = .int .i64 k ∧ Hid (wr.ownsRow w.heap.size 75 1 v (l.take k).length (nums .i64 (l.take k))) ∧ Hid (Below w.heap.size w wr)) (fun _ i _ => l.length - (intOf i).toNat)
  case atStart => exact ⟨0, Nat.zero_le _, rfl, own_nil _ _ _ _, Below.refl _ _⟩
  case round =>
    obtain ⟨k, hk, rfl, HO, HB⟩ := hrel
    by_cases hlt : k < l.length
    · obtain ⟨ad, e, hcell⟩ := Kd.at_int HR.out k (by omega) (by omega)
      subst e
      have hcell2 : wr.cell? (ad.add k) = some (.int .i64 (rd l k)) := (HB.out.cell (World.block_lt_of_cell? w _ hcell)).trans hcell
      clear hcell
      have hkz : (k : Int) < (l.length : Int) := by omega
      have hlz : (l.length : Int) < 17592186044416 := by have := HL.out; omega
      have hsn : l.take (k + 1) = l.take k ++ [rd l k] := by
        rw [List.take_succ_eq_append_getElem hlt]
        congr 1
        simp [rd, List.getD_eq_getElem?_getD, List.getElem?_eq_getElem hlt]
      have hlen : (l.take k).length ≤ k := List.length_take_le k l
      have HS := Lib.hid hsn; clear hsn
      have hzz := HB.out.size
      have HZ := Lib.hid hzz; clear hzz
      go_wp2_with (at_builtin; refine print_append_num (w0 := w) w.heap.size rfl (.tmp 12) (.tmp 14) 71 75 .i64 8 rfl Tryz.underlying71 info_value (by decide) _ (l.take k) (rd l k) rfl rfl HO.out HB.out HZ.out (by omega) ?_)
      intro v1 w4 hown hbel _ _
      have HO4 := Lib.hid hown; have HB4 := Lib.hid hbel; clear hown hbel
      go_wp2
      go_roundw
      case measure => simp [intOf]; omega
      case rel => exact ⟨k + 1, by omega, by go_num, by rw [HS.out, show (l.take k ++ [rd l k]).length = k + 1 by simp; omega]; exact HO4, HB4⟩
    · obtain rfl : k = l.length := by omega
      rw [List.take_length] at HO
      go_wp2
      go_ret
      exact ⟨_, rfl, HO.out, HB.out⟩
set_option maxHeartbeats 1000000 in
theorem numbers_any (base : Nat) (A : Option Addr) (cap : Nat) (l : List Int) (w : World) (hr : w.ownsRow base 75 1 (.slice A l.length cap) l.length (nums .i64 l)) (hl : l.length < 17592186044416) :
    Calls Tryz.prog 65 #[.slice A l.length cap] w fun e w' => ∃ v : Value, e = .returned v ∧ w'.ownsRow w.heap.size 3 1 v l.length (nums .i64 l) ∧ Below w.heap.size w w' := by
  have HR := Lib.hid hr; clear hr
  have HL := Lib.hid hl; clear hl
  go_enter Tryz.func65, Tryz.ntmps65
  go_wp2_with fail
  go_loopw [3, 8] (fun v i wr => ∃ k : Nat, k ≤ l.length ∧ i = .int .i64 k ∧ Hid (wr.ownsRow w.heap.size 3 1 v (l.take k).length (nums .i64 (l.take k))) ∧ Hid (Below w.heap.size w wr)) (fun _ i _ => l.length - (intOf i).toNat)
  case atStart => exact ⟨0, Nat.zero_le _, rfl, own_nil _ _ _ _, Below.refl _ _⟩
  case round =>
    obtain ⟨k, hk, rfl, HO, HB⟩ := hrel
    by_cases hlt : k < l.length
    · obtain ⟨gb, cap2, hA, _, _⟩ := HR.out.form (by omega)
      have hA2 : A = some ⟨gb, 0, none⟩ ∧ cap = cap2 := by simpa using hA
      obtain ⟨rfl, rfl⟩ := hA2
      clear hA
      have hcell2 : wr.cell? ⟨gb, k, none⟩ = some (.int .i64 (rd l k)) := by
        rw [(pw_own_below HR.out HB.out).cellAt k (by omega)]
        simp [nums, rd, List.getElem?_eq_getElem hlt, List.getD_eq_getElem?_getD]
      have hkz : (k : Int) < (l.length : Int) := by omega
      have hlz : (l.length : Int) < 17592186044416 := by have := HL.out; omega
      have hsn : l.take (k + 1) = l.take k ++ [rd l k] := by
        rw [List.take_succ_eq_append_getElem hlt]
        congr 1
        simp [rd, List.getD_eq_getElem?_getD, List.getElem?_eq_getElem hlt]
      have hlen : (l.take k).length ≤ k := List.length_take_le k l
      have HS := Lib.hid hsn; clear hsn
      have hzz := HB.out.size
      have HZ := Lib.hid hzz; clear hzz
      go_wp2_with (at_builtin; refine print_append_num (w0 := w) w.heap.size rfl (.tmp 12) (.tmp 14) 25 3 .i64 8 rfl Tryz.underlying25 info_int (by decide) _ (l.take k) (rd l k) rfl rfl HO.out HB.out HZ.out (by omega) ?_)
      intro v1 w4 hown hbel _ _
      have HO4 := Lib.hid hown; have HB4 := Lib.hid hbel; clear hown hbel
      go_wp2
      go_roundw
      case measure => simp [intOf]; omega
      case rel => exact ⟨k + 1, by omega, by go_num, by rw [HS.out, show (l.take k ++ [rd l k]).length = k + 1 by simp; omega]; exact HO4, HB4⟩
    · obtain rfl : k = l.length := by omega
      rw [List.take_length] at HO
      go_wp2
      go_ret
      exact ⟨_, rfl, HO.out, HB.out⟩
def RowPost (t : List Int) (w : World) (e : Ending) (w' : World) : Prop := ∃ k : Nat, e = .returned (.int .i64 k) ∧ k ≤ t.length ∧ AllM (t.take k) ∧ (∀ x, t[k]? = some x → ccc x ≤ 0) ∧ Below w.heap.size w w'
set_option maxHeartbeats 1000000 in
theorem row_any (w0 : World) (base gb cap off n cv : Nat) (p t : List Int) (w : World) (h : RowC w0 base gb cap (p ++ t) w) (hp : p.length = off) (ht : t.length = n) (hn : n < 17592186044416) :
    Calls Tryz.prog 62 #[.slice (some ⟨gb, off, none⟩) n cv] w (RowPost t w) := by
  have H := Lib.hid h; clear h
  go_enter Tryz.func62, Tryz.ntmps62
  go_wp2_with fail
  go_loopw [3] (fun i wr => ∃ k : Nat, k ≤ n ∧ i = .int .i64 k ∧ Hid (AllM (t.take k)) ∧ Hid (Below w.heap.size w wr)) (fun i _ => n - (intOf i).toNat)
  case atStart => exact ⟨0, Nat.zero_le _, rfl, (show AllM (t.take 0) from fun z hz => by simp at hz), Below.refl _ _⟩
  case round =>
    obtain ⟨k, hk, rfl, HM, HB⟩ := hrel
    by_cases hlt : k < n
    · obtain ⟨x, hx⟩ : ∃ x, t[k]? = some x := ⟨t[k], List.getElem?_eq_getElem (by omega)⟩
      have hc : wr.cell? ⟨gb, off + k, none⟩ = some (.int .i64 x) := by
        rw [(H.out.below HB.out).cell (off + k) (by simp; omega), List.getD_eq_getElem?_getD, List.getElem?_append_right (by omega), show off + k - p.length = k by omega, hx]; rfl
      have hkz : (k : Int) < (n : Int) := by omega
      have hxs : t.take (k + 1) = t.take k ++ [x] := by
        obtain ⟨hl, he⟩ := List.getElem?_eq_some_iff.1 hx
        rw [List.take_succ_eq_append_getElem hl, he]
      have HXS := Lib.hid hxs; clear hxs
      have HX := Lib.hid hx; clear hx
      go_wp2_with fail
      refine (mark_any x _).mono ?_
      rintro e w1 ⟨rfl, hb⟩
      have hb2 : Below w.heap.size w w1 := HB.out.trans (hb.mono HB.out.size)
      have HB2 := Lib.hid hb2; clear hb hb2 hc
      by_cases hm : 0 < ccc x
      · have hd : decide (0 < ccc x) = true := decide_eq_true hm
        have HN : Hid (AllM (t.take (k + 1))) := by show AllM _; rw [HXS.out]; exact allM_append.2 ⟨HM.out, fun z hz => by simp at hz; rw [hz]; exact hm⟩
        rw [hd]
        clear hm hd
        go_wp2
        go_roundw
        case measure => simp [intOf]; omega
        case rel => exact ⟨k + 1, by omega, by go_num, HN, HB2⟩
      · have hd : decide (0 < ccc x) = false := decide_eq_false hm
        have HN : Hid (∀ y, t[k]? = some y → ccc y ≤ 0) := fun y hy => by rw [HX.out] at hy; injection hy with hy; rw [← hy]; omega
        rw [hd]
        clear hm hd
        go_wp2
        go_ret
        exact ⟨k, rfl, by omega, HM.out, HN.out, HB2.out⟩
    · obtain rfl : k = n := by omega
      go_wp2
      go_ret
      exact ⟨k, rfl, by omega, HM.out, fun x hx => (by rw [List.getElem?_eq_none (by omega)] at hx; cases hx), HB.out⟩
end Go.Proofs.Pt
end

/- ==== the text W18 ==== -/
section
/- The walk of package canon's Order. -/
namespace Go.Proofs.Pt
open Go Go.RowKit Go.Proofs.YtjgdnhmbfeekoaaGreatDoorW.PrintWords Go.Proofs.YtjgdnhmbfeekoaaGreatDoorW.PrintMore
attribute [local go_sem] max2_int min2_int max_two min_two

theorem RowC.room {w0 w : World} {base gb cap : Nat} {xs : List Int} (h : RowC w0 base gb cap xs w) : xs.length ≤ cap ∧ cap ≤ maxLen := by
  rcases h.own.2 with ⟨h', _⟩ | ⟨g', cap', cur, h', _, _, a, b, _⟩
  · simp at h'
  · simp only [Value.slice.injEq, Option.some.injEq, Addr.mk.injEq, and_true, true_and] at h'
    obtain ⟨_, rfl⟩ := h'
    exact ⟨a, b⟩

/-- What is put in order from the front: the front's part is settled. -/
structure Settled (l d t : List Int) : Prop where
  alike : Alike l (d ++ t)
  steps : Steps d
  edge : (∀ x, d.getLast? = some x → ccc x ≤ 0) ∨ (∀ y, t.head? = some y → ccc y ≤ 0)
theorem Settled.one {l d t : List Int} {x : Int} (h : Settled l d (x :: t)) (hx : ccc x ≤ 0) : Settled l (d ++ [x]) t :=
  ⟨by simpa using h.alike, steps_append h.steps trivial (fun a b _ hb => by simp at hb; subst hb; omega), .inl (fun y hy => by simp at hy; subst hy; exact hx)⟩
theorem Settled.some_ {l d u t u' : List Int} (h : Settled l d (u ++ t)) (hu0 : u ≠ []) (hu : AllM u) (ha : Alike u u') (hr : Rise u') (ht : ∀ y, t.head? = some y → ccc y ≤ 0) : Settled l (d ++ u') t := by
  refine ⟨?_, ?_, .inr ht⟩
  · have := (ha.left d).right t
    exact .trans h.alike (by simpa using this)
  · refine steps_append h.steps (steps_of_rise hr) ?_
    intro a b hla hb hh
    rcases h.edge with he | he
    · have := he a hla; omega
    · obtain ⟨z, u2, rfl⟩ := List.exists_cons_of_ne_nil hu0
      have h1 := he z (by simp)
      have h2 := hu z (by simp)
      omega
theorem Settled.end_ {l d : List Int} (h : Settled l d []) : d = order l := by
  have h1 : order d = d := sorted_of_steps h.steps
  have h2 : Alike l d := by simpa using h.alike
  rw [← h1]; exact h2.order.symm
def lenOf : Value → Nat
  | .slice _ n _ => n
  | _ => 0
def canon_Order.f (l0 : List Int) : Option (List Int) := if l0.length < 17592186044416 then some (order l0) else none
set_option maxHeartbeats 2000000 in
theorem order_some (A0 : Option Addr) (c0 : Nat) (l0 : List Int) (w : World) (hr0 : Kd.C (Kd.int .i64) w A0 l0.length l0) (hlen : l0.length < 17592186044416) (h0 : 0 < l0.length) :
    Calls Tryz.prog 23 #[.slice A0 l0.length c0] w fun e w' => ∃ v0_ : Value, e = .returned (v0_) ∧ Kd.R (Kd.int .i64) 3 w' w.heap.size (fun _ => True) v0_ (order l0) ∧ Below w.heap.size w w' := by
  have HR := Lib.hid hr0; clear hr0
  have HL := Lib.hid hlen; clear hlen
  go_enter Tryz.func23, Tryz.ntmps23
  go_wp2_with fail
  refine (values_any A0 c0 l0 _ HR.out HL.out).mono ?_
  rintro e w1 ⟨v, rfl, ho, hb⟩
  obtain ⟨A, cap, rfl⟩ := own_slice ho
  obtain ⟨gb, cap2, hA, hcap, _⟩ := ho.form h0
  have hA2 : A = some ⟨gb, 0, none⟩ ∧ cap = cap2 := by simpa using hA
  obtain ⟨rfl, rfl⟩ := hA2
  clear hA
  have HC : Hid (RowC w w.heap.size gb cap l0 w1) := ⟨ho, hb⟩
  clear ho hb
  go_wp2_with fail
  have hroom := HC.out.room
  have hmx : maxLen ≤ 9223372036854775807 := by decide
  go_loopw [4] (fun rest wr => ∃ (P : Option Addr) (k cv : Nat) (d t : List Int), rest = .slice P t.length cv ∧ (0 < t.length → P = some ⟨gb, k, none⟩) ∧ d.length = k ∧ k + t.length = l0.length ∧ t.length ≤ cv ∧ cv ≤ 9223372036854775807 ∧ Hid (Settled l0 d t) ∧ Hid (RowC w w.heap.size gb cap (d ++ t) wr)) (fun rest _ => lenOf rest)
  case atStart => exact ⟨_, 0, cap, [], l0, rfl, fun _ => rfl, rfl, by omega, hroom.1, by omega, ⟨.refl _, trivial, .inl (fun x hx => by simp at hx)⟩, HC⟩
  case round =>
    clear HC hroom hmx
    obtain ⟨P, k, cv, d, t, rfl, hP, hd, ht, hcv, hcv2, HS, HR2⟩ := hrel
    by_cases hlt : 0 < t.length
    · obtain rfl := hP hlt
      clear hP
      have htl : t.length < 17592186044416 := by have := HL.out; omega
      have hz : (0 : Int) < (t.length : Int) := by omega
      go_wp2_with fail
      refine (row_any w w.heap.size gb cap k t.length cv d t _ HR2.out hd rfl htl).mono ?_
      rintro e w2 ⟨n, rfl, hn, hm, hx, hb⟩
      have HR3 : Hid (RowC w w.heap.size gb cap (d ++ (t.take n ++ t.drop n)) w2) := by show RowC _ _ _ _ _ _; rw [List.take_append_drop]; exact HR2.out.below hb
      have HM := Lib.hid hm; have HX := Lib.hid hx; clear hm hx hb HR2
      go_wp2_with fail
      refine (sort_any w w.heap.size gb cap k n cv d (t.take n) (t.drop n) _ HR3.out HM.out hd (by simp; omega) (by omega)).mono ?_
      rintro e w3 ⟨rfl, u', ha, hr, hw⟩
      have hul : u'.length = n := by rw [← ha.perm.length_eq]; simp; omega
      by_cases h1 : n = 0
      · subst h1
        obtain ⟨x, t', rfl⟩ : ∃ x t', t = x :: t' := List.exists_cons_of_ne_nil (by intro e; rw [e] at hlt; simp at hlt)
        obtain rfl : u' = [] := List.length_eq_zero_iff.1 hul
        have HN : Hid (Settled l0 (d ++ [x]) t') := HS.out.one (HX.out x rfl)
        have HW : Hid (RowC w w.heap.size gb cap ((d ++ [x]) ++ t') w3) := by show RowC _ _ _ _ _ _; simpa using hw
        clear ha hr hw HS HX HM HR3
        simp only [List.length_cons] at ht hcv htl hz hlt
        go_wp2
        go_roundw
        case measure => simp [lenOf]
        case rel => exact ⟨_, k + 1, cv - 1, d ++ [x], t', rfl, fun h => by rw [if_neg (by omega)], by simp; omega, by omega, by omega, by omega, HN, HW⟩
      · have hn1 : (1 : Int) ≤ (n : Int) := by omega
        have hne : t.take n ≠ [] := by intro e; have := congrArg List.length e; rw [List.length_take, List.length_nil] at this; omega
        have hS2 : Settled l0 d (t.take n ++ t.drop n) := by rw [List.take_append_drop]; exact HS.out
        have HN : Hid (Settled l0 (d ++ u') (t.drop n)) := hS2.some_ hne HM.out ha hr (by intro y hy; rw [List.head?_drop] at hy; exact HX.out y hy)
        have HW : Hid (RowC w w.heap.size gb cap ((d ++ u') ++ t.drop n) w3) := by show RowC _ _ _ _ _ _; simpa using hw
        have hdl : (t.drop n).length = t.length - n := by simp
        clear ha hr hw HS HX HM HR3 hne hS2
        go_wp2
        go_roundw
        case measure => simp [lenOf]; omega
        case rel =>
          refine ⟨(if cv - (n - 1) = 1 then some ⟨gb, k + (n - 1), none⟩ else some ⟨gb, k + (n - 1) + 1, none⟩), k + n, cv - n, d ++ u', t.drop n, ?_, fun h => ?_, by simp; omega, by omega, by omega, by omega, HN, HW⟩
          · rw [hdl, show t.length - (n - 1) - 1 = t.length - n by omega, show cv - (n - 1) - 1 = cv - n by omega]
          · rw [if_neg (by omega), show k + (n - 1) + 1 = k + n by omega]
    · obtain rfl : t = [] := List.length_eq_zero_iff.1 (by omega)
      have hdo := HS.out.end_
      have hr2 := HR2.out
      rw [List.append_nil] at hr2
      have hdl : d.length = l0.length := by simp at ht; omega
      have HO : Hid (wr.ownsRow w.heap.size 75 1 (.slice (some ⟨gb, 0, none⟩) d.length cap) d.length (nums .i64 d)) := hr2.own
      have HB : Hid (Below w.heap.size w wr) := hr2.bel
      have HD := Lib.hid hdo
      clear hr2 HR2 HS hdo hP
      have hc := numbers_any w.heap.size (some ⟨gb, 0, none⟩) cap d wr HO.out (by have := HL.out; omega)
      rw [hdl] at hc
      have HC := Lib.hid hc
      have HDL := Lib.hid hdl
      clear hc hdl ht hd
      go_wp2_with fail
      refine HC.out.mono ?_
      rintro e w4 ⟨v, rfl, ho, hb⟩
      have HO4 := Lib.hid (own_weaken ho HB.out.size)
      have HB4 : Hid (Below w.heap.size w w4) := HB.out.trans (hb.mono HB.out.size)
      clear ho hb HO HB
      go_wp2
      go_ret
      exact ⟨_, rfl, Kd.R_of_own (enc := Value.int .i64) (h1 := fun _ => rfl) (by rw [← HD.out, HDL.out]; exact HO4.out) (fun _ _ => trivial), HB4.out⟩
set_option maxHeartbeats 2000000 in
theorem order_none (A0 : Option Addr) (c0 : Nat) (w : World) (hr0 : Kd.C (Kd.int .i64) w A0 0 []) :
    Calls Tryz.prog 23 #[.slice A0 0 c0] w fun e w' => ∃ v0_ : Value, e = .returned (v0_) ∧ Kd.R (Kd.int .i64) 3 w' w.heap.size (fun _ => True) v0_ (order []) ∧ Below w.heap.size w w' := by
  have HR := Lib.hid hr0; clear hr0
  go_enter Tryz.func23, Tryz.ntmps23
  go_wp2_with fail
  refine (values_any A0 c0 [] _ HR.out (by decide)).mono ?_
  rintro e w1 ⟨v, rfl, ho, hb⟩
  obtain ⟨A, cap, rfl⟩ := own_slice ho
  have HO := Lib.hid ho; have HB := Lib.hid hb; clear ho hb
  simp only [List.length_nil] at HO
  go_wp2_with fail
  refine wp_loop_rounds 1 ?_
  rw [rounds_succ]
  go_wp2_with fail
  refine (numbers_any w.heap.size A cap [] _ HO.out (by decide)).mono ?_
  rintro e w4 ⟨v, rfl, ho, hb⟩
  have HO4 := Lib.hid (own_weaken ho HB.out.size)
  have HB4 : Hid (Below w.heap.size w w4) := HB.out.trans (hb.mono HB.out.size)
  clear ho hb HO HB
  go_wp2
  go_ret
  exact ⟨_, rfl, Kd.R_of_own (enc := Value.int .i64) (h1 := fun _ => rfl) HO4.out (fun _ _ => trivial), HB4.out⟩
theorem canon_Order.calls (A0 : Option Addr) (c0 : Nat) (l0 : List Int) (r : List Int) (w : World) (hr0 : Kd.C (Kd.int .i64) w A0 l0.length l0) (_hc0 : l0.length ≤ c0) (h : canon_Order.f l0 = some r) :
    Calls Tryz.prog 23 #[.slice A0 l0.length c0] w fun e w' => ∃ v0_ : Value, e = .returned (v0_) ∧ Kd.R (Kd.int .i64) 3 w' w.heap.size (fun _ => True) v0_ r ∧ Below w.heap.size w w' := by
  unfold canon_Order.f at h
  split at h
  case isFalse => cases h
  rename_i hlen
  cases h
  cases l0 with
  | nil => exact order_none A0 c0 w hr0
  | cons x l => exact order_some A0 c0 (x :: l) w hr0 hlen (by simp)
end Go.Proofs.Pt
end

/- ==== the text W19 ==== -/
section
/- Contracts of the walked functions in one form: what a function tells as a plain function of what it is given. -/
namespace Go.Proofs.Pt
open Go Go.RowKit Go.Proofs.YtjgdnhmbfeekoaaGreatDoorW.PrintWords

def prop_Ccc.f (a0 : Int) : Option Int := some (ccc a0)
theorem prop_Ccc.calls (a0 : Int) (r : Int) (w : World) (h : prop_Ccc.f a0 = some r) : Calls Tryz.prog 38 #[.int .i64 a0] w fun e w' => e = .returned (.int .i64 r) ∧ Below w.heap.size w w' := by
  cases h; exact ccc_any a0 w
def prop_Mark.f (a0 : Int) : Option Bool := some (decide (0 < ccc a0))
theorem prop_Mark.calls (a0 : Int) (r : Bool) (w : World) (h : prop_Mark.f a0 = some r) : Calls Tryz.prog 19 #[.int .i64 a0] w fun e w' => e = .returned (.bool r) ∧ Below w.heap.size w w' := by
  cases h; exact mark_any a0 w
def pair_Join.f (a0 a1 : Int) : Option (Int × Bool) := some ((join a0 a1).getD 0, (join a0 a1).isSome)
theorem pair_Join.calls (a0 a1 : Int) (r1 : Int) (r2 : Bool) (w : World) (h : pair_Join.f a0 a1 = some (r1, r2)) : Calls Tryz.prog 48 #[.int .i64 a0, .int .i64 a1] w fun e w' => e = .returned (.tuple #[.int .i64 r1, .bool r2]) ∧ Below w.heap.size w w' := by
  cases h
  refine (join_any a0 a1 w).mono ?_
  rintro e w' ⟨r, ok, rfl, rfl, rfl, hb⟩
  exact ⟨rfl, hb⟩
end Go.Proofs.Pt
end

/- ==== the text PBx0 ==== -/
section
-- PRINTED by print.py (a twelfth state) out of the translation. Not trusted: Lean checks it.
namespace Go.Proofs.YtjgdnhmbfeekoaaGreatDoor.PB
open Go.RowKit Go.Proofs.YtjgdnhmbfeekoaaGreatDoorW.PrintWords Go.Proofs.YtjgdnhmbfeekoaaGreatDoorW.PrintLast Go.Proofs.YtjgdnhmbfeekoaaGreatDoorW.PrintMore
attribute [local go_sem] max2_int min2_int max_two min_two max_three min_three max_four min_four   -- for this text's walks alone
set_option linter.unusedVariables false
set_option linter.unusedSimpArgs false



def errW : Option Int → Value
  | none => .nilIface
  | some c => .iface 0 (.int .i64 c)
theorem errW_none : errW none = .nilIface := rfl
theorem errW_some (c : Int) : errW (some c) = .iface 0 (.int .i64 c) := rfl

theorem info3 : (Tryz.prog.info? 3).map (fun i => (i.zero, i.size, i.bytes)) = some (some (.int .i64 0), 1, 8) := by kernel_rfl
theorem info75 : (Tryz.prog.info? 75).map (fun i => (i.zero, i.size, i.bytes)) = some (some (.int .i64 0), 1, 8) := by kernel_rfl
-- the values' own types
def rd_L1 (xs : List (List Int)) (i : Int) : (List Int) := xs.getD i.toNat ([] : List Int)
theorem at_L1 {w : World} {A : Option Addr} {n : Nat} {xs : List (List Int)} (h : Kd.C (Kd.slice 3 (Kd.int .i64)) w A n xs) (i : Int) (h0 : 0 ≤ i) (h1 : i < n) : ∃ ad A0 c0, A = some ad ∧ w.cell? (ad.add i.toNat) = some (.slice A0 (rd_L1 xs i).length c0) ∧ (rd_L1 xs i).length ≤ c0 ∧ (Kd.int .i64).C w A0 (rd_L1 xs i).length (rd_L1 xs i) := by
  obtain ⟨ad, c, e, _, hK, hc0⟩ := Kd.C_get h ([] : List Int) i h0 h1
  have hc : ∀ j u, c[j]? = some u → w.cell? (ad.add (i.toNat * 1 + j)) = some u := hc0
  obtain ⟨A0, c0, rfl, l0, g0⟩ := hK
  exact ⟨ad, A0, c0, e, by have hq := hc 0 _ rfl; rwa [Nat.mul_one, Nat.add_zero] at hq, l0, g0⟩

end Go.Proofs.YtjgdnhmbfeekoaaGreatDoor.PB
end

/- ==== the text PBx1 ==== -/
section
-- PRINTED by print.py (a twelfth state) out of the translation. Not trusted: Lean checks it.
namespace Go.Proofs.YtjgdnhmbfeekoaaGreatDoor.PB
open Go.RowKit Go.Proofs.YtjgdnhmbfeekoaaGreatDoorW.PrintWords Go.Proofs.YtjgdnhmbfeekoaaGreatDoorW.PrintLast Go.Proofs.YtjgdnhmbfeekoaaGreatDoorW.PrintMore
attribute [local go_sem] max2_int min2_int max_two min_two max_three min_three max_four min_four   -- for this text's walks alone
set_option linter.unusedVariables false
set_option linter.unusedSimpArgs false

/-! ### slices_Equal_int_int: function 67 -/
def slices_Equal_int_int.l0 : Nat → List Int → List Int → Int → Int → Option (Bool)
  | 0, _, _, _, _ => none
  | k + 1, x0, x1, x12, x13 => if x13 < x12 then (if 0 ≤ x13 then (if x13 < (x0.length : Int) then (if x13 < (x1.length : Int) then (if (rd x0 x13) = (rd x1 x13) then (slices_Equal_int_int.l0 k x0 x1 x12 (wrap64 (x13 + 1))) else (some false)) else (none)) else (none)) else (none)) else (some true)
def slices_Equal_int_int.f (k : Nat) (l0 : List Int) (l1 : List Int) : Option (Bool) := if (l0.length : Int) = (l1.length : Int) then (slices_Equal_int_int.l0 k l0 l1 (l0.length : Int) 0) else (some false)
theorem slices_Equal_int_int.mono_l : ∀ k, (∀ y0 y1 y2 y3, LeO (slices_Equal_int_int.l0 k y0 y1 y2 y3) (slices_Equal_int_int.l0 (k + 1) y0 y1 y2 y3))
  | 0 => fun _ _ _ _ r h => by simp [slices_Equal_int_int.l0] at h
  | k + 1 => by
    have ih0 := slices_Equal_int_int.mono_l k
    · intro y0 y1 y2 y3
      unfold slices_Equal_int_int.l0
      repeat' first
      | (with_reducible exact ih0 _ _ _ _)
      | (with_reducible exact LeO.refl _)
      | (with_reducible exact LeO.none _)
      | (with_reducible refine LeO.ite ?_ ?_)
      | (with_reducible refine LeO.bind ?_ (fun _ => ?_))
      | exact ih0 _ _ _ _
      | exact LeO.none _
      | refine LeO.ite ?_ ?_
      | refine LeO.bind ?_ (fun _ => ?_)
theorem slices_Equal_int_int.mono : ∀ a0 a1 k, LeO (slices_Equal_int_int.f k a0 a1) (slices_Equal_int_int.f (k + 1) a0 a1) := by
  intro a0 a1 k
  have ih0 := slices_Equal_int_int.mono_l k
  unfold slices_Equal_int_int.f
  repeat' first
      | (with_reducible exact ih0 _ _ _ _)
      | (with_reducible exact LeO.refl _)
      | (with_reducible exact LeO.none _)
      | (with_reducible refine LeO.ite ?_ ?_)
      | (with_reducible refine LeO.bind ?_ (fun _ => ?_))
      | exact ih0 _ _ _ _
      | exact LeO.none _
      | refine LeO.ite ?_ ?_
      | refine LeO.bind ?_ (fun _ => ?_)
set_option maxHeartbeats 8000000 in
set_option maxRecDepth 100000 in
theorem slices_Equal_int_int.calls (k : Nat) (A0 : Option Addr) (c0 : Nat) (l0 : List Int) (A1 : Option Addr) (c1 : Nat) (l1 : List Int) (r : Bool) (w : World) (hr0 : Kd.C (Kd.int .i64) w A0 l0.length l0) (hc0 : l0.length ≤ c0) (hr1 : Kd.C (Kd.int .i64) w A1 l1.length l1) (hc1 : l1.length ≤ c1) (h : slices_Equal_int_int.f k l0 l1 = some r) :
    Calls Tryz.prog 67 #[.slice A0 l0.length c0, .slice A1 l1.length c1] w fun e w' => e = .returned (.bool r) ∧ Drawn0 w w' := by
  have HR0 := Aside0.mk hr0
  have HC0 := Aside0.mk hc0
  clear hr0 hc0
  have HR1 := Aside0.mk hr1
  have HC1 := Aside0.mk hc1
  clear hr1 hc1
  have H : (if (l0.length : Int) = (l1.length : Int) then (slices_Equal_int_int.l0 k l0 l1 (l0.length : Int) 0) else (some false)) = some r := h
  clear h
  by_cases c3 : (l0.length : Int) = (l1.length : Int)
  · rw [if_pos c3] at H
    have c3b0 : ((l0.length : Int) == (l1.length : Int)) = true := beq_iff_eq.mpr c3
    have c3b1 : ((l0.length : Int) != (l1.length : Int)) = false := bne_eq_false_iff_eq.mpr c3
    have c3b2 : (l0.length == l1.length) = true := by first | simpa using c3 | (simp at c3 ⊢; omega)
    clear c3
    have H' := Aside0.mk H
    clear H
    go_enter Tryz.func67, Tryz.ntmps67
    go_wp2
    repeat (go_quiet (fail); try go_wp2)
    go_loopg [13] k (fun kq v13 w' => ∃ (x13_1 : Int), v13 = .int .i64 x13_1 ∧ Aside0 (slices_Equal_int_int.l0 kq l0 l1 (l0.length : Int) x13_1 = some r) ∧ Aside0 (kq ≤ k) ∧ Drawn0 w w')
    case atStart => exact ⟨(0), (by first | rfl | (simp; done) | (simp [*]; done)), H', ⟨Nat.le_refl _⟩, by repeat (first | exact Drawn0.refl _ | apply Drawn0.step)⟩
    case round =>
      clear H'
      try clear c1
      try clear p2
      try clear c3
      try clear c3b0
      try clear c3b1
      try clear c3b2
      obtain ⟨x13_1, rfl, HA, HK1, ⟨m1, rfl⟩⟩ := hrel
      cases gk with
      | zero => exact absurd HA.out (by simp [slices_Equal_int_int.l0])
      | succ k1 =>
        have H := HA.out
        clear HA
        simp only [slices_Equal_int_int.l0] at H
        by_cases c4 : x13_1 < (l0.length : Int)
        · rw [if_pos c4] at H
          have c4b0 : decide (x13_1 < (l0.length : Int)) = true := decide_eq_true c4
          clear c4
          by_cases c5 : 0 ≤ x13_1
          · rw [if_pos c5] at H
            have c5b0 : decide (0 ≤ x13_1) = true := decide_eq_true c5
            clear c5
            by_cases c6 : x13_1 < (l0.length : Int)
            · rw [if_pos c6] at H
              have c6b0 : decide (x13_1 < (l0.length : Int)) = true := decide_eq_true c6
              clear c6
              by_cases c7 : x13_1 < (l1.length : Int)
              · rw [if_pos c7] at H
                have c7b0 : decide (x13_1 < (l1.length : Int)) = true := decide_eq_true c7
                clear c7
                by_cases c8 : (rd l0 x13_1) = (rd l1 x13_1)
                · rw [if_pos c8] at H
                  have c8b0 : ((rd l0 x13_1) == (rd l1 x13_1)) = true := beq_iff_eq.mpr c8
                  have c8b1 : ((rd l0 x13_1) != (rd l1 x13_1)) = false := bne_eq_false_iff_eq.mpr c8
                  clear c8
                  have H' := Aside0.mk H
                  clear H
                  have p101 : 0 ≤ (x13_1 : Int) := of_decide_eq_true (by first | (with_reducible assumption) | assumption)
                  have q101 : x13_1 < (l0.length : Int) := of_decide_eq_true (by first | (with_reducible assumption) | assumption)
                  obtain ⟨ad101, e101, hx101_0⟩ := Kd.at_int HR0.out x13_1 p101 q101
                  cases e101
                  replace p101 := eq_true p101
                  replace q101 := eq_true q101
                  have p102 : 0 ≤ (x13_1 : Int) := of_decide_eq_true (by first | (with_reducible assumption) | assumption)
                  have q102 : x13_1 < (l1.length : Int) := of_decide_eq_true (by first | (with_reducible assumption) | assumption)
                  obtain ⟨ad102, e102, hx102_0⟩ := Kd.at_int HR1.out x13_1 p102 q102
                  cases e102
                  replace p102 := eq_true p102
                  replace q102 := eq_true q102
                  go_wp2
                  repeat (go_quiet (fail); try go_wp2)
                  go_roundg k1
                  case measure => have := HK1.out; omega
                  case rel => exact ⟨(wrap64 (x13_1 + 1)), (by first | rfl | (simp; done) | (simp [*]; done)), H', ⟨by have := HK1.out; omega⟩, by repeat (first | exact Drawn0.refl _ | apply Drawn0.step)⟩
                · rw [if_neg c8] at H
                  have c8b0 : ((rd l0 x13_1) == (rd l1 x13_1)) = false := beq_eq_false_iff_ne.mpr c8
                  have c8b1 : ((rd l0 x13_1) != (rd l1 x13_1)) = true := bne_iff_ne.mpr c8
                  obtain rfl := Option.some.inj H
                  have p101 : 0 ≤ (x13_1 : Int) := of_decide_eq_true (by first | (with_reducible assumption) | assumption)
                  have q101 : x13_1 < (l0.length : Int) := of_decide_eq_true (by first | (with_reducible assumption) | assumption)
                  obtain ⟨ad101, e101, hx101_0⟩ := Kd.at_int HR0.out x13_1 p101 q101
                  cases e101
                  replace p101 := eq_true p101
                  replace q101 := eq_true q101
                  have p102 : 0 ≤ (x13_1 : Int) := of_decide_eq_true (by first | (with_reducible assumption) | assumption)
                  have q102 : x13_1 < (l1.length : Int) := of_decide_eq_true (by first | (with_reducible assumption) | assumption)
                  obtain ⟨ad102, e102, hx102_0⟩ := Kd.at_int HR1.out x13_1 p102 q102
                  cases e102
                  replace p102 := eq_true p102
                  replace q102 := eq_true q102
                  go_wp2
                  repeat (go_quiet (fail); try go_wp2)
                  go_ret
                  exact ⟨by first | rfl | (simp; done) | (simp [*]; done), by repeat (first | exact Drawn0.refl _ | apply Drawn0.step)⟩
              · rw [if_neg c7] at H
                exact absurd H (by simp)
            · rw [if_neg c6] at H
              exact absurd H (by simp)
          · rw [if_neg c5] at H
            exact absurd H (by simp)
        · rw [if_neg c4] at H
          have c4b0 : decide (x13_1 < (l0.length : Int)) = false := decide_eq_false c4
          clear c4
          obtain rfl := Option.some.inj H
          go_wp2
          repeat (go_quiet (fail); try go_wp2)
          go_ret
          exact ⟨by first | rfl | (simp; done) | (simp [*]; done), by repeat (first | exact Drawn0.refl _ | apply Drawn0.step)⟩
  · rw [if_neg c3] at H
    have c3b0 : ((l0.length : Int) == (l1.length : Int)) = false := beq_eq_false_iff_ne.mpr c3
    have c3b1 : ((l0.length : Int) != (l1.length : Int)) = true := bne_iff_ne.mpr c3
    have c3b2 : (l0.length == l1.length) = false := by first | simpa using c3 | (simp at c3 ⊢; omega)
    obtain rfl := Option.some.inj H
    go_enter Tryz.func67, Tryz.ntmps67
    go_wp2
    repeat (go_quiet (fail); try go_wp2)
    go_ret
    exact ⟨by first | rfl | (simp; done) | (simp [*]; done), by repeat (first | exact Drawn0.refl _ | apply Drawn0.step)⟩

/-! ### canon_Sorted: function 25 -/
def canon_Sorted.f (k : Nat) (l0 : List Int) : Option (Bool) := (Go.Proofs.Pt.canon_Order.f l0).bind fun t103 => ((slices_Equal_int_int.f k t103 l0).bind fun t106 => (some t106))
theorem canon_Sorted.mono : ∀ a0 k, LeO (canon_Sorted.f k a0) (canon_Sorted.f (k + 1) a0) := by
  intro a0 k
  unfold canon_Sorted.f
  repeat' first
      | (with_reducible exact slices_Equal_int_int.mono _ _ _)
      | (with_reducible exact LeO.refl _)
      | (with_reducible exact LeO.none _)
      | (with_reducible refine LeO.ite ?_ ?_)
      | (with_reducible refine LeO.bind ?_ (fun _ => ?_))
      | exact slices_Equal_int_int.mono _ _ _
      | exact LeO.none _
      | refine LeO.ite ?_ ?_
      | refine LeO.bind ?_ (fun _ => ?_)
set_option maxHeartbeats 8000000 in
set_option maxRecDepth 100000 in
theorem canon_Sorted.calls (k : Nat) (A0 : Option Addr) (c0 : Nat) (l0 : List Int) (r : Bool) (w : World) (hr0 : Kd.C (Kd.int .i64) w A0 l0.length l0) (hc0 : l0.length ≤ c0) (h : canon_Sorted.f k l0 = some r) :
    Calls Tryz.prog 25 #[.slice A0 l0.length c0] w fun e w' => e = .returned (.bool r) ∧ Below w.heap.size w w' := by
  have HR0 := Aside0.mk hr0
  have HC0 := Aside0.mk hc0
  clear hr0 hc0
  have HB := Aside0.mk (Below.refl w.heap.size w)
  have H : ((Go.Proofs.Pt.canon_Order.f l0).bind fun t103 => ((slices_Equal_int_int.f k t103 l0).bind fun t106 => (some t106))) = some r := h
  clear h
  replace H := Option.bind_eq_some_iff.mp H
  obtain ⟨t103, A20, H⟩ := H
  replace H : ((slices_Equal_int_int.f k t103 l0).bind fun t106 => (some t106)) = some r := H
  have A2 := Aside0.mk A20
  clear A20
  replace H := Option.bind_eq_some_iff.mp H
  obtain ⟨t106, A30, H⟩ := H
  replace H : (some t106) = some r := H
  have A3 := Aside0.mk A30
  clear A30
  obtain rfl := Option.some.inj H
  go_enter Tryz.func25, Tryz.ntmps25
  go_wp2_with (first | ((with_reducible refine gate_callee (f := 23) rfl ?_); refine goesL_ (some 4) rfl rfl Tryz.func23 (by kernel_rfl) rfl #[.slice A0 l0.length c0] rfl (by (try simp only [List.map_toArray, List.map_cons, List.map_nil]); first | done | rfl | (simp only [List.length_drop, List.length_take]; rfl)) ?_; (with_reducible refine (Go.Proofs.Pt.canon_Order.calls _ _ l0 t103 _ ?side1 ?side2 A2.out).mono ?_); (case side1 => repeat (first | exact HR0.out | (with_reducible refine Kd.C_alloc ?_ _) | (with_reducible refine Kd.C_drewN ?_ _) | (with_reducible refine Kd.C_drew ?_))); (case side2 => exact HC0.out); rintro e w4 ⟨v104, rfl, ho0, hb⟩; refine ⟨_, rfl, ?_⟩; have n0_ := Aside0.mk (Kd.R_lower ho0 (below_size (by repeat (first | (with_reducible first | exact HB.out | apply below_alloc | apply pw_below_drewN | apply below_drew1) | exact HB.out)))); have n1_ := Aside0.mk (below_step (by repeat (first | (with_reducible first | exact HB.out | apply below_alloc | apply pw_below_drewN | apply below_drew1) | exact HB.out)) hb); clear HB; have HO105 := n0_; have HB := n1_; clear n0_ n1_; (try clear hb); (try clear hb2); (try clear hk); (try clear hi); (try clear ho0); obtain ⟨Ao5, co5, eo5⟩ := Kd.R_slice HO105.out; subst eo5) | ((with_reducible refine gate_callee (f := 67) rfl ?_); refine goesL_ (some 6) rfl rfl Tryz.func67 (by kernel_rfl) rfl #[.slice Ao5 t103.length co5, .slice A0 l0.length c0] rfl (by (try simp only [List.map_toArray, List.map_cons, List.map_nil]); first | done | rfl | (simp only [List.length_drop, List.length_take]; rfl)) ?_; (with_reducible refine (slices_Equal_int_int.calls k _ _ t103 _ _ l0 t106 _ ?side1 ?side2 ?side3 ?side4 A3.out).mono ?_); (case side1 => repeat (first | exact (Kd.R_reads' HO105.out).2.2 | (with_reducible refine Kd.C_alloc ?_ _) | (with_reducible refine Kd.C_drewN ?_ _) | (with_reducible refine Kd.C_drew ?_))); (case side2 => exact (Kd.R_reads' HO105.out).2.1); (case side3 => repeat (first | exact (Kd.C_below HR0.out HB.out) | (with_reducible refine Kd.C_alloc ?_ _) | (with_reducible refine Kd.C_drewN ?_ _) | (with_reducible refine Kd.C_drew ?_))); (case side4 => exact HC0.out); rintro e w' ⟨rfl, ⟨nd, rfl⟩⟩; refine ⟨_, rfl, ?_⟩))
  go_ret
  exact ⟨by first | rfl | (simp [errW_none, errW_some] <;> rfl) | (simp [*, errW_none, errW_some] <;> rfl), by repeat (first | (with_reducible first | exact HB.out | apply below_alloc | apply pw_below_drewN | apply below_drew1) | exact HB.out)⟩

/-! ### canon_values: function 61 -/
def canon_values.l0 : Nat → List Int → List Int → Int → Int → Option (List Int)
  | 0, _, _, _, _ => none
  | k + 1, x3, x6, x7, x8 => if x8 < x7 then (if 0 ≤ x8 then (if x8 < (x6.length : Int) then (if x3.length < 17592186044416 then (canon_values.l0 k (x3 ++ [rd x6 x8]) x6 x7 (wrap64 (x8 + 1))) else (none)) else (none)) else (none)) else (some x3)
def canon_values.f (k : Nat) (l0 : List Int) : Option (List Int) := canon_values.l0 k ([] : List Int) l0 (l0.length : Int) 0
theorem canon_values.mono_l : ∀ k, (∀ y0 y1 y2 y3, LeO (canon_values.l0 k y0 y1 y2 y3) (canon_values.l0 (k + 1) y0 y1 y2 y3))
  | 0 => fun _ _ _ _ r h => by simp [canon_values.l0] at h
  | k + 1 => by
    have ih0 := canon_values.mono_l k
    · intro y0 y1 y2 y3
      unfold canon_values.l0
      repeat' first
      | (with_reducible exact ih0 _ _ _ _)
      | (with_reducible exact LeO.refl _)
      | (with_reducible exact LeO.none _)
      | (with_reducible refine LeO.ite ?_ ?_)
      | (with_reducible refine LeO.bind ?_ (fun _ => ?_))
      | exact ih0 _ _ _ _
      | exact LeO.none _
      | refine LeO.ite ?_ ?_
      | refine LeO.bind ?_ (fun _ => ?_)
theorem canon_values.mono : ∀ a0 k, LeO (canon_values.f k a0) (canon_values.f (k + 1) a0) := by
  intro a0 k
  have ih0 := canon_values.mono_l k
  unfold canon_values.f
  repeat' first
      | (with_reducible exact ih0 _ _ _ _)
      | (with_reducible exact LeO.refl _)
      | (with_reducible exact LeO.none _)
      | (with_reducible refine LeO.ite ?_ ?_)
      | (with_reducible refine LeO.bind ?_ (fun _ => ?_))
      | exact ih0 _ _ _ _
      | exact LeO.none _
      | refine LeO.ite ?_ ?_
      | refine LeO.bind ?_ (fun _ => ?_)
set_option maxHeartbeats 8000000 in
set_option maxRecDepth 100000 in
theorem canon_values.calls (k : Nat) (A0 : Option Addr) (c0 : Nat) (l0 : List Int) (r : List Int) (w : World) (hr0 : Kd.C (Kd.int .i64) w A0 l0.length l0) (hc0 : l0.length ≤ c0) (h : canon_values.f k l0 = some r) :
    Calls Tryz.prog 61 #[.slice A0 l0.length c0] w fun e w' => ∃ v0_ : Value, e = .returned (v0_) ∧ Kd.R (Kd.int .i64) 75 w' w.heap.size (fun _ => True) v0_ r ∧ Below w.heap.size w w' := by
  have HR0 := Aside0.mk hr0
  have HC0 := Aside0.mk hc0
  clear hr0 hc0
  have HB := Aside0.mk (Below.refl w.heap.size w)
  have H : (canon_values.l0 k ([] : List Int) l0 (l0.length : Int) 0) = some r := h
  clear h
  have H' := Aside0.mk H
  clear H
  go_enter Tryz.func61, Tryz.ntmps61
  go_wp2
  go_loopg [3, 8] k (fun kq v3 v8 w' => ∃ (x3_1 : List Int) (x8_1 : Int), v8 = .int .i64 x8_1 ∧ Aside0 (canon_values.l0 kq x3_1 l0 (l0.length : Int) x8_1 = some r) ∧ Aside0 (kq ≤ k) ∧ Aside0 (Kd.R (Kd.int .i64) 75 w' w.heap.size (fun _ => True) v3 x3_1) ∧ Aside0 (Below w.heap.size w w'))
  case atStart => exact ⟨(([] : List Int)), (0), (by first | rfl | (simp; done) | (simp [*]; done)), H', ⟨Nat.le_refl _⟩, ⟨by first | exact Kd.R_nil _ _ _ _ _ | exact Kd.N_nil _ _ _ _ _ | exact Kd.V_nil _ _ _ _ _ | exact Kd.Q_nil _ _ _ _ _ | exact Kd.S_nil _ _ _ _ _⟩, ⟨by repeat (first | (with_reducible first | exact HB.out | apply below_alloc | apply pw_below_drewN | apply below_drew1) | exact HB.out)⟩⟩
  case round =>
    clear H'
    obtain ⟨x3_1, x8_1, rfl, HA, HK1, HO_3, HB⟩ := hrel
    cases gk with
    | zero => exact absurd HA.out (by simp [canon_values.l0])
    | succ k1 =>
      have H := HA.out
      clear HA
      simp only [canon_values.l0] at H
      by_cases c2 : x8_1 < (l0.length : Int)
      · rw [if_pos c2] at H
        have c2b0 : decide (x8_1 < (l0.length : Int)) = true := decide_eq_true c2
        clear c2
        by_cases c3 : 0 ≤ x8_1
        · rw [if_pos c3] at H
          have c3b0 : decide (0 ≤ x8_1) = true := decide_eq_true c3
          clear c3
          by_cases c4 : x8_1 < (l0.length : Int)
          · rw [if_pos c4] at H
            have c4b0 : decide (x8_1 < (l0.length : Int)) = true := decide_eq_true c4
            clear c4
            by_cases c5 : x3_1.length < 17592186044416
            · rw [if_pos c5] at H
              have LMc5 := Aside0.mk c5
              clear c5
              obtain ⟨y108, hy108⟩ : ∃ y_ : List Int, y_ = (x3_1 ++ [rd l0 x8_1]) := ⟨_, rfl⟩
              replace H : (canon_values.l0 k1 y108 l0 (l0.length : Int) (wrap64 (x8_1 + 1))) = some r := by first | (rw [hy108]; with_reducible exact H) | (have H2_ := (Option.bind_some _ _).symm.trans H; rw [hy108]; with_reducible exact H2_) | (have H2_ := (Option.bind_some _ _).symm.trans H; with_reducible exact H2_) | with_reducible exact H | (rw [hy108]; exact H) | exact H
              have Ny108 := Aside0.mk hy108
              clear hy108
              have H' := Aside0.mk H
              clear H
              have p107 : 0 ≤ (x8_1 : Int) := of_decide_eq_true (by first | (with_reducible assumption) | assumption)
              have q107 : x8_1 < (l0.length : Int) := of_decide_eq_true (by first | (with_reducible assumption) | assumption)
              obtain ⟨ad107, e107, hx107_0⟩ := Kd.at_int HR0.out x8_1 p107 q107
              cases e107
              replace hx107_0 := (HB.out.cell (World.block_lt_of_cell? w _ hx107_0)).trans hx107_0
              replace p107 := eq_true p107
              replace q107 := eq_true q107
              go_wp2_with (first | ((with_reducible refine gate_builtin (b := .append) (xs := #[.tmp 12, .tmp 14]) rfl ?_); at_builtin; refine Kd.R_append (Kd.int .i64) (w0 := w) w.heap.size rfl (.tmp 12) (.tmp 14) 71 75 (.int .i64 0) 8 rfl Tryz.underlying71 info75 rfl (by decide) (by omega) u3 x3_1 (rd l0 x8_1) [.int .i64 (rd l0 x8_1)] (fun _ => True) (fun _ => False) rfl rfl ?aP (fun _ hk => hk.elim) ?aF ?aO ?aB ?aS ?aL ?_; (case aP => exact rfl); (case aB => exact (by repeat (first | (with_reducible first | exact HB.out | apply below_alloc | apply pw_below_drewN | apply below_drew1) | exact HB.out))); (case aF => exact (fun _ _ => trivial)); (case aO => exact (by (with_reducible repeat (first | apply Kd.R_alloc | apply Kd.R_drewN | apply Kd.R_drew)); exact HO_3.out)); (case aS => exact (below_size (by repeat (first | (with_reducible first | exact HB.out | apply below_alloc | apply pw_below_drewN | apply below_drew1) | exact HB.out)))); (case aL => have := LMc5.out; omega); intro v109 w6 ho hb hg hat; rw [← Ny108.out] at ho; have n0_ := Aside0.mk (hb); have n1_ := Aside0.mk (ho); clear HB; clear HO_3; have HB := n0_; have HO110 := n1_; clear n0_ n1_; clear ho hb hg hat))
              go_roundg k1
              case measure => have := HK1.out; omega
              case rel => exact ⟨(y108), (wrap64 (x8_1 + 1)), (by first | rfl | (simp; done) | (simp [*]; done)), H', ⟨by have := HK1.out; omega⟩, ⟨by (with_reducible repeat (first | apply Kd.R_alloc | apply Kd.R_drewN | apply Kd.R_drew)); exact HO110.out⟩, ⟨by repeat (first | (with_reducible first | exact HB.out | apply below_alloc | apply pw_below_drewN | apply below_drew1) | exact HB.out)⟩⟩
            · rw [if_neg c5] at H
              exact absurd H (by simp)
          · rw [if_neg c4] at H
            exact absurd H (by simp)
        · rw [if_neg c3] at H
          exact absurd H (by simp)
      · rw [if_neg c2] at H
        have c2b0 : decide (x8_1 < (l0.length : Int)) = false := decide_eq_false c2
        clear c2
        obtain rfl := Option.some.inj H
        go_wp2
        go_ret
        exact ⟨_, by first | rfl | (simp [errW_none, errW_some] <;> rfl) | (simp [*, errW_none, errW_some] <;> rfl), by (with_reducible repeat (first | apply Kd.R_alloc | apply Kd.R_drewN | apply Kd.R_drew)); exact HO_3.out, by repeat (first | (with_reducible first | exact HB.out | apply below_alloc | apply pw_below_drewN | apply below_drew1) | exact HB.out)⟩

/-! ### canon_row: function 62 -/
def canon_row.l0 : Nat → List Int → Int → Option (Int)
  | 0, _, _ => none
  | k + 1, x0, x3 => if x3 < (x0.length : Int) then (if 0 ≤ x3 then ((Go.Proofs.Pt.prop_Mark.f (rd x0 x3)).bind fun t112 => (if t112 = true then (canon_row.l0 k x0 (wrap64 (x3 + 1))) else (some x3))) else (none)) else (some x3)
def canon_row.f (k : Nat) (l0 : List Int) : Option (Int) := canon_row.l0 k l0 0
theorem canon_row.mono_l : ∀ k, (∀ y0 y1, LeO (canon_row.l0 k y0 y1) (canon_row.l0 (k + 1) y0 y1))
  | 0 => fun _ _ r h => by simp [canon_row.l0] at h
  | k + 1 => by
    have ih0 := canon_row.mono_l k
    · intro y0 y1
      unfold canon_row.l0
      repeat' first
      | (with_reducible exact ih0 _ _)
      | (with_reducible exact LeO.refl _)
      | (with_reducible exact LeO.none _)
      | (with_reducible refine LeO.ite ?_ ?_)
      | (with_reducible refine LeO.bind ?_ (fun _ => ?_))
      | exact ih0 _ _
      | exact LeO.none _
      | refine LeO.ite ?_ ?_
      | refine LeO.bind ?_ (fun _ => ?_)
theorem canon_row.mono : ∀ a0 k, LeO (canon_row.f k a0) (canon_row.f (k + 1) a0) := by
  intro a0 k
  have ih0 := canon_row.mono_l k
  unfold canon_row.f
  repeat' first
      | (with_reducible exact ih0 _ _)
      | (with_reducible exact LeO.refl _)
      | (with_reducible exact LeO.none _)
      | (with_reducible refine LeO.ite ?_ ?_)
      | (with_reducible refine LeO.bind ?_ (fun _ => ?_))
      | exact ih0 _ _
      | exact LeO.none _
      | refine LeO.ite ?_ ?_
      | refine LeO.bind ?_ (fun _ => ?_)
set_option maxHeartbeats 8000000 in
set_option maxRecDepth 100000 in
theorem canon_row.calls (k : Nat) (A0 : Option Addr) (c0 : Nat) (l0 : List Int) (r : Int) (w : World) (hr0 : Kd.C (Kd.int .i64) w A0 l0.length l0) (hc0 : l0.length ≤ c0) (h : canon_row.f k l0 = some r) :
    Calls Tryz.prog 62 #[.slice A0 l0.length c0] w fun e w' => e = .returned (.int .i64 r) ∧ Below w.heap.size w w' := by
  have HR0 := Aside0.mk hr0
  have HC0 := Aside0.mk hc0
  clear hr0 hc0
  have HB := Aside0.mk (Below.refl w.heap.size w)
  have H : (canon_row.l0 k l0 0) = some r := h
  clear h
  have H' := Aside0.mk H
  clear H
  go_enter Tryz.func62, Tryz.ntmps62
  go_wp2
  go_loopg [3] k (fun kq v3 w' => ∃ (x3_1 : Int), v3 = .int .i64 x3_1 ∧ Aside0 (canon_row.l0 kq l0 x3_1 = some r) ∧ Aside0 (kq ≤ k) ∧ Aside0 (Below w.heap.size w w'))
  case atStart => exact ⟨(0), (by first | rfl | (simp; done) | (simp [*]; done)), H', ⟨Nat.le_refl _⟩, ⟨by repeat (first | (with_reducible first | exact HB.out | apply below_alloc | apply pw_below_drewN | apply below_drew1) | exact HB.out)⟩⟩
  case round =>
    clear H'
    obtain ⟨x3_1, rfl, HA, HK1, HB⟩ := hrel
    cases gk with
    | zero => exact absurd HA.out (by simp [canon_row.l0])
    | succ k1 =>
      have H := HA.out
      clear HA
      simp only [canon_row.l0] at H
      by_cases c2 : x3_1 < (l0.length : Int)
      · rw [if_pos c2] at H
        have c2b0 : decide (x3_1 < (l0.length : Int)) = true := decide_eq_true c2
        clear c2
        by_cases c3 : 0 ≤ x3_1
        · rw [if_pos c3] at H
          have c3b0 : decide (0 ≤ x3_1) = true := decide_eq_true c3
          clear c3
          replace H := Option.bind_eq_some_iff.mp H
          obtain ⟨t112, A40, H⟩ := H
          replace H : (if t112 = true then (canon_row.l0 k1 l0 (wrap64 (x3_1 + 1))) else (some x3_1)) = some r := H
          have A4 := Aside0.mk A40
          clear A40
          by_cases c5 : t112 = true
          · subst c5
            have H1 : (canon_row.l0 k1 l0 (wrap64 (x3_1 + 1))) = some r := by rw [if_pos rfl] at H; exact H
            clear H
            have H := H1
            clear H1
            have H' := Aside0.mk H
            clear H
            have p111 : 0 ≤ (x3_1 : Int) := of_decide_eq_true (by first | (with_reducible assumption) | assumption)
            have q111 : x3_1 < (l0.length : Int) := of_decide_eq_true (by first | (with_reducible assumption) | assumption)
            obtain ⟨ad111, e111, hx111_0⟩ := Kd.at_int HR0.out x3_1 p111 q111
            cases e111
            replace hx111_0 := (HB.out.cell (World.block_lt_of_cell? w _ hx111_0)).trans hx111_0
            replace p111 := eq_true p111
            replace q111 := eq_true q111
            go_wp2_with (first | (go_at_call 19; (with_reducible refine (Go.Proofs.Pt.prop_Mark.calls (rd l0 x3_1) true _ A4.out).mono ?_); rintro e w6 ⟨rfl, hb⟩; have n0_ := Aside0.mk (below_step (by repeat (first | (with_reducible first | exact HB.out | apply below_alloc | apply pw_below_drewN | apply below_drew1) | exact HB.out)) hb); clear HB; have HB := n0_; clear n0_; (try clear hb); (try clear hb2); (try clear hk); (try clear hi)))
            go_roundg k1
            case measure => have := HK1.out; omega
            case rel => exact ⟨(wrap64 (x3_1 + 1)), (by first | rfl | (simp; done) | (simp [*]; done)), H', ⟨by have := HK1.out; omega⟩, ⟨by repeat (first | (with_reducible first | exact HB.out | apply below_alloc | apply pw_below_drewN | apply below_drew1) | exact HB.out)⟩⟩
          · replace c5 := Bool.eq_false_iff.mpr c5
            subst c5
            have H1 : (some x3_1) = some r := by rw [if_neg (show ¬ (false = true) by decide)] at H; exact H
            clear H
            have H := H1
            clear H1
            obtain rfl := Option.some.inj H
            have p111 : 0 ≤ (x3_1 : Int) := of_decide_eq_true (by first | (with_reducible assumption) | assumption)
            have q111 : x3_1 < (l0.length : Int) := of_decide_eq_true (by first | (with_reducible assumption) | assumption)
            obtain ⟨ad111, e111, hx111_0⟩ := Kd.at_int HR0.out x3_1 p111 q111
            cases e111
            replace hx111_0 := (HB.out.cell (World.block_lt_of_cell? w _ hx111_0)).trans hx111_0
            replace p111 := eq_true p111
            replace q111 := eq_true q111
            go_wp2_with (first | (go_at_call 19; (with_reducible refine (Go.Proofs.Pt.prop_Mark.calls (rd l0 x3_1) false _ A4.out).mono ?_); rintro e w7 ⟨rfl, hb⟩; have n0_ := Aside0.mk (below_step (by repeat (first | (with_reducible first | exact HB.out | apply below_alloc | apply pw_below_drewN | apply below_drew1) | exact HB.out)) hb); clear HB; have HB := n0_; clear n0_; (try clear hb); (try clear hb2); (try clear hk); (try clear hi)))
            go_ret
            exact ⟨by first | rfl | (simp [errW_none, errW_some] <;> rfl) | (simp [*, errW_none, errW_some] <;> rfl), by repeat (first | (with_reducible first | exact HB.out | apply below_alloc | apply pw_below_drewN | apply below_drew1) | exact HB.out)⟩
        · rw [if_neg c3] at H
          exact absurd H (by simp)
      · rw [if_neg c2] at H
        have c2b0 : decide (x3_1 < (l0.length : Int)) = false := decide_eq_false c2
        clear c2
        obtain rfl := Option.some.inj H
        go_wp2
        go_ret
        exact ⟨by first | rfl | (simp [errW_none, errW_some] <;> rfl) | (simp [*, errW_none, errW_some] <;> rfl), by repeat (first | (with_reducible first | exact HB.out | apply below_alloc | apply pw_below_drewN | apply below_drew1) | exact HB.out)⟩

/-! ### canon_Marks: function 37 -/
def canon_Marks.l0 : Nat → Int → List Int → Option (Int)
  | 0, _, _ => none
  | k + 1, x3, x4 => if (x4.length : Int) > 0 then ((canon_row.f k x4).bind fun t116 => (if 1 ≤ (x4.length : Int) then (canon_Marks.l0 k (mx x3 t116) (x4.drop (1 : Int).toNat)) else (none))) else (some x3)
def canon_Marks.f (k : Nat) (l0 : List Int) : Option (Int) := (canon_values.f k l0).bind fun t113 => (canon_Marks.l0 k 0 t113)
theorem canon_Marks.mono_l : ∀ k, (∀ y0 y1, LeO (canon_Marks.l0 k y0 y1) (canon_Marks.l0 (k + 1) y0 y1))
  | 0 => fun _ _ r h => by simp [canon_Marks.l0] at h
  | k + 1 => by
    have ih0 := canon_Marks.mono_l k
    · intro y0 y1
      unfold canon_Marks.l0
      repeat' first
      | (with_reducible exact ih0 _ _)
      | (with_reducible exact canon_row.mono _ _)
      | (with_reducible exact canon_values.mono _ _)
      | (with_reducible exact LeO.refl _)
      | (with_reducible exact LeO.none _)
      | (with_reducible refine LeO.ite ?_ ?_)
      | (with_reducible refine LeO.bind ?_ (fun _ => ?_))
      | exact ih0 _ _
      | exact canon_row.mono _ _
      | exact canon_values.mono _ _
      | exact LeO.none _
      | refine LeO.ite ?_ ?_
      | refine LeO.bind ?_ (fun _ => ?_)
theorem canon_Marks.mono : ∀ a0 k, LeO (canon_Marks.f k a0) (canon_Marks.f (k + 1) a0) := by
  intro a0 k
  have ih0 := canon_Marks.mono_l k
  unfold canon_Marks.f
  repeat' first
      | (with_reducible exact ih0 _ _)
      | (with_reducible exact canon_row.mono _ _)
      | (with_reducible exact canon_values.mono _ _)
      | (with_reducible exact LeO.refl _)
      | (with_reducible exact LeO.none _)
      | (with_reducible refine LeO.ite ?_ ?_)
      | (with_reducible refine LeO.bind ?_ (fun _ => ?_))
      | exact ih0 _ _
      | exact canon_row.mono _ _
      | exact canon_values.mono _ _
      | exact LeO.none _
      | refine LeO.ite ?_ ?_
      | refine LeO.bind ?_ (fun _ => ?_)
set_option maxHeartbeats 8000000 in
set_option maxRecDepth 100000 in
theorem canon_Marks.calls (k : Nat) (A0 : Option Addr) (c0 : Nat) (l0 : List Int) (r : Int) (w : World) (hr0 : Kd.C (Kd.int .i64) w A0 l0.length l0) (hc0 : l0.length ≤ c0) (h : canon_Marks.f k l0 = some r) :
    Calls Tryz.prog 37 #[.slice A0 l0.length c0] w fun e w' => e = .returned (.int .i64 r) ∧ Below w.heap.size w w' := by
  have HR0 := Aside0.mk hr0
  have HC0 := Aside0.mk hc0
  clear hr0 hc0
  have HB := Aside0.mk (Below.refl w.heap.size w)
  have H : ((canon_values.f k l0).bind fun t113 => (canon_Marks.l0 k 0 t113)) = some r := h
  clear h
  replace H := Option.bind_eq_some_iff.mp H
  obtain ⟨t113, A20, H⟩ := H
  replace H : (canon_Marks.l0 k 0 t113) = some r := H
  have A2 := Aside0.mk A20
  clear A20
  have H' := Aside0.mk H
  clear H
  go_enter Tryz.func37, Tryz.ntmps37
  go_wp2_with (first | ((with_reducible refine gate_callee (f := 61) rfl ?_); refine goesL_ (some 6) rfl rfl Tryz.func61 (by kernel_rfl) rfl #[.slice A0 l0.length c0] rfl (by (try simp only [List.map_toArray, List.map_cons, List.map_nil]); first | done | rfl | (simp only [List.length_drop, List.length_take]; rfl)) ?_; (with_reducible refine (canon_values.calls k _ _ l0 t113 _ ?side1 ?side2 A2.out).mono ?_); (case side1 => repeat (first | exact HR0.out | (with_reducible refine Kd.C_alloc ?_ _) | (with_reducible refine Kd.C_drewN ?_ _) | (with_reducible refine Kd.C_drew ?_))); (case side2 => exact HC0.out); rintro e w3 ⟨v114, rfl, ho0, hb⟩; refine ⟨_, rfl, ?_⟩; have n0_ := Aside0.mk (Kd.R_lower ho0 (below_size (by repeat (first | (with_reducible first | exact HB.out | apply below_alloc | apply pw_below_drewN | apply below_drew1) | exact HB.out)))); have n1_ := Aside0.mk (below_step (by repeat (first | (with_reducible first | exact HB.out | apply below_alloc | apply pw_below_drewN | apply below_drew1) | exact HB.out)) hb); clear HB; have HO115 := n0_; have HB := n1_; clear n0_ n1_; (try clear hb); (try clear hb2); (try clear hk); (try clear hi); (try clear ho0)))
  go_loopg [3, 4] k (fun kq v3 v4 w' => ∃ (x3_1 : Int) (x4_1 : List Int), v3 = .int .i64 x3_1 ∧ Aside0 (canon_Marks.l0 kq x3_1 x4_1 = some r) ∧ Aside0 (kq ≤ k) ∧ Aside0 (Kd.Q (Kd.int .i64) 75 w' w.heap.size (fun _ => True) v4 x4_1) ∧ Aside0 (Below w.heap.size w w'))
  case atStart => exact ⟨(0), (t113), (by first | rfl | (simp; done) | (simp [*]; done)), H', ⟨Nat.le_refl _⟩, ⟨Kd.Q_of_R (by (with_reducible repeat (first | apply Kd.R_alloc | apply Kd.R_drewN | apply Kd.R_drew)); exact HO115.out)⟩, ⟨by repeat (first | (with_reducible first | exact HB.out | apply below_alloc | apply pw_below_drewN | apply below_drew1) | exact HB.out)⟩⟩
  case round =>
    clear H'
    try clear p2
    try clear c3
    obtain ⟨x3_1, x4_1, rfl, HA, HK1, HO_4, HB⟩ := hrel
    cases gk with
    | zero => exact absurd HA.out (by simp [canon_Marks.l0])
    | succ k1 =>
      have H := HA.out
      clear HA
      simp only [canon_Marks.l0] at H
      by_cases c4 : (x4_1.length : Int) > 0
      · rw [if_pos c4] at H
        have c4b0 : decide (0 < (x4_1.length : Int)) = true := decide_eq_true c4
        have c4b1 : decide (0 < x4_1.length) = true := decide_eq_true (by omega)
        clear c4
        replace H := Option.bind_eq_some_iff.mp H
        obtain ⟨t116, A50, H⟩ := H
        replace H : (if 1 ≤ (x4_1.length : Int) then (canon_Marks.l0 k1 (mx x3_1 t116) (x4_1.drop (1 : Int).toNat)) else (none)) = some r := H
        have A5 := Aside0.mk A50
        clear A50
        obtain ⟨ji6, hji6⟩ : ∃ j_ : Int, (mx x3_1 t116) = j_ := ⟨_, rfl⟩
        replace H : (if 1 ≤ (x4_1.length : Int) then (canon_Marks.l0 k1 ji6 (x4_1.drop (1 : Int).toNat)) else (none)) = some r := by first | (rw [hji6] at H; exact H) | (simp only [hji6] at H ⊢; exact H)
        (try rw [hji6] at A5)
        have hji6_ : (if x3_1 < t116 then t116 else x3_1) = ji6 := hji6
        by_cases c7 : 1 ≤ (x4_1.length : Int)
        · rw [if_pos c7] at H
          have c7b0 := eq_true c7
          have c7b1 : decide (1 ≤ (x4_1.length : Int)) = true := decide_eq_true c7
          clear c7
          obtain ⟨y117, hy117⟩ : ∃ y_ : List Int, y_ = (x4_1.drop (1 : Int).toNat) := ⟨_, rfl⟩
          replace H : (canon_Marks.l0 k1 ji6 y117) = some r := by first | (rw [hy117]; with_reducible exact H) | (have H2_ := (Option.bind_some _ _).symm.trans H; rw [hy117]; with_reducible exact H2_) | (have H2_ := (Option.bind_some _ _).symm.trans H; with_reducible exact H2_) | with_reducible exact H | (rw [hy117]; exact H) | exact H
          have Ny117 := Aside0.mk hy117
          clear hy117
          have H' := Aside0.mk H
          clear H
          obtain ⟨Ao8, co8, eo8, _⟩ := Kd.Q_slice HO_4.out
          subst eo8
          go_wp2_with (first | ((with_reducible refine gate_callee (f := 62) rfl ?_); refine goesL_ (some 14) rfl rfl Tryz.func62 (by kernel_rfl) rfl #[.slice Ao8 x4_1.length co8] rfl (by (try simp only [List.map_toArray, List.map_cons, List.map_nil]); first | done | rfl | (simp only [List.length_drop, List.length_take]; rfl)) ?_; (with_reducible refine (canon_row.calls k1 _ _ x4_1 t116 _ ?side1 ?side2 A5.out).mono ?_); (case side1 => repeat (first | exact (Kd.Q_reads' HO_4.out).2.2 | (with_reducible refine Kd.C_alloc ?_ _) | (with_reducible refine Kd.C_drewN ?_ _) | (with_reducible refine Kd.C_drew ?_))); (case side2 => exact (Kd.Q_reads' HO_4.out).2.1); rintro e w9 ⟨rfl, hb⟩; refine ⟨_, rfl, ?_⟩; have n0_ := Aside0.mk (Kd.Q_below (by (with_reducible repeat (first | apply Kd.Q_alloc | apply Kd.Q_drewN | apply Kd.Q_drew)); exact HO_4.out) hb); have n1_ := Aside0.mk (below_step (by repeat (first | (with_reducible first | exact HB.out | apply below_alloc | apply pw_below_drewN | apply below_drew1) | exact HB.out)) hb); clear HO_4; clear HB; have HO_4 := n0_; have HB := n1_; clear n0_ n1_; (try clear hb); (try clear hb2); (try clear hk); (try clear hi); have q10 : (1 : Int) ≤ ((x4_1.length : Int) : Int) := of_decide_eq_true (by first | (with_reducible assumption) | assumption); obtain ⟨i010, hi010, _, hsz10, _⟩ := info_parts info75; have hcut10 := cut_from (P := Tryz.prog) 71 75 .i64 Tryz.underlying71 hi010 1 hsz10 Ao8 x4_1.length co8 1 (by omega) q10; have hr10 := Kd.Q_drop (k := (1 : Int).toNat) HO_4.out (by omega); obtain ⟨A10, hA10⟩ : ∃ A1, A1 = (if co8 = (1 : Int).toNat then Ao8 else (Ao8 : Option Addr).map (·.add ((1 : Int).toNat * 1))) := ⟨_, rfl⟩; obtain ⟨c10, hc10⟩ : ∃ c1, c1 = co8 - (1 : Int).toNat := ⟨_, rfl⟩; have hy10 : y117.length = x4_1.length - (1 : Int).toNat := (by rw [Ny117.out, List.length_drop]); rw [← Ny117.out] at hr10; rw [← hy10, ← hA10, ← hc10] at hcut10; replace hr10 : Kd.Q (Kd.int .i64) 75 w9 w.heap.size (fun _ => True) (.slice A10 y117.length c10) y117 := (by rw [hA10, hc10, hy10]; exact hr10); have HE10 : Aside0 ((Value.slice A10 y117.length c10).ownBlock = (.slice Ao8 x4_1.length co8 : Value).ownBlock) := ⟨by rw [hA10]; split <;> (cases (Ao8 : Option Addr) <;> rfl)⟩; clear hy10 hi010 hsz10 HO_4 hA10 hc10; have HO119 := Aside0.mk hr10; clear hr10; replace q10 := eq_true q10))
          go_roundg k1
          case measure => have := HK1.out; omega
          case rel => exact ⟨(ji6), (y117), (by first | rfl | (simp; done) | (simp only [← hji6] <;> (first | rfl | simp)) | (simp [*]; done)), H', ⟨by have := HK1.out; omega⟩, ⟨by (with_reducible repeat (first | apply Kd.Q_alloc | apply Kd.Q_drewN | apply Kd.Q_drew)); exact HO119.out⟩, ⟨by repeat (first | (with_reducible first | exact HB.out | apply below_alloc | apply pw_below_drewN | apply below_drew1) | exact HB.out)⟩⟩
        · rw [if_neg c7] at H
          exact absurd H (by simp)
      · rw [if_neg c4] at H
        have c4b0 : decide (0 < (x4_1.length : Int)) = false := decide_eq_false c4
        have c4b1 : decide (0 < x4_1.length) = false := decide_eq_false (by omega)
        clear c4
        obtain rfl := Option.some.inj H
        obtain ⟨Ao11, co11, eo11, _⟩ := Kd.Q_slice HO_4.out
        subst eo11
        go_wp2
        go_ret
        exact ⟨by first | rfl | (simp [errW_none, errW_some] <;> rfl) | (simp [*, errW_none, errW_some] <;> rfl), by repeat (first | (with_reducible first | exact HB.out | apply below_alloc | apply pw_below_drewN | apply below_drew1) | exact HB.out)⟩

/-! ### pentroughlaw07_awake: function 22 -/
def pentroughlaw07_awake.f (k : Nat)  : Option (Bool) := (Go.Proofs.Pt.canon_Order.f (([97, 770, 803] : List Int))).bind fun t123 => ((Go.Proofs.Pt.canon_Compose.f t123).bind fun t126 => (if (t123.length : Int) = 3 then (if 1 < (t123.length : Int) then (if (rd t123 1) = 803 then (if (t126.length : Int) = 1 then (if 0 < (t126.length : Int) then (if (rd t126 0) = 7853 then ((canon_Sorted.f k t123).bind fun t131 => (if t131 = true then ((canon_Marks.f k t123).bind fun t132 => (some (t132 == 2))) else (some false))) else (some false)) else (none)) else (some false)) else (some false)) else (none)) else (some false)))
theorem pentroughlaw07_awake.mono : ∀ k, LeO (pentroughlaw07_awake.f k ) (pentroughlaw07_awake.f (k + 1) ) := by
  intro  k
  unfold pentroughlaw07_awake.f
  repeat' first
      | (with_reducible exact canon_Marks.mono _ _)
      | (with_reducible exact canon_Sorted.mono _ _)
      | (with_reducible exact LeO.refl _)
      | (with_reducible exact LeO.none _)
      | (with_reducible refine LeO.ite ?_ ?_)
      | (with_reducible refine LeO.bind ?_ (fun _ => ?_))
      | exact canon_Marks.mono _ _
      | exact canon_Sorted.mono _ _
      | exact LeO.none _
      | refine LeO.ite ?_ ?_
      | refine LeO.bind ?_ (fun _ => ?_)
set_option maxHeartbeats 8000000 in
set_option maxRecDepth 100000 in
theorem pentroughlaw07_awake.calls (k : Nat)  (r : Bool) (w : World) (h : pentroughlaw07_awake.f k  = some r) :
    Calls Tryz.prog 22 #[] w fun e w' => e = .returned (.bool r) ∧ Below w.heap.size w w' := by
  have HB := Aside0.mk (Below.refl w.heap.size w)
  have H : ((Go.Proofs.Pt.canon_Order.f (([97, 770, 803] : List Int))).bind fun t123 => ((Go.Proofs.Pt.canon_Compose.f t123).bind fun t126 => (if (t123.length : Int) = 3 then (if 1 < (t123.length : Int) then (if (rd t123 1) = 803 then (if (t126.length : Int) = 1 then (if 0 < (t126.length : Int) then (if (rd t126 0) = 7853 then ((canon_Sorted.f k t123).bind fun t131 => (if t131 = true then ((canon_Marks.f k t123).bind fun t132 => (some (t132 == 2))) else (some false))) else (some false)) else (none)) else (some false)) else (some false)) else (none)) else (some false)))) = some r := h
  clear h
  obtain ⟨y120, hy120⟩ : ∃ y_ : List Int, y_ = (([97, 770, 803] : List Int)) := ⟨_, rfl⟩
  replace H : ((Go.Proofs.Pt.canon_Order.f y120).bind fun t123 => ((Go.Proofs.Pt.canon_Compose.f t123).bind fun t126 => (if (t123.length : Int) = 3 then (if 1 < (t123.length : Int) then (if (rd t123 1) = 803 then (if (t126.length : Int) = 1 then (if 0 < (t126.length : Int) then (if (rd t126 0) = 7853 then ((canon_Sorted.f k t123).bind fun t131 => (if t131 = true then ((canon_Marks.f k t123).bind fun t132 => (some (t132 == 2))) else (some false))) else (some false)) else (none)) else (some false)) else (some false)) else (none)) else (some false)))) = some r := by first | (rw [hy120]; with_reducible exact H) | (have H2_ := (Option.bind_some _ _).symm.trans H; rw [hy120]; with_reducible exact H2_) | (have H2_ := (Option.bind_some _ _).symm.trans H; with_reducible exact H2_) | with_reducible exact H | (rw [hy120]; exact H) | exact H
  have Ny120 := Aside0.mk hy120
  clear hy120
  replace H := Option.bind_eq_some_iff.mp H
  obtain ⟨t123, A10, H⟩ := H
  replace H : ((Go.Proofs.Pt.canon_Compose.f t123).bind fun t126 => (if (t123.length : Int) = 3 then (if 1 < (t123.length : Int) then (if (rd t123 1) = 803 then (if (t126.length : Int) = 1 then (if 0 < (t126.length : Int) then (if (rd t126 0) = 7853 then ((canon_Sorted.f k t123).bind fun t131 => (if t131 = true then ((canon_Marks.f k t123).bind fun t132 => (some (t132 == 2))) else (some false))) else (some false)) else (none)) else (some false)) else (some false)) else (none)) else (some false))) = some r := H
  have A1 := Aside0.mk A10
  clear A10
  replace H := Option.bind_eq_some_iff.mp H
  obtain ⟨t126, A20, H⟩ := H
  replace H : (if (t123.length : Int) = 3 then (if 1 < (t123.length : Int) then (if (rd t123 1) = 803 then (if (t126.length : Int) = 1 then (if 0 < (t126.length : Int) then (if (rd t126 0) = 7853 then ((canon_Sorted.f k t123).bind fun t131 => (if t131 = true then ((canon_Marks.f k t123).bind fun t132 => (some (t132 == 2))) else (some false))) else (some false)) else (none)) else (some false)) else (some false)) else (none)) else (some false)) = some r := H
  have A2 := Aside0.mk A20
  clear A20
  by_cases c3 : (t123.length : Int) = 3
  · rw [if_pos c3] at H
    have c3b0 : ((t123.length : Int) == 3) = true := beq_iff_eq.mpr c3
    have c3b1 : ((t123.length : Int) != 3) = false := bne_eq_false_iff_eq.mpr c3
    clear c3
    by_cases c4 : 1 < (t123.length : Int)
    · rw [if_pos c4] at H
      have c4b0 : decide (1 < (t123.length : Int)) = true := decide_eq_true c4
      have c4b1 : decide (1 < t123.length) = true := decide_eq_true (by omega)
      clear c4
      by_cases c5 : (rd t123 1) = 803
      · rw [if_pos c5] at H
        have c5b0 : ((rd t123 1) == 803) = true := beq_iff_eq.mpr c5
        have c5b1 : ((rd t123 1) != 803) = false := bne_eq_false_iff_eq.mpr c5
        clear c5
        by_cases c6 : (t126.length : Int) = 1
        · rw [if_pos c6] at H
          have c6b0 : ((t126.length : Int) == 1) = true := beq_iff_eq.mpr c6
          have c6b1 : ((t126.length : Int) != 1) = false := bne_eq_false_iff_eq.mpr c6
          clear c6
          by_cases c7 : 0 < (t126.length : Int)
          · rw [if_pos c7] at H
            have c7b0 : decide (0 < (t126.length : Int)) = true := decide_eq_true c7
            have c7b1 : decide (0 < t126.length) = true := decide_eq_true (by omega)
            clear c7
            by_cases c8 : (rd t126 0) = 7853
            · rw [if_pos c8] at H
              have c8b0 : ((rd t126 0) == 7853) = true := beq_iff_eq.mpr c8
              have c8b1 : ((rd t126 0) != 7853) = false := bne_eq_false_iff_eq.mpr c8
              clear c8
              replace H := Option.bind_eq_some_iff.mp H
              obtain ⟨t131, A90, H⟩ := H
              replace H : (if t131 = true then ((canon_Marks.f k t123).bind fun t132 => (some (t132 == 2))) else (some false)) = some r := H
              have A9 := Aside0.mk A90
              clear A90
              by_cases c10 : t131 = true
              · subst c10
                have H1 : ((canon_Marks.f k t123).bind fun t132 => (some (t132 == 2))) = some r := by rw [if_pos rfl] at H; exact H
                clear H
                have H := H1
                clear H1
                replace H := Option.bind_eq_some_iff.mp H
                obtain ⟨t132, A110, H⟩ := H
                replace H : (some (t132 == 2)) = some r := H
                have A11 := Aside0.mk A110
                clear A110
                obtain rfl := Option.some.inj H
                go_enter Tryz.func22, Tryz.ntmps22
                go_wp2_with (first | ((with_reducible refine gate_dst (N := 3) rfl ?_); (try (refine gate_guard (by rfl) ?_; dsimp only)); refine Kd.R_lit (Kd.int .i64) _ 3 ?hg (N := 3) ?hd (xs := ([97, 770, 803] : List Int)) (inner := [.int .i64 97, .int .i64 770, .int .i64 803]) (ok := fun _ => True) (okp := fun _ => True) ?hr ?hp (fun _ hk => hk) trivial (Below.refl _ _) (Nat.le_refl _) (by simp) ?_; (case hd => rfl); (case hg => rfl); (case hr => first | (go_simp; done) | (go_simp; rfl)); (case hp => exact (Reps.one (show Kd.M (Kd.int .i64) _ _ _ 97 [.int .i64 97] from rfl) (Reps.one (show Kd.M (Kd.int .i64) _ _ _ 770 [.int .i64 770] from rfl) (Reps.one (show Kd.M (Kd.int .i64) _ _ _ 803 [.int .i64 803] from rfl) (Reps.none _ _))))); intro v121 w12 ho13 hb hg_ hnew_; clear hg_ hnew_; (first | rw [← Ny120.out] at ho13 | (simp only [Int.reduceToNat] at ho13; rw [← Ny120.out] at ho13)); have n0_ := Aside0.mk (Kd.R_lower ho13 (below_size (by repeat (first | (with_reducible first | exact HB.out | apply below_alloc | apply pw_below_drewN | apply below_drew1) | exact HB.out)))); have n1_ := Aside0.mk (below_step (by repeat (first | (with_reducible first | exact HB.out | apply below_alloc | apply pw_below_drewN | apply below_drew1) | exact HB.out)) hb); clear HB; have HO122 := n0_; have HB := n1_; clear n0_ n1_; clear hb ho13; obtain ⟨Ao14, co14, eo14⟩ := Kd.R_slice HO122.out; subst eo14) | ((with_reducible refine gate_callee (f := 23) rfl ?_); refine goesL_ (some 4) rfl rfl Tryz.func23 (by kernel_rfl) rfl #[.slice Ao14 y120.length co14] rfl (by (try simp only [List.map_toArray, List.map_cons, List.map_nil]); first | done | rfl | (simp only [List.length_drop, List.length_take]; rfl)) ?_; (with_reducible refine (Go.Proofs.Pt.canon_Order.calls _ _ y120 t123 _ ?side1 ?side2 A1.out).mono ?_); (case side1 => repeat (first | exact (Kd.R_reads' HO122.out).2.2 | (with_reducible refine Kd.C_alloc ?_ _) | (with_reducible refine Kd.C_drewN ?_ _) | (with_reducible refine Kd.C_drew ?_))); (case side2 => exact (Kd.R_reads' HO122.out).2.1); rintro e w15 ⟨v124, rfl, ho0, hb⟩; refine ⟨_, rfl, ?_⟩; have n0_ := Aside0.mk (Kd.R_elder' (by (with_reducible repeat (first | apply Kd.R_alloc | apply Kd.R_drewN | apply Kd.R_drew)); exact HO122.out) (Kd.R_base ho0) hb); have n1_ := Aside0.mk (Kd.R_lower (Kd.R_new' ho0 (Kd.R_lt (by (with_reducible repeat (first | apply Kd.R_alloc | apply Kd.R_drewN | apply Kd.R_drew)); exact HO122.out))) (below_size (by repeat (first | (with_reducible first | exact HB.out | apply below_alloc | apply pw_below_drewN | apply below_drew1) | exact HB.out)))); have n2_ := Aside0.mk (below_step (by repeat (first | (with_reducible first | exact HB.out | apply below_alloc | apply pw_below_drewN | apply below_drew1) | exact HB.out)) hb); clear HO122; clear HB; have HO122 := n0_; have HO125 := n1_; have HB := n2_; clear n0_ n1_ n2_; (try clear hb); (try clear hb2); (try clear hk); (try clear hi); (try clear ho0); obtain ⟨Ao16, co16, eo16⟩ := Kd.R_slice HO125.out; subst eo16) | ((with_reducible refine gate_callee (f := 24) rfl ?_); refine goesL_ (some 6) rfl rfl Tryz.func24 (by kernel_rfl) rfl #[.slice Ao16 t123.length co16] rfl (by (try simp only [List.map_toArray, List.map_cons, List.map_nil]); first | done | rfl | (simp only [List.length_drop, List.length_take]; rfl)) ?_; (with_reducible refine (Go.Proofs.Pt.canon_Compose.calls _ _ t123 t126 _ ?side1 ?side2 A2.out).mono ?_); (case side1 => repeat (first | exact (Kd.R_reads' HO125.out).2.2 | (with_reducible refine Kd.C_alloc ?_ _) | (with_reducible refine Kd.C_drewN ?_ _) | (with_reducible refine Kd.C_drew ?_))); (case side2 => exact (Kd.R_reads' HO125.out).2.1); rintro e w17 ⟨v127, rfl, ho0, hb⟩; refine ⟨_, rfl, ?_⟩; have n0_ := Aside0.mk (Kd.R_elder' (by (with_reducible repeat (first | apply Kd.R_alloc | apply Kd.R_drewN | apply Kd.R_drew)); exact HO122.out) (Kd.R_base ho0) hb); have n1_ := Aside0.mk (Kd.R_elder' (by (with_reducible repeat (first | apply Kd.R_alloc | apply Kd.R_drewN | apply Kd.R_drew)); exact HO125.out) (Kd.R_base ho0) hb); have n2_ := Aside0.mk (Kd.R_lower (Kd.R_new' (Kd.R_new' ho0 (Kd.R_lt (by (with_reducible repeat (first | apply Kd.R_alloc | apply Kd.R_drewN | apply Kd.R_drew)); exact HO122.out))) (Kd.R_lt (by (with_reducible repeat (first | apply Kd.R_alloc | apply Kd.R_drewN | apply Kd.R_drew)); exact HO125.out))) (below_size (by repeat (first | (with_reducible first | exact HB.out | apply below_alloc | apply pw_below_drewN | apply below_drew1) | exact HB.out)))); have n3_ := Aside0.mk (below_step (by repeat (first | (with_reducible first | exact HB.out | apply below_alloc | apply pw_below_drewN | apply below_drew1) | exact HB.out)) hb); clear HO122; clear HO125; clear HB; have HO122 := n0_; have HO125 := n1_; have HO128 := n2_; have HB := n3_; clear n0_ n1_ n2_ n3_; (try clear hb); (try clear hb2); (try clear hk); (try clear hi); (try clear ho0); have p129 : 0 ≤ (1 : Int) := (by omega); have q129 : 1 < (t123.length : Int) := of_decide_eq_true (by first | (with_reducible assumption) | assumption); obtain ⟨ad129, e129, hx129_0⟩ := Kd.at_int (Kd.R_reads' HO125.out).2.2 1 p129 q129; cases e129; (try simp only [show (1 : Int).toNat = 1 from rfl, Nat.reduceMul, Nat.reduceEqDiff, Go.Addr.add, ↓reduceIte] at hx129_0); have qi129 : (1 < t123.length) = True := eq_true (by omega); (try rw [show ((1 : Int)).toNat = 1 from rfl] at hx129_0); replace p129 := eq_true p129; replace q129 := eq_true q129; obtain ⟨Ao18, co18, eo18⟩ := Kd.R_slice HO128.out; subst eo18; have p130 : 0 ≤ (0 : Int) := (by omega); have q130 : 0 < (t126.length : Int) := of_decide_eq_true (by first | (with_reducible assumption) | assumption); obtain ⟨ad130, e130, hx130_0⟩ := Kd.at_int (Kd.R_reads' HO128.out).2.2 0 p130 q130; cases e130; have qi130 : (0 < t126.length) = True := eq_true (by omega); (try rw [show ((0 : Int)).toNat = 0 from rfl] at hx130_0); (try rw [Addr.add_zero'] at hx130_0); replace p130 := eq_true p130; replace q130 := eq_true q130) | (go_at_call 25; (with_reducible refine (canon_Sorted.calls k _ _ t123 true _ ?side1 ?side2 A9.out).mono ?_); (case side1 => repeat (first | exact (Kd.R_reads' HO125.out).2.2 | (with_reducible refine Kd.C_alloc ?_ _) | (with_reducible refine Kd.C_drewN ?_ _) | (with_reducible refine Kd.C_drew ?_))); (case side2 => exact (Kd.R_reads' HO125.out).2.1); rintro e w19 ⟨rfl, hb⟩; have n0_ := Aside0.mk (Kd.R_below (by (with_reducible repeat (first | apply Kd.R_alloc | apply Kd.R_drewN | apply Kd.R_drew)); exact HO122.out) hb); have n1_ := Aside0.mk (Kd.R_below (by (with_reducible repeat (first | apply Kd.R_alloc | apply Kd.R_drewN | apply Kd.R_drew)); exact HO125.out) hb); have n2_ := Aside0.mk (Kd.R_below (by (with_reducible repeat (first | apply Kd.R_alloc | apply Kd.R_drewN | apply Kd.R_drew)); exact HO128.out) hb); have n3_ := Aside0.mk (below_step (by repeat (first | (with_reducible first | exact HB.out | apply below_alloc | apply pw_below_drewN | apply below_drew1) | exact HB.out)) hb); clear HO122; clear HO125; clear HO128; clear HB; have HO122 := n0_; have HO125 := n1_; have HO128 := n2_; have HB := n3_; clear n0_ n1_ n2_ n3_; (try clear hb); (try clear hb2); (try clear hk); (try clear hi)) | (go_at_call 37; (with_reducible refine (canon_Marks.calls k _ _ t123 t132 _ ?side1 ?side2 A11.out).mono ?_); (case side1 => repeat (first | exact (Kd.R_reads' HO125.out).2.2 | (with_reducible refine Kd.C_alloc ?_ _) | (with_reducible refine Kd.C_drewN ?_ _) | (with_reducible refine Kd.C_drew ?_))); (case side2 => exact (Kd.R_reads' HO125.out).2.1); rintro e w20 ⟨rfl, hb⟩; have n0_ := Aside0.mk (Kd.R_below (by (with_reducible repeat (first | apply Kd.R_alloc | apply Kd.R_drewN | apply Kd.R_drew)); exact HO122.out) hb); have n1_ := Aside0.mk (Kd.R_below (by (with_reducible repeat (first | apply Kd.R_alloc | apply Kd.R_drewN | apply Kd.R_drew)); exact HO125.out) hb); have n2_ := Aside0.mk (Kd.R_below (by (with_reducible repeat (first | apply Kd.R_alloc | apply Kd.R_drewN | apply Kd.R_drew)); exact HO128.out) hb); have n3_ := Aside0.mk (below_step (by repeat (first | (with_reducible first | exact HB.out | apply below_alloc | apply pw_below_drewN | apply below_drew1) | exact HB.out)) hb); clear HO122; clear HO125; clear HO128; clear HB; have HO122 := n0_; have HO125 := n1_; have HO128 := n2_; have HB := n3_; clear n0_ n1_ n2_ n3_; (try clear hb); (try clear hb2); (try clear hk); (try clear hi)))
                go_ret
                exact ⟨by first | rfl | (simp [errW_none, errW_some] <;> rfl) | (simp [*, errW_none, errW_some] <;> rfl), by repeat (first | (with_reducible first | exact HB.out | apply below_alloc | apply pw_below_drewN | apply below_drew1) | exact HB.out)⟩
              · replace c10 := Bool.eq_false_iff.mpr c10
                subst c10
                have H1 : (some false) = some r := by rw [if_neg (show ¬ (false = true) by decide)] at H; exact H
                clear H
                have H := H1
                clear H1
                obtain rfl := Option.some.inj H
                go_enter Tryz.func22, Tryz.ntmps22
                go_wp2_with (first | ((with_reducible refine gate_dst (N := 3) rfl ?_); (try (refine gate_guard (by rfl) ?_; dsimp only)); refine Kd.R_lit (Kd.int .i64) _ 3 ?hg (N := 3) ?hd (xs := ([97, 770, 803] : List Int)) (inner := [.int .i64 97, .int .i64 770, .int .i64 803]) (ok := fun _ => True) (okp := fun _ => True) ?hr ?hp (fun _ hk => hk) trivial (Below.refl _ _) (Nat.le_refl _) (by simp) ?_; (case hd => rfl); (case hg => rfl); (case hr => first | (go_simp; done) | (go_simp; rfl)); (case hp => exact (Reps.one (show Kd.M (Kd.int .i64) _ _ _ 97 [.int .i64 97] from rfl) (Reps.one (show Kd.M (Kd.int .i64) _ _ _ 770 [.int .i64 770] from rfl) (Reps.one (show Kd.M (Kd.int .i64) _ _ _ 803 [.int .i64 803] from rfl) (Reps.none _ _))))); intro v121 w21 ho22 hb hg_ hnew_; clear hg_ hnew_; (first | rw [← Ny120.out] at ho22 | (simp only [Int.reduceToNat] at ho22; rw [← Ny120.out] at ho22)); have n0_ := Aside0.mk (Kd.R_lower ho22 (below_size (by repeat (first | (with_reducible first | exact HB.out | apply below_alloc | apply pw_below_drewN | apply below_drew1) | exact HB.out)))); have n1_ := Aside0.mk (below_step (by repeat (first | (with_reducible first | exact HB.out | apply below_alloc | apply pw_below_drewN | apply below_drew1) | exact HB.out)) hb); clear HB; have HO122 := n0_; have HB := n1_; clear n0_ n1_; clear hb ho22; obtain ⟨Ao23, co23, eo23⟩ := Kd.R_slice HO122.out; subst eo23) | ((with_reducible refine gate_callee (f := 23) rfl ?_); refine goesL_ (some 4) rfl rfl Tryz.func23 (by kernel_rfl) rfl #[.slice Ao23 y120.length co23] rfl (by (try simp only [List.map_toArray, List.map_cons, List.map_nil]); first | done | rfl | (simp only [List.length_drop, List.length_take]; rfl)) ?_; (with_reducible refine (Go.Proofs.Pt.canon_Order.calls _ _ y120 t123 _ ?side1 ?side2 A1.out).mono ?_); (case side1 => repeat (first | exact (Kd.R_reads' HO122.out).2.2 | (with_reducible refine Kd.C_alloc ?_ _) | (with_reducible refine Kd.C_drewN ?_ _) | (with_reducible refine Kd.C_drew ?_))); (case side2 => exact (Kd.R_reads' HO122.out).2.1); rintro e w24 ⟨v124, rfl, ho0, hb⟩; refine ⟨_, rfl, ?_⟩; have n0_ := Aside0.mk (Kd.R_elder' (by (with_reducible repeat (first | apply Kd.R_alloc | apply Kd.R_drewN | apply Kd.R_drew)); exact HO122.out) (Kd.R_base ho0) hb); have n1_ := Aside0.mk (Kd.R_lower (Kd.R_new' ho0 (Kd.R_lt (by (with_reducible repeat (first | apply Kd.R_alloc | apply Kd.R_drewN | apply Kd.R_drew)); exact HO122.out))) (below_size (by repeat (first | (with_reducible first | exact HB.out | apply below_alloc | apply pw_below_drewN | apply below_drew1) | exact HB.out)))); have n2_ := Aside0.mk (below_step (by repeat (first | (with_reducible first | exact HB.out | apply below_alloc | apply pw_below_drewN | apply below_drew1) | exact HB.out)) hb); clear HO122; clear HB; have HO122 := n0_; have HO125 := n1_; have HB := n2_; clear n0_ n1_ n2_; (try clear hb); (try clear hb2); (try clear hk); (try clear hi); (try clear ho0); obtain ⟨Ao25, co25, eo25⟩ := Kd.R_slice HO125.out; subst eo25) | ((with_reducible refine gate_callee (f := 24) rfl ?_); refine goesL_ (some 6) rfl rfl Tryz.func24 (by kernel_rfl) rfl #[.slice Ao25 t123.length co25] rfl (by (try simp only [List.map_toArray, List.map_cons, List.map_nil]); first | done | rfl | (simp only [List.length_drop, List.length_take]; rfl)) ?_; (with_reducible refine (Go.Proofs.Pt.canon_Compose.calls _ _ t123 t126 _ ?side1 ?side2 A2.out).mono ?_); (case side1 => repeat (first | exact (Kd.R_reads' HO125.out).2.2 | (with_reducible refine Kd.C_alloc ?_ _) | (with_reducible refine Kd.C_drewN ?_ _) | (with_reducible refine Kd.C_drew ?_))); (case side2 => exact (Kd.R_reads' HO125.out).2.1); rintro e w26 ⟨v127, rfl, ho0, hb⟩; refine ⟨_, rfl, ?_⟩; have n0_ := Aside0.mk (Kd.R_elder' (by (with_reducible repeat (first | apply Kd.R_alloc | apply Kd.R_drewN | apply Kd.R_drew)); exact HO122.out) (Kd.R_base ho0) hb); have n1_ := Aside0.mk (Kd.R_elder' (by (with_reducible repeat (first | apply Kd.R_alloc | apply Kd.R_drewN | apply Kd.R_drew)); exact HO125.out) (Kd.R_base ho0) hb); have n2_ := Aside0.mk (Kd.R_lower (Kd.R_new' (Kd.R_new' ho0 (Kd.R_lt (by (with_reducible repeat (first | apply Kd.R_alloc | apply Kd.R_drewN | apply Kd.R_drew)); exact HO122.out))) (Kd.R_lt (by (with_reducible repeat (first | apply Kd.R_alloc | apply Kd.R_drewN | apply Kd.R_drew)); exact HO125.out))) (below_size (by repeat (first | (with_reducible first | exact HB.out | apply below_alloc | apply pw_below_drewN | apply below_drew1) | exact HB.out)))); have n3_ := Aside0.mk (below_step (by repeat (first | (with_reducible first | exact HB.out | apply below_alloc | apply pw_below_drewN | apply below_drew1) | exact HB.out)) hb); clear HO122; clear HO125; clear HB; have HO122 := n0_; have HO125 := n1_; have HO128 := n2_; have HB := n3_; clear n0_ n1_ n2_ n3_; (try clear hb); (try clear hb2); (try clear hk); (try clear hi); (try clear ho0); have p129 : 0 ≤ (1 : Int) := (by omega); have q129 : 1 < (t123.length : Int) := of_decide_eq_true (by first | (with_reducible assumption) | assumption); obtain ⟨ad129, e129, hx129_0⟩ := Kd.at_int (Kd.R_reads' HO125.out).2.2 1 p129 q129; cases e129; (try simp only [show (1 : Int).toNat = 1 from rfl, Nat.reduceMul, Nat.reduceEqDiff, Go.Addr.add, ↓reduceIte] at hx129_0); have qi129 : (1 < t123.length) = True := eq_true (by omega); (try rw [show ((1 : Int)).toNat = 1 from rfl] at hx129_0); replace p129 := eq_true p129; replace q129 := eq_true q129; obtain ⟨Ao27, co27, eo27⟩ := Kd.R_slice HO128.out; subst eo27; have p130 : 0 ≤ (0 : Int) := (by omega); have q130 : 0 < (t126.length : Int) := of_decide_eq_true (by first | (with_reducible assumption) | assumption); obtain ⟨ad130, e130, hx130_0⟩ := Kd.at_int (Kd.R_reads' HO128.out).2.2 0 p130 q130; cases e130; have qi130 : (0 < t126.length) = True := eq_true (by omega); (try rw [show ((0 : Int)).toNat = 0 from rfl] at hx130_0); (try rw [Addr.add_zero'] at hx130_0); replace p130 := eq_true p130; replace q130 := eq_true q130) | (go_at_call 25; (with_reducible refine (canon_Sorted.calls k _ _ t123 false _ ?side1 ?side2 A9.out).mono ?_); (case side1 => repeat (first | exact (Kd.R_reads' HO125.out).2.2 | (with_reducible refine Kd.C_alloc ?_ _) | (with_reducible refine Kd.C_drewN ?_ _) | (with_reducible refine Kd.C_drew ?_))); (case side2 => exact (Kd.R_reads' HO125.out).2.1); rintro e w28 ⟨rfl, hb⟩; have n0_ := Aside0.mk (Kd.R_below (by (with_reducible repeat (first | apply Kd.R_alloc | apply Kd.R_drewN | apply Kd.R_drew)); exact HO122.out) hb); have n1_ := Aside0.mk (Kd.R_below (by (with_reducible repeat (first | apply Kd.R_alloc | apply Kd.R_drewN | apply Kd.R_drew)); exact HO125.out) hb); have n2_ := Aside0.mk (Kd.R_below (by (with_reducible repeat (first | apply Kd.R_alloc | apply Kd.R_drewN | apply Kd.R_drew)); exact HO128.out) hb); have n3_ := Aside0.mk (below_step (by repeat (first | (with_reducible first | exact HB.out | apply below_alloc | apply pw_below_drewN | apply below_drew1) | exact HB.out)) hb); clear HO122; clear HO125; clear HO128; clear HB; have HO122 := n0_; have HO125 := n1_; have HO128 := n2_; have HB := n3_; clear n0_ n1_ n2_ n3_; (try clear hb); (try clear hb2); (try clear hk); (try clear hi)))
                go_ret
                exact ⟨by first | rfl | (simp [errW_none, errW_some] <;> rfl) | (simp [*, errW_none, errW_some] <;> rfl), by repeat (first | (with_reducible first | exact HB.out | apply below_alloc | apply pw_below_drewN | apply below_drew1) | exact HB.out)⟩
            · rw [if_neg c8] at H
              have c8b0 : ((rd t126 0) == 7853) = false := beq_eq_false_iff_ne.mpr c8
              have c8b1 : ((rd t126 0) != 7853) = true := bne_iff_ne.mpr c8
              obtain rfl := Option.some.inj H
              go_enter Tryz.func22, Tryz.ntmps22
              go_wp2_with (first | ((with_reducible refine gate_dst (N := 3) rfl ?_); (try (refine gate_guard (by rfl) ?_; dsimp only)); refine Kd.R_lit (Kd.int .i64) _ 3 ?hg (N := 3) ?hd (xs := ([97, 770, 803] : List Int)) (inner := [.int .i64 97, .int .i64 770, .int .i64 803]) (ok := fun _ => True) (okp := fun _ => True) ?hr ?hp (fun _ hk => hk) trivial (Below.refl _ _) (Nat.le_refl _) (by simp) ?_; (case hd => rfl); (case hg => rfl); (case hr => first | (go_simp; done) | (go_simp; rfl)); (case hp => exact (Reps.one (show Kd.M (Kd.int .i64) _ _ _ 97 [.int .i64 97] from rfl) (Reps.one (show Kd.M (Kd.int .i64) _ _ _ 770 [.int .i64 770] from rfl) (Reps.one (show Kd.M (Kd.int .i64) _ _ _ 803 [.int .i64 803] from rfl) (Reps.none _ _))))); intro v121 w29 ho30 hb hg_ hnew_; clear hg_ hnew_; (first | rw [← Ny120.out] at ho30 | (simp only [Int.reduceToNat] at ho30; rw [← Ny120.out] at ho30)); have n0_ := Aside0.mk (Kd.R_lower ho30 (below_size (by repeat (first | (with_reducible first | exact HB.out | apply below_alloc | apply pw_below_drewN | apply below_drew1) | exact HB.out)))); have n1_ := Aside0.mk (below_step (by repeat (first | (with_reducible first | exact HB.out | apply below_alloc | apply pw_below_drewN | apply below_drew1) | exact HB.out)) hb); clear HB; have HO122 := n0_; have HB := n1_; clear n0_ n1_; clear hb ho30; obtain ⟨Ao31, co31, eo31⟩ := Kd.R_slice HO122.out; subst eo31) | ((with_reducible refine gate_callee (f := 23) rfl ?_); refine goesL_ (some 4) rfl rfl Tryz.func23 (by kernel_rfl) rfl #[.slice Ao31 y120.length co31] rfl (by (try simp only [List.map_toArray, List.map_cons, List.map_nil]); first | done | rfl | (simp only [List.length_drop, List.length_take]; rfl)) ?_; (with_reducible refine (Go.Proofs.Pt.canon_Order.calls _ _ y120 t123 _ ?side1 ?side2 A1.out).mono ?_); (case side1 => repeat (first | exact (Kd.R_reads' HO122.out).2.2 | (with_reducible refine Kd.C_alloc ?_ _) | (with_reducible refine Kd.C_drewN ?_ _) | (with_reducible refine Kd.C_drew ?_))); (case side2 => exact (Kd.R_reads' HO122.out).2.1); rintro e w32 ⟨v124, rfl, ho0, hb⟩; refine ⟨_, rfl, ?_⟩; have n0_ := Aside0.mk (Kd.R_elder' (by (with_reducible repeat (first | apply Kd.R_alloc | apply Kd.R_drewN | apply Kd.R_drew)); exact HO122.out) (Kd.R_base ho0) hb); have n1_ := Aside0.mk (Kd.R_lower (Kd.R_new' ho0 (Kd.R_lt (by (with_reducible repeat (first | apply Kd.R_alloc | apply Kd.R_drewN | apply Kd.R_drew)); exact HO122.out))) (below_size (by repeat (first | (with_reducible first | exact HB.out | apply below_alloc | apply pw_below_drewN | apply below_drew1) | exact HB.out)))); have n2_ := Aside0.mk (below_step (by repeat (first | (with_reducible first | exact HB.out | apply below_alloc | apply pw_below_drewN | apply below_drew1) | exact HB.out)) hb); clear HO122; clear HB; have HO122 := n0_; have HO125 := n1_; have HB := n2_; clear n0_ n1_ n2_; (try clear hb); (try clear hb2); (try clear hk); (try clear hi); (try clear ho0); obtain ⟨Ao33, co33, eo33⟩ := Kd.R_slice HO125.out; subst eo33) | ((with_reducible refine gate_callee (f := 24) rfl ?_); refine goesL_ (some 6) rfl rfl Tryz.func24 (by kernel_rfl) rfl #[.slice Ao33 t123.length co33] rfl (by (try simp only [List.map_toArray, List.map_cons, List.map_nil]); first | done | rfl | (simp only [List.length_drop, List.length_take]; rfl)) ?_; (with_reducible refine (Go.Proofs.Pt.canon_Compose.calls _ _ t123 t126 _ ?side1 ?side2 A2.out).mono ?_); (case side1 => repeat (first | exact (Kd.R_reads' HO125.out).2.2 | (with_reducible refine Kd.C_alloc ?_ _) | (with_reducible refine Kd.C_drewN ?_ _) | (with_reducible refine Kd.C_drew ?_))); (case side2 => exact (Kd.R_reads' HO125.out).2.1); rintro e w34 ⟨v127, rfl, ho0, hb⟩; refine ⟨_, rfl, ?_⟩; have n0_ := Aside0.mk (Kd.R_elder' (by (with_reducible repeat (first | apply Kd.R_alloc | apply Kd.R_drewN | apply Kd.R_drew)); exact HO122.out) (Kd.R_base ho0) hb); have n1_ := Aside0.mk (Kd.R_elder' (by (with_reducible repeat (first | apply Kd.R_alloc | apply Kd.R_drewN | apply Kd.R_drew)); exact HO125.out) (Kd.R_base ho0) hb); have n2_ := Aside0.mk (Kd.R_lower (Kd.R_new' (Kd.R_new' ho0 (Kd.R_lt (by (with_reducible repeat (first | apply Kd.R_alloc | apply Kd.R_drewN | apply Kd.R_drew)); exact HO122.out))) (Kd.R_lt (by (with_reducible repeat (first | apply Kd.R_alloc | apply Kd.R_drewN | apply Kd.R_drew)); exact HO125.out))) (below_size (by repeat (first | (with_reducible first | exact HB.out | apply below_alloc | apply pw_below_drewN | apply below_drew1) | exact HB.out)))); have n3_ := Aside0.mk (below_step (by repeat (first | (with_reducible first | exact HB.out | apply below_alloc | apply pw_below_drewN | apply below_drew1) | exact HB.out)) hb); clear HO122; clear HO125; clear HB; have HO122 := n0_; have HO125 := n1_; have HO128 := n2_; have HB := n3_; clear n0_ n1_ n2_ n3_; (try clear hb); (try clear hb2); (try clear hk); (try clear hi); (try clear ho0); have p129 : 0 ≤ (1 : Int) := (by omega); have q129 : 1 < (t123.length : Int) := of_decide_eq_true (by first | (with_reducible assumption) | assumption); obtain ⟨ad129, e129, hx129_0⟩ := Kd.at_int (Kd.R_reads' HO125.out).2.2 1 p129 q129; cases e129; (try simp only [show (1 : Int).toNat = 1 from rfl, Nat.reduceMul, Nat.reduceEqDiff, Go.Addr.add, ↓reduceIte] at hx129_0); have qi129 : (1 < t123.length) = True := eq_true (by omega); (try rw [show ((1 : Int)).toNat = 1 from rfl] at hx129_0); replace p129 := eq_true p129; replace q129 := eq_true q129; obtain ⟨Ao35, co35, eo35⟩ := Kd.R_slice HO128.out; subst eo35; have p130 : 0 ≤ (0 : Int) := (by omega); have q130 : 0 < (t126.length : Int) := of_decide_eq_true (by first | (with_reducible assumption) | assumption); obtain ⟨ad130, e130, hx130_0⟩ := Kd.at_int (Kd.R_reads' HO128.out).2.2 0 p130 q130; cases e130; have qi130 : (0 < t126.length) = True := eq_true (by omega); (try rw [show ((0 : Int)).toNat = 0 from rfl] at hx130_0); (try rw [Addr.add_zero'] at hx130_0); replace p130 := eq_true p130; replace q130 := eq_true q130))
              go_ret
              exact ⟨by first | rfl | (simp [errW_none, errW_some] <;> rfl) | (simp [*, errW_none, errW_some] <;> rfl), by repeat (first | (with_reducible first | exact HB.out | apply below_alloc | apply pw_below_drewN | apply below_drew1) | exact HB.out)⟩
          · rw [if_neg c7] at H
            exact absurd H (by simp)
        · rw [if_neg c6] at H
          have c6b0 : ((t126.length : Int) == 1) = false := beq_eq_false_iff_ne.mpr c6
          have c6b1 : ((t126.length : Int) != 1) = true := bne_iff_ne.mpr c6
          obtain rfl := Option.some.inj H
          go_enter Tryz.func22, Tryz.ntmps22
          go_wp2_with (first | ((with_reducible refine gate_dst (N := 3) rfl ?_); (try (refine gate_guard (by rfl) ?_; dsimp only)); refine Kd.R_lit (Kd.int .i64) _ 3 ?hg (N := 3) ?hd (xs := ([97, 770, 803] : List Int)) (inner := [.int .i64 97, .int .i64 770, .int .i64 803]) (ok := fun _ => True) (okp := fun _ => True) ?hr ?hp (fun _ hk => hk) trivial (Below.refl _ _) (Nat.le_refl _) (by simp) ?_; (case hd => rfl); (case hg => rfl); (case hr => first | (go_simp; done) | (go_simp; rfl)); (case hp => exact (Reps.one (show Kd.M (Kd.int .i64) _ _ _ 97 [.int .i64 97] from rfl) (Reps.one (show Kd.M (Kd.int .i64) _ _ _ 770 [.int .i64 770] from rfl) (Reps.one (show Kd.M (Kd.int .i64) _ _ _ 803 [.int .i64 803] from rfl) (Reps.none _ _))))); intro v121 w36 ho37 hb hg_ hnew_; clear hg_ hnew_; (first | rw [← Ny120.out] at ho37 | (simp only [Int.reduceToNat] at ho37; rw [← Ny120.out] at ho37)); have n0_ := Aside0.mk (Kd.R_lower ho37 (below_size (by repeat (first | (with_reducible first | exact HB.out | apply below_alloc | apply pw_below_drewN | apply below_drew1) | exact HB.out)))); have n1_ := Aside0.mk (below_step (by repeat (first | (with_reducible first | exact HB.out | apply below_alloc | apply pw_below_drewN | apply below_drew1) | exact HB.out)) hb); clear HB; have HO122 := n0_; have HB := n1_; clear n0_ n1_; clear hb ho37; obtain ⟨Ao38, co38, eo38⟩ := Kd.R_slice HO122.out; subst eo38) | ((with_reducible refine gate_callee (f := 23) rfl ?_); refine goesL_ (some 4) rfl rfl Tryz.func23 (by kernel_rfl) rfl #[.slice Ao38 y120.length co38] rfl (by (try simp only [List.map_toArray, List.map_cons, List.map_nil]); first | done | rfl | (simp only [List.length_drop, List.length_take]; rfl)) ?_; (with_reducible refine (Go.Proofs.Pt.canon_Order.calls _ _ y120 t123 _ ?side1 ?side2 A1.out).mono ?_); (case side1 => repeat (first | exact (Kd.R_reads' HO122.out).2.2 | (with_reducible refine Kd.C_alloc ?_ _) | (with_reducible refine Kd.C_drewN ?_ _) | (with_reducible refine Kd.C_drew ?_))); (case side2 => exact (Kd.R_reads' HO122.out).2.1); rintro e w39 ⟨v124, rfl, ho0, hb⟩; refine ⟨_, rfl, ?_⟩; have n0_ := Aside0.mk (Kd.R_elder' (by (with_reducible repeat (first | apply Kd.R_alloc | apply Kd.R_drewN | apply Kd.R_drew)); exact HO122.out) (Kd.R_base ho0) hb); have n1_ := Aside0.mk (Kd.R_lower (Kd.R_new' ho0 (Kd.R_lt (by (with_reducible repeat (first | apply Kd.R_alloc | apply Kd.R_drewN | apply Kd.R_drew)); exact HO122.out))) (below_size (by repeat (first | (with_reducible first | exact HB.out | apply below_alloc | apply pw_below_drewN | apply below_drew1) | exact HB.out)))); have n2_ := Aside0.mk (below_step (by repeat (first | (with_reducible first | exact HB.out | apply below_alloc | apply pw_below_drewN | apply below_drew1) | exact HB.out)) hb); clear HO122; clear HB; have HO122 := n0_; have HO125 := n1_; have HB := n2_; clear n0_ n1_ n2_; (try clear hb); (try clear hb2); (try clear hk); (try clear hi); (try clear ho0); obtain ⟨Ao40, co40, eo40⟩ := Kd.R_slice HO125.out; subst eo40) | ((with_reducible refine gate_callee (f := 24) rfl ?_); refine goesL_ (some 6) rfl rfl Tryz.func24 (by kernel_rfl) rfl #[.slice Ao40 t123.length co40] rfl (by (try simp only [List.map_toArray, List.map_cons, List.map_nil]); first | done | rfl | (simp only [List.length_drop, List.length_take]; rfl)) ?_; (with_reducible refine (Go.Proofs.Pt.canon_Compose.calls _ _ t123 t126 _ ?side1 ?side2 A2.out).mono ?_); (case side1 => repeat (first | exact (Kd.R_reads' HO125.out).2.2 | (with_reducible refine Kd.C_alloc ?_ _) | (with_reducible refine Kd.C_drewN ?_ _) | (with_reducible refine Kd.C_drew ?_))); (case side2 => exact (Kd.R_reads' HO125.out).2.1); rintro e w41 ⟨v127, rfl, ho0, hb⟩; refine ⟨_, rfl, ?_⟩; have n0_ := Aside0.mk (Kd.R_elder' (by (with_reducible repeat (first | apply Kd.R_alloc | apply Kd.R_drewN | apply Kd.R_drew)); exact HO122.out) (Kd.R_base ho0) hb); have n1_ := Aside0.mk (Kd.R_elder' (by (with_reducible repeat (first | apply Kd.R_alloc | apply Kd.R_drewN | apply Kd.R_drew)); exact HO125.out) (Kd.R_base ho0) hb); have n2_ := Aside0.mk (Kd.R_lower (Kd.R_new' (Kd.R_new' ho0 (Kd.R_lt (by (with_reducible repeat (first | apply Kd.R_alloc | apply Kd.R_drewN | apply Kd.R_drew)); exact HO122.out))) (Kd.R_lt (by (with_reducible repeat (first | apply Kd.R_alloc | apply Kd.R_drewN | apply Kd.R_drew)); exact HO125.out))) (below_size (by repeat (first | (with_reducible first | exact HB.out | apply below_alloc | apply pw_below_drewN | apply below_drew1) | exact HB.out)))); have n3_ := Aside0.mk (below_step (by repeat (first | (with_reducible first | exact HB.out | apply below_alloc | apply pw_below_drewN | apply below_drew1) | exact HB.out)) hb); clear HO122; clear HO125; clear HB; have HO122 := n0_; have HO125 := n1_; have HO128 := n2_; have HB := n3_; clear n0_ n1_ n2_ n3_; (try clear hb); (try clear hb2); (try clear hk); (try clear hi); (try clear ho0); have p129 : 0 ≤ (1 : Int) := (by omega); have q129 : 1 < (t123.length : Int) := of_decide_eq_true (by first | (with_reducible assumption) | assumption); obtain ⟨ad129, e129, hx129_0⟩ := Kd.at_int (Kd.R_reads' HO125.out).2.2 1 p129 q129; cases e129; (try simp only [show (1 : Int).toNat = 1 from rfl, Nat.reduceMul, Nat.reduceEqDiff, Go.Addr.add, ↓reduceIte] at hx129_0); have qi129 : (1 < t123.length) = True := eq_true (by omega); (try rw [show ((1 : Int)).toNat = 1 from rfl] at hx129_0); replace p129 := eq_true p129; replace q129 := eq_true q129; obtain ⟨Ao42, co42, eo42⟩ := Kd.R_slice HO128.out; subst eo42))
          go_ret
          exact ⟨by first | rfl | (simp [errW_none, errW_some] <;> rfl) | (simp [*, errW_none, errW_some] <;> rfl), by repeat (first | (with_reducible first | exact HB.out | apply below_alloc | apply pw_below_drewN | apply below_drew1) | exact HB.out)⟩
      · rw [if_neg c5] at H
        have c5b0 : ((rd t123 1) == 803) = false := beq_eq_false_iff_ne.mpr c5
        have c5b1 : ((rd t123 1) != 803) = true := bne_iff_ne.mpr c5
        obtain rfl := Option.some.inj H
        go_enter Tryz.func22, Tryz.ntmps22
        go_wp2_with (first | ((with_reducible refine gate_dst (N := 3) rfl ?_); (try (refine gate_guard (by rfl) ?_; dsimp only)); refine Kd.R_lit (Kd.int .i64) _ 3 ?hg (N := 3) ?hd (xs := ([97, 770, 803] : List Int)) (inner := [.int .i64 97, .int .i64 770, .int .i64 803]) (ok := fun _ => True) (okp := fun _ => True) ?hr ?hp (fun _ hk => hk) trivial (Below.refl _ _) (Nat.le_refl _) (by simp) ?_; (case hd => rfl); (case hg => rfl); (case hr => first | (go_simp; done) | (go_simp; rfl)); (case hp => exact (Reps.one (show Kd.M (Kd.int .i64) _ _ _ 97 [.int .i64 97] from rfl) (Reps.one (show Kd.M (Kd.int .i64) _ _ _ 770 [.int .i64 770] from rfl) (Reps.one (show Kd.M (Kd.int .i64) _ _ _ 803 [.int .i64 803] from rfl) (Reps.none _ _))))); intro v121 w43 ho44 hb hg_ hnew_; clear hg_ hnew_; (first | rw [← Ny120.out] at ho44 | (simp only [Int.reduceToNat] at ho44; rw [← Ny120.out] at ho44)); have n0_ := Aside0.mk (Kd.R_lower ho44 (below_size (by repeat (first | (with_reducible first | exact HB.out | apply below_alloc | apply pw_below_drewN | apply below_drew1) | exact HB.out)))); have n1_ := Aside0.mk (below_step (by repeat (first | (with_reducible first | exact HB.out | apply below_alloc | apply pw_below_drewN | apply below_drew1) | exact HB.out)) hb); clear HB; have HO122 := n0_; have HB := n1_; clear n0_ n1_; clear hb ho44; obtain ⟨Ao45, co45, eo45⟩ := Kd.R_slice HO122.out; subst eo45) | ((with_reducible refine gate_callee (f := 23) rfl ?_); refine goesL_ (some 4) rfl rfl Tryz.func23 (by kernel_rfl) rfl #[.slice Ao45 y120.length co45] rfl (by (try simp only [List.map_toArray, List.map_cons, List.map_nil]); first | done | rfl | (simp only [List.length_drop, List.length_take]; rfl)) ?_; (with_reducible refine (Go.Proofs.Pt.canon_Order.calls _ _ y120 t123 _ ?side1 ?side2 A1.out).mono ?_); (case side1 => repeat (first | exact (Kd.R_reads' HO122.out).2.2 | (with_reducible refine Kd.C_alloc ?_ _) | (with_reducible refine Kd.C_drewN ?_ _) | (with_reducible refine Kd.C_drew ?_))); (case side2 => exact (Kd.R_reads' HO122.out).2.1); rintro e w46 ⟨v124, rfl, ho0, hb⟩; refine ⟨_, rfl, ?_⟩; have n0_ := Aside0.mk (Kd.R_elder' (by (with_reducible repeat (first | apply Kd.R_alloc | apply Kd.R_drewN | apply Kd.R_drew)); exact HO122.out) (Kd.R_base ho0) hb); have n1_ := Aside0.mk (Kd.R_lower (Kd.R_new' ho0 (Kd.R_lt (by (with_reducible repeat (first | apply Kd.R_alloc | apply Kd.R_drewN | apply Kd.R_drew)); exact HO122.out))) (below_size (by repeat (first | (with_reducible first | exact HB.out | apply below_alloc | apply pw_below_drewN | apply below_drew1) | exact HB.out)))); have n2_ := Aside0.mk (below_step (by repeat (first | (with_reducible first | exact HB.out | apply below_alloc | apply pw_below_drewN | apply below_drew1) | exact HB.out)) hb); clear HO122; clear HB; have HO122 := n0_; have HO125 := n1_; have HB := n2_; clear n0_ n1_ n2_; (try clear hb); (try clear hb2); (try clear hk); (try clear hi); (try clear ho0); obtain ⟨Ao47, co47, eo47⟩ := Kd.R_slice HO125.out; subst eo47) | ((with_reducible refine gate_callee (f := 24) rfl ?_); refine goesL_ (some 6) rfl rfl Tryz.func24 (by kernel_rfl) rfl #[.slice Ao47 t123.length co47] rfl (by (try simp only [List.map_toArray, List.map_cons, List.map_nil]); first | done | rfl | (simp only [List.length_drop, List.length_take]; rfl)) ?_; (with_reducible refine (Go.Proofs.Pt.canon_Compose.calls _ _ t123 t126 _ ?side1 ?side2 A2.out).mono ?_); (case side1 => repeat (first | exact (Kd.R_reads' HO125.out).2.2 | (with_reducible refine Kd.C_alloc ?_ _) | (with_reducible refine Kd.C_drewN ?_ _) | (with_reducible refine Kd.C_drew ?_))); (case side2 => exact (Kd.R_reads' HO125.out).2.1); rintro e w48 ⟨v127, rfl, ho0, hb⟩; refine ⟨_, rfl, ?_⟩; have n0_ := Aside0.mk (Kd.R_elder' (by (with_reducible repeat (first | apply Kd.R_alloc | apply Kd.R_drewN | apply Kd.R_drew)); exact HO122.out) (Kd.R_base ho0) hb); have n1_ := Aside0.mk (Kd.R_elder' (by (with_reducible repeat (first | apply Kd.R_alloc | apply Kd.R_drewN | apply Kd.R_drew)); exact HO125.out) (Kd.R_base ho0) hb); have n2_ := Aside0.mk (Kd.R_lower (Kd.R_new' (Kd.R_new' ho0 (Kd.R_lt (by (with_reducible repeat (first | apply Kd.R_alloc | apply Kd.R_drewN | apply Kd.R_drew)); exact HO122.out))) (Kd.R_lt (by (with_reducible repeat (first | apply Kd.R_alloc | apply Kd.R_drewN | apply Kd.R_drew)); exact HO125.out))) (below_size (by repeat (first | (with_reducible first | exact HB.out | apply below_alloc | apply pw_below_drewN | apply below_drew1) | exact HB.out)))); have n3_ := Aside0.mk (below_step (by repeat (first | (with_reducible first | exact HB.out | apply below_alloc | apply pw_below_drewN | apply below_drew1) | exact HB.out)) hb); clear HO122; clear HO125; clear HB; have HO122 := n0_; have HO125 := n1_; have HO128 := n2_; have HB := n3_; clear n0_ n1_ n2_ n3_; (try clear hb); (try clear hb2); (try clear hk); (try clear hi); (try clear ho0); have p129 : 0 ≤ (1 : Int) := (by omega); have q129 : 1 < (t123.length : Int) := of_decide_eq_true (by first | (with_reducible assumption) | assumption); obtain ⟨ad129, e129, hx129_0⟩ := Kd.at_int (Kd.R_reads' HO125.out).2.2 1 p129 q129; cases e129; (try simp only [show (1 : Int).toNat = 1 from rfl, Nat.reduceMul, Nat.reduceEqDiff, Go.Addr.add, ↓reduceIte] at hx129_0); have qi129 : (1 < t123.length) = True := eq_true (by omega); (try rw [show ((1 : Int)).toNat = 1 from rfl] at hx129_0); replace p129 := eq_true p129; replace q129 := eq_true q129))
        go_ret
        exact ⟨by first | rfl | (simp [errW_none, errW_some] <;> rfl) | (simp [*, errW_none, errW_some] <;> rfl), by repeat (first | (with_reducible first | exact HB.out | apply below_alloc | apply pw_below_drewN | apply below_drew1) | exact HB.out)⟩
    · rw [if_neg c4] at H
      exact absurd H (by simp)
  · rw [if_neg c3] at H
    have c3b0 : ((t123.length : Int) == 3) = false := beq_eq_false_iff_ne.mpr c3
    have c3b1 : ((t123.length : Int) != 3) = true := bne_iff_ne.mpr c3
    obtain rfl := Option.some.inj H
    go_enter Tryz.func22, Tryz.ntmps22
    go_wp2_with (first | ((with_reducible refine gate_dst (N := 3) rfl ?_); (try (refine gate_guard (by rfl) ?_; dsimp only)); refine Kd.R_lit (Kd.int .i64) _ 3 ?hg (N := 3) ?hd (xs := ([97, 770, 803] : List Int)) (inner := [.int .i64 97, .int .i64 770, .int .i64 803]) (ok := fun _ => True) (okp := fun _ => True) ?hr ?hp (fun _ hk => hk) trivial (Below.refl _ _) (Nat.le_refl _) (by simp) ?_; (case hd => rfl); (case hg => rfl); (case hr => first | (go_simp; done) | (go_simp; rfl)); (case hp => exact (Reps.one (show Kd.M (Kd.int .i64) _ _ _ 97 [.int .i64 97] from rfl) (Reps.one (show Kd.M (Kd.int .i64) _ _ _ 770 [.int .i64 770] from rfl) (Reps.one (show Kd.M (Kd.int .i64) _ _ _ 803 [.int .i64 803] from rfl) (Reps.none _ _))))); intro v121 w49 ho50 hb hg_ hnew_; clear hg_ hnew_; (first | rw [← Ny120.out] at ho50 | (simp only [Int.reduceToNat] at ho50; rw [← Ny120.out] at ho50)); have n0_ := Aside0.mk (Kd.R_lower ho50 (below_size (by repeat (first | (with_reducible first | exact HB.out | apply below_alloc | apply pw_below_drewN | apply below_drew1) | exact HB.out)))); have n1_ := Aside0.mk (below_step (by repeat (first | (with_reducible first | exact HB.out | apply below_alloc | apply pw_below_drewN | apply below_drew1) | exact HB.out)) hb); clear HB; have HO122 := n0_; have HB := n1_; clear n0_ n1_; clear hb ho50; obtain ⟨Ao51, co51, eo51⟩ := Kd.R_slice HO122.out; subst eo51) | ((with_reducible refine gate_callee (f := 23) rfl ?_); refine goesL_ (some 4) rfl rfl Tryz.func23 (by kernel_rfl) rfl #[.slice Ao51 y120.length co51] rfl (by (try simp only [List.map_toArray, List.map_cons, List.map_nil]); first | done | rfl | (simp only [List.length_drop, List.length_take]; rfl)) ?_; (with_reducible refine (Go.Proofs.Pt.canon_Order.calls _ _ y120 t123 _ ?side1 ?side2 A1.out).mono ?_); (case side1 => repeat (first | exact (Kd.R_reads' HO122.out).2.2 | (with_reducible refine Kd.C_alloc ?_ _) | (with_reducible refine Kd.C_drewN ?_ _) | (with_reducible refine Kd.C_drew ?_))); (case side2 => exact (Kd.R_reads' HO122.out).2.1); rintro e w52 ⟨v124, rfl, ho0, hb⟩; refine ⟨_, rfl, ?_⟩; have n0_ := Aside0.mk (Kd.R_elder' (by (with_reducible repeat (first | apply Kd.R_alloc | apply Kd.R_drewN | apply Kd.R_drew)); exact HO122.out) (Kd.R_base ho0) hb); have n1_ := Aside0.mk (Kd.R_lower (Kd.R_new' ho0 (Kd.R_lt (by (with_reducible repeat (first | apply Kd.R_alloc | apply Kd.R_drewN | apply Kd.R_drew)); exact HO122.out))) (below_size (by repeat (first | (with_reducible first | exact HB.out | apply below_alloc | apply pw_below_drewN | apply below_drew1) | exact HB.out)))); have n2_ := Aside0.mk (below_step (by repeat (first | (with_reducible first | exact HB.out | apply below_alloc | apply pw_below_drewN | apply below_drew1) | exact HB.out)) hb); clear HO122; clear HB; have HO122 := n0_; have HO125 := n1_; have HB := n2_; clear n0_ n1_ n2_; (try clear hb); (try clear hb2); (try clear hk); (try clear hi); (try clear ho0); obtain ⟨Ao53, co53, eo53⟩ := Kd.R_slice HO125.out; subst eo53) | ((with_reducible refine gate_callee (f := 24) rfl ?_); refine goesL_ (some 6) rfl rfl Tryz.func24 (by kernel_rfl) rfl #[.slice Ao53 t123.length co53] rfl (by (try simp only [List.map_toArray, List.map_cons, List.map_nil]); first | done | rfl | (simp only [List.length_drop, List.length_take]; rfl)) ?_; (with_reducible refine (Go.Proofs.Pt.canon_Compose.calls _ _ t123 t126 _ ?side1 ?side2 A2.out).mono ?_); (case side1 => repeat (first | exact (Kd.R_reads' HO125.out).2.2 | (with_reducible refine Kd.C_alloc ?_ _) | (with_reducible refine Kd.C_drewN ?_ _) | (with_reducible refine Kd.C_drew ?_))); (case side2 => exact (Kd.R_reads' HO125.out).2.1); rintro e w54 ⟨v127, rfl, ho0, hb⟩; refine ⟨_, rfl, ?_⟩; have n0_ := Aside0.mk (Kd.R_elder' (by (with_reducible repeat (first | apply Kd.R_alloc | apply Kd.R_drewN | apply Kd.R_drew)); exact HO122.out) (Kd.R_base ho0) hb); have n1_ := Aside0.mk (Kd.R_elder' (by (with_reducible repeat (first | apply Kd.R_alloc | apply Kd.R_drewN | apply Kd.R_drew)); exact HO125.out) (Kd.R_base ho0) hb); have n2_ := Aside0.mk (Kd.R_lower (Kd.R_new' (Kd.R_new' ho0 (Kd.R_lt (by (with_reducible repeat (first | apply Kd.R_alloc | apply Kd.R_drewN | apply Kd.R_drew)); exact HO122.out))) (Kd.R_lt (by (with_reducible repeat (first | apply Kd.R_alloc | apply Kd.R_drewN | apply Kd.R_drew)); exact HO125.out))) (below_size (by repeat (first | (with_reducible first | exact HB.out | apply below_alloc | apply pw_below_drewN | apply below_drew1) | exact HB.out)))); have n3_ := Aside0.mk (below_step (by repeat (first | (with_reducible first | exact HB.out | apply below_alloc | apply pw_below_drewN | apply below_drew1) | exact HB.out)) hb); clear HO122; clear HO125; clear HB; have HO122 := n0_; have HO125 := n1_; have HO128 := n2_; have HB := n3_; clear n0_ n1_ n2_ n3_; (try clear hb); (try clear hb2); (try clear hk); (try clear hi); (try clear ho0)))
    go_ret
    exact ⟨by first | rfl | (simp [errW_none, errW_some] <;> rfl) | (simp [*, errW_none, errW_some] <;> rfl), by repeat (first | (with_reducible first | exact HB.out | apply below_alloc | apply pw_below_drewN | apply below_drew1) | exact HB.out)⟩

/-! ### pentroughref01_Same: function 18 -/
def pentroughref01_Same.l0 : Nat → List Int → List Int → Int → Option (Bool)
  | 0, _, _, _ => none
  | k + 1, x0, x1, x5 => if x5 < (x0.length : Int) then (if 0 ≤ x5 then (if x5 < (x1.length : Int) then (if (rd x0 x5) = (rd x1 x5) then (pentroughref01_Same.l0 k x0 x1 (wrap64 (x5 + 1))) else (some false)) else (none)) else (none)) else (some true)
def pentroughref01_Same.f (k : Nat) (l0 : List Int) (l1 : List Int) : Option (Bool) := if (l0.length : Int) = (l1.length : Int) then (pentroughref01_Same.l0 k l0 l1 0) else (some false)
theorem pentroughref01_Same.mono_l : ∀ k, (∀ y0 y1 y2, LeO (pentroughref01_Same.l0 k y0 y1 y2) (pentroughref01_Same.l0 (k + 1) y0 y1 y2))
  | 0 => fun _ _ _ r h => by simp [pentroughref01_Same.l0] at h
  | k + 1 => by
    have ih0 := pentroughref01_Same.mono_l k
    · intro y0 y1 y2
      unfold pentroughref01_Same.l0
      repeat' first
      | (with_reducible exact ih0 _ _ _)
      | (with_reducible exact LeO.refl _)
      | (with_reducible exact LeO.none _)
      | (with_reducible refine LeO.ite ?_ ?_)
      | (with_reducible refine LeO.bind ?_ (fun _ => ?_))
      | exact ih0 _ _ _
      | exact LeO.none _
      | refine LeO.ite ?_ ?_
      | refine LeO.bind ?_ (fun _ => ?_)
theorem pentroughref01_Same.mono : ∀ a0 a1 k, LeO (pentroughref01_Same.f k a0 a1) (pentroughref01_Same.f (k + 1) a0 a1) := by
  intro a0 a1 k
  have ih0 := pentroughref01_Same.mono_l k
  unfold pentroughref01_Same.f
  repeat' first
      | (with_reducible exact ih0 _ _ _)
      | (with_reducible exact LeO.refl _)
      | (with_reducible exact LeO.none _)
      | (with_reducible refine LeO.ite ?_ ?_)
      | (with_reducible refine LeO.bind ?_ (fun _ => ?_))
      | exact ih0 _ _ _
      | exact LeO.none _
      | refine LeO.ite ?_ ?_
      | refine LeO.bind ?_ (fun _ => ?_)
set_option maxHeartbeats 8000000 in
set_option maxRecDepth 100000 in
theorem pentroughref01_Same.calls (k : Nat) (A0 : Option Addr) (c0 : Nat) (l0 : List Int) (A1 : Option Addr) (c1 : Nat) (l1 : List Int) (r : Bool) (w : World) (hr0 : Kd.C (Kd.int .i64) w A0 l0.length l0) (hc0 : l0.length ≤ c0) (hr1 : Kd.C (Kd.int .i64) w A1 l1.length l1) (hc1 : l1.length ≤ c1) (h : pentroughref01_Same.f k l0 l1 = some r) :
    Calls Tryz.prog 18 #[.slice A0 l0.length c0, .slice A1 l1.length c1] w fun e w' => e = .returned (.bool r) ∧ Drawn0 w w' := by
  have HR0 := Aside0.mk hr0
  have HC0 := Aside0.mk hc0
  clear hr0 hc0
  have HR1 := Aside0.mk hr1
  have HC1 := Aside0.mk hc1
  clear hr1 hc1
  have H : (if (l0.length : Int) = (l1.length : Int) then (pentroughref01_Same.l0 k l0 l1 0) else (some false)) = some r := h
  clear h
  by_cases c3 : (l0.length : Int) = (l1.length : Int)
  · rw [if_pos c3] at H
    have c3b0 : ((l0.length : Int) == (l1.length : Int)) = true := beq_iff_eq.mpr c3
    have c3b1 : ((l0.length : Int) != (l1.length : Int)) = false := bne_eq_false_iff_eq.mpr c3
    have c3b2 : (l0.length == l1.length) = true := by first | simpa using c3 | (simp at c3 ⊢; omega)
    clear c3
    have H' := Aside0.mk H
    clear H
    go_enter Tryz.func18, Tryz.ntmps18
    go_wp2
    repeat (go_quiet (fail); try go_wp2)
    go_loopg [5] k (fun kq v5 w' => ∃ (x5_1 : Int), v5 = .int .i64 x5_1 ∧ Aside0 (pentroughref01_Same.l0 kq l0 l1 x5_1 = some r) ∧ Aside0 (kq ≤ k) ∧ Drawn0 w w')
    case atStart => exact ⟨(0), (by first | rfl | (simp; done) | (simp [*]; done)), H', ⟨Nat.le_refl _⟩, by repeat (first | exact Drawn0.refl _ | apply Drawn0.step)⟩
    case round =>
      clear H'
      try clear c1
      try clear p2
      try clear c3
      try clear c3b0
      try clear c3b1
      try clear c3b2
      obtain ⟨x5_1, rfl, HA, HK1, ⟨m1, rfl⟩⟩ := hrel
      cases gk with
      | zero => exact absurd HA.out (by simp [pentroughref01_Same.l0])
      | succ k1 =>
        have H := HA.out
        clear HA
        simp only [pentroughref01_Same.l0] at H
        by_cases c4 : x5_1 < (l0.length : Int)
        · rw [if_pos c4] at H
          have c4b0 : decide (x5_1 < (l0.length : Int)) = true := decide_eq_true c4
          clear c4
          by_cases c5 : 0 ≤ x5_1
          · rw [if_pos c5] at H
            have c5b0 : decide (0 ≤ x5_1) = true := decide_eq_true c5
            clear c5
            by_cases c6 : x5_1 < (l1.length : Int)
            · rw [if_pos c6] at H
              have c6b0 : decide (x5_1 < (l1.length : Int)) = true := decide_eq_true c6
              clear c6
              by_cases c7 : (rd l0 x5_1) = (rd l1 x5_1)
              · rw [if_pos c7] at H
                have c7b0 : ((rd l0 x5_1) == (rd l1 x5_1)) = true := beq_iff_eq.mpr c7
                have c7b1 : ((rd l0 x5_1) != (rd l1 x5_1)) = false := bne_eq_false_iff_eq.mpr c7
                clear c7
                have H' := Aside0.mk H
                clear H
                have p133 : 0 ≤ (x5_1 : Int) := of_decide_eq_true (by first | (with_reducible assumption) | assumption)
                have q133 : x5_1 < (l0.length : Int) := of_decide_eq_true (by first | (with_reducible assumption) | assumption)
                obtain ⟨ad133, e133, hx133_0⟩ := Kd.at_int HR0.out x5_1 p133 q133
                cases e133
                replace p133 := eq_true p133
                replace q133 := eq_true q133
                have p134 : 0 ≤ (x5_1 : Int) := of_decide_eq_true (by first | (with_reducible assumption) | assumption)
                have q134 : x5_1 < (l1.length : Int) := of_decide_eq_true (by first | (with_reducible assumption) | assumption)
                obtain ⟨ad134, e134, hx134_0⟩ := Kd.at_int HR1.out x5_1 p134 q134
                cases e134
                replace p134 := eq_true p134
                replace q134 := eq_true q134
                go_wp2
                repeat (go_quiet (fail); try go_wp2)
                go_roundg k1
                case measure => have := HK1.out; omega
                case rel => exact ⟨(wrap64 (x5_1 + 1)), (by first | rfl | (simp; done) | (simp [*]; done)), H', ⟨by have := HK1.out; omega⟩, by repeat (first | exact Drawn0.refl _ | apply Drawn0.step)⟩
              · rw [if_neg c7] at H
                have c7b0 : ((rd l0 x5_1) == (rd l1 x5_1)) = false := beq_eq_false_iff_ne.mpr c7
                have c7b1 : ((rd l0 x5_1) != (rd l1 x5_1)) = true := bne_iff_ne.mpr c7
                obtain rfl := Option.some.inj H
                have p133 : 0 ≤ (x5_1 : Int) := of_decide_eq_true (by first | (with_reducible assumption) | assumption)
                have q133 : x5_1 < (l0.length : Int) := of_decide_eq_true (by first | (with_reducible assumption) | assumption)
                obtain ⟨ad133, e133, hx133_0⟩ := Kd.at_int HR0.out x5_1 p133 q133
                cases e133
                replace p133 := eq_true p133
                replace q133 := eq_true q133
                have p134 : 0 ≤ (x5_1 : Int) := of_decide_eq_true (by first | (with_reducible assumption) | assumption)
                have q134 : x5_1 < (l1.length : Int) := of_decide_eq_true (by first | (with_reducible assumption) | assumption)
                obtain ⟨ad134, e134, hx134_0⟩ := Kd.at_int HR1.out x5_1 p134 q134
                cases e134
                replace p134 := eq_true p134
                replace q134 := eq_true q134
                go_wp2
                repeat (go_quiet (fail); try go_wp2)
                go_ret
                exact ⟨by first | rfl | (simp; done) | (simp [*]; done), by repeat (first | exact Drawn0.refl _ | apply Drawn0.step)⟩
            · rw [if_neg c6] at H
              exact absurd H (by simp)
          · rw [if_neg c5] at H
            exact absurd H (by simp)
        · rw [if_neg c4] at H
          have c4b0 : decide (x5_1 < (l0.length : Int)) = false := decide_eq_false c4
          clear c4
          obtain rfl := Option.some.inj H
          go_wp2
          repeat (go_quiet (fail); try go_wp2)
          go_ret
          exact ⟨by first | rfl | (simp; done) | (simp [*]; done), by repeat (first | exact Drawn0.refl _ | apply Drawn0.step)⟩
  · rw [if_neg c3] at H
    have c3b0 : ((l0.length : Int) == (l1.length : Int)) = false := beq_eq_false_iff_ne.mpr c3
    have c3b1 : ((l0.length : Int) != (l1.length : Int)) = true := bne_iff_ne.mpr c3
    have c3b2 : (l0.length == l1.length) = false := by first | simpa using c3 | (simp at c3 ⊢; omega)
    obtain rfl := Option.some.inj H
    go_enter Tryz.func18, Tryz.ntmps18
    go_wp2
    repeat (go_quiet (fail); try go_wp2)
    go_ret
    exact ⟨by first | rfl | (simp; done) | (simp [*]; done), by repeat (first | exact Drawn0.refl _ | apply Drawn0.step)⟩

end Go.Proofs.YtjgdnhmbfeekoaaGreatDoor.PB
end

/- ==== the text PBx ==== -/
section
-- PRINTED by print.py (a twelfth state) out of the translation. Not trusted: Lean checks it.
namespace Go.Proofs.YtjgdnhmbfeekoaaGreatDoor.PB
open Go.RowKit Go.Proofs.YtjgdnhmbfeekoaaGreatDoorW.PrintWords Go.Proofs.YtjgdnhmbfeekoaaGreatDoorW.PrintLast Go.Proofs.YtjgdnhmbfeekoaaGreatDoorW.PrintMore
attribute [local go_sem] max2_int min2_int max_two min_two max_three min_three max_four min_four   -- for this text's walks alone
set_option linter.unusedVariables false
set_option linter.unusedSimpArgs false

end Go.Proofs.YtjgdnhmbfeekoaaGreatDoor.PB
end

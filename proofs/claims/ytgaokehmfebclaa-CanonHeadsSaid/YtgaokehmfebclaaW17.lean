/- The walks of package canon's values, row, numbers, and of the library's sort's entry. -/
import Derived.Test.YtgaokehmfebclaaW16
namespace Go.Proofs.Pt
open Go Go.RowKit Go.Proofs.YtgaokehmfebclaaW.PrintWords

theorem sort_any (w0 : World) (base gb cap off n cv : Nat) (p u q : List Int) (w : World) (h : RowC w0 base gb cap (p ++ (u ++ q)) w) (hu : AllM u) (hp : p.length = off) (hul : u.length = n) (hn : n < 17592186044416) :
    Calls Try.prog 18 #[.slice (some ⟨gb, off, none⟩) n cv, .func (.func 19) #[] #[]] w (StabPost w0 base gb cap p u q) := by
  have H := Lib.hid h; clear h
  go_enter Try.func18, Try.ntmps18
  go_wp2_with fail
  refine (stable_any w0 base gb cap off n cv p u q _ H.out hu hp hul hn).mono ?_
  rintro e w1 ⟨rfl, h⟩
  go_wp2
  go_end0
  exact ⟨rfl, h⟩
theorem info_value : (Try.prog.info? 38).map (fun i => (i.zero, i.size, i.bytes)) = some (some (.int .i64 0), 1, 8) := by kernel_rfl
set_option maxHeartbeats 1000000 in
theorem values_any (A : Option Addr) (cap : Nat) (l : List Int) (w : World) (hr : Kd.C (Kd.int .i64) w A l.length l) (hl : l.length < 17592186044416) :
    Calls Try.prog 16 #[.slice A l.length cap] w fun e w' => ∃ v : Value, e = .returned v ∧ w'.ownsRow w.heap.size 38 1 v l.length (nums .i64 l) ∧ Below w.heap.size w w' := by
  have HR := Lib.hid hr; clear hr
  have HL := Lib.hid hl; clear hl
  go_enter Try.func16, Try.ntmps16
  go_wp2_with fail
  go_loopw [3, 8] (fun v i wr => ∃ k : Nat, k ≤ l.length ∧ i = .int .i64 k ∧ Hid (wr.ownsRow w.heap.size 38 1 v (l.take k).length (nums .i64 (l.take k))) ∧ Hid (Below w.heap.size w wr)) (fun _ i _ => l.length - (intOf i).toNat)
  case atStart => exact ⟨0, Nat.zero_le _, rfl, own_nil _ _ _ _, Below.refl _ _⟩
  case round =>
    obtain ⟨k, hk, rfl, HO, HB⟩ := hrel
    by_cases hlt : k < l.length
    · obtain ⟨ad, e, hcell⟩ := Kd.at_int HR.out k (by omega) (by omega)
      subst e
      have hcell2 : wr.cell? (ad.add k) = some (.int .i64 (rd l k)) := (HB.out.cell (World.block_lt_of_cell? w _ hcell)).trans hcell
      clear hcell
      have hkz : (k : Int) < (l.length : Int) := by omega
      have hlz : (l.length : Int) < 17592186044416 := by have := HL.out; omega
      have hsn : l.take (k + 1) = l.take k ++ [rd l k] := by
        rw [List.take_succ_eq_append_getElem hlt]
        congr 1
        simp [rd, List.getD_eq_getElem?_getD, List.getElem?_eq_getElem hlt]
      have hlen : (l.take k).length ≤ k := List.length_take_le k l
      have HS := Lib.hid hsn; clear hsn
      have hzz := HB.out.size
      have HZ := Lib.hid hzz; clear hzz
      go_wp2_with (at_builtin; refine print_append_num (w0 := w) w.heap.size rfl (.tmp 12) (.tmp 14) 34 38 .i64 8 rfl Try.underlying34 info_value (by decide) _ (l.take k) (rd l k) rfl rfl HO.out HB.out HZ.out (by omega) ?_)
      intro v1 w4 hown hbel _ _
      have HO4 := Lib.hid hown; have HB4 := Lib.hid hbel; clear hown hbel
      go_wp2
      go_roundw
      case measure => simp [intOf]; omega
      case rel => exact ⟨k + 1, by omega, by go_num, by rw [HS.out, show (l.take k ++ [rd l k]).length = k + 1 by simp; omega]; exact HO4, HB4⟩
    · obtain rfl : k = l.length := by omega
      rw [List.take_length] at HO
      go_wp2
      go_ret
      exact ⟨_, rfl, HO.out, HB.out⟩
set_option maxHeartbeats 1000000 in
theorem numbers_any (base : Nat) (A : Option Addr) (cap : Nat) (l : List Int) (w : World) (hr : w.ownsRow base 38 1 (.slice A l.length cap) l.length (nums .i64 l)) (hl : l.length < 17592186044416) :
    Calls Try.prog 20 #[.slice A l.length cap] w fun e w' => ∃ v : Value, e = .returned v ∧ w'.ownsRow w.heap.size 3 1 v l.length (nums .i64 l) ∧ Below w.heap.size w w' := by
  have HR := Lib.hid hr; clear hr
  have HL := Lib.hid hl; clear hl
  go_enter Try.func20, Try.ntmps20
  go_wp2_with fail
  go_loopw [3, 8] (fun v i wr => ∃ k : Nat, k ≤ l.length ∧ i = .int .i64 k ∧ Hid (wr.ownsRow w.heap.size 3 1 v (l.take k).length (nums .i64 (l.take k))) ∧ Hid (Below w.heap.size w wr)) (fun _ i _ => l.length - (intOf i).toNat)
  case atStart => exact ⟨0, Nat.zero_le _, rfl, own_nil _ _ _ _, Below.refl _ _⟩
  case round =>
    obtain ⟨k, hk, rfl, HO, HB⟩ := hrel
    by_cases hlt : k < l.length
    · obtain ⟨gb, cap2, hA, _, _⟩ := HR.out.form (by omega)
      have hA2 : A = some ⟨gb, 0, none⟩ ∧ cap = cap2 := by simpa using hA
      obtain ⟨rfl, rfl⟩ := hA2
      clear hA
      have hcell2 : wr.cell? ⟨gb, k, none⟩ = some (.int .i64 (rd l k)) := by
        rw [(pw_own_below HR.out HB.out).cellAt k (by omega)]
        simp [nums, rd, List.getElem?_eq_getElem hlt, List.getD_eq_getElem?_getD]
      have hkz : (k : Int) < (l.length : Int) := by omega
      have hlz : (l.length : Int) < 17592186044416 := by have := HL.out; omega
      have hsn : l.take (k + 1) = l.take k ++ [rd l k] := by
        rw [List.take_succ_eq_append_getElem hlt]
        congr 1
        simp [rd, List.getD_eq_getElem?_getD, List.getElem?_eq_getElem hlt]
      have hlen : (l.take k).length ≤ k := List.length_take_le k l
      have HS := Lib.hid hsn; clear hsn
      have hzz := HB.out.size
      have HZ := Lib.hid hzz; clear hzz
      go_wp2_with (at_builtin; refine print_append_num (w0 := w) w.heap.size rfl (.tmp 12) (.tmp 14) 22 3 .i64 8 rfl Try.underlying22 info_int (by decide) _ (l.take k) (rd l k) rfl rfl HO.out HB.out HZ.out (by omega) ?_)
      intro v1 w4 hown hbel _ _
      have HO4 := Lib.hid hown; have HB4 := Lib.hid hbel; clear hown hbel
      go_wp2
      go_roundw
      case measure => simp [intOf]; omega
      case rel => exact ⟨k + 1, by omega, by go_num, by rw [HS.out, show (l.take k ++ [rd l k]).length = k + 1 by simp; omega]; exact HO4, HB4⟩
    · obtain rfl : k = l.length := by omega
      rw [List.take_length] at HO
      go_wp2
      go_ret
      exact ⟨_, rfl, HO.out, HB.out⟩
def RowPost (t : List Int) (w : World) (e : Ending) (w' : World) : Prop := ∃ k : Nat, e = .returned (.int .i64 k) ∧ k ≤ t.length ∧ AllM (t.take k) ∧ (∀ x, t[k]? = some x → ccc x ≤ 0) ∧ Below w.heap.size w w'
set_option maxHeartbeats 1000000 in
theorem row_any (w0 : World) (base gb cap off n cv : Nat) (p t : List Int) (w : World) (h : RowC w0 base gb cap (p ++ t) w) (hp : p.length = off) (ht : t.length = n) (hn : n < 17592186044416) :
    Calls Try.prog 17 #[.slice (some ⟨gb, off, none⟩) n cv] w (RowPost t w) := by
  have H := Lib.hid h; clear h
  go_enter Try.func17, Try.ntmps17
  go_wp2_with fail
  go_loopw [3] (fun i wr => ∃ k : Nat, k ≤ n ∧ i = .int .i64 k ∧ Hid (AllM (t.take k)) ∧ Hid (Below w.heap.size w wr)) (fun i _ => n - (intOf i).toNat)
  case atStart => exact ⟨0, Nat.zero_le _, rfl, (show AllM (t.take 0) from fun z hz => by simp at hz), Below.refl _ _⟩
  case round =>
    obtain ⟨k, hk, rfl, HM, HB⟩ := hrel
    by_cases hlt : k < n
    · obtain ⟨x, hx⟩ : ∃ x, t[k]? = some x := ⟨t[k], List.getElem?_eq_getElem (by omega)⟩
      have hc : wr.cell? ⟨gb, off + k, none⟩ = some (.int .i64 x) := by
        rw [(H.out.below HB.out).cell (off + k) (by simp; omega), List.getD_eq_getElem?_getD, List.getElem?_append_right (by omega), show off + k - p.length = k by omega, hx]; rfl
      have hkz : (k : Int) < (n : Int) := by omega
      have hxs : t.take (k + 1) = t.take k ++ [x] := by
        obtain ⟨hl, he⟩ := List.getElem?_eq_some_iff.1 hx
        rw [List.take_succ_eq_append_getElem hl, he]
      have HXS := Lib.hid hxs; clear hxs
      have HX := Lib.hid hx; clear hx
      go_wp2_with fail
      refine (mark_any x _).mono ?_
      rintro e w1 ⟨rfl, hb⟩
      have hb2 : Below w.heap.size w w1 := HB.out.trans (hb.mono HB.out.size)
      have HB2 := Lib.hid hb2; clear hb hb2 hc
      by_cases hm : 0 < ccc x
      · have hd : decide (0 < ccc x) = true := decide_eq_true hm
        have HN : Hid (AllM (t.take (k + 1))) := by show AllM _; rw [HXS.out]; exact allM_append.2 ⟨HM.out, fun z hz => by simp at hz; rw [hz]; exact hm⟩
        rw [hd]
        clear hm hd
        go_wp2
        go_roundw
        case measure => simp [intOf]; omega
        case rel => exact ⟨k + 1, by omega, by go_num, HN, HB2⟩
      · have hd : decide (0 < ccc x) = false := decide_eq_false hm
        have HN : Hid (∀ y, t[k]? = some y → ccc y ≤ 0) := fun y hy => by rw [HX.out] at hy; injection hy with hy; rw [← hy]; omega
        rw [hd]
        clear hm hd
        go_wp2
        go_ret
        exact ⟨k, rfl, by omega, HM.out, HN.out, HB2.out⟩
    · obtain rfl : k = n := by omega
      go_wp2
      go_ret
      exact ⟨k, rfl, by omega, HM.out, fun x hx => (by rw [List.getElem?_eq_none (by omega)] at hx; cases hx), HB.out⟩
end Go.Proofs.Pt

/- The walk of a stable merge of two parts of a row in place. -/
import Derived.Test.YtgaokehmfebclaaW13
namespace Go.Proofs.Pt
open Go Go.RowKit Go.Proofs.YtgaokehmfebclaaW.PrintWords

def MergePost (w0 : World) (base gb cap : Nat) (p u v q : List Int) (e : Ending) (w' : World) : Prop := e = .returned (.tuple #[]) ∧ ∃ u', Alike (u ++ v) u' ∧ Rise u' ∧ RowC w0 base gb cap (p ++ (u' ++ q)) w'
set_option maxHeartbeats 4000000 in
set_option maxRecDepth 100000 in
theorem symMerge_left (w0 : World) (base gb cap off n cv a m b : Nat) (p : List Int) (x : Int) (v q : List Int) (w : World) (h : RowC w0 base gb cap (p ++ (x :: (v ++ q))) w) (hu : AllM (x :: v)) (hs : Rise v) (hp : p.length = off + a) (hul : a + 1 = m) (hvl : m + v.length = b) (hb : b ≤ n) (hn : n < 17592186044416) :
    Calls Try.prog 38 #[.slice (some ⟨gb, off, none⟩) n cv, .int .i64 a, .int .i64 m, .int .i64 b, .func (.func 19) #[] #[]] w (MergePost w0 base gb cap p [x] v q) := by
  have H := Lib.hid h; clear h
  have HU := Lib.hid hu; clear hu
  have HS := Lib.hid hs; clear hs
  have ru : IntKind.i64.wrap ((m : Int) - (a : Int)) = 1 := by rw [IntKind.wrap_i64]; omega
  go_enter Try.func38, Try.ntmps38
  go_wp2_with fail
  go_loopw [10, 11] (fun vi vj wr => ∃ i j : Nat, vi = .int .i64 i ∧ vj = .int .i64 j ∧ m ≤ i ∧ i ≤ j ∧ j ≤ b ∧ Hid (∀ z ∈ v.take (i - m), ccc z < ccc x) ∧ Hid (∀ z ∈ v.drop (j - m), ccc x ≤ ccc z) ∧ Hid (RowC w0 base gb cap (p ++ (x :: (v ++ q))) wr)) (fun vi vj _ => (intOf vj).toNat - (intOf vi).toNat)
  case atStart => exact ⟨m, b, rfl, rfl, Nat.le_refl _, by omega, Nat.le_refl _, (show ∀ z ∈ v.take (m - m), _ from by simp), (show ∀ z ∈ v.drop (b - m), _ from by rw [List.drop_of_length_le (by omega)]; simp), H⟩
  case round =>
    clear H
    obtain ⟨i, j, rfl, rfl, hmi, hij, hj, H1, H2, HR⟩ := hrel
    by_cases hlt : i < j
    · obtain ⟨k, hk⟩ : ∃ k, k = (i + j) / 2 := ⟨_, rfl⟩
      have hk1 : i ≤ k := by omega
      have hk2 : k < j := by omega
      have rh : ((i : Int) + (j : Int)) / 2 = (k : Int) := by omega
      have hltz : (i : Int) < (j : Int) := by omega
      have hkn : (k : Int) < (n : Int) := by omega
      have han : (a : Int) < (n : Int) := by omega
      have hkm : k - m < v.length := by omega
      obtain ⟨y, hy⟩ : ∃ y, y = v.getD (k - m) 0 := ⟨_, rfl⟩
      have c1 : wr.cell? ⟨gb, off + k, none⟩ = some (.int .i64 y) := by
        rw [HR.out.cell (off + k) (by simp; omega), hy]
        congr 2
        rw [List.getD_eq_getElem?_getD, List.getD_eq_getElem?_getD, List.getElem?_append_right (by omega), show off + k - p.length = (k - m) + 1 by omega, List.getElem?_cons_succ, List.getElem?_append_left hkm]
      have c2 : wr.cell? ⟨gb, off + a, none⟩ = some (.int .i64 x) := by
        rw [HR.out.cell (off + a) (by simp; omega), getD_at p x _ _ hp]
      have hgb : gb < wr.heap.size := HR.out.lt
      have HY1 : Hid (ccc y < ccc x → ∀ z ∈ v.take (k + 1 - m), ccc z < ccc x) := by
        intro h z hz
        rw [show k + 1 - m = (k - m) + 1 by omega] at hz
        have := rise_take HS.out (k - m) hkm z hz
        rw [← hy] at this; omega
      have HY2 : Hid (ccc x ≤ ccc y → ∀ z ∈ v.drop (k - m), ccc x ≤ ccc z) := by
        intro h z hz
        have := rise_drop HS.out (k - m) hkm z hz
        rw [← hy] at this; omega
      clear hy hk
      go_wp2_with fail
      go_region_held3 (fun w' => w'.cell? ⟨gb, off + k, none⟩ = some (.int .i64 y) ∧ w'.cell? ⟨gb, off + a, none⟩ = some (.int .i64 x))
        (first | (exact ⟨c1, c2⟩) | (exact ⟨(hb'.cell (p := ⟨gb, off + k, none⟩) hgb).trans c1, (hb'.cell (p := ⟨gb, off + a, none⟩) hgb).trans c2⟩))
        (first | (go_at_call 19; refine (before_any _ _ _).mono ?_; rintro e w' ⟨rfl, hb'⟩))
      have HR2 : Hid (RowC w0 base gb cap (p ++ (x :: (v ++ q))) w') := HR.out.below ((pw_below_drewN (Below.refl _ _) 1).trans hb')
      clear c1 c2 hgb hb' HR
      cases hd : decide (cmpI (ccc y) (ccc x) < 0) with
      | true =>
        have HN := Lib.hid (HY1.out (cmpI_lt.1 (of_decide_eq_true hd)))
        clear HY1 HY2 hd
        go_wp2
        go_roundw
        case measure => simp [intOf]; omega
        case rel => exact ⟨k + 1, j, by go_num, rfl, by omega, by omega, hj, HN, H2, HR2⟩
      | false =>
        have HN := Lib.hid (HY2.out (Int.not_lt.1 fun h => of_decide_eq_false hd (cmpI_lt.2 h)))
        clear HY1 HY2 hd
        go_wp2
        go_roundw
        case measure => simp [intOf]; omega
        case rel => exact ⟨i, k, rfl, rfl, hmi, by omega, by omega, H1, HN, HR2⟩
    · obtain rfl : i = j := by omega
      obtain ⟨i', hi'⟩ : ∃ i', i = m + i' := ⟨i - m, by omega⟩
      have HP : Hid (Alike (x :: v) (v.take i' ++ x :: v.drop i') ∧ Rise (v.take i' ++ x :: v.drop i')) := put_left HU.out HS.out (by have := H1.out; rwa [hi', Nat.add_sub_cancel_left] at this) (by have := H2.out; rwa [hi', Nat.add_sub_cancel_left] at this)
      clear H1 H2
      have ri : IntKind.i64.wrap ((i : Int) - 1) = (i : Int) - 1 := by rw [IntKind.wrap_i64]; omega
      go_wp2_with fail
      go_loopw [13] (fun vk wr => ∃ k t : Nat, vk = .int .i64 k ∧ k = a + t ∧ t ≤ i' ∧ Hid (RowC w0 base gb cap (p ++ (v.take t ++ x :: (v.drop t ++ q))) wr)) (fun vk _ => b - (intOf vk).toNat)
      case atStart => exact ⟨a, 0, rfl, rfl, Nat.zero_le _, by simpa using HR⟩
      case round =>
        clear HR
        obtain ⟨k, t, rfl, hk, ht, HR⟩ := hrel
        by_cases hlt2 : t < i'
        · have hz : (k : Int) < (i : Int) - 1 := by omega
          obtain ⟨y, v2, hy⟩ : ∃ y v2, v.drop t = y :: v2 := ⟨v[t], v.drop (t + 1), List.drop_eq_getElem_cons (by omega)⟩
          have hsw : wr.cell? ⟨gb, off + k, none⟩ = some (.int .i64 x) ∧ wr.cell? ⟨gb, off + (k + 1), none⟩ = some (.int .i64 y) ∧ (∃ uu, (wr.setCell ⟨gb, off + k, none⟩ (.int .i64 y)).cell? ⟨gb, off + (k + 1), none⟩ = some uu) ∧
              wr.frozen? ⟨gb, off + k, none⟩ = false ∧ wr.frozen? ⟨gb, off + (k + 1), none⟩ = false ∧ RowC w0 base gb cap (p ++ (v.take (t + 1) ++ x :: (v.drop (t + 1) ++ q))) ((wr.setCell ⟨gb, off + k, none⟩ (.int .i64 y)).setCell ⟨gb, off + (k + 1), none⟩ (.int .i64 x)).drew := by
            have hz := HR.out
            rw [hy] at hz
            have e1 : p ++ (v.take t ++ x :: ((y :: v2) ++ q)) = (p ++ v.take t) ++ x :: ([] ++ y :: (v2 ++ q)) := by simp
            rw [e1] at hz
            have hlen : (p ++ v.take t).length = off + k := by simp; omega
            have g := hz.swapping (off + k) (off + (k + 1)) (by simp at hlen ⊢; omega) (by simp at hlen ⊢; omega)
            have v1 := getD_at (p ++ v.take t) x ([] ++ y :: (v2 ++ q)) (off + k) hlen
            have vv2 : ((p ++ v.take t) ++ x :: ([] ++ y :: (v2 ++ q))).getD (off + (k + 1)) 0 = y := by
              have := getD_at ((p ++ v.take t) ++ [x]) y (v2 ++ q) (off + (k + 1)) (by simp at hlen ⊢; omega)
              simpa using this
            have z1 : v.take (t + 1) = v.take t ++ [y] := by rw [List.take_add, hy]; rfl
            have z3 : v.drop (t + 1) = v2 := by rw [← List.drop_drop, hy]; rfl
            have v3 : sw ((p ++ v.take t) ++ x :: ([] ++ y :: (v2 ++ q))) (off + k) (off + (k + 1)) = p ++ (v.take (t + 1) ++ x :: (v.drop (t + 1) ++ q)) := by
              have := sw_split (p ++ v.take t) [] (v2 ++ q) x y
              rw [hlen] at this
              rw [show off + (k + 1) = off + k + 1 + ([] : List Int).length from rfl, this, z1, z3]; simp
            rw [v1, vv2, v3] at g
            exact g
          obtain ⟨g1, g2, ⟨uu, g3⟩, g4, g5, g6⟩ := hsw
          have G := Lib.hid g6
          clear g6 hy HR
          have ea : ((k : Int) + 1).toNat = k + 1 := by omega
          have pa : (0 : Int) ≤ (k : Int) + 1 := by omega
          have ba : (k : Int) + 1 < (n : Int) := by omega
          have bb : (k : Int) < (n : Int) := by omega
          have ra : IntKind.i64.wrap ((k : Int) + 1) = (k : Int) + 1 := by rw [IntKind.wrap_i64]; omega
          have HK := Lib.hid hk; clear hk
          go_wp2_with fail
          go_big_region
          clear g1 g2 g3 g4 g5
          generalize ((wr.setCell ⟨gb, off + k, none⟩ (Value.int IntKind.i64 y)).setCell ⟨gb, off + (k + 1), none⟩ (Value.int IntKind.i64 x)).drew = w3 at G ⊢
          go_wp2
          go_roundw
          case measure => simp [intOf]; omega
          case rel => exact ⟨k + 1, t + 1, by go_num, by rw [HK.out]; omega, by omega, G⟩
        · obtain rfl : t = i' := by omega
          have hz : ¬ (k : Int) < (i : Int) - 1 := by omega
          go_wp2
          go_end0
          exact ⟨rfl, v.take t ++ x :: v.drop t, HP.out.1, HP.out.2, by simpa using HR.out⟩

set_option maxHeartbeats 4000000 in
set_option maxRecDepth 100000 in
theorem symMerge_right (w0 : World) (base gb cap off n cv a m b : Nat) (p u : List Int) (y : Int) (q : List Int) (w : World) (h : RowC w0 base gb cap (p ++ (u ++ (y :: q))) w) (hu : AllM (u ++ [y])) (hs : Rise u) (hp : p.length = off + a) (hul : a + u.length = m) (hu1 : u.length ≠ 1) (hvl : m + 1 = b) (hb : b ≤ n) (hn : n < 17592186044416) :
    Calls Try.prog 38 #[.slice (some ⟨gb, off, none⟩) n cv, .int .i64 a, .int .i64 m, .int .i64 b, .func (.func 19) #[] #[]] w (MergePost w0 base gb cap p u [y] q) := by
  have H := Lib.hid h; clear h
  have HU := Lib.hid hu; clear hu
  have HS := Lib.hid hs; clear hs
  have ru : IntKind.i64.wrap ((m : Int) - (a : Int)) = (u.length : Int) := by rw [IntKind.wrap_i64]; omega
  have rv : IntKind.i64.wrap ((b : Int) - (m : Int)) = 1 := by rw [IntKind.wrap_i64]; omega
  have hu2 : ((u.length : Int) == 1) = false := by simpa using (by omega : ¬ (u.length : Int) = 1)
  go_enter Try.func38, Try.ntmps38
  go_wp2_with fail
  go_loopw [14, 15] (fun vi vj wr => ∃ i j : Nat, vi = .int .i64 i ∧ vj = .int .i64 j ∧ a ≤ i ∧ i ≤ j ∧ j ≤ m ∧ Hid (∀ z ∈ u.take (i - a), ccc z ≤ ccc y) ∧ Hid (∀ z ∈ u.drop (j - a), ccc y < ccc z) ∧ Hid (RowC w0 base gb cap (p ++ (u ++ (y :: q))) wr)) (fun vi vj _ => (intOf vj).toNat - (intOf vi).toNat)
  case atStart => exact ⟨a, m, rfl, rfl, Nat.le_refl _, by omega, Nat.le_refl _, (show ∀ z ∈ u.take (a - a), _ from by simp), (show ∀ z ∈ u.drop (m - a), _ from by rw [List.drop_of_length_le (by omega)]; simp), H⟩
  case round =>
    clear H
    obtain ⟨i, j, rfl, rfl, hmi, hij, hj, H1, H2, HR⟩ := hrel
    by_cases hlt : i < j
    · obtain ⟨k, hk⟩ : ∃ k, k = (i + j) / 2 := ⟨_, rfl⟩
      have hk1 : i ≤ k := by omega
      have hk2 : k < j := by omega
      have rh : ((i : Int) + (j : Int)) / 2 = (k : Int) := by omega
      have hltz : (i : Int) < (j : Int) := by omega
      have hkn : (k : Int) < (n : Int) := by omega
      have hmn : (m : Int) < (n : Int) := by omega
      have hkm : k - a < u.length := by omega
      obtain ⟨x, hx⟩ : ∃ x, x = u.getD (k - a) 0 := ⟨_, rfl⟩
      have c1 : wr.cell? ⟨gb, off + k, none⟩ = some (.int .i64 x) := by
        rw [HR.out.cell (off + k) (by simp; omega), hx]
        congr 2
        rw [List.getD_eq_getElem?_getD, List.getD_eq_getElem?_getD, List.getElem?_append_right (by omega), show off + k - p.length = k - a by omega, List.getElem?_append_left hkm]
      have c2 : wr.cell? ⟨gb, off + m, none⟩ = some (.int .i64 y) := by
        rw [HR.out.cell (off + m) (by simp; omega)]
        have := getD_at (p ++ u) y q (off + m) (by simp; omega)
        rw [List.append_assoc] at this
        rw [this]
      have hgb : gb < wr.heap.size := HR.out.lt
      have HY1 : Hid (ccc x ≤ ccc y → ∀ z ∈ u.take (k + 1 - a), ccc z ≤ ccc y) := by
        intro h z hz
        rw [show k + 1 - a = (k - a) + 1 by omega] at hz
        have := rise_take HS.out (k - a) hkm z hz
        rw [← hx] at this; omega
      have HY2 : Hid (ccc y < ccc x → ∀ z ∈ u.drop (k - a), ccc y < ccc z) := by
        intro h z hz
        have := rise_drop HS.out (k - a) hkm z hz
        rw [← hx] at this; omega
      clear hx hk
      go_wp2_with fail
      go_region_held3 (fun w' => w'.cell? ⟨gb, off + k, none⟩ = some (.int .i64 x) ∧ w'.cell? ⟨gb, off + m, none⟩ = some (.int .i64 y))
        (first | (exact ⟨c1, c2⟩) | (exact ⟨(hb'.cell (p := ⟨gb, off + k, none⟩) hgb).trans c1, (hb'.cell (p := ⟨gb, off + m, none⟩) hgb).trans c2⟩))
        (first | (go_at_call 19; refine (before_any _ _ _).mono ?_; rintro e w' ⟨rfl, hb'⟩))
      have HR2 : Hid (RowC w0 base gb cap (p ++ (u ++ (y :: q))) w') := HR.out.below ((pw_below_drewN (Below.refl _ _) 1).trans hb')
      clear c1 c2 hgb hb' HR
      cases hd : decide (cmpI (ccc y) (ccc x) < 0) with
      | true =>
        have HN := Lib.hid (HY2.out (cmpI_lt.1 (of_decide_eq_true hd)))
        clear HY1 HY2 hd
        go_wp2
        go_roundw
        case measure => simp [intOf]; omega
        case rel => exact ⟨i, k, rfl, rfl, hmi, by omega, by omega, H1, HN, HR2⟩
      | false =>
        have HN := Lib.hid (HY1.out (Int.not_lt.1 fun h => of_decide_eq_false hd (cmpI_lt.2 h)))
        clear HY1 HY2 hd
        go_wp2
        go_roundw
        case measure => simp [intOf]; omega
        case rel => exact ⟨k + 1, j, by go_num, rfl, by omega, by omega, hj, HN, H2, HR2⟩
    · obtain rfl : i = j := by omega
      obtain ⟨i', hi'⟩ : ∃ i', i = a + i' := ⟨i - a, by omega⟩
      have HP : Hid (Alike (u ++ [y]) (u.take i' ++ y :: u.drop i') ∧ Rise (u.take i' ++ y :: u.drop i')) := put_right HU.out HS.out (by have := H1.out; rwa [hi', Nat.add_sub_cancel_left] at this) (by have := H2.out; rwa [hi', Nat.add_sub_cancel_left] at this)
      clear H1 H2
      go_wp2_with fail
      go_loopw [17] (fun vk wr => ∃ k t : Nat, vk = .int .i64 k ∧ k = a + t ∧ i' ≤ t ∧ t ≤ u.length ∧ Hid (RowC w0 base gb cap (p ++ (u.take t ++ y :: (u.drop t ++ q))) wr)) (fun vk _ => (intOf vk).toNat)
      case atStart => exact ⟨m, u.length, rfl, by omega, by omega, Nat.le_refl _, by simpa using HR⟩
      case round =>
        clear HR
        obtain ⟨k, t, rfl, hk, ht, ht2, HR⟩ := hrel
        by_cases hlt2 : i' < t
        · obtain ⟨k, rfl⟩ : ∃ k', k = k' + 1 := ⟨k - 1, by omega⟩
          obtain ⟨t, rfl⟩ : ∃ t', t = t' + 1 := ⟨t - 1, by omega⟩
          have hz : (i : Int) < (k : Int) + 1 := by omega
          obtain ⟨x, u2, hx⟩ : ∃ x u2, u.drop t = x :: u2 := ⟨u[t], u.drop (t + 1), List.drop_eq_getElem_cons (by omega)⟩
          have hsw : wr.cell? ⟨gb, off + (k + 1), none⟩ = some (.int .i64 y) ∧ wr.cell? ⟨gb, off + k, none⟩ = some (.int .i64 x) ∧ (∃ uu, (wr.setCell ⟨gb, off + (k + 1), none⟩ (.int .i64 x)).cell? ⟨gb, off + k, none⟩ = some uu) ∧
              wr.frozen? ⟨gb, off + (k + 1), none⟩ = false ∧ wr.frozen? ⟨gb, off + k, none⟩ = false ∧ RowC w0 base gb cap (p ++ (u.take t ++ y :: (u.drop t ++ q))) ((wr.setCell ⟨gb, off + (k + 1), none⟩ (.int .i64 x)).setCell ⟨gb, off + k, none⟩ (.int .i64 y)).drew := by
            have hz := HR.out
            have z1 : u.take (t + 1) = u.take t ++ [x] := by rw [List.take_add, hx]; rfl
            have z3 : u.drop (t + 1) = u2 := by rw [← List.drop_drop, hx]; rfl
            rw [z1, z3] at hz
            have e1 : p ++ ((u.take t ++ [x]) ++ y :: (u2 ++ q)) = (p ++ u.take t) ++ x :: ([] ++ y :: (u2 ++ q)) := by simp
            rw [e1] at hz
            have hlen : (p ++ u.take t).length = off + k := by simp; omega
            have g := hz.swapping (off + (k + 1)) (off + k) (by simp at hlen ⊢; omega) (by simp at hlen ⊢; omega)
            have v1 := getD_at (p ++ u.take t) x ([] ++ y :: (u2 ++ q)) (off + k) hlen
            have vv2 : ((p ++ u.take t) ++ x :: ([] ++ y :: (u2 ++ q))).getD (off + (k + 1)) 0 = y := by
              have := getD_at ((p ++ u.take t) ++ [x]) y (u2 ++ q) (off + (k + 1)) (by simp at hlen ⊢; omega)
              simpa using this
            have v3 : sw ((p ++ u.take t) ++ x :: ([] ++ y :: (u2 ++ q))) (off + (k + 1)) (off + k) = p ++ (u.take t ++ y :: (u.drop t ++ q)) := by
              have := sw_split' (p ++ u.take t) [] (u2 ++ q) x y
              rw [hlen] at this
              rw [show off + (k + 1) = off + k + 1 + ([] : List Int).length from rfl, this, hx]; simp
            rw [v1, vv2, v3] at g
            exact g
          obtain ⟨g1, g2, ⟨uu, g3⟩, g4, g5, g6⟩ := hsw
          have G := Lib.hid g6
          clear g6 hx HR
          have ea : ((k : Int) + 1).toNat = k + 1 := by omega
          have pa : (0 : Int) ≤ (k : Int) + 1 := by omega
          have ba : (k : Int) + 1 < (n : Int) := by omega
          have bb : (k : Int) < (n : Int) := by omega
          have ra : IntKind.i64.wrap ((k : Int) + 1) = (k : Int) + 1 := by rw [IntKind.wrap_i64]; omega
          have rb : IntKind.i64.wrap (k : Int) = (k : Int) := by rw [IntKind.wrap_i64]; omega
          have HK := Lib.hid hk; clear hk
          go_wp2_with fail
          go_big_region
          clear g1 g2 g3 g4 g5
          generalize ((wr.setCell ⟨gb, off + (k + 1), none⟩ (Value.int IntKind.i64 x)).setCell ⟨gb, off + k, none⟩ (Value.int IntKind.i64 y)).drew = w3 at G ⊢
          go_wp2
          go_roundw
          case measure => simp [intOf]
          case rel => exact ⟨k, t, by first | rfl | go_num, by have := HK.out; omega, by omega, by omega, G⟩
        · obtain rfl : t = i' := by omega
          have hz : ¬ (i : Int) < (k : Int) := by omega
          go_wp2
          go_end0
          exact ⟨rfl, u.take t ++ y :: u.drop t, HP.out.1, HP.out.2, by simpa using HR.out⟩
end Go.Proofs.Pt

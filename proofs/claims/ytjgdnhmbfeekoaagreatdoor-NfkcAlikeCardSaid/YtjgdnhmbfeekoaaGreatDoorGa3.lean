/- Lemmas and walks that the claims of this seat share: several texts, joined. -/
import Derived.Test.YtjgdnhmbfeekoaaGreatDoorGa2
/- ==== the text W12 ==== -/
section
/- The walk of a stable sort's small parts: values put in by exchanges. -/
namespace Go.Proofs.Pt
open Go Go.RowKit Go.Proofs.YtjgdnhmbfeekoaaGreatDoorW.PrintWords

def BEF : Value := .func (.func 64) #[] #[]
def InsPost (w0 : World) (base gb cap : Nat) (p u q : List Int) (e : Ending) (w' : World) : Prop := e = .returned (.tuple #[]) ∧ ∃ u', Alike u u' ∧ Rise u' ∧ RowC w0 base gb cap (p ++ (u' ++ q)) w'
theorem getD_at (A : List Int) (x : Int) (B : List Int) (k : Nat) (h : A.length = k) : (A ++ x :: B).getD k 0 = x := by subst h; simp [List.getD_eq_getElem?_getD]
set_option maxHeartbeats 2000000 in
set_option maxRecDepth 100000 in
theorem insertion_any (w0 : World) (base gb cap off n cv a b : Nat) (p u q : List Int) (w : World) (h : RowC w0 base gb cap (p ++ (u ++ q)) w) (hu : AllM u) (hp : p.length = off + a) (hul : a + u.length = b) (hb : b ≤ n) (hn : n < 17592186044416) :
    Calls Tryz.prog 121 #[.slice (some ⟨gb, off, none⟩) n cv, .int .i64 a, .int .i64 b, .func (.func 64) #[] #[]] w (InsPost w0 base gb cap p u q) := by
  have H := Lib.hid h; clear h
  have HU := Lib.hid hu; clear hu
  have hsp : ∃ s t, Alike u (s ++ t) ∧ Rise s ∧ (u = [] ∧ s = [] ∧ t = [] ∨ s.length = 1) ∧ p ++ (u ++ q) = p ++ (s ++ (t ++ q)) := by
    cases u with
    | nil => exact ⟨[], [], .refl _, rise_nil, .inl ⟨rfl, rfl, rfl⟩, rfl⟩
    | cons x u => exact ⟨[x], u, .refl _, rise_one x, .inr rfl, rfl⟩
  go_enter Tryz.func121, Tryz.ntmps121
  go_wp2_with fail
  go_loopw [8] (fun vi wr => ∃ (i : Nat) (s t : List Int), vi = .int .i64 i ∧ a < i ∧ (u = [] ∧ s = [] ∧ t = [] ∨ a + s.length = i) ∧ i ≤ b + 1 ∧ Hid (Alike u (s ++ t) ∧ Rise s ∧ RowC w0 base gb cap (p ++ (s ++ (t ++ q))) wr)) (fun vi _ => b + 1 - (intOf vi).toNat)
  case atStart =>
    obtain ⟨s, t, h1, h2, h3, h4⟩ := hsp
    exact ⟨a + 1, s, t, by go_num, by omega, h3.imp id (fun h => by omega), by omega, h1, h2, by rw [← h4]; exact H.out⟩
  case round =>
    clear H hsp
    obtain ⟨i, s, t, rfl, hai, hcase, hib, HR⟩ := hrel
    by_cases hlt : i < b
    · have hltz : (i : Int) < (b : Int) := by omega
      have hsl : a + s.length = i := by
        rcases hcase with ⟨h1, _, _⟩ | h1
        · rw [h1] at hul; simp at hul; omega
        · exact h1
      have htl : (s ++ t).length = u.length := HR.out.1.perm.length_eq.symm
      obtain ⟨x, t', rfl⟩ : ∃ x t', t = x :: t' := by
        cases t with
        | nil => simp at htl; omega
        | cons x t' => exact ⟨x, t', rfl⟩
      clear hcase
      go_wp2_with fail
      go_loopw [9] (fun vj wq => ∃ (j : Nat) (s1 s2 : List Int), vj = .int .i64 j ∧ a + s1.length = j ∧ s1.length + s2.length = s.length ∧ Hid (Insd u s1 x s2 t' ∧ RowC w0 base gb cap (p ++ (s1 ++ x :: (s2 ++ (t' ++ q)))) wq)) (fun vj _ => (intOf vj).toNat)
      case atStart => exact ⟨i, s, [], rfl, hsl, by simp, Insd.start HR.out.1 HR.out.2.1, by simpa using HR.out.2.2⟩
      case round =>
        clear HR
        obtain ⟨j, s1, s2, rfl, hj, hss, HI⟩ := hrel
        rcases List.eq_nil_or_concat s1 with rfl | ⟨s0, y, rfl⟩
        · simp at hj
          subst hj
          have hf : decide ((a : Int) > (a : Int)) = false := by simp
          have hst := HI.out.1.stop (by simp)
          have hr := HI.out.2
          have HN : Hid (Alike u ((x :: s2) ++ t') ∧ Rise (x :: s2) ∧ RowC w0 base gb cap (p ++ ((x :: s2) ++ (t' ++ q))) wr) := ⟨hst.1, hst.2, by simpa using hr⟩
          clear HI hst hr
          go_wp2_with fail
          go_quiet (fail)
          go_wp2
          go_roundw
          case measure => simp [intOf]; omega
          case rel => exact ⟨i + 1, x :: s2, t', by go_num, by omega, .inr (by simp at hss ⊢; omega), by omega, HN.out.1, HN.out.2.1, HN.out.2.2.below (pw_below_drewN (Below.refl _ _) _)⟩
        · rw [List.concat_eq_append] at hj hss HI
          have hjl : a + s0.length + 1 = j := by simp at hj; omega
          obtain ⟨k, rfl⟩ : ∃ k, j = k + 1 := ⟨j - 1, by omega⟩
          have hja : decide ((k : Int) + 1 > (a : Int)) = true := decide_eq_true (by omega)
          have hlen : (p ++ s0).length = off + k := by simp; omega
          have hsw : ∀ wz, RowC w0 base gb cap (p ++ ((s0 ++ [y]) ++ x :: (s2 ++ (t' ++ q)))) wz → wz.cell? ⟨gb, off + (k + 1), none⟩ = some (.int .i64 x) ∧ wz.cell? ⟨gb, off + k, none⟩ = some (.int .i64 y) ∧ (∃ uu, (wz.setCell ⟨gb, off + (k + 1), none⟩ (.int .i64 y)).cell? ⟨gb, off + k, none⟩ = some uu) ∧
              wz.frozen? ⟨gb, off + (k + 1), none⟩ = false ∧ wz.frozen? ⟨gb, off + k, none⟩ = false ∧ RowC w0 base gb cap (p ++ (s0 ++ x :: ((y :: s2) ++ (t' ++ q)))) ((wz.setCell ⟨gb, off + (k + 1), none⟩ (.int .i64 y)).setCell ⟨gb, off + k, none⟩ (.int .i64 x)).drew := by
            intro wz hz
            have e1 : p ++ ((s0 ++ [y]) ++ x :: (s2 ++ (t' ++ q))) = (p ++ s0) ++ y :: ([] ++ x :: (s2 ++ (t' ++ q))) := by simp
            rw [e1] at hz
            have g := hz.swapping (off + (k + 1)) (off + k) (by simp at hlen ⊢; omega) (by simp at hlen ⊢; omega)
            have v1 := getD_at (p ++ s0) y ([] ++ x :: (s2 ++ (t' ++ q))) (off + k) hlen
            have v2 : ((p ++ s0) ++ y :: ([] ++ x :: (s2 ++ (t' ++ q)))).getD (off + (k + 1)) 0 = x := by
              have := getD_at ((p ++ s0) ++ [y]) x (s2 ++ (t' ++ q)) (off + (k + 1)) (by simp at hlen ⊢; omega)
              simpa using this
            have v3 : sw ((p ++ s0) ++ y :: ([] ++ x :: (s2 ++ (t' ++ q)))) (off + (k + 1)) (off + k) = p ++ (s0 ++ x :: ((y :: s2) ++ (t' ++ q))) := by
              have := sw_split' (p ++ s0) [] (s2 ++ (t' ++ q)) y x
              rw [hlen] at this
              rw [show off + (k + 1) = off + k + 1 + ([] : List Int).length from rfl, this]; simp
            rw [v1, v2, v3] at g
            exact g
          have HSW := Lib.hid hsw; clear hsw hlen
          obtain ⟨g1, g2, _, _, _, _⟩ := HSW.out wr HI.out.2
          have hgb : gb < wr.heap.size := HI.out.2.lt
          have ea : ((k : Int) + 1).toNat = k + 1 := by omega
          have pa : (0 : Int) ≤ (k : Int) + 1 := by omega
          have ba : (k : Int) + 1 < (n : Int) := by omega
          have bb : (k : Int) < (n : Int) := by omega
          have ra : IntKind.i64.wrap ((k : Int) + 1) = (k : Int) + 1 := by rw [IntKind.wrap_i64]; omega
          have rb : IntKind.i64.wrap ((k : Int)) = (k : Int) := by rw [IntKind.wrap_i64]; omega
          go_wp2_with fail
          go_region_held3 (fun w' => w'.cell? ⟨gb, off + (k + 1), none⟩ = some (.int .i64 x) ∧ w'.cell? ⟨gb, off + k, none⟩ = some (.int .i64 y))
            (first | (exact ⟨g1, g2⟩) | (exact ⟨(hb'.cell (p := ⟨gb, off + (k + 1), none⟩) hgb).trans g1, (hb'.cell (p := ⟨gb, off + k, none⟩) hgb).trans g2⟩))
            (first | (go_at_call 64; refine (before_any _ _ _).mono ?_; rintro e w' ⟨rfl, hb'⟩))
          have H2 : Hid (RowC w0 base gb cap (p ++ ((s0 ++ [y]) ++ x :: (s2 ++ (t' ++ q)))) w') := HI.out.2.below ((pw_below_drewN (Below.refl _ _) 1).trans hb')
          have HI1 := Lib.hid HI.out.1
          clear g1 g2 hgb HI hb'
          cases hd : decide (cmpI (ccc x) (ccc y) < 0) with
          | true =>
            have hlt2 := cmpI_lt.1 (of_decide_eq_true hd)
            clear hd
            have HN : Hid (Insd u s0 x (y :: s2) t') := HI1.out.step HU.out hlt2
            obtain ⟨g1, g2, ⟨uu, g3⟩, g4, g5, g6⟩ := HSW.out w' H2.out
            have G := Lib.hid g6
            clear g6 HSW H2 HI1 hlt2
            go_wp2_with fail
            go_big_region
            clear g1 g2 g3 g4 g5
            generalize ((w'.setCell ⟨gb, off + (k + 1), none⟩ (Value.int IntKind.i64 y)).setCell ⟨gb, off + k, none⟩ (Value.int IntKind.i64 x)).drew = w3 at G ⊢
            go_wp2
            go_roundw
            case measure => simp [intOf]
            case rel => exact ⟨k, s0, y :: s2, by first | rfl | go_num, by omega, by simp at hss ⊢; omega, HN.out, G.out⟩
          | false =>
            have hlt2 : ¬ ccc x < ccc y := fun h => of_decide_eq_false hd (cmpI_lt.2 h)
            clear hd
            have hst := HI1.out.stop (by intro z hz; simp at hz; subst hz; omega)
            have hr := H2.out
            have HN : Hid (Alike u (((s0 ++ [y]) ++ x :: s2) ++ t') ∧ Rise ((s0 ++ [y]) ++ x :: s2) ∧ RowC w0 base gb cap (p ++ (((s0 ++ [y]) ++ x :: s2) ++ (t' ++ q))) w') := ⟨hst.1, hst.2, by simpa using hr⟩
            clear hst hr HSW H2 HI1 hlt2
            go_wp2
            go_roundw
            case measure => simp [intOf]; omega
            case rel => exact ⟨i + 1, (s0 ++ [y]) ++ x :: s2, t', by go_num, by omega, .inr (by simp at hss ⊢; omega), by omega, HN.out⟩
    · have htl : (s ++ t).length = u.length := HR.out.1.perm.length_eq.symm
      have ht : t = [] := by
        rcases hcase with ⟨_, _, h⟩ | h
        · exact h
        · rw [List.length_append] at htl; exact List.length_eq_zero_iff.1 (by omega)
      subst ht
      have HN : Hid (Alike u s ∧ Rise s ∧ RowC w0 base gb cap (p ++ (s ++ q)) wr) := ⟨by simpa using HR.out.1, HR.out.2.1, by simpa using HR.out.2.2⟩
      clear HR
      go_wp2
      go_end0
      exact ⟨rfl, s, HN.out.1, HN.out.2.1, HN.out.2.2⟩
end Go.Proofs.Pt
end

/- ==== the text W13 ==== -/
section
/- The walk of a turn of two parts of a row. -/
namespace Go.Proofs.Pt
open Go Go.RowKit Go.Proofs.YtjgdnhmbfeekoaaGreatDoorW.PrintWords

set_option maxHeartbeats 2000000 in
set_option maxRecDepth 100000 in
theorem rotate_any (w0 : World) (base gb cap off n cv a m b : Nat) (p u v q : List Int) (f : Value) (w : World) (h : RowC w0 base gb cap (p ++ (u ++ (v ++ q))) w) (hp : p.length = off + a) (hu : a + u.length = m) (hv : m + v.length = b) (hu0 : 0 < u.length) (hv0 : 0 < v.length) (hb : b ≤ n) (hn : n < 17592186044416) :
    Calls Tryz.prog 156 #[.slice (some ⟨gb, off, none⟩) n cv, .int .i64 a, .int .i64 m, .int .i64 b, f] w fun e w' => e = .returned (.tuple #[]) ∧ RowC w0 base gb cap (p ++ (v ++ (u ++ q))) w' := by
  have H := Lib.hid h; clear h
  have ru : IntKind.i64.wrap ((m : Int) - (a : Int)) = (u.length : Int) := by rw [IntKind.wrap_i64]; omega
  have rv : IntKind.i64.wrap ((b : Int) - (m : Int)) = (v.length : Int) := by rw [IntKind.wrap_i64]; omega
  go_enter Tryz.func156, Tryz.ntmps156
  go_wp2_with fail
  go_loopw [10, 11] (fun vi vj wr => ∃ (i j a' : Nat) (P U V Q : List Int), vi = .int .i64 i ∧ vj = .int .i64 j ∧ P.length = off + a' ∧ a' + i = m ∧ U.length = i ∧ V.length = j ∧ 0 < i ∧ 0 < j ∧ m + j ≤ n ∧ Hid (P ++ (V ++ (U ++ Q)) = p ++ (v ++ (u ++ q))) ∧ Hid (RowC w0 base gb cap (P ++ (U ++ (V ++ Q))) wr)) (fun vi vj _ => (intOf vi).toNat + (intOf vj).toNat)
  case atStart => exact ⟨u.length, v.length, a, p, u, v, q, rfl, rfl, hp, hu, rfl, rfl, hu0, hv0, by omega, rfl, H⟩
  case round =>
    clear H ru rv
    obtain ⟨i, j, a', P, U, V, Q, rfl, rfl, hP, ha', hU, hV, hi0, hj0, hmj, HE, HR⟩ := hrel
    have rp : IntKind.i64.wrap ((m : Int) - (i : Int)) = (a' : Int) := by rw [IntKind.wrap_i64]; omega
    rcases Nat.lt_trichotomy j i with hlt | heq | hgt
    · have hz1 : ¬ (i : Int) = (j : Int) := by omega
      have hz2 : (j : Int) < (i : Int) := by omega
      have rq : IntKind.i64.wrap ((i : Int) - (j : Int)) = ((i - j : Nat) : Int) := by rw [IntKind.wrap_i64]; omega
      have e1 : P ++ (U ++ (V ++ Q)) = P ++ (U.take j ++ (U.drop j ++ (V ++ Q))) := by rw [← List.append_assoc (U.take j), List.take_append_drop]
      have hr := HR.out
      rw [e1] at hr
      have HR2 := Lib.hid hr
      have HE2 : Hid ((P ++ V) ++ (U.take j ++ (U.drop j ++ Q)) = p ++ (v ++ (u ++ q))) := by show _ = _; rw [← HE.out, ← List.append_assoc (U.take j), List.take_append_drop]; simp
      clear hr e1 HR HE
      go_wp2_with (go_at_call 178; refine (swapRange_any w0 base gb cap off n _ a' m j P (U.take j) (U.drop j) V Q _ _ HR2.out hP (by simp; omega) hV (by simp; omega) hmj hn).mono ?_; rintro e w' ⟨rfl, hw⟩)
      have hw2 : RowC w0 base gb cap ((P ++ V) ++ (U.drop j ++ (U.take j ++ Q))) w' := by simpa using hw
      go_roundw
      case measure => simp [intOf]; omega
      case rel => exact ⟨i - j, j, a' + j, P ++ V, U.drop j, U.take j, Q, rfl, rfl, by simp; omega, by omega, by simp; omega, by simp; omega, by omega, hj0, hmj, HE2, hw2⟩
    · subst heq
      go_wp2_with (go_at_call 178; refine (swapRange_any w0 base gb cap off n _ a' m j P U [] V Q _ _ (by simpa using HR.out) hP hU hV (by simp; omega) hmj hn).mono ?_; rintro e w' ⟨rfl, hw⟩)
      go_end0
      have hw2 : RowC w0 base gb cap (P ++ (V ++ (U ++ Q))) w' := by simpa using hw
      rw [HE.out] at hw2
      exact ⟨rfl, hw2⟩
    · have hz1 : ¬ (i : Int) = (j : Int) := by omega
      have hz2 : ¬ (j : Int) < (i : Int) := by omega
      have rq : IntKind.i64.wrap ((j : Int) - (i : Int)) = ((j - i : Nat) : Int) := by rw [IntKind.wrap_i64]; omega
      have rs : IntKind.i64.wrap ((m : Int) + (j : Int)) = (m : Int) + (j : Int) := by rw [IntKind.wrap_i64]; omega
      have rt : IntKind.i64.wrap ((m : Int) + (j : Int) - (i : Int)) = ((m + (j - i) : Nat) : Int) := by rw [IntKind.wrap_i64]; omega
      have e1 : P ++ (U ++ (V ++ Q)) = P ++ (U ++ (V.take (j - i) ++ (V.drop (j - i) ++ Q))) := by rw [← List.append_assoc (V.take (j - i)), List.take_append_drop]
      have hr := HR.out
      rw [e1] at hr
      have HR2 := Lib.hid hr
      have HE2 : Hid (P ++ (V.take (j - i) ++ (V.drop (j - i) ++ (U ++ Q))) = p ++ (v ++ (u ++ q))) := by show _ = _; rw [← HE.out, ← List.append_assoc (V.take (j - i)), List.take_append_drop]
      clear hr e1 HR HE
      go_wp2_with (go_at_call 178; refine (swapRange_any w0 base gb cap off n _ a' (m + (j - i)) i P U (V.take (j - i)) (V.drop (j - i)) Q _ _ HR2.out hP hU (by simp; omega) (by simp; omega) (by omega) hn).mono ?_; rintro e w' ⟨rfl, hw⟩)
      go_roundw
      case measure => simp [intOf]; omega
      case rel => exact ⟨i, j - i, a', P, V.drop (j - i), V.take (j - i), U ++ Q, rfl, rfl, hP, ha', by simp; omega, by simp; omega, hi0, by omega, by omega, HE2, hw⟩
end Go.Proofs.Pt
end

/- ==== the text W14 ==== -/
section
/- The walk of a stable merge of two parts of a row in place. -/
namespace Go.Proofs.Pt
open Go Go.RowKit Go.Proofs.YtjgdnhmbfeekoaaGreatDoorW.PrintWords

def MergePost (w0 : World) (base gb cap : Nat) (p u v q : List Int) (e : Ending) (w' : World) : Prop := e = .returned (.tuple #[]) ∧ ∃ u', Alike (u ++ v) u' ∧ Rise u' ∧ RowC w0 base gb cap (p ++ (u' ++ q)) w'
set_option maxHeartbeats 4000000 in
set_option maxRecDepth 100000 in
theorem symMerge_left (w0 : World) (base gb cap off n cv a m b : Nat) (p : List Int) (x : Int) (v q : List Int) (w : World) (h : RowC w0 base gb cap (p ++ (x :: (v ++ q))) w) (hu : AllM (x :: v)) (hs : Rise v) (hp : p.length = off + a) (hul : a + 1 = m) (hvl : m + v.length = b) (hb : b ≤ n) (hn : n < 17592186044416) :
    Calls Tryz.prog 122 #[.slice (some ⟨gb, off, none⟩) n cv, .int .i64 a, .int .i64 m, .int .i64 b, .func (.func 64) #[] #[]] w (MergePost w0 base gb cap p [x] v q) := by
  have H := Lib.hid h; clear h
  have HU := Lib.hid hu; clear hu
  have HS := Lib.hid hs; clear hs
  have ru : IntKind.i64.wrap ((m : Int) - (a : Int)) = 1 := by rw [IntKind.wrap_i64]; omega
  go_enter Tryz.func122, Tryz.ntmps122
  go_wp2_with fail
  go_loopw [10, 11] (fun vi vj wr => ∃ i j : Nat, vi = .int .i64 i ∧ vj = .int .i64 j ∧ m ≤ i ∧ i ≤ j ∧ j ≤ b ∧ Hid (∀ z ∈ v.take (i - m), ccc z < ccc x) ∧ Hid (∀ z ∈ v.drop (j - m), ccc x ≤ ccc z) ∧ Hid (RowC w0 base gb cap (p ++ (x :: (v ++ q))) wr)) (fun vi vj _ => (intOf vj).toNat - (intOf vi).toNat)
  case atStart => exact ⟨m, b, rfl, rfl, Nat.le_refl _, by omega, Nat.le_refl _, (show ∀ z ∈ v.take (m - m), _ from by simp), (show ∀ z ∈ v.drop (b - m), _ from by rw [List.drop_of_length_le (by omega)]; simp), H⟩
  case round =>
    clear H
    obtain ⟨i, j, rfl, rfl, hmi, hij, hj, H1, H2, HR⟩ := hrel
    by_cases hlt : i < j
    · obtain ⟨k, hk⟩ : ∃ k, k = (i + j) / 2 := ⟨_, rfl⟩
      have hk1 : i ≤ k := by omega
      have hk2 : k < j := by omega
      have rh : ((i : Int) + (j : Int)) / 2 = (k : Int) := by omega
      have hltz : (i : Int) < (j : Int) := by omega
      have hkn : (k : Int) < (n : Int) := by omega
      have han : (a : Int) < (n : Int) := by omega
      have hkm : k - m < v.length := by omega
      obtain ⟨y, hy⟩ : ∃ y, y = v.getD (k - m) 0 := ⟨_, rfl⟩
      have c1 : wr.cell? ⟨gb, off + k, none⟩ = some (.int .i64 y) := by
        rw [HR.out.cell (off + k) (by simp; omega), hy]
        congr 2
        rw [List.getD_eq_getElem?_getD, List.getD_eq_getElem?_getD, List.getElem?_append_right (by omega), show off + k - p.length = (k - m) + 1 by omega, List.getElem?_cons_succ, List.getElem?_append_left hkm]
      have c2 : wr.cell? ⟨gb, off + a, none⟩ = some (.int .i64 x) := by
        rw [HR.out.cell (off + a) (by simp; omega), getD_at p x _ _ hp]
      have hgb : gb < wr.heap.size := HR.out.lt
      have HY1 : Hid (ccc y < ccc x → ∀ z ∈ v.take (k + 1 - m), ccc z < ccc x) := by
        intro h z hz
        rw [show k + 1 - m = (k - m) + 1 by omega] at hz
        have := rise_take HS.out (k - m) hkm z hz
        rw [← hy] at this; omega
      have HY2 : Hid (ccc x ≤ ccc y → ∀ z ∈ v.drop (k - m), ccc x ≤ ccc z) := by
        intro h z hz
        have := rise_drop HS.out (k - m) hkm z hz
        rw [← hy] at this; omega
      clear hy hk
      go_wp2_with fail
      go_region_held3 (fun w' => w'.cell? ⟨gb, off + k, none⟩ = some (.int .i64 y) ∧ w'.cell? ⟨gb, off + a, none⟩ = some (.int .i64 x))
        (first | (exact ⟨c1, c2⟩) | (exact ⟨(hb'.cell (p := ⟨gb, off + k, none⟩) hgb).trans c1, (hb'.cell (p := ⟨gb, off + a, none⟩) hgb).trans c2⟩))
        (first | (go_at_call 64; refine (before_any _ _ _).mono ?_; rintro e w' ⟨rfl, hb'⟩))
      have HR2 : Hid (RowC w0 base gb cap (p ++ (x :: (v ++ q))) w') := HR.out.below ((pw_below_drewN (Below.refl _ _) 1).trans hb')
      clear c1 c2 hgb hb' HR
      cases hd : decide (cmpI (ccc y) (ccc x) < 0) with
      | true =>
        have HN := Lib.hid (HY1.out (cmpI_lt.1 (of_decide_eq_true hd)))
        clear HY1 HY2 hd
        go_wp2
        go_roundw
        case measure => simp [intOf]; omega
        case rel => exact ⟨k + 1, j, by go_num, rfl, by omega, by omega, hj, HN, H2, HR2⟩
      | false =>
        have HN := Lib.hid (HY2.out (Int.not_lt.1 fun h => of_decide_eq_false hd (cmpI_lt.2 h)))
        clear HY1 HY2 hd
        go_wp2
        go_roundw
        case measure => simp [intOf]; omega
        case rel => exact ⟨i, k, rfl, rfl, hmi, by omega, by omega, H1, HN, HR2⟩
    · obtain rfl : i = j := by omega
      obtain ⟨i', hi'⟩ : ∃ i', i = m + i' := ⟨i - m, by omega⟩
      have HP : Hid (Alike (x :: v) (v.take i' ++ x :: v.drop i') ∧ Rise (v.take i' ++ x :: v.drop i')) := put_left HU.out HS.out (by have := H1.out; rwa [hi', Nat.add_sub_cancel_left] at this) (by have := H2.out; rwa [hi', Nat.add_sub_cancel_left] at this)
      clear H1 H2
      have ri : IntKind.i64.wrap ((i : Int) - 1) = (i : Int) - 1 := by rw [IntKind.wrap_i64]; omega
      go_wp2_with fail
      go_loopw [13] (fun vk wr => ∃ k t : Nat, vk = .int .i64 k ∧ k = a + t ∧ t ≤ i' ∧ Hid (RowC w0 base gb cap (p ++ (v.take t ++ x :: (v.drop t ++ q))) wr)) (fun vk _ => b - (intOf vk).toNat)
      case atStart => exact ⟨a, 0, rfl, rfl, Nat.zero_le _, by simpa using HR⟩
      case round =>
        clear HR
        obtain ⟨k, t, rfl, hk, ht, HR⟩ := hrel
        by_cases hlt2 : t < i'
        · have hz : (k : Int) < (i : Int) - 1 := by omega
          obtain ⟨y, v2, hy⟩ : ∃ y v2, v.drop t = y :: v2 := ⟨v[t], v.drop (t + 1), List.drop_eq_getElem_cons (by omega)⟩
          have hsw : wr.cell? ⟨gb, off + k, none⟩ = some (.int .i64 x) ∧ wr.cell? ⟨gb, off + (k + 1), none⟩ = some (.int .i64 y) ∧ (∃ uu, (wr.setCell ⟨gb, off + k, none⟩ (.int .i64 y)).cell? ⟨gb, off + (k + 1), none⟩ = some uu) ∧
              wr.frozen? ⟨gb, off + k, none⟩ = false ∧ wr.frozen? ⟨gb, off + (k + 1), none⟩ = false ∧ RowC w0 base gb cap (p ++ (v.take (t + 1) ++ x :: (v.drop (t + 1) ++ q))) ((wr.setCell ⟨gb, off + k, none⟩ (.int .i64 y)).setCell ⟨gb, off + (k + 1), none⟩ (.int .i64 x)).drew := by
            have hz := HR.out
            rw [hy] at hz
            have e1 : p ++ (v.take t ++ x :: ((y :: v2) ++ q)) = (p ++ v.take t) ++ x :: ([] ++ y :: (v2 ++ q)) := by simp
            rw [e1] at hz
            have hlen : (p ++ v.take t).length = off + k := by simp; omega
            have g := hz.swapping (off + k) (off + (k + 1)) (by simp at hlen ⊢; omega) (by simp at hlen ⊢; omega)
            have v1 := getD_at (p ++ v.take t) x ([] ++ y :: (v2 ++ q)) (off + k) hlen
            have vv2 : ((p ++ v.take t) ++ x :: ([] ++ y :: (v2 ++ q))).getD (off + (k + 1)) 0 = y := by
              have := getD_at ((p ++ v.take t) ++ [x]) y (v2 ++ q) (off + (k + 1)) (by simp at hlen ⊢; omega)
              simpa using this
            have z1 : v.take (t + 1) = v.take t ++ [y] := by rw [List.take_add, hy]; rfl
            have z3 : v.drop (t + 1) = v2 := by rw [← List.drop_drop, hy]; rfl
            have v3 : sw ((p ++ v.take t) ++ x :: ([] ++ y :: (v2 ++ q))) (off + k) (off + (k + 1)) = p ++ (v.take (t + 1) ++ x :: (v.drop (t + 1) ++ q)) := by
              have := sw_split (p ++ v.take t) [] (v2 ++ q) x y
              rw [hlen] at this
              rw [show off + (k + 1) = off + k + 1 + ([] : List Int).length from rfl, this, z1, z3]; simp
            rw [v1, vv2, v3] at g
            exact g
          obtain ⟨g1, g2, ⟨uu, g3⟩, g4, g5, g6⟩ := hsw
          have G := Lib.hid g6
          clear g6 hy HR
          have ea : ((k : Int) + 1).toNat = k + 1 := by omega
          have pa : (0 : Int) ≤ (k : Int) + 1 := by omega
          have ba : (k : Int) + 1 < (n : Int) := by omega
          have bb : (k : Int) < (n : Int) := by omega
          have ra : IntKind.i64.wrap ((k : Int) + 1) = (k : Int) + 1 := by rw [IntKind.wrap_i64]; omega
          have HK := Lib.hid hk; clear hk
          go_wp2_with fail
          go_big_region
          clear g1 g2 g3 g4 g5
          generalize ((wr.setCell ⟨gb, off + k, none⟩ (Value.int IntKind.i64 y)).setCell ⟨gb, off + (k + 1), none⟩ (Value.int IntKind.i64 x)).drew = w3 at G ⊢
          go_wp2
          go_roundw
          case measure => simp [intOf]; omega
          case rel => exact ⟨k + 1, t + 1, by go_num, by rw [HK.out]; omega, by omega, G⟩
        · obtain rfl : t = i' := by omega
          have hz : ¬ (k : Int) < (i : Int) - 1 := by omega
          go_wp2
          go_end0
          exact ⟨rfl, v.take t ++ x :: v.drop t, HP.out.1, HP.out.2, by simpa using HR.out⟩

set_option maxHeartbeats 4000000 in
set_option maxRecDepth 100000 in
theorem symMerge_right (w0 : World) (base gb cap off n cv a m b : Nat) (p u : List Int) (y : Int) (q : List Int) (w : World) (h : RowC w0 base gb cap (p ++ (u ++ (y :: q))) w) (hu : AllM (u ++ [y])) (hs : Rise u) (hp : p.length = off + a) (hul : a + u.length = m) (hu1 : u.length ≠ 1) (hvl : m + 1 = b) (hb : b ≤ n) (hn : n < 17592186044416) :
    Calls Tryz.prog 122 #[.slice (some ⟨gb, off, none⟩) n cv, .int .i64 a, .int .i64 m, .int .i64 b, .func (.func 64) #[] #[]] w (MergePost w0 base gb cap p u [y] q) := by
  have H := Lib.hid h; clear h
  have HU := Lib.hid hu; clear hu
  have HS := Lib.hid hs; clear hs
  have ru : IntKind.i64.wrap ((m : Int) - (a : Int)) = (u.length : Int) := by rw [IntKind.wrap_i64]; omega
  have rv : IntKind.i64.wrap ((b : Int) - (m : Int)) = 1 := by rw [IntKind.wrap_i64]; omega
  have hu2 : ((u.length : Int) == 1) = false := by simpa using (by omega : ¬ (u.length : Int) = 1)
  go_enter Tryz.func122, Tryz.ntmps122
  go_wp2_with fail
  go_loopw [14, 15] (fun vi vj wr => ∃ i j : Nat, vi = .int .i64 i ∧ vj = .int .i64 j ∧ a ≤ i ∧ i ≤ j ∧ j ≤ m ∧ Hid (∀ z ∈ u.take (i - a), ccc z ≤ ccc y) ∧ Hid (∀ z ∈ u.drop (j - a), ccc y < ccc z) ∧ Hid (RowC w0 base gb cap (p ++ (u ++ (y :: q))) wr)) (fun vi vj _ => (intOf vj).toNat - (intOf vi).toNat)
  case atStart => exact ⟨a, m, rfl, rfl, Nat.le_refl _, by omega, Nat.le_refl _, (show ∀ z ∈ u.take (a - a), _ from by simp), (show ∀ z ∈ u.drop (m - a), _ from by rw [List.drop_of_length_le (by omega)]; simp), H⟩
  case round =>
    clear H
    obtain ⟨i, j, rfl, rfl, hmi, hij, hj, H1, H2, HR⟩ := hrel
    by_cases hlt : i < j
    · obtain ⟨k, hk⟩ : ∃ k, k = (i + j) / 2 := ⟨_, rfl⟩
      have hk1 : i ≤ k := by omega
      have hk2 : k < j := by omega
      have rh : ((i : Int) + (j : Int)) / 2 = (k : Int) := by omega
      have hltz : (i : Int) < (j : Int) := by omega
      have hkn : (k : Int) < (n : Int) := by omega
      have hmn : (m : Int) < (n : Int) := by omega
      have hkm : k - a < u.length := by omega
      obtain ⟨x, hx⟩ : ∃ x, x = u.getD (k - a) 0 := ⟨_, rfl⟩
      have c1 : wr.cell? ⟨gb, off + k, none⟩ = some (.int .i64 x) := by
        rw [HR.out.cell (off + k) (by simp; omega), hx]
        congr 2
        rw [List.getD_eq_getElem?_getD, List.getD_eq_getElem?_getD, List.getElem?_append_right (by omega), show off + k - p.length = k - a by omega, List.getElem?_append_left hkm]
      have c2 : wr.cell? ⟨gb, off + m, none⟩ = some (.int .i64 y) := by
        rw [HR.out.cell (off + m) (by simp; omega)]
        have := getD_at (p ++ u) y q (off + m) (by simp; omega)
        rw [List.append_assoc] at this
        rw [this]
      have hgb : gb < wr.heap.size := HR.out.lt
      have HY1 : Hid (ccc x ≤ ccc y → ∀ z ∈ u.take (k + 1 - a), ccc z ≤ ccc y) := by
        intro h z hz
        rw [show k + 1 - a = (k - a) + 1 by omega] at hz
        have := rise_take HS.out (k - a) hkm z hz
        rw [← hx] at this; omega
      have HY2 : Hid (ccc y < ccc x → ∀ z ∈ u.drop (k - a), ccc y < ccc z) := by
        intro h z hz
        have := rise_drop HS.out (k - a) hkm z hz
        rw [← hx] at this; omega
      clear hx hk
      go_wp2_with fail
      go_region_held3 (fun w' => w'.cell? ⟨gb, off + k, none⟩ = some (.int .i64 x) ∧ w'.cell? ⟨gb, off + m, none⟩ = some (.int .i64 y))
        (first | (exact ⟨c1, c2⟩) | (exact ⟨(hb'.cell (p := ⟨gb, off + k, none⟩) hgb).trans c1, (hb'.cell (p := ⟨gb, off + m, none⟩) hgb).trans c2⟩))
        (first | (go_at_call 64; refine (before_any _ _ _).mono ?_; rintro e w' ⟨rfl, hb'⟩))
      have HR2 : Hid (RowC w0 base gb cap (p ++ (u ++ (y :: q))) w') := HR.out.below ((pw_below_drewN (Below.refl _ _) 1).trans hb')
      clear c1 c2 hgb hb' HR
      cases hd : decide (cmpI (ccc y) (ccc x) < 0) with
      | true =>
        have HN := Lib.hid (HY2.out (cmpI_lt.1 (of_decide_eq_true hd)))
        clear HY1 HY2 hd
        go_wp2
        go_roundw
        case measure => simp [intOf]; omega
        case rel => exact ⟨i, k, rfl, rfl, hmi, by omega, by omega, H1, HN, HR2⟩
      | false =>
        have HN := Lib.hid (HY1.out (Int.not_lt.1 fun h => of_decide_eq_false hd (cmpI_lt.2 h)))
        clear HY1 HY2 hd
        go_wp2
        go_roundw
        case measure => simp [intOf]; omega
        case rel => exact ⟨k + 1, j, by go_num, rfl, by omega, by omega, hj, HN, H2, HR2⟩
    · obtain rfl : i = j := by omega
      obtain ⟨i', hi'⟩ : ∃ i', i = a + i' := ⟨i - a, by omega⟩
      have HP : Hid (Alike (u ++ [y]) (u.take i' ++ y :: u.drop i') ∧ Rise (u.take i' ++ y :: u.drop i')) := put_right HU.out HS.out (by have := H1.out; rwa [hi', Nat.add_sub_cancel_left] at this) (by have := H2.out; rwa [hi', Nat.add_sub_cancel_left] at this)
      clear H1 H2
      go_wp2_with fail
      go_loopw [17] (fun vk wr => ∃ k t : Nat, vk = .int .i64 k ∧ k = a + t ∧ i' ≤ t ∧ t ≤ u.length ∧ Hid (RowC w0 base gb cap (p ++ (u.take t ++ y :: (u.drop t ++ q))) wr)) (fun vk _ => (intOf vk).toNat)
      case atStart => exact ⟨m, u.length, rfl, by omega, by omega, Nat.le_refl _, by simpa using HR⟩
      case round =>
        clear HR
        obtain ⟨k, t, rfl, hk, ht, ht2, HR⟩ := hrel
        by_cases hlt2 : i' < t
        · obtain ⟨k, rfl⟩ : ∃ k', k = k' + 1 := ⟨k - 1, by omega⟩
          obtain ⟨t, rfl⟩ : ∃ t', t = t' + 1 := ⟨t - 1, by omega⟩
          have hz : (i : Int) < (k : Int) + 1 := by omega
          obtain ⟨x, u2, hx⟩ : ∃ x u2, u.drop t = x :: u2 := ⟨u[t], u.drop (t + 1), List.drop_eq_getElem_cons (by omega)⟩
          have hsw : wr.cell? ⟨gb, off + (k + 1), none⟩ = some (.int .i64 y) ∧ wr.cell? ⟨gb, off + k, none⟩ = some (.int .i64 x) ∧ (∃ uu, (wr.setCell ⟨gb, off + (k + 1), none⟩ (.int .i64 x)).cell? ⟨gb, off + k, none⟩ = some uu) ∧
              wr.frozen? ⟨gb, off + (k + 1), none⟩ = false ∧ wr.frozen? ⟨gb, off + k, none⟩ = false ∧ RowC w0 base gb cap (p ++ (u.take t ++ y :: (u.drop t ++ q))) ((wr.setCell ⟨gb, off + (k + 1), none⟩ (.int .i64 x)).setCell ⟨gb, off + k, none⟩ (.int .i64 y)).drew := by
            have hz := HR.out
            have z1 : u.take (t + 1) = u.take t ++ [x] := by rw [List.take_add, hx]; rfl
            have z3 : u.drop (t + 1) = u2 := by rw [← List.drop_drop, hx]; rfl
            rw [z1, z3] at hz
            have e1 : p ++ ((u.take t ++ [x]) ++ y :: (u2 ++ q)) = (p ++ u.take t) ++ x :: ([] ++ y :: (u2 ++ q)) := by simp
            rw [e1] at hz
            have hlen : (p ++ u.take t).length = off + k := by simp; omega
            have g := hz.swapping (off + (k + 1)) (off + k) (by simp at hlen ⊢; omega) (by simp at hlen ⊢; omega)
            have v1 := getD_at (p ++ u.take t) x ([] ++ y :: (u2 ++ q)) (off + k) hlen
            have vv2 : ((p ++ u.take t) ++ x :: ([] ++ y :: (u2 ++ q))).getD (off + (k + 1)) 0 = y := by
              have := getD_at ((p ++ u.take t) ++ [x]) y (u2 ++ q) (off + (k + 1)) (by simp at hlen ⊢; omega)
              simpa using this
            have v3 : sw ((p ++ u.take t) ++ x :: ([] ++ y :: (u2 ++ q))) (off + (k + 1)) (off + k) = p ++ (u.take t ++ y :: (u.drop t ++ q)) := by
              have := sw_split' (p ++ u.take t) [] (u2 ++ q) x y
              rw [hlen] at this
              rw [show off + (k + 1) = off + k + 1 + ([] : List Int).length from rfl, this, hx]; simp
            rw [v1, vv2, v3] at g
            exact g
          obtain ⟨g1, g2, ⟨uu, g3⟩, g4, g5, g6⟩ := hsw
          have G := Lib.hid g6
          clear g6 hx HR
          have ea : ((k : Int) + 1).toNat = k + 1 := by omega
          have pa : (0 : Int) ≤ (k : Int) + 1 := by omega
          have ba : (k : Int) + 1 < (n : Int) := by omega
          have bb : (k : Int) < (n : Int) := by omega
          have ra : IntKind.i64.wrap ((k : Int) + 1) = (k : Int) + 1 := by rw [IntKind.wrap_i64]; omega
          have rb : IntKind.i64.wrap (k : Int) = (k : Int) := by rw [IntKind.wrap_i64]; omega
          have HK := Lib.hid hk; clear hk
          go_wp2_with fail
          go_big_region
          clear g1 g2 g3 g4 g5
          generalize ((wr.setCell ⟨gb, off + (k + 1), none⟩ (Value.int IntKind.i64 x)).setCell ⟨gb, off + k, none⟩ (Value.int IntKind.i64 y)).drew = w3 at G ⊢
          go_wp2
          go_roundw
          case measure => simp [intOf]
          case rel => exact ⟨k, t, by first | rfl | go_num, by have := HK.out; omega, by omega, by omega, G⟩
        · obtain rfl : t = i' := by omega
          have hz : ¬ (i : Int) < (k : Int) := by omega
          go_wp2
          go_end0
          exact ⟨rfl, u.take t ++ y :: u.drop t, HP.out.1, HP.out.2, by simpa using HR.out⟩
end Go.Proofs.Pt
end

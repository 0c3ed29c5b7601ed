/- The walk of a stable sort's small parts: values put in by exchanges. -/
import Derived.Test.YtgaokehmfebclaaW11
namespace Go.Proofs.Pt
open Go Go.RowKit Go.Proofs.YtgaokehmfebclaaW.PrintWords

def BEF : Value := .func (.func 19) #[] #[]
def InsPost (w0 : World) (base gb cap : Nat) (p u q : List Int) (e : Ending) (w' : World) : Prop := e = .returned (.tuple #[]) ∧ ∃ u', Alike u u' ∧ Rise u' ∧ RowC w0 base gb cap (p ++ (u' ++ q)) w'
theorem getD_at (A : List Int) (x : Int) (B : List Int) (k : Nat) (h : A.length = k) : (A ++ x :: B).getD k 0 = x := by subst h; simp [List.getD_eq_getElem?_getD]
set_option maxHeartbeats 2000000 in
set_option maxRecDepth 100000 in
theorem insertion_any (w0 : World) (base gb cap off n cv a b : Nat) (p u q : List Int) (w : World) (h : RowC w0 base gb cap (p ++ (u ++ q)) w) (hu : AllM u) (hp : p.length = off + a) (hul : a + u.length = b) (hb : b ≤ n) (hn : n < 17592186044416) :
    Calls Try.prog 37 #[.slice (some ⟨gb, off, none⟩) n cv, .int .i64 a, .int .i64 b, .func (.func 19) #[] #[]] w (InsPost w0 base gb cap p u q) := by
  have H := Lib.hid h; clear h
  have HU := Lib.hid hu; clear hu
  have hsp : ∃ s t, Alike u (s ++ t) ∧ Rise s ∧ (u = [] ∧ s = [] ∧ t = [] ∨ s.length = 1) ∧ p ++ (u ++ q) = p ++ (s ++ (t ++ q)) := by
    cases u with
    | nil => exact ⟨[], [], .refl _, rise_nil, .inl ⟨rfl, rfl, rfl⟩, rfl⟩
    | cons x u => exact ⟨[x], u, .refl _, rise_one x, .inr rfl, rfl⟩
  go_enter Try.func37, Try.ntmps37
  go_wp2_with fail
  go_loopw [8] (fun vi wr => ∃ (i : Nat) (s t : List Int), vi = .int .i64 i ∧ a < i ∧ (u = [] ∧ s = [] ∧ t = [] ∨ a + s.length = i) ∧ i ≤ b + 1 ∧ Hid (Alike u (s ++ t) ∧ Rise s ∧ RowC w0 base gb cap (p ++ (s ++ (t ++ q))) wr)) (fun vi _ => b + 1 - (intOf vi).toNat)
  case atStart =>
    obtain ⟨s, t, h1, h2, h3, h4⟩ := hsp
    exact ⟨a + 1, s, t, by go_num, by omega, h3.imp id (fun h => by omega), by omega, h1, h2, by rw [← h4]; exact H.out⟩
  case round =>
    clear H hsp
    obtain ⟨i, s, t, rfl, hai, hcase, hib, HR⟩ := hrel
    by_cases hlt : i < b
    · have hltz : (i : Int) < (b : Int) := by omega
      have hsl : a + s.length = i := by
        rcases hcase with ⟨h1, _, _⟩ | h1
        · rw [h1] at hul; simp at hul; omega
        · exact h1
      have htl : (s ++ t).length = u.length := HR.out.1.perm.length_eq.symm
      obtain ⟨x, t', rfl⟩ : ∃ x t', t = x :: t' := by
        cases t with
        | nil => simp at htl; omega
        | cons x t' => exact ⟨x, t', rfl⟩
      clear hcase
      go_wp2_with fail
      go_loopw [9] (fun vj wq => ∃ (j : Nat) (s1 s2 : List Int), vj = .int .i64 j ∧ a + s1.length = j ∧ s1.length + s2.length = s.length ∧ Hid (Insd u s1 x s2 t' ∧ RowC w0 base gb cap (p ++ (s1 ++ x :: (s2 ++ (t' ++ q)))) wq)) (fun vj _ => (intOf vj).toNat)
      case atStart => exact ⟨i, s, [], rfl, hsl, by simp, Insd.start HR.out.1 HR.out.2.1, by simpa using HR.out.2.2⟩
      case round =>
        clear HR
        obtain ⟨j, s1, s2, rfl, hj, hss, HI⟩ := hrel
        rcases List.eq_nil_or_concat s1 with rfl | ⟨s0, y, rfl⟩
        · simp at hj
          subst hj
          have hf : decide ((a : Int) > (a : Int)) = false := by simp
          have hst := HI.out.1.stop (by simp)
          have hr := HI.out.2
          have HN : Hid (Alike u ((x :: s2) ++ t') ∧ Rise (x :: s2) ∧ RowC w0 base gb cap (p ++ ((x :: s2) ++ (t' ++ q))) wr) := ⟨hst.1, hst.2, by simpa using hr⟩
          clear HI hst hr
          go_wp2_with fail
          go_quiet (fail)
          go_wp2
          go_roundw
          case measure => simp [intOf]; omega
          case rel => exact ⟨i + 1, x :: s2, t', by go_num, by omega, .inr (by simp at hss ⊢; omega), by omega, HN.out.1, HN.out.2.1, HN.out.2.2.below (pw_below_drewN (Below.refl _ _) _)⟩
        · rw [List.concat_eq_append] at hj hss HI
          have hjl : a + s0.length + 1 = j := by simp at hj; omega
          obtain ⟨k, rfl⟩ : ∃ k, j = k + 1 := ⟨j - 1, by omega⟩
          have hja : decide ((k : Int) + 1 > (a : Int)) = true := decide_eq_true (by omega)
          have hlen : (p ++ s0).length = off + k := by simp; omega
          have hsw : ∀ wz, RowC w0 base gb cap (p ++ ((s0 ++ [y]) ++ x :: (s2 ++ (t' ++ q)))) wz → wz.cell? ⟨gb, off + (k + 1), none⟩ = some (.int .i64 x) ∧ wz.cell? ⟨gb, off + k, none⟩ = some (.int .i64 y) ∧ (∃ uu, (wz.setCell ⟨gb, off + (k + 1), none⟩ (.int .i64 y)).cell? ⟨gb, off + k, none⟩ = some uu) ∧
              wz.frozen? ⟨gb, off + (k + 1), none⟩ = false ∧ wz.frozen? ⟨gb, off + k, none⟩ = false ∧ RowC w0 base gb cap (p ++ (s0 ++ x :: ((y :: s2) ++ (t' ++ q)))) ((wz.setCell ⟨gb, off + (k + 1), none⟩ (.int .i64 y)).setCell ⟨gb, off + k, none⟩ (.int .i64 x)).drew := by
            intro wz hz
            have e1 : p ++ ((s0 ++ [y]) ++ x :: (s2 ++ (t' ++ q))) = (p ++ s0) ++ y :: ([] ++ x :: (s2 ++ (t' ++ q))) := by simp
            rw [e1] at hz
            have g := hz.swapping (off + (k + 1)) (off + k) (by simp at hlen ⊢; omega) (by simp at hlen ⊢; omega)
            have v1 := getD_at (p ++ s0) y ([] ++ x :: (s2 ++ (t' ++ q))) (off + k) hlen
            have v2 : ((p ++ s0) ++ y :: ([] ++ x :: (s2 ++ (t' ++ q)))).getD (off + (k + 1)) 0 = x := by
              have := getD_at ((p ++ s0) ++ [y]) x (s2 ++ (t' ++ q)) (off + (k + 1)) (by simp at hlen ⊢; omega)
              simpa using this
            have v3 : sw ((p ++ s0) ++ y :: ([] ++ x :: (s2 ++ (t' ++ q)))) (off + (k + 1)) (off + k) = p ++ (s0 ++ x :: ((y :: s2) ++ (t' ++ q))) := by
              have := sw_split' (p ++ s0) [] (s2 ++ (t' ++ q)) y x
              rw [hlen] at this
              rw [show off + (k + 1) = off + k + 1 + ([] : List Int).length from rfl, this]; simp
            rw [v1, v2, v3] at g
            exact g
          have HSW := Lib.hid hsw; clear hsw hlen
          obtain ⟨g1, g2, _, _, _, _⟩ := HSW.out wr HI.out.2
          have hgb : gb < wr.heap.size := HI.out.2.lt
          have ea : ((k : Int) + 1).toNat = k + 1 := by omega
          have pa : (0 : Int) ≤ (k : Int) + 1 := by omega
          have ba : (k : Int) + 1 < (n : Int) := by omega
          have bb : (k : Int) < (n : Int) := by omega
          have ra : IntKind.i64.wrap ((k : Int) + 1) = (k : Int) + 1 := by rw [IntKind.wrap_i64]; omega
          have rb : IntKind.i64.wrap ((k : Int)) = (k : Int) := by rw [IntKind.wrap_i64]; omega
          go_wp2_with fail
          go_region_held3 (fun w' => w'.cell? ⟨gb, off + (k + 1), none⟩ = some (.int .i64 x) ∧ w'.cell? ⟨gb, off + k, none⟩ = some (.int .i64 y))
            (first | (exact ⟨g1, g2⟩) | (exact ⟨(hb'.cell (p := ⟨gb, off + (k + 1), none⟩) hgb).trans g1, (hb'.cell (p := ⟨gb, off + k, none⟩) hgb).trans g2⟩))
            (first | (go_at_call 19; refine (before_any _ _ _).mono ?_; rintro e w' ⟨rfl, hb'⟩))
          have H2 : Hid (RowC w0 base gb cap (p ++ ((s0 ++ [y]) ++ x :: (s2 ++ (t' ++ q)))) w') := HI.out.2.below ((pw_below_drewN (Below.refl _ _) 1).trans hb')
          have HI1 := Lib.hid HI.out.1
          clear g1 g2 hgb HI hb'
          cases hd : decide (cmpI (ccc x) (ccc y) < 0) with
          | true =>
            have hlt2 := cmpI_lt.1 (of_decide_eq_true hd)
            clear hd
            have HN : Hid (Insd u s0 x (y :: s2) t') := HI1.out.step HU.out hlt2
            obtain ⟨g1, g2, ⟨uu, g3⟩, g4, g5, g6⟩ := HSW.out w' H2.out
            have G := Lib.hid g6
            clear g6 HSW H2 HI1 hlt2
            go_wp2_with fail
            go_big_region
            clear g1 g2 g3 g4 g5
            generalize ((w'.setCell ⟨gb, off + (k + 1), none⟩ (Value.int IntKind.i64 y)).setCell ⟨gb, off + k, none⟩ (Value.int IntKind.i64 x)).drew = w3 at G ⊢
            go_wp2
            go_roundw
            case measure => simp [intOf]
            case rel => exact ⟨k, s0, y :: s2, by first | rfl | go_num, by omega, by simp at hss ⊢; omega, HN.out, G.out⟩
          | false =>
            have hlt2 : ¬ ccc x < ccc y := fun h => of_decide_eq_false hd (cmpI_lt.2 h)
            clear hd
            have hst := HI1.out.stop (by intro z hz; simp at hz; subst hz; omega)
            have hr := H2.out
            have HN : Hid (Alike u (((s0 ++ [y]) ++ x :: s2) ++ t') ∧ Rise ((s0 ++ [y]) ++ x :: s2) ∧ RowC w0 base gb cap (p ++ (((s0 ++ [y]) ++ x :: s2) ++ (t' ++ q))) w') := ⟨hst.1, hst.2, by simpa using hr⟩
            clear hst hr HSW H2 HI1 hlt2
            go_wp2
            go_roundw
            case measure => simp [intOf]; omega
            case rel => exact ⟨i + 1, (s0 ++ [y]) ++ x :: s2, t', by go_num, by omega, .inr (by simp at hss ⊢; omega), by omega, HN.out⟩
    · have htl : (s ++ t).length = u.length := HR.out.1.perm.length_eq.symm
      have ht : t = [] := by
        rcases hcase with ⟨_, _, h⟩ | h
        · exact h
        · rw [List.length_append] at htl; exact List.length_eq_zero_iff.1 (by omega)
      subst ht
      have HN : Hid (Alike u s ∧ Rise s ∧ RowC w0 base gb cap (p ++ (s ++ q)) wr) := ⟨by simpa using HR.out.1, HR.out.2.1, by simpa using HR.out.2.2⟩
      clear HR
      go_wp2
      go_end0
      exact ⟨rfl, s, HN.out.1, HN.out.2.1, HN.out.2.2⟩
end Go.Proofs.Pt

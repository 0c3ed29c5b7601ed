/- Contracts of the walked functions in one form: what a function tells as a plain function of what it is given. -/
import Derived.Test.YtgaokehmfebclaaW10
import Derived.Test.YtgaokehmfebclaaW18
namespace Go.Proofs.Pt
open Go Go.RowKit Go.Proofs.YtgaokehmfebclaaW.PrintWords

def prop_Ccc.f (a0 : Int) : Option Int := some (ccc a0)
theorem prop_Ccc.calls (a0 : Int) (r : Int) (w : World) (h : prop_Ccc.f a0 = some r) : Calls Try.prog 11 #[.int .i64 a0] w fun e w' => e = .returned (.int .i64 r) ∧ Below w.heap.size w w' := by
  cases h; exact ccc_any a0 w
def prop_Mark.f (a0 : Int) : Option Bool := some (decide (0 < ccc a0))
theorem prop_Mark.calls (a0 : Int) (r : Bool) (w : World) (h : prop_Mark.f a0 = some r) : Calls Try.prog 10 #[.int .i64 a0] w fun e w' => e = .returned (.bool r) ∧ Below w.heap.size w w' := by
  cases h; exact mark_any a0 w
def pair_Join.f (a0 a1 : Int) : Option (Int × Bool) := some ((join a0 a1).getD 0, (join a0 a1).isSome)
theorem pair_Join.calls (a0 a1 : Int) (r1 : Int) (r2 : Bool) (w : World) (h : pair_Join.f a0 a1 = some (r1, r2)) : Calls Try.prog 15 #[.int .i64 a0, .int .i64 a1] w fun e w' => e = .returned (.tuple #[.int .i64 r1, .bool r2]) ∧ Below w.heap.size w w' := by
  cases h
  refine (join_any a0 a1 w).mono ?_
  rintro e w' ⟨r, ok, rfl, rfl, rfl, hb⟩
  exact ⟨rfl, hb⟩
end Go.Proofs.Pt

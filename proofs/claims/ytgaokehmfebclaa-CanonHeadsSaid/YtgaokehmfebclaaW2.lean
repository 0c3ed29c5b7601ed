/- The tables of ranges and of pairs, as the program lays them in memory: each by one run in the kernel. -/
import Derived.Test.YtgaokehmfebclaaWB
import Derived.Test.YtgaokehmfebclaaW1
namespace Go.Proofs.Pt
open Go Go.RowKit

def cells3 (T : List (Int × Int × Int)) : Array Value := (T.flatMap fun x => [Value.int .i64 x.1, Value.int .i64 x.2.1, Value.int .i64 x.2.2]).toArray
theorem classes_run (w : World) : Calls Try.prog 23 #[] w fun e w' => e = .returned (.slice (some ⟨w.heap.size, 0, none⟩) clsT.length clsT.length) ∧ w' = w.alloc (.cells (cells3 clsT) 43) :=
  calls_told 0 (w' := w.alloc (.cells (cells3 clsT) 43)) Try.func23 (fun _ _ => by simp [results, Try.results23, go_sem]) (by kernel_rfl) ⟨rfl, rfl⟩
end Go.Proofs.Pt

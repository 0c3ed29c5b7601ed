/- The two halves of the table of pairs, as the program lays them in memory: each by one run in the kernel. -/
import Derived.Test.YtgaokehmfebclaaW2
namespace Go.Proofs.Pt
open Go Go.RowKit

theorem low_run (w : World) : Calls Try.prog 32 #[] w fun e w' => e = .returned (.slice (some ⟨w.heap.size, 0, none⟩) lowT.length lowT.length) ∧ w' = w.alloc (.cells (cells3 lowT) 63) :=
  calls_told 0 (w' := w.alloc (.cells (cells3 lowT) 63)) Try.func32 (fun _ _ => by simp [results, Try.results32, go_sem]) (by kernel_rfl) ⟨rfl, rfl⟩
theorem high_run (w : World) : Calls Try.prog 34 #[] w fun e w' => e = .returned (.slice (some ⟨w.heap.size, 0, none⟩) highT.length highT.length) ∧ w' = w.alloc (.cells (cells3 highT) 63) :=
  calls_told 0 (w' := w.alloc (.cells (cells3 highT) 63)) Try.func34 (fun _ _ => by simp [results, Try.results34, go_sem]) (by kernel_rfl) ⟨rfl, rfl⟩
end Go.Proofs.Pt

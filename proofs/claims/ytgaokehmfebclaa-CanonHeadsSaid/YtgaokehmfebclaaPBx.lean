-- PRINTED by print.py (a twelfth state) out of the translation. Not trusted: Lean checks it.
import Derived.Test.YtgaokehmfebclaaPBx0
import Derived.Test.YtgaokehmfebclaaPBx1
namespace Go.Proofs.Ytgaokehmfebclaa.PB
open Go.RowKit Go.Proofs.YtgaokehmfebclaaW.PrintWords Go.Proofs.YtgaokehmfebclaaW.PrintLast Go.Proofs.YtgaokehmfebclaaW.PrintMore
attribute [local go_sem] max2_int min2_int max_two min_two max_three min_three max_four min_four   -- for this text's walks alone
set_option linter.unusedVariables false
set_option linter.unusedSimpArgs false

end Go.Proofs.Ytgaokehmfebclaa.PB

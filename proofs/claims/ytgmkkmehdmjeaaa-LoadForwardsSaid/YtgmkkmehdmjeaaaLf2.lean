/- LoadForwards is reckoned at one of its inputs: it answers true. -/
import Derived.Test.YtgmkkmehdmjeaaaKnown
set_option linter.unusedVariables false
set_option maxRecDepth 1000000
namespace Go.Proofs.Ytgmkkmehdmjeaaa
open Go Go.V
theorem lf_ft : isTrue (lo1.call 4 [bool false, bool true] []) = true := by kernel_rfl
end Go.Proofs.Ytgmkkmehdmjeaaa

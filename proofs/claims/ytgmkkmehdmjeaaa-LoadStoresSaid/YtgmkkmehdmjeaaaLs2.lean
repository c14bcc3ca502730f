/- LoadStores is reckoned at its inputs: it answers true. Second half. -/
import Derived.Test.YtgmkkmehdmjeaaaLs1
set_option linter.unusedVariables false
set_option maxRecDepth 1000000
namespace Go.Proofs.Ytgmkkmehdmjeaaa
open Go Go.V
theorem ls_tff : isTrue (lo1.call 5 [bool true, bool false, bool false] []) = true := by kernel_rfl
theorem ls_tft : isTrue (lo1.call 5 [bool true, bool false, bool true] []) = true := by kernel_rfl
theorem ls_ttf : isTrue (lo1.call 5 [bool true, bool true, bool false] []) = true := by kernel_rfl
theorem ls_ttt : isTrue (lo1.call 5 [bool true, bool true, bool true] []) = true := by kernel_rfl
end Go.Proofs.Ytgmkkmehdmjeaaa

/- LoadStores is reckoned at its inputs: it answers true. First half. -/
import Derived.Test.YtgmkkmehdmjeaaaSan
set_option linter.unusedVariables false
set_option maxRecDepth 1000000
namespace Go.Proofs.Ytgmkkmehdmjeaaa
open Go Go.V
noncomputable def lo1 : Lo := loN tab hints fnF (fun f => findF f [(12, bool true)]) 100000 40
theorem lo1_ok : LoOK Try.prog lo1 := loN_sound ty_ok mixed fn_ok (fun f d h => by
  rcases List.mem_cons.1 (findF_mem h) with q | q
  · simp only [Prod.mk.injEq] at q
    obtain ⟨rfl, rfl⟩ := q
    exact known12
  · cases q) 40
theorem ls_fff : isTrue (lo1.call 5 [bool false, bool false, bool false] []) = true := by kernel_rfl
theorem ls_fft : isTrue (lo1.call 5 [bool false, bool false, bool true] []) = true := by kernel_rfl
theorem ls_ftf : isTrue (lo1.call 5 [bool false, bool true, bool false] []) = true := by kernel_rfl
theorem ls_ftt : isTrue (lo1.call 5 [bool false, bool true, bool true] []) = true := by kernel_rfl
end Go.Proofs.Ytgmkkmehdmjeaaa

/- Calls, where the set's own check is known. -/
import Derived.Test.YtgmkkmehdmjeaaaSan
set_option linter.unusedVariables false
namespace Go.Proofs.Ytgmkkmehdmjeaaa
open Go Go.V
noncomputable def lo1 : Lo := loN tab hints fnF (fun f => findF f [(12, bool true)]) 100000 40
theorem lo1_ok : LoOK Try.prog lo1 := loN_sound ty_ok mixed fn_ok (fun f d h => by
  rcases List.mem_cons.1 (findF_mem h) with q | q
  · simp only [Prod.mk.injEq] at q
    obtain ⟨rfl, rfl⟩ := q
    exact known12
  · cases q) 40
end Go.Proofs.Ytgmkkmehdmjeaaa

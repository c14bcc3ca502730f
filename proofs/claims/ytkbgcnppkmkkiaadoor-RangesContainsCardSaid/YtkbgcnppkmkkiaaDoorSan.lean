/- The set's own check of law 18 is reckoned: it answers true, where the package's variables hold what start-up lays. -/
import Derived.Test.YtkbgcnppkmkkiaaDoorTab
set_option linter.unusedVariables false
set_option maxRecDepth 1000000
namespace Go.Proofs.YtkbgcnppkmkkiaaDoor
open Go Go.V
noncomputable def isTrue (x : Option (D × List Root)) : Bool := match x with
  | some (.c (.im (.v (.bool true))), _) => true
  | _ => false
noncomputable def lo0 : Lo := loN tab hints fnF (fun _ => none) 100000 40
theorem lo0_ok : LoOK tab Tryd.prog lo0 := loN_sound ty_ok mixed fn_ok (fun f d h => by simp at h) 40
theorem san4 : isTrue (lo0.call 4 [] []) = true := by kernel_rfl
theorem isTrue_some {x : Option (D × List Root)} (h : isTrue x = true) : ∃ rs, x = some (bool true, rs) := by
  unfold isTrue at h
  split at h
  · exact ⟨_, rfl⟩
  · simp at h
theorem pure_of {f : FuncId} {lo : Lo} (hl : LoOK tab Tryd.prog lo) {ds : List D} (h : isTrue (lo.call f ds []) = true) : Enters Tryd.prog f ∧ Pure1 tab Tryd.prog f ds (bool true) := by
  obtain ⟨rs, hr⟩ := isTrue_some h
  exact ⟨(hl.call _ _ _ _ _ hr).1, hl.pure hr rfl⟩
theorem known4 : Enters Tryd.prog 4 ∧ Pure1 tab Tryd.prog 4 [] (bool true) := pure_of lo0_ok san4
end Go.Proofs.YtkbgcnppkmkkiaaDoor

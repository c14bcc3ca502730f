/- The set's own check of law 19 is reckoned: it answers true. -/
import Derived.Test.YtgbbdaegmfjahaaGreatP5
set_option linter.unusedVariables false
set_option maxRecDepth 1000000
namespace Go.Proofs.YtgbbdaegmfjahaaGreat
open Go Go.V
noncomputable def isTrue (x : Option (D × List Root)) : Bool := match x with
  | some (.c (.im (.v (.bool true))), _) => true
  | _ => false
noncomputable def modeS : List (Nat × Nat) := [(21, 2), (117, 2), (118, 2), (119, 2), (120, 2), (121, 2), (122, 2), (55, 3), (50, 1), (92, 1), (93, 1), (56, 1), (96, 1), (101, 1), (132, 1), (139, 1), (140, 1), (125, 1), (76, 1), (75, 1)]
noncomputable def hintsS : Hint := ⟨keepF, fun f => match findF f modeS with
  | some n => n
  | none => 0, fun _ => false⟩
noncomputable def lo0 : Lo := loN tab hintsS fnF (fun _ => none) 100000 40
theorem lo0_ok : LoOK tab Tryz.prog lo0 := loN_sound ty_ok mixed fn_ok (fun f d h => by simp at h) 40
theorem san23 : isTrue (lo0.call 23 [] []) = true := by kernel_rfl
end Go.Proofs.YtgbbdaegmfjahaaGreat

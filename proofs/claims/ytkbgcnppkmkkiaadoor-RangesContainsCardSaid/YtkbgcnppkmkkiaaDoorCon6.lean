/- The loops of the law find no difference; what comes behind them. -/
import Derived.Test.YtkbgcnppkmkkiaaDoorCon5
set_option linter.unusedVariables false
set_option maxRecDepth 1000000
namespace Go.Proofs.YtkbgcnppkmkkiaaDoor
open Go Go.V Go.RowKit

section
variable (q0 q1 q2 kind n : Int) (s : ByteArray) (X Y : Int → Int → Int → Int → Int → ByteArray → Bool)
noncomputable def andI (a b : Int) : Int := IntKind.i64.wrap (BitVec.ofInt 64 a &&& BitVec.ofInt 64 b).toNat
noncomputable def diff1 (k kind n : Int) (s : ByteArray) : Option Bool := some (!(X k q1 q2 kind n s == Y k q1 q2 kind n s))
noncomputable def diff4 (k : Int) (r : List (Option Bool)) : List (Option Bool) := diff1 q1 q2 X Y k kind n s :: diff1 q1 q2 X Y k (andI kind 7) q1 ⟨#[]⟩ :: diff1 q1 q2 X Y k 3 n ⟨#[]⟩ :: diff1 q1 q2 X Y k 2 (andI n 1) ⟨#[]⟩ :: r
noncomputable def diffs : List (Option Bool) := diff4 q1 q2 kind n s X Y (andI q0 127) (diff4 q1 q2 kind n s X Y 8 (diff4 q1 q2 kind n s X Y 4 (diff4 q1 q2 kind n s X Y 126 [])))
noncomputable def fst3 (x : Option (List (Option Bool) × Nat × List Item × VS)) : Option (List (Option Bool)) := match x with
  | some (l, _) => some l
  | none => none
theorem diffs_eq : fst3 (ora3 q0 q1 q2 kind n s X Y) = some (diffs q0 q1 q2 kind n s X Y) := by kernel_rfl
end
end Go.Proofs.YtkbgcnppkmkkiaaDoor

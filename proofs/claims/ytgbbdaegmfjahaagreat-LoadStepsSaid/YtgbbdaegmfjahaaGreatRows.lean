/-
  No cell of these rows narrows 'for every input' (looked for: loops, veiled, ifaces, maps, wideKeys, modest, calm, conditions, laid).
  DERIVED. THE GIVEN ROWS OF THIS SEAT. 7 by the template 'for every input the law returns true; each argument reads behind the call as it read before'; 0 by the template 'total and deterministic' (their statements: YtgbbdaegmfjahaaGreatTotals.lean).
  GIVEN WITH THE SEED: the statements are not yours to turn. If you find one false, say at which input.
  Laid BY PROGRAM, IN A SANDBOX (cutbox-rows.mjs): the forced cells as the released guide's own fill.sh prints them over the translation ae6733a1693955e0… (all of the seat's roots in one cut). By AI agents, Wed Nov 11 2026. No macro, syntax, notation, axiom, sorry.
-/
import Derived.Test.YtgbbdaegmfjahaaGreatChecked
import GoSem.Claim
import GoSem.ClaimJoined
import GoSem.ClaimMapViews
import Derived.JoinedTies
import Derived.KernelRfl
namespace Go.Proofs.YtgbbdaegmfjahaaGreat
/- THE CELL 'sum', in the pinned program and in every row, IS THE sha256 OF THE DUMP (.gsa) THAT YtgbbdaegmfjahaaGreatProg.lean LOADS. Nothing in Lean hashes anything: it is a label: what it is worth is what the hold of that sum in a sandbox is worth. -/
noncomputable def Tryz.pinned : Pinned := { name := "ytgbbdaegmfjahaagreat", sum := "ae6733a1693955e06cebeee622d1a4c020b80d7dce72092bc497b7d144570d30", checked := Tryz.checked }
namespace Rows
def none {H : Type} : Left H := { results := [], args := [] }

/-- 'facsimilelaw20.EscapeSteps': WHATEVER THE INPUT: true; the input reads as it did. -/
def escapeStepsSpec : ChangeSpec := { name := "escapeSteps", fn := fun _ => fun
  | [d] => { results := [.lit (.bool true)], args := [d] }
  | _ => none }
def escapeStepsRow : OpenClaim := { program := "ytgbbdaegmfjahaagreat", sum := "ae6733a1693955e06cebeee622d1a4c020b80d7dce72092bc497b7d144570d30", func := "facsimile/facsimilelaw20.EscapeSteps", spec := "escapeSteps", unfollowed := true, recurses := true, apart := false }
def EscapeStepsSaid : Prop := escapeStepsRow.holds Tryz.pinned (OpenSpec.ofChange escapeStepsSpec)

/-- ITS FALSE NEIGHBOUR: 'it returns false'. Refute it at one input. -/
def escapeStepsWrong : ChangeSpec := { name := "escapeSteps", fn := fun _ => fun
  | [d] => { results := [.lit (.bool false)], args := [d] }
  | _ => none }
def EscapeStepsWrongFalsely : Prop := escapeStepsRow.holds Tryz.pinned (OpenSpec.ofChange escapeStepsWrong)

/-- 'facsimilelaw20.EscapeWrong': WHATEVER THE INPUT: true; the input reads as it did. -/
def escapeWrongSpec : ChangeSpec := { name := "escapeWrong", fn := fun _ => fun
  | [d1, d2] => { results := [.lit (.bool true)], args := [d1, d2] }
  | _ => none }
def escapeWrongRow : OpenClaim := { program := "ytgbbdaegmfjahaagreat", sum := "ae6733a1693955e06cebeee622d1a4c020b80d7dce72092bc497b7d144570d30", func := "facsimile/facsimilelaw20.EscapeWrong", spec := "escapeWrong", unfollowed := true, recurses := true, apart := false }
def EscapeWrongSaid : Prop := escapeWrongRow.holds Tryz.pinned (OpenSpec.ofChange escapeWrongSpec)

/-- ITS FALSE NEIGHBOUR: 'it returns false'. Refute it at one input. -/
def escapeWrongWrong : ChangeSpec := { name := "escapeWrong", fn := fun _ => fun
  | [d1, d2] => { results := [.lit (.bool false)], args := [d1, d2] }
  | _ => none }
def EscapeWrongWrongFalsely : Prop := escapeWrongRow.holds Tryz.pinned (OpenSpec.ofChange escapeWrongWrong)

/-- 'facsimilelaw20.EscapeOwn': WHATEVER THE INPUT: true; the input reads as it did. -/
def escapeOwnSpec : ChangeSpec := { name := "escapeOwn", fn := fun _ => fun
  | [d] => { results := [.lit (.bool true)], args := [d] }
  | _ => none }
def escapeOwnRow : OpenClaim := { program := "ytgbbdaegmfjahaagreat", sum := "ae6733a1693955e06cebeee622d1a4c020b80d7dce72092bc497b7d144570d30", func := "facsimile/facsimilelaw20.EscapeOwn", spec := "escapeOwn", unfollowed := true, recurses := true, apart := false }
def EscapeOwnSaid : Prop := escapeOwnRow.holds Tryz.pinned (OpenSpec.ofChange escapeOwnSpec)

/-- ITS FALSE NEIGHBOUR: 'it returns false'. Refute it at one input. -/
def escapeOwnWrong : ChangeSpec := { name := "escapeOwn", fn := fun _ => fun
  | [d] => { results := [.lit (.bool false)], args := [d] }
  | _ => none }
def EscapeOwnWrongFalsely : Prop := escapeOwnRow.holds Tryz.pinned (OpenSpec.ofChange escapeOwnWrong)

/-- 'facsimilelaw20.EscapeDone': WHATEVER THE INPUT: true; the input reads as it did. -/
def escapeDoneSpec : ChangeSpec := { name := "escapeDone", fn := fun _ => fun
  | [d] => { results := [.lit (.bool true)], args := [d] }
  | _ => none }
def escapeDoneRow : OpenClaim := { program := "ytgbbdaegmfjahaagreat", sum := "ae6733a1693955e06cebeee622d1a4c020b80d7dce72092bc497b7d144570d30", func := "facsimile/facsimilelaw20.EscapeDone", spec := "escapeDone", unfollowed := true, recurses := true, apart := false }
def EscapeDoneSaid : Prop := escapeDoneRow.holds Tryz.pinned (OpenSpec.ofChange escapeDoneSpec)

/-- ITS FALSE NEIGHBOUR: 'it returns false'. Refute it at one input. -/
def escapeDoneWrong : ChangeSpec := { name := "escapeDone", fn := fun _ => fun
  | [d] => { results := [.lit (.bool false)], args := [d] }
  | _ => none }
def EscapeDoneWrongFalsely : Prop := escapeDoneRow.holds Tryz.pinned (OpenSpec.ofChange escapeDoneWrong)

/-- 'facsimilelaw20.EscapeObjects': WHATEVER THE INPUT: true; the input reads as it did. -/
def escapeObjectsSpec : ChangeSpec := { name := "escapeObjects", fn := fun _ => fun
  | [d] => { results := [.lit (.bool true)], args := [d] }
  | _ => none }
def escapeObjectsRow : OpenClaim := { program := "ytgbbdaegmfjahaagreat", sum := "ae6733a1693955e06cebeee622d1a4c020b80d7dce72092bc497b7d144570d30", func := "facsimile/facsimilelaw20.EscapeObjects", spec := "escapeObjects", unfollowed := true, recurses := true, apart := false }
def EscapeObjectsSaid : Prop := escapeObjectsRow.holds Tryz.pinned (OpenSpec.ofChange escapeObjectsSpec)

/-- ITS FALSE NEIGHBOUR: 'it returns false'. Refute it at one input. -/
def escapeObjectsWrong : ChangeSpec := { name := "escapeObjects", fn := fun _ => fun
  | [d] => { results := [.lit (.bool false)], args := [d] }
  | _ => none }
def EscapeObjectsWrongFalsely : Prop := escapeObjectsRow.holds Tryz.pinned (OpenSpec.ofChange escapeObjectsWrong)

/-- 'facsimilelaw19.LoadSteps': WHATEVER THE INPUT: true; the input reads as it did. -/
def loadStepsSpec : ChangeSpec := { name := "loadSteps", fn := fun _ => fun
  | [d1, d2] => { results := [.lit (.bool true)], args := [d1, d2] }
  | _ => none }
def loadStepsRow : OpenClaim := { program := "ytgbbdaegmfjahaagreat", sum := "ae6733a1693955e06cebeee622d1a4c020b80d7dce72092bc497b7d144570d30", func := "facsimile/facsimilelaw19.LoadSteps", spec := "loadSteps", unfollowed := true, recurses := true, apart := false }
def LoadStepsSaid : Prop := loadStepsRow.holds Tryz.pinned (OpenSpec.ofChange loadStepsSpec)

/-- ITS FALSE NEIGHBOUR: 'it returns false'. Refute it at one input. -/
def loadStepsWrong : ChangeSpec := { name := "loadSteps", fn := fun _ => fun
  | [d1, d2] => { results := [.lit (.bool false)], args := [d1, d2] }
  | _ => none }
def LoadStepsWrongFalsely : Prop := loadStepsRow.holds Tryz.pinned (OpenSpec.ofChange loadStepsWrong)

/-- 'facsimilelaw19.LoadAlias': WHATEVER THE INPUT: true; the input reads as it did. -/
def loadAliasSpec : ChangeSpec := { name := "loadAlias", fn := fun _ => fun
  | [d] => { results := [.lit (.bool true)], args := [d] }
  | _ => none }
def loadAliasRow : OpenClaim := { program := "ytgbbdaegmfjahaagreat", sum := "ae6733a1693955e06cebeee622d1a4c020b80d7dce72092bc497b7d144570d30", func := "facsimile/facsimilelaw19.LoadAlias", spec := "loadAlias", unfollowed := true, recurses := true, apart := false }
def LoadAliasSaid : Prop := loadAliasRow.holds Tryz.pinned (OpenSpec.ofChange loadAliasSpec)

/-- ITS FALSE NEIGHBOUR: 'it returns false'. Refute it at one input. -/
def loadAliasWrong : ChangeSpec := { name := "loadAlias", fn := fun _ => fun
  | [d] => { results := [.lit (.bool false)], args := [d] }
  | _ => none }
def LoadAliasWrongFalsely : Prop := loadAliasRow.holds Tryz.pinned (OpenSpec.ofChange loadAliasWrong)

/- THE SECOND FORM. 'bulk': how many values and letters a reading holds, each counted each time it is reached (what is shared counts as often as it is met; a slice's spare places count too). A statement '..UptoSaid' is the law's where the arguments, and the package variables that the reading takes, are together of bulk at most 1048576: NARROWER than '..Said'. Prove '..Said' where nothing that the law and all that it calls make is longer than what came in: it says more and counts as full. Else prove '..UptoSaid'. A law counts once. -/
mutual
def uptoBulk {H : Type} : DataW H → Nat
  | .lit (.string bytes) => bytes.length + 1
  | .lit _ => 1
  | .nil => 1
  | .ptr d => uptoBulk d + 1
  | .slice elems spare => uptoBulkAll elems + uptoBulkAll spare + 1
  | .agg parts => uptoBulkAll parts + 1
  | .iface _ d => uptoBulk d + 1
  | .map entries => uptoBulkEntries entries + 1
  | .held _ => 1
def uptoBulkAll {H : Type} : List (DataW H) → Nat
  | [] => 0
  | d :: r => uptoBulk d + uptoBulkAll r
def uptoBulkEntries {H : Type} : List (Lit × DataW H) → Nat
  | [] => 0
  | x :: r => uptoBulkEntry x + uptoBulkEntries r
def uptoBulkEntry {H : Type} : Lit × DataW H → Nat
  | (.string bytes, d) => bytes.length + uptoBulk d + 1
  | (_, d) => uptoBulk d + 1
 end
def uptoSmall : (H : Type) → List (DataW H) → Bool := fun _ ds => decide (uptoBulkAll ds ≤ 1048576)
def OpenSpec.upto (s : _root_.Go.ChangeSpec) : _root_.Go.OpenSpec := { _root_.Go.OpenSpec.ofChange s with cond := some uptoSmall }

/-- 'facsimilelaw20.EscapeSteps', WHERE WHAT IT READS IS OF BULK AT MOST 1048576: true; the input reads as it did. -/
def escapeStepsUptoRow : OpenClaim := { program := "ytgbbdaegmfjahaagreat", sum := "ae6733a1693955e06cebeee622d1a4c020b80d7dce72092bc497b7d144570d30", func := "facsimile/facsimilelaw20.EscapeSteps", spec := "escapeSteps", unfollowed := true, recurses := true, apart := false, narrowed := true }
def EscapeStepsUptoSaid : Prop := escapeStepsUptoRow.holds Tryz.pinned (OpenSpec.upto escapeStepsSpec)

/-- 'facsimilelaw20.EscapeWrong', WHERE WHAT IT READS IS OF BULK AT MOST 1048576: true; the input reads as it did. -/
def escapeWrongUptoRow : OpenClaim := { program := "ytgbbdaegmfjahaagreat", sum := "ae6733a1693955e06cebeee622d1a4c020b80d7dce72092bc497b7d144570d30", func := "facsimile/facsimilelaw20.EscapeWrong", spec := "escapeWrong", unfollowed := true, recurses := true, apart := false, narrowed := true }
def EscapeWrongUptoSaid : Prop := escapeWrongUptoRow.holds Tryz.pinned (OpenSpec.upto escapeWrongSpec)

/-- 'facsimilelaw20.EscapeOwn', WHERE WHAT IT READS IS OF BULK AT MOST 1048576: true; the input reads as it did. -/
def escapeOwnUptoRow : OpenClaim := { program := "ytgbbdaegmfjahaagreat", sum := "ae6733a1693955e06cebeee622d1a4c020b80d7dce72092bc497b7d144570d30", func := "facsimile/facsimilelaw20.EscapeOwn", spec := "escapeOwn", unfollowed := true, recurses := true, apart := false, narrowed := true }
def EscapeOwnUptoSaid : Prop := escapeOwnUptoRow.holds Tryz.pinned (OpenSpec.upto escapeOwnSpec)

/-- 'facsimilelaw20.EscapeDone', WHERE WHAT IT READS IS OF BULK AT MOST 1048576: true; the input reads as it did. -/
def escapeDoneUptoRow : OpenClaim := { program := "ytgbbdaegmfjahaagreat", sum := "ae6733a1693955e06cebeee622d1a4c020b80d7dce72092bc497b7d144570d30", func := "facsimile/facsimilelaw20.EscapeDone", spec := "escapeDone", unfollowed := true, recurses := true, apart := false, narrowed := true }
def EscapeDoneUptoSaid : Prop := escapeDoneUptoRow.holds Tryz.pinned (OpenSpec.upto escapeDoneSpec)

/-- 'facsimilelaw20.EscapeObjects', WHERE WHAT IT READS IS OF BULK AT MOST 1048576: true; the input reads as it did. -/
def escapeObjectsUptoRow : OpenClaim := { program := "ytgbbdaegmfjahaagreat", sum := "ae6733a1693955e06cebeee622d1a4c020b80d7dce72092bc497b7d144570d30", func := "facsimile/facsimilelaw20.EscapeObjects", spec := "escapeObjects", unfollowed := true, recurses := true, apart := false, narrowed := true }
def EscapeObjectsUptoSaid : Prop := escapeObjectsUptoRow.holds Tryz.pinned (OpenSpec.upto escapeObjectsSpec)

/-- 'facsimilelaw19.LoadSteps', WHERE WHAT IT READS IS OF BULK AT MOST 1048576: true; the input reads as it did. -/
def loadStepsUptoRow : OpenClaim := { program := "ytgbbdaegmfjahaagreat", sum := "ae6733a1693955e06cebeee622d1a4c020b80d7dce72092bc497b7d144570d30", func := "facsimile/facsimilelaw19.LoadSteps", spec := "loadSteps", unfollowed := true, recurses := true, apart := false, narrowed := true }
def LoadStepsUptoSaid : Prop := loadStepsUptoRow.holds Tryz.pinned (OpenSpec.upto loadStepsSpec)

/-- 'facsimilelaw19.LoadAlias', WHERE WHAT IT READS IS OF BULK AT MOST 1048576: true; the input reads as it did. -/
def loadAliasUptoRow : OpenClaim := { program := "ytgbbdaegmfjahaagreat", sum := "ae6733a1693955e06cebeee622d1a4c020b80d7dce72092bc497b7d144570d30", func := "facsimile/facsimilelaw19.LoadAlias", spec := "loadAlias", unfollowed := true, recurses := true, apart := false, narrowed := true }
def LoadAliasUptoSaid : Prop := loadAliasUptoRow.holds Tryz.pinned (OpenSpec.upto loadAliasSpec)

end Rows
end Go.Proofs.YtgbbdaegmfjahaaGreat

/-
  No cell of these rows narrows 'for every input' (looked for: loops, veiled, ifaces, maps, wideKeys, modest, calm, conditions, laid).
  DERIVED. THE GIVEN ROWS OF THIS SEAT. 5 by the template 'for every input the law returns true; each argument reads behind the call as it read before'; 0 by the template 'total and deterministic' (their statements: YtgmkkmehdmjeaaaTotals.lean).
  GIVEN WITH THE SEED: the statements are not yours to turn. If you find one false, say at which input.
  Laid BY PROGRAM, IN A SANDBOX (cutbox-rows.mjs): the forced cells as the released guide's own fill.sh prints them over the translation b91ac7552cdeb517… (all of the seat's roots in one cut). By AI agents, Wed Nov 11 2026. No macro, syntax, notation, axiom, sorry.
-/
import Derived.Test.YtgmkkmehdmjeaaaChecked
import GoSem.Claim
import GoSem.ClaimJoined
import GoSem.ClaimMapViews
import Derived.JoinedTies
import Derived.KernelRfl
namespace Go.Proofs.Ytgmkkmehdmjeaaa
/- THE CELL 'sum', in the pinned program and in every row, IS THE sha256 OF THE DUMP (.gsa) THAT YtgmkkmehdmjeaaaProg.lean LOADS. Nothing in Lean hashes anything: it is a label: what it is worth is what the hold of that sum in a sandbox is worth. -/
noncomputable def Try.pinned : Pinned := { name := "ytgmkkmehdmjeaaa", sum := "b91ac7552cdeb517d857873d5b5e29ad211412a38db937b9fcfde4a4d92e7bca", checked := Try.checked }
namespace Rows
def none {H : Type} : Left H := { results := [], args := [] }

/-- 'facsimilelaw20.EscapeNests': WHATEVER THE INPUT: true; the input reads as it did. -/
def escapeNestsSpec : ChangeSpec := { name := "escapeNests", fn := fun _ => fun
  | [d1, d2] => { results := [.lit (.bool true)], args := [d1, d2] }
  | _ => none }
def escapeNestsRow : OpenClaim := { program := "ytgmkkmehdmjeaaa", sum := "b91ac7552cdeb517d857873d5b5e29ad211412a38db937b9fcfde4a4d92e7bca", func := "facsimile/facsimilelaw20.EscapeNests", spec := "escapeNests", unfollowed := true, recurses := true, apart := false }
def EscapeNestsSaid : Prop := escapeNestsRow.holds Try.pinned (OpenSpec.ofChange escapeNestsSpec)

/-- ITS FALSE NEIGHBOUR: 'it returns false'. Refute it at one input. -/
def escapeNestsWrong : ChangeSpec := { name := "escapeNests", fn := fun _ => fun
  | [d1, d2] => { results := [.lit (.bool false)], args := [d1, d2] }
  | _ => none }
def EscapeNestsWrongFalsely : Prop := escapeNestsRow.holds Try.pinned (OpenSpec.ofChange escapeNestsWrong)

/-- 'facsimilelaw19.LoadForwards': WHATEVER THE INPUT: true; the input reads as it did. -/
def loadForwardsSpec : ChangeSpec := { name := "loadForwards", fn := fun _ => fun
  | [d1, d2] => { results := [.lit (.bool true)], args := [d1, d2] }
  | _ => none }
def loadForwardsRow : OpenClaim := { program := "ytgmkkmehdmjeaaa", sum := "b91ac7552cdeb517d857873d5b5e29ad211412a38db937b9fcfde4a4d92e7bca", func := "facsimile/facsimilelaw19.LoadForwards", spec := "loadForwards", unfollowed := true, recurses := true, apart := false }
def LoadForwardsSaid : Prop := loadForwardsRow.holds Try.pinned (OpenSpec.ofChange loadForwardsSpec)

/-- ITS FALSE NEIGHBOUR: 'it returns false'. Refute it at one input. -/
def loadForwardsWrong : ChangeSpec := { name := "loadForwards", fn := fun _ => fun
  | [d1, d2] => { results := [.lit (.bool false)], args := [d1, d2] }
  | _ => none }
def LoadForwardsWrongFalsely : Prop := loadForwardsRow.holds Try.pinned (OpenSpec.ofChange loadForwardsWrong)

/-- 'facsimilelaw19.LoadStores': WHATEVER THE INPUT: true; the input reads as it did. -/
def loadStoresSpec : ChangeSpec := { name := "loadStores", fn := fun _ => fun
  | [d1, d2, d3] => { results := [.lit (.bool true)], args := [d1, d2, d3] }
  | _ => none }
def loadStoresRow : OpenClaim := { program := "ytgmkkmehdmjeaaa", sum := "b91ac7552cdeb517d857873d5b5e29ad211412a38db937b9fcfde4a4d92e7bca", func := "facsimile/facsimilelaw19.LoadStores", spec := "loadStores", unfollowed := true, recurses := true, apart := false }
def LoadStoresSaid : Prop := loadStoresRow.holds Try.pinned (OpenSpec.ofChange loadStoresSpec)

/-- ITS FALSE NEIGHBOUR: 'it returns false'. Refute it at one input. -/
def loadStoresWrong : ChangeSpec := { name := "loadStores", fn := fun _ => fun
  | [d1, d2, d3] => { results := [.lit (.bool false)], args := [d1, d2, d3] }
  | _ => none }
def LoadStoresWrongFalsely : Prop := loadStoresRow.holds Try.pinned (OpenSpec.ofChange loadStoresWrong)

/-- 'facsimilelaw19.LoadOwn': WHATEVER THE INPUT: true; the input reads as it did. -/
def loadOwnSpec : ChangeSpec := { name := "loadOwn", fn := fun _ => fun
  | [d1, d2] => { results := [.lit (.bool true)], args := [d1, d2] }
  | _ => none }
def loadOwnRow : OpenClaim := { program := "ytgmkkmehdmjeaaa", sum := "b91ac7552cdeb517d857873d5b5e29ad211412a38db937b9fcfde4a4d92e7bca", func := "facsimile/facsimilelaw19.LoadOwn", spec := "loadOwn", unfollowed := true, recurses := true, apart := false }
def LoadOwnSaid : Prop := loadOwnRow.holds Try.pinned (OpenSpec.ofChange loadOwnSpec)

/-- ITS FALSE NEIGHBOUR: 'it returns false'. Refute it at one input. -/
def loadOwnWrong : ChangeSpec := { name := "loadOwn", fn := fun _ => fun
  | [d1, d2] => { results := [.lit (.bool false)], args := [d1, d2] }
  | _ => none }
def LoadOwnWrongFalsely : Prop := loadOwnRow.holds Try.pinned (OpenSpec.ofChange loadOwnWrong)

/-- 'facsimilelaw19.LoadAgain': WHATEVER THE INPUT: true; the input reads as it did. -/
def loadAgainSpec : ChangeSpec := { name := "loadAgain", fn := fun _ => fun
  | [d] => { results := [.lit (.bool true)], args := [d] }
  | _ => none }
def loadAgainRow : OpenClaim := { program := "ytgmkkmehdmjeaaa", sum := "b91ac7552cdeb517d857873d5b5e29ad211412a38db937b9fcfde4a4d92e7bca", func := "facsimile/facsimilelaw19.LoadAgain", spec := "loadAgain", unfollowed := true, recurses := true, apart := false }
def LoadAgainSaid : Prop := loadAgainRow.holds Try.pinned (OpenSpec.ofChange loadAgainSpec)

/-- ITS FALSE NEIGHBOUR: 'it returns false'. Refute it at one input. -/
def loadAgainWrong : ChangeSpec := { name := "loadAgain", fn := fun _ => fun
  | [d] => { results := [.lit (.bool false)], args := [d] }
  | _ => none }
def LoadAgainWrongFalsely : Prop := loadAgainRow.holds Try.pinned (OpenSpec.ofChange loadAgainWrong)

/- THE SECOND FORM. 'bulk': how many values and letters a reading holds, each counted each time it is reached (what is shared counts as often as it is met; a slice's spare places count too). A statement '..UptoSaid' is the law's where the arguments, and the package variables that the reading takes, are together of bulk at most 1048576: NARROWER than '..Said'. Prove '..Said' where nothing that the law and all that it calls make is longer than what came in: it says more and counts as full. Else prove '..UptoSaid'. A law counts once. -/
mutual
def uptoBulk {H : Type} : DataW H → Nat
  | .lit (.string bytes) => bytes.length + 1
  | .lit _ => 1
  | .nil => 1
  | .ptr d => uptoBulk d + 1
  | .slice elems spare => uptoBulkAll elems + uptoBulkAll spare + 1
  | .agg parts => uptoBulkAll parts + 1
  | .iface _ d => uptoBulk d + 1
  | .map entries => uptoBulkEntries entries + 1
  | .held _ => 1
def uptoBulkAll {H : Type} : List (DataW H) → Nat
  | [] => 0
  | d :: r => uptoBulk d + uptoBulkAll r
def uptoBulkEntries {H : Type} : List (Lit × DataW H) → Nat
  | [] => 0
  | x :: r => uptoBulkEntry x + uptoBulkEntries r
def uptoBulkEntry {H : Type} : Lit × DataW H → Nat
  | (.string bytes, d) => bytes.length + uptoBulk d + 1
  | (_, d) => uptoBulk d + 1
 end
def uptoSmall : (H : Type) → List (DataW H) → Bool := fun _ ds => decide (uptoBulkAll ds ≤ 1048576)
def OpenSpec.upto (s : _root_.Go.ChangeSpec) : _root_.Go.OpenSpec := { _root_.Go.OpenSpec.ofChange s with cond := some uptoSmall }

/-- 'facsimilelaw20.EscapeNests', WHERE WHAT IT READS IS OF BULK AT MOST 1048576: true; the input reads as it did. -/
def escapeNestsUptoRow : OpenClaim := { program := "ytgmkkmehdmjeaaa", sum := "b91ac7552cdeb517d857873d5b5e29ad211412a38db937b9fcfde4a4d92e7bca", func := "facsimile/facsimilelaw20.EscapeNests", spec := "escapeNests", unfollowed := true, recurses := true, apart := false, narrowed := true }
def EscapeNestsUptoSaid : Prop := escapeNestsUptoRow.holds Try.pinned (OpenSpec.upto escapeNestsSpec)

/-- 'facsimilelaw19.LoadForwards', WHERE WHAT IT READS IS OF BULK AT MOST 1048576: true; the input reads as it did. -/
def loadForwardsUptoRow : OpenClaim := { program := "ytgmkkmehdmjeaaa", sum := "b91ac7552cdeb517d857873d5b5e29ad211412a38db937b9fcfde4a4d92e7bca", func := "facsimile/facsimilelaw19.LoadForwards", spec := "loadForwards", unfollowed := true, recurses := true, apart := false, narrowed := true }
def LoadForwardsUptoSaid : Prop := loadForwardsUptoRow.holds Try.pinned (OpenSpec.upto loadForwardsSpec)

/-- 'facsimilelaw19.LoadStores', WHERE WHAT IT READS IS OF BULK AT MOST 1048576: true; the input reads as it did. -/
def loadStoresUptoRow : OpenClaim := { program := "ytgmkkmehdmjeaaa", sum := "b91ac7552cdeb517d857873d5b5e29ad211412a38db937b9fcfde4a4d92e7bca", func := "facsimile/facsimilelaw19.LoadStores", spec := "loadStores", unfollowed := true, recurses := true, apart := false, narrowed := true }
def LoadStoresUptoSaid : Prop := loadStoresUptoRow.holds Try.pinned (OpenSpec.upto loadStoresSpec)

/-- 'facsimilelaw19.LoadOwn', WHERE WHAT IT READS IS OF BULK AT MOST 1048576: true; the input reads as it did. -/
def loadOwnUptoRow : OpenClaim := { program := "ytgmkkmehdmjeaaa", sum := "b91ac7552cdeb517d857873d5b5e29ad211412a38db937b9fcfde4a4d92e7bca", func := "facsimile/facsimilelaw19.LoadOwn", spec := "loadOwn", unfollowed := true, recurses := true, apart := false, narrowed := true }
def LoadOwnUptoSaid : Prop := loadOwnUptoRow.holds Try.pinned (OpenSpec.upto loadOwnSpec)

/-- 'facsimilelaw19.LoadAgain', WHERE WHAT IT READS IS OF BULK AT MOST 1048576: true; the input reads as it did. -/
def loadAgainUptoRow : OpenClaim := { program := "ytgmkkmehdmjeaaa", sum := "b91ac7552cdeb517d857873d5b5e29ad211412a38db937b9fcfde4a4d92e7bca", func := "facsimile/facsimilelaw19.LoadAgain", spec := "loadAgain", unfollowed := true, recurses := true, apart := false, narrowed := true }
def LoadAgainUptoSaid : Prop := loadAgainUptoRow.holds Try.pinned (OpenSpec.upto loadAgainSpec)

end Rows
end Go.Proofs.Ytgmkkmehdmjeaaa

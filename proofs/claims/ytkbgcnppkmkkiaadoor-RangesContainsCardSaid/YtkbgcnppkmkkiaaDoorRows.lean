/-
  NARROWER THAN 'FOR EVERY INPUT', by the rows' own cells (each row's printed sentence says how): RangesContains: laid.
  DERIVED. THE GIVEN ROWS OF THIS SEAT. 1 by the template 'for every input the law returns true; each argument reads behind the call as it read before'; 0 by the template 'total and deterministic' (their statements: YtkbgcnppkmkkiaaDoorTotals.lean).
  GIVEN WITH THE SEED: the statements are not yours to turn. If you find one false, say at which input.
  Laid BY PROGRAM, IN A SANDBOX (cutbox-rows.mjs): the forced cells as the released guide's own fill.sh prints them over the translation fb10c4d840bf7922… (all of the seat's roots in one cut). By AI agents, Wed Nov 11 2026. No macro, syntax, notation, axiom, sorry.
-/
import Derived.Test.YtkbgcnppkmkkiaaDoorChecked
import GoSem.Claim
import GoSem.ClaimJoined
import GoSem.ClaimMapViews
import Derived.JoinedTies
import Derived.KernelRfl
namespace Go.Proofs.YtkbgcnppkmkkiaaDoor
/- THE CELL 'sum', in the pinned program and in every row, IS THE sha256 OF THE DUMP (.gsa) THAT YtkbgcnppkmkkiaaDoorProg.lean LOADS. Nothing in Lean hashes anything: it is a label: what it is worth is what the hold of that sum in a sandbox is worth. -/
noncomputable def Tryd.pinned : Pinned := { name := "ytkbgcnppkmkkiaadoor", sum := "fb10c4d840bf7922296f2983c677662c43161bf83d1137e557cf294822a420ec", checked := Tryd.checked }
namespace Rows
def none {H : Type} : Left H := { results := [], args := [] }

/- WHAT THE LISTED PACKAGE-LEVEL VARIABLES READ AS WHEN THE CALL BEGINS. Each datum BY PROGRAM (the guide's laid-datum.mjs) off the statement by which the dump's own 'gosem.cut.vars' lays the variable. In a bare row this is a premise. The card (YtkbgcnppkmkkiaaDoorCards.lean) ties it to the program's text. -/
def laid_facsimile_ranges_arithmetic {H : Type} : DataW H := .iface "func table" (.map [(.int .i64 5, .iface "func" (.lit (.string [102, 97, 99, 115, 105, 109, 105, 108, 101, 47, 114, 97, 110, 103, 101, 115, 46, 97, 114, 105, 116, 104, 109, 101, 116, 105, 99, 36, 49]))), (.int .i64 6, .iface "func" (.lit (.string [102, 97, 99, 115, 105, 109, 105, 108, 101, 47, 114, 97, 110, 103, 101, 115, 46, 97, 114, 105, 116, 104, 109, 101, 116, 105, 99, 36, 50]))), (.int .i64 7, .iface "func" (.lit (.string [102, 97, 99, 115, 105, 109, 105, 108, 101, 47, 114, 97, 110, 103, 101, 115, 46, 109, 117, 108, 116, 105, 112, 108, 121])))])
def laid_facsimile_ranges_rules {H : Type} : DataW H := .iface "func table" (.map [(.int .i64 1, .iface "func" (.lit (.string [40, 42, 102, 97, 99, 115, 105, 109, 105, 108, 101, 47, 114, 97, 110, 103, 101, 115, 46, 115, 116, 97, 116, 101, 41, 46, 112, 97, 114, 97, 109]))), (.int .i64 2, .iface "func" (.lit (.string [40, 42, 102, 97, 99, 115, 105, 109, 105, 108, 101, 47, 114, 97, 110, 103, 101, 115, 46, 115, 116, 97, 116, 101, 41, 46, 99, 111, 110, 115, 116, 97, 110, 116]))), (.int .i64 3, .iface "func" (.lit (.string [40, 42, 102, 97, 99, 115, 105, 109, 105, 108, 101, 47, 114, 97, 110, 103, 101, 115, 46, 115, 116, 97, 116, 101, 41, 46, 117, 110, 97, 114, 121]))), (.int .i64 4, .iface "func" (.lit (.string [40, 42, 102, 97, 99, 115, 105, 109, 105, 108, 101, 47, 114, 97, 110, 103, 101, 115, 46, 115, 116, 97, 116, 101, 41, 46, 98, 105, 110, 97, 114, 121]))), (.int .i64 5, .iface "func" (.lit (.string [40, 42, 102, 97, 99, 115, 105, 109, 105, 108, 101, 47, 114, 97, 110, 103, 101, 115, 46, 115, 116, 97, 116, 101, 41, 46, 103, 117, 97, 114, 100]))), (.int .i64 6, .iface "func" (.lit (.string [40, 42, 102, 97, 99, 115, 105, 109, 105, 108, 101, 47, 114, 97, 110, 103, 101, 115, 46, 115, 116, 97, 116, 101, 41, 46, 107, 105, 110, 100]))), (.int .i64 7, .iface "func" (.lit (.string [40, 42, 102, 97, 99, 115, 105, 109, 105, 108, 101, 47, 114, 97, 110, 103, 101, 115, 46, 115, 116, 97, 116, 101, 41, 46, 99, 101, 108, 108]))), (.int .i64 8, .iface "func" (.lit (.string [40, 42, 102, 97, 99, 115, 105, 109, 105, 108, 101, 47, 114, 97, 110, 103, 101, 115, 46, 115, 116, 97, 116, 101, 41, 46, 99, 101, 108, 108]))), (.int .i64 9, .iface "func" (.lit (.string [40, 42, 102, 97, 99, 115, 105, 109, 105, 108, 101, 47, 114, 97, 110, 103, 101, 115, 46, 115, 116, 97, 116, 101, 41, 46, 105, 110, 100, 101, 120]))), (.int .i64 10, .iface "func" (.lit (.string [40, 42, 102, 97, 99, 115, 105, 109, 105, 108, 101, 47, 114, 97, 110, 103, 101, 115, 46, 115, 116, 97, 116, 101, 41, 46, 108, 111, 97, 100]))), (.int .i64 11, .iface "func" (.lit (.string [40, 42, 102, 97, 99, 115, 105, 109, 105, 108, 101, 47, 114, 97, 110, 103, 101, 115, 46, 115, 116, 97, 116, 101, 41, 46, 99, 101, 108, 108]))), (.int .i64 12, .iface "func" (.lit (.string [40, 42, 102, 97, 99, 115, 105, 109, 105, 108, 101, 47, 114, 97, 110, 103, 101, 115, 46, 115, 116, 97, 116, 101, 41, 46, 97, 116]))), (.int .i64 13, .iface "func" (.lit (.string [40, 42, 102, 97, 99, 115, 105, 109, 105, 108, 101, 47, 114, 97, 110, 103, 101, 115, 46, 115, 116, 97, 116, 101, 41, 46, 105, 110, 100, 101, 120]))), (.int .i64 14, .iface "func" (.lit (.string [40, 42, 102, 97, 99, 115, 105, 109, 105, 108, 101, 47, 114, 97, 110, 103, 101, 115, 46, 115, 116, 97, 116, 101, 41, 46, 108, 101, 110, 103, 116, 104]))), (.int .i64 16, .iface "func" (.lit (.string [40, 42, 102, 97, 99, 115, 105, 109, 105, 108, 101, 47, 114, 97, 110, 103, 101, 115, 46, 115, 116, 97, 116, 101, 41, 46, 102, 114, 101, 115, 104]))), (.int .i64 17, .iface "func" (.lit (.string [40, 42, 102, 97, 99, 115, 105, 109, 105, 108, 101, 47, 114, 97, 110, 103, 101, 115, 46, 115, 116, 97, 116, 101, 41, 46, 102, 114, 101, 115, 104]))), (.int .i64 19, .iface "func" (.lit (.string [40, 42, 102, 97, 99, 115, 105, 109, 105, 108, 101, 47, 114, 97, 110, 103, 101, 115, 46, 115, 116, 97, 116, 101, 41, 46, 112, 114, 105, 110, 116])))])

/-- 'facsimilelaw18.RangesContains': WHATEVER THE INPUT: true; the input reads as it did. -/
def rangesContainsSpec : ChangeSpec := { name := "rangesContains", fn := fun _ => fun
  | [d1, d2] => { results := [.lit (.bool true)], args := [d1, d2] }
  | _ => none }
def rangesContainsRow : OpenClaim := { program := "ytkbgcnppkmkkiaadoor", sum := "fb10c4d840bf7922296f2983c677662c43161bf83d1137e557cf294822a420ec", func := "facsimile/facsimilelaw18.RangesContains", spec := "rangesContains", unfollowed := true, recurses := true, named := ["facsimile/ranges.rules", "facsimile/ranges.arithmetic"], apart := false, laid := [("facsimile/ranges.arithmetic", laid_facsimile_ranges_arithmetic), ("facsimile/ranges.rules", laid_facsimile_ranges_rules)] }
def RangesContainsSaid : Prop := rangesContainsRow.holds Tryd.pinned (OpenSpec.ofChange rangesContainsSpec)

/-- ITS FALSE NEIGHBOUR: 'it returns false'. Refute it at one input. -/
def rangesContainsWrong : ChangeSpec := { name := "rangesContains", fn := fun _ => fun
  | [d1, d2] => { results := [.lit (.bool false)], args := [d1, d2] }
  | _ => none }
def RangesContainsWrongFalsely : Prop := rangesContainsRow.holds Tryd.pinned (OpenSpec.ofChange rangesContainsWrong)

/- THE SECOND FORM. 'bulk': how many values and letters a reading holds, each counted each time it is reached (what is shared counts as often as it is met; a slice's spare places count too). A statement '..UptoSaid' is the law's where the arguments, and the package variables that the reading takes, are together of bulk at most 1048576: NARROWER than '..Said'. Prove '..Said' where nothing that the law and all that it calls make is longer than what came in: it says more and counts as full. Else prove '..UptoSaid'. A law counts once. -/
mutual
def uptoBulk {H : Type} : DataW H → Nat
  | .lit (.string bytes) => bytes.length + 1
  | .lit _ => 1
  | .nil => 1
  | .ptr d => uptoBulk d + 1
  | .slice elems spare => uptoBulkAll elems + uptoBulkAll spare + 1
  | .agg parts => uptoBulkAll parts + 1
  | .iface _ d => uptoBulk d + 1
  | .map entries => uptoBulkEntries entries + 1
  | .held _ => 1
def uptoBulkAll {H : Type} : List (DataW H) → Nat
  | [] => 0
  | d :: r => uptoBulk d + uptoBulkAll r
def uptoBulkEntries {H : Type} : List (Lit × DataW H) → Nat
  | [] => 0
  | x :: r => uptoBulkEntry x + uptoBulkEntries r
def uptoBulkEntry {H : Type} : Lit × DataW H → Nat
  | (.string bytes, d) => bytes.length + uptoBulk d + 1
  | (_, d) => uptoBulk d + 1
 end
def uptoSmall : (H : Type) → List (DataW H) → Bool := fun _ ds => decide (uptoBulkAll ds ≤ 1048576)
def OpenSpec.upto (s : _root_.Go.ChangeSpec) : _root_.Go.OpenSpec := { _root_.Go.OpenSpec.ofChange s with cond := some uptoSmall }

/-- 'facsimilelaw18.RangesContains', WHERE WHAT IT READS IS OF BULK AT MOST 1048576: true; the input reads as it did. -/
def rangesContainsUptoRow : OpenClaim := { program := "ytkbgcnppkmkkiaadoor", sum := "fb10c4d840bf7922296f2983c677662c43161bf83d1137e557cf294822a420ec", func := "facsimile/facsimilelaw18.RangesContains", spec := "rangesContains", unfollowed := true, recurses := true, named := ["facsimile/ranges.rules", "facsimile/ranges.arithmetic"], apart := false, laid := [("facsimile/ranges.arithmetic", laid_facsimile_ranges_arithmetic), ("facsimile/ranges.rules", laid_facsimile_ranges_rules)], narrowed := true }
def RangesContainsUptoSaid : Prop := rangesContainsUptoRow.holds Tryd.pinned (OpenSpec.upto rangesContainsSpec)

end Rows
end Go.Proofs.YtkbgcnppkmkkiaaDoor

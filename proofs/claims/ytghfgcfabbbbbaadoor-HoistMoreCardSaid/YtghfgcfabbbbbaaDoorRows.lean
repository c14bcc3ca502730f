/-
  NARROWER THAN 'FOR EVERY INPUT', by the rows' own cells (each row's printed sentence says how): HoistStays: laid · HoistMore: laid.
  DERIVED. THE GIVEN ROWS OF THIS SEAT. 2 by the template 'for every input the law returns true; each argument reads behind the call as it read before'; 0 by the template 'total and deterministic' (their statements: YtghfgcfabbbbbaaDoorTotals.lean).
  GIVEN WITH THE SEED: the statements are not yours to turn. If you find one false, say at which input.
  Laid BY PROGRAM, IN A SANDBOX (cutbox-rows.mjs): the forced cells as the released guide's own fill.sh prints them over the translation 16545aabe556ff18… (all of the seat's roots in one cut). By AI agents, Wed Nov 11 2026. No macro, syntax, notation, axiom, sorry.
-/
import Derived.Test.YtghfgcfabbbbbaaDoorChecked
import GoSem.Claim
import GoSem.ClaimJoined
import GoSem.ClaimMapViews
import Derived.JoinedTies
import Derived.KernelRfl
namespace Go.Proofs.YtghfgcfabbbbbaaDoor
/- THE CELL 'sum', in the pinned program and in every row, IS THE sha256 OF THE DUMP (.gsa) THAT YtghfgcfabbbbbaaDoorProg.lean LOADS. Nothing in Lean hashes anything: it is a label: what it is worth is what the hold of that sum in a sandbox is worth. -/
noncomputable def Tryd.pinned : Pinned := { name := "ytghfgcfabbbbbaadoor", sum := "16545aabe556ff18e55ab1058fc094ba306ef8a98859b23833e951f68963057a", checked := Tryd.checked }
namespace Rows
def none {H : Type} : Left H := { results := [], args := [] }

/- WHAT THE LISTED PACKAGE-LEVEL VARIABLES READ AS WHEN THE CALL BEGINS. Each datum BY PROGRAM (the guide's laid-datum.mjs) off the statement by which the dump's own 'gosem.cut.vars' lays the variable. In a bare row this is a premise. The card (YtghfgcfabbbbbaaDoorCards.lean) ties it to the program's text. -/
def laid_facsimile_hoist_table {H : Type} : DataW H := .iface "func table" (.agg [.agg [.lit (.int .i64 0), .nil], .agg [.lit (.int .i64 0), .nil], .agg [.lit (.int .i64 0), .iface "func" (.lit (.string [102, 97, 99, 115, 105, 109, 105, 108, 101, 47, 104, 111, 105, 115, 116, 46, 97, 108, 119, 97, 121, 115]))], .agg [.lit (.int .i64 1), .iface "func" (.lit (.string [102, 97, 99, 115, 105, 109, 105, 108, 101, 47, 104, 111, 105, 115, 116, 46, 97, 108, 119, 97, 121, 115]))], .agg [.lit (.int .i64 2), .iface "func" (.lit (.string [102, 97, 99, 115, 105, 109, 105, 108, 101, 47, 104, 111, 105, 115, 116, 46, 97, 108, 119, 97, 121, 115]))], .agg [.lit (.int .i64 1), .iface "func" (.lit (.string [102, 97, 99, 115, 105, 109, 105, 108, 101, 47, 104, 111, 105, 115, 116, 46, 97, 108, 119, 97, 121, 115]))], .agg [.lit (.int .i64 1), .iface "func" (.lit (.string [102, 97, 99, 115, 105, 109, 105, 108, 101, 47, 104, 111, 105, 115, 116, 46, 97, 108, 119, 97, 121, 115]))], .agg [.lit (.int .i64 1), .iface "func" (.lit (.string [102, 97, 99, 115, 105, 109, 105, 108, 101, 47, 104, 111, 105, 115, 116, 46, 97, 108, 119, 97, 121, 115]))], .agg [.lit (.int .i64 1), .iface "func" (.lit (.string [102, 97, 99, 115, 105, 109, 105, 108, 101, 47, 104, 111, 105, 115, 116, 46, 97, 108, 119, 97, 121, 115]))], .agg [.lit (.int .i64 2), .iface "func" (.lit (.string [102, 97, 99, 115, 105, 109, 105, 108, 101, 47, 104, 111, 105, 115, 116, 46, 97, 108, 119, 97, 121, 115]))], .agg [.lit (.int .i64 1), .iface "func" (.lit (.string [102, 97, 99, 115, 105, 109, 105, 108, 101, 47, 104, 111, 105, 115, 116, 46, 116, 97, 98, 108, 101, 36, 49]))], .agg [.lit (.int .i64 0), .nil], .agg [.lit (.int .i64 2), .iface "func" (.lit (.string [102, 97, 99, 115, 105, 109, 105, 108, 101, 47, 104, 111, 105, 115, 116, 46, 116, 97, 98, 108, 101, 36, 50]))], .agg [.lit (.int .i64 0), .nil], .agg [.lit (.int .i64 1), .iface "func" (.lit (.string [102, 97, 99, 115, 105, 109, 105, 108, 101, 47, 104, 111, 105, 115, 116, 46, 97, 108, 119, 97, 121, 115]))]])

/-- 'facsimilelaw21.HoistStays': WHATEVER THE INPUT: true; the input reads as it did. -/
def hoistStaysSpec : ChangeSpec := { name := "hoistStays", fn := fun _ => fun
  | [d1, d2] => { results := [.lit (.bool true)], args := [d1, d2] }
  | _ => none }
def hoistStaysRow : OpenClaim := { program := "ytghfgcfabbbbbaadoor", sum := "16545aabe556ff18e55ab1058fc094ba306ef8a98859b23833e951f68963057a", func := "facsimile/facsimilelaw21.HoistStays", spec := "hoistStays", unfollowed := true, recurses := true, named := ["facsimile/hoist.table"], apart := false, laid := [("facsimile/hoist.table", laid_facsimile_hoist_table)] }
def HoistStaysSaid : Prop := hoistStaysRow.holds Tryd.pinned (OpenSpec.ofChange hoistStaysSpec)

/-- ITS FALSE NEIGHBOUR: 'it returns false'. Refute it at one input. -/
def hoistStaysWrong : ChangeSpec := { name := "hoistStays", fn := fun _ => fun
  | [d1, d2] => { results := [.lit (.bool false)], args := [d1, d2] }
  | _ => none }
def HoistStaysWrongFalsely : Prop := hoistStaysRow.holds Tryd.pinned (OpenSpec.ofChange hoistStaysWrong)

/-- 'facsimilelaw21.HoistMore': WHATEVER THE INPUT: true; the input reads as it did. -/
def hoistMoreSpec : ChangeSpec := { name := "hoistMore", fn := fun _ => fun
  | [d1, d2] => { results := [.lit (.bool true)], args := [d1, d2] }
  | _ => none }
def hoistMoreRow : OpenClaim := { program := "ytghfgcfabbbbbaadoor", sum := "16545aabe556ff18e55ab1058fc094ba306ef8a98859b23833e951f68963057a", func := "facsimile/facsimilelaw21.HoistMore", spec := "hoistMore", unfollowed := true, recurses := true, named := ["facsimile/hoist.table"], apart := false, laid := [("facsimile/hoist.table", laid_facsimile_hoist_table)] }
def HoistMoreSaid : Prop := hoistMoreRow.holds Tryd.pinned (OpenSpec.ofChange hoistMoreSpec)

/-- ITS FALSE NEIGHBOUR: 'it returns false'. Refute it at one input. -/
def hoistMoreWrong : ChangeSpec := { name := "hoistMore", fn := fun _ => fun
  | [d1, d2] => { results := [.lit (.bool false)], args := [d1, d2] }
  | _ => none }
def HoistMoreWrongFalsely : Prop := hoistMoreRow.holds Tryd.pinned (OpenSpec.ofChange hoistMoreWrong)

/- THE SECOND FORM. 'bulk': how many values and letters a reading holds, each counted each time it is reached (what is shared counts as often as it is met; a slice's spare places count too). A statement '..UptoSaid' is the law's where the arguments, and the package variables that the reading takes, are together of bulk at most 1048576: NARROWER than '..Said'. Prove '..Said' where nothing that the law and all that it calls make is longer than what came in: it says more and counts as full. Else prove '..UptoSaid'. A law counts once. -/
mutual
def uptoBulk {H : Type} : DataW H → Nat
  | .lit (.string bytes) => bytes.length + 1
  | .lit _ => 1
  | .nil => 1
  | .ptr d => uptoBulk d + 1
  | .slice elems spare => uptoBulkAll elems + uptoBulkAll spare + 1
  | .agg parts => uptoBulkAll parts + 1
  | .iface _ d => uptoBulk d + 1
  | .map entries => uptoBulkEntries entries + 1
  | .held _ => 1
def uptoBulkAll {H : Type} : List (DataW H) → Nat
  | [] => 0
  | d :: r => uptoBulk d + uptoBulkAll r
def uptoBulkEntries {H : Type} : List (Lit × DataW H) → Nat
  | [] => 0
  | x :: r => uptoBulkEntry x + uptoBulkEntries r
def uptoBulkEntry {H : Type} : Lit × DataW H → Nat
  | (.string bytes, d) => bytes.length + uptoBulk d + 1
  | (_, d) => uptoBulk d + 1
 end
def uptoSmall : (H : Type) → List (DataW H) → Bool := fun _ ds => decide (uptoBulkAll ds ≤ 1048576)
def OpenSpec.upto (s : _root_.Go.ChangeSpec) : _root_.Go.OpenSpec := { _root_.Go.OpenSpec.ofChange s with cond := some uptoSmall }

/-- 'facsimilelaw21.HoistStays', WHERE WHAT IT READS IS OF BULK AT MOST 1048576: true; the input reads as it did. -/
def hoistStaysUptoRow : OpenClaim := { program := "ytghfgcfabbbbbaadoor", sum := "16545aabe556ff18e55ab1058fc094ba306ef8a98859b23833e951f68963057a", func := "facsimile/facsimilelaw21.HoistStays", spec := "hoistStays", unfollowed := true, recurses := true, named := ["facsimile/hoist.table"], apart := false, laid := [("facsimile/hoist.table", laid_facsimile_hoist_table)], narrowed := true }
def HoistStaysUptoSaid : Prop := hoistStaysUptoRow.holds Tryd.pinned (OpenSpec.upto hoistStaysSpec)

/-- 'facsimilelaw21.HoistMore', WHERE WHAT IT READS IS OF BULK AT MOST 1048576: true; the input reads as it did. -/
def hoistMoreUptoRow : OpenClaim := { program := "ytghfgcfabbbbbaadoor", sum := "16545aabe556ff18e55ab1058fc094ba306ef8a98859b23833e951f68963057a", func := "facsimile/facsimilelaw21.HoistMore", spec := "hoistMore", unfollowed := true, recurses := true, named := ["facsimile/hoist.table"], apart := false, laid := [("facsimile/hoist.table", laid_facsimile_hoist_table)], narrowed := true }
def HoistMoreUptoSaid : Prop := hoistMoreUptoRow.holds Tryd.pinned (OpenSpec.upto hoistMoreSpec)

end Rows
end Go.Proofs.YtghfgcfabbbbbaaDoor

/-
  DERIVED. GIVEN WITH THE SEED: THE CARDS: each row of YtkbgcnppkmkkiaaDoorRows.lean that lists a variable, with what it lists TIED to the program's text (the seventh form; the later family's looks); each row that meets fmt, with fmt's text TOLD by the authors' own Lean function (tested against real Go, not proved from fmt's source: count such statements apart). THE CARD IS WHAT COUNTS. Prove the row's statement (the work); the ties are given (YtkbgcnppkmkkiaaDoorTie.lean); close each card by the builder's one call (the guide's Derived/Test/ToyasCard.lean, 'card_holds'). Laid BY PROGRAM, IN A SANDBOX (cutbox-door.mjs). By AI agents, Wed Nov 11 2026. No macro, syntax, notation, axiom, sorry.
-/
import Derived.Test.YtkbgcnppkmkkiaaDoorRows
import GoSem.ClaimSeven
namespace Go.Proofs.YtkbgcnppkmkkiaaDoor
namespace Rows

/-- THE TIED CARD OF 'facsimilelaw18.RangesContains'. -/
def rangesContainsCard : Claim7 := { stood := { row := rangesContainsRow, standIns := [], harness := (true, "9e8684bf11db91e1554656f6944c17d95a9d484ae274b1f6152ed03ad84bf118"), looks := false }, kinds := [], alts := [], laidByText := true, laidKinds := [.funcs, .funcs], laidTests := true, laidLooks := .later }
def RangesContainsCardSaid : Prop := Claim7.holds Tryd.pinned (.plain (OpenSpec.ofChange rangesContainsSpec)) rangesContainsCard

/-- THE SECOND FORM's CARD OF 'facsimilelaw18.RangesContains'. -/
def rangesContainsUptoCard : Claim7 := { stood := { row := rangesContainsUptoRow, standIns := [], harness := (true, "9e8684bf11db91e1554656f6944c17d95a9d484ae274b1f6152ed03ad84bf118"), looks := false }, kinds := [], alts := [], laidByText := true, laidKinds := [.funcs, .funcs], laidTests := true, laidLooks := .later }
def RangesContainsUptoCardSaid : Prop := Claim7.holds Tryd.pinned (.plain (OpenSpec.upto rangesContainsSpec)) rangesContainsUptoCard
end Rows
end Go.Proofs.YtkbgcnppkmkkiaaDoor

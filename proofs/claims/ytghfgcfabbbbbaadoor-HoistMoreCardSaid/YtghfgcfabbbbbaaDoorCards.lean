/-
  DERIVED. GIVEN WITH THE SEED: THE CARDS: each row of YtghfgcfabbbbbaaDoorRows.lean that lists a variable, with what it lists TIED to the program's text (the seventh form; the later family's looks); each row that meets fmt, with fmt's text TOLD by the authors' own Lean function (tested against real Go, not proved from fmt's source: count such statements apart). THE CARD IS WHAT COUNTS. Prove the row's statement (the work); the ties are given (YtghfgcfabbbbbaaDoorTie.lean); close each card by the builder's one call (the guide's Derived/Test/ToyasCard.lean, 'card_holds'). Laid BY PROGRAM, IN A SANDBOX (cutbox-door.mjs). By AI agents, Wed Nov 11 2026. No macro, syntax, notation, axiom, sorry.
-/
import Derived.Test.YtghfgcfabbbbbaaDoorRows
import GoSem.ClaimSeven
namespace Go.Proofs.YtghfgcfabbbbbaaDoor
namespace Rows

/-- THE TIED CARD OF 'facsimilelaw21.HoistStays'. -/
def hoistStaysCard : Claim7 := { stood := { row := hoistStaysRow, standIns := [], harness := (true, "f754613156a72bc51dc0a70477b7d99f3df1cc1e62075d4986c884be226aac6f"), looks := false }, kinds := [], alts := [], laidByText := true, laidKinds := [.funcs], laidTests := true, laidLooks := .later }
def HoistStaysCardSaid : Prop := Claim7.holds Tryd.pinned (.plain (OpenSpec.ofChange hoistStaysSpec)) hoistStaysCard

/-- THE TIED CARD OF 'facsimilelaw21.HoistMore'. -/
def hoistMoreCard : Claim7 := { stood := { row := hoistMoreRow, standIns := [], harness := (true, "f754613156a72bc51dc0a70477b7d99f3df1cc1e62075d4986c884be226aac6f"), looks := false }, kinds := [], alts := [], laidByText := true, laidKinds := [.funcs], laidTests := true, laidLooks := .later }
def HoistMoreCardSaid : Prop := Claim7.holds Tryd.pinned (.plain (OpenSpec.ofChange hoistMoreSpec)) hoistMoreCard

/-- THE SECOND FORM's CARD OF 'facsimilelaw21.HoistStays'. -/
def hoistStaysUptoCard : Claim7 := { stood := { row := hoistStaysUptoRow, standIns := [], harness := (true, "f754613156a72bc51dc0a70477b7d99f3df1cc1e62075d4986c884be226aac6f"), looks := false }, kinds := [], alts := [], laidByText := true, laidKinds := [.funcs], laidTests := true, laidLooks := .later }
def HoistStaysUptoCardSaid : Prop := Claim7.holds Tryd.pinned (.plain (OpenSpec.upto hoistStaysSpec)) hoistStaysUptoCard

/-- THE SECOND FORM's CARD OF 'facsimilelaw21.HoistMore'. -/
def hoistMoreUptoCard : Claim7 := { stood := { row := hoistMoreUptoRow, standIns := [], harness := (true, "f754613156a72bc51dc0a70477b7d99f3df1cc1e62075d4986c884be226aac6f"), looks := false }, kinds := [], alts := [], laidByText := true, laidKinds := [.funcs], laidTests := true, laidLooks := .later }
def HoistMoreUptoCardSaid : Prop := Claim7.holds Tryd.pinned (.plain (OpenSpec.upto hoistMoreSpec)) hoistMoreUptoCard
end Rows
end Go.Proofs.YtghfgcfabbbbbaaDoor

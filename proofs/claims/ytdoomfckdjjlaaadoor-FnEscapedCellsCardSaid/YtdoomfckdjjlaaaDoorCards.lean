/-
  DERIVED. GIVEN WITH THE SEED: THE CARDS: each row of YtdoomfckdjjlaaaDoorRows.lean that lists a variable, with what it lists TIED to the program's text (the seventh form; the later family's looks); each row that meets fmt, with fmt's text TOLD by the authors' own Lean function (tested against real Go, not proved from fmt's source: count such statements apart). THE CARD IS WHAT COUNTS. Prove the row's statement (the work); the ties are given (YtdoomfckdjjlaaaDoorTie.lean); close each card by the builder's one call (the guide's Derived/Test/ToyasCard.lean, 'card_holds'). Laid BY PROGRAM, IN A SANDBOX (cutbox-door.mjs). By AI agents, Wed Nov 11 2026. No macro, syntax, notation, axiom, sorry.
-/
import Derived.Test.YtdoomfckdjjlaaaDoorRows
import GoSem.ClaimSeven
namespace Go.Proofs.YtdoomfckdjjlaaaDoor
namespace Rows

/-- THE TIED CARD OF 'laws.FnEscapedCells'. -/
def fnEscapedCellsCard : Claim7 := { stood := { row := fnEscapedCellsRow, standIns := [], harness := (true, "6acb5fec5bc40c2007956394033647af4d97c1def0ee90796644eba57efe9882"), looks := false }, kinds := [], alts := [], laidByText := true, laidKinds := [.data, .pinned], laidTests := true, laidLooks := .later }
def FnEscapedCellsCardSaid : Prop := Claim7.holds Tryd.pinned (.plain (OpenSpec.ofChange fnEscapedCellsSpec)) fnEscapedCellsCard

/-- THE SECOND FORM's CARD OF 'laws.FnEscapedCells'. -/
def fnEscapedCellsUptoCard : Claim7 := { stood := { row := fnEscapedCellsUptoRow, standIns := [], harness := (true, "6acb5fec5bc40c2007956394033647af4d97c1def0ee90796644eba57efe9882"), looks := false }, kinds := [], alts := [], laidByText := true, laidKinds := [.data, .pinned], laidTests := true, laidLooks := .later }
def FnEscapedCellsUptoCardSaid : Prop := Claim7.holds Tryd.pinned (.plain (OpenSpec.upto fnEscapedCellsSpec)) fnEscapedCellsUptoCard
end Rows
end Go.Proofs.YtdoomfckdjjlaaaDoor

/-
  DERIVED. GIVEN WITH THE SEED: THE CARDS: each row of YtoajdkcdjdbliaaDoorRows.lean that lists a variable, with what it lists TIED to the program's text (the seventh form; the later family's looks); each row that meets fmt, with fmt's text TOLD by the authors' own Lean function (tested against real Go, not proved from fmt's source: count such statements apart). THE CARD IS WHAT COUNTS. Prove the row's statement (the work); the ties are given (YtoajdkcdjdbliaaDoorTie.lean); close each card by the builder's one call (the guide's Derived/Test/ToyasCard.lean, 'card_holds'). Laid BY PROGRAM, IN A SANDBOX (cutbox-door.mjs). By AI agents, Wed Nov 11 2026. No macro, syntax, notation, axiom, sorry.
-/
import Derived.Test.YtoajdkcdjdbliaaDoorRows
import GoSem.ClaimSeven
namespace Go.Proofs.YtoajdkcdjdbliaaDoor
namespace Rows

/-- THE TIED CARD OF 'laws.FnExactQuoteText'. -/
def fnExactQuoteTextCard : Claim7 := { stood := { row := fnExactQuoteTextRow, standIns := [], harness := (true, "fb6725706a6a9c8de4cf14e98765760358dead022da9e2ea7dd6d1151a9fa5a6"), looks := false }, kinds := [], alts := [], laidByText := true, laidKinds := [.data, .pinned], laidTests := true, laidLooks := .later }
def FnExactQuoteTextCardSaid : Prop := Claim7.holds Tryd.pinned (.plain (OpenSpec.ofChange fnExactQuoteTextSpec)) fnExactQuoteTextCard

/-- THE TIED CARD OF 'laws.FnQuoteText'. -/
def fnQuoteTextCard : Claim7 := { stood := { row := fnQuoteTextRow, standIns := [], harness := (true, "fb6725706a6a9c8de4cf14e98765760358dead022da9e2ea7dd6d1151a9fa5a6"), looks := false }, kinds := [], alts := [], laidByText := true, laidKinds := [.data, .pinned], laidTests := true, laidLooks := .later }
def FnQuoteTextCardSaid : Prop := Claim7.holds Tryd.pinned (.plain (OpenSpec.ofChange fnQuoteTextSpec)) fnQuoteTextCard

/-- THE TIED CARD OF 'laws.FnExactFillStatement'. -/
def fnExactFillStatementCard : Claim7 := { stood := { row := fnExactFillStatementRow, standIns := [], harness := (true, "fb6725706a6a9c8de4cf14e98765760358dead022da9e2ea7dd6d1151a9fa5a6"), looks := false }, kinds := [], alts := [], laidByText := true, laidKinds := [.data, .pinned], laidTests := true, laidLooks := .later }
def FnExactFillStatementCardSaid : Prop := Claim7.holds Tryd.pinned (.plain (OpenSpec.ofChange fnExactFillStatementSpec)) fnExactFillStatementCard

/-- THE TIED CARD OF 'laws.FnStatementShape'. -/
def fnStatementShapeCard : Claim7 := { stood := { row := fnStatementShapeRow, standIns := [], harness := (true, "fb6725706a6a9c8de4cf14e98765760358dead022da9e2ea7dd6d1151a9fa5a6"), looks := false }, kinds := [], alts := [], laidByText := true, laidKinds := [.data, .pinned], laidTests := true, laidLooks := .later }
def FnStatementShapeCardSaid : Prop := Claim7.holds Tryd.pinned (.plain (OpenSpec.ofChange fnStatementShapeSpec)) fnStatementShapeCard

/-- THE TIED CARD OF 'laws.FnFillStatement'. -/
def fnFillStatementCard : Claim7 := { stood := { row := fnFillStatementRow, standIns := [], harness := (true, "fb6725706a6a9c8de4cf14e98765760358dead022da9e2ea7dd6d1151a9fa5a6"), looks := false }, kinds := [], alts := [], laidByText := true, laidKinds := [.data, .pinned], laidTests := true, laidLooks := .later }
def FnFillStatementCardSaid : Prop := Claim7.holds Tryd.pinned (.plain (OpenSpec.ofChange fnFillStatementSpec)) fnFillStatementCard

/-- THE SECOND FORM's CARD OF 'laws.FnExactQuoteText'. -/
def fnExactQuoteTextUptoCard : Claim7 := { stood := { row := fnExactQuoteTextUptoRow, standIns := [], harness := (true, "fb6725706a6a9c8de4cf14e98765760358dead022da9e2ea7dd6d1151a9fa5a6"), looks := false }, kinds := [], alts := [], laidByText := true, laidKinds := [.data, .pinned], laidTests := true, laidLooks := .later }
def FnExactQuoteTextUptoCardSaid : Prop := Claim7.holds Tryd.pinned (.plain (OpenSpec.upto fnExactQuoteTextSpec)) fnExactQuoteTextUptoCard

/-- THE SECOND FORM's CARD OF 'laws.FnQuoteText'. -/
def fnQuoteTextUptoCard : Claim7 := { stood := { row := fnQuoteTextUptoRow, standIns := [], harness := (true, "fb6725706a6a9c8de4cf14e98765760358dead022da9e2ea7dd6d1151a9fa5a6"), looks := false }, kinds := [], alts := [], laidByText := true, laidKinds := [.data, .pinned], laidTests := true, laidLooks := .later }
def FnQuoteTextUptoCardSaid : Prop := Claim7.holds Tryd.pinned (.plain (OpenSpec.upto fnQuoteTextSpec)) fnQuoteTextUptoCard

/-- THE SECOND FORM's CARD OF 'laws.FnExactFillStatement'. -/
def fnExactFillStatementUptoCard : Claim7 := { stood := { row := fnExactFillStatementUptoRow, standIns := [], harness := (true, "fb6725706a6a9c8de4cf14e98765760358dead022da9e2ea7dd6d1151a9fa5a6"), looks := false }, kinds := [], alts := [], laidByText := true, laidKinds := [.data, .pinned], laidTests := true, laidLooks := .later }
def FnExactFillStatementUptoCardSaid : Prop := Claim7.holds Tryd.pinned (.plain (OpenSpec.upto fnExactFillStatementSpec)) fnExactFillStatementUptoCard

/-- THE SECOND FORM's CARD OF 'laws.FnStatementShape'. -/
def fnStatementShapeUptoCard : Claim7 := { stood := { row := fnStatementShapeUptoRow, standIns := [], harness := (true, "fb6725706a6a9c8de4cf14e98765760358dead022da9e2ea7dd6d1151a9fa5a6"), looks := false }, kinds := [], alts := [], laidByText := true, laidKinds := [.data, .pinned], laidTests := true, laidLooks := .later }
def FnStatementShapeUptoCardSaid : Prop := Claim7.holds Tryd.pinned (.plain (OpenSpec.upto fnStatementShapeSpec)) fnStatementShapeUptoCard

/-- THE SECOND FORM's CARD OF 'laws.FnFillStatement'. -/
def fnFillStatementUptoCard : Claim7 := { stood := { row := fnFillStatementUptoRow, standIns := [], harness := (true, "fb6725706a6a9c8de4cf14e98765760358dead022da9e2ea7dd6d1151a9fa5a6"), looks := false }, kinds := [], alts := [], laidByText := true, laidKinds := [.data, .pinned], laidTests := true, laidLooks := .later }
def FnFillStatementUptoCardSaid : Prop := Claim7.holds Tryd.pinned (.plain (OpenSpec.upto fnFillStatementSpec)) fnFillStatementUptoCard
end Rows
end Go.Proofs.YtoajdkcdjdbliaaDoor

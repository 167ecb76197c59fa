/-
  DERIVED. GIVEN WITH THE SEED: THE CARDS: each row of YtfidcfjmmhghjaaDoorRows.lean that lists a variable, with what it lists TIED to the program's text (the seventh form; the later family's looks); each row that meets fmt, with fmt's text TOLD by the authors' own Lean function (tested against real Go, not proved from fmt's source: count such statements apart). THE CARD IS WHAT COUNTS. Prove the row's statement (the work); the ties are given (YtfidcfjmmhghjaaDoorTie.lean); close each card by the builder's one call (the guide's Derived/Test/ToyasCard.lean, 'card_holds'). Laid BY PROGRAM, IN A SANDBOX (cutbox-door.mjs). By AI agents, Wed Nov 11 2026. No macro, syntax, notation, axiom, sorry.
-/
import Derived.Test.YtfidcfjmmhghjaaDoorRows
import GoSem.ClaimSeven
namespace Go.Proofs.YtfidcfjmmhghjaaDoor
namespace Rows

/-- THE TIED CARD OF 'laws.FnExactGroupNumber'. -/
def fnExactGroupNumberCard : Claim7 := { stood := { row := fnExactGroupNumberRow, standIns := [], harness := (true, "27593d47c11fbafcb961326acdff7220fef5a47c5ef2c712d6fe260eb9914d77"), looks := true }, kinds := [], alts := [], laidByText := true, laidKinds := [.data, .data, .data], laidTests := true, laidLooks := .later }
def FnExactGroupNumberCardSaid : Prop := Claim7.holds Tryd.pinned (.plain (OpenSpec.ofChange fnExactGroupNumberSpec)) fnExactGroupNumberCard

/-- THE TIED CARD OF 'laws.FnExactUngroupNumber'. -/
def fnExactUngroupNumberCard : Claim7 := { stood := { row := fnExactUngroupNumberRow, standIns := [], harness := (true, "27593d47c11fbafcb961326acdff7220fef5a47c5ef2c712d6fe260eb9914d77"), looks := true }, kinds := [], alts := [], laidByText := true, laidKinds := [.data, .data, .data, .data, .sentinel, .sentinel, .pinned], laidTests := true, laidLooks := .later }
def FnExactUngroupNumberCardSaid : Prop := Claim7.holds Tryd.pinned (.plain (OpenSpec.ofChange fnExactUngroupNumberSpec)) fnExactUngroupNumberCard

/-- THE TIED CARD OF 'laws.FnGroupNumber'. -/
def fnGroupNumberCard : Claim7 := { stood := { row := fnGroupNumberRow, standIns := [], harness := (true, "27593d47c11fbafcb961326acdff7220fef5a47c5ef2c712d6fe260eb9914d77"), looks := true }, kinds := [], alts := [], laidByText := true, laidKinds := [.data, .data, .data, .data, .sentinel, .sentinel, .pinned], laidTests := true, laidLooks := .later }
def FnGroupNumberCardSaid : Prop := Claim7.holds Tryd.pinned (.plain (OpenSpec.ofChange fnGroupNumberSpec)) fnGroupNumberCard

/-- THE TIED CARD OF 'laws.FnUngroupNumber'. -/
def fnUngroupNumberCard : Claim7 := { stood := { row := fnUngroupNumberRow, standIns := [], harness := (true, "27593d47c11fbafcb961326acdff7220fef5a47c5ef2c712d6fe260eb9914d77"), looks := true }, kinds := [], alts := [], laidByText := true, laidKinds := [.data, .data, .data, .data, .sentinel, .sentinel, .pinned], laidTests := true, laidLooks := .later }
def FnUngroupNumberCardSaid : Prop := Claim7.holds Tryd.pinned (.plain (OpenSpec.ofChange fnUngroupNumberSpec)) fnUngroupNumberCard

/-- THE SECOND FORM's CARD OF 'laws.FnExactGroupNumber'. -/
def fnExactGroupNumberUptoCard : Claim7 := { stood := { row := fnExactGroupNumberUptoRow, standIns := [], harness := (true, "27593d47c11fbafcb961326acdff7220fef5a47c5ef2c712d6fe260eb9914d77"), looks := true }, kinds := [], alts := [], laidByText := true, laidKinds := [.data, .data, .data], laidTests := true, laidLooks := .later }
def FnExactGroupNumberUptoCardSaid : Prop := Claim7.holds Tryd.pinned (.plain (OpenSpec.upto fnExactGroupNumberSpec)) fnExactGroupNumberUptoCard

/-- THE SECOND FORM's CARD OF 'laws.FnExactUngroupNumber'. -/
def fnExactUngroupNumberUptoCard : Claim7 := { stood := { row := fnExactUngroupNumberUptoRow, standIns := [], harness := (true, "27593d47c11fbafcb961326acdff7220fef5a47c5ef2c712d6fe260eb9914d77"), looks := true }, kinds := [], alts := [], laidByText := true, laidKinds := [.data, .data, .data, .data, .sentinel, .sentinel, .pinned], laidTests := true, laidLooks := .later }
def FnExactUngroupNumberUptoCardSaid : Prop := Claim7.holds Tryd.pinned (.plain (OpenSpec.upto fnExactUngroupNumberSpec)) fnExactUngroupNumberUptoCard

/-- THE SECOND FORM's CARD OF 'laws.FnGroupNumber'. -/
def fnGroupNumberUptoCard : Claim7 := { stood := { row := fnGroupNumberUptoRow, standIns := [], harness := (true, "27593d47c11fbafcb961326acdff7220fef5a47c5ef2c712d6fe260eb9914d77"), looks := true }, kinds := [], alts := [], laidByText := true, laidKinds := [.data, .data, .data, .data, .sentinel, .sentinel, .pinned], laidTests := true, laidLooks := .later }
def FnGroupNumberUptoCardSaid : Prop := Claim7.holds Tryd.pinned (.plain (OpenSpec.upto fnGroupNumberSpec)) fnGroupNumberUptoCard

/-- THE SECOND FORM's CARD OF 'laws.FnUngroupNumber'. -/
def fnUngroupNumberUptoCard : Claim7 := { stood := { row := fnUngroupNumberUptoRow, standIns := [], harness := (true, "27593d47c11fbafcb961326acdff7220fef5a47c5ef2c712d6fe260eb9914d77"), looks := true }, kinds := [], alts := [], laidByText := true, laidKinds := [.data, .data, .data, .data, .sentinel, .sentinel, .pinned], laidTests := true, laidLooks := .later }
def FnUngroupNumberUptoCardSaid : Prop := Claim7.holds Tryd.pinned (.plain (OpenSpec.upto fnUngroupNumberSpec)) fnUngroupNumberUptoCard
end Rows
end Go.Proofs.YtfidcfjmmhghjaaDoor

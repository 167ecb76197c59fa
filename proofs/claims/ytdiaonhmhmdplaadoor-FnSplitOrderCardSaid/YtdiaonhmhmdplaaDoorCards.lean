/-
  DERIVED. GIVEN WITH THE SEED: THE CARDS: each row of YtdiaonhmhmdplaaDoorRows.lean that lists a variable, with what it lists TIED to the program's text (the seventh form; the later family's looks); each row that meets fmt, with fmt's text TOLD by the authors' own Lean function (tested against real Go, not proved from fmt's source: count such statements apart). THE CARD IS WHAT COUNTS. Prove the row's statement (the work); the ties are given (YtdiaonhmhmdplaaDoorTie.lean); close each card by the builder's one call (the guide's Derived/Test/ToyasCard.lean, 'card_holds'). Laid BY PROGRAM, IN A SANDBOX (cutbox-door.mjs). By AI agents, Wed Nov 11 2026. No macro, syntax, notation, axiom, sorry.
-/
import Derived.Test.YtdiaonhmhmdplaaDoorRows
import GoSem.ClaimSeven
namespace Go.Proofs.YtdiaonhmhmdplaaDoor
namespace Rows

/-- THE TIED CARD OF 'laws.FnSplitOrder'. -/
def fnSplitOrderCard : Claim7 := { stood := { row := fnSplitOrderRow, standIns := [], harness := (true, "846cbba729d156d090ea8fb84b488d7e8f7768c9fe72c9f95150816736688cdf"), looks := false }, kinds := [], alts := [], laidByText := true, laidKinds := [.data, .pinned], laidTests := true, laidLooks := .later }
def FnSplitOrderCardSaid : Prop := Claim7.holds Tryd.pinned (.plain (OpenSpec.ofChange fnSplitOrderSpec)) fnSplitOrderCard

/-- THE SECOND FORM's CARD OF 'laws.FnSplitOrder'. -/
def fnSplitOrderUptoCard : Claim7 := { stood := { row := fnSplitOrderUptoRow, standIns := [], harness := (true, "846cbba729d156d090ea8fb84b488d7e8f7768c9fe72c9f95150816736688cdf"), looks := false }, kinds := [], alts := [], laidByText := true, laidKinds := [.data, .pinned], laidTests := true, laidLooks := .later }
def FnSplitOrderUptoCardSaid : Prop := Claim7.holds Tryd.pinned (.plain (OpenSpec.upto fnSplitOrderSpec)) fnSplitOrderUptoCard
end Rows
end Go.Proofs.YtdiaonhmhmdplaaDoor

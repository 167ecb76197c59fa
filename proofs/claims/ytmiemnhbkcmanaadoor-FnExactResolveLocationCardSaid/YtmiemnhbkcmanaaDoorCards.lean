/-
  DERIVED. GIVEN WITH THE SEED: THE CARDS: each row of YtmiemnhbkcmanaaDoorRows.lean that lists a variable, with what it lists TIED to the program's text (the seventh form; the later family's looks); each row that meets fmt, with fmt's text TOLD by the authors' own Lean function (tested against real Go, not proved from fmt's source: count such statements apart). THE CARD IS WHAT COUNTS. Prove the row's statement (the work); the ties are given (YtmiemnhbkcmanaaDoorTie.lean); close each card by the builder's one call (the guide's Derived/Test/ToyasCard.lean, 'card_holds'). Laid BY PROGRAM, IN A SANDBOX (cutbox-door.mjs). By AI agents, Wed Nov 11 2026. No macro, syntax, notation, axiom, sorry.
-/
import Derived.Test.YtmiemnhbkcmanaaDoorRows
import GoSem.ClaimSeven
namespace Go.Proofs.YtmiemnhbkcmanaaDoor
namespace Rows

/-- THE TIED CARD OF 'laws.FnExactResolveLocation'. -/
def fnExactResolveLocationCard : Claim7 := { stood := { row := fnExactResolveLocationRow, standIns := [], harness := (true, "937b50a3020ce440e565e6bfbc16e95a455414eb10c2b690841a1d58fc2c24ca"), looks := false }, kinds := [], alts := [], laidByText := true, laidKinds := [.data, .pinned], laidTests := true, laidLooks := .later }
def FnExactResolveLocationCardSaid : Prop := Claim7.holds Tryd.pinned (.plain (OpenSpec.ofChange fnExactResolveLocationSpec)) fnExactResolveLocationCard

/-- THE SECOND FORM's CARD OF 'laws.FnExactResolveLocation'. -/
def fnExactResolveLocationUptoCard : Claim7 := { stood := { row := fnExactResolveLocationUptoRow, standIns := [], harness := (true, "937b50a3020ce440e565e6bfbc16e95a455414eb10c2b690841a1d58fc2c24ca"), looks := false }, kinds := [], alts := [], laidByText := true, laidKinds := [.data, .pinned], laidTests := true, laidLooks := .later }
def FnExactResolveLocationUptoCardSaid : Prop := Claim7.holds Tryd.pinned (.plain (OpenSpec.upto fnExactResolveLocationSpec)) fnExactResolveLocationUptoCard
end Rows
end Go.Proofs.YtmiemnhbkcmanaaDoor

/-
  DERIVED. GIVEN WITH THE SEED: THE CARDS: each row of YtjmbgmagemlfpaaDoorRows.lean that lists a variable, with what it lists TIED to the program's text (the seventh form; the later family's looks); each row that meets fmt, with fmt's text TOLD by the authors' own Lean function (tested against real Go, not proved from fmt's source: count such statements apart). THE CARD IS WHAT COUNTS. Prove the row's statement (the work); the ties are given (YtjmbgmagemlfpaaDoorTie.lean); close each card by the builder's one call (the guide's Derived/Test/ToyasCard.lean, 'card_holds'). Laid BY PROGRAM, IN A SANDBOX (cutbox-door.mjs). By AI agents, Wed Nov 11 2026. No macro, syntax, notation, axiom, sorry.
-/
import Derived.Test.YtjmbgmagemlfpaaDoorRows
import GoSem.ClaimSeven
namespace Go.Proofs.YtjmbgmagemlfpaaDoor
namespace Rows

/-- THE TIED CARD OF 'laws.FnExactQuoteWord'. -/
def fnExactQuoteWordCard : Claim7 := { stood := { row := fnExactQuoteWordRow, standIns := [], harness := (true, "596e4dbce59bc2f4df63bae8a63e330440555049d0f650c02263547d5e30133f"), looks := false }, kinds := [], alts := [], laidByText := true, laidKinds := [.data, .pinned], laidTests := true, laidLooks := .later }
def FnExactQuoteWordCardSaid : Prop := Claim7.holds Tryd.pinned (.plain (OpenSpec.ofChange fnExactQuoteWordSpec)) fnExactQuoteWordCard

/-- THE TIED CARD OF 'laws.FnExactOrderText'. -/
def fnExactOrderTextCard : Claim7 := { stood := { row := fnExactOrderTextRow, standIns := [], harness := (true, "596e4dbce59bc2f4df63bae8a63e330440555049d0f650c02263547d5e30133f"), looks := false }, kinds := [], alts := [], laidByText := true, laidKinds := [.data, .pinned], laidTests := true, laidLooks := .later }
def FnExactOrderTextCardSaid : Prop := Claim7.holds Tryd.pinned (.plain (OpenSpec.ofChange fnExactOrderTextSpec)) fnExactOrderTextCard

/-- THE TIED CARD OF 'laws.FnQuoteWord'. -/
def fnQuoteWordCard : Claim7 := { stood := { row := fnQuoteWordRow, standIns := [], harness := (true, "596e4dbce59bc2f4df63bae8a63e330440555049d0f650c02263547d5e30133f"), looks := false }, kinds := [], alts := [], laidByText := true, laidKinds := [.data, .pinned], laidTests := true, laidLooks := .later }
def FnQuoteWordCardSaid : Prop := Claim7.holds Tryd.pinned (.plain (OpenSpec.ofChange fnQuoteWordSpec)) fnQuoteWordCard

/-- THE TIED CARD OF 'laws.FnOrderText'. -/
def fnOrderTextCard : Claim7 := { stood := { row := fnOrderTextRow, standIns := [], harness := (true, "596e4dbce59bc2f4df63bae8a63e330440555049d0f650c02263547d5e30133f"), looks := false }, kinds := [], alts := [], laidByText := true, laidKinds := [.data, .pinned], laidTests := true, laidLooks := .later }
def FnOrderTextCardSaid : Prop := Claim7.holds Tryd.pinned (.plain (OpenSpec.ofChange fnOrderTextSpec)) fnOrderTextCard

/-- THE TIED CARD OF 'laws.FnSplitOrder'. -/
def fnSplitOrderCard : Claim7 := { stood := { row := fnSplitOrderRow, standIns := [], harness := (true, "596e4dbce59bc2f4df63bae8a63e330440555049d0f650c02263547d5e30133f"), looks := false }, kinds := [], alts := [], laidByText := true, laidKinds := [.data, .pinned], laidTests := true, laidLooks := .later }
def FnSplitOrderCardSaid : Prop := Claim7.holds Tryd.pinned (.plain (OpenSpec.ofChange fnSplitOrderSpec)) fnSplitOrderCard

/-- THE SECOND FORM's CARD OF 'laws.FnExactQuoteWord'. -/
def fnExactQuoteWordUptoCard : Claim7 := { stood := { row := fnExactQuoteWordUptoRow, standIns := [], harness := (true, "596e4dbce59bc2f4df63bae8a63e330440555049d0f650c02263547d5e30133f"), looks := false }, kinds := [], alts := [], laidByText := true, laidKinds := [.data, .pinned], laidTests := true, laidLooks := .later }
def FnExactQuoteWordUptoCardSaid : Prop := Claim7.holds Tryd.pinned (.plain (OpenSpec.upto fnExactQuoteWordSpec)) fnExactQuoteWordUptoCard

/-- THE SECOND FORM's CARD OF 'laws.FnExactOrderText'. -/
def fnExactOrderTextUptoCard : Claim7 := { stood := { row := fnExactOrderTextUptoRow, standIns := [], harness := (true, "596e4dbce59bc2f4df63bae8a63e330440555049d0f650c02263547d5e30133f"), looks := false }, kinds := [], alts := [], laidByText := true, laidKinds := [.data, .pinned], laidTests := true, laidLooks := .later }
def FnExactOrderTextUptoCardSaid : Prop := Claim7.holds Tryd.pinned (.plain (OpenSpec.upto fnExactOrderTextSpec)) fnExactOrderTextUptoCard

/-- THE SECOND FORM's CARD OF 'laws.FnQuoteWord'. -/
def fnQuoteWordUptoCard : Claim7 := { stood := { row := fnQuoteWordUptoRow, standIns := [], harness := (true, "596e4dbce59bc2f4df63bae8a63e330440555049d0f650c02263547d5e30133f"), looks := false }, kinds := [], alts := [], laidByText := true, laidKinds := [.data, .pinned], laidTests := true, laidLooks := .later }
def FnQuoteWordUptoCardSaid : Prop := Claim7.holds Tryd.pinned (.plain (OpenSpec.upto fnQuoteWordSpec)) fnQuoteWordUptoCard

/-- THE SECOND FORM's CARD OF 'laws.FnOrderText'. -/
def fnOrderTextUptoCard : Claim7 := { stood := { row := fnOrderTextUptoRow, standIns := [], harness := (true, "596e4dbce59bc2f4df63bae8a63e330440555049d0f650c02263547d5e30133f"), looks := false }, kinds := [], alts := [], laidByText := true, laidKinds := [.data, .pinned], laidTests := true, laidLooks := .later }
def FnOrderTextUptoCardSaid : Prop := Claim7.holds Tryd.pinned (.plain (OpenSpec.upto fnOrderTextSpec)) fnOrderTextUptoCard

/-- THE SECOND FORM's CARD OF 'laws.FnSplitOrder'. -/
def fnSplitOrderUptoCard : Claim7 := { stood := { row := fnSplitOrderUptoRow, standIns := [], harness := (true, "596e4dbce59bc2f4df63bae8a63e330440555049d0f650c02263547d5e30133f"), looks := false }, kinds := [], alts := [], laidByText := true, laidKinds := [.data, .pinned], laidTests := true, laidLooks := .later }
def FnSplitOrderUptoCardSaid : Prop := Claim7.holds Tryd.pinned (.plain (OpenSpec.upto fnSplitOrderSpec)) fnSplitOrderUptoCard
end Rows
end Go.Proofs.YtjmbgmagemlfpaaDoor

/-
  DERIVED. GIVEN WITH THE SEED: THE CARDS: each row of YtpplagecancccaaDoorRows.lean that lists a variable, with what it lists TIED to the program's text (the seventh form; the later family's looks); each row that meets fmt, with fmt's text TOLD by the authors' own Lean function (tested against real Go, not proved from fmt's source: count such statements apart). THE CARD IS WHAT COUNTS. Prove the row's statement (the work); the ties are given (YtpplagecancccaaDoorTie.lean); close each card by the builder's one call (the guide's Derived/Test/ToyasCard.lean, 'card_holds'). Laid BY PROGRAM, IN A SANDBOX (cutbox-door.mjs). By AI agents, Wed Nov 11 2026. No macro, syntax, notation, axiom, sorry.
-/
import Derived.Test.YtpplagecancccaaDoorRows
import GoSem.ClaimSeven
namespace Go.Proofs.YtpplagecancccaaDoor
namespace Rows

/-- THE TIED CARD OF 'laws.FnSourcesText'. -/
def fnSourcesTextCard : Claim7 := { stood := { row := fnSourcesTextRow, standIns := [], harness := (true, "b781ca0c09732f75c167c8a8e98279ad128b6965750891a5553a60594fff334d"), looks := false }, kinds := [], alts := [], laidByText := true, laidKinds := [.data, .pinned], laidTests := true, laidLooks := .later }
def FnSourcesTextCardSaid : Prop := Claim7.holds Tryd.pinned (.plain (OpenSpec.ofChange fnSourcesTextSpec)) fnSourcesTextCard

/-- THE TIED CARD OF 'laws.FnExactReadSources'. -/
def fnExactReadSourcesCard : Claim7 := { stood := { row := fnExactReadSourcesRow, standIns := [], harness := (true, "b781ca0c09732f75c167c8a8e98279ad128b6965750891a5553a60594fff334d"), looks := false }, kinds := [], alts := [], laidByText := true, laidKinds := [.data, .pinned], laidTests := true, laidLooks := .later }
def FnExactReadSourcesCardSaid : Prop := Claim7.holds Tryd.pinned (.plain (OpenSpec.ofChange fnExactReadSourcesSpec)) fnExactReadSourcesCard

/-- THE TIED CARD OF 'laws.FnReadSources'. -/
def fnReadSourcesCard : Claim7 := { stood := { row := fnReadSourcesRow, standIns := [], harness := (true, "b781ca0c09732f75c167c8a8e98279ad128b6965750891a5553a60594fff334d"), looks := false }, kinds := [], alts := [], laidByText := true, laidKinds := [.data, .pinned], laidTests := true, laidLooks := .later }
def FnReadSourcesCardSaid : Prop := Claim7.holds Tryd.pinned (.plain (OpenSpec.ofChange fnReadSourcesSpec)) fnReadSourcesCard

/-- THE SECOND FORM's CARD OF 'laws.FnSourcesText'. -/
def fnSourcesTextUptoCard : Claim7 := { stood := { row := fnSourcesTextUptoRow, standIns := [], harness := (true, "b781ca0c09732f75c167c8a8e98279ad128b6965750891a5553a60594fff334d"), looks := false }, kinds := [], alts := [], laidByText := true, laidKinds := [.data, .pinned], laidTests := true, laidLooks := .later }
def FnSourcesTextUptoCardSaid : Prop := Claim7.holds Tryd.pinned (.plain (OpenSpec.upto fnSourcesTextSpec)) fnSourcesTextUptoCard

/-- THE SECOND FORM's CARD OF 'laws.FnExactReadSources'. -/
def fnExactReadSourcesUptoCard : Claim7 := { stood := { row := fnExactReadSourcesUptoRow, standIns := [], harness := (true, "b781ca0c09732f75c167c8a8e98279ad128b6965750891a5553a60594fff334d"), looks := false }, kinds := [], alts := [], laidByText := true, laidKinds := [.data, .pinned], laidTests := true, laidLooks := .later }
def FnExactReadSourcesUptoCardSaid : Prop := Claim7.holds Tryd.pinned (.plain (OpenSpec.upto fnExactReadSourcesSpec)) fnExactReadSourcesUptoCard

/-- THE SECOND FORM's CARD OF 'laws.FnReadSources'. -/
def fnReadSourcesUptoCard : Claim7 := { stood := { row := fnReadSourcesUptoRow, standIns := [], harness := (true, "b781ca0c09732f75c167c8a8e98279ad128b6965750891a5553a60594fff334d"), looks := false }, kinds := [], alts := [], laidByText := true, laidKinds := [.data, .pinned], laidTests := true, laidLooks := .later }
def FnReadSourcesUptoCardSaid : Prop := Claim7.holds Tryd.pinned (.plain (OpenSpec.upto fnReadSourcesSpec)) fnReadSourcesUptoCard
end Rows
end Go.Proofs.YtpplagecancccaaDoor

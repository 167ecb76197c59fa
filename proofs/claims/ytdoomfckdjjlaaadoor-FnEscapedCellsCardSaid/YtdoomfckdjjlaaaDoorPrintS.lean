/- The reference's TokensValid and PrintTokens on tokens as tables have them. -/
import Derived.Test.YtdoomfckdjjlaaaDoorPrint
import Derived.Deep.RegionHeld3
namespace Go.Proofs.YtdoomfckdjjlaaaDoor
open Go.RowKit

/-- What the token before may be. -/
def PrevF (K : Nat) (pK : Nat) (pN : ByteArray) : Prop := ((pK : Int) != 5) = true ∧ (((pK : Int) == 2) = true ∧ (pN.toList == [115, 99, 114, 105, 112, 116]) = false ∨ ((pK : Int) == 2) = false) ∧ (K = 1 → ((pK : Int) != 1) = true)
end Go.Proofs.YtdoomfckdjjlaaaDoor

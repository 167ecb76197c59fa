/- The helpers' marks from one on, over bytes; what a law finds behind them. -/
import Derived.Test.YtgbdkajnlemblaaBytes
namespace Go.Proofs.Ytgbdkajnlemblaa
open Go.RowKit

/-- The values of an owned row can be read. -/
theorem own_formn_row {w : World} {B : Nat} {e : TypeId} {a : Option Addr} {m n c : Nat} {l : List Value} (h : w.ownsRow B e 1 (.slice a m c) n l) : RowAt w a l := by
  obtain ⟨a', c', hv, hr, _⟩ := own_formn h
  injection hv with h1
  subst h1
  exact hr

end Go.Proofs.Ytgbdkajnlemblaa

/- The walks of the laws FnExactGetPoint and FnExactPutPoint. -/
import Derived.Test.YtgbdkajnlemblaaGetImpl
namespace Go.Proofs.Ytgbdkajnlemblaa
open Go.RowKit

/-- The bytes that a slice of n numbers holds. -/
def argL (z : List Int) (n : Nat) : List UInt8 := (List.range n).map fun i => UInt8.ofNat (z.getD i 0).toNat
theorem argL_len (z : List Int) (n : Nat) : (argL z n).length = n := by simp [argL]
theorem arg_row {w : World} {a : Option Addr} {n c : Nat} {z : List Int} (h : IsRow .u8 w a n c z) : RowAt w a ((argL z n).map byteV) := bytes_row h.bytes

end Go.Proofs.Ytgbdkajnlemblaa

/- The walk of the law FnExactResolveLocation, whole. -/
import Derived.Test.YtmiemnhbkcmanaaDoorLawRes
import Derived.Test.YtmiemnhbkcmanaaDoorResS
namespace Go.Proofs.YtmiemnhbkcmanaaDoor
open Go.RowKit

theorem specOk : SpecOk := fun S H a n c P Q s w h1 h2 h3 h4 h5 h6 h7 h8 => spec_ResolveLocation S H a n c P Q s w h1 h2 h3 h4 h5 h6 h7 h8
theorem walk_FnExactResolveLocation (S H : ByteArray) (a : Option Addr) (n c : Nat) (z : List ByteArray) (Q s : ByteArray) (w : World) (hS : S.size ≤ maxLen) (hH : H.size ≤ maxLen) (hz : IsStrs w a n c z) (hQ : Q.size ≤ maxLen) (hs : s.size ≤ maxLen) (hm : MaxOk w) :
    Calls Tryd.prog 3 #[.agg #[.string S, .string H, .slice a n c, .string Q], .string s] w fun e w' => e = .returned (.bool true) ∧ Below w.heap.size w w' :=
  walk_core specOk S H a n c (argS z n) Q s w (by simpa [maxLen] using hS) (by simpa [maxLen] using hH) hz.row (argS_len z n) (Nat.le_trans hz.caps.1 hz.caps.2) hz.size (by simpa [maxLen] using hQ) (by simpa [maxLen] using hs) hm
end Go.Proofs.YtmiemnhbkcmanaaDoor

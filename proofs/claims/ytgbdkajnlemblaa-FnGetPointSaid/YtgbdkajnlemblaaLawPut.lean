/- The walks of the laws FnExactPutPoint. -/
import Derived.Test.YtgbdkajnlemblaaPoint
import Derived.Test.YtgbdkajnlemblaaMarkB
namespace Go.Proofs.Ytgbdkajnlemblaa
open Go.RowKit

theorem putP_le (n : Int) : (putP n).length ≤ 4 := by
  unfold putP
  split
  · split
    · simp
    · split
      · simp
      · split <;> simp
  · simp

end Go.Proofs.Ytgbdkajnlemblaa

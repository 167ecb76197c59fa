/- The walk of the law FnExactQuoteWord. -/
import Derived.Test.YtjmbgmagemlfpaaDoorQWord
namespace Go.Proofs.YtjmbgmagemlfpaaDoor
open Go.RowKit

set_option maxHeartbeats 800000 in
theorem walk_FnExactQuoteWord (s : ByteArray) (w : World) (hs : s.size ≤ maxLen) (hm : MaxOk w) :
    Calls Tryd.prog 3 #[.string s] w fun e w' => e = .returned (.bool true) ∧ Below w.heap.size w w' := by
  unfold maxLen at hs
  by_cases hn : 1048576 < s.size
  · go_enter Tryd.func3, Tryd.ntmps3
    go_wp2
    go_ret
    exact ⟨rfl, Below.refl _ _⟩
  · have CS : Hid (∀ W, Calls Tryd.prog 8 #[.string s] W fun e w' => e = .returned (.string (mkS (qwR (bl s)))) ∧ W = w') := fun W => spec_QuoteWord s W (by omega)
    have CI : Hid (∀ W, MaxOk W → Calls Tryd.prog 9 #[.string s] W fun e w' => e = .returned (.string (mkS (qwR (bl s)))) ∧ Below W.heap.size W w') := fun W h => impl_QuoteWord s W (by omega) h
    generalize mkS (qwR (bl s)) = y at CS CI
    have HM := Lib.hid hm
    clear hm
    go_enter Tryd.func3, Tryd.ntmps3
    go_wp2_with fail
    refine (CS.out _).mono ?_
    rintro e w1 ⟨rfl, rfl⟩
    go_wp2_with fail
    refine (CI.out _ HM.out).mono ?_
    rintro e w2 ⟨rfl, b2⟩
    go_wp2
    go_ret
    exact ⟨rfl, b2⟩
end Go.Proofs.YtjmbgmagemlfpaaDoor

/- The walk of the law FnExactStatementShape. -/
import Derived.Test.YtoajdkcdjdbliaaShpI
namespace Go.Proofs.Ytoajdkcdjdbliaa
open Go.RowKit

set_option maxRecDepth 100000 in
set_option maxHeartbeats 800000 in
theorem walk_FnExactStatementShape (s : ByteArray) (w : World) (hs : s.size ≤ maxLen) :
    Calls Try.prog 3 #[.string s] w fun e w' => e = .returned (.bool true) ∧ Below w.heap.size w w' := by
  unfold maxLen at hs
  by_cases hn : 1048576 < s.size
  · go_enter Try.func3, Try.ntmps3
    go_wp2
    go_ret
    exact ⟨rfl, Below.refl _ _⟩
  · have CS : Hid (∀ W, Calls Try.prog 6 #[.string s] W (StrOk W (shapeR (bl s)))) := fun W => spec_StatementShape s W (by omega)
    have CI : Hid (∀ W, Calls Try.prog 7 #[.string s] W (StrOk W (shapeR (bl s)))) := fun W => impl_StatementShape s W (by omega)
    generalize shapeR (bl s) = r at CS CI
    obtain ⟨r1, r2⟩ := r
    obtain ⟨x, hx⟩ : ∃ x, x = mkS r1 := ⟨_, rfl⟩
    have HX := Lib.hid hx
    clear hx
    go_enter Try.func3, Try.ntmps3
    go_wp2_with fail
    refine (CS.out _).mono ?_
    rintro e w1 ⟨rfl, b1⟩
    have B1 := Lib.hid b1
    clear b1
    go_wp2_with fail
    refine (CI.out _).mono ?_
    rintro e w2 ⟨rfl, b2⟩
    have B2 := Lib.hid (B1.out.trans (b2.mono B1.out.size))
    clear b2
    simp only [← HX.out]
    cases r2
    all_goals
      go_wp2
      go_ret
      exact ⟨rfl, B2.out⟩
end Go.Proofs.Ytoajdkcdjdbliaa

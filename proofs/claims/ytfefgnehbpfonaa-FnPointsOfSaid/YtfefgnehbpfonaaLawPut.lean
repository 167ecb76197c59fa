/- The walks of the laws FnExactPutPoint. -/
import Derived.Test.YtfefgnehbpfonaaPoint
import Derived.Test.YtfefgnehbpfonaaMarkB
namespace Go.Proofs.Ytfefgnehbpfonaa
open Go.RowKit

theorem putP_le (n : Int) : (putP n).length ≤ 4 := by
  unfold putP
  split
  · split
    · simp
    · split
      · simp
      · split <;> simp
  · simp

set_option maxHeartbeats 800000 in
theorem walk_FnExactPutPoint (n : Int) (w : World) (_h : (Lit.int .i64 n).wf = true) :
    Calls Try.prog 7 #[.int .i64 n] w fun e w' => e = .returned (.bool true) ∧ Below w.heap.size w w' := by
  have CS := Lib.hid (spec_PutPoint n)
  have CI := Lib.hid (impl_PutPoint n)
  have hle := putP_le n
  generalize putP n = l at CS CI hle
  go_enter Try.func7, Try.ntmps7
  go_wp2_with fail
  refine (CS.out _).mono ?_
  rintro e w1 ⟨v1, rfl, o1, b1⟩
  obtain ⟨a1, c1, rfl, r1, k1, k1', g1⟩ := own_formn o1
  have B1 := Lib.hid b1; have O1 := Lib.hid o1
  clear o1 r1 b1 g1
  go_wp2_with fail
  refine (CI.out _).mono ?_
  rintro e w2 ⟨v2, rfl, o2, b2⟩
  obtain ⟨a2, c2, rfl, r2, k2, k2', g2⟩ := own_formn o2
  have B2 : Hid (Below w.heap.size w w2) := B1.out.trans (b2.mono B1.out.size)
  have O12 := Lib.hid (own_below O1.out b2)
  have O2 := Lib.hid o2
  have R2 := Lib.hid r2
  have S2 := Lib.hid b2.size
  clear o2 r2 b2 g2
  go_wp2_with fail
  refine (eqByteS_any _ _ _ _ _ _ l l _ R2.out (own_formn_row O12.out) rfl rfl (by omega)).mono ?_
  rintro e w3 ⟨rfl, b3⟩
  have B3 : Hid (Below w.heap.size w w3) := B2.out.trans (b3.mono B2.out.size)
  have O3 := Lib.hid (own_below O2.out b3)
  have O13 := Lib.hid (own_below O12.out b3)
  clear b3
  go_wp2_with fail
  refine (markByteS_one _ _ _ _ _ O3.out (by omega)).mono ?_
  rintro e w4 ⟨rfl, o4, h4⟩
  have O4 := Lib.hid o4
  have O14 : Hid (w4.ownsRow w.heap.size 5 1 (.slice a1 l.length c1) l.length (l.map byteV)) := own_other O13.out h4 (fun k hk e => by
    have x1 := own_ge O1.out k hk
    have x2 := own_ge O3.out k (by rw [← e])
    omega)
  have B4 : Hid (Below w.heap.size w w4) := B3.out.grown h4 (by have := B3.out.size; omega) (fun k hk => by have x2 := own_ge O3.out k hk; have := B1.out.size; omega)
  clear o4 h4
  go_wp2_with fail
  refine (heldByteS_one _ _ _ _ (own_formn_row O4.out) (by omega)).mono ?_
  rintro e w5 ⟨rfl, b5⟩
  have B5 : Hid (Below w.heap.size w w5) := B4.out.trans (b5.mono B4.out.size)
  have O5 := Lib.hid (own_below O4.out b5)
  have O15 := Lib.hid (own_below O14.out b5)
  clear b5
  go_wp2_with fail
  refine (CI.out _).mono ?_
  rintro e w6 ⟨v6, rfl, o6, b6⟩
  obtain ⟨a6, c6, rfl, r6, k6, k6', g6⟩ := own_formn o6
  have B6 : Hid (Below w.heap.size w w6) := B5.out.trans (b6.mono B5.out.size)
  have O6 := Lib.hid (own_below O5.out b6)
  have O16 := Lib.hid (own_below O15.out b6)
  have R6 := Lib.hid r6
  clear o6 r6 b6 g6
  go_wp2_with fail
  refine (eqByteS_any _ _ _ _ _ _ l l _ R6.out (own_formn_row O16.out) rfl rfl (by omega)).mono ?_
  rintro e w7 ⟨rfl, b7⟩
  have B7 : Hid (Below w.heap.size w w7) := B6.out.trans (b7.mono B6.out.size)
  have O7 := Lib.hid (own_below O6.out b7)
  clear b7
  go_wp2_with fail
  refine (heldByteS_one _ _ _ _ (own_formn_row O7.out) (by omega)).mono ?_
  rintro e w8 ⟨rfl, b8⟩
  have B8 : Hid (Below w.heap.size w w8) := B7.out.trans (b8.mono B7.out.size)
  clear b8
  go_wp2
  go_ret
  exact ⟨rfl, B8.out⟩
end Go.Proofs.Ytfefgnehbpfonaa

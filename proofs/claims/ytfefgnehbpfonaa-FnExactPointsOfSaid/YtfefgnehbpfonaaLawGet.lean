/- The walks of the laws FnExactGetPoint and FnExactPutPoint. -/
import Derived.Test.YtfefgnehbpfonaaGetImpl
namespace Go.Proofs.Ytfefgnehbpfonaa
open Go.RowKit

/-- The bytes that a slice of n numbers holds. -/
def argL (z : List Int) (n : Nat) : List UInt8 := (List.range n).map fun i => UInt8.ofNat (z.getD i 0).toNat
theorem argL_len (z : List Int) (n : Nat) : (argL z n).length = n := by simp [argL]
theorem arg_row {w : World} {a : Option Addr} {n c : Nat} {z : List Int} (h : IsRow .u8 w a n c z) : RowAt w a ((argL z n).map byteV) := bytes_row h.bytes

set_option maxHeartbeats 800000 in
theorem walk_FnExactGetPoint (a : Option Addr) (n c : Nat) (z : List Int) (at_ : Int) (w : World) (hrow : IsRow .u8 w a n c z) (hat : (Lit.int .i64 at_).wf = true) :
    Calls Try.prog 10 #[.slice a n c, .int .i64 at_] w fun e w' => e = .returned (.bool true) ∧ Below w.heap.size w w' := by
  have hcap := hrow.caps
  have hR := Lib.hid (arg_row hrow)
  have hL := Lib.hid (argL_len z n)
  have hA := Lib.hid (bounds_i64 hat)
  clear hrow hat
  by_cases hn : 1048576 < n
  · go_enter Try.func10, Try.ntmps10
    go_wp2
    go_ret
    exact ⟨rfl, Below.refl _ _⟩
  · generalize argL z n = l at hR hL
    go_enter Try.func10, Try.ntmps10
    go_wp2_with fail
    refine (toByteS_any _ _ _ l _ hR.out hL.out (by omega)).mono ?_
    rintro e w1 ⟨v1, rfl, o1, b1⟩
    obtain ⟨a1, c1, rfl, r1, k1, k1', g1⟩ := own_formn o1
    have B1 := Lib.hid b1; have R1 := Lib.hid r1
    clear o1 r1 b1 g1
    go_wp2_with fail
    refine (spec_GetPoint _ _ _ l _ _ R1.out hL.out (by omega) hA.out.1 hA.out.2).mono ?_
    rintro e w2 ⟨rfl, b2⟩
    have B2 : Hid (Below w.heap.size w w2) := B1.out.trans (b2.mono B1.out.size)
    clear b2
    go_wp2_with fail
    refine (toByteS_any _ _ _ l _ (hR.out.below (Nat.le_refl _) B2.out) hL.out (by omega)).mono ?_
    rintro e w3 ⟨v3, rfl, o3, b3⟩
    obtain ⟨a3, c3, rfl, r3, k3, k3', g3⟩ := own_formn o3
    have B3 : Hid (Below w.heap.size w w3) := B2.out.trans (b3.mono B2.out.size)
    have R3 := Lib.hid r3; have O3 := Lib.hid o3
    clear o3 r3 b3 g3
    go_wp2_with fail
    refine (impl_GetPoint _ _ _ l _ _ R3.out hL.out k3 (by omega) k3' hA.out.1 hA.out.2).mono ?_
    rintro e w4 ⟨rfl, b4⟩
    have B4 : Hid (Below w.heap.size w w4) := B3.out.trans (b4.mono B3.out.size)
    have R4 := Lib.hid (R3.out.below (Nat.le_refl _) b4)
    clear b4
    go_wp2_with fail
    refine (toByteS_any _ _ _ l _ (hR.out.below (Nat.le_refl _) B4.out) hL.out (by omega)).mono ?_
    rintro e w5 ⟨v5, rfl, o5, b5⟩
    obtain ⟨a5, c5, rfl, r5, k5, k5', g5⟩ := own_formn o5
    have B5 : Hid (Below w.heap.size w w5) := B4.out.trans (b5.mono B4.out.size)
    have R5 := Lib.hid r5
    have R45 := Lib.hid (R4.out.below (Nat.le_refl _) b5)
    clear o5 r5 b5 g5
    go_wp2_with fail
    refine (eqByteS_any _ _ _ _ _ _ l l _ R45.out R5.out hL.out hL.out (by omega)).mono ?_
    rintro e w6 ⟨rfl, b6⟩
    have B6 : Hid (Below w.heap.size w w6) := B5.out.trans (b6.mono B5.out.size)
    clear b6
    go_wp2
    go_ret
    exact ⟨rfl, B6.out⟩
end Go.Proofs.Ytfefgnehbpfonaa

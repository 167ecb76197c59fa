/- The walk of the law FnExactSetText. -/
import Derived.Test.YtmpidoenboffcaaSetText
namespace Go.Proofs.Ytmpidoenboffcaa
open Go.RowKit

set_option maxHeartbeats 800000 in
theorem walk_FnExactSetText (W F : Int) (L : Bool) (s : ByteArray) (w : World) (_h0 : (Lit.int .i64 W).wf = true) (h1 : (Lit.int .u8 F).wf = true) (hs : s.size ≤ maxLen) :
    Calls Try.prog 5 #[.agg #[.int .i64 W, .int .u8 F, .bool L], .string s] w fun e w' => e = .returned (.bool true) ∧ Below w.heap.size w w' := by
  have hb := bounds_u8 h1
  obtain ⟨b, rfl⟩ : ∃ b : UInt8, F = (b.toNat : Int) := ⟨UInt8.ofNat F.toNat, by rw [UInt8.toNat_ofNat']; omega⟩
  unfold maxLen at hs
  clear hb h1 _h0
  by_cases hn : 1048576 < s.size
  · go_enter Try.func5, Try.ntmps5
    go_wp2
    go_ret
    exact ⟨rfl, (Below.refl _ _).alloc (Nat.le_refl _) _⟩
  · go_enter Try.func5, Try.ntmps5
    go_wp2_with fail
    refine (toShape_any _ _ _ _).mono ?_
    rintro e w1 ⟨rfl, b1⟩
    have B1 := Lib.hid b1
    clear b1
    go_wp2_with fail
    refine (spec_SetText _ _ _ _ _ (by omega)).mono ?_
    rintro e w2 ⟨rfl, b2⟩
    have B2 := Lib.hid (B1.out.trans (b2.mono B1.out.size))
    clear b2
    have c0 : w2.cell? ⟨w.heap.size, 0, none⟩ = some (.int .i64 W) := new_kept B2.out 0
    have c1 : w2.cell? ⟨w.heap.size, 1, none⟩ = some (.int .u8 (b.toNat : Int)) := new_kept B2.out 1
    have c2 : w2.cell? ⟨w.heap.size, 2, none⟩ = some (.bool L) := new_kept B2.out 2
    go_wp2_with fail
    refine (toShape_any _ _ _ _).mono ?_
    rintro e w3 ⟨rfl, b3⟩
    have B3 := Lib.hid (B2.out.trans (b3.mono B2.out.size))
    clear b3
    go_wp2_with fail
    refine (impl_SetText _ _ _ _ _ (by omega)).mono ?_
    rintro e w4 ⟨rfl, b4⟩
    have B4 := Lib.hid (B3.out.trans (b4.mono B3.out.size))
    clear b4
    go_wp2
    go_ret
    exact ⟨rfl, new_below B4.out⟩
end Go.Proofs.Ytmpidoenboffcaa

/- Which bytes are letters and digits. -/
import Derived.Test.YtmiemnhbkcmanaaDoorStr
namespace Go.Proofs.YtmiemnhbkcmanaaDoor
open Go.RowKit

def letB (c : UInt8) : Bool := (decide (97 ≤ (c.toNat : Int)) && decide ((c.toNat : Int) ≤ 122)) || (decide (65 ≤ (c.toNat : Int)) && decide ((c.toNat : Int) ≤ 90))
def digB (c : UInt8) : Bool := decide (48 ≤ (c.toNat : Int)) && decide ((c.toNat : Int) ≤ 57)

theorem letB_eq (c : UInt8) : letB c = ((decide (97 ≤ (c.toNat : Int)) && decide ((c.toNat : Int) ≤ 122)) || (decide (65 ≤ (c.toNat : Int)) && decide ((c.toNat : Int) ≤ 90))) := rfl
theorem digB_eq (c : UInt8) : digB c = (decide (48 ≤ (c.toNat : Int)) && decide ((c.toNat : Int) ≤ 57)) := rfl

set_option maxHeartbeats 800000 in
theorem impl_isLetter (c : UInt8) (w : World) : Calls Tryd.prog 31 #[.int .u8 (c.toNat : Int)] w fun e w' => e = .returned (.bool (letB c)) ∧ w = w' := by
  rcases d1 : decide (97 ≤ (c.toNat : Int)) with _ | _ <;> rcases d2 : decide ((c.toNat : Int) ≤ 122) with _ | _ <;> rcases d3 : decide (65 ≤ (c.toNat : Int)) with _ | _ <;> rcases d4 : decide ((c.toNat : Int) ≤ 90) with _ | _
  all_goals
    have HB := Lib.hid (letB_eq c)
    rw [d1, d2, d3, d4] at HB
    go_enter Tryd.func31, Tryd.ntmps31
    go_wp2
    go_ret
    exact ⟨ret_bool HB.out.symm, rfl⟩
set_option maxHeartbeats 800000 in
theorem spec_l1Letter (c : UInt8) (w : World) : Calls Tryd.prog 56 #[.int .u8 (c.toNat : Int)] w fun e w' => e = .returned (.bool (letB c)) ∧ w = w' := by
  rcases d1 : decide (97 ≤ (c.toNat : Int)) with _ | _ <;> rcases d2 : decide ((c.toNat : Int) ≤ 122) with _ | _ <;> rcases d3 : decide (65 ≤ (c.toNat : Int)) with _ | _ <;> rcases d4 : decide ((c.toNat : Int) ≤ 90) with _ | _
  all_goals
    have HB := Lib.hid (letB_eq c)
    rw [d1, d2, d3, d4] at HB
    go_enter Tryd.func56, Tryd.ntmps56
    go_wp2
    go_ret
    exact ⟨ret_bool HB.out.symm, rfl⟩
theorem impl_isDigit (c : UInt8) (w : World) : Calls Tryd.prog 32 #[.int .u8 (c.toNat : Int)] w fun e w' => e = .returned (.bool (digB c)) ∧ w = w' := by
  rcases d1 : decide (48 ≤ (c.toNat : Int)) with _ | _ <;> rcases d2 : decide ((c.toNat : Int) ≤ 57) with _ | _
  all_goals
    have HB := Lib.hid (digB_eq c)
    rw [d1, d2] at HB
    go_enter Tryd.func32, Tryd.ntmps32
    go_wp2
    go_ret
    exact ⟨ret_bool HB.out.symm, rfl⟩
theorem spec_l1Digit (c : UInt8) (w : World) : Calls Tryd.prog 46 #[.int .u8 (c.toNat : Int)] w fun e w' => e = .returned (.bool (digB c)) ∧ w = w' := by
  rcases d1 : decide (48 ≤ (c.toNat : Int)) with _ | _ <;> rcases d2 : decide ((c.toNat : Int) ≤ 57) with _ | _
  all_goals
    have HB := Lib.hid (digB_eq c)
    rw [d1, d2] at HB
    go_enter Tryd.func46, Tryd.ntmps46
    go_wp2
    go_ret
    exact ⟨ret_bool HB.out.symm, rfl⟩
end Go.Proofs.YtmiemnhbkcmanaaDoor

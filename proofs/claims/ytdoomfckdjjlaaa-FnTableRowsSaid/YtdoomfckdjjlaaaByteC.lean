/- Which bytes are letters and digits. -/
import Derived.Test.YtdoomfckdjjlaaaStr
namespace Go.Proofs.Ytdoomfckdjjlaaa
open Go.RowKit

def letB (c : UInt8) : Bool := (decide (97 ≤ (c.toNat : Int)) && decide ((c.toNat : Int) ≤ 122)) || (decide (65 ≤ (c.toNat : Int)) && decide ((c.toNat : Int) ≤ 90))
def digB (c : UInt8) : Bool := decide (48 ≤ (c.toNat : Int)) && decide ((c.toNat : Int) ≤ 57)

theorem letB_eq (c : UInt8) : letB c = ((decide (97 ≤ (c.toNat : Int)) && decide ((c.toNat : Int) ≤ 122)) || (decide (65 ≤ (c.toNat : Int)) && decide ((c.toNat : Int) ≤ 90))) := rfl
theorem digB_eq (c : UInt8) : digB c = (decide (48 ≤ (c.toNat : Int)) && decide ((c.toNat : Int) ≤ 57)) := rfl

set_option maxHeartbeats 800000 in
theorem impl_isLetter (c : UInt8) (w : World) : Calls Try.prog 70 #[.int .u8 (c.toNat : Int)] w fun e w' => e = .returned (.bool (letB c)) ∧ w = w' := by
  rcases d1 : decide (97 ≤ (c.toNat : Int)) with _ | _ <;> rcases d2 : decide ((c.toNat : Int) ≤ 122) with _ | _ <;> rcases d3 : decide (65 ≤ (c.toNat : Int)) with _ | _ <;> rcases d4 : decide ((c.toNat : Int) ≤ 90) with _ | _
  all_goals
    have HB := Lib.hid (letB_eq c)
    rw [d1, d2, d3, d4] at HB
    go_enter Try.func70, Try.ntmps70
    go_wp2
    go_ret
    exact ⟨ret_bool HB.out.symm, rfl⟩
set_option maxHeartbeats 800000 in
theorem spec_l1Letter (c : UInt8) (w : World) : Calls Try.prog 84 #[.int .u8 (c.toNat : Int)] w fun e w' => e = .returned (.bool (letB c)) ∧ w = w' := by
  rcases d1 : decide (97 ≤ (c.toNat : Int)) with _ | _ <;> rcases d2 : decide ((c.toNat : Int) ≤ 122) with _ | _ <;> rcases d3 : decide (65 ≤ (c.toNat : Int)) with _ | _ <;> rcases d4 : decide ((c.toNat : Int) ≤ 90) with _ | _
  all_goals
    have HB := Lib.hid (letB_eq c)
    rw [d1, d2, d3, d4] at HB
    go_enter Try.func84, Try.ntmps84
    go_wp2
    go_ret
    exact ⟨ret_bool HB.out.symm, rfl⟩
theorem impl_isDigit (c : UInt8) (w : World) : Calls Try.prog 73 #[.int .u8 (c.toNat : Int)] w fun e w' => e = .returned (.bool (digB c)) ∧ w = w' := by
  rcases d1 : decide (48 ≤ (c.toNat : Int)) with _ | _ <;> rcases d2 : decide ((c.toNat : Int) ≤ 57) with _ | _
  all_goals
    have HB := Lib.hid (digB_eq c)
    rw [d1, d2] at HB
    go_enter Try.func73, Try.ntmps73
    go_wp2
    go_ret
    exact ⟨ret_bool HB.out.symm, rfl⟩
theorem spec_l1Digit (c : UInt8) (w : World) : Calls Try.prog 97 #[.int .u8 (c.toNat : Int)] w fun e w' => e = .returned (.bool (digB c)) ∧ w = w' := by
  rcases d1 : decide (48 ≤ (c.toNat : Int)) with _ | _ <;> rcases d2 : decide ((c.toNat : Int) ≤ 57) with _ | _
  all_goals
    have HB := Lib.hid (digB_eq c)
    rw [d1, d2] at HB
    go_enter Try.func97, Try.ntmps97
    go_wp2
    go_ret
    exact ⟨ret_bool HB.out.symm, rfl⟩
end Go.Proofs.Ytdoomfckdjjlaaa

/- Which bytes are letters and digits. -/
import Derived.Test.YtpplagecancccaaDoorStr
namespace Go.Proofs.YtpplagecancccaaDoor
open Go.RowKit

def letB (c : UInt8) : Bool := (decide (97 ≤ (c.toNat : Int)) && decide ((c.toNat : Int) ≤ 122)) || (decide (65 ≤ (c.toNat : Int)) && decide ((c.toNat : Int) ≤ 90))
def digB (c : UInt8) : Bool := decide (48 ≤ (c.toNat : Int)) && decide ((c.toNat : Int) ≤ 57)

theorem letB_eq (c : UInt8) : letB c = ((decide (97 ≤ (c.toNat : Int)) && decide ((c.toNat : Int) ≤ 122)) || (decide (65 ≤ (c.toNat : Int)) && decide ((c.toNat : Int) ≤ 90))) := rfl
theorem digB_eq (c : UInt8) : digB c = (decide (48 ≤ (c.toNat : Int)) && decide ((c.toNat : Int) ≤ 57)) := rfl

theorem impl_isDigit (c : UInt8) (w : World) : Calls Tryd.prog 44 #[.int .u8 (c.toNat : Int)] w fun e w' => e = .returned (.bool (digB c)) ∧ w = w' := by
  rcases d1 : decide (48 ≤ (c.toNat : Int)) with _ | _ <;> rcases d2 : decide ((c.toNat : Int) ≤ 57) with _ | _
  all_goals
    have HB := Lib.hid (digB_eq c)
    rw [d1, d2] at HB
    go_enter Tryd.func44, Tryd.ntmps44
    go_wp2
    go_ret
    exact ⟨ret_bool HB.out.symm, rfl⟩
theorem spec_l1Digit (c : UInt8) (w : World) : Calls Tryd.prog 40 #[.int .u8 (c.toNat : Int)] w fun e w' => e = .returned (.bool (digB c)) ∧ w = w' := by
  rcases d1 : decide (48 ≤ (c.toNat : Int)) with _ | _ <;> rcases d2 : decide ((c.toNat : Int) ≤ 57) with _ | _
  all_goals
    have HB := Lib.hid (digB_eq c)
    rw [d1, d2] at HB
    go_enter Tryd.func40, Tryd.ntmps40
    go_wp2
    go_ret
    exact ⟨ret_bool HB.out.symm, rfl⟩
end Go.Proofs.YtpplagecancccaaDoor

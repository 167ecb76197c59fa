/- Bytes that are compared; whether a text has a byte; what a call that returns strings and a truth says. -/
import Derived.Test.YtmiemnhbkcmanaaDoorStrs
namespace Go.Proofs.YtmiemnhbkcmanaaDoor
open Go.RowKit

theorem beq_u8 {a b : UInt8} (h : ¬ a = b) : ((a.toNat : Int) == (b.toNat : Int)) = false := by
  rw [beq_eq_false_iff_ne]; intro e; exact h (UInt8.toNat_inj.1 (by omega))
theorem beq_u8' {a b : UInt8} (h : a = b) : ((a.toNat : Int) == (b.toNat : Int)) = true := by rw [h]; simp
theorem ne_u8 {a b : UInt8} (h : ¬ a = b) : ((a.toNat : Int) != (b.toNat : Int)) = true := by simp only [bne, beq_u8 h]; rfl
theorem ne_u8' {a b : UInt8} (h : a = b) : ((a.toNat : Int) != (b.toNat : Int)) = false := by simp only [bne, beq_u8' h]; rfl

theorem byte_allW {p : UInt8 → Prop} (h : ∀ n : Fin 256, p (UInt8.ofNat n.1)) (b : UInt8) : p b := by
  have := h ⟨b.toNat, b.toNat_lt⟩
  rwa [UInt8.ofNat_toNat] at this
def hasB (l : List UInt8) (b : UInt8) : Bool := l.contains b
theorem take_contains (s : ByteArray) (k : Nat) (h : k < s.size) (b : UInt8) : ((bl s).take (k + 1)).contains b = (((bl s).take k).contains b || (b == s[k])) := by
  rw [bl_take s k h, List.contains_append]
  simp only [List.contains_cons, List.contains_nil, Bool.or_false]

def StrsOk (w : World) (r : List ByteArray × Bool) (e : Ending) (w' : World) : Prop :=
  ∃ v, e = .returned (.tuple #[v, .bool r.2]) ∧ w'.ownsRow w.heap.size 9 1 v r.1.length (r.1.map strV) ∧ Below w.heap.size w w'

set_option maxHeartbeats 400000 in
theorem impl_hasByte (s : ByteArray) (b : UInt8) (w : World) (hs : s.size ≤ 9223372036854775807) :
    Calls Tryd.prog 33 #[.string s, .int .u8 (b.toNat : Int)] w fun e w' => e = .returned (.bool (hasB (bl s) b)) ∧ w = w' := by
  go_enter Tryd.func33, Tryd.ntmps33
  go_wp2
  go_loop [5] (fun t => ∃ k : Nat, k ≤ s.size ∧ t = .int .i64 k ∧ Hid (((bl s).take k).contains b = false)) (fun t => s.size - (intOf t).toNat)
  case atStart => exact ⟨0, Nat.zero_le _, rfl, by show _ = _; simp⟩
  case round =>
    obtain ⟨k, hk, rfl, HN⟩ := hrel
    by_cases hlt : k < s.size
    · have HT := Lib.hid (take_contains s k hlt b)
      by_cases he : s[k] = b
      · have b1 : ((s[k].toNat : Int) == (b.toNat : Int)) = true := beq_u8' he
        have HR : Hid (hasB (bl s) b = true) := by
          show _ = _
          unfold hasB
          rw [List.contains_iff_mem]
          rw [← he]
          exact List.mem_of_getElem? (bl_get s k hlt)
        clear he
        go_wp2
        go_ret
        exact ⟨ret_bool HR.out.symm, rfl⟩
      · have b1 : ((s[k].toNat : Int) == (b.toNat : Int)) = false := beq_u8 he
        have HN2 : Hid (((bl s).take (k + 1)).contains b = false) := by
          show _ = _
          rw [HT.out, HN.out, Bool.false_or, beq_eq_false_iff_ne]
          exact fun e => he e.symm
        clear he
        go_wp2
        go_round
        case rel => exact ⟨k + 1, by omega, by go_num, HN2⟩
        case measure => simp [intOf]; omega
    · have HR : Hid (hasB (bl s) b = false) := by have := HN.out; unfold hasB; rwa [List.take_of_length_le (by rw [bl_len]; omega)] at this
      go_wp2
      go_ret
      exact ⟨ret_bool HR.out.symm, rfl⟩
end Go.Proofs.YtmiemnhbkcmanaaDoor

/- Reading soft lines: what the bytes of lines are, plainly; the digit of the reference. -/
import Derived.Test.YtnehdaocfijcpaaSoftI
import Derived.Test.YtnehdaocfijcpaaByteS
import Derived.Test.YtnehdaocfijcpaaPush
import Derived.Test.YtnehdaocfijcpaaShelf
namespace Go.Proofs.Ytnehdaocfijcpaa
open Go.RowKit

/-- The number of a hexadecimal digit, or -1. -/
def hexD (b : UInt8) : Int := if 48 ≤ b.toNat ∧ b.toNat ≤ 57 then (b.toNat : Int) - 48 else if 65 ≤ b.toNat ∧ b.toNat ≤ 70 then (b.toNat : Int) - 55 else -1
theorem byte_all {p : UInt8 → Prop} (h : ∀ n : Fin 256, p (UInt8.ofNat n.1)) (b : UInt8) : p b := by
  have := h ⟨b.toNat, b.toNat_lt⟩
  rwa [UInt8.ofNat_toNat] at this
theorem hexD_bd (b : UInt8) : -1 ≤ hexD b ∧ hexD b ≤ 15 := by unfold hexD; split; omega; split <;> omega
theorem hexD_eq (b : UInt8) : Lib.indexByte [48, 49, 50, 51, 52, 53, 54, 55, 56, 57, 65, 66, 67, 68, 69, 70] b = hexD b :=
  byte_all (p := fun b => Lib.indexByte [48, 49, 50, 51, 52, 53, 54, 55, 56, 57, 65, 66, 67, 68, 69, 70] b = hexD b) (by decide +kernel) b
theorem hexD_hexC : ∀ d : Nat, d < 16 → hexD (hexC d) = d := by
  have : ∀ d : Fin 16, hexD (hexC d.1) = d.1 := by decide
  exact fun d hd => this ⟨d, hd⟩
theorem hexD_none (b : UInt8) (h : ∀ i, i < 16 → hexC i ≠ b) : hexD b = -1 := by
  have h' : ∀ i : Fin 16, hexC i.1 ≠ b := fun i => h i.1 i.2
  exact byte_all (p := fun b => (∀ i : Fin 16, hexC i.1 ≠ b) → hexD b = -1) (by decide +kernel) b h'

set_option maxHeartbeats 400000 in
theorem spec_l40Digit (b : UInt8) (w : World) : Calls Try.prog 35 #[.int .u8 (b.toNat : Int)] w fun e w' => e = .returned (.int .i64 (hexD b)) ∧ w = w' := by
  go_enter Try.func35, Try.ntmps35
  go_wp2
  go_loop [3] (fun t => ∃ k : Nat, k ≤ 16 ∧ t = .int .i64 k ∧ Hid (∀ i, i < k → hexC i ≠ b)) (fun t => 16 - (intOf t).toNat)
  case atStart => exact ⟨0, by omega, rfl, fun i hi => by omega⟩
  case round =>
    obtain ⟨k, hk, rfl, HN⟩ := hrel
    by_cases hlt : k < 16
    · have e1 := hex_ix k hlt
      have k0 : (0 : Int) ≤ (k : Int) := by omega
      have k1 : (k : Int) < 16 := by omega
      by_cases he : hexC k = b
      · have HR : Hid (hexD b = (k : Int)) := by rw [← he]; exact hexD_hexC k hlt
        rw [he] at e1
        clear he
        go_wp2
        go_ret
        exact ⟨ret_i64 HR.out.symm, rfl⟩
      · have hb : (((hexC k).toNat : Int) == (b.toNat : Int)) = false := by
          rw [beq_eq_false_iff_ne]; intro e; exact he (UInt8.toNat_inj.1 (by omega))
        have HE := Lib.hid he
        clear he
        go_wp2
        go_round
        case rel => exact ⟨k + 1, by omega, by go_num, upto_succ (P := fun i => hexC i ≠ b) HN.out HE.out⟩
        case measure => simp [intOf]; omega
    · obtain rfl : k = 16 := by omega
      have HR := Lib.hid (hexD_none b HN.out)
      go_wp2
      go_ret
      exact ⟨ret_i64 HR.out.symm, rfl⟩

/-- The bytes of one line, behind those so far. -/
def decA : List UInt8 → List UInt8 → Option (List UInt8)
  | acc, [] => some acc
  | acc, [x] => if x = 61 then some acc else some (acc ++ [x])
  | acc, [x, y] => if x = 61 then none else decA (acc ++ [x]) [y]
  | acc, x :: a :: b :: r => if x = 61 then (if hexD a < 0 ∨ hexD b < 0 then none else decA (acc ++ [UInt8.ofNat (16 * hexD a + hexD b).toNat]) r) else decA (acc ++ [x]) (a :: b :: r)
/-- The bytes of a joined text, behind those so far. -/
def decI : List UInt8 → List UInt8 → Option (List UInt8)
  | acc, [] => some acc
  | acc, [x] => if x = 61 then none else some (acc ++ [x])
  | acc, [x, y] => if x = 61 then none else decI (acc ++ [x]) [y]
  | acc, x :: a :: b :: r => if x = 61 then (if hexD a < 0 ∨ hexD b < 0 then none else decI (acc ++ [UInt8.ofNat (16 * hexD a + hexD b).toNat]) r) else decI (acc ++ [x]) (a :: b :: r)
theorem decA_ne {acc : List UInt8} {x : UInt8} (r : List UInt8) (h : ¬ x = 61) : decA acc (x :: r) = decA (acc ++ [x]) r := by
  rcases r with _ | ⟨a, _ | ⟨b, r⟩⟩
  · simp [decA, h]
  · simp [decA, h]
  · simp [decA, h]
theorem decI_ne {acc : List UInt8} {x : UInt8} (r : List UInt8) (h : ¬ x = 61) : decI acc (x :: r) = decI (acc ++ [x]) r := by
  rcases r with _ | ⟨a, _ | ⟨b, r⟩⟩
  · simp [decI, h]
  · simp [decI, h]
  · simp [decI, h]
/-- The bytes of lines, behind those so far. -/
def decAll : List UInt8 → List ByteArray → Option (List UInt8)
  | acc, [] => some acc
  | acc, s :: r => match decA acc (bl s) with
    | none => none
    | some acc' => decAll acc' r
/-- What reading lines comes to. -/
def readS (L : List ByteArray) : List UInt8 × Bool := match decAll [] L with
  | none => ([], false)
  | some b => if softL b = L then (b, true) else ([], false)
theorem readS_none {L : List ByteArray} (h : decAll [] L = none) : readS L = ([], false) := by unfold readS; rw [h]
theorem readS_no {L : List ByteArray} {b : List UInt8} (h : decAll [] L = some b) (h2 : ¬ softL b = L) : readS L = ([], false) := by unfold readS; rw [h]; exact if_neg h2
theorem readS_yes {L : List ByteArray} {b : List UInt8} (h : decAll [] L = some b) (h2 : softL b = L) : readS L = (b, true) := by unfold readS; rw [h]; exact if_pos h2

def BytesOk (w : World) (r : List UInt8 × Bool) (e : Ending) (w' : World) : Prop :=
  ∃ v, e = .returned (.tuple #[v, .bool r.2]) ∧ w'.ownsRow w.heap.size 5 1 v r.1.length (r.1.map byteV) ∧ Below w.heap.size w w'

theorem da_plain {s : ByteArray} {j : Nat} (h : j < s.size) (hx : ¬ s[j] = 61) (acc : List UInt8) : decA acc ((bl s).drop j) = decA (acc ++ [s[j]]) ((bl s).drop (j + 1)) := by rw [bl_drop s j h, decA_ne _ hx]
theorem da_end {s : ByteArray} {j : Nat} (h : j < s.size) (hx : s[j] = 61) (h2 : s.size = j + 1) (acc : List UInt8) : decA acc ((bl s).drop j) = some acc := by
  rw [bl_drop s j h, List.drop_eq_nil_of_le (by rw [bl_len]; omega), decA, if_pos hx]
theorem da_short {s : ByteArray} {j : Nat} (h : j < s.size) (hx : s[j] = 61) (h2 : s.size = j + 2) (acc : List UInt8) : decA acc ((bl s).drop j) = none := by
  rw [bl_drop s j h, bl_drop s (j + 1) (by omega), List.drop_eq_nil_of_le (by rw [bl_len]; omega), decA, if_pos hx]
theorem da_three {s : ByteArray} {j : Nat} (h : j + 2 < s.size) (hx : s[j] = 61) (acc : List UInt8) :
    decA acc ((bl s).drop j) = if hexD s[j + 1] < 0 ∨ hexD s[j + 2] < 0 then none else decA (acc ++ [UInt8.ofNat (16 * hexD s[j + 1] + hexD s[j + 2]).toNat]) ((bl s).drop (j + 3)) := by
  rw [bl_drop s j (by omega), bl_drop s (j + 1) (by omega), bl_drop s (j + 2) (by omega), decA, if_pos hx]
theorem decAll_cons {l : List ByteArray} {k : Nat} (h : k < l.length) (acc : List UInt8) : decAll acc (l.drop k) = match decA acc (bl (l.getD k ⟨#[]⟩)) with | none => none | some acc' => decAll acc' (l.drop (k + 1)) := by
  rw [List.drop_eq_getElem_cons h, decAll, getD_at h]
end Go.Proofs.Ytnehdaocfijcpaa

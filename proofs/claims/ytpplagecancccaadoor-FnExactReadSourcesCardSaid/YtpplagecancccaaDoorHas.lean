/- Bytes that are compared; whether a text has a byte; what a call that returns strings and a truth says. -/
import Derived.Test.YtpplagecancccaaDoorStrs
namespace Go.Proofs.YtpplagecancccaaDoor
open Go.RowKit

theorem beq_u8 {a b : UInt8} (h : ¬ a = b) : ((a.toNat : Int) == (b.toNat : Int)) = false := by
  rw [beq_eq_false_iff_ne]; intro e; exact h (UInt8.toNat_inj.1 (by omega))
theorem beq_u8' {a b : UInt8} (h : a = b) : ((a.toNat : Int) == (b.toNat : Int)) = true := by rw [h]; simp
theorem ne_u8 {a b : UInt8} (h : ¬ a = b) : ((a.toNat : Int) != (b.toNat : Int)) = true := by simp only [bne, beq_u8 h]; rfl
theorem ne_u8' {a b : UInt8} (h : a = b) : ((a.toNat : Int) != (b.toNat : Int)) = false := by simp only [bne, beq_u8' h]; rfl

theorem byte_allW {p : UInt8 → Prop} (h : ∀ n : Fin 256, p (UInt8.ofNat n.1)) (b : UInt8) : p b := by
  have := h ⟨b.toNat, b.toNat_lt⟩
  rwa [UInt8.ofNat_toNat] at this
def hasB (l : List UInt8) (b : UInt8) : Bool := l.contains b
theorem take_contains (s : ByteArray) (k : Nat) (h : k < s.size) (b : UInt8) : ((bl s).take (k + 1)).contains b = (((bl s).take k).contains b || (b == s[k])) := by
  rw [bl_take s k h, List.contains_append]
  simp only [List.contains_cons, List.contains_nil, Bool.or_false]

def StrsOk (w : World) (r : List ByteArray × Bool) (e : Ending) (w' : World) : Prop :=
  ∃ v, e = .returned (.tuple #[v, .bool r.2]) ∧ w'.ownsRow w.heap.size 9 1 v r.1.length (r.1.map strV) ∧ Below w.heap.size w w'

end Go.Proofs.YtpplagecancccaaDoor

/- The laws' helpers over slices of bytes: equal, mark, held, copy: what each does, for every slice. -/
import Derived.Test.YtgbdkajnlemblaaOwn
namespace Go.Proofs.Ytgbdkajnlemblaa
open Go.RowKit

def byteV (b : UInt8) : Value := .int .u8 (b.toNat : Int)
theorem byteV_inj {a b : UInt8} (h : byteV a = byteV b) : a = b := by
  simp only [byteV, Value.int.injEq, true_and] at h
  exact UInt8.toNat_inj.1 (by omega)

theorem getElem_map_byteV (l : List UInt8) (i : Nat) (h : i < (l.map byteV).length) : (l.map byteV)[i] = .int .u8 ((l[i]'(by simpa using h)).toNat : Int) := by simp [byteV]

/-- The bytes l can be read from the address a on. -/
theorem row_byte {w : World} {a : Option Addr} {l : List UInt8} (h : RowAt w a (l.map byteV)) (i : Nat) (hi : i < l.length) :
    ∃ b off, a = some ⟨b, off, none⟩ ∧ b < w.heap.size ∧ w.cell? ⟨b, off + i, none⟩ = some (.int .u8 (l[i].toNat : Int)) := by
  obtain ⟨b, off, ha, hlt, hc⟩ := h i (by simpa using hi)
  exact ⟨b, off, ha, hlt, by rw [hc, getElem_map_byteV]⟩

theorem row_bytes {w : World} {a : Option Addr} {l : List UInt8} (h : RowAt w a (l.map byteV)) {n : Nat} (hn : l.length = n) : BytesAt w a n (fun i => l.getD i 0) := by
  intro i hi
  obtain ⟨b, off, ha, hlt, hc⟩ := row_byte h i (by omega)
  exact ⟨b, off, ha, hlt, by rw [hc]; simp [hn, hi]⟩

theorem bytes_row {w : World} {a : Option Addr} {n : Nat} {f : Nat → UInt8} (h : BytesAt w a n f) : RowAt w a (((List.range n).map f).map byteV) := by
  intro i hi
  have hi' : i < n := by simpa using hi
  obtain ⟨b, off, ha, hlt, hc⟩ := h i hi'
  exact ⟨b, off, ha, hlt, by rw [hc]; simp [byteV]⟩

/-- The marks k, k+1, .., as bytes. -/
def markB (k : Nat) (n : Nat) : List Value := (List.range n).map fun (i : Nat) => Value.int .u8 (((k : Int) + (i : Int)) % 256)
theorem markB_length (k n : Nat) : (markB k n).length = n := by simp [markB]
theorem markB_get (k n i : Nat) (h : i < (markB k n).length) : (markB k n)[i] = Value.int .u8 (((k : Int) + (i : Int)) % 256) := by simp [markB]

/-- After j marks: the first j are marks, the rest is as it was. -/
def markedB (k : Nat) (l : List Value) (j : Nat) : List Value := markB k j ++ l.drop j
theorem markedB_length (k : Nat) (l : List Value) (j : Nat) (h : j ≤ l.length) : (markedB k l j).length = l.length := by simp [markedB, markB_length]; omega
theorem markedB_zero (k : Nat) (l : List Value) : markedB k l 0 = l := by simp [markedB, markB]
theorem markedB_all (k : Nat) (l : List Value) : markedB k l l.length = markB k l.length := by simp [markedB]
theorem markedB_set (k : Nat) (l : List Value) (j : Nat) (h : j < l.length) : (markedB k l j).set j (Value.int .u8 (((k : Int) + (j : Int)) % 256)) = markedB k l (j + 1) := by
  apply List.ext_getElem?
  intro i
  simp only [markedB, markB, List.getElem?_set, List.getElem?_append, List.length_map, List.length_range, List.getElem?_map, List.getElem?_drop, List.length_append, List.length_drop]
  by_cases h1 : i < j
  · rw [if_neg (by omega), if_pos h1, if_pos (by omega), List.getElem?_range h1, List.getElem?_range (by omega)]
  · by_cases h2 : i = j
    · subst h2
      rw [if_pos rfl, if_pos (by omega), if_pos (by omega), List.getElem?_range (by omega)]
      rfl
    · rw [if_neg (by omega), if_neg h1, if_neg (by omega)]
      congr 1; omega

theorem info_u8 : (Try.prog.info? 5).map (fun i => (i.zero, i.size, i.bytes)) = some (some (.int .u8 0), 1, 1) := by kernel_rfl

end Go.Proofs.Ytgbdkajnlemblaa

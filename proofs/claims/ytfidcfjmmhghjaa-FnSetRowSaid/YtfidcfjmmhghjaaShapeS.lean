/- Slices of shapes: reading, and the laws' helpers over them. -/
import Derived.Test.YtfidcfjmmhghjaaOwnN
import Derived.Test.YtfidcfjmmhghjaaShape
import Derived.Deep.RegionHeld3
namespace Go.Proofs.Ytfidcfjmmhghjaa
open Go.RowKit

structure Shp where
  W : Int
  b : UInt8
  L : Bool
instance : DecidableEq Shp := fun s t => decidable_of_iff (s.W = t.W ∧ s.b = t.b ∧ s.L = t.L) (by obtain ⟨a, b, c⟩ := s; obtain ⟨a', b', c'⟩ := t; simp)
def shC (s : Shp) : List Value := [.int .i64 s.W, .int .u8 (s.b.toNat : Int), .bool s.L]
def shCs (l : List Shp) : List Value := l.flatMap shC
theorem shCs_len (l : List Shp) : (shCs l).length = l.length * 3 := by
  induction l with
  | nil => rfl
  | cons a l ih => rw [shCs, List.flatMap_cons, List.length_append, ← shCs, ih]; simp [shC]; omega
theorem shCs_get (l : List Shp) (i : Nat) (h : i < l.length) : (shCs l)[i * 3]? = some (.int .i64 l[i].W) ∧ (shCs l)[i * 3 + 1]? = some (.int .u8 (l[i].b.toNat : Int)) ∧ (shCs l)[i * 3 + 2]? = some (.bool l[i].L) := by
  induction l generalizing i with
  | nil => simp at h
  | cons a l ih =>
    have e : shCs (a :: l) = .int .i64 a.W :: .int .u8 (a.b.toNat : Int) :: .bool a.L :: shCs l := rfl
    rw [e]
    rcases i with _ | i
    · exact ⟨rfl, rfl, rfl⟩
    · have h' := ih i (by simpa using h)
      have e1 : (i + 1) * 3 = i * 3 + 3 := by omega
      rw [e1]
      simpa using h'
/-- One shape of a row of shapes. -/
theorem row_shp {w : World} {a : Option Addr} {l : List Shp} (h : RowAt w a (shCs l)) (i : Nat) (hi : i < l.length) :
    ∃ b off, a = some ⟨b, off, none⟩ ∧ b < w.heap.size ∧ w.cell? ⟨b, off + i * 3, none⟩ = some (.int .i64 l[i].W) ∧ w.cell? ⟨b, off + i * 3 + 1, none⟩ = some (.int .u8 (l[i].b.toNat : Int)) ∧ w.cell? ⟨b, off + i * 3 + 2, none⟩ = some (.bool l[i].L) := by
  have hl := shCs_len l
  have hg := shCs_get l i hi
  obtain ⟨b, off, ha, hlt, h0⟩ := h (i * 3) (by omega)
  obtain ⟨b1, off1, ha1, _, h1⟩ := h (i * 3 + 1) (by omega)
  obtain ⟨b2, off2, ha2, _, h2⟩ := h (i * 3 + 2) (by omega)
  rw [ha] at ha1 ha2
  obtain ⟨rfl, rfl⟩ : b = b1 ∧ off = off1 := by injection ha1 with e; injection e with e1 e2; exact ⟨e1, e2⟩
  obtain ⟨rfl, rfl⟩ : b = b2 ∧ off = off2 := by injection ha2 with e; injection e with e1 e2; exact ⟨e1, e2⟩
  have g0 := hg.1; have g1 := hg.2.1; have g2 := hg.2.2
  rw [List.getElem?_eq_getElem (by omega)] at g0 g1 g2
  refine ⟨b, off, ha, hlt, h0.trans g0, ?_, ?_⟩
  · rw [← Nat.add_assoc] at h1; exact h1.trans g1
  · rw [← Nat.add_assoc] at h2; exact h2.trans g2

theorem info_shp : (Try.prog.info? 32).map (fun i => (i.zero, i.size)) = some (some (.agg #[.int .i64 0, .int .u8 0, .bool false]), 3) := by kernel_rfl
theorem info_shp2 : (Try.prog.info? 32).map (fun i => (i.zero, i.size, i.bytes)) = some (some (.agg #[.int .i64 0, .int .u8 0, .bool false]), 3, 16) := by kernel_rfl
end Go.Proofs.Ytfidcfjmmhghjaa

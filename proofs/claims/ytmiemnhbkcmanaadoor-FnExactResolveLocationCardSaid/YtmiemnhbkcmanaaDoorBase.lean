/- Plain words and lemmas that the walks of this seat share: rows that are read, owned rows, the reader of drawn codes. -/
import Derived.Test.YtmiemnhbkcmanaaDoorProg
import Derived.WalkKit
import Derived.Handy
import Derived.WalkSpells
import Derived.WalkLawsBesides
import Derived.Lib.Hide
import Derived.Deep.QuietTactic
import Derived.BigQuiet
import Derived.WalkSmall
import Derived.OpenShut
namespace Go.Proofs.YtmiemnhbkcmanaaDoor
open Go.RowKit

theorem bcell {W w1 : World} {B : Nat} (hb : Below B W w1) : (∀ b o, b < B → w1.cell? ⟨b, o, none⟩ = W.cell? ⟨b, o, none⟩) ∧ (∀ b o, b < B → w1.frozen? ⟨b, o, none⟩ = W.frozen? ⟨b, o, none⟩) :=
  ⟨fun b o h => hb.cell (p := ⟨b, o, none⟩) h, fun b o h => hb.frozen (p := ⟨b, o, none⟩) h⟩

theorem grown_refl (w : World) (row : Option Nat) : w.grownBy w row := World.grownBy.refl w row
theorem grown_trans' {a b c : World} {row : Option Nat} (h : a.grownBy b row) (k : b.grownBy c row) : a.grownBy c row :=
  ⟨k.os.trans h.os, k.tape.trans h.tape, k.output.trans h.output, Nat.le_trans h.size k.size, fun i hi hn => (k.block i (Nat.lt_of_lt_of_le hi h.size) hn).trans (h.block i hi hn)⟩
theorem grown_of_below {a b : World} (h : Below a.heap.size a b) (row : Option Nat) : a.grownBy b row := ⟨h.os, h.tape, h.output, h.size, fun i hi _ => h.block i hi⟩
theorem below_of_grown {a b : World} {row : Option Nat} {B : Nat} (h : a.grownBy b row) (hB : B ≤ a.heap.size) (hr : ∀ k, row = some k → B ≤ k) : Below B a b := (Below.refl B a).grown h hB hr
theorem grown_drewN {a b : World} {row : Option Nat} (h : a.grownBy b row) (n : Nat) : a.grownBy (b.drewN n) row := ⟨h.os, h.tape, h.output, h.size, h.block⟩
theorem grown_setCell {a b : World} {g : Nat} (h : a.grownBy b (some g)) (o : Nat) (u : Value) : a.grownBy (b.setCell ⟨g, o, none⟩ u) (some g) :=
  ⟨h.os, h.tape, h.output, by simpa [World.setCell] using h.size, fun i hi hne => (Below.heap_setCell b ⟨g, o, none⟩ u i (by rintro rfl; exact hne rfl)).trans (h.block i hi hne)⟩

/-- What a walk is told of a slice of integers that came in: it is nil; or it leads to a row of cap cells that hold the numbers zs, each fitting its kind. -/
def IsRow (k : IntKind) (w : World) (a : Option Addr) (len cap : Nat) (zs : List Int) : Prop :=
  (a = none ∧ len = 0 ∧ cap = 0 ∧ zs = []) ∨
  ∃ x, a = some x ∧ len ≤ cap ∧ cap ≤ maxLen ∧ zs.length = cap ∧ (∀ i, i < zs.length → w.cell? (x.add i) = some (.int k (zs.getD i 0))) ∧ ∀ n ∈ zs, (Lit.int k n).wf = true

/-- The bytes of a slice of n bytes can be read. -/
def BytesAt (w : World) (a : Option Addr) (n : Nat) (f : Nat → UInt8) : Prop :=
  ∀ i, i < n → ∃ b off, a = some ⟨b, off, none⟩ ∧ b < w.heap.size ∧ w.cell? ⟨b, off + i, none⟩ = some (.int .u8 ((f i).toNat : Int))

theorem BytesAt.below {w w' : World} {B : Nat} {a : Option Addr} {n : Nat} {f : Nat → UInt8} (h : BytesAt w a n f) (hB : w.heap.size ≤ B) (hb : Below B w w') : BytesAt w' a n f := by
  intro i hi
  obtain ⟨b, off, ha, hlt, hc⟩ := h i hi
  exact ⟨b, off, ha, Nat.lt_of_lt_of_le hlt hb.size, (hb.cell (p := ⟨b, off + i, none⟩) (by show b < B; omega)).trans hc⟩

/-- The numbers of a slice of n ints can be read, and each fits. -/
def IntsAt (w : World) (a : Option Addr) (n : Nat) (f : Nat → Int) : Prop :=
  ∀ i, i < n → ∃ b off, a = some ⟨b, off, none⟩ ∧ b < w.heap.size ∧ w.cell? ⟨b, off + i, none⟩ = some (.int .i64 (f i)) ∧ -9223372036854775808 ≤ f i ∧ f i ≤ 9223372036854775807

theorem IntsAt.below {w w' : World} {B : Nat} {a : Option Addr} {n : Nat} {f : Nat → Int} (h : IntsAt w a n f) (hB : w.heap.size ≤ B) (hb : Below B w w') : IntsAt w' a n f := by
  intro i hi
  obtain ⟨b, off, ha, hlt, hc, hf⟩ := h i hi
  exact ⟨b, off, ha, Nat.lt_of_lt_of_le hlt hb.size, (hb.cell (p := ⟨b, off + i, none⟩) (by show b < B; omega)).trans hc, hf⟩

theorem row_spot {k : IntKind} {w : World} {a : Option Addr} {n c : Nat} {z : List Int} (h : IsRow k w a n c z) (i : Nat) (hi : i < n) :
    ∃ b off, a = some ⟨b, off, none⟩ ∧ b < w.heap.size ∧ w.cell? ⟨b, off + i, none⟩ = some (.int k (z.getD i 0)) ∧ (Lit.int k (z.getD i 0)).wf = true := by
  rcases h with ⟨_, rfl, _⟩ | ⟨x, rfl, hl, hm, hz, hc, hw⟩
  · omega
  · obtain ⟨b, off, spot⟩ := x
    have h1 := hc i (by omega)
    have hs : spot = none := by simpa [Addr.add] using World.cell?_spot (hc 0 (by omega))
    subst hs
    have h2 : w.cell? ⟨b, off + i, none⟩ = some (.int k (z.getD i 0)) := by
      have e : (⟨b, off, none⟩ : Addr).add i = ⟨b, off + i, none⟩ := by unfold Addr.add; split <;> simp_all
      rw [e] at h1; exact h1
    refine ⟨b, off, rfl, World.block_lt_of_cell? w _ h2, h2, hw _ ?_⟩
    rw [List.getD_eq_getElem?_getD, List.getElem?_eq_getElem (by omega)]
    exact List.getElem_mem _

theorem IsRow.bytes {w : World} {a : Option Addr} {n c : Nat} {z : List Int} (h : IsRow .u8 w a n c z) : BytesAt w a n (fun i => UInt8.ofNat (z.getD i 0).toNat) := by
  intro i hi
  obtain ⟨b, off, ha, hlt, hc, hw⟩ := row_spot h i hi
  refine ⟨b, off, ha, hlt, ?_⟩
  rw [hc]
  have hb := bounds_u8 hw
  congr 2
  rw [UInt8.toNat_ofNat']
  omega

theorem IsRow.ints {w : World} {a : Option Addr} {n c : Nat} {z : List Int} (h : IsRow .i64 w a n c z) : IntsAt w a n (fun i => z.getD i 0) := by
  intro i hi
  obtain ⟨b, off, ha, hlt, hc, hw⟩ := row_spot h i hi
  exact ⟨b, off, ha, hlt, hc, bounds_i64 hw⟩

theorem IsRow.caps {k : IntKind} {w : World} {a : Option Addr} {n c : Nat} {z : List Int} (h : IsRow k w a n c z) : n ≤ c ∧ c ≤ 9223372036854775807 := by
  rcases h with ⟨_, rfl, rfl, _⟩ | ⟨x, _, hl, hm, _⟩
  · exact ⟨Nat.le_refl _, by omega⟩
  · exact ⟨hl, by simpa [maxLen] using hm⟩

/-- A cell of a block of known values, read behind what has grown since. -/
theorem lit_at {w w' : World} {C : Array Value} {t : TypeId} {row : Option Nat} {Q : Value → Prop} (hg : (w.alloc (.cells C t (0, 0))).grownBy w' row) (hne : row ≠ some w.heap.size) (h : ∀ x ∈ C.toList, Q x) (v : Nat) (hv : v < C.size) :
    ∃ x, w'.cell? ⟨w.heap.size, v, none⟩ = some x ∧ Q x := by
  refine ⟨C[v], ?_, h _ (by simp)⟩
  refine hg.cell (a := ⟨w.heap.size, v, none⟩) ?_ (fun e => hne e.symm)
  rw [World.cell?_alloc_mark, Array.getElem?_eq_getElem hv]

/-- A number that fits in 32 bits. -/
def Small (lo hi : Int) (x : Value) : Prop := ∃ u : Int, x = .int .i64 u ∧ lo ≤ u ∧ u ≤ hi

theorem upto_succ {P : Nat → Prop} {k : Nat} (h : ∀ i, i < k → P i) (hk : P k) : ∀ i, i < k + 1 → P i := fun i hi => by
  rcases Nat.lt_or_ge i k with h1 | h1
  · exact h i h1
  · have : i = k := by omega
    subst this
    exact hk

end Go.Proofs.YtmiemnhbkcmanaaDoor

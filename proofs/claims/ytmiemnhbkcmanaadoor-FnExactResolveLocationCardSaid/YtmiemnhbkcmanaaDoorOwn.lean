/- Rows of one-cell values that are read, and owned rows: the lemmas that the contracts of the laws' helpers share. -/
import Derived.Test.YtmiemnhbkcmanaaDoorBase
import Derived.Laws.OwnMore
namespace Go.Proofs.YtmiemnhbkcmanaaDoor
open Go.RowKit

/-- The values l can be read from the address a on. -/
def RowAt (w : World) (a : Option Addr) (l : List Value) : Prop :=
  ∀ i (h : i < l.length), ∃ b off, a = some ⟨b, off, none⟩ ∧ b < w.heap.size ∧ w.cell? ⟨b, off + i, none⟩ = some l[i]

theorem RowAt.below {w w' : World} {a : Option Addr} {l : List Value} (h : RowAt w a l) {B : Nat} (hB : w.heap.size ≤ B) (hb : Below B w w') : RowAt w' a l := by
  intro i hi
  obtain ⟨b, off, ha, hlt, hc⟩ := h i hi
  exact ⟨b, off, ha, Nat.lt_of_lt_of_le hlt hb.size, (hb.cell (p := ⟨b, off + i, none⟩) (by show b < B; omega)).trans hc⟩

theorem RowAt.grown {w w' : World} {a : Option Addr} {l : List Value} (h : RowAt w a l) {row : Option Nat} (hg : w.grownBy w' row) (hr : ∀ k x, row = some k → a = some x → x.block ≠ k) : RowAt w' a l := by
  intro i hi
  obtain ⟨b, off, ha, hlt, hc⟩ := h i hi
  exact ⟨b, off, ha, Nat.lt_of_lt_of_le hlt hg.size, hg.cell hc (fun e => hr b _ e.symm ha rfl)⟩

theorem RowAt.nil {w : World} {a : Option Addr} : RowAt w a [] := fun i h => absurd h (by simp)

/-- What an owned row looks like. -/
theorem own_form {w : World} {B : Nat} {e : TypeId} {v : Value} {l : List Value} (h : w.ownsRow B e 1 v l.length l) :
    ∃ a c, v = .slice a l.length c ∧ RowAt w a l ∧ l.length ≤ c ∧ c ≤ 9223372036854775807 ∧ (∀ x, a = some x → B ≤ x.block ∧ x.block < w.heap.size) := by
  obtain ⟨hl, h⟩ := h
  rcases h with ⟨rfl, h0⟩ | ⟨g, cap, cur, rfl, hB, hg, hn, hm, hs, ht⟩
  · have : l = [] := List.eq_nil_of_length_eq_zero h0
    subst this
    exact ⟨none, 0, rfl, RowAt.nil, Nat.le_refl _, by omega, by intro x hx; cases hx⟩
  · have hlt : g < w.heap.size := (Array.getElem?_eq_some_iff.1 hg).1
    refine ⟨some ⟨g, 0, none⟩, cap, rfl, fun i hi => ⟨g, 0, rfl, hlt, ?_⟩, hn, by simpa [maxLen] using hm, by intro x hx; injection hx with hx; subst hx; exact ⟨hB, hlt⟩⟩
    rw [cell_of_row w g (0 + i) cur e (0, 0) hg, Nat.zero_add]
    have : l[i]? = some l[i] := List.getElem?_eq_getElem hi
    rw [← this]
    conv => rhs; rw [← ht]
    rw [List.getElem?_take, if_pos (by omega)]
    simp

theorem own_below {w w' : World} {B : Nat} {e : TypeId} {v : Value} {n : Nat} {l : List Value} (h : w.ownsRow B e 1 v n l) (hb : Below w.heap.size w w') : w'.ownsRow B e 1 v n l :=
  h.kept (grown_of_below hb none) (by cases hv : v.ownBlock <;> simp)

theorem own_mono {w : World} {B B' : Nat} {e : TypeId} {v : Value} {n : Nat} {l : List Value} (h : w.ownsRow B e 1 v n l) (hB : B' ≤ B) : w.ownsRow B' e 1 v n l := by
  obtain ⟨hl, h⟩ := h
  refine ⟨hl, ?_⟩
  rcases h with h | ⟨g, cap, cur, hv, hg, rest⟩
  · exact .inl h
  · exact .inr ⟨g, cap, cur, hv, by omega, rest⟩

/-- An owned row stays owned while another row is written. -/
theorem own_other {w w' : World} {B : Nat} {e : TypeId} {v : Value} {n : Nat} {l : List Value} {row : Option Nat} (h : w.ownsRow B e 1 v n l) (hg : w.grownBy w' row) (hne : ∀ k, v.ownBlock = some k → row ≠ some k) : w'.ownsRow B e 1 v n l := by
  refine h.kept hg ?_
  cases hv : v.ownBlock with
  | none => exact .inl rfl
  | some k => exact .inr (fun e => hne k hv e.symm)

theorem own_ge {w : World} {B : Nat} {e : TypeId} {v : Value} {n : Nat} {l : List Value} (h : w.ownsRow B e 1 v n l) : ∀ k, v.ownBlock = some k → B ≤ k ∧ k < w.heap.size := h.lt

/-- A written cell of an owned row. -/
theorem own_set {w : World} {B : Nat} {e : TypeId} {g c : Nat} {l : List Value} (h : w.ownsRow B e 1 (.slice (some ⟨g, 0, none⟩) l.length c) l.length l) (i : Nat) (hi : i < l.length) (u : Value) :
    w.frozen? ⟨g, i, none⟩ = false ∧ (∃ x, w.cell? ⟨g, i, none⟩ = some x) ∧ (w.setCell ⟨g, i, none⟩ u).ownsRow B e 1 (.slice (some ⟨g, 0, none⟩) l.length c) l.length (l.set i u) ∧ B ≤ g := by
  obtain ⟨hl, h⟩ := h
  rcases h with ⟨hv, _⟩ | ⟨g', cap, cur, hv, hB, hg, hn, hm, hs, ht⟩
  · cases hv
  · injection hv with h1 h2 h3
    injection h1 with h1
    injection h1 with h1
    subst h1; subst h3
    have hsz : i < cur.size := by omega
    refine ⟨by simp [World.frozen?, hg], ⟨cur[i], by rw [cell_of_row w g i cur e (0, 0) hg, Array.getElem?_eq_getElem hsz]⟩, ⟨by simp, .inr ⟨g, c, cur.setIfInBounds i u, rfl, hB, heap_setCell_same w g i cur e u hg, hn, hm, by simpa using hs, ?_⟩⟩, hB⟩
    rw [Array.toList_setIfInBounds, List.take_set, ht]

theorem own_len {w : World} {B : Nat} {e : TypeId} {v : Value} {n : Nat} {l : List Value} (h : w.ownsRow B e 1 v n l) : l.length = n := by have := h.1; omega

theorem own_setn {w : World} {B : Nat} {e : TypeId} {g n c : Nat} {l : List Value} (h : w.ownsRow B e 1 (.slice (some ⟨g, 0, none⟩) n c) n l) (i : Nat) (hi : i < n) (u : Value) :
    w.frozen? ⟨g, i, none⟩ = false ∧ (∃ x, w.cell? ⟨g, i, none⟩ = some x) ∧ (w.setCell ⟨g, i, none⟩ u).ownsRow B e 1 (.slice (some ⟨g, 0, none⟩) n c) n (l.set i u) ∧ B ≤ g := by
  have hl := own_len h
  subst hl
  exact own_set h i hi u

theorem own_formn {w : World} {B : Nat} {e : TypeId} {v : Value} {n : Nat} {l : List Value} (h : w.ownsRow B e 1 v n l) :
    ∃ a c, v = .slice a n c ∧ RowAt w a l ∧ n ≤ c ∧ c ≤ 9223372036854775807 ∧ (∀ x, a = some x → B ≤ x.block ∧ x.block < w.heap.size) := by
  have hl := own_len h
  subst hl
  exact own_form h

/-- After j copied values of l, the rest holds what stood there. -/
def copied (l z : List Value) (j : Nat) : List Value := l.take j ++ z.drop j
theorem copied_length (l z : List Value) (j : Nat) (hz : z.length = l.length) : (copied l z j).length = l.length := by simp [copied, hz]; omega
theorem copied_zero (l z : List Value) : copied l z 0 = z := by simp [copied]
theorem copied_all (l z : List Value) (hz : z.length = l.length) : copied l z l.length = l := by
  rw [copied, List.take_length, List.drop_eq_nil_of_le (by omega), List.append_nil]
theorem copied_set (l z : List Value) (j : Nat) (h : j < l.length) (hz : z.length = l.length) : (copied l z j).set j l[j] = copied l z (j + 1) := by
  apply List.ext_getElem?
  intro i
  simp only [copied, List.getElem?_set, List.getElem?_append, List.length_take, List.length_append, List.length_drop, List.getElem?_take, List.getElem?_drop]
  by_cases h1 : i < j
  · rw [if_neg (by omega), if_pos (by omega), if_pos h1, if_pos (by omega), if_pos (by omega)]
  · by_cases h2 : i = j
    · subst h2
      rw [if_pos rfl, if_pos (by omega), if_pos (by omega), if_pos (by omega), List.getElem?_eq_getElem h]
    · rw [if_neg (by omega), if_neg (by omega), if_neg (by omega)]
      congr 1; omega

end Go.Proofs.YtmiemnhbkcmanaaDoor

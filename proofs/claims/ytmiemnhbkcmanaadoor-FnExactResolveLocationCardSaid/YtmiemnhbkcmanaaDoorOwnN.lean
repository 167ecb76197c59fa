/- Owned rows whose elements have more than one cell. -/
import Derived.Test.YtmiemnhbkcmanaaDoorOwn
import Derived.Test.YtmiemnhbkcmanaaDoorApp
import Derived.Laws.AppendOwn
namespace Go.Proofs.YtmiemnhbkcmanaaDoor
open Go.RowKit

section
variable {w w' : World} {B B' k n : Nat} {e : TypeId} {v : Value} {l : List Value}
theorem ownN_formn (h : w.ownsRow B e k v n l) : ∃ a c, v = .slice a n c ∧ RowAt w a l ∧ n ≤ c ∧ c ≤ 9223372036854775807 ∧ (a = none → c = 0) ∧ (∀ x, a = some x → B ≤ x.block ∧ x.block < w.heap.size) := by
  obtain ⟨hl, h⟩ := h
  rcases h with ⟨rfl, h0⟩ | ⟨g, cap, cur, rfl, hB, hg, hn, hm, hs, ht⟩
  · subst h0
    have : l = [] := List.eq_nil_of_length_eq_zero (by simpa using hl)
    subst this
    exact ⟨none, 0, rfl, RowAt.nil, Nat.le_refl _, by omega, fun _ => rfl, by intro x hx; cases hx⟩
  · have hlt : g < w.heap.size := (Array.getElem?_eq_some_iff.1 hg).1
    refine ⟨some ⟨g, 0, none⟩, cap, rfl, fun i hi => ⟨g, 0, rfl, hlt, ?_⟩, hn, by simpa [maxLen] using hm, (fun h => by cases h), by intro x hx; injection hx with hx; subst hx; exact ⟨hB, hlt⟩⟩
    rw [cell_of_row w g (0 + i) cur e (0, 0) hg, Nat.zero_add]
    have : l[i]? = some l[i] := List.getElem?_eq_getElem hi
    rw [← this]
    conv => rhs; rw [← ht]
    rw [List.getElem?_take, if_pos (by omega)]
    simp
theorem ownN_row {a : Option Addr} {m c : Nat} (h : w.ownsRow B e k (.slice a m c) n l) : RowAt w a l := by
  obtain ⟨a', c', hv, hr, _⟩ := ownN_formn h
  injection hv with h1
  subst h1
  exact hr
theorem ownN_below (h : w.ownsRow B e k v n l) (hb : Below w.heap.size w w') : w'.ownsRow B e k v n l :=
  h.kept (grown_of_below hb none) (by cases hv : v.ownBlock <;> simp)
theorem ownN_mono (h : w.ownsRow B e k v n l) (hB : B' ≤ B) : w.ownsRow B' e k v n l := by
  obtain ⟨hl, h⟩ := h
  refine ⟨hl, ?_⟩
  rcases h with h | ⟨g, cap, cur, hv, hg, rest⟩
  · exact .inl h
  · exact .inr ⟨g, cap, cur, hv, by omega, rest⟩
theorem ownN_other {row : Option Nat} (h : w.ownsRow B e k v n l) (hg : w.grownBy w' row) (hne : ∀ j, v.ownBlock = some j → row ≠ some j) : w'.ownsRow B e k v n l := by
  refine h.kept hg ?_
  cases hv : v.ownBlock with
  | none => exact .inl rfl
  | some j => exact .inr (fun e => hne j hv e.symm)
theorem ownN_ge (h : w.ownsRow B e k v n l) : ∀ j, v.ownBlock = some j → B ≤ j ∧ j < w.heap.size := h.lt
theorem ownN_R {R : Nat} (h : w.ownsRow B e k v n l) (hg : w.grownBy w' (some R)) (hR : R < B) : w'.ownsRow B e k v n l :=
  ownN_other h hg (fun j hj e => by have := ownN_ge h j hj; injection e with e; omega)
theorem ownN_len (h : w.ownsRow B e k v n l) : l.length = n * k := h.1
theorem ownN_new (w : World) (C : Array Value) (e : TypeId) (k n : Nat) (hn : C.size = n * k) (hm : n ≤ 9223372036854775807) :
    (w.alloc (.cells C e (0, 0))).ownsRow w.heap.size e k (.slice (some ⟨w.heap.size, 0, none⟩) n n) n C.toList :=
  World.ownsRow_lit w C n (Nat.le_refl _) (by simpa [maxLen] using hm) hn
theorem ownN_types_ne {k' n' : Nat} {e' : TypeId} {v' : Value} {l' : List Value} (h : w.ownsRow B e k v n l) (h' : w.ownsRow B' e' k' v' n' l') (hne : e ≠ e') : ∀ j, v.ownBlock = some j → v'.ownBlock ≠ some j := by
  rcases h.2 with ⟨rfl, _⟩ | ⟨g, cap, cur, rfl, _, hh, _⟩
  · intro j hk; simp [Value.ownBlock] at hk
  · rcases h'.2 with ⟨rfl, _⟩ | ⟨g', cap', cur', rfl, _, hh', _⟩
    · intro j _; simp [Value.ownBlock]
    · intro j hk hk'
      have e1 : g = j := by simpa [Value.ownBlock] using hk
      have e2 : g' = j := by simpa [Value.ownBlock] using hk'
      subst e1; subst e2
      rw [hh] at hh'
      injection hh' with hh'
      injection hh' with _ ht
      exact hne ht
theorem copied_set' (l z : List Value) (j : Nat) (x : Value) (h : l[j]? = some x) (hz : z.length = l.length) : (copied l z j).set j x = copied l z (j + 1) := by
  obtain ⟨hj, rfl⟩ := List.getElem?_eq_some_iff.1 h
  exact copied_set l z j hj hz
/-- Three cells written in a row whose elements have three. -/
theorem ownN_set3 {g c i : Nat} {x0 x1 x2 : Value} (h : w.ownsRow B e 3 (.slice (some ⟨g, 0, none⟩) n c) n l) (hi : i < n) :
    (w.frozen? ⟨g, i * 3, none⟩ = false ∧ w.frozen? ⟨g, i * 3 + 1, none⟩ = false ∧ w.frozen? ⟨g, i * 3 + 2, none⟩ = false) ∧
    (∃ y0 y1 y2, w.cell? ⟨g, i * 3, none⟩ = some y0 ∧ w.cell? ⟨g, i * 3 + 1, none⟩ = some y1 ∧ w.cell? ⟨g, i * 3 + 2, none⟩ = some y2) ∧
    (((w.setCell ⟨g, i * 3, none⟩ x0).setCell ⟨g, i * 3 + 1, none⟩ x1).setCell ⟨g, i * 3 + 2, none⟩ x2).ownsRow B e 3 (.slice (some ⟨g, 0, none⟩) n c) n (((l.set (i * 3) x0).set (i * 3 + 1) x1).set (i * 3 + 2) x2) := by
  have hl := h.1
  have cell : ∀ j, j < n * 3 → ∃ y, w.cell? ⟨g, j, none⟩ = some y := fun j hj => by
    rw [h.cellAt j hj]
    exact ⟨_, List.getElem?_eq_getElem (by omega)⟩
  obtain ⟨y0, h0⟩ := cell (i * 3) (by omega)
  obtain ⟨y1, h1⟩ := cell (i * 3 + 1) (by omega)
  obtain ⟨y2, h2⟩ := cell (i * 3 + 2) (by omega)
  exact ⟨⟨h.frozenAt _, h.frozenAt _, h.frozenAt _⟩, ⟨y0, y1, y2, h0, h1, h2⟩, (((h.stored _ x0).1.stored _ x1).1.stored _ x2).1⟩
end
end Go.Proofs.YtmiemnhbkcmanaaDoor

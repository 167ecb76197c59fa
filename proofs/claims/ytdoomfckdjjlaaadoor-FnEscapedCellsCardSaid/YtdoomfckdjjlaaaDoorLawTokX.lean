/- The walk of the law FnExactTableTokens. -/
import Derived.Test.YtdoomfckdjjlaaaDoorTokC
import Derived.Test.YtdoomfckdjjlaaaDoorTokI
import Derived.Test.YtdoomfckdjjlaaaDoorTokS
namespace Go.Proofs.YtdoomfckdjjlaaaDoor
open Go.RowKit

theorem OwnLs.below2 {w w' : World} (hb : Below w.heap.size w w') : ∀ (vs : List Value) (T : List (List ByteArray)) (U : Nat), OwnLs w U vs T → OwnLs w' U vs T := by
  intro vs
  induction vs with
  | nil => intro T U h; cases T with
    | nil => exact True.intro
    | cons F T => exact h
  | cons v vs ih => intro T U h; cases T with
    | nil => exact h
    | cons F T =>
      obtain ⟨V, h1, h2, h3, h4⟩ := h
      exact ⟨V, h1, ownN_below h2 hb, h3, ih T V h4⟩
theorem tokR_len (T : List (List ByteArray)) : (tokR T).length ≤ 60 := by
  by_cases h : tabB T = true
  · rw [tokR_yes h]
    unfold tabB at h
    rw [Bool.and_eq_true] at h
    exact of_decide_eq_true h.2
  · rw [tokR, if_neg h]; simp
theorem cell_K (s : ByteArray) : ∀ t ∈ cellToks s, t.K ≤ 3 := by
  intro t ht
  unfold cellToks at ht
  split at ht
  · simp only [List.append_nil, List.mem_append, List.mem_cons, List.not_mem_nil, or_false] at ht
    rcases ht with rfl | rfl <;> simp
  · simp only [List.mem_append, List.mem_cons, List.not_mem_nil, or_false] at ht
    rcases ht with (rfl | rfl) | rfl <;> simp
theorem row_K (r : List ByteArray) : ∀ t ∈ rowToks r, t.K ≤ 3 := by
  intro t ht
  unfold rowToks at ht
  simp only [List.mem_append, List.mem_cons, List.not_mem_nil, or_false, List.mem_flatMap] at ht
  rcases ht with (rfl | ⟨s, _, hs⟩) | rfl
  · simp
  · exact cell_K s t hs
  · simp
theorem tokR_K (T : List (List ByteArray)) : ∀ t ∈ tokR T, t.K ≤ 3 := by
  intro t ht
  by_cases h : tabB T = true
  · rw [tokR_yes h] at ht
    unfold tabToks at ht
    simp only [List.mem_append, List.mem_cons, List.not_mem_nil, or_false, List.mem_flatMap] at ht
    rcases ht with (rfl | ⟨s, _, hs⟩) | rfl
    · simp
    · exact row_K s t hs
    · simp
  · rw [tokR, if_neg h] at ht; cases ht
theorem cAt_fit {T : List (List ByteArray)} (h : TabOkN 1048576 T) (i : Nat) : cAt 1 T i ≤ 4611686018427387904 := by
  have : ∀ l : List (List ByteArray), (∀ r ∈ l, r.length ≤ 1048576) → (l.map List.length).sum ≤ l.length * 1048576 := by
    intro l
    induction l with
    | nil => intro _; simp
    | cons s l ih =>
      intro hl
      have := ih (fun t ht => hl t (by simp [ht]))
      have := hl s (by simp)
      rw [List.map_cons, List.sum_cons, List.length_cons]
      omega
  have h2 := this (T.take i) (fun s hs => (h.2 s (List.mem_of_mem_take hs)).1)
  have h3 : (T.take i).length ≤ 1048576 := by rw [List.length_take]; have := h.1; omega
  unfold cAt
  omega
end Go.Proofs.YtdoomfckdjjlaaaDoor

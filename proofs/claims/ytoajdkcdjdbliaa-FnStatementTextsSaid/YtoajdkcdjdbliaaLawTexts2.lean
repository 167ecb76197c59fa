/- The law FnStatementTexts: the plain part. -/
import Derived.Test.YtoajdkcdjdbliaaShpI
namespace Go.Proofs.Ytoajdkcdjdbliaa
open Go.RowKit

/-- How often the sign occurs. -/
def qN (l : List UInt8) : Nat := (l.filter (· == 63)).length
theorem qN_app (a b : List UInt8) : qN (a ++ b) = qN a + qN b := by simp [qN]
theorem qN_none {l : List UInt8} (h : l.contains 63 = false) : qN l = 0 := by
  unfold qN
  rw [List.length_eq_zero_iff, List.filter_eq_nil_iff]
  intro x hx e
  have : x = 63 := by simpa using e
  subst this
  have h2 : l.contains 63 = true := by rw [List.contains_iff_mem]; exact hx
  rw [h] at h2; cases h2
theorem qN_join : ∀ (L : List (List UInt8)) (x : List UInt8), hasQ (L ++ [x]) = false → qN (joinQ (L ++ [x])) = L.length := by
  intro L
  induction L with
  | nil =>
    intro x h
    unfold hasQ at h
    simp only [List.nil_append, List.any_cons, List.any_nil, Bool.or_false] at h
    show qN x = 0
    exact qN_none h
  | cons a L ih =>
    intro x h
    have h1 : a.contains 63 = false ∧ hasQ (L ++ [x]) = false := by
      unfold hasQ at h ⊢
      rw [List.cons_append, List.any_cons, Bool.or_eq_false_iff] at h
      exact h
    have e : joinQ (a :: L ++ [x]) = a ++ (63 :: joinQ (L ++ [x])) := by
      rcases L with _ | ⟨b, L⟩
      · rfl
      · rfl
    rw [e, qN_app, qN_none h1.1, show (63 : UInt8) :: joinQ (L ++ [x]) = [63] ++ joinQ (L ++ [x]) from rfl, qN_app, ih x h1.2]
    show 0 + (1 + L.length) = L.length + 1
    omega
theorem qN_take (l : List UInt8) (k : Nat) (h : k < l.length) : qN (l.take (k + 1)) = qN (l.take k) + (if l[k] = 63 then 1 else 0) := by
  rw [List.take_add_one, List.getElem?_eq_getElem h, qN_app]
  congr 1
  by_cases hx : l[k] = 63
  · rw [if_pos hx, hx]; rfl
  · rw [if_neg hx]
    unfold qN
    have : (l[k] == 63) = false := by simpa using hx
    simp [this]
theorem qN_le (l : List UInt8) : qN l ≤ l.length := by unfold qN; exact List.length_filter_le _ _
/-- Where the shape is given, its signs are as many as the texts. -/
theorem shape_texts {l : List UInt8} (h : (shapeR l).2 = true) : qN (shapeR l).1 = (textsR l).1.length ∧ (textsR l).2 = true := by
  unfold shapeR at h ⊢
  split at h
  · rename_i hc
    rw [if_pos hc]
    have hl := cut_lens l
    rw [hc.2.1] at hl
    have ht := textsR_yes hc.1 rfl hc.2.1
    rw [ht]
    refine ⟨?_, rfl⟩
    rw [qN_join _ _ hc.2.2, List.length_map]
    simpa using hl
  · cases h
end Go.Proofs.Ytoajdkcdjdbliaa

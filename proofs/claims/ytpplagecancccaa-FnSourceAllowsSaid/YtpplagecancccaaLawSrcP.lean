/- Valid sources: without the first they are valid, with the first twice they are not. -/
import Derived.Test.YtpplagecancccaaSrcV
import Derived.Test.YtpplagecancccaaSrcReg
namespace Go.Proofs.Ytpplagecancccaa
open Go.RowKit

theorem okTo_iff {S : List Src} : ∀ k, okTo S k = true ↔ ∀ i, i < k → ∀ s, S[i]? = some s → srcB s = true ∧ dupB (S.take i) s.K = false := by
  intro k
  induction k with
  | zero => exact ⟨fun _ i hi => by omega, fun _ => rfl⟩
  | succ k ih =>
    rw [okTo, Bool.and_eq_true, ih]
    constructor
    · rintro ⟨h1, h2⟩ i hi s hs
      rcases Nat.lt_or_ge i k with h | h
      · exact h1 i h s hs
      · obtain rfl : i = k := by omega
        rw [hs] at h2
        simpa using h2
    · intro h
      refine ⟨fun i hi => h i (by omega), ?_⟩
      cases hk : S[k]? with
      | none => rfl
      | some s =>
        have := h k (by omega) s hk
        simp [this.1, this.2]
theorem valid_iff {S : List Src} : validB S = true ↔ S.length ≤ 5 ∧ ∀ i s, S[i]? = some s → srcB s = true ∧ dupB (S.take i) s.K = false := by
  rw [validB, Bool.and_eq_true, decide_eq_true_iff, okTo_iff]
  constructor
  · rintro ⟨h1, h2⟩
    exact ⟨h1, fun i s hs => h2 i (List.getElem?_eq_some_iff.1 hs).1 s hs⟩
  · rintro ⟨h1, h2⟩
    exact ⟨h1, fun i _ s hs => h2 i s hs⟩
theorem dupB_cons {s : Src} {L : List Src} {K : ByteArray} (h : dupB (s :: L) K = false) : dupB L K = false := by
  unfold dupB at h ⊢
  rw [List.any_cons, Bool.or_eq_false_iff] at h
  exact h.2
theorem valid_tail {s : Src} {S : List Src} (h : validB (s :: S) = true) : validB S = true := by
  rw [valid_iff] at h ⊢
  obtain ⟨h1, h2⟩ := h
  refine ⟨by simp only [List.length_cons] at h1; omega, fun i t ht => ?_⟩
  have := h2 (i + 1) t (by simpa using ht)
  exact ⟨this.1, dupB_cons (by simpa using this.2)⟩
theorem valid_twice (s : Src) (S : List Src) : validB (s :: s :: S) = false := by
  cases hv : validB (s :: s :: S) with
  | false => rfl
  | true =>
    rw [valid_iff] at hv
    have := (hv.2 1 s rfl).2
    unfold dupB at this
    simp at this
theorem SrcsAt.tail {w : World} {B b off : Nat} {s : Src} {S : List Src} (h : SrcsAt w B (some ⟨b, off, none⟩) (s :: S)) : SrcsAt w B (some ⟨b, off + 2, none⟩) S := fun i hi => by
  obtain ⟨b', off', v, e, h1, h2, h3, h4⟩ := h (i + 1) (by simpa using hi)
  injection e with e
  injection e with e1 e2
  subst e1; subst e2
  have e2 : off + (i + 1) * 2 = off + 2 + i * 2 := by omega
  rw [e2] at h2 h3
  exact ⟨b, off + 2, v, rfl, h1, h2, h3, h4⟩
end Go.Proofs.Ytpplagecancccaa

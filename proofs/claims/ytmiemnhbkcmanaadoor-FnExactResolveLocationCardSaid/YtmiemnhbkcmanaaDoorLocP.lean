/- The text of a valid location is taken apart in one way only: plainly. -/
import Derived.Test.YtmiemnhbkcmanaaDoorLocS
namespace Go.Proofs.YtmiemnhbkcmanaaDoor
open Go.RowKit

theorem partC_free : ∀ b : UInt8, partC b = true → b ≠ 47 ∧ b ≠ 63 := byte_allW (p := fun b => partC b = true → b ≠ 47 ∧ b ≠ 63) (by decide +kernel)
theorem hostC_free : ∀ b : UInt8, hostC b = true → b ≠ 47 ∧ b ≠ 63 := byte_allW (p := fun b => hostC b = true → b ≠ 47 ∧ b ≠ 63) (by decide +kernel)
theorem step_free {l : List UInt8} (h : stepB l = true) : 47 ∉ l ∧ 63 ∉ l := by
  unfold stepB at h
  rw [Bool.and_eq_true, Bool.and_eq_true, List.all_eq_true] at h
  exact ⟨fun hm => (partC_free _ (h.2.1 _ hm)).1 rfl, fun hm => (partC_free _ (h.2.1 _ hm)).2 rfl⟩
theorem host_free {l : List UInt8} (h : hostB l = true) : 47 ∉ l ∧ 63 ∉ l := by
  unfold hostB at h
  rw [Bool.and_eq_true, List.all_eq_true] at h
  exact ⟨fun hm => (hostC_free _ (h.2 _ hm)).1 rfl, fun hm => (hostC_free _ (h.2 _ hm)).2 rfl⟩
theorem sch_free {l : List UInt8} (h : schB l = true) : 58 ∉ l ∧ 47 ∉ l ∧ 63 ∉ l ∧ l ≠ [] := by
  unfold schB at h
  rw [Bool.or_eq_true, decide_eq_true_iff, decide_eq_true_iff] at h
  rcases h with rfl | rfl <;> decide
theorem pathJ_nil_iff {P : List ByteArray} (h : ∀ x ∈ P, stepB (bl x) = true) : pathJ P = [] ↔ P = [] := by
  constructor
  · intro e
    rcases P with _ | ⟨x, r⟩
    · rfl
    · have h1 := (stepB_len (h x (List.mem_cons_self ..))).1
      unfold pathJ at e
      rw [List.map_cons, Lib.join_cons] at e
      have := congrArg List.length e
      rw [List.length_append, List.length_nil] at this
      omega
  · rintro rfl; rfl
theorem pathJ_free {P : List ByteArray} (h : ∀ x ∈ P, stepB (bl x) = true) : 63 ∉ pathJ P := by
  induction P with
  | nil => exact List.not_mem_nil
  | cons x r ih =>
    have ihr := ih (fun y hy => h y (List.mem_cons_of_mem _ hy))
    have hx := (step_free (h x (List.mem_cons_self ..))).2
    rcases r with _ | ⟨y, r⟩
    · unfold pathJ
      rw [List.map_cons, List.map_nil, Lib.join_one]; exact hx
    · have e : pathJ (x :: y :: r) = bl x ++ [47] ++ pathJ (y :: r) := by unfold pathJ; rw [List.map_cons, List.map_cons, join_two]
      rw [e, List.mem_append, List.mem_append, List.mem_singleton]
      rintro ((h1 | h1) | h1)
      · exact hx h1
      · cases h1
      · exact ihr h1
theorem path_split {P : List ByteArray} (h : ∀ x ∈ P, stepB (bl x) = true) (hne : P ≠ []) : cutAt 47 (pathJ P) = P.map bl := by
  unfold pathJ
  refine cutAt_join (by simpa using hne) ?_
  intro x hx
  obtain ⟨y, hy, rfl⟩ := List.mem_map.1 hx
  exact (step_free (h y hy)).1
/-- What stands behind the path. -/
def qT (Q : ByteArray) : List UInt8 := if bl Q = [] then [] else 63 :: bl Q
theorem locT_eq (S H : ByteArray) (P : List ByteArray) (Q : ByteArray) : locT S H P Q = bl S ++ (58 :: [47, 47] ++ (bl H ++ (47 :: [] ++ (pathJ P ++ qT Q)))) := by
  unfold locT qT
  simp
theorem loc_cut1 {S H : ByteArray} {P : List ByteArray} {Q : ByteArray} (h : locB S H P Q = true) : Lib.cut (locT S H P Q) [58, 47, 47] = (bl S, bl H ++ (47 :: [] ++ (pathJ P ++ qT Q)), true) := by
  rw [locT_eq]
  exact cut_pre 58 [47, 47] _ _ (sch_free (locB_parts h).1).1
theorem loc_cut2 {S H : ByteArray} {P : List ByteArray} {Q : ByteArray} (h : locB S H P Q = true) : Lib.cut (bl H ++ (47 :: [] ++ (pathJ P ++ qT Q))) [47] = (bl H, pathJ P ++ qT Q, true) :=
  cut_pre 47 [] _ _ (host_free (locB_parts h).2.1).1
theorem loc_cut3 {S H : ByteArray} {P : List ByteArray} {Q : ByteArray} (h : locB S H P Q = true) : (Lib.cut (pathJ P ++ qT Q) [63]).1 = pathJ P ∧ (Lib.cut (pathJ P ++ qT Q) [63]).2.1 = bl Q := by
  have hp := pathJ_free (locB_parts h).2.2.2.1
  unfold qT
  by_cases hq : bl Q = []
  · rw [if_pos hq, List.append_nil, cut_none1 63 _ hp]
    exact ⟨rfl, hq.symm⟩
  · rw [if_neg hq]
    have := cut_pre 63 [] (bl Q) (pathJ P) hp
    have e : pathJ P ++ (63 :: [] ++ bl Q) = pathJ P ++ 63 :: bl Q := rfl
    rw [e] at this
    rw [this]
    exact ⟨rfl, rfl⟩
/-- The reference's first cut: at the first question mark of the whole text. -/
theorem loc_cutq {S H : ByteArray} {P : List ByteArray} {Q : ByteArray} (h : locB S H P Q = true) : (Lib.cut (locT S H P Q) [63]).1 = bl S ++ (58 :: 47 :: 47 :: (bl H ++ 47 :: pathJ P)) ∧ (Lib.cut (locT S H P Q) [63]).2.1 = bl Q := by
  obtain ⟨p1, p2, _, p4, _⟩ := locB_parts h
  have hp : 63 ∉ bl S ++ (58 :: 47 :: 47 :: (bl H ++ 47 :: pathJ P)) := by
    simp only [List.mem_append, List.mem_cons]
    rintro (h1 | h1 | h1 | h1 | h1 | h1 | h1)
    · exact (sch_free p1).2.2.1 h1
    · cases h1
    · cases h1
    · cases h1
    · exact (host_free p2).2 h1
    · cases h1
    · exact pathJ_free p4 h1
  have e0 : locT S H P Q = (bl S ++ (58 :: 47 :: 47 :: (bl H ++ 47 :: pathJ P))) ++ qT Q := by
    rw [locT_eq]; simp
  rw [e0]
  unfold qT
  by_cases hq : bl Q = []
  · rw [if_pos hq, List.append_nil, cut_none1 63 _ hp]
    exact ⟨rfl, hq.symm⟩
  · rw [if_neg hq]
    have := cut_pre 63 [] (bl Q) _ hp
    have e : (bl S ++ (58 :: 47 :: 47 :: (bl H ++ 47 :: pathJ P))) ++ (63 :: [] ++ bl Q) = (bl S ++ (58 :: 47 :: 47 :: (bl H ++ 47 :: pathJ P))) ++ 63 :: bl Q := rfl
    rw [e] at this
    rw [this]
    exact ⟨rfl, rfl⟩
/-- The reference's words. -/
theorem loc_words {S H : ByteArray} {P : List ByteArray} {Q : ByteArray} (h : locB S H P Q = true) : cutAt 47 (bl S ++ (58 :: 47 :: 47 :: (bl H ++ 47 :: pathJ P))) = (bl S ++ [58]) :: [] :: bl H :: (if P = [] then [[]] else P.map bl) := by
  obtain ⟨p1, p2, _, p4, _⟩ := locB_parts h
  have e : bl S ++ (58 :: 47 :: 47 :: (bl H ++ 47 :: pathJ P)) = (bl S ++ [58]) ++ 47 :: ([] ++ 47 :: (bl H ++ 47 :: pathJ P)) := by simp
  rw [e, cutAt_app _ (by rw [List.mem_append]; rintro (h1 | h1); exact (sch_free p1).2.1 h1; simp at h1), cutAt_app _ List.not_mem_nil, cutAt_app _ (host_free p2).1]
  by_cases hP : P = []
  · rw [if_pos hP, hP]; rfl
  · rw [if_neg hP, path_split p4 hP]
/-- Two valid locations with one text are one location. -/
theorem locT_inj {S H S' H' : ByteArray} {P P' : List ByteArray} {Q Q' : ByteArray} (h : locB S H P Q = true) (h' : locB S' H' P' Q' = true) (e : locT S H P Q = locT S' H' P' Q') : S = S' ∧ H = H' ∧ P = P' ∧ Q = Q' := by
  have a1 := loc_cut1 h
  rw [e, loc_cut1 h'] at a1
  simp only [Prod.mk.injEq, and_true] at a1
  have a2 := loc_cut2 h
  rw [← a1.2, loc_cut2 h'] at a2
  simp only [Prod.mk.injEq, and_true] at a2
  have a3 := loc_cut3 h
  rw [← a2.2, (loc_cut3 h').1, (loc_cut3 h').2] at a3
  have p4 := (locB_parts h).2.2.2.1
  have p4' := (locB_parts h').2.2.2.1
  refine ⟨(bl_inj a1.1).symm, (bl_inj a2.1).symm, ?_, (bl_inj a3.2).symm⟩
  by_cases hP : P = []
  · have : pathJ P' = [] := by rw [a3.1, hP]; rfl
    rw [hP, (pathJ_nil_iff p4').1 this]
  · have hP' : P' ≠ [] := by
      rintro rfl
      exact hP ((pathJ_nil_iff p4).1 a3.1.symm)
    have e2 : P'.map bl = P.map bl := by rw [← path_split p4 hP, ← path_split p4' hP', a3.1]
    have e3 := congrArg (List.map mkS) e2
    rw [map_mkS_blP, map_mkS_blP] at e3
    exact e3.symm
end Go.Proofs.YtmiemnhbkcmanaaDoor

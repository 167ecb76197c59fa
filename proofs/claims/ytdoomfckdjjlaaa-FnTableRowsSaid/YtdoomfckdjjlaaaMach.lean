/- The machine of modes, plainly: the state behind a byte, for valid states. -/
import Derived.Test.YtdoomfckdjjlaaaSteps
import Derived.Test.YtdoomfckdjjlaaaHas
namespace Go.Proofs.Ytdoomfckdjjlaaa
open Go.RowKit

def namedB (b : UInt8) : Bool := letB b || digB b || decide (b = 45)
def bareB (b : UInt8) : Bool := letB b || digB b || hasB [45, 95, 46, 47, 58] b
def zeroS : St := ⟨0, [], [], false⟩
def tagM (s : St) (b : UInt8) : St :=
  if b = 62 then (if s.T = scriptL then ⟨11, [], [], false⟩ else zeroS)
  else if b = 32 then ⟨3, s.T, [], false⟩
  else if s.M = 2 then (if namedB b = true then longT s b else badS)
  else if s.M = 3 then (if letB b = true then longA ⟨4, s.T, s.A, s.E⟩ b else badS)
  else if s.M = 4 then (if namedB b = true then longA s b else if b = 61 then ⟨5, s.T, s.A, s.E⟩ else badS)
  else if s.M = 8 then (if bareB b = true then s else badS)
  else badS
/-- The state behind a byte, from a valid one. -/
def stepM (s : St) (b : UInt8) : St :=
  if s.M = 0 then (if b = 60 then ⟨1, s.T, s.A, s.E⟩ else s)
  else if s.M = 1 then (if letB b = true then ⟨2, [lowC b], [], false⟩ else if b = 47 then ⟨9, [], [], false⟩ else if b = 33 then ⟨10, [], [], false⟩ else badS)
  else if s.M = 2 ∨ s.M = 3 ∨ s.M = 4 ∨ s.M = 8 then tagM s b
  else if s.M = 5 then (if b = 34 then ⟨6, s.T, s.A, s.E⟩ else if b = 39 then ⟨7, s.T, s.A, s.E⟩ else if bareB b = true then ⟨8, s.T, s.A, true⟩ else badS)
  else if s.M = 6 then (if b = 34 then ⟨3, s.T, [], false⟩ else ⟨s.M, s.T, s.A, true⟩)
  else if s.M = 7 then (if b = 39 then ⟨3, s.T, [], false⟩ else ⟨s.M, s.T, s.A, true⟩)
  else if s.M = 9 then (if b = 62 ∧ s.T ≠ [] then zeroS else if letB b = true ∨ (s.T ≠ [] ∧ (digB b = true ∨ b = 45)) then longT s b else badS)
  else if s.M = 10 then (if b = 62 then zeroS else s)
  else if s.M = 11 ∨ s.M = 14 then (if b = 60 then ⟨14, [], [], false⟩ else if b = 34 then ⟨12, [], [], false⟩ else if b = 47 ∧ s.M = 14 then ⟨9, [], [], false⟩ else ⟨11, [], [], false⟩)
  else if s.M = 12 then (if b = 34 then ⟨11, [], [], false⟩ else if b = 92 then ⟨13, [], [], false⟩ else if b = 60 then badS else s)
  else if s.M = 13 then (if b = 60 then badS else ⟨12, [], [], false⟩)
  else badS
/-! Valid states. -/
theorem byte_all {p : UInt8 → Prop} (h : ∀ n : Fin 256, p (UInt8.ofNat n.1)) (b : UInt8) : p b := byte_allW h b
theorem low_letter : ∀ b : UInt8, letB b = true → smB (lowC b) = true := by
  refine byte_allW ?_
  decide +kernel
theorem low_named : ∀ b : UInt8, namedB b = true → nameC (lowC b) = true := by
  refine byte_allW ?_
  decide +kernel
theorem let_named {b : UInt8} (h : letB b = true) : namedB b = true := by unfold namedB; rw [h]; rfl
theorem dig_named {b : UInt8} (h : digB b = true) : namedB b = true := by unfold namedB; rw [h, Bool.or_true]; rfl
theorem min_named : namedB 45 = true := by decide
theorem nameB_head {T : List UInt8} (h : nameB T = true) : smB (T.headD 0) = true ∧ T.all nameC = true ∧ 1 ≤ T.length ∧ T.length ≤ 10 := by
  unfold nameB at h
  rw [Bool.and_eq_true, Bool.and_eq_true, decide_eq_true_iff] at h
  exact ⟨h.1.2, h.2, h.1.1.1, h.1.1.2⟩
theorem name_more {T : List UInt8} {b : UInt8} (h : nameB T = true) (hb : namedB b = true) (hl : ¬ 10 < (T ++ [lowC b]).length) : nameB (T ++ [lowC b]) = true := by
  obtain ⟨h1, h2, h3, h4⟩ := nameB_head h
  refine nameB_yes (by rw [List.all_append, h2]; simp [low_named b hb]) ?_ (by simp) (by omega)
  rcases T with _ | ⟨x, T⟩
  · simp at h3
  · exact h1
theorem name_one {b : UInt8} (hb : letB b = true) : nameB [lowC b] = true :=
  nameB_yes (by simp [low_named b (let_named hb)]) (low_letter b hb) (by simp) (by simp)
theorem val_bad : stValid badS = true := rfl
theorem val_zero : stValid zeroS = true := rfl
theorem val_parts {s : St} (h : stValid s = true) : s.M ≤ 15 ∧ stTag s = true ∧ stAttr s = true ∧ stSeen s = true := by
  unfold stValid at h
  rw [Bool.and_eq_true, Bool.and_eq_true, Bool.and_eq_true, decide_eq_true_iff] at h
  exact ⟨h.1, h.2.1.1, h.2.1.2, h.2.2⟩
theorem val_mk {s : St} (h : s.M ≤ 15) (h1 : stTag s = true) (h2 : stAttr s = true) (h3 : stSeen s = true) : stValid s = true := by
  unfold stValid
  rw [h1, h2, h3, decide_eq_true h]; rfl
theorem stTag_name {s : St} (h : stTag s = true) (hM : 2 ≤ s.M ∧ s.M ≤ 8) : nameB s.T = true := by
  unfold stTag at h
  rwa [if_pos hM] at h
theorem stTag_end {s : St} (h : stTag s = true) (hM : s.M = 9) : s.T = [] ∨ nameB s.T = true := by
  unfold stTag at h
  rw [if_neg (by omega), if_pos hM, Bool.or_eq_true, List.isEmpty_iff] at h
  exact h
theorem stTag_none {s : St} (h : stTag s = true) (hM : ¬ (2 ≤ s.M ∧ s.M ≤ 8)) (hM2 : s.M ≠ 9) : s.T = [] := by
  unfold stTag at h
  rwa [if_neg hM, if_neg hM2, List.isEmpty_iff] at h
theorem stAttr_name {s : St} (h : stAttr s = true) (hM : 4 ≤ s.M ∧ s.M ≤ 8) : nameB s.A = true := by
  unfold stAttr at h
  rwa [if_pos hM] at h
theorem stAttr_none {s : St} (h : stAttr s = true) (hM : ¬ (4 ≤ s.M ∧ s.M ≤ 8)) : s.A = [] := by
  unfold stAttr at h
  rwa [if_neg hM, List.isEmpty_iff] at h
theorem stSeen_no {s : St} (h : stSeen s = true) (hM : s.M ≠ 6 ∧ s.M ≠ 7 ∧ s.M ≠ 8) : s.E = false := by
  unfold stSeen at h
  rw [if_neg (by omega), if_neg hM.2.2] at h
  simpa using h
theorem stSeen_yes {s : St} (h : stSeen s = true) (hM : s.M = 8) : s.E = true := by
  unfold stSeen at h
  rwa [if_neg (by omega), if_pos hM] at h
theorem val_tag {M : Nat} {T : List UInt8} (hM : M = 2 ∨ M = 3) (hT : nameB T = true) : stValid ⟨M, T, [], false⟩ = true := by
  refine val_mk (by simp only; omega) ?_ ?_ ?_
  · unfold stTag; rw [if_pos (by simp only; omega)]; exact hT
  · unfold stAttr; rw [if_neg (by simp only; omega)]; rfl
  · unfold stSeen; rw [if_neg (by simp only; omega), if_neg (by simp only; omega)]; rfl
theorem val_attr {M : Nat} {T A : List UInt8} {E : Bool} (hM : (M = 4 ∨ M = 5) ∧ E = false ∨ (M = 6 ∨ M = 7) ∨ M = 8 ∧ E = true) (hT : nameB T = true) (hA : nameB A = true) : stValid ⟨M, T, A, E⟩ = true := by
  refine val_mk (by simp only; omega) ?_ ?_ ?_
  · unfold stTag; rw [if_pos (by simp only; omega)]; exact hT
  · unfold stAttr; rw [if_pos (by simp only; omega)]; exact hA
  · unfold stSeen
    rcases hM with ⟨h, rfl⟩ | h | ⟨rfl, rfl⟩
    · rw [if_neg (by simp only; omega), if_neg (by simp only; omega)]; rfl
    · rw [if_pos (by simp only; omega)]
    · rw [if_neg (by simp only; omega), if_pos rfl]
theorem val_end {T : List UInt8} (hT : T = [] ∨ nameB T = true) : stValid ⟨9, T, [], false⟩ = true := by
  unfold stValid stTag stAttr stSeen
  rcases hT with rfl | hT <;> simp [*]
theorem val_plain {M : Nat} (hM : M ≤ 1 ∨ (10 ≤ M ∧ M ≤ 15)) : stValid ⟨M, [], [], false⟩ = true := by
  refine val_mk (by simp only; omega) ?_ ?_ ?_
  · unfold stTag; rw [if_neg (by simp only; omega), if_neg (by simp only; omega)]; rfl
  · unfold stAttr; rw [if_neg (by simp only; omega)]; rfl
  · unfold stSeen; rw [if_neg (by simp only; omega), if_neg (by simp only; omega)]; rfl
/-- A valid state, by its mode. -/
theorem val_cases {s : St} (h : stValid s = true) :
    (∃ M, s = ⟨M, [], [], false⟩ ∧ (M ≤ 1 ∨ (10 ≤ M ∧ M ≤ 15))) ∨ (∃ M T, s = ⟨M, T, [], false⟩ ∧ (M = 2 ∨ M = 3) ∧ nameB T = true) ∨ (∃ M T A, s = ⟨M, T, A, false⟩ ∧ (M = 4 ∨ M = 5) ∧ nameB T = true ∧ nameB A = true) ∨ (∃ M T A E, s = ⟨M, T, A, E⟩ ∧ (M = 6 ∨ M = 7) ∧ nameB T = true ∧ nameB A = true) ∨ (∃ T A, s = ⟨8, T, A, true⟩ ∧ nameB T = true ∧ nameB A = true) ∨ (∃ T, s = ⟨9, T, [], false⟩ ∧ (T = [] ∨ nameB T = true)) := by
  obtain ⟨h1, h2, h3, h4⟩ := val_parts h
  obtain ⟨M, T, A, E⟩ := s
  simp only at h1
  have hc : (M ≤ 1 ∨ (10 ≤ M ∧ M ≤ 15)) ∨ (M = 2 ∨ M = 3) ∨ (M = 4 ∨ M = 5) ∨ (M = 6 ∨ M = 7) ∨ M = 8 ∨ M = 9 := by omega
  rcases hc with hM | hM | hM | hM | hM | hM
  · have e1 : T = [] := stTag_none h2 (by simp only; omega) (by simp only; omega)
    have e2 : A = [] := stAttr_none h3 (by simp only; omega)
    have e3 : E = false := stSeen_no h4 (by simp only; omega)
    exact .inl ⟨M, by rw [e1, e2, e3], hM⟩
  · have e1 : nameB T = true := stTag_name h2 (by simp only; omega)
    have e2 : A = [] := stAttr_none h3 (by simp only; omega)
    have e3 : E = false := stSeen_no h4 (by simp only; omega)
    exact .inr (.inl ⟨M, T, by rw [e2, e3], hM, e1⟩)
  · have e1 : nameB T = true := stTag_name h2 (by simp only; omega)
    have e2 : nameB A = true := stAttr_name h3 (by simp only; omega)
    have e3 : E = false := stSeen_no h4 (by simp only; omega)
    exact .inr (.inr (.inl ⟨M, T, A, by rw [e3], hM, e1, e2⟩))
  · have e1 : nameB T = true := stTag_name h2 (by simp only; omega)
    have e2 : nameB A = true := stAttr_name h3 (by simp only; omega)
    exact .inr (.inr (.inr (.inl ⟨M, T, A, E, rfl, hM, e1, e2⟩)))
  · have e1 : nameB T = true := stTag_name h2 (by simp only; omega)
    have e2 : nameB A = true := stAttr_name h3 (by simp only; omega)
    have e3 : E = true := stSeen_yes h4 hM
    exact .inr (.inr (.inr (.inr (.inl ⟨T, A, by rw [e3, hM], e1, e2⟩))))
  · have e1 : T = [] ∨ nameB T = true := stTag_end h2 hM
    have e2 : A = [] := stAttr_none h3 (by simp only; omega)
    have e3 : E = false := stSeen_no h4 (by simp only; omega)
    exact .inr (.inr (.inr (.inr (.inr ⟨T, by rw [e2, e3, hM], e1⟩))))
theorem val_longT {M : Nat} {T A : List UInt8} {E : Bool} {b : UInt8} (h : ¬ 10 < (T ++ [lowC b]).length → stValid ⟨M, T ++ [lowC b], A, E⟩ = true) : stValid (longT ⟨M, T, A, E⟩ b) = true := by
  unfold longT
  split
  · exact val_bad
  · rename_i hl; exact h hl
theorem val_longA {M : Nat} {T A : List UInt8} {E : Bool} {b : UInt8} (h : ¬ 10 < (A ++ [lowC b]).length → stValid ⟨M, T, A ++ [lowC b], E⟩ = true) : stValid (longA ⟨M, T, A, E⟩ b) = true := by
  unfold longA
  split
  · exact val_bad
  · rename_i hl; exact h hl
theorem stepM_valid {s : St} (h : stValid s = true) (b : UInt8) : stValid (stepM s b) = true := by
  rcases val_cases h with ⟨M, rfl, hM⟩ | ⟨M, T, rfl, hM, hT⟩ | ⟨M, T, A, rfl, hM, hT, hA⟩ | ⟨M, T, A, E, rfl, hM, hT, hA⟩ | ⟨T, A, rfl, hT, hA⟩ | ⟨T, rfl, hT⟩
  · have hc : M = 0 ∨ M = 1 ∨ M = 10 ∨ M = 11 ∨ M = 12 ∨ M = 13 ∨ M = 14 ∨ M = 15 := by omega
    unfold stepM
    rcases hc with rfl | rfl | rfl | rfl | rfl | rfl | rfl | rfl <;> simp only [Nat.reduceEqDiff, if_true, if_false, or_self, or_true, true_or, reduceCtorEq, and_true, and_false]
    · split <;> exact val_plain (by simp)
    · split
      · rename_i hl; exact val_tag (.inl rfl) (name_one hl)
      · split
        · exact val_end (.inl rfl)
        · split
          · exact val_plain (by omega)
          · exact val_bad
    · split
      · exact val_zero
      · exact val_plain (by omega)
    · split
      · exact val_plain (by omega)
      · split <;> exact val_plain (by omega)
    · split
      · exact val_plain (by omega)
      · split
        · exact val_plain (by omega)
        · split
          · exact val_bad
          · exact val_plain (by omega)
    · split
      · exact val_bad
      · exact val_plain (by omega)
    · split
      · exact val_plain (by omega)
      · split
        · exact val_plain (by omega)
        · split
          · exact val_end (.inl rfl)
          · exact val_plain (by omega)
    · exact val_bad
  · have hm : stepM ⟨M, T, [], false⟩ b = tagM ⟨M, T, [], false⟩ b := by
      unfold stepM
      rcases hM with rfl | rfl <;> simp
    rw [hm]
    unfold tagM
    simp only
    split
    · split
      · exact val_plain (by omega)
      · exact val_zero
    · split
      · exact val_tag (.inr rfl) hT
      · split
        · rename_i hm2; subst hm2
          split
          · rename_i hn; exact val_longT fun hl => val_tag (.inl rfl) (name_more hT hn hl)
          · exact val_bad
        · split
          · split
            · rename_i hn; exact val_longA fun hl => val_attr (.inl ⟨.inl rfl, rfl⟩) hT (name_one hn)
            · exact val_bad
          · split
            · omega
            · split
              · omega
              · exact val_bad
  · rcases hM with rfl | rfl
    · have hm : stepM ⟨4, T, A, false⟩ b = tagM ⟨4, T, A, false⟩ b := by
        unfold stepM; simp
      rw [hm]
      unfold tagM
      simp only [Nat.reduceEqDiff, if_true, if_false]
      split
      · split
        · exact val_plain (by omega)
        · exact val_zero
      · split
        · exact val_tag (.inr rfl) hT
        · split
          · rename_i hn; exact val_longA fun hl => val_attr (.inl ⟨.inl rfl, rfl⟩) hT (name_more hA hn hl)
          · split
            · exact val_attr (.inl ⟨.inr rfl, rfl⟩) hT hA
            · exact val_bad
    · unfold stepM
      simp only [Nat.reduceEqDiff, if_true, if_false, or_self]
      split
      · exact val_attr (.inr (.inl (.inl rfl))) hT hA
      · split
        · exact val_attr (.inr (.inl (.inr rfl))) hT hA
        · split
          · exact val_attr (.inr (.inr ⟨rfl, rfl⟩)) hT hA
          · exact val_bad
  · unfold stepM
    rcases hM with rfl | rfl <;> simp only [Nat.reduceEqDiff, if_true, if_false, or_self]
    · split
      · exact val_tag (.inr rfl) hT
      · exact val_attr (.inr (.inl (.inl rfl))) hT hA
    · split
      · exact val_tag (.inr rfl) hT
      · exact val_attr (.inr (.inl (.inr rfl))) hT hA
  · have hm : stepM ⟨8, T, A, true⟩ b = tagM ⟨8, T, A, true⟩ b := by
      unfold stepM; simp
    rw [hm]
    unfold tagM
    simp only [Nat.reduceEqDiff, if_true, if_false]
    split
    · split
      · exact val_plain (by omega)
      · exact val_zero
    · split
      · exact val_tag (.inr rfl) hT
      · split
        · exact h
        · exact val_bad
  · unfold stepM
    simp only [Nat.reduceEqDiff, if_true, if_false, or_self]
    split
    · exact val_zero
    · split
      · rename_i hn
        refine val_longT fun hl => val_end (.inr ?_)
        rcases hT with rfl | hT
        · rcases hn with hn | hn
          · exact name_one hn
          · exact absurd rfl hn.1
        · refine name_more hT ?_ hl
          rcases hn with hn | ⟨_, hn | hn⟩
          · exact let_named hn
          · exact dig_named hn
          · subst hn; exact min_named
      · exact val_bad
end Go.Proofs.Ytdoomfckdjjlaaa

/- Plain laws: an order with spaces about it; words that are split are valid texts; the order of split words. -/
import Derived.Test.YtdiaonhmhmdplaaDoorLawOrder2
namespace Go.Proofs.YtdiaonhmhmdplaaDoor
open Go.RowKit

theorem qwR_len2 (l : List UInt8) : (qwR l).length ≤ 5 * l.length + 2 := by
  rcases h : textB l with _ | _
  · rw [qwR_no h]; simp
  · rcases h2 : qwB l with _ | _
    · rw [qwR_quoted h h2]
      have := qwL_len l
      simp only [List.length_cons, List.length_append, List.length_nil]
      omega
    · rw [qwR_plain h h2]; omega
theorem splitR_some {l : List UInt8} (h : (splitR l).2 = true) : ∃ d c, splitT (0, [], none) l = some (0, d, c) ∧ (d ++ c.toList).length ≤ 8 ∧ splitR l = ((d ++ c.toList).map mkS, true) := by
  rcases hs : splitT (0, [], none) l with _ | st
  · rw [splitR_none hs] at h; cases h
  · by_cases hc : st.1 ≠ 0 ∨ 8 < (wordsW st).length
    · rw [splitR_no hs hc] at h; cases h
    · obtain ⟨q, d, c⟩ := st
      have h1 : q = 0 := Classical.byContradiction fun e => hc (.inl e)
      subst h1
      have h2 : ¬ 8 < (wordsW (0, d, c)).length := fun e => hc (.inr e)
      exact ⟨d, c, rfl, Nat.le_of_not_lt h2, splitR_yes hs hc⟩
theorem splitR_spaces {l : List UInt8} (h : (splitR l).2 = true) : splitR (32 :: 32 :: (l ++ [32])) = splitR l := by
  obtain ⟨d, c, h1, h2, h3⟩ := splitR_some h
  have e : splitT (0, [], none) (32 :: 32 :: (l ++ [32])) = some (0, d ++ c.toList, none) := by
    rw [splitT_cons (stepW_space (by decide) (by decide) rfl rfl), splitT_cons (stepW_space (by decide) (by decide) rfl rfl)]
    show splitT (0, [], none) (l ++ [32]) = _
    rw [splitT_app, h1]
    show splitT (0, d, c) [32] = _
    rw [splitT_cons (stepW_space (by decide) (by decide) rfl rfl)]
    rfl
  rw [h3, splitR_yes e (by
    show ¬ ((0 : UInt8) ≠ 0 ∨ 8 < (d ++ c.toList ++ []).length)
    rw [List.append_nil]
    rintro (e | e)
    · exact e rfl
    · omega)]
  show ((d ++ c.toList ++ []).map mkS, true) = _
  rw [List.append_nil]
def wOk (m : Nat) (x : List UInt8) : Prop := x.all okC = true ∧ x.length ≤ m
theorem wOk.more {m m' : Nat} {x : List UInt8} (h : wOk m x) (hm : m ≤ m') : wOk m' x := ⟨h.1, Nat.le_trans h.2 hm⟩
theorem badW_ok {q b : UInt8} (h : badW q b = false) : okC b = true := by
  unfold badW at h
  rw [Bool.or_eq_false_iff, Bool.or_eq_false_iff] at h
  have h1 := h.1; have h2 := h.2.1
  simp only [decide_eq_false_iff_not] at h1 h2
  unfold okC
  simp only [decide_eq_true_iff]
  omega
theorem stepW_ok {m : Nat} {st st' : StW} {b : UInt8} (h : ∀ x ∈ wordsW st, wOk m x) (hs : stepW st b = some st') : ∀ x ∈ wordsW st', wOk (m + 1) x := by
  obtain ⟨q, d, c⟩ := st
  have hd : ∀ x ∈ d, wOk (m + 1) x := fun x hx => (h x (List.mem_append_left _ hx)).more (by omega)
  have hc : wOk m (c.getD []) := by
    cases c with
    | none => exact ⟨rfl, Nat.zero_le _⟩
    | some y => exact h y (List.mem_append_right _ (by simp))
  by_cases hb : badW q b = true
  · rw [stepW_bad hb] at hs; cases hs
  · have hb0 : badW q b = false := by simpa using hb
    have hob := badW_ok hb0
    by_cases h1 : q = b
    · rw [stepW_end hb0 h1] at hs
      injection hs with hs; subst hs
      intro x hx
      exact (h x hx).more (by omega)
    · by_cases h2 : b = 32 ∧ q = 0
      · rw [stepW_space hb0 h1 h2.1 h2.2] at hs
        injection hs with hs; subst hs
        intro x hx
        rcases List.mem_append.1 hx with hx | hx
        · exact (h x hx).more (by omega)
        · cases hx
      · by_cases h3 : q = 0 ∧ (b = 39 ∨ b = 34)
        · rw [stepW_quote hb0 h1 h2 h3.1 h3.2] at hs
          injection hs with hs; subst hs
          intro x hx
          rcases List.mem_append.1 hx with hx | hx
          · exact hd x hx
          · simp at hx; subst hx; exact hc.more (by omega)
        · rw [stepW_more hb0 h1 h2 h3] at hs
          injection hs with hs; subst hs
          intro x hx
          rcases List.mem_append.1 hx with hx | hx
          · exact hd x hx
          · simp at hx; subst hx
            refine ⟨?_, ?_⟩
            · rw [List.all_append, hc.1]; simp [hob]
            · rw [List.length_append]; have := hc.2; simp; omega
theorem splitT_ok : ∀ (l : List UInt8) (m : Nat) (st st' : StW), (∀ x ∈ wordsW st, wOk m x) → splitT st l = some st' → ∀ x ∈ wordsW st', wOk (m + l.length) x := by
  intro l
  induction l with
  | nil => intro m st st' h hs; injection hs with hs; subst hs; exact h
  | cons b l ih =>
    intro m st st' h hs
    rw [splitT] at hs
    rcases hb : stepW st b with _ | st1
    · rw [hb] at hs; cases hs
    · rw [hb] at hs
      have := ih (m + 1) st1 st' (stepW_ok h hb) hs
      intro x hx
      exact (this x hx).more (by simp only [List.length_cons]; omega)
theorem ord_back2 {T : List ByteArray} (h8 : T.length ≤ 8) (hk : okT T = true) : splitR (bl (ordR T)) = (T, true) := by
  rcases T with _ | ⟨t, T⟩
  · rfl
  · rw [ordR_yes (by simp) h8 hk, joinS, bl_mkS]
    have e : (qwS (t :: T)).map bl = ((t :: T).map bl).map qwR := by
      rw [qwS, List.map_map, List.map_map]
      apply List.map_congr_left
      intro t _
      exact bl_mkS _
    rw [e]
    obtain ⟨d', c, h1, h2⟩ := order_split ((t :: T).map bl) [] (by simp) (by
      rw [okT, List.all_eq_true] at hk
      rw [List.all_eq_true]
      intro x hx
      obtain ⟨t, ht, rfl⟩ := List.mem_map.1 hx
      exact hk t ht)
    rw [List.nil_append] at h2
    rw [splitR_yes h1 (by
      show ¬ ((0 : UInt8) ≠ 0 ∨ 8 < (d' ++ [c]).length)
      rw [h2, List.length_map]
      rintro (h | h)
      · exact h rfl
      · omega)]
    show ((d' ++ [c]).map mkS, true) = _
    rw [h2, List.map_map]
    congr 1
    conv => rhs; rw [← List.map_id (t :: T)]
    exact List.map_congr_left fun t _ => mkS_bl t
/-- What is split of a short text can be written, and is split again. -/
theorem split_again {l : List UInt8} (hl : l.length ≤ 600) (h : (splitR l).2 = true) : (splitR l).1.length ≤ 8 ∧ (∀ s ∈ (splitR l).1, s.size ≤ 600) ∧ splitR (bl (ordR (splitR l).1)) = ((splitR l).1, true) := by
  obtain ⟨d, c, h1, h2, h3⟩ := splitR_some h
  have hw := splitT_ok l 0 _ _ (by intro x hx; cases hx) h1
  have hw' : ∀ s ∈ (splitR l).1, s.size ≤ 600 ∧ textB (bl s) = true := by
    rw [h3]
    intro s hs
    obtain ⟨x, hx, rfl⟩ := List.mem_map.1 hs
    have hx' := hw x hx
    refine ⟨by rw [mkS_size]; have := hx'.2; omega, ?_⟩
    rw [bl_mkS, textB, hx'.1, Bool.and_true, decide_eq_true_iff]
    have := hx'.2
    omega
  refine ⟨by rw [h3]; simpa using h2, fun s hs => (hw' s hs).1, ord_back2 (by rw [h3]; simpa using h2) ?_⟩
  rw [okT, List.all_eq_true]
  exact fun s hs => (hw' s hs).2
theorem splitR_nil {l : List UInt8} (h : (splitR l).2 = false) : (splitR l).1 = [] := by
  rcases hs : splitT (0, [], none) l with _ | st
  · rw [splitR_none hs]
  · by_cases hc : st.1 ≠ 0 ∨ 8 < (wordsW st).length
    · rw [splitR_no hs hc]
    · rw [splitR_yes hs hc] at h; cases h
end Go.Proofs.YtdiaonhmhmdplaaDoor

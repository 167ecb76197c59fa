/- Filled statements, plainly. -/
import Derived.Test.YtoajdkcdjdbliaaDoorWord
import Derived.Test.YtoajdkcdjdbliaaDoorMax
namespace Go.Proofs.YtoajdkcdjdbliaaDoor
open Go.RowKit

def fillL : List UInt8 → List (List UInt8) → List UInt8
  | [], _ => []
  | x :: l, T => if x = 63 then qtR (T.headD []) ++ fillL l T.tail else x :: fillL l T
def has2 : List UInt8 → Bool
  | [] => false
  | [_] => false
  | x :: y :: r => (decide (x = 63) && decide (y = 63)) || has2 (y :: r)
def fillOk (l : List UInt8) (T : List (List UInt8)) : Bool :=
  textB l && !(l.any fun x => decide (x = 39)) && !has2 l && decide (l.count 63 = T.length) && decide (T.length ≤ 6) && T.all textB && textB (fillL l T)
/-- The filled statement, and whether there is one. -/
def fillR (l : List UInt8) (T : List (List UInt8)) : ByteArray × Bool := if fillOk l T = true then (mkS (fillL l T), true) else (⟨#[]⟩, false)
theorem fillR_yes {l : List UInt8} {T : List (List UInt8)} (h : fillOk l T = true) : fillR l T = (mkS (fillL l T), true) := by rw [fillR, if_pos h]
theorem fillR_no {l : List UInt8} {T : List (List UInt8)} (h : fillOk l T = false) : fillR l T = (⟨#[]⟩, false) := by rw [fillR, if_neg (by rw [h]; simp)]
theorem fillOk_iff {l : List UInt8} {T : List (List UInt8)} : fillOk l T = true ↔ textB l = true ∧ (l.any fun x => decide (x = 39)) = false ∧ has2 l = false ∧ l.count 63 = T.length ∧ T.length ≤ 6 ∧ T.all textB = true ∧ textB (fillL l T) = true := by
  simp only [fillOk, Bool.and_eq_true, Bool.not_eq_true', decide_eq_true_iff, and_assoc]
theorem fillOk_no {l : List UInt8} {T : List (List UInt8)} (h : ¬ (textB l = true ∧ (l.any fun x => decide (x = 39)) = false ∧ has2 l = false ∧ l.count 63 = T.length ∧ T.length ≤ 6 ∧ T.all textB = true ∧ textB (fillL l T) = true)) : fillOk l T = false := by
  rcases hb : fillOk l T with _ | _
  · rfl
  · exact absurd (fillOk_iff.1 hb) h
theorem fillL_snoc : ∀ (l : List UInt8) (T : List (List UInt8)) (x : UInt8), fillL (l ++ [x]) T = fillL l T ++ (if x = 63 then qtR (T.getD (l.count 63) []) else [x]) := by
  intro l
  induction l with
  | nil =>
    intro T x
    have e : fillL [x] T = if x = 63 then qtR (T.headD []) ++ fillL [] T.tail else x :: fillL [] T := rfl
    rw [List.nil_append, e]
    by_cases hx : x = 63
    · rw [if_pos hx, if_pos hx]
      rcases T with _ | ⟨t, T⟩ <;> simp [fillL]
    · rw [if_neg hx, if_neg hx]
      simp [fillL]
  | cons y l ih =>
    intro T x
    rw [List.cons_append, fillL, fillL]
    by_cases hy : y = 63
    · subst hy
      rw [if_pos rfl, if_pos rfl, ih, List.append_assoc, List.count_cons_self]
      congr 2
      rcases T with _ | ⟨t, T⟩ <;> simp
    · rw [if_neg hy, if_neg hy, ih, List.cons_append, List.count_cons_of_ne hy]
theorem count_snoc (l : List UInt8) (x : UInt8) : (l ++ [x]).count 63 = l.count 63 + (if x = 63 then 1 else 0) := by
  rw [List.count_append]
  by_cases h : x = 63
  · subst h; rfl
  · rw [if_neg h, List.count_cons_of_ne h]; rfl
theorem okC_qtR {l : List UInt8} (h : textB l = true) : (qtR l).all okC = true := by
  rw [qtR_yes h]
  have hl : l.all okC = true := by unfold textB at h; rw [Bool.and_eq_true] at h; exact h.2
  have hq : ∀ l : List UInt8, l.all okC = true → (qL l).all okC = true := by
    intro l
    induction l with
    | nil => intro _; rfl
    | cons x l ih =>
      intro h
      rw [List.all_cons, Bool.and_eq_true] at h
      have e : qL (x :: l) = (if x = 39 then [39, 39] else [x]) ++ qL l := by simp [qL]
      rw [e, List.all_append, ih h.2, Bool.and_true]
      split
      · rfl
      · simp [h.1]
  rw [List.all_cons, List.all_append, hq l hl]
  rfl
theorem okC_fill : ∀ (l : List UInt8) (T : List (List UInt8)), l.all okC = true → l.count 63 ≤ T.length → T.all textB = true → (fillL l T).all okC = true := by
  intro l
  induction l with
  | nil => intro T _ _ _; rfl
  | cons x l ih =>
    intro T h hc hT
    rw [List.all_cons, Bool.and_eq_true] at h
    rw [fillL]
    by_cases hx : x = 63
    · subst hx
      rw [if_pos rfl, List.all_append]
      rw [List.count_cons_self] at hc
      rcases T with _ | ⟨t, T⟩
      · simp at hc
      · rw [List.all_cons, Bool.and_eq_true] at hT
        rw [List.headD_cons, List.tail_cons, okC_qtR hT.1, ih T h.2 (by simpa using hc) hT.2]
        rfl
    · rw [if_neg hx, List.all_cons, h.1, ih T h.2 (by rwa [List.count_cons_of_ne hx] at hc) hT]
      rfl
theorem textB_ok {l : List UInt8} (h : textB l = true) : l.all okC = true := by unfold textB at h; rw [Bool.and_eq_true] at h; exact h.2
theorem textB_fill {l : List UInt8} {T : List (List UInt8)} (h : textB l = true) (hc : l.count 63 = T.length) (hT : T.all textB = true) : textB (fillL l T) = decide ((fillL l T).length ≤ 600) := by
  rw [textB, okC_fill l T (textB_ok h) (by omega) hT, Bool.and_true]
/-- The pieces between question marks, with the quoted texts between them. -/
def fillP (P : List (List UInt8)) (T : List (List UInt8)) : List UInt8 := P.headD [] ++ (List.zipWith (fun t p => qtR t ++ p) T P.tail).flatten
theorem cutAt_len (c : UInt8) (l : List UInt8) : (cutAt c l).length = l.count c + 1 := by
  induction l with
  | nil => rfl
  | cons b l ih =>
    unfold cutAt
    by_cases h : b = c
    · subst h
      rw [if_pos rfl, List.length_cons, ih, List.count_cons_self]
    · rw [if_neg h, List.length_cons, List.length_tail, ih, List.count_cons_of_ne h]
      omega
theorem fill_cut : ∀ (l : List UInt8) (T : List (List UInt8)), l.count 63 = T.length → fillL l T = fillP (cutAt 63 l) T := by
  intro l
  induction l with
  | nil =>
    intro T h
    simp at h
    have : T = [] := List.eq_nil_of_length_eq_zero h.symm
    subst this; rfl
  | cons b l ih =>
    intro T h
    rw [fillL]
    unfold cutAt
    by_cases hb : b = 63
    · subst hb
      rw [if_pos rfl, if_pos rfl]
      rw [List.count_cons_self] at h
      rcases T with _ | ⟨t, T⟩
      · simp at h
      · rw [List.headD_cons, List.tail_cons, ih T (by simpa using h)]
        rcases hc : cutAt 63 l with _ | ⟨p, P⟩
        · exact absurd hc (cutAt_ne _ _)
        · simp [fillP]
    · rw [if_neg hb, if_neg hb, ih T (by rwa [List.count_cons_of_ne hb] at h)]
      rcases hc : cutAt 63 l with _ | ⟨p, P⟩
      · exact absurd hc (cutAt_ne _ _)
      · simp [fillP]
theorem fillP_take {P T : List (List UInt8)} {k : Nat} (h1 : k < T.length) (h2 : k + 1 < P.length) : fillP (P.take (k + 2)) (T.take (k + 1)) = fillP (P.take (k + 1)) (T.take k) ++ qtR T[k] ++ P[k + 1] := by
  rcases P with _ | ⟨p, P⟩
  · simp at h2
  · have h3 : k < P.length := by simpa using h2
    simp only [fillP, List.take_succ_cons, List.headD_cons, List.tail_cons, List.getElem_cons_succ]
    rw [List.take_succ_eq_append_getElem h1, List.take_succ_eq_append_getElem h3, List.zipWith_append (by simp; omega)]
    simp [List.append_assoc]
theorem fillP_one {P : List (List UInt8)} (T : List (List UInt8)) : fillP (P.take 1) (T.take 0) = P.headD [] := by
  rcases P with _ | ⟨p, P⟩ <;> simp [fillP]
theorem cutAt_le (c : UInt8) (l : List UInt8) : ∀ p ∈ cutAt c l, p.length ≤ l.length := by
  induction l with
  | nil => intro p hp; simp [cutAt] at hp; subst hp; exact Nat.le_refl _
  | cons b l ih =>
    intro p hp
    unfold cutAt at hp
    by_cases h : b = c
    · rw [if_pos h] at hp
      rcases List.mem_cons.1 hp with hp | hp
      · subst hp; simp
      · have := ih p hp; simp; omega
    · rw [if_neg h] at hp
      rcases List.mem_cons.1 hp with hp | hp
      · subst hp
        rcases hc : cutAt c l with _ | ⟨q, Q⟩
        · simp
        · have := ih q (by rw [hc]; simp); simp; omega
      · have := ih p (List.mem_of_mem_tail hp); simp; omega
theorem has2_at {l : List UInt8} {k : Nat} (h : k + 1 < l.length) (h1 : l[k] = 63) (h2 : l[k + 1] = 63) : has2 l = true := by
  induction l generalizing k with
  | nil => simp at h
  | cons x l ih =>
    rcases l with _ | ⟨y, r⟩
    · simp at h
    · rw [has2]
      rcases k with _ | k
      · simp at h1 h2
        simp [h1, h2]
      · rw [ih (k := k) (by simpa using h) (by simpa using h1) (by simpa using h2), Bool.or_true]
theorem has2_no {l : List UInt8} (h : ∀ k, (hk : k + 1 < l.length) → l[k] = 63 → ¬ l[k + 1] = 63) : has2 l = false := by
  induction l with
  | nil => rfl
  | cons x l ih =>
    rcases l with _ | ⟨y, r⟩
    · rfl
    · rw [has2, ih (fun k hk h1 => by
        have := h (k + 1) (by simpa using hk) (by simpa using h1)
        simpa using this), Bool.or_false]
      have := h 0 (by simp)
      simp at this
      simpa using this
theorem has2_index : ∀ l : List UInt8, has2 l = (Lib.index l [63, 63] != -1) := by
  intro l
  induction l with
  | nil => simp [has2, Lib.index]
  | cons x l ih =>
    rcases l with _ | ⟨y, r⟩
    · simp [has2, Lib.index, List.isPrefixOf]
    · have hge := Lib.index_ge (y :: r) [63, 63]
      have e : Lib.index (x :: y :: r) [63, 63] = if ([63, 63] : List UInt8).isPrefixOf (x :: y :: r) = true then 0 else if (Lib.index (y :: r) [63, 63] == -1) = true then -1 else Lib.index (y :: r) [63, 63] + 1 := by
        conv => lhs; rw [Lib.index]
      rw [has2, ih, e]
      generalize Lib.index (y :: r) [63, 63] = i at *
      by_cases h : x = 63 ∧ y = 63
      · obtain ⟨rfl, rfl⟩ := h
        have hp : ([63, 63] : List UInt8).isPrefixOf (63 :: 63 :: r) = true := by simp [List.isPrefixOf]
        rw [if_pos hp]; rfl
      · have hp : ([63, 63] : List UInt8).isPrefixOf (x :: y :: r) = false := by
          simp [List.isPrefixOf]
          intro e1 e2
          exact h ⟨e1.symm, e2.symm⟩
        have h2 : (decide (x = 63) && decide (y = 63)) = false := by
          rw [Bool.and_eq_false_iff, decide_eq_false_iff_not, decide_eq_false_iff_not]
          by_cases e : x = 63
          · exact .inr (fun e2 => h ⟨e, e2⟩)
          · exact .inl e
        rw [h2, Bool.false_or, hp, if_neg (by simp)]
        by_cases hi : i = -1
        · subst hi; rfl
        · have h3 : (i == -1) = false := by rw [beq_eq_false_iff_ne]; exact hi
          rw [h3, if_neg (by simp)]
          have h4 : (i != -1) = true := by rw [bne_iff_ne]; exact hi
          have h5 : (i + 1 != -1) = true := by rw [bne_iff_ne]; omega
          rw [h4, h5]
end Go.Proofs.YtoajdkcdjdbliaaDoor

/- Plain laws of filled statements: the shape and the texts of one; a shape filled with its statement's texts. -/
import Derived.Test.YtoajdkcdjdbliaaDoorFillP
import Derived.Test.YtoajdkcdjdbliaaDoorCut
import Derived.Test.YtoajdkcdjdbliaaDoorShp
namespace Go.Proofs.YtoajdkcdjdbliaaDoor
open Go.RowKit

/-- A quoted text is read as one text, if no quote follows it. -/
theorem cut_qLr : ∀ (l acc : List UInt8) (tx bt : List (List UInt8)) (r : List UInt8), ¬ r.head? = some 39 → cutT (true, acc, tx, bt) (qL l ++ 39 :: r) = cutT (false, [], tx ++ [acc ++ l], bt) r := by
  intro l
  induction l with
  | nil =>
    intro acc tx bt r hr
    rw [List.append_nil]
    show cutT (true, acc, tx, bt) (39 :: r) = _
    rw [cutT_step _ _ _ (fun e => hr e.2.2), stepL, if_pos rfl, if_pos rfl]
  | cons x l ih =>
    intro acc tx bt r hr
    have e : qL (x :: l) = (if x = 39 then [39, 39] else [x]) ++ qL l := by simp [qL]
    by_cases hx : x = 39
    · subst hx
      rw [e, if_pos rfl]
      show cutT (true, acc, tx, bt) (39 :: 39 :: (qL l ++ 39 :: r)) = _
      rw [cutT_double _ rfl]
      have := ih (acc ++ [39]) tx bt r hr
      rw [this, List.append_assoc]; rfl
    · rw [e, if_neg hx]
      show cutT (true, acc, tx, bt) (x :: (qL l ++ 39 :: r)) = _
      rw [cutT_step _ _ _ (fun h => hx h.1), stepL, if_neg hx]
      have := ih (acc ++ [x]) tx bt r hr
      rw [this, List.append_assoc]; rfl
def pre1 (now : List UInt8) (P : List (List UInt8)) : List (List UInt8) := (now ++ P.headD []) :: P.tail
theorem fill_head {l : List UInt8} (T : List (List UInt8)) (h : (63 :: l).any (fun x => decide (x = 39)) = false) (h2 : has2 (63 :: l) = false) : ¬ (fillL l T).head? = some 39 := by
  rcases l with _ | ⟨y, r⟩
  · simp [fillL]
  · rw [has2, Bool.or_eq_false_iff] at h2
    have hy : ¬ y = 63 := by have := h2.1; simpa using this
    rw [List.any_cons, List.any_cons, Bool.or_eq_false_iff, Bool.or_eq_false_iff] at h
    have hy2 : ¬ y = 39 := by have := h.2.1; simpa using this
    rw [fillL, if_neg hy]
    simpa using hy2
theorem has2_tail {x : UInt8} {l : List UInt8} (h : has2 (x :: l) = false) : has2 l = false := by
  rcases l with _ | ⟨y, r⟩
  · rfl
  · rw [has2, Bool.or_eq_false_iff] at h; exact h.2
theorem cut_fill : ∀ (l : List UInt8) (T : List (List UInt8)) (now : List UInt8) (tx bt : List (List UInt8)), (l.any fun x => decide (x = 39)) = false → has2 l = false → l.count 63 = T.length → T.all textB = true →
    ∃ now' bt', cutT (false, now, tx, bt) (fillL l T) = (false, now', tx ++ T, bt') ∧ bt' ++ [now'] = bt ++ pre1 now (cutAt 63 l) := by
  intro l
  induction l with
  | nil =>
    intro T now tx bt _ _ hc _
    simp at hc
    have : T = [] := List.eq_nil_of_length_eq_zero hc.symm
    subst this
    exact ⟨now, bt, by rw [fillL, cutT, List.append_nil], by simp [pre1, cutAt]⟩
  | cons x l ih =>
    intro T now tx bt h1 h2 hc hT
    have h1' : (l.any fun x => decide (x = 39)) = false := by rw [List.any_cons, Bool.or_eq_false_iff] at h1; exact h1.2
    rw [fillL]
    by_cases hx : x = 63
    · subst hx
      rw [if_pos rfl]
      rw [List.count_cons_self] at hc
      rcases T with _ | ⟨t, T⟩
      · simp at hc
      · rw [List.all_cons, Bool.and_eq_true] at hT
        rw [List.headD_cons, List.tail_cons, qtR_yes hT.1]
        have e : (39 :: (qL t ++ [39])) ++ fillL l T = 39 :: (qL t ++ 39 :: fillL l T) := by simp
        rw [e, cutT_step _ _ _ (fun e => by cases e.2.1), stepL, if_pos rfl, if_neg (by simp)]
        rw [cut_qLr t [] tx (bt ++ [now]) _ (fill_head T h1 h2)]
        obtain ⟨now', bt', ha, hb⟩ := ih T [] (tx ++ [[] ++ t]) (bt ++ [now]) h1' (has2_tail h2) (by simpa using hc) hT.2
        refine ⟨now', bt', ?_, ?_⟩
        · rw [ha]; simp
        · rw [hb]
          simp only [pre1, cutAt, if_pos, List.nil_append, List.headD_cons, List.tail_cons, List.append_nil]
          rcases hcc : cutAt 63 l with _ | ⟨p, P⟩
          · exact absurd hcc (cutAt_ne _ _)
          · simp
    · rw [if_neg hx]
      have hx2 : ¬ x = 39 := by rw [List.any_cons, Bool.or_eq_false_iff] at h1; simpa using h1.1
      rw [cutT_step _ _ _ (fun e => hx2 e.1), stepL, if_neg hx2]
      obtain ⟨now', bt', ha, hb⟩ := ih T (now ++ [x]) tx bt h1' (has2_tail h2) (by rwa [List.count_cons_of_ne hx] at hc) hT
      refine ⟨now', bt', ha, ?_⟩
      rw [hb]
      simp [pre1, cutAt, hx]
theorem joinQ_cut : ∀ l : List UInt8, joinQ (cutAt 63 l) = l := by
  intro l
  induction l with
  | nil => rfl
  | cons b l ih =>
    unfold cutAt
    rcases hc : cutAt 63 l with _ | ⟨p, P⟩
    · exact absurd hc (cutAt_ne _ _)
    · rw [hc] at ih
      by_cases h : b = 63
      · subst h
        rw [if_pos rfl, joinQ, ih]; rfl
      · rw [if_neg h, List.headD_cons, List.tail_cons]
        rcases P with _ | ⟨q, P⟩
        · rw [joinQ] at ih ⊢; rw [ih]
        · rw [joinQ] at ih ⊢; rw [← ih]; rfl
theorem hasQ_cut : ∀ l : List UInt8, hasQ (cutAt 63 l) = false := by
  intro l
  induction l with
  | nil => rfl
  | cons b l ih =>
    unfold cutAt
    rcases hc : cutAt 63 l with _ | ⟨p, P⟩
    · exact absurd hc (cutAt_ne _ _)
    · rw [hc] at ih
      unfold hasQ at ih ⊢
      by_cases h : b = 63
      · rw [if_pos h, List.any_cons, ih]; rfl
      · rw [if_neg h, List.headD_cons, List.tail_cons]
        rw [List.any_cons, Bool.or_eq_false_iff] at ih ⊢
        refine ⟨?_, ih.2⟩
        rw [List.contains_cons, ih.1, Bool.or_false]
        rw [beq_eq_false_iff_ne]
        exact fun e => h e.symm
theorem cutAt_join : ∀ P : List (List UInt8), P ≠ [] → hasQ P = false → cutAt 63 (joinQ P) = P := by
  intro P
  induction P with
  | nil => intro h; exact absurd rfl h
  | cons p P ih =>
    intro _ h
    unfold hasQ at h
    rw [List.any_cons, Bool.or_eq_false_iff] at h
    have hp : ∀ (p r : List UInt8), p.contains 63 = false → cutAt 63 (p ++ r) = (p ++ (cutAt 63 r).headD []) :: (cutAt 63 r).tail := by
      intro p r
      induction p with
      | nil =>
        intro _
        rcases hc : cutAt 63 r with _ | ⟨q, Q⟩
        · exact absurd hc (cutAt_ne _ _)
        · simp [hc]
      | cons x p ihp =>
        intro hx
        rw [List.contains_cons, Bool.or_eq_false_iff] at hx
        have hx1 : ¬ x = 63 := fun e => by have := hx.1; rw [e] at this; simp at this
        rw [List.cons_append, cutAt, if_neg hx1, ihp hx.2]
        simp
    rcases P with _ | ⟨q, P⟩
    · rw [joinQ]
      have := hp p [] h.1
      rw [List.append_nil] at this
      rw [this]; simp [cutAt]
    · rw [joinQ, hp p _ h.1]
      have e : cutAt 63 (63 :: joinQ (q :: P)) = [] :: cutAt 63 (joinQ (q :: P)) := by rw [cutAt, if_pos rfl]
      rw [e, ih (by simp) h.2]
      simp
/-- The filled statement has the statement as its shape and the texts as its texts. -/
theorem fill_back {l : List UInt8} {T : List (List UInt8)} (h : fillOk l T = true) : shapeR (fillL l T) = (l, true) ∧ textsR (fillL l T) = (T.map mkS, true) := by
  obtain ⟨h1, h2, h3, h4, h5, h6, h7⟩ := fillOk_iff.1 h
  obtain ⟨now, bt, ha, hb⟩ := cut_fill l T [] [] [] h2 h3 h4 h6
  have hb' : bt ++ [now] = cutAt 63 l := by
    rw [hb]
    rcases hc : cutAt 63 l with _ | ⟨p, P⟩
    · exact absurd hc (cutAt_ne _ _)
    · simp [pre1]
  rw [List.nil_append] at ha
  refine ⟨?_, ?_⟩
  · rw [shapeR_yes h7 ha (by rw [hb']; exact hasQ_cut l), hb', joinQ_cut]
  · rw [textsR_yes h7 ha rfl]
def rawP (P : List (List UInt8)) (T : List (List UInt8)) : List UInt8 := P.headD [] ++ (List.zipWith (fun t p => 39 :: (qL t ++ [39]) ++ p) T P.tail).flatten
/-- The statement that a state of the reading came from. -/
def unp (st : StC) : List UInt8 := if st.1 = true then rawP st.2.2.2 st.2.2.1 ++ 39 :: qL st.2.1 else rawP (st.2.2.2 ++ [st.2.1]) st.2.2.1
def balSt (st : StC) : Prop := st.2.2.2.length = st.2.2.1.length + (if st.1 = true then 1 else 0)
theorem rawP_more : ∀ (P : List (List UInt8)) (p : List UInt8) (T : List (List UInt8)) (x : List UInt8), P.length = T.length → rawP (P ++ [p ++ x]) T = rawP (P ++ [p]) T ++ x := by
  intro P p T x h
  rcases P with _ | ⟨q, P⟩
  · have : T = [] := List.eq_nil_of_length_eq_zero (by simpa using h.symm)
    subst this
    simp [rawP]
  · have hne : T ≠ [] := by intro e; subst e; simp at h
    obtain ⟨T', t, rfl⟩ : ∃ T' t, T = T' ++ [t] := ⟨T.dropLast, T.getLast hne, (List.dropLast_concat_getLast hne).symm⟩
    have hl : T'.length = P.length := by simp at h; omega
    simp only [rawP, List.cons_append, List.headD_cons, List.tail_cons]
    rw [List.zipWith_append hl, List.zipWith_append hl]
    simp [List.append_assoc]
theorem rawP_text (P : List (List UInt8)) (T : List (List UInt8)) (t : List UInt8) (h : P.length = T.length + 1) : rawP (P ++ [[]]) (T ++ [t]) = rawP P T ++ (39 :: (qL t ++ [39])) := by
  rcases P with _ | ⟨q, P⟩
  · simp at h
  · have hl : T.length = P.length := by simp at h; omega
    simp only [rawP, List.cons_append, List.headD_cons, List.tail_cons]
    rw [List.zipWith_append hl]
    simp [List.append_assoc]
theorem unp_step (st : StC) (x : UInt8) (h : balSt st) (hx : x = 39 → True) : (¬ (x = 39 ∧ st.1 = true) → unp (stepL st x) = unp st ++ [x]) ∧ (x = 39 → st.1 = true → unp (stepL st x) = unp st ++ [39]) ∧ balSt (stepL st x) := by
  obtain ⟨q, now, tx, bt⟩ := st
  unfold balSt at h ⊢
  simp only at h
  by_cases h1 : x = 39
  · subst h1
    cases q
    · refine ⟨fun _ => ?_, fun _ e => by simp at e, ?_⟩
      · simp [stepL, unp, qL]
      · simp [stepL]; simpa using h
    · refine ⟨fun e => absurd ⟨rfl, rfl⟩ e, fun _ _ => ?_, ?_⟩
      · have := rawP_text bt tx now (by simpa using h)
        simp [stepL, unp, this]
      · simp [stepL]; simpa using h
  · cases q
    · refine ⟨fun _ => ?_, fun e => absurd e h1, ?_⟩
      · have := rawP_more bt now tx [x] (by simpa using h)
        simp [stepL, h1, unp, this]
      · simp [stepL, h1]; simpa using h
    · refine ⟨fun _ => ?_, fun e => absurd e h1, ?_⟩
      · have e : qL (now ++ [x]) = qL now ++ [x] := by rw [qL_snoc, if_neg h1]
        simp [stepL, h1, unp, e]
      · simp [stepL, h1]; simpa using h
theorem unp_cut : ∀ (n : Nat) (l : List UInt8), l.length ≤ n → ∀ st : StC, balSt st → unp (cutT st l) = unp st ++ l ∧ balSt (cutT st l) := by
  intro n
  induction n with
  | zero =>
    intro l hl st h
    have := List.eq_nil_of_length_eq_zero (Nat.le_zero.1 hl)
    subst this
    rw [cutT, List.append_nil]; exact ⟨rfl, h⟩
  | succ n ih =>
    intro l hl st h
    rcases l with _ | ⟨x, r⟩
    · rw [cutT, List.append_nil]; exact ⟨rfl, h⟩
    · by_cases hd : x = 39 ∧ st.1 = true ∧ r.head? = some 39
      · obtain ⟨rfl, h1, h2⟩ := hd
        rcases r with _ | ⟨y, r⟩
        · simp at h2
        · simp at h2
          subst h2
          rw [cutT_double st h1]
          obtain ⟨q, now, tx, bt⟩ := st
          simp only at h1
          subst h1
          have hb : balSt (true, now ++ [39], tx, bt) := h
          obtain ⟨ha, hb'⟩ := ih r (by simp only [List.length_cons] at hl; omega) (true, now ++ [39], tx, bt) hb
          refine ⟨?_, hb'⟩
          rw [ha]
          have e : qL (now ++ [39]) = qL now ++ [39, 39] := by rw [qL_snoc, if_pos rfl]
          simp [unp, e]
      · rw [cutT_step st x r hd]
        obtain ⟨s1, s2, s3⟩ := unp_step st x h (fun _ => trivial)
        obtain ⟨ha, hb⟩ := ih r (by simp only [List.length_cons] at hl; omega) (stepL st x) s3
        refine ⟨?_, hb⟩
        rw [ha]
        by_cases hx : x = 39 ∧ st.1 = true
        · rw [s2 hx.1 hx.2, hx.1]; simp
        · rw [s1 hx]; simp
theorem raw_fill : ∀ (P T : List (List UInt8)), T.all textB = true → fillP P T = rawP P T := by
  intro P T h
  unfold fillP rawP
  congr 2
  induction T generalizing P with
  | nil => simp
  | cons t T ih =>
    rw [List.all_cons, Bool.and_eq_true] at h
    rcases P.tail with _ | ⟨q, Q⟩
    · simp
    · have := ih (P := q :: Q) h.2
      simp only [List.tail_cons] at this
      simp [List.zipWith_cons_cons, this, qtR_yes h.1]
/-- A shape, filled with the texts of its statement, is the statement. -/
theorem shape_fill {l x : List UInt8} (h : shapeR l = (x, true)) {T : List (List UInt8)} (hT : T = (cut0 l).2.2.1) (hf : fillOk x T = true) : fillL x T = l := by
  unfold shapeR at h
  split at h
  · rename_i hc
    obtain ⟨h1, h2, h3⟩ := hc
    injection h with h _
    obtain ⟨_, _, _, g4, _, g6, _⟩ := fillOk_iff.1 hf
    rw [fill_cut _ _ g4, ← h, cutAt_join _ (by simp) h3, raw_fill _ _ g6, hT]
    have hu := (unp_cut l.length l (Nat.le_refl _) (false, [], [], []) rfl).1
    have hq : (cutT (false, [], [], []) l).1 = false := h2
    unfold cut0
    rw [unp, hq] at hu
    simpa [unp, rawP] using hu
  · injection h with _ h; cases h
/-- In a shape there is no quote. -/
theorem no_quote : ∀ (l : List UInt8), ∀ e ∈ (cut0 l).2.2.2 ++ (if (cut0 l).1 = true then [] else [(cut0 l).2.1]), (e.any fun x => decide (x = 39)) = false := by
  have key : ∀ (n : Nat) (l : List UInt8), l.length ≤ n → ∀ st : StC, (∀ e ∈ st.2.2.2 ++ (if st.1 = true then [] else [st.2.1]), (e.any fun x => decide (x = 39)) = false) → ∀ e ∈ (cutT st l).2.2.2 ++ (if (cutT st l).1 = true then [] else [(cutT st l).2.1]), (e.any fun x => decide (x = 39)) = false := by
    intro n
    induction n with
    | zero =>
      intro l hl st h
      have := List.eq_nil_of_length_eq_zero (Nat.le_zero.1 hl)
      subst this
      rw [cutT]; exact h
    | succ n ih =>
      intro l hl st h
      rcases l with _ | ⟨x, r⟩
      · rw [cutT]; exact h
      · by_cases hd : x = 39 ∧ st.1 = true ∧ r.head? = some 39
        · obtain ⟨rfl, h1, h2⟩ := hd
          rcases r with _ | ⟨y, r⟩
          · simp at h2
          · simp at h2
            subst h2
            rw [cutT_double st h1]
            refine ih r (by simp only [List.length_cons] at hl; omega) _ ?_
            simp only [h1, if_true] at h ⊢
            exact h
        · rw [cutT_step st x r hd]
          refine ih r (by simp only [List.length_cons] at hl; omega) _ ?_
          obtain ⟨q, now, tx, bt⟩ := st
          unfold stepL
          by_cases hx : x = 39
          · subst hx
            cases q
            · simpa using h
            · simp at h ⊢
              intro e he
              rcases he with he | he
              · exact h e he
              · subst he; simp
          · rw [if_neg hx]
            cases q
            · simp at h ⊢
              intro e he
              rcases he with he | he
              · exact h e (.inl he)
              · subst he
                have := h now (.inr rfl)
                intro y hy
                rcases List.mem_append.1 hy with hy | hy
                · exact this y hy
                · rw [List.mem_singleton] at hy; subst hy; exact hx
            · simpa using h
  intro l
  exact key l.length l (Nat.le_refl _) _ (by simp)
theorem joinQ_any : ∀ P : List (List UInt8), (∀ e ∈ P, (e.any fun x => decide (x = 39)) = false) → ((joinQ P).any fun x => decide (x = 39)) = false := by
  intro P
  induction P with
  | nil => intro _; rfl
  | cons p P ih =>
    intro h
    rcases P with _ | ⟨q, P⟩
    · rw [joinQ]; exact h p (by simp)
    · rw [joinQ, List.any_append, h p (by simp), List.any_cons, ih (fun e he => h e (by simp [he]))]
      rfl
theorem shape_quote {l x : List UInt8} (h : shapeR l = (x, true)) : (x.any fun x => decide (x = 39)) = false := by
  unfold shapeR at h
  split at h
  · rename_i hc
    injection h with h _
    rw [← h]
    have := no_quote l
    rw [hc.2.1] at this
    exact joinQ_any _ (by simpa using this)
  · injection h with _ h; cases h
end Go.Proofs.YtoajdkcdjdbliaaDoor

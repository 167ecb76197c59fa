/- Plain laws: what is split of quoted words, and of orders of them. -/
import Derived.Test.YtdiaonhmhmdplaaDoorSplitI
import Derived.Test.YtdiaonhmhmdplaaDoorQWord
namespace Go.Proofs.YtdiaonhmhmdplaaDoor
open Go.RowKit

theorem splitT_app (a b : List UInt8) : ∀ st, splitT st (a ++ b) = (splitT st a).bind fun st' => splitT st' b := by
  induction a with
  | nil => intro st; rfl
  | cons x a ih =>
    intro st
    rw [List.cons_append, splitT, splitT]
    cases stepW st x with
    | none => rfl
    | some st' => exact ih st'
theorem splitT_cons {st st' : StW} {b : UInt8} {r : List UInt8} (h : stepW st b = some st') : splitT st (b :: r) = splitT st' r := by rw [splitT, h]; rfl
theorem plB_facts (c : UInt8) (h : plB c = true) : badW 0 c = false ∧ ¬ (0 : UInt8) = c ∧ ¬ c = 32 ∧ ¬ c = 39 ∧ ¬ c = 34 := by
  have := byte_allW (p := fun c => plB c = true → badW 0 c = false ∧ ¬ (0 : UInt8) = c ∧ ¬ c = 32 ∧ ¬ c = 39 ∧ ¬ c = 34) (by decide +kernel) c
  exact this h
theorem okC_facts (c : UInt8) (h : okC c = true) : badW 39 c = false := by
  have := byte_allW (p := fun c => okC c = true → badW 39 c = false) (by decide +kernel) c
  exact this h
theorem plain_step {d : List (List UInt8)} {cu : Option (List UInt8)} {c : UInt8} (h : plB c = true) : stepW (0, d, cu) c = some (0, d, some (cu.getD [] ++ [c])) := by
  obtain ⟨h1, h2, h3, h4, h5⟩ := plB_facts c h
  exact stepW_more h1 h2 (fun e => h3 e.1) (fun e => e.2.elim h4 h5)
theorem splitT_plain (d : List (List UInt8)) : ∀ (l c : List UInt8), l.all plB = true → splitT (0, d, some c) l = some (0, d, some (c ++ l)) := by
  intro l
  induction l with
  | nil => intro c _; rw [List.append_nil]; rfl
  | cons x l ih =>
    intro c h
    rw [List.all_cons, Bool.and_eq_true] at h
    rw [splitT_cons (plain_step h.1)]
    simp only [Option.getD_some]
    rw [ih _ h.2, List.append_assoc]; rfl
theorem quote_step {d : List (List UInt8)} {c : List UInt8} {x : UInt8} (h : okC x = true) (hx : ¬ x = 39) : stepW (39, d, some c) x = some (39, d, some (c ++ [x])) :=
  stepW_more (okC_facts x h) (fun e => hx e.symm) (fun e => by have := e.2; revert this; decide) (fun e => by have := e.1; revert this; decide)
theorem splitT_q1 (d : List (List UInt8)) (c : List UInt8) (x : UInt8) (h : okC x = true) : splitT (39, d, some c) (qw1 x) = some (39, d, some (c ++ [x])) := by
  unfold qw1
  by_cases hx : x = 39
  · subst hx
    rw [if_pos rfl, splitT_cons (stepW_end (by decide) rfl), splitT_cons (stepW_quote (by decide) (by decide) (by decide) rfl (.inr rfl)), splitT_cons (stepW_more (by decide) (by decide) (by decide) (by decide)), splitT_cons (stepW_end (by decide) rfl), splitT_cons (stepW_quote (by decide) (by decide) (by decide) rfl (.inl rfl))]
    rfl
  · rw [if_neg hx, splitT_cons (quote_step h hx)]; rfl
theorem splitT_qs (d : List (List UInt8)) : ∀ (l c : List UInt8), l.all okC = true → splitT (39, d, some c) (qwL l) = some (39, d, some (c ++ l)) := by
  intro l
  induction l with
  | nil => intro c _; rw [List.append_nil]; rfl
  | cons x l ih =>
    intro c h
    rw [List.all_cons, Bool.and_eq_true] at h
    have e : qwL (x :: l) = qw1 x ++ qwL l := by simp [qwL]
    rw [e, splitT_app, splitT_q1 d c x h.1]
    show splitT (39, d, some (c ++ [x])) (qwL l) = _
    rw [ih _ h.2, List.append_assoc]; rfl
theorem textB_okC {l : List UInt8} (h : textB l = true) : l.all okC = true := by
  unfold textB at h
  rw [Bool.and_eq_true] at h
  exact h.2
/-- A word is split off as its text. -/
theorem word_split (d : List (List UInt8)) (l : List UInt8) (h : textB l = true) : splitT (0, d, none) (qwR l) = some (0, d, some l) := by
  rcases h2 : qwB l with _ | _
  · rw [qwR_quoted h h2, splitT_cons (stepW_quote (by decide) (by decide) (by decide) rfl (.inl rfl)), splitT_app]
    simp only [Option.getD_none]
    rw [splitT_qs d l [] (textB_okC h)]
    show splitT (39, d, some ([] ++ l)) [39] = _
    rw [splitT_cons (stepW_end (by decide) rfl)]
    rfl
  · rw [qwR_plain h h2]
    unfold qwB at h2
    rw [Bool.and_eq_true] at h2
    rcases l with _ | ⟨x, l⟩
    · simp at h2
    · have h3 := h2.2
      rw [List.all_cons, Bool.and_eq_true] at h3
      rw [splitT_cons (plain_step h3.1)]
      simp only [Option.getD_none]
      rw [splitT_plain d l _ h3.2]; rfl
theorem splitR_word {l : List UInt8} (h : textB l = true) : splitR (qwR l) = ([mkS l], true) := by
  have := word_split [] l h
  rw [splitR_yes this (by simp [wordsW])]
  rfl
/-- An order of words is split into their texts. -/
theorem order_split : ∀ (L : List (List UInt8)) (d : List (List UInt8)), L ≠ [] → L.all textB = true → ∃ d' c, splitT (0, d, none) (Lib.join (L.map qwR) [32]) = some (0, d', some c) ∧ d' ++ [c] = d ++ L := by
  intro L
  induction L with
  | nil => intro d h _; exact absurd rfl h
  | cons a r ih =>
    intro d _ h
    rw [List.all_cons, Bool.and_eq_true] at h
    rcases r with _ | ⟨b, r⟩
    · rw [List.map_cons, List.map_nil, Lib.join_one]
      exact ⟨d, a, word_split d a h.1, rfl⟩
    · have e : Lib.join ((a :: b :: r).map qwR) [32] = qwR a ++ (32 :: Lib.join ((b :: r).map qwR) [32]) := by
        rw [List.map_cons, List.map_cons, Lib.join_cons, Lib.join_cons, Lib.joinTail, List.map_cons, List.flatten_cons, Lib.joinTail]
        simp
      rw [e, splitT_app, word_split d a h.1]
      show ∃ d' c, splitT (0, d, some a) (32 :: Lib.join ((b :: r).map qwR) [32]) = some (0, d', some c) ∧ _
      rw [splitT_cons (stepW_space (by decide) (by decide) rfl rfl)]
      obtain ⟨d', c, h1, h2⟩ := ih (d ++ [a]) (by simp) h.2
      exact ⟨d', c, h1, by rw [h2, List.append_assoc]; rfl⟩
end Go.Proofs.YtdiaonhmhmdplaaDoor

/- Plain laws of a table's tokens: no two texts side by side; every tag that opens is ended. -/
import Derived.Test.YtdoomfckdjjlaaaTokV
namespace Go.Proofs.Ytdoomfckdjjlaaa
open Go.RowKit

def noTT : Nat → List Tok → Bool
  | _, [] => true
  | k, t :: r => !(k == 1 && t.K == 1) && noTT t.K r
def lastK : Nat → List Tok → Nat
  | k, [] => k
  | _, t :: r => lastK t.K r
theorem noTT_app : ∀ (A B : List Tok) (k : Nat), noTT k (A ++ B) = (noTT k A && noTT (lastK k A) B) := by
  intro A
  induction A with
  | nil => intro B k; simp [noTT, lastK]
  | cons a A ih => intro B k; rw [List.cons_append, noTT, noTT, lastK, ih, Bool.and_assoc]
theorem lastK_app : ∀ (A B : List Tok) (k : Nat), lastK k (A ++ B) = lastK (lastK k A) B := by
  intro A
  induction A with
  | nil => intro B k; rfl
  | cons a A ih => intro B k; rw [List.cons_append, lastK, lastK, ih]
theorem cell_noTT (s : ByteArray) (k : Nat) (_hk : k ≠ 1) : noTT k (cellToks s) = true ∧ lastK k (cellToks s) = 3 := by
  unfold cellToks
  split <;> simp [noTT, lastK]
theorem flat_noTT {α : Type} (f : α → List Tok) (h : ∀ (x : α) (k : Nat), k ≠ 1 → noTT k (f x) = true ∧ lastK k (f x) = 3) : ∀ (l : List α) (k : Nat), k ≠ 1 → noTT k (l.flatMap f) = true ∧ lastK k (l.flatMap f) ≠ 1 := by
  intro l
  induction l with
  | nil => intro k hk; exact ⟨rfl, hk⟩
  | cons a l ih =>
    intro k hk
    obtain ⟨h1, h2⟩ := h a k hk
    obtain ⟨h3, h4⟩ := ih 3 (by omega)
    rw [List.flatMap_cons, noTT_app, lastK_app, h1, h2, h3]
    exact ⟨rfl, h4⟩
theorem row_noTT (r : List ByteArray) (k : Nat) (_hk : k ≠ 1) : noTT k (rowToks r) = true ∧ lastK k (rowToks r) = 3 := by
  obtain ⟨h1, h2⟩ := flat_noTT cellToks cell_noTT r 2 (by omega)
  unfold rowToks
  rw [noTT_app, noTT_app, lastK_app]
  have e : lastK k [(⟨2, trS, ⟨#[]⟩⟩ : Tok)] = 2 := rfl
  rw [e, h1]
  simp [noTT, lastK, lastK_app]
theorem tab_noTT (T : List (List ByteArray)) : noTT 0 (tabToks T) = true := by
  obtain ⟨h1, h2⟩ := flat_noTT rowToks row_noTT T 2 (by omega)
  unfold tabToks
  rw [noTT_app, noTT_app]
  have e : lastK 0 [(⟨2, tableS, ⟨#[]⟩⟩ : Tok)] = 2 := rfl
  rw [e, h1]
  simp [noTT]
theorem noTT_at : ∀ (T : List Tok) (k : Nat), noTT k T = true → ∀ i (h : i + 1 < T.length), T[i].K = 1 → T[i + 1].K ≠ 1 := by
  intro T
  induction T with
  | nil => intro k _ i h; simp at h
  | cons a T ih =>
    intro k hk i h h1
    rw [noTT, Bool.and_eq_true] at hk
    rcases i with _ | i
    · rcases T with _ | ⟨b, T⟩
      · simp at h
      · have := hk.2
        rw [noTT, Bool.and_eq_true] at this
        simp only [List.getElem_cons_zero, List.getElem_cons_succ] at h1 ⊢
        intro h2
        rw [h1, h2] at this
        simp at this
    · exact ih a.K hk.2 i (by simpa using h) h1
theorem goods_tab {T : List (List ByteArray)} (h : tabB T = true) : GoodToks (tabToks T) := ⟨good_tab h, fun i hi => noTT_at _ 0 (tab_noTT T) i hi⟩
/-- The open tags behind a token. -/
def stepR (st : List ByteArray) (t : Tok) : Option (List ByteArray) := if t.K = 2 then some (st ++ [t.N]) else if t.K = 3 then (if st.getLast? = some t.N then some st.dropLast else none) else some st
def stackR : List ByteArray → List Tok → Option (List ByteArray)
  | st, [] => some st
  | st, t :: r => (stepR st t).bind fun s => stackR s r
theorem stackR_app : ∀ (A B : List Tok) (st : List ByteArray), stackR st (A ++ B) = (stackR st A).bind fun s => stackR s B := by
  intro A
  induction A with
  | nil => intro B st; rfl
  | cons a A ih =>
    intro B st
    rw [List.cons_append, stackR, stackR]
    cases stepR st a with
    | none => rfl
    | some s => exact ih B s
theorem cell_stack (s : ByteArray) (st : List ByteArray) : stackR st (cellToks s) = some st := by
  unfold cellToks
  split <;> simp [stackR, stepR]
theorem flat_stack {α : Type} (f : α → List Tok) (h : ∀ (x : α) (st : List ByteArray), stackR st (f x) = some st) : ∀ (l : List α) (st : List ByteArray), stackR st (l.flatMap f) = some st := by
  intro l
  induction l with
  | nil => intro st; rfl
  | cons a l ih => intro st; rw [List.flatMap_cons, stackR_app, h]; exact ih st
theorem row_stack (r : List ByteArray) (st : List ByteArray) : stackR st (rowToks r) = some st := by
  unfold rowToks
  rw [stackR_app, stackR_app]
  have e : stackR st [(⟨2, trS, ⟨#[]⟩⟩ : Tok)] = some (st ++ [trS]) := rfl
  rw [e, Option.bind_some, flat_stack cellToks cell_stack, Option.bind_some]
  simp [stackR, stepR]
theorem tab_stack (T : List (List ByteArray)) : stackR [] (tabToks T) = some [] := by
  unfold tabToks
  rw [stackR_app, stackR_app]
  have e : stackR [] [(⟨2, tableS, ⟨#[]⟩⟩ : Tok)] = some ([] ++ [tableS]) := rfl
  rw [e, Option.bind_some, flat_stack rowToks row_stack, Option.bind_some]
  simp [stackR, stepR]
/-- A stack that comes through to the end comes through to each place. -/
theorem stack_next {T : List Tok} {z st : List ByteArray} {k : Nat} (hz : stackR [] T = some z) (hk : k < T.length) (hs : stackR [] (T.take k) = some st) : ∃ st', stepR st T[k] = some st' ∧ stackR [] (T.take (k + 1)) = some st' := by
  have e1 : T = T.take (k + 1) ++ T.drop (k + 1) := (List.take_append_drop _ _).symm
  have e2 : stackR [] (T.take (k + 1)) = (stepR st T[k]).bind fun s => some s := by
    rw [List.take_succ_eq_append_getElem hk, stackR_app, hs, Option.bind_some]
    rfl
  cases hst : stepR st T[k] with
  | none =>
    rw [hst] at e2
    rw [e1, stackR_app, e2] at hz
    simp at hz
  | some st' =>
    rw [hst] at e2
    exact ⟨st', rfl, e2⟩
theorem step_open {st st' : List ByteArray} {t : Tok} (h : stepR st t = some st') (hk : t.K = 2) : st' = st ++ [t.N] := by
  rw [stepR, if_pos hk] at h; injection h with h; exact h.symm
theorem step_end {st st' : List ByteArray} {t : Tok} (h : stepR st t = some st') (hk : t.K = 3) : st = st' ++ [t.N] := by
  rw [stepR, if_neg (by omega), if_pos hk] at h
  split at h
  · rename_i hg
    injection h with h
    obtain ⟨a, ha⟩ := List.getLast?_eq_some_iff.1 hg
    rw [ha, List.dropLast_concat] at h
    rw [ha, h]
  · cases h
theorem step_text {st st' : List ByteArray} {t : Tok} (h : stepR st t = some st') (hk : t.K = 1) : st' = st := by
  rw [stepR, if_neg (by omega), if_neg (by omega)] at h; injection h with h; exact h.symm
end Go.Proofs.Ytdoomfckdjjlaaa

/- Tokens with attributes; the rows that tokens make, plainly; rows that are built from behind. -/
import Derived.Test.YtdoomfckdjjlaaaOwnRows
import Derived.Test.YtdoomfckdjjlaaaTokI
namespace Go.Proofs.Ytdoomfckdjjlaaa
open Go.RowKit

/-- A token with what its slice of attributes is. -/
structure TokP where
  K : Nat
  N : ByteArray
  V : ByteArray
  a : Option Addr
  p : Nat
  c : Nat
def TokP.core (t : TokP) : Tok := ⟨t.K, t.N, t.V⟩
def plainP (t : Tok) : TokP := ⟨t.K, t.N, t.V, none, 0, 0⟩
def tokPV (t : TokP) : List Value := [.int .i64 (t.K : Int), .string t.N, .string t.V, .slice t.a t.p t.c]
def tokPC (l : List TokP) : List Value := l.flatMap tokPV
theorem tokPC_plain (l : List Tok) : tokPC (l.map plainP) = tokC l := by
  induction l with
  | nil => rfl
  | cons a l ih => rw [List.map_cons, tokPC, List.flatMap_cons, ← tokPC, ih]; rfl
theorem tokPC_len (l : List TokP) : (tokPC l).length = l.length * 4 := by
  induction l with
  | nil => rfl
  | cons a l ih => rw [tokPC, List.flatMap_cons, List.length_append, ← tokPC, ih]; simp [tokPV]; omega
theorem tokPC_app (a b : List TokP) : tokPC (a ++ b) = tokPC a ++ tokPC b := by simp [tokPC]
theorem tokPC_one (l : List TokP) : ∀ u ∈ tokPC l, u.oneCell' = true := by
  intro u hu
  obtain ⟨t, _, ht⟩ := List.mem_flatMap.1 hu
  simp only [tokPV, List.mem_cons, List.not_mem_nil, or_false] at ht
  rcases ht with rfl | rfl | rfl | rfl <;> rfl
theorem tokPC_get (l : List TokP) (i j : Nat) (h : i < l.length) (hj : j < 4) : (tokPC l)[i * 4 + j]? = (tokPV l[i])[j]? := by
  induction l generalizing i with
  | nil => simp at h
  | cons a l ih =>
    have e : tokPC (a :: l) = tokPV a ++ tokPC l := rfl
    have h4 : (tokPV a).length = 4 := rfl
    rw [e]
    rcases i with _ | i
    · rw [List.getElem?_append_left (by omega), Nat.zero_mul, Nat.zero_add]; rfl
    · rw [List.getElem?_append_right (by omega), show (i + 1) * 4 + j - (tokPV a).length = i * 4 + j by omega, ih i (by simpa using h)]
      rfl
/-- An owned row of tokens that is not empty: where it lies, and its cells. -/
theorem tokP_at {w : World} {B n : Nat} {v : Value} {L : List TokP} (h : w.ownsRow B 53 4 v n (tokPC L)) (hn : L.length = n) (h0 : 0 < n) :
    ∃ g c, v = .slice (some ⟨g, 0, none⟩) n c ∧ B ≤ g ∧ g < w.heap.size ∧ n ≤ c ∧ c ≤ 9223372036854775807 ∧ w.frozen? ⟨g, 0, none⟩ = false ∧
      ∀ i (hi : i < L.length), w.cell? ⟨g, i * 4, none⟩ = some (.int .i64 (L[i].K : Int)) ∧ w.cell? ⟨g, i * 4 + 1, none⟩ = some (.string L[i].N) ∧ w.cell? ⟨g, i * 4 + 2, none⟩ = some (.string L[i].V) ∧ w.cell? ⟨g, i * 4 + 3, none⟩ = some (.slice L[i].a L[i].p L[i].c) := by
  obtain ⟨hl, h⟩ := h
  rcases h with ⟨rfl, e⟩ | ⟨g, cap, cur, rfl, hB, hg, hn1, hm, hs, ht⟩
  · omega
  · have hlt : g < w.heap.size := (Array.getElem?_eq_some_iff.1 hg).1
    refine ⟨g, cap, rfl, hB, hlt, hn1, by simpa [maxLen] using hm, by simp [World.frozen?, hg], fun i hi => ?_⟩
    have key : ∀ j, j < 4 → w.cell? ⟨g, i * 4 + j, none⟩ = (tokPV L[i])[j]? := fun j hj => by
      rw [cell_of_row w g _ cur _ (0, 0) hg, ← tokPC_get L i j hi hj]
      conv => rhs; rw [← ht]
      rw [List.getElem?_take, if_pos (by omega)]
      simp
    exact ⟨key 0 (by omega), key 1 (by omega), key 2 (by omega), key 3 (by omega)⟩

/-! The rows that tokens make. -/
theorem nil_or_snoc {α : Type} (R : List α) : R = [] ∨ ∃ R' F, R = R' ++ [F] := by
  rcases R.eq_nil_or_concat with h | ⟨R', F, h⟩
  · exact .inl h
  · exact .inr ⟨R', F, by rw [h, List.concat_eq_append]⟩
def modLast (f : List ByteArray → List ByteArray) : List (List ByteArray) → List (List ByteArray)
  | [] => []
  | [F] => [f F]
  | F :: G :: R => F :: modLast f (G :: R)
theorem modLast_snoc (f : List ByteArray → List ByteArray) (R : List (List ByteArray)) (F : List ByteArray) : modLast f (R ++ [F]) = R ++ [f F] := by
  induction R with
  | nil => rfl
  | cons G R ih =>
    rcases R with _ | ⟨H, R⟩
    · rfl
    · show G :: modLast f ((H :: R) ++ [F]) = _
      rw [ih]; rfl
theorem modLast_len (f : List ByteArray → List ByteArray) (R : List (List ByteArray)) : (modLast f R).length = R.length := by
  rcases nil_or_snoc R with h | ⟨R, F, h⟩ <;> subst h
  · rfl
  · rw [modLast_snoc]; simp
def setLast (v : ByteArray) (F : List ByteArray) : List ByteArray := if F = [] then [] else F.dropLast ++ [v]
theorem setLast_nil (v : ByteArray) : setLast v [] = [] := rfl
theorem setLast_snoc (v x : ByteArray) (F : List ByteArray) : setLast v (F ++ [x]) = F ++ [v] := by
  unfold setLast
  rw [if_neg (by simp), List.dropLast_concat]
def rowStep (R : List (List ByteArray)) (t : Tok) : List (List ByteArray) :=
  if t.K = 2 ∧ t.N = trS then R ++ [[]] else if t.K = 2 ∧ t.N = tdS then modLast (· ++ [⟨#[]⟩]) R else if t.K = 1 then modLast (setLast t.V) R else R
def rowsOf (L : List Tok) : List (List ByteArray) := L.foldl rowStep []
theorem rowsOf_snoc (L : List Tok) (t : Tok) : rowsOf (L ++ [t]) = rowStep (rowsOf L) t := by simp [rowsOf]
theorem step_tr {t : Tok} (R : List (List ByteArray)) (h : t.K = 2) (hn : t.N = trS) : rowStep R t = R ++ [[]] := by rw [rowStep, if_pos ⟨h, hn⟩]
theorem step_td {t : Tok} (R : List (List ByteArray)) (F : List ByteArray) (h : t.K = 2) (hn : t.N = tdS) : rowStep (R ++ [F]) t = R ++ [F ++ [⟨#[]⟩]] := by
  rw [rowStep, if_neg (by rw [hn]; intro ⟨_, e⟩; revert e; decide), if_pos ⟨h, hn⟩, modLast_snoc]
theorem step_txt {t : Tok} (R : List (List ByteArray)) (F : List ByteArray) (x : ByteArray) (h : t.K = 1) : rowStep (R ++ [F ++ [x]]) t = R ++ [F ++ [t.V]] := by
  rw [rowStep, if_neg (by omega), if_neg (by omega), if_pos h, modLast_snoc, setLast_snoc]
theorem step_txt0 {t : Tok} (R : List (List ByteArray)) (h : t.K = 1) : rowStep (R ++ [[]]) t = R ++ [[]] := by
  rw [rowStep, if_neg (by omega), if_neg (by omega), if_pos h, modLast_snoc]; rfl
theorem step_nil {t : Tok} (h : ¬ (t.K = 2 ∧ t.N = trS)) : rowStep [] t = [] := by
  rw [rowStep, if_neg h]
  split
  · rfl
  · split <;> rfl
theorem step_no {t : Tok} (R : List (List ByteArray)) (h : ¬ (t.K = 2 ∧ t.N = trS)) (h2 : ¬ (t.K = 2 ∧ t.N = tdS)) (h1 : t.K ≠ 1) : rowStep R t = R := by
  rw [rowStep, if_neg h, if_neg h2, if_neg h1]
theorem fold_cell (R : List (List ByteArray)) (F : List ByteArray) (s : ByteArray) : (cellToks s).foldl rowStep (R ++ [F]) = R ++ [F ++ [s]] := by
  unfold cellToks
  by_cases h : s = ⟨#[]⟩
  · subst h
    rw [if_pos rfl]
    simp only [List.append_nil, List.cons_append, List.nil_append, List.foldl_cons, List.foldl_nil]
    rw [step_td R F rfl rfl, step_no _ (by simp) (by simp) (by simp)]
  · rw [if_neg h]
    simp only [List.cons_append, List.nil_append, List.foldl_cons, List.foldl_nil]
    rw [step_td R F rfl rfl, step_txt R F _ rfl, step_no _ (by simp) (by simp) (by simp)]
theorem fold_cells (R : List (List ByteArray)) : ∀ (r : List ByteArray) (F : List ByteArray), (r.flatMap cellToks).foldl rowStep (R ++ [F]) = R ++ [F ++ r] := by
  intro r
  induction r with
  | nil => intro F; simp
  | cons s r ih => intro F; rw [List.flatMap_cons, List.foldl_append, fold_cell, ih, List.append_assoc]; rfl
theorem fold_row (R : List (List ByteArray)) (r : List ByteArray) : (rowToks r).foldl rowStep R = R ++ [r] := by
  unfold rowToks
  simp only [List.foldl_append, List.foldl_cons, List.foldl_nil]
  rw [step_tr R rfl rfl, fold_cells, step_no _ (by simp) (by simp) (by simp), List.nil_append]
theorem fold_rows : ∀ (T R : List (List ByteArray)), (T.flatMap rowToks).foldl rowStep R = R ++ T := by
  intro T
  induction T with
  | nil => intro R; simp
  | cons r T ih => intro R; rw [List.flatMap_cons, List.foldl_append, fold_row, ih, List.append_assoc]; rfl
/-- A table's tokens make its rows. -/
theorem rowsOf_tab (T : List (List ByteArray)) : rowsOf (tabToks T) = T := by
  unfold rowsOf tabToks
  simp only [List.foldl_append, List.foldl_cons, List.foldl_nil]
  rw [step_no [] (by simp only [true_and]; decide) (by simp only [true_and]; decide) (by simp), fold_rows, step_no _ (by simp) (by simp) (by simp), List.nil_append]
theorem step_size {m : Nat} {R : List (List ByteArray)} {t : Tok} (h : ∀ r ∈ R, ∀ s ∈ r, s.size ≤ m) (ht : t.V.size ≤ m) : ∀ r ∈ rowStep R t, ∀ s ∈ r, s.size ≤ m := by
  intro r hr s hs
  unfold rowStep at hr
  split at hr
  · rcases List.mem_append.1 hr with hr | hr
    · exact h r hr s hs
    · rw [List.mem_singleton] at hr; subst hr; cases hs
  · split at hr
    · rcases nil_or_snoc R with e | ⟨R', F, e⟩ <;> subst e
      · cases hr
      · rw [modLast_snoc] at hr
        rcases List.mem_append.1 hr with hr | hr
        · exact h r (by simp [hr]) s hs
        · rw [List.mem_singleton] at hr; subst hr
          rcases List.mem_append.1 hs with hs | hs
          · exact h F (by simp) s hs
          · rw [List.mem_singleton] at hs; subst hs; exact Nat.zero_le _
    · split at hr
      · rcases nil_or_snoc R with e | ⟨R', F, e⟩ <;> subst e
        · cases hr
        · rw [modLast_snoc] at hr
          rcases List.mem_append.1 hr with hr | hr
          · exact h r (by simp [hr]) s hs
          · rw [List.mem_singleton] at hr; subst hr
            unfold setLast at hs
            split at hs
            · cases hs
            · rcases List.mem_append.1 hs with hs | hs
              · exact h F (by simp) s (List.dropLast_subset _ hs)
              · rw [List.mem_singleton] at hs; subst hs; exact ht
      · exact h r hr s hs
theorem step_wide {R : List (List ByteArray)} {t : Tok} {k : Nat} (h : R.length ≤ k ∧ ∀ r ∈ R, r.length ≤ k) : (rowStep R t).length ≤ k + 1 ∧ ∀ r ∈ rowStep R t, r.length ≤ k + 1 := by
  obtain ⟨h1, h2⟩ := h
  unfold rowStep
  split
  · refine ⟨by simp; omega, fun r hr => ?_⟩
    rcases List.mem_append.1 hr with hr | hr
    · have := h2 r hr; omega
    · rw [List.mem_singleton] at hr; subst hr; simp
  · split
    · refine ⟨by rw [modLast_len]; omega, fun r hr => ?_⟩
      rcases nil_or_snoc R with e | ⟨R', F, e⟩ <;> subst e
      · cases hr
      · rw [modLast_snoc] at hr
        rcases List.mem_append.1 hr with hr | hr
        · have := h2 r (by simp [hr]); omega
        · rw [List.mem_singleton] at hr; subst hr
          have := h2 F (by simp)
          simp; omega
    · split
      · refine ⟨by rw [modLast_len]; omega, fun r hr => ?_⟩
        rcases nil_or_snoc R with e | ⟨R', F, e⟩ <;> subst e
        · cases hr
        · rw [modLast_snoc] at hr
          rcases List.mem_append.1 hr with hr | hr
          · have := h2 r (by simp [hr]); omega
          · rw [List.mem_singleton] at hr; subst hr
            have := h2 F (by simp)
            unfold setLast
            split
            · simp
            · simp; omega
      · exact ⟨by omega, fun r hr => by have := h2 r hr; omega⟩
/-- Tokens that are those of a table. -/
def ResOk (L : List TokP) : Prop := tabB (rowsOf (L.map TokP.core)) = true ∧ L.map TokP.core = tabToks (rowsOf (L.map TokP.core)) ∧ ∀ t ∈ L, t.p = 0
theorem core_plain (l : List Tok) : (l.map plainP).map TokP.core = l := by rw [List.map_map]; exact List.map_id'' (fun _ => rfl) _
theorem resOk_tab {T : List (List ByteArray)} (h : tabB T = true) : ResOk ((tabToks T).map plainP) := by
  unfold ResOk
  rw [core_plain, rowsOf_tab]
  exact ⟨h, rfl, fun t ht => by obtain ⟨x, _, rfl⟩ := List.mem_map.1 ht; rfl⟩

/-! Rows whose last one is at work. -/
/-- Owned slices of strings, all in blocks below a bound. -/
def OwnLsU (w : World) (U : Nat) : Nat → List Value → List (List ByteArray) → Prop
  | B, [], [] => B ≤ U
  | B, v :: vs, F :: T => ∃ U', B ≤ U' ∧ w.ownsRow B 9 1 v F.length (F.map strV) ∧ (∀ q, v.ownBlock = some q → q < U') ∧ OwnLsU w U U' vs T
  | _, _, _ => False
theorem OwnLsU.le {w : World} {U : Nat} : ∀ (vs : List Value) (T : List (List ByteArray)) (B : Nat), OwnLsU w U B vs T → B ≤ U := by
  intro vs
  induction vs with
  | nil => intro T B h; cases T with
    | nil => exact h
    | cons F T => exact h.elim
  | cons v vs ih => intro T B h; cases T with
    | nil => exact h.elim
    | cons F T => obtain ⟨U', h1, _, _, h2⟩ := h; have := ih T U' h2; omega
theorem OwnLs.unsnoc {w : World} {v : Value} {F : List ByteArray} : ∀ (vs : List Value) (T : List (List ByteArray)) (B : Nat), B ≤ w.heap.size → OwnLs w B (vs ++ [v]) (T ++ [F]) → ∃ U, U ≤ w.heap.size ∧ OwnLsU w U B vs T ∧ w.ownsRow U 9 1 v F.length (F.map strV) := by
  intro vs
  induction vs with
  | nil => intro T B hB h; cases T with
    | nil => obtain ⟨_, _, h1, _⟩ := h; exact ⟨B, hB, Nat.le_refl B, h1⟩
    | cons G T =>
      obtain ⟨_, _, _, _, h1⟩ := h
      have := OwnLs.len _ _ _ h1
      simp at this
  | cons u vs ih => intro T B hB h; cases T with
    | nil =>
      obtain ⟨_, _, _, _, h1⟩ := h
      have := OwnLs.len _ _ _ h1
      simp at this
    | cons G T =>
      obtain ⟨U', h0, h1, h2, h3⟩ := h
      by_cases hU : U' ≤ w.heap.size
      · obtain ⟨U, h4, h5, h6⟩ := ih T U' hU h3
        exact ⟨U, h4, ⟨U', h0, h1, h2, h5⟩, h6⟩
      · obtain ⟨U, h4, h5, h6⟩ := ih T w.heap.size (Nat.le_refl _) (OwnLs.mono _ _ U' _ (by omega) h3)
        exact ⟨U, h4, ⟨w.heap.size, hB, h1, fun q hq => (ownN_ge h1 q hq).2, h5⟩, h6⟩
theorem OwnLsU.snoc {w : World} {U : Nat} {v : Value} {F : List ByteArray} (hv : w.ownsRow U 9 1 v F.length (F.map strV)) : ∀ (vs : List Value) (T : List (List ByteArray)) (B : Nat), OwnLsU w U B vs T → OwnLs w B (vs ++ [v]) (T ++ [F]) := by
  intro vs
  induction vs with
  | nil => intro T B h; cases T with
    | nil =>
      have h : B ≤ U := h
      refine ⟨max U w.heap.size, by omega, ownN_mono hv h, fun q hq => by have := (ownN_ge hv q hq).2; omega, True.intro⟩
    | cons G T => exact h.elim
  | cons u vs ih => intro T B h; cases T with
    | nil => exact h.elim
    | cons G T =>
      obtain ⟨U', h0, h1, h2, h3⟩ := h
      exact ⟨U', h0, h1, h2, ih T U' h3⟩
theorem OwnLsU.keep {w w' : World} {U : Nat} (hk : ∀ B v F, (∀ q, v.ownBlock = some q → q < U) → w.ownsRow B 9 1 v (List.length F) (F.map strV) → w'.ownsRow B 9 1 v F.length (F.map strV)) : ∀ (vs : List Value) (T : List (List ByteArray)) (B : Nat), OwnLsU w U B vs T → OwnLsU w' U B vs T := by
  intro vs
  induction vs with
  | nil => intro T B h; cases T with
    | nil => exact h
    | cons F T => exact h.elim
  | cons v vs ih => intro T B h; cases T with
    | nil => exact h.elim
    | cons F T =>
      obtain ⟨U', h0, h1, h2, h3⟩ := h
      have hle := OwnLsU.le _ _ _ h3
      exact ⟨U', h0, hk _ _ _ (fun q hq => by have := h2 q hq; omega) h1, h2, ih T U' h3⟩
/-- Another row at the end of the rows, or other cells in it. -/
theorem OwnLs.turn {w w' : World} {v v' : Value} {F F' : List ByteArray} {B : Nat} {row : Option Nat} {vs : List Value} {T : List (List ByteArray)} (hB : B ≤ w.heap.size) (h : OwnLs w B (vs ++ [v]) (T ++ [F])) (hg : w.grownBy w' row) (hr : row = v.ownBlock)
    (hv : ∀ U, w.ownsRow U 9 1 v F.length (F.map strV) → U ≤ w.heap.size → w'.ownsRow U 9 1 v' F'.length (F'.map strV)) : OwnLs w' B (vs ++ [v']) (T ++ [F']) := by
  obtain ⟨U, hU, h1, h2⟩ := OwnLs.unsnoc vs T B hB h
  refine OwnLsU.snoc (hv U h2 hU) vs T B (OwnLsU.keep (fun B' v1 F1 hq h3 => ownN_other h3 hg (fun q hq1 e => ?_)) vs T B h1)
  rw [hr] at e
  have := hq q hq1
  have := (ownN_ge h2 q e).1
  omega
end Go.Proofs.Ytdoomfckdjjlaaa

/- Owned rows of slices of strings; spec.l1OwnRowsString. -/
import Derived.Test.YtdoomfckdjjlaaaDoorTok
namespace Go.Proofs.YtdoomfckdjjlaaaDoor
open Go.RowKit

/-- The values of an owned row are owned slices of these strings, each behind those of the one before. -/
def OwnLs (w : World) : Nat → List Value → List (List ByteArray) → Prop
  | _, [], [] => True
  | B, v :: vs, F :: T => ∃ U, B ≤ U ∧ w.ownsRow B 9 1 v F.length (F.map strV) ∧ (∀ q, v.ownBlock = some q → q < U) ∧ OwnLs w U vs T
  | _, _, _ => False
theorem OwnLs.len {w : World} : ∀ (vs : List Value) (T : List (List ByteArray)) (B : Nat), OwnLs w B vs T → vs.length = T.length := by
  intro vs
  induction vs with
  | nil => intro T B h; cases T with
    | nil => rfl
    | cons F T => exact h.elim
  | cons v vs ih => intro T B h; cases T with
    | nil => exact h.elim
    | cons F T => obtain ⟨U, _, _, _, h⟩ := h; simp [ih T U h]
theorem OwnLs.map {w w' : World} (hk : ∀ B v F, w.ownsRow B 9 1 v (List.length F) (F.map strV) → w'.ownsRow B 9 1 v F.length (F.map strV)) : ∀ (vs : List Value) (T : List (List ByteArray)) (B : Nat), OwnLs w B vs T → OwnLs w' B vs T := by
  intro vs
  induction vs with
  | nil => intro T B h; cases T with
    | nil => exact True.intro
    | cons F T => exact h
  | cons v vs ih => intro T B h; cases T with
    | nil => exact h
    | cons F T =>
      obtain ⟨U, h0, h1, h2, h3⟩ := h
      exact ⟨U, h0, hk _ _ _ h1, h2, ih T U h3⟩
theorem OwnLs.mono {w : World} : ∀ (vs : List Value) (T : List (List ByteArray)) (B B' : Nat), B' ≤ B → OwnLs w B vs T → OwnLs w B' vs T := by
  intro vs
  cases vs with
  | nil => intro T B B' _ h; cases T with
    | nil => exact True.intro
    | cons F T => exact h
  | cons v vs => intro T B B' hB h; cases T with
    | nil => exact h
    | cons F T =>
      obtain ⟨U, h0, h1, h2, h3⟩ := h
      exact ⟨U, by omega, ownN_mono h1 hB, h2, h3⟩
theorem OwnLs.snoc {w w' : World} {v : Value} {F : List ByteArray} (hk : ∀ B v F, w.ownsRow B 9 1 v (List.length F) (F.map strV) → w'.ownsRow B 9 1 v F.length (F.map strV)) (hw : w.heap.size ≤ w'.heap.size) (hv : w'.ownsRow w.heap.size 9 1 v F.length (F.map strV)) : ∀ (vs : List Value) (T : List (List ByteArray)) (B : Nat), B ≤ w.heap.size → OwnLs w B vs T → OwnLs w' B (vs ++ [v]) (T ++ [F]) := by
  intro vs
  induction vs with
  | nil => intro T B hB h; cases T with
    | nil => exact ⟨w'.heap.size, by omega, ownN_mono hv hB, fun q hq => (ownN_ge hv q hq).2, True.intro⟩
    | cons F' T => exact h.elim
  | cons u vs ih => intro T B hB h; cases T with
    | nil => exact h.elim
    | cons F' T =>
      obtain ⟨U, h0, h1, h2, h3⟩ := h
      by_cases hU : U ≤ w.heap.size
      · exact ⟨U, h0, hk _ _ _ h1, h2, ih T U hU h3⟩
      · refine ⟨w.heap.size, hB, hk _ _ _ h1, fun q hq => (ownN_ge h1 q hq).2, ih T _ (Nat.le_refl _) (OwnLs.mono vs T U _ (by omega) h3)⟩
theorem OwnLs.get {w : World} : ∀ (vs : List Value) (T : List (List ByteArray)) (B : Nat), OwnLs w B vs T → ∀ i (h : i < T.length) (h' : i < vs.length), w.ownsRow B 9 1 vs[i] T[i].length (T[i].map strV) := by
  intro vs
  induction vs with
  | nil => intro T B h i _ h'; simp at h'
  | cons v vs ih => intro T B h; cases T with
    | nil => exact h.elim
    | cons F T =>
      obtain ⟨U, h0, h1, h2, h3⟩ := h
      intro i hi hi'
      rcases i with _ | i
      · exact h1
      · exact ownN_mono (ih T U h3 i (by simpa using hi) (by simpa using hi')) h0
theorem OwnLs.one {w : World} : ∀ (vs : List Value) (T : List (List ByteArray)) (B : Nat), OwnLs w B vs T → ∀ u ∈ vs, u.oneCell' = true := by
  intro vs
  induction vs with
  | nil => intro T B _ u hu; cases hu
  | cons v vs ih => intro T B h; cases T with
    | nil => exact h.elim
    | cons F T =>
      obtain ⟨U, h0, h1, h2, h3⟩ := h
      intro u hu
      rcases List.mem_cons.1 hu with rfl | hu
      · obtain ⟨a, c, rfl, _⟩ := ownN_formn h1
        rfl
      · exact ih T U h3 u hu
theorem tabs_own {w : World} {B B' n : Nat} {v : Value} {vs : List Value} {T : List (List ByteArray)} (ho : w.ownsRow B' 27 1 v n vs) (hl : OwnLs w B vs T) (hn : T.length = n) : ∃ a c, v = .slice a n c ∧ n ≤ c ∧ c ≤ 9223372036854775807 ∧ TabsAt w B a T := by
  obtain ⟨a, c, rfl, hr, hc, hc', _, _⟩ := ownN_formn ho
  refine ⟨a, c, rfl, hc, hc', fun i hi => ?_⟩
  have hll := OwnLs.len vs T B hl
  have hil : i < vs.length := by omega
  obtain ⟨b, off, h1, h2, h3⟩ := hr i hil
  exact ⟨b, off, vs[i], h1, h2, h3, SlS.of_own (OwnLs.get vs T B hl i hi hil) rfl⟩
theorem info_row : (Tryd.prog.info? 27).map (fun i => (i.zero, i.size, i.bytes)) = some (some (.slice none 0 0), 1, 24) := by kernel_rfl
/-- A block of slices is none of strings. -/
theorem strs_keep {w w' : World} {B' n : Nat} {vo : Value} {L : List Value} (ho : w.ownsRow B' 27 1 vo n L) (hg : w.grownBy w' vo.ownBlock) : ∀ B v F, w.ownsRow B 9 1 v (List.length F) (F.map strV) → w'.ownsRow B 9 1 v F.length (F.map strV) := fun B v F h =>
  ownN_other h hg (fun _ hj e => ownN_types_ne h ho (by decide) _ hj e)
theorem strs_below {w w' : World} (hb : Below w.heap.size w w') : ∀ B v F, w.ownsRow B 9 1 v (List.length F) (F.map strV) → w'.ownsRow B 9 1 v F.length (F.map strV) := fun _ _ _ h => ownN_below h hb

end Go.Proofs.YtdoomfckdjjlaaaDoor

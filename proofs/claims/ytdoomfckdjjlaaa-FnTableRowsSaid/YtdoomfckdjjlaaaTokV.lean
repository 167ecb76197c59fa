/- impl.TokensValid on tokens as tables have them. -/
import Derived.Test.YtdoomfckdjjlaaaTokC
import Derived.Test.YtdoomfckdjjlaaaHost
namespace Go.Proofs.Ytdoomfckdjjlaaa
open Go.RowKit

/-- A token of a table. -/
def GoodTok (t : Tok) : Prop := (t.K = 1 ∧ t.N = ⟨#[]⟩ ∧ t.V ≠ ⟨#[]⟩ ∧ textB (bl t.V) = true) ∨ ((t.K = 2 ∨ t.K = 3) ∧ (t.N = tableS ∨ t.N = trS ∨ t.N = tdS) ∧ t.V = ⟨#[]⟩)
def GoodToks (T : List Tok) : Prop := (∀ t ∈ T, GoodTok t) ∧ ∀ i (h : i + 1 < T.length), T[i].K = 1 → T[i + 1].K ≠ 1
theorem name_facts {N : ByteArray} (h : N = tableS ∨ N = trS ∨ N = tdS) : nameB (bl N) = true ∧ (N.toList == [115, 99, 114, 105, 112, 116]) = false ∧ N.toList.isEmpty = false ∧ N.size ≤ 10 := by
  rcases h with rfl | rfl | rfl <;> refine ⟨by rfl, by rw [ByteArray.toList_eq]; rfl, by rw [ByteArray.toList_eq]; rfl, by decide⟩
theorem text_empty : textB (bl ⟨#[]⟩) = true := by rfl
theorem good_app {A B : List Tok} (h1 : ∀ t ∈ A, GoodTok t) (h2 : ∀ t ∈ B, GoodTok t) : ∀ t ∈ A ++ B, GoodTok t := fun t ht => by
  rcases List.mem_append.1 ht with h | h
  · exact h1 t h
  · exact h2 t h
theorem good_open (k : Nat) (n : ByteArray) (hk : k = 2 ∨ k = 3) (hn : n = tableS ∨ n = trS ∨ n = tdS) : ∀ t ∈ [(⟨k, n, ⟨#[]⟩⟩ : Tok)], GoodTok t := fun t ht => by
  simp only [List.mem_cons, List.not_mem_nil, or_false] at ht
  subst ht
  exact .inr ⟨hk, hn, rfl⟩
theorem good_cell {s : ByteArray} (h : cellB s = true) : ∀ t ∈ cellToks s, GoodTok t := by
  unfold cellToks
  refine good_app (good_app (good_open _ _ (.inl rfl) (.inr (.inr rfl))) ?_) (good_open _ _ (.inr rfl) (.inr (.inr rfl)))
  split
  · intro t ht; cases ht
  · rename_i hne
    intro t ht
    simp only [List.mem_cons, List.not_mem_nil, or_false] at ht
    subst ht
    unfold cellB at h
    rw [Bool.and_eq_true] at h
    exact .inl ⟨rfl, rfl, hne, h.1⟩
theorem good_row {r : List ByteArray} (h : rowB r = true) : ∀ t ∈ rowToks r, GoodTok t := by
  unfold rowToks
  refine good_app (good_app (good_open _ _ (.inl rfl) (.inr (.inl rfl))) ?_) (good_open _ _ (.inr rfl) (.inr (.inl rfl)))
  intro t ht
  obtain ⟨s, hs, hts⟩ := List.mem_flatMap.1 ht
  unfold rowB at h
  rw [Bool.and_eq_true] at h
  exact good_cell (List.all_eq_true.1 h.2 s hs) t hts
theorem good_tab {T : List (List ByteArray)} (h : tabB T = true) : ∀ t ∈ tabToks T, GoodTok t := by
  unfold tabToks
  refine good_app (good_app (good_open _ _ (.inl rfl) (.inl rfl)) ?_) (good_open _ _ (.inr rfl) (.inl rfl))
  intro t ht
  obtain ⟨s, hs, hts⟩ := List.mem_flatMap.1 ht
  unfold tabB at h
  rw [Bool.and_eq_true, Bool.and_eq_true] at h
  exact good_row (List.all_eq_true.1 h.1.2 s hs) t hts
end Go.Proofs.Ytdoomfckdjjlaaa

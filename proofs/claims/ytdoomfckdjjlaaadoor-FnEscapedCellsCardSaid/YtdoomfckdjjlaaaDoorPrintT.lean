/- The reference's TokensValid and PrintTokens on tokens as tables have them. -/
import Derived.Test.YtdoomfckdjjlaaaDoorPrintS
namespace Go.Proofs.YtdoomfckdjjlaaaDoor
open Go.RowKit

/-- The facts on the token before place k. -/
def BefF (T : List Tok) (k pK : Nat) (pN : ByteArray) : Prop := ((pK : Int) != 5) = true ∧ (((pK : Int) == 2) = true ∧ (pN.toList == [115, 99, 114, 105, 112, 116]) = false ∨ ((pK : Int) == 2) = false) ∧ (∀ h : k < T.length, T[k].K = 1 → ((pK : Int) != 1) = true)
theorem BefF.at {T : List Tok} {k pK : Nat} {pN : ByteArray} (h : BefF T k pK pN) (hk : k < T.length) : PrevF T[k].K pK pN := ⟨h.1, h.2.1, h.2.2 hk⟩
theorem BefF.next {T : List Tok} {k : Nat} (hg : GoodToks T) (hk : k < T.length) : BefF T (k + 1) T[k].K T[k].N := by
  obtain ⟨hF, _, _⟩ := tokF_of (hg.1 _ (List.getElem_mem hk))
  have hA := hg.2 k
  refine ⟨?_, ?_, fun h h1 => ?_⟩
  · unfold TokF at hF
    rcases hF with ⟨h, _⟩ | ⟨h, _⟩ | ⟨h, _⟩ <;> rw [h] <;> rfl
  · unfold TokF at hF
    rcases hF with ⟨h, _⟩ | ⟨h, _, h2, _⟩ | ⟨h, _⟩
    · exact .inr (by rw [h]; rfl)
    · exact .inl ⟨by rw [h]; rfl, h2⟩
    · exact .inr (by rw [h]; rfl)
  · have : T[k].K ≠ 1 := fun h2 => hA h h2 h1
    simp
    omega
theorem frozen_row {w : World} {b i : Nat} {C : Array Value} {t : TypeId} (h : w.heap[b]? = some (.cells C t (0, 0))) : w.frozen? ⟨b, i, none⟩ = false := by simp [World.frozen?, h]
/-- The markup of a table's tokens has no bad byte. -/
theorem esc_ok {l : List UInt8} (h : l.all okC = true) : (escR l).all okC = true := by
  rw [List.all_eq_true] at h ⊢
  intro x hx
  obtain ⟨b, hb, hxb⟩ := List.mem_flatMap.1 hx
  rcases ent_cases b with (rfl | rfl | rfl | rfl | rfl) | ⟨he, _⟩
  · exact (by decide : ∀ y ∈ escB 38, okC y = true) x hxb
  · exact (by decide : ∀ y ∈ escB 60, okC y = true) x hxb
  · exact (by decide : ∀ y ∈ escB 62, okC y = true) x hxb
  · exact (by decide : ∀ y ∈ escB 34, okC y = true) x hxb
  · exact (by decide : ∀ y ∈ escB 39, okC y = true) x hxb
  · unfold escB at hxb
    rw [if_pos he, List.mem_singleton] at hxb
    subst hxb
    exact h _ hb
theorem name_ok {N : ByteArray} (h : N = tableS ∨ N = trS ∨ N = tdS) : (bl N).all okC = true := by
  rcases h with rfl | rfl | rfl <;> rfl
theorem printT_ok {t : Tok} (h : GoodTok t) : (printT t).all okC = true := by
  rcases h with ⟨h1, _, _, h4⟩ | ⟨h1 | h1, h2, _⟩
  · unfold textB at h4
    rw [Bool.and_eq_true] at h4
    unfold printT
    rw [if_pos h1]
    exact esc_ok h4.2
  · unfold printT
    rw [if_neg (by omega), if_pos h1, List.all_append, List.all_append, name_ok h2]
    rfl
  · unfold printT
    rw [if_neg (by omega), if_neg (by omega), List.all_append, List.all_append, name_ok h2]
    rfl
theorem printR_ok {T : List Tok} (h : ∀ t ∈ T, GoodTok t) : (printR T).all okC = true := by
  rw [List.all_eq_true]
  intro x hx
  obtain ⟨t, ht, hxt⟩ := List.mem_flatMap.1 hx
  have := printT_ok (h t ht)
  rw [List.all_eq_true] at this
  exact this x hxt
theorem printA_yes {T : List Tok} (h : ∀ t ∈ T, GoodTok t) (hl : (printR T).length ≤ 600) : printA T = (mkS (printR T), true) := by
  unfold printA
  rw [if_pos]
  unfold textB
  rw [printR_ok h, decide_eq_true hl]
  rfl
theorem printA_no {T : List Tok} {k : Nat} (hl : 600 < (printR (T.take k)).length) : printA T = (⟨#[]⟩, false) := by
  have h1 : (printR (T.take k)).length ≤ (printR T).length := by
    conv => rhs; rw [← List.take_append_drop k T]
    unfold printR
    rw [List.flatMap_append, List.length_append]
    omega
  unfold printA
  rw [if_neg]
  unfold textB
  rw [decide_eq_false (by omega)]
  simp
end Go.Proofs.YtdoomfckdjjlaaaDoor

/- The walk of the law FnOrderText. -/
import Derived.Test.YtdiaonhmhmdplaaDoorOrder
import Derived.Test.YtdiaonhmhmdplaaDoorOrdP
import Derived.Test.YtdiaonhmhmdplaaDoorWord1
import Derived.Test.YtdiaonhmhmdplaaDoorDrawS
import Derived.Test.YtdiaonhmhmdplaaDoorAlive
import Derived.Laws.OwnMore
namespace Go.Proofs.YtdiaonhmhmdplaaDoor
open Go.RowKit

theorem made_strs (n : Nat) : (madeCells (Value.string ⟨#[]⟩).cells (n * 1)).toList = (List.replicate n (⟨#[]⟩ : ByteArray)).map strV := by
  rw [Nat.mul_one, List.map_replicate]
  exact toList_madeCells_one _ n
def DrawTexts (w : World) (m k : Nat) (e : Ending) (w' : World) : Prop :=
  ∃ (v : Value) (T : List ByteArray), e = .returned v ∧ T.length ≤ m ∧ (∀ s ∈ T, s.size ≤ k) ∧ w'.ownsRow w.heap.size 9 1 v T.length (T.map strV) ∧ Below w.heap.size w w'

theorem empty_no {s : ByteArray} (h : ¬ s = ⟨#[]⟩) : s.toList.isEmpty = false := by
  rw [ByteArray.toList_eq]
  rcases hb : s.data.toList.isEmpty with _ | _
  · rfl
  · rw [List.isEmpty_iff] at hb
    exact absurd (bl_inj (a := s) (b := ⟨#[]⟩) hb) h
theorem ord_back {T : List ByteArray} (h : ¬ ordR T = ⟨#[]⟩) : splitR (bl (ordR T)) = (T, true) := by
  unfold ordR at h ⊢
  split at h
  · rename_i hc
    rw [if_pos hc, joinS, bl_mkS]
    have e : (qwS T).map bl = (T.map bl).map qwR := by
      rw [qwS, List.map_map, List.map_map]
      apply List.map_congr_left
      intro t _
      exact bl_mkS _
    rw [e]
    obtain ⟨d', c, h1, h2⟩ := order_split (T.map bl) [] (by intro e; have := congrArg List.length e; simp at this; rw [this] at hc; exact absurd hc.1 (by simp)) (by
      have := hc.2.2
      rw [okT, List.all_eq_true] at this
      rw [List.all_eq_true]
      intro x hx
      obtain ⟨t, ht, rfl⟩ := List.mem_map.1 hx
      exact this t ht)
    rw [List.nil_append] at h2
    rw [splitR_yes h1 (by
      show ¬ ((0 : UInt8) ≠ 0 ∨ 8 < (d' ++ [c]).length)
      rw [h2, List.length_map]
      rintro (h | h)
      · exact h rfl
      · omega)]
    show ((d' ++ [c]).map mkS, true) = _
    rw [h2, List.map_map]
    congr 1
    conv => rhs; rw [← List.map_id T]
    exact List.map_congr_left fun t _ => mkS_bl t
  · exact absurd rfl h

end Go.Proofs.YtdiaonhmhmdplaaDoor

/- The library's variable MaxLen holds an int: carried over what a call leaves; strings.ReplaceAll at an old text of one byte; texts cut at a byte. -/
import Derived.Test.YtmiemnhbkcmanaaDoorHas
import Derived.Test.YtmiemnhbkcmanaaDoorShelf
import Derived.Shelf.Vars
import Derived.Lib.SplitLaws
import Derived.Lib.Replace
namespace Go.Proofs.YtmiemnhbkcmanaaDoor
open Go.RowKit

def MaxOk (w : World) : Prop := ∃ m : Int, w.cell? ⟨0, 0, none⟩ = some (.int .i64 m)
theorem MaxOk.lt {w : World} (h : MaxOk w) : 0 < w.heap.size := by
  obtain ⟨m, h⟩ := h
  exact World.block_lt_of_cell? w _ h
theorem MaxOk.below {w w' : World} (h : MaxOk w) (hb : Below w.heap.size w w') : MaxOk w' := by
  have hl := h.lt
  obtain ⟨m, h⟩ := h
  exact ⟨m, (hb.cell (p := ⟨0, 0, none⟩) hl).trans h⟩
theorem MaxOk.of_shaped {w : World} (h : w.ShapedOpen Tryd.prog) : MaxOk w :=
  cell_of_shapedOpen_int (P := Tryd.prog) (g := 0) (t := 3) (zero := #[.int .i64 0]) h (of_decide_eq_true (by kernel_rfl)) (by kernel_rfl) rfl (by kernel_rfl) (by kernel_rfl) Tryd.underlying3

theorem rep_one (c : UInt8) (new : List UInt8) : ∀ s : List UInt8, Lib.replaceK [c] new (Lib.count s [c]) s = s.flatMap (fun x => if x = c then new else [x]) := by
  intro s
  induction s with
  | nil => rw [Lib.count_miss (by simp [Lib.index])]; rfl
  | cons b l ih =>
    by_cases h : b = c
    · subst h
      have hix : Lib.index (b :: l) [b] = ((0 : Nat) : Int) := by rw [Lib.index]; simp [List.isPrefixOf]
      rw [Lib.count_cons_eq, Nat.add_comm, Lib.replaceK_hit _ _ _ _ 0 hix]
      simp [ih]
    · rw [Lib.count_cons_ne b c l h]
      rcases hk : Lib.count l [c] with _ | k
      · rw [hk] at ih
        simp only [Lib.replaceK] at ih ⊢
        rw [List.flatMap_cons, if_neg h, ← ih]; rfl
      · obtain ⟨i, hi⟩ := Lib.index_of_count (s := l) (old := [c]) (by omega)
        have hp : ([c] : List UInt8).isPrefixOf (b :: l) = false := by simp [List.isPrefixOf, Ne.symm h]
        have hix : Lib.index (b :: l) [c] = ((i + 1 : Nat) : Int) := by
          rw [Lib.index, hp, hi]
          have : ((i : Int) == -1) = false := by rw [beq_eq_false_iff_ne]; omega
          simp [this]
        rw [hk, Lib.replaceK_hit _ _ _ _ i hi] at ih
        rw [Lib.replaceK_hit _ _ _ _ (i + 1) hix, List.flatMap_cons, if_neg h, ← ih]
        simp
theorem replaceAll_one (c : UInt8) (new s : List UInt8) (h : new ≠ [c]) : Lib.replaceAll s [c] new = s.flatMap (fun x => if x = c then new else [x]) := by
  have h' : ([c] == new) = false := by rw [beq_eq_false_iff_ne]; exact Ne.symm h
  rw [Lib.replaceAll, Lib.replace, h', if_neg (by simp), Lib.replaceNum, if_pos (.inl (by omega)), rep_one]
theorem countB_le1 (s : ByteArray) (c : UInt8) : Lib.countB s ⟨#[c]⟩ ≤ s.size := Lib.countB_le ⟨#[c]⟩ (Nat.le_refl 1) _ s (Nat.le_refl _)

/-- A text cut at every byte c. -/
def cutAt (c : UInt8) : List UInt8 → List (List UInt8)
  | [] => [[]]
  | b :: l => if b = c then [] :: cutAt c l else (b :: (cutAt c l).headD []) :: (cutAt c l).tail
theorem cutAt_ne (c : UInt8) (l : List UInt8) : cutAt c l ≠ [] := by
  cases l with
  | nil => simp [cutAt]
  | cons b l => unfold cutAt; split <;> simp
theorem split_one (c : UInt8) : ∀ s : List UInt8, Lib.splitK [c] 0 (Lib.count s [c]) s = cutAt c s := by
  intro s
  induction s with
  | nil => rw [Lib.count_miss (by simp [Lib.index])]; rfl
  | cons b l ih =>
    by_cases h : b = c
    · subst h
      have hix : Lib.index (b :: l) [b] = 0 := by rw [Lib.index]; simp [List.isPrefixOf]
      rw [Lib.count_cons_eq, Nat.add_comm, Lib.splitK, hix]
      simp [cutAt, ih]
    · rw [Lib.count_cons_ne b c l h, cutAt, if_neg h, ← ih]
      rcases hk : Lib.count l [c] with _ | k
      · rfl
      · obtain ⟨i, hi⟩ := Lib.index_of_count (s := l) (old := [c]) (by omega)
        have hp : ([c] : List UInt8).isPrefixOf (b :: l) = false := by simp [List.isPrefixOf, Ne.symm h]
        have e1 : ((i : Int) == -1) = false := by rw [beq_eq_false_iff_ne]; omega
        have hix : Lib.index (b :: l) [c] = ((i + 1 : Nat) : Int) := by
          rw [Lib.index, hp, hi]
          simp [e1]
        have e2 : (((i + 1 : Nat) : Int) == -1) = false := by rw [beq_eq_false_iff_ne]; omega
        rw [Lib.splitK, Lib.splitK, hix, hi, e1, e2]
        simp
end Go.Proofs.YtmiemnhbkcmanaaDoor

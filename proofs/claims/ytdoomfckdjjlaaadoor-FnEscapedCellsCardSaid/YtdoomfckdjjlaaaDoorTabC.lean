/- Tables copied, compared with themselves, and written over with marks. -/
import Derived.Test.YtdoomfckdjjlaaaDoorOwnRows
import Derived.Deep.RegionHeld3
namespace Go.Proofs.YtdoomfckdjjlaaaDoor
open Go.RowKit

theorem drop_set (vs Z : List Value) (j : Nat) (x : Value) (h : vs.length = j) (hj : j < Z.length) : (vs ++ Z.drop j).set j x = (vs ++ [x]) ++ Z.drop (j + 1) := by
  subst h
  rw [List.set_append_right _ _ (Nat.le_refl _), Nat.sub_self, List.drop_eq_getElem_cons hj, List.set_cons_zero, List.append_assoc]
  rfl
/-- How many strings a table has, up to a row. -/
def cAt (k : Nat) (T : List (List ByteArray)) (i : Nat) : Nat := k + ((T.take i).map List.length).sum
theorem cAt_succ {k : Nat} {T : List (List ByteArray)} {i : Nat} (h : i < T.length) : cAt k T (i + 1) = cAt k T i + T[i].length := by
  unfold cAt
  rw [List.take_succ_eq_append_getElem h, List.map_append, List.sum_append]
  simp
  omega
theorem OwnLs.keepU {w w' : World} : ∀ (vs : List Value) (T : List (List ByteArray)) (U : Nat), OwnLs w U vs T → KeepFrom U w w' → OwnLs w' U vs T := by
  intro vs
  induction vs with
  | nil => intro T U h _; cases T with
    | nil => exact True.intro
    | cons F T => exact h
  | cons v vs ih => intro T U h hk; cases T with
    | nil => exact h
    | cons F T =>
      obtain ⟨V, h0, h1, h2, h3⟩ := h
      refine ⟨V, h0, ?_, h2, ih T V h3 (fun b o hb hc => hk b o (by omega) hc)⟩
      obtain ⟨hl, hh⟩ := h1
      refine ⟨hl, ?_⟩
      rcases hh with hh | ⟨g, cap, cur, hv, hg, hq, rest⟩
      · exact .inl hh
      · exact .inr ⟨g, cap, cur, hv, hg, hk g _ hg hq, rest⟩
theorem cAt_zero (k : Nat) (T : List (List ByteArray)) : cAt k T 0 = k := by simp [cAt]
/-- Rows of tokens stay. -/
def KeepTok (w w' : World) : Prop := ∀ (B n : Nat) (v : Value) (l : List Value), w.ownsRow B 45 4 v n l → w'.ownsRow B 45 4 v n l
end Go.Proofs.YtdoomfckdjjlaaaDoor

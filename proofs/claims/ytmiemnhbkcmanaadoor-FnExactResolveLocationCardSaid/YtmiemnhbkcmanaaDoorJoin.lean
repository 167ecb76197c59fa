/- strings.Join over an owned row of strings. -/
import Derived.Test.YtmiemnhbkcmanaaDoorStrs
import Derived.Test.YtmiemnhbkcmanaaDoorShelf
namespace Go.Proofs.YtmiemnhbkcmanaaDoor
open Go.RowKit

theorem join_snoc (L : List (List UInt8)) (x sep : List UInt8) (h : L ≠ []) : Lib.join (L ++ [x]) sep = Lib.join L sep ++ sep ++ x := by
  obtain ⟨a, r, rfl⟩ : ∃ a r, L = a :: r := by
    cases L with
    | nil => exact absurd rfl h
    | cons a r => exact ⟨a, r, rfl⟩
  rw [List.cons_append, Lib.join_cons, Lib.join_cons, Lib.joinTail, Lib.joinTail, List.map_append, List.flatten_append]
  simp
/-- Texts of bounded length, joined. -/
theorem join_le (m : Nat) (sep : List UInt8) : ∀ L : List (List UInt8), (∀ x ∈ L, x.length ≤ m) → (Lib.join L sep).length ≤ L.length * (m + sep.length) := by
  intro L
  induction L with
  | nil => intro _; rw [Lib.join_nil]; exact Nat.zero_le _
  | cons a r ih =>
    intro h
    have ha := h a (List.mem_cons_self ..)
    have hr := ih (fun x hx => h x (List.mem_cons_of_mem _ hx))
    rcases r with _ | ⟨b, r⟩
    · rw [Lib.join_one]; simp only [List.length_cons, List.length_nil]; omega
    · have e : Lib.join (a :: b :: r) sep = a ++ sep ++ Lib.join (b :: r) sep := by
        rw [Lib.join_cons, Lib.join_cons, Lib.joinTail, List.map_cons, List.flatten_cons, Lib.joinTail]
        simp
      rw [e, List.length_append, List.length_append, List.length_cons, Nat.add_mul]
      omega
theorem bl_def (l : List ByteArray) : l.map (·.data.toList) = l.map bl := rfl
/-- The joined texts. -/
def joinS (l : List ByteArray) (sep : List UInt8) : ByteArray := mkS (Lib.join (l.map bl) sep)
theorem join_any (v : Value) (B n : Nat) (l : List ByteArray) (sep : ByteArray) (w : World) (h : w.ownsRow B 9 1 v n (l.map strV)) (hn : n ≤ 1000000) (hlen : (Lib.join (l.map bl) (bl sep)).length ≤ 140737488355328) :
    Calls Tryd.prog 50 #[v, .string sep] w fun e w' => e = .returned (.string (joinS l (bl sep))) ∧ Below w.heap.size w w' := by
  have hl := own_len h
  rw [List.length_map] at hl
  subst hl
  rcases l with _ | ⟨x, r⟩
  · obtain ⟨a, c, rfl, _⟩ := own_formn h
    refine (Tryd.strings_Join_none a c sep w).mono ?_
    rintro e w' ⟨rfl, rfl⟩
    exact ⟨rfl, Below.refl _ _⟩
  · obtain ⟨g, c, rfl, hB, hlt, hc, _, hcell⟩ := own_at h (by simp)
    refine (Tryd.strings_Join g 0 c (x :: r) sep w (fun j y hy => ?_) hlt (by omega) hc hlen).mono ?_
    · rw [Nat.zero_add]
      exact hcell j _ (by rw [List.getElem?_map, hy]; rfl)
    · rintro e w' ⟨rfl, hb⟩
      exact ⟨rfl, hb⟩
end Go.Proofs.YtmiemnhbkcmanaaDoor

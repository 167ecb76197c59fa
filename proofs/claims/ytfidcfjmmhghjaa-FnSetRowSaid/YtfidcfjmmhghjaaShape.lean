/- ShapeValid, of the program and of the reference; the law that asks for the same answers. -/
import Derived.Test.YtfidcfjmmhghjaaBase
namespace Go.Proofs.Ytfidcfjmmhghjaa
open Go.RowKit

def shB (W F : Int) : Bool := decide (0 ≤ W ∧ W ≤ 40 ∧ 32 ≤ F ∧ F ≤ 126)
theorem shB_eq (W F : Int) : shB W F = (decide (0 ≤ W) && (decide (W ≤ 40) && (decide (32 ≤ F) && decide (F ≤ 126)))) := by
  rw [shB, Bool.eq_iff_iff]
  simp only [Bool.and_eq_true, decide_eq_true_iff]
theorem new_kept {w w2 : World} {C : Array Value} {t : TypeId} (h : Below (w.alloc (.cells C t (0, 0))).heap.size (w.alloc (.cells C t (0, 0))) w2) (i : Nat) : w2.cell? ⟨w.heap.size, i, none⟩ = C[i]? :=
  (h.cell (p := ⟨w.heap.size, i, none⟩) (by show w.heap.size < _; rw [World.size_alloc]; omega)).trans (World.cell?_alloc_mark _ _ _ _ _)
theorem new_below {w w2 : World} {o : Obj} (h : Below (w.alloc o).heap.size (w.alloc o) w2) : Below w.heap.size w w2 :=
  ((Below.refl w.heap.size w).alloc (Nat.le_refl _) o).trans (h.mono (by rw [World.size_alloc]; omega))
def shapeV (W F : Int) (L : Bool) : Value := .agg #[.int .i64 W, .int .u8 F, .bool L]
theorem ret_bool' {a b : Bool} (h : a = b) : Ending.returned (.bool a) = .returned (.bool b) := by rw [h]

theorem spec_l1In (n lo hi : Int) (w : World) : Calls Try.prog 25 #[.int .i64 n, .int .i64 lo, .int .i64 hi] w fun e w' => e = .returned (.bool (decide (lo ≤ n ∧ n ≤ hi))) ∧ w = w' := by
  by_cases h1 : lo ≤ n <;> by_cases h2 : n ≤ hi
  all_goals
    go_enter Try.func25, Try.ntmps25
    go_wp2
    go_ret
    exact ⟨ret_bool' (by simp [h1, h2]), rfl⟩

set_option maxHeartbeats 1600000 in
theorem spec_ShapeValid (W F : Int) (L : Bool) (w : World) : Calls Try.prog 17 #[.agg #[.int .i64 W, .int .u8 F, .bool L]] w fun e w' => e = .returned (.bool (shB W F)) ∧ Below w.heap.size w w' := by
  have hal : ∀ o, Below w.heap.size w (w.alloc o) := fun o => (Below.refl _ _).alloc (Nat.le_refl _) o
  have HAL := Lib.hid hal; clear hal
  rcases hd : decide (0 ≤ W ∧ W ≤ 40) with _ | _
  · have HB : Hid (shB W F = false) := by
      have : ¬ (0 ≤ W ∧ W ≤ 40) := by simpa using hd
      simp only [shB, decide_eq_false_iff_not]
      exact fun e => this ⟨e.1, e.2.1⟩
    go_enter Try.func17, Try.ntmps17
    go_wp2_with fail
    refine (spec_l1In _ _ _ _).mono ?_
    rintro e w1 ⟨rfl, rfl⟩
    rw [hd]
    go_wp2
    go_ret
    exact ⟨ret_bool' HB.out.symm, HAL.out _⟩
  · have hW : 0 ≤ W ∧ W ≤ 40 := by simpa using hd
    by_cases h3 : 32 ≤ F
    · by_cases h4 : F ≤ 126
      · have HB : Hid (shB W F = true) := by simp only [shB, decide_eq_true_iff]; exact ⟨hW.1, hW.2, h3, h4⟩
        go_enter Try.func17, Try.ntmps17
        go_wp2_with fail
        refine (spec_l1In _ _ _ _).mono ?_
        rintro e w1 ⟨rfl, rfl⟩
        rw [hd]
        go_wp2
        go_ret
        exact ⟨ret_bool' HB.out.symm, HAL.out _⟩
      · have HB : Hid (shB W F = false) := by simp only [shB, decide_eq_false_iff_not]; exact fun e => h4 e.2.2.2
        have h4' := decide_eq_false h4
        go_enter Try.func17, Try.ntmps17
        go_wp2_with fail
        refine (spec_l1In _ _ _ _).mono ?_
        rintro e w1 ⟨rfl, rfl⟩
        rw [hd]
        go_wp2
        go_ret
        exact ⟨ret_bool' HB.out.symm, HAL.out _⟩
    · have HB : Hid (shB W F = false) := by simp only [shB, decide_eq_false_iff_not]; exact fun e => h3 e.2.2.1
      have h3' := decide_eq_false h3
      go_enter Try.func17, Try.ntmps17
      go_wp2_with fail
      refine (spec_l1In _ _ _ _).mono ?_
      rintro e w1 ⟨rfl, rfl⟩
      rw [hd]
      go_wp2
      go_ret
      exact ⟨ret_bool' HB.out.symm, HAL.out _⟩

set_option maxHeartbeats 1600000 in
theorem impl_ShapeValid (W F : Int) (L : Bool) (w : World) : Calls Try.prog 14 #[.agg #[.int .i64 W, .int .u8 F, .bool L]] w fun e w' => e = .returned (.bool (shB W F)) ∧ Below w.heap.size w w' := by
  have hal : ∀ o, Below w.heap.size w (w.alloc o) := fun o => (Below.refl _ _).alloc (Nat.le_refl _) o
  have HAL := Lib.hid hal; clear hal
  rcases d1 : decide (0 ≤ W) with _ | _ <;> rcases d2 : decide (W ≤ 40) with _ | _ <;> rcases d3 : decide (32 ≤ F) with _ | _ <;> rcases d4 : decide (F ≤ 126) with _ | _
  all_goals
    have HB := Lib.hid (shB_eq W F)
    rw [d1, d2, d3, d4] at HB
    go_enter Try.func14, Try.ntmps14
    go_wp2
    go_ret
    exact ⟨ret_bool' HB.out.symm, HAL.out _⟩

end Go.Proofs.Ytfidcfjmmhghjaa

/- Contracts of PointValid, LettersLong and the drawn numbers; the walks of the four laws that speak of them alone. -/
import Derived.Test.YtgbdkajnlemblaaPtDraw
import Derived.Test.YtgbdkajnlemblaaAlive
namespace Go.Proofs.Ytgbdkajnlemblaa
open Go.RowKit

def inB (n lo hi : Int) : Bool := decide (lo ≤ n ∧ n ≤ hi)
theorem inB_t {n lo hi : Int} (h1 : lo ≤ n) (h2 : n ≤ hi) : inB n lo hi = true := by simp [inB, h1, h2]
theorem inB_f {n lo hi : Int} (h : n < lo ∨ hi < n) : inB n lo hi = false := by simp [inB]; omega

theorem l1In_any (n lo hi : Int) (w : World) : Calls Try.prog 13 #[.int .i64 n, .int .i64 lo, .int .i64 hi] w fun e w' => e = .returned (.bool (inB n lo hi)) ∧ w = w' := by
  by_cases h1 : lo ≤ n <;> by_cases h2 : n ≤ hi
  all_goals
    go_enter Try.func13, Try.ntmps13
    go_wp2
    go_ret
    simp [inB, h1, h2]

def ptB (n : Int) : Bool := decide (0 ≤ n ∧ n ≤ 1114111 ∧ ¬ (55296 ≤ n ∧ n ≤ 57343))
theorem ptB_t {n : Int} : ptB n = true ↔ 0 ≤ n ∧ n ≤ 1114111 ∧ ¬ (55296 ≤ n ∧ n ≤ 57343) := decide_eq_true_iff
theorem ptB_f {n : Int} : ptB n = false ↔ ¬ (0 ≤ n ∧ n ≤ 1114111 ∧ ¬ (55296 ≤ n ∧ n ≤ 57343)) := by rw [← Bool.not_eq_true, ptB_t]

theorem spec_PointValid (n : Int) (w : World) : Calls Try.prog 18 #[.int .i64 n] w fun e w' => e = .returned (.bool (ptB n)) ∧ w = w' := by
  by_cases h1 : 0 ≤ n ∧ n ≤ 1114111
  · have e1 := inB_t h1.1 h1.2
    have E : Hid (ptB n = !(inB n 55296 57343)) := by
      simp only [Hid]
      by_cases h2 : 55296 ≤ n ∧ n ≤ 57343
      · rw [inB_t h2.1 h2.2, ptB_f.2 (by omega)]; rfl
      · rw [inB_f (by omega), ptB_t.2 (by omega)]; rfl
    go_enter Try.func18, Try.ntmps18
    go_wp2_with (go_at_call 13; refine (l1In_any _ _ _ _).mono ?_; rintro e w' ⟨rfl, rfl⟩)
    go_ret
    exact ⟨by rw [E.out]; rfl, rfl⟩
  · have e1 : inB n 0 1114111 = false := inB_f (by omega)
    have E : Hid (ptB n = false) := ptB_f.2 (by omega)
    go_enter Try.func18, Try.ntmps18
    go_wp2_with (go_at_call 13; refine (l1In_any _ _ _ _).mono ?_; rintro e w' ⟨rfl, rfl⟩)
    go_ret
    exact ⟨by rw [E.out]; rfl, rfl⟩

theorem impl_PointValid (n : Int) (w : World) : Calls Try.prog 16 #[.int .i64 n] w fun e w' => e = .returned (.bool (ptB n)) ∧ w = w' := by
  by_cases h1 : 0 ≤ n <;> by_cases h2 : n ≤ 1114111 <;> by_cases h3 : n < 55296 <;> by_cases h4 : 57343 < n
  all_goals first | (exfalso; omega) | skip
  all_goals
    go_enter Try.func16, Try.ntmps16
    go_wp2
    go_ret
    simp [ptB]; omega

def llong (n : Int) : Int := if 0 ≤ n ∧ n ≤ 60 then (n + 2) / 3 * 4 else -1

/-- A drawn number. -/
def DrawInt (lo hi : Int) (w : World) (e : Ending) (w' : World) : Prop := ∃ x : Int, e = .returned (.int .i64 x) ∧ lo ≤ x ∧ x ≤ hi ∧ Below w.heap.size w w'

end Go.Proofs.Ytgbdkajnlemblaa

/- Contracts of PointValid, LettersLong and the drawn numbers; the walks of the four laws that speak of them alone. -/
import Derived.Test.YtfefgnehbpfonaaPtDraw
import Derived.Test.YtfefgnehbpfonaaAlive
namespace Go.Proofs.Ytfefgnehbpfonaa
open Go.RowKit

def inB (n lo hi : Int) : Bool := decide (lo ≤ n ∧ n ≤ hi)
theorem inB_t {n lo hi : Int} (h1 : lo ≤ n) (h2 : n ≤ hi) : inB n lo hi = true := by simp [inB, h1, h2]
theorem inB_f {n lo hi : Int} (h : n < lo ∨ hi < n) : inB n lo hi = false := by simp [inB]; omega

theorem l1In_any (n lo hi : Int) (w : World) : Calls Try.prog 43 #[.int .i64 n, .int .i64 lo, .int .i64 hi] w fun e w' => e = .returned (.bool (inB n lo hi)) ∧ w = w' := by
  by_cases h1 : lo ≤ n <;> by_cases h2 : n ≤ hi
  all_goals
    go_enter Try.func43, Try.ntmps43
    go_wp2
    go_ret
    simp [inB, h1, h2]

def ptB (n : Int) : Bool := decide (0 ≤ n ∧ n ≤ 1114111 ∧ ¬ (55296 ≤ n ∧ n ≤ 57343))
theorem ptB_t {n : Int} : ptB n = true ↔ 0 ≤ n ∧ n ≤ 1114111 ∧ ¬ (55296 ≤ n ∧ n ≤ 57343) := decide_eq_true_iff
theorem ptB_f {n : Int} : ptB n = false ↔ ¬ (0 ≤ n ∧ n ≤ 1114111 ∧ ¬ (55296 ≤ n ∧ n ≤ 57343)) := by rw [← Bool.not_eq_true, ptB_t]

theorem spec_PointValid (n : Int) (w : World) : Calls Try.prog 15 #[.int .i64 n] w fun e w' => e = .returned (.bool (ptB n)) ∧ w = w' := by
  by_cases h1 : 0 ≤ n ∧ n ≤ 1114111
  · have e1 := inB_t h1.1 h1.2
    have E : Hid (ptB n = !(inB n 55296 57343)) := by
      simp only [Hid]
      by_cases h2 : 55296 ≤ n ∧ n ≤ 57343
      · rw [inB_t h2.1 h2.2, ptB_f.2 (by omega)]; rfl
      · rw [inB_f (by omega), ptB_t.2 (by omega)]; rfl
    go_enter Try.func15, Try.ntmps15
    go_wp2_with (go_at_call 43; refine (l1In_any _ _ _ _).mono ?_; rintro e w' ⟨rfl, rfl⟩)
    go_ret
    exact ⟨by rw [E.out]; rfl, rfl⟩
  · have e1 : inB n 0 1114111 = false := inB_f (by omega)
    have E : Hid (ptB n = false) := ptB_f.2 (by omega)
    go_enter Try.func15, Try.ntmps15
    go_wp2_with (go_at_call 43; refine (l1In_any _ _ _ _).mono ?_; rintro e w' ⟨rfl, rfl⟩)
    go_ret
    exact ⟨by rw [E.out]; rfl, rfl⟩

theorem impl_PointValid (n : Int) (w : World) : Calls Try.prog 16 #[.int .i64 n] w fun e w' => e = .returned (.bool (ptB n)) ∧ w = w' := by
  by_cases h1 : 0 ≤ n <;> by_cases h2 : n ≤ 1114111 <;> by_cases h3 : n < 55296 <;> by_cases h4 : 57343 < n
  all_goals first | (exfalso; omega) | skip
  all_goals
    go_enter Try.func16, Try.ntmps16
    go_wp2
    go_ret
    simp [ptB]; omega

def llong (n : Int) : Int := if 0 ≤ n ∧ n ≤ 60 then (n + 2) / 3 * 4 else -1

theorem spec_LettersLong (n : Int) (w : World) : Calls Try.prog 17 #[.int .i64 n] w fun e w' => e = .returned (.int .i64 (llong n)) ∧ w = w' := by
  by_cases h1 : 0 ≤ n ∧ n ≤ 60
  · have e1 := inB_t h1.1 h1.2
    have E : Hid (llong n = (n + 2) / 3 * 4) := if_pos h1
    obtain ⟨h2, h3⟩ := h1
    go_enter Try.func17, Try.ntmps17
    go_wp2_with (go_at_call 43; refine (l1In_any _ _ _ _).mono ?_; rintro e w' ⟨rfl, rfl⟩)
    go_ret
    exact ⟨by rw [E.out]; rfl, rfl⟩
  · have e1 : inB n 0 60 = false := inB_f (by omega)
    have E : Hid (llong n = -1) := if_neg h1
    go_enter Try.func17, Try.ntmps17
    go_wp2_with (go_at_call 43; refine (l1In_any _ _ _ _).mono ?_; rintro e w' ⟨rfl, rfl⟩)
    go_ret
    exact ⟨by rw [E.out]; rfl, rfl⟩

theorem impl_LettersLong (n : Int) (w : World) : Calls Try.prog 18 #[.int .i64 n] w fun e w' => e = .returned (.int .i64 (llong n)) ∧ w = w' := by
  by_cases h1 : 0 ≤ n <;> by_cases h2 : n ≤ 60
  · have E : Hid (llong n = (n + 2) / 3 * 4) := if_pos ⟨h1, h2⟩
    go_enter Try.func18, Try.ntmps18
    go_wp2
    go_ret
    exact ⟨by rw [E.out]; rfl, rfl⟩
  all_goals
    have E : Hid (llong n = -1) := if_neg (by omega)
    go_enter Try.func18, Try.ntmps18
    go_wp2
    go_ret
    exact ⟨by rw [E.out]; rfl, rfl⟩

theorem walk_FnExactPointValid (n : Int) (w : World) (_h : (Lit.int .i64 n).wf = true) : Calls Try.prog 3 #[.int .i64 n] w fun e w' => e = .returned (.bool true) ∧ Below w.heap.size w w' := by
  go_enter Try.func3, Try.ntmps3
  go_wp2_with (first | (go_at_call 15; refine (spec_PointValid _ _).mono ?_; rintro e w' ⟨rfl, rfl⟩) | (go_at_call 16; refine (impl_PointValid _ _).mono ?_; rintro e w' ⟨rfl, rfl⟩))
  go_ret
  exact ⟨rfl, Below.refl _ _⟩

theorem walk_FnExactLettersLong (n : Int) (w : World) (_h : (Lit.int .i64 n).wf = true) : Calls Try.prog 4 #[.int .i64 n] w fun e w' => e = .returned (.bool true) ∧ Below w.heap.size w w' := by
  go_enter Try.func4, Try.ntmps4
  go_wp2_with (first | (go_at_call 17; refine (spec_LettersLong _ _).mono ?_; rintro e w' ⟨rfl, rfl⟩) | (go_at_call 18; refine (impl_LettersLong _ _).mono ?_; rintro e w' ⟨rfl, rfl⟩))
  go_ret
  exact ⟨rfl, Below.refl _ _⟩

/-- A drawn number. -/
def DrawInt (lo hi : Int) (w : World) (e : Ending) (w' : World) : Prop := ∃ x : Int, e = .returned (.int .i64 x) ∧ lo ≤ x ∧ x ≤ hi ∧ Below w.heap.size w w'

theorem draw_LettersLong (a : Option Addr) (n c : Nat) (f : Nat → UInt8) (w : World) (hb : BytesAt w a n f) (hc : n ≤ c) (hc' : c ≤ 9223372036854775807) :
    Calls Try.prog 19 #[.slice a n c] w (DrawInt (-1) 61 w) := by
  go_enter Try.func19, Try.ntmps19
  go_wp2_with fail
  refine (open_any _ _ _ _ _ hb hc hc').mono ?_
  rintro e w1 ⟨rfl, hb1, hr1⟩
  go_wp2_with fail
  refine (pick_any _ _ 1000000 _ hr1 (by omega) (by omega) (by omega)).mono ?_
  rintro e w2 ⟨v, rfl, hv, hg2, hr2⟩
  have H := Lib.hid (hb1.trans (below_of_grown hg2 (B := w.heap.size) hb1.size (by intro k hk; injection hk with hk; omega)))
  clear hb hb1 hr1 hg2 hr2
  go_wp2
  go_ret
  exact ⟨_, rfl, by omega, by omega, H.out⟩

theorem draw_PointValid (a : Option Addr) (n c : Nat) (f : Nat → UInt8) (w : World) (hb : BytesAt w a n f) (hc : n ≤ c) (hc' : c ≤ 9223372036854775807) :
    Calls Try.prog 21 #[.slice a n c] w (DrawInt (-2147483648) 2147483647 w) := by
  go_enter Try.func21, Try.ntmps21
  go_wp2_with fail
  refine (open_any _ _ _ _ _ hb hc hc').mono ?_
  rintro e w1 ⟨rfl, hb1, hr1⟩
  go_wp2_with fail
  refine (point_any _ _ 1000000 _ hr1 (by omega) (by omega) (by omega)).mono ?_
  rintro e w2 ⟨v, rfl, hv, hv', hg2, hr2⟩
  have H := Lib.hid (hb1.trans (below_of_grown hg2 (B := w.heap.size) hb1.size (by intro k hk; injection hk with hk; omega)))
  clear hb hb1 hr1 hg2 hr2
  go_wp2
  go_ret
  exact ⟨_, rfl, by omega, by omega, H.out⟩

theorem draw_PutPoint (a : Option Addr) (n c : Nat) (f : Nat → UInt8) (w : World) (hb : BytesAt w a n f) (hc : n ≤ c) (hc' : c ≤ 9223372036854775807) :
    Calls Try.prog 27 #[.slice a n c] w (DrawInt (-2147483648) 2147483647 w) := by
  go_enter Try.func27, Try.ntmps27
  go_wp2_with fail
  refine (open_any _ _ _ _ _ hb hc hc').mono ?_
  rintro e w1 ⟨rfl, hb1, hr1⟩
  go_wp2_with fail
  refine (point_any _ _ 1000000 _ hr1 (by omega) (by omega) (by omega)).mono ?_
  rintro e w2 ⟨v, rfl, hv, hv', hg2, hr2⟩
  have H := Lib.hid (hb1.trans (below_of_grown hg2 (B := w.heap.size) hb1.size (by intro k hk; injection hk with hk; omega)))
  clear hb hb1 hr1 hg2 hr2
  go_wp2
  go_ret
  exact ⟨_, rfl, by omega, by omega, H.out⟩
theorem walk_FnLettersLong (a : Option Addr) (n c : Nat) (z : List Int) (w : World) (hrow : IsRow .u8 w a n c z) :
    Calls Try.prog 5 #[.slice a n c] w fun e w' => e = .returned (.bool true) ∧ Below w.heap.size w w' := by
  have hcap := hrow.caps
  have hby := hrow.bytes
  clear hrow
  by_cases hn : 1048576 < n
  · clear hby
    go_enter Try.func5, Try.ntmps5
    go_wp2
    go_ret
    exact ⟨rfl, Below.refl _ _⟩
  · go_enter Try.func5, Try.ntmps5
    go_wp2_with fail
    refine (draw_LettersLong _ _ _ _ _ hby hcap.1 hcap.2).mono ?_
    rintro e w1 ⟨m, rfl, hm1, hm2, hb1⟩
    clear hby
    have HB := Lib.hid hb1
    by_cases h1 : 0 ≤ m ∧ m ≤ 60
    · have e1 : llong m = (m + 2) / 3 * 4 := if_pos h1
      obtain ⟨L, hL⟩ : ∃ L, L = llong m := ⟨_, rfl⟩
      have h2 : 0 ≤ L := by rw [hL, e1]; omega
      have h3 : L ≤ 100 := by rw [hL, e1]; omega
      have h4 : (L % 4 == 0) = true := by rw [beq_iff_eq, hL, e1]; omega
      have h5 : 4 * m ≤ 3 * L := by rw [hL, e1]; omega
      have h6 : 3 * L < 4 * m + 12 := by rw [hL, e1]; omega
      have c1 := impl_LettersLong m
      have c2 := spec_LettersLong m
      rw [← hL] at c1 c2
      have C1 := Lib.hid c1
      have C2 := Lib.hid c2
      clear hL e1 c1 c2 hb1
      go_wp2_with (first | (go_at_call 17; refine (C2.out _).mono ?_; rintro e w' ⟨rfl, rfl⟩) | (go_at_call 18; refine (C1.out _).mono ?_; rintro e w' ⟨rfl, rfl⟩))
      go_ret
      exact ⟨rfl, HB.out⟩
    · have e1 : llong m = -1 := if_neg h1
      have c1 := impl_LettersLong m
      have c2 := spec_LettersLong m
      rw [e1] at c1 c2
      have C1 := Lib.hid c1
      have C2 := Lib.hid c2
      clear e1 c1 c2 hb1
      go_wp2_with (first | (go_at_call 17; refine (C2.out _).mono ?_; rintro e w' ⟨rfl, rfl⟩) | (go_at_call 18; refine (C1.out _).mono ?_; rintro e w' ⟨rfl, rfl⟩) | (go_at_call 20; refine (alive_any _).mono ?_; rintro e w2 ⟨rfl, hb2⟩))
      go_ret
      exact ⟨rfl, HB.out.trans (hb2.mono HB.out.size)⟩

theorem walk_FnPointValid (a : Option Addr) (n c : Nat) (z : List Int) (w : World) (hrow : IsRow .u8 w a n c z) :
    Calls Try.prog 6 #[.slice a n c] w fun e w' => e = .returned (.bool true) ∧ Below w.heap.size w w' := by
  have hcap := hrow.caps
  have hby := hrow.bytes
  clear hrow
  by_cases hn : 1048576 < n
  · clear hby
    go_enter Try.func6, Try.ntmps6
    go_wp2
    go_ret
    exact ⟨rfl, Below.refl _ _⟩
  · have p1 : ptB 55296 = false := by decide
    have p2 : ptB 57343 = false := by decide
    have p3 : ptB (-1) = false := by decide
    go_enter Try.func6, Try.ntmps6
    go_wp2_with fail
    refine (draw_PointValid _ _ _ _ _ hby hcap.1 hcap.2).mono ?_
    rintro e w1 ⟨m, rfl, hm1, hm2, hb1⟩
    have HB := Lib.hid hb1
    clear hby hb1
    go_wp2_with (first | (go_at_call 15; refine (spec_PointValid _ _).mono ?_; rintro e w' ⟨rfl, rfl⟩) | (go_at_call 16; refine (impl_PointValid _ _).mono ?_; rintro e w' ⟨rfl, rfl⟩) | (go_at_call 20; refine (alive_any _).mono ?_; rintro e w2 ⟨rfl, hb2⟩))
    go_ret
    exact ⟨rfl, HB.out.trans (hb2.mono HB.out.size)⟩
end Go.Proofs.Ytfefgnehbpfonaa

/- The drawn points: what the generators of points hand on, for every state of the reader. -/
import Derived.Test.YtgbdkajnlemblaaDraw
namespace Go.Proofs.Ytgbdkajnlemblaa
open Go.RowKit

def IntPost (w : World) (R k K : Nat) (e : Ending) (w' : World) : Prop :=
  ∃ x : Int, e = .returned (.int .i64 x) ∧ -2147483648 ≤ x ∧ x ≤ 2147483647 ∧ w.grownBy w' (some R) ∧ Rdr w' R (k - K)

set_option maxHeartbeats 400000 in
theorem point_any (w : World) (R k : Nat) (m : Int) (h : Rdr w R k) (hk : 8 ≤ k) (hm : -2147483648 ≤ m) (hm' : m ≤ 2147483647) :
    Calls Try.prog 17 #[.pointer (some ⟨R, 0, none⟩), .int .i64 m] w (IntPost w R k 8) := by
  go_enter Try.func17, Try.ntmps17
  go_wp2_with fail
  refine (odd_any _ _ k _ h (by omega) (by omega) (by omega)).mono ?_
  rintro e w1 ⟨b, rfl, hg1, hr1⟩
  cases b
  · go_wp2_with fail
    refine (pick_any _ _ (k - 1) _ hr1 (by omega) (by omega) (by omega)).mono ?_
    rintro e w2 ⟨v1, rfl, hv1, hg2, hr2⟩
    go_wp2_with fail
    refine (pick_any _ _ (k - 1 - 1) _ hr2 (by omega) (by omega) (by omega)).mono ?_
    rintro e w3 ⟨v2, rfl, hv2, hg3, hr3⟩
    go_wp2_with fail
    refine (pick_any _ _ (k - 1 - 1 - 1) _ hr3 (by omega) (by omega) (by omega)).mono ?_
    rintro e w4 ⟨v3, rfl, hv3, hg4, hr4⟩
    go_wp2_with fail
    refine (pick_any _ _ (k - 1 - 1 - 1 - 1) _ hr4 (by omega) (by omega) (by omega)).mono ?_
    rintro e w5 ⟨v4, rfl, hv4, hg5, hr5⟩
    go_wp2_with fail
    refine (pick_any _ _ (k - 1 - 1 - 1 - 1 - 1) _ ((hr5.kept (World.grownBy_alloc _ _ none) (by simp)).kept (World.grownBy_alloc _ _ none) (by simp)) (by omega) (by omega) (by omega)).mono ?_
    rintro e w6 ⟨v5, rfl, hv5, hg6, hr6⟩
    have hR5 := hr5.lt
    obtain ⟨x, hx, u, rfl, hu1, hu2⟩ := lit_at (Q := Small 0 11) hg6 (by simp; omega) (by
      intro x hx; simp at hx; rcases hx with rfl | rfl | rfl | rfl | rfl | rfl | rfl | rfl | rfl | rfl | rfl | rfl | rfl <;> exact ⟨_, rfl, by omega, by omega⟩) v5 (by simp; omega)
    obtain ⟨j, rfl⟩ := Int.eq_ofNat_of_zero_le hu1
    obtain ⟨y, hy, q, rfl, hq1, hq2⟩ := lit_at (Q := Small (-2147483648) 2147483647) ((World.grownBy_alloc _ _ _).trans hg6) (by simp; omega) (by
      intro x hx; simp at hx; rcases hx with rfl | rfl | rfl | rfl | rfl | rfl | rfl | rfl | rfl | rfl | rfl | rfl <;> exact ⟨_, rfl, by omega, by omega⟩) j (by simp; omega)
    have H := Lib.hid (⟨((((((hg1.trans hg2).trans hg3).trans hg4).trans hg5).trans (World.grownBy_alloc _ _ _)).trans (World.grownBy_alloc _ _ _)).trans hg6, hr6.less (by omega)⟩ : w.grownBy w6 (some R) ∧ Rdr w6 R (k - 8))
    simp only [World.size_alloc] at hx
    clear hg6 hg5 hg4 hg3 hg2 hg1 hr1 hr2 hr3 hr4 hr5 hr6 h hv1 hv2 hv3 hv4
    go_wp2
    go_ret
    exact ⟨q, rfl, hq1, hq2, H.out⟩
  · go_wp2_with fail
    refine (pick_any _ _ (k - 1) _ (hr1.kept (World.grownBy_alloc _ _ none) (by simp)) (by omega) (by omega) (by omega)).mono ?_
    rintro e w2 ⟨v, rfl, hv, hg2, hr2⟩
    have hR1 := hr1.lt
    obtain ⟨x, hx, u, rfl, hu1, hu2⟩ := lit_at (Q := Small (-2147483648) 2147483647) hg2 (by intro e; injection e with e; omega) (by intro x hx; simp at hx; rcases hx with rfl | rfl | rfl | rfl <;> exact ⟨_, rfl, by omega, by omega⟩) v (by simp; omega)
    have H := Lib.hid (⟨(hg1.trans (World.grownBy_alloc _ _ _)).trans hg2, hr2.less (by omega)⟩ : w.grownBy w2 (some R) ∧ Rdr w2 R (k - 8))
    clear hg2 hg1 hr1 hr2 h
    go_wp2
    go_ret
    exact ⟨u, rfl, hu1, hu2, H.out⟩
end Go.Proofs.Ytgbdkajnlemblaa

/- The walk of the law FnStarsFit. -/
import Derived.Test.YtlilmphbjmjpdaaLawStars2
import Derived.Test.YtlilmphbjmjpdaaStarsDraw2
namespace Go.Proofs.Ytlilmphbjmjpdaa
open Go.RowKit

set_option maxRecDepth 100000 in
set_option maxHeartbeats 1600000 in
theorem walk_FnStarsFit (a : Option Addr) (n c : Nat) (z : List Int) (w : World) (hrow : IsRow .u8 w a n c z) :
    Calls Try.prog 8 #[.slice a n c] w fun e w' => e = .returned (.bool true) ∧ Below w.heap.size w w' := by
  have hcap := hrow.caps
  have hby := Lib.hid hrow.bytes
  clear hrow
  by_cases hn : 1048576 < n
  · go_enter Try.func8, Try.ntmps8
    go_wp2
    go_ret
    exact ⟨rfl, Below.refl _ _⟩
  · go_enter Try.func8, Try.ntmps8
    go_wp2_with fail
    refine (draw_StarsFit _ _ _ _ _ hby.out hcap.1 hcap.2).mono ?_
    rintro e w1 ⟨s, p, rfl, hs, hp, b1⟩
    have B1 := Lib.hid b1
    clear b1 hby hcap hn
    have CI : Hid (∀ W, Calls Try.prog 14 #[.string s, .string p] W fun e w' => e = .returned (.bool (sfB s p)) ∧ ∃ q, w' = W.drewN q) := fun W => impl_StarsFit s p W (by omega) (by omega)
    have CS : Hid (∀ W, Calls Try.prog 13 #[.string s, .string p] W fun e w' => e = .returned (.bool (sfB s p)) ∧ ∃ q, w' = W.drewN q) := fun W => spec_StarsFit s p W (by omega) (by omega)
    have CT : Hid (∀ W, Calls Try.prog 18 #[.string s] W fun e w' => e = .returned (.bool (textB (bl s))) ∧ W = w') := fun W => impl_TextValid s W (by omega)
    have CE : Hid (∀ W, Calls Try.prog 10 #[.string s] W fun e w' => e = .returned (.string (mkS (escB (bl s)))) ∧ Below W.heap.size W w') := fun W => impl_EscapeStars s W (by omega)
    have hv : vB s = textB (bl s) := by rw [vB, decide_eq_true (by omega), Bool.true_and]
    have CX : Hid (∀ W, Calls Try.prog 14 #[.string s, .string ⟨#[42]⟩] W fun e w' => e = .returned (.bool (textB (bl s))) ∧ ∃ q, w' = W.drewN q) := fun W => by
      have := impl_StarsFit s ⟨#[42]⟩ W (by omega) (by decide)
      rwa [sf_star, hv] at this
    obtain ⟨x, hx⟩ : ∃ x, x = mkS (escB (bl s)) := ⟨_, rfl⟩
    have hxs : x.size ≤ 24 := by have h1 := escB_le (bl s); rw [hx, mkS_size]; rw [bl_len] at h1; omega
    rw [← hx] at CE
    generalize sfB s p = ok at CI CS
    rcases ht : textB (bl s) with _ | _
    · rw [ht] at CT CX
      clear ht hv hx
      go_wp2_with fail
      refine (CI.out _).mono ?_
      rintro e w2 ⟨rfl, q2, rfl⟩
      go_wp2_with fail
      refine (CS.out _).mono ?_
      rintro e w3 ⟨rfl, q3, rfl⟩
      cases ok
      all_goals
        go_wp2_with fail
        refine (CT.out _).mono ?_
        rintro e w4 ⟨rfl, rfl⟩
        go_wp2_with fail
        refine (CE.out _).mono ?_
        rintro e w5 ⟨rfl, b5⟩
        have B5 : Hid (Below w.heap.size w w5) := (below_drewN B1.out _).trans (b5.mono (below_drewN B1.out _).size)
        clear b5
        go_wp2_with fail
        refine (CX.out _).mono ?_
        rintro e w6 ⟨rfl, q6, rfl⟩
        go_wp2_with (go_at_call 16; refine (alive_any _).mono ?_; rintro e w7 ⟨rfl, b7⟩)
        go_ret
        exact ⟨rfl, (below_drewN B5.out _).trans (b7.mono (below_drewN B5.out _).size)⟩
    · have CP : Hid (∀ W, Calls Try.prog 14 #[.string s, .string x] W fun e w' => e = .returned (.bool true) ∧ ∃ q, w' = W.drewN q) := fun W => by
        have := impl_StarsFit s x W (by omega) (by omega)
        rwa [sf_plain s x (by rw [hv, ht]) hx (by omega)] at this
      rw [ht] at CT CX
      clear ht hv hx
      go_wp2_with fail
      refine (CI.out _).mono ?_
      rintro e w2 ⟨rfl, q2, rfl⟩
      go_wp2_with fail
      refine (CS.out _).mono ?_
      rintro e w3 ⟨rfl, q3, rfl⟩
      cases ok
      all_goals
        go_wp2_with fail
        refine (CT.out _).mono ?_
        rintro e w4 ⟨rfl, rfl⟩
        go_wp2_with fail
        refine (CE.out _).mono ?_
        rintro e w5 ⟨rfl, b5⟩
        have B5 : Hid (Below w.heap.size w w5) := (below_drewN B1.out _).trans (b5.mono (below_drewN B1.out _).size)
        clear b5
        go_wp2_with fail
        refine (CX.out _).mono ?_
        rintro e w6 ⟨rfl, q6, rfl⟩
        go_wp2_with fail
        refine (CP.out _).mono ?_
        rintro e w6 ⟨rfl, q7, rfl⟩
        go_wp2_with (go_at_call 16; refine (alive_any _).mono ?_; rintro e w7 ⟨rfl, b7⟩)
        go_ret
        exact ⟨rfl, (below_drewN B5.out _).trans (b7.mono (below_drewN B5.out _).size)⟩
end Go.Proofs.Ytlilmphbjmjpdaa

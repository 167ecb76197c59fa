/- The walk of the law FnStarsPlain. -/
import Derived.Test.YtlilmphbjmjpdaaStarsDraw
import Derived.Test.YtlilmphbjmjpdaaAlive
namespace Go.Proofs.Ytlilmphbjmjpdaa
open Go.RowKit

theorem unT_escC (c : UInt8) (t : List UInt8) : unT (escC c ++ t) = c :: unT t := by
  unfold escC
  split
  · exact unT_slash (by decide)
  · next h =>
    refine unT_other fun e => h ?_
    simp [starC, e]
theorem unT_esc (o t : List UInt8) : unT (escT o ++ t) = o ++ unT t := by
  induction o with
  | nil => rfl
  | cons c o ih =>
    have e : escT (c :: o) = escC c ++ escT o := by simp [escT]
    rw [e, List.append_assoc, unT_escC, ih]; rfl
theorem plainB_esc {o : List UInt8} (h : textB o = true) : plainB (escB o) = (o, true) := by
  have e : unT (escB o) = o := by rw [escB_yes h]; have := unT_esc o []; simpa [unT] using this
  rw [plainB_yes (by rw [e]; exact h) (by rw [e]), e]
theorem plainB_true {l r : List UInt8} (h : plainB l = (r, true)) : textB r = true ∧ escB r = l := by
  unfold plainB at h
  split at h
  · next h' =>
    injection h with h1 _
    subst h1
    exact h'
  · injection h with _ h2
    cases h2
theorem plainB_false {l r : List UInt8} (h : plainB l = (r, false)) : r = [] := by
  unfold plainB at h
  split at h
  · injection h with _ h2
    cases h2
  · injection h with h1 _
    exact h1.symm
theorem plainB_star {l r : List UInt8} (h : plainB l = (r, true)) : (plainB (l ++ [42])) = ([], false) := by
  obtain ⟨ht, he⟩ := plainB_true h
  refine plainB_ne ?_
  have e : unT (l ++ [42]) = r ++ [42] := by rw [← he, escB_yes ht, unT_esc]; rfl
  rw [e]
  intro x
  have hl := congrArg List.length x
  rw [← he, escB_yes ht] at hl
  unfold escB at hl
  split at hl
  · rw [escT_snoc, escC_yes (by decide)] at hl
    simp at hl
  · simp at hl

set_option maxRecDepth 100000 in
set_option maxHeartbeats 800000 in
theorem walk_FnStarsPlain (a : Option Addr) (n c : Nat) (z : List Int) (w : World) (hrow : IsRow .u8 w a n c z) :
    Calls Try.prog 6 #[.slice a n c] w fun e w' => e = .returned (.bool true) ∧ Below w.heap.size w w' := by
  have hcap := hrow.caps
  have hby := Lib.hid hrow.bytes
  clear hrow
  by_cases hn : 1048576 < n
  · go_enter Try.func6, Try.ntmps6
    go_wp2
    go_ret
    exact ⟨rfl, Below.refl _ _⟩
  · go_enter Try.func6, Try.ntmps6
    go_wp2_with fail
    refine (draw_StarsPlain _ _ _ _ _ hby.out hcap.1 hcap.2).mono ?_
    rintro e w1 ⟨p, rfl, hp, b1⟩
    have B1 := Lib.hid b1
    clear b1 hby hcap hn
    have CI := Lib.hid (impl_StarsPlain p w1 (by omega))
    have CS : Hid (∀ W, Calls Try.prog 11 #[.string p] W fun e w' => e = .returned (.tuple #[.string (mkS (plainB (bl p)).1), .bool (plainB (bl p)).2]) ∧ W = w') := fun W => spec_StarsPlain p W (by omega)
    rcases hr : plainB (bl p) with ⟨r, ok⟩
    rw [hr] at CI CS
    cases ok
    · have hnil := plainB_false hr
      subst hnil
      have e0 : mkS [] = ⟨#[]⟩ := rfl
      rw [e0] at CI CS
      clear hr e0
      go_wp2_with fail
      refine CI.out.mono ?_
      rintro e w2 ⟨rfl, b2⟩
      have B2 : Hid (Below w.heap.size w w2) := B1.out.trans (b2.mono B1.out.size)
      clear b2
      go_wp2_with fail
      refine (CS.out _).mono ?_
      rintro e w3 ⟨rfl, rfl⟩
      go_wp2_with (go_at_call 16; refine (alive_any _).mono ?_; rintro e w5 ⟨rfl, b5⟩)
      go_ret
      exact ⟨rfl, B2.out.trans (b5.mono B2.out.size)⟩
    · have CM : Hid (∀ W, Calls Try.prog 12 #[.string (p ++ ⟨#[42]⟩)] W fun e w' => e = .returned (.tuple #[.string (mkS []), .bool false]) ∧ Below W.heap.size W w') := fun W => by
        have := impl_StarsPlain (p ++ ⟨#[42]⟩) W (by rw [ByteArray.size_append]; show p.size + 1 ≤ _; omega)
        have e : bl (p ++ ⟨#[42]⟩) = bl p ++ [42] := by rw [bl_app]; rfl
        rwa [e, plainB_star hr] at this
      obtain ⟨ht, he⟩ := plainB_true hr
      have hrl : r.length ≤ 600 := by have := textB_size (s := mkS r) (by rw [bl_mkS]; exact ht); rwa [mkS_size] at this
      have CE : Hid (∀ W, Calls Try.prog 10 #[.string (mkS r)] W fun e w' => e = .returned (.string p) ∧ Below W.heap.size W w') := fun W => by
        have := impl_EscapeStars (mkS r) W (by rw [mkS_size]; omega)
        rwa [bl_mkS, he, mkS_bl] at this
      clear hr ht he
      go_wp2_with fail
      refine CI.out.mono ?_
      rintro e w2 ⟨rfl, b2⟩
      have B2 : Hid (Below w.heap.size w w2) := B1.out.trans (b2.mono B1.out.size)
      clear b2
      go_wp2_with fail
      refine (CS.out _).mono ?_
      rintro e w3 ⟨rfl, rfl⟩
      go_wp2_with fail
      refine (CM.out _).mono ?_
      rintro e w4 ⟨rfl, b4⟩
      have B4 : Hid (Below w.heap.size w w4) := B2.out.trans (b4.mono B2.out.size)
      clear b4
      go_wp2_with fail
      refine (CE.out _).mono ?_
      rintro e w5 ⟨rfl, b5⟩
      have B5 : Hid (Below w.heap.size w w5) := B4.out.trans (b5.mono B4.out.size)
      clear b5
      go_wp2
      go_ret
      exact ⟨rfl, B5.out⟩
end Go.Proofs.Ytlilmphbjmjpdaa

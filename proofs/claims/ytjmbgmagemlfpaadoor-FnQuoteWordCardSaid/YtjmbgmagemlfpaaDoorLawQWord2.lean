/- The walk of the law FnQuoteWord. -/
import Derived.Test.YtjmbgmagemlfpaaDoorOrdP
import Derived.Test.YtjmbgmagemlfpaaDoorWord1
import Derived.Test.YtjmbgmagemlfpaaDoorAlive
namespace Go.Proofs.YtjmbgmagemlfpaaDoor
open Go.RowKit

def DrawStrW (w : World) (m : Nat) (e : Ending) (w' : World) : Prop :=
  ∃ s : ByteArray, e = .returned (.string s) ∧ s.size ≤ m ∧ Below w.heap.size w w'
theorem draw_QuoteWord (w : World) (a : Option Addr) (n c : Nat) (f : Nat → UInt8) (hb : BytesAt w a n f) (hc : n ≤ c) (hc' : c ≤ 9223372036854775807) :
    Calls Tryd.prog 15 #[.slice a n c] w (DrawStrW w 12) := by
  have HB := Lib.hid hb; clear hb
  go_enter Tryd.func15, Tryd.ntmps15
  go_wp2_with fail
  refine (open_any _ _ _ _ _ HB.out hc hc').mono ?_
  rintro e w1 ⟨rfl, hb1, hr1⟩
  have HB1 := Lib.hid hb1
  clear hb1 HB
  go_wp2_with fail
  refine (word_any _ _ _ _ hr1 (by omega) (by omega) (by omega)).mono ?_
  rintro e w2 ⟨x, rfl, hx, hg2, hr2⟩
  have HB2 := Lib.hid (HB1.out.trans (below_of_grown hg2 HB1.out.size (by intro q hq; injection hq with hq; omega)))
  clear hr1 hg2 hr2
  go_wp2
  go_ret
  exact ⟨x, rfl, hx, HB2.out⟩

set_option maxRecDepth 100000 in
set_option maxHeartbeats 800000 in
theorem walk_FnQuoteWord (a : Option Addr) (n c : Nat) (z : List Int) (w : World) (hrow : IsRow .u8 w a n c z) (hm : MaxOk w) :
    Calls Tryd.prog 5 #[.slice a n c] w fun e w' => e = .returned (.bool true) ∧ Below w.heap.size w w' := by
  have hcap := hrow.caps
  have hby := Lib.hid hrow.bytes
  have HM := Lib.hid hm
  clear hrow hm
  by_cases hn : 1048576 < n
  · go_enter Tryd.func5, Tryd.ntmps5
    go_wp2
    go_ret
    exact ⟨rfl, Below.refl _ _⟩
  · go_enter Tryd.func5, Tryd.ntmps5
    go_wp2_with fail
    refine (draw_QuoteWord _ _ _ _ _ hby.out hcap.1 hcap.2).mono ?_
    rintro e w1 ⟨s, rfl, hs, b1⟩
    have B1 := Lib.hid b1
    have HM1 := Lib.hid (HM.out.below b1)
    clear b1 hby hcap hn HM
    have CS : Hid (∀ W, Calls Tryd.prog 8 #[.string s] W fun e w' => e = .returned (.string (mkS (qwR (bl s)))) ∧ W = w') := fun W => spec_QuoteWord s W (by omega)
    have CI : Hid (∀ W, MaxOk W → Calls Tryd.prog 9 #[.string s] W fun e w' => e = .returned (.string (mkS (qwR (bl s)))) ∧ Below W.heap.size W w') := fun W h => impl_QuoteWord s W (by omega) h
    have CT := fun W' => impl_TextValid s W' (by omega)
    have CP : Hid (∀ W, Calls Tryd.prog 18 #[.string (mkS (qwR (bl s)))] W (StrsOk W (splitR (qwR (bl s))))) := fun W => by
      have h := impl_SplitOrder (mkS (qwR (bl s))) W (by rw [mkS_size]; have := qwR_len (bl s); omega)
      rwa [bl_mkS] at h
    have hno := @qwR_no (bl s)
    have hye := @splitR_word (bl s)
    rw [mkS_bl] at hye
    rcases ht : textB (bl s) with _ | _
    · have hy : Hid (mkS (qwR (bl s)) = ⟨#[]⟩) := by rw [hno ht]; rfl
      rw [ht] at CT
      have CT' := Lib.hid CT
      clear CT hno hye CP ht
      generalize mkS (qwR (bl s)) = y at *
      go_wp2_with fail
      refine (CI.out _ HM1.out).mono ?_
      rintro e w2 ⟨rfl, b2⟩
      have B2 := Lib.hid (B1.out.trans (b2.mono B1.out.size))
      clear b2
      go_wp2_with fail
      refine (CS.out _).mono ?_
      rintro e w3 ⟨rfl, rfl⟩
      go_wp2_with fail
      refine (CT'.out _).mono ?_
      rintro e w3 ⟨rfl, rfl⟩
      clear CS CI
      obtain rfl := hy.out
      go_wp2_with (go_at_call 17; refine (alive_any _).mono ?_; rintro e w5 ⟨rfl, b5⟩)
      go_ret
      exact ⟨rfl, B2.out.trans (b5.mono B2.out.size)⟩
    · have hye' := hye ht
      rw [ht] at CT
      have CT' := Lib.hid CT
      rw [hye'] at CP
      clear CT hno hye hye' ht
      generalize mkS (qwR (bl s)) = y at *
      go_wp2_with fail
      refine (CI.out _ HM1.out).mono ?_
      rintro e w2 ⟨rfl, b2⟩
      have B2 := Lib.hid (B1.out.trans (b2.mono B1.out.size))
      clear b2
      go_wp2_with fail
      refine (CS.out _).mono ?_
      rintro e w3 ⟨rfl, rfl⟩
      go_wp2_with fail
      refine (CT'.out _).mono ?_
      rintro e w3 ⟨rfl, rfl⟩
      go_wp2_with fail
      refine (CP.out _).mono ?_
      rintro e w4 ⟨v4, rfl, o4, b4⟩
      obtain ⟨a4, c4, rfl, _, k4, k4', _⟩ := own_formn o4
      have B4 := Lib.hid (B2.out.trans (b4.mono B2.out.size))
      have O4 := Lib.hid o4
      clear o4 b4
      have CM : Hid (∀ W, RowAt W a4 ([s].map strV) → ∀ b, RowAt W b ([s].map strV) → Calls Tryd.prog 19 #[.slice a4 1 c4, .slice b 1 1] W fun e w' => e = .returned (.bool true) ∧ Below W.heap.size W w') := fun W h1 b h2 => by
        have := sameTexts_any a4 b 1 1 c4 1 [s] [s] W h1 h2 rfl rfl (by omega)
        simpa only [decide_true] using this
      go_wp2_with fail
      refine (CM.out _ (own_formn_row (own_below O4.out ((Below.refl _ _).alloc (Nat.le_refl _) _))) _ (own_formn_row (own_new w4 #[.string s] 9 1 rfl (by omega)))).mono ?_
      rintro e w5 ⟨rfl, b5⟩
      go_wp2
      go_ret
      exact ⟨rfl, (B4.out.alloc B4.out.size _).trans (b5.mono (by rw [World.size_alloc]; have := B4.out.size; omega))⟩
end Go.Proofs.YtjmbgmagemlfpaaDoor

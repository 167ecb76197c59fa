/- The walk of the law FnExactTableMarkup. -/
import Derived.Test.YtdoomfckdjjlaaaMark
namespace Go.Proofs.Ytdoomfckdjjlaaa
open Go.RowKit

set_option maxRecDepth 100000 in
set_option maxHeartbeats 1600000 in
theorem walk_FnExactTableMarkup (a : Option Addr) (n c : Nat) (T : List (List ByteArray)) (w : World) (hz : IsTabs w a n c T) :
    Calls Try.prog 7 #[.slice a n c] w fun e w' => e = .returned (.bool true) ∧ Below w.heap.size w w' := by
  obtain ⟨hn, hnc, hcm, hat, hok⟩ := hz
  have hcm' : c ≤ 9223372036854775807 := by simpa [maxLen] using hcm
  have CZ := Lib.hid (szStringSS_any a n c T 1048576 w hat hn (by omega) hok.2 (by omega) (by omega))
  have HSZ := Lib.hid (fun (h : 0 ≤ szTabs T ((1048576 : Nat) : Int)) => szTabs_yes h)
  have HAT := Lib.hid hat
  have HN := Lib.hid hn
  clear hat hok hcm
  by_cases hlt : szTabs T 1048576 < 0
  · go_enter Try.func7, Try.ntmps7
    go_wp2_with (refine CZ.out.mono ?_; rintro e w1 ⟨rfl, rfl⟩)
    go_ret
    exact ⟨rfl, Below.refl _ _⟩
  · have hT : TabOkN 1048576 T := HSZ.out (by have : ((1048576 : Nat) : Int) = 1048576 := rfl; rw [this]; omega)
    have hn6 : n ≤ 1048576 := by rw [← hn]; exact hT.1
    have CT := Lib.hid (fun W (h : TabsAt W 0 a T) => toStringSS_any a n c T W h hn hn6 hT)
    have CI := Lib.hid (fun a' c' W (h : TabsAt W 0 a' T) => impl_TableMarkup a' n c' T W h hn hn6 ⟨by have := hT.1; omega, fun r hr => ⟨by have := (hT.2 r hr).1; omega, fun t ht => by have := (hT.2 r hr).2 t ht; omega⟩⟩)
    have CS := Lib.hid (fun a' c' W (h : TabsAt W 0 a' T) => spec_TableMarkup a' n c' T W h hn hn6 hT)
    have CE := Lib.hid (fun a1 a2 c1 c2 W (h1 : TabsAt W 0 a1 T) (h2 : TabsAt W 0 a2 T) => eqStringSS_any a1 a2 n c1 c2 T W h1 h2 hn hn6 hT)
    generalize markR T = R at *
    obtain ⟨RS, RB⟩ := R
    simp only at CI CS
    clear hn hT HSZ
    generalize szTabs T 1048576 = sz at *
    go_enter Try.func7, Try.ntmps7
    go_wp2_with fail
    refine CZ.out.mono ?_
    rintro e w0 ⟨rfl, rfl⟩
    go_wp2_with fail
    refine (CT.out _ HAT.out).mono ?_
    rintro e w1 ⟨v1, l1, rfl, o1, d1, b1⟩
    obtain ⟨a1, c1, rfl, _, _, hat1⟩ := tabs_own o1 d1 HN.out
    have B1 := Lib.hid b1
    have A1 := Lib.hid (hat1.mono (Nat.zero_le _))
    clear o1 d1 b1 hat1
    go_wp2_with fail
    refine (CS.out _ _ _ A1.out).mono ?_
    rintro e w2 ⟨rfl, b2⟩
    have B2 := Lib.hid (B1.out.trans (b2.mono B1.out.size))
    clear b2 A1 B1
    go_wp2_with fail
    refine (CT.out _ (HAT.out.below B2.out)).mono ?_
    rintro e w3 ⟨v3, l3, rfl, o3, d3, b3⟩
    obtain ⟨a3, c3, rfl, _, _, hat3⟩ := tabs_own o3 d3 HN.out
    have A3 := Lib.hid (hat3.mono (Nat.zero_le _))
    have B3 := Lib.hid (B2.out.trans (b3.mono B2.out.size))
    clear o3 d3 b3 hat3 B2
    go_wp2_with fail
    refine (CI.out _ _ _ A3.out).mono ?_
    rintro e w4 ⟨rfl, b4⟩
    have A4 := Lib.hid (A3.out.below b4)
    have B4 := Lib.hid (B3.out.trans (b4.mono B3.out.size))
    clear b4 A3 B3
    go_wp2_with fail
    refine (CT.out _ (HAT.out.below B4.out)).mono ?_
    rintro e w5 ⟨v5, l5, rfl, o5, d5, b5⟩
    obtain ⟨a5, c5, rfl, _, _, hat5⟩ := tabs_own o5 d5 HN.out
    have A5 := Lib.hid (hat5.mono (Nat.zero_le _))
    have A45 := Lib.hid (A4.out.below b5)
    have B5 := Lib.hid (B4.out.trans (b5.mono B4.out.size))
    clear o5 d5 b5 hat5 B4 A4
    go_wp2_with fail
    refine (CE.out _ _ _ _ _ A45.out A5.out).mono ?_
    rintro e w6 ⟨rfl, b6⟩
    have B6 := Lib.hid (B5.out.trans (b6.mono B5.out.size))
    clear b6
    go_wp2
    go_ret
    exact ⟨rfl, B6.out⟩
end Go.Proofs.Ytdoomfckdjjlaaa

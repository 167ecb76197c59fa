/- The walks of the laws FnPointsBytes and FnPointsOf. -/
import Derived.Test.YtfefgnehbpfonaaPtDraw3
import Derived.Test.YtfefgnehbpfonaaPtPlain2
import Derived.Test.YtfefgnehbpfonaaSameInts
import Derived.Test.YtfefgnehbpfonaaLawPb
namespace Go.Proofs.Ytfefgnehbpfonaa
open Go.RowKit

set_option maxRecDepth 100000 in
set_option maxHeartbeats 1600000 in
theorem walk_FnPointsBytes (a : Option Addr) (n c : Nat) (z : List Int) (w : World) (hrow : IsRow .u8 w a n c z) :
    Calls Try.prog 12 #[.slice a n c] w fun e w' => e = .returned (.bool true) ∧ Below w.heap.size w w' := by
  have hcap := hrow.caps
  have hby := Lib.hid hrow.bytes
  clear hrow
  by_cases hn : 1048576 < n
  · go_enter Try.func12, Try.ntmps12
    go_wp2
    go_ret
    exact ⟨rfl, Below.refl _ _⟩
  · go_enter Try.func12, Try.ntmps12
    go_wp2_with fail
    refine (draw_PointsBytes _ _ _ _ _ hby.out hcap.1 hcap.2).mono ?_
    rintro e w1 ⟨v1, l, rfl, hl, hbd, o1, b1⟩
    obtain ⟨a1, c1, rfl, r1, k1, k1', _⟩ := own_formn o1
    have B1 := Lib.hid b1; have R1 := Lib.hid r1; have BD := Lib.hid hbd
    clear b1 hby hcap hn o1 r1 hbd
    have CI := Lib.hid (impl_PointsBytes a1 l.length c1 l w1 (ints_of R1.out rfl BD.out) rfl (by omega))
    have CS : Hid (∀ W, Below w1.heap.size w1 W → Calls Try.prog 29 #[.slice a1 l.length c1] W (BytesOk W (pbT l []))) := fun W hW => spec_PointsBytes a1 l.length c1 l W (ints_of (R1.out.below (Nat.le_refl _) hW) rfl BD.out) rfl (by omega)
    have hle := pbT_len l []
    rcases hr : pbT l [] with ⟨r, ok⟩
    rw [hr] at CI CS hle
    change r.length ≤ 600 at hle
    cases ok
    · have hnil : r = [] := by have := pbT_false l [] (by rw [hr]); rw [hr] at this; exact this
      subst hnil
      clear hr
      go_wp2_with fail
      refine CI.out.mono ?_
      rintro e w2 ⟨v2, rfl, o2, b2⟩
      obtain ⟨a2, c2, rfl, _, k2, k2', _⟩ := own_formn o2
      have B2 := Lib.hid b2
      clear o2 b2
      go_wp2_with fail
      refine (CS.out _ B2.out).mono ?_
      rintro e w3 ⟨v3, rfl, o3, b3⟩
      obtain ⟨a3, c3, rfl, _, k3, k3', _⟩ := own_formn o3
      have B3 : Hid (Below w1.heap.size w1 w3) := B2.out.trans (b3.mono B2.out.size)
      clear o3 b3
      have kd2 := conv_row w3 a2 0 c2 [] RowAt.nil rfl
      have kd3 := conv_row w3 a3 0 c3 [] RowAt.nil rfl
      go_wp2_with (go_at_call 20; refine (alive_any _).mono ?_; rintro e w4 ⟨rfl, b4⟩)
      go_ret
      have C3 := B1.out.trans (B3.out.mono B1.out.size)
      exact ⟨rfl, C3.trans (b4.mono C3.size)⟩
    · have hback := poB_of_pbT hr
      clear hr
      go_wp2_with fail
      refine CI.out.mono ?_
      rintro e w2 ⟨v2, rfl, o2, b2⟩
      change w2.ownsRow w1.heap.size 5 1 v2 r.length (r.map byteV) at o2
      obtain ⟨a2, c2, rfl, _, k2, k2', _⟩ := own_formn o2
      have B2 := Lib.hid b2; have O2 := Lib.hid o2
      clear o2 b2
      go_wp2_with fail
      refine (CS.out _ B2.out).mono ?_
      rintro e w3 ⟨v3, rfl, o3, b3⟩
      change w3.ownsRow w2.heap.size 5 1 v3 r.length (r.map byteV) at o3
      obtain ⟨a3, c3, rfl, _, k3, k3', _⟩ := own_formn o3
      have B3 : Hid (Below w1.heap.size w1 w3) := B2.out.trans (b3.mono B2.out.size)
      have O23 := Lib.hid (own_below O2.out b3)
      have O3 := Lib.hid o3
      clear o3 b3
      have kd2 := conv_row w3 a2 r.length c2 r (own_formn_row O23.out) rfl
      have kd3 := conv_row w3 a3 r.length c3 r (own_formn_row O3.out) rfl
      have CO := impl_PointsOf a2 r.length c2 r w3 (own_formn_row O23.out) rfl k2 k2' (by omega)
      rw [hback] at CO
      have CO' := Lib.hid CO
      clear CO hback
      go_wp2_with fail
      clear kd2 kd3
      refine CO'.out.mono ?_
      rintro e w4 ⟨v4, rfl, o4, b4⟩
      change w4.ownsRow w3.heap.size 3 1 v4 l.length (l.map intV) at o4
      obtain ⟨a4, c4, rfl, _, k4, k4', _⟩ := own_formn o4
      have B4 : Hid (Below w1.heap.size w1 w4) := B3.out.trans (b4.mono B3.out.size)
      have O4 := Lib.hid o4
      clear o4 b4
      go_wp2_with (go_at_call 39; refine (sameIntS_any _ _ _ _ _ _ l l _ (own_formn_row O4.out) (R1.out.below (Nat.le_refl _) B4.out) rfl rfl (by omega)).mono ?_; rintro e w5 ⟨rfl, b5⟩)
      go_ret
      have C4 := B1.out.trans (B4.out.mono B1.out.size)
      exact ⟨rfl, C4.trans (b5.mono C4.size)⟩
end Go.Proofs.Ytfefgnehbpfonaa

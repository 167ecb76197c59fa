/- The walk of the law FnPointsOf. -/
import Derived.Test.YtfefgnehbpfonaaPtDraw3
import Derived.Test.YtfefgnehbpfonaaPtPlain2
import Derived.Test.YtfefgnehbpfonaaSameInts
import Derived.Test.YtfefgnehbpfonaaLawPb
namespace Go.Proofs.Ytfefgnehbpfonaa
open Go.RowKit

theorem ptB_i64 {l : List Int} (h : ∀ n ∈ l, ptB n = true) : ∀ i, i < l.length → -9223372036854775808 ≤ l.getD i 0 ∧ l.getD i 0 ≤ 9223372036854775807 := by
  intro i hi
  have e : l.getD i 0 = l[i] := by simp [List.getD_eq_getElem?_getD, hi]
  have := ptB_t.1 (h l[i] (List.getElem_mem hi))
  rw [e]
  omega

theorem poB_valid {b : List UInt8} {l : List Int} (h : poB b = (l, true)) : ∀ n ∈ l, ptB n = true := by
  have := (pbT_of_poB h).1
  exact (pbT_inv l [] b this).2.1

set_option maxRecDepth 100000 in
set_option maxHeartbeats 1600000 in
theorem walk_FnPointsOf (a : Option Addr) (n c : Nat) (z : List Int) (w : World) (hrow : IsRow .u8 w a n c z) :
    Calls Try.prog 14 #[.slice a n c] w fun e w' => e = .returned (.bool true) ∧ Below w.heap.size w w' := by
  have hcap := hrow.caps
  have hby := Lib.hid hrow.bytes
  clear hrow
  by_cases hn : 1048576 < n
  · go_enter Try.func14, Try.ntmps14
    go_wp2
    go_ret
    exact ⟨rfl, Below.refl _ _⟩
  · go_enter Try.func14, Try.ntmps14
    go_wp2_with fail
    refine (draw_PointsOf _ _ _ _ _ hby.out hcap.1 hcap.2).mono ?_
    rintro e w1 ⟨v1, b, rfl, hl, o1, b1⟩
    obtain ⟨a1, c1, rfl, r1, k1, k1', _⟩ := own_formn o1
    have B1 := Lib.hid b1; have R1 := Lib.hid r1
    clear b1 hby hcap hn o1 r1
    have CI := Lib.hid (impl_PointsOf a1 b.length c1 b w1 R1.out rfl k1 k1' (by omega))
    have CS : Hid (∀ W, Below w1.heap.size w1 W → Calls Try.prog 40 #[.slice a1 b.length c1] W (IntsOk W (poB b))) := fun W hW => spec_PointsOf a1 b.length c1 b W (R1.out.below (Nat.le_refl _) hW) rfl (by omega)
    have hle := poB_len b
    rcases hr : poB b with ⟨r, ok⟩
    rw [hr] at CI CS hle
    change r.length ≤ 600 at hle
    cases ok
    · have hnil : r = [] := by have := poB_false (b := b) (by rw [hr]); rw [hr] at this; exact this
      subst hnil
      clear hr
      go_wp2_with fail
      refine CI.out.mono ?_
      rintro e w2 ⟨v2, rfl, o2, b2⟩
      obtain ⟨a2, c2, rfl, _, k2, k2', _⟩ := own_formn o2
      have B2 := Lib.hid b2
      clear o2 b2
      go_wp2_with fail
      refine (CS.out _ B2.out).mono ?_
      rintro e w3 ⟨v3, rfl, o3, b3⟩
      obtain ⟨a3, c3, rfl, _, k3, k3', _⟩ := own_formn o3
      have B3 : Hid (Below w1.heap.size w1 w3) := B2.out.trans (b3.mono B2.out.size)
      clear o3 b3
      go_wp2_with fail
      refine (sameIntS_any a2 a3 0 0 c2 c3 [] [] _ RowAt.nil RowAt.nil rfl rfl (by omega)).mono ?_
      rintro e w4 ⟨rfl, b4⟩
      have B4 : Hid (Below w1.heap.size w1 w4) := B3.out.trans (b4.mono B3.out.size)
      clear b4
      go_wp2_with (go_at_call 20; refine (alive_any _).mono ?_; rintro e w5 ⟨rfl, b5⟩)
      go_ret
      have C4 := B1.out.trans (B4.out.mono B1.out.size)
      exact ⟨rfl, C4.trans (b5.mono C4.size)⟩
    · have hval := ptB_i64 (poB_valid hr)
      obtain ⟨hback, hlen⟩ := pbT_of_poB hr
      have HV := Lib.hid hval
      clear hr hval
      go_wp2_with fail
      refine CI.out.mono ?_
      rintro e w2 ⟨v2, rfl, o2, b2⟩
      change w2.ownsRow w1.heap.size 3 1 v2 r.length (r.map intV) at o2
      obtain ⟨a2, c2, rfl, _, k2, k2', _⟩ := own_formn o2
      have B2 := Lib.hid b2; have O2 := Lib.hid o2
      clear o2 b2
      go_wp2_with fail
      refine (CS.out _ B2.out).mono ?_
      rintro e w3 ⟨v3, rfl, o3, b3⟩
      change w3.ownsRow w2.heap.size 3 1 v3 r.length (r.map intV) at o3
      obtain ⟨a3, c3, rfl, _, k3, k3', _⟩ := own_formn o3
      have B3 : Hid (Below w1.heap.size w1 w3) := B2.out.trans (b3.mono B2.out.size)
      have O23 := Lib.hid (own_below O2.out b3)
      have O3 := Lib.hid o3
      clear o3 b3
      go_wp2_with fail
      refine (sameIntS_any _ _ _ _ _ _ r r _ (own_formn_row O23.out) (own_formn_row O3.out) rfl rfl (by omega)).mono ?_
      rintro e w4 ⟨rfl, b4⟩
      have B4 : Hid (Below w1.heap.size w1 w4) := B3.out.trans (b4.mono B3.out.size)
      have O24 := Lib.hid (own_below O23.out b4)
      clear b4
      have CO := impl_PointsBytes a2 r.length c2 r w4 (ints_of (own_formn_row O24.out) rfl HV.out) rfl (by omega)
      rw [hback] at CO
      have CO' := Lib.hid CO
      clear CO hback
      go_wp2_with fail
      refine CO'.out.mono ?_
      rintro e w5 ⟨v5, rfl, o5, b5⟩
      change w5.ownsRow w4.heap.size 5 1 v5 b.length (b.map byteV) at o5
      obtain ⟨a5, c5, rfl, _, k5, k5', _⟩ := own_formn o5
      have B5 : Hid (Below w1.heap.size w1 w5) := B4.out.trans (b5.mono B4.out.size)
      have kd5 := conv_row w5 a5 b.length c5 b (own_formn_row o5) rfl
      have kd1 := conv_row w5 a1 b.length c1 b (R1.out.below (Nat.le_refl _) B5.out) rfl
      clear o5 b5
      have hd : decide (r.length ≤ b.length) = true := by simp [hlen]
      go_wp2
      go_ret
      exact ⟨rfl, B1.out.trans (B5.out.mono B1.out.size)⟩
end Go.Proofs.Ytfefgnehbpfonaa

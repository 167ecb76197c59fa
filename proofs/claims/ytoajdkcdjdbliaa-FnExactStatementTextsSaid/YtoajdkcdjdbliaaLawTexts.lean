/- The walk of the law FnExactStatementTexts. -/
import Derived.Test.YtoajdkcdjdbliaaCutI
namespace Go.Proofs.Ytoajdkcdjdbliaa
open Go.RowKit

set_option maxRecDepth 100000 in
set_option maxHeartbeats 1600000 in
theorem walk_FnExactStatementTexts (s : ByteArray) (w : World) (hs : s.size ≤ maxLen) :
    Calls Try.prog 4 #[.string s] w fun e w' => e = .returned (.bool true) ∧ Below w.heap.size w w' := by
  unfold maxLen at hs
  by_cases hn : 1048576 < s.size
  · go_enter Try.func4, Try.ntmps4
    go_wp2
    go_ret
    exact ⟨rfl, Below.refl _ _⟩
  · have CS : Hid (∀ W, Calls Try.prog 8 #[.string s] W (StrsOk W (textsR (bl s)))) := fun W => spec_StatementTexts s W (by omega)
    have CI : Hid (∀ W, Calls Try.prog 9 #[.string s] W (StrsOk W (textsR (bl s)))) := fun W => impl_StatementTexts s W (by omega)
    have hle := textsR_len (bl s)
    generalize textsR (bl s) = r at CS CI hle
    go_enter Try.func4, Try.ntmps4
    go_wp2_with fail
    refine (CS.out _).mono ?_
    rintro e w1 ⟨v1, rfl, o1, b1⟩
    obtain ⟨aw, cw, rfl, r1, kwx, kwy, g1⟩ := own_formn o1
    have B1 : Hid (Below w.heap.size w w1) := b1
    have S1 := Lib.hid b1.size
    have Ow_1 := Lib.hid o1
    have Mw := Lib.hid o1
    clear o1 r1 b1 g1
    go_wp2_with fail
    refine (CI.out _).mono ?_
    rintro e w2 ⟨v2, rfl, o2, b2⟩
    obtain ⟨ag, cg, rfl, r2, kgx, kgy, g2⟩ := own_formn o2
    have B2 : Hid (Below w.heap.size w w2) := B1.out.trans (b2.mono B1.out.size)
    have S2 := Lib.hid b2.size
    have Ow_2 := Lib.hid (own_below Ow_1.out b2)
    have Og_2 := Lib.hid o2
    have Mg := Lib.hid o2
    clear o2 r2 b2 g2
    go_wp2_with fail
    refine (eqStringS_any _ _ _ _ _ _ r.1 r.1 _ (own_formn_row Og_2.out) (own_formn_row Ow_2.out) rfl rfl (by omega)).mono ?_
    rintro e w3 ⟨rfl, b3⟩
    have B3 : Hid (Below w.heap.size w w3) := B2.out.trans (b3.mono B2.out.size)
    have S3 := Lib.hid b3.size
    have Ow_3 := Lib.hid (own_below Ow_2.out b3)
    have Og_3 := Lib.hid (own_below Og_2.out b3)
    clear b3
    go_wp2_with fail
    refine (markStringS_one _ _ _ _ _ Og_3.out (by omega)).mono ?_
    rintro e w4 ⟨rfl, o4, h4⟩
    have Ow_4 := Lib.hid (own_other Ow_3.out h4 (fun q hq e => by
      have x1 := own_ge Mw.out q hq
      have x2 := own_ge Mg.out q (by rw [← e])
      have := S1.out; have := S2.out; have := S3.out; omega))
    have Og_4 := Lib.hid o4
    have B4 : Hid (Below w.heap.size w w4) := B3.out.grown h4 (by have := B3.out.size; omega) (fun q hq => by have x2 := own_ge Mg.out q hq; have := S1.out; have := S2.out; have := S3.out; omega)
    have S4 := Lib.hid h4.size
    clear o4 h4
    go_wp2_with fail
    refine (heldStringS_one _ _ _ _ (own_formn_row Og_4.out) (by omega)).mono ?_
    rintro e w5 ⟨rfl, b5⟩
    have B5 : Hid (Below w.heap.size w w5) := B4.out.trans (b5.mono B4.out.size)
    have S5 := Lib.hid b5.size
    have Ow_5 := Lib.hid (own_below Ow_4.out b5)
    have Og_5 := Lib.hid (own_below Og_4.out b5)
    clear b5
    go_wp2_with fail
    refine (CI.out _).mono ?_
    rintro e w6 ⟨v6, rfl, o6, b6⟩
    obtain ⟨ah, ch, rfl, r6, khx, khy, g6⟩ := own_formn o6
    have B6 : Hid (Below w.heap.size w w6) := B5.out.trans (b6.mono B5.out.size)
    have S6 := Lib.hid b6.size
    have Ow_6 := Lib.hid (own_below Ow_5.out b6)
    have Og_6 := Lib.hid (own_below Og_5.out b6)
    have Oh_6 := Lib.hid o6
    have Mh := Lib.hid o6
    clear o6 r6 b6 g6
    go_wp2_with fail
    refine (eqStringS_any _ _ _ _ _ _ r.1 r.1 _ (own_formn_row Oh_6.out) (own_formn_row Ow_6.out) rfl rfl (by omega)).mono ?_
    rintro e w7 ⟨rfl, b7⟩
    have B7 : Hid (Below w.heap.size w w7) := B6.out.trans (b7.mono B6.out.size)
    have S7 := Lib.hid b7.size
    have Ow_7 := Lib.hid (own_below Ow_6.out b7)
    have Og_7 := Lib.hid (own_below Og_6.out b7)
    have Oh_7 := Lib.hid (own_below Oh_6.out b7)
    clear b7
    go_wp2_with fail
    refine (heldStringS_one _ _ _ _ (own_formn_row Og_7.out) (by omega)).mono ?_
    rintro e w8 ⟨rfl, b8⟩
    have B8 : Hid (Below w.heap.size w w8) := B7.out.trans (b8.mono B7.out.size)
    have S8 := Lib.hid b8.size
    have Ow_8 := Lib.hid (own_below Ow_7.out b8)
    have Og_8 := Lib.hid (own_below Og_7.out b8)
    have Oh_8 := Lib.hid (own_below Oh_7.out b8)
    clear b8
    go_wp2
    go_ret
    exact ⟨rfl, B8.out⟩
end Go.Proofs.Ytoajdkcdjdbliaa

/- The walk of the law FnFillStatement. -/
import Derived.Test.YtoajdkcdjdbliaaDoorFillS
import Derived.Test.YtoajdkcdjdbliaaDoorFillQ
import Derived.Test.YtoajdkcdjdbliaaDoorFillDraw
import Derived.Test.YtoajdkcdjdbliaaDoorShpI
import Derived.Test.YtoajdkcdjdbliaaDoorAlive
namespace Go.Proofs.YtoajdkcdjdbliaaDoor
open Go.RowKit

theorem fillR_size (l : List UInt8) (T : List (List UInt8)) : (fillR l T).1.size ≤ 600 := by
  unfold fillR
  split
  · rename_i h
    have := (fillOk_iff.1 h).2.2.2.2.2.2
    unfold textB at this
    rw [Bool.and_eq_true, decide_eq_true_iff] at this
    rw [mkS_size]; exact this.1
  · exact Nat.zero_le _
theorem fillR_fail {l : List UInt8} {T : List (List UInt8)} (h : (fillR l T).2 = false) : (fillR l T).1 = ⟨#[]⟩ := by
  unfold fillR at h ⊢
  split
  · rename_i h2; rw [if_pos h2] at h; cases h
  · rfl
theorem fillR_back {l : List UInt8} {T : List (List UInt8)} (h : (fillR l T).2 = true) : shapeR (bl (fillR l T).1) = (l, true) ∧ textsR (bl (fillR l T).1) = (T.map mkS, true) := by
  have h2 : fillOk l T = true := by
    rcases hb : fillOk l T with _ | _
    · rw [fillR_no hb] at h; cases h
    · rfl
  rw [fillR_yes h2, bl_mkS]
  exact fill_back h2

set_option maxRecDepth 100000 in
set_option maxHeartbeats 1600000 in
theorem walk_FnFillStatement (a : Option Addr) (n c : Nat) (z : List Int) (w : World) (hrow : IsRow .u8 w a n c z) (hm : MaxOk w) :
    Calls Tryd.prog 7 #[.slice a n c] w fun e w' => e = .returned (.bool true) ∧ Below w.heap.size w w' := by
  have hcap := hrow.caps
  have hby := Lib.hid hrow.bytes
  have HM := Lib.hid hm
  clear hrow hm
  by_cases hn : 1048576 < n
  · go_enter Tryd.func7, Tryd.ntmps7
    go_wp2
    go_ret
    exact ⟨rfl, Below.refl _ _⟩
  · go_enter Tryd.func7, Tryd.ntmps7
    go_wp2_with fail
    refine (draw_FillStatement _ _ _ _ _ hby.out hcap.1 hcap.2).mono ?_
    rintro e w1 ⟨s, v, T, rfl, hs, hTl, hT, o1, b1⟩
    obtain ⟨a1, c1, rfl, _, k1, k1', _⟩ := own_formn o1
    have B1 := Lib.hid b1
    have O1 := Lib.hid o1
    have HM1 := Lib.hid (HM.out.below b1)
    have HT : Hid (∀ s ∈ T, s.size ≤ 1048576) := fun s hs => by have := hT s hs; omega
    clear b1 o1 hby hcap hn HM hT
    have hsz := fillR_size (bl s) (T.map bl)
    have HF := Lib.hid (@fillR_fail (bl s) (T.map bl))
    have HK := Lib.hid (@fillR_back (bl s) (T.map bl))
    have CS : Hid (∀ W, RowAt W a1 (T.map strV) → Calls Tryd.prog 16 #[.string s, .slice a1 T.length c1] W fun e w' => e = .returned (.tuple #[.string (fillR (bl s) (T.map bl)).1, .bool (fillR (bl s) (T.map bl)).2]) ∧ W = w') := fun W h => spec_FillStatement s a1 _ c1 T W h rfl (by omega) (by omega) HT.out
    have CI : Hid (∀ W, RowAt W a1 (T.map strV) → MaxOk W → Calls Tryd.prog 18 #[.string s, .slice a1 T.length c1] W (TupOk W (fillR (bl s) (T.map bl)))) := fun W h h2 => impl_FillStatement s a1 _ c1 T W h rfl (by omega) (by omega) HT.out h2
    generalize fillR (bl s) (T.map bl) = r at *
    obtain ⟨y, ok⟩ := r
    simp only at hsz
    go_wp2_with fail
    refine (CI.out _ (own_formn_row O1.out) HM1.out).mono ?_
    rintro e w2 ⟨rfl, b2⟩
    have B2 := Lib.hid (B1.out.trans (b2.mono B1.out.size))
    have O2 := Lib.hid (own_below O1.out b2)
    clear b2 O1 CI HM1
    go_wp2_with fail
    refine (CS.out _ (own_formn_row O2.out)).mono ?_
    rintro e w3 ⟨rfl, rfl⟩
    clear CS
    cases ok
    · obtain rfl : y = ⟨#[]⟩ := HF.out rfl
      go_wp2_with (go_at_call 12; refine (alive_any _).mono ?_; rintro e w5 ⟨rfl, b5⟩)
      go_ret
      exact ⟨rfl, B2.out.trans (b5.mono B2.out.size)⟩
    · obtain ⟨hk1, hk2⟩ := HK.out rfl
      have CH : Hid (∀ W, Calls Tryd.prog 21 #[.string y] W fun e w' => e = .returned (.tuple #[.string s, .bool true]) ∧ Below W.heap.size W w') := fun W => by
        have h := impl_StatementShape y W (by omega)
        rw [hk1] at h
        refine h.mono ?_
        rintro e w' ⟨rfl, hb⟩
        exact ⟨by rw [mkS_bl], hb⟩
      have CT : Hid (∀ W, Calls Tryd.prog 13 #[.string y] W (StrsOk W (T, true))) := fun W => by
        have h := impl_StatementTexts y W (by omega)
        have e : (T.map bl).map mkS = T := by
          rw [List.map_map]
          conv => rhs; rw [← List.map_id T]
          exact List.map_congr_left fun t _ => mkS_bl t
        rwa [hk2, e] at h
      clear hk1 hk2 HK HF
      go_wp2_with fail
      refine (CH.out _).mono ?_
      rintro e w4 ⟨rfl, b4⟩
      have B4 := Lib.hid (B2.out.trans (b4.mono B2.out.size))
      have O4 := Lib.hid (own_below O2.out b4)
      clear b4 O2 CH
      go_wp2_with fail
      refine (CT.out _).mono ?_
      rintro e w5 ⟨v5, rfl, o5, b5⟩
      obtain ⟨a5, c5, rfl, _, k5, k5', _⟩ := own_formn o5
      have B5 := Lib.hid (B4.out.trans (b5.mono B4.out.size))
      have O45 := Lib.hid (own_below O4.out b5)
      have O5 := Lib.hid o5
      clear b5 o5 O4 CT
      have CM : Hid (∀ W, RowAt W a5 (T.map strV) → RowAt W a1 (T.map strV) → Calls Tryd.prog 14 #[.slice a5 T.length c5, .slice a1 T.length c1] W fun e w' => e = .returned (.bool true) ∧ Below W.heap.size W w') := fun W h1 h2 => by
        have := sameTexts_any a5 a1 T.length T.length c5 c1 T T W h1 h2 rfl rfl (by omega)
        simpa only [decide_true] using this
      go_wp2_with fail
      refine (CM.out _ (own_formn_row O5.out) (own_formn_row O45.out)).mono ?_
      rintro e w6 ⟨rfl, b6⟩
      go_wp2
      go_ret
      exact ⟨rfl, B5.out.trans (b6.mono B5.out.size)⟩
end Go.Proofs.YtoajdkcdjdbliaaDoor

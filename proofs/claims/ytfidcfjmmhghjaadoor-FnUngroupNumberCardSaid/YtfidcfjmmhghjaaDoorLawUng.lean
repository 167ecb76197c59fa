/- The walk of the law FnUngroupNumber. -/
import Derived.Test.YtfidcfjmmhghjaaDoorUngDraw
namespace Go.Proofs.YtfidcfjmmhghjaaDoor
open Go.RowKit

theorem grpL_last {sg : UInt8} {d : List UInt8} (h : 1 ≤ d.length) (hd : ∀ b ∈ d, digC b = true) : ∃ (p : List UInt8) (x : UInt8), grpL sg d = p ++ [x] ∧ digC x = true := by
  rcases List.eq_nil_or_concat d with rfl | ⟨p, x, rfl⟩
  · simp at h
  · have hx := hd x (by simp)
    unfold grpL
    split
    · exact ⟨p, x, by simp, hx⟩
    · rename_i hl
      rw [List.concat_eq_append] at *
      have hlp : (p ++ [x]).length - 3 ≤ p.length := by rw [List.length_append]; show p.length + 1 - 3 ≤ _; omega
      rw [List.drop_append_of_le_length hlp]
      exact ⟨_, x, by rw [← List.cons_append, ← List.append_assoc], hx⟩
/-- A grouped number ends with a digit. -/
theorem grpR_last {n : Int} {sg : UInt8} (hne : grpR n sg ≠ []) : ∃ (p : List UInt8) (x : UInt8), grpR n sg = p ++ [x] ∧ digC x = true := by
  have hok : -999999 ≤ n ∧ n ≤ 999999 ∧ 32 ≤ sg.toNat ∧ sg.toNat ≤ 126 := Classical.byContradiction fun h => hne (grpR_no h)
  rw [grpR_yes hok]
  obtain ⟨p, x, h, hx⟩ := grpL_last (sg := sg) (dec_pos n.natAbs) (dec_all _ n.natAbs (Nat.le_refl _))
  exact ⟨_, x, by rw [h, ← List.append_assoc], hx⟩
theorem ung_more {l : List UInt8} {sg : UInt8} (hs : sgBad sg = false) : ungR (l ++ [sg]) sg = (0, false) := by
  refine ungR_no ?_
  rcases hb : ungOk (l ++ [sg]) sg with _ | _
  · rfl
  · exfalso
    unfold ungOk at hb
    rw [Bool.and_eq_true, Bool.and_eq_true, decide_eq_true_iff, decide_eq_true_iff] at hb
    obtain ⟨p, x, h, hx⟩ := grpR_last (n := specN (l ++ [sg])) (sg := sg) (by rw [hb.2]; simp)
    rw [hb.2] at h
    have := (List.append_inj' h rfl).2
    injection this with e _
    subst e
    unfold sgBad at hs
    rw [hx] at hs
    cases hs
theorem ung_cases (l : List UInt8) (sg : UInt8) : ungR l sg = (0, false) ∨ ∃ n : Int, ungR l sg = (n, true) ∧ sgBad sg = false ∧ grpR n sg = l ∧ -999999 ≤ n ∧ n ≤ 999999 := by
  rcases hb : ungOk l sg with _ | _
  · exact .inl (ungR_no hb)
  · refine .inr ⟨specN l, ungR_yes hb, ?_⟩
    unfold ungOk at hb
    rw [Bool.and_eq_true, Bool.and_eq_true, decide_eq_true_iff, decide_eq_true_iff] at hb
    obtain ⟨⟨h1, h2⟩, h3⟩ := hb
    have hok : -999999 ≤ specN l ∧ specN l ≤ 999999 ∧ 32 ≤ sg.toNat ∧ sg.toNat ≤ 126 := Classical.byContradiction fun h => h2 (by rw [← h3, grpR_no h])
    exact ⟨by simpa using h1, h3, hok.1, hok.2.1⟩

set_option maxRecDepth 100000 in
set_option maxHeartbeats 1600000 in
theorem walk_FnUngroupNumber (a : Option Addr) (n c : Nat) (z : List Int) (w : World) (hrow : IsRow .u8 w a n c z) (hm : AllOk w) :
    Calls Tryd.prog 6 #[.slice a n c] w fun e w' => e = .returned (.bool true) ∧ Below w.heap.size w w' := by
  have hcap := hrow.caps
  have hby := Lib.hid hrow.bytes
  have HM := Lib.hid hm
  clear hrow hm
  by_cases hn : 1048576 < n
  · go_enter Tryd.func6, Tryd.ntmps6
    go_wp2
    go_ret
    exact ⟨rfl, Below.refl _ _⟩
  · go_enter Tryd.func6, Tryd.ntmps6
    go_wp2_with fail
    refine (draw_UngroupNumber _ _ _ _ _ hby.out hcap.1 hcap.2).mono ?_
    rintro e w1 ⟨s, sg, rfl, hsz, b1⟩
    have B1 := Lib.hid b1
    have HM1 := Lib.hid (HM.out.below b1)
    clear b1 hby hcap hn HM
    have CI := Lib.hid (fun W h => impl_UngroupNumber s sg W (by omega) h)
    have CS := Lib.hid (fun W => spec_UngroupNumber s sg W (by omega))
    rcases ung_cases (bl s) sg with h0 | ⟨m, h0, hs, hg, hm0, hm1⟩
    · rw [h0] at CI CS
      clear h0
      go_wp2_with fail
      refine (CI.out _ HM1.out).mono ?_
      rintro e w2 ⟨rfl, b2⟩
      have B2 := Lib.hid (B1.out.trans (b2.mono B1.out.size))
      clear b2
      go_wp2_with fail
      refine (CS.out _).mono ?_
      rintro e w3 ⟨rfl, b3⟩
      have B3 := Lib.hid (B2.out.trans (b3.mono B2.out.size))
      clear b3 CI CS
      go_wp2_with (go_at_call 12; refine (alive_any _).mono ?_; rintro e w5 ⟨rfl, b5⟩)
      go_ret
      exact ⟨rfl, B3.out.trans (b5.mono B3.out.size)⟩
    · rw [h0] at CI CS
      have CG := Lib.hid (fun W h => impl_GroupNumber m sg W (by omega) (by omega) h)
      rw [hg, mkS_bl] at CG
      have hmo := ung_more (l := bl s) hs
      have CM : Hid (∀ W, AllOk W → Calls Tryd.prog 10 #[.string (s ++ mkS [sg]), .int .u8 (sg.toNat : Int)] W (NumOk W (0, false))) := fun W h => by
        have := impl_UngroupNumber (s ++ mkS [sg]) sg W (by rw [ByteArray.size_append, mkS_size]; simp; omega) h
        rwa [bl_app, bl_mkS, hmo] at this
      clear hmo h0 hg hs
      go_wp2_with fail
      refine (CI.out _ HM1.out).mono ?_
      rintro e w2 ⟨rfl, b2⟩
      have B2 := Lib.hid (B1.out.trans (b2.mono B1.out.size))
      have HM2 := Lib.hid (HM1.out.below b2)
      clear b2
      go_wp2_with fail
      refine (CS.out _).mono ?_
      rintro e w3 ⟨rfl, b3⟩
      have B3 := Lib.hid (B2.out.trans (b3.mono B2.out.size))
      have HM3 := Lib.hid (HM2.out.below b3)
      clear b3 CI CS HM2 HM1 B2 B1
      have hone := one_str w3 sg
      have hsz1 : (mkS [sg]).size = 1 := mkS_size _
      have HAL := Lib.hid (B3.out.alloc B3.out.size (.cells #[.int .u8 (sg.toNat : Int)] 5 (0, 0)))
      have HM4 := Lib.hid (HM3.out.below ((Below.refl _ _).alloc (Nat.le_refl _) (.cells #[.int .u8 (sg.toNat : Int)] 5 (0, 0))))
      generalize mkS [sg] = d at *
      go_wp2_with fail
      refine (CM.out _ HM4.out).mono ?_
      rintro e w4 ⟨rfl, b4⟩
      have B4 := Lib.hid (HAL.out.trans (b4.mono HAL.out.size))
      have HM5 := Lib.hid (HM4.out.below b4)
      clear b4 CM
      go_wp2_with fail
      refine (CG.out _ HM5.out.1).mono ?_
      rintro e w5 ⟨rfl, b5⟩
      go_wp2
      go_ret
      exact ⟨rfl, B4.out.trans (b5.mono B4.out.size)⟩
end Go.Proofs.YtfidcfjmmhghjaaDoor

/- The walk of the law FnGroupNumber. -/
import Derived.Test.YtfidcfjmmhghjaaDoorGrpDraw
namespace Go.Proofs.YtfidcfjmmhghjaaDoor
open Go.RowKit

theorem grpR_le (n : Int) (sg : UInt8) : (grpR n sg).length ≤ 8 := by
  by_cases h : -999999 ≤ n ∧ n ≤ 999999 ∧ 32 ≤ sg.toNat ∧ sg.toNat ≤ 126
  · rw [grpR_yes h]
    have := grpL_len (sg := sg) (dec_len6 (u := n.natAbs) (by omega))
    rw [List.length_append]
    split <;> simp <;> omega
  · rw [grpR_no h]; simp
theorem ung_grp {n : Int} {sg : UInt8} (hs : sgBad sg = false) (hne : grpR n sg ≠ []) : ungR (grpR n sg) sg = (n, true) := by
  obtain ⟨g1, _, _⟩ := grp_back (n := n) hs hne
  have : ungOk (grpR n sg) sg = true := by
    unfold ungOk
    rw [hs, g1, decide_eq_true hne, decide_eq_true rfl]; rfl
  rw [ungR_yes this, g1]

set_option maxRecDepth 100000 in
set_option maxHeartbeats 800000 in
theorem walk_FnGroupNumber (a : Option Addr) (n c : Nat) (z : List Int) (w : World) (hrow : IsRow .u8 w a n c z) (hm : AllOk w) :
    Calls Tryd.prog 5 #[.slice a n c] w fun e w' => e = .returned (.bool true) ∧ Below w.heap.size w w' := by
  have hcap := hrow.caps
  have hby := Lib.hid hrow.bytes
  have HM := Lib.hid hm
  clear hrow hm
  by_cases hn : 1048576 < n
  · go_enter Tryd.func5, Tryd.ntmps5
    go_wp2
    go_ret
    exact ⟨rfl, Below.refl _ _⟩
  · go_enter Tryd.func5, Tryd.ntmps5
    go_wp2_with fail
    refine (draw_GroupNumber _ _ _ _ _ hby.out hcap.1 hcap.2).mono ?_
    rintro e w1 ⟨m, sg, rfl, hmb, hsg, b1⟩
    have B1 := Lib.hid b1
    have HM1 := Lib.hid (HM.out.below b1)
    clear b1 hby hcap hn HM
    have CI := Lib.hid (fun W h => impl_GroupNumber m sg W (by omega) (by omega) h)
    have CS := Lib.hid (fun W => spec_GroupNumber m sg W (by omega) (by omega))
    have hle := grpR_le m sg
    have hbk := @ung_grp m sg hsg
    have CU : ∀ W, AllOk W → Calls Tryd.prog 10 #[.string (mkS (grpR m sg)), .int .u8 (sg.toNat : Int)] W (NumOk W (ungR (grpR m sg) sg)) := fun W h => by
      have := impl_UngroupNumber (mkS (grpR m sg)) sg W (by rw [mkS_size]; omega) h
      rwa [bl_mkS] at this
    have HG : Hid (¬ mkS (grpR m sg) = ⟨#[]⟩ → grpR m sg ≠ []) := fun h e => h (by rw [e]; rfl)
    have HBK := Lib.hid hbk
    have HCU := Lib.hid CU
    clear hbk CU hsg
    generalize hgr : mkS (grpR m sg) = y at *
    go_wp2_with fail
    refine (CI.out _ HM1.out.1).mono ?_
    rintro e w2 ⟨rfl, b2⟩
    have B2 := Lib.hid (B1.out.trans (b2.mono B1.out.size))
    have HM2 := Lib.hid (HM1.out.below b2)
    clear b2
    go_wp2_with fail
    refine (CS.out _).mono ?_
    rintro e w3 ⟨rfl, b3⟩
    have B3 := Lib.hid (B2.out.trans (b3.mono B2.out.size))
    have HM3 := Lib.hid (HM2.out.below b3)
    clear b3 CI CS
    by_cases hy : y = ⟨#[]⟩
    · subst hy
      clear hgr
      go_wp2_with (go_at_call 12; refine (alive_any _).mono ?_; rintro e w5 ⟨rfl, b5⟩)
      go_ret
      exact ⟨rfl, B3.out.trans (b5.mono B3.out.size)⟩
    · have hemp := emptyU hy
      have HU := HBK.out (HG.out hy)
      have CU2 : Hid (∀ W, AllOk W → Calls Tryd.prog 10 #[.string y, .int .u8 (sg.toNat : Int)] W (NumOk W (m, true))) := fun W h => by
        have := HCU.out W h
        rwa [HU] at this
      clear HU HBK HCU HG hgr hy
      go_wp2_with fail
      refine (CU2.out _ HM3.out).mono ?_
      rintro e w4 ⟨rfl, b4⟩
      go_wp2
      go_ret
      exact ⟨rfl, B3.out.trans (b4.mono B3.out.size)⟩
end Go.Proofs.YtfidcfjmmhghjaaDoor

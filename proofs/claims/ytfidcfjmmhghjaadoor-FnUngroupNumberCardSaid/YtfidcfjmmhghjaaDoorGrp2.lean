/- GroupNumber, walked; the law that asks for the same answers. -/
import Derived.Test.YtfidcfjmmhghjaaDoorGrp
namespace Go.Proofs.YtfidcfjmmhghjaaDoor
open Go.RowKit

theorem grp_short {sg : UInt8} {d : List UInt8} (h : d.length ≤ 3) : grpL sg d = d := by rw [grpL, if_pos h]
theorem grp_long {sg : UInt8} {d : List UInt8} (h : 3 < d.length) : grpL sg d = d.take (d.length - 3) ++ sg :: d.drop (d.length - 3) := by rw [grpL, if_neg (by omega)]

set_option maxRecDepth 100000 in
set_option maxHeartbeats 1600000 in
theorem impl_GroupNumber (n : Int) (sg : UInt8) (w : World) (hn0 : -9223372036854775808 ≤ n) (hn1 : n ≤ 9223372036854775807) (hm : TabOk w) :
    Calls Tryd.prog 8 #[.int .i64 n, .int .u8 (sg.toNat : Int)] w fun e w' => e = .returned (.string (mkS (grpR n sg))) ∧ Below w.heap.size w w' := by
  by_cases hok : -999999 ≤ n ∧ n ≤ 999999 ∧ 32 ≤ sg.toNat ∧ sg.toNat ≤ 126
  case neg =>
    have HR : Hid (mkS (grpR n sg) = ⟨#[]⟩) := by show _ = _; rw [grpR_no hok]; rfl
    by_cases h1 : n < -999999
    · go_enter Tryd.func8, Tryd.ntmps8
      go_wp2
      go_ret
      exact ⟨ret_strG HR.out.symm, Below.refl _ _⟩
    by_cases h2 : 999999 < n
    · go_enter Tryd.func8, Tryd.ntmps8
      go_wp2
      go_ret
      exact ⟨ret_strG HR.out.symm, Below.refl _ _⟩
    by_cases h3 : (sg.toNat : Int) < 32
    · clear hok
      go_enter Tryd.func8, Tryd.ntmps8
      go_wp2
      go_ret
      exact ⟨ret_strG HR.out.symm, Below.refl _ _⟩
    · have h4 : (126 : Int) < (sg.toNat : Int) := by omega
      clear hok
      go_enter Tryd.func8, Tryd.ntmps8
      go_wp2
      go_ret
      exact ⟨ret_strG HR.out.symm, Below.refl _ _⟩
  have HR := Lib.hid (grpR_yes hok)
  obtain ⟨o1, o2, o3, o4⟩ := hok
  obtain ⟨u, hu⟩ : ∃ u, u = n.natAbs := ⟨_, rfl⟩
  rw [← hu] at HR
  have hmax : max n (-n) = (u : Int) := by omega
  have hu6 : u ≤ 999999 := by omega
  have CI := Lib.hid (fun W h => itoa_any u W hu6 h)
  have hl6 := dec_len6 hu6
  have hl1 := dec_pos u
  have HM := Lib.hid hm
  have s1 : ¬ ((sg.toNat : Int) < 32) := by omega
  have s2 : ¬ ((126 : Int) < (sg.toNat : Int)) := by omega
  obtain ⟨D, hD⟩ : ∃ D, D = mkS (Lib.decDigits u) := ⟨_, rfl⟩
  have hDs : D.size = (Lib.decDigits u).length := by rw [hD, mkS_size]
  have HBD : Hid (Lib.decDigits u = bl D) := by show _ = _; rw [hD, bl_mkS]
  have HDD : Hid (mkS (Lib.decDigits u) = D) := hD.symm
  have hD6 : D.size ≤ 6 := by omega
  have hD1 : 1 ≤ D.size := by omega
  have CI2 : Hid (∀ W, TabOk W → Calls Tryd.prog 16 #[.int .i64 (u : Int)] W fun e w' => e = .returned (.string D) ∧ Below W.heap.size W w') := fun W h => by rw [← HDD.out]; exact CI.out W h
  clear hm hu hD hDs hl6 hl1 CI HDD o3 o4
  go_enter Tryd.func8, Tryd.ntmps8
  go_wp2_with fail
  refine (CI2.out _ HM.out).mono ?_
  rintro e w1 ⟨rfl, b1⟩
  have B1 := Lib.hid b1
  clear b1 CI2 HM hmax
  go_wp2
  go_loopw [5, 6] (fun p q wr => ∃ x y : ByteArray, p = .string x ∧ q = .string y ∧ x.size ≤ 6 ∧ y.size ≤ 4 ∧ Hid ((x = D ∧ y = ⟨#[]⟩) ∨ (x.size ≤ 3 ∧ 3 < D.size ∧ bl x = (bl D).take (D.size - 3) ∧ bl y = sg :: (bl D).drop (D.size - 3))) ∧ Below w.heap.size w wr) (fun p _ _ => match p with | .string x => x.size | _ => 0)
  case atStart => exact ⟨D, _, rfl, rfl, hD6, by decide, .inl ⟨rfl, rfl⟩, B1.out⟩
  case round =>
    obtain ⟨x, y, rfl, rfl, hx6, hy4, HX, hb⟩ := hrel
    by_cases h3 : 3 < x.size
    · have hx : x = D ∧ y = ⟨#[]⟩ := by
        rcases HX.out with h | h
        · exact h
        · omega
      obtain ⟨rfl, rfl⟩ := hx
      have hnn : (x.size : Int) - 3 = ((x.size - 3 : Nat) : Int) := by omega
      have hwe : IntKind.i64.wrap ((x.size - 3 : Nat) : Int) = ((x.size - 3 : Nat) : Int) := IntWalk.i64_in _ (by omega)
      have e0 : (0 : Int) ≤ ((x.size - 3 : Nat) : Int) := by omega
      have e1 : ((x.size - 3 : Nat) : Int) ≤ (x.size : Int) := by omega
      have hone : ∀ W : World, (convert 27 9 (.slice (some ⟨W.heap.size, 0, none⟩) 1 1)).run Tryd.prog (W.alloc (.cells #[.int .u8 (sg.toNat : Int)] 5 (0, 0))) = .ok (.string (mkS [sg])) (W.alloc (.cells #[.int .u8 (sg.toNat : Int)] 5 (0, 0))) := fun W => one_str W sg
      have hone2 : ∀ W : World, (convert 27 9 (.slice (some ⟨W.heap.size, 0, none⟩) 1 1)).run Tryd.prog (W.alloc (.cells #[.int .u8 (sg.toNat : Int)] 5 (0, 0))).drew = .ok (.string (mkS [sg])) (W.alloc (.cells #[.int .u8 (sg.toNat : Int)] 5 (0, 0))).drew := fun W => conv_row _ _ 1 1 [sg] ((own_formn_row (own_new W #[.int .u8 (sg.toNat : Int)] 5 1 rfl (by omega))).below (Nat.le_refl _) ((Below.refl _ _).drew)) rfl
      have hm1 : (mkS [sg]).size = 1 := mkS_size _
      have hex : (x.extract (x.size - 3) x.size).size = 3 := by simp; omega
      have HB := Lib.hid hb
      have hbs := hb.size
      have HL : Hid (bl (x.extract 0 (x.size - 3)) = (bl x).take (x.size - 3)) := by show _ = _; rw [bl_ext]; simp
      have HRR : Hid (bl (mkS [sg] ++ x.extract (x.size - 3) x.size ++ ⟨#[]⟩) = sg :: (bl x).drop (x.size - 3)) := by
        show _ = _
        rw [bl_app, bl_app, bl_mkS, bl_ext, bl_all]
        show [sg] ++ _ ++ [] = _
        simp
      have hs0 : (x.extract 0 (x.size - 3)).size ≤ 3 := by simp; omega
      clear hb
      generalize mkS [sg] = one at *
      go_wp2
      go_region
      go_wp2
      go_roundw
      case rel => exact ⟨_, _, rfl, rfl, by omega, by rw [ByteArray.size_append, ByteArray.size_append, hm1, hex]; decide, .inr ⟨hs0, h3, HL.out, HRR.out⟩, (HB.out.alloc hbs _).drew⟩
      case measure => simp only; omega
    · have HE : Hid (x ++ y = mkS (grpL sg (bl D))) := by
        show _ = _
        apply bl_inj
        rw [bl_app, bl_mkS]
        rcases HX.out with ⟨rfl, rfl⟩ | ⟨_, h2, h4, h5⟩
        · rw [grp_short (by rw [bl_len]; omega)]; exact List.append_nil _
        · rw [grp_long (by rw [bl_len]; exact h2), bl_len, h4, h5]
      have hxy : (x ++ y).size ≤ 10 := by rw [ByteArray.size_append]; omega
      have q1 : x.size + y.size ≤ 9223372036854775807 := by omega
      by_cases hneg : n < 0
      · have HF : Hid (⟨#[45]⟩ ++ (x ++ y) = mkS (grpR n sg)) := by
          show _ = _
          rw [HR.out, if_pos hneg, HE.out, HBD.out]
          exact mkS_app [45] _
        have q2 : 1 + (x.size + y.size) ≤ 9223372036854775807 := by omega
        go_wp2
        go_ret
        exact ⟨ret_strG HF.out, hb⟩
      · have HF : Hid (x ++ y = mkS (grpR n sg)) := by
          show _ = _
          rw [HR.out, if_neg hneg, HE.out, HBD.out]
          rfl
        go_wp2
        go_ret
        exact ⟨ret_strG HF.out, hb⟩
end Go.Proofs.YtfidcfjmmhghjaaDoor

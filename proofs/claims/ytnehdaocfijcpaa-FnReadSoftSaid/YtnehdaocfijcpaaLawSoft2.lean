/- The walks of the laws FnSoftLines and FnReadSoft. -/
import Derived.Test.YtnehdaocfijcpaaAlive
import Derived.Test.YtnehdaocfijcpaaSoftDraw2
namespace Go.Proofs.Ytnehdaocfijcpaa
open Go.RowKit

theorem conv_own {w : World} {B : Nat} {a : Option Addr} {n c : Nat} {l : List UInt8} (h : w.ownsRow B 5 1 (.slice a n c) n (l.map byteV)) (hn : l.length = n) :
    ∀ w', Below w.heap.size w w' → (convert 22 9 (.slice a n c)).run Try.prog w' = .ok (.string (mkS l)) w' :=
  fun w' hb => conv_row w' a n c l ((own_formn_row h).below (Nat.le_refl _) hb) hn

set_option maxRecDepth 100000 in
set_option maxHeartbeats 1600000 in
theorem walk_FnSoftLines (a : Option Addr) (n c : Nat) (z : List Int) (w : World) (hrow : IsRow .u8 w a n c z) :
    Calls Try.prog 4 #[.slice a n c] w fun e w' => e = .returned (.bool true) ∧ Below w.heap.size w w' := by
  have hcap := hrow.caps
  have hby := Lib.hid hrow.bytes
  clear hrow
  by_cases hn : 1048576 < n
  · go_enter Try.func4, Try.ntmps4
    go_wp2
    go_ret
    exact ⟨rfl, Below.refl _ _⟩
  go_enter Try.func4, Try.ntmps4
  go_wp2_with fail
  refine (draw_SoftLines _ _ _ _ _ hby.out hcap.1 hcap.2).mono ?_
  rintro e w1 ⟨v1, b, rfl, hbl, o1, b1⟩
  obtain ⟨a1, c1, rfl, r1, k1, k1', _⟩ := own_formn o1
  have B1 := Lib.hid b1; have R1 := Lib.hid r1; have O1 := Lib.hid o1
  clear b1 hby hcap hn o1 r1
  go_wp2_with fail
  refine (impl_SoftLines _ _ _ b _ R1.out rfl (by omega)).mono ?_
  rintro e w2 ⟨v2, rfl, o2, b2⟩
  obtain ⟨a2, c2, rfl, r2, k2, k2', _⟩ := own_formn o2
  have B2 := Lib.hid (B1.out.trans (b2.mono B1.out.size)); have R2 := Lib.hid r2; have C2 := Lib.hid b2
  have S2 := Lib.hid b2.size
  clear b2 o2 r2
  have hsl := softL_len b
  have htx := Lib.hid (softL_text b)
  go_wp2_with fail
  refine (spec_SoftLines _ _ _ b _ (R1.out.below (Nat.le_refl _) C2.out) rfl (by omega)).mono ?_
  rintro e w3 ⟨v3, rfl, o3, b3⟩
  obtain ⟨a3, c3, rfl, r3, k3, k3', _⟩ := own_formn o3
  have B3 := Lib.hid (B2.out.trans (b3.mono B2.out.size)); have R3 := Lib.hid r3
  have R23 := Lib.hid (R2.out.below (Nat.le_refl _) b3)
  have C3 : Hid (Below w1.heap.size w1 w3) := C2.out.trans (b3.mono C2.out.size)
  clear b3 o3 r3
  go_wp2_with fail
  refine (sameTexts_any _ _ _ _ _ _ (softL b) (softL b) _ R23.out R3.out rfl rfl (by omega)).mono ?_
  rintro e w4 ⟨rfl, b4⟩
  have B4 := Lib.hid (B3.out.trans (b4.mono B3.out.size))
  have R24 := Lib.hid (R23.out.below (Nat.le_refl _) b4)
  have C4 : Hid (Below w1.heap.size w1 w4) := C3.out.trans (b4.mono C3.out.size)
  clear b4
  by_cases h60 : 60 < b.length
  · have h0 := softL_no h60
    have hl0 : (softL b).length = 0 := by rw [h0]; rfl
    have HL0 := Lib.hid hl0
    have hb0 : (((softL b).length : Int) == 0) = true := by rw [beq_iff_eq]; omega
    clear h0 hl0
    generalize softL b = X at *
    go_wp2_with (go_at_call 17; refine (alive_any _).mono ?_; rintro e w5 ⟨rfl, b5⟩)
    go_ret
    exact ⟨rfl, B4.out.trans (b5.mono B4.out.size)⟩
  · have HRD := Lib.hid (readI_soft (b := b) (by omega))
    have CV := Lib.hid (conv_own O1.out rfl)
    generalize softL b = X at *
    go_wp2
    go_loopw [5] (fun t wr => ∃ k : Nat, k ≤ X.length ∧ t = .int .i64 k ∧ Below w4.heap.size w4 wr) (fun t _ => X.length - (intOf t).toNat)
    case atStart => exact ⟨0, Nat.zero_le _, rfl, Below.refl _ _⟩
    case round =>
      obtain ⟨k, hk, rfl, hb⟩ := hrel
      by_cases hlt : k < X.length
      · obtain ⟨bb, off, rfl, hl1, hc1⟩ := row_str (R24.out.below (Nat.le_refl _) hb) k hlt
        have hs := htx.out (X.getD k ⟨#[]⟩) (by rw [getD_at hlt]; exact List.getElem_mem _)
        have HB := Lib.hid hb
        clear hb
        generalize X.getD k ⟨#[]⟩ = s at hc1 hs
        have hs1 := hs.1
        have CT := fun W => impl_TextValid s W (by omega)
        rw [hs.2] at CT
        have HT := Lib.hid CT
        have hd : decide (20 < (s.size : Int)) = false := by simp; omega
        clear CT hs
        go_wp2_with fail
        refine (HT.out _).mono ?_
        rintro e w5 ⟨rfl, rfl⟩
        go_wp2
        go_roundw
        case rel => exact ⟨k + 1, by omega, by go_num, HB.out⟩
        case measure => simp [intOf]; omega
      · have B5 := Lib.hid (B4.out.trans (hb.mono B4.out.size))
        have R5 := Lib.hid (R24.out.below (Nat.le_refl _) hb)
        have C5 : Hid (Below w1.heap.size w1 wr) := C4.out.trans (hb.mono C4.out.size)
        clear hb
        go_wp2_with fail
        refine (impl_ReadSoft _ _ _ X _ R5.out rfl (by omega) (sum_le htx.out hsl)).mono ?_
        rintro e w6 ⟨v6, rfl, o6, b6⟩
        rw [HRD.out] at o6 ⊢
        obtain ⟨a6, c6, rfl, r6, k6, k6', _⟩ := own_formn o6
        have kv6 := conv_row w6 a6 b.length c6 b r6 rfl
        have kv1 := CV.out w6 (C5.out.trans (b6.mono C5.out.size))
        have B6 := Lib.hid (B5.out.trans (b6.mono B5.out.size))
        clear b6 o6 r6
        generalize mkS b = sb at kv6 kv1
        go_wp2
        go_ret
        exact ⟨rfl, B6.out⟩

end Go.Proofs.Ytnehdaocfijcpaa

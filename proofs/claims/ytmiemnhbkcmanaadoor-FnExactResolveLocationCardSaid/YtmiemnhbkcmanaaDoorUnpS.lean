/- Parts of addresses read back: UnescapePart of the reference. -/
import Derived.Test.YtmiemnhbkcmanaaDoorUnp
namespace Go.Proofs.YtmiemnhbkcmanaaDoor
open Go.RowKit

theorem bl_three (s : ByteArray) (j : Nat) (h : j + 2 < s.size) : bl (s.extract j (j + 3)) = [s[j], s[j + 1], s[j + 2]] := by
  rw [bl_ext, bl_take s (j + 2) h, bl_take s (j + 1) (by omega), bl_take s j (by omega), List.append_assoc, List.append_assoc, List.drop_left' (by rw [List.length_take, bl_len]; omega)]
  rfl
/-- The three bytes from j on are the code of c. -/
def Mt (s : ByteArray) (j c : Nat) : Prop := ∃ h : j + 2 < s.size, [s[j], s[j + 1], s[j + 2]] = [37, hxC (c / 16), hxC (c % 16)]
theorem mt_iff {s : ByteArray} {j c : Nat} (h : j + 2 < s.size) : Mt s j c ↔ s.extract j (j + 3) = mkS [37, hxC (c / 16), hxC (c % 16)] := by
  constructor
  · rintro ⟨_, e⟩
    apply bl_inj
    rw [bl_three s j h, bl_mkS, e]
  · intro e
    refine ⟨h, ?_⟩
    rw [← bl_three s j h, e, bl_mkS]
theorem toList_yes {a b : ByteArray} (h : a = b) : (a.toList == b.toList) = true := by rw [h]; exact beq_self_eq_true _
theorem spec_l3HexN (c : Nat) (hc : c < 256) (w : World) : Calls Tryd.prog 57 #[.int .u8 (c : Int)] w fun e w' => e = .returned (.string (mkS [37, hxC (c / 16), hxC (c % 16)])) ∧ Below w.heap.size w w' := by
  have h := spec_l3Hex (UInt8.ofNat c) w
  rwa [UInt8.toNat_ofNat', Nat.mod_eq_of_lt hc] at h

set_option maxRecDepth 100000 in
set_option maxHeartbeats 3200000 in
theorem spec_UnescapePart (s : ByteArray) (w : World) (hs : s.size ≤ 1048576) : Calls Tryd.prog 43 #[.string s] w fun e w' => e = .returned (.tuple #[.string (mkS (unP (bl s)).1), .bool (unP (bl s)).2]) ∧ Below w.heap.size w w' := by
  go_enter Tryd.func43, Tryd.ntmps43
  go_wp2
  have O0 := Lib.hid (own_new w #[] 5 0 rfl (by omega))
  go_loopw [4, 5] (fun v t wr => ∃ (j : Nat) (acc2 : List UInt8), j ≤ s.size ∧ t = .int .i64 (j : Int) ∧ acc2.length ≤ j ∧ Hid (UnI (bl s) acc2 j ∧ escP acc2 = (bl s).take j) ∧ wr.ownsRow w.heap.size 5 1 v acc2.length (acc2.map byteV) ∧ Below w.heap.size w wr) (fun _ t _ => s.size - (intOf t).toNat)
  case atStart => exact ⟨0, [], Nat.zero_le _, rfl, by simp, ⟨unI_start _, rfl⟩, O0.out, (Below.refl _ _).alloc (Nat.le_refl _) _⟩
  case round =>
    obtain ⟨j, acc2, hj, rfl, hac2, HA, own, hb⟩ := hrel
    have O2 := Lib.hid own; have B2 := Lib.hid hb
    have hwr := hb.size
    obtain ⟨av2, cv2, rfl, _, kv2, kv2', _⟩ := own_formn own
    clear own hb
    by_cases hjs : j < s.size
    case neg =>
      obtain rfl : j = s.size := by omega
      have k0 := conv_row wr av2 acc2.length cv2 acc2 (own_formn_row O2.out) rfl
      have HR : Hid (unP (bl s) = (acc2, true)) := unP_yes (by have := HA.out.2; rwa [bl_all] at this)
      go_wp2
      go_ret2
      exact ⟨by rw [HR.out]; rfl, B2.out⟩
    by_cases hx : s[j] = 37
    case neg =>
      have b1 : ((s[j].toNat : Int) == 37) = false := by
        rw [beq_eq_false_iff_ne]; intro e; exact hx (UInt8.toNat_inj.1 (by have : (37 : UInt8).toNat = 37 := rfl; omega))
      rcases hp : partC s[j] with _ | _
      · have HR : Hid (unP (bl s) = ([], false)) := unP_no (unI_bad hjs HA.out.1 hx hp)
        have CP : Hid (∀ W, Calls Tryd.prog 41 #[.int .u8 (s[j].toNat : Int)] W fun e w' => e = .returned (.bool false) ∧ W = w') := fun W => by rw [← hp]; exact spec_l3Plain s[j] W
        clear hx hp
        go_wp2_with fail
        refine (CP.out _).mono ?_
        rintro e w0 ⟨rfl, rfl⟩
        go_wp2
        go_ret2
        exact ⟨by rw [HR.out]; rfl, B2.out⟩
      · have HA2 : Hid (UnI (bl s) (acc2 ++ [s[j]]) (j + 1) ∧ escP (acc2 ++ [s[j]]) = (bl s).take (j + 1)) := ⟨unI_plain hjs HA.out.1 hx, by
          have h2 := HA.out.2
          unfold escP at *
          rw [List.flatMap_append, h2, bl_take s j hjs]
          simp [pctB_yes hp]⟩
        have CP : Hid (∀ W, Calls Tryd.prog 41 #[.int .u8 (s[j].toNat : Int)] W fun e w' => e = .returned (.bool true) ∧ W = w') := fun W => by rw [← hp]; exact spec_l3Plain s[j] W
        clear hx hp
        go_wp2_with fail
        refine (CP.out _).mono ?_
        rintro e w0 ⟨rfl, rfl⟩
        go_wp2_with (at_builtin; refine wpList_push (.tmp 51) (.tmp 53) w.heap.size s[j] _ acc2 O2.out B2.out.size (by omega) rfl (by rfl) (by rfl) (by rfl) ?_; intro v5 w5 o5 b5; have O5 := Lib.hid o5; have B5 := Lib.hid (B2.out.trans b5); clear o5 b5)
        go_roundw
        case rel => exact ⟨j + 1, acc2 ++ [s[j]], by omega, by go_num, by simp; omega, HA2, O5.out, B5.out⟩
        case measure => simp [intOf]; omega
    have b1 : ((s[j].toNat : Int) == 37) = true := by rw [hx]; rfl
    have HX := Lib.hid hx
    clear hx
    go_wp2
    obtain ⟨wo, hwo⟩ : ∃ wo : World, wo = wr := ⟨_, rfl⟩
    rw [← hwo] at O2 B2 hwr ⊢
    clear hwo
    go_loopw [6, 8, 9] (fun bv fv t wr => ∃ (c : Nat) (cb : UInt8) (f : Bool), c ≤ 256 ∧ t = .int .i64 (c : Int) ∧ fv = .bool f ∧ bv = .int .u8 (cb.toNat : Int) ∧ Hid ((f = false → ∀ c', c' < c → ¬ Mt s j c') ∧ (f = true → Mt s j cb.toNat)) ∧ Below wo.heap.size wo wr) (fun _ _ t _ => 256 - (intOf t).toNat)
    case atStart => exact ⟨0, s[j], false, by omega, rfl, rfl, rfl, ⟨fun _ c h => absurd h (by omega), fun h => by cases h⟩, Below.refl _ _⟩
    case round =>
      obtain ⟨c, cb, f, hc, rfl, rfl, rfl, HM, hb⟩ := hrel
      have B3 := Lib.hid hb
      have hw3 := hb.size
      clear hb
      by_cases hc2 : c < 256
      · have u1 : IntKind.u8.wrap (c : Int) = (c : Int) := by rw [IntKind.wrap_u8]; omega
        by_cases h3 : j + 2 < s.size
        · have i9 : ((j : Int) + 3).toNat = j + 3 := by omega
          have g1 : decide ((j : Int) + 3 ≤ (s.size : Int)) = true := by simp; omega
          have i1 : (0 : Int) ≤ (j : Int) := by omega
          have i2 : (j : Int) ≤ (j : Int) + 3 := by omega
          have i3 : (j : Int) + 3 ≤ (s.size : Int) := by omega
          have i5 : IntKind.i64.wrap ((j : Int) + 3) = (j : Int) + 3 := IntWalk.i64_in _ (by omega)
          have CE := Lib.hid (spec_l3HexN c hc2)
          have HI := Lib.hid (mt_iff (c := c) h3)
          by_cases he : s.extract j (j + 3) = mkS [37, hxC (c / 16), hxC (c % 16)]
          · have hq := toList_yes he
            have HM2 : Hid (Mt s j (UInt8.ofNat c).toNat) := by
              rw [UInt8.toNat_ofNat', Nat.mod_eq_of_lt hc2]; exact HI.out.2 he
            have HV : Hid ((c : Int) = ((UInt8.ofNat c).toNat : Int)) := by rw [UInt8.toNat_ofNat', Nat.mod_eq_of_lt hc2]; rfl
            clear he
            generalize mkS [37, hxC (c / 16), hxC (c % 16)] = z at CE hq
            go_wp2_with fail
            go_region_held3 (fun _ => True) (trivial) (first | (go_at_call 57; refine (CE.out _).mono ?_; rintro e w1 ⟨rfl, b1⟩))
            all_goals
              have B4 := Lib.hid (B3.out.drew.trans (b1.mono hw3))
              clear b1
              go_wp2
              go_roundw
              case rel => exact ⟨c + 1, UInt8.ofNat c, true, by omega, by go_num, rfl, by rw [← HV.out], ⟨fun h => (by cases h), fun _ => HM2.out⟩, B4.out⟩
              case measure => simp [intOf]; omega
          · have hq := toList_no he
            have HM2 : Hid (¬ Mt s j c) := fun h => he (HI.out.1 h)
            clear he
            generalize mkS [37, hxC (c / 16), hxC (c % 16)] = z at CE hq
            go_wp2_with fail
            go_region_held3 (fun _ => True) (trivial) (first | (go_at_call 57; refine (CE.out _).mono ?_; rintro e w1 ⟨rfl, b1⟩))
            all_goals
              have B4 := Lib.hid (B3.out.drew.trans (b1.mono hw3))
              clear b1
              go_wp2
              go_roundw
              case rel => exact ⟨c + 1, cb, f, by omega, by go_num, rfl, rfl, ⟨fun h c' hc' => (Nat.lt_or_ge c' c).elim (fun h' => HM.out.1 h c' h') (fun h' => by obtain rfl : c' = c := (by omega); exact HM2.out), HM.out.2⟩, B4.out⟩
              case measure => simp [intOf]; omega
        · have g1 : decide ((j : Int) + 3 ≤ (s.size : Int)) = false := by simp; omega
          go_wp2
          go_quiet (fail)
          go_wp2
          go_roundw
          case rel => exact ⟨c + 1, cb, f, by omega, by go_num, rfl, rfl, ⟨fun _ c' _ h => h3 h.1, HM.out.2⟩, below_drewN B3.out _⟩
          case measure => simp [intOf]; omega
      · obtain rfl : c = 256 := by omega
        have O3 := Lib.hid (own_below O2.out B3.out)
        have B5 := Lib.hid (B2.out.trans (B3.out.mono hwr))
        rcases f with _ | _
        · have HR : Hid (unP (bl s) = ([], false)) := unP_no (by
            by_cases h3 : j + 2 < s.size
            · exact unI_none h3 HA.out.1 HX.out (fun c hc e => HM.out.1 rfl c hc ⟨h3, e⟩)
            · exact unI_short hjs HA.out.1 HX.out (by omega))
          go_wp2
          go_ret2
          exact ⟨by rw [HR.out]; rfl, B5.out⟩
        · obtain ⟨h3, _⟩ := HM.out.2 rfl
          have HM3 : Hid ([s[j], s[j + 1], s[j + 2]] = [37, hxC (cb.toNat / 16), hxC (cb.toNat % 16)]) := (HM.out.2 rfl).2
          rcases hp : partC cb with _ | _
          · have HA2 : Hid (UnI (bl s) (acc2 ++ [cb]) (j + 3) ∧ escP (acc2 ++ [cb]) = (bl s).take (j + 3)) := ⟨unI_code h3 HA.out.1 HX.out HM3.out, by
              have h2 := HA.out.2
              unfold escP at *
              rw [List.flatMap_append, h2, bl_take s (j + 2) h3, bl_take s (j + 1) (by omega), bl_take s j hjs, List.append_assoc, List.append_assoc]
              have e := HM3.out
              simp only [List.cons_append, List.nil_append, List.flatMap_cons, List.flatMap_nil, List.append_nil, pctB_no hp]
              rw [← e]⟩
            have CP : Hid (∀ W, Calls Tryd.prog 41 #[.int .u8 (cb.toNat : Int)] W fun e w' => e = .returned (.bool false) ∧ W = w') := fun W => by rw [← hp]; exact spec_l3Plain cb W
            clear hp
            go_wp2_with fail
            refine (CP.out _).mono ?_
            rintro e w0 ⟨rfl, rfl⟩
            go_wp2_with (at_builtin; refine wpList_push (.tmp 51) (.tmp 53) w.heap.size cb _ acc2 O3.out B5.out.size (by omega) rfl (by rfl) (by rfl) (by rfl) ?_; intro v5 w5 o5 b5; have O5 := Lib.hid o5; have B6 := Lib.hid (B5.out.trans b5); clear o5 b5)
            go_roundw
            case rel => exact ⟨j + 3, acc2 ++ [cb], by omega, by go_num, by simp; omega, HA2, O5.out, B6.out⟩
            case measure => simp [intOf]; omega
          · have HR : Hid (unP (bl s) = ([], false)) := unP_no (unI_own h3 HA.out.1 HX.out HM3.out hp)
            have CP : Hid (∀ W, Calls Tryd.prog 41 #[.int .u8 (cb.toNat : Int)] W fun e w' => e = .returned (.bool true) ∧ W = w') := fun W => by rw [← hp]; exact spec_l3Plain cb W
            clear hp
            go_wp2_with fail
            refine (CP.out _).mono ?_
            rintro e w0 ⟨rfl, rfl⟩
            go_wp2
            go_ret2
            exact ⟨by rw [HR.out]; rfl, B5.out⟩
end Go.Proofs.YtmiemnhbkcmanaaDoor

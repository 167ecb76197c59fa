/- GroupNumber of the reference; the law that asks for the same answers. -/
import Derived.Test.YtfidcfjmmhghjaaDoorGrp2
namespace Go.Proofs.YtfidcfjmmhghjaaDoor
open Go.RowKit

def outK (sg : UInt8) (d : List UInt8) (k : Nat) : List UInt8 := if d.length ≤ 3 ∨ k ≤ d.length - 3 then d.take k else d.take (d.length - 3) ++ sg :: (d.take k).drop (d.length - 3)
theorem outK_end (sg : UInt8) (d : List UInt8) : outK sg d d.length = grpL sg d := by
  unfold outK grpL
  by_cases h : d.length ≤ 3
  · rw [if_pos (.inl h), if_pos h, List.take_length]
  · rw [if_neg (by omega), if_neg h, List.take_length]
theorem outK_step (sg : UInt8) (d : List UInt8) (k : Nat) (h : k < d.length) : outK sg d (k + 1) = outK sg d k ++ (if 0 < k ∧ k + 3 = d.length then [sg] else []) ++ [d[k]] := by
  have ht := List.take_succ_eq_append_getElem h
  unfold outK
  by_cases h3 : d.length ≤ 3
  · rw [if_pos (.inl h3), if_pos (.inl h3), if_neg (by omega), List.append_nil, ht]
  · by_cases h4 : k + 3 < d.length
    · rw [if_pos (.inr (by omega)), if_pos (.inr (by omega)), if_neg (by omega), List.append_nil, ht]
    · by_cases h5 : k + 3 = d.length
      · have hk : d.length - 3 = k := by omega
        rw [if_neg (by omega), if_pos (.inr (by omega)), if_pos ⟨by omega, h5⟩, hk, ht, List.drop_append_of_le_length (by simp; omega), List.drop_of_length_le (by simp; omega)]
        simp
      · rw [if_neg (by omega), if_neg (by omega), if_neg (by omega), List.append_nil, ht, List.drop_append_of_le_length (by simp; omega)]
        simp
theorem outK_le (sg : UInt8) (d : List UInt8) (k : Nat) (h : k ≤ d.length) : (outK sg d k).length ≤ k + 1 := by
  unfold outK
  split
  · simp; omega
  · simp; omega
theorem l1In_any (n lo hi : Int) (w : World) : Calls Tryd.prog 14 #[.int .i64 n, .int .i64 lo, .int .i64 hi] w fun e w' => e = .returned (.bool (decide (lo ≤ n) && decide (n ≤ hi))) ∧ w = w' := by
  rcases d1 : decide (lo ≤ n) with _ | _ <;> rcases d2 : decide (n ≤ hi) with _ | _
  all_goals
    go_enter Tryd.func14, Tryd.ntmps14
    go_wp2
    go_ret
    exact ⟨rfl, rfl⟩

set_option maxRecDepth 100000 in
set_option maxHeartbeats 1600000 in
theorem spec_GroupNumber (n : Int) (sg : UInt8) (w : World) (hn0 : -9223372036854775808 ≤ n) (hn1 : n ≤ 9223372036854775807) :
    Calls Tryd.prog 7 #[.int .i64 n, .int .u8 (sg.toNat : Int)] w fun e w' => e = .returned (.string (mkS (grpR n sg))) ∧ Below w.heap.size w w' := by
  by_cases hin : -999999 ≤ n ∧ n ≤ 999999
  case neg =>
    have HR : Hid (mkS (grpR n sg) = ⟨#[]⟩) := by show _ = _; rw [grpR_no (fun e => hin ⟨e.1, e.2.1⟩)]; rfl
    have CL : ∀ W, Calls Tryd.prog 14 #[.int .i64 n, .int .i64 (-999999), .int .i64 999999] W fun e w' => e = .returned (.bool false) ∧ W = w' := fun W => by
      have h := l1In_any n (-999999) 999999 W
      have e : (decide (-999999 ≤ n) && decide (n ≤ 999999)) = false := by rw [Bool.and_eq_false_iff, decide_eq_false_iff_not, decide_eq_false_iff_not]; omega
      rwa [e] at h
    have CL2 := Lib.hid CL
    clear CL
    go_enter Tryd.func7, Tryd.ntmps7
    go_wp2_with fail
    refine (CL2.out _).mono ?_
    rintro e w2 ⟨rfl, rfl⟩
    go_wp2
    go_ret
    exact ⟨ret_strG HR.out.symm, Below.refl _ _⟩
  obtain ⟨o1, o2⟩ := hin
  have CL : ∀ W, Calls Tryd.prog 14 #[.int .i64 n, .int .i64 (-999999), .int .i64 999999] W fun e w' => e = .returned (.bool true) ∧ W = w' := fun W => by
    have h := l1In_any n (-999999) 999999 W
    rwa [decide_eq_true o1, decide_eq_true o2] at h
  have CL2 := Lib.hid CL
  clear CL
  by_cases s1 : (sg.toNat : Int) < 32
  · have HR : Hid (mkS (grpR n sg) = ⟨#[]⟩) := by show _ = _; rw [grpR_no (by omega)]; rfl
    go_enter Tryd.func7, Tryd.ntmps7
    go_wp2_with fail
    refine (CL2.out _).mono ?_
    rintro e w2 ⟨rfl, rfl⟩
    go_wp2
    go_ret
    exact ⟨ret_strG HR.out.symm, Below.refl _ _⟩
  by_cases s2 : (126 : Int) < (sg.toNat : Int)
  · have HR : Hid (mkS (grpR n sg) = ⟨#[]⟩) := by show _ = _; rw [grpR_no (by omega)]; rfl
    go_enter Tryd.func7, Tryd.ntmps7
    go_wp2_with fail
    refine (CL2.out _).mono ?_
    rintro e w2 ⟨rfl, rfl⟩
    go_wp2
    go_ret
    exact ⟨ret_strG HR.out.symm, Below.refl _ _⟩
  have HR := Lib.hid (grpR_yes (n := n) (sg := sg) ⟨o1, o2, by omega, by omega⟩)
  obtain ⟨u, hu⟩ : ∃ u, u = n.natAbs := ⟨_, rfl⟩
  rw [← hu] at HR
  have hmax : max n (-n) = (u : Int) := by omega
  have hu6 : u ≤ 999999 := by omega
  have CI := Lib.hid (fun W => spec_l26Number u W hu6)
  have hl6 := dec_len6 hu6
  obtain ⟨D, hD⟩ : ∃ D, D = mkS (Lib.decDigits u) := ⟨_, rfl⟩
  have hDs : D.size = (Lib.decDigits u).length := by rw [hD, mkS_size]
  have HBD : Hid (Lib.decDigits u = bl D) := by show _ = _; rw [hD, bl_mkS]
  have HDD : Hid (mkS (Lib.decDigits u) = D) := hD.symm
  have hD6 : D.size ≤ 6 := by omega
  have CI2 : Hid (∀ W, Calls Tryd.prog 15 #[.int .i64 (u : Int)] W fun e w' => e = .returned (.string D) ∧ Below W.heap.size W w') := fun W => by rw [← HDD.out]; exact CI.out W
  clear hu hD hDs hl6 CI HDD
  go_enter Tryd.func7, Tryd.ntmps7
  go_wp2_with fail
  refine (CL2.out _).mono ?_
  rintro e w2 ⟨rfl, rfl⟩
  go_wp2_with fail
  refine (CI2.out _).mono ?_
  rintro e w1 ⟨rfl, b1⟩
  have B1 := Lib.hid b1
  clear b1 CI2 CL2 hmax
  go_wp2
  go_loopw [6, 7] (fun q t wr => ∃ (k : Nat) (y : ByteArray), k ≤ D.size ∧ t = .int .i64 (k : Int) ∧ q = .string y ∧ y.size ≤ 7 ∧ Hid (bl y = outK sg (bl D) k) ∧ Below w.heap.size w wr) (fun _ t _ => D.size - (intOf t).toNat)
  case atStart => exact ⟨0, _, Nat.zero_le _, rfl, rfl, by decide, by show _ = _; simp [outK]; rfl, B1.out⟩
  case round =>
    obtain ⟨k, y, hk, rfl, rfl, hys, HY, hb⟩ := hrel
    by_cases hkD : k < D.size
    · have hst := outK_step sg (bl D) k (by rw [bl_len]; exact hkD)
      have hsl := outK_le sg (bl D) (k + 1) (by rw [bl_len]; omega)
      rw [← HY.out] at hst
      have hgk : (bl D)[k]'(by rw [bl_len]; exact hkD) = D[k] := (List.getElem?_eq_some_iff.1 (bl_get D k hkD)).2
      rw [hgk, bl_len] at hst
      have HB := Lib.hid hb
      have hbs := hb.size
      have hes : (D.extract k (k + 1)).size = 1 := by rw [← bl_len, bl_one D k hkD]; rfl
      clear hb hgk
      by_cases hsep : 0 < k ∧ k + 3 = D.size
      · rw [if_pos hsep] at hst
        have HY2 : Hid (bl (y ++ mkS [sg] ++ D.extract k (k + 1)) = outK sg (bl D) (k + 1)) := by
          show _ = _
          rw [hst, bl_app, bl_app, bl_mkS, bl_one D k hkD]
        have hsz : (y ++ mkS [sg] ++ D.extract k (k + 1)).size ≤ 7 := by rw [← bl_len, HY2.out]; omega
        have HSZ := Lib.hid hsz
        have hone := one_str wr sg
        have hm1 : (mkS [sg]).size = 1 := mkS_size _
        have hj : (D.size : Int) - (k : Int) = 3 := by omega
        generalize mkS [sg] = one at *
        clear hst hsl hsz
        obtain ⟨h0, _⟩ := hsep
        go_wp2
        go_roundw
        case rel => exact ⟨k + 1, _, by omega, by go_num, rfl, HSZ.out, HY2, HB.out.alloc hbs _⟩
        case measure => simp [intOf]; omega
      · rw [if_neg hsep, List.append_nil] at hst
        have HY2 : Hid (bl (y ++ D.extract k (k + 1)) = outK sg (bl D) (k + 1)) := by
          show _ = _
          rw [hst, bl_app, bl_one D k hkD]
        have hsz : (y ++ D.extract k (k + 1)).size ≤ 7 := by rw [← bl_len, HY2.out]; omega
        have HSZ := Lib.hid hsz
        clear hst hsl hsz
        by_cases h0 : 0 < k
        · obtain ⟨j, hj⟩ : ∃ j : Nat, j = D.size - k := ⟨_, rfl⟩
          have hnn : (D.size : Int) - (k : Int) = (j : Int) := by omega
          have hj3 : ((j : Int) % 3 == 0) = false := by
            rw [beq_eq_false_iff_ne]
            have : j = 1 ∨ j = 2 ∨ j = 4 ∨ j = 5 := by omega
            rcases this with h | h | h | h <;> subst h <;> decide
          clear hj hsep
          go_wp2
          go_roundw
          case rel => exact ⟨k + 1, _, by omega, by go_num, rfl, HSZ.out, HY2, HB.out⟩
          case measure => simp [intOf]; omega
        · obtain rfl : k = 0 := by omega
          clear hsep
          go_wp2
          go_roundw
          case rel => exact ⟨0 + 1, _, by omega, by go_num, rfl, HSZ.out, HY2, HB.out⟩
          case measure => simp [intOf]; omega
    · obtain rfl : k = D.size := by omega
      have HY2 : Hid (bl y = grpL sg (bl D)) := by
        have := HY.out
        rw [← bl_len, outK_end] at this
        exact this
      clear HY
      by_cases hneg : n < 0
      · have HF : Hid (⟨#[45]⟩ ++ y = mkS (grpR n sg)) := by
          show _ = _
          apply bl_inj
          rw [bl_app, bl_mkS, HR.out, if_pos hneg, HY2.out, HBD.out]
          rfl
        have q2 : 1 + y.size ≤ 9223372036854775807 := by omega
        go_wp2
        go_ret
        exact ⟨ret_strG HF.out, hb⟩
      · have HF : Hid (y = mkS (grpR n sg)) := by
          show _ = _
          apply bl_inj
          rw [bl_mkS, HR.out, if_neg hneg, HY2.out, HBD.out]
          rfl
        go_wp2
        go_ret
        exact ⟨ret_strG HF.out, hb⟩

set_option maxHeartbeats 800000 in
theorem walk_FnExactGroupNumber (a0 a1 : Int) (w : World) (h0 : (Lit.int .i64 a0).wf = true) (h1 : (Lit.int .u8 a1).wf = true) (hm : TabOk w) :
    Calls Tryd.prog 3 #[.int .i64 a0, .int .u8 a1] w fun e w' => e = .returned (.bool true) ∧ Below w.heap.size w w' := by
  have hb0 := bounds_i64 h0
  have hb1 := bounds_u8 h1
  obtain ⟨sg, hsg⟩ : ∃ sg : UInt8, (sg.toNat : Int) = a1 := ⟨UInt8.ofNat a1.toNat, by rw [UInt8.toNat_ofNat']; omega⟩
  subst hsg
  have CS := Lib.hid (fun W => spec_GroupNumber a0 sg W hb0.1 hb0.2)
  have CI := Lib.hid (fun W h => impl_GroupNumber a0 sg W hb0.1 hb0.2 h)
  have HM := Lib.hid hm
  generalize mkS (grpR a0 sg) = y at *
  clear hm h0 h1 hb0 hb1
  go_enter Tryd.func3, Tryd.ntmps3
  go_wp2_with fail
  refine (CS.out _).mono ?_
  rintro e w1 ⟨rfl, b1⟩
  have B1 := Lib.hid b1
  have HM1 := Lib.hid (HM.out.below b1)
  clear b1
  go_wp2_with fail
  refine (CI.out _ HM1.out).mono ?_
  rintro e w2 ⟨rfl, b2⟩
  go_wp2
  go_ret
  exact ⟨rfl, B1.out.trans (b2.mono B1.out.size)⟩
end Go.Proofs.YtfidcfjmmhghjaaDoor

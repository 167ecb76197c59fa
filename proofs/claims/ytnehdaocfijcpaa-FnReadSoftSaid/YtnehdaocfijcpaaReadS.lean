/- Reading soft lines, by the reference. -/
import Derived.Test.YtnehdaocfijcpaaRead
import Derived.Test.YtnehdaocfijcpaaLawSoft
namespace Go.Proofs.Ytnehdaocfijcpaa
open Go.RowKit

def sumS (l : List ByteArray) : Nat := (l.map ByteArray.size).sum
theorem sumS_drop {l : List ByteArray} {k : Nat} (h : k < l.length) : sumS (l.drop k) = (l.getD k ⟨#[]⟩).size + sumS (l.drop (k + 1)) := by
  unfold sumS
  rw [List.drop_eq_getElem_cons h, getD_at h, List.map_cons, List.sum_cons]

/-- slices.Equal at two slices of strings that can be read. -/
theorem equal_rows (a1 a2 : Option Addr) (n1 n2 c1 c2 : Nat) (l1 l2 : List ByteArray) (w : World) (h1 : RowAt w a1 (l1.map strV)) (h2 : RowAt w a2 (l2.map strV)) (e1 : l1.length = n1) (e2 : l2.length = n2) (hb1 : n1 ≤ 9223372036854775807) (hb2 : n2 ≤ 9223372036854775807) :
    Calls Try.prog 33 #[.slice a1 n1 c1, .slice a2 n2 c2] w fun e w' => e = .returned (.bool (decide (l1 = l2))) ∧ Below w.heap.size w w' := by
  by_cases hne : n1 = n2
  · subst hne
    by_cases h0 : n1 = 0
    · subst h0
      refine (Try.slices_Equal_string_empty a1 a2 c1 0 c2 w (by omega)).mono ?_
      rintro e w' ⟨rfl, rfl⟩
      have x1 := List.eq_nil_of_length_eq_zero e1
      have x2 := List.eq_nil_of_length_eq_zero e2
      subst x1; subst x2
      exact ⟨rfl, Below.refl _ _⟩
    · obtain ⟨b1, o1, rfl, _, _⟩ := row_str h1 0 (by omega)
      obtain ⟨b2, o2, rfl, _, _⟩ := row_str h2 0 (by omega)
      have cells : ∀ (b o : Nat) (l : List ByteArray), RowAt w (some ⟨b, o, none⟩) (l.map strV) → ∀ j, j < l.length → w.cell? ⟨b, o + j, none⟩ = some (.string (l.getD j ByteArray.empty)) := by
        intro b o l h j hj
        obtain ⟨b', o', he, _, hc⟩ := row_str h j hj
        injection he with he
        injection he with he1 he2
        subst he1; subst he2
        rw [hc, getD_at hj, getD_at hj]
      refine (Try.slices_Equal_string b1 o1 n1 c1 b2 o2 n1 c2 l1 l2 w (by omega) (by omega) (by omega) (by omega) (cells _ _ _ h1) (cells _ _ _ h2)).mono ?_
      rintro e w' ⟨rfl, q, rfl⟩
      rw [List.take_of_length_le (by omega), List.take_of_length_le (by omega)]
      exact ⟨rfl, below_drewN (Below.refl _ _) q⟩
  · refine (Try.slices_Equal_string_lens a1 a2 n1 c1 n2 c2 w hne).mono ?_
    rintro e w' ⟨rfl, rfl⟩
    have : ¬ l1 = l2 := by rintro rfl; omega
    exact ⟨by simp [this], Below.refl _ _⟩

set_option maxRecDepth 100000 in
set_option maxHeartbeats 3200000 in
theorem spec_ReadSoft (a : Option Addr) (n c : Nat) (L : List ByteArray) (w : World) (h : RowAt w a (L.map strV)) (hn : L.length = n) (hn' : n ≤ 2097152) (hs : sumS L ≤ 2097152) :
    Calls Try.prog 21 #[.slice a n c] w (BytesOk w (readS L)) := by
  have H := Lib.hid h; have HN := Lib.hid hn
  have HS0 : Hid (([] : List UInt8).length + sumS (L.drop 0) ≤ 2097152) := by show _ ≤ _; simpa using hs
  clear h hn hs
  go_enter Try.func21, Try.ntmps21
  go_wp2
  have O0 := Lib.hid (own_new w #[] 5 0 rfl (by omega))
  go_loopw [4, 5] (fun v t wr => ∃ (k : Nat) (acc : List UInt8), k ≤ n ∧ t = .int .i64 (k : Int) ∧ Hid (acc.length + sumS (L.drop k) ≤ 2097152) ∧ acc.length ≤ 2097152 ∧ Hid (decAll acc (L.drop k) = decAll [] L) ∧ wr.ownsRow w.heap.size 5 1 v acc.length (acc.map byteV) ∧ Below w.heap.size w wr) (fun _ t _ => n - (intOf t).toNat)
  case atStart => exact ⟨0, [], Nat.zero_le _, rfl, HS0, by simp, rfl, O0.out, (Below.refl _ _).alloc (Nat.le_refl _) _⟩
  case round =>
    obtain ⟨k, acc, hk, rfl, HSM, hac, HD, own, hb⟩ := hrel
    have O1 := Lib.hid own; have B1 := Lib.hid hb
    obtain ⟨av, cv, rfl, _, kv, kv', _⟩ := own_formn own
    clear own hb
    by_cases hkn : k < n
    · obtain ⟨b, off, rfl, hlt, hcb⟩ := row_str (H.out.below (Nat.le_refl _) B1.out) k (by rw [HN.out]; exact hkn)
      have HC := Lib.hid (decAll_cons (l := L) (k := k) (by rw [HN.out]; exact hkn) acc)
      have hsd := sumS_drop (l := L) (k := k) (by rw [HN.out]; exact hkn)
      have hsm := HSM.out
      generalize L.getD k ⟨#[]⟩ = s at hcb HC hsd
      have hsz : acc.length + s.size ≤ 2097152 := by omega
      have HS2 : Hid (acc.length + s.size + sumS (L.drop (k + 1)) ≤ 2097152) := by show _ ≤ _; omega
      clear hsd hsm
      go_wp2
      obtain ⟨wo, hwo⟩ : ∃ wo : World, wo = wr := ⟨_, rfl⟩
      rw [← hwo] at O1 B1 hcb hlt ⊢
      clear hwo
      go_loopw [4, 7] (fun v t wr => ∃ (j : Nat) (acc2 : List UInt8), j ≤ s.size ∧ t = .int .i64 (j : Int) ∧ acc2.length ≤ acc.length + j ∧ Hid (decA acc2 ((bl s).drop j) = decA acc (bl s)) ∧ wr.ownsRow w.heap.size 5 1 v acc2.length (acc2.map byteV) ∧ Below w.heap.size w wr) (fun _ t _ => s.size - (intOf t).toNat)
      case atStart => exact ⟨0, acc, Nat.zero_le _, rfl, by omega, rfl, O1.out, B1.out⟩
      case round =>
        clear O1 B1 hcb hlt
        obtain ⟨j, acc2, hj, rfl, hac2, HA, own, hb⟩ := hrel
        have O2 := Lib.hid own; have B2 := Lib.hid hb
        have hwr := hb.size
        obtain ⟨av2, cv2, rfl, _, kv2, kv2', _⟩ := own_formn own
        clear own hb
        by_cases hjs : j < s.size
        · by_cases hx : s[j] = 61
          · have b1 : ((s[j].toNat : Int) != 61) = false := by rw [hx]; rfl
            by_cases h1 : s.size = j + 1
            · have HA2 : Hid (decA acc2 ((bl s).drop (j + 1)) = decA acc (bl s)) := by
                rw [← HA.out, da_end hjs hx h1, List.drop_eq_nil_of_le (by rw [bl_len]; omega), decA]; rfl
              have b2 : (((j : Int) + 1) == (s.size : Int)) = true := by rw [beq_iff_eq]; omega
              clear hx h1
              go_wp2
              go_roundw
              case rel => exact ⟨j + 1, acc2, by omega, by go_num, by omega, HA2, O2.out, B2.out⟩
              case measure => simp [intOf]; omega
            · have b2 : (((j : Int) + 1) == (s.size : Int)) = false := by rw [beq_eq_false_iff_ne]; omega
              by_cases h2 : s.size = j + 2
              · have HR : Hid (readS L = ([], false)) := by
                  apply readS_none
                  rw [← HD.out, HC.out, ← HA.out, da_short hjs hx h2]
                have h2' : s.size ≤ j + 2 := by omega
                clear hx h2
                go_wp2
                go_ret2
                exact ⟨_, by rw [HR.out]; rfl, by rw [HR.out]; exact own_mono (own_new wr #[] 5 0 rfl (by omega)) B2.out.size, B2.out.alloc B2.out.size _⟩
              · have h3 : j + 2 < s.size := by omega
                have HT := Lib.hid (da_three h3 hx acc2)
                have d1 := hexD_bd s[j + 1]
                have d2 := hexD_bd s[j + 2]
                have b3 : decide ((s.size : Int) ≤ (j : Int) + 2) = false := by simp; omega
                by_cases hd1 : hexD s[j + 1] < 0
                · have HR : Hid (readS L = ([], false)) := by
                    apply readS_none
                    rw [← HD.out, HC.out, ← HA.out, HT.out, if_pos (.inl hd1)]
                  clear hx
                  go_wp2_with fail
                  refine (spec_l40Digit _ _).mono ?_
                  rintro e w1 ⟨rfl, rfl⟩
                  go_wp2
                  go_ret2
                  exact ⟨_, by rw [HR.out]; rfl, by rw [HR.out]; exact own_mono (own_new wr #[] 5 0 rfl (by omega)) B2.out.size, B2.out.alloc B2.out.size _⟩
                · have b4 : decide (hexD s[j + 1] < 0) = false := by simpa using hd1
                  by_cases hd2 : hexD s[j + 2] < 0
                  · have HR : Hid (readS L = ([], false)) := by
                      apply readS_none
                      rw [← HD.out, HC.out, ← HA.out, HT.out, if_pos (.inr hd2)]
                    clear hx
                    go_wp2_with fail
                    refine (spec_l40Digit _ _).mono ?_
                    rintro e w1 ⟨rfl, rfl⟩
                    go_wp2_with fail
                    refine (spec_l40Digit _ _).mono ?_
                    rintro e w1 ⟨rfl, rfl⟩
                    go_wp2
                    go_ret2
                    exact ⟨_, by rw [HR.out]; rfl, by rw [HR.out]; exact own_mono (own_new wr #[] 5 0 rfl (by omega)) B2.out.size, B2.out.alloc B2.out.size _⟩
                  · have b5 : decide (hexD s[j + 2] < 0) = false := by simpa using hd2
                    obtain ⟨bb, hbb⟩ : ∃ bb, bb = UInt8.ofNat (16 * hexD s[j + 1] + hexD s[j + 2]).toNat := ⟨_, rfl⟩
                    have HA2 : Hid (decA (acc2 ++ [bb]) ((bl s).drop (j + 3)) = decA acc (bl s)) := by
                      rw [← HA.out, HT.out, if_neg (by omega), hbb]; rfl
                    have q1 : IntKind.u8.wrap (16 * hexD s[j + 1] + hexD s[j + 2]) = (bb.toNat : Int) := by
                      rw [IntKind.wrap_u8, hbb, UInt8.toNat_ofNat']; omega
                    have q2 : 0 ≤ 16 * hexD s[j + 1] + hexD s[j + 2] := by omega
                    have q3 : 16 * hexD s[j + 1] + hexD s[j + 2] ≤ 255 := by omega
                    have d0 : 0 ≤ hexD s[j + 1] := by omega
                    have d3 : 0 ≤ hexD s[j + 2] := by omega
                    clear hx hbb hd1 hd2
                    go_wp2_with fail
                    refine (spec_l40Digit _ _).mono ?_
                    rintro e w1 ⟨rfl, rfl⟩
                    go_wp2_with fail
                    refine (spec_l40Digit _ _).mono ?_
                    rintro e w1 ⟨rfl, rfl⟩
                    go_wp2_with fail
                    have i1 : (0 : Int) ≤ (j : Int) + 1 := by omega
                    have i2 : (j : Int) + 1 < (s.size : Int) := by omega
                    have i3 : (0 : Int) ≤ (j : Int) + 2 := by omega
                    have i4 : (j : Int) + 2 < (s.size : Int) := by omega
                    have i5 : IntKind.i64.wrap ((j : Int) + 1) = (j : Int) + 1 := IntWalk.i64_in _ (by omega)
                    have i6 : IntKind.i64.wrap ((j : Int) + 2) = (j : Int) + 2 := IntWalk.i64_in _ (by omega)
                    have r1 : IntKind.i64.wrap (16 * hexD s[j + 1]) = 16 * hexD s[j + 1] := IntWalk.i64_in _ (by omega)
                    have r2 : IntKind.i64.wrap (16 * hexD s[j + 1] + hexD s[j + 2]) = 16 * hexD s[j + 1] + hexD s[j + 2] := IntWalk.i64_in _ (by omega)
                    have i7 : ((j : Int) + 1).toNat = j + 1 := by omega
                    have i8 : ((j : Int) + 2).toNat = j + 2 := by omega
                    go_region_held3 (fun _ => True) (trivial) (first
                      | ((refine step_pushB _ (.tmp 64) (.tmp 78) w.heap.size bb _ _ acc2 (by exact own_below O2.out (((Below.refl _ _).alloc (Nat.le_refl _) _).drew)) (by simp; omega) (by omega) wr.heap.size 1 (by exact cell_new1 wr _ _) rfl (by rfl) (by rfl) (by rfl) ?_; intro v5 w5 o5 g5))
                      | (go_at_call 35; refine (spec_l40Digit _ _).mono ?_; rintro e w1 ⟨rfl, rfl⟩))
                    all_goals
                      have B5 := Lib.hid (((B2.out.alloc B2.out.size _).drew).grown g5 (by simp; omega) (fun q hq => (own_ge O2.out q hq).1))
                      have O5 := Lib.hid o5
                      clear o5 g5
                      go_wp2
                      go_roundw
                      case rel => exact ⟨j + 3, acc2 ++ [bb], by omega, by go_num, by simp; omega, HA2, own_len_eq O5.out (by simp) rfl, B5.out⟩
                      case measure => simp [intOf]; omega
          · have b1 : ((s[j].toNat : Int) != 61) = true := by
              rw [bne_iff_ne]; intro e; exact hx (UInt8.toNat_inj.1 (by have : (61 : UInt8).toNat = 61 := rfl; omega))
            have HA2 : Hid (decA (acc2 ++ [s[j]]) ((bl s).drop (j + 1)) = decA acc (bl s)) := by
              rw [← HA.out, da_plain hjs hx]; rfl
            clear hx
            go_wp2_with (at_builtin; refine wpList_push (.tmp 31) (.tmp 35) w.heap.size s[j] _ acc2 O2.out B2.out.size (by omega) rfl (by rfl) (by rfl) (by rfl) ?_; intro v5 w5 o5 b5; have O5 := Lib.hid o5; have B5 := Lib.hid (B2.out.trans b5); clear o5 b5)
            go_roundw
            case rel => exact ⟨j + 1, acc2 ++ [s[j]], by omega, by go_num, by simp; omega, HA2, O5.out, B5.out⟩
            case measure => simp [intOf]; omega
        · have HA2 : Hid (decA acc (bl s) = some acc2) := by rw [← HA.out, List.drop_eq_nil_of_le (by rw [bl_len]; omega), decA]; rfl
          have HD2 : Hid (decAll acc2 (L.drop (k + 1)) = decAll [] L) := by rw [← HD.out, HC.out, HA2.out]; rfl
          have HS3 : Hid (acc2.length + sumS (L.drop (k + 1)) ≤ 2097152) := by have := HS2.out; show _ ≤ _; omega
          go_wp2
          go_roundw
          case rel => exact ⟨k + 1, acc2, by omega, by go_num, HS3, by omega, HD2, O2.out, B2.out⟩
          case measure => simp [intOf]; omega
    · have HDN : Hid (decAll [] L = some acc) := by rw [← HD.out, List.drop_eq_nil_of_le (by rw [HN.out]; omega), decAll]; rfl
      have hsl := softL_len acc
      go_wp2_with fail
      refine (spec_SoftLines _ _ _ acc _ (own_formn_row O1.out) rfl (by omega)).mono ?_
      rintro e w1 ⟨v1, rfl, o1, b1⟩
      obtain ⟨ax, cx, rfl, rx, kx, kx', _⟩ := own_formn o1
      have OX := Lib.hid o1
      have OA := Lib.hid (own_below O1.out b1)
      have BX := Lib.hid (B1.out.trans (b1.mono B1.out.size))
      have RX := Lib.hid rx
      have RL := Lib.hid (H.out.below (Nat.le_refl _) BX.out)
      clear o1 b1 rx
      by_cases hl : (softL acc).length = n
      · have HL := Lib.hid hl
        have b2 : (((softL acc).length : Int) != (n : Int)) = false := by rw [bne_eq_false_iff_eq]; omega
        have hxn : (softL acc).length ≤ 61 := hsl
        generalize hX : softL acc = X at *
        have HX := Lib.hid hX
        clear hX hl
        go_wp2
        go_loopw [9] (fun t wr => ∃ k : Nat, k ≤ X.length ∧ t = .int .i64 k ∧ Hid (∀ i, i < k → X.getD i ⟨#[]⟩ = L.getD i ⟨#[]⟩) ∧ Below w1.heap.size w1 wr) (fun t _ => X.length - (intOf t).toNat)
        case atStart => exact ⟨0, Nat.zero_le _, rfl, fun i hi => by omega, Below.refl _ _⟩
        case round =>
          obtain ⟨k2, hk2, rfl, HQ, hb2⟩ := hrel
          by_cases hlt : k2 < X.length
          · obtain ⟨b1, o1, rfl, hl1, hc1⟩ := row_str (RX.out.below (Nat.le_refl _) hb2) k2 hlt
            obtain ⟨b2, o2, rfl, hl2, hc2⟩ := row_str (RL.out.below (Nat.le_refl _) hb2) k2 (by rw [HN.out, ← HL.out]; exact hlt)
            have BW := Lib.hid (BX.out.trans (hb2.mono BX.out.size))
            have HB2 := Lib.hid hb2
            clear hb2
            have k0 : (0 : Int) ≤ (k2 : Int) := by omega
            have k1 : (k2 : Int) < (X.length : Int) := by omega
            have k3 : (k2 : Int) < (n : Int) := by have := HL.out; omega
            by_cases he : X.getD k2 ⟨#[]⟩ = L.getD k2 ⟨#[]⟩
            · rw [← he] at hc2
              have HE := Lib.hid he; clear he
              generalize X.getD k2 ⟨#[]⟩ = z at hc1 hc2
              go_wp2
              go_quiet (fail)
              go_wp2
              go_roundw
              case rel => exact ⟨k2 + 1, by omega, by go_num, upto_succ HQ.out HE.out, below_drewN HB2.out _⟩
              case measure => simp [intOf]; omega
            · have hne : ((X.getD k2 ⟨#[]⟩).toList == (L.getD k2 ⟨#[]⟩).toList) = false := tl_no he
              have HR : Hid (readS L = ([], false)) := readS_no HDN.out (by intro e; exact he (by rw [← HX.out, e]))
              clear he
              generalize X.getD k2 ⟨#[]⟩ = z1 at hc1 hne
              generalize L.getD k2 ⟨#[]⟩ = z2 at hc2 hne
              go_wp2
              go_quiet (fail)
              go_wp2
              go_ret2
              exact ⟨_, by rw [HR.out]; rfl, by rw [HR.out]; exact own_mono (own_new (wr.drewN _) #[] 5 0 rfl (by omega)) BW.out.size, (below_drewN BW.out _).alloc BW.out.size _⟩
          · obtain rfl : k2 = X.length := by omega
            have HE : Hid (X = L) := by
              apply List.ext_getElem (by rw [HN.out, ← HL.out])
              intro i h1 h2
              have := HQ.out i h1
              rw [getD_at h1, getD_at h2] at this
              exact this
            have HR : Hid (readS L = (acc, true)) := readS_yes HDN.out (by rw [HX.out]; exact HE.out)
            have OW := Lib.hid (own_below OA.out hb2)
            have BW := Lib.hid (BX.out.trans (hb2.mono BX.out.size))
            clear hb2
            go_wp2
            go_ret2
            exact ⟨_, by rw [HR.out]; rfl, by rw [HR.out]; exact OW.out, BW.out⟩
      · have HR : Hid (readS L = ([], false)) := readS_no HDN.out (by intro e; exact hl (by rw [e]; exact HN.out))
        have b2 : (((softL acc).length : Int) != (n : Int)) = true := by rw [bne_iff_ne]; omega
        go_wp2
        go_ret2
        exact ⟨_, by rw [HR.out]; rfl, by rw [HR.out]; exact own_mono (own_new w1 #[] 5 0 rfl (by omega)) BX.out.size, BX.out.alloc BX.out.size _⟩
end Go.Proofs.Ytnehdaocfijcpaa

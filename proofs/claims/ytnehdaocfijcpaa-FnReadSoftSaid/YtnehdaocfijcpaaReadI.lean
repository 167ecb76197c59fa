/- Reading soft lines, by the program. -/
import Derived.Test.YtnehdaocfijcpaaReadS
namespace Go.Proofs.Ytnehdaocfijcpaa
open Go.RowKit

/-- The joined text of lines, behind what is joined so far. -/
def joinA : List UInt8 → List ByteArray → Option (List UInt8)
  | acc, [] => some acc
  | acc, [s] => some (acc ++ bl s)
  | acc, s :: t :: r => if Lib.hasSuffix (bl s) [61] = true then joinA (acc ++ Lib.trimSuffix (bl s) [61]) (t :: r) else none
def readI (L : List ByteArray) : List UInt8 × Bool :=
  if L.length = 0 ∨ 180 < L.length then ([], false) else
  match joinA [] L with
  | none => ([], false)
  | some t => match decI [] t with
    | none => ([], false)
    | some b => if softL b = L then (b, true) else ([], false)
theorem readI_size {L : List ByteArray} (h : L.length = 0 ∨ 180 < L.length) : readI L = ([], false) := by unfold readI; rw [if_pos h]
theorem readI_join {L : List ByteArray} (h0 : ¬ (L.length = 0 ∨ 180 < L.length)) (h : joinA [] L = none) : readI L = ([], false) := by unfold readI; rw [if_neg h0, h]
theorem readI_dec {L : List ByteArray} (h0 : ¬ (L.length = 0 ∨ 180 < L.length)) {t : List UInt8} (h : joinA [] L = some t) (h2 : decI [] t = none) : readI L = ([], false) := by unfold readI; rw [if_neg h0, h]; simp only [h2]
theorem readI_no {L : List ByteArray} (h0 : ¬ (L.length = 0 ∨ 180 < L.length)) {t b : List UInt8} (h : joinA [] L = some t) (h2 : decI [] t = some b) (h3 : ¬ softL b = L) : readI L = ([], false) := by unfold readI; rw [if_neg h0, h]; simp only [h2, if_neg h3]
theorem readI_yes {L : List ByteArray} (h0 : ¬ (L.length = 0 ∨ 180 < L.length)) {t b : List UInt8} (h : joinA [] L = some t) (h2 : decI [] t = some b) (h3 : softL b = L) : readI L = (b, true) := by unfold readI; rw [if_neg h0, h]; simp only [h2, if_pos h3]
theorem join_last {L : List ByteArray} {k : Nat} (h : L.length = k + 1) (acc : List UInt8) : joinA acc (L.drop k) = some (acc ++ bl (L.getD k ⟨#[]⟩)) := by
  rw [List.drop_eq_getElem_cons (by omega), List.drop_eq_nil_of_le (by omega), joinA, getD_at (by omega)]
theorem join_more {L : List ByteArray} {k : Nat} (h : k + 1 < L.length) (acc : List UInt8) : joinA acc (L.drop k) = if Lib.hasSuffix (bl (L.getD k ⟨#[]⟩)) [61] = true then joinA (acc ++ Lib.trimSuffix (bl (L.getD k ⟨#[]⟩)) [61]) (L.drop (k + 1)) else none := by
  rw [List.drop_eq_getElem_cons (by omega), List.drop_eq_getElem_cons h, joinA, getD_at (by omega)]
theorem join_end {L : List ByteArray} {k : Nat} (h : L.length = k) (acc : List UInt8) : joinA acc (L.drop k) = some acc := by
  rw [List.drop_eq_nil_of_le (by omega), joinA]
theorem di_plain {s : ByteArray} {j : Nat} (h : j < s.size) (hx : ¬ s[j] = 61) (acc : List UInt8) : decI acc ((bl s).drop j) = decI (acc ++ [s[j]]) ((bl s).drop (j + 1)) := by rw [bl_drop s j h, decI_ne _ hx]
theorem di_short {s : ByteArray} {j : Nat} (h : j < s.size) (hx : s[j] = 61) (h2 : s.size ≤ j + 2) (acc : List UInt8) : decI acc ((bl s).drop j) = none := by
  rcases (show s.size = j + 1 ∨ s.size = j + 2 by omega) with h2 | h2
  · rw [bl_drop s j h, List.drop_eq_nil_of_le (by rw [bl_len]; omega), decI, if_pos hx]
  · rw [bl_drop s j h, bl_drop s (j + 1) (by omega), List.drop_eq_nil_of_le (by rw [bl_len]; omega), decI, if_pos hx]
theorem di_three {s : ByteArray} {j : Nat} (h : j + 2 < s.size) (hx : s[j] = 61) (acc : List UInt8) :
    decI acc ((bl s).drop j) = if hexD s[j + 1] < 0 ∨ hexD s[j + 2] < 0 then none else decI (acc ++ [UInt8.ofNat (16 * hexD s[j + 1] + hexD s[j + 2]).toNat]) ((bl s).drop (j + 3)) := by
  rw [bl_drop s j (by omega), bl_drop s (j + 1) (by omega), bl_drop s (j + 2) (by omega), decI, if_pos hx]
theorem index_hex (b : UInt8) (w : World) : Calls Try.prog 32 #[.string ⟨#[48, 49, 50, 51, 52, 53, 54, 55, 56, 57, 65, 66, 67, 68, 69, 70]⟩, .int .u8 (b.toNat : Int)] w fun e w' => e = .returned (.int .i64 (hexD b)) ∧ w = w' :=
  (Try.strings_IndexByte _ _ w).mono fun _ _ ⟨h1, h2⟩ => ⟨by
    have e : ((b.toNat : Int).toNat).toUInt8 = b := by rw [Int.toNat_natCast]; exact UInt8.ofNat_toNat
    rw [h1, e]
    exact ret_i64 (hexD_eq b), h2.symm⟩
theorem cut_eq (s : ByteArray) (w : World) (hs : s.size ≤ 9223372036854775807) : Calls Try.prog 31 #[.string s, .string ⟨#[61]⟩] w fun e w' => e = .returned (.tuple #[.string (mkS (Lib.trimSuffix (bl s) [61])), .bool (Lib.hasSuffix (bl s) [61])]) ∧ w = w' :=
  (Try.strings_CutSuffix s _ w hs).mono fun _ _ ⟨h1, h2⟩ => ⟨h1, h2.symm⟩
theorem trim_le (l : List UInt8) : (Lib.trimSuffix l [61]).length ≤ l.length := by
  unfold Lib.trimSuffix
  split <;> simp

set_option maxRecDepth 100000 in
set_option maxHeartbeats 3200000 in
theorem impl_ReadSoft (a : Option Addr) (n c : Nat) (L : List ByteArray) (w : World) (h : RowAt w a (L.map strV)) (hn : L.length = n) (hn' : n ≤ 2097152) (hs : sumS L ≤ 2097152) :
    Calls Try.prog 19 #[.slice a n c] w (BytesOk w (readI L)) := by
  have H := Lib.hid h; have HN := Lib.hid hn
  have HS0 : Hid ((⟨#[]⟩ : ByteArray).size + sumS (L.drop 0) ≤ 2097152) := by show 0 + _ ≤ _; simpa using hs
  clear h hn hs
  by_cases hn0 : n = 0
  · have HR : Hid (readI L = ([], false)) := readI_size (.inl (by rw [HN.out, hn0]))
    subst hn0
    go_enter Try.func19, Try.ntmps19
    go_wp2
    go_ret2
    exact ⟨_, by rw [HR.out]; rfl, by rw [HR.out]; exact World.ownsRow_nil _ _ _ _, Below.refl _ _⟩
  have t0 : ((n : Int) == 0) = false := by rw [beq_eq_false_iff_ne]; omega
  by_cases hn1 : 180 < n
  · have HR : Hid (readI L = ([], false)) := readI_size (.inr (by rw [HN.out]; exact hn1))
    go_enter Try.func19, Try.ntmps19
    go_wp2
    go_ret2
    exact ⟨_, by rw [HR.out]; rfl, by rw [HR.out]; exact World.ownsRow_nil _ _ _ _, Below.refl _ _⟩
  have HZ : Hid (¬ (L.length = 0 ∨ 180 < L.length)) := by rw [HN.out]; show ¬ _; omega
  have t1 : decide (180 < (n : Int)) = false := by simp; omega
  go_enter Try.func19, Try.ntmps19
  go_wp2
  go_loop [4, 23] (fun v t => ∃ (k : Nat) (x : ByteArray), k ≤ n ∧ t = .int .i64 (k : Int) ∧ v = .string x ∧ Hid (x.size + sumS (L.drop k) ≤ 2097152) ∧ x.size ≤ 2097152 ∧ Hid (joinA (bl x) (L.drop k) = joinA [] L)) (fun _ t => n - (intOf t).toNat)
  case atStart => exact ⟨0, ⟨#[]⟩, Nat.zero_le _, rfl, rfl, HS0, by show 0 ≤ _; omega, rfl⟩
  case round =>
    obtain ⟨k, x, hk, rfl, rfl, HSM, hxs, HJ⟩ := hrel
    by_cases hkn : k < n
    · obtain ⟨b, off, rfl, hlt, hcb⟩ := row_str H.out k (by rw [HN.out]; exact hkn)
      have HLast : Hid (∀ hl : n = k + 1, joinA (bl x) (L.drop k) = some (bl x ++ bl (L.getD k ⟨#[]⟩))) := fun hl => join_last (by rw [HN.out]; exact hl) _
      have HMore : Hid (k + 1 < n → joinA (bl x) (L.drop k) = if Lib.hasSuffix (bl (L.getD k ⟨#[]⟩)) [61] = true then joinA (bl x ++ Lib.trimSuffix (bl (L.getD k ⟨#[]⟩)) [61]) (L.drop (k + 1)) else none) := fun hl => join_more (by rw [HN.out]; exact hl) _
      have hsd := sumS_drop (l := L) (k := k) (by rw [HN.out]; exact hkn)
      have hsm := HSM.out
      generalize L.getD k ⟨#[]⟩ = s at hcb HLast HMore hsd
      have hsz : x.size + s.size ≤ 2097152 := by omega
      have HS2 : Hid (x.size + s.size + sumS (L.drop (k + 1)) ≤ 2097152) := by show _ ≤ _; omega
      clear hsd hsm
      by_cases hl : k + 1 = n
      · have HJ2 : Hid (joinA (bl (x ++ s)) (L.drop (k + 1)) = joinA [] L) := by
          rw [← HJ.out, HLast.out hl.symm, join_end (by rw [HN.out]; exact hl.symm), bl_app]; rfl
        have HSZ : Hid ((x ++ s).size + sumS (L.drop (k + 1)) ≤ 2097152) := by rw [ByteArray.size_append]; exact HS2.out
        have hl' : (n : Int) ≤ (k : Int) + 1 := by omega
        clear hl
        go_wp2
        go_round
        case rel => exact ⟨k + 1, x ++ s, by omega, by go_num, rfl, HSZ, by rw [ByteArray.size_append]; exact hsz, HJ2⟩
        case measure => simp [intOf]; omega
      · have hl2 : k + 1 < n := by omega
        have HM := Lib.hid (HMore.out hl2)
        have cs := cut_eq s
        have htl := trim_le (bl s)
        rw [bl_len] at htl
        rcases hsf : Lib.hasSuffix (bl s) [61] with _ | _
        · have HR : Hid (readI L = ([], false)) := readI_join HZ.out (by rw [← HJ.out, HM.out, if_neg (by rw [hsf]; simp)])
          rw [hsf] at cs
          have CS := Lib.hid cs
          clear cs hsf
          go_wp2_with fail
          refine (CS.out _ (by omega)).mono ?_
          rintro e w1 ⟨rfl, rfl⟩
          go_wp2
          go_ret2
          exact ⟨_, by rw [HR.out]; rfl, by rw [HR.out]; exact World.ownsRow_nil _ _ _ _, Below.refl _ _⟩
        · obtain ⟨y, hy⟩ : ∃ y, y = mkS (Lib.trimSuffix (bl s) [61]) := ⟨_, rfl⟩
          have hys : y.size ≤ s.size := by rw [hy, mkS_size]; exact htl
          have HJ2 : Hid (joinA (bl (x ++ y)) (L.drop (k + 1)) = joinA [] L) := by
            rw [← HJ.out, HM.out, if_pos hsf, bl_app, hy, bl_mkS]; rfl
          have HSZ : Hid ((x ++ y).size + sumS (L.drop (k + 1)) ≤ 2097152) := by have := HS2.out; rw [ByteArray.size_append]; show _ ≤ _; omega
          rw [hsf, ← hy] at cs
          have CS := Lib.hid cs
          clear cs hsf hy htl hl
          go_wp2_with fail
          refine (CS.out _ (by omega)).mono ?_
          rintro e w1 ⟨rfl, rfl⟩
          go_wp2
          go_round
          case rel => exact ⟨k + 1, x ++ y, by omega, by go_num, rfl, HSZ, by rw [ByteArray.size_append]; omega, HJ2⟩
          case measure => simp [intOf]; omega
    · have HJN : Hid (joinA [] L = some (bl x)) := by rw [← HJ.out, join_end (by rw [HN.out]; omega)]; rfl
      clear HJ HSM
      generalize hX : x = X at *
      clear hX
      go_wp2
      have O0 := Lib.hid (own_new w #[] 5 0 rfl (by omega))
      go_loopw [9, 10] (fun v t wr => ∃ (j : Nat) (acc2 : List UInt8), j ≤ X.size ∧ t = .int .i64 (j : Int) ∧ acc2.length ≤ j ∧ Hid (decI acc2 ((bl X).drop j) = decI [] (bl X)) ∧ wr.ownsRow w.heap.size 5 1 v acc2.length (acc2.map byteV) ∧ Below w.heap.size w wr) (fun _ t _ => X.size - (intOf t).toNat)
      case atStart => exact ⟨0, [], Nat.zero_le _, rfl, by simp, rfl, O0.out, (Below.refl _ _).alloc (Nat.le_refl _) _⟩
      case round =>
        obtain ⟨j, acc2, hj, rfl, hac2, HA, own, hb⟩ := hrel
        have O2 := Lib.hid own; have B2 := Lib.hid hb
        have hwr := hb.size
        obtain ⟨av2, cv2, rfl, _, kv2, kv2', _⟩ := own_formn own
        clear own hb
        by_cases hjs : j < X.size
        · by_cases hx : X[j] = 61
          · have b1 : ((X[j].toNat : Int) != 61) = false := by rw [hx]; rfl
            by_cases h2 : X.size ≤ j + 2
            · have HR : Hid (readI L = ([], false)) := readI_dec HZ.out HJN.out (by rw [← HA.out, di_short hjs hx h2])
              have b3 : decide ((X.size : Int) ≤ (j : Int) + 2) = true := by simp; omega
              clear hx
              go_wp2
              go_ret2
              exact ⟨_, by rw [HR.out]; rfl, by rw [HR.out]; exact World.ownsRow_nil _ _ _ _, B2.out⟩
            · have h3 : j + 2 < X.size := by omega
              have HT := Lib.hid (di_three h3 hx acc2)
              have d1 := hexD_bd X[j + 1]
              have d2 := hexD_bd X[j + 2]
              have b3 : decide ((X.size : Int) ≤ (j : Int) + 2) = false := by simp; omega
              have i1 : (0 : Int) ≤ (j : Int) + 1 := by omega
              have i2 : (j : Int) + 1 < (X.size : Int) := by omega
              have i3 : (0 : Int) ≤ (j : Int) + 2 := by omega
              have i4 : (j : Int) + 2 < (X.size : Int) := by omega
              have i5 : IntKind.i64.wrap ((j : Int) + 1) = (j : Int) + 1 := IntWalk.i64_in _ (by omega)
              have i6 : IntKind.i64.wrap ((j : Int) + 2) = (j : Int) + 2 := IntWalk.i64_in _ (by omega)
              have i7 : ((j : Int) + 1).toNat = j + 1 := by omega
              have i8 : ((j : Int) + 2).toNat = j + 2 := by omega
              clear hx
              go_wp2_with fail
              go_region_held3 (fun _ => True) (trivial) (first | (go_at_call 32; refine (index_hex _ _).mono ?_; rintro e w1 ⟨rfl, rfl⟩))
              all_goals
                have OD : Hid (wr.drew.ownsRow w.heap.size 5 1 (.slice av2 acc2.length cv2) acc2.length (acc2.map byteV)) := O2.out
                have BD : Hid (Below w.heap.size w wr.drew) := B2.out.drew
                generalize wr.drew = wd at OD BD ⊢
                by_cases hd1 : hexD X[j + 1] < 0
                · have HR : Hid (readI L = ([], false)) := readI_dec HZ.out HJN.out (by rw [← HA.out, HT.out, if_pos (.inl hd1)])
                  go_wp2
                  go_ret2
                  exact ⟨_, by rw [HR.out]; rfl, by rw [HR.out]; exact World.ownsRow_nil _ _ _ _, BD.out⟩
                · have b4 : decide (hexD X[j + 1] < 0) = false := by simpa using hd1
                  by_cases hd2 : hexD X[j + 2] < 0
                  · have HR : Hid (readI L = ([], false)) := readI_dec HZ.out HJN.out (by rw [← HA.out, HT.out, if_pos (.inr hd2)])
                    go_wp2
                    go_ret2
                    exact ⟨_, by rw [HR.out]; rfl, by rw [HR.out]; exact World.ownsRow_nil _ _ _ _, BD.out⟩
                  · have b5 : decide (hexD X[j + 2] < 0) = false := by simpa using hd2
                    obtain ⟨bb, hbb⟩ : ∃ bb, bb = UInt8.ofNat (16 * hexD X[j + 1] + hexD X[j + 2]).toNat := ⟨_, rfl⟩
                    have HA2 : Hid (decI (acc2 ++ [bb]) ((bl X).drop (j + 3)) = decI [] (bl X)) := by
                      rw [← HA.out, HT.out, if_neg (by omega), hbb]; rfl
                    have q1 : IntKind.u8.wrap (hexD X[j + 1] * 16 + hexD X[j + 2]) = (bb.toNat : Int) := by
                      rw [IntKind.wrap_u8, hbb, UInt8.toNat_ofNat']; omega
                    have q2 : 0 ≤ hexD X[j + 1] * 16 + hexD X[j + 2] := by omega
                    have q3 : hexD X[j + 1] * 16 + hexD X[j + 2] ≤ 255 := by omega
                    have r1 : IntKind.i64.wrap (hexD X[j + 1] * 16) = hexD X[j + 1] * 16 := IntWalk.i64_in _ (by omega)
                    have r2 : IntKind.i64.wrap (hexD X[j + 1] * 16 + hexD X[j + 2]) = hexD X[j + 1] * 16 + hexD X[j + 2] := IntWalk.i64_in _ (by omega)
                    clear hbb hd1 hd2
                    go_wp2_with (at_builtin; refine wpList_push (.tmp 83) (.tmp 89) w.heap.size bb _ acc2 OD.out BD.out.size (by omega) rfl (by rfl) (by rfl) (by rfl) ?_; intro v5 w5 o5 b5; have O5 := Lib.hid o5; have B5 := Lib.hid (BD.out.trans b5); clear o5 b5)
                    go_roundw
                    case rel => exact ⟨j + 3, acc2 ++ [bb], by omega, by go_num, by simp; omega, HA2, O5.out, B5.out⟩
                    case measure => simp [intOf]; omega
          · have b1 : ((X[j].toNat : Int) != 61) = true := by
              rw [bne_iff_ne]; intro e; exact hx (UInt8.toNat_inj.1 (by have : (61 : UInt8).toNat = 61 := rfl; omega))
            have HA2 : Hid (decI (acc2 ++ [X[j]]) ((bl X).drop (j + 1)) = decI [] (bl X)) := by
              rw [← HA.out, di_plain hjs hx]; rfl
            clear hx
            go_wp2_with (at_builtin; refine wpList_push (.tmp 56) (.tmp 60) w.heap.size X[j] _ acc2 O2.out B2.out.size (by omega) rfl (by rfl) (by rfl) (by rfl) ?_; intro v5 w5 o5 b5; have O5 := Lib.hid o5; have B5 := Lib.hid (B2.out.trans b5); clear o5 b5)
            go_roundw
            case rel => exact ⟨j + 1, acc2 ++ [X[j]], by omega, by go_num, by simp; omega, HA2, O5.out, B5.out⟩
            case measure => simp [intOf]; omega
        · have HDN : Hid (decI [] (bl X) = some acc2) := by rw [← HA.out, List.drop_eq_nil_of_le (by rw [bl_len]; omega), decI]; rfl
          have hsl := softL_len acc2
          go_wp2_with fail
          refine (impl_SoftLines _ _ _ acc2 _ (own_formn_row O2.out) rfl (by omega)).mono ?_
          rintro e w1 ⟨v1, rfl, o1, b1⟩
          obtain ⟨ax, cx, rfl, rx, kx, kx', _⟩ := own_formn o1
          have OA := Lib.hid (own_below O2.out b1)
          have BX := Lib.hid (B2.out.trans (b1.mono B2.out.size))
          have RX := Lib.hid rx
          have RL := Lib.hid (H.out.below (Nat.le_refl _) BX.out)
          clear o1 b1 rx
          go_wp2_with fail
          refine (equal_rows _ _ _ _ _ _ (softL acc2) L _ RX.out RL.out rfl HN.out (by omega) (by omega)).mono ?_
          rintro e w2 ⟨rfl, b2⟩
          have OB := Lib.hid (own_below OA.out b2)
          have BY := Lib.hid (BX.out.trans (b2.mono BX.out.size))
          clear b2
          by_cases he : softL acc2 = L
          · have HR : Hid (readI L = (acc2, true)) := readI_yes HZ.out HJN.out HDN.out he
            have hd : decide (softL acc2 = L) = true := decide_eq_true he
            rw [hd]
            clear he hd
            go_wp2
            go_ret2
            exact ⟨_, by rw [HR.out]; rfl, by rw [HR.out]; exact OB.out, BY.out⟩
          · have HR : Hid (readI L = ([], false)) := readI_no HZ.out HJN.out HDN.out he
            have hd : decide (softL acc2 = L) = false := decide_eq_false he
            rw [hd]
            clear he hd
            go_wp2
            go_ret2
            exact ⟨_, by rw [HR.out]; rfl, by rw [HR.out]; exact World.ownsRow_nil _ _ _ _, BY.out⟩
end Go.Proofs.Ytnehdaocfijcpaa

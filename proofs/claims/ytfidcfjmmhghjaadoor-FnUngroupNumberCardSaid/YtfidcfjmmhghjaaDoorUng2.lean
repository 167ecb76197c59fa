/- UngroupNumber of the reference; the law that asks for the same answers (printed by gen_ung2.py). -/
import Derived.Test.YtfidcfjmmhghjaaDoorUng
namespace Go.Proofs.YtfidcfjmmhghjaaDoor
open Go.RowKit

theorem tl_litU (s : ByteArray) (l : List UInt8) : (s.toList == l) = decide (bl s = l) := by
  rw [ByteArray.toList_eq]
  show (bl s == l) = _
  by_cases h : bl s = l
  · rw [decide_eq_true h, h]; simp
  · rw [decide_eq_false h, beq_eq_false_iff_ne]; exact h
theorem tl_empU (s : ByteArray) : s.toList.isEmpty = decide (bl s = []) := by
  rw [ByteArray.toList_eq]
  show (bl s).isEmpty = _
  cases bl s <;> rfl
theorem accN_lt : ∀ (l : List UInt8) (acc : Nat), accN acc l < (acc + 1) * 10 ^ l.length := by
  intro l
  induction l with
  | nil => intro acc; simp [accN]
  | cons b l ih =>
    intro acc
    rw [accN, List.length_cons, Nat.pow_succ, Nat.mul_comm (10 ^ l.length) 10, ← Nat.mul_assoc]
    split
    · rename_i h
      have hb : b.toNat - 48 ≤ 9 := by unfold digC at h; rw [decide_eq_true_iff] at h; omega
      exact Nat.lt_of_lt_of_le (ih _) (Nat.mul_le_mul_right _ (by omega))
    · exact Nat.lt_of_lt_of_le (ih _) (Nat.mul_le_mul_right _ (by omega))
theorem accN_take {s : ByteArray} {k : Nat} (h : k < s.size) : accN 0 ((bl s).take (k + 1)) = if digC s[k] = true then 10 * accN 0 ((bl s).take k) + (s[k].toNat - 48) else accN 0 ((bl s).take k) := by
  rw [bl_take s k h, accN_app]; rfl
theorem acc9 {l : List UInt8} {k : Nat} (h : k ≤ 9) : accN 0 (l.take k) ≤ 999999999 := by
  have h1 := accN_lt (l.take k) 0
  have h2 : (l.take k).length ≤ 9 := by simp; omega
  have h3 : 10 ^ (l.take k).length ≤ 10 ^ 9 := Nat.pow_le_pow_right (by omega) h2
  omega
theorem ung_not {l : List UInt8} {sg : UInt8} (h : digC sg = true ∨ sg = 45 ∨ l = [] ∨ ¬ grpR (specN l) sg = l) : ungR l sg = (0, false) := by
  refine ungR_no ?_
  unfold ungOk sgBad
  rcases h with h | h | h | h
  · rw [h]; rfl
  · subst h; rfl
  · rw [decide_eq_false (p := ¬ l = []) (fun e => e h)]; simp
  · rw [decide_eq_false h, Bool.and_false]
theorem ung_is {l : List UInt8} {sg : UInt8} (h1 : digC sg = false) (h2 : ¬ sg = 45) (h3 : ¬ l = []) (h4 : grpR (specN l) sg = l) : ungR l sg = (specN l, true) := by
  refine ungR_yes ?_
  unfold ungOk sgBad
  rw [h1, decide_eq_false h2, decide_eq_true h3, decide_eq_true h4]; rfl

set_option maxRecDepth 100000 in
set_option maxHeartbeats 3200000 in
theorem spec_UngroupNumber (s : ByteArray) (sg : UInt8) (w : World) (hs : s.size ≤ 1048576) :
    Calls Tryd.prog 9 #[.string s, .int .u8 (sg.toNat : Int)] w (NumOk w (ungR (bl s) sg)) := by
  have CD : Hid (∀ (c : UInt8) W, Calls Tryd.prog 17 #[.int .u8 (c.toNat : Int)] W fun e w' => e = .returned (.bool (digC c)) ∧ W = w') := fun c W => by rw [← digB_C]; exact spec_l1Digit c W
  have HNO := Lib.hid (@ung_not (bl s) sg)
  have HYE := Lib.hid (@ung_is (bl s) sg)
  generalize ungR (bl s) sg = r at *
  go_enter Tryd.func9, Tryd.ntmps9
  go_wp2
  go_loop [6, 7] (fun p t => ∃ k m : Nat, k ≤ s.size ∧ k ≤ 9 ∧ t = .int .i64 (k : Int) ∧ p = .int .i64 (m : Int) ∧ Hid (m = accN 0 ((bl s).take k))) (fun _ t => s.size - (intOf t).toNat)
  case atStart => exact ⟨0, 0, Nat.zero_le _, by omega, rfl, rfl, rfl⟩
  case round =>
    obtain ⟨k, m, hk, hk9, rfl, rfl, HM⟩ := hrel
    have hm9 := acc9 (l := bl s) hk9
    rw [← HM.out] at hm9
    by_cases hgo : k < s.size ∧ k < 9
    · obtain ⟨hks, hkn⟩ := hgo
      have hst := accN_take hks
      rw [← HM.out] at hst
      have hdd : digC s[k] = true → 48 ≤ s[k].toNat ∧ s[k].toNat ≤ 57 := fun h => by unfold digC at h; rwa [decide_eq_true_iff] at h
      have CDk := CD.out s[k]
      rcases hd : digC s[k] with _ | _
      · rw [hd] at hst CDk
        have HM2 : Hid (m = accN 0 ((bl s).take (k + 1))) := by show _ = _; rw [hst]; rfl
        have CD2 := Lib.hid CDk
        clear hst CDk hd hdd
        go_wp2_with fail
        refine (CD2.out _).mono ?_
        rintro e w1 ⟨rfl, rfl⟩
        go_wp2
        go_round
        case rel => exact ⟨k + 1, m, by omega, by omega, by go_num, rfl, HM2⟩
        case measure => simp [intOf]; omega
      · obtain ⟨hc1, hc2⟩ := hdd hd
        rw [hd, if_pos rfl] at hst
        rw [hd] at CDk
        have HM2 : Hid (10 * m + (s[k].toNat - 48) = accN 0 ((bl s).take (k + 1))) := hst.symm
        have CD2 := Lib.hid CDk
        have hsub : (s[k].toNat : Int) - 48 = ((s[k].toNat - 48 : Nat) : Int) := by omega
        have hw8 : IntKind.u8.wrap ((s[k].toNat - 48 : Nat) : Int) = ((s[k].toNat - 48 : Nat) : Int) := by rw [IntKind.wrap_u8]; omega
        have hw64 : IntKind.i64.wrap ((s[k].toNat - 48 : Nat) : Int) = ((s[k].toNat - 48 : Nat) : Int) := IntWalk.i64_in _ (by omega)
        clear hst CDk hd hdd
        go_wp2_with fail
        refine (CD2.out _).mono ?_
        rintro e w1 ⟨rfl, rfl⟩
        go_wp2
        go_round
        case rel => exact ⟨k + 1, _, by omega, by omega, by go_num, by go_num, HM2⟩
        case measure => simp [intOf]; omega
    · have HA : Hid (m = accN 0 ((bl s).take 9)) := by
        show _ = _
        rw [HM.out]
        by_cases h : k = 9
        · rw [h]
        · have : k = s.size := by omega
          rw [this, List.take_of_length_le (by rw [bl_len]; exact Nat.le_refl _), List.take_of_length_le (by rw [bl_len]; omega)]
      have hcase : ¬ (k < s.size) ∨ (k < s.size ∧ ¬ k < 9) := by omega
      clear hgo
      rcases hcase with hks | ⟨hks, hk9'⟩
      all_goals
        clear HM
        have CDs := CD.out sg
        by_cases hse : s = ⟨#[]⟩
        case pos =>
          subst hse
          first
          | exact absurd hks (Nat.not_lt_zero _)
          | skip
            rcases hd : digC sg with _ | _
            case true =>
              have HR : Hid (r = (0, false)) := HNO.out (.inl hd)
              rw [hd] at CDs
              have CD2 := Lib.hid CDs
              clear CDs hd
              go_wp2_with fail
              refine (CD2.out _).mono ?_
              rintro e w1 ⟨rfl, rfl⟩
              go_wp2
              go_ret2
              exact ⟨by rw [HR.out]; rfl, Below.refl _ _⟩
            have HD := Lib.hid hd
            rw [hd] at CDs
            have CD2 := Lib.hid CDs
            clear CDs hd
            by_cases h45 : sg = 45
            case pos =>
              have HR : Hid (r = (0, false)) := HNO.out (.inr (.inl h45))
              have b45 := beqS h45
              clear h45
              go_wp2_with fail
              refine (CD2.out _).mono ?_
              rintro e w1 ⟨rfl, rfl⟩
              go_wp2
              go_ret2
              exact ⟨by rw [HR.out]; rfl, Below.refl _ _⟩
            have b45 := bneS h45
            have H45 := Lib.hid h45
            clear h45
            have CG := Lib.hid (fun W => spec_GroupNumber ((m : Int)) sg W (by omega) (by omega))
            have hty : ((mkS (grpR ((m : Int)) sg)).toList == []) = decide (bl (mkS (grpR ((m : Int)) sg)) = []) := tl_litU _ _
            have hty2 : (mkS (grpR ((m : Int)) sg)).toList.isEmpty = decide (bl (mkS (grpR ((m : Int)) sg)) = []) := tl_empU _
            generalize decide (bl (mkS (grpR ((m : Int)) sg)) = []) = bb at *
            generalize mkS (grpR ((m : Int)) sg) = g at *
            cases bb
            · have HR : Hid (r = (0, false)) := HNO.out (.inr (.inr (.inl rfl)))
              go_wp2_with fail
              refine (CD2.out _).mono ?_
              rintro e w1 ⟨rfl, rfl⟩
              go_wp2_with fail
              refine (CG.out _).mono ?_
              rintro e w3 ⟨rfl, b3⟩
              go_wp2
              go_ret2
              exact ⟨by rw [HR.out]; rfl, b3⟩
            · have HR : Hid (r = (0, false)) := HNO.out (.inr (.inr (.inl rfl)))
              go_wp2_with fail
              refine (CD2.out _).mono ?_
              rintro e w1 ⟨rfl, rfl⟩
              go_wp2_with fail
              refine (CG.out _).mono ?_
              rintro e w3 ⟨rfl, b3⟩
              go_wp2
              go_ret2
              exact ⟨by rw [HR.out]; rfl, b3⟩
        have hemp := emptyU hse
        have HNE : Hid (¬ bl s = []) := fun e => hse (bl_inj (by rw [e]; rfl))
        have hpos : 0 < s.size := by
          rw [← bl_len]
          rcases hb : bl s with _ | ⟨x, l⟩
          · exact absurd hb HNE.out
          · simp
        clear hse
        have hhd : (bl s).head? = some s[0] := by
          have := bl_get s 0 hpos
          rwa [← List.head?_eq_getElem?] at this
        by_cases h0 : s[0] = 45
        · have b0 := beqS h0
          have HSN : Hid (specN (bl s) = -(m : Int)) := by show _ = _; rw [specN, hhd, h0, if_pos rfl, ← HA.out]
          clear hhd h0
          rcases hd : digC sg with _ | _
          case true =>
            have HR : Hid (r = (0, false)) := HNO.out (.inl hd)
            rw [hd] at CDs
            have CD2 := Lib.hid CDs
            clear CDs hd
            go_wp2_with fail
            refine (CD2.out _).mono ?_
            rintro e w1 ⟨rfl, rfl⟩
            go_wp2
            go_ret2
            exact ⟨by rw [HR.out]; rfl, Below.refl _ _⟩
          have HD := Lib.hid hd
          rw [hd] at CDs
          have CD2 := Lib.hid CDs
          clear CDs hd
          by_cases h45 : sg = 45
          case pos =>
            have HR : Hid (r = (0, false)) := HNO.out (.inr (.inl h45))
            have b45 := beqS h45
            clear h45
            go_wp2_with fail
            refine (CD2.out _).mono ?_
            rintro e w1 ⟨rfl, rfl⟩
            go_wp2
            go_ret2
            exact ⟨by rw [HR.out]; rfl, Below.refl _ _⟩
          have b45 := bneS h45
          have H45 := Lib.hid h45
          clear h45
          have CG := Lib.hid (fun W => spec_GroupNumber (-(m : Int)) sg W (by omega) (by omega))
          have hty := tl_yn (mkS (grpR (-(m : Int)) sg)) s
          have HGE : Hid (mkS (grpR (-(m : Int)) sg) = s ↔ grpR (specN (bl s)) sg = bl s) := by
            rw [HSN.out]
            exact ⟨fun e => by rw [← e, bl_mkS], fun e => by rw [e, mkS_bl]⟩
          generalize mkS (grpR (-(m : Int)) sg) = g at *
          by_cases hg : g = s
          · have HR : Hid (r = (-(m : Int), true)) := by show _ = _; rw [HYE.out HD.out H45.out HNE.out (HGE.out.1 hg), HSN.out]
            subst hg
            clear hty
            go_wp2_with fail
            refine (CD2.out _).mono ?_
            rintro e w1 ⟨rfl, rfl⟩
            go_wp2_with fail
            refine (CG.out _).mono ?_
            rintro e w3 ⟨rfl, b3⟩
            go_wp2
            go_ret2
            exact ⟨by rw [HR.out]; rfl, b3⟩
          · have HR : Hid (r = (0, false)) := HNO.out (.inr (.inr (.inr (fun e => hg (HGE.out.2 e)))))
            rw [decide_eq_false hg] at hty
            clear hg
            go_wp2_with fail
            refine (CD2.out _).mono ?_
            rintro e w1 ⟨rfl, rfl⟩
            go_wp2_with fail
            refine (CG.out _).mono ?_
            rintro e w3 ⟨rfl, b3⟩
            go_wp2
            go_ret2
            exact ⟨by rw [HR.out]; rfl, b3⟩
        · have b0 := bneS h0
          have HSN : Hid (specN (bl s) = (m : Int)) := by
            show _ = _
            rw [specN, hhd, if_neg (by intro e; injection e with e; exact h0 e), ← HA.out]
          clear hhd h0
          rcases hd : digC sg with _ | _
          case true =>
            have HR : Hid (r = (0, false)) := HNO.out (.inl hd)
            rw [hd] at CDs
            have CD2 := Lib.hid CDs
            clear CDs hd
            go_wp2_with fail
            refine (CD2.out _).mono ?_
            rintro e w1 ⟨rfl, rfl⟩
            go_wp2
            go_ret2
            exact ⟨by rw [HR.out]; rfl, Below.refl _ _⟩
          have HD := Lib.hid hd
          rw [hd] at CDs
          have CD2 := Lib.hid CDs
          clear CDs hd
          by_cases h45 : sg = 45
          case pos =>
            have HR : Hid (r = (0, false)) := HNO.out (.inr (.inl h45))
            have b45 := beqS h45
            clear h45
            go_wp2_with fail
            refine (CD2.out _).mono ?_
            rintro e w1 ⟨rfl, rfl⟩
            go_wp2
            go_ret2
            exact ⟨by rw [HR.out]; rfl, Below.refl _ _⟩
          have b45 := bneS h45
          have H45 := Lib.hid h45
          clear h45
          have CG := Lib.hid (fun W => spec_GroupNumber ((m : Int)) sg W (by omega) (by omega))
          have hty := tl_yn (mkS (grpR ((m : Int)) sg)) s
          have HGE : Hid (mkS (grpR ((m : Int)) sg) = s ↔ grpR (specN (bl s)) sg = bl s) := by
            rw [HSN.out]
            exact ⟨fun e => by rw [← e, bl_mkS], fun e => by rw [e, mkS_bl]⟩
          generalize mkS (grpR ((m : Int)) sg) = g at *
          by_cases hg : g = s
          · have HR : Hid (r = ((m : Int), true)) := by show _ = _; rw [HYE.out HD.out H45.out HNE.out (HGE.out.1 hg), HSN.out]
            subst hg
            clear hty
            go_wp2_with fail
            refine (CD2.out _).mono ?_
            rintro e w1 ⟨rfl, rfl⟩
            go_wp2_with fail
            refine (CG.out _).mono ?_
            rintro e w3 ⟨rfl, b3⟩
            go_wp2
            go_ret2
            exact ⟨by rw [HR.out]; rfl, b3⟩
          · have HR : Hid (r = (0, false)) := HNO.out (.inr (.inr (.inr (fun e => hg (HGE.out.2 e)))))
            rw [decide_eq_false hg] at hty
            clear hg
            go_wp2_with fail
            refine (CD2.out _).mono ?_
            rintro e w1 ⟨rfl, rfl⟩
            go_wp2_with fail
            refine (CG.out _).mono ?_
            rintro e w3 ⟨rfl, b3⟩
            go_wp2
            go_ret2
            exact ⟨by rw [HR.out]; rfl, b3⟩

set_option maxHeartbeats 800000 in
theorem walk_FnExactUngroupNumber (s : ByteArray) (a1 : Int) (w : World) (hs : s.size ≤ maxLen) (h1 : (Lit.int .u8 a1).wf = true) (hm : AllOk w) :
    Calls Tryd.prog 4 #[.string s, .int .u8 a1] w fun e w' => e = .returned (.bool true) ∧ Below w.heap.size w w' := by
  unfold maxLen at hs
  have hb1 := bounds_u8 h1
  obtain ⟨sg, hsg⟩ : ∃ sg : UInt8, (sg.toNat : Int) = a1 := ⟨UInt8.ofNat a1.toNat, by rw [UInt8.toNat_ofNat']; omega⟩
  subst hsg
  by_cases hn : 1048576 < s.size
  · go_enter Tryd.func4, Tryd.ntmps4
    go_wp2
    go_ret
    exact ⟨rfl, Below.refl _ _⟩
  have CS := Lib.hid (fun W => spec_UngroupNumber s sg W (by omega))
  have CI := Lib.hid (fun W h => impl_UngroupNumber s sg W (by omega) h)
  have HM := Lib.hid hm
  generalize ungR (bl s) sg = r at *
  obtain ⟨r1, r2⟩ := r
  clear hm h1 hb1
  go_enter Tryd.func4, Tryd.ntmps4
  go_wp2_with fail
  refine (CS.out _).mono ?_
  rintro e w1 ⟨rfl, b1⟩
  have B1 := Lib.hid b1
  have HM1 := Lib.hid (HM.out.below b1)
  clear b1
  go_wp2_with fail
  refine (CI.out _ HM1.out).mono ?_
  rintro e w2 ⟨rfl, b2⟩
  cases r2
  all_goals
    go_wp2
    go_ret
    exact ⟨rfl, B1.out.trans (b2.mono B1.out.size)⟩
end Go.Proofs.YtfidcfjmmhghjaaDoor

/- StarsFit, of the program and of the reference, and the law that asks for the same answers. -/
import Derived.Test.YtlilmphbjmjpdaaStarsFit2
namespace Go.Proofs.Ytlilmphbjmjpdaa
open Go.RowKit

/-- How many stars stand bare. -/
def starN : List UInt8 → Nat
  | [] => 0
  | [c] => if (c.toNat : Int) = 42 then 1 else 0
  | c :: d :: p => if (c.toNat : Int) = 42 then starN (d :: p) + 1 else if (c.toNat : Int) = 92 then starN p else starN (d :: p)
theorem star_yes {c : UInt8} {p : List UInt8} (h : (c.toNat : Int) = 42) : starN (c :: p) = starN p + 1 := by
  cases p <;> simp only [starN, if_pos h]
theorem star_other {c : UInt8} {p : List UInt8} (h : ¬ (c.toNat : Int) = 42) (h' : ¬ (c.toNat : Int) = 92) : starN (c :: p) = starN p := by
  cases p <;> simp only [starN, if_neg h, if_neg h']
theorem star_two {c d : UInt8} {p : List UInt8} (h : (c.toNat : Int) = 92) : starN (c :: d :: p) = starN p := by
  simp only [starN, if_neg (show ¬ (c.toNat : Int) = 42 by omega), if_pos h]

/-- What stands of the count and of the backslashes before the k-th byte. -/
def PatAt (p : ByteArray) (k st : Nat) : Prop := k ≤ p.size ∧ st ≤ k ∧ st + starN ((bl p).drop k) = starN (bl p) ∧ slashOk ((bl p).drop k) = slashOk (bl p)
theorem pat_zero (p : ByteArray) : PatAt p 0 0 := ⟨Nat.zero_le _, Nat.le_refl _, Nat.zero_add _, rfl⟩
theorem pat_star {p : ByteArray} {k st : Nat} (h : PatAt p k st) (hk : k < p.size) (hc : (p[k].toNat : Int) = 42) : PatAt p (k + 1) (st + 1) := by
  obtain ⟨h1, h2, h3, h4⟩ := h
  rw [bl_drop p k hk] at h3 h4
  rw [star_yes hc] at h3
  rw [slash_other (by omega)] at h4
  exact ⟨by omega, by omega, by omega, h4⟩
theorem pat_other {p : ByteArray} {k st : Nat} (h : PatAt p k st) (hk : k < p.size) (hc : ¬ (p[k].toNat : Int) = 42) (hc' : ¬ (p[k].toNat : Int) = 92) : PatAt p (k + 1) st := by
  obtain ⟨h1, h2, h3, h4⟩ := h
  rw [bl_drop p k hk] at h3 h4
  rw [star_other hc hc'] at h3
  rw [slash_other hc'] at h4
  exact ⟨by omega, by omega, h3, h4⟩
theorem pat_slash {p : ByteArray} {k st : Nat} (h : PatAt p k st) (hk : k + 1 < p.size) (hc : (p[k].toNat : Int) = 92) : PatAt p (k + 1 + 1) st := by
  obtain ⟨h1, h2, h3, h4⟩ := h
  rw [bl_drop p k (by omega), bl_drop p (k + 1) hk] at h3 h4
  rw [star_two hc] at h3
  rw [slash_two hc] at h4
  exact ⟨by omega, by omega, h3, h4⟩
theorem pat_last {p : ByteArray} {k st : Nat} (h : PatAt p k st) (hk : k < p.size) (hk' : p.size ≤ k + 1) (hc : (p[k].toNat : Int) = 92) : slashOk (bl p) = false := by
  obtain ⟨h1, h2, h3, h4⟩ := h
  rw [bl_drop p k hk, drop_end hk', slash_one hc] at h4
  exact h4.symm
theorem pat_end {p : ByteArray} {k st : Nat} (h : PatAt p k st) (hk : p.size ≤ k) : st = starN (bl p) ∧ slashOk (bl p) = true := by
  obtain ⟨h1, h2, h3, h4⟩ := h
  rw [drop_end hk] at h3 h4
  exact ⟨by simpa [starN] using h3, h4.symm⟩

def patB (p : ByteArray) : Bool := slashOk (bl p) && textB (bl p) && decide ((p.size : Int) ≤ 40) && decide ((starN (bl p) : Int) ≤ 3)

set_option maxRecDepth 100000 in
set_option maxHeartbeats 1600000 in
theorem spec_Pattern (p : ByteArray) (w : World) (hp : p.size ≤ 4611686018427387904) :
    Calls Try.prog 22 #[.string p] w fun e w' => e = .returned (.bool (patB p)) ∧ w = w' := by
  go_enter Try.func22, Try.ntmps22
  go_wp2
  go_loop [3, 4] (fun t i => ∃ k st : Nat, k ≤ p.size ∧ st ≤ k ∧ i = .int .i64 k ∧ t = .int .i64 st ∧ Hid (PatAt p k st)) (fun _ i => p.size - (intOf i).toNat)
  case atStart => exact ⟨0, 0, Nat.zero_le _, Nat.le_refl _, rfl, rfl, pat_zero p⟩
  case round =>
    obtain ⟨k, st, hk, hst, rfl, rfl, HP⟩ := hrel
    by_cases h0 : k < p.size
    · by_cases c42 : (p[k].toNat : Int) = 42
      · have b42 := beq_yes c42
        have b92 : ((p[k].toNat : Int) == 92) = false := beq_no (by omega)
        have HN : Hid (PatAt p (k + 1) (st + 1)) := pat_star HP.out h0 c42
        clear c42
        go_wp2
        go_round
        case rel => exact ⟨k + 1, st + 1, by omega, by omega, by go_num, by go_num, HN⟩
        case measure => simp [intOf]; omega
      · have b42 := beq_no c42
        by_cases c92 : (p[k].toNat : Int) = 92
        · have b92 := beq_yes c92
          by_cases h1 : k + 1 < p.size
          · have HN : Hid (PatAt p (k + 1 + 1) st) := pat_slash HP.out h1 c92
            have hne : ((k : Int) + 1 == (p.size : Int)) = false := beq_no (by omega)
            clear c42 c92
            go_wp2
            go_round
            case rel => exact ⟨k + 1 + 1, st, by omega, by omega, by go_num, by go_num, HN⟩
            case measure => simp [intOf]; omega
          · have HF : Hid (patB p = false) := by rw [patB, pat_last HP.out h0 (by omega) c92, Bool.false_and]; rfl
            have hne : ((k : Int) + 1 == (p.size : Int)) = true := beq_yes (by omega)
            clear c42 c92
            go_wp2
            go_ret
            exact ⟨ret_bool HF.out.symm, rfl⟩
        · have b92 := beq_no c92
          have HN : Hid (PatAt p (k + 1) st) := pat_other HP.out h0 c42 c92
          clear c42 c92
          go_wp2
          go_round
          case rel => exact ⟨k + 1, st, by omega, by omega, by go_num, by go_num, HN⟩
          case measure => simp [intOf]; omega
    · obtain ⟨e1, e2⟩ := pat_end HP.out (by omega)
      have CT := Lib.hid (spec_TextValid p w (by omega))
      have HE1 := Lib.hid e1
      have HE2 := Lib.hid e2
      clear e1 e2
      rcases ht : textB (bl p) with _ | _
      · rw [ht] at CT
        have HF : Hid (patB p = false) := by rw [patB, ht, Bool.and_false]; rfl
        clear ht
        go_wp2_with fail
        refine CT.out.mono ?_
        rintro e w1 ⟨rfl, rfl⟩
        go_wp2
        go_ret
        exact ⟨ret_bool HF.out.symm, rfl⟩
      · rw [ht] at CT
        by_cases h40 : (p.size : Int) ≤ 40
        · have HF : Hid (patB p = decide ((st : Int) ≤ 3)) := by rw [patB, ht, HE2.out, decide_eq_true h40, HE1.out]; rfl
          clear ht
          go_wp2_with fail
          refine CT.out.mono ?_
          rintro e w1 ⟨rfl, rfl⟩
          go_wp2
          go_ret
          exact ⟨ret_bool HF.out.symm, rfl⟩
        · have HF : Hid (patB p = false) := by rw [patB, ht, HE2.out, decide_eq_false h40]; rfl
          have h40' : 40 < (p.size : Int) := by omega
          clear ht
          go_wp2_with fail
          refine CT.out.mono ?_
          rintro e w1 ⟨rfl, rfl⟩
          go_wp2
          go_ret
          exact ⟨ret_bool HF.out.symm, rfl⟩

def vB (s : ByteArray) : Bool := decide ((s.size : Int) ≤ 40) && textB (bl s)
theorem impl_valueOk (s : ByteArray) (w : World) (hs : s.size ≤ 4611686018427387904) :
    Calls Try.prog 24 #[.string s] w fun e w' => e = .returned (.bool (vB s)) ∧ w = w' := by
  by_cases h40 : (s.size : Int) ≤ 40
  · have HF : Hid (vB s = textB (bl s)) := by rw [vB, decide_eq_true h40]; rfl
    go_enter Try.func24, Try.ntmps24
    go_wp2_with fail
    refine (impl_TextValid s _ (by omega)).mono ?_
    rintro e w1 ⟨rfl, rfl⟩
    go_wp2
    go_ret
    exact ⟨ret_bool HF.out.symm, rfl⟩
  · have HF : Hid (vB s = false) := by rw [vB, decide_eq_false h40]; rfl
    have h40' : 40 < (s.size : Int) := by omega
    go_enter Try.func24, Try.ntmps24
    go_wp2
    go_ret
    exact ⟨ret_bool HF.out.symm, rfl⟩

def sfB (s p : ByteArray) : Bool := vB s && patB p && fitP (bl p) (bl s)
theorem vB_eq {s : ByteArray} {b : Bool} (h : textB (bl s) = b) : vB s = (b && decide ((s.size : Int) ≤ 40)) := by rw [vB, h, Bool.and_comm]

set_option maxRecDepth 100000 in
set_option maxHeartbeats 1600000 in
theorem spec_StarsFit (s p : ByteArray) (w : World) (hs : s.size ≤ 4611686018427387904) (hp : p.size ≤ 4611686018427387904) :
    Calls Try.prog 13 #[.string s, .string p] w fun e w' => e = .returned (.bool (sfB s p)) ∧ ∃ q, w' = w.drewN q := by
  have CT := Lib.hid (spec_TextValid s w (by omega))
  have CP := Lib.hid (spec_Pattern p w hp)
  have CF := Lib.hid (spec_fits s p hs hp p.size 0 0 w (by omega) (Nat.zero_le _) (Nat.zero_le _))
  rcases ht : textB (bl s) with _ | _
  · rw [ht] at CT
    have HF : Hid (sfB s p = false) := by rw [sfB, vB_eq ht]; rfl
    clear ht
    go_enter Try.func13, Try.ntmps13
    go_wp2_with fail
    refine CT.out.mono ?_
    rintro e w1 ⟨rfl, rfl⟩
    go_wp2
    go_ret
    exact ⟨ret_bool HF.out.symm, ⟨_, drew_zero⟩⟩
  · rw [ht] at CT
    by_cases h40 : (s.size : Int) ≤ 40
    · rcases hpt : patB p with _ | _
      · rw [hpt] at CP
        have HF : Hid (sfB s p = false) := by rw [sfB, hpt, Bool.and_false]; rfl
        clear ht hpt
        go_enter Try.func13, Try.ntmps13
        go_wp2_with fail
        refine CT.out.mono ?_
        rintro e w1 ⟨rfl, rfl⟩
        go_wp2_with fail
        refine CP.out.mono ?_
        rintro e w1 ⟨rfl, rfl⟩
        go_wp2
        go_ret
        exact ⟨ret_bool HF.out.symm, ⟨_, drew_zero⟩⟩
      · rw [hpt] at CP
        have HF : Hid (sfB s p = fitP ((bl p).drop 0) ((bl s).drop 0)) := by rw [sfB, hpt, vB_eq ht, decide_eq_true h40, List.drop_zero, List.drop_zero]; rfl
        clear ht hpt
        go_enter Try.func13, Try.ntmps13
        go_wp2_with fail
        refine CT.out.mono ?_
        rintro e w1 ⟨rfl, rfl⟩
        go_wp2_with fail
        refine CP.out.mono ?_
        rintro e w1 ⟨rfl, rfl⟩
        go_wp2_with fail
        refine CF.out.mono ?_
        rintro e w1 ⟨rfl, q, rfl⟩
        go_wp2
        go_ret
        exact ⟨ret_bool HF.out.symm, ⟨_, rfl⟩⟩
    · have HF : Hid (sfB s p = false) := by rw [sfB, vB_eq ht, decide_eq_false h40]; rfl
      have h40' : 40 < (s.size : Int) := by omega
      clear ht
      go_enter Try.func13, Try.ntmps13
      go_wp2_with fail
      refine CT.out.mono ?_
      rintro e w1 ⟨rfl, rfl⟩
      go_wp2
      go_ret
      exact ⟨ret_bool HF.out.symm, ⟨_, drew_zero⟩⟩

theorem vB_text {s : ByteArray} (h : vB s = true) : textB (bl s) = true ∧ (s.size : Int) ≤ 40 := by
  unfold vB at h
  rw [Bool.and_eq_true, decide_eq_true_iff] at h
  exact ⟨h.2, h.1⟩
theorem pat_v {p : ByteArray} (h : vB p = false) : patB p = false := by
  unfold vB at h
  unfold patB
  rw [Bool.and_eq_false_iff] at h
  rcases h with h | h
  · simp [h]
  · simp [h]
theorem pat_slashNo {p : ByteArray} (h : slashOk (bl p) = false) : patB p = false := by rw [patB, h]; rfl

set_option maxRecDepth 100000 in
set_option maxHeartbeats 1600000 in
theorem impl_StarsFit (s p : ByteArray) (w : World) (hs : s.size ≤ 4611686018427387904) (hp : p.size ≤ 4611686018427387904) :
    Calls Try.prog 14 #[.string s, .string p] w fun e w' => e = .returned (.bool (sfB s p)) ∧ ∃ q, w' = w.drewN q := by
  have CS := Lib.hid (impl_valueOk s w hs)
  have CP := Lib.hid (impl_valueOk p w hp)
  rcases hvs : vB s with _ | _
  · rw [hvs] at CS
    have HF : Hid (sfB s p = false) := by rw [sfB, hvs]; rfl
    clear hvs
    go_enter Try.func14, Try.ntmps14
    go_wp2_with fail
    refine CS.out.mono ?_
    rintro e w1 ⟨rfl, rfl⟩
    go_wp2
    go_ret
    exact ⟨ret_bool HF.out.symm, ⟨_, drew_zero⟩⟩
  · rw [hvs] at CS
    rcases hvp : vB p with _ | _
    · rw [hvp] at CP
      have HF : Hid (sfB s p = false) := by rw [sfB, pat_v hvp, Bool.and_false]; rfl
      clear hvs hvp
      go_enter Try.func14, Try.ntmps14
      go_wp2_with fail
      refine CS.out.mono ?_
      rintro e w1 ⟨rfl, rfl⟩
      go_wp2_with fail
      refine CP.out.mono ?_
      rintro e w1 ⟨rfl, rfl⟩
      go_wp2
      go_ret
      exact ⟨ret_bool HF.out.symm, ⟨_, drew_zero⟩⟩
    · rw [hvp] at CP
      obtain ⟨htp, hp40⟩ := vB_text hvp
      have HF : Hid (sfB s p = (slashOk (bl p) && decide ((starN (bl p) : Int) ≤ 3) && fitP (bl p) (bl s))) := by rw [sfB, hvs, patB, htp, decide_eq_true hp40, Bool.and_true, Bool.and_true]; rfl
      clear hvs hvp htp hp40
      go_enter Try.func14, Try.ntmps14
      go_wp2_with fail
      refine CS.out.mono ?_
      rintro e w1 ⟨rfl, rfl⟩
      go_wp2_with fail
      refine CP.out.mono ?_
      rintro e w1 ⟨rfl, rfl⟩
      go_wp2
      go_loop [5, 6] (fun t i => ∃ k st : Nat, k ≤ p.size ∧ st ≤ k ∧ i = .int .i64 k ∧ t = .int .i64 st ∧ Hid (PatAt p k st)) (fun _ i => p.size - (intOf i).toNat)
      case atStart => exact ⟨0, 0, Nat.zero_le _, Nat.le_refl _, rfl, rfl, pat_zero p⟩
      case round =>
        obtain ⟨k, st, hk, hst, rfl, rfl, HP⟩ := hrel
        by_cases h0 : k < p.size
        · by_cases c42 : (p[k].toNat : Int) = 42
          · have b42 := beq_yes c42
            have HN : Hid (PatAt p (k + 1) (st + 1)) := pat_star HP.out h0 c42
            clear c42
            go_wp2
            go_round
            case rel => exact ⟨k + 1, st + 1, by omega, by omega, by go_num, by go_num, HN⟩
            case measure => simp [intOf]; omega
          · have b42 := beq_no c42
            by_cases c92 : (p[k].toNat : Int) = 92
            · have b92 := beq_yes c92
              by_cases h1 : k + 1 < p.size
              · have HN : Hid (PatAt p (k + 1 + 1) st) := pat_slash HP.out h1 c92
                have hne : ((k : Int) + 1 == (p.size : Int)) = false := beq_no (by omega)
                clear c42 c92
                go_wp2
                go_round
                case rel => exact ⟨k + 1 + 1, st, by omega, by omega, by go_num, by go_num, HN⟩
                case measure => simp [intOf]; omega
              · have HX : Hid (sfB s p = false) := by rw [HF.out, pat_last HP.out h0 (by omega) c92, Bool.false_and, Bool.false_and]; rfl
                have hne : ((k : Int) + 1 == (p.size : Int)) = true := beq_yes (by omega)
                clear c42 c92
                go_wp2
                go_ret
                exact ⟨ret_bool HX.out.symm, ⟨_, drew_zero⟩⟩
            · have b92 := beq_no c92
              have HN : Hid (PatAt p (k + 1) st) := pat_other HP.out h0 c42 c92
              clear c42 c92
              go_wp2
              go_round
              case rel => exact ⟨k + 1, st, by omega, by omega, by go_num, by go_num, HN⟩
              case measure => simp [intOf]; omega
        · obtain ⟨e1, e2⟩ := pat_end HP.out (by omega)
          have CF := Lib.hid (impl_fits p.size s p w (Nat.le_refl _) hs hp e2)
          by_cases h3 : (st : Int) ≤ 3
          · have HX : Hid (sfB s p = fitP (bl p) (bl s)) := by rw [HF.out, e2, ← e1, decide_eq_true h3]; rfl
            clear e1 e2
            go_wp2_with fail
            refine CF.out.mono ?_
            rintro e w1 ⟨rfl, q, rfl⟩
            go_wp2
            go_ret
            exact ⟨ret_bool HX.out.symm, ⟨_, rfl⟩⟩
          · have HX : Hid (sfB s p = false) := by rw [HF.out, ← e1, decide_eq_false h3, Bool.and_false]; rfl
            have h3' : 3 < (st : Int) := by omega
            clear e1 e2
            go_wp2
            go_ret
            exact ⟨ret_bool HX.out.symm, ⟨_, drew_zero⟩⟩

set_option maxHeartbeats 400000 in
theorem walk_FnExactStarsFit (s p : ByteArray) (w : World) (hs : s.size ≤ maxLen) (hp : p.size ≤ maxLen) :
    Calls Try.prog 5 #[.string s, .string p] w fun e w' => e = .returned (.bool true) ∧ Below w.heap.size w w' := by
  unfold maxLen at hs hp
  by_cases hn : 1048576 < s.size
  · go_enter Try.func5, Try.ntmps5
    go_wp2
    go_ret
    exact ⟨rfl, Below.refl _ _⟩
  · by_cases hn' : 1048576 < p.size
    · go_enter Try.func5, Try.ntmps5
      go_wp2
      go_ret
      exact ⟨rfl, Below.refl _ _⟩
    · go_enter Try.func5, Try.ntmps5
      go_wp2_with fail
      refine (spec_StarsFit _ _ _ (by omega) (by omega)).mono ?_
      rintro e w1 ⟨rfl, q, rfl⟩
      go_wp2_with fail
      refine (impl_StarsFit _ _ _ (by omega) (by omega)).mono ?_
      rintro e w1 ⟨rfl, q', rfl⟩
      go_wp2
      go_ret
      exact ⟨rfl, below_drewN (Below.refl _ _) _⟩
end Go.Proofs.Ytlilmphbjmjpdaa

/- Names and hosts: what the program's and the reference's tests of them return (printed by gen_host.py). -/
import Derived.Test.YtmiemnhbkcmanaaDoorByteC
import Derived.Test.YtmiemnhbkcmanaaDoorStrs
namespace Go.Proofs.YtmiemnhbkcmanaaDoor
open Go.RowKit

def smB (c : UInt8) : Bool := decide (97 ≤ (c.toNat : Int)) && decide ((c.toNat : Int) ≤ 122)
def nameC (c : UInt8) : Bool := smB c || digB c || decide (c = 45)
def hostC (c : UInt8) : Bool := smB c || digB c || decide (c = 46) || decide (c = 45)
/-- A valid name. -/
def nameB (l : List UInt8) : Bool := decide (1 ≤ l.length ∧ l.length ≤ 10) && smB (l.headD 0) && l.all nameC
/-- A valid host. -/
def hostB (l : List UInt8) : Bool := decide (1 ≤ l.length ∧ l.length ≤ 40) && l.all hostC
theorem smB_eq (c : UInt8) : smB c = (decide (97 ≤ (c.toNat : Int)) && decide ((c.toNat : Int) ≤ 122)) := rfl
theorem nameC_eq (c : UInt8) : nameC c = (smB c || digB c || decide (c = 45)) := rfl
theorem hostC_eq (c : UInt8) : hostC c = (smB c || digB c || decide (c = 46) || decide (c = 45)) := rfl
theorem beqN {c n : UInt8} (m : Int) (hm : (n.toNat : Int) = m) (h : c = n) : ((c.toNat : Int) == m) = true := by subst hm; subst h; simp
theorem bneN {c n : UInt8} (m : Int) (hm : (n.toNat : Int) = m) (h : ¬ c = n) : ((c.toNat : Int) == m) = false := by
  subst hm; rw [beq_eq_false_iff_ne]; intro e; exact h (UInt8.toNat_inj.1 (by omega))
theorem beqM {c n : UInt8} (m : Int) (hm : (n.toNat : Int) = m) (h : c = n) : ((c.toNat : Int) != m) = false := by simp only [bne, beqN m hm h]; rfl
theorem bneM {c n : UInt8} (m : Int) (hm : (n.toNat : Int) = m) (h : ¬ c = n) : ((c.toNat : Int) != m) = true := by simp only [bne, bneN m hm h]; rfl
theorem all_stepB (p : UInt8 → Bool) (s : ByteArray) (k : Nat) (h : k < s.size) (h0 : ((bl s).take k).all p = true) (h1 : p s[k] = true) : ((bl s).take (k + 1)).all p = true := by
  rw [bl_take s k h, List.all_append, h0, List.all_cons, h1]; rfl
theorem all_badB (p : UInt8 → Bool) (s : ByteArray) (k : Nat) (h : k < s.size) (h1 : p s[k] = false) : (bl s).all p = false := by
  rcases hb : (bl s).all p with _ | _
  · rfl
  · rw [List.all_eq_true] at hb
    rw [hb _ (List.mem_of_getElem? (bl_get s k h))] at h1
    cases h1
theorem head_at (s : ByteArray) (h : 0 < s.size) : (bl s).headD 0 = s[0] := by
  have := bl_get s 0 h
  rcases hb : bl s with _ | ⟨x, l⟩
  · rw [hb] at this; simp at this
  · rw [hb] at this; simp at this; simp [this]
theorem nameB_no {l : List UInt8} (h : l.all nameC = false ∨ smB (l.headD 0) = false ∨ ¬ (1 ≤ l.length ∧ l.length ≤ 10)) : nameB l = false := by
  unfold nameB
  rcases h with h | h | h
  · rw [h, Bool.and_false]
  · rw [h, Bool.and_false, Bool.false_and]
  · rw [decide_eq_false h]; rfl
theorem nameB_yes {l : List UInt8} (h : l.all nameC = true) (h1 : smB (l.headD 0) = true) (h2 : 1 ≤ l.length) (h3 : l.length ≤ 10) : nameB l = true := by
  unfold nameB
  rw [h, h1, decide_eq_true ⟨h2, h3⟩]; rfl
theorem hostB_no {l : List UInt8} (h : l.all hostC = false ∨ ¬ (1 ≤ l.length ∧ l.length ≤ 40)) : hostB l = false := by
  unfold hostB
  rcases h with h | h
  · rw [h, Bool.and_false]
  · rw [decide_eq_false h]; rfl
theorem hostB_yes {l : List UInt8} (h : l.all hostC = true) (h2 : 1 ≤ l.length) (h3 : l.length ≤ 40) : hostB l = true := by
  unfold hostB
  rw [h, decide_eq_true ⟨h2, h3⟩]; rfl
theorem spec_l1In_any (n lo hi : Int) (w : World) : Calls Tryd.prog 42 #[.int .i64 n, .int .i64 lo, .int .i64 hi] w fun e w' => e = .returned (.bool (decide (lo ≤ n) && decide (n ≤ hi))) ∧ w = w' := by
  rcases d1 : decide (lo ≤ n) with _ | _ <;> rcases d2 : decide (n ≤ hi) with _ | _
  all_goals
    go_enter Tryd.func42, Tryd.ntmps42
    go_wp2
    go_ret
    exact ⟨rfl, rfl⟩

set_option maxHeartbeats 1600000 in
theorem impl_hostOk (s : ByteArray) (w : World) (hs : s.size ≤ 9223372036854775806) : Calls Tryd.prog 30 #[.string s] w fun e w' => e = .returned (.bool (hostB (bl s))) ∧ w = w' := by
  have hbl := Lib.hid (bl_len s)
  by_cases h1 : s.size < 1
  · have HR : Hid (hostB (bl s) = false) := hostB_no (.inr (by rw [bl_len]; omega))
    go_enter Tryd.func30, Tryd.ntmps30
    go_wp2
    go_ret
    exact ⟨ret_bool HR.out.symm, rfl⟩
  by_cases h2 : 40 < s.size
  · have HR : Hid (hostB (bl s) = false) := hostB_no (.inr (by rw [bl_len]; omega))
    go_enter Tryd.func30, Tryd.ntmps30
    go_wp2
    go_ret
    exact ⟨ret_bool HR.out.symm, rfl⟩
  go_enter Tryd.func30, Tryd.ntmps30
  go_wp2
  go_loop [3] (fun t => ∃ k : Nat, k ≤ s.size ∧ t = .int .i64 (k : Int) ∧ Hid (((bl s).take k).all hostC = true)) (fun t => s.size - (intOf t).toNat)
  case atStart => exact ⟨0, Nat.zero_le _, rfl, rfl⟩
  case round =>
    obtain ⟨k, hk, rfl, HK⟩ := hrel
    by_cases hks : k < s.size
    case pos =>
      rcases d1 : decide (97 ≤ (s[k].toNat : Int)) with _ | _
      case false =>
        have HSM : Hid (smB s[k] = false) := by show _ = _; rw [smB_eq, d1]; rfl
        rcases hd : digB s[k] with _ | _
        case true =>
          have HC : Hid (hostC s[k] = true) := by show _ = _; rw [hostC_eq, HSM.out, hd]; rfl
          have CD : Hid (∀ W, Calls Tryd.prog 32 #[.int .u8 (s[k].toNat : Int)] W fun e w' => e = .returned (.bool true) ∧ W = w') := fun W => by rw [← hd]; exact impl_isDigit s[k] W
          clear hd
          go_wp2_with fail
          refine (CD.out _).mono ?_
          rintro e w1 ⟨rfl, rfl⟩
          go_wp2
          go_round
          case rel => exact ⟨k + 1, by omega, by go_num, all_stepB _ s k hks HK.out HC.out⟩
          case measure => simp [intOf]; omega
        have CD : Hid (∀ W, Calls Tryd.prog 32 #[.int .u8 (s[k].toNat : Int)] W fun e w' => e = .returned (.bool false) ∧ W = w') := fun W => by rw [← hd]; exact impl_isDigit s[k] W
        by_cases h46 : s[k] = 46
        case pos =>
          have b46 : ((s[k].toNat : Int) == 46) = true := beqN (n := 46) 46 rfl h46
          have HC : Hid (hostC s[k] = true) := by show _ = _; rw [hostC_eq, HSM.out, hd]; simp [h46]
          clear hd h46 
          go_wp2_with fail
          refine (CD.out _).mono ?_
          rintro e w1 ⟨rfl, rfl⟩
          go_wp2
          go_round
          case rel => exact ⟨k + 1, by omega, by go_num, all_stepB _ s k hks HK.out HC.out⟩
          case measure => simp [intOf]; omega
        have b46 : ((s[k].toNat : Int) == 46) = false := bneN (n := 46) 46 rfl h46
        by_cases h45 : s[k] = 45
        case pos =>
          have b45 : ((s[k].toNat : Int) == 45) = true := beqN (n := 45) 45 rfl h45
          have HC : Hid (hostC s[k] = true) := by show _ = _; rw [hostC_eq, HSM.out, hd]; simp [h45]
          clear hd h45 h46
          go_wp2_with fail
          refine (CD.out _).mono ?_
          rintro e w1 ⟨rfl, rfl⟩
          go_wp2
          go_round
          case rel => exact ⟨k + 1, by omega, by go_num, all_stepB _ s k hks HK.out HC.out⟩
          case measure => simp [intOf]; omega
        have b45 : ((s[k].toNat : Int) == 45) = false := bneN (n := 45) 45 rfl h45
        have HC : Hid (hostC s[k] = false) := by show _ = _; rw [hostC_eq, HSM.out, hd]; simp [h46, h45]
        clear hd h46 h45
        go_wp2_with fail
        refine (CD.out _).mono ?_
        rintro e w1 ⟨rfl, rfl⟩
        go_wp2
        go_ret
        exact ⟨ret_bool (hostB_no (.inl (all_badB _ s k hks HC.out))).symm, rfl⟩
      rcases d2 : decide ((s[k].toNat : Int) ≤ 122) with _ | _
      case false =>
        have HSM : Hid (smB s[k] = false) := by show _ = _; rw [smB_eq, d1, d2]; rfl
        rcases hd : digB s[k] with _ | _
        case true =>
          have HC : Hid (hostC s[k] = true) := by show _ = _; rw [hostC_eq, HSM.out, hd]; rfl
          have CD : Hid (∀ W, Calls Tryd.prog 32 #[.int .u8 (s[k].toNat : Int)] W fun e w' => e = .returned (.bool true) ∧ W = w') := fun W => by rw [← hd]; exact impl_isDigit s[k] W
          clear hd
          go_wp2_with fail
          refine (CD.out _).mono ?_
          rintro e w1 ⟨rfl, rfl⟩
          go_wp2
          go_round
          case rel => exact ⟨k + 1, by omega, by go_num, all_stepB _ s k hks HK.out HC.out⟩
          case measure => simp [intOf]; omega
        have CD : Hid (∀ W, Calls Tryd.prog 32 #[.int .u8 (s[k].toNat : Int)] W fun e w' => e = .returned (.bool false) ∧ W = w') := fun W => by rw [← hd]; exact impl_isDigit s[k] W
        by_cases h46 : s[k] = 46
        case pos =>
          have b46 : ((s[k].toNat : Int) == 46) = true := beqN (n := 46) 46 rfl h46
          have HC : Hid (hostC s[k] = true) := by show _ = _; rw [hostC_eq, HSM.out, hd]; simp [h46]
          clear hd h46 
          go_wp2_with fail
          refine (CD.out _).mono ?_
          rintro e w1 ⟨rfl, rfl⟩
          go_wp2
          go_round
          case rel => exact ⟨k + 1, by omega, by go_num, all_stepB _ s k hks HK.out HC.out⟩
          case measure => simp [intOf]; omega
        have b46 : ((s[k].toNat : Int) == 46) = false := bneN (n := 46) 46 rfl h46
        by_cases h45 : s[k] = 45
        case pos =>
          have b45 : ((s[k].toNat : Int) == 45) = true := beqN (n := 45) 45 rfl h45
          have HC : Hid (hostC s[k] = true) := by show _ = _; rw [hostC_eq, HSM.out, hd]; simp [h45]
          clear hd h45 h46
          go_wp2_with fail
          refine (CD.out _).mono ?_
          rintro e w1 ⟨rfl, rfl⟩
          go_wp2
          go_round
          case rel => exact ⟨k + 1, by omega, by go_num, all_stepB _ s k hks HK.out HC.out⟩
          case measure => simp [intOf]; omega
        have b45 : ((s[k].toNat : Int) == 45) = false := bneN (n := 45) 45 rfl h45
        have HC : Hid (hostC s[k] = false) := by show _ = _; rw [hostC_eq, HSM.out, hd]; simp [h46, h45]
        clear hd h46 h45
        go_wp2_with fail
        refine (CD.out _).mono ?_
        rintro e w1 ⟨rfl, rfl⟩
        go_wp2
        go_ret
        exact ⟨ret_bool (hostB_no (.inl (all_badB _ s k hks HC.out))).symm, rfl⟩
      have HSM : Hid (smB s[k] = true) := by show _ = _; rw [smB_eq, d1, d2]; rfl
      have HC : Hid (hostC s[k] = true) := by show _ = _; rw [hostC_eq, HSM.out]; rfl
      go_wp2
      go_round
      case rel => exact ⟨k + 1, by omega, by go_num, all_stepB _ s k hks HK.out HC.out⟩
      case measure => simp [intOf]; omega
    have HA : Hid ((bl s).all hostC = true) := by have := HK.out; rwa [List.take_of_length_le (by rw [bl_len]; omega)] at this
    go_wp2
    go_ret
    exact ⟨ret_bool (hostB_yes HA.out (by rw [hbl.out]; omega) (by rw [hbl.out]; omega)).symm, rfl⟩
set_option maxHeartbeats 1600000 in
theorem spec_l32Host (s : ByteArray) (w : World) (hs : s.size ≤ 9223372036854775806) : Calls Tryd.prog 29 #[.string s] w fun e w' => e = .returned (.bool (hostB (bl s))) ∧ w = w' := by
  have hbl := Lib.hid (bl_len s)
  go_enter Tryd.func29, Tryd.ntmps29
  go_wp2
  go_loop [3] (fun t => ∃ k : Nat, k ≤ s.size ∧ t = .int .i64 (k : Int) ∧ Hid (((bl s).take k).all hostC = true)) (fun t => s.size - (intOf t).toNat)
  case atStart => exact ⟨0, Nat.zero_le _, rfl, rfl⟩
  case round =>
    obtain ⟨k, hk, rfl, HK⟩ := hrel
    by_cases hks : k < s.size
    case pos =>
      rcases d1 : decide (97 ≤ (s[k].toNat : Int)) with _ | _
      case false =>
        have HSM : Hid (smB s[k] = false) := by show _ = _; rw [smB_eq, d1]; rfl
        rcases hd : digB s[k] with _ | _
        case true =>
          have HC : Hid (hostC s[k] = true) := by show _ = _; rw [hostC_eq, HSM.out, hd]; rfl
          have CD : Hid (∀ W, Calls Tryd.prog 46 #[.int .u8 (s[k].toNat : Int)] W fun e w' => e = .returned (.bool true) ∧ W = w') := fun W => by rw [← hd]; exact spec_l1Digit s[k] W
          clear hd
          go_wp2_with fail
          refine (CD.out _).mono ?_
          rintro e w1 ⟨rfl, rfl⟩
          go_wp2
          go_round
          case rel => exact ⟨k + 1, by omega, by go_num, all_stepB _ s k hks HK.out HC.out⟩
          case measure => simp [intOf]; omega
        have CD : Hid (∀ W, Calls Tryd.prog 46 #[.int .u8 (s[k].toNat : Int)] W fun e w' => e = .returned (.bool false) ∧ W = w') := fun W => by rw [← hd]; exact spec_l1Digit s[k] W
        by_cases h46 : s[k] = 46
        case pos =>
          have b46 : ((s[k].toNat : Int) != 46) = false := beqM (n := 46) 46 rfl h46
          have HC : Hid (hostC s[k] = true) := by show _ = _; rw [hostC_eq, HSM.out, hd]; simp [h46]
          clear hd h46 
          go_wp2_with fail
          refine (CD.out _).mono ?_
          rintro e w1 ⟨rfl, rfl⟩
          go_wp2
          go_round
          case rel => exact ⟨k + 1, by omega, by go_num, all_stepB _ s k hks HK.out HC.out⟩
          case measure => simp [intOf]; omega
        have b46 : ((s[k].toNat : Int) != 46) = true := bneM (n := 46) 46 rfl h46
        by_cases h45 : s[k] = 45
        case pos =>
          have b45 : ((s[k].toNat : Int) != 45) = false := beqM (n := 45) 45 rfl h45
          have HC : Hid (hostC s[k] = true) := by show _ = _; rw [hostC_eq, HSM.out, hd]; simp [h45]
          clear hd h45 h46
          go_wp2_with fail
          refine (CD.out _).mono ?_
          rintro e w1 ⟨rfl, rfl⟩
          go_wp2
          go_round
          case rel => exact ⟨k + 1, by omega, by go_num, all_stepB _ s k hks HK.out HC.out⟩
          case measure => simp [intOf]; omega
        have b45 : ((s[k].toNat : Int) != 45) = true := bneM (n := 45) 45 rfl h45
        have HC : Hid (hostC s[k] = false) := by show _ = _; rw [hostC_eq, HSM.out, hd]; simp [h46, h45]
        clear hd h46 h45
        go_wp2_with fail
        refine (CD.out _).mono ?_
        rintro e w1 ⟨rfl, rfl⟩
        go_wp2
        go_ret
        exact ⟨ret_bool (hostB_no (.inl (all_badB _ s k hks HC.out))).symm, rfl⟩
      rcases d2 : decide ((s[k].toNat : Int) ≤ 122) with _ | _
      case false =>
        have HSM : Hid (smB s[k] = false) := by show _ = _; rw [smB_eq, d1, d2]; rfl
        rcases hd : digB s[k] with _ | _
        case true =>
          have HC : Hid (hostC s[k] = true) := by show _ = _; rw [hostC_eq, HSM.out, hd]; rfl
          have CD : Hid (∀ W, Calls Tryd.prog 46 #[.int .u8 (s[k].toNat : Int)] W fun e w' => e = .returned (.bool true) ∧ W = w') := fun W => by rw [← hd]; exact spec_l1Digit s[k] W
          clear hd
          go_wp2_with fail
          refine (CD.out _).mono ?_
          rintro e w1 ⟨rfl, rfl⟩
          go_wp2
          go_round
          case rel => exact ⟨k + 1, by omega, by go_num, all_stepB _ s k hks HK.out HC.out⟩
          case measure => simp [intOf]; omega
        have CD : Hid (∀ W, Calls Tryd.prog 46 #[.int .u8 (s[k].toNat : Int)] W fun e w' => e = .returned (.bool false) ∧ W = w') := fun W => by rw [← hd]; exact spec_l1Digit s[k] W
        by_cases h46 : s[k] = 46
        case pos =>
          have b46 : ((s[k].toNat : Int) != 46) = false := beqM (n := 46) 46 rfl h46
          have HC : Hid (hostC s[k] = true) := by show _ = _; rw [hostC_eq, HSM.out, hd]; simp [h46]
          clear hd h46 
          go_wp2_with fail
          refine (CD.out _).mono ?_
          rintro e w1 ⟨rfl, rfl⟩
          go_wp2
          go_round
          case rel => exact ⟨k + 1, by omega, by go_num, all_stepB _ s k hks HK.out HC.out⟩
          case measure => simp [intOf]; omega
        have b46 : ((s[k].toNat : Int) != 46) = true := bneM (n := 46) 46 rfl h46
        by_cases h45 : s[k] = 45
        case pos =>
          have b45 : ((s[k].toNat : Int) != 45) = false := beqM (n := 45) 45 rfl h45
          have HC : Hid (hostC s[k] = true) := by show _ = _; rw [hostC_eq, HSM.out, hd]; simp [h45]
          clear hd h45 h46
          go_wp2_with fail
          refine (CD.out _).mono ?_
          rintro e w1 ⟨rfl, rfl⟩
          go_wp2
          go_round
          case rel => exact ⟨k + 1, by omega, by go_num, all_stepB _ s k hks HK.out HC.out⟩
          case measure => simp [intOf]; omega
        have b45 : ((s[k].toNat : Int) != 45) = true := bneM (n := 45) 45 rfl h45
        have HC : Hid (hostC s[k] = false) := by show _ = _; rw [hostC_eq, HSM.out, hd]; simp [h46, h45]
        clear hd h46 h45
        go_wp2_with fail
        refine (CD.out _).mono ?_
        rintro e w1 ⟨rfl, rfl⟩
        go_wp2
        go_ret
        exact ⟨ret_bool (hostB_no (.inl (all_badB _ s k hks HC.out))).symm, rfl⟩
      have HSM : Hid (smB s[k] = true) := by show _ = _; rw [smB_eq, d1, d2]; rfl
      have HC : Hid (hostC s[k] = true) := by show _ = _; rw [hostC_eq, HSM.out]; rfl
      go_wp2
      go_round
      case rel => exact ⟨k + 1, by omega, by go_num, all_stepB _ s k hks HK.out HC.out⟩
      case measure => simp [intOf]; omega
    have HA : Hid ((bl s).all hostC = true) := by have := HK.out; rwa [List.take_of_length_le (by rw [bl_len]; omega)] at this
    have HR : Hid ((decide ((1 : Int) ≤ (s.size : Int)) && decide ((s.size : Int) ≤ 40)) = hostB (bl s)) := by
      show _ = _
      by_cases h1 : 1 ≤ s.size ∧ s.size ≤ 40
      · rw [hostB_yes HA.out (by rw [bl_len]; omega) (by rw [bl_len]; omega)]
        have : (1 : Int) ≤ (s.size : Int) ∧ (s.size : Int) ≤ 40 := by omega
        simp [this.1, this.2]
      · rw [hostB_no (.inr (by rw [bl_len]; exact h1))]
        have : ¬ ((1 : Int) ≤ (s.size : Int) ∧ (s.size : Int) ≤ 40) := by omega
        rw [Bool.and_eq_false_iff, decide_eq_false_iff_not, decide_eq_false_iff_not]
        omega
    have CL := Lib.hid (fun W => spec_l1In_any (s.size : Int) 1 40 W)
    go_wp2_with fail
    refine (CL.out _).mono ?_
    rintro e w1 ⟨rfl, rfl⟩
    go_wp2
    go_ret
    exact ⟨ret_bool HR.out, rfl⟩
set_option maxHeartbeats 1600000 in
theorem impl_NameValid (s : ByteArray) (w : World) (hs : s.size ≤ 9223372036854775806) : Calls Tryd.prog 62 #[.string s] w fun e w' => e = .returned (.bool (nameB (bl s))) ∧ w = w' := by
  have hbl := Lib.hid (bl_len s)
  by_cases h1 : s.size < 1
  · have HR : Hid (nameB (bl s) = false) := nameB_no (.inr (.inr (by rw [bl_len]; omega)))
    go_enter Tryd.func62, Tryd.ntmps62
    go_wp2
    go_ret
    exact ⟨ret_bool HR.out.symm, rfl⟩
  by_cases h2 : 10 < s.size
  · have HR : Hid (nameB (bl s) = false) := nameB_no (.inr (.inr (by rw [bl_len]; omega)))
    go_enter Tryd.func62, Tryd.ntmps62
    go_wp2
    go_ret
    exact ⟨ret_bool HR.out.symm, rfl⟩
  have h0 : 0 < s.size := by omega
  rcases g1 : decide ((s[0].toNat : Int) < (97 : Int)) with _ | _
  case true =>
    have HR : Hid (nameB (bl s) = false) := nameB_no (.inr (.inl (by rw [head_at s h0, smB_eq, decide_eq_false (by have := of_decide_eq_true g1; omega)]; rfl)))
    go_enter Tryd.func62, Tryd.ntmps62
    go_wp2
    go_ret
    exact ⟨ret_bool HR.out.symm, rfl⟩
  rcases g2 : decide ((122 : Int) < (s[0].toNat : Int)) with _ | _
  case true =>
    have HR : Hid (nameB (bl s) = false) := nameB_no (.inr (.inl (by rw [head_at s h0, smB_eq, decide_eq_false (p := (s[0].toNat : Int) ≤ (122 : Int)) (by have := of_decide_eq_true g2; omega), Bool.and_false])))
    go_enter Tryd.func62, Tryd.ntmps62
    go_wp2
    go_ret
    exact ⟨ret_bool HR.out.symm, rfl⟩
  have HH : Hid (smB ((bl s).headD 0) = true) := by
    show _ = _
    have a1 := of_decide_eq_false g1
    have a2 := of_decide_eq_false g2
    rw [head_at s h0, smB_eq, decide_eq_true (by omega), decide_eq_true (by omega)]; rfl
  go_enter Tryd.func62, Tryd.ntmps62
  go_wp2
  clear g1 g2
  go_loop [3] (fun t => ∃ k : Nat, k ≤ s.size ∧ t = .int .i64 (k : Int) ∧ Hid (((bl s).take k).all nameC = true)) (fun t => s.size - (intOf t).toNat)
  case atStart => exact ⟨0, Nat.zero_le _, rfl, rfl⟩
  case round =>
    obtain ⟨k, hk, rfl, HK⟩ := hrel
    by_cases hks : k < s.size
    case pos =>
      rcases d1 : decide (97 ≤ (s[k].toNat : Int)) with _ | _
      case false =>
        have HSM : Hid (smB s[k] = false) := by show _ = _; rw [smB_eq, d1]; rfl
        rcases hd : digB s[k] with _ | _
        case true =>
          have HC : Hid (nameC s[k] = true) := by show _ = _; rw [nameC_eq, HSM.out, hd]; rfl
          have CD : Hid (∀ W, Calls Tryd.prog 32 #[.int .u8 (s[k].toNat : Int)] W fun e w' => e = .returned (.bool true) ∧ W = w') := fun W => by rw [← hd]; exact impl_isDigit s[k] W
          clear hd
          go_wp2_with fail
          refine (CD.out _).mono ?_
          rintro e w1 ⟨rfl, rfl⟩
          go_wp2
          go_round
          case rel => exact ⟨k + 1, by omega, by go_num, all_stepB _ s k hks HK.out HC.out⟩
          case measure => simp [intOf]; omega
        have CD : Hid (∀ W, Calls Tryd.prog 32 #[.int .u8 (s[k].toNat : Int)] W fun e w' => e = .returned (.bool false) ∧ W = w') := fun W => by rw [← hd]; exact impl_isDigit s[k] W
        by_cases h45 : s[k] = 45
        case pos =>
          have b45 : ((s[k].toNat : Int) == 45) = true := beqN (n := 45) 45 rfl h45
          have HC : Hid (nameC s[k] = true) := by show _ = _; rw [nameC_eq, HSM.out, hd]; simp [h45]
          clear hd h45 
          go_wp2_with fail
          refine (CD.out _).mono ?_
          rintro e w1 ⟨rfl, rfl⟩
          go_wp2
          go_round
          case rel => exact ⟨k + 1, by omega, by go_num, all_stepB _ s k hks HK.out HC.out⟩
          case measure => simp [intOf]; omega
        have b45 : ((s[k].toNat : Int) == 45) = false := bneN (n := 45) 45 rfl h45
        have HC : Hid (nameC s[k] = false) := by show _ = _; rw [nameC_eq, HSM.out, hd]; simp [h45]
        clear hd h45
        go_wp2_with fail
        refine (CD.out _).mono ?_
        rintro e w1 ⟨rfl, rfl⟩
        go_wp2
        go_ret
        exact ⟨ret_bool (nameB_no (.inl (all_badB _ s k hks HC.out))).symm, rfl⟩
      rcases d2 : decide ((s[k].toNat : Int) ≤ 122) with _ | _
      case false =>
        have HSM : Hid (smB s[k] = false) := by show _ = _; rw [smB_eq, d1, d2]; rfl
        rcases hd : digB s[k] with _ | _
        case true =>
          have HC : Hid (nameC s[k] = true) := by show _ = _; rw [nameC_eq, HSM.out, hd]; rfl
          have CD : Hid (∀ W, Calls Tryd.prog 32 #[.int .u8 (s[k].toNat : Int)] W fun e w' => e = .returned (.bool true) ∧ W = w') := fun W => by rw [← hd]; exact impl_isDigit s[k] W
          clear hd
          go_wp2_with fail
          refine (CD.out _).mono ?_
          rintro e w1 ⟨rfl, rfl⟩
          go_wp2
          go_round
          case rel => exact ⟨k + 1, by omega, by go_num, all_stepB _ s k hks HK.out HC.out⟩
          case measure => simp [intOf]; omega
        have CD : Hid (∀ W, Calls Tryd.prog 32 #[.int .u8 (s[k].toNat : Int)] W fun e w' => e = .returned (.bool false) ∧ W = w') := fun W => by rw [← hd]; exact impl_isDigit s[k] W
        by_cases h45 : s[k] = 45
        case pos =>
          have b45 : ((s[k].toNat : Int) == 45) = true := beqN (n := 45) 45 rfl h45
          have HC : Hid (nameC s[k] = true) := by show _ = _; rw [nameC_eq, HSM.out, hd]; simp [h45]
          clear hd h45 
          go_wp2_with fail
          refine (CD.out _).mono ?_
          rintro e w1 ⟨rfl, rfl⟩
          go_wp2
          go_round
          case rel => exact ⟨k + 1, by omega, by go_num, all_stepB _ s k hks HK.out HC.out⟩
          case measure => simp [intOf]; omega
        have b45 : ((s[k].toNat : Int) == 45) = false := bneN (n := 45) 45 rfl h45
        have HC : Hid (nameC s[k] = false) := by show _ = _; rw [nameC_eq, HSM.out, hd]; simp [h45]
        clear hd h45
        go_wp2_with fail
        refine (CD.out _).mono ?_
        rintro e w1 ⟨rfl, rfl⟩
        go_wp2
        go_ret
        exact ⟨ret_bool (nameB_no (.inl (all_badB _ s k hks HC.out))).symm, rfl⟩
      have HSM : Hid (smB s[k] = true) := by show _ = _; rw [smB_eq, d1, d2]; rfl
      have HC : Hid (nameC s[k] = true) := by show _ = _; rw [nameC_eq, HSM.out]; rfl
      go_wp2
      go_round
      case rel => exact ⟨k + 1, by omega, by go_num, all_stepB _ s k hks HK.out HC.out⟩
      case measure => simp [intOf]; omega
    have HA : Hid ((bl s).all nameC = true) := by have := HK.out; rwa [List.take_of_length_le (by rw [bl_len]; omega)] at this
    go_wp2
    go_ret
    exact ⟨ret_bool (nameB_yes HA.out HH.out (by rw [hbl.out]; omega) (by rw [hbl.out]; omega)).symm, rfl⟩
set_option maxHeartbeats 1600000 in
theorem spec_NameValid (s : ByteArray) (w : World) (hs : s.size ≤ 9223372036854775806) : Calls Tryd.prog 58 #[.string s] w fun e w' => e = .returned (.bool (nameB (bl s))) ∧ w = w' := by
  have hbl := Lib.hid (bl_len s)
  go_enter Tryd.func58, Tryd.ntmps58
  go_wp2
  go_loop [3] (fun t => ∃ k : Nat, k ≤ s.size ∧ t = .int .i64 (k : Int) ∧ Hid (((bl s).take k).all nameC = true) ∧ Hid (0 < k → smB ((bl s).headD 0) = true)) (fun t => s.size - (intOf t).toNat)
  case atStart => exact ⟨0, Nat.zero_le _, rfl, rfl, fun h => absurd h (by omega)⟩
  case round =>
    obtain ⟨k, hk, rfl, HK, HH⟩ := hrel
    by_cases hks : k < s.size
    case pos =>
      by_cases h0 : k = 0
      case pos =>
        subst h0
        have hh := head_at s hks
        rcases d1 : decide ((97 : Int) ≤ (s[0].toNat : Int)) with _ | _
        case false =>
          have HR : Hid (nameB (bl s) = false) := nameB_no (.inr (.inl (by rw [hh, smB_eq, d1]; rfl)))
          clear hh
          go_wp2
          go_ret
          exact ⟨ret_bool HR.out.symm, rfl⟩
        rcases d2 : decide ((s[0].toNat : Int) ≤ (122 : Int)) with _ | _
        case false =>
          have HR : Hid (nameB (bl s) = false) := nameB_no (.inr (.inl (by rw [hh, smB_eq, d1, d2]; rfl)))
          clear hh
          go_wp2
          go_ret
          exact ⟨ret_bool HR.out.symm, rfl⟩
        have HSM : Hid (smB s[0] = true) := by show _ = _; rw [smB_eq, d1, d2]; rfl
        have HC : Hid (nameC s[0] = true) := by show _ = _; rw [nameC_eq, HSM.out]; rfl
        have HS2 : Hid (smB ((bl s).headD 0) = true) := by show _ = _; rw [hh]; exact HSM.out
        clear hh
        go_wp2
        go_round
        case rel => exact ⟨0 + 1, by omega, by go_num, all_stepB _ s 0 hks HK.out HC.out, fun _ => HS2.out⟩
        case measure => simp [intOf]; omega
      have HH2 : Hid (smB ((bl s).headD 0) = true) := HH.out (by omega)
      have k0 : ((k : Int) == 0) = false := by rw [beq_eq_false_iff_ne]; omega
      rcases d1 : decide (97 ≤ (s[k].toNat : Int)) with _ | _
      case false =>
        have HSM : Hid (smB s[k] = false) := by show _ = _; rw [smB_eq, d1]; rfl
        rcases hd : digB s[k] with _ | _
        case true =>
          have HC : Hid (nameC s[k] = true) := by show _ = _; rw [nameC_eq, HSM.out, hd]; rfl
          have CD : Hid (∀ W, Calls Tryd.prog 46 #[.int .u8 (s[k].toNat : Int)] W fun e w' => e = .returned (.bool true) ∧ W = w') := fun W => by rw [← hd]; exact spec_l1Digit s[k] W
          clear hd
          go_wp2_with fail
          refine (CD.out _).mono ?_
          rintro e w1 ⟨rfl, rfl⟩
          go_wp2
          go_round
          case rel => exact ⟨k + 1, by omega, by go_num, all_stepB _ s k hks HK.out HC.out, fun _ => HH2.out⟩
          case measure => simp [intOf]; omega
        have CD : Hid (∀ W, Calls Tryd.prog 46 #[.int .u8 (s[k].toNat : Int)] W fun e w' => e = .returned (.bool false) ∧ W = w') := fun W => by rw [← hd]; exact spec_l1Digit s[k] W
        by_cases h45 : s[k] = 45
        case pos =>
          have b45 : ((s[k].toNat : Int) != 45) = false := beqM (n := 45) 45 rfl h45
          have HC : Hid (nameC s[k] = true) := by show _ = _; rw [nameC_eq, HSM.out, hd]; simp [h45]
          clear hd h45 
          go_wp2_with fail
          refine (CD.out _).mono ?_
          rintro e w1 ⟨rfl, rfl⟩
          go_wp2
          go_round
          case rel => exact ⟨k + 1, by omega, by go_num, all_stepB _ s k hks HK.out HC.out, fun _ => HH2.out⟩
          case measure => simp [intOf]; omega
        have b45 : ((s[k].toNat : Int) != 45) = true := bneM (n := 45) 45 rfl h45
        have HC : Hid (nameC s[k] = false) := by show _ = _; rw [nameC_eq, HSM.out, hd]; simp [h45]
        clear hd h45
        go_wp2_with fail
        refine (CD.out _).mono ?_
        rintro e w1 ⟨rfl, rfl⟩
        go_wp2
        go_ret
        exact ⟨ret_bool (nameB_no (.inl (all_badB _ s k hks HC.out))).symm, rfl⟩
      rcases d2 : decide ((s[k].toNat : Int) ≤ 122) with _ | _
      case false =>
        have HSM : Hid (smB s[k] = false) := by show _ = _; rw [smB_eq, d1, d2]; rfl
        rcases hd : digB s[k] with _ | _
        case true =>
          have HC : Hid (nameC s[k] = true) := by show _ = _; rw [nameC_eq, HSM.out, hd]; rfl
          have CD : Hid (∀ W, Calls Tryd.prog 46 #[.int .u8 (s[k].toNat : Int)] W fun e w' => e = .returned (.bool true) ∧ W = w') := fun W => by rw [← hd]; exact spec_l1Digit s[k] W
          clear hd
          go_wp2_with fail
          refine (CD.out _).mono ?_
          rintro e w1 ⟨rfl, rfl⟩
          go_wp2
          go_round
          case rel => exact ⟨k + 1, by omega, by go_num, all_stepB _ s k hks HK.out HC.out, fun _ => HH2.out⟩
          case measure => simp [intOf]; omega
        have CD : Hid (∀ W, Calls Tryd.prog 46 #[.int .u8 (s[k].toNat : Int)] W fun e w' => e = .returned (.bool false) ∧ W = w') := fun W => by rw [← hd]; exact spec_l1Digit s[k] W
        by_cases h45 : s[k] = 45
        case pos =>
          have b45 : ((s[k].toNat : Int) != 45) = false := beqM (n := 45) 45 rfl h45
          have HC : Hid (nameC s[k] = true) := by show _ = _; rw [nameC_eq, HSM.out, hd]; simp [h45]
          clear hd h45 
          go_wp2_with fail
          refine (CD.out _).mono ?_
          rintro e w1 ⟨rfl, rfl⟩
          go_wp2
          go_round
          case rel => exact ⟨k + 1, by omega, by go_num, all_stepB _ s k hks HK.out HC.out, fun _ => HH2.out⟩
          case measure => simp [intOf]; omega
        have b45 : ((s[k].toNat : Int) != 45) = true := bneM (n := 45) 45 rfl h45
        have HC : Hid (nameC s[k] = false) := by show _ = _; rw [nameC_eq, HSM.out, hd]; simp [h45]
        clear hd h45
        go_wp2_with fail
        refine (CD.out _).mono ?_
        rintro e w1 ⟨rfl, rfl⟩
        go_wp2
        go_ret
        exact ⟨ret_bool (nameB_no (.inl (all_badB _ s k hks HC.out))).symm, rfl⟩
      have HSM : Hid (smB s[k] = true) := by show _ = _; rw [smB_eq, d1, d2]; rfl
      have HC : Hid (nameC s[k] = true) := by show _ = _; rw [nameC_eq, HSM.out]; rfl
      go_wp2
      go_round
      case rel => exact ⟨k + 1, by omega, by go_num, all_stepB _ s k hks HK.out HC.out, fun _ => HH2.out⟩
      case measure => simp [intOf]; omega
    have HA : Hid ((bl s).all nameC = true) := by have := HK.out; rwa [List.take_of_length_le (by rw [bl_len]; omega)] at this
    have HR : Hid ((decide ((1 : Int) ≤ (s.size : Int)) && decide ((s.size : Int) ≤ 10)) = nameB (bl s)) := by
      show _ = _
      by_cases h1 : 1 ≤ s.size ∧ s.size ≤ 10
      · rw [nameB_yes HA.out (HH.out (by omega)) (by rw [bl_len]; omega) (by rw [bl_len]; omega)]
        have : (1 : Int) ≤ (s.size : Int) ∧ (s.size : Int) ≤ 10 := by omega
        simp [this.1, this.2]
      · rw [nameB_no (.inr (.inr (by rw [bl_len]; exact h1)))]
        rw [Bool.and_eq_false_iff, decide_eq_false_iff_not, decide_eq_false_iff_not]
        omega
    have CL := Lib.hid (fun W => spec_l1In_any (s.size : Int) 1 10 W)
    go_wp2_with fail
    refine (CL.out _).mono ?_
    rintro e w1 ⟨rfl, rfl⟩
    go_wp2
    go_ret
    exact ⟨ret_bool HR.out, rfl⟩
end Go.Proofs.YtmiemnhbkcmanaaDoor

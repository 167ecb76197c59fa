/- Strings as lists of bytes; which texts are valid. -/
import Derived.Test.YtmiemnhbkcmanaaDoorBase
namespace Go.Proofs.YtmiemnhbkcmanaaDoor
open Go.RowKit

/-- The bytes of a string. -/
def bl (s : ByteArray) : List UInt8 := s.data.toList
theorem bl_len (s : ByteArray) : (bl s).length = s.size := by unfold bl; rw [Array.length_toList]; rfl
theorem bl_app (a b : ByteArray) : bl (a ++ b) = bl a ++ bl b := by simp [bl]
theorem bl_inj {a b : ByteArray} (h : bl a = bl b) : a = b := by
  obtain ⟨a⟩ := a
  obtain ⟨b⟩ := b
  simp only [bl] at h
  congr 1
  exact Array.toList_inj.1 h
theorem bl_get (s : ByteArray) (k : Nat) (h : k < s.size) : (bl s)[k]? = some s[k] := by
  rw [List.getElem?_eq_getElem (by rw [bl_len]; exact h)]
  rfl
theorem bl_ext (s : ByteArray) (a b : Nat) : bl (s.extract a b) = ((bl s).take b).drop a := by
  simp [bl, ByteArray.data_extract, List.drop_take]
theorem bl_one (s : ByteArray) (k : Nat) (h : k < s.size) : bl (s.extract k (k + 1)) = [s[k]] := by
  rw [bl_ext]
  apply List.ext_getElem?
  intro i
  rw [List.getElem?_drop, List.getElem?_take]
  rcases i with _ | i
  · rw [if_pos (by omega), Nat.add_zero, bl_get s k h]; rfl
  · rw [if_neg (by omega)]; rfl
theorem bl_take (s : ByteArray) (k : Nat) (h : k < s.size) : (bl s).take (k + 1) = (bl s).take k ++ [s[k]] := by
  rw [List.take_add_one, bl_get s k h]; rfl
theorem bl_drop (s : ByteArray) (k : Nat) (h : k < s.size) : (bl s).drop k = s[k] :: (bl s).drop (k + 1) := by
  have h' : k < (bl s).length := by rw [bl_len]; exact h
  rw [List.drop_eq_getElem_cons h']
  have := bl_get s k h
  rw [List.getElem?_eq_getElem h'] at this
  injection this with this
  rw [this]
theorem bl_all (s : ByteArray) : (bl s).take s.size = bl s := by rw [← bl_len, List.take_length]
/-- A string of given bytes. -/
def mkS (l : List UInt8) : ByteArray := ⟨l.toArray⟩
theorem bl_mkS (l : List UInt8) : bl (mkS l) = l := by simp [bl, mkS]
theorem mkS_bl (s : ByteArray) : mkS (bl s) = s := bl_inj (bl_mkS _)
theorem mkS_size (l : List UInt8) : (mkS l).size = l.length := by rw [← bl_len, bl_mkS]
theorem mkS_inj {a b : List UInt8} (h : mkS a = mkS b) : a = b := by rw [← bl_mkS a, h, bl_mkS]

def okC (c : UInt8) : Bool := decide (32 ≤ (c.toNat : Int) ∧ (c.toNat : Int) ≤ 126)
/-- A valid text: not too long, and of printable bytes. -/
def textB (l : List UInt8) : Bool := decide (l.length ≤ 600) && l.all okC
theorem textB_bad {s : ByteArray} {k : Nat} (h : k < s.size) (hc : okC s[k] = false) : textB (bl s) = false := by
  have h' : ¬ (bl s).all okC = true := by
    rw [List.all_eq_true]
    intro hall
    have := hall s[k] (List.mem_of_getElem? (bl_get s k h))
    rw [hc] at this
    cases this
  simp only [Bool.not_eq_true] at h'
  simp [textB, h']
theorem all_take {s : ByteArray} {k : Nat} (h : k < s.size) (hk : ((bl s).take k).all okC = true) (hc : okC s[k] = true) : ((bl s).take (k + 1)).all okC = true := by
  rw [bl_take s k h, List.all_append, hk]
  simp [hc]
theorem textB_all {s : ByteArray} {k : Nat} (hk : s.size ≤ k) (h : ((bl s).take k).all okC = true) : textB (bl s) = decide ((s.size : Int) ≤ 600) := by
  rw [List.take_of_length_le (by rw [bl_len]; exact hk)] at h
  rw [textB, h, bl_len, Bool.and_true]
  congr 1
  apply propext
  omega
theorem textB_long {s : ByteArray} (h : 600 < s.size) : textB (bl s) = false := by
  simp [textB, bl_len]
  omega
theorem textB_size {s : ByteArray} (h : textB (bl s) = true) : s.size ≤ 600 := by
  simp [textB, bl_len] at h
  exact h.1
theorem ret_bool {a b : Bool} (h : a = b) : Ending.returned (.bool a) = .returned (.bool b) := by rw [h]

set_option maxHeartbeats 400000 in
theorem spec_TextValid (s : ByteArray) (w : World) (hs : s.size ≤ 9223372036854775807) :
    Calls Tryd.prog 59 #[.string s] w fun e w' => e = .returned (.bool (textB (bl s))) ∧ w = w' := by
  go_enter Tryd.func59, Tryd.ntmps59
  go_wp2
  go_loop [3] (fun i => ∃ k : Nat, k ≤ s.size ∧ i = .int .i64 k ∧ ((bl s).take k).all okC = true) (fun i => s.size - (intOf i).toNat)
  case atStart => exact ⟨0, Nat.zero_le _, rfl, rfl⟩
  case round =>
    obtain ⟨k, hk, rfl, hall⟩ := hrel
    have HA := Lib.hid hall; clear hall
    by_cases hlt : k < s.size
    · rcases hc : okC s[k] with _ | _
      · have HB := Lib.hid (textB_bad hlt hc)
        have hd : ¬ (32 ≤ (s[k].toNat : Int) ∧ (s[k].toNat : Int) ≤ 126) := by simpa only [okC, decide_eq_false_iff_not] using hc
        clear hc
        by_cases h1 : (s[k].toNat : Int) < 32
        · go_wp2
          go_ret
          exact ⟨ret_bool HB.out.symm, rfl⟩
        · have h2 : 126 < (s[k].toNat : Int) := by omega
          go_wp2
          go_ret
          exact ⟨ret_bool HB.out.symm, rfl⟩
      · have HB := Lib.hid (all_take hlt HA.out hc)
        have hd : 32 ≤ (s[k].toNat : Int) ∧ (s[k].toNat : Int) ≤ 126 := by simpa only [okC, decide_eq_true_iff] using hc
        have h1 := hd.1
        have h2 := hd.2
        clear hc hd
        go_wp2
        go_round
        case rel => exact ⟨k + 1, by omega, by go_num, HB.out⟩
        case measure => simp [intOf]; omega
    · have HB := Lib.hid (textB_all (s := s) (k := k) (by omega) HA.out)
      go_wp2
      go_ret
      exact ⟨ret_bool HB.out.symm, rfl⟩

set_option maxHeartbeats 400000 in
theorem impl_TextValid (s : ByteArray) (w : World) (hs : s.size ≤ 9223372036854775807) :
    Calls Tryd.prog 76 #[.string s] w fun e w' => e = .returned (.bool (textB (bl s))) ∧ w = w' := by
  by_cases hz : 600 < s.size
  · have HB := Lib.hid (textB_long hz)
    go_enter Tryd.func76, Tryd.ntmps76
    go_wp2
    go_ret
    exact ⟨ret_bool HB.out.symm, rfl⟩
  go_enter Tryd.func76, Tryd.ntmps76
  go_wp2
  go_loop [3] (fun i => ∃ k : Nat, k ≤ s.size ∧ i = .int .i64 k ∧ ((bl s).take k).all okC = true) (fun i => s.size - (intOf i).toNat)
  case atStart => exact ⟨0, Nat.zero_le _, rfl, rfl⟩
  case round =>
    obtain ⟨k, hk, rfl, hall⟩ := hrel
    have HA := Lib.hid hall; clear hall
    by_cases hlt : k < s.size
    · rcases hc : okC s[k] with _ | _
      · have HB := Lib.hid (textB_bad hlt hc)
        have hd : ¬ (32 ≤ (s[k].toNat : Int) ∧ (s[k].toNat : Int) ≤ 126) := by simpa only [okC, decide_eq_false_iff_not] using hc
        clear hc
        by_cases h1 : (s[k].toNat : Int) < 32
        · go_wp2
          go_ret
          exact ⟨ret_bool HB.out.symm, rfl⟩
        · have h2 : 126 < (s[k].toNat : Int) := by omega
          go_wp2
          go_ret
          exact ⟨ret_bool HB.out.symm, rfl⟩
      · have HB := Lib.hid (all_take hlt HA.out hc)
        have hd : 32 ≤ (s[k].toNat : Int) ∧ (s[k].toNat : Int) ≤ 126 := by simpa only [okC, decide_eq_true_iff] using hc
        have h1 := hd.1
        have h2 := hd.2
        clear hc hd
        go_wp2
        go_round
        case rel => exact ⟨k + 1, by omega, by go_num, HB.out⟩
        case measure => simp [intOf]; omega
    · have HB := Lib.hid (textB_all (s := s) (k := k) (by omega) HA.out)
      have HT : Hid (decide ((s.size : Int) ≤ 600) = true) := decide_eq_true (by omega)
      go_wp2
      go_ret
      exact ⟨ret_bool (by rw [HB.out, HT.out]), rfl⟩
end Go.Proofs.YtmiemnhbkcmanaaDoor

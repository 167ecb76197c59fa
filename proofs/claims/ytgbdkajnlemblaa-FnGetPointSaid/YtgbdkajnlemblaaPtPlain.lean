/- Plain laws of points: what is put can be got; Go's own string of a point. -/
import Derived.Test.YtgbdkajnlemblaaGet
namespace Go.Proofs.Ytgbdkajnlemblaa
open Go.RowKit

theorem u8_toNat (x : Int) (h0 : 0 ≤ x) (h1 : x ≤ 255) : ((u8 x).toNat : Int) = x := by
  unfold u8; rw [UInt8.toNat_ofNat']; omega
theorem u8_toNat' (x : Int) (h0 : 0 ≤ x) (h1 : x ≤ 255) : (u8 x).toNat = x.toNat := by
  have := u8_toNat x h0 h1; omega

theorem cls_2 {x : Nat} (h : 192 ≤ x) (h' : x ≤ 223) : cls x = (2, (x : Int) - 192) := if_pos ⟨h, h'⟩
theorem cls_3 {x : Nat} (h : 224 ≤ x) (h' : x ≤ 239) : cls x = (3, (x : Int) - 224) := by unfold cls; rw [if_neg (by omega), if_pos ⟨h, h'⟩]
theorem cls_4 {x : Nat} (h : 240 ≤ x) (h' : x ≤ 247) : cls x = (4, (x : Int) - 240) := by unfold cls; rw [if_neg (by omega), if_neg (by omega), if_pos ⟨h, h'⟩]
theorem cls_1 {x : Nat} (h : x < 192) : cls x = (1, (x : Int)) := by unfold cls; rw [if_neg (by omega), if_neg (by omega), if_neg (by omega)]

/-- Behind any bytes, before any bytes: the put point is got. -/
theorem getP_put (n : Int) (hv : ptB n = true) (pre post : List UInt8) : getP (pre ++ putP n ++ post) (pre.length : Int) = (n, (pre.length : Int) + (putP n).length) := by
  have hb := ptB_t.1 hv
  by_cases h1 : n < 128
  · have e := put_1 hv h1
    rw [e]
    have t1 := u8_toNat' n (by omega) (by omega)
    have g0 : (pre ++ [u8 n] ++ post).getD pre.length 0 = u8 n := by simp [List.getD_eq_getElem?_getD]
    have hc : cls ((pre ++ [u8 n] ++ post).getD pre.length 0).toNat = (1, n) := by rw [g0, t1, cls_1 (by omega)]; congr 1; omega
    have := getP_yes (b := pre ++ [u8 n] ++ post) (p := pre.length) (by simp <;> omega) hc (by simp <;> omega) (by simp [decN, e])
    simpa [decN] using this
  · by_cases h2 : n < 2048
    · have e := put_2 hv h1 h2
      rw [e]
      have t1 := u8_toNat' (192 + n / 64) (by omega) (by omega)
      have t2 := u8_toNat (128 + n % 64) (by omega) (by omega)
      have g0 : (pre ++ [u8 (192 + n / 64), u8 (128 + n % 64)] ++ post).getD pre.length 0 = u8 (192 + n / 64) := by simp [List.getD_eq_getElem?_getD]
      have g1 : byteAt (pre ++ [u8 (192 + n / 64), u8 (128 + n % 64)] ++ post) pre.length (0 + 1) = 128 + n % 64 := by
        have : byteAt (pre ++ [u8 (192 + n / 64), u8 (128 + n % 64)] ++ post) pre.length (0 + 1) = ((u8 (128 + n % 64)).toNat : Int) := by simp [byteAt, List.getD_eq_getElem?_getD]
        rw [this, t2]
      have hc : cls ((pre ++ [u8 (192 + n / 64), u8 (128 + n % 64)] ++ post).getD pre.length 0).toNat = (2, n / 64) := by rw [g0, t1, cls_2 (by omega) (by omega)]; congr 1; omega
      have hd : decN (byteAt (pre ++ [u8 (192 + n / 64), u8 (128 + n % 64)] ++ post) pre.length) (n / 64) (2 - 1) = n := by simp only [decN]; rw [g1]; omega
      have := getP_yes (b := pre ++ [u8 (192 + n / 64), u8 (128 + n % 64)] ++ post) (p := pre.length) (by simp <;> omega) hc (by simp <;> omega) (by rw [hd, e]; simp)
      rw [hd] at this
      simpa using this
    · by_cases h3 : n < 65536
      · have e := put_3 hv h2 h3
        rw [e]
        have t1 := u8_toNat' (224 + n / 4096) (by omega) (by omega)
        have t2 := u8_toNat (128 + n / 64 % 64) (by omega) (by omega)
        have t3 := u8_toNat (128 + n % 64) (by omega) (by omega)
        generalize hL : pre ++ [u8 (224 + n / 4096), u8 (128 + n / 64 % 64), u8 (128 + n % 64)] ++ post = L
        have g0 : L.getD pre.length 0 = u8 (224 + n / 4096) := by rw [← hL]; simp [List.getD_eq_getElem?_getD]
        have g1 : byteAt L pre.length (0 + 1) = 128 + n / 64 % 64 := by rw [← t2, ← hL]; simp [byteAt, List.getD_eq_getElem?_getD]
        have g2 : byteAt L pre.length (1 + 1) = 128 + n % 64 := by rw [← t3, ← hL]; simp [byteAt, List.getD_eq_getElem?_getD]
        have hc : cls (L.getD pre.length 0).toNat = (3, n / 4096) := by rw [g0, t1, cls_3 (by omega) (by omega)]; congr 1; omega
        have hd : decN (byteAt L pre.length) (n / 4096) (3 - 1) = n := by simp only [decN]; rw [g1, g2]; omega
        have := getP_yes (b := L) (p := pre.length) (by rw [← hL]; simp <;> omega) hc (by rw [← hL]; simp <;> omega) (by rw [hd, e, ← hL]; simp)
        rw [hd] at this
        simpa using this
      · have e := put_4 hv h3
        rw [e]
        have t1 := u8_toNat' (240 + n / 262144) (by omega) (by omega)
        have t2 := u8_toNat (128 + n / 4096 % 64) (by omega) (by omega)
        have t3 := u8_toNat (128 + n / 64 % 64) (by omega) (by omega)
        have t4 := u8_toNat (128 + n % 64) (by omega) (by omega)
        generalize hL : pre ++ [u8 (240 + n / 262144), u8 (128 + n / 4096 % 64), u8 (128 + n / 64 % 64), u8 (128 + n % 64)] ++ post = L
        have g0 : L.getD pre.length 0 = u8 (240 + n / 262144) := by rw [← hL]; simp [List.getD_eq_getElem?_getD]
        have g1 : byteAt L pre.length (0 + 1) = 128 + n / 4096 % 64 := by rw [← t2, ← hL]; simp [byteAt, List.getD_eq_getElem?_getD]
        have g2 : byteAt L pre.length (1 + 1) = 128 + n / 64 % 64 := by rw [← t3, ← hL]; simp [byteAt, List.getD_eq_getElem?_getD]
        have g3 : byteAt L pre.length (2 + 1) = 128 + n % 64 := by rw [← t4, ← hL]; simp [byteAt, List.getD_eq_getElem?_getD]
        have hc : cls (L.getD pre.length 0).toNat = (4, n / 262144) := by rw [g0, t1, cls_4 (by omega) (by omega)]; congr 1; omega
        have hd : decN (byteAt L pre.length) (n / 262144) (4 - 1) = n := by simp only [decN]; rw [g1, g2, g3]; omega
        have := getP_yes (b := L) (p := pre.length) (by rw [← hL]; simp <;> omega) hc (by rw [← hL]; simp <;> omega) (by rw [hd, e, ← hL]; simp)
        rw [hd] at this
        simpa using this

theorem ofNat_u8 {k : Nat} {x : Int} (h : (k : Int) = x) : UInt8.ofNat k = u8 x := by
  unfold u8; congr 1; omega

/-- Go's own string of a valid point has the put bytes. -/
theorem encode_put (n : Int) (hv : ptB n = true) : Utf8.encode n = ⟨(putP n).toArray⟩ := by
  have hb := ptB_t.1 hv
  have hval : Utf8.valid n = true := by simp [Utf8.valid]; omega
  unfold Utf8.encode
  simp only [hval, if_true]
  by_cases h1 : n < 128
  · rw [put_1 hv h1, if_pos (by omega), ofNat_u8 (show ((n.toNat : Nat) : Int) = n from by omega)]
  · by_cases h2 : n < 2048
    · rw [put_2 hv h1 h2, if_neg (by omega), if_pos (by omega), ofNat_u8 (show ((0xC0 + n.toNat / 64 : Nat) : Int) = 192 + n / 64 from by omega), ofNat_u8 (show ((0x80 + n.toNat % 64 : Nat) : Int) = 128 + n % 64 from by omega)]
    · by_cases h3 : n < 65536
      · rw [put_3 hv h2 h3, if_neg (by omega), if_neg (by omega), if_pos (by omega), ofNat_u8 (show ((0xE0 + n.toNat / 4096 : Nat) : Int) = 224 + n / 4096 from by omega), ofNat_u8 (show ((0x80 + n.toNat / 64 % 64 : Nat) : Int) = 128 + n / 64 % 64 from by omega), ofNat_u8 (show ((0x80 + n.toNat % 64 : Nat) : Int) = 128 + n % 64 from by omega)]
      · rw [put_4 hv h3, if_neg (by omega), if_neg (by omega), if_neg (by omega), ofNat_u8 (show ((0xF0 + n.toNat / 262144 : Nat) : Int) = 240 + n / 262144 from by omega), ofNat_u8 (show ((0x80 + n.toNat / 4096 % 64 : Nat) : Int) = 128 + n / 4096 % 64 from by omega), ofNat_u8 (show ((0x80 + n.toNat / 64 % 64 : Nat) : Int) = 128 + n / 64 % 64 from by omega), ofNat_u8 (show ((0x80 + n.toNat % 64 : Nat) : Int) = 128 + n % 64 from by omega)]
end Go.Proofs.Ytgbdkajnlemblaa

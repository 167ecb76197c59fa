/- The laws' helpers over slices of bytes: equal, mark, held, copy: what each does, for every slice. -/
import Derived.Test.YtnehdaocfijcpaaBv
namespace Go.Proofs.Ytnehdaocfijcpaa
open Go.RowKit

theorem byteV_inj {a b : UInt8} (h : byteV a = byteV b) : a = b := by
  simp only [byteV, Value.int.injEq, true_and] at h
  exact UInt8.toNat_inj.1 (by omega)



theorem row_bytes {w : World} {a : Option Addr} {l : List UInt8} (h : RowAt w a (l.map byteV)) {n : Nat} (hn : l.length = n) : BytesAt w a n (fun i => l.getD i 0) := by
  intro i hi
  obtain ⟨b, off, ha, hlt, hc⟩ := row_byte h i (by omega)
  exact ⟨b, off, ha, hlt, by rw [hc]; simp [hn, hi]⟩

theorem bytes_row {w : World} {a : Option Addr} {n : Nat} {f : Nat → UInt8} (h : BytesAt w a n f) : RowAt w a (((List.range n).map f).map byteV) := by
  intro i hi
  have hi' : i < n := by simpa using hi
  obtain ⟨b, off, ha, hlt, hc⟩ := h i hi'
  exact ⟨b, off, ha, hlt, by rw [hc]; simp [byteV]⟩

set_option maxHeartbeats 400000 in
theorem eqByteS_core (a1 a2 : Option Addr) (n c1 c2 : Nat) (f g : Nat → UInt8) (w : World) (h1 : BytesAt w a1 n f) (h2 : BytesAt w a2 n g) (hn : n ≤ 9223372036854775807) :
    Calls Try.prog 11 #[.slice a1 n c1, .slice a2 n c2] w fun e w' => (∃ b, e = .returned (.bool b) ∧ (b = true ↔ ∀ i, i < n → f i = g i)) ∧ Below w.heap.size w w' := by
  go_enter Try.func11, Try.ntmps11
  go_wp2
  have H1 := Lib.hid h1; have H2 := Lib.hid h2
  clear h1 h2
  go_loopw [5] (fun t wr => ∃ k : Nat, k ≤ n ∧ t = .int .i64 k ∧ (∀ i, i < k → f i = g i) ∧ Below w.heap.size w wr) (fun t _ => n - (intOf t).toNat)
  case atStart => exact ⟨0, Nat.zero_le _, rfl, by intro i hi; omega, Below.refl _ _⟩
  case round =>
    obtain ⟨k, hk, rfl, heq, hb⟩ := hrel
    by_cases hlt : k < n
    · obtain ⟨b1, o1, rfl, hl1, hc1⟩ := (H1.out.below (Nat.le_refl _) hb) k hlt
      obtain ⟨b2, o2, rfl, hl2, hc2⟩ := (H2.out.below (Nat.le_refl _) hb) k hlt
      by_cases he : f k = g k
      · rw [← he] at hc2
        have HE := Lib.hid he; have HQ := Lib.hid heq; clear he heq
        have k0 : (0 : Int) ≤ (k : Int) := by omega
        have k1 : (k : Int) < (n : Int) := by omega
        go_wp2
        go_quiet (fail)
        go_wp2
        go_roundw
        case rel => exact ⟨k + 1, by omega, by go_num, upto_succ HQ.out HE.out, below_drewN hb _⟩
        case measure => simp [intOf]; omega
      · have hne : (((f k).toNat : Int) != ((g k).toNat : Int)) = true := by
          rw [bne_iff_ne]; intro e; exact he (UInt8.toNat_inj.1 (by omega))
        have k0 : (0 : Int) ≤ (k : Int) := by omega
        have k1 : (k : Int) < (n : Int) := by omega
        have HE := Lib.hid he; clear he heq
        go_wp2
        go_quiet (fail)
        go_wp2
        go_ret
        exact ⟨⟨false, rfl, by simp; exact ⟨k, hlt, HE.out⟩⟩, below_drewN hb _⟩
    · have HQ := Lib.hid heq; clear heq
      go_wp2
      go_ret
      exact ⟨⟨true, rfl, by simp; intro i hi; exact HQ.out i (by omega)⟩, hb⟩

/-- Two slices of bytes are equal: what the helper answers. -/
theorem eqByteS_any (a1 a2 : Option Addr) (n1 n2 c1 c2 : Nat) (l1 l2 : List UInt8) (w : World) (h1 : RowAt w a1 (l1.map byteV)) (h2 : RowAt w a2 (l2.map byteV)) (e1 : l1.length = n1) (e2 : l2.length = n2) (hn : n1 ≤ 9223372036854775807) :
    Calls Try.prog 11 #[.slice a1 n1 c1, .slice a2 n2 c2] w fun e w' => e = .returned (.bool (decide (l1 = l2))) ∧ Below w.heap.size w w' := by
  by_cases h : n1 = n2
  · subst h
    refine (eqByteS_core a1 a2 n1 c1 c2 _ _ w (row_bytes h1 e1) (row_bytes h2 e2) hn).mono ?_
    rintro e w' ⟨⟨b, rfl, hb⟩, hw⟩
    refine ⟨?_, hw⟩
    have : b = decide (l1 = l2) := by
      rw [Bool.eq_iff_iff, hb, decide_eq_true_iff]
      constructor
      · intro hi
        apply List.ext_getElem (by omega)
        intro i h3 h4
        have := hi i (by omega)
        simpa [h3, h4] using this
      · rintro rfl i hi
        rfl
    rw [this]
  · have hne : ¬ l1 = l2 := by rintro rfl; omega
    have hd : decide (l1 = l2) = false := by simp [hne]
    have hb : (((n1 : Nat) : Int) != ((n2 : Nat) : Int)) = true := by rw [bne_iff_ne]; omega
    rw [hd]
    clear h1 h2 hd hne
    go_enter Try.func11, Try.ntmps11
    go_wp2
    go_ret
    exact ⟨rfl, Below.refl _ _⟩
/-- The marks k, k+1, .., as bytes. -/
def markB (k : Nat) (n : Nat) : List Value := (List.range n).map fun (i : Nat) => Value.int .u8 (((k : Int) + (i : Int)) % 256)
theorem markB_length (k n : Nat) : (markB k n).length = n := by simp [markB]
theorem markB_get (k n i : Nat) (h : i < (markB k n).length) : (markB k n)[i] = Value.int .u8 (((k : Int) + (i : Int)) % 256) := by simp [markB]

/-- After j marks: the first j are marks, the rest is as it was. -/
def markedB (k : Nat) (l : List Value) (j : Nat) : List Value := markB k j ++ l.drop j
theorem markedB_length (k : Nat) (l : List Value) (j : Nat) (h : j ≤ l.length) : (markedB k l j).length = l.length := by simp [markedB, markB_length]; omega
theorem markedB_zero (k : Nat) (l : List Value) : markedB k l 0 = l := by simp [markedB, markB]
theorem markedB_all (k : Nat) (l : List Value) : markedB k l l.length = markB k l.length := by simp [markedB]
theorem markedB_set (k : Nat) (l : List Value) (j : Nat) (h : j < l.length) : (markedB k l j).set j (Value.int .u8 (((k : Int) + (j : Int)) % 256)) = markedB k l (j + 1) := by
  apply List.ext_getElem?
  intro i
  simp only [markedB, markB, List.getElem?_set, List.getElem?_append, List.length_map, List.length_range, List.getElem?_map, List.getElem?_drop, List.length_append, List.length_drop]
  by_cases h1 : i < j
  · rw [if_neg (by omega), if_pos h1, if_pos (by omega), List.getElem?_range h1, List.getElem?_range (by omega)]
  · by_cases h2 : i = j
    · subst h2
      rw [if_pos rfl, if_pos (by omega), if_pos (by omega), List.getElem?_range (by omega)]
      rfl
    · rw [if_neg (by omega), if_neg h1, if_neg (by omega)]
      congr 1; omega

set_option maxHeartbeats 400000 in
theorem markByteS_any (v : Value) (B : Nat) (l : List Value) (n : Nat) (k : Nat) (w : World) (h : w.ownsRow B 5 1 v n l) (hn : l.length = n) (hk : k + n ≤ 9223372036854775807) :
    Calls Try.prog 12 #[v, .int .i64 (k : Int)] w fun e w' => e = .returned (.int .i64 ((k + n : Nat) : Int)) ∧ w'.ownsRow B 5 1 v n (markB k n) ∧ w.grownBy w' v.ownBlock := by
  subst hn
  obtain ⟨a, c, rfl, hr, hc, hc', hB⟩ := own_form h
  by_cases hz : l.length = 0
  · have hnil : l = [] := List.eq_nil_of_length_eq_zero hz
    subst hnil
    clear hr
    have H : Hid (w.ownsRow B 5 1 (.slice a 0 c) 0 []) := Lib.hid h; clear h
    go_enter Try.func12, Try.ntmps12
    go_wp2
    go_rounds 1
    go_ret
    exact ⟨rfl, H.out, grown_refl _ _⟩
  · obtain ⟨g, off, rfl, hlt, _⟩ := hr 0 (by omega)
    have hoff : off = 0 := by
      rcases h.2 with ⟨hv, _⟩ | ⟨g', cap, cur, hv, _⟩
      · cases hv
      · injection hv with h1 h2 h3; injection h1 with h1; injection h1 with h1 h4
    subst hoff
    have H := Lib.hid h; clear h hr hB
    go_enter Try.func12, Try.ntmps12
    go_wp2
    go_loopw [1, 5] (fun q t wr => ∃ j : Nat, j ≤ l.length ∧ t = .int .i64 j ∧ q = .int .i64 ((k + j : Nat) : Int) ∧ wr.ownsRow B 5 1 (.slice (some ⟨g, 0, none⟩) l.length c) l.length (markedB k l j) ∧ w.grownBy wr (some g)) (fun _ t _ => l.length - (intOf t).toNat)
    case atStart => exact ⟨0, Nat.zero_le _, rfl, by simp, by rw [markedB_zero]; exact H.out, grown_refl _ _⟩
    case round =>
      obtain ⟨j, hj, rfl, rfl, hown, hg⟩ := hrel
      by_cases hjl : j < l.length
      · have hml := markedB_length k l j hj
        rw [← hml] at hown
        have S := own_set hown j (by omega) (.int .u8 (((k : Int) + (j : Int)) % 256))
        rw [hml, markedB_set k l j hjl] at S
        obtain ⟨f0, ⟨x, hx⟩, hS, hBg⟩ := S
        have HS := Lib.hid hS; have HM := Lib.hid hml
        clear hS hml hown
        go_wp2
        go_roundw
        case rel => exact ⟨j + 1, by omega, by go_num, by go_num, HS.out, grown_setCell hg _ _⟩
        case measure => simp [intOf]; omega
      · obtain rfl : j = l.length := by omega
        have HO := Lib.hid hown; clear hown
        go_wp2
        go_ret
        exact ⟨by go_num, by have := HO.out; rw [markedB_all] at this; exact this, hg⟩

set_option maxHeartbeats 400000 in
theorem heldByteS_any (a : Option Addr) (n c k : Nat) (w : World) (h : RowAt w a (markB k n)) (hk : k + n ≤ 9223372036854775807) :
    Calls Try.prog 24 #[.slice a n c, .int .i64 (k : Int)] w fun e w' => e = .returned (.int .i64 ((k + n : Nat) : Int)) ∧ Below w.heap.size w w' := by
  have H := Lib.hid h; clear h
  go_enter Try.func24, Try.ntmps24
  go_wp2
  go_loopw [1, 5] (fun q t wr => ∃ j : Nat, j ≤ n ∧ t = .int .i64 j ∧ q = .int .i64 ((k + j : Nat) : Int) ∧ Below w.heap.size w wr) (fun _ t _ => n - (intOf t).toNat)
  case atStart => exact ⟨0, Nat.zero_le _, rfl, by simp, Below.refl _ _⟩
  case round =>
    obtain ⟨j, hj, rfl, rfl, hb⟩ := hrel
    by_cases hjl : j < n
    · obtain ⟨b, off, rfl, hlt, hc⟩ := (H.out.below (Nat.le_refl _) hb) j (by rw [markB_length]; exact hjl)
      rw [markB_get] at hc
      go_wp2
      go_roundw
      case rel => exact ⟨j + 1, by omega, by go_num, by go_num, hb⟩
      case measure => simp [intOf]; omega
    · obtain rfl : j = n := by omega
      go_wp2
      go_ret
      exact ⟨by go_num, hb⟩

set_option maxHeartbeats 400000 in
theorem toByteS_any (a : Option Addr) (n c : Nat) (l : List UInt8) (w : World) (h : RowAt w a (l.map byteV)) (hn : l.length = n) (hb : n ≤ 140737488355328) :
    Calls Try.prog 8 #[.slice a n c] w fun e w' => ∃ v, e = .returned v ∧ w'.ownsRow w.heap.size 5 1 v n (l.map byteV) ∧ Below w.heap.size w w' := by
  obtain ⟨i0, hi, hz0, hz1, hz2⟩ := info_parts info_u8
  have H := Lib.hid h; have HN := Lib.hid hn; clear h hn
  go_enter Try.func8, Try.ntmps8
  go_wp2_with (at_make; refine wpList_make_full _ rfl _ _ _ rfl w.heap.size 5 i0 _ 1 Try.underlying22 hi hz0 hz1 .i64 .i64 n n n rfl rfl rfl rfl (by rw [hz2]; omega) (by simp only [maxLen]; omega) (Nat.le_refl _) ?_; intro w1 hown hgrow)
  obtain ⟨Z, hZ⟩ : ∃ Z, Z = (madeCells (Value.int .u8 0).cells (n * 1)).toList := ⟨_, rfl⟩
  rw [← hZ] at hown
  have hZl : Z.length = n := own_len hown
  have HZ := Lib.hid hZl
  have hbel : Below w.heap.size w w1 := below_of_grown hgrow (Nat.le_refl _) (by intro k hk; cases hk)
  clear hZ hZl hgrow
  go_loopw [4] (fun t wr => ∃ j : Nat, j ≤ n ∧ t = .int .i64 j ∧ wr.ownsRow w.heap.size 5 1 (.slice (some ⟨w.heap.size, 0, none⟩) n n) n (copied (l.map byteV) Z j) ∧ Below w.heap.size w wr) (fun t _ => n - (intOf t).toNat)
  case atStart => exact ⟨0, Nat.zero_le _, rfl, by rw [copied_zero]; exact hown, hbel⟩
  case round =>
    clear hown hbel
    obtain ⟨j, hj, rfl, hown, hbel⟩ := hrel
    by_cases hjl : j < n
    · obtain ⟨b, off, rfl, hlt, hc⟩ := row_byte (H.out.below (Nat.le_refl _) hbel) j (by rw [HN.out]; exact hjl)
      obtain ⟨f0, ⟨x, hx⟩, hS, _⟩ := own_setn hown j hjl (byteV (l[j]'(by rw [HN.out]; exact hjl)))
      have e1 := copied_set (l.map byteV) Z j (by simp [HN.out]; exact hjl) (by simp [HN.out, HZ.out])
      rw [List.getElem_map] at e1
      rw [e1] at hS
      have HS := Lib.hid hS; clear hS hown e1
      obtain ⟨y, hy⟩ : ∃ y, y = (l[j]'(by rw [HN.out]; exact hjl)) := ⟨_, rfl⟩
      rw [← hy] at hc HS
      clear hy
      go_wp2
      go_roundw
      case rel => exact ⟨j + 1, by omega, by go_num, HS.out, hbel.setCell (Nat.le_refl _) _⟩
      case measure => simp [intOf]; omega
    · obtain rfl : j = n := by omega
      have HO := Lib.hid hown; clear hown
      go_wp2
      go_ret
      refine ⟨_, rfl, ?_, hbel⟩
      have h1 := HO.out
      have h2 : copied (l.map byteV) Z j = l.map byteV := by
        have h3 := copied_all (l.map byteV) Z (by simp [HN.out, HZ.out])
        rwa [List.length_map, HN.out] at h3
      rwa [h2] at h1
theorem markByteS_one (v : Value) (B : Nat) (l : List Value) (n : Nat) (w : World) (h : w.ownsRow B 5 1 v n l) (hk : n ≤ 4611686018427387904) :
    Calls Try.prog 12 #[v, .int .i64 1] w fun e w' => e = .returned (.int .i64 ((n : Int) + 1)) ∧ w'.ownsRow B 5 1 v n (markB 1 n) ∧ w.grownBy w' v.ownBlock :=
  (markByteS_any v B l n 1 w h (own_len h) (by omega)).mono fun _ _ ⟨he, h2⟩ => ⟨by rw [he]; congr 2; omega, h2⟩

theorem heldByteS_one (a : Option Addr) (n c : Nat) (w : World) (h : RowAt w a (markB 1 n)) (hk : n ≤ 4611686018427387904) :
    Calls Try.prog 24 #[.slice a n c, .int .i64 1] w fun e w' => e = .returned (.int .i64 ((n : Int) + 1)) ∧ Below w.heap.size w w' :=
  (heldByteS_any a n c 1 w h (by omega)).mono fun _ _ ⟨he, h2⟩ => ⟨by rw [he]; congr 2; omega, h2⟩
end Go.Proofs.Ytnehdaocfijcpaa

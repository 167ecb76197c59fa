/- The drawn texts and patterns: what the generators hand on, for every state of the reader. -/
import Derived.Test.YtlilmphbjmjpdaaDraw
import Derived.Test.YtlilmphbjmjpdaaStars2
namespace Go.Proofs.Ytlilmphbjmjpdaa
open Go.RowKit

/-- A short string. -/
def Short (m : Nat) (x : Value) : Prop := ∃ s : ByteArray, x = .string s ∧ s.size ≤ m
def StrPost (w : World) (R k K m : Nat) (e : Ending) (w' : World) : Prop :=
  ∃ s : ByteArray, e = .returned (.string s) ∧ s.size ≤ m ∧ w.grownBy w' (some R) ∧ Rdr w' R (k - K)

theorem letters_s : ∀ x ∈ (#[Value.string ⟨#[97]⟩, .string ⟨#[98]⟩, .string ⟨#[42]⟩, .string ⟨#[92]⟩, .string ⟨#[63]⟩] : Array Value).toList, Short 1 x := by
  intro x hx
  simp at hx
  rcases hx with rfl | rfl | rfl | rfl | rfl <;> exact ⟨_, rfl, by decide⟩
theorem letters_i : ∀ x ∈ (#[Value.int .i64 0, .int .i64 0, .int .i64 0, .int .i64 1, .int .i64 1, .int .i64 1, .int .i64 2, .int .i64 3, .int .i64 4] : Array Value).toList, Small 0 4 x := by
  intro x hx
  simp at hx
  rcases hx with rfl | rfl | rfl | rfl | rfl <;> exact ⟨_, rfl, by omega, by omega⟩

set_option maxHeartbeats 800000 in
theorem letters_any (w : World) (R k : Nat) (h : Rdr w R k) (hk : 20 ≤ k) :
    Calls Try.prog 29 #[.pointer (some ⟨R, 0, none⟩)] w (StrPost w R k 8 6) := by
  go_enter Try.func29, Try.ntmps29
  go_wp2_with fail
  refine (pick_any _ _ k _ h (by omega) (by omega) (by omega)).mono ?_
  rintro e w1 ⟨v, rfl, hv, hg1, hr1⟩
  have hv6 : v ≤ 6 := by omega
  have HG1 := Lib.hid hg1
  have HR1 := Lib.hid hr1
  clear hg1 hr1 h hv
  go_wp2
  go_loopw [3, 4] (fun o i wr => ∃ (j : Nat) (x : ByteArray), i = .int .i64 j ∧ o = .string x ∧ x.size + j ≤ 6 ∧ w.grownBy wr (some R) ∧ Rdr wr R (k - 7 + j)) (fun _ i _ => (intOf i).toNat)
  case atStart => exact ⟨v, ⟨#[]⟩, rfl, rfl, (by show 0 + v ≤ 6; omega), HG1.out, HR1.out.less (by omega)⟩
  case round =>
    obtain ⟨j, x, rfl, rfl, hx, hg, hr⟩ := hrel
    by_cases h0 : 0 < j
    · have HG := Lib.hid hg
      have HR := Lib.hid hr
      clear hg hr
      go_wp2_with fail
      refine (pick_any _ _ (k - 7 + j) _ ((HR.out.kept (World.grownBy_alloc _ _ none) (by simp)).kept (World.grownBy_alloc _ _ none) (by simp)) (by omega) (by omega) (by omega)).mono ?_
      rintro e w2 ⟨v2, rfl, hv2, hg2, hr2⟩
      have hRlt := HR.out.lt
      have hv9 : v2 < 9 := by omega
      obtain ⟨y, hy, u, rfl, hu1, hu2⟩ := lit_at hg2 (by simp; omega) letters_i v2 (by simp; omega)
      obtain ⟨q, rfl⟩ := Int.eq_ofNat_of_zero_le hu1
      obtain ⟨z, hz, s, rfl, hs⟩ := lit_at ((World.grownBy_alloc _ _ _).trans hg2) (by simp; omega) letters_s q (by simp; omega)
      have HG2 := Lib.hid (((HG.out.trans (World.grownBy_alloc _ _ _)).trans (World.grownBy_alloc _ _ _)).trans hg2)
      have HR2 := Lib.hid (hr2.less (k' := k - 7 + (j - 1)) (by omega))
      simp only [World.size_alloc] at hy
      have hxs : (x ++ s).size + (j - 1) ≤ 6 := by simp; omega
      clear hg2 hr2 hv2
      go_wp2
      go_roundw
      case rel => exact ⟨j - 1, x ++ s, by go_num, rfl, hxs, HG2.out, HR2.out⟩
      case measure => simp [intOf]; omega
    · obtain rfl : j = 0 := by omega
      have HG := Lib.hid hg
      have HR := Lib.hid hr
      clear hg hr
      go_wp2
      go_ret
      exact ⟨x, rfl, by omega, HG.out, HR.out.less (by omega)⟩

theorem pattern_a : ∀ x ∈ (#[Value.string ⟨#[97, 92]⟩, .string ⟨#[42, 42, 42, 42]⟩, .string ⟨#[10]⟩, .string ⟨#[42, 97, 42, 98, 42, 99, 42]⟩] : Array Value).toList, Short 12 x := by
  intro x hx
  simp at hx
  rcases hx with rfl | rfl | rfl | rfl <;> exact ⟨_, rfl, by decide⟩
theorem pattern_b : ∀ x ∈ (#[Value.string ⟨#[97]⟩, .string ⟨#[98]⟩, .string ⟨#[42]⟩, .string ⟨#[63]⟩, .string ⟨#[92, 42]⟩, .string ⟨#[92, 92]⟩] : Array Value).toList, Short 2 x := by
  intro x hx
  simp at hx
  rcases hx with rfl | rfl | rfl | rfl | rfl | rfl <;> exact ⟨_, rfl, by decide⟩

set_option maxHeartbeats 1600000 in
theorem pattern_any (w : World) (R k : Nat) (h : Rdr w R k) (hk : 20 ≤ k) :
    Calls Try.prog 28 #[.pointer (some ⟨R, 0, none⟩), .int .i64 9] w (StrPost w R k 8 12) := by
  go_enter Try.func28, Try.ntmps28
  go_wp2_with fail
  refine (odd_any _ _ k _ h (by omega) (by omega) (by omega)).mono ?_
  rintro e w1 ⟨b, rfl, hg1, hr1⟩
  clear h
  cases b
  · go_wp2_with fail
    refine (pick_any _ _ (k - 1) _ hr1 (by omega) (by omega) (by omega)).mono ?_
    rintro e w2 ⟨v, rfl, hv, hg2, hr2⟩
    have hv6 : v ≤ 5 := by omega
    have HG1 := Lib.hid (hg1.trans hg2)
    have HR1 := Lib.hid hr2
    clear hg1 hr1 hg2 hr2 hv
    go_wp2
    go_loopw [5, 6, 7] (fun o t i wr => ∃ (j st : Nat) (x : ByteArray), i = .int .i64 j ∧ t = .int .i64 st ∧ st + j ≤ 5 ∧ o = .string x ∧ x.size + 2 * j ≤ 10 ∧ w.grownBy wr (some R) ∧ Rdr wr R (k - 7 + j)) (fun _ _ i _ => (intOf i).toNat)
    case atStart => exact ⟨v, 0, ⟨#[]⟩, rfl, rfl, by omega, rfl, (by show 0 + 2 * v ≤ 10; omega), HG1.out, HR1.out.less (by omega)⟩
    case round =>
      obtain ⟨j, st, x, rfl, rfl, hst, rfl, hx, hg, hr⟩ := hrel
      by_cases h0 : 0 < j
      · have HG := Lib.hid hg
        have HR := Lib.hid hr
        clear hg hr
        go_wp2_with fail
        refine (pick_any _ _ (k - 7 + j) _ (HR.out.kept (World.grownBy_alloc _ _ none) (by simp)) (by omega) (by omega) (by omega)).mono ?_
        rintro e w3 ⟨v2, rfl, hv2, hg2, hr2⟩
        have hRlt := HR.out.lt
        have hv9 : v2 < 6 := by omega
        obtain ⟨z, hz, s, rfl, hs⟩ := lit_at hg2 (by simp; omega) pattern_b v2 (by simp; omega)
        have HG2 := Lib.hid ((HG.out.trans (World.grownBy_alloc _ _ _)).trans hg2)
        have HR2 := Lib.hid (hr2.less (k' := k - 7 + (j - 1)) (by omega))
        have hxs : (x ++ s).size + 2 * (j - 1) ≤ 10 := by simp; omega
        have hxb : (x ++ ⟨#[98]⟩).size + 2 * (j - 1) ≤ 10 := by
          have : (x ++ ⟨#[98]⟩).size = x.size + 1 := by rw [ByteArray.size_append]; rfl
          omega
        clear hg2 hr2 hv2
        rcases hsb : s.toList == [42] with _ | _
        · go_wp2
          go_roundw
          case rel => exact ⟨j - 1, st, x ++ s, by go_num, rfl, by omega, rfl, hxs, HG2.out, HR2.out⟩
          case measure => simp [intOf]; omega
        · by_cases h3 : 3 < st + 1
          · go_wp2
            go_roundw
            case rel => exact ⟨j - 1, st + 1, x ++ ⟨#[98]⟩, by go_num, by go_num, by omega, rfl, hxb, HG2.out, HR2.out⟩
            case measure => simp [intOf]; omega
          · go_wp2
            go_roundw
            case rel => exact ⟨j - 1, st + 1, x ++ s, by go_num, by go_num, by omega, rfl, hxs, HG2.out, HR2.out⟩
            case measure => simp [intOf]; omega
      · obtain rfl : j = 0 := by omega
        have HG := Lib.hid hg
        have HR := Lib.hid hr
        clear hg hr
        go_wp2
        go_ret
        exact ⟨x, rfl, by omega, HG.out, HR.out.less (by omega)⟩
  · go_wp2_with fail
    refine (pick_any _ _ (k - 1) _ (hr1.kept (World.grownBy_alloc _ _ none) (by simp)) (by omega) (by omega) (by omega)).mono ?_
    rintro e w2 ⟨v, rfl, hv, hg2, hr2⟩
    have hR1 := hr1.lt
    obtain ⟨x, hx, s, rfl, hs⟩ := lit_at hg2 (by simp; omega) pattern_a v (by simp; omega)
    have H := Lib.hid (⟨(hg1.trans (World.grownBy_alloc _ _ _)).trans hg2, hr2.less (by omega)⟩ : w.grownBy w2 (some R) ∧ Rdr w2 R (k - 8))
    clear hg2 hg1 hr1 hr2
    go_wp2
    go_ret
    exact ⟨s, rfl, hs, H.out⟩

def DrawStr (w : World) (m : Nat) (e : Ending) (w' : World) : Prop := ∃ s : ByteArray, e = .returned (.string s) ∧ s.size ≤ m ∧ Below w.heap.size w w'

theorem escB_le (l : List UInt8) : (escB l).length ≤ 2 * l.length := by
  unfold escB
  split
  · exact escT_le l
  · simp

set_option maxHeartbeats 400000 in
theorem draw_EscapeStars (w : World) (a : Option Addr) (n c : Nat) (f : Nat → UInt8) (hb : BytesAt w a n f) (hc : n ≤ c) (hc' : c ≤ 9223372036854775807) :
    Calls Try.prog 17 #[.slice a n c] w (DrawStr w 6) := by
  have HB := Lib.hid hb; clear hb
  go_enter Try.func17, Try.ntmps17
  go_wp2_with fail
  refine (open_any _ _ _ _ _ HB.out hc hc').mono ?_
  rintro e w1 ⟨rfl, hb1, hr1⟩
  have HB1 := Lib.hid hb1
  clear hb1
  go_wp2_with fail
  refine (letters_any _ _ _ hr1 (by omega)).mono ?_
  rintro e w2 ⟨s, rfl, hs, hg2, hr2⟩
  go_wp2_with fail
  refine (pick_any _ _ _ _ (hr2.kept (World.grownBy_alloc _ _ none) (by simp)) (by omega) (by omega) (by omega)).mono ?_
  rintro e w3 ⟨v, rfl, hv, hg3, hr3⟩
  have hRlt := hr2.lt
  have hv8 : v / 8 < 2 := by omega
  have hv9 : v < 9 := by omega
  obtain ⟨z, hz, y, rfl, hy⟩ := lit_at (Q := Short 6) hg3 (by simp; omega) (by intro x hx; simp at hx; rcases hx with rfl | rfl; exact ⟨_, rfl, hs⟩; exact ⟨_, rfl, by decide⟩) (v / 8) (by simp; omega)
  have HB3 := Lib.hid (below_of_grown ((hg2.trans (World.grownBy_alloc _ _ _)).trans hg3) HB1.out.size (by intro q hq; injection hq with hq; omega))
  clear hr1 hg2 hr2 hg3 hr3 HB
  go_wp2
  go_ret
  exact ⟨y, rfl, hy, HB1.out.trans HB3.out⟩

set_option maxHeartbeats 400000 in
theorem draw_StarsPlain (w : World) (a : Option Addr) (n c : Nat) (f : Nat → UInt8) (hb : BytesAt w a n f) (hc : n ≤ c) (hc' : c ≤ 9223372036854775807) :
    Calls Try.prog 15 #[.slice a n c] w (DrawStr w 12) := by
  have HB := Lib.hid hb; clear hb
  go_enter Try.func15, Try.ntmps15
  go_wp2_with fail
  refine (open_any _ _ _ _ _ HB.out hc hc').mono ?_
  rintro e w1 ⟨rfl, hb1, hr1⟩
  have HB1 := Lib.hid hb1
  clear hb1
  go_wp2_with fail
  refine (pick_any _ _ _ _ hr1 (by omega) (by omega) (by omega)).mono ?_
  rintro e w2 ⟨v, rfl, hv, hg2, hr2⟩
  clear hr1 HB
  by_cases h0 : v = 0
  · subst h0
    go_wp2_with fail
    refine (pattern_any _ _ _ hr2 (by omega)).mono ?_
    rintro e w3 ⟨s, rfl, hs, hg3, hr3⟩
    have HB3 := Lib.hid (below_of_grown (hg2.trans hg3) HB1.out.size (by intro q hq; injection hq with hq; omega))
    clear hg2 hr2 hg3 hr3
    go_wp2
    go_ret
    exact ⟨s, rfl, hs, HB1.out.trans HB3.out⟩
  · have hv0 : ((v : Int) == 0) = false := by simp; omega
    go_wp2_with fail
    refine (letters_any _ _ _ hr2 (by omega)).mono ?_
    rintro e w3 ⟨s, rfl, hs, hg3, hr3⟩
    have HB3 := Lib.hid (below_of_grown (hg2.trans hg3) HB1.out.size (by intro q hq; injection hq with hq; omega))
    clear hg2 hr2 hg3 hr3
    go_wp2_with fail
    refine (spec_EscapeStars s _ (by omega)).mono ?_
    rintro e w4 ⟨rfl, rfl⟩
    go_wp2
    go_ret
    exact ⟨_, rfl, by have := escB_le (bl s); rw [mkS_size]; rw [bl_len] at this; omega, HB1.out.trans HB3.out⟩
end Go.Proofs.Ytlilmphbjmjpdaa

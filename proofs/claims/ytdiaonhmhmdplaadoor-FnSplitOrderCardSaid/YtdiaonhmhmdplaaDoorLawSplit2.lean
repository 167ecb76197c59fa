/- The walk of the law FnSplitOrder. -/
import Derived.Test.YtdiaonhmhmdplaaDoorOrdQ
namespace Go.Proofs.YtdiaonhmhmdplaaDoor
open Go.RowKit

theorem sep3_lits : ∀ x ∈ (#[Value.string ⟨#[32]⟩, .string ⟨#[32, 32]⟩, .string ⟨#[]⟩] : Array Value).toList, Short 2 x := by
  intro x hx
  simp only [List.mem_cons, List.not_mem_nil, or_false] at hx
  rcases hx with rfl | rfl | rfl <;> exact ⟨_, rfl, by decide⟩
theorem bad8_lits : ∀ x ∈ (#[Value.string ⟨#[97, 59, 98]⟩, .string ⟨#[39, 97]⟩, .string ⟨#[97, 32, 36, 120]⟩, .string ⟨#[34, 36, 120, 34]⟩, .string ⟨#[97, 92, 98]⟩, .string ⟨#[97, 62, 98]⟩, .string ⟨#[97, 9, 98]⟩, .string ⟨#[34, 97, 32, 98, 34, 99]⟩] : Array Value).toList, Short 8 x := by
  intro x hx
  simp only [List.mem_cons, List.not_mem_nil, or_false] at hx
  rcases hx with rfl | rfl | rfl | rfl | rfl | rfl | rfl | rfl <;> exact ⟨_, rfl, by decide⟩
def DrawStrO (w : World) (m : Nat) (e : Ending) (w' : World) : Prop :=
  ∃ s : ByteArray, e = .returned (.string s) ∧ s.size ≤ m ∧ Below w.heap.size w w'

set_option maxRecDepth 100000 in
set_option maxHeartbeats 1600000 in
theorem draw_SplitOrder (w : World) (a : Option Addr) (n c : Nat) (f : Nat → UInt8) (hb : BytesAt w a n f) (hc : n ≤ c) (hc' : c ≤ 9223372036854775807) :
    Calls Tryd.prog 4 #[.slice a n c] w (DrawStrO w 400) := by
  have HB := Lib.hid hb; clear hb
  go_enter Tryd.func4, Tryd.ntmps4
  go_wp2_with fail
  refine (open_any _ _ _ _ _ HB.out hc hc').mono ?_
  rintro e w1 ⟨rfl, hb1, hr1⟩
  have hR1 := hr1.lt
  have HB1 := Lib.hid hb1
  clear hb1 HB
  go_wp2_with fail
  refine (pick_any _ _ _ _ hr1 (by omega) (by omega) (by omega)).mono ?_
  rintro e w2 ⟨v, rfl, hv, hg2, hr2⟩
  have hv6 : v < 6 := by omega
  have HB2 := Lib.hid (HB1.out.trans (below_R hg2 HB1.out.size (Nat.le_refl _)))
  have HR2 := Lib.hid (hr2.less (k' := 1000 + 40 * v) (by omega))
  clear hg2 hr2 hr1 hv
  go_wp2
  go_loopw [4, 5] (fun o t wr => ∃ (j : Nat) (x : ByteArray), t = .int .i64 (j : Int) ∧ o = .string x ∧ j ≤ 5 ∧ x.size + 70 * j ≤ 350 ∧ Below w.heap.size w wr ∧ Rdr wr w.heap.size (1000 + 40 * j)) (fun _ t _ => (intOf t).toNat)
  case atStart => exact ⟨v, ⟨#[]⟩, rfl, rfl, by omega, by show 0 + 70 * v ≤ 350; omega, HB2.out, HR2.out⟩
  case round =>
    obtain ⟨j, x, rfl, rfl, hj, hx, hb, hr⟩ := hrel
    have B := Lib.hid hb
    have R := Lib.hid hr
    have hwr := hb.size
    clear hb hr
    by_cases h0 : 0 < j
    · go_wp2_with fail
      refine (word_any _ _ (1000 + 40 * j) _ R.out (by omega) (by omega) (by omega)).mono ?_
      rintro e w4 ⟨s, rfl, hs, hg4, hr4⟩
      have B4 := Lib.hid (B.out.trans (below_R hg4 B.out.size (Nat.le_refl _)))
      have R4 := Lib.hid hr4
      have hq := qwR_len2 (bl s)
      rw [bl_len, ← mkS_size] at hq
      have hw4 := B4.out.size
      clear hg4 hr4
      go_wp2_with fail
      refine (spec_QuoteWord s _ (by omega)).mono ?_
      rintro e w5 ⟨rfl, rfl⟩
      obtain ⟨z, hz⟩ : ∃ z, z = mkS (qwR (bl s)) := ⟨_, rfl⟩
      rw [← hz] at hq ⊢
      clear hz
      go_wp2_with fail
      refine (pick_any _ _ _ _ (R4.out.alloc_ _) (by omega) (by omega) (by omega)).mono ?_
      rintro e w6 ⟨v6, rfl, hv6, hg6, hr6⟩
      have hv3 : v6 < 3 := by omega
      have hR4 := R4.out.lt
      obtain ⟨y', hy, y, rfl, hys⟩ := lit_at hg6 (by intro e; injection e with e; omega) sep3_lits v6 (by simpa using hv3)
      have B6 := Lib.hid ((B4.out.alloc B4.out.size _).grown hg6 (by simp only [World.size_alloc]; omega) (by intro q hq; injection hq with hq; omega))
      have R6 := Lib.hid (hr6.less (k' := 1000 + 40 * (j - 1)) (by omega))
      clear hg6 hr6 hv6
      have hsz : (x ++ z ++ y).size + 70 * (j - 1) ≤ 350 := by rw [ByteArray.size_append, ByteArray.size_append]; omega
      have HSZ := Lib.hid hsz
      clear hsz
      go_wp2
      go_roundw
      case rel => exact ⟨j - 1, _, by go_num, rfl, by omega, HSZ.out, B6.out, R6.out⟩
      case measure => simp [intOf]; omega
    · obtain rfl : j = 0 := by omega
      go_wp2_with fail
      refine (odd_any _ _ _ _ R.out (by omega) (by omega) (by omega)).mono ?_
      rintro e w4 ⟨b, rfl, hg4, hr4⟩
      have B4 := Lib.hid (B.out.trans (below_R hg4 B.out.size (Nat.le_refl _)))
      have R4 := Lib.hid hr4
      have hw4 := B4.out.size
      have hR4 := R4.out.lt
      clear hg4 hr4
      cases b
      · go_wp2
        go_ret
        exact ⟨x, rfl, by omega, B4.out⟩
      · go_wp2_with fail
        refine (pick_any _ _ _ _ (R4.out.alloc_ _) (by omega) (by omega) (by omega)).mono ?_
        rintro e w6 ⟨v6, rfl, hv6, hg6, hr6⟩
        have hv8 : v6 < 8 := by omega
        obtain ⟨y', hy, y, rfl, hys⟩ := lit_at hg6 (by intro e; injection e with e; omega) bad8_lits v6 (by simpa using hv8)
        have B6 := Lib.hid ((B4.out.alloc B4.out.size _).grown hg6 (by simp only [World.size_alloc]; omega) (by intro q hq; injection hq with hq; omega))
        clear hg6 hr6 hv6
        have hsz : (x ++ y).size ≤ 400 := by rw [ByteArray.size_append]; omega
        have HSZ := Lib.hid hsz
        clear hsz
        go_wp2
        go_ret
        exact ⟨_, rfl, HSZ.out, B6.out⟩

set_option maxRecDepth 100000 in
set_option maxHeartbeats 1600000 in
theorem walk_FnSplitOrder (a : Option Addr) (n c : Nat) (z : List Int) (w : World) (hrow : IsRow .u8 w a n c z) (hm : MaxOk w) :
    Calls Tryd.prog 3 #[.slice a n c] w fun e w' => e = .returned (.bool true) ∧ Below w.heap.size w w' := by
  have hcap := hrow.caps
  have hby := Lib.hid hrow.bytes
  have HM := Lib.hid hm
  clear hrow hm
  by_cases hn : 1048576 < n
  · go_enter Tryd.func3, Tryd.ntmps3
    go_wp2
    go_ret
    exact ⟨rfl, Below.refl _ _⟩
  · go_enter Tryd.func3, Tryd.ntmps3
    go_wp2_with fail
    refine (draw_SplitOrder _ _ _ _ _ hby.out hcap.1 hcap.2).mono ?_
    rintro e w1 ⟨s, rfl, hs, b1⟩
    have B1 := Lib.hid b1
    have HM1 := Lib.hid (HM.out.below b1)
    clear b1 hby hcap hn HM
    have CS : Hid (∀ W, Calls Tryd.prog 6 #[.string s] W (StrsOk W (splitR (bl s)))) := fun W => spec_SplitOrder s W (by omega)
    have CI : Hid (∀ W, Calls Tryd.prog 5 #[.string s] W (StrsOk W (splitR (bl s)))) := fun W => impl_SplitOrder s W (by omega)
    have hsp : (splitR (bl s)).2 = true → ∀ W, Calls Tryd.prog 5 #[.string (⟨#[32, 32]⟩ ++ s ++ ⟨#[32]⟩)] W (StrsOk W (splitR (bl s))) := fun h W => by
      have h1 := impl_SplitOrder (⟨#[32, 32]⟩ ++ s ++ ⟨#[32]⟩) W (by rw [ByteArray.size_append, ByteArray.size_append]; show 2 + s.size + 1 ≤ _; omega)
      have e : bl (⟨#[32, 32]⟩ ++ s ++ ⟨#[32]⟩) = 32 :: 32 :: (bl s ++ [32]) := by rw [bl_app, bl_app]; rfl
      rw [e, splitR_spaces h] at h1
      exact h1
    have HSP := Lib.hid hsp
    have HAG := Lib.hid (split_again (l := bl s) (by rw [bl_len]; omega))
    have hno := Lib.hid (splitR_nil (l := bl s))
    have hle := splitR_len (bl s)
    clear hsp
    generalize splitR (bl s) = r at *
    obtain ⟨X, ok⟩ := r
    go_wp2_with fail
    refine (CI.out _).mono ?_
    rintro e w2 ⟨v2, rfl, o2, b2⟩
    obtain ⟨a2, c2, rfl, _, k2, k2', _⟩ := own_formn o2
    have B2 := Lib.hid (B1.out.trans (b2.mono B1.out.size))
    have HM2 := Lib.hid (HM1.out.below b2)
    have O2 := Lib.hid o2
    clear o2 b2 CI HM1
    go_wp2_with fail
    refine (CS.out _).mono ?_
    rintro e w3 ⟨v3, rfl, o3, b3⟩
    obtain ⟨a3, c3, rfl, _, k3, k3', _⟩ := own_formn o3
    have B3 := Lib.hid (B2.out.trans (b3.mono B2.out.size))
    have O23 := Lib.hid (own_below O2.out b3)
    have HM3 := Lib.hid (HM2.out.below b3)
    have O3 := Lib.hid o3
    clear o3 b3 CS O2 HM2
    have CM : Hid (∀ W x dx y dy, RowAt W x (X.map strV) → RowAt W y (X.map strV) → Calls Tryd.prog 7 #[.slice x X.length dx, .slice y X.length dy] W fun e w' => e = .returned (.bool true) ∧ Below W.heap.size W w') := fun W x dx y dy h1 h2 => by
      have := sameTexts_any x y X.length X.length dx dy X X W h1 h2 rfl rfl (by omega)
      simpa only [decide_true] using this
    go_wp2_with fail
    refine (CM.out _ _ _ _ _ (own_formn_row O23.out) (own_formn_row O3.out)).mono ?_
    rintro e w4 ⟨rfl, b4⟩
    have O24 := Lib.hid (own_below O23.out b4)
    have B4 := Lib.hid (B3.out.trans (b4.mono B3.out.size))
    have HM4 := Lib.hid (HM3.out.below b4)
    clear b4 O23 O3 HM3
    cases ok
    · obtain rfl : X = [] := hno.out rfl
      go_wp2_with (go_at_call 8; refine (alive_any _).mono ?_; rintro e w5 ⟨rfl, b5⟩)
      go_ret
      exact ⟨rfl, B4.out.trans (b5.mono B4.out.size)⟩
    · obtain ⟨h8, h600, hag⟩ := HAG.out rfl
      have HS6 : Hid (∀ s ∈ X, s.size ≤ 1048576) := fun s hs => by have := h600 s hs; omega
      have CSP := Lib.hid (HSP.out rfl)
      have CO : Hid (∀ W, RowAt W a2 (X.map strV) → MaxOk W → Calls Tryd.prog 9 #[.slice a2 X.length c2] W fun e w' => e = .returned (.string (ordR X)) ∧ Below W.heap.size W w') := fun W h hm => impl_OrderText a2 X.length c2 X W h rfl (by omega) HS6.out hm
      have hrs : (ordR X).size ≤ 25000 := by
        unfold ordR
        split
        · rename_i hc
          rw [joinS, mkS_size]; exact join_ord X hc.2.1
        · exact Nat.zero_le _
      have CP : Hid (∀ W, Calls Tryd.prog 5 #[.string (ordR X)] W (StrsOk W (X, true))) := fun W => by
        have h := impl_SplitOrder (ordR X) W (by omega)
        rwa [hag] at h
      clear hag h600 HSP HAG hno
      generalize ordR X = y at *
      go_wp2_with fail
      refine (CSP.out _).mono ?_
      rintro e w5 ⟨v5, rfl, o5, b5⟩
      obtain ⟨a5, c5, rfl, _, k5, k5', _⟩ := own_formn o5
      have B5 := Lib.hid (B4.out.trans (b5.mono B4.out.size))
      have O25 := Lib.hid (own_below O24.out b5)
      have HM5 := Lib.hid (HM4.out.below b5)
      have O5 := Lib.hid o5
      clear o5 b5 CSP O24 HM4
      go_wp2_with fail
      refine (CO.out _ (own_formn_row O25.out) HM5.out).mono ?_
      rintro e w6 ⟨rfl, b6⟩
      have B6 := Lib.hid (B5.out.trans (b6.mono B5.out.size))
      have O26 := Lib.hid (own_below O25.out b6)
      have O56 := Lib.hid (own_below O5.out b6)
      clear b6 CO O25 O5 HM5
      go_wp2_with fail
      refine (CP.out _).mono ?_
      rintro e w7 ⟨v7, rfl, o7, b7⟩
      obtain ⟨a7, c7, rfl, _, k7, k7', _⟩ := own_formn o7
      have B7 := Lib.hid (B6.out.trans (b7.mono B6.out.size))
      have O27 := Lib.hid (own_below O26.out b7)
      have O57 := Lib.hid (own_below O56.out b7)
      have O7 := Lib.hid o7
      clear o7 b7 CP O26 O56
      go_wp2_with fail
      refine (CM.out _ _ _ _ _ (own_formn_row O57.out) (own_formn_row O27.out)).mono ?_
      rintro e w8 ⟨rfl, b8⟩
      have B8 := Lib.hid (B7.out.trans (b8.mono B7.out.size))
      have O28 := Lib.hid (own_below O27.out b8)
      have O78 := Lib.hid (own_below O7.out b8)
      clear b8 O27 O57 O7
      go_wp2_with fail
      refine (CM.out _ _ _ _ _ (own_formn_row O78.out) (own_formn_row O28.out)).mono ?_
      rintro e w9 ⟨rfl, b9⟩
      go_wp2
      go_ret
      exact ⟨rfl, B8.out.trans (b9.mono B8.out.size)⟩
end Go.Proofs.YtdiaonhmhmdplaaDoor

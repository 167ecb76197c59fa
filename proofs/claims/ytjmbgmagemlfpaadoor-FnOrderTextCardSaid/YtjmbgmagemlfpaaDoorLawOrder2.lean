/- The walk of the law FnOrderText. -/
import Derived.Test.YtjmbgmagemlfpaaDoorOrder
import Derived.Test.YtjmbgmagemlfpaaDoorOrdP
import Derived.Test.YtjmbgmagemlfpaaDoorWord1
import Derived.Test.YtjmbgmagemlfpaaDoorDrawS
import Derived.Test.YtjmbgmagemlfpaaDoorAlive
import Derived.Laws.OwnMore
namespace Go.Proofs.YtjmbgmagemlfpaaDoor
open Go.RowKit

theorem made_strs (n : Nat) : (madeCells (Value.string ⟨#[]⟩).cells (n * 1)).toList = (List.replicate n (⟨#[]⟩ : ByteArray)).map strV := by
  rw [Nat.mul_one, List.map_replicate]
  exact toList_madeCells_one _ n
def DrawTexts (w : World) (m k : Nat) (e : Ending) (w' : World) : Prop :=
  ∃ (v : Value) (T : List ByteArray), e = .returned v ∧ T.length ≤ m ∧ (∀ s ∈ T, s.size ≤ k) ∧ w'.ownsRow w.heap.size 9 1 v T.length (T.map strV) ∧ Below w.heap.size w w'

set_option maxRecDepth 100000 in
set_option maxHeartbeats 800000 in
theorem draw_OrderText (w : World) (a : Option Addr) (n c : Nat) (f : Nat → UInt8) (hb : BytesAt w a n f) (hc : n ≤ c) (hc' : c ≤ 9223372036854775807) :
    Calls Tryd.prog 20 #[.slice a n c] w (DrawTexts w 9 12) := by
  have HB := Lib.hid hb; clear hb
  go_enter Tryd.func20, Tryd.ntmps20
  go_wp2_with fail
  refine (open_any _ _ _ _ _ HB.out hc hc').mono ?_
  rintro e w1 ⟨rfl, hb1, hr1⟩
  have hR1 := hr1.lt
  have HB1 := Lib.hid hb1
  clear hb1 HB
  go_wp2_with fail
  refine (pick_any _ _ _ _ (hr1.alloc_ _) (by omega) (by omega) (by omega)).mono ?_
  rintro e w2 ⟨v, rfl, hv, hg2, hr2⟩
  have hv6 : v < 6 := by omega
  have O0 := Lib.hid (own_R (own_new w1 #[] 9 0 rfl (by omega)) hg2 hR1)
  have HB2 := Lib.hid ((HB1.out.alloc HB1.out.size _).grown hg2 (by have := HB1.out.size; simp only [World.size_alloc]; omega) (by intro q hq; injection hq with hq; omega))
  have HR2 := Lib.hid (hr2.less (k' := 1000 + 20 * v) (by omega))
  have hw2 := hg2.size
  clear hg2 hr2 hr1 hv
  go_wp2
  go_loopw [4, 5] (fun o t wr => ∃ (j nn : Nat) (T : List ByteArray), t = .int .i64 (j : Int) ∧ Hid (nn = T.length) ∧ nn + j ≤ 5 ∧ Hid (∀ s ∈ T, s.size ≤ 12) ∧ wr.ownsRow w1.heap.size 9 1 o nn (T.map strV) ∧ Below w.heap.size w wr ∧ Rdr wr w.heap.size (1000 + 20 * j) ∧ w1.heap.size ≤ wr.heap.size) (fun _ t _ => (intOf t).toNat)
  case atStart => exact ⟨v, 0, [], rfl, rfl, by omega, (by intro s hs; cases hs), O0.out, HB2.out, HR2.out, by simp only [World.size_alloc] at hw2; omega⟩
  case round =>
    clear hw2
    obtain ⟨j, nn, T, rfl, HN, hj, HT, own, hb, hr, hws⟩ := hrel
    have O := Lib.hid own
    have B := Lib.hid hb
    have R := Lib.hid hr
    clear own hb hr
    by_cases h0 : 0 < j
    · go_wp2_with fail
      refine (word_any _ _ (1000 + 20 * j) _ R.out (by omega) (by omega) (by omega)).mono ?_
      rintro e w4 ⟨s, rfl, hs, hg4, hr4⟩
      have O4 := Lib.hid (own_R O.out hg4 hR1)
      have B4 := Lib.hid (B.out.trans (below_R hg4 B.out.size (Nat.le_refl _)))
      have R4 := Lib.hid (hr4.less (k' := 1000 + 20 * (j - 1)) (by omega))
      have hw4 := hg4.size
      have HT2 : Hid (∀ x ∈ T ++ [s], x.size ≤ 12) := by
        intro x hx
        rcases List.mem_append.1 hx with hx | hx
        · exact HT.out x hx
        · rw [List.mem_singleton] at hx; subst hx; exact hs
      have HN2 : Hid (nn + 1 = (T ++ [s]).length) := by show _ = _; rw [List.length_append, HN.out]; rfl
      clear hg4 hr4
      go_wp2_with (at_builtin; refine wpList_pushS (.tmp 15) (.tmp 18) w1.heap.size s _ nn _ O4.out (by omega) (by omega) rfl (by rfl) (by rfl) _ rfl (by rfl) ?_; intro v5 w5 o5 b5; have O5 := Lib.hid o5; have B5 := Lib.hid (B4.out.trans (b5.mono (by have := HB1.out.size; omega))); have R5 := Lib.hid (R4.out.below b5 hR1); have hw5 := b5.size; clear o5 b5)
      go_roundw
      case rel => exact ⟨j - 1, nn + 1, T ++ [s], by go_num, HN2, by omega, HT2, O5.out, B5.out, R5.out, by omega⟩
      case measure => simp [intOf]; omega
    · obtain rfl : j = 0 := by omega
      go_wp2_with fail
      refine (odd_any _ _ _ _ R.out (by omega) (by omega) (by omega)).mono ?_
      rintro e w4 ⟨b, rfl, hg4, hr4⟩
      have O4 := Lib.hid (own_R O.out hg4 hR1)
      have B4 := Lib.hid (B.out.trans (below_R hg4 B.out.size (Nat.le_refl _)))
      clear hg4 hr4
      cases b
      · go_wp2
        go_ret
        refine ⟨_, T, rfl, by have := HN.out; omega, HT.out, ?_, B4.out⟩
        have h := own_mono O4.out HB1.out.size
        rwa [HN.out] at h
      · obtain ⟨i0, hi, hz0, hz1, hz2⟩ := info_parts info_str
        go_wp2_with (at_make; refine wpList_make_full _ rfl _ _ _ rfl w4.heap.size 9 i0 _ 1 Tryd.underlying24 hi hz0 hz1 .i64 .i64 9 9 9 rfl rfl rfl rfl (by rw [hz2]; omega) (by simp only [maxLen]; omega) (Nat.le_refl _) ?_; intro w5 hown hgrow)
        rw [made_strs] at hown
        go_ret
        exact ⟨_, List.replicate 9 ⟨#[]⟩, rfl, Nat.le_refl _, (by intro s hs; rw [List.eq_of_mem_replicate hs]; exact Nat.zero_le _), own_mono hown B4.out.size, B4.out.grown hgrow B4.out.size (by intro q hq; cases hq)⟩

theorem empty_no {s : ByteArray} (h : ¬ s = ⟨#[]⟩) : s.toList.isEmpty = false := by
  rw [ByteArray.toList_eq]
  rcases hb : s.data.toList.isEmpty with _ | _
  · rfl
  · rw [List.isEmpty_iff] at hb
    exact absurd (bl_inj (a := s) (b := ⟨#[]⟩) hb) h
theorem ord_back {T : List ByteArray} (h : ¬ ordR T = ⟨#[]⟩) : splitR (bl (ordR T)) = (T, true) := by
  unfold ordR at h ⊢
  split at h
  · rename_i hc
    rw [if_pos hc, joinS, bl_mkS]
    have e : (qwS T).map bl = (T.map bl).map qwR := by
      rw [qwS, List.map_map, List.map_map]
      apply List.map_congr_left
      intro t _
      exact bl_mkS _
    rw [e]
    obtain ⟨d', c, h1, h2⟩ := order_split (T.map bl) [] (by intro e; have := congrArg List.length e; simp at this; rw [this] at hc; exact absurd hc.1 (by simp)) (by
      have := hc.2.2
      rw [okT, List.all_eq_true] at this
      rw [List.all_eq_true]
      intro x hx
      obtain ⟨t, ht, rfl⟩ := List.mem_map.1 hx
      exact this t ht)
    rw [List.nil_append] at h2
    rw [splitR_yes h1 (by
      show ¬ ((0 : UInt8) ≠ 0 ∨ 8 < (d' ++ [c]).length)
      rw [h2, List.length_map]
      rintro (h | h)
      · exact h rfl
      · omega)]
    show ((d' ++ [c]).map mkS, true) = _
    rw [h2, List.map_map]
    congr 1
    conv => rhs; rw [← List.map_id T]
    exact List.map_congr_left fun t _ => mkS_bl t
  · exact absurd rfl h

set_option maxRecDepth 100000 in
set_option maxHeartbeats 800000 in
theorem walk_FnOrderText (a : Option Addr) (n c : Nat) (z : List Int) (w : World) (hrow : IsRow .u8 w a n c z) (hm : MaxOk w) :
    Calls Tryd.prog 6 #[.slice a n c] w fun e w' => e = .returned (.bool true) ∧ Below w.heap.size w w' := by
  have hcap := hrow.caps
  have hby := Lib.hid hrow.bytes
  have HM := Lib.hid hm
  clear hrow hm
  by_cases hn : 1048576 < n
  · go_enter Tryd.func6, Tryd.ntmps6
    go_wp2
    go_ret
    exact ⟨rfl, Below.refl _ _⟩
  · go_enter Tryd.func6, Tryd.ntmps6
    go_wp2_with fail
    refine (draw_OrderText _ _ _ _ _ hby.out hcap.1 hcap.2).mono ?_
    rintro e w1 ⟨v1, T, rfl, hT9, hT, o1, b1⟩
    obtain ⟨x1, d1, rfl, _, k1a, k1b, _⟩ := own_formn o1
    have B1 := Lib.hid b1
    have O1 := Lib.hid o1
    have HM1 := Lib.hid (HM.out.below b1)
    have HT : Hid (∀ s ∈ T, s.size ≤ 1048576) := fun s hs => by have := hT s hs; omega
    clear b1 o1 hby hcap hn HM hT
    have hrs : (ordR T).size ≤ 25000 := by
      unfold ordR
      split
      · rename_i hc
        rw [joinS, mkS_size]; exact join_ord T hc.2.1
      · exact Nat.zero_le _
    have CSp : Hid (∀ W, RowAt W x1 (T.map strV) → Calls Tryd.prog 11 #[.slice x1 T.length d1] W fun e w' => e = .returned (.string (ordR T)) ∧ Below W.heap.size W w') := fun W h => spec_OrderText x1 T.length d1 T W h rfl (by omega) HT.out
    have CIp : Hid (∀ W, RowAt W x1 (T.map strV) → MaxOk W → Calls Tryd.prog 13 #[.slice x1 T.length d1] W fun e w' => e = .returned (.string (ordR T)) ∧ Below W.heap.size W w') := fun W h hm => impl_OrderText x1 T.length d1 T W h rfl (by omega) HT.out hm
    have CP : Hid (∀ W, Calls Tryd.prog 18 #[.string (ordR T)] W (StrsOk W (splitR (bl (ordR T))))) := fun W => impl_SplitOrder (ordR T) W (by omega)
    have CM : Hid (∀ W y dy, RowAt W y (T.map strV) → RowAt W x1 (T.map strV) → Calls Tryd.prog 19 #[.slice y T.length dy, .slice x1 T.length d1] W fun e w' => e = .returned (.bool true) ∧ Below W.heap.size W w') := fun W y dy h1 h2 => by
      have := sameTexts_any y x1 T.length T.length dy d1 T T W h1 h2 rfl rfl (by omega)
      simpa only [decide_true] using this
    have HBK := Lib.hid (ord_back (T := T))
    by_cases hr : ordR T = ⟨#[]⟩
    · rw [hr] at CSp CIp
      clear hr HBK CP CM hrs
      go_wp2_with fail
      refine (CIp.out _ (own_formn_row O1.out) HM1.out).mono ?_
      rintro e w2 ⟨rfl, b2⟩
      have O2 := Lib.hid (own_below O1.out b2)
      have B2 := Lib.hid (B1.out.trans (b2.mono B1.out.size))
      clear b2
      go_wp2_with fail
      refine (CSp.out _ (own_formn_row O2.out)).mono ?_
      rintro e w3 ⟨rfl, b3⟩
      have B3 := Lib.hid (B2.out.trans (b3.mono B2.out.size))
      clear b3
      go_wp2_with (go_at_call 17; refine (alive_any _).mono ?_; rintro e w5 ⟨rfl, b5⟩)
      go_ret
      exact ⟨rfl, B3.out.trans (b5.mono B3.out.size)⟩
    · have he := empty_no hr
      have hbk := HBK.out hr
      rw [hbk] at CP
      clear hr HBK hbk
      obtain ⟨nT, hnT⟩ : ∃ nT, nT = T.length := ⟨_, rfl⟩
      generalize ordR T = r at *
      go_wp2_with fail
      refine (CIp.out _ (own_formn_row O1.out) HM1.out).mono ?_
      rintro e w2 ⟨rfl, b2⟩
      have O2 := Lib.hid (own_below O1.out b2)
      have B2 := Lib.hid (B1.out.trans (b2.mono B1.out.size))
      clear b2
      go_wp2_with fail
      refine (CSp.out _ (own_formn_row O2.out)).mono ?_
      rintro e w3 ⟨rfl, b3⟩
      have O3 := Lib.hid (own_below O2.out b3)
      have B3 := Lib.hid (B2.out.trans (b3.mono B2.out.size))
      clear b3
      go_wp2_with fail
      refine (CP.out _).mono ?_
      rintro e w4 ⟨v4, rfl, o4, b4⟩
      obtain ⟨x4, d4, rfl, _, k4, k4', _⟩ := own_formn o4
      have O34 := Lib.hid (own_below O3.out b4)
      have B4 := Lib.hid (B3.out.trans (b4.mono B3.out.size))
      have O4 := Lib.hid o4
      clear o4 b4
      go_wp2_with fail
      refine (CM.out _ _ _ (own_formn_row O4.out) (own_formn_row O34.out)).mono ?_
      rintro e w5 ⟨rfl, b5⟩
      go_wp2
      go_ret
      exact ⟨rfl, B4.out.trans (b5.mono B4.out.size)⟩
end Go.Proofs.YtjmbgmagemlfpaaDoor

/- The law FnSetText. -/
import Derived.Test.YtmpidoenboffcaaSetDraw
import Derived.Test.YtmpidoenboffcaaSetText
namespace Go.Proofs.Ytmpidoenboffcaa
open Go.RowKit

theorem rep_len (b : UInt8) (j : Nat) : (Lib.repeatL [b] j).length = j := by
  have := padT_length b true [] j
  simpa [padT] using this
theorem set_left (T s : ByteArray) (b : UInt8) (j : Nat) (h : bl T = padT b true (bl s) j) : T.extract 0 s.size = s := by
  apply bl_inj
  rw [bl_ext, h, padT, if_pos rfl, List.drop_zero, ← bl_len, List.take_left]
theorem set_right (T s : ByteArray) (b : UInt8) (j : Nat) (h : bl T = padT b false (bl s) j) (hj : T.size = s.size + j) : T.extract (T.size - s.size) T.size = s := by
  apply bl_inj
  rw [bl_ext, bl_all, h, padT, if_neg (by simp), show T.size - s.size = (Lib.repeatL [b] j).length by rw [rep_len]; omega, List.drop_left]

set_option maxRecDepth 100000 in
set_option maxHeartbeats 800000 in
theorem walk_FnSetText (a : Option Addr) (n c : Nat) (z : List Int) (w : World) (hrow : IsRow .u8 w a n c z) :
    Calls Try.prog 6 #[.slice a n c] w fun e w' => e = .returned (.bool true) ∧ Below w.heap.size w w' := by
  have hcap := hrow.caps
  have hby := Lib.hid hrow.bytes
  clear hrow
  by_cases hn : 1048576 < n
  · go_enter Try.func6, Try.ntmps6
    go_wp2
    go_ret
    exact ⟨rfl, Below.refl _ _⟩
  · go_enter Try.func6, Try.ntmps6
    go_wp2_with fail
    refine (draw_SetText _ _ _ _ _ hby.out hcap.1 hcap.2).mono ?_
    rintro e w1 ⟨W, b, L, s, rfl, hW, hV, hs, b1⟩
    have B1 := Lib.hid b1
    clear b1 hby hcap hn
    obtain ⟨T, hT⟩ : ∃ T, T = mkS (setB W b L (bl s)) := ⟨_, rfl⟩
    have CI : Hid (∀ W', Calls Try.prog 15 #[.agg #[.int .i64 W, .int .u8 (b.toNat : Int), .bool L], .string s] W' fun e w' => e = .returned (.string T) ∧ Below W'.heap.size W' w') := fun W' => by rw [hT]; exact impl_SetText _ _ _ _ W' (by omega)
    have CS : Hid (∀ W', Calls Try.prog 14 #[.agg #[.int .i64 W, .int .u8 (b.toNat : Int), .bool L], .string s] W' fun e w' => e = .returned (.string T) ∧ Below W'.heap.size W' w') := fun W' => by rw [hT]; exact spec_SetText _ _ _ _ W' (by omega)
    have CV : Hid (∀ W', Calls Try.prog 11 #[.agg #[.int .i64 W, .int .u8 (b.toNat : Int), .bool L]] W' fun e w' => e = .returned (.bool (shB W (b.toNat : Int))) ∧ Below W'.heap.size W' w') := fun W' => impl_ShapeValid _ _ _ W'
    have CT : Hid (∀ W', Calls Try.prog 17 #[.string s] W' fun e w' => e = .returned (.bool (textB (bl s))) ∧ W' = w') := fun W' => impl_TextValid s W' (by omega)
    have hwide := @shB_wide W (b.toNat : Int)
    have hbad : shB W (b.toNat : Int) = false ∨ textB (bl s) = false → T = ⟨#[]⟩ := by
      rintro (h | h)
      · rw [hT, setB_no h]; rfl
      · rw [hT, setB_bad h]; rfl
    have hyes : shB W (b.toNat : Int) = true → textB (bl s) = true → bl T = padT b L (bl s) (W - (s.size : Int)).toNat := fun h h' => by
      rw [hT, setB_yes h h', bl_mkS, bl_len]
    have HB := Lib.hid hbad; have HY := Lib.hid hyes; have HWD := Lib.hid hwide
    clear hbad hyes hT hwide
    generalize shB W (b.toNat : Int) = g at *
    generalize textB (bl s) = t at *
    go_wp2_with fail
    refine (CI.out _).mono ?_
    rintro e w2 ⟨rfl, b2⟩
    have B2 := Lib.hid b2
    clear b2
    have c0 : w2.cell? ⟨w1.heap.size, 0, none⟩ = some (.int .i64 W) := new_kept B2.out 0
    have c1 : w2.cell? ⟨w1.heap.size, 1, none⟩ = some (.int .u8 (b.toNat : Int)) := new_kept B2.out 1
    have c2 : w2.cell? ⟨w1.heap.size, 2, none⟩ = some (.bool L) := new_kept B2.out 2
    go_wp2_with fail
    refine (CS.out _).mono ?_
    rintro e w3 ⟨rfl, b3⟩
    have B3 := Lib.hid (B2.out.trans (b3.mono B2.out.size))
    clear b3 c0 c1 c2
    have c0 : w3.cell? ⟨w1.heap.size, 0, none⟩ = some (.int .i64 W) := new_kept B3.out 0
    have c1 : w3.cell? ⟨w1.heap.size, 1, none⟩ = some (.int .u8 (b.toNat : Int)) := new_kept B3.out 1
    have c2 : w3.cell? ⟨w1.heap.size, 2, none⟩ = some (.bool L) := new_kept B3.out 2
    go_wp2_with fail
    refine (CV.out _).mono ?_
    rintro e w4 ⟨rfl, b4⟩
    have B4 := Lib.hid (B3.out.trans (b4.mono B3.out.size))
    clear b4 c0 c1 c2
    have c0 : w4.cell? ⟨w1.heap.size, 0, none⟩ = some (.int .i64 W) := new_kept B4.out 0
    have c2 : w4.cell? ⟨w1.heap.size, 2, none⟩ = some (.bool L) := new_kept B4.out 2
    cases g
    · obtain rfl := HB.out (.inl rfl)
      go_wp2_with (go_at_call 13; refine (alive_any _).mono ?_; rintro e w5 ⟨rfl, b5⟩)
      go_ret
      exact ⟨rfl, B1.out.trans ((new_below (B4.out.trans (b5.mono B4.out.size))).mono B1.out.size)⟩
    · go_wp2_with fail
      refine (CT.out _).mono ?_
      rintro e w5 ⟨rfl, rfl⟩
      cases t
      · obtain rfl := HB.out (.inr rfl)
        go_wp2_with (go_at_call 13; refine (alive_any _).mono ?_; rintro e w5 ⟨rfl, b5⟩)
        go_ret
        exact ⟨rfl, B1.out.trans ((new_below (B4.out.trans (b5.mono B4.out.size))).mono B1.out.size)⟩
      · have hp := HY.out (by simp) (by simp)
        have hw := HWD.out (by simp)
        have hsz : T.size = s.size + (W - (s.size : Int)).toNat := by rw [← bl_len, hp, padT_length, bl_len]
        have hmx : ((T.size : Int) != max W (s.size : Int)) = false := by
          have : (T.size : Int) = max W (s.size : Int) := by omega
          rw [this]; simp
        have hle : (s.size : Int) ≤ (T.size : Int) := by omega
        obtain ⟨d, hd⟩ : ∃ d : Nat, d = T.size - s.size := ⟨_, rfl⟩
        have hnn : (T.size : Int) - (s.size : Int) = (d : Int) := by omega
        have hw64 : wrap64 (d : Int) = (d : Int) := IntWalk.wrap64_in _ ⟨by omega, by omega⟩
        have hd0 : (d : Int) ≤ (T.size : Int) := by omega
        cases L
        · have hE := set_right T s b _ hp hsz
          rw [← hd] at hE
          have HE := Lib.hid hE
          clear hE hp hsz hd
          go_wp2
          go_ret
          exact ⟨by simp [HE.out], B1.out.trans ((new_below B4.out).mono B1.out.size)⟩
        · have hE := set_left T s b _ hp
          have HE := Lib.hid hE
          clear hE hp hsz hd hnn hw64 hd0
          go_wp2
          go_ret
          exact ⟨by simp [HE.out], B1.out.trans ((new_below B4.out).mono B1.out.size)⟩
end Go.Proofs.Ytmpidoenboffcaa

/- The walk of the law FnReadSoft. -/
import Derived.Test.YtnehdaocfijcpaaLawSoft2
namespace Go.Proofs.Ytnehdaocfijcpaa
open Go.RowKit

theorem tup_bytes {w : World} {r : List UInt8 × Bool} {e : Ending} {w' : World} (h : BytesOk w r e w') : ∃ a c, e = .returned (.tuple #[.slice a r.1.length c, .bool r.2]) ∧ r.1.length ≤ c ∧ c ≤ 9223372036854775807 ∧ w'.ownsRow w.heap.size 5 1 (.slice a r.1.length c) r.1.length (r.1.map byteV) ∧ Below w.heap.size w w' := by
  obtain ⟨v, rfl, o, b⟩ := h
  obtain ⟨a, c, rfl, _, k, k', _⟩ := own_formn o
  exact ⟨a, c, rfl, k, k', o, b⟩

set_option maxRecDepth 100000 in
set_option maxHeartbeats 1600000 in
theorem walk_FnReadSoft (a : Option Addr) (n c : Nat) (z : List Int) (w : World) (hrow : IsRow .u8 w a n c z) :
    Calls Try.prog 5 #[.slice a n c] w fun e w' => e = .returned (.bool true) ∧ Below w.heap.size w w' := by
  have hcap := hrow.caps
  have hby := Lib.hid hrow.bytes
  clear hrow
  by_cases hn : 1048576 < n
  · go_enter Try.func5, Try.ntmps5
    go_wp2
    go_ret
    exact ⟨rfl, Below.refl _ _⟩
  go_enter Try.func5, Try.ntmps5
  go_wp2_with fail
  refine (draw_ReadSoft _ _ _ _ _ hby.out hcap.1 hcap.2).mono ?_
  rintro e w1 ⟨a1, c1, L, rfl, hL, kc, kc', hn0, hsz, r1, b1⟩
  have B1 := Lib.hid b1; have R1 := Lib.hid r1
  have hsum : sumS L ≤ 2097152 := sum_le22 hsz hL
  have HN0 := Lib.hid hn0
  have hsum2 : sumS (L ++ [⟨#[]⟩]) ≤ 2097152 := by rw [sumS_app]; show sumS L + 0 ≤ _; omega
  have CI := Lib.hid (fun a c W h => impl_ReadSoft a L.length c L W h rfl (by omega) hsum)
  have CS := Lib.hid (fun a c W h => spec_ReadSoft a L.length c L W h rfl (by omega) hsum)
  have CM := Lib.hid (fun a c W h => impl_ReadSoft a (L.length + 1) c (L ++ [⟨#[]⟩]) W h (by simp) (by omega) hsum2)
  rw [read_same] at CI CM
  clear b1 hby hcap hn r1 hsum hsum2 hsz hn0
  go_wp2_with fail
  refine (CI.out _ _ _ R1.out).mono ?_
  intro e w2 h2
  obtain ⟨a2, c2, rfl, k2, k2', o2, b2⟩ := tup_bytes h2
  have O2 := Lib.hid o2; have C2 := Lib.hid b2
  have B2 := Lib.hid (B1.out.trans (b2.mono B1.out.size))
  clear h2 o2 b2
  go_wp2_with fail
  refine (CS.out _ _ _ (R1.out.below (Nat.le_refl _) C2.out)).mono ?_
  intro e w3 h3
  obtain ⟨a3, c3, rfl, k3, k3', o3, b3⟩ := tup_bytes h3
  have O3 := Lib.hid o3
  have C3 : Hid (Below w1.heap.size w1 w3) := C2.out.trans (b3.mono C2.out.size)
  have O23 := Lib.hid (own_below O2.out b3)
  have B3 := Lib.hid (B2.out.trans (b3.mono B2.out.size))
  clear h3 o3 b3
  have kv2 := conv_own O23.out rfl w3 (Below.refl _ _)
  have kv3 := conv_own O3.out rfl w3 (Below.refl _ _)
  have hle := read_len L
  rcases hr : (readS L).2 with _ | _
  · have hnil := read_no hr
    rw [hnil] at kv2 kv3 k2 k3
    rw [hnil]
    simp only [List.length_nil] at kv2 kv3 ⊢
    clear hr hnil
    go_wp2_with (go_at_call 17; refine (alive_any _).mono ?_; rintro e w4 ⟨rfl, b4⟩)
    go_ret
    exact ⟨rfl, B3.out.trans (b4.mono B3.out.size)⟩
  · obtain ⟨hl60, hback, hmore⟩ := read_ok hr
    have HB := Lib.hid hback
    have HM := Lib.hid hmore
    generalize (readS L).1 = r at *
    have CB := Lib.hid (fun a c W h => impl_SoftLines a r.length c r W h rfl (by omega))
    rw [HB.out] at CB
    clear hr hback hmore
    have OL := Lib.hid (R1.out.below (Nat.le_refl _) C3.out)
    have hc3s := C3.out.size
    obtain ⟨i0, hi, hz0, hz1, hz2⟩ := info_parts info_str
    have HI := Lib.hid hi; have HZ0 := Lib.hid hz0; have HZ1 := Lib.hid hz1; have HZ2 := Lib.hid hz2
    clear hi hz0 hz1 hz2
    have hal : Below w3.heap.size w3 (w3.alloc (.cells #[] 9 (0, 0))) := (Below.refl _ _).alloc (Nat.le_refl _) _
    have HAL := Lib.hid hal
    have ON := Lib.hid (own_new w3 #[] 9 0 rfl (by omega))
    clear hal
    go_wp2_with (first
      | (at_builtin; refine wpList_append_row rfl (.tmp 44) (.tmp 45) _ (by rfl) w3.heap.size 9 i0 _ 16 Try.underlying23 HI.out HZ0.out HZ1.out HZ2.out rfl _ 0 [] (by rfl) ON.out a1 L.length c1 (L.map strV) (by rfl) HN0.out (by exact OL.out.below (Nat.le_refl _) HAL.out) (by simp) (strs_one L) (by omega) (by omega) (by simp) ?_; intro v4 w4 o4 h4 _; have O4 := Lib.hid o4; have C4 := Lib.hid (HAL.out.grown h4 (by simp) (fun q hq => (own_ge ON.out q hq).1)); clear o4 h4)
      | (at_builtin; refine wpList_pushS (.tmp 46) (.tmp 47) w3.heap.size ⟨#[]⟩ _ (0 + L.length) L O4.out C4.out.size (by omega) rfl (by rfl) (by rfl) w4.heap.size rfl (by rfl) ?_; intro v5 w5 o5 b5; have O5 := Lib.hid (own_len_eq (m := L.length + 1) o5 (by omega) rfl); have C5 := Lib.hid (C4.out.trans b5); clear o5 b5)
      | (go_at_call 19; obtain ⟨a5, c5, rfl, r5, k5, k5', _⟩ := own_formn O5.out; refine (CM.out _ _ _ r5).mono ?_; intro e w6 h6; obtain ⟨a6, c6, rfl, k6, k6', o6, b6⟩ := tup_bytes h6; have C6 := Lib.hid (C5.out.trans (b6.mono C5.out.size)); clear h6 o6 b6 r5))
    rw [HM.out]
    have OB6 := Lib.hid ((own_formn_row O23.out).below (Nat.le_refl _) C6.out)
    have OL6 := Lib.hid (OL.out.below (Nat.le_refl _) C6.out)
    have B6 := Lib.hid (B3.out.trans (C6.out.mono B3.out.size))
    refine (CB.out _ _ _ OB6.out).mono ?_
    rintro e w7 ⟨v7, rfl, o7, b7⟩
    obtain ⟨a7, c7, rfl, r7, k7, k7', _⟩ := own_formn o7
    have R7 := Lib.hid r7
    have OL7 := Lib.hid (OL6.out.below (Nat.le_refl _) b7)
    have B7 := Lib.hid (B6.out.trans (b7.mono B6.out.size))
    clear o7 b7 r7
    go_wp2_with fail
    refine (sameTexts_any _ _ _ _ _ _ L L _ R7.out OL7.out rfl rfl (by omega)).mono ?_
    rintro e w8 ⟨rfl, b8⟩
    have B8 := Lib.hid (B7.out.trans (b8.mono B7.out.size))
    clear b8
    go_wp2
    go_ret
    exact ⟨rfl, B8.out⟩
end Go.Proofs.Ytnehdaocfijcpaa

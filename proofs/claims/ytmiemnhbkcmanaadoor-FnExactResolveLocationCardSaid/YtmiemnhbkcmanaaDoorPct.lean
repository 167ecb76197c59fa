/- Parts of addresses: which bytes stay, the code of a byte, EscapePart of the program and of the reference (printed by gen_pct.py). -/
import Derived.Test.YtmiemnhbkcmanaaDoorBld
import Derived.Test.YtmiemnhbkcmanaaDoorHas
import Derived.Test.YtmiemnhbkcmanaaDoorHost
import Derived.Test.YtmiemnhbkcmanaaDoorStrs
import Derived.RegionTactic
import Derived.Deep.DeepCutAuto
import Derived.Deep.RegionHeld3
namespace Go.Proofs.YtmiemnhbkcmanaaDoor
open Go.RowKit

def hxC (d : Nat) : UInt8 := if d < 10 then UInt8.ofNat (48 + d) else UInt8.ofNat (55 + d)
/-- A byte that stands for itself. -/
def partC (c : UInt8) : Bool := letB c || (digB c || (((c.toNat : Int) == 45) || (((c.toNat : Int) == 95) || (((c.toNat : Int) == 46) || ((c.toNat : Int) == 126)))))
/-- What stands for a byte. -/
def pctB (b : UInt8) : List UInt8 := if partC b then [b] else [37, hxC (b.toNat / 16), hxC (b.toNat % 16)]
def escP (l : List UInt8) : List UInt8 := l.flatMap pctB
theorem pctB_no {b : UInt8} (h : partC b = false) : pctB b = [37, hxC (b.toNat / 16), hxC (b.toNat % 16)] := by unfold pctB; rw [h]; rfl
theorem pctB_yes {b : UInt8} (h : partC b = true) : pctB b = [b] := by unfold pctB; rw [h]; rfl
theorem pctB_len (b : UInt8) : (pctB b).length ≤ 3 ∧ 1 ≤ (pctB b).length := by unfold pctB; split <;> simp
theorem hx_dig : ∀ d : Nat, d < 16 → (⟨#[48, 49, 50, 51, 52, 53, 54, 55, 56, 57, 65, 66, 67, 68, 69, 70]⟩ : ByteArray).extract d (d + 1) = mkS [hxC d] := by
  intro d hd
  apply bl_inj
  rw [bl_ext, bl_mkS]
  have : ∀ d : Fin 16, (List.take (d.1 + 1) (bl ⟨#[48, 49, 50, 51, 52, 53, 54, 55, 56, 57, 65, 66, 67, 68, 69, 70]⟩)).drop d.1 = [hxC d.1] := by decide
  exact this ⟨d, hd⟩
theorem hx_ix (d : Nat) (h : d < 16) : (⟨#[48, 49, 50, 51, 52, 53, 54, 55, 56, 57, 65, 66, 67, 68, 69, 70]⟩ : ByteArray)[d]'h = hxC d := by
  have : ∀ d : Fin 16, (⟨#[48, 49, 50, 51, 52, 53, 54, 55, 56, 57, 65, 66, 67, 68, 69, 70]⟩ : ByteArray)[d.1]'d.2 = hxC d.1 := by decide
  exact this ⟨d, h⟩
theorem hx_unit (n : Nat) (h : n < 256) : (⟨#[37]⟩ ++ (⟨#[48, 49, 50, 51, 52, 53, 54, 55, 56, 57, 65, 66, 67, 68, 69, 70]⟩ : ByteArray).extract ((n : Int) / 16).toNat ((n : Int) / 16 + 1).toNat ++ (⟨#[48, 49, 50, 51, 52, 53, 54, 55, 56, 57, 65, 66, 67, 68, 69, 70]⟩ : ByteArray).extract ((n : Int) % 16).toNat ((n : Int) % 16 + 1).toNat) = mkS [37, hxC (n / 16), hxC (n % 16)] := by
  rw [show ((n : Int) / 16).toNat = n / 16 by omega, show ((n : Int) / 16 + 1).toNat = n / 16 + 1 by omega, show ((n : Int) % 16).toNat = n % 16 by omega, show ((n : Int) % 16 + 1).toNat = n % 16 + 1 by omega, hx_dig _ (by omega), hx_dig _ (by omega)]
  rfl
theorem partC_eq (c : UInt8) : partC c = (letB c || (digB c || (((c.toNat : Int) == 45) || (((c.toNat : Int) == 95) || (((c.toNat : Int) == 46) || ((c.toNat : Int) == 126)))))) := rfl
theorem beq_int (c n : UInt8) : (c == n) = ((c.toNat : Int) == (n.toNat : Int)) := by
  by_cases h : c = n
  · rw [beq_u8' h, h]; simp
  · rw [beq_u8 h]; simp [h]
theorem ret_strP {a b : ByteArray} (h : a = b) : Ending.returned (.string a) = .returned (.string b) := by rw [h]
theorem partC_keep (c : UInt8) : partC c = (letB c || (digB c || hasB [45, 95, 46, 126] c)) := by
  have h : hasB [45, 95, 46, 126] c = (((c.toNat : Int) == 45) || (((c.toNat : Int) == 95) || (((c.toNat : Int) == 46) || ((c.toNat : Int) == 126)))) := by
    unfold hasB
    simp only [List.contains_cons, List.contains_nil, Bool.or_false, beq_int]
    rfl
  rw [h]; rfl
theorem partC_hash : partC 37 = false := by decide
theorem escP_take {s : ByteArray} {k : Nat} (h : k < s.size) : escP ((bl s).take (k + 1)) = escP ((bl s).take k) ++ pctB s[k] := by
  unfold escP
  rw [bl_take s k h, List.flatMap_append]
  simp
theorem escP_all (s : ByteArray) : escP ((bl s).take s.size) = escP (bl s) := by rw [bl_all]
theorem escP_len : ∀ l : List UInt8, (escP l).length ≤ 3 * l.length := by
  intro l
  induction l with
  | nil => simp [escP]
  | cons x l ih =>
    have := (pctB_len x).1
    unfold escP at *
    rw [List.flatMap_cons, List.length_append, List.length_cons]
    omega

theorem spec_l3Plain (c : UInt8) (w : World) : Calls Tryd.prog 41 #[.int .u8 (c.toNat : Int)] w fun e w' => e = .returned (.bool (partC c)) ∧ w = w' := by
  have HB := Lib.hid (partC_eq c)
  rcases d1 : letB c with _ | _
  case true =>
    have HR : Hid (partC c = true) := by show _ = _; rw [HB.out, d1]; rfl
    have C0 : Hid (∀ W, Calls Tryd.prog 56 #[.int .u8 (c.toNat : Int)] W fun e w' => e = .returned (.bool true) ∧ W = w') := fun W => by rw [← d1]; exact spec_l1Letter c W
    clear HB
    go_enter Tryd.func41, Tryd.ntmps41
    go_wp2_with fail
    refine (C0.out _).mono ?_
    rintro e w1 ⟨rfl, rfl⟩
    go_wp2
    go_ret
    exact ⟨ret_bool HR.out.symm, rfl⟩
  rcases d2 : digB c with _ | _
  case true =>
    have HR : Hid (partC c = true) := by show _ = _; rw [HB.out, d1, d2]; rfl
    have C0 : Hid (∀ W, Calls Tryd.prog 56 #[.int .u8 (c.toNat : Int)] W fun e w' => e = .returned (.bool false) ∧ W = w') := fun W => by rw [← d1]; exact spec_l1Letter c W
    have C1 : Hid (∀ W, Calls Tryd.prog 46 #[.int .u8 (c.toNat : Int)] W fun e w' => e = .returned (.bool true) ∧ W = w') := fun W => by rw [← d2]; exact spec_l1Digit c W
    clear HB
    go_enter Tryd.func41, Tryd.ntmps41
    go_wp2_with fail
    refine (C0.out _).mono ?_
    rintro e w1 ⟨rfl, rfl⟩
    go_wp2_with fail
    refine (C1.out _).mono ?_
    rintro e w2 ⟨rfl, rfl⟩
    go_wp2
    go_ret
    exact ⟨ret_bool HR.out.symm, rfl⟩
  rcases d3 : ((c.toNat : Int) == 45) with _ | _
  case true =>
    have HR : Hid (partC c = true) := by show _ = _; rw [HB.out, d1, d2, d3]; rfl
    have C0 : Hid (∀ W, Calls Tryd.prog 56 #[.int .u8 (c.toNat : Int)] W fun e w' => e = .returned (.bool false) ∧ W = w') := fun W => by rw [← d1]; exact spec_l1Letter c W
    have C1 : Hid (∀ W, Calls Tryd.prog 46 #[.int .u8 (c.toNat : Int)] W fun e w' => e = .returned (.bool false) ∧ W = w') := fun W => by rw [← d2]; exact spec_l1Digit c W
    clear HB
    go_enter Tryd.func41, Tryd.ntmps41
    go_wp2_with fail
    refine (C0.out _).mono ?_
    rintro e w1 ⟨rfl, rfl⟩
    go_wp2_with fail
    refine (C1.out _).mono ?_
    rintro e w2 ⟨rfl, rfl⟩
    go_wp2
    go_ret
    exact ⟨ret_bool HR.out.symm, rfl⟩
  rcases d4 : ((c.toNat : Int) == 95) with _ | _
  case true =>
    have HR : Hid (partC c = true) := by show _ = _; rw [HB.out, d1, d2, d3, d4]; rfl
    have C0 : Hid (∀ W, Calls Tryd.prog 56 #[.int .u8 (c.toNat : Int)] W fun e w' => e = .returned (.bool false) ∧ W = w') := fun W => by rw [← d1]; exact spec_l1Letter c W
    have C1 : Hid (∀ W, Calls Tryd.prog 46 #[.int .u8 (c.toNat : Int)] W fun e w' => e = .returned (.bool false) ∧ W = w') := fun W => by rw [← d2]; exact spec_l1Digit c W
    clear HB
    go_enter Tryd.func41, Tryd.ntmps41
    go_wp2_with fail
    refine (C0.out _).mono ?_
    rintro e w1 ⟨rfl, rfl⟩
    go_wp2_with fail
    refine (C1.out _).mono ?_
    rintro e w2 ⟨rfl, rfl⟩
    go_wp2
    go_ret
    exact ⟨ret_bool HR.out.symm, rfl⟩
  rcases d5 : ((c.toNat : Int) == 46) with _ | _
  case true =>
    have HR : Hid (partC c = true) := by show _ = _; rw [HB.out, d1, d2, d3, d4, d5]; rfl
    have C0 : Hid (∀ W, Calls Tryd.prog 56 #[.int .u8 (c.toNat : Int)] W fun e w' => e = .returned (.bool false) ∧ W = w') := fun W => by rw [← d1]; exact spec_l1Letter c W
    have C1 : Hid (∀ W, Calls Tryd.prog 46 #[.int .u8 (c.toNat : Int)] W fun e w' => e = .returned (.bool false) ∧ W = w') := fun W => by rw [← d2]; exact spec_l1Digit c W
    clear HB
    go_enter Tryd.func41, Tryd.ntmps41
    go_wp2_with fail
    refine (C0.out _).mono ?_
    rintro e w1 ⟨rfl, rfl⟩
    go_wp2_with fail
    refine (C1.out _).mono ?_
    rintro e w2 ⟨rfl, rfl⟩
    go_wp2
    go_ret
    exact ⟨ret_bool HR.out.symm, rfl⟩
  rcases d6 : ((c.toNat : Int) == 126) with _ | _
  case true =>
    have HR : Hid (partC c = true) := by show _ = _; rw [HB.out, d1, d2, d3, d4, d5, d6]; rfl
    have C0 : Hid (∀ W, Calls Tryd.prog 56 #[.int .u8 (c.toNat : Int)] W fun e w' => e = .returned (.bool false) ∧ W = w') := fun W => by rw [← d1]; exact spec_l1Letter c W
    have C1 : Hid (∀ W, Calls Tryd.prog 46 #[.int .u8 (c.toNat : Int)] W fun e w' => e = .returned (.bool false) ∧ W = w') := fun W => by rw [← d2]; exact spec_l1Digit c W
    clear HB
    go_enter Tryd.func41, Tryd.ntmps41
    go_wp2_with fail
    refine (C0.out _).mono ?_
    rintro e w1 ⟨rfl, rfl⟩
    go_wp2_with fail
    refine (C1.out _).mono ?_
    rintro e w2 ⟨rfl, rfl⟩
    go_wp2
    go_ret
    exact ⟨ret_bool HR.out.symm, rfl⟩
  have HR : Hid (partC c = false) := by show _ = _; rw [HB.out, d1, d2, d3, d4, d5, d6]; rfl
  have C0 : Hid (∀ W, Calls Tryd.prog 56 #[.int .u8 (c.toNat : Int)] W fun e w' => e = .returned (.bool false) ∧ W = w') := fun W => by rw [← d1]; exact spec_l1Letter c W
  have C1 : Hid (∀ W, Calls Tryd.prog 46 #[.int .u8 (c.toNat : Int)] W fun e w' => e = .returned (.bool false) ∧ W = w') := fun W => by rw [← d2]; exact spec_l1Digit c W
  clear HB
  go_enter Tryd.func41, Tryd.ntmps41
  go_wp2_with fail
  refine (C0.out _).mono ?_
  rintro e w1 ⟨rfl, rfl⟩
  go_wp2_with fail
  refine (C1.out _).mono ?_
  rintro e w2 ⟨rfl, rfl⟩
  go_wp2
  go_ret
  exact ⟨ret_bool HR.out.symm, rfl⟩

set_option maxHeartbeats 1600000 in
theorem spec_l3Hex (b : UInt8) (w : World) : Calls Tryd.prog 57 #[.int .u8 (b.toNat : Int)] w fun e w' => e = .returned (.string (mkS [37, hxC (b.toNat / 16), hxC (b.toNat % 16)])) ∧ Below w.heap.size w w' := by
  have hb0 : (b.toNat : Int) < 256 := by have := b.toNat_lt; omega
  have hb1 : 0 ≤ (b.toNat : Int) := by omega
  have HU := Lib.hid (hx_unit b.toNat (by omega)).symm
  have q0 : 0 ≤ (b.toNat : Int) / 16 := by omega
  have q1 : (b.toNat : Int) / 16 ≤ 15 := by omega
  have q4 : 0 ≤ (b.toNat : Int) % 16 := by omega
  have q5 : (b.toNat : Int) % 16 ≤ 15 := by omega
  generalize mkS [37, hxC (b.toNat / 16), hxC (b.toNat % 16)] = y at *
  generalize (b.toNat : Int) = x at *
  have q2 : IntKind.u8.wrap (x / 16 + 1) = x / 16 + 1 := by rw [IntKind.wrap_u8]; omega
  have q3 : IntKind.u8.wrap (x % 16 + 1) = x % 16 + 1 := by rw [IntKind.wrap_u8]; omega
  go_enter Tryd.func57, Tryd.ntmps57
  go_wp2
  go_quiet (fail)
  go_wp2
  go_ret
  exact ⟨ret_strP HU.out.symm, below_drewN (Below.refl _ _) _⟩

set_option maxRecDepth 100000 in
set_option maxHeartbeats 1600000 in
theorem spec_EscapePart (s : ByteArray) (w : World) (hs : s.size ≤ 1048576) : Calls Tryd.prog 60 #[.string s] w fun e w' => e = .returned (.string (mkS (escP (bl s)))) ∧ Below w.heap.size w w' := by
  go_enter Tryd.func60, Tryd.ntmps60
  go_wp2
  go_loopw [3, 4] (fun o t wr => ∃ k : Nat, k ≤ s.size ∧ t = .int .i64 (k : Int) ∧ o = .string (mkS (escP ((bl s).take k))) ∧ Below w.heap.size w wr) (fun _ t _ => s.size - (intOf t).toNat)
  case atStart => exact ⟨0, Nat.zero_le _, rfl, rfl, Below.refl _ _⟩
  case round =>
    obtain ⟨k, hk, rfl, rfl, hb⟩ := hrel
    have BW := Lib.hid hb
    have hws := hb.size
    clear hb
    by_cases hks : k < s.size
    · have hi : (k : Int) < (s.size : Int) := by omega
      have HT := Lib.hid (escP_take hks)
      have HL := Lib.hid (escP_len ((bl s).take k))
      have hl : (escP ((bl s).take k)).length ≤ 3 * s.size := by have := HL.out; rw [List.length_take] at this; omega
      rcases hp : partC s[k] with _ | _
      · have CP : Hid (∀ W, Calls Tryd.prog 41 #[.int .u8 (s[k].toNat : Int)] W fun e w' => e = .returned (.bool false) ∧ W = w') := fun W => by rw [← hp]; exact spec_l3Plain s[k] W
        have CE := Lib.hid (fun W => spec_l3Hex s[k] W)
        have HE2 : Hid (mkS (escP ((bl s).take k)) ++ mkS [37, hxC (s[k].toNat / 16), hxC (s[k].toNat % 16)] = mkS (escP ((bl s).take (k + 1)))) := by show _ = _; rw [HT.out, mkS_app, pctB_no hp]
        have hsz : (mkS (escP ((bl s).take k))).size + (mkS [37, hxC (s[k].toNat / 16), hxC (s[k].toNat % 16)]).size ≤ 9223372036854775807 := by rw [mkS_size, mkS_size]; simp; omega
        generalize mkS (escP ((bl s).take k)) = A at *
        generalize mkS [37, hxC (s[k].toNat / 16), hxC (s[k].toNat % 16)] = en at *
        clear hp
        go_wp2_with fail
        refine (CP.out _).mono ?_
        rintro e w0 ⟨rfl, rfl⟩
        go_wp2_with fail
        refine (CE.out _).mono ?_
        rintro e w1 ⟨rfl, b1⟩
        have B1 := Lib.hid (BW.out.trans (b1.mono hws))
        clear b1
        go_wp2
        go_roundw
        case rel => exact ⟨k + 1, by omega, by go_num, by rw [← HE2.out], B1.out⟩
        case measure => simp [intOf]; omega
      · have CP : Hid (∀ W, Calls Tryd.prog 41 #[.int .u8 (s[k].toNat : Int)] W fun e w' => e = .returned (.bool true) ∧ W = w') := fun W => by rw [← hp]; exact spec_l3Plain s[k] W
        have HE2 : Hid (mkS (escP ((bl s).take k)) ++ s.extract k (k + 1) = mkS (escP ((bl s).take (k + 1)))) := by
          show _ = _
          rw [HT.out, ← mkS_app, pctB_yes hp, ← bl_one s k hks, mkS_bl]
        have hsz : (mkS (escP ((bl s).take k))).size + 1 ≤ 9223372036854775807 := by rw [mkS_size]; omega
        generalize mkS (escP ((bl s).take k)) = A at *
        have hk1 : (k : Int) + 1 ≤ (s.size : Int) := by omega
        clear hp
        go_wp2_with fail
        refine (CP.out _).mono ?_
        rintro e w0 ⟨rfl, rfl⟩
        go_wp2
        go_roundw
        case rel => exact ⟨k + 1, by omega, by go_num, by rw [← HE2.out], BW.out⟩
        case measure => simp [intOf]; omega
    · obtain rfl : k = s.size := by omega
      have HA := Lib.hid (escP_all s)
      go_wp2
      go_ret
      exact ⟨by rw [HA.out]; rfl, BW.out⟩

set_option maxRecDepth 100000 in
set_option maxHeartbeats 3200000 in
theorem impl_percent (s : ByteArray) (w : World) (hs : s.size ≤ 1048576) : Calls Tryd.prog 77 #[.string s, .string ⟨#[45, 95, 46, 126]⟩] w fun e w' => e = .returned (.string (mkS (escP (bl s)))) ∧ Below w.heap.size w w' := by
  obtain ⟨ks, hks0⟩ : ∃ ks : ByteArray, ks = ⟨#[45, 95, 46, 126]⟩ := ⟨_, rfl⟩
  have HK0 : Hid (bl ks = [45, 95, 46, 126]) := by rw [hks0]; rfl
  have hk4 : ks.size ≤ 9223372036854775807 := by rw [hks0]; decide
  rw [← hks0]
  clear hks0
  go_enter Tryd.func77, Tryd.ntmps77
  have hF := Lib.hid (Lib.fresh_isBuilder 73 5 w)
  go_wp2
  go_loopw [6] (fun t wr => ∃ k : Nat, k ≤ s.size ∧ t = .int .i64 (k : Int) ∧ Hid (Lib.IsBuilder 73 5 w.heap.size w.heap.size (Lib.byteCells (escP ((bl s).take k))) wr) ∧ Below w.heap.size w wr) (fun t _ => s.size - (intOf t).toNat)
  case atStart => exact ⟨0, Nat.zero_le _, rfl, hF.out, (Below.refl _ _).alloc (Nat.le_refl _) _⟩
  case round =>
    obtain ⟨k, hk, rfl, HBd, hb⟩ := hrel
    have BW := Lib.hid hb
    have hws := hb.size
    clear hb hF
    by_cases hks : k < s.size
    case neg =>
      obtain rfl : k = s.size := by omega
      have HA := Lib.hid (escP_all s)
      have CS := Lib.hid (Tryd.Builder_String_any _ _ _ _ HBd.out hws)
      go_wp2_with fail
      refine (CS.out).mono ?_
      rintro e w2 ⟨rfl, b2⟩
      have B2 := Lib.hid (BW.out.trans b2)
      clear b2
      go_wp2
      go_ret
      exact ⟨by rw [← HA.out]; rfl, B2.out⟩
    have hi : (k : Int) < (s.size : Int) := by omega
    have HT := Lib.hid (escP_take hks)
    have HL := Lib.hid (escP_len ((bl s).take k))
    have hl : (escP ((bl s).take k)).length ≤ 3 * s.size := by have := HL.out; rw [List.length_take] at this; omega
    have HKP := Lib.hid (partC_keep s[k])
    rcases d1 : letB s[k] with _ | _
    case true =>
      have HC : Hid (partC s[k] = true) := by show _ = _; rw [HKP.out, d1]; rfl
      have C0 : Hid (∀ W, Calls Tryd.prog 31 #[.int .u8 (s[k].toNat : Int)] W fun e w' => e = .returned (.bool true) ∧ W = w') := fun W => by rw [← d1]; exact impl_isLetter s[k] W
      have HE2 : Hid (Lib.byteCells (escP ((bl s).take k)) ++ [.int .u8 (s[k].toNat : Int)] = Lib.byteCells (escP ((bl s).take (k + 1)))) := by show _ = _; rw [HT.out, pctB_yes HC.out, Lib.byteCells, Lib.byteCells, List.map_append]; rfl
      have CW := Lib.hid (bld_WriteByte _ _ _ (s[k].toNat : Int) _ HBd.out (by rw [Lib.byteCells, List.length_map]; omega) hws)
      clear d1
      go_wp2_with fail
      refine (C0.out _).mono ?_
      rintro e v0 ⟨rfl, rfl⟩
      go_wp2_with fail
      refine (CW.out).mono ?_
      rintro e w2 ⟨rfl, h2, b2, _⟩
      have H2 := Lib.hid h2
      have B2 := Lib.hid (BW.out.trans b2)
      clear h2 b2
      go_wp2
      go_roundw
      case rel => exact ⟨k + 1, by omega, by go_num, by rw [← HE2.out]; exact H2, B2.out⟩
      case measure => simp [intOf]; omega
    rcases d2 : digB s[k] with _ | _
    case true =>
      have HC : Hid (partC s[k] = true) := by show _ = _; rw [HKP.out, d1, d2]; rfl
      have C0 : Hid (∀ W, Calls Tryd.prog 31 #[.int .u8 (s[k].toNat : Int)] W fun e w' => e = .returned (.bool false) ∧ W = w') := fun W => by rw [← d1]; exact impl_isLetter s[k] W
      have C1 : Hid (∀ W, Calls Tryd.prog 32 #[.int .u8 (s[k].toNat : Int)] W fun e w' => e = .returned (.bool true) ∧ W = w') := fun W => by rw [← d2]; exact impl_isDigit s[k] W
      have HE2 : Hid (Lib.byteCells (escP ((bl s).take k)) ++ [.int .u8 (s[k].toNat : Int)] = Lib.byteCells (escP ((bl s).take (k + 1)))) := by show _ = _; rw [HT.out, pctB_yes HC.out, Lib.byteCells, Lib.byteCells, List.map_append]; rfl
      have CW := Lib.hid (bld_WriteByte _ _ _ (s[k].toNat : Int) _ HBd.out (by rw [Lib.byteCells, List.length_map]; omega) hws)
      clear d1 d2
      go_wp2_with fail
      refine (C0.out _).mono ?_
      rintro e v0 ⟨rfl, rfl⟩
      go_wp2_with fail
      refine (C1.out _).mono ?_
      rintro e v1 ⟨rfl, rfl⟩
      go_wp2_with fail
      refine (CW.out).mono ?_
      rintro e w2 ⟨rfl, h2, b2, _⟩
      have H2 := Lib.hid h2
      have B2 := Lib.hid (BW.out.trans b2)
      clear h2 b2
      go_wp2
      go_roundw
      case rel => exact ⟨k + 1, by omega, by go_num, by rw [← HE2.out]; exact H2, B2.out⟩
      case measure => simp [intOf]; omega
    rcases d3 : hasB [45, 95, 46, 126] s[k] with _ | _
    case true =>
      have HC : Hid (partC s[k] = true) := by show _ = _; rw [HKP.out, d1, d2, d3]; rfl
      have C0 : Hid (∀ W, Calls Tryd.prog 31 #[.int .u8 (s[k].toNat : Int)] W fun e w' => e = .returned (.bool false) ∧ W = w') := fun W => by rw [← d1]; exact impl_isLetter s[k] W
      have C1 : Hid (∀ W, Calls Tryd.prog 32 #[.int .u8 (s[k].toNat : Int)] W fun e w' => e = .returned (.bool false) ∧ W = w') := fun W => by rw [← d2]; exact impl_isDigit s[k] W
      have C2 : Hid (∀ W, Calls Tryd.prog 33 #[.string ks, .int .u8 (s[k].toNat : Int)] W fun e w' => e = .returned (.bool true) ∧ W = w') := fun W => by rw [← d3, ← HK0.out]; exact impl_hasByte ks s[k] W hk4
      have HE2 : Hid (Lib.byteCells (escP ((bl s).take k)) ++ [.int .u8 (s[k].toNat : Int)] = Lib.byteCells (escP ((bl s).take (k + 1)))) := by show _ = _; rw [HT.out, pctB_yes HC.out, Lib.byteCells, Lib.byteCells, List.map_append]; rfl
      have CW := Lib.hid (bld_WriteByte _ _ _ (s[k].toNat : Int) _ HBd.out (by rw [Lib.byteCells, List.length_map]; omega) hws)
      clear d1 d2 d3
      go_wp2_with fail
      refine (C0.out _).mono ?_
      rintro e v0 ⟨rfl, rfl⟩
      go_wp2_with fail
      refine (C1.out _).mono ?_
      rintro e v1 ⟨rfl, rfl⟩
      go_wp2_with fail
      refine (C2.out _).mono ?_
      rintro e v2 ⟨rfl, rfl⟩
      go_wp2_with fail
      refine (CW.out).mono ?_
      rintro e w2 ⟨rfl, h2, b2, _⟩
      have H2 := Lib.hid h2
      have B2 := Lib.hid (BW.out.trans b2)
      clear h2 b2
      go_wp2
      go_roundw
      case rel => exact ⟨k + 1, by omega, by go_num, by rw [← HE2.out]; exact H2, B2.out⟩
      case measure => simp [intOf]; omega
    have HC : Hid (partC s[k] = false) := by show _ = _; rw [HKP.out, d1, d2, d3]; rfl
    have C0 : Hid (∀ W, Calls Tryd.prog 31 #[.int .u8 (s[k].toNat : Int)] W fun e w' => e = .returned (.bool false) ∧ W = w') := fun W => by rw [← d1]; exact impl_isLetter s[k] W
    have C1 : Hid (∀ W, Calls Tryd.prog 32 #[.int .u8 (s[k].toNat : Int)] W fun e w' => e = .returned (.bool false) ∧ W = w') := fun W => by rw [← d2]; exact impl_isDigit s[k] W
    have C2 : Hid (∀ W, Calls Tryd.prog 33 #[.string ks, .int .u8 (s[k].toNat : Int)] W fun e w' => e = .returned (.bool false) ∧ W = w') := fun W => by rw [← d3, ← HK0.out]; exact impl_hasByte ks s[k] W hk4
    clear d1 d2 d3
    have hb0 : (s[k].toNat : Int) < 256 := by have := s[k].toNat_lt; omega
    have hb1 : 0 ≤ (s[k].toNat : Int) := by omega
    have q0 : 0 ≤ (s[k].toNat : Int) / 16 := by omega
    have q1 : (s[k].toNat : Int) / 16 < 16 := by omega
    have q2 : bits BinOp.and IntKind.u8 (s[k].toNat : Int) 15 = (s[k].toNat : Int) % 16 := u8_and15 _ hb1 hb0
    have q3 : 0 ≤ (s[k].toNat : Int) % 16 := by omega
    have q4 : (s[k].toNat : Int) % 16 < 16 := by omega
    have e1 := hx_ix (s[k].toNat / 16) (by omega)
    have e2 := hx_ix (s[k].toNat % 16) (by omega)
    have HE2 : Hid ((((Lib.byteCells (escP ((bl s).take k)) ++ [.int .u8 37]) ++ [.int .u8 ((hxC (s[k].toNat / 16)).toNat : Int)]) ++ [.int .u8 ((hxC (s[k].toNat % 16)).toNat : Int)]) = Lib.byteCells (escP ((bl s).take (k + 1)))) := by show _ = _; rw [HT.out, pctB_no HC.out, Lib.byteCells, Lib.byteCells, List.map_append, List.append_assoc, List.append_assoc]; rfl
    have hbl3 : (Lib.byteCells (escP ((bl s).take k))).length ≤ 3145728 := by rw [Lib.byteCells, List.length_map]; omega
    have HBl := Lib.hid hbl3
    clear hbl3
    go_wp2_with fail
    refine (C0.out _).mono ?_
    rintro e v0 ⟨rfl, rfl⟩
    go_wp2_with fail
    refine (C1.out _).mono ?_
    rintro e v1 ⟨rfl, rfl⟩
    go_wp2_with fail
    refine (C2.out _).mono ?_
    rintro e v2 ⟨rfl, rfl⟩
    go_wp2_with fail
    refine (bld_WriteByte _ _ _ 37 _ HBd.out (by have := HBl.out; omega) hws).mono ?_
    rintro e w1 ⟨rfl, h1, b1, _⟩
    have H1 := Lib.hid h1
    have B1 := Lib.hid (BW.out.trans b1)
    have hw1 := B1.out.size
    clear h1 b1
    go_wp2_with fail
    refine (bld_WriteByte _ _ _ ((hxC (s[k].toNat / 16)).toNat : Int) _ H1.out (by have := HBl.out; rw [List.length_append, List.length_singleton]; omega) hw1).mono ?_
    rintro e w2 ⟨rfl, h2, b2, _⟩
    have H2 := Lib.hid h2
    have B2 := Lib.hid (B1.out.trans b2)
    have hw2 := B2.out.size
    clear h2 b2
    go_wp2_with fail
    refine (bld_WriteByte _ _ _ ((hxC (s[k].toNat % 16)).toNat : Int) _ H2.out (by have := HBl.out; rw [List.length_append, List.length_append, List.length_singleton, List.length_singleton]; omega) hw2).mono ?_
    rintro e w3 ⟨rfl, h3, b3, _⟩
    have H3 := Lib.hid h3
    have B3 := Lib.hid (B2.out.trans b3)
    clear h3 b3
    go_wp2
    go_roundw
    case rel => exact ⟨k + 1, by omega, by go_num, by rw [← HE2.out]; exact H3.out, B3.out⟩
    case measure => simp [intOf]; omega
theorem impl_EscapePart (s : ByteArray) (w : World) (hs : s.size ≤ 1048576) : Calls Tryd.prog 64 #[.string s] w fun e w' => e = .returned (.string (mkS (escP (bl s)))) ∧ Below w.heap.size w w' := by
  have CP := Lib.hid (fun W => impl_percent s W hs)
  go_enter Tryd.func64, Tryd.ntmps64
  go_wp2_with fail
  refine (CP.out _).mono ?_
  rintro e w1 ⟨rfl, b1⟩
  have B1 := Lib.hid b1
  clear b1
  go_wp2
  go_ret
  exact ⟨rfl, B1.out⟩
end Go.Proofs.YtmiemnhbkcmanaaDoor

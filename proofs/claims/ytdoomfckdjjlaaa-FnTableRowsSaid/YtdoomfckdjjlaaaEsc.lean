/- EscapeText, of the program and of the reference. -/
import Derived.Test.YtdoomfckdjjlaaaBld
import Derived.Test.YtdoomfckdjjlaaaHost
import Derived.Test.YtdoomfckdjjlaaaStrs
namespace Go.Proofs.Ytdoomfckdjjlaaa
open Go.RowKit

def entB (b : UInt8) : List UInt8 := if b = 38 then [38, 97, 109, 112, 59] else if b = 60 then [38, 108, 116, 59] else if b = 62 then [38, 103, 116, 59] else if b = 34 then [38, 113, 117, 111, 116, 59] else if b = 39 then [38, 35, 51, 57, 59] else []
def escB (b : UInt8) : List UInt8 := if entB b = [] then [b] else entB b
/-- A text with its entities. -/
def escR (l : List UInt8) : List UInt8 := l.flatMap escB
theorem ent_cases (b : UInt8) : (b = 38 ∨ b = 60 ∨ b = 62 ∨ b = 34 ∨ b = 39) ∨ (entB b = [] ∧ b ≠ 38 ∧ b ≠ 60 ∧ b ≠ 62 ∧ b ≠ 34 ∧ b ≠ 39) := by
  by_cases h1 : b = 38
  · exact .inl (.inl h1)
  by_cases h2 : b = 60
  · exact .inl (.inr (.inl h2))
  by_cases h3 : b = 62
  · exact .inl (.inr (.inr (.inl h3)))
  by_cases h4 : b = 34
  · exact .inl (.inr (.inr (.inr (.inl h4))))
  by_cases h5 : b = 39
  · exact .inl (.inr (.inr (.inr (.inr h5))))
  exact .inr ⟨by unfold entB; rw [if_neg h1, if_neg h2, if_neg h3, if_neg h4, if_neg h5], h1, h2, h3, h4, h5⟩
theorem escB_len (b : UInt8) : (escB b).length ≤ 6 ∧ 1 ≤ (escB b).length := by
  rcases ent_cases b with (rfl | rfl | rfl | rfl | rfl) | ⟨h, _⟩
  · decide
  · decide
  · decide
  · decide
  · decide
  · unfold escB; rw [if_pos h]; simp
theorem escR_len (l : List UInt8) : (escR l).length ≤ 6 * l.length := by
  induction l with
  | nil => simp [escR]
  | cons a l ih =>
    have := (escB_len a).1
    unfold escR at ih ⊢
    rw [List.flatMap_cons, List.length_append, List.length_cons]
    omega
theorem escR_take {s : ByteArray} {k : Nat} (h : k < s.size) : escR ((bl s).take (k + 1)) = escR ((bl s).take k) ++ escB s[k] := by
  rw [bl_take s k h]
  simp [escR]
theorem escR_all (s : ByteArray) : escR ((bl s).take s.size) = escR (bl s) := by rw [List.take_of_length_le (by rw [bl_len]; exact Nat.le_refl _)]
set_option maxHeartbeats 1600000 in
theorem impl_entityOf (b : UInt8) (w : World) : Calls Try.prog 80 #[.int .u8 (b.toNat : Int)] w fun e w' => e = .returned (.string (mkS (entB b))) ∧ w = w' := by
  rcases ent_cases b with (rfl | rfl | rfl | rfl | rfl) | ⟨h, h1, h2, h3, h4, h5⟩
  · go_enter Try.func80, Try.ntmps80
    go_wp2
    go_ret
    exact ⟨rfl, rfl⟩
  · go_enter Try.func80, Try.ntmps80
    go_wp2
    go_ret
    exact ⟨rfl, rfl⟩
  · go_enter Try.func80, Try.ntmps80
    go_wp2
    go_ret
    exact ⟨rfl, rfl⟩
  · go_enter Try.func80, Try.ntmps80
    go_wp2
    go_ret
    exact ⟨rfl, rfl⟩
  · go_enter Try.func80, Try.ntmps80
    go_wp2
    go_ret
    exact ⟨rfl, rfl⟩
  · have e1 : ((b.toNat : Int) == 38) = false := bneN (n := 38) 38 rfl h1
    have e2 : ((b.toNat : Int) == 60) = false := bneN (n := 60) 60 rfl h2
    have e3 : ((b.toNat : Int) == 62) = false := bneN (n := 62) 62 rfl h3
    have e4 : ((b.toNat : Int) == 34) = false := bneN (n := 34) 34 rfl h4
    have e5 : ((b.toNat : Int) == 39) = false := bneN (n := 39) 39 rfl h5
    rw [h]
    clear h h1 h2 h3 h4 h5
    go_enter Try.func80, Try.ntmps80
    go_wp2
    go_ret
    exact ⟨rfl, rfl⟩
set_option maxHeartbeats 1600000 in
theorem spec_l2Entity (b : UInt8) (w : World) : Calls Try.prog 95 #[.int .u8 (b.toNat : Int)] w fun e w' => e = .returned (.string (mkS (escB b))) ∧ Below w.heap.size w w' := by
  rcases ent_cases b with (rfl | rfl | rfl | rfl | rfl) | ⟨h, h1, h2, h3, h4, h5⟩
  · go_enter Try.func95, Try.ntmps95
    go_wp2
    go_ret
    exact ⟨rfl, Below.refl _ _⟩
  · go_enter Try.func95, Try.ntmps95
    go_wp2
    go_ret
    exact ⟨rfl, Below.refl _ _⟩
  · go_enter Try.func95, Try.ntmps95
    go_wp2
    go_ret
    exact ⟨rfl, Below.refl _ _⟩
  · go_enter Try.func95, Try.ntmps95
    go_wp2
    go_ret
    exact ⟨rfl, Below.refl _ _⟩
  · go_enter Try.func95, Try.ntmps95
    go_wp2
    go_ret
    exact ⟨rfl, Below.refl _ _⟩
  · have e1 : ((b.toNat : Int) == 38) = false := bneN (n := 38) 38 rfl h1
    have e2 : ((b.toNat : Int) == 60) = false := bneN (n := 60) 60 rfl h2
    have e3 : ((b.toNat : Int) == 62) = false := bneN (n := 62) 62 rfl h3
    have e4 : ((b.toNat : Int) == 34) = false := bneN (n := 34) 34 rfl h4
    have e5 : ((b.toNat : Int) == 39) = false := bneN (n := 39) 39 rfl h5
    have e6 : escB b = [b] := by unfold escB; rw [if_pos h]
    have e7 := one_str w b
    rw [e6]
    clear h h1 h2 h3 h4 h5 e6
    go_enter Try.func95, Try.ntmps95
    go_wp2
    go_ret
    exact ⟨rfl, (Below.refl _ _).alloc (Nat.le_refl _) _⟩
theorem bld_below {T e : TypeId} {B b : Nat} {bs : List Value} {w w' : World} (h : Lib.IsBuilder T e B b bs w) (hb : Below w.heap.size w w') : Lib.IsBuilder T e B b bs w' := by
  have one : ∀ p, Lib.BuilderAt T e B b p bs w → Lib.BuilderAt T e B b p bs w' := fun p h => by
    obtain ⟨h1, v, h2, h3, h4⟩ := h
    exact ⟨h1, v, (hb.block b (bld_lt h2)).trans h2, own_below h3 hb, h4⟩
  rcases h with h | h
  · exact .inl (one _ h)
  · exact .inr (one _ h)
theorem str_cells (l : List UInt8) : Lib.strCells (mkS l) = Lib.byteCells l := rfl
theorem byte_app (l m : List UInt8) : Lib.byteCells (l ++ m) = Lib.byteCells l ++ Lib.byteCells m := by simp [Lib.byteCells]
theorem byte_len (l : List UInt8) : (Lib.byteCells l).length = l.length := by simp [Lib.byteCells]
set_option maxRecDepth 100000 in
set_option maxHeartbeats 1600000 in
theorem impl_EscapeText (s : ByteArray) (w : World) (hs : s.size ≤ 1048576) : Calls Try.prog 59 #[.string s] w fun e w' => e = .returned (.string (mkS (escR (bl s)))) ∧ Below w.heap.size w w' := by
  go_enter Try.func59, Try.ntmps59
  have hF := Lib.hid (Lib.fresh_isBuilder 73 5 w)
  go_wp2
  go_loopw [4] (fun t wr => ∃ k : Nat, k ≤ s.size ∧ t = .int .i64 (k : Int) ∧ Hid (Lib.IsBuilder 73 5 w.heap.size w.heap.size (Lib.byteCells (escR ((bl s).take k))) wr) ∧ Below w.heap.size w wr) (fun t _ => s.size - (intOf t).toNat)
  case atStart => exact ⟨0, Nat.zero_le _, rfl, hF.out, (Below.refl _ _).alloc (Nat.le_refl _) _⟩
  case round =>
    obtain ⟨k, hk, rfl, HBd, hb⟩ := hrel
    have BW := Lib.hid hb
    have hws := hb.size
    clear hb hF
    by_cases hks : k < s.size
    · have hi : (k : Int) < (s.size : Int) := by omega
      have HT := Lib.hid (escR_take hks)
      have HL := Lib.hid (escR_len ((bl s).take k))
      have hl : (escR ((bl s).take k)).length ≤ 6 * s.size := by have := HL.out; rw [List.length_take] at this; omega
      have CE := Lib.hid (fun W => impl_entityOf s[k] W)
      rcases hen : entB s[k] with _ | ⟨x, xs⟩
      · rw [hen] at CE
        have hne : ((mkS ([] : List UInt8)).toList.isEmpty) = true := by rw [ByteArray.toList_eq]; rfl
        have HE : Hid (escB s[k] = [s[k]]) := by show _ = _; unfold escB; rw [if_pos hen]
        clear hen
        have CW := Lib.hid (bld_WriteByte _ _ _ (s[k].toNat : Int) _ HBd.out (by rw [byte_len]; omega) hws)
        have HE2 : Hid (Lib.byteCells (escR ((bl s).take k)) ++ [.int .u8 (s[k].toNat : Int)] = Lib.byteCells (escR ((bl s).take (k + 1)))) := by show _ = _; rw [HT.out, HE.out, byte_app]; rfl
        go_wp2_with fail
        refine (CE.out _).mono ?_
        rintro e w1 ⟨rfl, rfl⟩
        go_wp2_with fail
        refine (CW.out).mono ?_
        rintro e w2 ⟨rfl, h2, b2, _⟩
        have H2 := Lib.hid h2
        have B2 := Lib.hid (BW.out.trans b2)
        clear h2 b2
        go_wp2
        go_roundw
        case rel => exact ⟨k + 1, by omega, by go_num, by rw [← HE2.out]; exact H2, B2.out⟩
        case measure => simp [intOf]; omega
      · have HE : Hid (escB s[k] = entB s[k]) := by show _ = _; unfold escB; rw [if_neg (by rw [hen]; simp)]
        have hne : ((mkS (entB s[k])).toList.isEmpty) = false := by rw [ByteArray.toList_eq, hen]; rfl
        have hln : (entB s[k]).length ≤ 6 := by have := (escB_len s[k]).1; rw [HE.out] at this; exact this
        clear hen
        have CW := Lib.hid (bld_WriteString _ _ _ (mkS (entB s[k])) _ HBd.out (by rw [byte_len, mkS_size]; omega) hws)
        have HE2 : Hid (Lib.byteCells (escR ((bl s).take k)) ++ Lib.strCells (mkS (entB s[k])) = Lib.byteCells (escR ((bl s).take (k + 1)))) := by show _ = _; rw [HT.out, HE.out, byte_app]; rfl
        generalize entB s[k] = en at *
        go_wp2_with fail
        refine (CE.out _).mono ?_
        rintro e w1 ⟨rfl, rfl⟩
        go_wp2_with fail
        refine (CW.out).mono ?_
        rintro e w2 ⟨rfl, h2, b2, _⟩
        have H2 := Lib.hid h2
        have B2 := Lib.hid (BW.out.trans b2)
        clear h2 b2
        go_wp2
        go_roundw
        case rel => exact ⟨k + 1, by omega, by go_num, by rw [← HE2.out]; exact H2, B2.out⟩
        case measure => simp [intOf]; omega
    · obtain rfl : k = s.size := by omega
      have HA := Lib.hid (escR_all s)
      have CS := Lib.hid (Try.Builder_String_any _ _ _ _ HBd.out hws)
      go_wp2_with fail
      refine (CS.out).mono ?_
      rintro e w2 ⟨rfl, b2⟩
      have B2 := Lib.hid (BW.out.trans b2)
      clear b2
      go_wp2
      go_ret
      exact ⟨by rw [← HA.out]; rfl, B2.out⟩
set_option maxRecDepth 100000 in
set_option maxHeartbeats 1600000 in
theorem spec_EscapeText (s : ByteArray) (w : World) (hs : s.size ≤ 1048576) : Calls Try.prog 82 #[.string s] w fun e w' => e = .returned (.string (mkS (escR (bl s)))) ∧ Below w.heap.size w w' := by
  go_enter Try.func82, Try.ntmps82
  go_wp2
  go_loopw [3, 4] (fun o t wr => ∃ k : Nat, k ≤ s.size ∧ t = .int .i64 (k : Int) ∧ o = .string (mkS (escR ((bl s).take k))) ∧ Below w.heap.size w wr) (fun _ t _ => s.size - (intOf t).toNat)
  case atStart => exact ⟨0, Nat.zero_le _, rfl, rfl, Below.refl _ _⟩
  case round =>
    obtain ⟨k, hk, rfl, rfl, hb⟩ := hrel
    have BW := Lib.hid hb
    have hws := hb.size
    clear hb
    by_cases hks : k < s.size
    · have hi : (k : Int) < (s.size : Int) := by omega
      have HT := Lib.hid (escR_take hks)
      have HL := Lib.hid (escR_len ((bl s).take k))
      have hl : (escR ((bl s).take k)).length ≤ 6 * s.size := by have := HL.out; rw [List.length_take] at this; omega
      have CE := Lib.hid (fun W => spec_l2Entity s[k] W)
      have hln : (escB s[k]).length ≤ 6 := (escB_len s[k]).1
      have HE2 : Hid (mkS (escR ((bl s).take k)) ++ mkS (escB s[k]) = mkS (escR ((bl s).take (k + 1)))) := by show _ = _; rw [HT.out, mkS_app]
      have hsz : (mkS (escR ((bl s).take k))).size + (mkS (escB s[k])).size ≤ 9223372036854775807 := by rw [mkS_size, mkS_size]; omega
      generalize mkS (escR ((bl s).take k)) = A at *
      generalize mkS (escB s[k]) = en at *
      go_wp2_with fail
      refine (CE.out _).mono ?_
      rintro e w1 ⟨rfl, b1⟩
      have B1 := Lib.hid (BW.out.trans (b1.mono hws))
      clear b1
      go_wp2
      go_roundw
      case rel => exact ⟨k + 1, by omega, by go_num, by rw [← HE2.out], B1.out⟩
      case measure => simp [intOf]; omega
    · obtain rfl : k = s.size := by omega
      have HA := Lib.hid (escR_all s)
      go_wp2
      go_ret
      exact ⟨by rw [HA.out]; rfl, BW.out⟩
end Go.Proofs.Ytdoomfckdjjlaaa

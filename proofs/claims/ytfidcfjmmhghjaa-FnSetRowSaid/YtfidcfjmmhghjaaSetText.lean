/- SetText, of the program and of the reference. -/
import Derived.Test.YtfidcfjmmhghjaaShape
import Derived.Test.YtfidcfjmmhghjaaBv
import Derived.Test.YtfidcfjmmhghjaaShelf
namespace Go.Proofs.Ytfidcfjmmhghjaa
open Go.RowKit

theorem ret_str {a b : ByteArray} (h : a = b) : Ending.returned (.string a) = .returned (.string b) := by rw [h]
def padT (b : UInt8) (L : Bool) (l : List UInt8) (j : Nat) : List UInt8 := if L then l ++ Lib.repeatL [b] j else Lib.repeatL [b] j ++ l
theorem rep_snoc (b : UInt8) (j : Nat) : Lib.repeatL [b] (j + 1) = Lib.repeatL [b] j ++ [b] := by rw [Lib.repeatL_add, Lib.repeatL_one]
theorem rep_cons (b : UInt8) (j : Nat) : Lib.repeatL [b] (j + 1) = [b] ++ Lib.repeatL [b] j := rfl
theorem padT_zero (b : UInt8) (L : Bool) (l : List UInt8) : padT b L l 0 = l := by cases L <;> simp [padT, Lib.repeatL]
theorem padT_length (b : UInt8) (L : Bool) (l : List UInt8) (j : Nat) : (padT b L l j).length = l.length + j := by
  cases L <;> simp [padT, Lib.repeatL_length] <;> omega
theorem padT_left (b : UInt8) (l : List UInt8) (j : Nat) : padT b true l (j + 1) = padT b true l j ++ [b] := by simp [padT, rep_snoc]
theorem padT_right (b : UInt8) (l : List UInt8) (j : Nat) : padT b false l (j + 1) = [b] ++ padT b false l j := by simp [padT, rep_cons]
/-- The text set in its field. -/
def setB (W : Int) (b : UInt8) (L : Bool) (l : List UInt8) : List UInt8 := if shB W (b.toNat : Int) = true ∧ textB l = true then padT b L l (W - l.length).toNat else []
theorem setB_yes {W : Int} {b : UInt8} {L : Bool} {l : List UInt8} (h : shB W (b.toNat : Int) = true) (h' : textB l = true) : setB W b L l = padT b L l (W - l.length).toNat := by rw [setB, if_pos ⟨h, h'⟩]
theorem setB_no {W : Int} {b : UInt8} {L : Bool} {l : List UInt8} (h : shB W (b.toNat : Int) = false) : setB W b L l = [] := by rw [setB, if_neg (by rw [h]; simp)]
theorem setB_bad {W : Int} {b : UInt8} {L : Bool} {l : List UInt8} (h : textB l = false) : setB W b L l = [] := by rw [setB, if_neg (by rw [h]; simp)]
theorem one_str (w : World) (b : UInt8) : (convert 22 9 (.slice (some ⟨w.heap.size, 0, none⟩) 1 1)).run Try.prog (w.alloc (.cells #[.int .u8 (b.toNat : Int)] 5 (0, 0))) = .ok (.string (mkS [b])) (w.alloc (.cells #[.int .u8 (b.toNat : Int)] 5 (0, 0))) :=
  conv_row _ _ 1 1 [b] (own_formn_row (own_new w #[.int .u8 (b.toNat : Int)] 5 1 rfl (by omega))) rfl
theorem shB_wide {W F : Int} (h : shB W F = true) : 0 ≤ W ∧ W ≤ 40 := by
  simp only [shB, decide_eq_true_iff] at h
  exact ⟨h.1, h.2.1⟩

def strLen (v : Value) : Nat := match v with | .string x => x.size | _ => 0
theorem strLen_string (x : ByteArray) : strLen (.string x) = x.size := rfl

set_option maxHeartbeats 1600000 in
theorem spec_SetText (W : Int) (b : UInt8) (L : Bool) (s : ByteArray) (w : World) (hs : s.size ≤ 4611686018427387904) :
    Calls Try.prog 19 #[.agg #[.int .i64 W, .int .u8 (b.toNat : Int), .bool L], .string s] w fun e w' => e = .returned (.string (mkS (setB W b L (bl s)))) ∧ Below w.heap.size w w' := by
  have CV := fun W' => spec_ShapeValid W (b.toNat : Int) L W'
  have CT := fun W' => spec_TextValid s W' (by omega)
  rcases hv : shB W (b.toNat : Int) with _ | _
  · rw [hv] at CV
    have CV' := Lib.hid CV
    have HB : Hid (mkS (setB W b L (bl s)) = ⟨#[]⟩) := by rw [setB_no hv]; rfl
    clear CV CT hv
    go_enter Try.func19, Try.ntmps19
    go_wp2_with fail
    refine (CV'.out _).mono ?_
    rintro e w1 ⟨rfl, b1⟩
    go_wp2
    go_ret
    exact ⟨ret_str HB.out.symm, new_below b1⟩
  · rcases ht : textB (bl s) with _ | _
    · rw [hv] at CV
      rw [ht] at CT
      have CV' := Lib.hid CV
      have CT' := Lib.hid CT
      have HB : Hid (mkS (setB W b L (bl s)) = ⟨#[]⟩) := by rw [setB_bad ht]; rfl
      clear CV CT hv ht
      go_enter Try.func19, Try.ntmps19
      go_wp2_with fail
      refine (CV'.out _).mono ?_
      rintro e w1 ⟨rfl, b1⟩
      go_wp2_with fail
      refine (CT'.out _).mono ?_
      rintro e w2 ⟨rfl, rfl⟩
      go_wp2
      go_ret
      exact ⟨ret_str HB.out.symm, new_below b1⟩
    · have hW := shB_wide hv
      have hsz := textB_size ht
      have HB : Hid (mkS (setB W b L (bl s)) = mkS (padT b L (bl s) (W - s.size).toNat)) := by rw [setB_yes hv ht, bl_len]; rfl
      rw [hv] at CV
      rw [ht] at CT
      have CV' := Lib.hid CV
      have CT' := Lib.hid CT
      clear CV CT hv ht
      have hW1 := hW.1
      have hW2 := hW.2
      clear hW
      go_enter Try.func19, Try.ntmps19
      go_wp2_with fail
      refine (CV'.out _).mono ?_
      rintro e w1 ⟨rfl, b1⟩
      go_wp2_with fail
      refine (CT'.out _).mono ?_
      rintro e w2 ⟨rfl, rfl⟩
      have B1 := Lib.hid b1
      clear b1 CV' CT'
      go_wp2
      go_loopw [5] (fun o wr => ∃ (j : Nat) (x : ByteArray), o = .string x ∧ j ≤ (W - s.size).toNat ∧ x.size = s.size + j ∧ Hid (bl x = padT b L (bl s) j) ∧ Below w1.heap.size w1 wr) (fun o _ => 1000 - strLen o)
      case atStart => exact ⟨0, s, rfl, Nat.zero_le _, rfl, (padT_zero _ _ _).symm, Below.refl _ _⟩
      case round =>
        obtain ⟨j, x, rfl, hj, hx, HX, hb⟩ := hrel
        have B2 := Lib.hid (B1.out.trans (hb.mono B1.out.size))
        have BR := Lib.hid hb
        clear hb
        have c0 : wr.cell? ⟨w.heap.size, 0, none⟩ = some (.int .i64 W) := new_kept B2.out 0
        have c1 : wr.cell? ⟨w.heap.size, 1, none⟩ = some (.int .u8 (b.toNat : Int)) := new_kept B2.out 1
        have c2 : wr.cell? ⟨w.heap.size, 2, none⟩ = some (.bool L) := new_kept B2.out 2
        have hone := one_str wr b
        have hm1 : (mkS [b]).size = 1 := mkS_size _
        have hj40 : j ≤ 40 := by omega
        by_cases h0 : (x.size : Int) < W
        · cases L
          · go_wp2
            go_roundw
            case rel => exact ⟨j + 1, _, rfl, by omega, by rw [← bl_len, bl_app, List.length_append, bl_mkS, bl_len]; simp; omega, by rw [bl_app, bl_mkS, HX.out, padT_right]; rfl, BR.out.alloc BR.out.size _⟩
            case measure => simp [strLen]; omega
          · go_wp2
            go_roundw
            case rel => exact ⟨j + 1, _, rfl, by omega, by rw [← bl_len, bl_app, List.length_append, bl_mkS, bl_len]; simp; omega, by rw [bl_app, bl_mkS, HX.out, padT_left]; rfl, BR.out.alloc BR.out.size _⟩
            case measure => simp [strLen]; omega
        · have hjn : j = (W - s.size).toNat := by omega
          have HR : Hid (mkS (setB W b L (bl s)) = x) := by rw [HB.out, ← hjn, ← HX.out, mkS_bl]; rfl
          clear hjn
          go_wp2
          go_ret
          exact ⟨ret_str HR.out.symm, new_below B2.out⟩

set_option maxRecDepth 100000 in
set_option maxHeartbeats 1600000 in
theorem impl_SetText (W : Int) (b : UInt8) (L : Bool) (s : ByteArray) (w : World) (hs : s.size ≤ 4611686018427387904) :
    Calls Try.prog 8 #[.agg #[.int .i64 W, .int .u8 (b.toNat : Int), .bool L], .string s] w fun e w' => e = .returned (.string (mkS (setB W b L (bl s)))) ∧ Below w.heap.size w w' := by
  have CV := fun W' => impl_ShapeValid W (b.toNat : Int) L W'
  have CT := fun W' => impl_TextValid s W' (by omega)
  rcases hv : shB W (b.toNat : Int) with _ | _
  · rw [hv] at CV
    have CV' := Lib.hid CV
    have HB : Hid (mkS (setB W b L (bl s)) = ⟨#[]⟩) := by rw [setB_no hv]; rfl
    clear CV CT hv
    go_enter Try.func8, Try.ntmps8
    go_wp2_with fail
    refine (CV'.out _).mono ?_
    rintro e w1 ⟨rfl, b1⟩
    go_wp2
    go_ret
    exact ⟨ret_str HB.out.symm, new_below b1⟩
  · rcases ht : textB (bl s) with _ | _
    · rw [hv] at CV
      rw [ht] at CT
      have CV' := Lib.hid CV
      have CT' := Lib.hid CT
      have HB : Hid (mkS (setB W b L (bl s)) = ⟨#[]⟩) := by rw [setB_bad ht]; rfl
      clear CV CT hv ht
      go_enter Try.func8, Try.ntmps8
      go_wp2_with fail
      refine (CV'.out _).mono ?_
      rintro e w1 ⟨rfl, b1⟩
      go_wp2_with fail
      refine (CT'.out _).mono ?_
      rintro e w2 ⟨rfl, rfl⟩
      go_wp2
      go_ret
      exact ⟨ret_str HB.out.symm, new_below b1⟩
    · have hW := shB_wide hv
      have hsz := textB_size ht
      obtain ⟨n, hn⟩ : ∃ n : Nat, n = (W - s.size).toNat := ⟨_, rfl⟩
      have HB : Hid (mkS (setB W b L (bl s)) = mkS (padT b L (bl s) n)) := by rw [setB_yes hv ht, bl_len, hn]; rfl
      have hn40 : n ≤ 40 := by omega
      rw [hv] at CV
      rw [ht] at CT
      have CV' := Lib.hid CV
      have CT' := Lib.hid CT
      clear CV CT hv ht
      have hW1 := hW.1
      have hW2 := hW.2
      clear hW
      go_enter Try.func8, Try.ntmps8
      go_wp2_with fail
      refine (CV'.out _).mono ?_
      rintro e w1 ⟨rfl, b1⟩
      go_wp2_with fail
      refine (CT'.out _).mono ?_
      rintro e w2 ⟨rfl, rfl⟩
      have B1 := Lib.hid b1
      clear b1 CV' CT'
      have c0 : w1.cell? ⟨w.heap.size, 0, none⟩ = some (.int .i64 W) := new_kept B1.out 0
      have c1 : w1.cell? ⟨w.heap.size, 1, none⟩ = some (.int .u8 (b.toNat : Int)) := new_kept B1.out 1
      have c2 : w1.cell? ⟨w.heap.size, 2, none⟩ = some (.bool L) := new_kept B1.out 2
      have hone := one_str w1 b
      have B2 := Lib.hid (B1.out.alloc B1.out.size (.cells #[.int .u8 (b.toNat : Int)] 5 (0, 0)))
      have d0 : (w1.alloc (.cells #[.int .u8 (b.toNat : Int)] 5 (0, 0))).cell? ⟨w.heap.size, 0, none⟩ = some (.int .i64 W) := new_kept B2.out 0
      have CR : ∀ W' (i : Int), i = (n : Int) → Calls Try.prog 21 #[.string (mkS [b]), .int .i64 i] W' fun e w' => e = .returned (.string (mkS (Lib.repeatL [b] n))) ∧ Below W'.heap.size W' w' := fun W' i hi => by
        subst hi
        exact Try.strings_Repeat (mkS [b]) n W' (by omega) (by rw [mkS_size]; simp; omega)
      have hpl : (mkS (Lib.repeatL [b] n)).size = n := by rw [mkS_size, Lib.repeatL_length]; simp
      have CR' := Lib.hid CR
      clear CR
      have hi : max 0 (W - (s.size : Int)) = (n : Int) := by omega
      have CI := Lib.hid (fun W' => CR'.out W' _ hi)
      have HP : Hid (∀ x, x = padT b L (bl s) n → mkS (setB W b L (bl s)) = mkS x) := fun x hx => by rw [HB.out, hx]
      clear CR' hi hn HB
      go_wp2_with fail
      refine (CI.out _).mono ?_
      rintro e w3 ⟨rfl, b3⟩
      have B3 := Lib.hid (B2.out.trans (b3.mono B2.out.size))
      have c3 : w3.cell? ⟨w.heap.size, 2, none⟩ = some (.bool L) := new_kept B3.out 2
      clear b3
      cases L
      · go_wp2
        go_ret
        exact ⟨ret_str (by rw [HP.out _ rfl]; exact bl_inj (by rw [bl_app, bl_mkS, bl_mkS]; rfl)), new_below B3.out⟩
      · go_wp2
        go_ret
        exact ⟨ret_str (by rw [HP.out _ rfl]; exact bl_inj (by rw [bl_app, bl_mkS, bl_mkS]; rfl)), new_below B3.out⟩
end Go.Proofs.Ytfidcfjmmhghjaa

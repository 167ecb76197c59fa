/- GroupNumber, of the program and of the reference: both return the digits with the sign between. -/
import Derived.Test.YtfidcfjmmhghjaaDoorTab
import Derived.BigRegion
namespace Go.Proofs.YtfidcfjmmhghjaaDoor
open Go.RowKit

/-- At most six digits with a sign between. -/
def grpL (sg : UInt8) (d : List UInt8) : List UInt8 := if d.length ≤ 3 then d else d.take (d.length - 3) ++ sg :: d.drop (d.length - 3)
def grpOk (n : Int) (sg : UInt8) : Bool := decide (-999999 ≤ n) && decide (n ≤ 999999) && decide (32 ≤ sg.toNat) && decide (sg.toNat ≤ 126)
/-- A grouped number. -/
def grpR (n : Int) (sg : UInt8) : List UInt8 := if grpOk n sg = true then (if n < 0 then [45] else []) ++ grpL sg (Lib.decDigits n.natAbs) else []
theorem grpR_no {n : Int} {sg : UInt8} (h : ¬ (-999999 ≤ n ∧ n ≤ 999999 ∧ 32 ≤ sg.toNat ∧ sg.toNat ≤ 126)) : grpR n sg = [] := by
  unfold grpR
  rw [if_neg]
  unfold grpOk
  simp only [Bool.and_eq_true, decide_eq_true_iff]
  exact fun e => h ⟨e.1.1.1, e.1.1.2, e.1.2, e.2⟩
theorem grpR_yes {n : Int} {sg : UInt8} (h : -999999 ≤ n ∧ n ≤ 999999 ∧ 32 ≤ sg.toNat ∧ sg.toNat ≤ 126) : grpR n sg = (if n < 0 then [45] else []) ++ grpL sg (Lib.decDigits n.natAbs) := by
  unfold grpR
  rw [if_pos]
  unfold grpOk
  simp only [Bool.and_eq_true, decide_eq_true_iff]
  exact ⟨⟨⟨h.1, h.2.1⟩, h.2.2.1⟩, h.2.2.2⟩
theorem dec_len : ∀ (k u : Nat), u < 10 ^ (k + 1) → (Lib.decDigits u).length ≤ k + 1 := by
  intro k
  induction k with
  | zero => intro u h; rw [Lib.decDigits, dif_pos (by omega)]; simp
  | succ k ih =>
    intro u h
    rw [Lib.decDigits]
    split
    · simp
    · rw [List.length_append, List.length_singleton]
      have := ih (u / 10) (by rw [Nat.div_lt_iff_lt_mul (by omega)]; rw [Nat.pow_succ] at h; exact h)
      omega
theorem dec_len6 {u : Nat} (h : u ≤ 999999) : (Lib.decDigits u).length ≤ 6 := dec_len 5 u (by omega)
theorem dec_pos (u : Nat) : 1 ≤ (Lib.decDigits u).length := by
  rw [Lib.decDigits]; split <;> simp
theorem ret_strG {a b : ByteArray} (h : a = b) : Ending.returned (.string a) = .returned (.string b) := by rw [h]

theorem dig_strG (W : World) (j : Nat) : (convert 27 9 (.slice (some ⟨W.heap.size, 0, none⟩) 1 1)).run Tryd.prog (W.alloc (.cells #[.int .u8 (48 + (j : Int) % 10)] 5 (0, 0))) = .ok (.string (mkS [UInt8.ofNat (48 + j % 10)])) (W.alloc (.cells #[.int .u8 (48 + (j : Int) % 10)] 5 (0, 0))) := by
  have e : (48 + (j : Int) % 10) = ((UInt8.ofNat (48 + j % 10)).toNat : Int) := by rw [UInt8.toNat_ofNat']; omega
  rw [e]
  exact conv_row _ _ 1 1 [UInt8.ofNat (48 + j % 10)] (own_formn_row (own_new W #[.int .u8 ((UInt8.ofNat (48 + j % 10)).toNat : Int)] 5 1 rfl (by omega))) rfl
set_option maxRecDepth 100000 in
set_option maxHeartbeats 800000 in
theorem spec_l26Number (u : Nat) (w : World) (hu : u ≤ 999999) :
    Calls Tryd.prog 15 #[.int .i64 (u : Int)] w fun e w' => e = .returned (.string (mkS (Lib.decDigits u))) ∧ Below w.heap.size w w' := by
  have hneg : decide ((u : Int) < 0) = false := by simp
  have hone := dig_strG w u
  have hm1 : (mkS [UInt8.ofNat (48 + u % 10)]).size = 1 := mkS_size _
  have H0 : Hid (Lib.decDigits u = (if u < 10 then [] else Lib.decDigits (u / 10)) ++ bl (mkS [UInt8.ofNat (48 + u % 10)])) := by
    show _ = _
    rw [bl_mkS, Lib.decDigits]
    split
    · rename_i h; rw [Nat.mod_eq_of_lt h]; simp
    · simp
  have B0 : Below w.heap.size w (w.alloc (.cells #[.int .u8 (48 + (u : Int) % 10)] 5 (0, 0))) := (Below.refl _ _).alloc (Nat.le_refl _) _
  have HB0 := Lib.hid B0
  clear B0
  generalize mkS [UInt8.ofNat (48 + u % 10)] = d at H0 hone hm1
  go_enter Tryd.func15, Tryd.ntmps15
  go_wp2
  go_loopw [0, 4] (fun q o wr => ∃ (v : Nat) (x : ByteArray), q = .int .i64 (v : Int) ∧ o = .string x ∧ v ≤ u ∧ x.size + v ≤ u + 1 ∧ Hid (Lib.decDigits u = (if v < 10 then [] else Lib.decDigits (v / 10)) ++ bl x) ∧ Below w.heap.size w wr) (fun q _ _ => (intOf q).toNat)
  case atStart => exact ⟨u, d, rfl, rfl, Nat.le_refl _, by omega, H0, HB0.out⟩
  case round =>
    clear hone hm1 H0
    obtain ⟨v, x, rfl, rfl, hv, hx, HX, hb⟩ := hrel
    by_cases h9 : 9 < v
    · have hone := dig_strG wr (v / 10)
      have hm1 : (mkS [UInt8.ofNat (48 + v / 10 % 10)]).size = 1 := mkS_size _
      have HX2 : Hid (Lib.decDigits u = (if v / 10 < 10 then [] else Lib.decDigits (v / 10 / 10)) ++ bl (mkS [UInt8.ofNat (48 + v / 10 % 10)] ++ x)) := by
        show _ = _
        rw [HX.out, if_neg (by omega), bl_app, bl_mkS]
        conv => lhs; rw [Lib.decDigits]
        split
        · rename_i h; rw [Nat.mod_eq_of_lt h]; simp
        · simp
      have hsz : (mkS [UInt8.ofNat (48 + v / 10 % 10)] ++ x).size = 1 + x.size := by rw [ByteArray.size_append, mkS_size]; rfl
      have HSZ := Lib.hid hsz
      have HBA := Lib.hid (hb.alloc hb.size (.cells #[.int .u8 (48 + ((v / 10 : Nat) : Int) % 10)] 5 (0, 0)))
      clear hsz
      generalize mkS [UInt8.ofNat (48 + v / 10 % 10)] = d2 at HX2 HSZ hone hm1
      rw [show ((v / 10 : Nat) : Int) = (v : Int) / 10 by omega] at hone HBA
      go_wp2
      go_roundw
      case rel => exact ⟨v / 10, d2 ++ x, by go_num, rfl, by omega, by rw [HSZ.out]; omega, HX2, HBA.out⟩
      case measure => simp [intOf]; omega
    · have HE : Hid (⟨#[]⟩ ++ x = mkS (Lib.decDigits u)) := by
        show _ = _
        apply bl_inj
        rw [bl_app, bl_mkS, HX.out, if_pos (by omega)]
        rfl
      go_wp2
      go_ret
      exact ⟨ret_strG HE.out, hb⟩
end Go.Proofs.YtfidcfjmmhghjaaDoor

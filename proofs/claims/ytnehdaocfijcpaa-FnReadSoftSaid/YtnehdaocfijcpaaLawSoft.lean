/- The walk of the law FnExactSoftLines. -/
import Derived.Test.YtnehdaocfijcpaaSoftI
import Derived.Test.YtnehdaocfijcpaaByteS
namespace Go.Proofs.Ytnehdaocfijcpaa
open Go.RowKit

theorem stepS_len (st : List (List UInt8) × List UInt8) (b : UInt8) : (stepS st b).1.length ≤ st.1.length + 1 := by unfold stepS; split <;> simp
theorem softF_len (l : List UInt8) : (softF l).1.length ≤ l.length := by
  have h : ∀ (l : List UInt8) (st : List (List UInt8) × List UInt8), (l.foldl stepS st).1.length ≤ st.1.length + l.length := by
    intro l
    induction l with
    | nil => intro st; simp
    | cons b l ih =>
      intro st
      have h1 := ih (stepS st b)
      have h2 := stepS_len st b
      simp only [List.foldl_cons, List.length_cons]
      omega
  have := h l ([], [])
  simpa [softF] using this
theorem softL_len (l : List UInt8) : (softL l).length ≤ 61 := by
  unfold softL
  split
  · have := softF_len l
    simp
    omega
  · simp
/-- The bytes that a slice of n bytes holds. -/
def argB (z : List Int) (n : Nat) : List UInt8 := (List.range n).map fun i => UInt8.ofNat (z.getD i 0).toNat
theorem argB_len (z : List Int) (n : Nat) : (argB z n).length = n := by simp [argB]
theorem arg_row {w : World} {a : Option Addr} {n c : Nat} {z : List Int} (h : IsRow .u8 w a n c z) : RowAt w a ((argB z n).map byteV) := bytes_row h.bytes

set_option maxRecDepth 100000 in
set_option maxHeartbeats 1600000 in
theorem walk_FnExactSoftLines (a : Option Addr) (n c : Nat) (z : List Int) (w : World) (hrow : IsRow .u8 w a n c z) :
    Calls Try.prog 3 #[.slice a n c] w fun e w' => e = .returned (.bool true) ∧ Below w.heap.size w w' := by
  have hR := Lib.hid (arg_row hrow)
  have hL := Lib.hid (argB_len z n)
  clear hrow
  by_cases hn : 1048576 < n
  · go_enter Try.func3, Try.ntmps3
    go_wp2
    go_ret
    exact ⟨rfl, Below.refl _ _⟩
  · generalize argB z n = l at hR hL
    have CS : Hid (∀ a c W, RowAt W a (l.map byteV) → Calls Try.prog 7 #[.slice a n c] W fun e w' => ∃ v, e = .returned v ∧ w'.ownsRow W.heap.size 9 1 v (softL l).length ((softL l).map strV) ∧ Below W.heap.size W w') := fun a c W h => spec_SoftLines a n c l W h hL.out (by omega)
    have CI : Hid (∀ a c W, RowAt W a (l.map byteV) → Calls Try.prog 9 #[.slice a n c] W fun e w' => ∃ v, e = .returned v ∧ w'.ownsRow W.heap.size 9 1 v (softL l).length ((softL l).map strV) ∧ Below W.heap.size W w') := fun a c W h => impl_SoftLines a n c l W h hL.out (by omega)
    have hle := softL_len l
    generalize softL l = r at CS CI hle
    go_enter Try.func3, Try.ntmps3
    go_wp2_with fail
    refine (toByteS_any _ _ _ l _ (hR.out.below (Nat.le_refl _) (Below.refl _ _)) hL.out (by omega)).mono ?_
    rintro e w1 ⟨v1, rfl, o1, b1⟩
    obtain ⟨ap, cp, rfl, r1, kpx, kpy, g1⟩ := own_formn o1
    have B1 : Hid (Below w.heap.size w w1) := b1
    have S1 := Lib.hid b1.size
    have Op_1 := Lib.hid o1
    have Mp := Lib.hid o1
    clear o1 r1 b1 g1
    go_wp2_with fail
    refine (CS.out _ _ _ (own_formn_row Op_1.out)).mono ?_
    rintro e w2 ⟨v2, rfl, o2, b2⟩
    obtain ⟨aw, cw, rfl, r2, kwx, kwy, g2⟩ := own_formn o2
    have B2 : Hid (Below w.heap.size w w2) := B1.out.trans (b2.mono B1.out.size)
    have S2 := Lib.hid b2.size
    have Op_2 := Lib.hid (own_below Op_1.out b2)
    have Ow_2 := Lib.hid o2
    have Mw := Lib.hid o2
    clear o2 r2 b2 g2
    go_wp2_with fail
    refine (toByteS_any _ _ _ l _ (hR.out.below (Nat.le_refl _) B2.out) hL.out (by omega)).mono ?_
    rintro e w3 ⟨v3, rfl, o3, b3⟩
    obtain ⟨ax, cx, rfl, r3, kxx, kxy, g3⟩ := own_formn o3
    have B3 : Hid (Below w.heap.size w w3) := B2.out.trans (b3.mono B2.out.size)
    have S3 := Lib.hid b3.size
    have Op_3 := Lib.hid (own_below Op_2.out b3)
    have Ow_3 := Lib.hid (own_below Ow_2.out b3)
    have Ox_3 := Lib.hid o3
    have Mx := Lib.hid o3
    clear o3 r3 b3 g3
    go_wp2_with fail
    refine (CI.out _ _ _ (own_formn_row Ox_3.out)).mono ?_
    rintro e w4 ⟨v4, rfl, o4, b4⟩
    obtain ⟨ag, cg, rfl, r4, kgx, kgy, g4⟩ := own_formn o4
    have B4 : Hid (Below w.heap.size w w4) := B3.out.trans (b4.mono B3.out.size)
    have S4 := Lib.hid b4.size
    have Op_4 := Lib.hid (own_below Op_3.out b4)
    have Ow_4 := Lib.hid (own_below Ow_3.out b4)
    have Ox_4 := Lib.hid (own_below Ox_3.out b4)
    have Og_4 := Lib.hid o4
    have Mg := Lib.hid o4
    clear o4 r4 b4 g4
    go_wp2_with fail
    refine (eqStringS_any _ _ _ _ _ _ r r _ (own_formn_row Og_4.out) (own_formn_row Ow_4.out) rfl rfl (by omega)).mono ?_
    rintro e w5 ⟨rfl, b5⟩
    have B5 : Hid (Below w.heap.size w w5) := B4.out.trans (b5.mono B4.out.size)
    have S5 := Lib.hid b5.size
    have Op_5 := Lib.hid (own_below Op_4.out b5)
    have Ow_5 := Lib.hid (own_below Ow_4.out b5)
    have Ox_5 := Lib.hid (own_below Ox_4.out b5)
    have Og_5 := Lib.hid (own_below Og_4.out b5)
    clear b5
    go_wp2_with fail
    refine (toByteS_any _ _ _ l _ (hR.out.below (Nat.le_refl _) B5.out) hL.out (by omega)).mono ?_
    rintro e w6 ⟨v6, rfl, o6, b6⟩
    obtain ⟨aq, cq, rfl, r6, kqx, kqy, g6⟩ := own_formn o6
    have B6 : Hid (Below w.heap.size w w6) := B5.out.trans (b6.mono B5.out.size)
    have S6 := Lib.hid b6.size
    have Op_6 := Lib.hid (own_below Op_5.out b6)
    have Ow_6 := Lib.hid (own_below Ow_5.out b6)
    have Ox_6 := Lib.hid (own_below Ox_5.out b6)
    have Og_6 := Lib.hid (own_below Og_5.out b6)
    have Oq_6 := Lib.hid o6
    have Mq := Lib.hid o6
    clear o6 r6 b6 g6
    go_wp2_with fail
    refine (eqByteS_any _ _ _ _ _ _ l l _ (own_formn_row Ox_6.out) (own_formn_row Oq_6.out) hL.out hL.out (by omega)).mono ?_
    rintro e w7 ⟨rfl, b7⟩
    have B7 : Hid (Below w.heap.size w w7) := B6.out.trans (b7.mono B6.out.size)
    have S7 := Lib.hid b7.size
    have Op_7 := Lib.hid (own_below Op_6.out b7)
    have Ow_7 := Lib.hid (own_below Ow_6.out b7)
    have Ox_7 := Lib.hid (own_below Ox_6.out b7)
    have Og_7 := Lib.hid (own_below Og_6.out b7)
    have Oq_7 := Lib.hid (own_below Oq_6.out b7)
    clear b7
    go_wp2_with fail
    refine (markByteS_one _ _ _ _ _ Ox_7.out (by omega)).mono ?_
    rintro e w8 ⟨rfl, o8, h8⟩
    have Op_8 := Lib.hid (own_other Op_7.out h8 (fun q hq e => by
      have x1 := own_ge Mp.out q hq
      have x2 := own_ge Mx.out q (by rw [← e])
      have := S1.out; have := S2.out; have := S3.out; have := S4.out; have := S5.out; have := S6.out; have := S7.out; omega))
    have Ow_8 := Lib.hid (own_other Ow_7.out h8 (fun q hq e => by
      have x1 := own_ge Mw.out q hq
      have x2 := own_ge Mx.out q (by rw [← e])
      have := S1.out; have := S2.out; have := S3.out; have := S4.out; have := S5.out; have := S6.out; have := S7.out; omega))
    have Og_8 := Lib.hid (own_other Og_7.out h8 (fun q hq e => by
      have x1 := own_ge Mg.out q hq
      have x2 := own_ge Mx.out q (by rw [← e])
      have := S1.out; have := S2.out; have := S3.out; have := S4.out; have := S5.out; have := S6.out; have := S7.out; omega))
    have Oq_8 := Lib.hid (own_other Oq_7.out h8 (fun q hq e => by
      have x1 := own_ge Mq.out q hq
      have x2 := own_ge Mx.out q (by rw [← e])
      have := S1.out; have := S2.out; have := S3.out; have := S4.out; have := S5.out; have := S6.out; have := S7.out; omega))
    have Ox_8 := Lib.hid o8
    have B8 : Hid (Below w.heap.size w w8) := B7.out.grown h8 (by have := B7.out.size; omega) (fun q hq => by have x2 := own_ge Mx.out q hq; have := S1.out; have := S2.out; have := S3.out; have := S4.out; have := S5.out; have := S6.out; have := S7.out; omega)
    have S8 := Lib.hid h8.size
    clear o8 h8
    go_wp2_with fail
    refine (eqStringS_any _ _ _ _ _ _ r r _ (own_formn_row Og_8.out) (own_formn_row Ow_8.out) rfl rfl (by omega)).mono ?_
    rintro e w9 ⟨rfl, b9⟩
    have B9 : Hid (Below w.heap.size w w9) := B8.out.trans (b9.mono B8.out.size)
    have S9 := Lib.hid b9.size
    have Op_9 := Lib.hid (own_below Op_8.out b9)
    have Ow_9 := Lib.hid (own_below Ow_8.out b9)
    have Ox_9 := Lib.hid (own_below Ox_8.out b9)
    have Og_9 := Lib.hid (own_below Og_8.out b9)
    have Oq_9 := Lib.hid (own_below Oq_8.out b9)
    clear b9
    go_wp2_with fail
    refine (markStringS_one _ _ _ _ _ Og_9.out (by omega)).mono ?_
    rintro e w10 ⟨rfl, o10, h10⟩
    have Op_10 := Lib.hid (own_other Op_9.out h10 (fun q hq e => by
      have x1 := own_ge Mp.out q hq
      have x2 := own_ge Mg.out q (by rw [← e])
      have := S1.out; have := S2.out; have := S3.out; have := S4.out; have := S5.out; have := S6.out; have := S7.out; have := S8.out; have := S9.out; omega))
    have Ow_10 := Lib.hid (own_other Ow_9.out h10 (fun q hq e => by
      have x1 := own_ge Mw.out q hq
      have x2 := own_ge Mg.out q (by rw [← e])
      have := S1.out; have := S2.out; have := S3.out; have := S4.out; have := S5.out; have := S6.out; have := S7.out; have := S8.out; have := S9.out; omega))
    have Ox_10 := Lib.hid (own_other Ox_9.out h10 (fun q hq e => by
      have x1 := own_ge Mx.out q hq
      have x2 := own_ge Mg.out q (by rw [← e])
      have := S1.out; have := S2.out; have := S3.out; have := S4.out; have := S5.out; have := S6.out; have := S7.out; have := S8.out; have := S9.out; omega))
    have Oq_10 := Lib.hid (own_other Oq_9.out h10 (fun q hq e => by
      have x1 := own_ge Mq.out q hq
      have x2 := own_ge Mg.out q (by rw [← e])
      have := S1.out; have := S2.out; have := S3.out; have := S4.out; have := S5.out; have := S6.out; have := S7.out; have := S8.out; have := S9.out; omega))
    have Og_10 := Lib.hid o10
    have B10 : Hid (Below w.heap.size w w10) := B9.out.grown h10 (by have := B9.out.size; omega) (fun q hq => by have x2 := own_ge Mg.out q hq; have := S1.out; have := S2.out; have := S3.out; have := S4.out; have := S5.out; have := S6.out; have := S7.out; have := S8.out; have := S9.out; omega)
    have S10 := Lib.hid h10.size
    clear o10 h10
    go_wp2_with fail
    refine (heldStringS_one _ _ _ _ (own_formn_row Og_10.out) (by omega)).mono ?_
    rintro e w11 ⟨rfl, b11⟩
    have B11 : Hid (Below w.heap.size w w11) := B10.out.trans (b11.mono B10.out.size)
    have S11 := Lib.hid b11.size
    have Op_11 := Lib.hid (own_below Op_10.out b11)
    have Ow_11 := Lib.hid (own_below Ow_10.out b11)
    have Ox_11 := Lib.hid (own_below Ox_10.out b11)
    have Og_11 := Lib.hid (own_below Og_10.out b11)
    have Oq_11 := Lib.hid (own_below Oq_10.out b11)
    clear b11
    go_wp2_with fail
    refine (toByteS_any _ _ _ l _ (hR.out.below (Nat.le_refl _) B11.out) hL.out (by omega)).mono ?_
    rintro e w12 ⟨v12, rfl, o12, b12⟩
    obtain ⟨ay, cy, rfl, r12, kyx, kyy, g12⟩ := own_formn o12
    have B12 : Hid (Below w.heap.size w w12) := B11.out.trans (b12.mono B11.out.size)
    have S12 := Lib.hid b12.size
    have Op_12 := Lib.hid (own_below Op_11.out b12)
    have Ow_12 := Lib.hid (own_below Ow_11.out b12)
    have Ox_12 := Lib.hid (own_below Ox_11.out b12)
    have Og_12 := Lib.hid (own_below Og_11.out b12)
    have Oq_12 := Lib.hid (own_below Oq_11.out b12)
    have Oy_12 := Lib.hid o12
    have My := Lib.hid o12
    clear o12 r12 b12 g12
    go_wp2_with fail
    refine (CI.out _ _ _ (own_formn_row Oy_12.out)).mono ?_
    rintro e w13 ⟨v13, rfl, o13, b13⟩
    obtain ⟨ah, ch, rfl, r13, khx, khy, g13⟩ := own_formn o13
    have B13 : Hid (Below w.heap.size w w13) := B12.out.trans (b13.mono B12.out.size)
    have S13 := Lib.hid b13.size
    have Op_13 := Lib.hid (own_below Op_12.out b13)
    have Ow_13 := Lib.hid (own_below Ow_12.out b13)
    have Ox_13 := Lib.hid (own_below Ox_12.out b13)
    have Og_13 := Lib.hid (own_below Og_12.out b13)
    have Oq_13 := Lib.hid (own_below Oq_12.out b13)
    have Oy_13 := Lib.hid (own_below Oy_12.out b13)
    have Oh_13 := Lib.hid o13
    have Mh := Lib.hid o13
    clear o13 r13 b13 g13
    go_wp2_with fail
    refine (eqStringS_any _ _ _ _ _ _ r r _ (own_formn_row Oh_13.out) (own_formn_row Ow_13.out) rfl rfl (by omega)).mono ?_
    rintro e w14 ⟨rfl, b14⟩
    have B14 : Hid (Below w.heap.size w w14) := B13.out.trans (b14.mono B13.out.size)
    have S14 := Lib.hid b14.size
    have Op_14 := Lib.hid (own_below Op_13.out b14)
    have Ow_14 := Lib.hid (own_below Ow_13.out b14)
    have Ox_14 := Lib.hid (own_below Ox_13.out b14)
    have Og_14 := Lib.hid (own_below Og_13.out b14)
    have Oq_14 := Lib.hid (own_below Oq_13.out b14)
    have Oy_14 := Lib.hid (own_below Oy_13.out b14)
    have Oh_14 := Lib.hid (own_below Oh_13.out b14)
    clear b14
    go_wp2_with fail
    refine (heldStringS_one _ _ _ _ (own_formn_row Og_14.out) (by omega)).mono ?_
    rintro e w15 ⟨rfl, b15⟩
    have B15 : Hid (Below w.heap.size w w15) := B14.out.trans (b15.mono B14.out.size)
    have S15 := Lib.hid b15.size
    have Op_15 := Lib.hid (own_below Op_14.out b15)
    have Ow_15 := Lib.hid (own_below Ow_14.out b15)
    have Ox_15 := Lib.hid (own_below Ox_14.out b15)
    have Og_15 := Lib.hid (own_below Og_14.out b15)
    have Oq_15 := Lib.hid (own_below Oq_14.out b15)
    have Oy_15 := Lib.hid (own_below Oy_14.out b15)
    have Oh_15 := Lib.hid (own_below Oh_14.out b15)
    clear b15
    go_wp2
    go_ret
    exact ⟨rfl, B15.out⟩
end Go.Proofs.Ytnehdaocfijcpaa

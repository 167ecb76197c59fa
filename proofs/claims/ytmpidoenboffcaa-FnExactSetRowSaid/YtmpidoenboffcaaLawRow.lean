/- The walk of the law FnExactSetRow. -/
import Derived.Test.YtmpidoenboffcaaRow
import Derived.Test.YtmpidoenboffcaaShapeArg
namespace Go.Proofs.Ytmpidoenboffcaa
open Go.RowKit

theorem mem_sum {l : List Nat} {x : Nat} (h : x ∈ l) : x ≤ l.sum := by
  induction l with
  | nil => cases h
  | cons a l ih =>
    rw [List.sum_cons]
    rcases List.mem_cons.1 h with rfl | h
    · omega
    · have := ih h; omega

set_option maxRecDepth 100000 in
set_option maxHeartbeats 800000 in
theorem walk_FnExactSetRow (a0 : Option Addr) (n0 c0 : Nat) (S : List Shp) (a1 : Option Addr) (n1 c1 : Nat) (z1 : List ByteArray) (w : World) (h0 : IsShps w a0 n0 c0 S) (h1 : IsStrs w a1 n1 c1 z1) :
    Calls Try.prog 8 #[.slice a0 n0 c0, .slice a1 n1 c1] w fun e w' => e = .returned (.bool true) ∧ Below w.heap.size w w' := by
  have k0 := h0.caps; have k1 := h1.caps
  have HR0 := Lib.hid h0.2.2.2
  have HN0 := Lib.hid h0.1
  have HR1 := Lib.hid h1.row
  have HS1 := Lib.hid h1.size
  have HN1 := Lib.hid (argS_len z1 n1)
  clear h0 h1
  generalize argS z1 n1 = T at *
  by_cases hz0 : (1048576 : Int) - (n0 : Int) < 0
  · have CZ := Lib.hid (fun W => szShapeS_any _ a0 n0 c0 1048576 W rfl (by omega) (by omega) (by omega))
    go_enter Try.func8, Try.ntmps8
    go_wp2_with fail
    have CZ2 := CZ.out
    simp only [if_pos hz0] at CZ2
    refine (CZ2 _).mono ?_
    rintro e w1 ⟨rfl, rfl⟩
    clear CZ2
    go_wp2
    go_ret
    exact ⟨rfl, Below.refl _ _⟩
  · have CZ1 := fun W => szShapeS_any _ a0 n0 c0 1048576 W rfl (by omega) (by omega) (by omega)
    simp only [if_neg hz0] at CZ1
    have CZ := Lib.hid CZ1
    have CS : Hid (∀ W, RowAt W a1 (T.map strV) → Calls Try.prog 22 #[.slice a1 n1 c1, .int .i64 (1048576 - (n0 : Int))] W fun e w' => e = .returned (.int .i64 (szB T (1048576 - n0))) ∧ W = w') := fun W h => szStringS_any a1 n1 c1 T _ W h HN1.out (by omega) HS1.out (by omega) (by omega)
    clear CZ1
    by_cases hz1 : szB T (1048576 - n0) < 0
    · generalize szB T (1048576 - n0) = q at *
      go_enter Try.func8, Try.ntmps8
      go_wp2_with fail
      refine (CZ.out _).mono ?_
      rintro e w1 ⟨rfl, rfl⟩
      go_wp2_with fail
      refine (CS.out _ HR1.out).mono ?_
      rintro e w1 ⟨rfl, rfl⟩
      go_wp2
      go_ret
      exact ⟨rfl, Below.refl _ _⟩
    · have hyes := szB_yes (l := T) (left := 1048576 - n0) (by omega)
      have hT : ∀ s ∈ T, s.size ≤ 4611686018427387904 := fun s hs => by
        have h1 : s.size ≤ (T.map ByteArray.size).sum := mem_sum (List.mem_map_of_mem hs)
        omega
      have hTl : T.length ≤ 1048576 := by omega
      have HT := Lib.hid hT
      clear hyes hT
      generalize szB T (1048576 - n0) = q at *
      have hn1 : n1 ≤ 1048576 := by rw [← HN1.out]; exact hTl
      go_enter Try.func8, Try.ntmps8
      go_wp2_with fail
      refine (CZ.out _).mono ?_
      rintro e w1 ⟨rfl, rfl⟩
      go_wp2_with fail
      refine (CS.out _ HR1.out).mono ?_
      rintro e w1 ⟨rfl, rfl⟩
      clear CZ CS
      go_wp2_with fail
      refine (toShapeS_any _ _ _ S _ HR0.out HN0.out (by omega)).mono ?_
      rintro e w1 ⟨v1, rfl, o1, b1⟩
      obtain ⟨x1, d1, rfl, _, k1a, k1b, _⟩ := ownN_formn o1
      have B1 := Lib.hid b1; have O1 := Lib.hid o1
      clear b1 o1
      go_wp2_with fail
      refine (toStringS_any _ _ _ T _ (HR1.out.below (Nat.le_refl _) B1.out) HN1.out (by omega)).mono ?_
      rintro e w2 ⟨v2, rfl, o2, b2⟩
      obtain ⟨x2, d2, rfl, _, k2a, k2b, _⟩ := own_formn o2
      have O12 := Lib.hid (ownN_below O1.out b2)
      have B2 := Lib.hid (B1.out.trans (b2.mono B1.out.size)); have O2 := Lib.hid o2
      clear b2 o2
      go_wp2_with fail
      refine (spec_SetRow _ _ _ _ _ _ S T _ (ownN_row O12.out) (own_formn_row O2.out) HN0.out HN1.out (by omega) (by omega) HT.out).mono ?_
      rintro e w3 ⟨rfl, b3⟩
      have B3 := Lib.hid (B2.out.trans (b3.mono B2.out.size))
      clear b3 O12 O2 O1
      go_wp2_with fail
      refine (toShapeS_any _ _ _ S _ (HR0.out.below (Nat.le_refl _) B3.out) HN0.out (by omega)).mono ?_
      rintro e w4 ⟨v4, rfl, o4, b4⟩
      obtain ⟨x4, d4, rfl, _, k4a, k4b, _⟩ := ownN_formn o4
      have B4 := Lib.hid (B3.out.trans (b4.mono B3.out.size)); have O4 := Lib.hid o4
      clear b4 o4
      go_wp2_with fail
      refine (toStringS_any _ _ _ T _ (HR1.out.below (Nat.le_refl _) B4.out) HN1.out (by omega)).mono ?_
      rintro e w5 ⟨v5, rfl, o5, b5⟩
      obtain ⟨x5, d5, rfl, _, k5a, k5b, _⟩ := own_formn o5
      have O45 := Lib.hid (ownN_below O4.out b5)
      have B5 := Lib.hid (B4.out.trans (b5.mono B4.out.size)); have O5 := Lib.hid o5
      clear b5 o5
      go_wp2_with fail
      refine (impl_SetRow _ _ _ _ _ _ S T _ (ownN_row O45.out) (own_formn_row O5.out) HN0.out HN1.out (by omega) (by omega) HT.out).mono ?_
      rintro e w6 ⟨rfl, b6⟩
      have O46 := Lib.hid (ownN_below O45.out b6)
      have O56 := Lib.hid (own_below O5.out b6)
      have B6 := Lib.hid (B5.out.trans (b6.mono B5.out.size))
      clear b6
      generalize rowR S T = r
      obtain ⟨r1, r2⟩ := r
      cases r2
      all_goals
        go_wp2_with fail
        refine (toShapeS_any _ _ _ S _ (HR0.out.below (Nat.le_refl _) B6.out) HN0.out (by omega)).mono ?_
        rintro e w7 ⟨v7, rfl, o7, b7⟩
        obtain ⟨x7, d7, rfl, _, k7a, k7b, _⟩ := ownN_formn o7
        have O47 := Lib.hid (ownN_below O46.out b7)
        have O57 := Lib.hid (own_below O56.out b7)
        have B7 := Lib.hid (B6.out.trans (b7.mono B6.out.size)); have O7 := Lib.hid o7
        clear b7 o7
        go_wp2_with fail
        refine (eqShapeS_core _ _ _ _ _ S S _ (ownN_row O47.out) (ownN_row O7.out) HN0.out HN0.out (by omega) rfl).mono ?_
        rintro e w8 ⟨rfl, b8⟩
        have O58 := Lib.hid (own_below O57.out b8)
        have B8 := Lib.hid (B7.out.trans (b8.mono B7.out.size))
        clear b8
        go_wp2_with fail
        refine (toStringS_any _ _ _ T _ (HR1.out.below (Nat.le_refl _) B8.out) HN1.out (by omega)).mono ?_
        rintro e w9 ⟨v9, rfl, o9, b9⟩
        obtain ⟨x9, d9, rfl, _, k9a, k9b, _⟩ := own_formn o9
        have O59 := Lib.hid (own_below O58.out b9)
        have B9 := Lib.hid (B8.out.trans (b9.mono B8.out.size)); have O9 := Lib.hid o9
        clear b9 o9
        have CE := fun W h1 h2 => eqStringS_any x5 x9 n1 n1 d5 d9 T T W h1 h2 HN1.out HN1.out (by omega)
        simp only [decide_true] at CE
        have CE' := Lib.hid CE
        clear CE
        go_wp2_with fail
        refine (CE'.out _ (own_formn_row O59.out) (own_formn_row O9.out)).mono ?_
        rintro e w10 ⟨rfl, b10⟩
        have B10 := Lib.hid (B9.out.trans (b10.mono B9.out.size))
        clear b10
        go_wp2
        go_ret
        exact ⟨rfl, B10.out⟩
end Go.Proofs.Ytmpidoenboffcaa

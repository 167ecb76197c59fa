/- The law's own helpers over locations (printed by gen_loch.py). -/
import Derived.Test.YtmiemnhbkcmanaaDoorStrs
import Derived.Test.YtmiemnhbkcmanaaDoorPush
namespace Go.Proofs.YtmiemnhbkcmanaaDoor
open Go.RowKit

theorem blkC {w : World} {b : Nat} {C : Array Value} {t : TypeId} (h : w.heap[b]? = some (.cells C t (0, 0))) (i : Nat) (v : Value) (hv : C[i]? = some v) : w.cell? ⟨b, i, none⟩ = some v := by rw [cell_of_row w b i C t _ h]; exact hv
theorem blkF {w : World} {b : Nat} {C : Array Value} {t : TypeId} (h : w.heap[b]? = some (.cells C t (0, 0))) (i : Nat) : w.frozen? ⟨b, i, none⟩ = false := by simp [World.frozen?, h]
theorem blkS {w : World} {b : Nat} {C : Array Value} {t : TypeId} (i : Nat) (v : Value) (h : w.heap[b]? = some (.cells C t (0, 0))) : (w.setCell ⟨b, i, none⟩ v).heap[b]? = some (.cells (C.setIfInBounds i v) t (0, 0)) := heap_setCell_same w b i C t v h
theorem blkO {w : World} {b b' : Nat} {x : Obj} (i : Nat) (v : Value) (h : w.heap[b]? = some x) (hne : b ≠ b') : (w.setCell ⟨b', i, none⟩ v).heap[b]? = some x := by rw [Below.heap_setCell _ _ _ _ hne]; exact h
/-- Four cells written. -/
theorem loc_put {w : World} {b : Nat} {y0 y1 y2 y3 : Value} {t : TypeId} (x0 x1 x2 x3 : Value) (h : w.heap[b]? = some (.cells #[y0, y1, y2, y3] t (0, 0))) :
    ((((w.setCell ⟨b, 0, none⟩ x0).setCell ⟨b, 1, none⟩ x1).setCell ⟨b, 2, none⟩ x2).setCell ⟨b, 3, none⟩ x3).heap[b]? = some (.cells #[x0, x1, x2, x3] t (0, 0)) ∧ w.grownBy ((((w.setCell ⟨b, 0, none⟩ x0).setCell ⟨b, 1, none⟩ x1).setCell ⟨b, 2, none⟩ x2).setCell ⟨b, 3, none⟩ x3) (some b) ∧ (∀ B, B ≤ b → Below B w ((((w.setCell ⟨b, 0, none⟩ x0).setCell ⟨b, 1, none⟩ x1).setCell ⟨b, 2, none⟩ x2).setCell ⟨b, 3, none⟩ x3)) ∧ ((((w.setCell ⟨b, 0, none⟩ x0).setCell ⟨b, 1, none⟩ x1).setCell ⟨b, 2, none⟩ x2).setCell ⟨b, 3, none⟩ x3).heap.size = w.heap.size :=
  ⟨blkS 3 _ (blkS 2 _ (blkS 1 _ (blkS 0 _ h))), grown_setCell (grown_setCell (grown_setCell (grown_setCell (grown_refl w (some b)) 0 x0) 1 x1) 2 x2) 3 x3,
    fun B hB => ((((Below.refl B w).setCell (p := ⟨b, 0, none⟩) hB _).setCell (p := ⟨b, 1, none⟩) hB _).setCell (p := ⟨b, 2, none⟩) hB _).setCell (p := ⟨b, 3, none⟩) hB _, by simp⟩
/-- A block that another block's growing leaves as it is. -/
theorem blk_keep {w w' : World} {b : Nat} {x : Obj} {row : Option Nat} (h : w.heap[b]? = some x) (hg : w.grownBy w' row) (hne : row ≠ some b) : w'.heap[b]? = some x := (hg.block b (Array.getElem?_eq_some_iff.1 h).1 (Ne.symm hne)).trans h

set_option maxHeartbeats 1600000 in
theorem toLocation_any (S H : ByteArray) (a : Option Addr) (n c : Nat) (P : List ByteArray) (Q : ByteArray) (w : World) (hrow : RowAt w a (P.map strV)) (hn : P.length = n) (hn' : n ≤ 1048576) :
    Calls Tryd.prog 6 #[.agg #[.string S, .string H, .slice a n c, .string Q]] w fun e w' => ∃ v, e = .returned (.agg #[.string S, .string H, v, .string Q]) ∧ w'.ownsRow w.heap.size 9 1 v n (P.map strV) ∧ Below w.heap.size w w' := by
  have CT : Hid (∀ W, Below w.heap.size w W → Calls Tryd.prog 17 #[.slice a n c] W fun e w' => ∃ v, e = .returned v ∧ w'.ownsRow W.heap.size 9 1 v n (P.map strV) ∧ Below W.heap.size W w') := fun W hW => toStringS_any a n c P W (hrow.below (Nat.le_refl _) hW) hn (by omega)
  clear hrow hn
  obtain ⟨W1, hW1⟩ : ∃ W1, W1 = w.alloc (.cells #[.string S, .string H, .slice a n c, .string Q] 24 (0, 0)) := ⟨_, rfl⟩
  obtain ⟨W2, hW2⟩ : ∃ W2, W2 = W1.alloc (.cells #[.string ⟨#[]⟩, .string ⟨#[]⟩, .slice none 0 0, .string ⟨#[]⟩] 26 (0, 0)) := ⟨_, rfl⟩
  obtain ⟨W4, hW3⟩ : ∃ W3, W3 = W2.alloc (.cells #[.string S, .string H, .slice none 0 0, .string ⟨#[]⟩] 26 (0, 0)) := ⟨_, rfl⟩
  have e1 : W1.heap.size = w.heap.size + 1 := by rw [hW1]; simp
  have e2 : W2.heap.size = w.heap.size + 1 + 1 := by rw [hW2]; simp [e1]
  have e4 : W4.heap.size = w.heap.size + 1 + 1 + 1 := by rw [hW3]; simp [e2]
  have b4 : Below w.heap.size w W4 := by
    have b1 : Below w.heap.size w W1 := by rw [hW1]; exact (Below.refl _ _).alloc (Nat.le_refl _) _
    have b2 : Below w.heap.size w W2 := by rw [hW2]; exact b1.alloc b1.size _
    rw [hW3]; exact b2.alloc b2.size _
  have k0 : W4.heap[w.heap.size]? = some (.cells #[.string S, .string H, .slice a n c, .string Q] 24 (0, 0)) := by
    rw [hW3, Lib.alloc_old W2 _ _ (by omega), hW2, Lib.alloc_old W1 _ _ (by omega), hW1]; exact heap_alloc_new w _
  have k2 : W4.heap[w.heap.size + 1 + 1]? = some (.cells #[.string S, .string H, .slice none 0 0, .string ⟨#[]⟩] 26 (0, 0)) := by
    rw [hW3, ← e2]; exact heap_alloc_new W2 _
  have k1 : W4.heap[w.heap.size + 1]? = some (.cells #[.string ⟨#[]⟩, .string ⟨#[]⟩, .slice none 0 0, .string ⟨#[]⟩] 26 (0, 0)) := by
    rw [hW3, Lib.alloc_old W2 _ _ (by omega), hW2, ← e1]; exact heap_alloc_new W1 _
  have B4 := Lib.hid b4
  rw [hW2, hW1] at hW3
  have HW := Lib.hid hW3
  clear b4 e1 e2 hW3 hW2 hW1
  go_enter Tryd.func6, Tryd.ntmps6
  go_wp2_with fail
  rw [← HW.out]
  refine (CT.out _ B4.out).mono ?_
  rintro e w5 ⟨v5, rfl, o5, b5⟩
  have m2 := (b5.block _ (by omega)).trans k2
  have m1 := (b5.block _ (by omega)).trans k1
  have m0 := (b5.block _ (by omega)).trans k0
  have B5 := Lib.hid (B4.out.trans (b5.mono (by omega)))
  rw [e4] at o5
  obtain ⟨a5, c5, rfl, _⟩ := own_formn o5
  have O5 := Lib.hid o5
  have M1 := Lib.hid m1
  clear b5 k1 k2 k0 o5 e4 HW
  have x0 := blkC m2 0 _ rfl; have x1 := blkC m2 1 _ rfl; have x2 := blkC m2 2 _ rfl; have x3 := blkC m2 3 _ rfl
  have y0 := blkC m1 0 _ rfl; have y1 := blkC m1 1 _ rfl; have y2 := blkC m1 2 _ rfl; have y3 := blkC m1 3 _ rfl
  have z3 := blkC m0 3 _ rfl
  have u2 := blkF m2 2; have u3 := blkF m2 3
  have t0 := blkF m1 0; have t1 := blkF m1 1; have t2 := blkF m1 2; have t3 := blkF m1 3
  clear m2 m0 m1
  go_wp2
  obtain ⟨W6, hW6⟩ : ∃ W6, W6 = (w5.setCell ⟨w.heap.size + 1 + 1, 2, none⟩ (.slice a5 n c5)).setCell ⟨w.heap.size + 1 + 1, 3, none⟩ (.string Q) := ⟨_, rfl⟩
  have g6 : w5.grownBy W6 (some (w.heap.size + 1 + 1)) := by rw [hW6]; exact grown_setCell (grown_setCell (grown_refl _ _) 2 _) 3 _
  have b6 : Below w.heap.size w W6 := by rw [hW6]; exact (B5.out.setCell (p := ⟨w.heap.size + 1 + 1, 2, none⟩) (by show w.heap.size ≤ w.heap.size + 1 + 1; omega) _).setCell (p := ⟨w.heap.size + 1 + 1, 3, none⟩) (by show w.heap.size ≤ w.heap.size + 1 + 1; omega) _
  have n1 := blk_keep M1.out g6 (by intro e; injection e with e; omega)
  rw [← hW6]
  clear hW6
  obtain ⟨f, g, bb, _⟩ := loc_put (.string S) (.string H) (.slice a5 n c5) (.string Q) n1
  have OW := own_other (own_other O5.out g6 (fun j hj e => by have := own_ge O5.out j hj; injection e with e; omega)) g (fun j hj e => by have := own_ge O5.out j hj; injection e with e; omega)
  have BW := b6.trans (bb w.heap.size (by omega))
  generalize ((((W6.setCell ⟨w.heap.size + 1, 0, none⟩ (.string S)).setCell ⟨w.heap.size + 1, 1, none⟩ (.string H)).setCell ⟨w.heap.size + 1, 2, none⟩ (.slice a5 n c5)).setCell ⟨w.heap.size + 1, 3, none⟩ (.string Q)) = W9 at *
  have f0 := blkC f 0 _ rfl; have f1 := blkC f 1 _ rfl; have f2 := blkC f 2 _ rfl; have f3 := blkC f 3 _ rfl
  exact bodyPost_ret (v := .agg #[.string S, .string H, .slice a5 n c5, .string Q]) (by simp [results, Tryd.results6, go_sem, f0, f1, f2, f3]) rfl ⟨_, rfl, own_mono OW (by omega), BW⟩

theorem le_sumS : ∀ (P : List ByteArray) (x : ByteArray), x ∈ P → x.size ≤ (P.map ByteArray.size).sum := by
  intro P
  induction P with
  | nil => intro x hx; cases hx
  | cons y r ih =>
    intro x hx
    rw [List.map_cons, List.sum_cons]
    rcases List.mem_cons.1 hx with rfl | hx
    · omega
    · have := ih x hx; omega
set_option maxHeartbeats 1600000 in
theorem szLocation_any (S H : ByteArray) (a : Option Addr) (n c : Nat) (P : List ByteArray) (Q : ByteArray) (w : World) (hrow : RowAt w a (P.map strV)) (hn : P.length = n) (hn' : n ≤ 9223372036854775807) (hs : S.size ≤ 9223372036854775807) (hh : H.size ≤ 9223372036854775807) (hq : Q.size ≤ 9223372036854775807) (hp : ∀ x ∈ P, x.size ≤ 9223372036854775807) :
    Calls Tryd.prog 4 #[.agg #[.string S, .string H, .slice a n c, .string Q], .int .i64 1048576] w fun e w' => (∃ m : Int, e = .returned (.int .i64 m) ∧ (m < 0 ∨ (S.size ≤ 1048576 ∧ H.size ≤ 1048576 ∧ Q.size ≤ 1048576 ∧ n ≤ 1048576 ∧ ∀ x ∈ P, x.size ≤ 1048576))) ∧ Below w.heap.size w w' := by
  by_cases h1 : (1048576 : Int) - (S.size : Int) < 0
  · clear hrow hp
    go_enter Tryd.func4, Tryd.ntmps4
    go_wp2
    go_ret
    exact ⟨⟨_, rfl, .inl (by omega)⟩, (Below.refl _ _).alloc (Nat.le_refl _) _⟩
  by_cases h2 : (1048576 : Int) - (S.size : Int) - (H.size : Int) < 0
  · clear hrow hp
    go_enter Tryd.func4, Tryd.ntmps4
    go_wp2
    go_ret
    exact ⟨⟨_, rfl, .inl (by omega)⟩, (Below.refl _ _).alloc (Nat.le_refl _) _⟩
  have CZ : Hid (∀ W, Below w.heap.size w W → Calls Tryd.prog 11 #[.slice a n c, .int .i64 ((1048576 : Int) - (S.size : Int) - (H.size : Int))] W fun e w' => e = .returned (.int .i64 (szB P ((1048576 : Int) - (S.size : Int) - (H.size : Int)))) ∧ W = w') := fun W hW => szStringS_any a n c P _ W (hrow.below (Nat.le_refl _) hW) hn hn' hp (by omega) (by omega)
  have HB : Hid (0 ≤ szB P ((1048576 : Int) - (S.size : Int) - (H.size : Int)) → szB P ((1048576 : Int) - (S.size : Int) - (H.size : Int)) ≤ 1048576 ∧ n ≤ 1048576 ∧ ∀ x ∈ P, x.size ≤ 1048576) := fun h => by
    have h2 := szB_yes h
    rw [hn] at h2
    refine ⟨by omega, by omega, fun x hx => ?_⟩
    have h3 := le_sumS P x hx
    omega
  clear hrow hp
  generalize szB P ((1048576 : Int) - (S.size : Int) - (H.size : Int)) = z at *
  obtain ⟨W1, hW1⟩ : ∃ W1, W1 = w.alloc (.cells #[.string S, .string H, .slice a n c, .string Q] 24 (0, 0)) := ⟨_, rfl⟩
  have B1 : Hid (Below w.heap.size w W1) := by rw [hW1]; exact (Below.refl _ _).alloc (Nat.le_refl _) _
  have k0 : W1.heap[w.heap.size]? = some (.cells #[.string S, .string H, .slice a n c, .string Q] 24 (0, 0)) := by rw [hW1]; exact heap_alloc_new w _
  have c3 := blkC k0 3 _ rfl
  have HW := Lib.hid hW1
  clear k0 hW1
  by_cases h3 : z < 0
  · go_enter Tryd.func4, Tryd.ntmps4
    go_wp2_with fail
    rw [← HW.out]
    refine (CZ.out _ B1.out).mono ?_
    rintro e w2 ⟨rfl, rfl⟩
    go_wp2
    go_ret
    exact ⟨⟨_, rfl, .inl (by omega)⟩, B1.out⟩
  have hz := (HB.out (by omega)).1
  by_cases h4 : z - (Q.size : Int) < 0
  · go_enter Tryd.func4, Tryd.ntmps4
    go_wp2_with fail
    rw [← HW.out]
    refine (CZ.out _ B1.out).mono ?_
    rintro e w2 ⟨rfl, rfl⟩
    go_wp2
    go_ret
    exact ⟨⟨_, rfl, .inl (by omega)⟩, B1.out⟩
  go_enter Tryd.func4, Tryd.ntmps4
  go_wp2_with fail
  rw [← HW.out]
  refine (CZ.out _ B1.out).mono ?_
  rintro e w2 ⟨rfl, rfl⟩
  go_wp2
  go_ret
  exact ⟨⟨_, rfl, .inr ⟨by omega, by omega, by omega, (HB.out (by omega)).2.1, (HB.out (by omega)).2.2⟩⟩, B1.out⟩

set_option maxHeartbeats 1600000 in
theorem eqLocation_any (S H : ByteArray) (a a' : Option Addr) (n c c' : Nat) (P : List ByteArray) (Q : ByteArray) (w : World) (hrow : RowAt w a (P.map strV)) (hrow' : RowAt w a' (P.map strV)) (hn : P.length = n) (hn' : n ≤ 9223372036854775807) :
    Calls Tryd.prog 8 #[.agg #[.string S, .string H, .slice a n c, .string Q], .agg #[.string S, .string H, .slice a' n c', .string Q]] w fun e w' => e = .returned (.bool true) ∧ Below w.heap.size w w' := by
  have CE : Hid (∀ W, Below w.heap.size w W → Calls Tryd.prog 23 #[.slice a n c, .slice a' n c'] W fun e w' => e = .returned (.bool true) ∧ Below W.heap.size W w') := fun W hW => by
    have := eqStringS_any a a' n n c c' P P W (hrow.below (Nat.le_refl _) hW) (hrow'.below (Nat.le_refl _) hW) hn hn hn'
    rwa [decide_eq_true rfl] at this
  clear hrow hrow' hn
  obtain ⟨W1, hW1⟩ : ∃ W1, W1 = w.alloc (.cells #[.string S, .string H, .slice a n c, .string Q] 26 (0, 0)) := ⟨_, rfl⟩
  obtain ⟨W2, hW2⟩ : ∃ W2, W2 = W1.alloc (.cells #[.string S, .string H, .slice a' n c', .string Q] 26 (0, 0)) := ⟨_, rfl⟩
  have e1 : W1.heap.size = w.heap.size + 1 := by rw [hW1]; simp
  have e2 : W2.heap.size = w.heap.size + 1 + 1 := by rw [hW2]; simp [e1]
  have b1 : Below w.heap.size w W1 := by rw [hW1]; exact (Below.refl _ _).alloc (Nat.le_refl _) _
  have b2 : Below w.heap.size w W2 := by rw [hW2]; exact b1.alloc b1.size _
  have B2 := Lib.hid b2
  have k0 : W2.heap[w.heap.size]? = some (.cells #[.string S, .string H, .slice a n c, .string Q] 26 (0, 0)) := by
    rw [hW2, Lib.alloc_old W1 _ _ (by omega), hW1]; exact heap_alloc_new w _
  have k1 : W2.heap[w.heap.size + 1]? = some (.cells #[.string S, .string H, .slice a' n c', .string Q] 26 (0, 0)) := by
    rw [hW2, ← e1]; exact heap_alloc_new W1 _
  rw [hW1] at hW2
  have HW := Lib.hid hW2
  have q1 : (S.toList == S.toList) = true := beq_self_eq_true _
  have q2 : (H.toList == H.toList) = true := beq_self_eq_true _
  have q3 : (Q.toList == Q.toList) = true := beq_self_eq_true _
  clear hW2 hW1 b1 b2 e1
  go_enter Tryd.func8, Tryd.ntmps8
  go_wp2_with fail
  rw [← HW.out]
  refine (CE.out _ B2.out).mono ?_
  rintro e w5 ⟨rfl, b5⟩
  have m0 := (b5.block _ (by omega)).trans k0
  have m1 := (b5.block _ (by omega)).trans k1
  have B5 := Lib.hid (B2.out.trans (b5.mono (by omega)))
  clear b5 k0 k1 e2 HW
  have x3 := blkC m0 3 _ rfl; have y3 := blkC m1 3 _ rfl
  clear m0 m1
  go_wp2
  go_ret
  exact ⟨rfl, B5.out⟩

set_option maxHeartbeats 1600000 in
theorem markLocation_any (S H : ByteArray) (v : Value) (B n : Nat) (l : List Value) (Q : ByteArray) (w : World) (h : w.ownsRow B 9 1 v n l) (hk : n ≤ 2305843009213693952) :
    Calls Tryd.prog 9 #[.agg #[.string S, .string H, v, .string Q], .int .i64 1] w fun e w' => e = .returned (.int .i64 ((n : Int) + 1)) ∧ w'.ownsRow B 9 1 v n (markS 1 n) ∧ w.grownBy w' v.ownBlock := by
  obtain ⟨a, c, rfl, _⟩ := own_formn h
  have CM : Hid (∀ W, Below w.heap.size w W → Calls Tryd.prog 24 #[.slice a n c, .int .i64 1] W fun e w' => e = .returned (.int .i64 ((n : Int) + 1)) ∧ w'.ownsRow B 9 1 (.slice a n c) n (markS 1 n) ∧ W.grownBy w' (Value.slice a n c).ownBlock) := fun W hW => markStringS_one _ B l n W (own_below h hW) hk
  clear h
  go_enter Tryd.func9, Tryd.ntmps9
  go_wp2_with fail
  refine (CM.out _ ((Below.refl _ _).alloc (Nat.le_refl _) _)).mono ?_
  rintro e w5 ⟨rfl, o5, g5⟩
  have O5 := Lib.hid o5
  have G5 := Lib.hid ((World.grownBy_alloc w _ _).trans g5)
  clear o5 g5
  go_wp2
  go_ret
  exact ⟨rfl, O5.out, G5.out⟩

set_option maxHeartbeats 1600000 in
theorem heldLocation_any (S H : ByteArray) (a : Option Addr) (n c : Nat) (Q : ByteArray) (w : World) (h : RowAt w a (markS 1 n)) (hk : n ≤ 2305843009213693952) :
    Calls Tryd.prog 10 #[.agg #[.string S, .string H, .slice a n c, .string Q], .int .i64 1] w fun e w' => e = .returned (.int .i64 ((n : Int) + 1)) ∧ Below w.heap.size w w' := by
  have CM : Hid (∀ W, Below w.heap.size w W → Calls Tryd.prog 25 #[.slice a n c, .int .i64 1] W fun e w' => e = .returned (.int .i64 ((n : Int) + 1)) ∧ Below W.heap.size W w') := fun W hW => heldStringS_one a n c W (h.below (Nat.le_refl _) hW) hk
  clear h
  have b1 : Below w.heap.size w (w.alloc (.cells #[.string S, .string H, .slice a n c, .string Q] 26 (0, 0))) := (Below.refl _ _).alloc (Nat.le_refl _) _
  have B1 := Lib.hid b1
  clear b1
  go_enter Tryd.func10, Tryd.ntmps10
  go_wp2_with fail
  refine (CM.out _ B1.out).mono ?_
  rintro e w5 ⟨rfl, b5⟩
  have B5 := Lib.hid (B1.out.trans (b5.mono B1.out.size))
  clear b5
  go_wp2
  go_ret
  exact ⟨rfl, B5.out⟩
end Go.Proofs.YtmiemnhbkcmanaaDoor

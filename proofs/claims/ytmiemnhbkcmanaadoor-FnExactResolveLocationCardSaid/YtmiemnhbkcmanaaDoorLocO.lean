/- A location with a path of its own, by the reference. -/
import Derived.Test.YtmiemnhbkcmanaaDoorLocP
namespace Go.Proofs.YtmiemnhbkcmanaaDoor
open Go.RowKit

theorem blk_frozen {w : World} {b : Nat} {C : Array Value} {t : TypeId} (h : w.heap[b]? = some (.cells C t (0, 0))) (i : Nat) : w.frozen? ⟨b, i, none⟩ = false := by simp [World.frozen?, h]
theorem heap_setP {w : World} {b : Nat} {C : Array Value} {t : TypeId} (i : Nat) (v : Value) (h : w.heap[b]? = some (.cells C t (0, 0))) : (w.setCell ⟨b, i, none⟩ v).heap[b]? = some (.cells (C.setIfInBounds i v) t (0, 0)) := heap_setCell_same w b i C t v h
set_option maxHeartbeats 1600000 in
theorem spec_l1OwnLocation (S H : ByteArray) (a : Option Addr) (n c : Nat) (P : List ByteArray) (Q : ByteArray) (w : World) (hrow : RowAt w a (P.map strV)) (hn : P.length = n) (hn' : n ≤ 1048576) (hnone : a = none → c = 0) :
    Calls Tryd.prog 12 #[.agg #[.string S, .string H, .slice a n c, .string Q]] w fun e w' => ∃ v, e = .returned (.agg #[.string S, .string H, v, .string Q]) ∧ w'.ownsRow w.heap.size 9 1 v n (P.map strV) ∧ Below w.heap.size w w' := by
  have HRow := Lib.hid hrow; have HN := Lib.hid hn; have HN0 := Lib.hid hnone
  clear hrow hn hnone
  obtain ⟨i0, hi, hz0, hz1, hz2⟩ := info_parts info_str
  have HI := Lib.hid hi; have HZ0 := Lib.hid hz0; have HZ1 := Lib.hid hz1; have HZ2 := Lib.hid hz2
  clear hi hz0 hz1 hz2
  obtain ⟨W1, hW1⟩ : ∃ W1, W1 = w.alloc (.cells #[.string S, .string H, .slice a n c, .string Q] 26 (0, 0)) := ⟨_, rfl⟩
  obtain ⟨W2, hW2⟩ : ∃ W2, W2 = W1.alloc (.cells #[.string ⟨#[]⟩, .string ⟨#[]⟩, .slice none 0 0, .string ⟨#[]⟩] 26 (0, 0)) := ⟨_, rfl⟩
  obtain ⟨W3, hW3⟩ : ∃ W3, W3 = W2.alloc (.cells #[.string S, .string H, .slice a n c, .string Q] 26 (0, 0)) := ⟨_, rfl⟩
  have e1 : W1.heap.size = w.heap.size + 1 := by rw [hW1]; simp
  have e2 : W2.heap.size = w.heap.size + 1 + 1 := by rw [hW2]; simp [e1]
  have e3 : W3.heap.size = w.heap.size + 1 + 1 + 1 := by rw [hW3]; simp [e2]
  have bW3 : Below w.heap.size w W3 := by
    have b1 : Below w.heap.size w W1 := by rw [hW1]; exact (Below.refl _ _).alloc (Nat.le_refl _) _
    have b2 : Below w.heap.size w W2 := by rw [hW2]; exact b1.alloc b1.size _
    rw [hW3]; exact b2.alloc b2.size _
  have h2 : W3.heap[w.heap.size + 1 + 1]? = some (.cells #[.string S, .string H, .slice a n c, .string Q] 26 (0, 0)) := by
    rw [hW3, ← e2]; exact heap_alloc_new W2 _
  have h1 : W3.heap[w.heap.size + 1]? = some (.cells #[.string ⟨#[]⟩, .string ⟨#[]⟩, .slice none 0 0, .string ⟨#[]⟩] 26 (0, 0)) := by
    rw [hW3, Lib.alloc_old W2 _ _ (by omega), hW2, ← e1]; exact heap_alloc_new W1 _
  have B3 := Lib.hid bW3
  have H1 := Lib.hid h1; have H2 := Lib.hid h2
  have ON := Lib.hid (own_new W3 #[] 9 0 rfl (by omega))
  rw [e3] at ON
  have HRW := Lib.hid (HRow.out.below (Nat.le_refl _) (bW3.alloc bW3.size (.cells #[] 9 (0, 0))))
  have hz : w.heap.size + 1 + 1 + 1 ≤ (W3.alloc (.cells #[] 9 (0, 0))).heap.size := by simp [e3]
  have E3 := Lib.hid e3
  rw [hW3, hW2, hW1] at ON HRW hz
  clear h1 h2 bW3 e1 e2 e3
  go_enter Tryd.func12, Tryd.ntmps12
  go_wp2_with (at_builtin; refine wpList_append_row rfl (.tmp 5) (.tmp 7) _ rfl (w.heap.size + 1 + 1 + 1) 9 i0 _ 16 Tryd.underlying22 HI.out HZ0.out HZ1.out HZ2.out rfl (.slice (some ⟨w.heap.size + 1 + 1 + 1, 0, none⟩) 0 0) 0 [] (by rfl) ON.out a n c (P.map strV) (by rfl) HN0.out HRW.out (by rw [List.length_map]; exact HN.out) (strs_one P) (by omega) (by omega) hz ?_; intro v5 w5 o5 g5 _; rw [← hW1, ← hW2, ← hW3] at g5; have o6 : w5.ownsRow (w.heap.size + 1 + 1 + 1) 9 1 v5 n (P.map strV) := (by simpa using o5); obtain ⟨a5, c5, rfl, _⟩ := own_formn o6; have O6 := Lib.hid o6; have G5 := Lib.hid ((World.grownBy_alloc W3 _ _).trans g5); have k2 := (G5.out.block (w.heap.size + 1 + 1) (by rw [E3.out]; omega) (by intro e; simp [Value.ownBlock] at e)).trans H2.out; have k1 := (G5.out.block (w.heap.size + 1) (by rw [E3.out]; omega) (by intro e; simp [Value.ownBlock] at e)).trans H1.out; have K1 := Lib.hid k1; have K2 := Lib.hid k2; have x0 : w5.cell? ⟨w.heap.size + 1 + 1, 0, none⟩ = some (.string S) := (by rw [cell_of_row w5 _ _ _ _ _ k2]; rfl); have x1 : w5.cell? ⟨w.heap.size + 1 + 1, 1, none⟩ = some (.string H) := (by rw [cell_of_row w5 _ _ _ _ _ k2]; rfl); have x2 : w5.cell? ⟨w.heap.size + 1 + 1, 2, none⟩ = some (.slice a n c) := (by rw [cell_of_row w5 _ _ _ _ _ k2]; rfl); have x3 : w5.cell? ⟨w.heap.size + 1 + 1, 3, none⟩ = some (.string Q) := (by rw [cell_of_row w5 _ _ _ _ _ k2]; rfl); have y0 : w5.cell? ⟨w.heap.size + 1, 0, none⟩ = some (.string ⟨#[]⟩) := (by rw [cell_of_row w5 _ _ _ _ _ k1]; rfl); have y1 : w5.cell? ⟨w.heap.size + 1, 1, none⟩ = some (.string ⟨#[]⟩) := (by rw [cell_of_row w5 _ _ _ _ _ k1]; rfl); have y2 : w5.cell? ⟨w.heap.size + 1, 2, none⟩ = some (.slice none 0 0) := (by rw [cell_of_row w5 _ _ _ _ _ k1]; rfl); have y3 : w5.cell? ⟨w.heap.size + 1, 3, none⟩ = some (.string ⟨#[]⟩) := (by rw [cell_of_row w5 _ _ _ _ _ k1]; rfl); have u0 := blk_frozen k2 2; have t0 := blk_frozen k1 0; have t1 := blk_frozen k1 1; have t2 := blk_frozen k1 2; have t3 := blk_frozen k1 3; clear k1 k2 o5 o6 g5)
  go_wp2
  have F0 : (w5.setCell ⟨w.heap.size + 1 + 1, 2, none⟩ (.slice a5 n c5)).heap[w.heap.size + 1]? = some (.cells #[.string ⟨#[]⟩, .string ⟨#[]⟩, .slice none 0 0, .string ⟨#[]⟩] 26 (0, 0)) := by
    rw [Below.heap_setCell _ _ _ _ (by show w.heap.size + 1 ≠ w.heap.size + 1 + 1; omega)]; exact K1.out
  have F4 := heap_setP 3 (.string Q) (heap_setP 2 (.slice a5 n c5) (heap_setP 1 (.string H) (heap_setP 0 (.string S) F0)))
  have OW : World.ownsRow (((((w5.setCell ⟨w.heap.size + 1 + 1, 2, none⟩ (.slice a5 n c5)).setCell ⟨w.heap.size + 1, 0, none⟩ (.string S)).setCell ⟨w.heap.size + 1, 1, none⟩ (.string H)).setCell ⟨w.heap.size + 1, 2, none⟩ (.slice a5 n c5)).setCell ⟨w.heap.size + 1, 3, none⟩ (.string Q)) w.heap.size 9 1 (.slice a5 n c5) n (P.map strV) := by
    have q1 := own_other O6.out (grown_setCell (grown_refl w5 (some (w.heap.size + 1 + 1))) 2 (.slice a5 n c5)) (fun j hj e => by have := own_ge O6.out j hj; injection e with e; omega)
    have q2 := own_other q1 (grown_setCell (grown_setCell (grown_setCell (grown_setCell (grown_refl _ (some (w.heap.size + 1))) 0 (.string S)) 1 (.string H)) 2 (.slice a5 n c5)) 3 (.string Q)) (fun j hj e => by have := own_ge q1 j hj; injection e with e; omega)
    exact own_mono q2 (by omega)
  have BW : Below w.heap.size w (((((w5.setCell ⟨w.heap.size + 1 + 1, 2, none⟩ (.slice a5 n c5)).setCell ⟨w.heap.size + 1, 0, none⟩ (.string S)).setCell ⟨w.heap.size + 1, 1, none⟩ (.string H)).setCell ⟨w.heap.size + 1, 2, none⟩ (.slice a5 n c5)).setCell ⟨w.heap.size + 1, 3, none⟩ (.string Q)) := by
    have b5 : Below w.heap.size w w5 := B3.out.grown G5.out B3.out.size (fun q hq => by simp [Value.ownBlock] at hq; omega)
    exact (((((b5.setCell (p := ⟨w.heap.size + 1 + 1, 2, none⟩) (by show w.heap.size ≤ w.heap.size + 1 + 1; omega) _).setCell (p := ⟨w.heap.size + 1, 0, none⟩) (Nat.le_succ _) _).setCell (p := ⟨w.heap.size + 1, 1, none⟩) (Nat.le_succ _) _).setCell (p := ⟨w.heap.size + 1, 2, none⟩) (Nat.le_succ _) _).setCell (p := ⟨w.heap.size + 1, 3, none⟩) (Nat.le_succ _) _)
  generalize ((((w5.setCell ⟨w.heap.size + 1 + 1, 2, none⟩ (.slice a5 n c5)).setCell ⟨w.heap.size + 1, 0, none⟩ (.string S)).setCell ⟨w.heap.size + 1, 1, none⟩ (.string H)).setCell ⟨w.heap.size + 1, 2, none⟩ (.slice a5 n c5)).setCell ⟨w.heap.size + 1, 3, none⟩ (.string Q) = W9 at *
  have f0 : W9.cell? ⟨w.heap.size + 1, 0, none⟩ = some (.string S) := by rw [cell_of_row W9 _ _ _ _ _ F4]; rfl
  have f1 : W9.cell? ⟨w.heap.size + 1, 1, none⟩ = some (.string H) := by rw [cell_of_row W9 _ _ _ _ _ F4]; rfl
  have f2 : W9.cell? ⟨w.heap.size + 1, 2, none⟩ = some (.slice a5 n c5) := by rw [cell_of_row W9 _ _ _ _ _ F4]; rfl
  have f3 : W9.cell? ⟨w.heap.size + 1, 3, none⟩ = some (.string Q) := by rw [cell_of_row W9 _ _ _ _ _ F4]; rfl
  exact bodyPost_ret (v := .agg #[.string S, .string H, .slice a5 n c5, .string Q]) (by simp [results, Tryd.results12, go_sem, f0, f1, f2, f3]) rfl ⟨_, rfl, OW, BW⟩
end Go.Proofs.YtmiemnhbkcmanaaDoor

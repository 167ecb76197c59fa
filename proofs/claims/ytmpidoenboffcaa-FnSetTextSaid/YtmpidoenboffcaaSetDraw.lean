/- The drawn shape and text of the law FnSetText. -/
import Derived.Test.YtmpidoenboffcaaLawShape2
import Derived.Test.YtmpidoenboffcaaWord1
namespace Go.Proofs.Ytmpidoenboffcaa
open Go.RowKit

def DrawSet (w : World) (e : Ending) (w' : World) : Prop :=
  ∃ (W : Int) (b : UInt8) (L : Bool) (s : ByteArray), e = .returned (.tuple #[.agg #[.int .i64 W, .int .u8 (b.toNat : Int), .bool L], .string s]) ∧ -1 ≤ W ∧ W ≤ 41 ∧ s.size ≤ 12 ∧ Below w.heap.size w w'

set_option maxRecDepth 100000 in
set_option maxHeartbeats 800000 in
theorem draw_SetText (w : World) (a : Option Addr) (n c : Nat) (f : Nat → UInt8) (hb : BytesAt w a n f) (hc : n ≤ c) (hc' : c ≤ 9223372036854775807) :
    Calls Try.prog 16 #[.slice a n c] w (DrawSet w) := by
  have HB := Lib.hid hb; clear hb
  go_enter Try.func16, Try.ntmps16
  go_wp2_with fail
  refine (open_any _ _ _ _ _ (bytes_alloc HB.out _) hc hc').mono ?_
  rintro e w1 ⟨rfl, hb1, hr1⟩
  have k1 : w1.heap[w.heap.size]? = some (.cells #[.int .i64 0, .int .u8 ((0 : UInt8).toNat : Int), .bool false] 25 (0, 0)) := by
    rw [hb1.block w.heap.size (by simp only [World.size_alloc]; omega)]
    exact heap_alloc_new w _
  have B1 := Lib.hid (new_below hb1)
  have S1 := hb1.size
  simp only [World.size_alloc] at hr1 S1 ⊢
  clear hb1 HB
  go_wp2_with fail
  refine (shape_any _ _ _ _ hr1 (by omega) (by omega) (by omega)).mono ?_
  rintro e w2 ⟨W, b, L, rfl, hW, hV, hg, hr⟩
  have k2 : w2.heap[w.heap.size]? = some (.cells #[.int .i64 0, .int .u8 ((0 : UInt8).toNat : Int), .bool false] 25 (0, 0)) := by
    rw [hg.block w.heap.size (by omega) (by intro e; injection e with e; omega)]; exact k1
  have s2 := hg.size
  have B2 := Lib.hid (B1.out.trans (below_of_grown hg B1.out.size (by intro q hq; injection hq with hq; omega)))
  clear hg hr1 k1
  go_wp2_with fail
  refine (word_any _ _ _ _ hr (by omega) (by omega) (by omega)).mono ?_
  rintro e w3 ⟨s, rfl, hs, hg, hr3⟩
  have k3 : w3.heap[w.heap.size]? = some (.cells #[.int .i64 0, .int .u8 ((0 : UInt8).toNat : Int), .bool false] 25 (0, 0)) := by
    rw [hg.block w.heap.size (by omega) (by intro e; injection e with e; omega)]; exact k2
  have B3 := Lib.hid (B2.out.trans (below_of_grown hg B2.out.size (by intro q hq; injection hq with hq; omega)))
  clear hg hr hr3 k2
  have d0 : w3.cell? ⟨w.heap.size, 0, none⟩ = some (.int .i64 0) := by rw [cell_of_row _ _ _ _ _ _ k3]; rfl
  have d1 : w3.cell? ⟨w.heap.size, 1, none⟩ = some (.int .u8 0) := by rw [cell_of_row _ _ _ _ _ _ k3]; rfl
  have d2 : w3.cell? ⟨w.heap.size, 2, none⟩ = some (.bool false) := by rw [cell_of_row _ _ _ _ _ _ k3]; rfl
  have g0 : w3.frozen? ⟨w.heap.size, 0, none⟩ = false := by simp [World.frozen?, k3]
  have g1 : w3.frozen? ⟨w.heap.size, 1, none⟩ = false := by simp [World.frozen?, k3]
  have g2 : w3.frozen? ⟨w.heap.size, 2, none⟩ = false := by simp [World.frozen?, k3]
  obtain ⟨hn3, hg3⟩ := set_shape k3 W b L
  have HN := Lib.hid hn3; have HGG := Lib.hid hg3
  clear k3 hn3 hg3
  go_wp2
  have r0 := cell_of_row _ w.heap.size 0 _ _ _ HN.out
  have r1 := cell_of_row _ w.heap.size 1 _ _ _ HN.out
  have r2 := cell_of_row _ w.heap.size 2 _ _ _ HN.out
  simp only [List.getElem?_toArray, List.getElem?_cons_zero, List.getElem?_cons_succ] at r0 r1 r2
  exact bodyPost_ret (v := .tuple #[.agg #[.int .i64 W, .int .u8 (b.toNat : Int), .bool L], .string s]) (by simp [results, Try.results16, go_sem, r0, r1, r2]) rfl ⟨W, b, L, s, rfl, hW, hV, hs, B3.out.trans (below_of_grown HGG.out B3.out.size (by intro q hq; injection hq with hq; omega))⟩
end Go.Proofs.Ytmpidoenboffcaa

/- The law FnShapeValid. -/
import Derived.Test.YtmpidoenboffcaaShapeDraw
import Derived.Test.YtmpidoenboffcaaAlive
namespace Go.Proofs.Ytmpidoenboffcaa
open Go.RowKit

def DrawShape (w : World) (e : Ending) (w' : World) : Prop :=
  ∃ (W : Int) (b : UInt8) (L : Bool), e = .returned (.agg #[.int .i64 W, .int .u8 (b.toNat : Int), .bool L]) ∧ -1 ≤ W ∧ W ≤ 41 ∧ Below w.heap.size w w'

theorem bytes_alloc {w : World} {a : Option Addr} {n : Nat} {f : Nat → UInt8} (hb : BytesAt w a n f) (o : Obj) : BytesAt (w.alloc o) a n f := fun i hi => by
  obtain ⟨b, off, ha, hlt, hc⟩ := hb i hi
  exact ⟨b, off, ha, by simp only [World.size_alloc]; omega, ((Below.refl w.heap.size w).alloc (Nat.le_refl _) _).cell (p := ⟨b, off + i, none⟩) hlt |>.trans hc⟩

set_option maxRecDepth 100000 in
set_option maxHeartbeats 800000 in
theorem draw_ShapeValid (w : World) (a : Option Addr) (n c : Nat) (f : Nat → UInt8) (hb : BytesAt w a n f) (hc : n ≤ c) (hc' : c ≤ 9223372036854775807) :
    Calls Try.prog 12 #[.slice a n c] w (DrawShape w) := by
  have HB := Lib.hid hb; clear hb
  go_enter Try.func12, Try.ntmps12
  go_wp2_with fail
  refine (open_any _ _ _ _ _ (bytes_alloc HB.out _) hc hc').mono ?_
  rintro e w1 ⟨rfl, hb1, hr1⟩
  have k1 : w1.heap[w.heap.size]? = some (.cells #[.int .i64 0, .int .u8 ((0 : UInt8).toNat : Int), .bool false] 25 (0, 0)) := by
    rw [hb1.block w.heap.size (by simp only [World.size_alloc]; omega)]
    exact heap_alloc_new w _
  have B1 := Lib.hid (new_below hb1)
  have S1 := hb1.size
  simp only [World.size_alloc] at hr1 S1 ⊢
  clear hb1 HB
  go_wp2_with fail
  refine (shape_any _ _ _ _ hr1 (by omega) (by omega) (by omega)).mono ?_
  rintro e w2 ⟨W, b, L, rfl, hW, hV, hg, hr⟩
  have k2 : w2.heap[w.heap.size]? = some (.cells #[.int .i64 0, .int .u8 ((0 : UInt8).toNat : Int), .bool false] 25 (0, 0)) := by
    rw [hg.block w.heap.size (by omega) (by intro e; injection e with e; omega)]; exact k1
  have B2 := Lib.hid (B1.out.trans (below_of_grown hg B1.out.size (by intro q hq; injection hq with hq; omega)))
  clear hg hr hr1 k1
  have d0 : w2.cell? ⟨w.heap.size, 0, none⟩ = some (.int .i64 0) := by rw [cell_of_row _ _ _ _ _ _ k2]; rfl
  have d1 : w2.cell? ⟨w.heap.size, 1, none⟩ = some (.int .u8 0) := by rw [cell_of_row _ _ _ _ _ _ k2]; rfl
  have d2 : w2.cell? ⟨w.heap.size, 2, none⟩ = some (.bool false) := by rw [cell_of_row _ _ _ _ _ _ k2]; rfl
  have g0 : w2.frozen? ⟨w.heap.size, 0, none⟩ = false := by simp [World.frozen?, k2]
  have g1 : w2.frozen? ⟨w.heap.size, 1, none⟩ = false := by simp [World.frozen?, k2]
  have g2 : w2.frozen? ⟨w.heap.size, 2, none⟩ = false := by simp [World.frozen?, k2]
  obtain ⟨hn3, hg3⟩ := set_shape k2 W b L
  have HN := Lib.hid hn3; have HGG := Lib.hid hg3
  clear k2 hn3 hg3
  go_wp2
  have r0 := cell_of_row _ w.heap.size 0 _ _ _ HN.out
  have r1 := cell_of_row _ w.heap.size 1 _ _ _ HN.out
  have r2 := cell_of_row _ w.heap.size 2 _ _ _ HN.out
  simp only [List.getElem?_toArray, List.getElem?_cons_zero, List.getElem?_cons_succ] at r0 r1 r2
  exact bodyPost_ret (v := .agg #[.int .i64 W, .int .u8 (b.toNat : Int), .bool L]) (by simp [results, Try.results12, go_sem, r0, r1, r2]) rfl ⟨W, b, L, rfl, hW, hV, B2.out.trans (below_of_grown HGG.out B2.out.size (by intro q hq; injection hq with hq; omega))⟩

theorem shB_seven (W : Int) : shB W 7 = false := by rw [shB_eq]; simp
theorem shB_zero {W F : Int} (h : shB W F = true) : shB 0 F = true := by
  rw [shB_eq] at h ⊢
  simp only [Bool.and_eq_true, decide_eq_true_eq] at h ⊢
  omega

set_option maxRecDepth 100000 in
set_option maxHeartbeats 800000 in
theorem walk_FnShapeValid (a : Option Addr) (n c : Nat) (z : List Int) (w : World) (hrow : IsRow .u8 w a n c z) :
    Calls Try.prog 4 #[.slice a n c] w fun e w' => e = .returned (.bool true) ∧ Below w.heap.size w w' := by
  have hcap := hrow.caps
  have hby := Lib.hid hrow.bytes
  clear hrow
  by_cases hn : 1048576 < n
  · go_enter Try.func4, Try.ntmps4
    go_wp2
    go_ret
    exact ⟨rfl, Below.refl _ _⟩
  · go_enter Try.func4, Try.ntmps4
    go_wp2_with fail
    refine (draw_ShapeValid _ _ _ _ _ hby.out hcap.1 hcap.2).mono ?_
    rintro e w1 ⟨W, b, L, rfl, hW, hV, b1⟩
    have B1 := Lib.hid b1
    clear b1 hby hcap hn
    have HS7 := shB_seven W
    have HS0 := fun h => @shB_zero W (b.toNat : Int) h
    have CI : Hid (∀ W', Calls Try.prog 11 #[.agg #[.int .i64 W, .int .u8 (b.toNat : Int), .bool L]] W' fun e w' => e = .returned (.bool (shB W (b.toNat : Int))) ∧ Below W'.heap.size W' w') := fun W' => impl_ShapeValid _ _ _ W'
    have CS : Hid (∀ W', Calls Try.prog 9 #[.agg #[.int .i64 W, .int .u8 (b.toNat : Int), .bool L]] W' fun e w' => e = .returned (.bool (shB W (b.toNat : Int))) ∧ Below W'.heap.size W' w') := fun W' => spec_ShapeValid _ _ _ W'
    have C7 : Hid (∀ W', Calls Try.prog 11 #[.agg #[.int .i64 W, .int .u8 7, .bool false]] W' fun e w' => e = .returned (.bool false) ∧ Below W'.heap.size W' w') := fun W' => by have := impl_ShapeValid W 7 false W'; rwa [HS7] at this
    have C0 : Hid (shB W (b.toNat : Int) = true → ∀ W', Calls Try.prog 11 #[.agg #[.int .i64 0, .int .u8 (b.toNat : Int), .bool false]] W' fun e w' => e = .returned (.bool true) ∧ Below W'.heap.size W' w') := fun h W' => by have := impl_ShapeValid 0 (b.toNat : Int) false W'; rwa [HS0 h] at this
    generalize shB W (b.toNat : Int) = g at *
    clear HS7 HS0
    go_wp2_with fail
    refine (CI.out _).mono ?_
    rintro e w2 ⟨rfl, b2⟩
    have B2 := Lib.hid b2
    clear b2
    have c0 : w2.cell? ⟨w1.heap.size, 0, none⟩ = some (.int .i64 W) := new_kept B2.out 0
    have c1 : w2.cell? ⟨w1.heap.size, 1, none⟩ = some (.int .u8 (b.toNat : Int)) := new_kept B2.out 1
    have c2 : w2.cell? ⟨w1.heap.size, 2, none⟩ = some (.bool L) := new_kept B2.out 2
    go_wp2_with fail
    refine (CS.out _).mono ?_
    rintro e w3 ⟨rfl, b3⟩
    have B3 := Lib.hid (B2.out.trans (b3.mono B2.out.size))
    clear b3 c0 c1 c2
    have c0 : w3.cell? ⟨w1.heap.size, 0, none⟩ = some (.int .i64 W) := new_kept B3.out 0
    have c1 : w3.cell? ⟨w1.heap.size, 1, none⟩ = some (.int .u8 (b.toNat : Int)) := new_kept B3.out 1
    go_wp2_with fail
    refine (C7.out _).mono ?_
    rintro e w4 ⟨rfl, b4⟩
    have B4 := Lib.hid (B3.out.trans (b4.mono B3.out.size))
    clear b4 c0 c1
    have c1 : w4.cell? ⟨w1.heap.size, 1, none⟩ = some (.int .u8 (b.toNat : Int)) := new_kept B4.out 1
    cases g
    · go_wp2_with (go_at_call 13; refine (alive_any _).mono ?_; rintro e w5 ⟨rfl, b5⟩)
      go_ret
      exact ⟨rfl, B1.out.trans ((new_below (B4.out.trans (b5.mono B4.out.size))).mono B1.out.size)⟩
    · go_wp2_with fail
      refine (C0.out (by simp) _).mono ?_
      rintro e w5 ⟨rfl, b5⟩
      have B5 := Lib.hid (B4.out.trans (b5.mono B4.out.size))
      clear b5
      go_wp2_with (go_at_call 13; refine (alive_any _).mono ?_; rintro e w6 ⟨rfl, b6⟩)
      go_ret
      exact ⟨rfl, B1.out.trans ((new_below (B5.out.trans (b6.mono B5.out.size))).mono B1.out.size)⟩
end Go.Proofs.Ytmpidoenboffcaa

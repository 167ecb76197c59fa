/- impl.StepState at the steps that the markup of a table takes (printed by gen_steps.py). -/
import Derived.Test.YtdoomfckdjjlaaaStV
namespace Go.Proofs.Ytdoomfckdjjlaaa
open Go.RowKit

theorem st_agg (M : Nat) (T A : List UInt8) (E : Bool) : stV ⟨M, T, A, E⟩ = .agg #[.int .i64 (M : Int), .string (mkS T), .string (mkS A), .bool E] := rfl
/-- Three fresh blocks. -/
theorem three_new (w : World) (a b c : Obj) : ((((w.alloc a).alloc b).alloc c).heap[w.heap.size]? = some a ∧ (((w.alloc a).alloc b).alloc c).heap[w.heap.size + 1]? = some b ∧ (((w.alloc a).alloc b).alloc c).heap[w.heap.size + 1 + 1]? = some c) ∧ Below w.heap.size w (((w.alloc a).alloc b).alloc c) := by
  refine ⟨⟨?_, ?_, ?_⟩, (((Below.refl _ _).alloc (Nat.le_refl _) _).alloc (by simp) _).alloc (by simp; omega) _⟩
  · rw [Lib.alloc_old _ _ _ (by simp; omega), Lib.alloc_old _ _ _ (by simp)]
    exact heap_alloc_new _ _
  · rw [Lib.alloc_old _ _ _ (by simp)]
    have := heap_alloc_new (w.alloc a) b
    simpa using this
  · have := heap_alloc_new ((w.alloc a).alloc b) c
    simpa using this
theorem two_new (w : World) (a b : Obj) : (((w.alloc a).alloc b).heap[w.heap.size]? = some a ∧ ((w.alloc a).alloc b).heap[w.heap.size + 1]? = some b) ∧ Below w.heap.size w ((w.alloc a).alloc b) := by
  refine ⟨⟨?_, ?_⟩, ((Below.refl _ _).alloc (Nat.le_refl _) _).alloc (by simp) _⟩
  · rw [Lib.alloc_old _ _ _ (by simp)]
    exact heap_alloc_new _ _
  · have := heap_alloc_new (w.alloc a) b
    simpa using this
def scriptL : List UInt8 := [115, 99, 114, 105, 112, 116]

set_option maxRecDepth 100000 in
set_option maxHeartbeats 3200000 in
theorem step_00 (b : UInt8) (h : b ≠ 60) (w : World) :
    Calls Try.prog 41 #[stV ⟨0, [], [], false⟩, .int .u8 (b.toNat : Int)] w fun e w' => e = .returned (stV ⟨0, [], [], false⟩) ∧ Below w.heap.size w w' := by
  have hval : stValid ⟨0, [], [], false⟩ = true := rfl
  have hb : ((b.toNat : Int) == 60) = false := bneN (n := 60) 60 rfl h
  have CV := Lib.hid (fun W => (hval ▸ impl_StateValid ⟨0, [], [], false⟩ W (by first | exact hTl | (simp; done) | (simp; omega)) (by simp) : Calls Try.prog 69 #[stV ⟨0, [], [], false⟩] W fun e w' => e = .returned (.bool true) ∧ Below W.heap.size W w'))
  obtain ⟨⟨p0, p1, p2⟩, bx⟩ := three_new w (.cells #[.int .i64 0, .string (mkS []), .string (mkS []), .bool false] 57 (0, 0)) (.cells #[.int .i64 0, .string ⟨#[]⟩, .string ⟨#[]⟩, .bool false] 57 (0, 0)) (.cells #[.int .i64 15, .string ⟨#[]⟩, .string ⟨#[]⟩, .bool false] 57 (0, 0))
  rw [st_agg] at CV ⊢
  clear hval
  have P0 := Lib.hid p0; have P1 := Lib.hid p1; have P2 := Lib.hid p2; have BX := Lib.hid bx
  clear p0 p1 p2 bx
  go_enter Try.func41, Try.ntmps41
  go_wp2_with fail
  refine (CV.out _).mono ?_
  rintro e w1 ⟨rfl, hb1⟩
  have q0 := (hb1.block _ (bld_ltS P0.out)).trans P0.out
  have q1 := (hb1.block _ (bld_ltS P1.out)).trans P1.out
  have BW := Lib.hid (BX.out.trans (hb1.mono BX.out.size))
  have x0 : w1.cell? ⟨w.heap.size, 0, none⟩ = some (.int .i64 0) := by rw [cell_of_row w1 _ _ _ _ _ q0]; rfl
  have x1 : w1.cell? ⟨w.heap.size, 1, none⟩ = some (.string (mkS [])) := by rw [cell_of_row w1 _ _ _ _ _ q0]; rfl
  have x2 : w1.cell? ⟨w.heap.size, 2, none⟩ = some (.string (mkS [])) := by rw [cell_of_row w1 _ _ _ _ _ q0]; rfl
  have x3 : w1.cell? ⟨w.heap.size, 3, none⟩ = some (.bool false) := by rw [cell_of_row w1 _ _ _ _ _ q0]; rfl
  have u0 : w1.cell? ⟨w.heap.size + 1, 0, none⟩ = some (.int .i64 0) := by rw [cell_of_row w1 _ _ _ _ _ q1]; rfl
  have u1 : w1.cell? ⟨w.heap.size + 1, 1, none⟩ = some (.string ⟨#[]⟩) := by rw [cell_of_row w1 _ _ _ _ _ q1]; rfl
  have u2 : w1.cell? ⟨w.heap.size + 1, 2, none⟩ = some (.string ⟨#[]⟩) := by rw [cell_of_row w1 _ _ _ _ _ q1]; rfl
  have u3 : w1.cell? ⟨w.heap.size + 1, 3, none⟩ = some (.bool false) := by rw [cell_of_row w1 _ _ _ _ _ q1]; rfl
  have f0 := row_frozen q0 0
  have f1 := row_frozen q0 1
  have f2 := row_frozen q0 2
  have f3 := row_frozen q0 3
  have g0 := row_frozen q1 0
  have g1 := row_frozen q1 1
  have g2 := row_frozen q1 2
  have g3 := row_frozen q1 3
  have Q0 := Lib.hid q0; have Q1 := Lib.hid q1
  clear q0 q1 hb1 P0 P1 P2 CV
  go_wp2
  obtain ⟨⟨r0, r1, r2, r3⟩, RB⟩ := st_set Q1.out (.int .i64 0) (.string (mkS [])) (.string (mkS [])) (.bool false)
  exact bodyPost_ret (v := .agg #[.int .i64 0, .string (mkS []), .string (mkS []), .bool false]) (by simp [results, Try.results41, go_sem, r0, r1, r2, r3]) rfl ⟨by rfl, RB _ _ (by omega) BW.out⟩
set_option maxRecDepth 100000 in
set_option maxHeartbeats 3200000 in
theorem step_01 (b : UInt8) (h : b = 60) (w : World) :
    Calls Try.prog 41 #[stV ⟨0, [], [], false⟩, .int .u8 (b.toNat : Int)] w fun e w' => e = .returned (stV ⟨1, [], [], false⟩) ∧ Below w.heap.size w w' := by
  have hval : stValid ⟨0, [], [], false⟩ = true := rfl
  have hb : ((b.toNat : Int) == 60) = true := by rw [h]; rfl
  have CV := Lib.hid (fun W => (hval ▸ impl_StateValid ⟨0, [], [], false⟩ W (by first | exact hTl | (simp; done) | (simp; omega)) (by simp) : Calls Try.prog 69 #[stV ⟨0, [], [], false⟩] W fun e w' => e = .returned (.bool true) ∧ Below W.heap.size W w'))
  obtain ⟨⟨p0, p1, p2⟩, bx⟩ := three_new w (.cells #[.int .i64 0, .string (mkS []), .string (mkS []), .bool false] 57 (0, 0)) (.cells #[.int .i64 0, .string ⟨#[]⟩, .string ⟨#[]⟩, .bool false] 57 (0, 0)) (.cells #[.int .i64 15, .string ⟨#[]⟩, .string ⟨#[]⟩, .bool false] 57 (0, 0))
  rw [st_agg] at CV ⊢
  clear hval
  have P0 := Lib.hid p0; have P1 := Lib.hid p1; have P2 := Lib.hid p2; have BX := Lib.hid bx
  clear p0 p1 p2 bx
  go_enter Try.func41, Try.ntmps41
  go_wp2_with fail
  refine (CV.out _).mono ?_
  rintro e w1 ⟨rfl, hb1⟩
  have q0 := (hb1.block _ (bld_ltS P0.out)).trans P0.out
  have q1 := (hb1.block _ (bld_ltS P1.out)).trans P1.out
  have BW := Lib.hid (BX.out.trans (hb1.mono BX.out.size))
  have x0 : w1.cell? ⟨w.heap.size, 0, none⟩ = some (.int .i64 0) := by rw [cell_of_row w1 _ _ _ _ _ q0]; rfl
  have x1 : w1.cell? ⟨w.heap.size, 1, none⟩ = some (.string (mkS [])) := by rw [cell_of_row w1 _ _ _ _ _ q0]; rfl
  have x2 : w1.cell? ⟨w.heap.size, 2, none⟩ = some (.string (mkS [])) := by rw [cell_of_row w1 _ _ _ _ _ q0]; rfl
  have x3 : w1.cell? ⟨w.heap.size, 3, none⟩ = some (.bool false) := by rw [cell_of_row w1 _ _ _ _ _ q0]; rfl
  have u0 : w1.cell? ⟨w.heap.size + 1, 0, none⟩ = some (.int .i64 0) := by rw [cell_of_row w1 _ _ _ _ _ q1]; rfl
  have u1 : w1.cell? ⟨w.heap.size + 1, 1, none⟩ = some (.string ⟨#[]⟩) := by rw [cell_of_row w1 _ _ _ _ _ q1]; rfl
  have u2 : w1.cell? ⟨w.heap.size + 1, 2, none⟩ = some (.string ⟨#[]⟩) := by rw [cell_of_row w1 _ _ _ _ _ q1]; rfl
  have u3 : w1.cell? ⟨w.heap.size + 1, 3, none⟩ = some (.bool false) := by rw [cell_of_row w1 _ _ _ _ _ q1]; rfl
  have f0 := row_frozen q0 0
  have f1 := row_frozen q0 1
  have f2 := row_frozen q0 2
  have f3 := row_frozen q0 3
  have g0 := row_frozen q1 0
  have g1 := row_frozen q1 1
  have g2 := row_frozen q1 2
  have g3 := row_frozen q1 3
  have Q0 := Lib.hid q0; have Q1 := Lib.hid q1
  clear q0 q1 hb1 P0 P1 P2 CV
  have S0 := Lib.hid (heap_setCell_same w1 w.heap.size 0 _ _ (.int .i64 1) Q0.out)
  have S1 : Hid ((w1.setCell ⟨w.heap.size, 0, none⟩ (.int .i64 1)).heap[w.heap.size + 1]? = _) := (Below.heap_setCell _ _ _ _ (by simp)).trans Q1.out
  have BS := Lib.hid (BW.out.setCell (p := ⟨w.heap.size, 0, none⟩) (Nat.le_refl _) (.int .i64 1))
  go_wp2
  obtain ⟨⟨r0, r1, r2, r3⟩, RB⟩ := st_set S1.out (.int .i64 1) (.string (mkS [])) (.string (mkS [])) (.bool false)
  exact bodyPost_ret (v := .agg #[.int .i64 1, .string (mkS []), .string (mkS []), .bool false]) (by simp [results, Try.results41, go_sem, r0, r1, r2, r3]) rfl ⟨by rfl, RB _ _ (by omega) BS.out⟩
set_option maxRecDepth 100000 in
set_option maxHeartbeats 3200000 in
theorem step_12 (b : UInt8) (h : letB b = true) (w : World) :
    Calls Try.prog 41 #[stV ⟨1, [], [], false⟩, .int .u8 (b.toNat : Int)] w fun e w' => e = .returned (stV ⟨2, [lowC b], [], false⟩) ∧ Below w.heap.size w w' := by
  have hval : stValid ⟨1, [], [], false⟩ = true := rfl
  have CL := Lib.hid (fun W => (h ▸ impl_isLetter b W : Calls Try.prog 70 #[.int .u8 (b.toNat : Int)] W fun e w' => e = .returned (.bool true) ∧ W = w'))
  have CO := Lib.hid (fun W => lower_one b W)
  clear h
  have CV := Lib.hid (fun W => (hval ▸ impl_StateValid ⟨1, [], [], false⟩ W (by first | exact hTl | (simp; done) | (simp; omega)) (by simp) : Calls Try.prog 69 #[stV ⟨1, [], [], false⟩] W fun e w' => e = .returned (.bool true) ∧ Below W.heap.size W w'))
  obtain ⟨⟨p0, p1, p2⟩, bx⟩ := three_new w (.cells #[.int .i64 1, .string (mkS []), .string (mkS []), .bool false] 57 (0, 0)) (.cells #[.int .i64 0, .string ⟨#[]⟩, .string ⟨#[]⟩, .bool false] 57 (0, 0)) (.cells #[.int .i64 15, .string ⟨#[]⟩, .string ⟨#[]⟩, .bool false] 57 (0, 0))
  rw [st_agg] at CV ⊢
  clear hval
  have P0 := Lib.hid p0; have P1 := Lib.hid p1; have P2 := Lib.hid p2; have BX := Lib.hid bx
  clear p0 p1 p2 bx
  go_enter Try.func41, Try.ntmps41
  go_wp2_with fail
  refine (CV.out _).mono ?_
  rintro e w1 ⟨rfl, hb1⟩
  have q0 := (hb1.block _ (bld_ltS P0.out)).trans P0.out
  have q1 := (hb1.block _ (bld_ltS P1.out)).trans P1.out
  have BW := Lib.hid (BX.out.trans (hb1.mono BX.out.size))
  have x0 : w1.cell? ⟨w.heap.size, 0, none⟩ = some (.int .i64 1) := by rw [cell_of_row w1 _ _ _ _ _ q0]; rfl
  have x1 : w1.cell? ⟨w.heap.size, 1, none⟩ = some (.string (mkS [])) := by rw [cell_of_row w1 _ _ _ _ _ q0]; rfl
  have x2 : w1.cell? ⟨w.heap.size, 2, none⟩ = some (.string (mkS [])) := by rw [cell_of_row w1 _ _ _ _ _ q0]; rfl
  have x3 : w1.cell? ⟨w.heap.size, 3, none⟩ = some (.bool false) := by rw [cell_of_row w1 _ _ _ _ _ q0]; rfl
  have u0 : w1.cell? ⟨w.heap.size + 1, 0, none⟩ = some (.int .i64 0) := by rw [cell_of_row w1 _ _ _ _ _ q1]; rfl
  have u1 : w1.cell? ⟨w.heap.size + 1, 1, none⟩ = some (.string ⟨#[]⟩) := by rw [cell_of_row w1 _ _ _ _ _ q1]; rfl
  have u2 : w1.cell? ⟨w.heap.size + 1, 2, none⟩ = some (.string ⟨#[]⟩) := by rw [cell_of_row w1 _ _ _ _ _ q1]; rfl
  have u3 : w1.cell? ⟨w.heap.size + 1, 3, none⟩ = some (.bool false) := by rw [cell_of_row w1 _ _ _ _ _ q1]; rfl
  have f0 := row_frozen q0 0
  have f1 := row_frozen q0 1
  have f2 := row_frozen q0 2
  have f3 := row_frozen q0 3
  have g0 := row_frozen q1 0
  have g1 := row_frozen q1 1
  have g2 := row_frozen q1 2
  have g3 := row_frozen q1 3
  have Q0 := Lib.hid q0; have Q1 := Lib.hid q1
  clear q0 q1 hb1 P0 P1 P2 CV
  have hone := one_str w1 b
  go_wp2_with fail
  refine (CL.out _).mono ?_
  rintro e w2 ⟨rfl, rfl⟩
  go_wp2_with fail
  refine (CO.out _).mono ?_
  rintro e w2 ⟨rfl, hb2⟩
  have B2 := Lib.hid (((Below.refl w1.heap.size w1).alloc (Nat.le_refl _) (.cells #[.int .u8 (b.toNat : Int)] 5 (0, 0))).trans (hb2.mono (by simp)))
  have q1 := (B2.out.block _ (bld_ltS Q1.out)).trans Q1.out
  have v0 : w2.cell? ⟨w.heap.size + 1, 0, none⟩ = some (.int .i64 0) := by rw [cell_of_row w2 _ _ _ _ _ q1]; rfl
  have v1 : w2.cell? ⟨w.heap.size + 1, 1, none⟩ = some (.string ⟨#[]⟩) := by rw [cell_of_row w2 _ _ _ _ _ q1]; rfl
  have v2 : w2.cell? ⟨w.heap.size + 1, 2, none⟩ = some (.string ⟨#[]⟩) := by rw [cell_of_row w2 _ _ _ _ _ q1]; rfl
  have v3 : w2.cell? ⟨w.heap.size + 1, 3, none⟩ = some (.bool false) := by rw [cell_of_row w2 _ _ _ _ _ q1]; rfl
  have k0 := row_frozen q1 0
  have k1 := row_frozen q1 1
  have k2 := row_frozen q1 2
  have k3 := row_frozen q1 3
  have Q2 := Lib.hid q1
  have BV := Lib.hid (BW.out.trans (B2.out.mono BW.out.size))
  clear q1 hb2 hone
  go_wp2
  obtain ⟨⟨r0, r1, r2, r3⟩, RB⟩ := st_set Q2.out (.int .i64 2) (.string (mkS [lowC b])) (.string ⟨#[]⟩) (.bool false)
  exact bodyPost_ret (v := .agg #[.int .i64 2, .string (mkS [lowC b]), .string ⟨#[]⟩, .bool false]) (by simp [results, Try.results41, go_sem, r0, r1, r2, r3]) rfl ⟨by rfl, RB _ _ (by omega) BV.out⟩
set_option maxRecDepth 100000 in
set_option maxHeartbeats 3200000 in
theorem step_19 (b : UInt8) (h : b = 47) (w : World) :
    Calls Try.prog 41 #[stV ⟨1, [], [], false⟩, .int .u8 (b.toNat : Int)] w fun e w' => e = .returned (stV ⟨9, [], [], false⟩) ∧ Below w.heap.size w w' := by
  have hval : stValid ⟨1, [], [], false⟩ = true := rfl
  have CL := Lib.hid (fun W => ((by subst h; rfl : letB b = false) ▸ impl_isLetter b W : Calls Try.prog 70 #[.int .u8 (b.toNat : Int)] W fun e w' => e = .returned (.bool false) ∧ W = w'))
  have hb : ((b.toNat : Int) == 47) = true := by rw [h]; rfl
  clear h
  have CV := Lib.hid (fun W => (hval ▸ impl_StateValid ⟨1, [], [], false⟩ W (by first | exact hTl | (simp; done) | (simp; omega)) (by simp) : Calls Try.prog 69 #[stV ⟨1, [], [], false⟩] W fun e w' => e = .returned (.bool true) ∧ Below W.heap.size W w'))
  obtain ⟨⟨p0, p1, p2⟩, bx⟩ := three_new w (.cells #[.int .i64 1, .string (mkS []), .string (mkS []), .bool false] 57 (0, 0)) (.cells #[.int .i64 0, .string ⟨#[]⟩, .string ⟨#[]⟩, .bool false] 57 (0, 0)) (.cells #[.int .i64 15, .string ⟨#[]⟩, .string ⟨#[]⟩, .bool false] 57 (0, 0))
  rw [st_agg] at CV ⊢
  clear hval
  have P0 := Lib.hid p0; have P1 := Lib.hid p1; have P2 := Lib.hid p2; have BX := Lib.hid bx
  clear p0 p1 p2 bx
  go_enter Try.func41, Try.ntmps41
  go_wp2_with fail
  refine (CV.out _).mono ?_
  rintro e w1 ⟨rfl, hb1⟩
  have q0 := (hb1.block _ (bld_ltS P0.out)).trans P0.out
  have q1 := (hb1.block _ (bld_ltS P1.out)).trans P1.out
  have BW := Lib.hid (BX.out.trans (hb1.mono BX.out.size))
  have x0 : w1.cell? ⟨w.heap.size, 0, none⟩ = some (.int .i64 1) := by rw [cell_of_row w1 _ _ _ _ _ q0]; rfl
  have x1 : w1.cell? ⟨w.heap.size, 1, none⟩ = some (.string (mkS [])) := by rw [cell_of_row w1 _ _ _ _ _ q0]; rfl
  have x2 : w1.cell? ⟨w.heap.size, 2, none⟩ = some (.string (mkS [])) := by rw [cell_of_row w1 _ _ _ _ _ q0]; rfl
  have x3 : w1.cell? ⟨w.heap.size, 3, none⟩ = some (.bool false) := by rw [cell_of_row w1 _ _ _ _ _ q0]; rfl
  have u0 : w1.cell? ⟨w.heap.size + 1, 0, none⟩ = some (.int .i64 0) := by rw [cell_of_row w1 _ _ _ _ _ q1]; rfl
  have u1 : w1.cell? ⟨w.heap.size + 1, 1, none⟩ = some (.string ⟨#[]⟩) := by rw [cell_of_row w1 _ _ _ _ _ q1]; rfl
  have u2 : w1.cell? ⟨w.heap.size + 1, 2, none⟩ = some (.string ⟨#[]⟩) := by rw [cell_of_row w1 _ _ _ _ _ q1]; rfl
  have u3 : w1.cell? ⟨w.heap.size + 1, 3, none⟩ = some (.bool false) := by rw [cell_of_row w1 _ _ _ _ _ q1]; rfl
  have f0 := row_frozen q0 0
  have f1 := row_frozen q0 1
  have f2 := row_frozen q0 2
  have f3 := row_frozen q0 3
  have g0 := row_frozen q1 0
  have g1 := row_frozen q1 1
  have g2 := row_frozen q1 2
  have g3 := row_frozen q1 3
  have Q0 := Lib.hid q0; have Q1 := Lib.hid q1
  clear q0 q1 hb1 P0 P1 P2 CV
  go_wp2_with fail
  refine (CL.out _).mono ?_
  rintro e w2 ⟨rfl, rfl⟩
  go_wp2
  obtain ⟨⟨r0, r1, r2, r3⟩, RB⟩ := st_set Q1.out (.int .i64 9) (.string ⟨#[]⟩) (.string ⟨#[]⟩) (.bool false)
  exact bodyPost_ret (v := .agg #[.int .i64 9, .string ⟨#[]⟩, .string ⟨#[]⟩, .bool false]) (by simp [results, Try.results41, go_sem, r0, r1, r2, r3]) rfl ⟨by rfl, RB _ _ (by omega) BW.out⟩
set_option maxRecDepth 100000 in
set_option maxHeartbeats 3200000 in
theorem tag_20 (T : List UInt8) (b : UInt8) (h : b = 62) (hs : T ≠ scriptL) (w : World) :
    Calls Try.prog 71 #[stV ⟨2, T, [], false⟩, .int .u8 (b.toNat : Int)] w fun e w' => e = .returned (stV ⟨0, [], [], false⟩) ∧ Below w.heap.size w w' := by
  have hb : ((b.toNat : Int) == 62) = true := by rw [h]; rfl
  have hty : ((mkS T).toList == [115, 99, 114, 105, 112, 116]) = false := by rw [ByteArray.toList_eq]; simpa [mkS, scriptL] using hs
  clear h hs
  obtain ⟨⟨p0, p1⟩, bx⟩ := two_new w (.cells #[.int .i64 2, .string (mkS T), .string (mkS []), .bool false] 57 (0, 0)) (.cells #[.int .i64 0, .string ⟨#[]⟩, .string ⟨#[]⟩, .bool false] 57 (0, 0))
  rw [st_agg 2]
  have P0 := Lib.hid p0; have P1 := Lib.hid p1; have BX := Lib.hid bx
  clear p0 p1 bx
  go_enter Try.func71, Try.ntmps71
  go_wp2
  exact bodyPost_ret (v := .agg #[.int .i64 0, .string ⟨#[]⟩, .string ⟨#[]⟩, .bool false]) (by simp [results, Try.results71, go_sem]) rfl ⟨rfl, BX.out⟩
set_option maxRecDepth 100000 in
set_option maxHeartbeats 3200000 in
theorem tag_22 (T : List UInt8) (b : UInt8) (h : letB b = true) (hT : T.length ≤ 1000) (w : World) :
    Calls Try.prog 71 #[stV ⟨2, T, [], false⟩, .int .u8 (b.toNat : Int)] w fun e w' => e = .returned (stV (longT ⟨2, T, [], false⟩ b)) ∧ Below w.heap.size w w' := by
  have hb : ((b.toNat : Int) == 62) = false := bneN (n := 62) 62 rfl (by rintro rfl; revert h; decide)
  have hb2 : ((b.toNat : Int) == 32) = false := bneN (n := 32) 32 rfl (by rintro rfl; revert h; decide)
  have CL := Lib.hid (fun W => (h ▸ impl_isLetter b W : Calls Try.prog 70 #[.int .u8 (b.toNat : Int)] W fun e w' => e = .returned (.bool true) ∧ W = w'))
  have CG := Lib.hid (fun W => longer_T ⟨2, T, [], false⟩ b W hT)
  rw [st_agg] at CG
  obtain ⟨M2, T2, A2, E2, hlt⟩ : ∃ M2 T2 A2 E2, longT ⟨2, T, [], false⟩ b = ⟨M2, T2, A2, E2⟩ := ⟨_, _, _, _, rfl⟩
  rw [hlt, st_agg] at CG
  clear h hT
  obtain ⟨⟨p0, p1⟩, bx⟩ := two_new w (.cells #[.int .i64 2, .string (mkS T), .string (mkS []), .bool false] 57 (0, 0)) (.cells #[.int .i64 0, .string ⟨#[]⟩, .string ⟨#[]⟩, .bool false] 57 (0, 0))
  rw [st_agg 2]
  have P0 := Lib.hid p0; have P1 := Lib.hid p1; have BX := Lib.hid bx
  clear p0 p1 bx
  go_enter Try.func71, Try.ntmps71
  go_wp2_with fail
  refine (CL.out _).mono ?_
  rintro e w2 ⟨rfl, rfl⟩
  go_wp2_with fail
  refine (CG.out _).mono ?_
  rintro e w2 ⟨rfl, hb2⟩
  have q1 := (hb2.block _ (bld_ltS P1.out)).trans P1.out
  have v0 : w2.cell? ⟨w.heap.size + 1, 0, none⟩ = some (.int .i64 0) := by rw [cell_of_row w2 _ _ _ _ _ q1]; rfl
  have v1 : w2.cell? ⟨w.heap.size + 1, 1, none⟩ = some (.string ⟨#[]⟩) := by rw [cell_of_row w2 _ _ _ _ _ q1]; rfl
  have v2 : w2.cell? ⟨w.heap.size + 1, 2, none⟩ = some (.string ⟨#[]⟩) := by rw [cell_of_row w2 _ _ _ _ _ q1]; rfl
  have v3 : w2.cell? ⟨w.heap.size + 1, 3, none⟩ = some (.bool false) := by rw [cell_of_row w2 _ _ _ _ _ q1]; rfl
  have k0 := row_frozen q1 0
  have k1 := row_frozen q1 1
  have k2 := row_frozen q1 2
  have k3 := row_frozen q1 3
  have Q2 := Lib.hid q1
  have BV := Lib.hid (BX.out.trans (hb2.mono BX.out.size))
  clear q1 hb2
  go_wp2
  obtain ⟨⟨r0, r1, r2, r3⟩, RB⟩ := st_set Q2.out (.int .i64 (M2 : Int)) (.string (mkS T2)) (.string (mkS A2)) (.bool E2)
  exact bodyPost_ret (v := .agg #[.int .i64 (M2 : Int), .string (mkS T2), .string (mkS A2), .bool E2]) (by simp [results, Try.results71, go_sem, r0, r1, r2, r3]) rfl ⟨by rw [hlt]; rfl, RB _ _ (by omega) BV.out⟩
theorem nameB_len {T : List UInt8} (h : nameB T = true) : T.length ≤ 10 := by
  rcases Nat.lt_or_ge 10 T.length with h1 | h1
  · rw [nameB_no (.inr (.inr (by omega)))] at h; cases h
  · exact h1
set_option maxRecDepth 100000 in
set_option maxHeartbeats 3200000 in
theorem step_20 (T : List UInt8) (b : UInt8) (hT : nameB T = true) (h : b = 62) (hs : T ≠ scriptL) (w : World) :
    Calls Try.prog 41 #[stV ⟨2, T, [], false⟩, .int .u8 (b.toNat : Int)] w fun e w' => e = .returned (stV ⟨0, [], [], false⟩) ∧ Below w.heap.size w w' := by
  have hTl : T.length ≤ 1000 := by have := nameB_len hT; omega
  have hval : stValid ⟨2, T, [], false⟩ = true := by unfold stValid stTag stAttr stSeen; simp [hT]
  have CG := Lib.hid (fun W => tag_20 T b h hs W)
  rw [st_agg] at CG
  have he0 : stV ⟨0, [], [], false⟩ = .agg #[.int .i64 0, .string (mkS []), .string (mkS []), .bool false] := rfl
  rw [he0] at CG
  clear hT h hs
  have CV := Lib.hid (fun W => (hval ▸ impl_StateValid ⟨2, T, [], false⟩ W (by first | exact hTl | (simp; done) | (simp; omega)) (by simp) : Calls Try.prog 69 #[stV ⟨2, T, [], false⟩] W fun e w' => e = .returned (.bool true) ∧ Below W.heap.size W w'))
  obtain ⟨⟨p0, p1, p2⟩, bx⟩ := three_new w (.cells #[.int .i64 2, .string (mkS T), .string (mkS []), .bool false] 57 (0, 0)) (.cells #[.int .i64 0, .string ⟨#[]⟩, .string ⟨#[]⟩, .bool false] 57 (0, 0)) (.cells #[.int .i64 15, .string ⟨#[]⟩, .string ⟨#[]⟩, .bool false] 57 (0, 0))
  rw [st_agg] at CV ⊢
  clear hval
  have P0 := Lib.hid p0; have P1 := Lib.hid p1; have P2 := Lib.hid p2; have BX := Lib.hid bx
  clear p0 p1 p2 bx
  go_enter Try.func41, Try.ntmps41
  go_wp2_with fail
  refine (CV.out _).mono ?_
  rintro e w1 ⟨rfl, hb1⟩
  have q0 := (hb1.block _ (bld_ltS P0.out)).trans P0.out
  have q1 := (hb1.block _ (bld_ltS P1.out)).trans P1.out
  have BW := Lib.hid (BX.out.trans (hb1.mono BX.out.size))
  have x0 : w1.cell? ⟨w.heap.size, 0, none⟩ = some (.int .i64 2) := by rw [cell_of_row w1 _ _ _ _ _ q0]; rfl
  have x1 : w1.cell? ⟨w.heap.size, 1, none⟩ = some (.string (mkS T)) := by rw [cell_of_row w1 _ _ _ _ _ q0]; rfl
  have x2 : w1.cell? ⟨w.heap.size, 2, none⟩ = some (.string (mkS [])) := by rw [cell_of_row w1 _ _ _ _ _ q0]; rfl
  have x3 : w1.cell? ⟨w.heap.size, 3, none⟩ = some (.bool false) := by rw [cell_of_row w1 _ _ _ _ _ q0]; rfl
  have u0 : w1.cell? ⟨w.heap.size + 1, 0, none⟩ = some (.int .i64 0) := by rw [cell_of_row w1 _ _ _ _ _ q1]; rfl
  have u1 : w1.cell? ⟨w.heap.size + 1, 1, none⟩ = some (.string ⟨#[]⟩) := by rw [cell_of_row w1 _ _ _ _ _ q1]; rfl
  have u2 : w1.cell? ⟨w.heap.size + 1, 2, none⟩ = some (.string ⟨#[]⟩) := by rw [cell_of_row w1 _ _ _ _ _ q1]; rfl
  have u3 : w1.cell? ⟨w.heap.size + 1, 3, none⟩ = some (.bool false) := by rw [cell_of_row w1 _ _ _ _ _ q1]; rfl
  have f0 := row_frozen q0 0
  have f1 := row_frozen q0 1
  have f2 := row_frozen q0 2
  have f3 := row_frozen q0 3
  have g0 := row_frozen q1 0
  have g1 := row_frozen q1 1
  have g2 := row_frozen q1 2
  have g3 := row_frozen q1 3
  have Q0 := Lib.hid q0; have Q1 := Lib.hid q1
  clear q0 q1 hb1 P0 P1 P2 CV
  go_wp2_with fail
  refine (CG.out _).mono ?_
  rintro e w2 ⟨rfl, hb2⟩
  have q1 := (hb2.block _ (bld_ltS Q1.out)).trans Q1.out
  have v0 : w2.cell? ⟨w.heap.size + 1, 0, none⟩ = some (.int .i64 0) := by rw [cell_of_row w2 _ _ _ _ _ q1]; rfl
  have v1 : w2.cell? ⟨w.heap.size + 1, 1, none⟩ = some (.string ⟨#[]⟩) := by rw [cell_of_row w2 _ _ _ _ _ q1]; rfl
  have v2 : w2.cell? ⟨w.heap.size + 1, 2, none⟩ = some (.string ⟨#[]⟩) := by rw [cell_of_row w2 _ _ _ _ _ q1]; rfl
  have v3 : w2.cell? ⟨w.heap.size + 1, 3, none⟩ = some (.bool false) := by rw [cell_of_row w2 _ _ _ _ _ q1]; rfl
  have k0 := row_frozen q1 0
  have k1 := row_frozen q1 1
  have k2 := row_frozen q1 2
  have k3 := row_frozen q1 3
  have Q2 := Lib.hid q1
  have BV := Lib.hid (BW.out.trans (hb2.mono BW.out.size))
  clear q1 hb2
  go_wp2
  obtain ⟨⟨r0, r1, r2, r3⟩, RB⟩ := st_set Q2.out (.int .i64 0) (.string (mkS [])) (.string (mkS [])) (.bool false)
  exact bodyPost_ret (v := .agg #[.int .i64 0, .string (mkS []), .string (mkS []), .bool false]) (by simp [results, Try.results41, go_sem, r0, r1, r2, r3]) rfl ⟨by rfl, RB _ _ (by omega) BV.out⟩
set_option maxRecDepth 100000 in
set_option maxHeartbeats 3200000 in
theorem step_22 (T : List UInt8) (b : UInt8) (hT : nameB T = true) (h : letB b = true) (w : World) :
    Calls Try.prog 41 #[stV ⟨2, T, [], false⟩, .int .u8 (b.toNat : Int)] w fun e w' => e = .returned (stV (longT ⟨2, T, [], false⟩ b)) ∧ Below w.heap.size w w' := by
  have hTl : T.length ≤ 1000 := by have := nameB_len hT; omega
  have hval : stValid ⟨2, T, [], false⟩ = true := by unfold stValid stTag stAttr stSeen; simp [hT]
  have CG := Lib.hid (fun W => tag_22 T b h hTl W)
  rw [st_agg] at CG
  obtain ⟨M2, T2, A2, E2, hlt⟩ : ∃ M2 T2 A2 E2, longT ⟨2, T, [], false⟩ b = ⟨M2, T2, A2, E2⟩ := ⟨_, _, _, _, rfl⟩
  rw [hlt, st_agg] at CG
  clear hT h
  have CV := Lib.hid (fun W => (hval ▸ impl_StateValid ⟨2, T, [], false⟩ W (by first | exact hTl | (simp; done) | (simp; omega)) (by simp) : Calls Try.prog 69 #[stV ⟨2, T, [], false⟩] W fun e w' => e = .returned (.bool true) ∧ Below W.heap.size W w'))
  obtain ⟨⟨p0, p1, p2⟩, bx⟩ := three_new w (.cells #[.int .i64 2, .string (mkS T), .string (mkS []), .bool false] 57 (0, 0)) (.cells #[.int .i64 0, .string ⟨#[]⟩, .string ⟨#[]⟩, .bool false] 57 (0, 0)) (.cells #[.int .i64 15, .string ⟨#[]⟩, .string ⟨#[]⟩, .bool false] 57 (0, 0))
  rw [st_agg] at CV ⊢
  clear hval
  have P0 := Lib.hid p0; have P1 := Lib.hid p1; have P2 := Lib.hid p2; have BX := Lib.hid bx
  clear p0 p1 p2 bx
  go_enter Try.func41, Try.ntmps41
  go_wp2_with fail
  refine (CV.out _).mono ?_
  rintro e w1 ⟨rfl, hb1⟩
  have q0 := (hb1.block _ (bld_ltS P0.out)).trans P0.out
  have q1 := (hb1.block _ (bld_ltS P1.out)).trans P1.out
  have BW := Lib.hid (BX.out.trans (hb1.mono BX.out.size))
  have x0 : w1.cell? ⟨w.heap.size, 0, none⟩ = some (.int .i64 2) := by rw [cell_of_row w1 _ _ _ _ _ q0]; rfl
  have x1 : w1.cell? ⟨w.heap.size, 1, none⟩ = some (.string (mkS T)) := by rw [cell_of_row w1 _ _ _ _ _ q0]; rfl
  have x2 : w1.cell? ⟨w.heap.size, 2, none⟩ = some (.string (mkS [])) := by rw [cell_of_row w1 _ _ _ _ _ q0]; rfl
  have x3 : w1.cell? ⟨w.heap.size, 3, none⟩ = some (.bool false) := by rw [cell_of_row w1 _ _ _ _ _ q0]; rfl
  have u0 : w1.cell? ⟨w.heap.size + 1, 0, none⟩ = some (.int .i64 0) := by rw [cell_of_row w1 _ _ _ _ _ q1]; rfl
  have u1 : w1.cell? ⟨w.heap.size + 1, 1, none⟩ = some (.string ⟨#[]⟩) := by rw [cell_of_row w1 _ _ _ _ _ q1]; rfl
  have u2 : w1.cell? ⟨w.heap.size + 1, 2, none⟩ = some (.string ⟨#[]⟩) := by rw [cell_of_row w1 _ _ _ _ _ q1]; rfl
  have u3 : w1.cell? ⟨w.heap.size + 1, 3, none⟩ = some (.bool false) := by rw [cell_of_row w1 _ _ _ _ _ q1]; rfl
  have f0 := row_frozen q0 0
  have f1 := row_frozen q0 1
  have f2 := row_frozen q0 2
  have f3 := row_frozen q0 3
  have g0 := row_frozen q1 0
  have g1 := row_frozen q1 1
  have g2 := row_frozen q1 2
  have g3 := row_frozen q1 3
  have Q0 := Lib.hid q0; have Q1 := Lib.hid q1
  clear q0 q1 hb1 P0 P1 P2 CV
  go_wp2_with fail
  refine (CG.out _).mono ?_
  rintro e w2 ⟨rfl, hb2⟩
  have q1 := (hb2.block _ (bld_ltS Q1.out)).trans Q1.out
  have v0 : w2.cell? ⟨w.heap.size + 1, 0, none⟩ = some (.int .i64 0) := by rw [cell_of_row w2 _ _ _ _ _ q1]; rfl
  have v1 : w2.cell? ⟨w.heap.size + 1, 1, none⟩ = some (.string ⟨#[]⟩) := by rw [cell_of_row w2 _ _ _ _ _ q1]; rfl
  have v2 : w2.cell? ⟨w.heap.size + 1, 2, none⟩ = some (.string ⟨#[]⟩) := by rw [cell_of_row w2 _ _ _ _ _ q1]; rfl
  have v3 : w2.cell? ⟨w.heap.size + 1, 3, none⟩ = some (.bool false) := by rw [cell_of_row w2 _ _ _ _ _ q1]; rfl
  have k0 := row_frozen q1 0
  have k1 := row_frozen q1 1
  have k2 := row_frozen q1 2
  have k3 := row_frozen q1 3
  have Q2 := Lib.hid q1
  have BV := Lib.hid (BW.out.trans (hb2.mono BW.out.size))
  clear q1 hb2
  go_wp2
  obtain ⟨⟨r0, r1, r2, r3⟩, RB⟩ := st_set Q2.out (.int .i64 (M2 : Int)) (.string (mkS T2)) (.string (mkS A2)) (.bool E2)
  exact bodyPost_ret (v := .agg #[.int .i64 (M2 : Int), .string (mkS T2), .string (mkS A2), .bool E2]) (by simp [results, Try.results41, go_sem, r0, r1, r2, r3]) rfl ⟨by rw [hlt]; rfl, RB _ _ (by omega) BV.out⟩
set_option maxRecDepth 100000 in
set_option maxHeartbeats 3200000 in
theorem step_90 (T : List UInt8) (b : UInt8) (hT : T = [] ∨ nameB T = true) (hTl : T.length ≤ 1000) (h : b = 62) (hne : T ≠ []) (w : World) :
    Calls Try.prog 41 #[stV ⟨9, T, [], false⟩, .int .u8 (b.toNat : Int)] w fun e w' => e = .returned (stV ⟨0, [], [], false⟩) ∧ Below w.heap.size w w' := by
  have hval : stValid ⟨9, T, [], false⟩ = true := by unfold stValid stTag stAttr stSeen; rcases hT with rfl | hT <;> simp [*]
  have hb : ((b.toNat : Int) == 62) = true := by rw [h]; rfl
  have hem : (mkS T).toList.isEmpty = false := by rw [emp_mkS]; simpa using hne
  clear hT h hne
  have CV := Lib.hid (fun W => (hval ▸ impl_StateValid ⟨9, T, [], false⟩ W (by first | exact hTl | (simp; done) | (simp; omega)) (by simp) : Calls Try.prog 69 #[stV ⟨9, T, [], false⟩] W fun e w' => e = .returned (.bool true) ∧ Below W.heap.size W w'))
  obtain ⟨⟨p0, p1, p2⟩, bx⟩ := three_new w (.cells #[.int .i64 9, .string (mkS T), .string (mkS []), .bool false] 57 (0, 0)) (.cells #[.int .i64 0, .string ⟨#[]⟩, .string ⟨#[]⟩, .bool false] 57 (0, 0)) (.cells #[.int .i64 15, .string ⟨#[]⟩, .string ⟨#[]⟩, .bool false] 57 (0, 0))
  rw [st_agg] at CV ⊢
  clear hval
  have P0 := Lib.hid p0; have P1 := Lib.hid p1; have P2 := Lib.hid p2; have BX := Lib.hid bx
  clear p0 p1 p2 bx
  go_enter Try.func41, Try.ntmps41
  go_wp2_with fail
  refine (CV.out _).mono ?_
  rintro e w1 ⟨rfl, hb1⟩
  have q0 := (hb1.block _ (bld_ltS P0.out)).trans P0.out
  have q1 := (hb1.block _ (bld_ltS P1.out)).trans P1.out
  have BW := Lib.hid (BX.out.trans (hb1.mono BX.out.size))
  have x0 : w1.cell? ⟨w.heap.size, 0, none⟩ = some (.int .i64 9) := by rw [cell_of_row w1 _ _ _ _ _ q0]; rfl
  have x1 : w1.cell? ⟨w.heap.size, 1, none⟩ = some (.string (mkS T)) := by rw [cell_of_row w1 _ _ _ _ _ q0]; rfl
  have x2 : w1.cell? ⟨w.heap.size, 2, none⟩ = some (.string (mkS [])) := by rw [cell_of_row w1 _ _ _ _ _ q0]; rfl
  have x3 : w1.cell? ⟨w.heap.size, 3, none⟩ = some (.bool false) := by rw [cell_of_row w1 _ _ _ _ _ q0]; rfl
  have u0 : w1.cell? ⟨w.heap.size + 1, 0, none⟩ = some (.int .i64 0) := by rw [cell_of_row w1 _ _ _ _ _ q1]; rfl
  have u1 : w1.cell? ⟨w.heap.size + 1, 1, none⟩ = some (.string ⟨#[]⟩) := by rw [cell_of_row w1 _ _ _ _ _ q1]; rfl
  have u2 : w1.cell? ⟨w.heap.size + 1, 2, none⟩ = some (.string ⟨#[]⟩) := by rw [cell_of_row w1 _ _ _ _ _ q1]; rfl
  have u3 : w1.cell? ⟨w.heap.size + 1, 3, none⟩ = some (.bool false) := by rw [cell_of_row w1 _ _ _ _ _ q1]; rfl
  have f0 := row_frozen q0 0
  have f1 := row_frozen q0 1
  have f2 := row_frozen q0 2
  have f3 := row_frozen q0 3
  have g0 := row_frozen q1 0
  have g1 := row_frozen q1 1
  have g2 := row_frozen q1 2
  have g3 := row_frozen q1 3
  have Q0 := Lib.hid q0; have Q1 := Lib.hid q1
  clear q0 q1 hb1 P0 P1 P2 CV
  go_wp2
  obtain ⟨⟨r0, r1, r2, r3⟩, RB⟩ := st_set Q1.out (.int .i64 0) (.string ⟨#[]⟩) (.string ⟨#[]⟩) (.bool false)
  exact bodyPost_ret (v := .agg #[.int .i64 0, .string ⟨#[]⟩, .string ⟨#[]⟩, .bool false]) (by simp [results, Try.results41, go_sem, r0, r1, r2, r3]) rfl ⟨by rfl, RB _ _ (by omega) BW.out⟩
set_option maxRecDepth 100000 in
set_option maxHeartbeats 3200000 in
theorem step_99 (T : List UInt8) (b : UInt8) (hT : T = [] ∨ nameB T = true) (hTl : T.length ≤ 1000) (h : letB b = true) (w : World) :
    Calls Try.prog 41 #[stV ⟨9, T, [], false⟩, .int .u8 (b.toNat : Int)] w fun e w' => e = .returned (stV (longT ⟨9, T, [], false⟩ b)) ∧ Below w.heap.size w w' := by
  have hval : stValid ⟨9, T, [], false⟩ = true := by unfold stValid stTag stAttr stSeen; rcases hT with rfl | hT <;> simp [*]
  have hb : ((b.toNat : Int) == 62) = false := bneN (n := 62) 62 rfl (by rintro rfl; revert h; decide)
  have CL := Lib.hid (fun W => (h ▸ impl_isLetter b W : Calls Try.prog 70 #[.int .u8 (b.toNat : Int)] W fun e w' => e = .returned (.bool true) ∧ W = w'))
  have CG := Lib.hid (fun W => longer_T ⟨9, T, [], false⟩ b W hTl)
  rw [st_agg] at CG
  obtain ⟨M2, T2, A2, E2, hlt⟩ : ∃ M2 T2 A2 E2, longT ⟨9, T, [], false⟩ b = ⟨M2, T2, A2, E2⟩ := ⟨_, _, _, _, rfl⟩
  rw [hlt, st_agg] at CG
  clear h hT
  have CV := Lib.hid (fun W => (hval ▸ impl_StateValid ⟨9, T, [], false⟩ W (by first | exact hTl | (simp; done) | (simp; omega)) (by simp) : Calls Try.prog 69 #[stV ⟨9, T, [], false⟩] W fun e w' => e = .returned (.bool true) ∧ Below W.heap.size W w'))
  obtain ⟨⟨p0, p1, p2⟩, bx⟩ := three_new w (.cells #[.int .i64 9, .string (mkS T), .string (mkS []), .bool false] 57 (0, 0)) (.cells #[.int .i64 0, .string ⟨#[]⟩, .string ⟨#[]⟩, .bool false] 57 (0, 0)) (.cells #[.int .i64 15, .string ⟨#[]⟩, .string ⟨#[]⟩, .bool false] 57 (0, 0))
  rw [st_agg] at CV ⊢
  clear hval
  have P0 := Lib.hid p0; have P1 := Lib.hid p1; have P2 := Lib.hid p2; have BX := Lib.hid bx
  clear p0 p1 p2 bx
  go_enter Try.func41, Try.ntmps41
  go_wp2_with fail
  refine (CV.out _).mono ?_
  rintro e w1 ⟨rfl, hb1⟩
  have q0 := (hb1.block _ (bld_ltS P0.out)).trans P0.out
  have q1 := (hb1.block _ (bld_ltS P1.out)).trans P1.out
  have BW := Lib.hid (BX.out.trans (hb1.mono BX.out.size))
  have x0 : w1.cell? ⟨w.heap.size, 0, none⟩ = some (.int .i64 9) := by rw [cell_of_row w1 _ _ _ _ _ q0]; rfl
  have x1 : w1.cell? ⟨w.heap.size, 1, none⟩ = some (.string (mkS T)) := by rw [cell_of_row w1 _ _ _ _ _ q0]; rfl
  have x2 : w1.cell? ⟨w.heap.size, 2, none⟩ = some (.string (mkS [])) := by rw [cell_of_row w1 _ _ _ _ _ q0]; rfl
  have x3 : w1.cell? ⟨w.heap.size, 3, none⟩ = some (.bool false) := by rw [cell_of_row w1 _ _ _ _ _ q0]; rfl
  have u0 : w1.cell? ⟨w.heap.size + 1, 0, none⟩ = some (.int .i64 0) := by rw [cell_of_row w1 _ _ _ _ _ q1]; rfl
  have u1 : w1.cell? ⟨w.heap.size + 1, 1, none⟩ = some (.string ⟨#[]⟩) := by rw [cell_of_row w1 _ _ _ _ _ q1]; rfl
  have u2 : w1.cell? ⟨w.heap.size + 1, 2, none⟩ = some (.string ⟨#[]⟩) := by rw [cell_of_row w1 _ _ _ _ _ q1]; rfl
  have u3 : w1.cell? ⟨w.heap.size + 1, 3, none⟩ = some (.bool false) := by rw [cell_of_row w1 _ _ _ _ _ q1]; rfl
  have f0 := row_frozen q0 0
  have f1 := row_frozen q0 1
  have f2 := row_frozen q0 2
  have f3 := row_frozen q0 3
  have g0 := row_frozen q1 0
  have g1 := row_frozen q1 1
  have g2 := row_frozen q1 2
  have g3 := row_frozen q1 3
  have Q0 := Lib.hid q0; have Q1 := Lib.hid q1
  clear q0 q1 hb1 P0 P1 P2 CV
  go_wp2_with fail
  refine (CL.out _).mono ?_
  rintro e w2 ⟨rfl, rfl⟩
  go_wp2_with fail
  refine (CG.out _).mono ?_
  rintro e w2 ⟨rfl, hb2⟩
  have q1 := (hb2.block _ (bld_ltS Q1.out)).trans Q1.out
  have v0 : w2.cell? ⟨w.heap.size + 1, 0, none⟩ = some (.int .i64 0) := by rw [cell_of_row w2 _ _ _ _ _ q1]; rfl
  have v1 : w2.cell? ⟨w.heap.size + 1, 1, none⟩ = some (.string ⟨#[]⟩) := by rw [cell_of_row w2 _ _ _ _ _ q1]; rfl
  have v2 : w2.cell? ⟨w.heap.size + 1, 2, none⟩ = some (.string ⟨#[]⟩) := by rw [cell_of_row w2 _ _ _ _ _ q1]; rfl
  have v3 : w2.cell? ⟨w.heap.size + 1, 3, none⟩ = some (.bool false) := by rw [cell_of_row w2 _ _ _ _ _ q1]; rfl
  have k0 := row_frozen q1 0
  have k1 := row_frozen q1 1
  have k2 := row_frozen q1 2
  have k3 := row_frozen q1 3
  have Q2 := Lib.hid q1
  have BV := Lib.hid (BW.out.trans (hb2.mono BW.out.size))
  clear q1 hb2
  go_wp2
  obtain ⟨⟨r0, r1, r2, r3⟩, RB⟩ := st_set Q2.out (.int .i64 (M2 : Int)) (.string (mkS T2)) (.string (mkS A2)) (.bool E2)
  exact bodyPost_ret (v := .agg #[.int .i64 (M2 : Int), .string (mkS T2), .string (mkS A2), .bool E2]) (by simp [results, Try.results41, go_sem, r0, r1, r2, r3]) rfl ⟨by rw [hlt]; rfl, RB _ _ (by omega) BV.out⟩
end Go.Proofs.Ytdoomfckdjjlaaa

/- impl.StepState in general (printed by gen_stepg.py). -/
import Derived.Test.YtdoomfckdjjlaaaStepG
namespace Go.Proofs.Ytdoomfckdjjlaaa
open Go.RowKit

set_option maxRecDepth 100000 in
set_option maxHeartbeats 3200000 in
theorem st_1c (b : UInt8) (h : b = 33) (w : World) :
    Calls Try.prog 41 #[stV ⟨1, [], [], false⟩, .int .u8 (b.toNat : Int)] w fun e w' => e = .returned (stV ⟨10, [], [], false⟩) ∧ Below w.heap.size w w' := by
  have hval : stValid ⟨1, [], [], false⟩ = true := val_plain (by omega)
  have hl : letB b = false := by subst h; decide
  have CL := Lib.hid (fun W => (hl ▸ impl_isLetter b W : Calls Try.prog 70 #[.int .u8 (b.toNat : Int)] W fun e w' => e = .returned (.bool false) ∧ W = w'))
  have hb47 : ((b.toNat : Int) == 47) = false := bneN (n := 47) 47 rfl (by subst h; decide)
  have hb33 : ((b.toNat : Int) == 33) = true := beqN (n := 33) 33 rfl h
  have CV := Lib.hid (fun W => (by have h := impl_StateValid ⟨1, [], [], false⟩ W (by first | exact hTl | (simp; done)) (by first | exact hAl | (simp; done)); rw [hval] at h; exact h : Calls Try.prog 69 #[stV ⟨1, [], [], false⟩] W fun e w' => e = .returned (.bool true) ∧ Below W.heap.size W w'))
  obtain ⟨⟨p0, p1, p2⟩, bx⟩ := three_new w (.cells #[.int .i64 1, .string (mkS []), .string (mkS []), .bool false] 57 (0, 0)) (.cells #[.int .i64 0, .string ⟨#[]⟩, .string ⟨#[]⟩, .bool false] 57 (0, 0)) (.cells #[.int .i64 15, .string ⟨#[]⟩, .string ⟨#[]⟩, .bool false] 57 (0, 0))
  rw [st_agg] at CV ⊢
  have P0 := Lib.hid p0; have P1 := Lib.hid p1; have P2 := Lib.hid p2; have BX := Lib.hid bx
  clear p0 p1 p2 bx hval h hl
  go_enter Try.func41, Try.ntmps41
  go_wp2_with fail
  refine (CV.out _).mono ?_
  rintro e w1 ⟨rfl, hb1⟩
  have q0 := (hb1.block _ (bld_ltS P0.out)).trans P0.out
  have q1 := (hb1.block _ (bld_ltS P1.out)).trans P1.out
  have BW := Lib.hid (BX.out.trans (hb1.mono BX.out.size))
  have x0 : w1.cell? ⟨w.heap.size, 0, none⟩ = some (.int .i64 1) := by rw [cell_of_row w1 _ _ _ _ _ q0]; rfl
  have x1 : w1.cell? ⟨w.heap.size, 1, none⟩ = some (.string (mkS [])) := by rw [cell_of_row w1 _ _ _ _ _ q0]; rfl
  have x2 : w1.cell? ⟨w.heap.size, 2, none⟩ = some (.string (mkS [])) := by rw [cell_of_row w1 _ _ _ _ _ q0]; rfl
  have x3 : w1.cell? ⟨w.heap.size, 3, none⟩ = some (.bool false) := by rw [cell_of_row w1 _ _ _ _ _ q0]; rfl
  have u0 : w1.cell? ⟨w.heap.size + 1, 0, none⟩ = some (.int .i64 0) := by rw [cell_of_row w1 _ _ _ _ _ q1]; rfl
  have u1 : w1.cell? ⟨w.heap.size + 1, 1, none⟩ = some (.string ⟨#[]⟩) := by rw [cell_of_row w1 _ _ _ _ _ q1]; rfl
  have u2 : w1.cell? ⟨w.heap.size + 1, 2, none⟩ = some (.string ⟨#[]⟩) := by rw [cell_of_row w1 _ _ _ _ _ q1]; rfl
  have u3 : w1.cell? ⟨w.heap.size + 1, 3, none⟩ = some (.bool false) := by rw [cell_of_row w1 _ _ _ _ _ q1]; rfl
  have f0 := row_frozen q0 0
  have f1 := row_frozen q0 1
  have f2 := row_frozen q0 2
  have f3 := row_frozen q0 3
  have g0 := row_frozen q1 0
  have g1 := row_frozen q1 1
  have g2 := row_frozen q1 2
  have g3 := row_frozen q1 3
  have Q0 := Lib.hid q0; have Q1 := Lib.hid q1
  clear q0 q1 hb1 P0 P1 P2 CV
  go_wp2_with (first | (go_at_call 70; refine (CL.out _).mono ?_; rintro e w2 ⟨rfl, rfl⟩))
  obtain ⟨⟨r0, r1, r2, r3⟩, RB⟩ := st_set Q1.out (.int .i64 10) (.string ⟨#[]⟩) (.string ⟨#[]⟩) (.bool false)
  exact bodyPost_ret (v := .agg #[.int .i64 10, .string ⟨#[]⟩, .string ⟨#[]⟩, .bool false]) (by simp [results, Try.results41, go_sem, r0, r1, r2, r3]) rfl ⟨by rfl, RB _ _ (by omega) BW.out⟩
set_option maxRecDepth 100000 in
set_option maxHeartbeats 3200000 in
theorem st_1n (b : UInt8) (hl : letB b = false) (h1 : b ≠ 47) (h2 : b ≠ 33) (w : World) :
    Calls Try.prog 41 #[stV ⟨1, [], [], false⟩, .int .u8 (b.toNat : Int)] w fun e w' => e = .returned (stV badS) ∧ Below w.heap.size w w' := by
  have hval : stValid ⟨1, [], [], false⟩ = true := val_plain (by omega)
  have CL := Lib.hid (fun W => (hl ▸ impl_isLetter b W : Calls Try.prog 70 #[.int .u8 (b.toNat : Int)] W fun e w' => e = .returned (.bool false) ∧ W = w'))
  have hb47 : ((b.toNat : Int) == 47) = false := bneN (n := 47) 47 rfl h1
  have hb33 : ((b.toNat : Int) == 33) = false := bneN (n := 33) 33 rfl h2
  have CV := Lib.hid (fun W => (by have h := impl_StateValid ⟨1, [], [], false⟩ W (by first | exact hTl | (simp; done)) (by first | exact hAl | (simp; done)); rw [hval] at h; exact h : Calls Try.prog 69 #[stV ⟨1, [], [], false⟩] W fun e w' => e = .returned (.bool true) ∧ Below W.heap.size W w'))
  obtain ⟨⟨p0, p1, p2⟩, bx⟩ := three_new w (.cells #[.int .i64 1, .string (mkS []), .string (mkS []), .bool false] 57 (0, 0)) (.cells #[.int .i64 0, .string ⟨#[]⟩, .string ⟨#[]⟩, .bool false] 57 (0, 0)) (.cells #[.int .i64 15, .string ⟨#[]⟩, .string ⟨#[]⟩, .bool false] 57 (0, 0))
  rw [st_agg] at CV ⊢
  have P0 := Lib.hid p0; have P1 := Lib.hid p1; have P2 := Lib.hid p2; have BX := Lib.hid bx
  clear p0 p1 p2 bx hval hl h1 h2
  go_enter Try.func41, Try.ntmps41
  go_wp2_with fail
  refine (CV.out _).mono ?_
  rintro e w1 ⟨rfl, hb1⟩
  have q0 := (hb1.block _ (bld_ltS P0.out)).trans P0.out
  have q1 := (hb1.block _ (bld_ltS P1.out)).trans P1.out
  have q2 := (hb1.block _ (bld_ltS P2.out)).trans P2.out
  have BW := Lib.hid (BX.out.trans (hb1.mono BX.out.size))
  have x0 : w1.cell? ⟨w.heap.size, 0, none⟩ = some (.int .i64 1) := by rw [cell_of_row w1 _ _ _ _ _ q0]; rfl
  have x1 : w1.cell? ⟨w.heap.size, 1, none⟩ = some (.string (mkS [])) := by rw [cell_of_row w1 _ _ _ _ _ q0]; rfl
  have x2 : w1.cell? ⟨w.heap.size, 2, none⟩ = some (.string (mkS [])) := by rw [cell_of_row w1 _ _ _ _ _ q0]; rfl
  have x3 : w1.cell? ⟨w.heap.size, 3, none⟩ = some (.bool false) := by rw [cell_of_row w1 _ _ _ _ _ q0]; rfl
  have u0 : w1.cell? ⟨w.heap.size + 1, 0, none⟩ = some (.int .i64 0) := by rw [cell_of_row w1 _ _ _ _ _ q1]; rfl
  have u1 : w1.cell? ⟨w.heap.size + 1, 1, none⟩ = some (.string ⟨#[]⟩) := by rw [cell_of_row w1 _ _ _ _ _ q1]; rfl
  have u2 : w1.cell? ⟨w.heap.size + 1, 2, none⟩ = some (.string ⟨#[]⟩) := by rw [cell_of_row w1 _ _ _ _ _ q1]; rfl
  have u3 : w1.cell? ⟨w.heap.size + 1, 3, none⟩ = some (.bool false) := by rw [cell_of_row w1 _ _ _ _ _ q1]; rfl
  have t0 : w1.cell? ⟨w.heap.size + 1 + 1, 0, none⟩ = some (.int .i64 15) := by rw [cell_of_row w1 _ _ _ _ _ q2]; rfl
  have t1 : w1.cell? ⟨w.heap.size + 1 + 1, 1, none⟩ = some (.string ⟨#[]⟩) := by rw [cell_of_row w1 _ _ _ _ _ q2]; rfl
  have t2 : w1.cell? ⟨w.heap.size + 1 + 1, 2, none⟩ = some (.string ⟨#[]⟩) := by rw [cell_of_row w1 _ _ _ _ _ q2]; rfl
  have t3 : w1.cell? ⟨w.heap.size + 1 + 1, 3, none⟩ = some (.bool false) := by rw [cell_of_row w1 _ _ _ _ _ q2]; rfl
  have f0 := row_frozen q0 0
  have f1 := row_frozen q0 1
  have f2 := row_frozen q0 2
  have f3 := row_frozen q0 3
  have g0 := row_frozen q1 0
  have g1 := row_frozen q1 1
  have g2 := row_frozen q1 2
  have g3 := row_frozen q1 3
  have Q0 := Lib.hid q0; have Q1 := Lib.hid q1
  clear q0 q1 q2 hb1 P0 P1 P2 CV
  go_wp2_with (first | (go_at_call 70; refine (CL.out _).mono ?_; rintro e w2 ⟨rfl, rfl⟩))
  obtain ⟨⟨r0, r1, r2, r3⟩, RB⟩ := st_set Q1.out (.int .i64 15) (.string ⟨#[]⟩) (.string ⟨#[]⟩) (.bool false)
  exact bodyPost_ret (v := .agg #[.int .i64 15, .string ⟨#[]⟩, .string ⟨#[]⟩, .bool false]) (by simp [results, Try.results41, go_sem, r0, r1, r2, r3]) rfl ⟨by rfl, RB _ _ (by omega) BW.out⟩
set_option maxRecDepth 100000 in
set_option maxHeartbeats 3200000 in
theorem st_Az (b : UInt8) (h : b = 62) (w : World) :
    Calls Try.prog 41 #[stV ⟨10, [], [], false⟩, .int .u8 (b.toNat : Int)] w fun e w' => e = .returned (stV zeroS) ∧ Below w.heap.size w w' := by
  have hval : stValid ⟨10, [], [], false⟩ = true := val_plain (by omega)
  have hb62 : ((b.toNat : Int) == 62) = true := beqN (n := 62) 62 rfl h
  have CV := Lib.hid (fun W => (by have h := impl_StateValid ⟨10, [], [], false⟩ W (by first | exact hTl | (simp; done)) (by first | exact hAl | (simp; done)); rw [hval] at h; exact h : Calls Try.prog 69 #[stV ⟨10, [], [], false⟩] W fun e w' => e = .returned (.bool true) ∧ Below W.heap.size W w'))
  obtain ⟨⟨p0, p1, p2⟩, bx⟩ := three_new w (.cells #[.int .i64 10, .string (mkS []), .string (mkS []), .bool false] 57 (0, 0)) (.cells #[.int .i64 0, .string ⟨#[]⟩, .string ⟨#[]⟩, .bool false] 57 (0, 0)) (.cells #[.int .i64 15, .string ⟨#[]⟩, .string ⟨#[]⟩, .bool false] 57 (0, 0))
  rw [st_agg] at CV ⊢
  have P0 := Lib.hid p0; have P1 := Lib.hid p1; have P2 := Lib.hid p2; have BX := Lib.hid bx
  clear p0 p1 p2 bx hval h
  go_enter Try.func41, Try.ntmps41
  go_wp2_with fail
  refine (CV.out _).mono ?_
  rintro e w1 ⟨rfl, hb1⟩
  have q0 := (hb1.block _ (bld_ltS P0.out)).trans P0.out
  have q1 := (hb1.block _ (bld_ltS P1.out)).trans P1.out
  have BW := Lib.hid (BX.out.trans (hb1.mono BX.out.size))
  have x0 : w1.cell? ⟨w.heap.size, 0, none⟩ = some (.int .i64 10) := by rw [cell_of_row w1 _ _ _ _ _ q0]; rfl
  have x1 : w1.cell? ⟨w.heap.size, 1, none⟩ = some (.string (mkS [])) := by rw [cell_of_row w1 _ _ _ _ _ q0]; rfl
  have x2 : w1.cell? ⟨w.heap.size, 2, none⟩ = some (.string (mkS [])) := by rw [cell_of_row w1 _ _ _ _ _ q0]; rfl
  have x3 : w1.cell? ⟨w.heap.size, 3, none⟩ = some (.bool false) := by rw [cell_of_row w1 _ _ _ _ _ q0]; rfl
  have u0 : w1.cell? ⟨w.heap.size + 1, 0, none⟩ = some (.int .i64 0) := by rw [cell_of_row w1 _ _ _ _ _ q1]; rfl
  have u1 : w1.cell? ⟨w.heap.size + 1, 1, none⟩ = some (.string ⟨#[]⟩) := by rw [cell_of_row w1 _ _ _ _ _ q1]; rfl
  have u2 : w1.cell? ⟨w.heap.size + 1, 2, none⟩ = some (.string ⟨#[]⟩) := by rw [cell_of_row w1 _ _ _ _ _ q1]; rfl
  have u3 : w1.cell? ⟨w.heap.size + 1, 3, none⟩ = some (.bool false) := by rw [cell_of_row w1 _ _ _ _ _ q1]; rfl
  have f0 := row_frozen q0 0
  have f1 := row_frozen q0 1
  have f2 := row_frozen q0 2
  have f3 := row_frozen q0 3
  have g0 := row_frozen q1 0
  have g1 := row_frozen q1 1
  have g2 := row_frozen q1 2
  have g3 := row_frozen q1 3
  have Q0 := Lib.hid q0; have Q1 := Lib.hid q1
  clear q0 q1 hb1 P0 P1 P2 CV
  go_wp2
  obtain ⟨⟨r0, r1, r2, r3⟩, RB⟩ := st_set Q1.out (.int .i64 0) (.string ⟨#[]⟩) (.string ⟨#[]⟩) (.bool false)
  exact bodyPost_ret (v := .agg #[.int .i64 0, .string ⟨#[]⟩, .string ⟨#[]⟩, .bool false]) (by simp [results, Try.results41, go_sem, r0, r1, r2, r3]) rfl ⟨by rfl, RB _ _ (by omega) BW.out⟩
set_option maxRecDepth 100000 in
set_option maxHeartbeats 3200000 in
theorem st_As (b : UInt8) (h : b ≠ 62) (w : World) :
    Calls Try.prog 41 #[stV ⟨10, [], [], false⟩, .int .u8 (b.toNat : Int)] w fun e w' => e = .returned (stV ⟨10, [], [], false⟩) ∧ Below w.heap.size w w' := by
  have hval : stValid ⟨10, [], [], false⟩ = true := val_plain (by omega)
  have hb62 : ((b.toNat : Int) == 62) = false := bneN (n := 62) 62 rfl h
  have CV := Lib.hid (fun W => (by have h := impl_StateValid ⟨10, [], [], false⟩ W (by first | exact hTl | (simp; done)) (by first | exact hAl | (simp; done)); rw [hval] at h; exact h : Calls Try.prog 69 #[stV ⟨10, [], [], false⟩] W fun e w' => e = .returned (.bool true) ∧ Below W.heap.size W w'))
  obtain ⟨⟨p0, p1, p2⟩, bx⟩ := three_new w (.cells #[.int .i64 10, .string (mkS []), .string (mkS []), .bool false] 57 (0, 0)) (.cells #[.int .i64 0, .string ⟨#[]⟩, .string ⟨#[]⟩, .bool false] 57 (0, 0)) (.cells #[.int .i64 15, .string ⟨#[]⟩, .string ⟨#[]⟩, .bool false] 57 (0, 0))
  rw [st_agg] at CV ⊢
  have P0 := Lib.hid p0; have P1 := Lib.hid p1; have P2 := Lib.hid p2; have BX := Lib.hid bx
  clear p0 p1 p2 bx hval h
  go_enter Try.func41, Try.ntmps41
  go_wp2_with fail
  refine (CV.out _).mono ?_
  rintro e w1 ⟨rfl, hb1⟩
  have q0 := (hb1.block _ (bld_ltS P0.out)).trans P0.out
  have q1 := (hb1.block _ (bld_ltS P1.out)).trans P1.out
  have BW := Lib.hid (BX.out.trans (hb1.mono BX.out.size))
  have x0 : w1.cell? ⟨w.heap.size, 0, none⟩ = some (.int .i64 10) := by rw [cell_of_row w1 _ _ _ _ _ q0]; rfl
  have x1 : w1.cell? ⟨w.heap.size, 1, none⟩ = some (.string (mkS [])) := by rw [cell_of_row w1 _ _ _ _ _ q0]; rfl
  have x2 : w1.cell? ⟨w.heap.size, 2, none⟩ = some (.string (mkS [])) := by rw [cell_of_row w1 _ _ _ _ _ q0]; rfl
  have x3 : w1.cell? ⟨w.heap.size, 3, none⟩ = some (.bool false) := by rw [cell_of_row w1 _ _ _ _ _ q0]; rfl
  have u0 : w1.cell? ⟨w.heap.size + 1, 0, none⟩ = some (.int .i64 0) := by rw [cell_of_row w1 _ _ _ _ _ q1]; rfl
  have u1 : w1.cell? ⟨w.heap.size + 1, 1, none⟩ = some (.string ⟨#[]⟩) := by rw [cell_of_row w1 _ _ _ _ _ q1]; rfl
  have u2 : w1.cell? ⟨w.heap.size + 1, 2, none⟩ = some (.string ⟨#[]⟩) := by rw [cell_of_row w1 _ _ _ _ _ q1]; rfl
  have u3 : w1.cell? ⟨w.heap.size + 1, 3, none⟩ = some (.bool false) := by rw [cell_of_row w1 _ _ _ _ _ q1]; rfl
  have f0 := row_frozen q0 0
  have f1 := row_frozen q0 1
  have f2 := row_frozen q0 2
  have f3 := row_frozen q0 3
  have g0 := row_frozen q1 0
  have g1 := row_frozen q1 1
  have g2 := row_frozen q1 2
  have g3 := row_frozen q1 3
  have Q0 := Lib.hid q0; have Q1 := Lib.hid q1
  clear q0 q1 hb1 P0 P1 P2 CV
  go_wp2
  obtain ⟨⟨r0, r1, r2, r3⟩, RB⟩ := st_set Q1.out (.int .i64 10) (.string (mkS [])) (.string (mkS [])) (.bool false)
  exact bodyPost_ret (v := .agg #[.int .i64 10, .string (mkS []), .string (mkS []), .bool false]) (by simp [results, Try.results41, go_sem, r0, r1, r2, r3]) rfl ⟨by rfl, RB _ _ (by omega) BW.out⟩
set_option maxRecDepth 100000 in
set_option maxHeartbeats 3200000 in
theorem st_Bl (b : UInt8) (h : b = 60) (w : World) :
    Calls Try.prog 41 #[stV ⟨11, [], [], false⟩, .int .u8 (b.toNat : Int)] w fun e w' => e = .returned (stV ⟨14, [], [], false⟩) ∧ Below w.heap.size w w' := by
  have hval : stValid ⟨11, [], [], false⟩ = true := val_plain (by omega)
  have hb60 : ((b.toNat : Int) == 60) = true := beqN (n := 60) 60 rfl h
  have CV := Lib.hid (fun W => (by have h := impl_StateValid ⟨11, [], [], false⟩ W (by first | exact hTl | (simp; done)) (by first | exact hAl | (simp; done)); rw [hval] at h; exact h : Calls Try.prog 69 #[stV ⟨11, [], [], false⟩] W fun e w' => e = .returned (.bool true) ∧ Below W.heap.size W w'))
  obtain ⟨⟨p0, p1, p2⟩, bx⟩ := three_new w (.cells #[.int .i64 11, .string (mkS []), .string (mkS []), .bool false] 57 (0, 0)) (.cells #[.int .i64 0, .string ⟨#[]⟩, .string ⟨#[]⟩, .bool false] 57 (0, 0)) (.cells #[.int .i64 15, .string ⟨#[]⟩, .string ⟨#[]⟩, .bool false] 57 (0, 0))
  rw [st_agg] at CV ⊢
  have P0 := Lib.hid p0; have P1 := Lib.hid p1; have P2 := Lib.hid p2; have BX := Lib.hid bx
  clear p0 p1 p2 bx hval h
  go_enter Try.func41, Try.ntmps41
  go_wp2_with fail
  refine (CV.out _).mono ?_
  rintro e w1 ⟨rfl, hb1⟩
  have q0 := (hb1.block _ (bld_ltS P0.out)).trans P0.out
  have q1 := (hb1.block _ (bld_ltS P1.out)).trans P1.out
  have BW := Lib.hid (BX.out.trans (hb1.mono BX.out.size))
  have x0 : w1.cell? ⟨w.heap.size, 0, none⟩ = some (.int .i64 11) := by rw [cell_of_row w1 _ _ _ _ _ q0]; rfl
  have x1 : w1.cell? ⟨w.heap.size, 1, none⟩ = some (.string (mkS [])) := by rw [cell_of_row w1 _ _ _ _ _ q0]; rfl
  have x2 : w1.cell? ⟨w.heap.size, 2, none⟩ = some (.string (mkS [])) := by rw [cell_of_row w1 _ _ _ _ _ q0]; rfl
  have x3 : w1.cell? ⟨w.heap.size, 3, none⟩ = some (.bool false) := by rw [cell_of_row w1 _ _ _ _ _ q0]; rfl
  have u0 : w1.cell? ⟨w.heap.size + 1, 0, none⟩ = some (.int .i64 0) := by rw [cell_of_row w1 _ _ _ _ _ q1]; rfl
  have u1 : w1.cell? ⟨w.heap.size + 1, 1, none⟩ = some (.string ⟨#[]⟩) := by rw [cell_of_row w1 _ _ _ _ _ q1]; rfl
  have u2 : w1.cell? ⟨w.heap.size + 1, 2, none⟩ = some (.string ⟨#[]⟩) := by rw [cell_of_row w1 _ _ _ _ _ q1]; rfl
  have u3 : w1.cell? ⟨w.heap.size + 1, 3, none⟩ = some (.bool false) := by rw [cell_of_row w1 _ _ _ _ _ q1]; rfl
  have f0 := row_frozen q0 0
  have f1 := row_frozen q0 1
  have f2 := row_frozen q0 2
  have f3 := row_frozen q0 3
  have g0 := row_frozen q1 0
  have g1 := row_frozen q1 1
  have g2 := row_frozen q1 2
  have g3 := row_frozen q1 3
  have Q0 := Lib.hid q0; have Q1 := Lib.hid q1
  clear q0 q1 hb1 P0 P1 P2 CV
  go_wp2
  obtain ⟨⟨r0, r1, r2, r3⟩, RB⟩ := st_set Q1.out (.int .i64 14) (.string ⟨#[]⟩) (.string ⟨#[]⟩) (.bool false)
  exact bodyPost_ret (v := .agg #[.int .i64 14, .string ⟨#[]⟩, .string ⟨#[]⟩, .bool false]) (by simp [results, Try.results41, go_sem, r0, r1, r2, r3]) rfl ⟨by rfl, RB _ _ (by omega) BW.out⟩
set_option maxRecDepth 100000 in
set_option maxHeartbeats 3200000 in
theorem st_Bq (b : UInt8) (h : b = 34) (w : World) :
    Calls Try.prog 41 #[stV ⟨11, [], [], false⟩, .int .u8 (b.toNat : Int)] w fun e w' => e = .returned (stV ⟨12, [], [], false⟩) ∧ Below w.heap.size w w' := by
  have hval : stValid ⟨11, [], [], false⟩ = true := val_plain (by omega)
  have hb60 : ((b.toNat : Int) == 60) = false := bneN (n := 60) 60 rfl (by subst h; decide)
  have hb34 : ((b.toNat : Int) == 34) = true := beqN (n := 34) 34 rfl h
  have CV := Lib.hid (fun W => (by have h := impl_StateValid ⟨11, [], [], false⟩ W (by first | exact hTl | (simp; done)) (by first | exact hAl | (simp; done)); rw [hval] at h; exact h : Calls Try.prog 69 #[stV ⟨11, [], [], false⟩] W fun e w' => e = .returned (.bool true) ∧ Below W.heap.size W w'))
  obtain ⟨⟨p0, p1, p2⟩, bx⟩ := three_new w (.cells #[.int .i64 11, .string (mkS []), .string (mkS []), .bool false] 57 (0, 0)) (.cells #[.int .i64 0, .string ⟨#[]⟩, .string ⟨#[]⟩, .bool false] 57 (0, 0)) (.cells #[.int .i64 15, .string ⟨#[]⟩, .string ⟨#[]⟩, .bool false] 57 (0, 0))
  rw [st_agg] at CV ⊢
  have P0 := Lib.hid p0; have P1 := Lib.hid p1; have P2 := Lib.hid p2; have BX := Lib.hid bx
  clear p0 p1 p2 bx hval h
  go_enter Try.func41, Try.ntmps41
  go_wp2_with fail
  refine (CV.out _).mono ?_
  rintro e w1 ⟨rfl, hb1⟩
  have q0 := (hb1.block _ (bld_ltS P0.out)).trans P0.out
  have q1 := (hb1.block _ (bld_ltS P1.out)).trans P1.out
  have BW := Lib.hid (BX.out.trans (hb1.mono BX.out.size))
  have x0 : w1.cell? ⟨w.heap.size, 0, none⟩ = some (.int .i64 11) := by rw [cell_of_row w1 _ _ _ _ _ q0]; rfl
  have x1 : w1.cell? ⟨w.heap.size, 1, none⟩ = some (.string (mkS [])) := by rw [cell_of_row w1 _ _ _ _ _ q0]; rfl
  have x2 : w1.cell? ⟨w.heap.size, 2, none⟩ = some (.string (mkS [])) := by rw [cell_of_row w1 _ _ _ _ _ q0]; rfl
  have x3 : w1.cell? ⟨w.heap.size, 3, none⟩ = some (.bool false) := by rw [cell_of_row w1 _ _ _ _ _ q0]; rfl
  have u0 : w1.cell? ⟨w.heap.size + 1, 0, none⟩ = some (.int .i64 0) := by rw [cell_of_row w1 _ _ _ _ _ q1]; rfl
  have u1 : w1.cell? ⟨w.heap.size + 1, 1, none⟩ = some (.string ⟨#[]⟩) := by rw [cell_of_row w1 _ _ _ _ _ q1]; rfl
  have u2 : w1.cell? ⟨w.heap.size + 1, 2, none⟩ = some (.string ⟨#[]⟩) := by rw [cell_of_row w1 _ _ _ _ _ q1]; rfl
  have u3 : w1.cell? ⟨w.heap.size + 1, 3, none⟩ = some (.bool false) := by rw [cell_of_row w1 _ _ _ _ _ q1]; rfl
  have f0 := row_frozen q0 0
  have f1 := row_frozen q0 1
  have f2 := row_frozen q0 2
  have f3 := row_frozen q0 3
  have g0 := row_frozen q1 0
  have g1 := row_frozen q1 1
  have g2 := row_frozen q1 2
  have g3 := row_frozen q1 3
  have Q0 := Lib.hid q0; have Q1 := Lib.hid q1
  clear q0 q1 hb1 P0 P1 P2 CV
  go_wp2
  obtain ⟨⟨r0, r1, r2, r3⟩, RB⟩ := st_set Q1.out (.int .i64 12) (.string ⟨#[]⟩) (.string ⟨#[]⟩) (.bool false)
  exact bodyPost_ret (v := .agg #[.int .i64 12, .string ⟨#[]⟩, .string ⟨#[]⟩, .bool false]) (by simp [results, Try.results41, go_sem, r0, r1, r2, r3]) rfl ⟨by rfl, RB _ _ (by omega) BW.out⟩
set_option maxRecDepth 100000 in
set_option maxHeartbeats 3200000 in
theorem st_Bs (b : UInt8) (h : b = 47) (w : World) :
    Calls Try.prog 41 #[stV ⟨11, [], [], false⟩, .int .u8 (b.toNat : Int)] w fun e w' => e = .returned (stV ⟨11, [], [], false⟩) ∧ Below w.heap.size w w' := by
  have hval : stValid ⟨11, [], [], false⟩ = true := val_plain (by omega)
  have hb60 : ((b.toNat : Int) == 60) = false := bneN (n := 60) 60 rfl (by subst h; decide)
  have hb34 : ((b.toNat : Int) == 34) = false := bneN (n := 34) 34 rfl (by subst h; decide)
  have hb47 : ((b.toNat : Int) == 47) = true := beqN (n := 47) 47 rfl h
  have CV := Lib.hid (fun W => (by have h := impl_StateValid ⟨11, [], [], false⟩ W (by first | exact hTl | (simp; done)) (by first | exact hAl | (simp; done)); rw [hval] at h; exact h : Calls Try.prog 69 #[stV ⟨11, [], [], false⟩] W fun e w' => e = .returned (.bool true) ∧ Below W.heap.size W w'))
  obtain ⟨⟨p0, p1, p2⟩, bx⟩ := three_new w (.cells #[.int .i64 11, .string (mkS []), .string (mkS []), .bool false] 57 (0, 0)) (.cells #[.int .i64 0, .string ⟨#[]⟩, .string ⟨#[]⟩, .bool false] 57 (0, 0)) (.cells #[.int .i64 15, .string ⟨#[]⟩, .string ⟨#[]⟩, .bool false] 57 (0, 0))
  rw [st_agg] at CV ⊢
  have P0 := Lib.hid p0; have P1 := Lib.hid p1; have P2 := Lib.hid p2; have BX := Lib.hid bx
  clear p0 p1 p2 bx hval h
  go_enter Try.func41, Try.ntmps41
  go_wp2_with fail
  refine (CV.out _).mono ?_
  rintro e w1 ⟨rfl, hb1⟩
  have q0 := (hb1.block _ (bld_ltS P0.out)).trans P0.out
  have q1 := (hb1.block _ (bld_ltS P1.out)).trans P1.out
  have BW := Lib.hid (BX.out.trans (hb1.mono BX.out.size))
  have x0 : w1.cell? ⟨w.heap.size, 0, none⟩ = some (.int .i64 11) := by rw [cell_of_row w1 _ _ _ _ _ q0]; rfl
  have x1 : w1.cell? ⟨w.heap.size, 1, none⟩ = some (.string (mkS [])) := by rw [cell_of_row w1 _ _ _ _ _ q0]; rfl
  have x2 : w1.cell? ⟨w.heap.size, 2, none⟩ = some (.string (mkS [])) := by rw [cell_of_row w1 _ _ _ _ _ q0]; rfl
  have x3 : w1.cell? ⟨w.heap.size, 3, none⟩ = some (.bool false) := by rw [cell_of_row w1 _ _ _ _ _ q0]; rfl
  have u0 : w1.cell? ⟨w.heap.size + 1, 0, none⟩ = some (.int .i64 0) := by rw [cell_of_row w1 _ _ _ _ _ q1]; rfl
  have u1 : w1.cell? ⟨w.heap.size + 1, 1, none⟩ = some (.string ⟨#[]⟩) := by rw [cell_of_row w1 _ _ _ _ _ q1]; rfl
  have u2 : w1.cell? ⟨w.heap.size + 1, 2, none⟩ = some (.string ⟨#[]⟩) := by rw [cell_of_row w1 _ _ _ _ _ q1]; rfl
  have u3 : w1.cell? ⟨w.heap.size + 1, 3, none⟩ = some (.bool false) := by rw [cell_of_row w1 _ _ _ _ _ q1]; rfl
  have f0 := row_frozen q0 0
  have f1 := row_frozen q0 1
  have f2 := row_frozen q0 2
  have f3 := row_frozen q0 3
  have g0 := row_frozen q1 0
  have g1 := row_frozen q1 1
  have g2 := row_frozen q1 2
  have g3 := row_frozen q1 3
  have Q0 := Lib.hid q0; have Q1 := Lib.hid q1
  clear q0 q1 hb1 P0 P1 P2 CV
  go_wp2
  obtain ⟨⟨r0, r1, r2, r3⟩, RB⟩ := st_set Q1.out (.int .i64 11) (.string ⟨#[]⟩) (.string ⟨#[]⟩) (.bool false)
  exact bodyPost_ret (v := .agg #[.int .i64 11, .string ⟨#[]⟩, .string ⟨#[]⟩, .bool false]) (by simp [results, Try.results41, go_sem, r0, r1, r2, r3]) rfl ⟨by rfl, RB _ _ (by omega) BW.out⟩
set_option maxRecDepth 100000 in
set_option maxHeartbeats 3200000 in
theorem st_Bn (b : UInt8) (h1 : b ≠ 60) (h2 : b ≠ 34) (h3 : b ≠ 47) (w : World) :
    Calls Try.prog 41 #[stV ⟨11, [], [], false⟩, .int .u8 (b.toNat : Int)] w fun e w' => e = .returned (stV ⟨11, [], [], false⟩) ∧ Below w.heap.size w w' := by
  have hval : stValid ⟨11, [], [], false⟩ = true := val_plain (by omega)
  have hb60 : ((b.toNat : Int) == 60) = false := bneN (n := 60) 60 rfl h1
  have hb34 : ((b.toNat : Int) == 34) = false := bneN (n := 34) 34 rfl h2
  have hb47 : ((b.toNat : Int) == 47) = false := bneN (n := 47) 47 rfl h3
  have CV := Lib.hid (fun W => (by have h := impl_StateValid ⟨11, [], [], false⟩ W (by first | exact hTl | (simp; done)) (by first | exact hAl | (simp; done)); rw [hval] at h; exact h : Calls Try.prog 69 #[stV ⟨11, [], [], false⟩] W fun e w' => e = .returned (.bool true) ∧ Below W.heap.size W w'))
  obtain ⟨⟨p0, p1, p2⟩, bx⟩ := three_new w (.cells #[.int .i64 11, .string (mkS []), .string (mkS []), .bool false] 57 (0, 0)) (.cells #[.int .i64 0, .string ⟨#[]⟩, .string ⟨#[]⟩, .bool false] 57 (0, 0)) (.cells #[.int .i64 15, .string ⟨#[]⟩, .string ⟨#[]⟩, .bool false] 57 (0, 0))
  rw [st_agg] at CV ⊢
  have P0 := Lib.hid p0; have P1 := Lib.hid p1; have P2 := Lib.hid p2; have BX := Lib.hid bx
  clear p0 p1 p2 bx hval h1 h2 h3
  go_enter Try.func41, Try.ntmps41
  go_wp2_with fail
  refine (CV.out _).mono ?_
  rintro e w1 ⟨rfl, hb1⟩
  have q0 := (hb1.block _ (bld_ltS P0.out)).trans P0.out
  have q1 := (hb1.block _ (bld_ltS P1.out)).trans P1.out
  have BW := Lib.hid (BX.out.trans (hb1.mono BX.out.size))
  have x0 : w1.cell? ⟨w.heap.size, 0, none⟩ = some (.int .i64 11) := by rw [cell_of_row w1 _ _ _ _ _ q0]; rfl
  have x1 : w1.cell? ⟨w.heap.size, 1, none⟩ = some (.string (mkS [])) := by rw [cell_of_row w1 _ _ _ _ _ q0]; rfl
  have x2 : w1.cell? ⟨w.heap.size, 2, none⟩ = some (.string (mkS [])) := by rw [cell_of_row w1 _ _ _ _ _ q0]; rfl
  have x3 : w1.cell? ⟨w.heap.size, 3, none⟩ = some (.bool false) := by rw [cell_of_row w1 _ _ _ _ _ q0]; rfl
  have u0 : w1.cell? ⟨w.heap.size + 1, 0, none⟩ = some (.int .i64 0) := by rw [cell_of_row w1 _ _ _ _ _ q1]; rfl
  have u1 : w1.cell? ⟨w.heap.size + 1, 1, none⟩ = some (.string ⟨#[]⟩) := by rw [cell_of_row w1 _ _ _ _ _ q1]; rfl
  have u2 : w1.cell? ⟨w.heap.size + 1, 2, none⟩ = some (.string ⟨#[]⟩) := by rw [cell_of_row w1 _ _ _ _ _ q1]; rfl
  have u3 : w1.cell? ⟨w.heap.size + 1, 3, none⟩ = some (.bool false) := by rw [cell_of_row w1 _ _ _ _ _ q1]; rfl
  have f0 := row_frozen q0 0
  have f1 := row_frozen q0 1
  have f2 := row_frozen q0 2
  have f3 := row_frozen q0 3
  have g0 := row_frozen q1 0
  have g1 := row_frozen q1 1
  have g2 := row_frozen q1 2
  have g3 := row_frozen q1 3
  have Q0 := Lib.hid q0; have Q1 := Lib.hid q1
  clear q0 q1 hb1 P0 P1 P2 CV
  go_wp2
  obtain ⟨⟨r0, r1, r2, r3⟩, RB⟩ := st_set Q1.out (.int .i64 11) (.string ⟨#[]⟩) (.string ⟨#[]⟩) (.bool false)
  exact bodyPost_ret (v := .agg #[.int .i64 11, .string ⟨#[]⟩, .string ⟨#[]⟩, .bool false]) (by simp [results, Try.results41, go_sem, r0, r1, r2, r3]) rfl ⟨by rfl, RB _ _ (by omega) BW.out⟩
set_option maxRecDepth 100000 in
set_option maxHeartbeats 3200000 in
theorem st_El (b : UInt8) (h : b = 60) (w : World) :
    Calls Try.prog 41 #[stV ⟨14, [], [], false⟩, .int .u8 (b.toNat : Int)] w fun e w' => e = .returned (stV ⟨14, [], [], false⟩) ∧ Below w.heap.size w w' := by
  have hval : stValid ⟨14, [], [], false⟩ = true := val_plain (by omega)
  have hb60 : ((b.toNat : Int) == 60) = true := beqN (n := 60) 60 rfl h
  have CV := Lib.hid (fun W => (by have h := impl_StateValid ⟨14, [], [], false⟩ W (by first | exact hTl | (simp; done)) (by first | exact hAl | (simp; done)); rw [hval] at h; exact h : Calls Try.prog 69 #[stV ⟨14, [], [], false⟩] W fun e w' => e = .returned (.bool true) ∧ Below W.heap.size W w'))
  obtain ⟨⟨p0, p1, p2⟩, bx⟩ := three_new w (.cells #[.int .i64 14, .string (mkS []), .string (mkS []), .bool false] 57 (0, 0)) (.cells #[.int .i64 0, .string ⟨#[]⟩, .string ⟨#[]⟩, .bool false] 57 (0, 0)) (.cells #[.int .i64 15, .string ⟨#[]⟩, .string ⟨#[]⟩, .bool false] 57 (0, 0))
  rw [st_agg] at CV ⊢
  have P0 := Lib.hid p0; have P1 := Lib.hid p1; have P2 := Lib.hid p2; have BX := Lib.hid bx
  clear p0 p1 p2 bx hval h
  go_enter Try.func41, Try.ntmps41
  go_wp2_with fail
  refine (CV.out _).mono ?_
  rintro e w1 ⟨rfl, hb1⟩
  have q0 := (hb1.block _ (bld_ltS P0.out)).trans P0.out
  have q1 := (hb1.block _ (bld_ltS P1.out)).trans P1.out
  have BW := Lib.hid (BX.out.trans (hb1.mono BX.out.size))
  have x0 : w1.cell? ⟨w.heap.size, 0, none⟩ = some (.int .i64 14) := by rw [cell_of_row w1 _ _ _ _ _ q0]; rfl
  have x1 : w1.cell? ⟨w.heap.size, 1, none⟩ = some (.string (mkS [])) := by rw [cell_of_row w1 _ _ _ _ _ q0]; rfl
  have x2 : w1.cell? ⟨w.heap.size, 2, none⟩ = some (.string (mkS [])) := by rw [cell_of_row w1 _ _ _ _ _ q0]; rfl
  have x3 : w1.cell? ⟨w.heap.size, 3, none⟩ = some (.bool false) := by rw [cell_of_row w1 _ _ _ _ _ q0]; rfl
  have u0 : w1.cell? ⟨w.heap.size + 1, 0, none⟩ = some (.int .i64 0) := by rw [cell_of_row w1 _ _ _ _ _ q1]; rfl
  have u1 : w1.cell? ⟨w.heap.size + 1, 1, none⟩ = some (.string ⟨#[]⟩) := by rw [cell_of_row w1 _ _ _ _ _ q1]; rfl
  have u2 : w1.cell? ⟨w.heap.size + 1, 2, none⟩ = some (.string ⟨#[]⟩) := by rw [cell_of_row w1 _ _ _ _ _ q1]; rfl
  have u3 : w1.cell? ⟨w.heap.size + 1, 3, none⟩ = some (.bool false) := by rw [cell_of_row w1 _ _ _ _ _ q1]; rfl
  have f0 := row_frozen q0 0
  have f1 := row_frozen q0 1
  have f2 := row_frozen q0 2
  have f3 := row_frozen q0 3
  have g0 := row_frozen q1 0
  have g1 := row_frozen q1 1
  have g2 := row_frozen q1 2
  have g3 := row_frozen q1 3
  have Q0 := Lib.hid q0; have Q1 := Lib.hid q1
  clear q0 q1 hb1 P0 P1 P2 CV
  go_wp2
  obtain ⟨⟨r0, r1, r2, r3⟩, RB⟩ := st_set Q1.out (.int .i64 14) (.string ⟨#[]⟩) (.string ⟨#[]⟩) (.bool false)
  exact bodyPost_ret (v := .agg #[.int .i64 14, .string ⟨#[]⟩, .string ⟨#[]⟩, .bool false]) (by simp [results, Try.results41, go_sem, r0, r1, r2, r3]) rfl ⟨by rfl, RB _ _ (by omega) BW.out⟩
set_option maxRecDepth 100000 in
set_option maxHeartbeats 3200000 in
theorem st_Eq (b : UInt8) (h : b = 34) (w : World) :
    Calls Try.prog 41 #[stV ⟨14, [], [], false⟩, .int .u8 (b.toNat : Int)] w fun e w' => e = .returned (stV ⟨12, [], [], false⟩) ∧ Below w.heap.size w w' := by
  have hval : stValid ⟨14, [], [], false⟩ = true := val_plain (by omega)
  have hb60 : ((b.toNat : Int) == 60) = false := bneN (n := 60) 60 rfl (by subst h; decide)
  have hb34 : ((b.toNat : Int) == 34) = true := beqN (n := 34) 34 rfl h
  have CV := Lib.hid (fun W => (by have h := impl_StateValid ⟨14, [], [], false⟩ W (by first | exact hTl | (simp; done)) (by first | exact hAl | (simp; done)); rw [hval] at h; exact h : Calls Try.prog 69 #[stV ⟨14, [], [], false⟩] W fun e w' => e = .returned (.bool true) ∧ Below W.heap.size W w'))
  obtain ⟨⟨p0, p1, p2⟩, bx⟩ := three_new w (.cells #[.int .i64 14, .string (mkS []), .string (mkS []), .bool false] 57 (0, 0)) (.cells #[.int .i64 0, .string ⟨#[]⟩, .string ⟨#[]⟩, .bool false] 57 (0, 0)) (.cells #[.int .i64 15, .string ⟨#[]⟩, .string ⟨#[]⟩, .bool false] 57 (0, 0))
  rw [st_agg] at CV ⊢
  have P0 := Lib.hid p0; have P1 := Lib.hid p1; have P2 := Lib.hid p2; have BX := Lib.hid bx
  clear p0 p1 p2 bx hval h
  go_enter Try.func41, Try.ntmps41
  go_wp2_with fail
  refine (CV.out _).mono ?_
  rintro e w1 ⟨rfl, hb1⟩
  have q0 := (hb1.block _ (bld_ltS P0.out)).trans P0.out
  have q1 := (hb1.block _ (bld_ltS P1.out)).trans P1.out
  have BW := Lib.hid (BX.out.trans (hb1.mono BX.out.size))
  have x0 : w1.cell? ⟨w.heap.size, 0, none⟩ = some (.int .i64 14) := by rw [cell_of_row w1 _ _ _ _ _ q0]; rfl
  have x1 : w1.cell? ⟨w.heap.size, 1, none⟩ = some (.string (mkS [])) := by rw [cell_of_row w1 _ _ _ _ _ q0]; rfl
  have x2 : w1.cell? ⟨w.heap.size, 2, none⟩ = some (.string (mkS [])) := by rw [cell_of_row w1 _ _ _ _ _ q0]; rfl
  have x3 : w1.cell? ⟨w.heap.size, 3, none⟩ = some (.bool false) := by rw [cell_of_row w1 _ _ _ _ _ q0]; rfl
  have u0 : w1.cell? ⟨w.heap.size + 1, 0, none⟩ = some (.int .i64 0) := by rw [cell_of_row w1 _ _ _ _ _ q1]; rfl
  have u1 : w1.cell? ⟨w.heap.size + 1, 1, none⟩ = some (.string ⟨#[]⟩) := by rw [cell_of_row w1 _ _ _ _ _ q1]; rfl
  have u2 : w1.cell? ⟨w.heap.size + 1, 2, none⟩ = some (.string ⟨#[]⟩) := by rw [cell_of_row w1 _ _ _ _ _ q1]; rfl
  have u3 : w1.cell? ⟨w.heap.size + 1, 3, none⟩ = some (.bool false) := by rw [cell_of_row w1 _ _ _ _ _ q1]; rfl
  have f0 := row_frozen q0 0
  have f1 := row_frozen q0 1
  have f2 := row_frozen q0 2
  have f3 := row_frozen q0 3
  have g0 := row_frozen q1 0
  have g1 := row_frozen q1 1
  have g2 := row_frozen q1 2
  have g3 := row_frozen q1 3
  have Q0 := Lib.hid q0; have Q1 := Lib.hid q1
  clear q0 q1 hb1 P0 P1 P2 CV
  go_wp2
  obtain ⟨⟨r0, r1, r2, r3⟩, RB⟩ := st_set Q1.out (.int .i64 12) (.string ⟨#[]⟩) (.string ⟨#[]⟩) (.bool false)
  exact bodyPost_ret (v := .agg #[.int .i64 12, .string ⟨#[]⟩, .string ⟨#[]⟩, .bool false]) (by simp [results, Try.results41, go_sem, r0, r1, r2, r3]) rfl ⟨by rfl, RB _ _ (by omega) BW.out⟩
set_option maxRecDepth 100000 in
set_option maxHeartbeats 3200000 in
theorem st_Es (b : UInt8) (h : b = 47) (w : World) :
    Calls Try.prog 41 #[stV ⟨14, [], [], false⟩, .int .u8 (b.toNat : Int)] w fun e w' => e = .returned (stV ⟨9, [], [], false⟩) ∧ Below w.heap.size w w' := by
  have hval : stValid ⟨14, [], [], false⟩ = true := val_plain (by omega)
  have hb60 : ((b.toNat : Int) == 60) = false := bneN (n := 60) 60 rfl (by subst h; decide)
  have hb34 : ((b.toNat : Int) == 34) = false := bneN (n := 34) 34 rfl (by subst h; decide)
  have hb47 : ((b.toNat : Int) == 47) = true := beqN (n := 47) 47 rfl h
  have CV := Lib.hid (fun W => (by have h := impl_StateValid ⟨14, [], [], false⟩ W (by first | exact hTl | (simp; done)) (by first | exact hAl | (simp; done)); rw [hval] at h; exact h : Calls Try.prog 69 #[stV ⟨14, [], [], false⟩] W fun e w' => e = .returned (.bool true) ∧ Below W.heap.size W w'))
  obtain ⟨⟨p0, p1, p2⟩, bx⟩ := three_new w (.cells #[.int .i64 14, .string (mkS []), .string (mkS []), .bool false] 57 (0, 0)) (.cells #[.int .i64 0, .string ⟨#[]⟩, .string ⟨#[]⟩, .bool false] 57 (0, 0)) (.cells #[.int .i64 15, .string ⟨#[]⟩, .string ⟨#[]⟩, .bool false] 57 (0, 0))
  rw [st_agg] at CV ⊢
  have P0 := Lib.hid p0; have P1 := Lib.hid p1; have P2 := Lib.hid p2; have BX := Lib.hid bx
  clear p0 p1 p2 bx hval h
  go_enter Try.func41, Try.ntmps41
  go_wp2_with fail
  refine (CV.out _).mono ?_
  rintro e w1 ⟨rfl, hb1⟩
  have q0 := (hb1.block _ (bld_ltS P0.out)).trans P0.out
  have q1 := (hb1.block _ (bld_ltS P1.out)).trans P1.out
  have BW := Lib.hid (BX.out.trans (hb1.mono BX.out.size))
  have x0 : w1.cell? ⟨w.heap.size, 0, none⟩ = some (.int .i64 14) := by rw [cell_of_row w1 _ _ _ _ _ q0]; rfl
  have x1 : w1.cell? ⟨w.heap.size, 1, none⟩ = some (.string (mkS [])) := by rw [cell_of_row w1 _ _ _ _ _ q0]; rfl
  have x2 : w1.cell? ⟨w.heap.size, 2, none⟩ = some (.string (mkS [])) := by rw [cell_of_row w1 _ _ _ _ _ q0]; rfl
  have x3 : w1.cell? ⟨w.heap.size, 3, none⟩ = some (.bool false) := by rw [cell_of_row w1 _ _ _ _ _ q0]; rfl
  have u0 : w1.cell? ⟨w.heap.size + 1, 0, none⟩ = some (.int .i64 0) := by rw [cell_of_row w1 _ _ _ _ _ q1]; rfl
  have u1 : w1.cell? ⟨w.heap.size + 1, 1, none⟩ = some (.string ⟨#[]⟩) := by rw [cell_of_row w1 _ _ _ _ _ q1]; rfl
  have u2 : w1.cell? ⟨w.heap.size + 1, 2, none⟩ = some (.string ⟨#[]⟩) := by rw [cell_of_row w1 _ _ _ _ _ q1]; rfl
  have u3 : w1.cell? ⟨w.heap.size + 1, 3, none⟩ = some (.bool false) := by rw [cell_of_row w1 _ _ _ _ _ q1]; rfl
  have f0 := row_frozen q0 0
  have f1 := row_frozen q0 1
  have f2 := row_frozen q0 2
  have f3 := row_frozen q0 3
  have g0 := row_frozen q1 0
  have g1 := row_frozen q1 1
  have g2 := row_frozen q1 2
  have g3 := row_frozen q1 3
  have Q0 := Lib.hid q0; have Q1 := Lib.hid q1
  clear q0 q1 hb1 P0 P1 P2 CV
  go_wp2
  obtain ⟨⟨r0, r1, r2, r3⟩, RB⟩ := st_set Q1.out (.int .i64 9) (.string ⟨#[]⟩) (.string ⟨#[]⟩) (.bool false)
  exact bodyPost_ret (v := .agg #[.int .i64 9, .string ⟨#[]⟩, .string ⟨#[]⟩, .bool false]) (by simp [results, Try.results41, go_sem, r0, r1, r2, r3]) rfl ⟨by rfl, RB _ _ (by omega) BW.out⟩
set_option maxRecDepth 100000 in
set_option maxHeartbeats 3200000 in
theorem st_En (b : UInt8) (h1 : b ≠ 60) (h2 : b ≠ 34) (h3 : b ≠ 47) (w : World) :
    Calls Try.prog 41 #[stV ⟨14, [], [], false⟩, .int .u8 (b.toNat : Int)] w fun e w' => e = .returned (stV ⟨11, [], [], false⟩) ∧ Below w.heap.size w w' := by
  have hval : stValid ⟨14, [], [], false⟩ = true := val_plain (by omega)
  have hb60 : ((b.toNat : Int) == 60) = false := bneN (n := 60) 60 rfl h1
  have hb34 : ((b.toNat : Int) == 34) = false := bneN (n := 34) 34 rfl h2
  have hb47 : ((b.toNat : Int) == 47) = false := bneN (n := 47) 47 rfl h3
  have CV := Lib.hid (fun W => (by have h := impl_StateValid ⟨14, [], [], false⟩ W (by first | exact hTl | (simp; done)) (by first | exact hAl | (simp; done)); rw [hval] at h; exact h : Calls Try.prog 69 #[stV ⟨14, [], [], false⟩] W fun e w' => e = .returned (.bool true) ∧ Below W.heap.size W w'))
  obtain ⟨⟨p0, p1, p2⟩, bx⟩ := three_new w (.cells #[.int .i64 14, .string (mkS []), .string (mkS []), .bool false] 57 (0, 0)) (.cells #[.int .i64 0, .string ⟨#[]⟩, .string ⟨#[]⟩, .bool false] 57 (0, 0)) (.cells #[.int .i64 15, .string ⟨#[]⟩, .string ⟨#[]⟩, .bool false] 57 (0, 0))
  rw [st_agg] at CV ⊢
  have P0 := Lib.hid p0; have P1 := Lib.hid p1; have P2 := Lib.hid p2; have BX := Lib.hid bx
  clear p0 p1 p2 bx hval h1 h2 h3
  go_enter Try.func41, Try.ntmps41
  go_wp2_with fail
  refine (CV.out _).mono ?_
  rintro e w1 ⟨rfl, hb1⟩
  have q0 := (hb1.block _ (bld_ltS P0.out)).trans P0.out
  have q1 := (hb1.block _ (bld_ltS P1.out)).trans P1.out
  have BW := Lib.hid (BX.out.trans (hb1.mono BX.out.size))
  have x0 : w1.cell? ⟨w.heap.size, 0, none⟩ = some (.int .i64 14) := by rw [cell_of_row w1 _ _ _ _ _ q0]; rfl
  have x1 : w1.cell? ⟨w.heap.size, 1, none⟩ = some (.string (mkS [])) := by rw [cell_of_row w1 _ _ _ _ _ q0]; rfl
  have x2 : w1.cell? ⟨w.heap.size, 2, none⟩ = some (.string (mkS [])) := by rw [cell_of_row w1 _ _ _ _ _ q0]; rfl
  have x3 : w1.cell? ⟨w.heap.size, 3, none⟩ = some (.bool false) := by rw [cell_of_row w1 _ _ _ _ _ q0]; rfl
  have u0 : w1.cell? ⟨w.heap.size + 1, 0, none⟩ = some (.int .i64 0) := by rw [cell_of_row w1 _ _ _ _ _ q1]; rfl
  have u1 : w1.cell? ⟨w.heap.size + 1, 1, none⟩ = some (.string ⟨#[]⟩) := by rw [cell_of_row w1 _ _ _ _ _ q1]; rfl
  have u2 : w1.cell? ⟨w.heap.size + 1, 2, none⟩ = some (.string ⟨#[]⟩) := by rw [cell_of_row w1 _ _ _ _ _ q1]; rfl
  have u3 : w1.cell? ⟨w.heap.size + 1, 3, none⟩ = some (.bool false) := by rw [cell_of_row w1 _ _ _ _ _ q1]; rfl
  have f0 := row_frozen q0 0
  have f1 := row_frozen q0 1
  have f2 := row_frozen q0 2
  have f3 := row_frozen q0 3
  have g0 := row_frozen q1 0
  have g1 := row_frozen q1 1
  have g2 := row_frozen q1 2
  have g3 := row_frozen q1 3
  have Q0 := Lib.hid q0; have Q1 := Lib.hid q1
  clear q0 q1 hb1 P0 P1 P2 CV
  go_wp2
  obtain ⟨⟨r0, r1, r2, r3⟩, RB⟩ := st_set Q1.out (.int .i64 11) (.string ⟨#[]⟩) (.string ⟨#[]⟩) (.bool false)
  exact bodyPost_ret (v := .agg #[.int .i64 11, .string ⟨#[]⟩, .string ⟨#[]⟩, .bool false]) (by simp [results, Try.results41, go_sem, r0, r1, r2, r3]) rfl ⟨by rfl, RB _ _ (by omega) BW.out⟩
set_option maxRecDepth 100000 in
set_option maxHeartbeats 3200000 in
theorem st_Cq (b : UInt8) (h : b = 34) (w : World) :
    Calls Try.prog 41 #[stV ⟨12, [], [], false⟩, .int .u8 (b.toNat : Int)] w fun e w' => e = .returned (stV ⟨11, [], [], false⟩) ∧ Below w.heap.size w w' := by
  have hval : stValid ⟨12, [], [], false⟩ = true := val_plain (by omega)
  have hb34 : ((b.toNat : Int) == 34) = true := beqN (n := 34) 34 rfl h
  have CV := Lib.hid (fun W => (by have h := impl_StateValid ⟨12, [], [], false⟩ W (by first | exact hTl | (simp; done)) (by first | exact hAl | (simp; done)); rw [hval] at h; exact h : Calls Try.prog 69 #[stV ⟨12, [], [], false⟩] W fun e w' => e = .returned (.bool true) ∧ Below W.heap.size W w'))
  obtain ⟨⟨p0, p1, p2⟩, bx⟩ := three_new w (.cells #[.int .i64 12, .string (mkS []), .string (mkS []), .bool false] 57 (0, 0)) (.cells #[.int .i64 0, .string ⟨#[]⟩, .string ⟨#[]⟩, .bool false] 57 (0, 0)) (.cells #[.int .i64 15, .string ⟨#[]⟩, .string ⟨#[]⟩, .bool false] 57 (0, 0))
  rw [st_agg] at CV ⊢
  have P0 := Lib.hid p0; have P1 := Lib.hid p1; have P2 := Lib.hid p2; have BX := Lib.hid bx
  clear p0 p1 p2 bx hval h
  go_enter Try.func41, Try.ntmps41
  go_wp2_with fail
  refine (CV.out _).mono ?_
  rintro e w1 ⟨rfl, hb1⟩
  have q0 := (hb1.block _ (bld_ltS P0.out)).trans P0.out
  have q1 := (hb1.block _ (bld_ltS P1.out)).trans P1.out
  have BW := Lib.hid (BX.out.trans (hb1.mono BX.out.size))
  have x0 : w1.cell? ⟨w.heap.size, 0, none⟩ = some (.int .i64 12) := by rw [cell_of_row w1 _ _ _ _ _ q0]; rfl
  have x1 : w1.cell? ⟨w.heap.size, 1, none⟩ = some (.string (mkS [])) := by rw [cell_of_row w1 _ _ _ _ _ q0]; rfl
  have x2 : w1.cell? ⟨w.heap.size, 2, none⟩ = some (.string (mkS [])) := by rw [cell_of_row w1 _ _ _ _ _ q0]; rfl
  have x3 : w1.cell? ⟨w.heap.size, 3, none⟩ = some (.bool false) := by rw [cell_of_row w1 _ _ _ _ _ q0]; rfl
  have u0 : w1.cell? ⟨w.heap.size + 1, 0, none⟩ = some (.int .i64 0) := by rw [cell_of_row w1 _ _ _ _ _ q1]; rfl
  have u1 : w1.cell? ⟨w.heap.size + 1, 1, none⟩ = some (.string ⟨#[]⟩) := by rw [cell_of_row w1 _ _ _ _ _ q1]; rfl
  have u2 : w1.cell? ⟨w.heap.size + 1, 2, none⟩ = some (.string ⟨#[]⟩) := by rw [cell_of_row w1 _ _ _ _ _ q1]; rfl
  have u3 : w1.cell? ⟨w.heap.size + 1, 3, none⟩ = some (.bool false) := by rw [cell_of_row w1 _ _ _ _ _ q1]; rfl
  have f0 := row_frozen q0 0
  have f1 := row_frozen q0 1
  have f2 := row_frozen q0 2
  have f3 := row_frozen q0 3
  have g0 := row_frozen q1 0
  have g1 := row_frozen q1 1
  have g2 := row_frozen q1 2
  have g3 := row_frozen q1 3
  have Q0 := Lib.hid q0; have Q1 := Lib.hid q1
  clear q0 q1 hb1 P0 P1 P2 CV
  go_wp2
  obtain ⟨⟨r0, r1, r2, r3⟩, RB⟩ := st_set Q1.out (.int .i64 11) (.string ⟨#[]⟩) (.string ⟨#[]⟩) (.bool false)
  exact bodyPost_ret (v := .agg #[.int .i64 11, .string ⟨#[]⟩, .string ⟨#[]⟩, .bool false]) (by simp [results, Try.results41, go_sem, r0, r1, r2, r3]) rfl ⟨by rfl, RB _ _ (by omega) BW.out⟩
set_option maxRecDepth 100000 in
set_option maxHeartbeats 3200000 in
theorem st_Cb (b : UInt8) (h : b = 92) (w : World) :
    Calls Try.prog 41 #[stV ⟨12, [], [], false⟩, .int .u8 (b.toNat : Int)] w fun e w' => e = .returned (stV ⟨13, [], [], false⟩) ∧ Below w.heap.size w w' := by
  have hval : stValid ⟨12, [], [], false⟩ = true := val_plain (by omega)
  have hb34 : ((b.toNat : Int) == 34) = false := bneN (n := 34) 34 rfl (by subst h; decide)
  have hb92 : ((b.toNat : Int) == 92) = true := beqN (n := 92) 92 rfl h
  have CV := Lib.hid (fun W => (by have h := impl_StateValid ⟨12, [], [], false⟩ W (by first | exact hTl | (simp; done)) (by first | exact hAl | (simp; done)); rw [hval] at h; exact h : Calls Try.prog 69 #[stV ⟨12, [], [], false⟩] W fun e w' => e = .returned (.bool true) ∧ Below W.heap.size W w'))
  obtain ⟨⟨p0, p1, p2⟩, bx⟩ := three_new w (.cells #[.int .i64 12, .string (mkS []), .string (mkS []), .bool false] 57 (0, 0)) (.cells #[.int .i64 0, .string ⟨#[]⟩, .string ⟨#[]⟩, .bool false] 57 (0, 0)) (.cells #[.int .i64 15, .string ⟨#[]⟩, .string ⟨#[]⟩, .bool false] 57 (0, 0))
  rw [st_agg] at CV ⊢
  have P0 := Lib.hid p0; have P1 := Lib.hid p1; have P2 := Lib.hid p2; have BX := Lib.hid bx
  clear p0 p1 p2 bx hval h
  go_enter Try.func41, Try.ntmps41
  go_wp2_with fail
  refine (CV.out _).mono ?_
  rintro e w1 ⟨rfl, hb1⟩
  have q0 := (hb1.block _ (bld_ltS P0.out)).trans P0.out
  have q1 := (hb1.block _ (bld_ltS P1.out)).trans P1.out
  have BW := Lib.hid (BX.out.trans (hb1.mono BX.out.size))
  have x0 : w1.cell? ⟨w.heap.size, 0, none⟩ = some (.int .i64 12) := by rw [cell_of_row w1 _ _ _ _ _ q0]; rfl
  have x1 : w1.cell? ⟨w.heap.size, 1, none⟩ = some (.string (mkS [])) := by rw [cell_of_row w1 _ _ _ _ _ q0]; rfl
  have x2 : w1.cell? ⟨w.heap.size, 2, none⟩ = some (.string (mkS [])) := by rw [cell_of_row w1 _ _ _ _ _ q0]; rfl
  have x3 : w1.cell? ⟨w.heap.size, 3, none⟩ = some (.bool false) := by rw [cell_of_row w1 _ _ _ _ _ q0]; rfl
  have u0 : w1.cell? ⟨w.heap.size + 1, 0, none⟩ = some (.int .i64 0) := by rw [cell_of_row w1 _ _ _ _ _ q1]; rfl
  have u1 : w1.cell? ⟨w.heap.size + 1, 1, none⟩ = some (.string ⟨#[]⟩) := by rw [cell_of_row w1 _ _ _ _ _ q1]; rfl
  have u2 : w1.cell? ⟨w.heap.size + 1, 2, none⟩ = some (.string ⟨#[]⟩) := by rw [cell_of_row w1 _ _ _ _ _ q1]; rfl
  have u3 : w1.cell? ⟨w.heap.size + 1, 3, none⟩ = some (.bool false) := by rw [cell_of_row w1 _ _ _ _ _ q1]; rfl
  have f0 := row_frozen q0 0
  have f1 := row_frozen q0 1
  have f2 := row_frozen q0 2
  have f3 := row_frozen q0 3
  have g0 := row_frozen q1 0
  have g1 := row_frozen q1 1
  have g2 := row_frozen q1 2
  have g3 := row_frozen q1 3
  have Q0 := Lib.hid q0; have Q1 := Lib.hid q1
  clear q0 q1 hb1 P0 P1 P2 CV
  go_wp2
  obtain ⟨⟨r0, r1, r2, r3⟩, RB⟩ := st_set Q1.out (.int .i64 13) (.string ⟨#[]⟩) (.string ⟨#[]⟩) (.bool false)
  exact bodyPost_ret (v := .agg #[.int .i64 13, .string ⟨#[]⟩, .string ⟨#[]⟩, .bool false]) (by simp [results, Try.results41, go_sem, r0, r1, r2, r3]) rfl ⟨by rfl, RB _ _ (by omega) BW.out⟩
set_option maxRecDepth 100000 in
set_option maxHeartbeats 3200000 in
theorem st_Cl (b : UInt8) (h : b = 60) (w : World) :
    Calls Try.prog 41 #[stV ⟨12, [], [], false⟩, .int .u8 (b.toNat : Int)] w fun e w' => e = .returned (stV badS) ∧ Below w.heap.size w w' := by
  have hval : stValid ⟨12, [], [], false⟩ = true := val_plain (by omega)
  have hb34 : ((b.toNat : Int) == 34) = false := bneN (n := 34) 34 rfl (by subst h; decide)
  have hb92 : ((b.toNat : Int) == 92) = false := bneN (n := 92) 92 rfl (by subst h; decide)
  have hb60 : ((b.toNat : Int) == 60) = true := beqN (n := 60) 60 rfl h
  have CV := Lib.hid (fun W => (by have h := impl_StateValid ⟨12, [], [], false⟩ W (by first | exact hTl | (simp; done)) (by first | exact hAl | (simp; done)); rw [hval] at h; exact h : Calls Try.prog 69 #[stV ⟨12, [], [], false⟩] W fun e w' => e = .returned (.bool true) ∧ Below W.heap.size W w'))
  obtain ⟨⟨p0, p1, p2⟩, bx⟩ := three_new w (.cells #[.int .i64 12, .string (mkS []), .string (mkS []), .bool false] 57 (0, 0)) (.cells #[.int .i64 0, .string ⟨#[]⟩, .string ⟨#[]⟩, .bool false] 57 (0, 0)) (.cells #[.int .i64 15, .string ⟨#[]⟩, .string ⟨#[]⟩, .bool false] 57 (0, 0))
  rw [st_agg] at CV ⊢
  have P0 := Lib.hid p0; have P1 := Lib.hid p1; have P2 := Lib.hid p2; have BX := Lib.hid bx
  clear p0 p1 p2 bx hval h
  go_enter Try.func41, Try.ntmps41
  go_wp2_with fail
  refine (CV.out _).mono ?_
  rintro e w1 ⟨rfl, hb1⟩
  have q0 := (hb1.block _ (bld_ltS P0.out)).trans P0.out
  have q1 := (hb1.block _ (bld_ltS P1.out)).trans P1.out
  have q2 := (hb1.block _ (bld_ltS P2.out)).trans P2.out
  have BW := Lib.hid (BX.out.trans (hb1.mono BX.out.size))
  have x0 : w1.cell? ⟨w.heap.size, 0, none⟩ = some (.int .i64 12) := by rw [cell_of_row w1 _ _ _ _ _ q0]; rfl
  have x1 : w1.cell? ⟨w.heap.size, 1, none⟩ = some (.string (mkS [])) := by rw [cell_of_row w1 _ _ _ _ _ q0]; rfl
  have x2 : w1.cell? ⟨w.heap.size, 2, none⟩ = some (.string (mkS [])) := by rw [cell_of_row w1 _ _ _ _ _ q0]; rfl
  have x3 : w1.cell? ⟨w.heap.size, 3, none⟩ = some (.bool false) := by rw [cell_of_row w1 _ _ _ _ _ q0]; rfl
  have u0 : w1.cell? ⟨w.heap.size + 1, 0, none⟩ = some (.int .i64 0) := by rw [cell_of_row w1 _ _ _ _ _ q1]; rfl
  have u1 : w1.cell? ⟨w.heap.size + 1, 1, none⟩ = some (.string ⟨#[]⟩) := by rw [cell_of_row w1 _ _ _ _ _ q1]; rfl
  have u2 : w1.cell? ⟨w.heap.size + 1, 2, none⟩ = some (.string ⟨#[]⟩) := by rw [cell_of_row w1 _ _ _ _ _ q1]; rfl
  have u3 : w1.cell? ⟨w.heap.size + 1, 3, none⟩ = some (.bool false) := by rw [cell_of_row w1 _ _ _ _ _ q1]; rfl
  have t0 : w1.cell? ⟨w.heap.size + 1 + 1, 0, none⟩ = some (.int .i64 15) := by rw [cell_of_row w1 _ _ _ _ _ q2]; rfl
  have t1 : w1.cell? ⟨w.heap.size + 1 + 1, 1, none⟩ = some (.string ⟨#[]⟩) := by rw [cell_of_row w1 _ _ _ _ _ q2]; rfl
  have t2 : w1.cell? ⟨w.heap.size + 1 + 1, 2, none⟩ = some (.string ⟨#[]⟩) := by rw [cell_of_row w1 _ _ _ _ _ q2]; rfl
  have t3 : w1.cell? ⟨w.heap.size + 1 + 1, 3, none⟩ = some (.bool false) := by rw [cell_of_row w1 _ _ _ _ _ q2]; rfl
  have f0 := row_frozen q0 0
  have f1 := row_frozen q0 1
  have f2 := row_frozen q0 2
  have f3 := row_frozen q0 3
  have g0 := row_frozen q1 0
  have g1 := row_frozen q1 1
  have g2 := row_frozen q1 2
  have g3 := row_frozen q1 3
  have Q0 := Lib.hid q0; have Q1 := Lib.hid q1
  clear q0 q1 q2 hb1 P0 P1 P2 CV
  go_wp2
  obtain ⟨⟨r0, r1, r2, r3⟩, RB⟩ := st_set Q1.out (.int .i64 15) (.string ⟨#[]⟩) (.string ⟨#[]⟩) (.bool false)
  exact bodyPost_ret (v := .agg #[.int .i64 15, .string ⟨#[]⟩, .string ⟨#[]⟩, .bool false]) (by simp [results, Try.results41, go_sem, r0, r1, r2, r3]) rfl ⟨by rfl, RB _ _ (by omega) BW.out⟩
set_option maxRecDepth 100000 in
set_option maxHeartbeats 3200000 in
theorem st_Cn (b : UInt8) (h1 : b ≠ 34) (h2 : b ≠ 92) (h3 : b ≠ 60) (w : World) :
    Calls Try.prog 41 #[stV ⟨12, [], [], false⟩, .int .u8 (b.toNat : Int)] w fun e w' => e = .returned (stV ⟨12, [], [], false⟩) ∧ Below w.heap.size w w' := by
  have hval : stValid ⟨12, [], [], false⟩ = true := val_plain (by omega)
  have hb34 : ((b.toNat : Int) == 34) = false := bneN (n := 34) 34 rfl h1
  have hb92 : ((b.toNat : Int) == 92) = false := bneN (n := 92) 92 rfl h2
  have hb60 : ((b.toNat : Int) == 60) = false := bneN (n := 60) 60 rfl h3
  have CV := Lib.hid (fun W => (by have h := impl_StateValid ⟨12, [], [], false⟩ W (by first | exact hTl | (simp; done)) (by first | exact hAl | (simp; done)); rw [hval] at h; exact h : Calls Try.prog 69 #[stV ⟨12, [], [], false⟩] W fun e w' => e = .returned (.bool true) ∧ Below W.heap.size W w'))
  obtain ⟨⟨p0, p1, p2⟩, bx⟩ := three_new w (.cells #[.int .i64 12, .string (mkS []), .string (mkS []), .bool false] 57 (0, 0)) (.cells #[.int .i64 0, .string ⟨#[]⟩, .string ⟨#[]⟩, .bool false] 57 (0, 0)) (.cells #[.int .i64 15, .string ⟨#[]⟩, .string ⟨#[]⟩, .bool false] 57 (0, 0))
  rw [st_agg] at CV ⊢
  have P0 := Lib.hid p0; have P1 := Lib.hid p1; have P2 := Lib.hid p2; have BX := Lib.hid bx
  clear p0 p1 p2 bx hval h1 h2 h3
  go_enter Try.func41, Try.ntmps41
  go_wp2_with fail
  refine (CV.out _).mono ?_
  rintro e w1 ⟨rfl, hb1⟩
  have q0 := (hb1.block _ (bld_ltS P0.out)).trans P0.out
  have q1 := (hb1.block _ (bld_ltS P1.out)).trans P1.out
  have BW := Lib.hid (BX.out.trans (hb1.mono BX.out.size))
  have x0 : w1.cell? ⟨w.heap.size, 0, none⟩ = some (.int .i64 12) := by rw [cell_of_row w1 _ _ _ _ _ q0]; rfl
  have x1 : w1.cell? ⟨w.heap.size, 1, none⟩ = some (.string (mkS [])) := by rw [cell_of_row w1 _ _ _ _ _ q0]; rfl
  have x2 : w1.cell? ⟨w.heap.size, 2, none⟩ = some (.string (mkS [])) := by rw [cell_of_row w1 _ _ _ _ _ q0]; rfl
  have x3 : w1.cell? ⟨w.heap.size, 3, none⟩ = some (.bool false) := by rw [cell_of_row w1 _ _ _ _ _ q0]; rfl
  have u0 : w1.cell? ⟨w.heap.size + 1, 0, none⟩ = some (.int .i64 0) := by rw [cell_of_row w1 _ _ _ _ _ q1]; rfl
  have u1 : w1.cell? ⟨w.heap.size + 1, 1, none⟩ = some (.string ⟨#[]⟩) := by rw [cell_of_row w1 _ _ _ _ _ q1]; rfl
  have u2 : w1.cell? ⟨w.heap.size + 1, 2, none⟩ = some (.string ⟨#[]⟩) := by rw [cell_of_row w1 _ _ _ _ _ q1]; rfl
  have u3 : w1.cell? ⟨w.heap.size + 1, 3, none⟩ = some (.bool false) := by rw [cell_of_row w1 _ _ _ _ _ q1]; rfl
  have f0 := row_frozen q0 0
  have f1 := row_frozen q0 1
  have f2 := row_frozen q0 2
  have f3 := row_frozen q0 3
  have g0 := row_frozen q1 0
  have g1 := row_frozen q1 1
  have g2 := row_frozen q1 2
  have g3 := row_frozen q1 3
  have Q0 := Lib.hid q0; have Q1 := Lib.hid q1
  clear q0 q1 hb1 P0 P1 P2 CV
  go_wp2
  obtain ⟨⟨r0, r1, r2, r3⟩, RB⟩ := st_set Q1.out (.int .i64 12) (.string (mkS [])) (.string (mkS [])) (.bool false)
  exact bodyPost_ret (v := .agg #[.int .i64 12, .string (mkS []), .string (mkS []), .bool false]) (by simp [results, Try.results41, go_sem, r0, r1, r2, r3]) rfl ⟨by rfl, RB _ _ (by omega) BW.out⟩
set_option maxRecDepth 100000 in
set_option maxHeartbeats 3200000 in
theorem st_Dl (b : UInt8) (h : b = 60) (w : World) :
    Calls Try.prog 41 #[stV ⟨13, [], [], false⟩, .int .u8 (b.toNat : Int)] w fun e w' => e = .returned (stV badS) ∧ Below w.heap.size w w' := by
  have hval : stValid ⟨13, [], [], false⟩ = true := val_plain (by omega)
  have hb60 : ((b.toNat : Int) == 60) = true := beqN (n := 60) 60 rfl h
  have hbm := beqM (n := 60) 60 rfl h
  have CV := Lib.hid (fun W => (by have h := impl_StateValid ⟨13, [], [], false⟩ W (by first | exact hTl | (simp; done)) (by first | exact hAl | (simp; done)); rw [hval] at h; exact h : Calls Try.prog 69 #[stV ⟨13, [], [], false⟩] W fun e w' => e = .returned (.bool true) ∧ Below W.heap.size W w'))
  obtain ⟨⟨p0, p1, p2⟩, bx⟩ := three_new w (.cells #[.int .i64 13, .string (mkS []), .string (mkS []), .bool false] 57 (0, 0)) (.cells #[.int .i64 0, .string ⟨#[]⟩, .string ⟨#[]⟩, .bool false] 57 (0, 0)) (.cells #[.int .i64 15, .string ⟨#[]⟩, .string ⟨#[]⟩, .bool false] 57 (0, 0))
  rw [st_agg] at CV ⊢
  have P0 := Lib.hid p0; have P1 := Lib.hid p1; have P2 := Lib.hid p2; have BX := Lib.hid bx
  clear p0 p1 p2 bx hval h
  go_enter Try.func41, Try.ntmps41
  go_wp2_with fail
  refine (CV.out _).mono ?_
  rintro e w1 ⟨rfl, hb1⟩
  have q0 := (hb1.block _ (bld_ltS P0.out)).trans P0.out
  have q1 := (hb1.block _ (bld_ltS P1.out)).trans P1.out
  have q2 := (hb1.block _ (bld_ltS P2.out)).trans P2.out
  have BW := Lib.hid (BX.out.trans (hb1.mono BX.out.size))
  have x0 : w1.cell? ⟨w.heap.size, 0, none⟩ = some (.int .i64 13) := by rw [cell_of_row w1 _ _ _ _ _ q0]; rfl
  have x1 : w1.cell? ⟨w.heap.size, 1, none⟩ = some (.string (mkS [])) := by rw [cell_of_row w1 _ _ _ _ _ q0]; rfl
  have x2 : w1.cell? ⟨w.heap.size, 2, none⟩ = some (.string (mkS [])) := by rw [cell_of_row w1 _ _ _ _ _ q0]; rfl
  have x3 : w1.cell? ⟨w.heap.size, 3, none⟩ = some (.bool false) := by rw [cell_of_row w1 _ _ _ _ _ q0]; rfl
  have u0 : w1.cell? ⟨w.heap.size + 1, 0, none⟩ = some (.int .i64 0) := by rw [cell_of_row w1 _ _ _ _ _ q1]; rfl
  have u1 : w1.cell? ⟨w.heap.size + 1, 1, none⟩ = some (.string ⟨#[]⟩) := by rw [cell_of_row w1 _ _ _ _ _ q1]; rfl
  have u2 : w1.cell? ⟨w.heap.size + 1, 2, none⟩ = some (.string ⟨#[]⟩) := by rw [cell_of_row w1 _ _ _ _ _ q1]; rfl
  have u3 : w1.cell? ⟨w.heap.size + 1, 3, none⟩ = some (.bool false) := by rw [cell_of_row w1 _ _ _ _ _ q1]; rfl
  have t0 : w1.cell? ⟨w.heap.size + 1 + 1, 0, none⟩ = some (.int .i64 15) := by rw [cell_of_row w1 _ _ _ _ _ q2]; rfl
  have t1 : w1.cell? ⟨w.heap.size + 1 + 1, 1, none⟩ = some (.string ⟨#[]⟩) := by rw [cell_of_row w1 _ _ _ _ _ q2]; rfl
  have t2 : w1.cell? ⟨w.heap.size + 1 + 1, 2, none⟩ = some (.string ⟨#[]⟩) := by rw [cell_of_row w1 _ _ _ _ _ q2]; rfl
  have t3 : w1.cell? ⟨w.heap.size + 1 + 1, 3, none⟩ = some (.bool false) := by rw [cell_of_row w1 _ _ _ _ _ q2]; rfl
  have f0 := row_frozen q0 0
  have f1 := row_frozen q0 1
  have f2 := row_frozen q0 2
  have f3 := row_frozen q0 3
  have g0 := row_frozen q1 0
  have g1 := row_frozen q1 1
  have g2 := row_frozen q1 2
  have g3 := row_frozen q1 3
  have Q0 := Lib.hid q0; have Q1 := Lib.hid q1
  clear q0 q1 q2 hb1 P0 P1 P2 CV
  go_wp2
  obtain ⟨⟨r0, r1, r2, r3⟩, RB⟩ := st_set Q1.out (.int .i64 15) (.string ⟨#[]⟩) (.string ⟨#[]⟩) (.bool false)
  exact bodyPost_ret (v := .agg #[.int .i64 15, .string ⟨#[]⟩, .string ⟨#[]⟩, .bool false]) (by simp [results, Try.results41, go_sem, r0, r1, r2, r3]) rfl ⟨by rfl, RB _ _ (by omega) BW.out⟩
set_option maxRecDepth 100000 in
set_option maxHeartbeats 3200000 in
theorem st_Dn (b : UInt8) (h : b ≠ 60) (w : World) :
    Calls Try.prog 41 #[stV ⟨13, [], [], false⟩, .int .u8 (b.toNat : Int)] w fun e w' => e = .returned (stV ⟨12, [], [], false⟩) ∧ Below w.heap.size w w' := by
  have hval : stValid ⟨13, [], [], false⟩ = true := val_plain (by omega)
  have hb60 : ((b.toNat : Int) == 60) = false := bneN (n := 60) 60 rfl h
  have hbm := bneM (n := 60) 60 rfl h
  have CV := Lib.hid (fun W => (by have h := impl_StateValid ⟨13, [], [], false⟩ W (by first | exact hTl | (simp; done)) (by first | exact hAl | (simp; done)); rw [hval] at h; exact h : Calls Try.prog 69 #[stV ⟨13, [], [], false⟩] W fun e w' => e = .returned (.bool true) ∧ Below W.heap.size W w'))
  obtain ⟨⟨p0, p1, p2⟩, bx⟩ := three_new w (.cells #[.int .i64 13, .string (mkS []), .string (mkS []), .bool false] 57 (0, 0)) (.cells #[.int .i64 0, .string ⟨#[]⟩, .string ⟨#[]⟩, .bool false] 57 (0, 0)) (.cells #[.int .i64 15, .string ⟨#[]⟩, .string ⟨#[]⟩, .bool false] 57 (0, 0))
  rw [st_agg] at CV ⊢
  have P0 := Lib.hid p0; have P1 := Lib.hid p1; have P2 := Lib.hid p2; have BX := Lib.hid bx
  clear p0 p1 p2 bx hval h
  go_enter Try.func41, Try.ntmps41
  go_wp2_with fail
  refine (CV.out _).mono ?_
  rintro e w1 ⟨rfl, hb1⟩
  have q0 := (hb1.block _ (bld_ltS P0.out)).trans P0.out
  have q1 := (hb1.block _ (bld_ltS P1.out)).trans P1.out
  have BW := Lib.hid (BX.out.trans (hb1.mono BX.out.size))
  have x0 : w1.cell? ⟨w.heap.size, 0, none⟩ = some (.int .i64 13) := by rw [cell_of_row w1 _ _ _ _ _ q0]; rfl
  have x1 : w1.cell? ⟨w.heap.size, 1, none⟩ = some (.string (mkS [])) := by rw [cell_of_row w1 _ _ _ _ _ q0]; rfl
  have x2 : w1.cell? ⟨w.heap.size, 2, none⟩ = some (.string (mkS [])) := by rw [cell_of_row w1 _ _ _ _ _ q0]; rfl
  have x3 : w1.cell? ⟨w.heap.size, 3, none⟩ = some (.bool false) := by rw [cell_of_row w1 _ _ _ _ _ q0]; rfl
  have u0 : w1.cell? ⟨w.heap.size + 1, 0, none⟩ = some (.int .i64 0) := by rw [cell_of_row w1 _ _ _ _ _ q1]; rfl
  have u1 : w1.cell? ⟨w.heap.size + 1, 1, none⟩ = some (.string ⟨#[]⟩) := by rw [cell_of_row w1 _ _ _ _ _ q1]; rfl
  have u2 : w1.cell? ⟨w.heap.size + 1, 2, none⟩ = some (.string ⟨#[]⟩) := by rw [cell_of_row w1 _ _ _ _ _ q1]; rfl
  have u3 : w1.cell? ⟨w.heap.size + 1, 3, none⟩ = some (.bool false) := by rw [cell_of_row w1 _ _ _ _ _ q1]; rfl
  have f0 := row_frozen q0 0
  have f1 := row_frozen q0 1
  have f2 := row_frozen q0 2
  have f3 := row_frozen q0 3
  have g0 := row_frozen q1 0
  have g1 := row_frozen q1 1
  have g2 := row_frozen q1 2
  have g3 := row_frozen q1 3
  have Q0 := Lib.hid q0; have Q1 := Lib.hid q1
  clear q0 q1 hb1 P0 P1 P2 CV
  go_wp2
  obtain ⟨⟨r0, r1, r2, r3⟩, RB⟩ := st_set Q1.out (.int .i64 12) (.string ⟨#[]⟩) (.string ⟨#[]⟩) (.bool false)
  exact bodyPost_ret (v := .agg #[.int .i64 12, .string ⟨#[]⟩, .string ⟨#[]⟩, .bool false]) (by simp [results, Try.results41, go_sem, r0, r1, r2, r3]) rfl ⟨by rfl, RB _ _ (by omega) BW.out⟩
set_option maxRecDepth 100000 in
set_option maxHeartbeats 3200000 in
theorem st_F (b : UInt8)  (w : World) :
    Calls Try.prog 41 #[stV ⟨15, [], [], false⟩, .int .u8 (b.toNat : Int)] w fun e w' => e = .returned (stV badS) ∧ Below w.heap.size w w' := by
  have hval : stValid ⟨15, [], [], false⟩ = true := val_plain (by omega)
  have CV := Lib.hid (fun W => (by have h := impl_StateValid ⟨15, [], [], false⟩ W (by first | exact hTl | (simp; done)) (by first | exact hAl | (simp; done)); rw [hval] at h; exact h : Calls Try.prog 69 #[stV ⟨15, [], [], false⟩] W fun e w' => e = .returned (.bool true) ∧ Below W.heap.size W w'))
  obtain ⟨⟨p0, p1, p2⟩, bx⟩ := three_new w (.cells #[.int .i64 15, .string (mkS []), .string (mkS []), .bool false] 57 (0, 0)) (.cells #[.int .i64 0, .string ⟨#[]⟩, .string ⟨#[]⟩, .bool false] 57 (0, 0)) (.cells #[.int .i64 15, .string ⟨#[]⟩, .string ⟨#[]⟩, .bool false] 57 (0, 0))
  rw [st_agg] at CV ⊢
  have P0 := Lib.hid p0; have P1 := Lib.hid p1; have P2 := Lib.hid p2; have BX := Lib.hid bx
  clear p0 p1 p2 bx hval 
  go_enter Try.func41, Try.ntmps41
  go_wp2_with fail
  refine (CV.out _).mono ?_
  rintro e w1 ⟨rfl, hb1⟩
  have q0 := (hb1.block _ (bld_ltS P0.out)).trans P0.out
  have q1 := (hb1.block _ (bld_ltS P1.out)).trans P1.out
  have q2 := (hb1.block _ (bld_ltS P2.out)).trans P2.out
  have BW := Lib.hid (BX.out.trans (hb1.mono BX.out.size))
  have x0 : w1.cell? ⟨w.heap.size, 0, none⟩ = some (.int .i64 15) := by rw [cell_of_row w1 _ _ _ _ _ q0]; rfl
  have x1 : w1.cell? ⟨w.heap.size, 1, none⟩ = some (.string (mkS [])) := by rw [cell_of_row w1 _ _ _ _ _ q0]; rfl
  have x2 : w1.cell? ⟨w.heap.size, 2, none⟩ = some (.string (mkS [])) := by rw [cell_of_row w1 _ _ _ _ _ q0]; rfl
  have x3 : w1.cell? ⟨w.heap.size, 3, none⟩ = some (.bool false) := by rw [cell_of_row w1 _ _ _ _ _ q0]; rfl
  have u0 : w1.cell? ⟨w.heap.size + 1, 0, none⟩ = some (.int .i64 0) := by rw [cell_of_row w1 _ _ _ _ _ q1]; rfl
  have u1 : w1.cell? ⟨w.heap.size + 1, 1, none⟩ = some (.string ⟨#[]⟩) := by rw [cell_of_row w1 _ _ _ _ _ q1]; rfl
  have u2 : w1.cell? ⟨w.heap.size + 1, 2, none⟩ = some (.string ⟨#[]⟩) := by rw [cell_of_row w1 _ _ _ _ _ q1]; rfl
  have u3 : w1.cell? ⟨w.heap.size + 1, 3, none⟩ = some (.bool false) := by rw [cell_of_row w1 _ _ _ _ _ q1]; rfl
  have t0 : w1.cell? ⟨w.heap.size + 1 + 1, 0, none⟩ = some (.int .i64 15) := by rw [cell_of_row w1 _ _ _ _ _ q2]; rfl
  have t1 : w1.cell? ⟨w.heap.size + 1 + 1, 1, none⟩ = some (.string ⟨#[]⟩) := by rw [cell_of_row w1 _ _ _ _ _ q2]; rfl
  have t2 : w1.cell? ⟨w.heap.size + 1 + 1, 2, none⟩ = some (.string ⟨#[]⟩) := by rw [cell_of_row w1 _ _ _ _ _ q2]; rfl
  have t3 : w1.cell? ⟨w.heap.size + 1 + 1, 3, none⟩ = some (.bool false) := by rw [cell_of_row w1 _ _ _ _ _ q2]; rfl
  have f0 := row_frozen q0 0
  have f1 := row_frozen q0 1
  have f2 := row_frozen q0 2
  have f3 := row_frozen q0 3
  have g0 := row_frozen q1 0
  have g1 := row_frozen q1 1
  have g2 := row_frozen q1 2
  have g3 := row_frozen q1 3
  have Q0 := Lib.hid q0; have Q1 := Lib.hid q1
  clear q0 q1 q2 hb1 P0 P1 P2 CV
  go_wp2
  obtain ⟨⟨r0, r1, r2, r3⟩, RB⟩ := st_set Q1.out (.int .i64 15) (.string ⟨#[]⟩) (.string ⟨#[]⟩) (.bool false)
  exact bodyPost_ret (v := .agg #[.int .i64 15, .string ⟨#[]⟩, .string ⟨#[]⟩, .bool false]) (by simp [results, Try.results41, go_sem, r0, r1, r2, r3]) rfl ⟨by rfl, RB _ _ (by omega) BW.out⟩
set_option maxRecDepth 100000 in
set_option maxHeartbeats 3200000 in
theorem st_5d (T A : List UInt8) (b : UInt8) (hT : nameB T = true) (hA : nameB A = true) (h : b = 34) (w : World) :
    Calls Try.prog 41 #[stV ⟨5, T, A, false⟩, .int .u8 (b.toNat : Int)] w fun e w' => e = .returned (stV ⟨6, T, A, false⟩) ∧ Below w.heap.size w w' := by
  have hTl : T.length ≤ 1000 := by have := nameB_len hT; omega
  have hAl : A.length ≤ 1000 := by have := nameB_len hA; omega
  have hval : stValid ⟨5, T, A, false⟩ = true := val_attr (.inl ⟨.inr rfl, rfl⟩) hT hA
  have hb34 : ((b.toNat : Int) == 34) = true := beqN (n := 34) 34 rfl h
  have CV := Lib.hid (fun W => (by have h := impl_StateValid ⟨5, T, A, false⟩ W (by first | exact hTl | (simp; done)) (by first | exact hAl | (simp; done)); rw [hval] at h; exact h : Calls Try.prog 69 #[stV ⟨5, T, A, false⟩] W fun e w' => e = .returned (.bool true) ∧ Below W.heap.size W w'))
  obtain ⟨⟨p0, p1, p2⟩, bx⟩ := three_new w (.cells #[.int .i64 5, .string (mkS T), .string (mkS A), .bool false] 57 (0, 0)) (.cells #[.int .i64 0, .string ⟨#[]⟩, .string ⟨#[]⟩, .bool false] 57 (0, 0)) (.cells #[.int .i64 15, .string ⟨#[]⟩, .string ⟨#[]⟩, .bool false] 57 (0, 0))
  rw [st_agg] at CV ⊢
  have P0 := Lib.hid p0; have P1 := Lib.hid p1; have P2 := Lib.hid p2; have BX := Lib.hid bx
  clear p0 p1 p2 bx hval hT hA hTl hAl h
  go_enter Try.func41, Try.ntmps41
  go_wp2_with fail
  refine (CV.out _).mono ?_
  rintro e w1 ⟨rfl, hb1⟩
  have q0 := (hb1.block _ (bld_ltS P0.out)).trans P0.out
  have q1 := (hb1.block _ (bld_ltS P1.out)).trans P1.out
  have BW := Lib.hid (BX.out.trans (hb1.mono BX.out.size))
  have x0 : w1.cell? ⟨w.heap.size, 0, none⟩ = some (.int .i64 5) := by rw [cell_of_row w1 _ _ _ _ _ q0]; rfl
  have x1 : w1.cell? ⟨w.heap.size, 1, none⟩ = some (.string (mkS T)) := by rw [cell_of_row w1 _ _ _ _ _ q0]; rfl
  have x2 : w1.cell? ⟨w.heap.size, 2, none⟩ = some (.string (mkS A)) := by rw [cell_of_row w1 _ _ _ _ _ q0]; rfl
  have x3 : w1.cell? ⟨w.heap.size, 3, none⟩ = some (.bool false) := by rw [cell_of_row w1 _ _ _ _ _ q0]; rfl
  have u0 : w1.cell? ⟨w.heap.size + 1, 0, none⟩ = some (.int .i64 0) := by rw [cell_of_row w1 _ _ _ _ _ q1]; rfl
  have u1 : w1.cell? ⟨w.heap.size + 1, 1, none⟩ = some (.string ⟨#[]⟩) := by rw [cell_of_row w1 _ _ _ _ _ q1]; rfl
  have u2 : w1.cell? ⟨w.heap.size + 1, 2, none⟩ = some (.string ⟨#[]⟩) := by rw [cell_of_row w1 _ _ _ _ _ q1]; rfl
  have u3 : w1.cell? ⟨w.heap.size + 1, 3, none⟩ = some (.bool false) := by rw [cell_of_row w1 _ _ _ _ _ q1]; rfl
  have f0 := row_frozen q0 0
  have f1 := row_frozen q0 1
  have f2 := row_frozen q0 2
  have f3 := row_frozen q0 3
  have g0 := row_frozen q1 0
  have g1 := row_frozen q1 1
  have g2 := row_frozen q1 2
  have g3 := row_frozen q1 3
  have Q0 := Lib.hid q0; have Q1 := Lib.hid q1
  clear q0 q1 hb1 P0 P1 P2 CV
  have S0 : Hid ((w1.setCell ⟨w.heap.size, 0, none⟩ (.int .i64 6)).heap[w.heap.size + 1]? = _) := (Below.heap_setCell _ _ _ _ (by simp)).trans Q1.out
  have BS0 := Lib.hid (BW.out.setCell (p := ⟨w.heap.size, 0, none⟩) (Nat.le_refl _) (.int .i64 6))
  go_wp2
  obtain ⟨⟨r0, r1, r2, r3⟩, RB⟩ := st_set S0.out (.int .i64 6) (.string (mkS T)) (.string (mkS A)) (.bool false)
  exact bodyPost_ret (v := .agg #[.int .i64 6, .string (mkS T), .string (mkS A), .bool false]) (by simp [results, Try.results41, go_sem, r0, r1, r2, r3]) rfl ⟨by rfl, RB _ _ (by omega) BS0.out⟩
set_option maxRecDepth 100000 in
set_option maxHeartbeats 3200000 in
theorem st_5s (T A : List UInt8) (b : UInt8) (hT : nameB T = true) (hA : nameB A = true) (h : b = 39) (w : World) :
    Calls Try.prog 41 #[stV ⟨5, T, A, false⟩, .int .u8 (b.toNat : Int)] w fun e w' => e = .returned (stV ⟨7, T, A, false⟩) ∧ Below w.heap.size w w' := by
  have hTl : T.length ≤ 1000 := by have := nameB_len hT; omega
  have hAl : A.length ≤ 1000 := by have := nameB_len hA; omega
  have hval : stValid ⟨5, T, A, false⟩ = true := val_attr (.inl ⟨.inr rfl, rfl⟩) hT hA
  have hb34 : ((b.toNat : Int) == 34) = false := bneN (n := 34) 34 rfl (by subst h; decide)
  have hb39 : ((b.toNat : Int) == 39) = true := beqN (n := 39) 39 rfl h
  have CV := Lib.hid (fun W => (by have h := impl_StateValid ⟨5, T, A, false⟩ W (by first | exact hTl | (simp; done)) (by first | exact hAl | (simp; done)); rw [hval] at h; exact h : Calls Try.prog 69 #[stV ⟨5, T, A, false⟩] W fun e w' => e = .returned (.bool true) ∧ Below W.heap.size W w'))
  obtain ⟨⟨p0, p1, p2⟩, bx⟩ := three_new w (.cells #[.int .i64 5, .string (mkS T), .string (mkS A), .bool false] 57 (0, 0)) (.cells #[.int .i64 0, .string ⟨#[]⟩, .string ⟨#[]⟩, .bool false] 57 (0, 0)) (.cells #[.int .i64 15, .string ⟨#[]⟩, .string ⟨#[]⟩, .bool false] 57 (0, 0))
  rw [st_agg] at CV ⊢
  have P0 := Lib.hid p0; have P1 := Lib.hid p1; have P2 := Lib.hid p2; have BX := Lib.hid bx
  clear p0 p1 p2 bx hval hT hA hTl hAl h
  go_enter Try.func41, Try.ntmps41
  go_wp2_with fail
  refine (CV.out _).mono ?_
  rintro e w1 ⟨rfl, hb1⟩
  have q0 := (hb1.block _ (bld_ltS P0.out)).trans P0.out
  have q1 := (hb1.block _ (bld_ltS P1.out)).trans P1.out
  have BW := Lib.hid (BX.out.trans (hb1.mono BX.out.size))
  have x0 : w1.cell? ⟨w.heap.size, 0, none⟩ = some (.int .i64 5) := by rw [cell_of_row w1 _ _ _ _ _ q0]; rfl
  have x1 : w1.cell? ⟨w.heap.size, 1, none⟩ = some (.string (mkS T)) := by rw [cell_of_row w1 _ _ _ _ _ q0]; rfl
  have x2 : w1.cell? ⟨w.heap.size, 2, none⟩ = some (.string (mkS A)) := by rw [cell_of_row w1 _ _ _ _ _ q0]; rfl
  have x3 : w1.cell? ⟨w.heap.size, 3, none⟩ = some (.bool false) := by rw [cell_of_row w1 _ _ _ _ _ q0]; rfl
  have u0 : w1.cell? ⟨w.heap.size + 1, 0, none⟩ = some (.int .i64 0) := by rw [cell_of_row w1 _ _ _ _ _ q1]; rfl
  have u1 : w1.cell? ⟨w.heap.size + 1, 1, none⟩ = some (.string ⟨#[]⟩) := by rw [cell_of_row w1 _ _ _ _ _ q1]; rfl
  have u2 : w1.cell? ⟨w.heap.size + 1, 2, none⟩ = some (.string ⟨#[]⟩) := by rw [cell_of_row w1 _ _ _ _ _ q1]; rfl
  have u3 : w1.cell? ⟨w.heap.size + 1, 3, none⟩ = some (.bool false) := by rw [cell_of_row w1 _ _ _ _ _ q1]; rfl
  have f0 := row_frozen q0 0
  have f1 := row_frozen q0 1
  have f2 := row_frozen q0 2
  have f3 := row_frozen q0 3
  have g0 := row_frozen q1 0
  have g1 := row_frozen q1 1
  have g2 := row_frozen q1 2
  have g3 := row_frozen q1 3
  have Q0 := Lib.hid q0; have Q1 := Lib.hid q1
  clear q0 q1 hb1 P0 P1 P2 CV
  have S0 : Hid ((w1.setCell ⟨w.heap.size, 0, none⟩ (.int .i64 7)).heap[w.heap.size + 1]? = _) := (Below.heap_setCell _ _ _ _ (by simp)).trans Q1.out
  have BS0 := Lib.hid (BW.out.setCell (p := ⟨w.heap.size, 0, none⟩) (Nat.le_refl _) (.int .i64 7))
  go_wp2
  obtain ⟨⟨r0, r1, r2, r3⟩, RB⟩ := st_set S0.out (.int .i64 7) (.string (mkS T)) (.string (mkS A)) (.bool false)
  exact bodyPost_ret (v := .agg #[.int .i64 7, .string (mkS T), .string (mkS A), .bool false]) (by simp [results, Try.results41, go_sem, r0, r1, r2, r3]) rfl ⟨by rfl, RB _ _ (by omega) BS0.out⟩
set_option maxRecDepth 100000 in
set_option maxHeartbeats 3200000 in
theorem st_5b (T A : List UInt8) (b : UInt8) (hT : nameB T = true) (hA : nameB A = true) (h1 : b ≠ 34) (h2 : b ≠ 39) (h : bareB b = true) (w : World) :
    Calls Try.prog 41 #[stV ⟨5, T, A, false⟩, .int .u8 (b.toNat : Int)] w fun e w' => e = .returned (stV ⟨8, T, A, true⟩) ∧ Below w.heap.size w w' := by
  have hTl : T.length ≤ 1000 := by have := nameB_len hT; omega
  have hAl : A.length ≤ 1000 := by have := nameB_len hA; omega
  have hval : stValid ⟨5, T, A, false⟩ = true := val_attr (.inl ⟨.inr rfl, rfl⟩) hT hA
  have hb34 : ((b.toNat : Int) == 34) = false := bneN (n := 34) 34 rfl h1
  have hb39 : ((b.toNat : Int) == 39) = false := bneN (n := 39) 39 rfl h2
  have CB := Lib.hid (fun W => (h ▸ impl_bareByte b W : Calls Try.prog 72 #[.int .u8 (b.toNat : Int)] W fun e w' => e = .returned (.bool true) ∧ W = w'))
  have CV := Lib.hid (fun W => (by have h := impl_StateValid ⟨5, T, A, false⟩ W (by first | exact hTl | (simp; done)) (by first | exact hAl | (simp; done)); rw [hval] at h; exact h : Calls Try.prog 69 #[stV ⟨5, T, A, false⟩] W fun e w' => e = .returned (.bool true) ∧ Below W.heap.size W w'))
  obtain ⟨⟨p0, p1, p2⟩, bx⟩ := three_new w (.cells #[.int .i64 5, .string (mkS T), .string (mkS A), .bool false] 57 (0, 0)) (.cells #[.int .i64 0, .string ⟨#[]⟩, .string ⟨#[]⟩, .bool false] 57 (0, 0)) (.cells #[.int .i64 15, .string ⟨#[]⟩, .string ⟨#[]⟩, .bool false] 57 (0, 0))
  rw [st_agg] at CV ⊢
  have P0 := Lib.hid p0; have P1 := Lib.hid p1; have P2 := Lib.hid p2; have BX := Lib.hid bx
  clear p0 p1 p2 bx hval hT hA hTl hAl h h1 h2
  go_enter Try.func41, Try.ntmps41
  go_wp2_with fail
  refine (CV.out _).mono ?_
  rintro e w1 ⟨rfl, hb1⟩
  have q0 := (hb1.block _ (bld_ltS P0.out)).trans P0.out
  have q1 := (hb1.block _ (bld_ltS P1.out)).trans P1.out
  have BW := Lib.hid (BX.out.trans (hb1.mono BX.out.size))
  have x0 : w1.cell? ⟨w.heap.size, 0, none⟩ = some (.int .i64 5) := by rw [cell_of_row w1 _ _ _ _ _ q0]; rfl
  have x1 : w1.cell? ⟨w.heap.size, 1, none⟩ = some (.string (mkS T)) := by rw [cell_of_row w1 _ _ _ _ _ q0]; rfl
  have x2 : w1.cell? ⟨w.heap.size, 2, none⟩ = some (.string (mkS A)) := by rw [cell_of_row w1 _ _ _ _ _ q0]; rfl
  have x3 : w1.cell? ⟨w.heap.size, 3, none⟩ = some (.bool false) := by rw [cell_of_row w1 _ _ _ _ _ q0]; rfl
  have u0 : w1.cell? ⟨w.heap.size + 1, 0, none⟩ = some (.int .i64 0) := by rw [cell_of_row w1 _ _ _ _ _ q1]; rfl
  have u1 : w1.cell? ⟨w.heap.size + 1, 1, none⟩ = some (.string ⟨#[]⟩) := by rw [cell_of_row w1 _ _ _ _ _ q1]; rfl
  have u2 : w1.cell? ⟨w.heap.size + 1, 2, none⟩ = some (.string ⟨#[]⟩) := by rw [cell_of_row w1 _ _ _ _ _ q1]; rfl
  have u3 : w1.cell? ⟨w.heap.size + 1, 3, none⟩ = some (.bool false) := by rw [cell_of_row w1 _ _ _ _ _ q1]; rfl
  have f0 := row_frozen q0 0
  have f1 := row_frozen q0 1
  have f2 := row_frozen q0 2
  have f3 := row_frozen q0 3
  have g0 := row_frozen q1 0
  have g1 := row_frozen q1 1
  have g2 := row_frozen q1 2
  have g3 := row_frozen q1 3
  have Q0 := Lib.hid q0; have Q1 := Lib.hid q1
  clear q0 q1 hb1 P0 P1 P2 CV
  have S0 : Hid ((w1.setCell ⟨w.heap.size, 0, none⟩ (.int .i64 8)).heap[w.heap.size + 1]? = _) := (Below.heap_setCell _ _ _ _ (by simp)).trans Q1.out
  have BS0 := Lib.hid (BW.out.setCell (p := ⟨w.heap.size, 0, none⟩) (Nat.le_refl _) (.int .i64 8))
  have S1 : Hid (((w1.setCell ⟨w.heap.size, 0, none⟩ (.int .i64 8)).setCell ⟨w.heap.size, 3, none⟩ (.bool true)).heap[w.heap.size + 1]? = _) := (Below.heap_setCell _ _ _ _ (by simp)).trans S0.out
  have BS1 := Lib.hid (BS0.out.setCell (p := ⟨w.heap.size, 3, none⟩) (Nat.le_refl _) (.bool true))
  go_wp2_with (first | (go_at_call 72; refine (CB.out _).mono ?_; rintro e w2 ⟨rfl, rfl⟩))
  obtain ⟨⟨r0, r1, r2, r3⟩, RB⟩ := st_set S1.out (.int .i64 8) (.string (mkS T)) (.string (mkS A)) (.bool true)
  exact bodyPost_ret (v := .agg #[.int .i64 8, .string (mkS T), .string (mkS A), .bool true]) (by simp [results, Try.results41, go_sem, r0, r1, r2, r3]) rfl ⟨by rfl, RB _ _ (by omega) BS1.out⟩
set_option maxRecDepth 100000 in
set_option maxHeartbeats 3200000 in
theorem st_5n (T A : List UInt8) (b : UInt8) (hT : nameB T = true) (hA : nameB A = true) (h1 : b ≠ 34) (h2 : b ≠ 39) (h : bareB b = false) (w : World) :
    Calls Try.prog 41 #[stV ⟨5, T, A, false⟩, .int .u8 (b.toNat : Int)] w fun e w' => e = .returned (stV badS) ∧ Below w.heap.size w w' := by
  have hTl : T.length ≤ 1000 := by have := nameB_len hT; omega
  have hAl : A.length ≤ 1000 := by have := nameB_len hA; omega
  have hval : stValid ⟨5, T, A, false⟩ = true := val_attr (.inl ⟨.inr rfl, rfl⟩) hT hA
  have hb34 : ((b.toNat : Int) == 34) = false := bneN (n := 34) 34 rfl h1
  have hb39 : ((b.toNat : Int) == 39) = false := bneN (n := 39) 39 rfl h2
  have CB := Lib.hid (fun W => (h ▸ impl_bareByte b W : Calls Try.prog 72 #[.int .u8 (b.toNat : Int)] W fun e w' => e = .returned (.bool false) ∧ W = w'))
  have CV := Lib.hid (fun W => (by have h := impl_StateValid ⟨5, T, A, false⟩ W (by first | exact hTl | (simp; done)) (by first | exact hAl | (simp; done)); rw [hval] at h; exact h : Calls Try.prog 69 #[stV ⟨5, T, A, false⟩] W fun e w' => e = .returned (.bool true) ∧ Below W.heap.size W w'))
  obtain ⟨⟨p0, p1, p2⟩, bx⟩ := three_new w (.cells #[.int .i64 5, .string (mkS T), .string (mkS A), .bool false] 57 (0, 0)) (.cells #[.int .i64 0, .string ⟨#[]⟩, .string ⟨#[]⟩, .bool false] 57 (0, 0)) (.cells #[.int .i64 15, .string ⟨#[]⟩, .string ⟨#[]⟩, .bool false] 57 (0, 0))
  rw [st_agg] at CV ⊢
  have P0 := Lib.hid p0; have P1 := Lib.hid p1; have P2 := Lib.hid p2; have BX := Lib.hid bx
  clear p0 p1 p2 bx hval hT hA hTl hAl h h1 h2
  go_enter Try.func41, Try.ntmps41
  go_wp2_with fail
  refine (CV.out _).mono ?_
  rintro e w1 ⟨rfl, hb1⟩
  have q0 := (hb1.block _ (bld_ltS P0.out)).trans P0.out
  have q1 := (hb1.block _ (bld_ltS P1.out)).trans P1.out
  have q2 := (hb1.block _ (bld_ltS P2.out)).trans P2.out
  have BW := Lib.hid (BX.out.trans (hb1.mono BX.out.size))
  have x0 : w1.cell? ⟨w.heap.size, 0, none⟩ = some (.int .i64 5) := by rw [cell_of_row w1 _ _ _ _ _ q0]; rfl
  have x1 : w1.cell? ⟨w.heap.size, 1, none⟩ = some (.string (mkS T)) := by rw [cell_of_row w1 _ _ _ _ _ q0]; rfl
  have x2 : w1.cell? ⟨w.heap.size, 2, none⟩ = some (.string (mkS A)) := by rw [cell_of_row w1 _ _ _ _ _ q0]; rfl
  have x3 : w1.cell? ⟨w.heap.size, 3, none⟩ = some (.bool false) := by rw [cell_of_row w1 _ _ _ _ _ q0]; rfl
  have u0 : w1.cell? ⟨w.heap.size + 1, 0, none⟩ = some (.int .i64 0) := by rw [cell_of_row w1 _ _ _ _ _ q1]; rfl
  have u1 : w1.cell? ⟨w.heap.size + 1, 1, none⟩ = some (.string ⟨#[]⟩) := by rw [cell_of_row w1 _ _ _ _ _ q1]; rfl
  have u2 : w1.cell? ⟨w.heap.size + 1, 2, none⟩ = some (.string ⟨#[]⟩) := by rw [cell_of_row w1 _ _ _ _ _ q1]; rfl
  have u3 : w1.cell? ⟨w.heap.size + 1, 3, none⟩ = some (.bool false) := by rw [cell_of_row w1 _ _ _ _ _ q1]; rfl
  have t0 : w1.cell? ⟨w.heap.size + 1 + 1, 0, none⟩ = some (.int .i64 15) := by rw [cell_of_row w1 _ _ _ _ _ q2]; rfl
  have t1 : w1.cell? ⟨w.heap.size + 1 + 1, 1, none⟩ = some (.string ⟨#[]⟩) := by rw [cell_of_row w1 _ _ _ _ _ q2]; rfl
  have t2 : w1.cell? ⟨w.heap.size + 1 + 1, 2, none⟩ = some (.string ⟨#[]⟩) := by rw [cell_of_row w1 _ _ _ _ _ q2]; rfl
  have t3 : w1.cell? ⟨w.heap.size + 1 + 1, 3, none⟩ = some (.bool false) := by rw [cell_of_row w1 _ _ _ _ _ q2]; rfl
  have f0 := row_frozen q0 0
  have f1 := row_frozen q0 1
  have f2 := row_frozen q0 2
  have f3 := row_frozen q0 3
  have g0 := row_frozen q1 0
  have g1 := row_frozen q1 1
  have g2 := row_frozen q1 2
  have g3 := row_frozen q1 3
  have Q0 := Lib.hid q0; have Q1 := Lib.hid q1
  clear q0 q1 q2 hb1 P0 P1 P2 CV
  go_wp2_with (first | (go_at_call 72; refine (CB.out _).mono ?_; rintro e w2 ⟨rfl, rfl⟩))
  obtain ⟨⟨r0, r1, r2, r3⟩, RB⟩ := st_set Q1.out (.int .i64 15) (.string ⟨#[]⟩) (.string ⟨#[]⟩) (.bool false)
  exact bodyPost_ret (v := .agg #[.int .i64 15, .string ⟨#[]⟩, .string ⟨#[]⟩, .bool false]) (by simp [results, Try.results41, go_sem, r0, r1, r2, r3]) rfl ⟨by rfl, RB _ _ (by omega) BW.out⟩
set_option maxRecDepth 100000 in
set_option maxHeartbeats 3200000 in
theorem st_6q (T A : List UInt8) (EE : Bool) (b : UInt8) (hT : nameB T = true) (hA : nameB A = true) (h : b = 34) (w : World) :
    Calls Try.prog 41 #[stV ⟨6, T, A, EE⟩, .int .u8 (b.toNat : Int)] w fun e w' => e = .returned (stV ⟨3, T, [], false⟩) ∧ Below w.heap.size w w' := by
  have hTl : T.length ≤ 1000 := by have := nameB_len hT; omega
  have hAl : A.length ≤ 1000 := by have := nameB_len hA; omega
  have hval : stValid ⟨6, T, A, EE⟩ = true := val_attr (.inr (.inl (.inl rfl))) hT hA
  have hb34 : ((b.toNat : Int) == 34) = true := beqN (n := 34) 34 rfl h
  have CV := Lib.hid (fun W => (by have h := impl_StateValid ⟨6, T, A, EE⟩ W (by first | exact hTl | (simp; done)) (by first | exact hAl | (simp; done)); rw [hval] at h; exact h : Calls Try.prog 69 #[stV ⟨6, T, A, EE⟩] W fun e w' => e = .returned (.bool true) ∧ Below W.heap.size W w'))
  obtain ⟨⟨p0, p1, p2⟩, bx⟩ := three_new w (.cells #[.int .i64 6, .string (mkS T), .string (mkS A), .bool EE] 57 (0, 0)) (.cells #[.int .i64 0, .string ⟨#[]⟩, .string ⟨#[]⟩, .bool false] 57 (0, 0)) (.cells #[.int .i64 15, .string ⟨#[]⟩, .string ⟨#[]⟩, .bool false] 57 (0, 0))
  rw [st_agg] at CV ⊢
  have P0 := Lib.hid p0; have P1 := Lib.hid p1; have P2 := Lib.hid p2; have BX := Lib.hid bx
  clear p0 p1 p2 bx hval hT hA hTl hAl h
  go_enter Try.func41, Try.ntmps41
  go_wp2_with fail
  refine (CV.out _).mono ?_
  rintro e w1 ⟨rfl, hb1⟩
  have q0 := (hb1.block _ (bld_ltS P0.out)).trans P0.out
  have q1 := (hb1.block _ (bld_ltS P1.out)).trans P1.out
  have BW := Lib.hid (BX.out.trans (hb1.mono BX.out.size))
  have x0 : w1.cell? ⟨w.heap.size, 0, none⟩ = some (.int .i64 6) := by rw [cell_of_row w1 _ _ _ _ _ q0]; rfl
  have x1 : w1.cell? ⟨w.heap.size, 1, none⟩ = some (.string (mkS T)) := by rw [cell_of_row w1 _ _ _ _ _ q0]; rfl
  have x2 : w1.cell? ⟨w.heap.size, 2, none⟩ = some (.string (mkS A)) := by rw [cell_of_row w1 _ _ _ _ _ q0]; rfl
  have x3 : w1.cell? ⟨w.heap.size, 3, none⟩ = some (.bool EE) := by rw [cell_of_row w1 _ _ _ _ _ q0]; rfl
  have u0 : w1.cell? ⟨w.heap.size + 1, 0, none⟩ = some (.int .i64 0) := by rw [cell_of_row w1 _ _ _ _ _ q1]; rfl
  have u1 : w1.cell? ⟨w.heap.size + 1, 1, none⟩ = some (.string ⟨#[]⟩) := by rw [cell_of_row w1 _ _ _ _ _ q1]; rfl
  have u2 : w1.cell? ⟨w.heap.size + 1, 2, none⟩ = some (.string ⟨#[]⟩) := by rw [cell_of_row w1 _ _ _ _ _ q1]; rfl
  have u3 : w1.cell? ⟨w.heap.size + 1, 3, none⟩ = some (.bool false) := by rw [cell_of_row w1 _ _ _ _ _ q1]; rfl
  have f0 := row_frozen q0 0
  have f1 := row_frozen q0 1
  have f2 := row_frozen q0 2
  have f3 := row_frozen q0 3
  have g0 := row_frozen q1 0
  have g1 := row_frozen q1 1
  have g2 := row_frozen q1 2
  have g3 := row_frozen q1 3
  have Q0 := Lib.hid q0; have Q1 := Lib.hid q1
  clear q0 q1 hb1 P0 P1 P2 CV
  go_wp2
  obtain ⟨⟨r0, r1, r2, r3⟩, RB⟩ := st_set Q1.out (.int .i64 3) (.string (mkS T)) (.string ⟨#[]⟩) (.bool false)
  exact bodyPost_ret (v := .agg #[.int .i64 3, .string (mkS T), .string ⟨#[]⟩, .bool false]) (by simp [results, Try.results41, go_sem, r0, r1, r2, r3]) rfl ⟨by rfl, RB _ _ (by omega) BW.out⟩
set_option maxRecDepth 100000 in
set_option maxHeartbeats 3200000 in
theorem st_6n (T A : List UInt8) (EE : Bool) (b : UInt8) (hT : nameB T = true) (hA : nameB A = true) (h : b ≠ 34) (w : World) :
    Calls Try.prog 41 #[stV ⟨6, T, A, EE⟩, .int .u8 (b.toNat : Int)] w fun e w' => e = .returned (stV ⟨6, T, A, true⟩) ∧ Below w.heap.size w w' := by
  have hTl : T.length ≤ 1000 := by have := nameB_len hT; omega
  have hAl : A.length ≤ 1000 := by have := nameB_len hA; omega
  have hval : stValid ⟨6, T, A, EE⟩ = true := val_attr (.inr (.inl (.inl rfl))) hT hA
  have hb34 : ((b.toNat : Int) == 34) = false := bneN (n := 34) 34 rfl h
  have CV := Lib.hid (fun W => (by have h := impl_StateValid ⟨6, T, A, EE⟩ W (by first | exact hTl | (simp; done)) (by first | exact hAl | (simp; done)); rw [hval] at h; exact h : Calls Try.prog 69 #[stV ⟨6, T, A, EE⟩] W fun e w' => e = .returned (.bool true) ∧ Below W.heap.size W w'))
  obtain ⟨⟨p0, p1, p2⟩, bx⟩ := three_new w (.cells #[.int .i64 6, .string (mkS T), .string (mkS A), .bool EE] 57 (0, 0)) (.cells #[.int .i64 0, .string ⟨#[]⟩, .string ⟨#[]⟩, .bool false] 57 (0, 0)) (.cells #[.int .i64 15, .string ⟨#[]⟩, .string ⟨#[]⟩, .bool false] 57 (0, 0))
  rw [st_agg] at CV ⊢
  have P0 := Lib.hid p0; have P1 := Lib.hid p1; have P2 := Lib.hid p2; have BX := Lib.hid bx
  clear p0 p1 p2 bx hval hT hA hTl hAl h
  go_enter Try.func41, Try.ntmps41
  go_wp2_with fail
  refine (CV.out _).mono ?_
  rintro e w1 ⟨rfl, hb1⟩
  have q0 := (hb1.block _ (bld_ltS P0.out)).trans P0.out
  have q1 := (hb1.block _ (bld_ltS P1.out)).trans P1.out
  have BW := Lib.hid (BX.out.trans (hb1.mono BX.out.size))
  have x0 : w1.cell? ⟨w.heap.size, 0, none⟩ = some (.int .i64 6) := by rw [cell_of_row w1 _ _ _ _ _ q0]; rfl
  have x1 : w1.cell? ⟨w.heap.size, 1, none⟩ = some (.string (mkS T)) := by rw [cell_of_row w1 _ _ _ _ _ q0]; rfl
  have x2 : w1.cell? ⟨w.heap.size, 2, none⟩ = some (.string (mkS A)) := by rw [cell_of_row w1 _ _ _ _ _ q0]; rfl
  have x3 : w1.cell? ⟨w.heap.size, 3, none⟩ = some (.bool EE) := by rw [cell_of_row w1 _ _ _ _ _ q0]; rfl
  have u0 : w1.cell? ⟨w.heap.size + 1, 0, none⟩ = some (.int .i64 0) := by rw [cell_of_row w1 _ _ _ _ _ q1]; rfl
  have u1 : w1.cell? ⟨w.heap.size + 1, 1, none⟩ = some (.string ⟨#[]⟩) := by rw [cell_of_row w1 _ _ _ _ _ q1]; rfl
  have u2 : w1.cell? ⟨w.heap.size + 1, 2, none⟩ = some (.string ⟨#[]⟩) := by rw [cell_of_row w1 _ _ _ _ _ q1]; rfl
  have u3 : w1.cell? ⟨w.heap.size + 1, 3, none⟩ = some (.bool false) := by rw [cell_of_row w1 _ _ _ _ _ q1]; rfl
  have f0 := row_frozen q0 0
  have f1 := row_frozen q0 1
  have f2 := row_frozen q0 2
  have f3 := row_frozen q0 3
  have g0 := row_frozen q1 0
  have g1 := row_frozen q1 1
  have g2 := row_frozen q1 2
  have g3 := row_frozen q1 3
  have Q0 := Lib.hid q0; have Q1 := Lib.hid q1
  clear q0 q1 hb1 P0 P1 P2 CV
  have S0 : Hid ((w1.setCell ⟨w.heap.size, 3, none⟩ (.bool true)).heap[w.heap.size + 1]? = _) := (Below.heap_setCell _ _ _ _ (by simp)).trans Q1.out
  have BS0 := Lib.hid (BW.out.setCell (p := ⟨w.heap.size, 3, none⟩) (Nat.le_refl _) (.bool true))
  go_wp2
  obtain ⟨⟨r0, r1, r2, r3⟩, RB⟩ := st_set S0.out (.int .i64 6) (.string (mkS T)) (.string (mkS A)) (.bool true)
  exact bodyPost_ret (v := .agg #[.int .i64 6, .string (mkS T), .string (mkS A), .bool true]) (by simp [results, Try.results41, go_sem, r0, r1, r2, r3]) rfl ⟨by rfl, RB _ _ (by omega) BS0.out⟩
set_option maxRecDepth 100000 in
set_option maxHeartbeats 3200000 in
theorem st_7q (T A : List UInt8) (EE : Bool) (b : UInt8) (hT : nameB T = true) (hA : nameB A = true) (h : b = 39) (w : World) :
    Calls Try.prog 41 #[stV ⟨7, T, A, EE⟩, .int .u8 (b.toNat : Int)] w fun e w' => e = .returned (stV ⟨3, T, [], false⟩) ∧ Below w.heap.size w w' := by
  have hTl : T.length ≤ 1000 := by have := nameB_len hT; omega
  have hAl : A.length ≤ 1000 := by have := nameB_len hA; omega
  have hval : stValid ⟨7, T, A, EE⟩ = true := val_attr (.inr (.inl (.inr rfl))) hT hA
  have hb39 : ((b.toNat : Int) == 39) = true := beqN (n := 39) 39 rfl h
  have CV := Lib.hid (fun W => (by have h := impl_StateValid ⟨7, T, A, EE⟩ W (by first | exact hTl | (simp; done)) (by first | exact hAl | (simp; done)); rw [hval] at h; exact h : Calls Try.prog 69 #[stV ⟨7, T, A, EE⟩] W fun e w' => e = .returned (.bool true) ∧ Below W.heap.size W w'))
  obtain ⟨⟨p0, p1, p2⟩, bx⟩ := three_new w (.cells #[.int .i64 7, .string (mkS T), .string (mkS A), .bool EE] 57 (0, 0)) (.cells #[.int .i64 0, .string ⟨#[]⟩, .string ⟨#[]⟩, .bool false] 57 (0, 0)) (.cells #[.int .i64 15, .string ⟨#[]⟩, .string ⟨#[]⟩, .bool false] 57 (0, 0))
  rw [st_agg] at CV ⊢
  have P0 := Lib.hid p0; have P1 := Lib.hid p1; have P2 := Lib.hid p2; have BX := Lib.hid bx
  clear p0 p1 p2 bx hval hT hA hTl hAl h
  go_enter Try.func41, Try.ntmps41
  go_wp2_with fail
  refine (CV.out _).mono ?_
  rintro e w1 ⟨rfl, hb1⟩
  have q0 := (hb1.block _ (bld_ltS P0.out)).trans P0.out
  have q1 := (hb1.block _ (bld_ltS P1.out)).trans P1.out
  have BW := Lib.hid (BX.out.trans (hb1.mono BX.out.size))
  have x0 : w1.cell? ⟨w.heap.size, 0, none⟩ = some (.int .i64 7) := by rw [cell_of_row w1 _ _ _ _ _ q0]; rfl
  have x1 : w1.cell? ⟨w.heap.size, 1, none⟩ = some (.string (mkS T)) := by rw [cell_of_row w1 _ _ _ _ _ q0]; rfl
  have x2 : w1.cell? ⟨w.heap.size, 2, none⟩ = some (.string (mkS A)) := by rw [cell_of_row w1 _ _ _ _ _ q0]; rfl
  have x3 : w1.cell? ⟨w.heap.size, 3, none⟩ = some (.bool EE) := by rw [cell_of_row w1 _ _ _ _ _ q0]; rfl
  have u0 : w1.cell? ⟨w.heap.size + 1, 0, none⟩ = some (.int .i64 0) := by rw [cell_of_row w1 _ _ _ _ _ q1]; rfl
  have u1 : w1.cell? ⟨w.heap.size + 1, 1, none⟩ = some (.string ⟨#[]⟩) := by rw [cell_of_row w1 _ _ _ _ _ q1]; rfl
  have u2 : w1.cell? ⟨w.heap.size + 1, 2, none⟩ = some (.string ⟨#[]⟩) := by rw [cell_of_row w1 _ _ _ _ _ q1]; rfl
  have u3 : w1.cell? ⟨w.heap.size + 1, 3, none⟩ = some (.bool false) := by rw [cell_of_row w1 _ _ _ _ _ q1]; rfl
  have f0 := row_frozen q0 0
  have f1 := row_frozen q0 1
  have f2 := row_frozen q0 2
  have f3 := row_frozen q0 3
  have g0 := row_frozen q1 0
  have g1 := row_frozen q1 1
  have g2 := row_frozen q1 2
  have g3 := row_frozen q1 3
  have Q0 := Lib.hid q0; have Q1 := Lib.hid q1
  clear q0 q1 hb1 P0 P1 P2 CV
  go_wp2
  obtain ⟨⟨r0, r1, r2, r3⟩, RB⟩ := st_set Q1.out (.int .i64 3) (.string (mkS T)) (.string ⟨#[]⟩) (.bool false)
  exact bodyPost_ret (v := .agg #[.int .i64 3, .string (mkS T), .string ⟨#[]⟩, .bool false]) (by simp [results, Try.results41, go_sem, r0, r1, r2, r3]) rfl ⟨by rfl, RB _ _ (by omega) BW.out⟩
set_option maxRecDepth 100000 in
set_option maxHeartbeats 3200000 in
theorem st_7n (T A : List UInt8) (EE : Bool) (b : UInt8) (hT : nameB T = true) (hA : nameB A = true) (h : b ≠ 39) (w : World) :
    Calls Try.prog 41 #[stV ⟨7, T, A, EE⟩, .int .u8 (b.toNat : Int)] w fun e w' => e = .returned (stV ⟨7, T, A, true⟩) ∧ Below w.heap.size w w' := by
  have hTl : T.length ≤ 1000 := by have := nameB_len hT; omega
  have hAl : A.length ≤ 1000 := by have := nameB_len hA; omega
  have hval : stValid ⟨7, T, A, EE⟩ = true := val_attr (.inr (.inl (.inr rfl))) hT hA
  have hb39 : ((b.toNat : Int) == 39) = false := bneN (n := 39) 39 rfl h
  have CV := Lib.hid (fun W => (by have h := impl_StateValid ⟨7, T, A, EE⟩ W (by first | exact hTl | (simp; done)) (by first | exact hAl | (simp; done)); rw [hval] at h; exact h : Calls Try.prog 69 #[stV ⟨7, T, A, EE⟩] W fun e w' => e = .returned (.bool true) ∧ Below W.heap.size W w'))
  obtain ⟨⟨p0, p1, p2⟩, bx⟩ := three_new w (.cells #[.int .i64 7, .string (mkS T), .string (mkS A), .bool EE] 57 (0, 0)) (.cells #[.int .i64 0, .string ⟨#[]⟩, .string ⟨#[]⟩, .bool false] 57 (0, 0)) (.cells #[.int .i64 15, .string ⟨#[]⟩, .string ⟨#[]⟩, .bool false] 57 (0, 0))
  rw [st_agg] at CV ⊢
  have P0 := Lib.hid p0; have P1 := Lib.hid p1; have P2 := Lib.hid p2; have BX := Lib.hid bx
  clear p0 p1 p2 bx hval hT hA hTl hAl h
  go_enter Try.func41, Try.ntmps41
  go_wp2_with fail
  refine (CV.out _).mono ?_
  rintro e w1 ⟨rfl, hb1⟩
  have q0 := (hb1.block _ (bld_ltS P0.out)).trans P0.out
  have q1 := (hb1.block _ (bld_ltS P1.out)).trans P1.out
  have BW := Lib.hid (BX.out.trans (hb1.mono BX.out.size))
  have x0 : w1.cell? ⟨w.heap.size, 0, none⟩ = some (.int .i64 7) := by rw [cell_of_row w1 _ _ _ _ _ q0]; rfl
  have x1 : w1.cell? ⟨w.heap.size, 1, none⟩ = some (.string (mkS T)) := by rw [cell_of_row w1 _ _ _ _ _ q0]; rfl
  have x2 : w1.cell? ⟨w.heap.size, 2, none⟩ = some (.string (mkS A)) := by rw [cell_of_row w1 _ _ _ _ _ q0]; rfl
  have x3 : w1.cell? ⟨w.heap.size, 3, none⟩ = some (.bool EE) := by rw [cell_of_row w1 _ _ _ _ _ q0]; rfl
  have u0 : w1.cell? ⟨w.heap.size + 1, 0, none⟩ = some (.int .i64 0) := by rw [cell_of_row w1 _ _ _ _ _ q1]; rfl
  have u1 : w1.cell? ⟨w.heap.size + 1, 1, none⟩ = some (.string ⟨#[]⟩) := by rw [cell_of_row w1 _ _ _ _ _ q1]; rfl
  have u2 : w1.cell? ⟨w.heap.size + 1, 2, none⟩ = some (.string ⟨#[]⟩) := by rw [cell_of_row w1 _ _ _ _ _ q1]; rfl
  have u3 : w1.cell? ⟨w.heap.size + 1, 3, none⟩ = some (.bool false) := by rw [cell_of_row w1 _ _ _ _ _ q1]; rfl
  have f0 := row_frozen q0 0
  have f1 := row_frozen q0 1
  have f2 := row_frozen q0 2
  have f3 := row_frozen q0 3
  have g0 := row_frozen q1 0
  have g1 := row_frozen q1 1
  have g2 := row_frozen q1 2
  have g3 := row_frozen q1 3
  have Q0 := Lib.hid q0; have Q1 := Lib.hid q1
  clear q0 q1 hb1 P0 P1 P2 CV
  have S0 : Hid ((w1.setCell ⟨w.heap.size, 3, none⟩ (.bool true)).heap[w.heap.size + 1]? = _) := (Below.heap_setCell _ _ _ _ (by simp)).trans Q1.out
  have BS0 := Lib.hid (BW.out.setCell (p := ⟨w.heap.size, 3, none⟩) (Nat.le_refl _) (.bool true))
  go_wp2
  obtain ⟨⟨r0, r1, r2, r3⟩, RB⟩ := st_set S0.out (.int .i64 7) (.string (mkS T)) (.string (mkS A)) (.bool true)
  exact bodyPost_ret (v := .agg #[.int .i64 7, .string (mkS T), .string (mkS A), .bool true]) (by simp [results, Try.results41, go_sem, r0, r1, r2, r3]) rfl ⟨by rfl, RB _ _ (by omega) BS0.out⟩
set_option maxRecDepth 100000 in
set_option maxHeartbeats 3200000 in
theorem st_9d (T : List UInt8) (b : UInt8) (hT : T = [] ∨ nameB T = true) (hTl : T.length ≤ 1000) (hne : T ≠ []) (h : b ≠ 62) (hl : letB b = false) (hd : digB b = true) (w : World) :
    Calls Try.prog 41 #[stV ⟨9, T, [], false⟩, .int .u8 (b.toNat : Int)] w fun e w' => e = .returned (stV (longT ⟨9, T, [], false⟩ b)) ∧ Below w.heap.size w w' := by
  have hval : stValid ⟨9, T, [], false⟩ = true := val_end hT
  have hb62 : ((b.toNat : Int) == 62) = false := bneN (n := 62) 62 rfl h
  have hem : (mkS T).toList.isEmpty = false := by rw [emp_mkS]; simpa using hne
  have CL := Lib.hid (fun W => (hl ▸ impl_isLetter b W : Calls Try.prog 70 #[.int .u8 (b.toNat : Int)] W fun e w' => e = .returned (.bool false) ∧ W = w'))
  have CD := Lib.hid (fun W => (hd ▸ impl_isDigit b W : Calls Try.prog 73 #[.int .u8 (b.toNat : Int)] W fun e w' => e = .returned (.bool true) ∧ W = w'))
  have CG := Lib.hid (fun W => longer_T ⟨9, T, [], false⟩ b W hTl)
  rw [st_agg] at CG
  obtain ⟨M2, T2, A2, E2, hlt⟩ : ∃ M2 T2 A2 E2, longT ⟨9, T, [], false⟩ b = ⟨M2, T2, A2, E2⟩ := ⟨_, _, _, _, rfl⟩
  rw [hlt, st_agg] at CG
  have CV := Lib.hid (fun W => (by have h := impl_StateValid ⟨9, T, [], false⟩ W (by first | exact hTl | (simp; done)) (by first | exact hAl | (simp; done)); rw [hval] at h; exact h : Calls Try.prog 69 #[stV ⟨9, T, [], false⟩] W fun e w' => e = .returned (.bool true) ∧ Below W.heap.size W w'))
  obtain ⟨⟨p0, p1, p2⟩, bx⟩ := three_new w (.cells #[.int .i64 9, .string (mkS T), .string (mkS []), .bool false] 57 (0, 0)) (.cells #[.int .i64 0, .string ⟨#[]⟩, .string ⟨#[]⟩, .bool false] 57 (0, 0)) (.cells #[.int .i64 15, .string ⟨#[]⟩, .string ⟨#[]⟩, .bool false] 57 (0, 0))
  rw [st_agg] at CV ⊢
  have P0 := Lib.hid p0; have P1 := Lib.hid p1; have P2 := Lib.hid p2; have BX := Lib.hid bx
  clear p0 p1 p2 bx hval hT hTl h hne hl hd
  go_enter Try.func41, Try.ntmps41
  go_wp2_with fail
  refine (CV.out _).mono ?_
  rintro e w1 ⟨rfl, hb1⟩
  have q0 := (hb1.block _ (bld_ltS P0.out)).trans P0.out
  have q1 := (hb1.block _ (bld_ltS P1.out)).trans P1.out
  have BW := Lib.hid (BX.out.trans (hb1.mono BX.out.size))
  have x0 : w1.cell? ⟨w.heap.size, 0, none⟩ = some (.int .i64 9) := by rw [cell_of_row w1 _ _ _ _ _ q0]; rfl
  have x1 : w1.cell? ⟨w.heap.size, 1, none⟩ = some (.string (mkS T)) := by rw [cell_of_row w1 _ _ _ _ _ q0]; rfl
  have x2 : w1.cell? ⟨w.heap.size, 2, none⟩ = some (.string (mkS [])) := by rw [cell_of_row w1 _ _ _ _ _ q0]; rfl
  have x3 : w1.cell? ⟨w.heap.size, 3, none⟩ = some (.bool false) := by rw [cell_of_row w1 _ _ _ _ _ q0]; rfl
  have u0 : w1.cell? ⟨w.heap.size + 1, 0, none⟩ = some (.int .i64 0) := by rw [cell_of_row w1 _ _ _ _ _ q1]; rfl
  have u1 : w1.cell? ⟨w.heap.size + 1, 1, none⟩ = some (.string ⟨#[]⟩) := by rw [cell_of_row w1 _ _ _ _ _ q1]; rfl
  have u2 : w1.cell? ⟨w.heap.size + 1, 2, none⟩ = some (.string ⟨#[]⟩) := by rw [cell_of_row w1 _ _ _ _ _ q1]; rfl
  have u3 : w1.cell? ⟨w.heap.size + 1, 3, none⟩ = some (.bool false) := by rw [cell_of_row w1 _ _ _ _ _ q1]; rfl
  have f0 := row_frozen q0 0
  have f1 := row_frozen q0 1
  have f2 := row_frozen q0 2
  have f3 := row_frozen q0 3
  have g0 := row_frozen q1 0
  have g1 := row_frozen q1 1
  have g2 := row_frozen q1 2
  have g3 := row_frozen q1 3
  have Q0 := Lib.hid q0; have Q1 := Lib.hid q1
  clear q0 q1 hb1 P0 P1 P2 CV
  go_wp2_with (first | (go_at_call 70; refine (CL.out _).mono ?_; rintro e w2 ⟨rfl, rfl⟩) | (go_at_call 73; refine (CD.out _).mono ?_; rintro e w2 ⟨rfl, rfl⟩))
  refine (CG.out _).mono ?_
  rintro e w3 ⟨rfl, hb3⟩
  have q3 := (hb3.block _ (bld_ltS Q1.out)).trans Q1.out
  have v0 : w3.cell? ⟨w.heap.size + 1, 0, none⟩ = some (.int .i64 0) := by rw [cell_of_row w3 _ _ _ _ _ q3]; rfl
  have v1 : w3.cell? ⟨w.heap.size + 1, 1, none⟩ = some (.string ⟨#[]⟩) := by rw [cell_of_row w3 _ _ _ _ _ q3]; rfl
  have v2 : w3.cell? ⟨w.heap.size + 1, 2, none⟩ = some (.string ⟨#[]⟩) := by rw [cell_of_row w3 _ _ _ _ _ q3]; rfl
  have v3 : w3.cell? ⟨w.heap.size + 1, 3, none⟩ = some (.bool false) := by rw [cell_of_row w3 _ _ _ _ _ q3]; rfl
  have k0 := row_frozen q3 0
  have k1 := row_frozen q3 1
  have k2 := row_frozen q3 2
  have k3 := row_frozen q3 3
  have Q3 := Lib.hid q3
  have BV := Lib.hid (BW.out.trans (hb3.mono BW.out.size))
  clear q3 hb3
  go_wp2
  obtain ⟨⟨r0, r1, r2, r3⟩, RB⟩ := st_set Q3.out (.int .i64 (M2 : Int)) (.string (mkS T2)) (.string (mkS A2)) (.bool E2)
  exact bodyPost_ret (v := .agg #[.int .i64 (M2 : Int), .string (mkS T2), .string (mkS A2), .bool E2]) (by simp [results, Try.results41, go_sem, r0, r1, r2, r3]) rfl ⟨by rw [hlt]; rfl, RB _ _ (by omega) BV.out⟩
set_option maxRecDepth 100000 in
set_option maxHeartbeats 3200000 in
theorem st_9m (T : List UInt8) (b : UInt8) (hT : T = [] ∨ nameB T = true) (hTl : T.length ≤ 1000) (hne : T ≠ []) (hd : digB b = false) (hl : letB b = false) (hm : b = 45) (w : World) :
    Calls Try.prog 41 #[stV ⟨9, T, [], false⟩, .int .u8 (b.toNat : Int)] w fun e w' => e = .returned (stV (longT ⟨9, T, [], false⟩ b)) ∧ Below w.heap.size w w' := by
  have hval : stValid ⟨9, T, [], false⟩ = true := val_end hT
  have hb62 : ((b.toNat : Int) == 62) = false := bneN (n := 62) 62 rfl (by subst hm; decide)
  have hem : (mkS T).toList.isEmpty = false := by rw [emp_mkS]; simpa using hne
  have CL := Lib.hid (fun W => (hl ▸ impl_isLetter b W : Calls Try.prog 70 #[.int .u8 (b.toNat : Int)] W fun e w' => e = .returned (.bool false) ∧ W = w'))
  have CD := Lib.hid (fun W => (hd ▸ impl_isDigit b W : Calls Try.prog 73 #[.int .u8 (b.toNat : Int)] W fun e w' => e = .returned (.bool false) ∧ W = w'))
  have hb45 : ((b.toNat : Int) == 45) = true := beqN (n := 45) 45 rfl hm
  have CG := Lib.hid (fun W => longer_T ⟨9, T, [], false⟩ b W hTl)
  rw [st_agg] at CG
  obtain ⟨M2, T2, A2, E2, hlt⟩ : ∃ M2 T2 A2 E2, longT ⟨9, T, [], false⟩ b = ⟨M2, T2, A2, E2⟩ := ⟨_, _, _, _, rfl⟩
  rw [hlt, st_agg] at CG
  have CV := Lib.hid (fun W => (by have h := impl_StateValid ⟨9, T, [], false⟩ W (by first | exact hTl | (simp; done)) (by first | exact hAl | (simp; done)); rw [hval] at h; exact h : Calls Try.prog 69 #[stV ⟨9, T, [], false⟩] W fun e w' => e = .returned (.bool true) ∧ Below W.heap.size W w'))
  obtain ⟨⟨p0, p1, p2⟩, bx⟩ := three_new w (.cells #[.int .i64 9, .string (mkS T), .string (mkS []), .bool false] 57 (0, 0)) (.cells #[.int .i64 0, .string ⟨#[]⟩, .string ⟨#[]⟩, .bool false] 57 (0, 0)) (.cells #[.int .i64 15, .string ⟨#[]⟩, .string ⟨#[]⟩, .bool false] 57 (0, 0))
  rw [st_agg] at CV ⊢
  have P0 := Lib.hid p0; have P1 := Lib.hid p1; have P2 := Lib.hid p2; have BX := Lib.hid bx
  clear p0 p1 p2 bx hval hT hTl hne hl hd hm
  go_enter Try.func41, Try.ntmps41
  go_wp2_with fail
  refine (CV.out _).mono ?_
  rintro e w1 ⟨rfl, hb1⟩
  have q0 := (hb1.block _ (bld_ltS P0.out)).trans P0.out
  have q1 := (hb1.block _ (bld_ltS P1.out)).trans P1.out
  have BW := Lib.hid (BX.out.trans (hb1.mono BX.out.size))
  have x0 : w1.cell? ⟨w.heap.size, 0, none⟩ = some (.int .i64 9) := by rw [cell_of_row w1 _ _ _ _ _ q0]; rfl
  have x1 : w1.cell? ⟨w.heap.size, 1, none⟩ = some (.string (mkS T)) := by rw [cell_of_row w1 _ _ _ _ _ q0]; rfl
  have x2 : w1.cell? ⟨w.heap.size, 2, none⟩ = some (.string (mkS [])) := by rw [cell_of_row w1 _ _ _ _ _ q0]; rfl
  have x3 : w1.cell? ⟨w.heap.size, 3, none⟩ = some (.bool false) := by rw [cell_of_row w1 _ _ _ _ _ q0]; rfl
  have u0 : w1.cell? ⟨w.heap.size + 1, 0, none⟩ = some (.int .i64 0) := by rw [cell_of_row w1 _ _ _ _ _ q1]; rfl
  have u1 : w1.cell? ⟨w.heap.size + 1, 1, none⟩ = some (.string ⟨#[]⟩) := by rw [cell_of_row w1 _ _ _ _ _ q1]; rfl
  have u2 : w1.cell? ⟨w.heap.size + 1, 2, none⟩ = some (.string ⟨#[]⟩) := by rw [cell_of_row w1 _ _ _ _ _ q1]; rfl
  have u3 : w1.cell? ⟨w.heap.size + 1, 3, none⟩ = some (.bool false) := by rw [cell_of_row w1 _ _ _ _ _ q1]; rfl
  have f0 := row_frozen q0 0
  have f1 := row_frozen q0 1
  have f2 := row_frozen q0 2
  have f3 := row_frozen q0 3
  have g0 := row_frozen q1 0
  have g1 := row_frozen q1 1
  have g2 := row_frozen q1 2
  have g3 := row_frozen q1 3
  have Q0 := Lib.hid q0; have Q1 := Lib.hid q1
  clear q0 q1 hb1 P0 P1 P2 CV
  go_wp2_with (first | (go_at_call 70; refine (CL.out _).mono ?_; rintro e w2 ⟨rfl, rfl⟩) | (go_at_call 73; refine (CD.out _).mono ?_; rintro e w2 ⟨rfl, rfl⟩))
  refine (CG.out _).mono ?_
  rintro e w3 ⟨rfl, hb3⟩
  have q3 := (hb3.block _ (bld_ltS Q1.out)).trans Q1.out
  have v0 : w3.cell? ⟨w.heap.size + 1, 0, none⟩ = some (.int .i64 0) := by rw [cell_of_row w3 _ _ _ _ _ q3]; rfl
  have v1 : w3.cell? ⟨w.heap.size + 1, 1, none⟩ = some (.string ⟨#[]⟩) := by rw [cell_of_row w3 _ _ _ _ _ q3]; rfl
  have v2 : w3.cell? ⟨w.heap.size + 1, 2, none⟩ = some (.string ⟨#[]⟩) := by rw [cell_of_row w3 _ _ _ _ _ q3]; rfl
  have v3 : w3.cell? ⟨w.heap.size + 1, 3, none⟩ = some (.bool false) := by rw [cell_of_row w3 _ _ _ _ _ q3]; rfl
  have k0 := row_frozen q3 0
  have k1 := row_frozen q3 1
  have k2 := row_frozen q3 2
  have k3 := row_frozen q3 3
  have Q3 := Lib.hid q3
  have BV := Lib.hid (BW.out.trans (hb3.mono BW.out.size))
  clear q3 hb3
  go_wp2
  obtain ⟨⟨r0, r1, r2, r3⟩, RB⟩ := st_set Q3.out (.int .i64 (M2 : Int)) (.string (mkS T2)) (.string (mkS A2)) (.bool E2)
  exact bodyPost_ret (v := .agg #[.int .i64 (M2 : Int), .string (mkS T2), .string (mkS A2), .bool E2]) (by simp [results, Try.results41, go_sem, r0, r1, r2, r3]) rfl ⟨by rw [hlt]; rfl, RB _ _ (by omega) BV.out⟩
set_option maxRecDepth 100000 in
set_option maxHeartbeats 3200000 in
theorem st_9e (T : List UInt8) (b : UInt8) (hT : T = [] ∨ nameB T = true) (hTl : T.length ≤ 1000) (he : T = []) (h : b = 62) (w : World) :
    Calls Try.prog 41 #[stV ⟨9, T, [], false⟩, .int .u8 (b.toNat : Int)] w fun e w' => e = .returned (stV badS) ∧ Below w.heap.size w w' := by
  have hval : stValid ⟨9, T, [], false⟩ = true := val_end hT
  have hb62 : ((b.toNat : Int) == 62) = true := beqN (n := 62) 62 rfl h
  have hem : (mkS T).toList.isEmpty = true := by rw [emp_mkS]; rw [he]; rfl
  have hl : letB b = false := by subst h; decide
  have CL := Lib.hid (fun W => (hl ▸ impl_isLetter b W : Calls Try.prog 70 #[.int .u8 (b.toNat : Int)] W fun e w' => e = .returned (.bool false) ∧ W = w'))
  have CV := Lib.hid (fun W => (by have h := impl_StateValid ⟨9, T, [], false⟩ W (by first | exact hTl | (simp; done)) (by first | exact hAl | (simp; done)); rw [hval] at h; exact h : Calls Try.prog 69 #[stV ⟨9, T, [], false⟩] W fun e w' => e = .returned (.bool true) ∧ Below W.heap.size W w'))
  obtain ⟨⟨p0, p1, p2⟩, bx⟩ := three_new w (.cells #[.int .i64 9, .string (mkS T), .string (mkS []), .bool false] 57 (0, 0)) (.cells #[.int .i64 0, .string ⟨#[]⟩, .string ⟨#[]⟩, .bool false] 57 (0, 0)) (.cells #[.int .i64 15, .string ⟨#[]⟩, .string ⟨#[]⟩, .bool false] 57 (0, 0))
  rw [st_agg] at CV ⊢
  have P0 := Lib.hid p0; have P1 := Lib.hid p1; have P2 := Lib.hid p2; have BX := Lib.hid bx
  clear p0 p1 p2 bx hval hT hTl h he hl
  go_enter Try.func41, Try.ntmps41
  go_wp2_with fail
  refine (CV.out _).mono ?_
  rintro e w1 ⟨rfl, hb1⟩
  have q0 := (hb1.block _ (bld_ltS P0.out)).trans P0.out
  have q1 := (hb1.block _ (bld_ltS P1.out)).trans P1.out
  have q2 := (hb1.block _ (bld_ltS P2.out)).trans P2.out
  have BW := Lib.hid (BX.out.trans (hb1.mono BX.out.size))
  have x0 : w1.cell? ⟨w.heap.size, 0, none⟩ = some (.int .i64 9) := by rw [cell_of_row w1 _ _ _ _ _ q0]; rfl
  have x1 : w1.cell? ⟨w.heap.size, 1, none⟩ = some (.string (mkS T)) := by rw [cell_of_row w1 _ _ _ _ _ q0]; rfl
  have x2 : w1.cell? ⟨w.heap.size, 2, none⟩ = some (.string (mkS [])) := by rw [cell_of_row w1 _ _ _ _ _ q0]; rfl
  have x3 : w1.cell? ⟨w.heap.size, 3, none⟩ = some (.bool false) := by rw [cell_of_row w1 _ _ _ _ _ q0]; rfl
  have u0 : w1.cell? ⟨w.heap.size + 1, 0, none⟩ = some (.int .i64 0) := by rw [cell_of_row w1 _ _ _ _ _ q1]; rfl
  have u1 : w1.cell? ⟨w.heap.size + 1, 1, none⟩ = some (.string ⟨#[]⟩) := by rw [cell_of_row w1 _ _ _ _ _ q1]; rfl
  have u2 : w1.cell? ⟨w.heap.size + 1, 2, none⟩ = some (.string ⟨#[]⟩) := by rw [cell_of_row w1 _ _ _ _ _ q1]; rfl
  have u3 : w1.cell? ⟨w.heap.size + 1, 3, none⟩ = some (.bool false) := by rw [cell_of_row w1 _ _ _ _ _ q1]; rfl
  have t0 : w1.cell? ⟨w.heap.size + 1 + 1, 0, none⟩ = some (.int .i64 15) := by rw [cell_of_row w1 _ _ _ _ _ q2]; rfl
  have t1 : w1.cell? ⟨w.heap.size + 1 + 1, 1, none⟩ = some (.string ⟨#[]⟩) := by rw [cell_of_row w1 _ _ _ _ _ q2]; rfl
  have t2 : w1.cell? ⟨w.heap.size + 1 + 1, 2, none⟩ = some (.string ⟨#[]⟩) := by rw [cell_of_row w1 _ _ _ _ _ q2]; rfl
  have t3 : w1.cell? ⟨w.heap.size + 1 + 1, 3, none⟩ = some (.bool false) := by rw [cell_of_row w1 _ _ _ _ _ q2]; rfl
  have f0 := row_frozen q0 0
  have f1 := row_frozen q0 1
  have f2 := row_frozen q0 2
  have f3 := row_frozen q0 3
  have g0 := row_frozen q1 0
  have g1 := row_frozen q1 1
  have g2 := row_frozen q1 2
  have g3 := row_frozen q1 3
  have Q0 := Lib.hid q0; have Q1 := Lib.hid q1
  clear q0 q1 q2 hb1 P0 P1 P2 CV
  go_wp2_with (first | (go_at_call 70; refine (CL.out _).mono ?_; rintro e w2 ⟨rfl, rfl⟩))
  obtain ⟨⟨r0, r1, r2, r3⟩, RB⟩ := st_set Q1.out (.int .i64 15) (.string ⟨#[]⟩) (.string ⟨#[]⟩) (.bool false)
  exact bodyPost_ret (v := .agg #[.int .i64 15, .string ⟨#[]⟩, .string ⟨#[]⟩, .bool false]) (by simp [results, Try.results41, go_sem, r0, r1, r2, r3]) rfl ⟨by rfl, RB _ _ (by omega) BW.out⟩
set_option maxRecDepth 100000 in
set_option maxHeartbeats 3200000 in
theorem st_9f (T : List UInt8) (b : UInt8) (hT : T = [] ∨ nameB T = true) (hTl : T.length ≤ 1000) (he : T = []) (h : b ≠ 62) (hl : letB b = false) (w : World) :
    Calls Try.prog 41 #[stV ⟨9, T, [], false⟩, .int .u8 (b.toNat : Int)] w fun e w' => e = .returned (stV badS) ∧ Below w.heap.size w w' := by
  have hval : stValid ⟨9, T, [], false⟩ = true := val_end hT
  have hb62 : ((b.toNat : Int) == 62) = false := bneN (n := 62) 62 rfl h
  have hem : (mkS T).toList.isEmpty = true := by rw [emp_mkS]; rw [he]; rfl
  have CL := Lib.hid (fun W => (hl ▸ impl_isLetter b W : Calls Try.prog 70 #[.int .u8 (b.toNat : Int)] W fun e w' => e = .returned (.bool false) ∧ W = w'))
  have CV := Lib.hid (fun W => (by have h := impl_StateValid ⟨9, T, [], false⟩ W (by first | exact hTl | (simp; done)) (by first | exact hAl | (simp; done)); rw [hval] at h; exact h : Calls Try.prog 69 #[stV ⟨9, T, [], false⟩] W fun e w' => e = .returned (.bool true) ∧ Below W.heap.size W w'))
  obtain ⟨⟨p0, p1, p2⟩, bx⟩ := three_new w (.cells #[.int .i64 9, .string (mkS T), .string (mkS []), .bool false] 57 (0, 0)) (.cells #[.int .i64 0, .string ⟨#[]⟩, .string ⟨#[]⟩, .bool false] 57 (0, 0)) (.cells #[.int .i64 15, .string ⟨#[]⟩, .string ⟨#[]⟩, .bool false] 57 (0, 0))
  rw [st_agg] at CV ⊢
  have P0 := Lib.hid p0; have P1 := Lib.hid p1; have P2 := Lib.hid p2; have BX := Lib.hid bx
  clear p0 p1 p2 bx hval hT hTl h he hl
  go_enter Try.func41, Try.ntmps41
  go_wp2_with fail
  refine (CV.out _).mono ?_
  rintro e w1 ⟨rfl, hb1⟩
  have q0 := (hb1.block _ (bld_ltS P0.out)).trans P0.out
  have q1 := (hb1.block _ (bld_ltS P1.out)).trans P1.out
  have q2 := (hb1.block _ (bld_ltS P2.out)).trans P2.out
  have BW := Lib.hid (BX.out.trans (hb1.mono BX.out.size))
  have x0 : w1.cell? ⟨w.heap.size, 0, none⟩ = some (.int .i64 9) := by rw [cell_of_row w1 _ _ _ _ _ q0]; rfl
  have x1 : w1.cell? ⟨w.heap.size, 1, none⟩ = some (.string (mkS T)) := by rw [cell_of_row w1 _ _ _ _ _ q0]; rfl
  have x2 : w1.cell? ⟨w.heap.size, 2, none⟩ = some (.string (mkS [])) := by rw [cell_of_row w1 _ _ _ _ _ q0]; rfl
  have x3 : w1.cell? ⟨w.heap.size, 3, none⟩ = some (.bool false) := by rw [cell_of_row w1 _ _ _ _ _ q0]; rfl
  have u0 : w1.cell? ⟨w.heap.size + 1, 0, none⟩ = some (.int .i64 0) := by rw [cell_of_row w1 _ _ _ _ _ q1]; rfl
  have u1 : w1.cell? ⟨w.heap.size + 1, 1, none⟩ = some (.string ⟨#[]⟩) := by rw [cell_of_row w1 _ _ _ _ _ q1]; rfl
  have u2 : w1.cell? ⟨w.heap.size + 1, 2, none⟩ = some (.string ⟨#[]⟩) := by rw [cell_of_row w1 _ _ _ _ _ q1]; rfl
  have u3 : w1.cell? ⟨w.heap.size + 1, 3, none⟩ = some (.bool false) := by rw [cell_of_row w1 _ _ _ _ _ q1]; rfl
  have t0 : w1.cell? ⟨w.heap.size + 1 + 1, 0, none⟩ = some (.int .i64 15) := by rw [cell_of_row w1 _ _ _ _ _ q2]; rfl
  have t1 : w1.cell? ⟨w.heap.size + 1 + 1, 1, none⟩ = some (.string ⟨#[]⟩) := by rw [cell_of_row w1 _ _ _ _ _ q2]; rfl
  have t2 : w1.cell? ⟨w.heap.size + 1 + 1, 2, none⟩ = some (.string ⟨#[]⟩) := by rw [cell_of_row w1 _ _ _ _ _ q2]; rfl
  have t3 : w1.cell? ⟨w.heap.size + 1 + 1, 3, none⟩ = some (.bool false) := by rw [cell_of_row w1 _ _ _ _ _ q2]; rfl
  have f0 := row_frozen q0 0
  have f1 := row_frozen q0 1
  have f2 := row_frozen q0 2
  have f3 := row_frozen q0 3
  have g0 := row_frozen q1 0
  have g1 := row_frozen q1 1
  have g2 := row_frozen q1 2
  have g3 := row_frozen q1 3
  have Q0 := Lib.hid q0; have Q1 := Lib.hid q1
  clear q0 q1 q2 hb1 P0 P1 P2 CV
  go_wp2_with (first | (go_at_call 70; refine (CL.out _).mono ?_; rintro e w2 ⟨rfl, rfl⟩))
  obtain ⟨⟨r0, r1, r2, r3⟩, RB⟩ := st_set Q1.out (.int .i64 15) (.string ⟨#[]⟩) (.string ⟨#[]⟩) (.bool false)
  exact bodyPost_ret (v := .agg #[.int .i64 15, .string ⟨#[]⟩, .string ⟨#[]⟩, .bool false]) (by simp [results, Try.results41, go_sem, r0, r1, r2, r3]) rfl ⟨by rfl, RB _ _ (by omega) BW.out⟩
set_option maxRecDepth 100000 in
set_option maxHeartbeats 3200000 in
theorem st_9n (T : List UInt8) (b : UInt8) (hT : T = [] ∨ nameB T = true) (hTl : T.length ≤ 1000) (hne : T ≠ []) (h : b ≠ 62) (hl : letB b = false) (hd : digB b = false) (hm : b ≠ 45) (w : World) :
    Calls Try.prog 41 #[stV ⟨9, T, [], false⟩, .int .u8 (b.toNat : Int)] w fun e w' => e = .returned (stV badS) ∧ Below w.heap.size w w' := by
  have hval : stValid ⟨9, T, [], false⟩ = true := val_end hT
  have hb62 : ((b.toNat : Int) == 62) = false := bneN (n := 62) 62 rfl h
  have hem : (mkS T).toList.isEmpty = false := by rw [emp_mkS]; simpa using hne
  have CL := Lib.hid (fun W => (hl ▸ impl_isLetter b W : Calls Try.prog 70 #[.int .u8 (b.toNat : Int)] W fun e w' => e = .returned (.bool false) ∧ W = w'))
  have CD := Lib.hid (fun W => (hd ▸ impl_isDigit b W : Calls Try.prog 73 #[.int .u8 (b.toNat : Int)] W fun e w' => e = .returned (.bool false) ∧ W = w'))
  have hb45 : ((b.toNat : Int) == 45) = false := bneN (n := 45) 45 rfl hm
  have CV := Lib.hid (fun W => (by have h := impl_StateValid ⟨9, T, [], false⟩ W (by first | exact hTl | (simp; done)) (by first | exact hAl | (simp; done)); rw [hval] at h; exact h : Calls Try.prog 69 #[stV ⟨9, T, [], false⟩] W fun e w' => e = .returned (.bool true) ∧ Below W.heap.size W w'))
  obtain ⟨⟨p0, p1, p2⟩, bx⟩ := three_new w (.cells #[.int .i64 9, .string (mkS T), .string (mkS []), .bool false] 57 (0, 0)) (.cells #[.int .i64 0, .string ⟨#[]⟩, .string ⟨#[]⟩, .bool false] 57 (0, 0)) (.cells #[.int .i64 15, .string ⟨#[]⟩, .string ⟨#[]⟩, .bool false] 57 (0, 0))
  rw [st_agg] at CV ⊢
  have P0 := Lib.hid p0; have P1 := Lib.hid p1; have P2 := Lib.hid p2; have BX := Lib.hid bx
  clear p0 p1 p2 bx hval hT hTl h hne hl hd hm
  go_enter Try.func41, Try.ntmps41
  go_wp2_with fail
  refine (CV.out _).mono ?_
  rintro e w1 ⟨rfl, hb1⟩
  have q0 := (hb1.block _ (bld_ltS P0.out)).trans P0.out
  have q1 := (hb1.block _ (bld_ltS P1.out)).trans P1.out
  have q2 := (hb1.block _ (bld_ltS P2.out)).trans P2.out
  have BW := Lib.hid (BX.out.trans (hb1.mono BX.out.size))
  have x0 : w1.cell? ⟨w.heap.size, 0, none⟩ = some (.int .i64 9) := by rw [cell_of_row w1 _ _ _ _ _ q0]; rfl
  have x1 : w1.cell? ⟨w.heap.size, 1, none⟩ = some (.string (mkS T)) := by rw [cell_of_row w1 _ _ _ _ _ q0]; rfl
  have x2 : w1.cell? ⟨w.heap.size, 2, none⟩ = some (.string (mkS [])) := by rw [cell_of_row w1 _ _ _ _ _ q0]; rfl
  have x3 : w1.cell? ⟨w.heap.size, 3, none⟩ = some (.bool false) := by rw [cell_of_row w1 _ _ _ _ _ q0]; rfl
  have u0 : w1.cell? ⟨w.heap.size + 1, 0, none⟩ = some (.int .i64 0) := by rw [cell_of_row w1 _ _ _ _ _ q1]; rfl
  have u1 : w1.cell? ⟨w.heap.size + 1, 1, none⟩ = some (.string ⟨#[]⟩) := by rw [cell_of_row w1 _ _ _ _ _ q1]; rfl
  have u2 : w1.cell? ⟨w.heap.size + 1, 2, none⟩ = some (.string ⟨#[]⟩) := by rw [cell_of_row w1 _ _ _ _ _ q1]; rfl
  have u3 : w1.cell? ⟨w.heap.size + 1, 3, none⟩ = some (.bool false) := by rw [cell_of_row w1 _ _ _ _ _ q1]; rfl
  have t0 : w1.cell? ⟨w.heap.size + 1 + 1, 0, none⟩ = some (.int .i64 15) := by rw [cell_of_row w1 _ _ _ _ _ q2]; rfl
  have t1 : w1.cell? ⟨w.heap.size + 1 + 1, 1, none⟩ = some (.string ⟨#[]⟩) := by rw [cell_of_row w1 _ _ _ _ _ q2]; rfl
  have t2 : w1.cell? ⟨w.heap.size + 1 + 1, 2, none⟩ = some (.string ⟨#[]⟩) := by rw [cell_of_row w1 _ _ _ _ _ q2]; rfl
  have t3 : w1.cell? ⟨w.heap.size + 1 + 1, 3, none⟩ = some (.bool false) := by rw [cell_of_row w1 _ _ _ _ _ q2]; rfl
  have f0 := row_frozen q0 0
  have f1 := row_frozen q0 1
  have f2 := row_frozen q0 2
  have f3 := row_frozen q0 3
  have g0 := row_frozen q1 0
  have g1 := row_frozen q1 1
  have g2 := row_frozen q1 2
  have g3 := row_frozen q1 3
  have Q0 := Lib.hid q0; have Q1 := Lib.hid q1
  clear q0 q1 q2 hb1 P0 P1 P2 CV
  go_wp2_with (first | (go_at_call 70; refine (CL.out _).mono ?_; rintro e w2 ⟨rfl, rfl⟩) | (go_at_call 73; refine (CD.out _).mono ?_; rintro e w2 ⟨rfl, rfl⟩))
  obtain ⟨⟨r0, r1, r2, r3⟩, RB⟩ := st_set Q1.out (.int .i64 15) (.string ⟨#[]⟩) (.string ⟨#[]⟩) (.bool false)
  exact bodyPost_ret (v := .agg #[.int .i64 15, .string ⟨#[]⟩, .string ⟨#[]⟩, .bool false]) (by simp [results, Try.results41, go_sem, r0, r1, r2, r3]) rfl ⟨by rfl, RB _ _ (by omega) BW.out⟩
set_option maxRecDepth 100000 in
set_option maxHeartbeats 3200000 in
theorem st_tag2 (T : List UInt8) (b : UInt8) (hT : nameB T = true)  (w : World) :
    Calls Try.prog 41 #[stV ⟨2, T, [], false⟩, .int .u8 (b.toNat : Int)] w fun e w' => e = .returned (stV (tagM ⟨2, T, [], false⟩ b)) ∧ Below w.heap.size w w' := by
  have hTl : T.length ≤ 1000 := by have := nameB_len hT; omega
  have hval : stValid ⟨2, T, [], false⟩ = true := val_tag (.inl rfl) hT
  have CG := Lib.hid (fun W => impl_stepTag ⟨2, T, [], false⟩ b W (by simp) (by first | exact hTl | simp) (by first | exact hAl | simp))
  rw [st_agg] at CG
  obtain ⟨M2, T2, A2, E2, hlt⟩ : ∃ M2 T2 A2 E2, tagM ⟨2, T, [], false⟩ b = ⟨M2, T2, A2, E2⟩ := ⟨_, _, _, _, rfl⟩
  rw [hlt, st_agg] at CG
  have CV := Lib.hid (fun W => (by have h := impl_StateValid ⟨2, T, [], false⟩ W (by first | exact hTl | (simp; done)) (by first | exact hAl | (simp; done)); rw [hval] at h; exact h : Calls Try.prog 69 #[stV ⟨2, T, [], false⟩] W fun e w' => e = .returned (.bool true) ∧ Below W.heap.size W w'))
  obtain ⟨⟨p0, p1, p2⟩, bx⟩ := three_new w (.cells #[.int .i64 2, .string (mkS T), .string (mkS []), .bool false] 57 (0, 0)) (.cells #[.int .i64 0, .string ⟨#[]⟩, .string ⟨#[]⟩, .bool false] 57 (0, 0)) (.cells #[.int .i64 15, .string ⟨#[]⟩, .string ⟨#[]⟩, .bool false] 57 (0, 0))
  rw [st_agg] at CV ⊢
  have P0 := Lib.hid p0; have P1 := Lib.hid p1; have P2 := Lib.hid p2; have BX := Lib.hid bx
  clear p0 p1 p2 bx hval hT hTl
  go_enter Try.func41, Try.ntmps41
  go_wp2_with fail
  refine (CV.out _).mono ?_
  rintro e w1 ⟨rfl, hb1⟩
  have q0 := (hb1.block _ (bld_ltS P0.out)).trans P0.out
  have q1 := (hb1.block _ (bld_ltS P1.out)).trans P1.out
  have BW := Lib.hid (BX.out.trans (hb1.mono BX.out.size))
  have x0 : w1.cell? ⟨w.heap.size, 0, none⟩ = some (.int .i64 2) := by rw [cell_of_row w1 _ _ _ _ _ q0]; rfl
  have x1 : w1.cell? ⟨w.heap.size, 1, none⟩ = some (.string (mkS T)) := by rw [cell_of_row w1 _ _ _ _ _ q0]; rfl
  have x2 : w1.cell? ⟨w.heap.size, 2, none⟩ = some (.string (mkS [])) := by rw [cell_of_row w1 _ _ _ _ _ q0]; rfl
  have x3 : w1.cell? ⟨w.heap.size, 3, none⟩ = some (.bool false) := by rw [cell_of_row w1 _ _ _ _ _ q0]; rfl
  have u0 : w1.cell? ⟨w.heap.size + 1, 0, none⟩ = some (.int .i64 0) := by rw [cell_of_row w1 _ _ _ _ _ q1]; rfl
  have u1 : w1.cell? ⟨w.heap.size + 1, 1, none⟩ = some (.string ⟨#[]⟩) := by rw [cell_of_row w1 _ _ _ _ _ q1]; rfl
  have u2 : w1.cell? ⟨w.heap.size + 1, 2, none⟩ = some (.string ⟨#[]⟩) := by rw [cell_of_row w1 _ _ _ _ _ q1]; rfl
  have u3 : w1.cell? ⟨w.heap.size + 1, 3, none⟩ = some (.bool false) := by rw [cell_of_row w1 _ _ _ _ _ q1]; rfl
  have f0 := row_frozen q0 0
  have f1 := row_frozen q0 1
  have f2 := row_frozen q0 2
  have f3 := row_frozen q0 3
  have g0 := row_frozen q1 0
  have g1 := row_frozen q1 1
  have g2 := row_frozen q1 2
  have g3 := row_frozen q1 3
  have Q0 := Lib.hid q0; have Q1 := Lib.hid q1
  clear q0 q1 hb1 P0 P1 P2 CV
  go_wp2_with fail
  refine (CG.out _).mono ?_
  rintro e w3 ⟨rfl, hb3⟩
  have q3 := (hb3.block _ (bld_ltS Q1.out)).trans Q1.out
  have v0 : w3.cell? ⟨w.heap.size + 1, 0, none⟩ = some (.int .i64 0) := by rw [cell_of_row w3 _ _ _ _ _ q3]; rfl
  have v1 : w3.cell? ⟨w.heap.size + 1, 1, none⟩ = some (.string ⟨#[]⟩) := by rw [cell_of_row w3 _ _ _ _ _ q3]; rfl
  have v2 : w3.cell? ⟨w.heap.size + 1, 2, none⟩ = some (.string ⟨#[]⟩) := by rw [cell_of_row w3 _ _ _ _ _ q3]; rfl
  have v3 : w3.cell? ⟨w.heap.size + 1, 3, none⟩ = some (.bool false) := by rw [cell_of_row w3 _ _ _ _ _ q3]; rfl
  have k0 := row_frozen q3 0
  have k1 := row_frozen q3 1
  have k2 := row_frozen q3 2
  have k3 := row_frozen q3 3
  have Q3 := Lib.hid q3
  have BV := Lib.hid (BW.out.trans (hb3.mono BW.out.size))
  clear q3 hb3
  go_wp2
  obtain ⟨⟨r0, r1, r2, r3⟩, RB⟩ := st_set Q3.out (.int .i64 (M2 : Int)) (.string (mkS T2)) (.string (mkS A2)) (.bool E2)
  exact bodyPost_ret (v := .agg #[.int .i64 (M2 : Int), .string (mkS T2), .string (mkS A2), .bool E2]) (by simp [results, Try.results41, go_sem, r0, r1, r2, r3]) rfl ⟨by rw [hlt]; rfl, RB _ _ (by omega) BV.out⟩
set_option maxRecDepth 100000 in
set_option maxHeartbeats 3200000 in
theorem st_tag3 (T : List UInt8) (b : UInt8) (hT : nameB T = true)  (w : World) :
    Calls Try.prog 41 #[stV ⟨3, T, [], false⟩, .int .u8 (b.toNat : Int)] w fun e w' => e = .returned (stV (tagM ⟨3, T, [], false⟩ b)) ∧ Below w.heap.size w w' := by
  have hTl : T.length ≤ 1000 := by have := nameB_len hT; omega
  have hval : stValid ⟨3, T, [], false⟩ = true := val_tag (.inr rfl) hT
  have CG := Lib.hid (fun W => impl_stepTag ⟨3, T, [], false⟩ b W (by simp) (by first | exact hTl | simp) (by first | exact hAl | simp))
  rw [st_agg] at CG
  obtain ⟨M2, T2, A2, E2, hlt⟩ : ∃ M2 T2 A2 E2, tagM ⟨3, T, [], false⟩ b = ⟨M2, T2, A2, E2⟩ := ⟨_, _, _, _, rfl⟩
  rw [hlt, st_agg] at CG
  have CV := Lib.hid (fun W => (by have h := impl_StateValid ⟨3, T, [], false⟩ W (by first | exact hTl | (simp; done)) (by first | exact hAl | (simp; done)); rw [hval] at h; exact h : Calls Try.prog 69 #[stV ⟨3, T, [], false⟩] W fun e w' => e = .returned (.bool true) ∧ Below W.heap.size W w'))
  obtain ⟨⟨p0, p1, p2⟩, bx⟩ := three_new w (.cells #[.int .i64 3, .string (mkS T), .string (mkS []), .bool false] 57 (0, 0)) (.cells #[.int .i64 0, .string ⟨#[]⟩, .string ⟨#[]⟩, .bool false] 57 (0, 0)) (.cells #[.int .i64 15, .string ⟨#[]⟩, .string ⟨#[]⟩, .bool false] 57 (0, 0))
  rw [st_agg] at CV ⊢
  have P0 := Lib.hid p0; have P1 := Lib.hid p1; have P2 := Lib.hid p2; have BX := Lib.hid bx
  clear p0 p1 p2 bx hval hT hTl
  go_enter Try.func41, Try.ntmps41
  go_wp2_with fail
  refine (CV.out _).mono ?_
  rintro e w1 ⟨rfl, hb1⟩
  have q0 := (hb1.block _ (bld_ltS P0.out)).trans P0.out
  have q1 := (hb1.block _ (bld_ltS P1.out)).trans P1.out
  have BW := Lib.hid (BX.out.trans (hb1.mono BX.out.size))
  have x0 : w1.cell? ⟨w.heap.size, 0, none⟩ = some (.int .i64 3) := by rw [cell_of_row w1 _ _ _ _ _ q0]; rfl
  have x1 : w1.cell? ⟨w.heap.size, 1, none⟩ = some (.string (mkS T)) := by rw [cell_of_row w1 _ _ _ _ _ q0]; rfl
  have x2 : w1.cell? ⟨w.heap.size, 2, none⟩ = some (.string (mkS [])) := by rw [cell_of_row w1 _ _ _ _ _ q0]; rfl
  have x3 : w1.cell? ⟨w.heap.size, 3, none⟩ = some (.bool false) := by rw [cell_of_row w1 _ _ _ _ _ q0]; rfl
  have u0 : w1.cell? ⟨w.heap.size + 1, 0, none⟩ = some (.int .i64 0) := by rw [cell_of_row w1 _ _ _ _ _ q1]; rfl
  have u1 : w1.cell? ⟨w.heap.size + 1, 1, none⟩ = some (.string ⟨#[]⟩) := by rw [cell_of_row w1 _ _ _ _ _ q1]; rfl
  have u2 : w1.cell? ⟨w.heap.size + 1, 2, none⟩ = some (.string ⟨#[]⟩) := by rw [cell_of_row w1 _ _ _ _ _ q1]; rfl
  have u3 : w1.cell? ⟨w.heap.size + 1, 3, none⟩ = some (.bool false) := by rw [cell_of_row w1 _ _ _ _ _ q1]; rfl
  have f0 := row_frozen q0 0
  have f1 := row_frozen q0 1
  have f2 := row_frozen q0 2
  have f3 := row_frozen q0 3
  have g0 := row_frozen q1 0
  have g1 := row_frozen q1 1
  have g2 := row_frozen q1 2
  have g3 := row_frozen q1 3
  have Q0 := Lib.hid q0; have Q1 := Lib.hid q1
  clear q0 q1 hb1 P0 P1 P2 CV
  go_wp2_with fail
  refine (CG.out _).mono ?_
  rintro e w3 ⟨rfl, hb3⟩
  have q3 := (hb3.block _ (bld_ltS Q1.out)).trans Q1.out
  have v0 : w3.cell? ⟨w.heap.size + 1, 0, none⟩ = some (.int .i64 0) := by rw [cell_of_row w3 _ _ _ _ _ q3]; rfl
  have v1 : w3.cell? ⟨w.heap.size + 1, 1, none⟩ = some (.string ⟨#[]⟩) := by rw [cell_of_row w3 _ _ _ _ _ q3]; rfl
  have v2 : w3.cell? ⟨w.heap.size + 1, 2, none⟩ = some (.string ⟨#[]⟩) := by rw [cell_of_row w3 _ _ _ _ _ q3]; rfl
  have v3 : w3.cell? ⟨w.heap.size + 1, 3, none⟩ = some (.bool false) := by rw [cell_of_row w3 _ _ _ _ _ q3]; rfl
  have k0 := row_frozen q3 0
  have k1 := row_frozen q3 1
  have k2 := row_frozen q3 2
  have k3 := row_frozen q3 3
  have Q3 := Lib.hid q3
  have BV := Lib.hid (BW.out.trans (hb3.mono BW.out.size))
  clear q3 hb3
  go_wp2
  obtain ⟨⟨r0, r1, r2, r3⟩, RB⟩ := st_set Q3.out (.int .i64 (M2 : Int)) (.string (mkS T2)) (.string (mkS A2)) (.bool E2)
  exact bodyPost_ret (v := .agg #[.int .i64 (M2 : Int), .string (mkS T2), .string (mkS A2), .bool E2]) (by simp [results, Try.results41, go_sem, r0, r1, r2, r3]) rfl ⟨by rw [hlt]; rfl, RB _ _ (by omega) BV.out⟩
set_option maxRecDepth 100000 in
set_option maxHeartbeats 3200000 in
theorem st_tag4 (T A : List UInt8) (b : UInt8) (hT : nameB T = true) (hA : nameB A = true) (w : World) :
    Calls Try.prog 41 #[stV ⟨4, T, A, false⟩, .int .u8 (b.toNat : Int)] w fun e w' => e = .returned (stV (tagM ⟨4, T, A, false⟩ b)) ∧ Below w.heap.size w w' := by
  have hTl : T.length ≤ 1000 := by have := nameB_len hT; omega
  have hAl : A.length ≤ 1000 := by have := nameB_len hA; omega
  have hval : stValid ⟨4, T, A, false⟩ = true := val_attr (.inl ⟨.inl rfl, rfl⟩) hT hA
  have CG := Lib.hid (fun W => impl_stepTag ⟨4, T, A, false⟩ b W (by simp) (by first | exact hTl | simp) (by first | exact hAl | simp))
  rw [st_agg] at CG
  obtain ⟨M2, T2, A2, E2, hlt⟩ : ∃ M2 T2 A2 E2, tagM ⟨4, T, A, false⟩ b = ⟨M2, T2, A2, E2⟩ := ⟨_, _, _, _, rfl⟩
  rw [hlt, st_agg] at CG
  have CV := Lib.hid (fun W => (by have h := impl_StateValid ⟨4, T, A, false⟩ W (by first | exact hTl | (simp; done)) (by first | exact hAl | (simp; done)); rw [hval] at h; exact h : Calls Try.prog 69 #[stV ⟨4, T, A, false⟩] W fun e w' => e = .returned (.bool true) ∧ Below W.heap.size W w'))
  obtain ⟨⟨p0, p1, p2⟩, bx⟩ := three_new w (.cells #[.int .i64 4, .string (mkS T), .string (mkS A), .bool false] 57 (0, 0)) (.cells #[.int .i64 0, .string ⟨#[]⟩, .string ⟨#[]⟩, .bool false] 57 (0, 0)) (.cells #[.int .i64 15, .string ⟨#[]⟩, .string ⟨#[]⟩, .bool false] 57 (0, 0))
  rw [st_agg] at CV ⊢
  have P0 := Lib.hid p0; have P1 := Lib.hid p1; have P2 := Lib.hid p2; have BX := Lib.hid bx
  clear p0 p1 p2 bx hval hT hTl hA hAl
  go_enter Try.func41, Try.ntmps41
  go_wp2_with fail
  refine (CV.out _).mono ?_
  rintro e w1 ⟨rfl, hb1⟩
  have q0 := (hb1.block _ (bld_ltS P0.out)).trans P0.out
  have q1 := (hb1.block _ (bld_ltS P1.out)).trans P1.out
  have BW := Lib.hid (BX.out.trans (hb1.mono BX.out.size))
  have x0 : w1.cell? ⟨w.heap.size, 0, none⟩ = some (.int .i64 4) := by rw [cell_of_row w1 _ _ _ _ _ q0]; rfl
  have x1 : w1.cell? ⟨w.heap.size, 1, none⟩ = some (.string (mkS T)) := by rw [cell_of_row w1 _ _ _ _ _ q0]; rfl
  have x2 : w1.cell? ⟨w.heap.size, 2, none⟩ = some (.string (mkS A)) := by rw [cell_of_row w1 _ _ _ _ _ q0]; rfl
  have x3 : w1.cell? ⟨w.heap.size, 3, none⟩ = some (.bool false) := by rw [cell_of_row w1 _ _ _ _ _ q0]; rfl
  have u0 : w1.cell? ⟨w.heap.size + 1, 0, none⟩ = some (.int .i64 0) := by rw [cell_of_row w1 _ _ _ _ _ q1]; rfl
  have u1 : w1.cell? ⟨w.heap.size + 1, 1, none⟩ = some (.string ⟨#[]⟩) := by rw [cell_of_row w1 _ _ _ _ _ q1]; rfl
  have u2 : w1.cell? ⟨w.heap.size + 1, 2, none⟩ = some (.string ⟨#[]⟩) := by rw [cell_of_row w1 _ _ _ _ _ q1]; rfl
  have u3 : w1.cell? ⟨w.heap.size + 1, 3, none⟩ = some (.bool false) := by rw [cell_of_row w1 _ _ _ _ _ q1]; rfl
  have f0 := row_frozen q0 0
  have f1 := row_frozen q0 1
  have f2 := row_frozen q0 2
  have f3 := row_frozen q0 3
  have g0 := row_frozen q1 0
  have g1 := row_frozen q1 1
  have g2 := row_frozen q1 2
  have g3 := row_frozen q1 3
  have Q0 := Lib.hid q0; have Q1 := Lib.hid q1
  clear q0 q1 hb1 P0 P1 P2 CV
  go_wp2_with fail
  refine (CG.out _).mono ?_
  rintro e w3 ⟨rfl, hb3⟩
  have q3 := (hb3.block _ (bld_ltS Q1.out)).trans Q1.out
  have v0 : w3.cell? ⟨w.heap.size + 1, 0, none⟩ = some (.int .i64 0) := by rw [cell_of_row w3 _ _ _ _ _ q3]; rfl
  have v1 : w3.cell? ⟨w.heap.size + 1, 1, none⟩ = some (.string ⟨#[]⟩) := by rw [cell_of_row w3 _ _ _ _ _ q3]; rfl
  have v2 : w3.cell? ⟨w.heap.size + 1, 2, none⟩ = some (.string ⟨#[]⟩) := by rw [cell_of_row w3 _ _ _ _ _ q3]; rfl
  have v3 : w3.cell? ⟨w.heap.size + 1, 3, none⟩ = some (.bool false) := by rw [cell_of_row w3 _ _ _ _ _ q3]; rfl
  have k0 := row_frozen q3 0
  have k1 := row_frozen q3 1
  have k2 := row_frozen q3 2
  have k3 := row_frozen q3 3
  have Q3 := Lib.hid q3
  have BV := Lib.hid (BW.out.trans (hb3.mono BW.out.size))
  clear q3 hb3
  go_wp2
  obtain ⟨⟨r0, r1, r2, r3⟩, RB⟩ := st_set Q3.out (.int .i64 (M2 : Int)) (.string (mkS T2)) (.string (mkS A2)) (.bool E2)
  exact bodyPost_ret (v := .agg #[.int .i64 (M2 : Int), .string (mkS T2), .string (mkS A2), .bool E2]) (by simp [results, Try.results41, go_sem, r0, r1, r2, r3]) rfl ⟨by rw [hlt]; rfl, RB _ _ (by omega) BV.out⟩
set_option maxRecDepth 100000 in
set_option maxHeartbeats 3200000 in
theorem st_tag8 (T A : List UInt8) (b : UInt8) (hT : nameB T = true) (hA : nameB A = true) (w : World) :
    Calls Try.prog 41 #[stV ⟨8, T, A, true⟩, .int .u8 (b.toNat : Int)] w fun e w' => e = .returned (stV (tagM ⟨8, T, A, true⟩ b)) ∧ Below w.heap.size w w' := by
  have hTl : T.length ≤ 1000 := by have := nameB_len hT; omega
  have hAl : A.length ≤ 1000 := by have := nameB_len hA; omega
  have hval : stValid ⟨8, T, A, true⟩ = true := val_attr (.inr (.inr ⟨rfl, rfl⟩)) hT hA
  have CG := Lib.hid (fun W => impl_stepTag ⟨8, T, A, true⟩ b W (by simp) (by first | exact hTl | simp) (by first | exact hAl | simp))
  rw [st_agg] at CG
  obtain ⟨M2, T2, A2, E2, hlt⟩ : ∃ M2 T2 A2 E2, tagM ⟨8, T, A, true⟩ b = ⟨M2, T2, A2, E2⟩ := ⟨_, _, _, _, rfl⟩
  rw [hlt, st_agg] at CG
  have CV := Lib.hid (fun W => (by have h := impl_StateValid ⟨8, T, A, true⟩ W (by first | exact hTl | (simp; done)) (by first | exact hAl | (simp; done)); rw [hval] at h; exact h : Calls Try.prog 69 #[stV ⟨8, T, A, true⟩] W fun e w' => e = .returned (.bool true) ∧ Below W.heap.size W w'))
  obtain ⟨⟨p0, p1, p2⟩, bx⟩ := three_new w (.cells #[.int .i64 8, .string (mkS T), .string (mkS A), .bool true] 57 (0, 0)) (.cells #[.int .i64 0, .string ⟨#[]⟩, .string ⟨#[]⟩, .bool false] 57 (0, 0)) (.cells #[.int .i64 15, .string ⟨#[]⟩, .string ⟨#[]⟩, .bool false] 57 (0, 0))
  rw [st_agg] at CV ⊢
  have P0 := Lib.hid p0; have P1 := Lib.hid p1; have P2 := Lib.hid p2; have BX := Lib.hid bx
  clear p0 p1 p2 bx hval hT hTl hA hAl
  go_enter Try.func41, Try.ntmps41
  go_wp2_with fail
  refine (CV.out _).mono ?_
  rintro e w1 ⟨rfl, hb1⟩
  have q0 := (hb1.block _ (bld_ltS P0.out)).trans P0.out
  have q1 := (hb1.block _ (bld_ltS P1.out)).trans P1.out
  have BW := Lib.hid (BX.out.trans (hb1.mono BX.out.size))
  have x0 : w1.cell? ⟨w.heap.size, 0, none⟩ = some (.int .i64 8) := by rw [cell_of_row w1 _ _ _ _ _ q0]; rfl
  have x1 : w1.cell? ⟨w.heap.size, 1, none⟩ = some (.string (mkS T)) := by rw [cell_of_row w1 _ _ _ _ _ q0]; rfl
  have x2 : w1.cell? ⟨w.heap.size, 2, none⟩ = some (.string (mkS A)) := by rw [cell_of_row w1 _ _ _ _ _ q0]; rfl
  have x3 : w1.cell? ⟨w.heap.size, 3, none⟩ = some (.bool true) := by rw [cell_of_row w1 _ _ _ _ _ q0]; rfl
  have u0 : w1.cell? ⟨w.heap.size + 1, 0, none⟩ = some (.int .i64 0) := by rw [cell_of_row w1 _ _ _ _ _ q1]; rfl
  have u1 : w1.cell? ⟨w.heap.size + 1, 1, none⟩ = some (.string ⟨#[]⟩) := by rw [cell_of_row w1 _ _ _ _ _ q1]; rfl
  have u2 : w1.cell? ⟨w.heap.size + 1, 2, none⟩ = some (.string ⟨#[]⟩) := by rw [cell_of_row w1 _ _ _ _ _ q1]; rfl
  have u3 : w1.cell? ⟨w.heap.size + 1, 3, none⟩ = some (.bool false) := by rw [cell_of_row w1 _ _ _ _ _ q1]; rfl
  have f0 := row_frozen q0 0
  have f1 := row_frozen q0 1
  have f2 := row_frozen q0 2
  have f3 := row_frozen q0 3
  have g0 := row_frozen q1 0
  have g1 := row_frozen q1 1
  have g2 := row_frozen q1 2
  have g3 := row_frozen q1 3
  have Q0 := Lib.hid q0; have Q1 := Lib.hid q1
  clear q0 q1 hb1 P0 P1 P2 CV
  go_wp2_with fail
  refine (CG.out _).mono ?_
  rintro e w3 ⟨rfl, hb3⟩
  have q3 := (hb3.block _ (bld_ltS Q1.out)).trans Q1.out
  have v0 : w3.cell? ⟨w.heap.size + 1, 0, none⟩ = some (.int .i64 0) := by rw [cell_of_row w3 _ _ _ _ _ q3]; rfl
  have v1 : w3.cell? ⟨w.heap.size + 1, 1, none⟩ = some (.string ⟨#[]⟩) := by rw [cell_of_row w3 _ _ _ _ _ q3]; rfl
  have v2 : w3.cell? ⟨w.heap.size + 1, 2, none⟩ = some (.string ⟨#[]⟩) := by rw [cell_of_row w3 _ _ _ _ _ q3]; rfl
  have v3 : w3.cell? ⟨w.heap.size + 1, 3, none⟩ = some (.bool false) := by rw [cell_of_row w3 _ _ _ _ _ q3]; rfl
  have k0 := row_frozen q3 0
  have k1 := row_frozen q3 1
  have k2 := row_frozen q3 2
  have k3 := row_frozen q3 3
  have Q3 := Lib.hid q3
  have BV := Lib.hid (BW.out.trans (hb3.mono BW.out.size))
  clear q3 hb3
  go_wp2
  obtain ⟨⟨r0, r1, r2, r3⟩, RB⟩ := st_set Q3.out (.int .i64 (M2 : Int)) (.string (mkS T2)) (.string (mkS A2)) (.bool E2)
  exact bodyPost_ret (v := .agg #[.int .i64 (M2 : Int), .string (mkS T2), .string (mkS A2), .bool E2]) (by simp [results, Try.results41, go_sem, r0, r1, r2, r3]) rfl ⟨by rw [hlt]; rfl, RB _ _ (by omega) BV.out⟩
/-- StepState from every valid state. -/
theorem impl_StepState (s : St) (b : UInt8) (w : World) (h : stValid s = true) :
    Calls Try.prog 41 #[stV s, .int .u8 (b.toNat : Int)] w fun e w' => e = .returned (stV (stepM s b)) ∧ Below w.heap.size w w' := by
  rcases val_cases h with ⟨M, rfl, hM⟩ | ⟨M, T, rfl, hM, hT⟩ | ⟨M, T, A, rfl, hM, hT, hA⟩ | ⟨M, T, A, E, rfl, hM, hT, hA⟩ | ⟨T, A, rfl, hT, hA⟩ | ⟨T, rfl, hT⟩
  · have hc : M = 0 ∨ M = 1 ∨ M = 10 ∨ M = 11 ∨ M = 12 ∨ M = 13 ∨ M = 14 ∨ M = 15 := by omega
    unfold stepM
    rcases hc with rfl | rfl | rfl | rfl | rfl | rfl | rfl | rfl <;> simp only [Nat.reduceEqDiff, if_true, if_false, or_self, or_true, true_or, reduceCtorEq, and_true, and_false]
    · split
      · rename_i hb; exact step_01 b hb w
      · rename_i hb; exact step_00 b hb w
    · split
      · rename_i hl; exact step_12 b hl w
      · rename_i hl
        split
        · rename_i hb; exact step_19 b hb w
        · rename_i hb
          split
          · rename_i hc; exact st_1c b hc w
          · rename_i hc; exact st_1n b (by simpa using hl) hb hc w
    · split
      · rename_i hb; exact st_Az b hb w
      · rename_i hb; exact st_As b hb w
    · split
      · rename_i hb; exact st_Bl b hb w
      · rename_i h1
        split
        · rename_i hb; exact st_Bq b hb w
        · rename_i h2
          by_cases h3 : b = 47
          · exact st_Bs b h3 w
          · exact st_Bn b h1 h2 h3 w
    · split
      · rename_i hb; exact st_Cq b hb w
      · rename_i h1
        split
        · rename_i hb; exact st_Cb b hb w
        · rename_i h2
          split
          · rename_i hb; exact st_Cl b hb w
          · rename_i h3; exact st_Cn b h1 h2 h3 w
    · split
      · rename_i hb; exact st_Dl b hb w
      · rename_i hb; exact st_Dn b hb w
    · split
      · rename_i hb; exact st_El b hb w
      · rename_i h1
        split
        · rename_i hb; exact st_Eq b hb w
        · rename_i h2
          split
          · rename_i h3; exact st_Es b h3 w
          · rename_i h3; exact st_En b h1 h2 h3 w
    · exact st_F b w
  · have hm : stepM ⟨M, T, [], false⟩ b = tagM ⟨M, T, [], false⟩ b := by
      unfold stepM
      rcases hM with rfl | rfl <;> simp
    rw [hm]
    rcases hM with rfl | rfl
    · exact st_tag2 T b hT w
    · exact st_tag3 T b hT w
  · rcases hM with rfl | rfl
    · have hm : stepM ⟨4, T, A, false⟩ b = tagM ⟨4, T, A, false⟩ b := by
        unfold stepM; simp
      rw [hm]
      exact st_tag4 T A b hT hA w
    · unfold stepM
      simp only [Nat.reduceEqDiff, if_true, if_false, or_self]
      split
      · rename_i hb; exact st_5d T A b hT hA hb w
      · rename_i h1
        split
        · rename_i hb; exact st_5s T A b hT hA hb w
        · rename_i h2
          split
          · rename_i hb; exact st_5b T A b hT hA h1 h2 hb w
          · rename_i hb; exact st_5n T A b hT hA h1 h2 (by simpa using hb) w
  · unfold stepM
    rcases hM with rfl | rfl <;> simp only [Nat.reduceEqDiff, if_true, if_false, or_self]
    · split
      · rename_i hb; exact st_6q T A E b hT hA hb w
      · rename_i hb; exact st_6n T A E b hT hA hb w
    · split
      · rename_i hb; exact st_7q T A E b hT hA hb w
      · rename_i hb; exact st_7n T A E b hT hA hb w
  · have hm : stepM ⟨8, T, A, true⟩ b = tagM ⟨8, T, A, true⟩ b := by
      unfold stepM; simp
    rw [hm]
    exact st_tag8 T A b hT hA w
  · have hTl : T.length ≤ 1000 := by
      rcases hT with rfl | hT
      · simp
      · have := nameB_len hT; omega
    unfold stepM
    simp only [Nat.reduceEqDiff, if_true, if_false, or_self]
    split
    · rename_i hb; exact step_90 T b hT hTl hb.1 hb.2 w
    · rename_i h1
      split
      · rename_i hn
        rcases hl : letB b with _ | _
        · rcases hn with hn | ⟨hne, hn⟩
          · rw [hl] at hn; cases hn
          · rcases hd : digB b with _ | _
            · rcases hn with hn | hn
              · rw [hd] at hn; cases hn
              · exact st_9m T b hT hTl hne hd hl hn w
            · exact st_9d T b hT hTl hne (fun e => h1 ⟨e, hne⟩) hl hd w
        · exact step_99 T b hT hTl hl w
      · rename_i hn
        have hl : letB b = false := by
          rcases hl : letB b with _ | _
          · rfl
          · exact absurd (.inl hl) hn
        by_cases he : T = []
        · by_cases hb : b = 62
          · exact st_9e T b hT hTl he hb w
          · exact st_9f T b hT hTl he hb hl w
        · refine st_9n T b hT hTl he (fun e => h1 ⟨e, he⟩) hl ?_ (fun e => hn (.inr ⟨he, .inr e⟩)) w
          rcases hd : digB b with _ | _
          · rfl
          · exact absurd (.inr ⟨he, .inl hd⟩) hn
end Go.Proofs.Ytdoomfckdjjlaaa

/- impl.bareByte and impl.stepTag (printed by gen_stepg.py). -/
import Derived.Test.YtdoomfckdjjlaaaMach
namespace Go.Proofs.Ytdoomfckdjjlaaa
open Go.RowKit

theorem impl_bareByte (b : UInt8) (w : World) : Calls Try.prog 72 #[.int .u8 (b.toNat : Int)] w fun e w' => e = .returned (.bool (bareB b)) ∧ w = w' := by
  have CL := Lib.hid (fun W => impl_isLetter b W)
  have CD := Lib.hid (fun W => impl_isDigit b W)
  have CH := Lib.hid (fun W => impl_hasByte ⟨#[45, 95, 46, 47, 58]⟩ b W (by decide))
  have HB : Hid (bareB b = (letB b || digB b || hasB (bl ⟨#[45, 95, 46, 47, 58]⟩) b)) := rfl
  generalize hasB (bl ⟨#[45, 95, 46, 47, 58]⟩) b = hh at *
  generalize letB b = h1 at *
  generalize digB b = h2 at *
  rcases h1 with _ | _ <;> rcases h2 with _ | _ <;> rcases hh with _ | _
  all_goals
    go_enter Try.func72, Try.ntmps72
    go_wp2_with (first | (go_at_call 70; refine (CL.out _).mono ?_; rintro e w2 ⟨rfl, rfl⟩) | (go_at_call 73; refine (CD.out _).mono ?_; rintro e w2 ⟨rfl, rfl⟩) | (go_at_call 54; refine (CH.out _).mono ?_; rintro e w2 ⟨rfl, rfl⟩))
    go_ret
    exact ⟨by rw [HB.out]; rfl, rfl⟩
set_option maxRecDepth 100000 in
set_option maxHeartbeats 3200000 in
theorem tag_script (M : Nat) (T A : List UInt8) (EE : Bool) (b : UInt8) (h : b = 62) (hs : T = scriptL) (w : World) :
    Calls Try.prog 71 #[stV ⟨M, T, A, EE⟩, .int .u8 (b.toNat : Int)] w fun e w' => e = .returned (stV ⟨11, [], [], false⟩) ∧ Below w.heap.size w w' := by
  have hb62 : ((b.toNat : Int) == 62) = true := beqN (n := 62) 62 rfl h
  have hty : ((mkS T).toList == [115, 99, 114, 105, 112, 116]) = true := by rw [ByteArray.toList_eq]; rw [hs]; rfl
  obtain ⟨⟨p0, p1⟩, bx⟩ := two_new w (.cells #[.int .i64 (M : Int), .string (mkS T), .string (mkS A), .bool EE] 57 (0, 0)) (.cells #[.int .i64 0, .string ⟨#[]⟩, .string ⟨#[]⟩, .bool false] 57 (0, 0))
  rw [st_agg M]
  have Q0 := Lib.hid p0; have Q1 := Lib.hid p1; have BX := Lib.hid bx
  clear p0 p1 bx h hs
  go_enter Try.func71, Try.ntmps71
  go_wp2
  exact bodyPost_ret (v := .agg #[.int .i64 11, .string ⟨#[]⟩, .string ⟨#[]⟩, .bool false]) (by simp [results, Try.results71, go_sem]) rfl ⟨rfl, ((Below.refl _ _).alloc (Nat.le_refl _) _).alloc (by simp) _⟩
set_option maxRecDepth 100000 in
set_option maxHeartbeats 3200000 in
theorem tag_close (M : Nat) (T A : List UInt8) (EE : Bool) (b : UInt8) (h : b = 62) (hs : T ≠ scriptL) (w : World) :
    Calls Try.prog 71 #[stV ⟨M, T, A, EE⟩, .int .u8 (b.toNat : Int)] w fun e w' => e = .returned (stV zeroS) ∧ Below w.heap.size w w' := by
  have hb62 : ((b.toNat : Int) == 62) = true := beqN (n := 62) 62 rfl h
  have hty : ((mkS T).toList == [115, 99, 114, 105, 112, 116]) = false := by rw [ByteArray.toList_eq]; simpa [mkS, scriptL] using hs
  obtain ⟨⟨p0, p1⟩, bx⟩ := two_new w (.cells #[.int .i64 (M : Int), .string (mkS T), .string (mkS A), .bool EE] 57 (0, 0)) (.cells #[.int .i64 0, .string ⟨#[]⟩, .string ⟨#[]⟩, .bool false] 57 (0, 0))
  rw [st_agg M]
  have Q0 := Lib.hid p0; have Q1 := Lib.hid p1; have BX := Lib.hid bx
  clear p0 p1 bx h hs
  go_enter Try.func71, Try.ntmps71
  go_wp2
  exact bodyPost_ret (v := .agg #[.int .i64 0, .string ⟨#[]⟩, .string ⟨#[]⟩, .bool false]) (by simp [results, Try.results71, go_sem]) rfl ⟨rfl, ((Below.refl _ _).alloc (Nat.le_refl _) _).alloc (by simp) _⟩
set_option maxRecDepth 100000 in
set_option maxHeartbeats 3200000 in
theorem tag_space (M : Nat) (T A : List UInt8) (EE : Bool) (b : UInt8) (h : b = 32) (w : World) :
    Calls Try.prog 71 #[stV ⟨M, T, A, EE⟩, .int .u8 (b.toNat : Int)] w fun e w' => e = .returned (stV ⟨3, T, [], false⟩) ∧ Below w.heap.size w w' := by
  have hb62 : ((b.toNat : Int) == 62) = false := bneN (n := 62) 62 rfl (by subst h; decide)
  have hb32 : ((b.toNat : Int) == 32) = true := beqN (n := 32) 32 rfl h
  obtain ⟨⟨p0, p1⟩, bx⟩ := two_new w (.cells #[.int .i64 (M : Int), .string (mkS T), .string (mkS A), .bool EE] 57 (0, 0)) (.cells #[.int .i64 0, .string ⟨#[]⟩, .string ⟨#[]⟩, .bool false] 57 (0, 0))
  rw [st_agg M]
  have Q0 := Lib.hid p0; have Q1 := Lib.hid p1; have BX := Lib.hid bx
  clear p0 p1 bx h
  go_enter Try.func71, Try.ntmps71
  go_wp2
  exact bodyPost_ret (v := .agg #[.int .i64 3, .string (mkS T), .string ⟨#[]⟩, .bool false]) (by simp [results, Try.results71, go_sem]) rfl ⟨rfl, ((Below.refl _ _).alloc (Nat.le_refl _) _).alloc (by simp) _⟩
set_option maxRecDepth 100000 in
set_option maxHeartbeats 3200000 in
theorem tag_2l (T A : List UInt8) (EE : Bool) (b : UInt8) (h1 : b ≠ 62) (h2 : b ≠ 32) (hl : letB b = true) (hT : T.length ≤ 1000) (w : World) :
    Calls Try.prog 71 #[stV ⟨2, T, A, EE⟩, .int .u8 (b.toNat : Int)] w fun e w' => e = .returned (stV (longT ⟨2, T, A, EE⟩ b)) ∧ Below w.heap.size w w' := by
  have hb62 : ((b.toNat : Int) == 62) = false := bneN (n := 62) 62 rfl h1
  have hb32 : ((b.toNat : Int) == 32) = false := bneN (n := 32) 32 rfl h2
  have CL := Lib.hid (fun W => (hl ▸ impl_isLetter b W : Calls Try.prog 70 #[.int .u8 (b.toNat : Int)] W fun e w' => e = .returned (.bool true) ∧ W = w'))
  have CG := Lib.hid (fun W => longer_T ⟨2, T, A, EE⟩ b W hT)
  rw [st_agg] at CG
  obtain ⟨M2, T2, A2, E2, hlt⟩ : ∃ M2 T2 A2 E2, longT ⟨2, T, A, EE⟩ b = ⟨M2, T2, A2, E2⟩ := ⟨_, _, _, _, rfl⟩
  rw [hlt, st_agg] at CG
  obtain ⟨⟨p0, p1⟩, bx⟩ := two_new w (.cells #[.int .i64 2, .string (mkS T), .string (mkS A), .bool EE] 57 (0, 0)) (.cells #[.int .i64 0, .string ⟨#[]⟩, .string ⟨#[]⟩, .bool false] 57 (0, 0))
  rw [st_agg 2]
  have Q0 := Lib.hid p0; have Q1 := Lib.hid p1; have BX := Lib.hid bx
  clear p0 p1 bx h1 h2 hl hT
  go_enter Try.func71, Try.ntmps71
  go_wp2_with (first | (go_at_call 70; refine (CL.out _).mono ?_; rintro e w2 ⟨rfl, rfl⟩))
  refine (CG.out _).mono ?_
  rintro e w3 ⟨rfl, hb3⟩
  have q3 := (hb3.block _ (bld_ltS Q1.out)).trans Q1.out
  have v0 : w3.cell? ⟨w.heap.size + 1, 0, none⟩ = some (.int .i64 0) := by rw [cell_of_row w3 _ _ _ _ _ q3]; rfl
  have v1 : w3.cell? ⟨w.heap.size + 1, 1, none⟩ = some (.string ⟨#[]⟩) := by rw [cell_of_row w3 _ _ _ _ _ q3]; rfl
  have v2 : w3.cell? ⟨w.heap.size + 1, 2, none⟩ = some (.string ⟨#[]⟩) := by rw [cell_of_row w3 _ _ _ _ _ q3]; rfl
  have v3 : w3.cell? ⟨w.heap.size + 1, 3, none⟩ = some (.bool false) := by rw [cell_of_row w3 _ _ _ _ _ q3]; rfl
  have k0 := row_frozen q3 0
  have k1 := row_frozen q3 1
  have k2 := row_frozen q3 2
  have k3 := row_frozen q3 3
  have Q3 := Lib.hid q3
  have BV := Lib.hid (BX.out.trans (hb3.mono BX.out.size))
  clear q3 hb3
  go_wp2
  obtain ⟨⟨r0, r1, r2, r3⟩, RB⟩ := st_set Q3.out (.int .i64 (M2 : Int)) (.string (mkS T2)) (.string (mkS A2)) (.bool E2)
  exact bodyPost_ret (v := .agg #[.int .i64 (M2 : Int), .string (mkS T2), .string (mkS A2), .bool E2]) (by simp [results, Try.results71, go_sem, r0, r1, r2, r3]) rfl ⟨by rw [hlt]; rfl, RB _ _ (by omega) BV.out⟩
set_option maxRecDepth 100000 in
set_option maxHeartbeats 3200000 in
theorem tag_2d (T A : List UInt8) (EE : Bool) (b : UInt8) (h1 : b ≠ 62) (h2 : b ≠ 32) (hl : letB b = false) (hd : digB b = true) (hT : T.length ≤ 1000) (w : World) :
    Calls Try.prog 71 #[stV ⟨2, T, A, EE⟩, .int .u8 (b.toNat : Int)] w fun e w' => e = .returned (stV (longT ⟨2, T, A, EE⟩ b)) ∧ Below w.heap.size w w' := by
  have hb62 : ((b.toNat : Int) == 62) = false := bneN (n := 62) 62 rfl h1
  have hb32 : ((b.toNat : Int) == 32) = false := bneN (n := 32) 32 rfl h2
  have CL := Lib.hid (fun W => (hl ▸ impl_isLetter b W : Calls Try.prog 70 #[.int .u8 (b.toNat : Int)] W fun e w' => e = .returned (.bool false) ∧ W = w'))
  have CD := Lib.hid (fun W => (hd ▸ impl_isDigit b W : Calls Try.prog 73 #[.int .u8 (b.toNat : Int)] W fun e w' => e = .returned (.bool true) ∧ W = w'))
  have CG := Lib.hid (fun W => longer_T ⟨2, T, A, EE⟩ b W hT)
  rw [st_agg] at CG
  obtain ⟨M2, T2, A2, E2, hlt⟩ : ∃ M2 T2 A2 E2, longT ⟨2, T, A, EE⟩ b = ⟨M2, T2, A2, E2⟩ := ⟨_, _, _, _, rfl⟩
  rw [hlt, st_agg] at CG
  obtain ⟨⟨p0, p1⟩, bx⟩ := two_new w (.cells #[.int .i64 2, .string (mkS T), .string (mkS A), .bool EE] 57 (0, 0)) (.cells #[.int .i64 0, .string ⟨#[]⟩, .string ⟨#[]⟩, .bool false] 57 (0, 0))
  rw [st_agg 2]
  have Q0 := Lib.hid p0; have Q1 := Lib.hid p1; have BX := Lib.hid bx
  clear p0 p1 bx h1 h2 hl hd hT
  go_enter Try.func71, Try.ntmps71
  go_wp2_with (first | (go_at_call 70; refine (CL.out _).mono ?_; rintro e w2 ⟨rfl, rfl⟩) | (go_at_call 73; refine (CD.out _).mono ?_; rintro e w2 ⟨rfl, rfl⟩))
  refine (CG.out _).mono ?_
  rintro e w3 ⟨rfl, hb3⟩
  have q3 := (hb3.block _ (bld_ltS Q1.out)).trans Q1.out
  have v0 : w3.cell? ⟨w.heap.size + 1, 0, none⟩ = some (.int .i64 0) := by rw [cell_of_row w3 _ _ _ _ _ q3]; rfl
  have v1 : w3.cell? ⟨w.heap.size + 1, 1, none⟩ = some (.string ⟨#[]⟩) := by rw [cell_of_row w3 _ _ _ _ _ q3]; rfl
  have v2 : w3.cell? ⟨w.heap.size + 1, 2, none⟩ = some (.string ⟨#[]⟩) := by rw [cell_of_row w3 _ _ _ _ _ q3]; rfl
  have v3 : w3.cell? ⟨w.heap.size + 1, 3, none⟩ = some (.bool false) := by rw [cell_of_row w3 _ _ _ _ _ q3]; rfl
  have k0 := row_frozen q3 0
  have k1 := row_frozen q3 1
  have k2 := row_frozen q3 2
  have k3 := row_frozen q3 3
  have Q3 := Lib.hid q3
  have BV := Lib.hid (BX.out.trans (hb3.mono BX.out.size))
  clear q3 hb3
  go_wp2
  obtain ⟨⟨r0, r1, r2, r3⟩, RB⟩ := st_set Q3.out (.int .i64 (M2 : Int)) (.string (mkS T2)) (.string (mkS A2)) (.bool E2)
  exact bodyPost_ret (v := .agg #[.int .i64 (M2 : Int), .string (mkS T2), .string (mkS A2), .bool E2]) (by simp [results, Try.results71, go_sem, r0, r1, r2, r3]) rfl ⟨by rw [hlt]; rfl, RB _ _ (by omega) BV.out⟩
set_option maxRecDepth 100000 in
set_option maxHeartbeats 3200000 in
theorem tag_2m (T A : List UInt8) (EE : Bool) (b : UInt8) (h1 : b ≠ 62) (h2 : b ≠ 32) (hl : letB b = false) (hd : digB b = false) (hm : b = 45) (hT : T.length ≤ 1000) (w : World) :
    Calls Try.prog 71 #[stV ⟨2, T, A, EE⟩, .int .u8 (b.toNat : Int)] w fun e w' => e = .returned (stV (longT ⟨2, T, A, EE⟩ b)) ∧ Below w.heap.size w w' := by
  have hb62 : ((b.toNat : Int) == 62) = false := bneN (n := 62) 62 rfl h1
  have hb32 : ((b.toNat : Int) == 32) = false := bneN (n := 32) 32 rfl h2
  have CL := Lib.hid (fun W => (hl ▸ impl_isLetter b W : Calls Try.prog 70 #[.int .u8 (b.toNat : Int)] W fun e w' => e = .returned (.bool false) ∧ W = w'))
  have CD := Lib.hid (fun W => (hd ▸ impl_isDigit b W : Calls Try.prog 73 #[.int .u8 (b.toNat : Int)] W fun e w' => e = .returned (.bool false) ∧ W = w'))
  have hb45 : ((b.toNat : Int) == 45) = true := beqN (n := 45) 45 rfl hm
  have CG := Lib.hid (fun W => longer_T ⟨2, T, A, EE⟩ b W hT)
  rw [st_agg] at CG
  obtain ⟨M2, T2, A2, E2, hlt⟩ : ∃ M2 T2 A2 E2, longT ⟨2, T, A, EE⟩ b = ⟨M2, T2, A2, E2⟩ := ⟨_, _, _, _, rfl⟩
  rw [hlt, st_agg] at CG
  obtain ⟨⟨p0, p1⟩, bx⟩ := two_new w (.cells #[.int .i64 2, .string (mkS T), .string (mkS A), .bool EE] 57 (0, 0)) (.cells #[.int .i64 0, .string ⟨#[]⟩, .string ⟨#[]⟩, .bool false] 57 (0, 0))
  rw [st_agg 2]
  have Q0 := Lib.hid p0; have Q1 := Lib.hid p1; have BX := Lib.hid bx
  clear p0 p1 bx h1 h2 hl hd hm hT
  go_enter Try.func71, Try.ntmps71
  go_wp2_with (first | (go_at_call 70; refine (CL.out _).mono ?_; rintro e w2 ⟨rfl, rfl⟩) | (go_at_call 73; refine (CD.out _).mono ?_; rintro e w2 ⟨rfl, rfl⟩))
  refine (CG.out _).mono ?_
  rintro e w3 ⟨rfl, hb3⟩
  have q3 := (hb3.block _ (bld_ltS Q1.out)).trans Q1.out
  have v0 : w3.cell? ⟨w.heap.size + 1, 0, none⟩ = some (.int .i64 0) := by rw [cell_of_row w3 _ _ _ _ _ q3]; rfl
  have v1 : w3.cell? ⟨w.heap.size + 1, 1, none⟩ = some (.string ⟨#[]⟩) := by rw [cell_of_row w3 _ _ _ _ _ q3]; rfl
  have v2 : w3.cell? ⟨w.heap.size + 1, 2, none⟩ = some (.string ⟨#[]⟩) := by rw [cell_of_row w3 _ _ _ _ _ q3]; rfl
  have v3 : w3.cell? ⟨w.heap.size + 1, 3, none⟩ = some (.bool false) := by rw [cell_of_row w3 _ _ _ _ _ q3]; rfl
  have k0 := row_frozen q3 0
  have k1 := row_frozen q3 1
  have k2 := row_frozen q3 2
  have k3 := row_frozen q3 3
  have Q3 := Lib.hid q3
  have BV := Lib.hid (BX.out.trans (hb3.mono BX.out.size))
  clear q3 hb3
  go_wp2
  obtain ⟨⟨r0, r1, r2, r3⟩, RB⟩ := st_set Q3.out (.int .i64 (M2 : Int)) (.string (mkS T2)) (.string (mkS A2)) (.bool E2)
  exact bodyPost_ret (v := .agg #[.int .i64 (M2 : Int), .string (mkS T2), .string (mkS A2), .bool E2]) (by simp [results, Try.results71, go_sem, r0, r1, r2, r3]) rfl ⟨by rw [hlt]; rfl, RB _ _ (by omega) BV.out⟩
set_option maxRecDepth 100000 in
set_option maxHeartbeats 3200000 in
theorem tag_2n (T A : List UInt8) (EE : Bool) (b : UInt8) (h1 : b ≠ 62) (h2 : b ≠ 32) (hl : letB b = false) (hd : digB b = false) (hm : b ≠ 45) (w : World) :
    Calls Try.prog 71 #[stV ⟨2, T, A, EE⟩, .int .u8 (b.toNat : Int)] w fun e w' => e = .returned (stV badS) ∧ Below w.heap.size w w' := by
  have hb62 : ((b.toNat : Int) == 62) = false := bneN (n := 62) 62 rfl h1
  have hb32 : ((b.toNat : Int) == 32) = false := bneN (n := 32) 32 rfl h2
  have CL := Lib.hid (fun W => (hl ▸ impl_isLetter b W : Calls Try.prog 70 #[.int .u8 (b.toNat : Int)] W fun e w' => e = .returned (.bool false) ∧ W = w'))
  have CD := Lib.hid (fun W => (hd ▸ impl_isDigit b W : Calls Try.prog 73 #[.int .u8 (b.toNat : Int)] W fun e w' => e = .returned (.bool false) ∧ W = w'))
  have hb45 : ((b.toNat : Int) == 45) = false := bneN (n := 45) 45 rfl hm
  obtain ⟨⟨p0, p1⟩, bx⟩ := two_new w (.cells #[.int .i64 2, .string (mkS T), .string (mkS A), .bool EE] 57 (0, 0)) (.cells #[.int .i64 0, .string ⟨#[]⟩, .string ⟨#[]⟩, .bool false] 57 (0, 0))
  rw [st_agg 2]
  have Q0 := Lib.hid p0; have Q1 := Lib.hid p1; have BX := Lib.hid bx
  clear p0 p1 bx h1 h2 hl hd hm
  go_enter Try.func71, Try.ntmps71
  go_wp2_with (first | (go_at_call 70; refine (CL.out _).mono ?_; rintro e w2 ⟨rfl, rfl⟩) | (go_at_call 73; refine (CD.out _).mono ?_; rintro e w2 ⟨rfl, rfl⟩))
  exact bodyPost_ret (v := .agg #[.int .i64 15, .string ⟨#[]⟩, .string ⟨#[]⟩, .bool false]) (by simp [results, Try.results71, go_sem]) rfl ⟨rfl, ((Below.refl _ _).alloc (Nat.le_refl _) _).alloc (by simp) _⟩
set_option maxRecDepth 100000 in
set_option maxHeartbeats 3200000 in
theorem tag_3l (T A : List UInt8) (EE : Bool) (b : UInt8) (h1 : b ≠ 62) (h2 : b ≠ 32) (hl : letB b = true) (hA : A.length ≤ 1000) (w : World) :
    Calls Try.prog 71 #[stV ⟨3, T, A, EE⟩, .int .u8 (b.toNat : Int)] w fun e w' => e = .returned (stV (longA ⟨4, T, A, EE⟩ b)) ∧ Below w.heap.size w w' := by
  have hb62 : ((b.toNat : Int) == 62) = false := bneN (n := 62) 62 rfl h1
  have hb32 : ((b.toNat : Int) == 32) = false := bneN (n := 32) 32 rfl h2
  have CL := Lib.hid (fun W => (hl ▸ impl_isLetter b W : Calls Try.prog 70 #[.int .u8 (b.toNat : Int)] W fun e w' => e = .returned (.bool true) ∧ W = w'))
  have CG := Lib.hid (fun W => longer_A ⟨4, T, A, EE⟩ b W hA)
  rw [st_agg] at CG
  obtain ⟨M2, T2, A2, E2, hlt⟩ : ∃ M2 T2 A2 E2, longA ⟨4, T, A, EE⟩ b = ⟨M2, T2, A2, E2⟩ := ⟨_, _, _, _, rfl⟩
  rw [hlt, st_agg] at CG
  obtain ⟨⟨p0, p1⟩, bx⟩ := two_new w (.cells #[.int .i64 4, .string (mkS T), .string (mkS A), .bool EE] 57 (0, 0)) (.cells #[.int .i64 0, .string ⟨#[]⟩, .string ⟨#[]⟩, .bool false] 57 (0, 0))
  rw [st_agg 3]
  have Q0 := Lib.hid p0; have Q1 := Lib.hid p1; have BX := Lib.hid bx
  clear p0 p1 bx h1 h2 hl hA
  go_enter Try.func71, Try.ntmps71
  go_wp2_with (first | (go_at_call 70; refine (CL.out _).mono ?_; rintro e w2 ⟨rfl, rfl⟩))
  refine (CG.out _).mono ?_
  rintro e w3 ⟨rfl, hb3⟩
  have q3 := (hb3.block _ (bld_ltS Q1.out)).trans Q1.out
  have v0 : w3.cell? ⟨w.heap.size + 1, 0, none⟩ = some (.int .i64 0) := by rw [cell_of_row w3 _ _ _ _ _ q3]; rfl
  have v1 : w3.cell? ⟨w.heap.size + 1, 1, none⟩ = some (.string ⟨#[]⟩) := by rw [cell_of_row w3 _ _ _ _ _ q3]; rfl
  have v2 : w3.cell? ⟨w.heap.size + 1, 2, none⟩ = some (.string ⟨#[]⟩) := by rw [cell_of_row w3 _ _ _ _ _ q3]; rfl
  have v3 : w3.cell? ⟨w.heap.size + 1, 3, none⟩ = some (.bool false) := by rw [cell_of_row w3 _ _ _ _ _ q3]; rfl
  have k0 := row_frozen q3 0
  have k1 := row_frozen q3 1
  have k2 := row_frozen q3 2
  have k3 := row_frozen q3 3
  have Q3 := Lib.hid q3
  have BV := Lib.hid (BX.out.trans (hb3.mono BX.out.size))
  clear q3 hb3
  go_wp2
  obtain ⟨⟨r0, r1, r2, r3⟩, RB⟩ := st_set Q3.out (.int .i64 (M2 : Int)) (.string (mkS T2)) (.string (mkS A2)) (.bool E2)
  exact bodyPost_ret (v := .agg #[.int .i64 (M2 : Int), .string (mkS T2), .string (mkS A2), .bool E2]) (by simp [results, Try.results71, go_sem, r0, r1, r2, r3]) rfl ⟨by rw [hlt]; rfl, RB _ _ (by omega) BV.out⟩
set_option maxRecDepth 100000 in
set_option maxHeartbeats 3200000 in
theorem tag_3d (T A : List UInt8) (EE : Bool) (b : UInt8) (h1 : b ≠ 62) (h2 : b ≠ 32) (hl : letB b = false) (hd : digB b = true) (w : World) :
    Calls Try.prog 71 #[stV ⟨3, T, A, EE⟩, .int .u8 (b.toNat : Int)] w fun e w' => e = .returned (stV badS) ∧ Below w.heap.size w w' := by
  have hb62 : ((b.toNat : Int) == 62) = false := bneN (n := 62) 62 rfl h1
  have hb32 : ((b.toNat : Int) == 32) = false := bneN (n := 32) 32 rfl h2
  have CL := Lib.hid (fun W => (hl ▸ impl_isLetter b W : Calls Try.prog 70 #[.int .u8 (b.toNat : Int)] W fun e w' => e = .returned (.bool false) ∧ W = w'))
  have CD := Lib.hid (fun W => (hd ▸ impl_isDigit b W : Calls Try.prog 73 #[.int .u8 (b.toNat : Int)] W fun e w' => e = .returned (.bool true) ∧ W = w'))
  obtain ⟨⟨p0, p1⟩, bx⟩ := two_new w (.cells #[.int .i64 3, .string (mkS T), .string (mkS A), .bool EE] 57 (0, 0)) (.cells #[.int .i64 0, .string ⟨#[]⟩, .string ⟨#[]⟩, .bool false] 57 (0, 0))
  rw [st_agg 3]
  have Q0 := Lib.hid p0; have Q1 := Lib.hid p1; have BX := Lib.hid bx
  clear p0 p1 bx h1 h2 hl hd
  go_enter Try.func71, Try.ntmps71
  go_wp2_with (first | (go_at_call 70; refine (CL.out _).mono ?_; rintro e w2 ⟨rfl, rfl⟩) | (go_at_call 73; refine (CD.out _).mono ?_; rintro e w2 ⟨rfl, rfl⟩))
  exact bodyPost_ret (v := .agg #[.int .i64 15, .string ⟨#[]⟩, .string ⟨#[]⟩, .bool false]) (by simp [results, Try.results71, go_sem]) rfl ⟨rfl, ((Below.refl _ _).alloc (Nat.le_refl _) _).alloc (by simp) _⟩
set_option maxRecDepth 100000 in
set_option maxHeartbeats 3200000 in
theorem tag_3m (T A : List UInt8) (EE : Bool) (b : UInt8) (h1 : b ≠ 62) (h2 : b ≠ 32) (hl : letB b = false) (hd : digB b = false) (hm : b = 45) (w : World) :
    Calls Try.prog 71 #[stV ⟨3, T, A, EE⟩, .int .u8 (b.toNat : Int)] w fun e w' => e = .returned (stV badS) ∧ Below w.heap.size w w' := by
  have hb62 : ((b.toNat : Int) == 62) = false := bneN (n := 62) 62 rfl h1
  have hb32 : ((b.toNat : Int) == 32) = false := bneN (n := 32) 32 rfl h2
  have CL := Lib.hid (fun W => (hl ▸ impl_isLetter b W : Calls Try.prog 70 #[.int .u8 (b.toNat : Int)] W fun e w' => e = .returned (.bool false) ∧ W = w'))
  have CD := Lib.hid (fun W => (hd ▸ impl_isDigit b W : Calls Try.prog 73 #[.int .u8 (b.toNat : Int)] W fun e w' => e = .returned (.bool false) ∧ W = w'))
  have hb45 : ((b.toNat : Int) == 45) = true := beqN (n := 45) 45 rfl hm
  obtain ⟨⟨p0, p1⟩, bx⟩ := two_new w (.cells #[.int .i64 3, .string (mkS T), .string (mkS A), .bool EE] 57 (0, 0)) (.cells #[.int .i64 0, .string ⟨#[]⟩, .string ⟨#[]⟩, .bool false] 57 (0, 0))
  rw [st_agg 3]
  have Q0 := Lib.hid p0; have Q1 := Lib.hid p1; have BX := Lib.hid bx
  clear p0 p1 bx h1 h2 hl hd hm
  go_enter Try.func71, Try.ntmps71
  go_wp2_with (first | (go_at_call 70; refine (CL.out _).mono ?_; rintro e w2 ⟨rfl, rfl⟩) | (go_at_call 73; refine (CD.out _).mono ?_; rintro e w2 ⟨rfl, rfl⟩))
  exact bodyPost_ret (v := .agg #[.int .i64 15, .string ⟨#[]⟩, .string ⟨#[]⟩, .bool false]) (by simp [results, Try.results71, go_sem]) rfl ⟨rfl, ((Below.refl _ _).alloc (Nat.le_refl _) _).alloc (by simp) _⟩
set_option maxRecDepth 100000 in
set_option maxHeartbeats 3200000 in
theorem tag_3n (T A : List UInt8) (EE : Bool) (b : UInt8) (h1 : b ≠ 62) (h2 : b ≠ 32) (hl : letB b = false) (hd : digB b = false) (hm : b ≠ 45) (w : World) :
    Calls Try.prog 71 #[stV ⟨3, T, A, EE⟩, .int .u8 (b.toNat : Int)] w fun e w' => e = .returned (stV badS) ∧ Below w.heap.size w w' := by
  have hb62 : ((b.toNat : Int) == 62) = false := bneN (n := 62) 62 rfl h1
  have hb32 : ((b.toNat : Int) == 32) = false := bneN (n := 32) 32 rfl h2
  have CL := Lib.hid (fun W => (hl ▸ impl_isLetter b W : Calls Try.prog 70 #[.int .u8 (b.toNat : Int)] W fun e w' => e = .returned (.bool false) ∧ W = w'))
  have CD := Lib.hid (fun W => (hd ▸ impl_isDigit b W : Calls Try.prog 73 #[.int .u8 (b.toNat : Int)] W fun e w' => e = .returned (.bool false) ∧ W = w'))
  have hb45 : ((b.toNat : Int) == 45) = false := bneN (n := 45) 45 rfl hm
  obtain ⟨⟨p0, p1⟩, bx⟩ := two_new w (.cells #[.int .i64 3, .string (mkS T), .string (mkS A), .bool EE] 57 (0, 0)) (.cells #[.int .i64 0, .string ⟨#[]⟩, .string ⟨#[]⟩, .bool false] 57 (0, 0))
  rw [st_agg 3]
  have Q0 := Lib.hid p0; have Q1 := Lib.hid p1; have BX := Lib.hid bx
  clear p0 p1 bx h1 h2 hl hd hm
  go_enter Try.func71, Try.ntmps71
  go_wp2_with (first | (go_at_call 70; refine (CL.out _).mono ?_; rintro e w2 ⟨rfl, rfl⟩) | (go_at_call 73; refine (CD.out _).mono ?_; rintro e w2 ⟨rfl, rfl⟩))
  exact bodyPost_ret (v := .agg #[.int .i64 15, .string ⟨#[]⟩, .string ⟨#[]⟩, .bool false]) (by simp [results, Try.results71, go_sem]) rfl ⟨rfl, ((Below.refl _ _).alloc (Nat.le_refl _) _).alloc (by simp) _⟩
set_option maxRecDepth 100000 in
set_option maxHeartbeats 3200000 in
theorem tag_4l (T A : List UInt8) (EE : Bool) (b : UInt8) (h1 : b ≠ 62) (h2 : b ≠ 32) (hl : letB b = true) (hA : A.length ≤ 1000) (w : World) :
    Calls Try.prog 71 #[stV ⟨4, T, A, EE⟩, .int .u8 (b.toNat : Int)] w fun e w' => e = .returned (stV (longA ⟨4, T, A, EE⟩ b)) ∧ Below w.heap.size w w' := by
  have hb62 : ((b.toNat : Int) == 62) = false := bneN (n := 62) 62 rfl h1
  have hb32 : ((b.toNat : Int) == 32) = false := bneN (n := 32) 32 rfl h2
  have CL := Lib.hid (fun W => (hl ▸ impl_isLetter b W : Calls Try.prog 70 #[.int .u8 (b.toNat : Int)] W fun e w' => e = .returned (.bool true) ∧ W = w'))
  have CG := Lib.hid (fun W => longer_A ⟨4, T, A, EE⟩ b W hA)
  rw [st_agg] at CG
  obtain ⟨M2, T2, A2, E2, hlt⟩ : ∃ M2 T2 A2 E2, longA ⟨4, T, A, EE⟩ b = ⟨M2, T2, A2, E2⟩ := ⟨_, _, _, _, rfl⟩
  rw [hlt, st_agg] at CG
  obtain ⟨⟨p0, p1⟩, bx⟩ := two_new w (.cells #[.int .i64 4, .string (mkS T), .string (mkS A), .bool EE] 57 (0, 0)) (.cells #[.int .i64 0, .string ⟨#[]⟩, .string ⟨#[]⟩, .bool false] 57 (0, 0))
  rw [st_agg 4]
  have Q0 := Lib.hid p0; have Q1 := Lib.hid p1; have BX := Lib.hid bx
  clear p0 p1 bx h1 h2 hl hA
  go_enter Try.func71, Try.ntmps71
  go_wp2_with (first | (go_at_call 70; refine (CL.out _).mono ?_; rintro e w2 ⟨rfl, rfl⟩))
  refine (CG.out _).mono ?_
  rintro e w3 ⟨rfl, hb3⟩
  have q3 := (hb3.block _ (bld_ltS Q1.out)).trans Q1.out
  have v0 : w3.cell? ⟨w.heap.size + 1, 0, none⟩ = some (.int .i64 0) := by rw [cell_of_row w3 _ _ _ _ _ q3]; rfl
  have v1 : w3.cell? ⟨w.heap.size + 1, 1, none⟩ = some (.string ⟨#[]⟩) := by rw [cell_of_row w3 _ _ _ _ _ q3]; rfl
  have v2 : w3.cell? ⟨w.heap.size + 1, 2, none⟩ = some (.string ⟨#[]⟩) := by rw [cell_of_row w3 _ _ _ _ _ q3]; rfl
  have v3 : w3.cell? ⟨w.heap.size + 1, 3, none⟩ = some (.bool false) := by rw [cell_of_row w3 _ _ _ _ _ q3]; rfl
  have k0 := row_frozen q3 0
  have k1 := row_frozen q3 1
  have k2 := row_frozen q3 2
  have k3 := row_frozen q3 3
  have Q3 := Lib.hid q3
  have BV := Lib.hid (BX.out.trans (hb3.mono BX.out.size))
  clear q3 hb3
  go_wp2
  obtain ⟨⟨r0, r1, r2, r3⟩, RB⟩ := st_set Q3.out (.int .i64 (M2 : Int)) (.string (mkS T2)) (.string (mkS A2)) (.bool E2)
  exact bodyPost_ret (v := .agg #[.int .i64 (M2 : Int), .string (mkS T2), .string (mkS A2), .bool E2]) (by simp [results, Try.results71, go_sem, r0, r1, r2, r3]) rfl ⟨by rw [hlt]; rfl, RB _ _ (by omega) BV.out⟩
set_option maxRecDepth 100000 in
set_option maxHeartbeats 3200000 in
theorem tag_4d (T A : List UInt8) (EE : Bool) (b : UInt8) (h1 : b ≠ 62) (h2 : b ≠ 32) (hl : letB b = false) (hd : digB b = true) (hA : A.length ≤ 1000) (w : World) :
    Calls Try.prog 71 #[stV ⟨4, T, A, EE⟩, .int .u8 (b.toNat : Int)] w fun e w' => e = .returned (stV (longA ⟨4, T, A, EE⟩ b)) ∧ Below w.heap.size w w' := by
  have hb62 : ((b.toNat : Int) == 62) = false := bneN (n := 62) 62 rfl h1
  have hb32 : ((b.toNat : Int) == 32) = false := bneN (n := 32) 32 rfl h2
  have CL := Lib.hid (fun W => (hl ▸ impl_isLetter b W : Calls Try.prog 70 #[.int .u8 (b.toNat : Int)] W fun e w' => e = .returned (.bool false) ∧ W = w'))
  have CD := Lib.hid (fun W => (hd ▸ impl_isDigit b W : Calls Try.prog 73 #[.int .u8 (b.toNat : Int)] W fun e w' => e = .returned (.bool true) ∧ W = w'))
  have CG := Lib.hid (fun W => longer_A ⟨4, T, A, EE⟩ b W hA)
  rw [st_agg] at CG
  obtain ⟨M2, T2, A2, E2, hlt⟩ : ∃ M2 T2 A2 E2, longA ⟨4, T, A, EE⟩ b = ⟨M2, T2, A2, E2⟩ := ⟨_, _, _, _, rfl⟩
  rw [hlt, st_agg] at CG
  obtain ⟨⟨p0, p1⟩, bx⟩ := two_new w (.cells #[.int .i64 4, .string (mkS T), .string (mkS A), .bool EE] 57 (0, 0)) (.cells #[.int .i64 0, .string ⟨#[]⟩, .string ⟨#[]⟩, .bool false] 57 (0, 0))
  rw [st_agg 4]
  have Q0 := Lib.hid p0; have Q1 := Lib.hid p1; have BX := Lib.hid bx
  clear p0 p1 bx h1 h2 hl hd hA
  go_enter Try.func71, Try.ntmps71
  go_wp2_with (first | (go_at_call 70; refine (CL.out _).mono ?_; rintro e w2 ⟨rfl, rfl⟩) | (go_at_call 73; refine (CD.out _).mono ?_; rintro e w2 ⟨rfl, rfl⟩))
  refine (CG.out _).mono ?_
  rintro e w3 ⟨rfl, hb3⟩
  have q3 := (hb3.block _ (bld_ltS Q1.out)).trans Q1.out
  have v0 : w3.cell? ⟨w.heap.size + 1, 0, none⟩ = some (.int .i64 0) := by rw [cell_of_row w3 _ _ _ _ _ q3]; rfl
  have v1 : w3.cell? ⟨w.heap.size + 1, 1, none⟩ = some (.string ⟨#[]⟩) := by rw [cell_of_row w3 _ _ _ _ _ q3]; rfl
  have v2 : w3.cell? ⟨w.heap.size + 1, 2, none⟩ = some (.string ⟨#[]⟩) := by rw [cell_of_row w3 _ _ _ _ _ q3]; rfl
  have v3 : w3.cell? ⟨w.heap.size + 1, 3, none⟩ = some (.bool false) := by rw [cell_of_row w3 _ _ _ _ _ q3]; rfl
  have k0 := row_frozen q3 0
  have k1 := row_frozen q3 1
  have k2 := row_frozen q3 2
  have k3 := row_frozen q3 3
  have Q3 := Lib.hid q3
  have BV := Lib.hid (BX.out.trans (hb3.mono BX.out.size))
  clear q3 hb3
  go_wp2
  obtain ⟨⟨r0, r1, r2, r3⟩, RB⟩ := st_set Q3.out (.int .i64 (M2 : Int)) (.string (mkS T2)) (.string (mkS A2)) (.bool E2)
  exact bodyPost_ret (v := .agg #[.int .i64 (M2 : Int), .string (mkS T2), .string (mkS A2), .bool E2]) (by simp [results, Try.results71, go_sem, r0, r1, r2, r3]) rfl ⟨by rw [hlt]; rfl, RB _ _ (by omega) BV.out⟩
set_option maxRecDepth 100000 in
set_option maxHeartbeats 3200000 in
theorem tag_4m (T A : List UInt8) (EE : Bool) (b : UInt8) (h1 : b ≠ 62) (h2 : b ≠ 32) (hl : letB b = false) (hd : digB b = false) (hm : b = 45) (hA : A.length ≤ 1000) (w : World) :
    Calls Try.prog 71 #[stV ⟨4, T, A, EE⟩, .int .u8 (b.toNat : Int)] w fun e w' => e = .returned (stV (longA ⟨4, T, A, EE⟩ b)) ∧ Below w.heap.size w w' := by
  have hb62 : ((b.toNat : Int) == 62) = false := bneN (n := 62) 62 rfl h1
  have hb32 : ((b.toNat : Int) == 32) = false := bneN (n := 32) 32 rfl h2
  have CL := Lib.hid (fun W => (hl ▸ impl_isLetter b W : Calls Try.prog 70 #[.int .u8 (b.toNat : Int)] W fun e w' => e = .returned (.bool false) ∧ W = w'))
  have CD := Lib.hid (fun W => (hd ▸ impl_isDigit b W : Calls Try.prog 73 #[.int .u8 (b.toNat : Int)] W fun e w' => e = .returned (.bool false) ∧ W = w'))
  have hb45 : ((b.toNat : Int) == 45) = true := beqN (n := 45) 45 rfl hm
  have CG := Lib.hid (fun W => longer_A ⟨4, T, A, EE⟩ b W hA)
  rw [st_agg] at CG
  obtain ⟨M2, T2, A2, E2, hlt⟩ : ∃ M2 T2 A2 E2, longA ⟨4, T, A, EE⟩ b = ⟨M2, T2, A2, E2⟩ := ⟨_, _, _, _, rfl⟩
  rw [hlt, st_agg] at CG
  obtain ⟨⟨p0, p1⟩, bx⟩ := two_new w (.cells #[.int .i64 4, .string (mkS T), .string (mkS A), .bool EE] 57 (0, 0)) (.cells #[.int .i64 0, .string ⟨#[]⟩, .string ⟨#[]⟩, .bool false] 57 (0, 0))
  rw [st_agg 4]
  have Q0 := Lib.hid p0; have Q1 := Lib.hid p1; have BX := Lib.hid bx
  clear p0 p1 bx h1 h2 hl hd hm hA
  go_enter Try.func71, Try.ntmps71
  go_wp2_with (first | (go_at_call 70; refine (CL.out _).mono ?_; rintro e w2 ⟨rfl, rfl⟩) | (go_at_call 73; refine (CD.out _).mono ?_; rintro e w2 ⟨rfl, rfl⟩))
  refine (CG.out _).mono ?_
  rintro e w3 ⟨rfl, hb3⟩
  have q3 := (hb3.block _ (bld_ltS Q1.out)).trans Q1.out
  have v0 : w3.cell? ⟨w.heap.size + 1, 0, none⟩ = some (.int .i64 0) := by rw [cell_of_row w3 _ _ _ _ _ q3]; rfl
  have v1 : w3.cell? ⟨w.heap.size + 1, 1, none⟩ = some (.string ⟨#[]⟩) := by rw [cell_of_row w3 _ _ _ _ _ q3]; rfl
  have v2 : w3.cell? ⟨w.heap.size + 1, 2, none⟩ = some (.string ⟨#[]⟩) := by rw [cell_of_row w3 _ _ _ _ _ q3]; rfl
  have v3 : w3.cell? ⟨w.heap.size + 1, 3, none⟩ = some (.bool false) := by rw [cell_of_row w3 _ _ _ _ _ q3]; rfl
  have k0 := row_frozen q3 0
  have k1 := row_frozen q3 1
  have k2 := row_frozen q3 2
  have k3 := row_frozen q3 3
  have Q3 := Lib.hid q3
  have BV := Lib.hid (BX.out.trans (hb3.mono BX.out.size))
  clear q3 hb3
  go_wp2
  obtain ⟨⟨r0, r1, r2, r3⟩, RB⟩ := st_set Q3.out (.int .i64 (M2 : Int)) (.string (mkS T2)) (.string (mkS A2)) (.bool E2)
  exact bodyPost_ret (v := .agg #[.int .i64 (M2 : Int), .string (mkS T2), .string (mkS A2), .bool E2]) (by simp [results, Try.results71, go_sem, r0, r1, r2, r3]) rfl ⟨by rw [hlt]; rfl, RB _ _ (by omega) BV.out⟩
set_option maxRecDepth 100000 in
set_option maxHeartbeats 3200000 in
theorem tag_4e (T A : List UInt8) (EE : Bool) (b : UInt8) (he : b = 61) (w : World) :
    Calls Try.prog 71 #[stV ⟨4, T, A, EE⟩, .int .u8 (b.toNat : Int)] w fun e w' => e = .returned (stV ⟨5, T, A, EE⟩) ∧ Below w.heap.size w w' := by
  have h1 : b ≠ 62 := by subst he; decide
  have h2 : b ≠ 32 := by subst he; decide
  have hl : letB b = false := by subst he; decide
  have hd : digB b = false := by subst he; decide
  have hm : b ≠ 45 := by subst he; decide
  have hb62 : ((b.toNat : Int) == 62) = false := bneN (n := 62) 62 rfl h1
  have hb32 : ((b.toNat : Int) == 32) = false := bneN (n := 32) 32 rfl h2
  have CL := Lib.hid (fun W => (hl ▸ impl_isLetter b W : Calls Try.prog 70 #[.int .u8 (b.toNat : Int)] W fun e w' => e = .returned (.bool false) ∧ W = w'))
  have CD := Lib.hid (fun W => (hd ▸ impl_isDigit b W : Calls Try.prog 73 #[.int .u8 (b.toNat : Int)] W fun e w' => e = .returned (.bool false) ∧ W = w'))
  have hb45 : ((b.toNat : Int) == 45) = false := bneN (n := 45) 45 rfl hm
  have hb61 : ((b.toNat : Int) == 61) = true := beqN (n := 61) 61 rfl he
  obtain ⟨⟨p0, p1⟩, bx⟩ := two_new w (.cells #[.int .i64 4, .string (mkS T), .string (mkS A), .bool EE] 57 (0, 0)) (.cells #[.int .i64 0, .string ⟨#[]⟩, .string ⟨#[]⟩, .bool false] 57 (0, 0))
  rw [st_agg 4]
  have Q0 := Lib.hid p0; have Q1 := Lib.hid p1; have BX := Lib.hid bx
  clear p0 p1 bx h1 h2 hl hd hm he
  go_enter Try.func71, Try.ntmps71
  go_wp2_with (first | (go_at_call 70; refine (CL.out _).mono ?_; rintro e w2 ⟨rfl, rfl⟩) | (go_at_call 73; refine (CD.out _).mono ?_; rintro e w2 ⟨rfl, rfl⟩))
  exact bodyPost_ret (v := .agg #[.int .i64 5, .string (mkS T), .string (mkS A), .bool EE]) (by simp [results, Try.results71, go_sem]) rfl ⟨rfl, ((Below.refl _ _).alloc (Nat.le_refl _) _).alloc (by simp) _⟩
set_option maxRecDepth 100000 in
set_option maxHeartbeats 3200000 in
theorem tag_4n (T A : List UInt8) (EE : Bool) (b : UInt8) (h1 : b ≠ 62) (h2 : b ≠ 32) (hl : letB b = false) (hd : digB b = false) (hm : b ≠ 45) (he : b ≠ 61) (w : World) :
    Calls Try.prog 71 #[stV ⟨4, T, A, EE⟩, .int .u8 (b.toNat : Int)] w fun e w' => e = .returned (stV badS) ∧ Below w.heap.size w w' := by
  have hb62 : ((b.toNat : Int) == 62) = false := bneN (n := 62) 62 rfl h1
  have hb32 : ((b.toNat : Int) == 32) = false := bneN (n := 32) 32 rfl h2
  have CL := Lib.hid (fun W => (hl ▸ impl_isLetter b W : Calls Try.prog 70 #[.int .u8 (b.toNat : Int)] W fun e w' => e = .returned (.bool false) ∧ W = w'))
  have CD := Lib.hid (fun W => (hd ▸ impl_isDigit b W : Calls Try.prog 73 #[.int .u8 (b.toNat : Int)] W fun e w' => e = .returned (.bool false) ∧ W = w'))
  have hb45 : ((b.toNat : Int) == 45) = false := bneN (n := 45) 45 rfl hm
  have hb61 : ((b.toNat : Int) == 61) = false := bneN (n := 61) 61 rfl he
  obtain ⟨⟨p0, p1⟩, bx⟩ := two_new w (.cells #[.int .i64 4, .string (mkS T), .string (mkS A), .bool EE] 57 (0, 0)) (.cells #[.int .i64 0, .string ⟨#[]⟩, .string ⟨#[]⟩, .bool false] 57 (0, 0))
  rw [st_agg 4]
  have Q0 := Lib.hid p0; have Q1 := Lib.hid p1; have BX := Lib.hid bx
  clear p0 p1 bx h1 h2 hl hd hm he
  go_enter Try.func71, Try.ntmps71
  go_wp2_with (first | (go_at_call 70; refine (CL.out _).mono ?_; rintro e w2 ⟨rfl, rfl⟩) | (go_at_call 73; refine (CD.out _).mono ?_; rintro e w2 ⟨rfl, rfl⟩))
  exact bodyPost_ret (v := .agg #[.int .i64 15, .string ⟨#[]⟩, .string ⟨#[]⟩, .bool false]) (by simp [results, Try.results71, go_sem]) rfl ⟨rfl, ((Below.refl _ _).alloc (Nat.le_refl _) _).alloc (by simp) _⟩
set_option maxRecDepth 100000 in
set_option maxHeartbeats 3200000 in
theorem tag_8lb (T A : List UInt8) (EE : Bool) (b : UInt8) (h1 : b ≠ 62) (h2 : b ≠ 32) (hl : letB b = true) (hbb : bareB b = true) (w : World) :
    Calls Try.prog 71 #[stV ⟨8, T, A, EE⟩, .int .u8 (b.toNat : Int)] w fun e w' => e = .returned (stV ⟨8, T, A, EE⟩) ∧ Below w.heap.size w w' := by
  have hb62 : ((b.toNat : Int) == 62) = false := bneN (n := 62) 62 rfl h1
  have hb32 : ((b.toNat : Int) == 32) = false := bneN (n := 32) 32 rfl h2
  have CL := Lib.hid (fun W => (hl ▸ impl_isLetter b W : Calls Try.prog 70 #[.int .u8 (b.toNat : Int)] W fun e w' => e = .returned (.bool true) ∧ W = w'))
  have CB := Lib.hid (fun W => (hbb ▸ impl_bareByte b W : Calls Try.prog 72 #[.int .u8 (b.toNat : Int)] W fun e w' => e = .returned (.bool true) ∧ W = w'))
  obtain ⟨⟨p0, p1⟩, bx⟩ := two_new w (.cells #[.int .i64 8, .string (mkS T), .string (mkS A), .bool EE] 57 (0, 0)) (.cells #[.int .i64 0, .string ⟨#[]⟩, .string ⟨#[]⟩, .bool false] 57 (0, 0))
  rw [st_agg 8]
  have Q0 := Lib.hid p0; have Q1 := Lib.hid p1; have BX := Lib.hid bx
  clear p0 p1 bx h1 h2 hbb hl
  go_enter Try.func71, Try.ntmps71
  go_wp2_with (first | (go_at_call 70; refine (CL.out _).mono ?_; rintro e w2 ⟨rfl, rfl⟩) | (go_at_call 72; refine (CB.out _).mono ?_; rintro e w2 ⟨rfl, rfl⟩))
  exact bodyPost_ret (v := .agg #[.int .i64 8, .string (mkS T), .string (mkS A), .bool EE]) (by simp [results, Try.results71, go_sem]) rfl ⟨rfl, ((Below.refl _ _).alloc (Nat.le_refl _) _).alloc (by simp) _⟩
set_option maxRecDepth 100000 in
set_option maxHeartbeats 3200000 in
theorem tag_8db (T A : List UInt8) (EE : Bool) (b : UInt8) (h1 : b ≠ 62) (h2 : b ≠ 32) (hl : letB b = false) (hd : digB b = true) (hbb : bareB b = true) (w : World) :
    Calls Try.prog 71 #[stV ⟨8, T, A, EE⟩, .int .u8 (b.toNat : Int)] w fun e w' => e = .returned (stV ⟨8, T, A, EE⟩) ∧ Below w.heap.size w w' := by
  have hb62 : ((b.toNat : Int) == 62) = false := bneN (n := 62) 62 rfl h1
  have hb32 : ((b.toNat : Int) == 32) = false := bneN (n := 32) 32 rfl h2
  have CL := Lib.hid (fun W => (hl ▸ impl_isLetter b W : Calls Try.prog 70 #[.int .u8 (b.toNat : Int)] W fun e w' => e = .returned (.bool false) ∧ W = w'))
  have CD := Lib.hid (fun W => (hd ▸ impl_isDigit b W : Calls Try.prog 73 #[.int .u8 (b.toNat : Int)] W fun e w' => e = .returned (.bool true) ∧ W = w'))
  have CB := Lib.hid (fun W => (hbb ▸ impl_bareByte b W : Calls Try.prog 72 #[.int .u8 (b.toNat : Int)] W fun e w' => e = .returned (.bool true) ∧ W = w'))
  obtain ⟨⟨p0, p1⟩, bx⟩ := two_new w (.cells #[.int .i64 8, .string (mkS T), .string (mkS A), .bool EE] 57 (0, 0)) (.cells #[.int .i64 0, .string ⟨#[]⟩, .string ⟨#[]⟩, .bool false] 57 (0, 0))
  rw [st_agg 8]
  have Q0 := Lib.hid p0; have Q1 := Lib.hid p1; have BX := Lib.hid bx
  clear p0 p1 bx h1 h2 hbb hl hd
  go_enter Try.func71, Try.ntmps71
  go_wp2_with (first | (go_at_call 70; refine (CL.out _).mono ?_; rintro e w2 ⟨rfl, rfl⟩) | (go_at_call 73; refine (CD.out _).mono ?_; rintro e w2 ⟨rfl, rfl⟩) | (go_at_call 72; refine (CB.out _).mono ?_; rintro e w2 ⟨rfl, rfl⟩))
  exact bodyPost_ret (v := .agg #[.int .i64 8, .string (mkS T), .string (mkS A), .bool EE]) (by simp [results, Try.results71, go_sem]) rfl ⟨rfl, ((Below.refl _ _).alloc (Nat.le_refl _) _).alloc (by simp) _⟩
set_option maxRecDepth 100000 in
set_option maxHeartbeats 3200000 in
theorem tag_8mb (T A : List UInt8) (EE : Bool) (b : UInt8) (h1 : b ≠ 62) (h2 : b ≠ 32) (hl : letB b = false) (hd : digB b = false) (hm : b = 45) (hbb : bareB b = true) (w : World) :
    Calls Try.prog 71 #[stV ⟨8, T, A, EE⟩, .int .u8 (b.toNat : Int)] w fun e w' => e = .returned (stV ⟨8, T, A, EE⟩) ∧ Below w.heap.size w w' := by
  have hb62 : ((b.toNat : Int) == 62) = false := bneN (n := 62) 62 rfl h1
  have hb32 : ((b.toNat : Int) == 32) = false := bneN (n := 32) 32 rfl h2
  have CL := Lib.hid (fun W => (hl ▸ impl_isLetter b W : Calls Try.prog 70 #[.int .u8 (b.toNat : Int)] W fun e w' => e = .returned (.bool false) ∧ W = w'))
  have CD := Lib.hid (fun W => (hd ▸ impl_isDigit b W : Calls Try.prog 73 #[.int .u8 (b.toNat : Int)] W fun e w' => e = .returned (.bool false) ∧ W = w'))
  have hb45 : ((b.toNat : Int) == 45) = true := beqN (n := 45) 45 rfl hm
  have CB := Lib.hid (fun W => (hbb ▸ impl_bareByte b W : Calls Try.prog 72 #[.int .u8 (b.toNat : Int)] W fun e w' => e = .returned (.bool true) ∧ W = w'))
  obtain ⟨⟨p0, p1⟩, bx⟩ := two_new w (.cells #[.int .i64 8, .string (mkS T), .string (mkS A), .bool EE] 57 (0, 0)) (.cells #[.int .i64 0, .string ⟨#[]⟩, .string ⟨#[]⟩, .bool false] 57 (0, 0))
  rw [st_agg 8]
  have Q0 := Lib.hid p0; have Q1 := Lib.hid p1; have BX := Lib.hid bx
  clear p0 p1 bx h1 h2 hbb hl hd hm
  go_enter Try.func71, Try.ntmps71
  go_wp2_with (first | (go_at_call 70; refine (CL.out _).mono ?_; rintro e w2 ⟨rfl, rfl⟩) | (go_at_call 73; refine (CD.out _).mono ?_; rintro e w2 ⟨rfl, rfl⟩) | (go_at_call 72; refine (CB.out _).mono ?_; rintro e w2 ⟨rfl, rfl⟩))
  exact bodyPost_ret (v := .agg #[.int .i64 8, .string (mkS T), .string (mkS A), .bool EE]) (by simp [results, Try.results71, go_sem]) rfl ⟨rfl, ((Below.refl _ _).alloc (Nat.le_refl _) _).alloc (by simp) _⟩
set_option maxRecDepth 100000 in
set_option maxHeartbeats 3200000 in
theorem tag_8nb (T A : List UInt8) (EE : Bool) (b : UInt8) (h1 : b ≠ 62) (h2 : b ≠ 32) (hl : letB b = false) (hd : digB b = false) (hm : b ≠ 45) (hbb : bareB b = true) (w : World) :
    Calls Try.prog 71 #[stV ⟨8, T, A, EE⟩, .int .u8 (b.toNat : Int)] w fun e w' => e = .returned (stV ⟨8, T, A, EE⟩) ∧ Below w.heap.size w w' := by
  have hb62 : ((b.toNat : Int) == 62) = false := bneN (n := 62) 62 rfl h1
  have hb32 : ((b.toNat : Int) == 32) = false := bneN (n := 32) 32 rfl h2
  have CL := Lib.hid (fun W => (hl ▸ impl_isLetter b W : Calls Try.prog 70 #[.int .u8 (b.toNat : Int)] W fun e w' => e = .returned (.bool false) ∧ W = w'))
  have CD := Lib.hid (fun W => (hd ▸ impl_isDigit b W : Calls Try.prog 73 #[.int .u8 (b.toNat : Int)] W fun e w' => e = .returned (.bool false) ∧ W = w'))
  have hb45 : ((b.toNat : Int) == 45) = false := bneN (n := 45) 45 rfl hm
  have CB := Lib.hid (fun W => (hbb ▸ impl_bareByte b W : Calls Try.prog 72 #[.int .u8 (b.toNat : Int)] W fun e w' => e = .returned (.bool true) ∧ W = w'))
  obtain ⟨⟨p0, p1⟩, bx⟩ := two_new w (.cells #[.int .i64 8, .string (mkS T), .string (mkS A), .bool EE] 57 (0, 0)) (.cells #[.int .i64 0, .string ⟨#[]⟩, .string ⟨#[]⟩, .bool false] 57 (0, 0))
  rw [st_agg 8]
  have Q0 := Lib.hid p0; have Q1 := Lib.hid p1; have BX := Lib.hid bx
  clear p0 p1 bx h1 h2 hbb hl hd hm
  go_enter Try.func71, Try.ntmps71
  go_wp2_with (first | (go_at_call 70; refine (CL.out _).mono ?_; rintro e w2 ⟨rfl, rfl⟩) | (go_at_call 73; refine (CD.out _).mono ?_; rintro e w2 ⟨rfl, rfl⟩) | (go_at_call 72; refine (CB.out _).mono ?_; rintro e w2 ⟨rfl, rfl⟩))
  exact bodyPost_ret (v := .agg #[.int .i64 8, .string (mkS T), .string (mkS A), .bool EE]) (by simp [results, Try.results71, go_sem]) rfl ⟨rfl, ((Below.refl _ _).alloc (Nat.le_refl _) _).alloc (by simp) _⟩
set_option maxRecDepth 100000 in
set_option maxHeartbeats 3200000 in
theorem tag_8nn (T A : List UInt8) (EE : Bool) (b : UInt8) (h1 : b ≠ 62) (h2 : b ≠ 32) (hl : letB b = false) (hd : digB b = false) (hm : b ≠ 45) (hbb : bareB b = false) (w : World) :
    Calls Try.prog 71 #[stV ⟨8, T, A, EE⟩, .int .u8 (b.toNat : Int)] w fun e w' => e = .returned (stV badS) ∧ Below w.heap.size w w' := by
  have hb62 : ((b.toNat : Int) == 62) = false := bneN (n := 62) 62 rfl h1
  have hb32 : ((b.toNat : Int) == 32) = false := bneN (n := 32) 32 rfl h2
  have CL := Lib.hid (fun W => (hl ▸ impl_isLetter b W : Calls Try.prog 70 #[.int .u8 (b.toNat : Int)] W fun e w' => e = .returned (.bool false) ∧ W = w'))
  have CD := Lib.hid (fun W => (hd ▸ impl_isDigit b W : Calls Try.prog 73 #[.int .u8 (b.toNat : Int)] W fun e w' => e = .returned (.bool false) ∧ W = w'))
  have hb45 : ((b.toNat : Int) == 45) = false := bneN (n := 45) 45 rfl hm
  have CB := Lib.hid (fun W => (hbb ▸ impl_bareByte b W : Calls Try.prog 72 #[.int .u8 (b.toNat : Int)] W fun e w' => e = .returned (.bool false) ∧ W = w'))
  obtain ⟨⟨p0, p1⟩, bx⟩ := two_new w (.cells #[.int .i64 8, .string (mkS T), .string (mkS A), .bool EE] 57 (0, 0)) (.cells #[.int .i64 0, .string ⟨#[]⟩, .string ⟨#[]⟩, .bool false] 57 (0, 0))
  rw [st_agg 8]
  have Q0 := Lib.hid p0; have Q1 := Lib.hid p1; have BX := Lib.hid bx
  clear p0 p1 bx h1 h2 hbb hl hd hm
  go_enter Try.func71, Try.ntmps71
  go_wp2_with (first | (go_at_call 70; refine (CL.out _).mono ?_; rintro e w2 ⟨rfl, rfl⟩) | (go_at_call 73; refine (CD.out _).mono ?_; rintro e w2 ⟨rfl, rfl⟩) | (go_at_call 72; refine (CB.out _).mono ?_; rintro e w2 ⟨rfl, rfl⟩))
  exact bodyPost_ret (v := .agg #[.int .i64 15, .string ⟨#[]⟩, .string ⟨#[]⟩, .bool false]) (by simp [results, Try.results71, go_sem]) rfl ⟨rfl, ((Below.refl _ _).alloc (Nat.le_refl _) _).alloc (by simp) _⟩
theorem named_no {b : UInt8} (h : ¬ namedB b = true) : letB b = false ∧ digB b = false ∧ b ≠ 45 := by
  refine ⟨?_, ?_, ?_⟩
  · rcases hl : letB b with _ | _
    · rfl
    · exact absurd (let_named hl) h
  · rcases hl : digB b with _ | _
    · rfl
    · exact absurd (dig_named hl) h
  · intro e; subst e; exact h min_named
theorem named_yes {b : UInt8} (h : namedB b = true) : letB b = true ∨ (letB b = false ∧ digB b = true) ∨ (letB b = false ∧ digB b = false ∧ b = 45) := by
  unfold namedB at h
  rcases hl : letB b with _ | _
  · rcases hd : digB b with _ | _
    · rw [hl, hd] at h
      exact .inr (.inr ⟨rfl, rfl, by simpa using h⟩)
    · exact .inr (.inl ⟨rfl, rfl⟩)
  · exact .inl rfl
theorem bare_no {b : UInt8} (h : ¬ bareB b = true) : letB b = false ∧ digB b = false ∧ b ≠ 45 ∧ bareB b = false := by
  have hb : bareB b = false := by simpa using h
  refine ⟨?_, ?_, ?_, hb⟩
  · rcases hl : letB b with _ | _
    · rfl
    · exfalso; apply h; unfold bareB; rw [hl]; rfl
  · rcases hl : digB b with _ | _
    · rfl
    · exfalso; apply h; unfold bareB; rw [hl, Bool.or_true]; rfl
  · intro e; subst e; exact h rfl
/-- stepTag in general. -/
theorem impl_stepTag (s : St) (b : UInt8) (w : World) (hM : s.M = 2 ∨ s.M = 3 ∨ s.M = 4 ∨ s.M = 8) (hT : s.T.length ≤ 1000) (hA : s.A.length ≤ 1000) :
    Calls Try.prog 71 #[stV s, .int .u8 (b.toNat : Int)] w fun e w' => e = .returned (stV (tagM s b)) ∧ Below w.heap.size w w' := by
  obtain ⟨M, T, A, EE⟩ := s
  simp only at hM hT hA
  unfold tagM
  simp only
  by_cases h1 : b = 62
  · rw [if_pos h1]
    by_cases hs : T = scriptL
    · rw [if_pos hs]; exact tag_script M T A EE b h1 hs w
    · rw [if_neg hs]; exact tag_close M T A EE b h1 hs w
  rw [if_neg h1]
  by_cases h2 : b = 32
  · rw [if_pos h2]; exact tag_space M T A EE b h2 w
  rw [if_neg h2]
  rcases hM with rfl | rfl | rfl | rfl
  · rw [if_pos rfl]
    by_cases hn : namedB b = true
    · rw [if_pos hn]
      rcases named_yes hn with hl | ⟨hl, hd⟩ | ⟨hl, hd, hm⟩
      · exact tag_2l T A EE b h1 h2 hl hT w
      · exact tag_2d T A EE b h1 h2 hl hd hT w
      · exact tag_2m T A EE b h1 h2 hl hd hm hT w
    · rw [if_neg hn]
      obtain ⟨hl, hd, hm⟩ := named_no hn
      exact tag_2n T A EE b h1 h2 hl hd hm w
  · rw [if_neg (by omega), if_pos rfl]
    by_cases hl : letB b = true
    · rw [if_pos hl]; exact tag_3l T A EE b h1 h2 hl hA w
    · rw [if_neg hl]
      have hl : letB b = false := by simpa using hl
      by_cases hn : namedB b = true
      · rcases named_yes hn with hl' | ⟨hl, hd⟩ | ⟨hl, hd, hm⟩
        · rw [hl] at hl'; cases hl'
        · exact tag_3d T A EE b h1 h2 hl hd w
        · exact tag_3m T A EE b h1 h2 hl hd hm w
      · obtain ⟨hl, hd, hm⟩ := named_no hn
        exact tag_3n T A EE b h1 h2 hl hd hm w
  · rw [if_neg (by omega), if_neg (by omega), if_pos rfl]
    by_cases hn : namedB b = true
    · rw [if_pos hn]
      rcases named_yes hn with hl | ⟨hl, hd⟩ | ⟨hl, hd, hm⟩
      · exact tag_4l T A EE b h1 h2 hl hA w
      · exact tag_4d T A EE b h1 h2 hl hd hA w
      · exact tag_4m T A EE b h1 h2 hl hd hm hA w
    · rw [if_neg hn]
      by_cases he : b = 61
      · rw [if_pos he]; exact tag_4e T A EE b he w
      · rw [if_neg he]
        obtain ⟨hl, hd, hm⟩ := named_no hn
        exact tag_4n T A EE b h1 h2 hl hd hm he w
  · rw [if_neg (by omega), if_neg (by omega), if_neg (by omega), if_pos rfl]
    by_cases hbb : bareB b = true
    · rw [if_pos hbb]
      by_cases hn : namedB b = true
      · rcases named_yes hn with hl | ⟨hl, hd⟩ | ⟨hl, hd, hm⟩
        · exact tag_8lb T A EE b h1 h2 hl hbb w
        · exact tag_8db T A EE b h1 h2 hl hd hbb w
        · exact tag_8mb T A EE b h1 h2 hl hd hm hbb w
      · obtain ⟨hl, hd, hm⟩ := named_no hn
        exact tag_8nb T A EE b h1 h2 hl hd hm hbb w
    · rw [if_neg hbb]
      obtain ⟨hl, hd, hm, hb⟩ := bare_no hbb
      exact tag_8nn T A EE b h1 h2 hl hd hm hb w
end Go.Proofs.Ytdoomfckdjjlaaa

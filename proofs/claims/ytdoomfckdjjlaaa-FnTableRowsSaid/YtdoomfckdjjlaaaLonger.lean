/- impl.longer (printed by gen_longer.py). -/
import Derived.Test.YtdoomfckdjjlaaaStep
namespace Go.Proofs.Ytdoomfckdjjlaaa
open Go.RowKit

/-- A state written over another one, in its block. -/
theorem st_set {w : World} {b : Nat} {v0 v1 v2 v3 : Value} (h : w.heap[b]? = some (.cells #[v0, v1, v2, v3] 57 (0, 0))) (x0 x1 x2 x3 : Value) :
    (((((w.setCell ⟨b, 0, none⟩ x0).setCell ⟨b, 1, none⟩ x1).setCell ⟨b, 2, none⟩ x2).setCell ⟨b, 3, none⟩ x3).cell? ⟨b, 0, none⟩ = some x0 ∧
    ((((w.setCell ⟨b, 0, none⟩ x0).setCell ⟨b, 1, none⟩ x1).setCell ⟨b, 2, none⟩ x2).setCell ⟨b, 3, none⟩ x3).cell? ⟨b, 1, none⟩ = some x1 ∧
    ((((w.setCell ⟨b, 0, none⟩ x0).setCell ⟨b, 1, none⟩ x1).setCell ⟨b, 2, none⟩ x2).setCell ⟨b, 3, none⟩ x3).cell? ⟨b, 2, none⟩ = some x2 ∧
    ((((w.setCell ⟨b, 0, none⟩ x0).setCell ⟨b, 1, none⟩ x1).setCell ⟨b, 2, none⟩ x2).setCell ⟨b, 3, none⟩ x3).cell? ⟨b, 3, none⟩ = some x3) ∧
    ∀ (B : Nat) (w0 : World), B ≤ b → Below B w0 w → Below B w0 ((((w.setCell ⟨b, 0, none⟩ x0).setCell ⟨b, 1, none⟩ x1).setCell ⟨b, 2, none⟩ x2).setCell ⟨b, 3, none⟩ x3) := by
  have h1 := heap_setCell_same w b 0 _ _ x0 h
  have h2 := heap_setCell_same _ b 1 _ _ x1 h1
  have h3 := heap_setCell_same _ b 2 _ _ x2 h2
  have h4 := heap_setCell_same _ b 3 _ _ x3 h3
  refine ⟨⟨?_, ?_, ?_, ?_⟩, fun B w0 hB hb => (((hb.setCell (p := ⟨b, 0, none⟩) hB _).setCell (p := ⟨b, 1, none⟩) hB _).setCell (p := ⟨b, 2, none⟩) hB _).setCell (p := ⟨b, 3, none⟩) hB _⟩ <;> (rw [cell_of_row _ b _ _ _ _ h4]; rfl)
set_option maxRecDepth 100000 in
set_option maxHeartbeats 3200000 in
theorem longer_T (s : St) (b : UInt8) (w : World) (hX : s.T.length ≤ 1000) :
    Calls Try.prog 74 #[stV s, .int .u8 (b.toNat : Int), .bool false] w fun e w' => e = .returned (stV (longT s b)) ∧ Below w.heap.size w w' := by
  obtain ⟨M, T, A, E⟩ := s
  simp only at hX
  have HL := Lib.hid (fun W => lower_one b W)
  obtain ⟨X, hX0⟩ : ∃ X, (w.alloc (.cells #[.int .i64 (M : Int), .string (mkS T), .string (mkS A), .bool E] 57 (0, 0))).alloc (.cells #[.int .i64 0, .string ⟨#[]⟩, .string ⟨#[]⟩, .bool false] 57 (0, 0)) = X := ⟨_, rfl⟩
  have P0 : Hid (X.heap[w.heap.size]? = some (.cells #[.int .i64 (M : Int), .string (mkS T), .string (mkS A), .bool E] 57 (0, 0))) := by
    show _ = _
    rw [← hX0, Lib.alloc_old _ _ _ (by simp)]
    exact heap_alloc_new _ _
  have P1 : Hid (X.heap[w.heap.size + 1]? = some (.cells #[.int .i64 0, .string ⟨#[]⟩, .string ⟨#[]⟩, .bool false] 57 (0, 0))) := by
    show _ = _
    rw [← hX0]
    have := heap_alloc_new (w.alloc (.cells #[.int .i64 (M : Int), .string (mkS T), .string (mkS A), .bool E] 57 (0, 0))) (.cells #[.int .i64 0, .string ⟨#[]⟩, .string ⟨#[]⟩, .bool false] 57 (0, 0))
    simpa using this
  have BX : Hid (Below w.heap.size w X) := by
    show Below _ _ _
    rw [← hX0]
    exact ((Below.refl _ _).alloc (Nat.le_refl _) _).alloc (by simp) _
  have hst : stV ⟨M, T, A, E⟩ = .agg #[.int .i64 (M : Int), .string (mkS T), .string (mkS A), .bool E] := rfl
  have hlt : w.heap.size < X.heap.size := bld_ltS P0.out
  have hlt1 : w.heap.size + 1 < X.heap.size := bld_ltS P1.out
  have x1 : X.cell? ⟨w.heap.size, 1, none⟩ = some (.string (mkS T)) := by rw [cell_of_row X _ _ _ _ _ P0.out]; rfl
  have hsz : (mkS T).size + (mkS [lowC b]).size ≤ 9223372036854775807 := by rw [mkS_size, mkS_size]; simp only [List.length_cons, List.length_nil]; omega
  have hone := one_strD X b
  rw [hst]
  go_enter Try.func74, Try.ntmps74
  go_wp2
  clear hX0 hst
  go_region_with (first | (go_at_call 36; refine (HL.out _).mono ?_; rintro e w1 ⟨rfl, hb1⟩; have z1 : w1.cell? ⟨w.heap.size, 1, none⟩ = some (.string (mkS T)) := (hb1.cell (p := ⟨w.heap.size, 1, none⟩) (by simp; omega)).trans ((((Below.refl X.heap.size X).alloc (Nat.le_refl _) _).drew).cell (p := ⟨w.heap.size, 1, none⟩) hlt |>.trans x1); have f1 : w1.frozen? ⟨w.heap.size, 1, none⟩ = false := row_frozen ((hb1.block _ (by simp; omega)).trans ((((Below.refl X.heap.size X).alloc (Nat.le_refl _) _).drew.block _ hlt).trans P0.out)) _))
  all_goals
    have B1 := Lib.hid ((((Below.refl X.heap.size X).alloc (Nat.le_refl _) (.cells #[.int .u8 (b.toNat : Int)] 5 (0, 0))).drew).trans (hb1.mono (by simp)))
    have Q0 := (B1.out.block _ hlt).trans P0.out
    have Q1 := (B1.out.block _ hlt1).trans P1.out
    have hm : mkS T ++ mkS [lowC b] = mkS (T ++ [lowC b]) := mkS_app _ _
    simp only [hm]
    have BY := Lib.hid ((BX.out.trans (B1.out.mono BX.out.size)).setCell (p := ⟨w.heap.size, 1, none⟩) (Nat.le_refl _) (.string (mkS (T ++ [lowC b]))))
    obtain ⟨Y, hY⟩ : ∃ Y, w1.setCell ⟨w.heap.size, 1, none⟩ (.string (mkS (T ++ [lowC b]))) = Y := ⟨_, rfl⟩
    have R0 : Y.heap[w.heap.size]? = some (.cells #[.int .i64 (M : Int), .string (mkS (T ++ [lowC b])), .string (mkS A), .bool E] 57 (0, 0)) := by
      rw [← hY]
      exact heap_setCell_same _ _ 1 _ _ (.string (mkS (T ++ [lowC b]))) Q0
    have R1 : Y.heap[w.heap.size + 1]? = some (.cells #[.int .i64 0, .string ⟨#[]⟩, .string ⟨#[]⟩, .bool false] 57 (0, 0)) := by
      rw [← hY, Below.heap_setCell _ _ _ _ (by simp)]
      exact Q1
    rw [hY] at BY ⊢
    have y1 : Y.cell? ⟨w.heap.size, 1, none⟩ = some (.string (mkS (T ++ [lowC b]))) := by rw [cell_of_row Y _ _ _ _ _ R0]; rfl
    have y0 : Y.cell? ⟨w.heap.size, 0, none⟩ = some (.int .i64 (M : Int)) := by rw [cell_of_row Y _ _ _ _ _ R0]; rfl
    have y2 : Y.cell? ⟨w.heap.size, 2, none⟩ = some (.string (mkS A)) := by rw [cell_of_row Y _ _ _ _ _ R0]; rfl
    have y3 : Y.cell? ⟨w.heap.size, 3, none⟩ = some (.bool E) := by rw [cell_of_row Y _ _ _ _ _ R0]; rfl
    obtain ⟨u0, u1, u2, u3⟩ := zero_cells R1
    have g0 := row_frozen R1 0
    have g1 := row_frozen R1 1
    have g2 := row_frozen R1 2
    have g3 := row_frozen R1 3
    have hls : (mkS (T ++ [lowC b])).size = (T ++ [lowC b]).length := mkS_size _
    have HLT : Hid (longT ⟨M, T, A, E⟩ b = if 10 < (T ++ [lowC b]).length then badS else ⟨M, T ++ [lowC b], A, E⟩) := rfl
    have HR1 := Lib.hid R1
    clear hY hm z1 f1 hb1 Q0 Q1 R0 R1 hone x1 hsz
    generalize T ++ [lowC b] = T2 at *
    by_cases h10 : 10 < T2.length
    · have HR : Hid (longT ⟨M, T, A, E⟩ b = badS) := by show _ = _; rw [HLT.out, if_pos h10]
      have h10i : (10 : Int) < ((mkS T2).size : Int) := by rw [hls]; omega
      clear h10 HLT hls
      go_wp2
      obtain ⟨⟨r0, r1, r2, r3⟩, RB⟩ := st_set HR1.out (.int .i64 15) (.string ⟨#[]⟩) (.string ⟨#[]⟩) (.bool false)
      exact bodyPost_ret (v := .agg #[.int .i64 15, .string ⟨#[]⟩, .string ⟨#[]⟩, .bool false]) (by simp [results, Try.results74, go_sem, r0, r1, r2, r3]) rfl ⟨by rw [HR.out]; rfl, RB _ _ (by omega) BY.out⟩
    · have HR : Hid (longT ⟨M, T, A, E⟩ b = ⟨M, T2, A, E⟩) := by show _ = _; rw [HLT.out, if_neg h10]
      have h10i : ((mkS T2).size : Int) ≤ 10 := by rw [hls]; omega
      clear h10 HLT hls
      go_wp2
      obtain ⟨⟨r0, r1, r2, r3⟩, RB⟩ := st_set HR1.out (.int .i64 (M : Int)) (.string (mkS T2)) (.string (mkS A)) (.bool E)
      exact bodyPost_ret (v := .agg #[.int .i64 (M : Int), .string (mkS T2), .string (mkS A), .bool E]) (by simp [results, Try.results74, go_sem, r0, r1, r2, r3]) rfl ⟨by rw [HR.out]; rfl, RB _ _ (by omega) BY.out⟩
set_option maxRecDepth 100000 in
set_option maxHeartbeats 3200000 in
theorem longer_A (s : St) (b : UInt8) (w : World) (hX : s.A.length ≤ 1000) :
    Calls Try.prog 74 #[stV s, .int .u8 (b.toNat : Int), .bool true] w fun e w' => e = .returned (stV (longA s b)) ∧ Below w.heap.size w w' := by
  obtain ⟨M, T, A, E⟩ := s
  simp only at hX
  have HL := Lib.hid (fun W => lower_one b W)
  obtain ⟨X, hX0⟩ : ∃ X, (w.alloc (.cells #[.int .i64 (M : Int), .string (mkS T), .string (mkS A), .bool E] 57 (0, 0))).alloc (.cells #[.int .i64 0, .string ⟨#[]⟩, .string ⟨#[]⟩, .bool false] 57 (0, 0)) = X := ⟨_, rfl⟩
  have P0 : Hid (X.heap[w.heap.size]? = some (.cells #[.int .i64 (M : Int), .string (mkS T), .string (mkS A), .bool E] 57 (0, 0))) := by
    show _ = _
    rw [← hX0, Lib.alloc_old _ _ _ (by simp)]
    exact heap_alloc_new _ _
  have P1 : Hid (X.heap[w.heap.size + 1]? = some (.cells #[.int .i64 0, .string ⟨#[]⟩, .string ⟨#[]⟩, .bool false] 57 (0, 0))) := by
    show _ = _
    rw [← hX0]
    have := heap_alloc_new (w.alloc (.cells #[.int .i64 (M : Int), .string (mkS T), .string (mkS A), .bool E] 57 (0, 0))) (.cells #[.int .i64 0, .string ⟨#[]⟩, .string ⟨#[]⟩, .bool false] 57 (0, 0))
    simpa using this
  have BX : Hid (Below w.heap.size w X) := by
    show Below _ _ _
    rw [← hX0]
    exact ((Below.refl _ _).alloc (Nat.le_refl _) _).alloc (by simp) _
  have hst : stV ⟨M, T, A, E⟩ = .agg #[.int .i64 (M : Int), .string (mkS T), .string (mkS A), .bool E] := rfl
  have hlt : w.heap.size < X.heap.size := bld_ltS P0.out
  have hlt1 : w.heap.size + 1 < X.heap.size := bld_ltS P1.out
  have x1 : X.cell? ⟨w.heap.size, 2, none⟩ = some (.string (mkS A)) := by rw [cell_of_row X _ _ _ _ _ P0.out]; rfl
  have hsz : (mkS A).size + (mkS [lowC b]).size ≤ 9223372036854775807 := by rw [mkS_size, mkS_size]; simp only [List.length_cons, List.length_nil]; omega
  have hone := one_strD X b
  rw [hst]
  go_enter Try.func74, Try.ntmps74
  go_wp2
  clear hX0 hst
  go_region_with (first | (go_at_call 36; refine (HL.out _).mono ?_; rintro e w1 ⟨rfl, hb1⟩; have z1 : w1.cell? ⟨w.heap.size, 2, none⟩ = some (.string (mkS A)) := (hb1.cell (p := ⟨w.heap.size, 2, none⟩) (by simp; omega)).trans ((((Below.refl X.heap.size X).alloc (Nat.le_refl _) _).drew).cell (p := ⟨w.heap.size, 2, none⟩) hlt |>.trans x1); have f1 : w1.frozen? ⟨w.heap.size, 2, none⟩ = false := row_frozen ((hb1.block _ (by simp; omega)).trans ((((Below.refl X.heap.size X).alloc (Nat.le_refl _) _).drew.block _ hlt).trans P0.out)) _))
  all_goals
    have B1 := Lib.hid ((((Below.refl X.heap.size X).alloc (Nat.le_refl _) (.cells #[.int .u8 (b.toNat : Int)] 5 (0, 0))).drew).trans (hb1.mono (by simp)))
    have Q0 := (B1.out.block _ hlt).trans P0.out
    have Q1 := (B1.out.block _ hlt1).trans P1.out
    have hm : mkS A ++ mkS [lowC b] = mkS (A ++ [lowC b]) := mkS_app _ _
    simp only [hm]
    have BY := Lib.hid ((BX.out.trans (B1.out.mono BX.out.size)).setCell (p := ⟨w.heap.size, 2, none⟩) (Nat.le_refl _) (.string (mkS (A ++ [lowC b]))))
    obtain ⟨Y, hY⟩ : ∃ Y, w1.setCell ⟨w.heap.size, 2, none⟩ (.string (mkS (A ++ [lowC b]))) = Y := ⟨_, rfl⟩
    have R0 : Y.heap[w.heap.size]? = some (.cells #[.int .i64 (M : Int), .string (mkS T), .string (mkS (A ++ [lowC b])), .bool E] 57 (0, 0)) := by
      rw [← hY]
      exact heap_setCell_same _ _ 2 _ _ (.string (mkS (A ++ [lowC b]))) Q0
    have R1 : Y.heap[w.heap.size + 1]? = some (.cells #[.int .i64 0, .string ⟨#[]⟩, .string ⟨#[]⟩, .bool false] 57 (0, 0)) := by
      rw [← hY, Below.heap_setCell _ _ _ _ (by simp)]
      exact Q1
    rw [hY] at BY ⊢
    have y1 : Y.cell? ⟨w.heap.size, 2, none⟩ = some (.string (mkS (A ++ [lowC b]))) := by rw [cell_of_row Y _ _ _ _ _ R0]; rfl
    have y0 : Y.cell? ⟨w.heap.size, 0, none⟩ = some (.int .i64 (M : Int)) := by rw [cell_of_row Y _ _ _ _ _ R0]; rfl
    have y2 : Y.cell? ⟨w.heap.size, 1, none⟩ = some (.string (mkS T)) := by rw [cell_of_row Y _ _ _ _ _ R0]; rfl
    have y3 : Y.cell? ⟨w.heap.size, 3, none⟩ = some (.bool E) := by rw [cell_of_row Y _ _ _ _ _ R0]; rfl
    obtain ⟨u0, u1, u2, u3⟩ := zero_cells R1
    have g0 := row_frozen R1 0
    have g1 := row_frozen R1 1
    have g2 := row_frozen R1 2
    have g3 := row_frozen R1 3
    have hls : (mkS (A ++ [lowC b])).size = (A ++ [lowC b]).length := mkS_size _
    have HLT : Hid (longA ⟨M, T, A, E⟩ b = if 10 < (A ++ [lowC b]).length then badS else ⟨M, T, A ++ [lowC b], E⟩) := rfl
    have HR1 := Lib.hid R1
    clear hY hm z1 f1 hb1 Q0 Q1 R0 R1 hone x1 hsz
    generalize A ++ [lowC b] = A2 at *
    by_cases h10 : 10 < A2.length
    · have HR : Hid (longA ⟨M, T, A, E⟩ b = badS) := by show _ = _; rw [HLT.out, if_pos h10]
      have h10i : (10 : Int) < ((mkS A2).size : Int) := by rw [hls]; omega
      clear h10 HLT hls
      go_wp2
      obtain ⟨⟨r0, r1, r2, r3⟩, RB⟩ := st_set HR1.out (.int .i64 15) (.string ⟨#[]⟩) (.string ⟨#[]⟩) (.bool false)
      exact bodyPost_ret (v := .agg #[.int .i64 15, .string ⟨#[]⟩, .string ⟨#[]⟩, .bool false]) (by simp [results, Try.results74, go_sem, r0, r1, r2, r3]) rfl ⟨by rw [HR.out]; rfl, RB _ _ (by omega) BY.out⟩
    · have HR : Hid (longA ⟨M, T, A, E⟩ b = ⟨M, T, A2, E⟩) := by show _ = _; rw [HLT.out, if_neg h10]
      have h10i : ((mkS A2).size : Int) ≤ 10 := by rw [hls]; omega
      clear h10 HLT hls
      go_wp2
      obtain ⟨⟨r0, r1, r2, r3⟩, RB⟩ := st_set HR1.out (.int .i64 (M : Int)) (.string (mkS T)) (.string (mkS A2)) (.bool E)
      exact bodyPost_ret (v := .agg #[.int .i64 (M : Int), .string (mkS T), .string (mkS A2), .bool E]) (by simp [results, Try.results74, go_sem, r0, r1, r2, r3]) rfl ⟨by rw [HR.out]; rfl, RB _ _ (by omega) BY.out⟩
end Go.Proofs.Ytdoomfckdjjlaaa

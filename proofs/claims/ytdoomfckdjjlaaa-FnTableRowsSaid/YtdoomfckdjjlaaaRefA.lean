/- Joined texts (StepR, MoreS, TagR, ScrR, StVR, StepS, StepT). -/
import Derived.Test.YtdoomfckdjjlaaaMach
import Derived.Test.YtdoomfckdjjlaaaPush2
import Derived.Test.YtdoomfckdjjlaaaStepG

/-! The reference's machine of modes: its parts. -/
namespace Go.Proofs.Ytdoomfckdjjlaaa
open Go.RowKit

theorem wpList_pushB2x {wr : World} {ops : Array Oper} {rest : List Oper} {o : Oper} {a : Act} {Q : Exit → Act → World → Prop} (xi : Int) (s x : Operand) (B : Nat) (b : UInt8) (hxi : (b.toNat : Int) = xi) (v : Value) (n : Nat) (acc : List UInt8)
    (own : wr.ownsRow B 5 1 v n (acc.map byteV)) (hB : B ≤ wr.heap.size) (hsz : n ≤ 4611686018427387904 / 65536) (hgd : o.guard = none)
    (ho : o.op = .call { callee := .builtin .append, args := #[s, x], argTypes := #[22, 22] }) (hs : a.eval s = v) (H : Nat) (hH : wr.heap.size = H) (hx : a.eval x = .slice (some ⟨H, 0, none⟩) 1 1)
    (h : ∀ v' w', w'.ownsRow B 5 1 v' (n + 1) ((acc ++ [b]).map byteV) → wr.grownBy w' v.ownBlock → Below B wr w' → wpList Try.prog ops Q rest (a.put o.dst v') w') :
    wpList Try.prog ops Q (o :: rest) a (wr.alloc (.cells #[.int .u8 xi] 5 (0, 0))) := by
  subst hxi
  exact wpList_pushB2 s x B b v n acc own hB hsz hgd ho hs H hH hx h
set_option maxRecDepth 100000 in
set_option maxHeartbeats 1600000 in
theorem spec_LowerText (s : ByteArray) (w : World) (hs : s.size ≤ 1048576) : Calls Try.prog 96 #[.string s] w fun e w' => e = .returned (.string (mkS ((bl s).map lowC))) ∧ Below w.heap.size w w' := by
  have O0 := Lib.hid (own_new w #[] 5 0 rfl (by omega))
  have B0 : Hid (Below w.heap.size w (w.alloc (.cells #[] 5 (0, 0)))) := (Below.refl _ _).alloc (Nat.le_refl _) _
  go_enter Try.func96, Try.ntmps96
  go_wp2
  go_loopw [3, 4] (fun v t wr => ∃ (k : Nat) (acc : List UInt8), k ≤ s.size ∧ t = .int .i64 (k : Int) ∧ Hid (acc = ((bl s).take k).map lowC) ∧ Hid (acc.length = k) ∧ wr.ownsRow w.heap.size 5 1 v k (acc.map byteV) ∧ Below w.heap.size w wr) (fun _ t _ => s.size - (intOf t).toNat)
  case atStart => exact ⟨0, [], Nat.zero_le _, rfl, rfl, rfl, O0.out, B0.out⟩
  case round =>
    clear O0 B0
    obtain ⟨k, acc, hk, rfl, HA, HL, own, hb⟩ := hrel
    have hws := hb.size
    have BW := Lib.hid hb
    have OW := Lib.hid own
    clear own hb
    by_cases hlt : k < s.size
    · have hi : (k : Int) < (s.size : Int) := by omega
      have hk0 : (0 : Int) ≤ (k : Int) := by omega
      have HA1 : Hid (acc ++ [lowC s[k]] = ((bl s).take (k + 1)).map lowC) := by show _ = _; rw [bl_take s k hlt, List.map_append, HA.out]; rfl
      have HL1 : Hid ((acc ++ [lowC s[k]]).length = k + 1) := by show _ = _; rw [List.length_append, HL.out]; rfl
      by_cases h : 65 ≤ s[k].toNat ∧ s[k].toNat ≤ 90
      · have HLC : Hid (lowC s[k] = s[k] + 32) := by show _ = _; unfold lowC; rw [if_pos h]
        have HW := Lib.hid (low_wrap h)
        have h1 : (65 : Int) ≤ (s[k].toNat : Int) := by omega
        have h2 : (s[k].toNat : Int) ≤ 90 := by omega
        rw [HLC.out] at HA1 HL1
        clear h
        go_wp2_with (at_builtin; refine wpList_pushB2x _ (.tmp 24) (.tmp 26) w.heap.size (s[k] + 32) HW.out _ k acc OW.out hws (by omega) rfl (by rfl) (by rfl) (wr.heap.size) rfl (by rfl) ?_; intro v5 w5 o5 _ b5; have O5 := Lib.hid o5; have B5 := Lib.hid (BW.out.trans b5); clear o5 b5)
        go_roundw
        case rel => exact ⟨k + 1, _, by omega, by go_num, HA1.out, HL1.out, O5.out, B5.out⟩
        case measure => simp [intOf]; omega
      · have HLC : Hid (lowC s[k] = s[k]) := by show _ = _; unfold lowC; rw [if_neg h]
        rw [HLC.out] at HA1 HL1
        by_cases h1 : (65 : Int) ≤ (s[k].toNat : Int)
        · have h2 : ¬ (s[k].toNat : Int) ≤ 90 := by omega
          clear h
          go_wp2_with (at_builtin; refine wpList_pushB2 (.tmp 24) (.tmp 26) w.heap.size s[k] _ k acc OW.out hws (by omega) rfl (by rfl) (by rfl) (wr.heap.size) rfl (by rfl) ?_; intro v5 w5 o5 _ b5; have O5 := Lib.hid o5; have B5 := Lib.hid (BW.out.trans b5); clear o5 b5)
          go_roundw
          case rel => exact ⟨k + 1, _, by omega, by go_num, HA1.out, HL1.out, O5.out, B5.out⟩
          case measure => simp [intOf]; omega
        · clear h
          go_wp2_with (at_builtin; refine wpList_pushB2 (.tmp 24) (.tmp 26) w.heap.size s[k] _ k acc OW.out hws (by omega) rfl (by rfl) (by rfl) (wr.heap.size) rfl (by rfl) ?_; intro v5 w5 o5 _ b5; have O5 := Lib.hid o5; have B5 := Lib.hid (BW.out.trans b5); clear o5 b5)
          go_roundw
          case rel => exact ⟨k + 1, _, by omega, by go_num, HA1.out, HL1.out, O5.out, B5.out⟩
          case measure => simp [intOf]; omega
    · have e : s.size = k := by omega
      obtain ⟨ra, rc, rfl, rrow, _⟩ := own_formn OW.out
      have kd := conv_row _ ra k rc acc rrow HL.out
      have HE : Hid (mkS acc = mkS ((bl s).map lowC)) := by show _ = _; rw [HA.out, ← e, bl_all]
      clear rrow
      go_wp2
      go_ret
      exact ⟨ret_str' HE.out, BW.out⟩
theorem spec_l5Name (b : UInt8) (w : World) : Calls Try.prog 87 #[.int .u8 (b.toNat : Int)] w fun e w' => e = .returned (.bool (namedB b)) ∧ w = w' := by
  have CL := Lib.hid (fun W => spec_l1Letter b W)
  have CD := Lib.hid (fun W => spec_l1Digit b W)
  have HB : Hid (namedB b = (letB b || digB b || decide (b = 45))) := rfl
  by_cases h45 : b = 45
  · have hb := beqN (n := 45) 45 rfl h45
    rw [decide_eq_true h45] at HB
    generalize letB b = h1 at *
    generalize digB b = h2 at *
    clear h45
    rcases h1 with _ | _ <;> rcases h2 with _ | _
    all_goals
      go_enter Try.func87, Try.ntmps87
      go_wp2_with (first | (go_at_call 84; refine (CL.out _).mono ?_; rintro e w2 ⟨rfl, rfl⟩) | (go_at_call 97; refine (CD.out _).mono ?_; rintro e w2 ⟨rfl, rfl⟩))
      go_ret
      exact ⟨by rw [HB.out]; rfl, rfl⟩
  · have hb := bneN (n := 45) 45 rfl h45
    rw [decide_eq_false h45] at HB
    generalize letB b = h1 at *
    generalize digB b = h2 at *
    clear h45
    rcases h1 with _ | _ <;> rcases h2 with _ | _
    all_goals
      go_enter Try.func87, Try.ntmps87
      go_wp2_with (first | (go_at_call 84; refine (CL.out _).mono ?_; rintro e w2 ⟨rfl, rfl⟩) | (go_at_call 97; refine (CD.out _).mono ?_; rintro e w2 ⟨rfl, rfl⟩))
      go_ret
      exact ⟨by rw [HB.out]; rfl, rfl⟩
theorem spec_lower_one (b : UInt8) (w : World) : Calls Try.prog 96 #[.string (mkS [b])] w fun e w' => e = .returned (.string (mkS [lowC b])) ∧ Below w.heap.size w w' := by
  have := spec_LowerText (mkS [b]) w (by rw [mkS_size]; simp)
  rwa [bl_mkS] at this
set_option maxRecDepth 100000 in
theorem spec_l5Content (T : List UInt8) (w : World) : Calls Try.prog 98 #[.string (mkS T)] w fun e w' => e = .returned (stV (if T = scriptL then ⟨11, [], [], false⟩ else zeroS)) ∧ Below w.heap.size w w' := by
  by_cases hs : T = scriptL
  · rw [if_pos hs]
    have hty : ((mkS T).toList == [115, 99, 114, 105, 112, 116]) = true := by rw [ByteArray.toList_eq]; rw [hs]; rfl
    clear hs
    go_enter Try.func98, Try.ntmps98
    go_wp2
    exact bodyPost_ret (v := .agg #[.int .i64 11, .string ⟨#[]⟩, .string ⟨#[]⟩, .bool false]) (by simp [results, Try.results98, go_sem]) rfl ⟨rfl, (Below.refl _ _).alloc (Nat.le_refl _) _⟩
  · rw [if_neg hs]
    have hty : ((mkS T).toList == [115, 99, 114, 105, 112, 116]) = false := by rw [ByteArray.toList_eq]; simpa [mkS, scriptL] using hs
    clear hs
    go_enter Try.func98, Try.ntmps98
    go_wp2
    exact bodyPost_ret (v := .agg #[.int .i64 0, .string ⟨#[]⟩, .string ⟨#[]⟩, .bool false]) (by simp [results, Try.results98, go_sem]) rfl ⟨rfl, (Below.refl _ _).alloc (Nat.le_refl _) _⟩
set_option maxRecDepth 100000 in
theorem spec_l5Value (s : St) (w : World) : Calls Try.prog 86 #[stV s] w fun e w' => e = .returned (stV ⟨s.M, s.T, s.A, true⟩) ∧ Below w.heap.size w w' := by
  obtain ⟨M, T, A, E⟩ := s
  rw [st_agg]
  go_enter Try.func86, Try.ntmps86
  go_wp2
  exact bodyPost_ret (v := .agg #[.int .i64 (M : Int), .string (mkS T), .string (mkS A), .bool true]) (by simp [results, Try.results86, go_sem]) rfl ⟨rfl, ((Below.refl _ _).alloc (Nat.le_refl _) _).alloc (by simp) _⟩
/-- One byte more behind a name, or bad. -/
def moreS (M : Nat) (T A : List UInt8) (b : UInt8) : St :=
  if M = 4 then (if 10 < (A ++ [lowC b]).length ∨ 10 < T.length then badS else ⟨M, T, A ++ [lowC b], false⟩)
  else (if 10 < A.length ∨ 10 < (T ++ [lowC b]).length then badS else ⟨M, T ++ [lowC b], A, false⟩)
end Go.Proofs.Ytdoomfckdjjlaaa

/-! spec.l5More (printed by gen_more.py). -/
namespace Go.Proofs.Ytdoomfckdjjlaaa
open Go.RowKit

theorem kindF4 {M : Nat} (h : M ≠ 4) : ((M : Int) == 4) = false := by simp; omega
set_option maxRecDepth 100000 in
set_option maxHeartbeats 3200000 in
theorem spec_more4 (T A : List UInt8) (b : UInt8) (w : World) (hT : T.length ≤ 1000) (hA : A.length ≤ 1000) :
    Calls Try.prog 85 #[.int .i64 4, .string (mkS T), .string (mkS A), .string (mkS [b])] w fun e w' => e = .returned (stV (moreS 4 T A b)) ∧ Below w.heap.size w w' := by
  have HL := Lib.hid (fun W => spec_lower_one b W)
  obtain ⟨⟨p0, p1⟩, bx⟩ := two_new w (.cells #[.int .i64 0, .string ⟨#[]⟩, .string ⟨#[]⟩, .bool false] 57 (0, 0)) (.cells #[.int .i64 4, .string (mkS T), .string (mkS A), .bool false] 57 (0, 0))
  have P0 := Lib.hid p0; have P1 := Lib.hid p1; have BX := Lib.hid bx
  clear p0 p1 bx
  have HLT : Hid (moreS 4 T A b = if 10 < (A ++ [lowC b]).length ∨ 10 < T.length then badS else ⟨4, T, A ++ [lowC b], false⟩) := rfl
  have hsz : (mkS A).size + (mkS [lowC b]).size ≤ 9223372036854775807 := by rw [mkS_size, mkS_size]; simp only [List.length_cons, List.length_nil]; omega
  go_enter Try.func85, Try.ntmps85
  go_wp2_with fail
  refine (HL.out _).mono ?_
  rintro e w1 ⟨rfl, hb1⟩
  have q0 := (hb1.block _ (bld_ltS P0.out)).trans P0.out
  have q1 := (hb1.block _ (bld_ltS P1.out)).trans P1.out
  have hm : mkS A ++ mkS [lowC b] = mkS (A ++ [lowC b]) := mkS_app _ _
  have hls : (mkS (A ++ [lowC b])).size = (A ++ [lowC b]).length := mkS_size _
  have hlo : (mkS T).size = T.length := mkS_size _
  have f0 := row_frozen q0 0
  have f1 := row_frozen q0 1
  have f2 := row_frozen q0 2
  have f3 := row_frozen q0 3
  have g0 := row_frozen q1 0
  have g1 := row_frozen q1 1
  have g2 := row_frozen q1 2
  have g3 := row_frozen q1 3
  have x0 : w1.cell? ⟨w.heap.size, 0, none⟩ = some (.int .i64 0) := by rw [cell_of_row w1 _ _ _ _ _ q0]; rfl
  have x1 : w1.cell? ⟨w.heap.size, 1, none⟩ = some (.string ⟨#[]⟩) := by rw [cell_of_row w1 _ _ _ _ _ q0]; rfl
  have x2 : w1.cell? ⟨w.heap.size, 2, none⟩ = some (.string ⟨#[]⟩) := by rw [cell_of_row w1 _ _ _ _ _ q0]; rfl
  have x3 : w1.cell? ⟨w.heap.size, 3, none⟩ = some (.bool false) := by rw [cell_of_row w1 _ _ _ _ _ q0]; rfl
  have u0 : w1.cell? ⟨w.heap.size + 1, 0, none⟩ = some (.int .i64 4) := by rw [cell_of_row w1 _ _ _ _ _ q1]; rfl
  have u1 : w1.cell? ⟨w.heap.size + 1, 1, none⟩ = some (.string (mkS T)) := by rw [cell_of_row w1 _ _ _ _ _ q1]; rfl
  have u2 : w1.cell? ⟨w.heap.size + 1, 2, none⟩ = some (.string (mkS A)) := by rw [cell_of_row w1 _ _ _ _ _ q1]; rfl
  have u3 : w1.cell? ⟨w.heap.size + 1, 3, none⟩ = some (.bool false) := by rw [cell_of_row w1 _ _ _ _ _ q1]; rfl
  have BW := Lib.hid (BX.out.trans (hb1.mono BX.out.size))
  have Q0 := Lib.hid q0
  clear q0 q1 hb1 P0 P1 BX
  generalize hX2 : A ++ [lowC b] = X2 at *
  clear hX2
  have S0 : Hid ((w1.setCell ⟨w.heap.size + 1, 2, none⟩ (.string (mkS X2))).heap[w.heap.size]? = _) := (Below.heap_setCell _ _ _ _ (by simp)).trans Q0.out
  have BS := Lib.hid (BW.out.setCell (p := ⟨w.heap.size + 1, 2, none⟩) (Nat.le_succ _) (.string (mkS X2)))
  by_cases h1 : 10 < X2.length
  · have HR : Hid (moreS 4 T A b = badS) := by show _ = _; rw [HLT.out, if_pos (.inl h1)]
    have c1 : (10 : Int) < ((mkS X2).size : Int) := by rw [hls]; omega
    clear h1
    clear HLT hls hlo
    go_wp2
    obtain ⟨⟨r0, r1, r2, r3⟩, RB⟩ := st_set S0.out (.int .i64 15) (.string ⟨#[]⟩) (.string ⟨#[]⟩) (.bool false)
    exact bodyPost_ret (v := .agg #[.int .i64 15, .string ⟨#[]⟩, .string ⟨#[]⟩, .bool false]) (by simp [results, Try.results85, go_sem, r0, r1, r2, r3]) rfl ⟨by rw [HR.out]; rfl, RB _ _ (by omega) BS.out⟩
  · have c1 : ¬ (10 : Int) < ((mkS X2).size : Int) := by rw [hls]; omega
    by_cases h2 : 10 < T.length
    · have HR : Hid (moreS 4 T A b = badS) := by show _ = _; rw [HLT.out, if_pos (.inr h2)]
      have c2 : (10 : Int) < ((mkS T).size : Int) := by rw [hlo]; omega
      clear h1 h2
      clear HLT hls hlo
      go_wp2
      obtain ⟨⟨r0, r1, r2, r3⟩, RB⟩ := st_set S0.out (.int .i64 15) (.string ⟨#[]⟩) (.string ⟨#[]⟩) (.bool false)
      exact bodyPost_ret (v := .agg #[.int .i64 15, .string ⟨#[]⟩, .string ⟨#[]⟩, .bool false]) (by simp [results, Try.results85, go_sem, r0, r1, r2, r3]) rfl ⟨by rw [HR.out]; rfl, RB _ _ (by omega) BS.out⟩
    · have HR : Hid (moreS 4 T A b = ⟨4, T, X2, false⟩) := by show _ = _; rw [HLT.out, if_neg (by rintro (h | h); exact h1 h; exact h2 h)]
      have c2 : ¬ (10 : Int) < ((mkS T).size : Int) := by rw [hlo]; omega
      clear h1 h2
      clear HLT hls hlo
      go_wp2
      obtain ⟨⟨r0, r1, r2, r3⟩, RB⟩ := st_set S0.out (.int .i64 4) (.string (mkS T)) (.string (mkS X2)) (.bool false)
      exact bodyPost_ret (v := .agg #[.int .i64 4, .string (mkS T), .string (mkS X2), .bool false]) (by simp [results, Try.results85, go_sem, r0, r1, r2, r3]) rfl ⟨by rw [HR.out]; rfl, RB _ _ (by omega) BS.out⟩
set_option maxRecDepth 100000 in
set_option maxHeartbeats 3200000 in
theorem spec_moreT (M : Nat) (T A : List UInt8) (b : UInt8) (w : World) (hT : T.length ≤ 1000) (hA : A.length ≤ 1000) (hM : M ≠ 4) :
    Calls Try.prog 85 #[.int .i64 (M : Int), .string (mkS T), .string (mkS A), .string (mkS [b])] w fun e w' => e = .returned (stV (moreS M T A b)) ∧ Below w.heap.size w w' := by
  have HL := Lib.hid (fun W => spec_lower_one b W)
  obtain ⟨⟨p0, p1⟩, bx⟩ := two_new w (.cells #[.int .i64 0, .string ⟨#[]⟩, .string ⟨#[]⟩, .bool false] 57 (0, 0)) (.cells #[.int .i64 (M : Int), .string (mkS T), .string (mkS A), .bool false] 57 (0, 0))
  have P0 := Lib.hid p0; have P1 := Lib.hid p1; have BX := Lib.hid bx
  clear p0 p1 bx
  have HLT : Hid (moreS M T A b = if 10 < A.length ∨ 10 < (T ++ [lowC b]).length then badS else ⟨M, T ++ [lowC b], A, false⟩) := by show _ = _; unfold moreS; rw [if_neg hM]
  have hm4 : ((M : Int) == 4) = false := kindF4 hM
  have hsz : (mkS T).size + (mkS [lowC b]).size ≤ 9223372036854775807 := by rw [mkS_size, mkS_size]; simp only [List.length_cons, List.length_nil]; omega
  clear hM
  go_enter Try.func85, Try.ntmps85
  go_wp2_with fail
  refine (HL.out _).mono ?_
  rintro e w1 ⟨rfl, hb1⟩
  have q0 := (hb1.block _ (bld_ltS P0.out)).trans P0.out
  have q1 := (hb1.block _ (bld_ltS P1.out)).trans P1.out
  have hm : mkS T ++ mkS [lowC b] = mkS (T ++ [lowC b]) := mkS_app _ _
  have hls : (mkS (T ++ [lowC b])).size = (T ++ [lowC b]).length := mkS_size _
  have hlo : (mkS A).size = A.length := mkS_size _
  have f0 := row_frozen q0 0
  have f1 := row_frozen q0 1
  have f2 := row_frozen q0 2
  have f3 := row_frozen q0 3
  have g0 := row_frozen q1 0
  have g1 := row_frozen q1 1
  have g2 := row_frozen q1 2
  have g3 := row_frozen q1 3
  have x0 : w1.cell? ⟨w.heap.size, 0, none⟩ = some (.int .i64 0) := by rw [cell_of_row w1 _ _ _ _ _ q0]; rfl
  have x1 : w1.cell? ⟨w.heap.size, 1, none⟩ = some (.string ⟨#[]⟩) := by rw [cell_of_row w1 _ _ _ _ _ q0]; rfl
  have x2 : w1.cell? ⟨w.heap.size, 2, none⟩ = some (.string ⟨#[]⟩) := by rw [cell_of_row w1 _ _ _ _ _ q0]; rfl
  have x3 : w1.cell? ⟨w.heap.size, 3, none⟩ = some (.bool false) := by rw [cell_of_row w1 _ _ _ _ _ q0]; rfl
  have u0 : w1.cell? ⟨w.heap.size + 1, 0, none⟩ = some (.int .i64 (M : Int)) := by rw [cell_of_row w1 _ _ _ _ _ q1]; rfl
  have u1 : w1.cell? ⟨w.heap.size + 1, 1, none⟩ = some (.string (mkS T)) := by rw [cell_of_row w1 _ _ _ _ _ q1]; rfl
  have u2 : w1.cell? ⟨w.heap.size + 1, 2, none⟩ = some (.string (mkS A)) := by rw [cell_of_row w1 _ _ _ _ _ q1]; rfl
  have u3 : w1.cell? ⟨w.heap.size + 1, 3, none⟩ = some (.bool false) := by rw [cell_of_row w1 _ _ _ _ _ q1]; rfl
  have BW := Lib.hid (BX.out.trans (hb1.mono BX.out.size))
  have Q0 := Lib.hid q0
  clear q0 q1 hb1 P0 P1 BX
  generalize hX2 : T ++ [lowC b] = X2 at *
  clear hX2
  have S0 : Hid ((w1.setCell ⟨w.heap.size + 1, 1, none⟩ (.string (mkS X2))).heap[w.heap.size]? = _) := (Below.heap_setCell _ _ _ _ (by simp)).trans Q0.out
  have BS := Lib.hid (BW.out.setCell (p := ⟨w.heap.size + 1, 1, none⟩) (Nat.le_succ _) (.string (mkS X2)))
  by_cases h1 : 10 < A.length
  · have HR : Hid (moreS M T A b = badS) := by show _ = _; rw [HLT.out, if_pos (.inl h1)]
    have c1 : (10 : Int) < ((mkS A).size : Int) := by rw [hlo]; omega
    clear h1
    clear HLT hls hlo
    go_wp2
    obtain ⟨⟨r0, r1, r2, r3⟩, RB⟩ := st_set S0.out (.int .i64 15) (.string ⟨#[]⟩) (.string ⟨#[]⟩) (.bool false)
    exact bodyPost_ret (v := .agg #[.int .i64 15, .string ⟨#[]⟩, .string ⟨#[]⟩, .bool false]) (by simp [results, Try.results85, go_sem, r0, r1, r2, r3]) rfl ⟨by rw [HR.out]; rfl, RB _ _ (by omega) BS.out⟩
  · have c1 : ¬ (10 : Int) < ((mkS A).size : Int) := by rw [hlo]; omega
    by_cases h2 : 10 < X2.length
    · have HR : Hid (moreS M T A b = badS) := by show _ = _; rw [HLT.out, if_pos (.inr h2)]
      have c2 : (10 : Int) < ((mkS X2).size : Int) := by rw [hls]; omega
      clear h1 h2
      clear HLT hls hlo
      go_wp2
      obtain ⟨⟨r0, r1, r2, r3⟩, RB⟩ := st_set S0.out (.int .i64 15) (.string ⟨#[]⟩) (.string ⟨#[]⟩) (.bool false)
      exact bodyPost_ret (v := .agg #[.int .i64 15, .string ⟨#[]⟩, .string ⟨#[]⟩, .bool false]) (by simp [results, Try.results85, go_sem, r0, r1, r2, r3]) rfl ⟨by rw [HR.out]; rfl, RB _ _ (by omega) BS.out⟩
    · have HR : Hid (moreS M T A b = ⟨M, X2, A, false⟩) := by show _ = _; rw [HLT.out, if_neg (by rintro (h | h); exact h1 h; exact h2 h)]
      have c2 : ¬ (10 : Int) < ((mkS X2).size : Int) := by rw [hls]; omega
      clear h1 h2
      clear HLT hls hlo
      go_wp2
      obtain ⟨⟨r0, r1, r2, r3⟩, RB⟩ := st_set S0.out (.int .i64 (M : Int)) (.string (mkS X2)) (.string (mkS A)) (.bool false)
      exact bodyPost_ret (v := .agg #[.int .i64 (M : Int), .string (mkS X2), .string (mkS A), .bool false]) (by simp [results, Try.results85, go_sem, r0, r1, r2, r3]) rfl ⟨by rw [HR.out]; rfl, RB _ _ (by omega) BS.out⟩
end Go.Proofs.Ytdoomfckdjjlaaa

/-! spec.l5Tag from valid states (printed by gen_tagr.py). -/
namespace Go.Proofs.Ytdoomfckdjjlaaa
open Go.RowKit
set_option linter.unusedVariables false

def contentS (T : List UInt8) : St := if T = scriptL then ⟨11, [], [], false⟩ else zeroS
theorem spec_content (T : List UInt8) (w : World) : Calls Try.prog 98 #[.string (mkS T)] w fun e w' => e = .returned (stV (contentS T)) ∧ Below w.heap.size w w' := by
  unfold contentS
  exact spec_l5Content T w
set_option maxRecDepth 100000 in
set_option maxHeartbeats 3200000 in
theorem rt_2c (T : List UInt8) (b : UInt8) (hT : T.length ≤ 10) (h : b = 62) (w : World) :
    Calls Try.prog 88 #[stV ⟨2, T, [], false⟩, .int .u8 (b.toNat : Int)] w fun e w' => e = .returned (stV (contentS T)) ∧ Below w.heap.size w w' := by
  have hb62 : ((b.toNat : Int) == 62) = true := beqN (n := 62) 62 rfl h
  have CG := Lib.hid (fun W => spec_content T W)
  obtain ⟨M2, T2, A2, E2, hlt⟩ : ∃ M2 T2 A2 E2, contentS T = ⟨M2, T2, A2, E2⟩ := ⟨_, _, _, _, rfl⟩
  rw [hlt, st_agg] at CG
  obtain ⟨⟨p0, p1⟩, bx⟩ := two_new w (.cells #[.int .i64 2, .string (mkS T), .string (mkS []), .bool false] 57 (0, 0)) (.cells #[.int .i64 0, .string ⟨#[]⟩, .string ⟨#[]⟩, .bool false] 57 (0, 0))
  rw [st_agg 2]
  have Q0 := Lib.hid p0; have Q1 := Lib.hid p1; have BX := Lib.hid bx
  clear p0 p1 bx hT h
  go_enter Try.func88, Try.ntmps88
  go_wp2_with fail
  refine (CG.out _).mono ?_
  rintro e w3 ⟨rfl, hb3⟩
  have B3 := Lib.hid hb3
  have q3 := (B3.out.block _ (bld_ltS Q1.out)).trans Q1.out
  have v0 : w3.cell? ⟨w.heap.size + 1, 0, none⟩ = some (.int .i64 0) := by rw [cell_of_row w3 _ _ _ _ _ q3]; rfl
  have v1 : w3.cell? ⟨w.heap.size + 1, 1, none⟩ = some (.string ⟨#[]⟩) := by rw [cell_of_row w3 _ _ _ _ _ q3]; rfl
  have v2 : w3.cell? ⟨w.heap.size + 1, 2, none⟩ = some (.string ⟨#[]⟩) := by rw [cell_of_row w3 _ _ _ _ _ q3]; rfl
  have v3 : w3.cell? ⟨w.heap.size + 1, 3, none⟩ = some (.bool false) := by rw [cell_of_row w3 _ _ _ _ _ q3]; rfl
  have k0 := row_frozen q3 0
  have k1 := row_frozen q3 1
  have k2 := row_frozen q3 2
  have k3 := row_frozen q3 3
  have Q3 := Lib.hid q3
  have BV := Lib.hid (BX.out.trans (B3.out.mono BX.out.size))
  clear q3 hb3
  go_wp2
  obtain ⟨⟨r0, r1, r2, r3⟩, RB⟩ := st_set Q3.out (.int .i64 (M2 : Int)) (.string (mkS T2)) (.string (mkS A2)) (.bool E2)
  exact bodyPost_ret (v := .agg #[.int .i64 (M2 : Int), .string (mkS T2), .string (mkS A2), .bool E2]) (by simp [results, Try.results88, go_sem, r0, r1, r2, r3]) rfl ⟨by rw [hlt]; rfl, RB _ _ (by omega) BV.out⟩
set_option maxRecDepth 100000 in
set_option maxHeartbeats 3200000 in
theorem rt_3c (T : List UInt8) (b : UInt8) (hT : T.length ≤ 10) (h : b = 62) (w : World) :
    Calls Try.prog 88 #[stV ⟨3, T, [], false⟩, .int .u8 (b.toNat : Int)] w fun e w' => e = .returned (stV (contentS T)) ∧ Below w.heap.size w w' := by
  have hb62 : ((b.toNat : Int) == 62) = true := beqN (n := 62) 62 rfl h
  have CG := Lib.hid (fun W => spec_content T W)
  obtain ⟨M2, T2, A2, E2, hlt⟩ : ∃ M2 T2 A2 E2, contentS T = ⟨M2, T2, A2, E2⟩ := ⟨_, _, _, _, rfl⟩
  rw [hlt, st_agg] at CG
  obtain ⟨⟨p0, p1⟩, bx⟩ := two_new w (.cells #[.int .i64 3, .string (mkS T), .string (mkS []), .bool false] 57 (0, 0)) (.cells #[.int .i64 0, .string ⟨#[]⟩, .string ⟨#[]⟩, .bool false] 57 (0, 0))
  rw [st_agg 3]
  have Q0 := Lib.hid p0; have Q1 := Lib.hid p1; have BX := Lib.hid bx
  clear p0 p1 bx hT h
  go_enter Try.func88, Try.ntmps88
  go_wp2_with fail
  refine (CG.out _).mono ?_
  rintro e w3 ⟨rfl, hb3⟩
  have B3 := Lib.hid hb3
  have q3 := (B3.out.block _ (bld_ltS Q1.out)).trans Q1.out
  have v0 : w3.cell? ⟨w.heap.size + 1, 0, none⟩ = some (.int .i64 0) := by rw [cell_of_row w3 _ _ _ _ _ q3]; rfl
  have v1 : w3.cell? ⟨w.heap.size + 1, 1, none⟩ = some (.string ⟨#[]⟩) := by rw [cell_of_row w3 _ _ _ _ _ q3]; rfl
  have v2 : w3.cell? ⟨w.heap.size + 1, 2, none⟩ = some (.string ⟨#[]⟩) := by rw [cell_of_row w3 _ _ _ _ _ q3]; rfl
  have v3 : w3.cell? ⟨w.heap.size + 1, 3, none⟩ = some (.bool false) := by rw [cell_of_row w3 _ _ _ _ _ q3]; rfl
  have k0 := row_frozen q3 0
  have k1 := row_frozen q3 1
  have k2 := row_frozen q3 2
  have k3 := row_frozen q3 3
  have Q3 := Lib.hid q3
  have BV := Lib.hid (BX.out.trans (B3.out.mono BX.out.size))
  clear q3 hb3
  go_wp2
  obtain ⟨⟨r0, r1, r2, r3⟩, RB⟩ := st_set Q3.out (.int .i64 (M2 : Int)) (.string (mkS T2)) (.string (mkS A2)) (.bool E2)
  exact bodyPost_ret (v := .agg #[.int .i64 (M2 : Int), .string (mkS T2), .string (mkS A2), .bool E2]) (by simp [results, Try.results88, go_sem, r0, r1, r2, r3]) rfl ⟨by rw [hlt]; rfl, RB _ _ (by omega) BV.out⟩
set_option maxRecDepth 100000 in
set_option maxHeartbeats 3200000 in
theorem rt_4c (T A : List UInt8) (b : UInt8) (hT : T.length ≤ 10) (hA : A.length ≤ 10) (h : b = 62) (w : World) :
    Calls Try.prog 88 #[stV ⟨4, T, A, false⟩, .int .u8 (b.toNat : Int)] w fun e w' => e = .returned (stV (contentS T)) ∧ Below w.heap.size w w' := by
  have hb62 : ((b.toNat : Int) == 62) = true := beqN (n := 62) 62 rfl h
  have CG := Lib.hid (fun W => spec_content T W)
  obtain ⟨M2, T2, A2, E2, hlt⟩ : ∃ M2 T2 A2 E2, contentS T = ⟨M2, T2, A2, E2⟩ := ⟨_, _, _, _, rfl⟩
  rw [hlt, st_agg] at CG
  obtain ⟨⟨p0, p1⟩, bx⟩ := two_new w (.cells #[.int .i64 4, .string (mkS T), .string (mkS A), .bool false] 57 (0, 0)) (.cells #[.int .i64 0, .string ⟨#[]⟩, .string ⟨#[]⟩, .bool false] 57 (0, 0))
  rw [st_agg 4]
  have Q0 := Lib.hid p0; have Q1 := Lib.hid p1; have BX := Lib.hid bx
  clear p0 p1 bx hT hA h
  go_enter Try.func88, Try.ntmps88
  go_wp2_with fail
  refine (CG.out _).mono ?_
  rintro e w3 ⟨rfl, hb3⟩
  have B3 := Lib.hid hb3
  have q3 := (B3.out.block _ (bld_ltS Q1.out)).trans Q1.out
  have v0 : w3.cell? ⟨w.heap.size + 1, 0, none⟩ = some (.int .i64 0) := by rw [cell_of_row w3 _ _ _ _ _ q3]; rfl
  have v1 : w3.cell? ⟨w.heap.size + 1, 1, none⟩ = some (.string ⟨#[]⟩) := by rw [cell_of_row w3 _ _ _ _ _ q3]; rfl
  have v2 : w3.cell? ⟨w.heap.size + 1, 2, none⟩ = some (.string ⟨#[]⟩) := by rw [cell_of_row w3 _ _ _ _ _ q3]; rfl
  have v3 : w3.cell? ⟨w.heap.size + 1, 3, none⟩ = some (.bool false) := by rw [cell_of_row w3 _ _ _ _ _ q3]; rfl
  have k0 := row_frozen q3 0
  have k1 := row_frozen q3 1
  have k2 := row_frozen q3 2
  have k3 := row_frozen q3 3
  have Q3 := Lib.hid q3
  have BV := Lib.hid (BX.out.trans (B3.out.mono BX.out.size))
  clear q3 hb3
  go_wp2
  obtain ⟨⟨r0, r1, r2, r3⟩, RB⟩ := st_set Q3.out (.int .i64 (M2 : Int)) (.string (mkS T2)) (.string (mkS A2)) (.bool E2)
  exact bodyPost_ret (v := .agg #[.int .i64 (M2 : Int), .string (mkS T2), .string (mkS A2), .bool E2]) (by simp [results, Try.results88, go_sem, r0, r1, r2, r3]) rfl ⟨by rw [hlt]; rfl, RB _ _ (by omega) BV.out⟩
set_option maxRecDepth 100000 in
set_option maxHeartbeats 3200000 in
theorem rt_8c (T A : List UInt8) (b : UInt8) (hT : T.length ≤ 10) (hA : A.length ≤ 10) (h : b = 62) (w : World) :
    Calls Try.prog 88 #[stV ⟨8, T, A, true⟩, .int .u8 (b.toNat : Int)] w fun e w' => e = .returned (stV (contentS T)) ∧ Below w.heap.size w w' := by
  have hb62 : ((b.toNat : Int) == 62) = true := beqN (n := 62) 62 rfl h
  have CG := Lib.hid (fun W => spec_content T W)
  obtain ⟨M2, T2, A2, E2, hlt⟩ : ∃ M2 T2 A2 E2, contentS T = ⟨M2, T2, A2, E2⟩ := ⟨_, _, _, _, rfl⟩
  rw [hlt, st_agg] at CG
  obtain ⟨⟨p0, p1⟩, bx⟩ := two_new w (.cells #[.int .i64 8, .string (mkS T), .string (mkS A), .bool true] 57 (0, 0)) (.cells #[.int .i64 0, .string ⟨#[]⟩, .string ⟨#[]⟩, .bool false] 57 (0, 0))
  rw [st_agg 8]
  have Q0 := Lib.hid p0; have Q1 := Lib.hid p1; have BX := Lib.hid bx
  clear p0 p1 bx hT hA h
  go_enter Try.func88, Try.ntmps88
  go_wp2_with fail
  refine (CG.out _).mono ?_
  rintro e w3 ⟨rfl, hb3⟩
  have B3 := Lib.hid hb3
  have q3 := (B3.out.block _ (bld_ltS Q1.out)).trans Q1.out
  have v0 : w3.cell? ⟨w.heap.size + 1, 0, none⟩ = some (.int .i64 0) := by rw [cell_of_row w3 _ _ _ _ _ q3]; rfl
  have v1 : w3.cell? ⟨w.heap.size + 1, 1, none⟩ = some (.string ⟨#[]⟩) := by rw [cell_of_row w3 _ _ _ _ _ q3]; rfl
  have v2 : w3.cell? ⟨w.heap.size + 1, 2, none⟩ = some (.string ⟨#[]⟩) := by rw [cell_of_row w3 _ _ _ _ _ q3]; rfl
  have v3 : w3.cell? ⟨w.heap.size + 1, 3, none⟩ = some (.bool false) := by rw [cell_of_row w3 _ _ _ _ _ q3]; rfl
  have k0 := row_frozen q3 0
  have k1 := row_frozen q3 1
  have k2 := row_frozen q3 2
  have k3 := row_frozen q3 3
  have Q3 := Lib.hid q3
  have BV := Lib.hid (BX.out.trans (B3.out.mono BX.out.size))
  clear q3 hb3
  go_wp2
  obtain ⟨⟨r0, r1, r2, r3⟩, RB⟩ := st_set Q3.out (.int .i64 (M2 : Int)) (.string (mkS T2)) (.string (mkS A2)) (.bool E2)
  exact bodyPost_ret (v := .agg #[.int .i64 (M2 : Int), .string (mkS T2), .string (mkS A2), .bool E2]) (by simp [results, Try.results88, go_sem, r0, r1, r2, r3]) rfl ⟨by rw [hlt]; rfl, RB _ _ (by omega) BV.out⟩
set_option maxRecDepth 100000 in
set_option maxHeartbeats 3200000 in
theorem rt_2n (T : List UInt8) (b : UInt8) (hT : T.length ≤ 10) (h1 : b ≠ 62) (hn : namedB b = true) (w : World) :
    Calls Try.prog 88 #[stV ⟨2, T, [], false⟩, .int .u8 (b.toNat : Int)] w fun e w' => e = .returned (stV (moreS 2 T [] b)) ∧ Below w.heap.size w w' := by
  have hb62 : ((b.toNat : Int) == 62) = false := bneN (n := 62) 62 rfl h1
  have CN := Lib.hid (fun W => (by have h := spec_l5Name b W; rw [hn] at h; exact h : Calls Try.prog 87 #[.int .u8 (b.toNat : Int)] W fun e w' => e = .returned (.bool true) ∧ W = w'))
  have CG := Lib.hid (fun W => spec_moreT 2 T [] b W (by omega) (by simp) (by omega))
  obtain ⟨M2, T2, A2, E2, hlt⟩ : ∃ M2 T2 A2 E2, moreS 2 T [] b = ⟨M2, T2, A2, E2⟩ := ⟨_, _, _, _, rfl⟩
  rw [hlt, st_agg] at CG
  obtain ⟨⟨p0, p1⟩, bx⟩ := two_new w (.cells #[.int .i64 2, .string (mkS T), .string (mkS []), .bool false] 57 (0, 0)) (.cells #[.int .i64 0, .string ⟨#[]⟩, .string ⟨#[]⟩, .bool false] 57 (0, 0))
  rw [st_agg 2]
  have Q0 := Lib.hid p0; have Q1 := Lib.hid p1; have BX := Lib.hid bx
  have hone := one_str ((w.alloc (.cells #[.int .i64 2, .string (mkS T), .string (mkS []), .bool false] 57 (0, 0))).alloc (.cells #[.int .i64 0, .string ⟨#[]⟩, .string ⟨#[]⟩, .bool false] 57 (0, 0))) b
  have hxs : ((w.alloc (.cells #[.int .i64 2, .string (mkS T), .string (mkS []), .bool false] 57 (0, 0))).alloc (.cells #[.int .i64 0, .string ⟨#[]⟩, .string ⟨#[]⟩, .bool false] 57 (0, 0))).heap.size = w.heap.size + 1 + 1 := by simp
  rw [hxs] at hone
  clear hxs
  clear p0 p1 bx hT h1 hn
  go_enter Try.func88, Try.ntmps88
  go_wp2_with (first | (go_at_call 87; refine (CN.out _).mono ?_; rintro e w2 ⟨rfl, rfl⟩))
  refine (CG.out _).mono ?_
  rintro e w3 ⟨rfl, hb3⟩
  have B3 := Lib.hid (((Below.refl ((w.alloc (.cells #[.int .i64 2, .string (mkS T), .string (mkS []), .bool false] 57 (0, 0))).alloc (.cells #[.int .i64 0, .string ⟨#[]⟩, .string ⟨#[]⟩, .bool false] 57 (0, 0))).heap.size ((w.alloc (.cells #[.int .i64 2, .string (mkS T), .string (mkS []), .bool false] 57 (0, 0))).alloc (.cells #[.int .i64 0, .string ⟨#[]⟩, .string ⟨#[]⟩, .bool false] 57 (0, 0)))).alloc (Nat.le_refl _) (.cells #[.int .u8 (b.toNat : Int)] 5 (0, 0))).trans (hb3.mono (by simp)))
  have q3 := (B3.out.block _ (bld_ltS Q1.out)).trans Q1.out
  have v0 : w3.cell? ⟨w.heap.size + 1, 0, none⟩ = some (.int .i64 0) := by rw [cell_of_row w3 _ _ _ _ _ q3]; rfl
  have v1 : w3.cell? ⟨w.heap.size + 1, 1, none⟩ = some (.string ⟨#[]⟩) := by rw [cell_of_row w3 _ _ _ _ _ q3]; rfl
  have v2 : w3.cell? ⟨w.heap.size + 1, 2, none⟩ = some (.string ⟨#[]⟩) := by rw [cell_of_row w3 _ _ _ _ _ q3]; rfl
  have v3 : w3.cell? ⟨w.heap.size + 1, 3, none⟩ = some (.bool false) := by rw [cell_of_row w3 _ _ _ _ _ q3]; rfl
  have k0 := row_frozen q3 0
  have k1 := row_frozen q3 1
  have k2 := row_frozen q3 2
  have k3 := row_frozen q3 3
  have Q3 := Lib.hid q3
  have BV := Lib.hid (BX.out.trans (B3.out.mono BX.out.size))
  clear q3 hb3
  go_wp2
  obtain ⟨⟨r0, r1, r2, r3⟩, RB⟩ := st_set Q3.out (.int .i64 (M2 : Int)) (.string (mkS T2)) (.string (mkS A2)) (.bool E2)
  exact bodyPost_ret (v := .agg #[.int .i64 (M2 : Int), .string (mkS T2), .string (mkS A2), .bool E2]) (by simp [results, Try.results88, go_sem, r0, r1, r2, r3]) rfl ⟨by rw [hlt]; rfl, RB _ _ (by omega) BV.out⟩
set_option maxRecDepth 100000 in
set_option maxHeartbeats 3200000 in
theorem rt_2s (T : List UInt8) (b : UInt8) (hT : T.length ≤ 10) (h : b = 32) (w : World) :
    Calls Try.prog 88 #[stV ⟨2, T, [], false⟩, .int .u8 (b.toNat : Int)] w fun e w' => e = .returned (stV ⟨3, T, [], false⟩) ∧ Below w.heap.size w w' := by
  have hn : namedB b = false := by subst h; decide
  have hb62 : ((b.toNat : Int) == 62) = false := bneN (n := 62) 62 rfl (by subst h; decide)
  have CN := Lib.hid (fun W => (by have h := spec_l5Name b W; rw [hn] at h; exact h : Calls Try.prog 87 #[.int .u8 (b.toNat : Int)] W fun e w' => e = .returned (.bool false) ∧ W = w'))
  have hb32 : ((b.toNat : Int) == 32) = true := beqN (n := 32) 32 rfl h
  obtain ⟨⟨p0, p1⟩, bx⟩ := two_new w (.cells #[.int .i64 2, .string (mkS T), .string (mkS []), .bool false] 57 (0, 0)) (.cells #[.int .i64 0, .string ⟨#[]⟩, .string ⟨#[]⟩, .bool false] 57 (0, 0))
  rw [st_agg 2]
  have Q0 := Lib.hid p0; have Q1 := Lib.hid p1; have BX := Lib.hid bx
  clear p0 p1 bx hT h hn
  go_enter Try.func88, Try.ntmps88
  go_wp2_with (first | (go_at_call 87; refine (CN.out _).mono ?_; rintro e w2 ⟨rfl, rfl⟩))
  exact bodyPost_ret (v := .agg #[.int .i64 3, .string (mkS T), .string ⟨#[]⟩, .bool false]) (by simp [results, Try.results88, go_sem]) rfl ⟨rfl, ((Below.refl _ _).alloc (Nat.le_refl _) _).alloc (by simp) _⟩
set_option maxRecDepth 100000 in
set_option maxHeartbeats 3200000 in
theorem rt_2b (T : List UInt8) (b : UInt8) (hT : T.length ≤ 10) (h1 : b ≠ 62) (h2 : b ≠ 32) (hn : namedB b = false) (w : World) :
    Calls Try.prog 88 #[stV ⟨2, T, [], false⟩, .int .u8 (b.toNat : Int)] w fun e w' => e = .returned (stV badS) ∧ Below w.heap.size w w' := by
  have hb62 : ((b.toNat : Int) == 62) = false := bneN (n := 62) 62 rfl h1
  have CN := Lib.hid (fun W => (by have h := spec_l5Name b W; rw [hn] at h; exact h : Calls Try.prog 87 #[.int .u8 (b.toNat : Int)] W fun e w' => e = .returned (.bool false) ∧ W = w'))
  have hb32 : ((b.toNat : Int) == 32) = false := bneN (n := 32) 32 rfl h2
  obtain ⟨⟨p0, p1⟩, bx⟩ := two_new w (.cells #[.int .i64 2, .string (mkS T), .string (mkS []), .bool false] 57 (0, 0)) (.cells #[.int .i64 0, .string ⟨#[]⟩, .string ⟨#[]⟩, .bool false] 57 (0, 0))
  rw [st_agg 2]
  have Q0 := Lib.hid p0; have Q1 := Lib.hid p1; have BX := Lib.hid bx
  clear p0 p1 bx hT h1 h2 hn
  go_enter Try.func88, Try.ntmps88
  go_wp2_with (first | (go_at_call 87; refine (CN.out _).mono ?_; rintro e w2 ⟨rfl, rfl⟩))
  exact bodyPost_ret (v := .agg #[.int .i64 15, .string ⟨#[]⟩, .string ⟨#[]⟩, .bool false]) (by simp [results, Try.results88, go_sem]) rfl ⟨rfl, ((Below.refl _ _).alloc (Nat.le_refl _) _).alloc (by simp) _⟩
set_option maxRecDepth 100000 in
set_option maxHeartbeats 3200000 in
theorem rt_3n (T : List UInt8) (b : UInt8) (hT : T.length ≤ 10) (h1 : b ≠ 62) (hl : letB b = true) (w : World) :
    Calls Try.prog 88 #[stV ⟨3, T, [], false⟩, .int .u8 (b.toNat : Int)] w fun e w' => e = .returned (stV (moreS 4 T [] b)) ∧ Below w.heap.size w w' := by
  have hb62 : ((b.toNat : Int) == 62) = false := bneN (n := 62) 62 rfl h1
  have CL := Lib.hid (fun W => (by have h := spec_l1Letter b W; rw [hl] at h; exact h : Calls Try.prog 84 #[.int .u8 (b.toNat : Int)] W fun e w' => e = .returned (.bool true) ∧ W = w'))
  have CG := Lib.hid (fun W => spec_more4 T [] b W (by omega) (by simp))
  obtain ⟨M2, T2, A2, E2, hlt⟩ : ∃ M2 T2 A2 E2, moreS 4 T [] b = ⟨M2, T2, A2, E2⟩ := ⟨_, _, _, _, rfl⟩
  rw [hlt, st_agg] at CG
  obtain ⟨⟨p0, p1⟩, bx⟩ := two_new w (.cells #[.int .i64 3, .string (mkS T), .string (mkS []), .bool false] 57 (0, 0)) (.cells #[.int .i64 0, .string ⟨#[]⟩, .string ⟨#[]⟩, .bool false] 57 (0, 0))
  rw [st_agg 3]
  have Q0 := Lib.hid p0; have Q1 := Lib.hid p1; have BX := Lib.hid bx
  have hone := one_str ((w.alloc (.cells #[.int .i64 3, .string (mkS T), .string (mkS []), .bool false] 57 (0, 0))).alloc (.cells #[.int .i64 0, .string ⟨#[]⟩, .string ⟨#[]⟩, .bool false] 57 (0, 0))) b
  have hxs : ((w.alloc (.cells #[.int .i64 3, .string (mkS T), .string (mkS []), .bool false] 57 (0, 0))).alloc (.cells #[.int .i64 0, .string ⟨#[]⟩, .string ⟨#[]⟩, .bool false] 57 (0, 0))).heap.size = w.heap.size + 1 + 1 := by simp
  rw [hxs] at hone
  clear hxs
  clear p0 p1 bx hT h1 hl
  go_enter Try.func88, Try.ntmps88
  go_wp2_with (first | (go_at_call 84; refine (CL.out _).mono ?_; rintro e w2 ⟨rfl, rfl⟩))
  refine (CG.out _).mono ?_
  rintro e w3 ⟨rfl, hb3⟩
  have B3 := Lib.hid (((Below.refl ((w.alloc (.cells #[.int .i64 3, .string (mkS T), .string (mkS []), .bool false] 57 (0, 0))).alloc (.cells #[.int .i64 0, .string ⟨#[]⟩, .string ⟨#[]⟩, .bool false] 57 (0, 0))).heap.size ((w.alloc (.cells #[.int .i64 3, .string (mkS T), .string (mkS []), .bool false] 57 (0, 0))).alloc (.cells #[.int .i64 0, .string ⟨#[]⟩, .string ⟨#[]⟩, .bool false] 57 (0, 0)))).alloc (Nat.le_refl _) (.cells #[.int .u8 (b.toNat : Int)] 5 (0, 0))).trans (hb3.mono (by simp)))
  have q3 := (B3.out.block _ (bld_ltS Q1.out)).trans Q1.out
  have v0 : w3.cell? ⟨w.heap.size + 1, 0, none⟩ = some (.int .i64 0) := by rw [cell_of_row w3 _ _ _ _ _ q3]; rfl
  have v1 : w3.cell? ⟨w.heap.size + 1, 1, none⟩ = some (.string ⟨#[]⟩) := by rw [cell_of_row w3 _ _ _ _ _ q3]; rfl
  have v2 : w3.cell? ⟨w.heap.size + 1, 2, none⟩ = some (.string ⟨#[]⟩) := by rw [cell_of_row w3 _ _ _ _ _ q3]; rfl
  have v3 : w3.cell? ⟨w.heap.size + 1, 3, none⟩ = some (.bool false) := by rw [cell_of_row w3 _ _ _ _ _ q3]; rfl
  have k0 := row_frozen q3 0
  have k1 := row_frozen q3 1
  have k2 := row_frozen q3 2
  have k3 := row_frozen q3 3
  have Q3 := Lib.hid q3
  have BV := Lib.hid (BX.out.trans (B3.out.mono BX.out.size))
  clear q3 hb3
  go_wp2
  obtain ⟨⟨r0, r1, r2, r3⟩, RB⟩ := st_set Q3.out (.int .i64 (M2 : Int)) (.string (mkS T2)) (.string (mkS A2)) (.bool E2)
  exact bodyPost_ret (v := .agg #[.int .i64 (M2 : Int), .string (mkS T2), .string (mkS A2), .bool E2]) (by simp [results, Try.results88, go_sem, r0, r1, r2, r3]) rfl ⟨by rw [hlt]; rfl, RB _ _ (by omega) BV.out⟩
set_option maxRecDepth 100000 in
set_option maxHeartbeats 3200000 in
theorem rt_3s (T : List UInt8) (b : UInt8) (hT : T.length ≤ 10) (h : b = 32) (w : World) :
    Calls Try.prog 88 #[stV ⟨3, T, [], false⟩, .int .u8 (b.toNat : Int)] w fun e w' => e = .returned (stV ⟨3, T, [], false⟩) ∧ Below w.heap.size w w' := by
  have hl : letB b = false := by subst h; decide
  have hb62 : ((b.toNat : Int) == 62) = false := bneN (n := 62) 62 rfl (by subst h; decide)
  have CL := Lib.hid (fun W => (by have h := spec_l1Letter b W; rw [hl] at h; exact h : Calls Try.prog 84 #[.int .u8 (b.toNat : Int)] W fun e w' => e = .returned (.bool false) ∧ W = w'))
  have hb32 : ((b.toNat : Int) == 32) = true := beqN (n := 32) 32 rfl h
  obtain ⟨⟨p0, p1⟩, bx⟩ := two_new w (.cells #[.int .i64 3, .string (mkS T), .string (mkS []), .bool false] 57 (0, 0)) (.cells #[.int .i64 0, .string ⟨#[]⟩, .string ⟨#[]⟩, .bool false] 57 (0, 0))
  rw [st_agg 3]
  have Q0 := Lib.hid p0; have Q1 := Lib.hid p1; have BX := Lib.hid bx
  clear p0 p1 bx hT h hl
  go_enter Try.func88, Try.ntmps88
  go_wp2_with (first | (go_at_call 84; refine (CL.out _).mono ?_; rintro e w2 ⟨rfl, rfl⟩))
  exact bodyPost_ret (v := .agg #[.int .i64 3, .string (mkS T), .string ⟨#[]⟩, .bool false]) (by simp [results, Try.results88, go_sem]) rfl ⟨rfl, ((Below.refl _ _).alloc (Nat.le_refl _) _).alloc (by simp) _⟩
set_option maxRecDepth 100000 in
set_option maxHeartbeats 3200000 in
theorem rt_3b (T : List UInt8) (b : UInt8) (hT : T.length ≤ 10) (h1 : b ≠ 62) (h2 : b ≠ 32) (hl : letB b = false) (w : World) :
    Calls Try.prog 88 #[stV ⟨3, T, [], false⟩, .int .u8 (b.toNat : Int)] w fun e w' => e = .returned (stV badS) ∧ Below w.heap.size w w' := by
  have hb62 : ((b.toNat : Int) == 62) = false := bneN (n := 62) 62 rfl h1
  have CL := Lib.hid (fun W => (by have h := spec_l1Letter b W; rw [hl] at h; exact h : Calls Try.prog 84 #[.int .u8 (b.toNat : Int)] W fun e w' => e = .returned (.bool false) ∧ W = w'))
  have hb32 : ((b.toNat : Int) == 32) = false := bneN (n := 32) 32 rfl h2
  obtain ⟨⟨p0, p1⟩, bx⟩ := two_new w (.cells #[.int .i64 3, .string (mkS T), .string (mkS []), .bool false] 57 (0, 0)) (.cells #[.int .i64 0, .string ⟨#[]⟩, .string ⟨#[]⟩, .bool false] 57 (0, 0))
  rw [st_agg 3]
  have Q0 := Lib.hid p0; have Q1 := Lib.hid p1; have BX := Lib.hid bx
  clear p0 p1 bx hT h1 h2 hl
  go_enter Try.func88, Try.ntmps88
  go_wp2_with (first | (go_at_call 84; refine (CL.out _).mono ?_; rintro e w2 ⟨rfl, rfl⟩))
  exact bodyPost_ret (v := .agg #[.int .i64 15, .string ⟨#[]⟩, .string ⟨#[]⟩, .bool false]) (by simp [results, Try.results88, go_sem]) rfl ⟨rfl, ((Below.refl _ _).alloc (Nat.le_refl _) _).alloc (by simp) _⟩
set_option maxRecDepth 100000 in
set_option maxHeartbeats 3200000 in
theorem rt_4n (T A : List UInt8) (b : UInt8) (hT : T.length ≤ 10) (hA : A.length ≤ 10) (h1 : b ≠ 62) (hn : namedB b = true) (w : World) :
    Calls Try.prog 88 #[stV ⟨4, T, A, false⟩, .int .u8 (b.toNat : Int)] w fun e w' => e = .returned (stV (moreS 4 T A b)) ∧ Below w.heap.size w w' := by
  have hb62 : ((b.toNat : Int) == 62) = false := bneN (n := 62) 62 rfl h1
  have CN := Lib.hid (fun W => (by have h := spec_l5Name b W; rw [hn] at h; exact h : Calls Try.prog 87 #[.int .u8 (b.toNat : Int)] W fun e w' => e = .returned (.bool true) ∧ W = w'))
  have CG := Lib.hid (fun W => spec_more4 T A b W (by omega) (by omega))
  obtain ⟨M2, T2, A2, E2, hlt⟩ : ∃ M2 T2 A2 E2, moreS 4 T A b = ⟨M2, T2, A2, E2⟩ := ⟨_, _, _, _, rfl⟩
  rw [hlt, st_agg] at CG
  obtain ⟨⟨p0, p1⟩, bx⟩ := two_new w (.cells #[.int .i64 4, .string (mkS T), .string (mkS A), .bool false] 57 (0, 0)) (.cells #[.int .i64 0, .string ⟨#[]⟩, .string ⟨#[]⟩, .bool false] 57 (0, 0))
  rw [st_agg 4]
  have Q0 := Lib.hid p0; have Q1 := Lib.hid p1; have BX := Lib.hid bx
  have hone := one_str ((w.alloc (.cells #[.int .i64 4, .string (mkS T), .string (mkS A), .bool false] 57 (0, 0))).alloc (.cells #[.int .i64 0, .string ⟨#[]⟩, .string ⟨#[]⟩, .bool false] 57 (0, 0))) b
  have hxs : ((w.alloc (.cells #[.int .i64 4, .string (mkS T), .string (mkS A), .bool false] 57 (0, 0))).alloc (.cells #[.int .i64 0, .string ⟨#[]⟩, .string ⟨#[]⟩, .bool false] 57 (0, 0))).heap.size = w.heap.size + 1 + 1 := by simp
  rw [hxs] at hone
  clear hxs
  clear p0 p1 bx hT hA h1 hn
  go_enter Try.func88, Try.ntmps88
  go_wp2_with (first | (go_at_call 87; refine (CN.out _).mono ?_; rintro e w2 ⟨rfl, rfl⟩))
  refine (CG.out _).mono ?_
  rintro e w3 ⟨rfl, hb3⟩
  have B3 := Lib.hid (((Below.refl ((w.alloc (.cells #[.int .i64 4, .string (mkS T), .string (mkS A), .bool false] 57 (0, 0))).alloc (.cells #[.int .i64 0, .string ⟨#[]⟩, .string ⟨#[]⟩, .bool false] 57 (0, 0))).heap.size ((w.alloc (.cells #[.int .i64 4, .string (mkS T), .string (mkS A), .bool false] 57 (0, 0))).alloc (.cells #[.int .i64 0, .string ⟨#[]⟩, .string ⟨#[]⟩, .bool false] 57 (0, 0)))).alloc (Nat.le_refl _) (.cells #[.int .u8 (b.toNat : Int)] 5 (0, 0))).trans (hb3.mono (by simp)))
  have q3 := (B3.out.block _ (bld_ltS Q1.out)).trans Q1.out
  have v0 : w3.cell? ⟨w.heap.size + 1, 0, none⟩ = some (.int .i64 0) := by rw [cell_of_row w3 _ _ _ _ _ q3]; rfl
  have v1 : w3.cell? ⟨w.heap.size + 1, 1, none⟩ = some (.string ⟨#[]⟩) := by rw [cell_of_row w3 _ _ _ _ _ q3]; rfl
  have v2 : w3.cell? ⟨w.heap.size + 1, 2, none⟩ = some (.string ⟨#[]⟩) := by rw [cell_of_row w3 _ _ _ _ _ q3]; rfl
  have v3 : w3.cell? ⟨w.heap.size + 1, 3, none⟩ = some (.bool false) := by rw [cell_of_row w3 _ _ _ _ _ q3]; rfl
  have k0 := row_frozen q3 0
  have k1 := row_frozen q3 1
  have k2 := row_frozen q3 2
  have k3 := row_frozen q3 3
  have Q3 := Lib.hid q3
  have BV := Lib.hid (BX.out.trans (B3.out.mono BX.out.size))
  clear q3 hb3
  go_wp2
  obtain ⟨⟨r0, r1, r2, r3⟩, RB⟩ := st_set Q3.out (.int .i64 (M2 : Int)) (.string (mkS T2)) (.string (mkS A2)) (.bool E2)
  exact bodyPost_ret (v := .agg #[.int .i64 (M2 : Int), .string (mkS T2), .string (mkS A2), .bool E2]) (by simp [results, Try.results88, go_sem, r0, r1, r2, r3]) rfl ⟨by rw [hlt]; rfl, RB _ _ (by omega) BV.out⟩
set_option maxRecDepth 100000 in
set_option maxHeartbeats 3200000 in
theorem rt_4s (T A : List UInt8) (b : UInt8) (hT : T.length ≤ 10) (hA : A.length ≤ 10) (h : b = 32) (w : World) :
    Calls Try.prog 88 #[stV ⟨4, T, A, false⟩, .int .u8 (b.toNat : Int)] w fun e w' => e = .returned (stV ⟨3, T, [], false⟩) ∧ Below w.heap.size w w' := by
  have hn : namedB b = false := by subst h; decide
  have hb62 : ((b.toNat : Int) == 62) = false := bneN (n := 62) 62 rfl (by subst h; decide)
  have CN := Lib.hid (fun W => (by have h := spec_l5Name b W; rw [hn] at h; exact h : Calls Try.prog 87 #[.int .u8 (b.toNat : Int)] W fun e w' => e = .returned (.bool false) ∧ W = w'))
  have hb32 : ((b.toNat : Int) == 32) = true := beqN (n := 32) 32 rfl h
  obtain ⟨⟨p0, p1⟩, bx⟩ := two_new w (.cells #[.int .i64 4, .string (mkS T), .string (mkS A), .bool false] 57 (0, 0)) (.cells #[.int .i64 0, .string ⟨#[]⟩, .string ⟨#[]⟩, .bool false] 57 (0, 0))
  rw [st_agg 4]
  have Q0 := Lib.hid p0; have Q1 := Lib.hid p1; have BX := Lib.hid bx
  clear p0 p1 bx hT hA h hn
  go_enter Try.func88, Try.ntmps88
  go_wp2_with (first | (go_at_call 87; refine (CN.out _).mono ?_; rintro e w2 ⟨rfl, rfl⟩))
  exact bodyPost_ret (v := .agg #[.int .i64 3, .string (mkS T), .string ⟨#[]⟩, .bool false]) (by simp [results, Try.results88, go_sem]) rfl ⟨rfl, ((Below.refl _ _).alloc (Nat.le_refl _) _).alloc (by simp) _⟩
set_option maxRecDepth 100000 in
set_option maxHeartbeats 3200000 in
theorem rt_4e (T A : List UInt8) (b : UInt8) (hT : T.length ≤ 10) (hA : A.length ≤ 10) (h : b = 61) (w : World) :
    Calls Try.prog 88 #[stV ⟨4, T, A, false⟩, .int .u8 (b.toNat : Int)] w fun e w' => e = .returned (stV ⟨5, T, A, false⟩) ∧ Below w.heap.size w w' := by
  have hn : namedB b = false := by subst h; decide
  have hb62 : ((b.toNat : Int) == 62) = false := bneN (n := 62) 62 rfl (by subst h; decide)
  have CN := Lib.hid (fun W => (by have h := spec_l5Name b W; rw [hn] at h; exact h : Calls Try.prog 87 #[.int .u8 (b.toNat : Int)] W fun e w' => e = .returned (.bool false) ∧ W = w'))
  have hb32 : ((b.toNat : Int) == 32) = false := bneN (n := 32) 32 rfl (by subst h; decide)
  have hb61 : ((b.toNat : Int) == 61) = true := beqN (n := 61) 61 rfl h
  obtain ⟨⟨p0, p1⟩, bx⟩ := two_new w (.cells #[.int .i64 4, .string (mkS T), .string (mkS A), .bool false] 57 (0, 0)) (.cells #[.int .i64 0, .string ⟨#[]⟩, .string ⟨#[]⟩, .bool false] 57 (0, 0))
  rw [st_agg 4]
  have Q0 := Lib.hid p0; have Q1 := Lib.hid p1; have BX := Lib.hid bx
  clear p0 p1 bx hT hA h hn
  go_enter Try.func88, Try.ntmps88
  go_wp2_with (first | (go_at_call 87; refine (CN.out _).mono ?_; rintro e w2 ⟨rfl, rfl⟩))
  exact bodyPost_ret (v := .agg #[.int .i64 5, .string (mkS T), .string (mkS A), .bool false]) (by simp [results, Try.results88, go_sem]) rfl ⟨rfl, ((Below.refl _ _).alloc (Nat.le_refl _) _).alloc (by simp) _⟩
set_option maxRecDepth 100000 in
set_option maxHeartbeats 3200000 in
theorem rt_4b (T A : List UInt8) (b : UInt8) (hT : T.length ≤ 10) (hA : A.length ≤ 10) (h1 : b ≠ 62) (h2 : b ≠ 32) (h3 : b ≠ 61) (hn : namedB b = false) (w : World) :
    Calls Try.prog 88 #[stV ⟨4, T, A, false⟩, .int .u8 (b.toNat : Int)] w fun e w' => e = .returned (stV badS) ∧ Below w.heap.size w w' := by
  have hb62 : ((b.toNat : Int) == 62) = false := bneN (n := 62) 62 rfl h1
  have CN := Lib.hid (fun W => (by have h := spec_l5Name b W; rw [hn] at h; exact h : Calls Try.prog 87 #[.int .u8 (b.toNat : Int)] W fun e w' => e = .returned (.bool false) ∧ W = w'))
  have hb32 : ((b.toNat : Int) == 32) = false := bneN (n := 32) 32 rfl h2
  have hb61 : ((b.toNat : Int) == 61) = false := bneN (n := 61) 61 rfl h3
  obtain ⟨⟨p0, p1⟩, bx⟩ := two_new w (.cells #[.int .i64 4, .string (mkS T), .string (mkS A), .bool false] 57 (0, 0)) (.cells #[.int .i64 0, .string ⟨#[]⟩, .string ⟨#[]⟩, .bool false] 57 (0, 0))
  rw [st_agg 4]
  have Q0 := Lib.hid p0; have Q1 := Lib.hid p1; have BX := Lib.hid bx
  clear p0 p1 bx hT hA h1 h2 h3 hn
  go_enter Try.func88, Try.ntmps88
  go_wp2_with (first | (go_at_call 87; refine (CN.out _).mono ?_; rintro e w2 ⟨rfl, rfl⟩))
  exact bodyPost_ret (v := .agg #[.int .i64 15, .string ⟨#[]⟩, .string ⟨#[]⟩, .bool false]) (by simp [results, Try.results88, go_sem]) rfl ⟨rfl, ((Below.refl _ _).alloc (Nat.le_refl _) _).alloc (by simp) _⟩
set_option maxRecDepth 100000 in
set_option maxHeartbeats 3200000 in
theorem rt_5d (T A : List UInt8) (b : UInt8) (hT : T.length ≤ 10) (hA : A.length ≤ 10) (h : b = 34) (w : World) :
    Calls Try.prog 88 #[stV ⟨5, T, A, false⟩, .int .u8 (b.toNat : Int)] w fun e w' => e = .returned (stV ⟨6, T, A, false⟩) ∧ Below w.heap.size w w' := by
  have hb62 : ((b.toNat : Int) == 62) = false := bneN (n := 62) 62 rfl (by subst h; decide)
  have hb32 : ((b.toNat : Int) == 32) = false := bneN (n := 32) 32 rfl (by subst h; decide)
  have hb34 : ((b.toNat : Int) == 34) = true := beqN (n := 34) 34 rfl h
  obtain ⟨⟨p0, p1⟩, bx⟩ := two_new w (.cells #[.int .i64 5, .string (mkS T), .string (mkS A), .bool false] 57 (0, 0)) (.cells #[.int .i64 0, .string ⟨#[]⟩, .string ⟨#[]⟩, .bool false] 57 (0, 0))
  rw [st_agg 5]
  have Q0 := Lib.hid p0; have Q1 := Lib.hid p1; have BX := Lib.hid bx
  clear p0 p1 bx hT hA h
  go_enter Try.func88, Try.ntmps88
  go_wp2
  exact bodyPost_ret (v := .agg #[.int .i64 6, .string (mkS T), .string (mkS A), .bool false]) (by simp [results, Try.results88, go_sem]) rfl ⟨rfl, ((Below.refl _ _).alloc (Nat.le_refl _) _).alloc (by simp) _⟩
set_option maxRecDepth 100000 in
set_option maxHeartbeats 3200000 in
theorem rt_5s (T A : List UInt8) (b : UInt8) (hT : T.length ≤ 10) (hA : A.length ≤ 10) (h : b = 39) (w : World) :
    Calls Try.prog 88 #[stV ⟨5, T, A, false⟩, .int .u8 (b.toNat : Int)] w fun e w' => e = .returned (stV ⟨7, T, A, false⟩) ∧ Below w.heap.size w w' := by
  have hb62 : ((b.toNat : Int) == 62) = false := bneN (n := 62) 62 rfl (by subst h; decide)
  have hb32 : ((b.toNat : Int) == 32) = false := bneN (n := 32) 32 rfl (by subst h; decide)
  have hb34 : ((b.toNat : Int) == 34) = false := bneN (n := 34) 34 rfl (by subst h; decide)
  have hb39 : ((b.toNat : Int) == 39) = true := beqN (n := 39) 39 rfl h
  obtain ⟨⟨p0, p1⟩, bx⟩ := two_new w (.cells #[.int .i64 5, .string (mkS T), .string (mkS A), .bool false] 57 (0, 0)) (.cells #[.int .i64 0, .string ⟨#[]⟩, .string ⟨#[]⟩, .bool false] 57 (0, 0))
  rw [st_agg 5]
  have Q0 := Lib.hid p0; have Q1 := Lib.hid p1; have BX := Lib.hid bx
  clear p0 p1 bx hT hA h
  go_enter Try.func88, Try.ntmps88
  go_wp2
  exact bodyPost_ret (v := .agg #[.int .i64 7, .string (mkS T), .string (mkS A), .bool false]) (by simp [results, Try.results88, go_sem]) rfl ⟨rfl, ((Below.refl _ _).alloc (Nat.le_refl _) _).alloc (by simp) _⟩
set_option maxRecDepth 100000 in
set_option maxHeartbeats 3200000 in
theorem rt_5m (T A : List UInt8) (b : UInt8) (hT : T.length ≤ 10) (hA : A.length ≤ 10) (h1 : b ≠ 62) (h2 : b ≠ 32) (h3 : b ≠ 34) (h4 : b ≠ 39) (hn : namedB b = true) (w : World) :
    Calls Try.prog 88 #[stV ⟨5, T, A, false⟩, .int .u8 (b.toNat : Int)] w fun e w' => e = .returned (stV ⟨8, T, A, true⟩) ∧ Below w.heap.size w w' := by
  have hb62 : ((b.toNat : Int) == 62) = false := bneN (n := 62) 62 rfl h1
  have hb32 : ((b.toNat : Int) == 32) = false := bneN (n := 32) 32 rfl h2
  have hb34 : ((b.toNat : Int) == 34) = false := bneN (n := 34) 34 rfl h3
  have hb39 : ((b.toNat : Int) == 39) = false := bneN (n := 39) 39 rfl h4
  have CN := Lib.hid (fun W => (by have h := spec_l5Name b W; rw [hn] at h; exact h : Calls Try.prog 87 #[.int .u8 (b.toNat : Int)] W fun e w' => e = .returned (.bool true) ∧ W = w'))
  obtain ⟨⟨p0, p1⟩, bx⟩ := two_new w (.cells #[.int .i64 5, .string (mkS T), .string (mkS A), .bool false] 57 (0, 0)) (.cells #[.int .i64 0, .string ⟨#[]⟩, .string ⟨#[]⟩, .bool false] 57 (0, 0))
  rw [st_agg 5]
  have Q0 := Lib.hid p0; have Q1 := Lib.hid p1; have BX := Lib.hid bx
  clear p0 p1 bx hT hA h1 h2 h3 h4 hn
  go_enter Try.func88, Try.ntmps88
  go_wp2_with (first | (go_at_call 87; refine (CN.out _).mono ?_; rintro e w2 ⟨rfl, rfl⟩))
  exact bodyPost_ret (v := .agg #[.int .i64 8, .string (mkS T), .string (mkS A), .bool true]) (by simp [results, Try.results88, go_sem]) rfl ⟨rfl, ((Below.refl _ _).alloc (Nat.le_refl _) _).alloc (by simp) _⟩
set_option maxRecDepth 100000 in
set_option maxHeartbeats 3200000 in
theorem rt_5u (T A : List UInt8) (b : UInt8) (hT : T.length ≤ 10) (hA : A.length ≤ 10) (h : b = 95) (w : World) :
    Calls Try.prog 88 #[stV ⟨5, T, A, false⟩, .int .u8 (b.toNat : Int)] w fun e w' => e = .returned (stV ⟨8, T, A, true⟩) ∧ Below w.heap.size w w' := by
  have hn : namedB b = false := by subst h; decide
  have CN := Lib.hid (fun W => (by have h := spec_l5Name b W; rw [hn] at h; exact h : Calls Try.prog 87 #[.int .u8 (b.toNat : Int)] W fun e w' => e = .returned (.bool false) ∧ W = w'))
  have hb62 : ((b.toNat : Int) == 62) = false := bneN (n := 62) 62 rfl (by subst h; decide)
  have hb32 : ((b.toNat : Int) == 32) = false := bneN (n := 32) 32 rfl (by subst h; decide)
  have hb34 : ((b.toNat : Int) == 34) = false := bneN (n := 34) 34 rfl (by subst h; decide)
  have hb39 : ((b.toNat : Int) == 39) = false := bneN (n := 39) 39 rfl (by subst h; decide)
  have hb95 : ((b.toNat : Int) == 95) = true := beqN (n := 95) 95 rfl h
  obtain ⟨⟨p0, p1⟩, bx⟩ := two_new w (.cells #[.int .i64 5, .string (mkS T), .string (mkS A), .bool false] 57 (0, 0)) (.cells #[.int .i64 0, .string ⟨#[]⟩, .string ⟨#[]⟩, .bool false] 57 (0, 0))
  rw [st_agg 5]
  have Q0 := Lib.hid p0; have Q1 := Lib.hid p1; have BX := Lib.hid bx
  clear p0 p1 bx hT hA h hn
  go_enter Try.func88, Try.ntmps88
  go_wp2_with (first | (go_at_call 87; refine (CN.out _).mono ?_; rintro e w2 ⟨rfl, rfl⟩))
  exact bodyPost_ret (v := .agg #[.int .i64 8, .string (mkS T), .string (mkS A), .bool true]) (by simp [results, Try.results88, go_sem]) rfl ⟨rfl, ((Below.refl _ _).alloc (Nat.le_refl _) _).alloc (by simp) _⟩
set_option maxRecDepth 100000 in
set_option maxHeartbeats 3200000 in
theorem rt_5p (T A : List UInt8) (b : UInt8) (hT : T.length ≤ 10) (hA : A.length ≤ 10) (h : b = 46) (w : World) :
    Calls Try.prog 88 #[stV ⟨5, T, A, false⟩, .int .u8 (b.toNat : Int)] w fun e w' => e = .returned (stV ⟨8, T, A, true⟩) ∧ Below w.heap.size w w' := by
  have hn : namedB b = false := by subst h; decide
  have CN := Lib.hid (fun W => (by have h := spec_l5Name b W; rw [hn] at h; exact h : Calls Try.prog 87 #[.int .u8 (b.toNat : Int)] W fun e w' => e = .returned (.bool false) ∧ W = w'))
  have hb62 : ((b.toNat : Int) == 62) = false := bneN (n := 62) 62 rfl (by subst h; decide)
  have hb32 : ((b.toNat : Int) == 32) = false := bneN (n := 32) 32 rfl (by subst h; decide)
  have hb34 : ((b.toNat : Int) == 34) = false := bneN (n := 34) 34 rfl (by subst h; decide)
  have hb39 : ((b.toNat : Int) == 39) = false := bneN (n := 39) 39 rfl (by subst h; decide)
  have hb95 : ((b.toNat : Int) == 95) = false := bneN (n := 95) 95 rfl (by subst h; decide)
  have hb46 : ((b.toNat : Int) == 46) = true := beqN (n := 46) 46 rfl h
  obtain ⟨⟨p0, p1⟩, bx⟩ := two_new w (.cells #[.int .i64 5, .string (mkS T), .string (mkS A), .bool false] 57 (0, 0)) (.cells #[.int .i64 0, .string ⟨#[]⟩, .string ⟨#[]⟩, .bool false] 57 (0, 0))
  rw [st_agg 5]
  have Q0 := Lib.hid p0; have Q1 := Lib.hid p1; have BX := Lib.hid bx
  clear p0 p1 bx hT hA h hn
  go_enter Try.func88, Try.ntmps88
  go_wp2_with (first | (go_at_call 87; refine (CN.out _).mono ?_; rintro e w2 ⟨rfl, rfl⟩))
  exact bodyPost_ret (v := .agg #[.int .i64 8, .string (mkS T), .string (mkS A), .bool true]) (by simp [results, Try.results88, go_sem]) rfl ⟨rfl, ((Below.refl _ _).alloc (Nat.le_refl _) _).alloc (by simp) _⟩
set_option maxRecDepth 100000 in
set_option maxHeartbeats 3200000 in
theorem rt_5l (T A : List UInt8) (b : UInt8) (hT : T.length ≤ 10) (hA : A.length ≤ 10) (h : b = 47) (w : World) :
    Calls Try.prog 88 #[stV ⟨5, T, A, false⟩, .int .u8 (b.toNat : Int)] w fun e w' => e = .returned (stV ⟨8, T, A, true⟩) ∧ Below w.heap.size w w' := by
  have hn : namedB b = false := by subst h; decide
  have CN := Lib.hid (fun W => (by have h := spec_l5Name b W; rw [hn] at h; exact h : Calls Try.prog 87 #[.int .u8 (b.toNat : Int)] W fun e w' => e = .returned (.bool false) ∧ W = w'))
  have hb62 : ((b.toNat : Int) == 62) = false := bneN (n := 62) 62 rfl (by subst h; decide)
  have hb32 : ((b.toNat : Int) == 32) = false := bneN (n := 32) 32 rfl (by subst h; decide)
  have hb34 : ((b.toNat : Int) == 34) = false := bneN (n := 34) 34 rfl (by subst h; decide)
  have hb39 : ((b.toNat : Int) == 39) = false := bneN (n := 39) 39 rfl (by subst h; decide)
  have hb95 : ((b.toNat : Int) == 95) = false := bneN (n := 95) 95 rfl (by subst h; decide)
  have hb46 : ((b.toNat : Int) == 46) = false := bneN (n := 46) 46 rfl (by subst h; decide)
  have hb47 : ((b.toNat : Int) == 47) = true := beqN (n := 47) 47 rfl h
  obtain ⟨⟨p0, p1⟩, bx⟩ := two_new w (.cells #[.int .i64 5, .string (mkS T), .string (mkS A), .bool false] 57 (0, 0)) (.cells #[.int .i64 0, .string ⟨#[]⟩, .string ⟨#[]⟩, .bool false] 57 (0, 0))
  rw [st_agg 5]
  have Q0 := Lib.hid p0; have Q1 := Lib.hid p1; have BX := Lib.hid bx
  clear p0 p1 bx hT hA h hn
  go_enter Try.func88, Try.ntmps88
  go_wp2_with (first | (go_at_call 87; refine (CN.out _).mono ?_; rintro e w2 ⟨rfl, rfl⟩))
  exact bodyPost_ret (v := .agg #[.int .i64 8, .string (mkS T), .string (mkS A), .bool true]) (by simp [results, Try.results88, go_sem]) rfl ⟨rfl, ((Below.refl _ _).alloc (Nat.le_refl _) _).alloc (by simp) _⟩
set_option maxRecDepth 100000 in
set_option maxHeartbeats 3200000 in
theorem rt_5k (T A : List UInt8) (b : UInt8) (hT : T.length ≤ 10) (hA : A.length ≤ 10) (h : b = 58) (w : World) :
    Calls Try.prog 88 #[stV ⟨5, T, A, false⟩, .int .u8 (b.toNat : Int)] w fun e w' => e = .returned (stV ⟨8, T, A, true⟩) ∧ Below w.heap.size w w' := by
  have hn : namedB b = false := by subst h; decide
  have CN := Lib.hid (fun W => (by have h := spec_l5Name b W; rw [hn] at h; exact h : Calls Try.prog 87 #[.int .u8 (b.toNat : Int)] W fun e w' => e = .returned (.bool false) ∧ W = w'))
  have hb62 : ((b.toNat : Int) == 62) = false := bneN (n := 62) 62 rfl (by subst h; decide)
  have hb32 : ((b.toNat : Int) == 32) = false := bneN (n := 32) 32 rfl (by subst h; decide)
  have hb34 : ((b.toNat : Int) == 34) = false := bneN (n := 34) 34 rfl (by subst h; decide)
  have hb39 : ((b.toNat : Int) == 39) = false := bneN (n := 39) 39 rfl (by subst h; decide)
  have hb95 : ((b.toNat : Int) == 95) = false := bneN (n := 95) 95 rfl (by subst h; decide)
  have hb46 : ((b.toNat : Int) == 46) = false := bneN (n := 46) 46 rfl (by subst h; decide)
  have hb47 : ((b.toNat : Int) == 47) = false := bneN (n := 47) 47 rfl (by subst h; decide)
  have hb58 : ((b.toNat : Int) == 58) = true := beqN (n := 58) 58 rfl h
  obtain ⟨⟨p0, p1⟩, bx⟩ := two_new w (.cells #[.int .i64 5, .string (mkS T), .string (mkS A), .bool false] 57 (0, 0)) (.cells #[.int .i64 0, .string ⟨#[]⟩, .string ⟨#[]⟩, .bool false] 57 (0, 0))
  rw [st_agg 5]
  have Q0 := Lib.hid p0; have Q1 := Lib.hid p1; have BX := Lib.hid bx
  clear p0 p1 bx hT hA h hn
  go_enter Try.func88, Try.ntmps88
  go_wp2_with (first | (go_at_call 87; refine (CN.out _).mono ?_; rintro e w2 ⟨rfl, rfl⟩))
  exact bodyPost_ret (v := .agg #[.int .i64 8, .string (mkS T), .string (mkS A), .bool true]) (by simp [results, Try.results88, go_sem]) rfl ⟨rfl, ((Below.refl _ _).alloc (Nat.le_refl _) _).alloc (by simp) _⟩
set_option maxRecDepth 100000 in
set_option maxHeartbeats 3200000 in
theorem rt_5b (T A : List UInt8) (b : UInt8) (hT : T.length ≤ 10) (hA : A.length ≤ 10) (h1 : b ≠ 62) (h2 : b ≠ 32) (h3 : b ≠ 34) (h4 : b ≠ 39) (hn : namedB b = false) (g1 : b ≠ 95) (g2 : b ≠ 46) (g3 : b ≠ 47) (g4 : b ≠ 58) (w : World) :
    Calls Try.prog 88 #[stV ⟨5, T, A, false⟩, .int .u8 (b.toNat : Int)] w fun e w' => e = .returned (stV badS) ∧ Below w.heap.size w w' := by
  have hb62 : ((b.toNat : Int) == 62) = false := bneN (n := 62) 62 rfl h1
  have hb32 : ((b.toNat : Int) == 32) = false := bneN (n := 32) 32 rfl h2
  have hb34 : ((b.toNat : Int) == 34) = false := bneN (n := 34) 34 rfl h3
  have hb39 : ((b.toNat : Int) == 39) = false := bneN (n := 39) 39 rfl h4
  have CN := Lib.hid (fun W => (by have h := spec_l5Name b W; rw [hn] at h; exact h : Calls Try.prog 87 #[.int .u8 (b.toNat : Int)] W fun e w' => e = .returned (.bool false) ∧ W = w'))
  have hb95 : ((b.toNat : Int) == 95) = false := bneN (n := 95) 95 rfl g1
  have hb46 : ((b.toNat : Int) == 46) = false := bneN (n := 46) 46 rfl g2
  have hb47 : ((b.toNat : Int) == 47) = false := bneN (n := 47) 47 rfl g3
  have hb58 : ((b.toNat : Int) == 58) = false := bneN (n := 58) 58 rfl g4
  obtain ⟨⟨p0, p1⟩, bx⟩ := two_new w (.cells #[.int .i64 5, .string (mkS T), .string (mkS A), .bool false] 57 (0, 0)) (.cells #[.int .i64 0, .string ⟨#[]⟩, .string ⟨#[]⟩, .bool false] 57 (0, 0))
  rw [st_agg 5]
  have Q0 := Lib.hid p0; have Q1 := Lib.hid p1; have BX := Lib.hid bx
  clear p0 p1 bx hT hA h1 h2 h3 h4 hn g1 g2 g3 g4
  go_enter Try.func88, Try.ntmps88
  go_wp2_with (first | (go_at_call 87; refine (CN.out _).mono ?_; rintro e w2 ⟨rfl, rfl⟩))
  exact bodyPost_ret (v := .agg #[.int .i64 15, .string ⟨#[]⟩, .string ⟨#[]⟩, .bool false]) (by simp [results, Try.results88, go_sem]) rfl ⟨rfl, ((Below.refl _ _).alloc (Nat.le_refl _) _).alloc (by simp) _⟩
set_option maxRecDepth 100000 in
set_option maxHeartbeats 3200000 in
theorem rt_8m (T A : List UInt8) (b : UInt8) (hT : T.length ≤ 10) (hA : A.length ≤ 10) (h1 : b ≠ 62) (h2 : b ≠ 32) (hn : namedB b = true) (w : World) :
    Calls Try.prog 88 #[stV ⟨8, T, A, true⟩, .int .u8 (b.toNat : Int)] w fun e w' => e = .returned (stV ⟨8, T, A, true⟩) ∧ Below w.heap.size w w' := by
  have hb62 : ((b.toNat : Int) == 62) = false := bneN (n := 62) 62 rfl h1
  have hb32 : ((b.toNat : Int) == 32) = false := bneN (n := 32) 32 rfl h2
  have CN := Lib.hid (fun W => (by have h := spec_l5Name b W; rw [hn] at h; exact h : Calls Try.prog 87 #[.int .u8 (b.toNat : Int)] W fun e w' => e = .returned (.bool true) ∧ W = w'))
  obtain ⟨⟨p0, p1⟩, bx⟩ := two_new w (.cells #[.int .i64 8, .string (mkS T), .string (mkS A), .bool true] 57 (0, 0)) (.cells #[.int .i64 0, .string ⟨#[]⟩, .string ⟨#[]⟩, .bool false] 57 (0, 0))
  rw [st_agg 8]
  have Q0 := Lib.hid p0; have Q1 := Lib.hid p1; have BX := Lib.hid bx
  clear p0 p1 bx hT hA h1 h2 hn
  go_enter Try.func88, Try.ntmps88
  go_wp2_with (first | (go_at_call 87; refine (CN.out _).mono ?_; rintro e w2 ⟨rfl, rfl⟩))
  exact bodyPost_ret (v := .agg #[.int .i64 8, .string (mkS T), .string (mkS A), .bool true]) (by simp [results, Try.results88, go_sem]) rfl ⟨rfl, ((Below.refl _ _).alloc (Nat.le_refl _) _).alloc (by simp) _⟩
set_option maxRecDepth 100000 in
set_option maxHeartbeats 3200000 in
theorem rt_8u (T A : List UInt8) (b : UInt8) (hT : T.length ≤ 10) (hA : A.length ≤ 10) (h : b = 95) (w : World) :
    Calls Try.prog 88 #[stV ⟨8, T, A, true⟩, .int .u8 (b.toNat : Int)] w fun e w' => e = .returned (stV ⟨8, T, A, true⟩) ∧ Below w.heap.size w w' := by
  have hn : namedB b = false := by subst h; decide
  have CN := Lib.hid (fun W => (by have h := spec_l5Name b W; rw [hn] at h; exact h : Calls Try.prog 87 #[.int .u8 (b.toNat : Int)] W fun e w' => e = .returned (.bool false) ∧ W = w'))
  have hb62 : ((b.toNat : Int) == 62) = false := bneN (n := 62) 62 rfl (by subst h; decide)
  have hb32 : ((b.toNat : Int) == 32) = false := bneN (n := 32) 32 rfl (by subst h; decide)
  have hb95 : ((b.toNat : Int) == 95) = true := beqN (n := 95) 95 rfl h
  obtain ⟨⟨p0, p1⟩, bx⟩ := two_new w (.cells #[.int .i64 8, .string (mkS T), .string (mkS A), .bool true] 57 (0, 0)) (.cells #[.int .i64 0, .string ⟨#[]⟩, .string ⟨#[]⟩, .bool false] 57 (0, 0))
  rw [st_agg 8]
  have Q0 := Lib.hid p0; have Q1 := Lib.hid p1; have BX := Lib.hid bx
  clear p0 p1 bx hT hA h hn
  go_enter Try.func88, Try.ntmps88
  go_wp2_with (first | (go_at_call 87; refine (CN.out _).mono ?_; rintro e w2 ⟨rfl, rfl⟩))
  exact bodyPost_ret (v := .agg #[.int .i64 8, .string (mkS T), .string (mkS A), .bool true]) (by simp [results, Try.results88, go_sem]) rfl ⟨rfl, ((Below.refl _ _).alloc (Nat.le_refl _) _).alloc (by simp) _⟩
set_option maxRecDepth 100000 in
set_option maxHeartbeats 3200000 in
theorem rt_8p (T A : List UInt8) (b : UInt8) (hT : T.length ≤ 10) (hA : A.length ≤ 10) (h : b = 46) (w : World) :
    Calls Try.prog 88 #[stV ⟨8, T, A, true⟩, .int .u8 (b.toNat : Int)] w fun e w' => e = .returned (stV ⟨8, T, A, true⟩) ∧ Below w.heap.size w w' := by
  have hn : namedB b = false := by subst h; decide
  have CN := Lib.hid (fun W => (by have h := spec_l5Name b W; rw [hn] at h; exact h : Calls Try.prog 87 #[.int .u8 (b.toNat : Int)] W fun e w' => e = .returned (.bool false) ∧ W = w'))
  have hb62 : ((b.toNat : Int) == 62) = false := bneN (n := 62) 62 rfl (by subst h; decide)
  have hb32 : ((b.toNat : Int) == 32) = false := bneN (n := 32) 32 rfl (by subst h; decide)
  have hb95 : ((b.toNat : Int) == 95) = false := bneN (n := 95) 95 rfl (by subst h; decide)
  have hb46 : ((b.toNat : Int) == 46) = true := beqN (n := 46) 46 rfl h
  obtain ⟨⟨p0, p1⟩, bx⟩ := two_new w (.cells #[.int .i64 8, .string (mkS T), .string (mkS A), .bool true] 57 (0, 0)) (.cells #[.int .i64 0, .string ⟨#[]⟩, .string ⟨#[]⟩, .bool false] 57 (0, 0))
  rw [st_agg 8]
  have Q0 := Lib.hid p0; have Q1 := Lib.hid p1; have BX := Lib.hid bx
  clear p0 p1 bx hT hA h hn
  go_enter Try.func88, Try.ntmps88
  go_wp2_with (first | (go_at_call 87; refine (CN.out _).mono ?_; rintro e w2 ⟨rfl, rfl⟩))
  exact bodyPost_ret (v := .agg #[.int .i64 8, .string (mkS T), .string (mkS A), .bool true]) (by simp [results, Try.results88, go_sem]) rfl ⟨rfl, ((Below.refl _ _).alloc (Nat.le_refl _) _).alloc (by simp) _⟩
set_option maxRecDepth 100000 in
set_option maxHeartbeats 3200000 in
theorem rt_8l (T A : List UInt8) (b : UInt8) (hT : T.length ≤ 10) (hA : A.length ≤ 10) (h : b = 47) (w : World) :
    Calls Try.prog 88 #[stV ⟨8, T, A, true⟩, .int .u8 (b.toNat : Int)] w fun e w' => e = .returned (stV ⟨8, T, A, true⟩) ∧ Below w.heap.size w w' := by
  have hn : namedB b = false := by subst h; decide
  have CN := Lib.hid (fun W => (by have h := spec_l5Name b W; rw [hn] at h; exact h : Calls Try.prog 87 #[.int .u8 (b.toNat : Int)] W fun e w' => e = .returned (.bool false) ∧ W = w'))
  have hb62 : ((b.toNat : Int) == 62) = false := bneN (n := 62) 62 rfl (by subst h; decide)
  have hb32 : ((b.toNat : Int) == 32) = false := bneN (n := 32) 32 rfl (by subst h; decide)
  have hb95 : ((b.toNat : Int) == 95) = false := bneN (n := 95) 95 rfl (by subst h; decide)
  have hb46 : ((b.toNat : Int) == 46) = false := bneN (n := 46) 46 rfl (by subst h; decide)
  have hb47 : ((b.toNat : Int) == 47) = true := beqN (n := 47) 47 rfl h
  obtain ⟨⟨p0, p1⟩, bx⟩ := two_new w (.cells #[.int .i64 8, .string (mkS T), .string (mkS A), .bool true] 57 (0, 0)) (.cells #[.int .i64 0, .string ⟨#[]⟩, .string ⟨#[]⟩, .bool false] 57 (0, 0))
  rw [st_agg 8]
  have Q0 := Lib.hid p0; have Q1 := Lib.hid p1; have BX := Lib.hid bx
  clear p0 p1 bx hT hA h hn
  go_enter Try.func88, Try.ntmps88
  go_wp2_with (first | (go_at_call 87; refine (CN.out _).mono ?_; rintro e w2 ⟨rfl, rfl⟩))
  exact bodyPost_ret (v := .agg #[.int .i64 8, .string (mkS T), .string (mkS A), .bool true]) (by simp [results, Try.results88, go_sem]) rfl ⟨rfl, ((Below.refl _ _).alloc (Nat.le_refl _) _).alloc (by simp) _⟩
set_option maxRecDepth 100000 in
set_option maxHeartbeats 3200000 in
theorem rt_8k (T A : List UInt8) (b : UInt8) (hT : T.length ≤ 10) (hA : A.length ≤ 10) (h : b = 58) (w : World) :
    Calls Try.prog 88 #[stV ⟨8, T, A, true⟩, .int .u8 (b.toNat : Int)] w fun e w' => e = .returned (stV ⟨8, T, A, true⟩) ∧ Below w.heap.size w w' := by
  have hn : namedB b = false := by subst h; decide
  have CN := Lib.hid (fun W => (by have h := spec_l5Name b W; rw [hn] at h; exact h : Calls Try.prog 87 #[.int .u8 (b.toNat : Int)] W fun e w' => e = .returned (.bool false) ∧ W = w'))
  have hb62 : ((b.toNat : Int) == 62) = false := bneN (n := 62) 62 rfl (by subst h; decide)
  have hb32 : ((b.toNat : Int) == 32) = false := bneN (n := 32) 32 rfl (by subst h; decide)
  have hb95 : ((b.toNat : Int) == 95) = false := bneN (n := 95) 95 rfl (by subst h; decide)
  have hb46 : ((b.toNat : Int) == 46) = false := bneN (n := 46) 46 rfl (by subst h; decide)
  have hb47 : ((b.toNat : Int) == 47) = false := bneN (n := 47) 47 rfl (by subst h; decide)
  have hb58 : ((b.toNat : Int) == 58) = true := beqN (n := 58) 58 rfl h
  obtain ⟨⟨p0, p1⟩, bx⟩ := two_new w (.cells #[.int .i64 8, .string (mkS T), .string (mkS A), .bool true] 57 (0, 0)) (.cells #[.int .i64 0, .string ⟨#[]⟩, .string ⟨#[]⟩, .bool false] 57 (0, 0))
  rw [st_agg 8]
  have Q0 := Lib.hid p0; have Q1 := Lib.hid p1; have BX := Lib.hid bx
  clear p0 p1 bx hT hA h hn
  go_enter Try.func88, Try.ntmps88
  go_wp2_with (first | (go_at_call 87; refine (CN.out _).mono ?_; rintro e w2 ⟨rfl, rfl⟩))
  exact bodyPost_ret (v := .agg #[.int .i64 8, .string (mkS T), .string (mkS A), .bool true]) (by simp [results, Try.results88, go_sem]) rfl ⟨rfl, ((Below.refl _ _).alloc (Nat.le_refl _) _).alloc (by simp) _⟩
set_option maxRecDepth 100000 in
set_option maxHeartbeats 3200000 in
theorem rt_8b (T A : List UInt8) (b : UInt8) (hT : T.length ≤ 10) (hA : A.length ≤ 10) (h1 : b ≠ 62) (h2 : b ≠ 32) (hn : namedB b = false) (g1 : b ≠ 95) (g2 : b ≠ 46) (g3 : b ≠ 47) (g4 : b ≠ 58) (w : World) :
    Calls Try.prog 88 #[stV ⟨8, T, A, true⟩, .int .u8 (b.toNat : Int)] w fun e w' => e = .returned (stV badS) ∧ Below w.heap.size w w' := by
  have hb62 : ((b.toNat : Int) == 62) = false := bneN (n := 62) 62 rfl h1
  have hb32 : ((b.toNat : Int) == 32) = false := bneN (n := 32) 32 rfl h2
  have CN := Lib.hid (fun W => (by have h := spec_l5Name b W; rw [hn] at h; exact h : Calls Try.prog 87 #[.int .u8 (b.toNat : Int)] W fun e w' => e = .returned (.bool false) ∧ W = w'))
  have hb95 : ((b.toNat : Int) == 95) = false := bneN (n := 95) 95 rfl g1
  have hb46 : ((b.toNat : Int) == 46) = false := bneN (n := 46) 46 rfl g2
  have hb47 : ((b.toNat : Int) == 47) = false := bneN (n := 47) 47 rfl g3
  have hb58 : ((b.toNat : Int) == 58) = false := bneN (n := 58) 58 rfl g4
  obtain ⟨⟨p0, p1⟩, bx⟩ := two_new w (.cells #[.int .i64 8, .string (mkS T), .string (mkS A), .bool true] 57 (0, 0)) (.cells #[.int .i64 0, .string ⟨#[]⟩, .string ⟨#[]⟩, .bool false] 57 (0, 0))
  rw [st_agg 8]
  have Q0 := Lib.hid p0; have Q1 := Lib.hid p1; have BX := Lib.hid bx
  clear p0 p1 bx hT hA h1 h2 hn g1 g2 g3 g4
  go_enter Try.func88, Try.ntmps88
  go_wp2_with (first | (go_at_call 87; refine (CN.out _).mono ?_; rintro e w2 ⟨rfl, rfl⟩))
  exact bodyPost_ret (v := .agg #[.int .i64 15, .string ⟨#[]⟩, .string ⟨#[]⟩, .bool false]) (by simp [results, Try.results88, go_sem]) rfl ⟨rfl, ((Below.refl _ _).alloc (Nat.le_refl _) _).alloc (by simp) _⟩
set_option maxRecDepth 100000 in
set_option maxHeartbeats 3200000 in
theorem rt_5x (T A : List UInt8) (b : UInt8) (hT : T.length ≤ 10) (hA : A.length ≤ 10) (h : b = 62) (w : World) :
    Calls Try.prog 88 #[stV ⟨5, T, A, false⟩, .int .u8 (b.toNat : Int)] w fun e w' => e = .returned (stV badS) ∧ Below w.heap.size w w' := by
  have hn : namedB b = false := by subst h; decide
  have CN := Lib.hid (fun W => (by have h := spec_l5Name b W; rw [hn] at h; exact h : Calls Try.prog 87 #[.int .u8 (b.toNat : Int)] W fun e w' => e = .returned (.bool false) ∧ W = w'))
  have hb62 : ((b.toNat : Int) == 62) = true := beqN (n := 62) 62 rfl h
  have hb32 : ((b.toNat : Int) == 32) = false := bneN (n := 32) 32 rfl (by subst h; decide)
  have hb34 : ((b.toNat : Int) == 34) = false := bneN (n := 34) 34 rfl (by subst h; decide)
  have hb39 : ((b.toNat : Int) == 39) = false := bneN (n := 39) 39 rfl (by subst h; decide)
  have hb95 : ((b.toNat : Int) == 95) = false := bneN (n := 95) 95 rfl (by subst h; decide)
  have hb46 : ((b.toNat : Int) == 46) = false := bneN (n := 46) 46 rfl (by subst h; decide)
  have hb47 : ((b.toNat : Int) == 47) = false := bneN (n := 47) 47 rfl (by subst h; decide)
  have hb58 : ((b.toNat : Int) == 58) = false := bneN (n := 58) 58 rfl (by subst h; decide)
  obtain ⟨⟨p0, p1⟩, bx⟩ := two_new w (.cells #[.int .i64 5, .string (mkS T), .string (mkS A), .bool false] 57 (0, 0)) (.cells #[.int .i64 0, .string ⟨#[]⟩, .string ⟨#[]⟩, .bool false] 57 (0, 0))
  rw [st_agg 5]
  have Q0 := Lib.hid p0; have Q1 := Lib.hid p1; have BX := Lib.hid bx
  clear p0 p1 bx hT hA h hn
  go_enter Try.func88, Try.ntmps88
  go_wp2_with (first | (go_at_call 87; refine (CN.out _).mono ?_; rintro e w2 ⟨rfl, rfl⟩))
  exact bodyPost_ret (v := .agg #[.int .i64 15, .string ⟨#[]⟩, .string ⟨#[]⟩, .bool false]) (by simp [results, Try.results88, go_sem]) rfl ⟨rfl, ((Below.refl _ _).alloc (Nat.le_refl _) _).alloc (by simp) _⟩
set_option maxRecDepth 100000 in
set_option maxHeartbeats 3200000 in
theorem rt_5y (T A : List UInt8) (b : UInt8) (hT : T.length ≤ 10) (hA : A.length ≤ 10) (h : b = 32) (w : World) :
    Calls Try.prog 88 #[stV ⟨5, T, A, false⟩, .int .u8 (b.toNat : Int)] w fun e w' => e = .returned (stV badS) ∧ Below w.heap.size w w' := by
  have hn : namedB b = false := by subst h; decide
  have CN := Lib.hid (fun W => (by have h := spec_l5Name b W; rw [hn] at h; exact h : Calls Try.prog 87 #[.int .u8 (b.toNat : Int)] W fun e w' => e = .returned (.bool false) ∧ W = w'))
  have hb32 : ((b.toNat : Int) == 32) = true := beqN (n := 32) 32 rfl h
  have hb62 : ((b.toNat : Int) == 62) = false := bneN (n := 62) 62 rfl (by subst h; decide)
  have hb34 : ((b.toNat : Int) == 34) = false := bneN (n := 34) 34 rfl (by subst h; decide)
  have hb39 : ((b.toNat : Int) == 39) = false := bneN (n := 39) 39 rfl (by subst h; decide)
  have hb95 : ((b.toNat : Int) == 95) = false := bneN (n := 95) 95 rfl (by subst h; decide)
  have hb46 : ((b.toNat : Int) == 46) = false := bneN (n := 46) 46 rfl (by subst h; decide)
  have hb47 : ((b.toNat : Int) == 47) = false := bneN (n := 47) 47 rfl (by subst h; decide)
  have hb58 : ((b.toNat : Int) == 58) = false := bneN (n := 58) 58 rfl (by subst h; decide)
  obtain ⟨⟨p0, p1⟩, bx⟩ := two_new w (.cells #[.int .i64 5, .string (mkS T), .string (mkS A), .bool false] 57 (0, 0)) (.cells #[.int .i64 0, .string ⟨#[]⟩, .string ⟨#[]⟩, .bool false] 57 (0, 0))
  rw [st_agg 5]
  have Q0 := Lib.hid p0; have Q1 := Lib.hid p1; have BX := Lib.hid bx
  clear p0 p1 bx hT hA h hn
  go_enter Try.func88, Try.ntmps88
  go_wp2_with (first | (go_at_call 87; refine (CN.out _).mono ?_; rintro e w2 ⟨rfl, rfl⟩))
  exact bodyPost_ret (v := .agg #[.int .i64 15, .string ⟨#[]⟩, .string ⟨#[]⟩, .bool false]) (by simp [results, Try.results88, go_sem]) rfl ⟨rfl, ((Below.refl _ _).alloc (Nat.le_refl _) _).alloc (by simp) _⟩
set_option maxRecDepth 100000 in
set_option maxHeartbeats 3200000 in
theorem rt_8s (T A : List UInt8) (b : UInt8) (hT : T.length ≤ 10) (hA : A.length ≤ 10) (h : b = 32) (w : World) :
    Calls Try.prog 88 #[stV ⟨8, T, A, true⟩, .int .u8 (b.toNat : Int)] w fun e w' => e = .returned (stV ⟨3, T, [], false⟩) ∧ Below w.heap.size w w' := by
  have hn : namedB b = false := by subst h; decide
  have CN := Lib.hid (fun W => (by have h := spec_l5Name b W; rw [hn] at h; exact h : Calls Try.prog 87 #[.int .u8 (b.toNat : Int)] W fun e w' => e = .returned (.bool false) ∧ W = w'))
  have hb62 : ((b.toNat : Int) == 62) = false := bneN (n := 62) 62 rfl (by subst h; decide)
  have hb32 : ((b.toNat : Int) == 32) = true := beqN (n := 32) 32 rfl h
  obtain ⟨⟨p0, p1⟩, bx⟩ := two_new w (.cells #[.int .i64 8, .string (mkS T), .string (mkS A), .bool true] 57 (0, 0)) (.cells #[.int .i64 0, .string ⟨#[]⟩, .string ⟨#[]⟩, .bool false] 57 (0, 0))
  rw [st_agg 8]
  have Q0 := Lib.hid p0; have Q1 := Lib.hid p1; have BX := Lib.hid bx
  clear p0 p1 bx hT hA h hn
  go_enter Try.func88, Try.ntmps88
  go_wp2_with (first | (go_at_call 87; refine (CN.out _).mono ?_; rintro e w2 ⟨rfl, rfl⟩))
  exact bodyPost_ret (v := .agg #[.int .i64 3, .string (mkS T), .string ⟨#[]⟩, .bool false]) (by simp [results, Try.results88, go_sem]) rfl ⟨rfl, ((Below.refl _ _).alloc (Nat.le_refl _) _).alloc (by simp) _⟩
theorem more_T {T : List UInt8} {b : UInt8} (M : Nat) (hM : M ≠ 4) : moreS M T [] b = longT ⟨M, T, [], false⟩ b := by
  unfold moreS longT
  rw [if_neg hM]
  by_cases h : 10 < (T ++ [lowC b]).length
  · rw [if_pos (.inr h), if_pos h]
  · rw [if_neg (by rintro (h2 | h2); simp at h2; exact h h2), if_neg h]
theorem more_A {T A : List UInt8} {b : UInt8} (hT : T.length ≤ 10) : moreS 4 T A b = longA ⟨4, T, A, false⟩ b := by
  unfold moreS longA
  rw [if_pos rfl]
  by_cases h : 10 < (A ++ [lowC b]).length
  · rw [if_pos (.inl h), if_pos h]
  · rw [if_neg (by rintro (h2 | h2); exact h h2; omega), if_neg h]
theorem bare_iff (b : UInt8) : bareB b = true ↔ namedB b = true ∨ b = 95 ∨ b = 46 ∨ b = 47 ∨ b = 58 := by
  revert b
  refine byte_allW ?_
  decide +kernel
theorem spec_l5Tag (s : St) (b : UInt8) (w : World) (h : stValid s = true) (hM : s.M = 2 ∨ s.M = 3 ∨ s.M = 4 ∨ s.M = 5 ∨ s.M = 8) :
    Calls Try.prog 88 #[stV s, .int .u8 (b.toNat : Int)] w fun e w' => e = .returned (stV (stepM s b)) ∧ Below w.heap.size w w' := by
  have tm : ∀ M T A E, (M = 2 ∨ M = 3 ∨ M = 4 ∨ M = 8) → stepM ⟨M, T, A, E⟩ b = tagM ⟨M, T, A, E⟩ b := fun M T A E hM => by
    unfold stepM
    rcases hM with rfl | rfl | rfl | rfl <;> simp
  rcases val_cases h with ⟨M, rfl, hM2⟩ | ⟨M, T, rfl, hM2, hT⟩ | ⟨M, T, A, rfl, hM2, hT, hA⟩ | ⟨M, T, A, E, rfl, hM2, hT, hA⟩ | ⟨T, A, rfl, hT, hA⟩ | ⟨T, rfl, hT⟩
  · simp only at hM; omega
  · have hTl := nameB_len hT
    rw [tm M T [] false (by omega)]
    unfold tagM
    simp only
    by_cases h1 : b = 62
    · rw [if_pos h1]
      rcases hM2 with rfl | rfl
      · exact rt_2c T b hTl h1 w
      · exact rt_3c T b hTl h1 w
    rw [if_neg h1]
    by_cases h2 : b = 32
    · rw [if_pos h2]
      rcases hM2 with rfl | rfl
      · exact rt_2s T b hTl h2 w
      · exact rt_3s T b hTl h2 w
    rw [if_neg h2]
    rcases hM2 with rfl | rfl
    · rw [if_pos rfl]
      by_cases hn : namedB b = true
      · rw [if_pos hn, ← more_T 2 (by omega)]; exact rt_2n T b hTl h1 hn w
      · rw [if_neg hn]; exact rt_2b T b hTl h1 h2 (by simpa using hn) w
    · rw [if_neg (by omega), if_pos rfl]
      by_cases hl : letB b = true
      · rw [if_pos hl, ← more_A hTl]; exact rt_3n T b hTl h1 hl w
      · rw [if_neg hl]; exact rt_3b T b hTl h1 h2 (by simpa using hl) w
  · have hTl := nameB_len hT
    have hAl := nameB_len hA
    rcases hM2 with rfl | rfl
    · rw [tm 4 T A false (by omega)]
      unfold tagM
      simp only [Nat.reduceEqDiff, if_true, if_false]
      by_cases h1 : b = 62
      · rw [if_pos h1]; exact rt_4c T A b hTl hAl h1 w
      rw [if_neg h1]
      by_cases h2 : b = 32
      · rw [if_pos h2]; exact rt_4s T A b hTl hAl h2 w
      rw [if_neg h2]
      by_cases hn : namedB b = true
      · rw [if_pos hn, ← more_A hTl]; exact rt_4n T A b hTl hAl h1 hn w
      rw [if_neg hn]
      by_cases h3 : b = 61
      · rw [if_pos h3]; exact rt_4e T A b hTl hAl h3 w
      · rw [if_neg h3]; exact rt_4b T A b hTl hAl h1 h2 h3 (by simpa using hn) w
    · unfold stepM
      simp only [Nat.reduceEqDiff, if_true, if_false, or_self]
      by_cases h1 : b = 34
      · rw [if_pos h1]; exact rt_5d T A b hTl hAl h1 w
      rw [if_neg h1]
      by_cases h2 : b = 39
      · rw [if_pos h2]; exact rt_5s T A b hTl hAl h2 w
      rw [if_neg h2]
      by_cases hb : bareB b = true
      · rw [if_pos hb]
        rcases (bare_iff b).1 hb with hn | h | h | h | h
        · have g1 : b ≠ 62 := by rintro rfl; revert hn; decide
          have g2 : b ≠ 32 := by rintro rfl; revert hn; decide
          exact rt_5m T A b hTl hAl g1 g2 h1 h2 hn w
        · exact rt_5u T A b hTl hAl h w
        · exact rt_5p T A b hTl hAl h w
        · exact rt_5l T A b hTl hAl h w
        · exact rt_5k T A b hTl hAl h w
      · rw [if_neg hb]
        by_cases g1 : b = 62
        · exact rt_5x T A b hTl hAl g1 w
        by_cases g2 : b = 32
        · exact rt_5y T A b hTl hAl g2 w
        have hn : namedB b = false := by
          rcases hn : namedB b with _ | _
          · rfl
          · exact absurd ((bare_iff b).2 (.inl hn)) hb
        exact rt_5b T A b hTl hAl g1 g2 h1 h2 hn (fun e => hb ((bare_iff b).2 (.inr (.inl e)))) (fun e => hb ((bare_iff b).2 (.inr (.inr (.inl e))))) (fun e => hb ((bare_iff b).2 (.inr (.inr (.inr (.inl e)))))) (fun e => hb ((bare_iff b).2 (.inr (.inr (.inr (.inr e)))))) w
  · simp only at hM; omega
  · have hTl := nameB_len hT
    have hAl := nameB_len hA
    rw [tm 8 T A true (by omega)]
    unfold tagM
    simp only [Nat.reduceEqDiff, if_true, if_false]
    by_cases h1 : b = 62
    · rw [if_pos h1]; exact rt_8c T A b hTl hAl h1 w
    rw [if_neg h1]
    by_cases h2 : b = 32
    · rw [if_pos h2]; exact rt_8s T A b hTl hAl h2 w
    rw [if_neg h2]
    by_cases hb : bareB b = true
    · rw [if_pos hb]
      rcases (bare_iff b).1 hb with hn | h | h | h | h
      · exact rt_8m T A b hTl hAl h1 h2 hn w
      · exact rt_8u T A b hTl hAl h w
      · exact rt_8p T A b hTl hAl h w
      · exact rt_8l T A b hTl hAl h w
      · exact rt_8k T A b hTl hAl h w
    · rw [if_neg hb]
      have hn : namedB b = false := by
        rcases hn : namedB b with _ | _
        · rfl
        · exact absurd ((bare_iff b).2 (.inl hn)) hb
      exact rt_8b T A b hTl hAl h1 h2 hn (fun e => hb ((bare_iff b).2 (.inr (.inl e)))) (fun e => hb ((bare_iff b).2 (.inr (.inr (.inl e))))) (fun e => hb ((bare_iff b).2 (.inr (.inr (.inr (.inl e)))))) (fun e => hb ((bare_iff b).2 (.inr (.inr (.inr (.inr e)))))) w
  · simp only at hM; omega
end Go.Proofs.Ytdoomfckdjjlaaa

/-! spec.l5Script from valid states (printed by gen_scrr.py). -/
namespace Go.Proofs.Ytdoomfckdjjlaaa
open Go.RowKit
set_option linter.unusedVariables false

set_option maxRecDepth 100000 in
set_option maxHeartbeats 3200000 in
theorem rs_E47 (b : UInt8) (h : b = 47) (w : World) :
    Calls Try.prog 89 #[stV ⟨14, [], [], false⟩, .int .u8 (b.toNat : Int)] w fun e w' => e = .returned (stV ⟨9, [], [], false⟩) ∧ Below w.heap.size w w' := by
  have hb47 : ((b.toNat : Int) == 47) = true := beqN (n := 47) 47 rfl h
  rw [st_agg 14]
  clear h
  go_enter Try.func89, Try.ntmps89
  go_wp2
  exact bodyPost_ret (v := .agg #[.int .i64 9, .string ⟨#[]⟩, .string ⟨#[]⟩, .bool false]) (by simp [results, Try.results89, go_sem]) rfl ⟨rfl, ((Below.refl _ _).alloc (Nat.le_refl _) _).alloc (by simp) _⟩
set_option maxRecDepth 100000 in
set_option maxHeartbeats 3200000 in
theorem rs_11l (b : UInt8) (h : b = 60) (w : World) :
    Calls Try.prog 89 #[stV ⟨11, [], [], false⟩, .int .u8 (b.toNat : Int)] w fun e w' => e = .returned (stV ⟨14, [], [], false⟩) ∧ Below w.heap.size w w' := by
  have hb60 : ((b.toNat : Int) == 60) = true := beqN (n := 60) 60 rfl h
  rw [st_agg 11]
  clear h
  go_enter Try.func89, Try.ntmps89
  go_wp2
  exact bodyPost_ret (v := .agg #[.int .i64 14, .string ⟨#[]⟩, .string ⟨#[]⟩, .bool false]) (by simp [results, Try.results89, go_sem]) rfl ⟨rfl, ((Below.refl _ _).alloc (Nat.le_refl _) _).alloc (by simp) _⟩
set_option maxRecDepth 100000 in
set_option maxHeartbeats 3200000 in
theorem rs_11q (b : UInt8) (h : b = 34) (w : World) :
    Calls Try.prog 89 #[stV ⟨11, [], [], false⟩, .int .u8 (b.toNat : Int)] w fun e w' => e = .returned (stV ⟨12, [], [], false⟩) ∧ Below w.heap.size w w' := by
  have hb60 : ((b.toNat : Int) == 60) = false := bneN (n := 60) 60 rfl (by subst h; decide)
  have hb34 : ((b.toNat : Int) == 34) = true := beqN (n := 34) 34 rfl h
  rw [st_agg 11]
  clear h
  go_enter Try.func89, Try.ntmps89
  go_wp2
  exact bodyPost_ret (v := .agg #[.int .i64 12, .string ⟨#[]⟩, .string ⟨#[]⟩, .bool false]) (by simp [results, Try.results89, go_sem]) rfl ⟨rfl, ((Below.refl _ _).alloc (Nat.le_refl _) _).alloc (by simp) _⟩
set_option maxRecDepth 100000 in
set_option maxHeartbeats 3200000 in
theorem rs_11n (b : UInt8) (h1 : b ≠ 60) (h2 : b ≠ 34)  (w : World) :
    Calls Try.prog 89 #[stV ⟨11, [], [], false⟩, .int .u8 (b.toNat : Int)] w fun e w' => e = .returned (stV ⟨11, [], [], false⟩) ∧ Below w.heap.size w w' := by
  have hb60 : ((b.toNat : Int) == 60) = false := bneN (n := 60) 60 rfl h1
  have hb34 : ((b.toNat : Int) == 34) = false := bneN (n := 34) 34 rfl h2
  rw [st_agg 11]
  clear h1 h2
  go_enter Try.func89, Try.ntmps89
  go_wp2
  exact bodyPost_ret (v := .agg #[.int .i64 11, .string ⟨#[]⟩, .string ⟨#[]⟩, .bool false]) (by simp [results, Try.results89, go_sem]) rfl ⟨rfl, ((Below.refl _ _).alloc (Nat.le_refl _) _).alloc (by simp) _⟩
set_option maxRecDepth 100000 in
set_option maxHeartbeats 3200000 in
theorem rs_14l (b : UInt8) (h : b = 60) (w : World) :
    Calls Try.prog 89 #[stV ⟨14, [], [], false⟩, .int .u8 (b.toNat : Int)] w fun e w' => e = .returned (stV ⟨14, [], [], false⟩) ∧ Below w.heap.size w w' := by
  have hb47 : ((b.toNat : Int) == 47) = false := bneN (n := 47) 47 rfl (by subst h; decide)
  have hb60 : ((b.toNat : Int) == 60) = true := beqN (n := 60) 60 rfl h
  rw [st_agg 14]
  clear h
  go_enter Try.func89, Try.ntmps89
  go_wp2
  exact bodyPost_ret (v := .agg #[.int .i64 14, .string ⟨#[]⟩, .string ⟨#[]⟩, .bool false]) (by simp [results, Try.results89, go_sem]) rfl ⟨rfl, ((Below.refl _ _).alloc (Nat.le_refl _) _).alloc (by simp) _⟩
set_option maxRecDepth 100000 in
set_option maxHeartbeats 3200000 in
theorem rs_14q (b : UInt8) (h : b = 34) (w : World) :
    Calls Try.prog 89 #[stV ⟨14, [], [], false⟩, .int .u8 (b.toNat : Int)] w fun e w' => e = .returned (stV ⟨12, [], [], false⟩) ∧ Below w.heap.size w w' := by
  have hb47 : ((b.toNat : Int) == 47) = false := bneN (n := 47) 47 rfl (by subst h; decide)
  have hb60 : ((b.toNat : Int) == 60) = false := bneN (n := 60) 60 rfl (by subst h; decide)
  have hb34 : ((b.toNat : Int) == 34) = true := beqN (n := 34) 34 rfl h
  rw [st_agg 14]
  clear h
  go_enter Try.func89, Try.ntmps89
  go_wp2
  exact bodyPost_ret (v := .agg #[.int .i64 12, .string ⟨#[]⟩, .string ⟨#[]⟩, .bool false]) (by simp [results, Try.results89, go_sem]) rfl ⟨rfl, ((Below.refl _ _).alloc (Nat.le_refl _) _).alloc (by simp) _⟩
set_option maxRecDepth 100000 in
set_option maxHeartbeats 3200000 in
theorem rs_14n (b : UInt8) (h1 : b ≠ 60) (h2 : b ≠ 34) (h3 : b ≠ 47) (w : World) :
    Calls Try.prog 89 #[stV ⟨14, [], [], false⟩, .int .u8 (b.toNat : Int)] w fun e w' => e = .returned (stV ⟨11, [], [], false⟩) ∧ Below w.heap.size w w' := by
  have hb47 : ((b.toNat : Int) == 47) = false := bneN (n := 47) 47 rfl h3
  have hb60 : ((b.toNat : Int) == 60) = false := bneN (n := 60) 60 rfl h1
  have hb34 : ((b.toNat : Int) == 34) = false := bneN (n := 34) 34 rfl h2
  rw [st_agg 14]
  clear h1 h2 h3
  go_enter Try.func89, Try.ntmps89
  go_wp2
  exact bodyPost_ret (v := .agg #[.int .i64 11, .string ⟨#[]⟩, .string ⟨#[]⟩, .bool false]) (by simp [results, Try.results89, go_sem]) rfl ⟨rfl, ((Below.refl _ _).alloc (Nat.le_refl _) _).alloc (by simp) _⟩
set_option maxRecDepth 100000 in
set_option maxHeartbeats 3200000 in
theorem rs_13n (b : UInt8) (h : b ≠ 60) (w : World) :
    Calls Try.prog 89 #[stV ⟨13, [], [], false⟩, .int .u8 (b.toNat : Int)] w fun e w' => e = .returned (stV ⟨12, [], [], false⟩) ∧ Below w.heap.size w w' := by
  have hm60 := bneM (n := 60) 60 rfl h
  rw [st_agg 13]
  clear h
  go_enter Try.func89, Try.ntmps89
  go_wp2
  exact bodyPost_ret (v := .agg #[.int .i64 12, .string ⟨#[]⟩, .string ⟨#[]⟩, .bool false]) (by simp [results, Try.results89, go_sem]) rfl ⟨rfl, ((Below.refl _ _).alloc (Nat.le_refl _) _).alloc (by simp) _⟩
set_option maxRecDepth 100000 in
set_option maxHeartbeats 3200000 in
theorem rs_13b (b : UInt8) (h : b = 60) (w : World) :
    Calls Try.prog 89 #[stV ⟨13, [], [], false⟩, .int .u8 (b.toNat : Int)] w fun e w' => e = .returned (stV badS) ∧ Below w.heap.size w w' := by
  have hm60 := beqM (n := 60) 60 rfl h
  rw [st_agg 13]
  clear h
  go_enter Try.func89, Try.ntmps89
  go_wp2
  exact bodyPost_ret (v := .agg #[.int .i64 15, .string ⟨#[]⟩, .string ⟨#[]⟩, .bool false]) (by simp [results, Try.results89, go_sem]) rfl ⟨rfl, ((Below.refl _ _).alloc (Nat.le_refl _) _).alloc (by simp) _⟩
set_option maxRecDepth 100000 in
set_option maxHeartbeats 3200000 in
theorem rs_12q (b : UInt8) (h : b = 34) (w : World) :
    Calls Try.prog 89 #[stV ⟨12, [], [], false⟩, .int .u8 (b.toNat : Int)] w fun e w' => e = .returned (stV ⟨11, [], [], false⟩) ∧ Below w.heap.size w w' := by
  have hb34 : ((b.toNat : Int) == 34) = true := beqN (n := 34) 34 rfl h
  rw [st_agg 12]
  clear h
  go_enter Try.func89, Try.ntmps89
  go_wp2
  exact bodyPost_ret (v := .agg #[.int .i64 11, .string ⟨#[]⟩, .string ⟨#[]⟩, .bool false]) (by simp [results, Try.results89, go_sem]) rfl ⟨rfl, ((Below.refl _ _).alloc (Nat.le_refl _) _).alloc (by simp) _⟩
set_option maxRecDepth 100000 in
set_option maxHeartbeats 3200000 in
theorem rs_12s (b : UInt8) (h : b = 92) (w : World) :
    Calls Try.prog 89 #[stV ⟨12, [], [], false⟩, .int .u8 (b.toNat : Int)] w fun e w' => e = .returned (stV ⟨13, [], [], false⟩) ∧ Below w.heap.size w w' := by
  have hb34 : ((b.toNat : Int) == 34) = false := bneN (n := 34) 34 rfl (by subst h; decide)
  have hb92 : ((b.toNat : Int) == 92) = true := beqN (n := 92) 92 rfl h
  rw [st_agg 12]
  clear h
  go_enter Try.func89, Try.ntmps89
  go_wp2
  exact bodyPost_ret (v := .agg #[.int .i64 13, .string ⟨#[]⟩, .string ⟨#[]⟩, .bool false]) (by simp [results, Try.results89, go_sem]) rfl ⟨rfl, ((Below.refl _ _).alloc (Nat.le_refl _) _).alloc (by simp) _⟩
set_option maxRecDepth 100000 in
set_option maxHeartbeats 3200000 in
theorem rs_12n (b : UInt8) (h1 : b ≠ 34) (h2 : b ≠ 92) (h3 : b ≠ 60) (w : World) :
    Calls Try.prog 89 #[stV ⟨12, [], [], false⟩, .int .u8 (b.toNat : Int)] w fun e w' => e = .returned (stV ⟨12, [], [], false⟩) ∧ Below w.heap.size w w' := by
  have hb34 : ((b.toNat : Int) == 34) = false := bneN (n := 34) 34 rfl h1
  have hb92 : ((b.toNat : Int) == 92) = false := bneN (n := 92) 92 rfl h2
  have hm60 := bneM (n := 60) 60 rfl h3
  rw [st_agg 12]
  clear h1 h2 h3
  go_enter Try.func89, Try.ntmps89
  go_wp2
  exact bodyPost_ret (v := .agg #[.int .i64 12, .string ⟨#[]⟩, .string ⟨#[]⟩, .bool false]) (by simp [results, Try.results89, go_sem]) rfl ⟨rfl, ((Below.refl _ _).alloc (Nat.le_refl _) _).alloc (by simp) _⟩
set_option maxRecDepth 100000 in
set_option maxHeartbeats 3200000 in
theorem rs_12b (b : UInt8) (h : b = 60) (w : World) :
    Calls Try.prog 89 #[stV ⟨12, [], [], false⟩, .int .u8 (b.toNat : Int)] w fun e w' => e = .returned (stV badS) ∧ Below w.heap.size w w' := by
  have hb34 : ((b.toNat : Int) == 34) = false := bneN (n := 34) 34 rfl (by subst h; decide)
  have hb92 : ((b.toNat : Int) == 92) = false := bneN (n := 92) 92 rfl (by subst h; decide)
  have hm60 := beqM (n := 60) 60 rfl h
  rw [st_agg 12]
  clear h
  go_enter Try.func89, Try.ntmps89
  go_wp2
  exact bodyPost_ret (v := .agg #[.int .i64 15, .string ⟨#[]⟩, .string ⟨#[]⟩, .bool false]) (by simp [results, Try.results89, go_sem]) rfl ⟨rfl, ((Below.refl _ _).alloc (Nat.le_refl _) _).alloc (by simp) _⟩
theorem spec_l5Script (M : Nat) (b : UInt8) (w : World) (hM : 11 ≤ M) (hM2 : M ≤ 14) :
    Calls Try.prog 89 #[stV ⟨M, [], [], false⟩, .int .u8 (b.toNat : Int)] w fun e w' => e = .returned (stV (stepM ⟨M, [], [], false⟩ b)) ∧ Below w.heap.size w w' := by
  have hc : M = 11 ∨ M = 12 ∨ M = 13 ∨ M = 14 := by omega
  unfold stepM
  rcases hc with rfl | rfl | rfl | rfl <;> simp only [Nat.reduceEqDiff, if_true, if_false, or_self, or_true, true_or, and_true, and_false]
  · by_cases h1 : b = 60
    · rw [if_pos h1]; exact rs_11l b h1 w
    rw [if_neg h1]
    by_cases h2 : b = 34
    · rw [if_pos h2]; exact rs_11q b h2 w
    · rw [if_neg h2]; exact rs_11n b h1 h2 w
  · by_cases h1 : b = 34
    · rw [if_pos h1]; exact rs_12q b h1 w
    rw [if_neg h1]
    by_cases h2 : b = 92
    · rw [if_pos h2]; exact rs_12s b h2 w
    rw [if_neg h2]
    by_cases h3 : b = 60
    · rw [if_pos h3]; exact rs_12b b h3 w
    · rw [if_neg h3]; exact rs_12n b h1 h2 h3 w
  · by_cases h1 : b = 60
    · rw [if_pos h1]; exact rs_13b b h1 w
    · rw [if_neg h1]; exact rs_13n b h1 w
  · by_cases h1 : b = 60
    · rw [if_pos h1]; exact rs_14l b h1 w
    rw [if_neg h1]
    by_cases h2 : b = 34
    · rw [if_pos h2]; exact rs_14q b h2 w
    rw [if_neg h2]
    by_cases h3 : b = 47
    · rw [if_pos h3]; exact rs_E47 b h3 w
    · rw [if_neg h3]; exact rs_14n b h1 h2 h3 w
end Go.Proofs.Ytdoomfckdjjlaaa

/-! spec.StateValid on valid states (printed by gen_stvr.py). -/
namespace Go.Proofs.Ytdoomfckdjjlaaa
open Go.RowKit
set_option linter.unusedVariables false

set_option maxRecDepth 100000 in
set_option maxHeartbeats 3200000 in
theorem sv_0  (w : World) : Calls Try.prog 83 #[stV ⟨0, [], [], false⟩] w fun e w' => e = .returned (.bool true) ∧ Below w.heap.size w w' := by
  have ht : (mkS []).toList.isEmpty = true := by rw [emp_mkS]; rfl
  rw [st_agg]
  have BX : Hid (Below w.heap.size w (w.alloc (.cells #[.int .i64 0, .string (mkS []), .string (mkS []), .bool false] 57 (0, 0)))) := (Below.refl _ _).alloc (Nat.le_refl _) _
  go_enter Try.func83, Try.ntmps83
  go_wp2_with (first | (go_at_call 66; refine (spec_l1In_any _ _ _ _).mono ?_; rintro e w2 ⟨rfl, rfl⟩))
  go_ret
  exact ⟨rfl, BX.out⟩
set_option maxRecDepth 100000 in
set_option maxHeartbeats 3200000 in
theorem sv_1  (w : World) : Calls Try.prog 83 #[stV ⟨1, [], [], false⟩] w fun e w' => e = .returned (.bool true) ∧ Below w.heap.size w w' := by
  have ht : (mkS []).toList.isEmpty = true := by rw [emp_mkS]; rfl
  rw [st_agg]
  have BX : Hid (Below w.heap.size w (w.alloc (.cells #[.int .i64 1, .string (mkS []), .string (mkS []), .bool false] 57 (0, 0)))) := (Below.refl _ _).alloc (Nat.le_refl _) _
  go_enter Try.func83, Try.ntmps83
  go_wp2_with (first | (go_at_call 66; refine (spec_l1In_any _ _ _ _).mono ?_; rintro e w2 ⟨rfl, rfl⟩))
  go_ret
  exact ⟨rfl, BX.out⟩
set_option maxRecDepth 100000 in
set_option maxHeartbeats 3200000 in
theorem sv_10  (w : World) : Calls Try.prog 83 #[stV ⟨10, [], [], false⟩] w fun e w' => e = .returned (.bool true) ∧ Below w.heap.size w w' := by
  have ht : (mkS []).toList.isEmpty = true := by rw [emp_mkS]; rfl
  rw [st_agg]
  have BX : Hid (Below w.heap.size w (w.alloc (.cells #[.int .i64 10, .string (mkS []), .string (mkS []), .bool false] 57 (0, 0)))) := (Below.refl _ _).alloc (Nat.le_refl _) _
  go_enter Try.func83, Try.ntmps83
  go_wp2_with (first | (go_at_call 66; refine (spec_l1In_any _ _ _ _).mono ?_; rintro e w2 ⟨rfl, rfl⟩))
  go_ret
  exact ⟨rfl, BX.out⟩
set_option maxRecDepth 100000 in
set_option maxHeartbeats 3200000 in
theorem sv_11  (w : World) : Calls Try.prog 83 #[stV ⟨11, [], [], false⟩] w fun e w' => e = .returned (.bool true) ∧ Below w.heap.size w w' := by
  have ht : (mkS []).toList.isEmpty = true := by rw [emp_mkS]; rfl
  rw [st_agg]
  have BX : Hid (Below w.heap.size w (w.alloc (.cells #[.int .i64 11, .string (mkS []), .string (mkS []), .bool false] 57 (0, 0)))) := (Below.refl _ _).alloc (Nat.le_refl _) _
  go_enter Try.func83, Try.ntmps83
  go_wp2_with (first | (go_at_call 66; refine (spec_l1In_any _ _ _ _).mono ?_; rintro e w2 ⟨rfl, rfl⟩))
  go_ret
  exact ⟨rfl, BX.out⟩
set_option maxRecDepth 100000 in
set_option maxHeartbeats 3200000 in
theorem sv_12  (w : World) : Calls Try.prog 83 #[stV ⟨12, [], [], false⟩] w fun e w' => e = .returned (.bool true) ∧ Below w.heap.size w w' := by
  have ht : (mkS []).toList.isEmpty = true := by rw [emp_mkS]; rfl
  rw [st_agg]
  have BX : Hid (Below w.heap.size w (w.alloc (.cells #[.int .i64 12, .string (mkS []), .string (mkS []), .bool false] 57 (0, 0)))) := (Below.refl _ _).alloc (Nat.le_refl _) _
  go_enter Try.func83, Try.ntmps83
  go_wp2_with (first | (go_at_call 66; refine (spec_l1In_any _ _ _ _).mono ?_; rintro e w2 ⟨rfl, rfl⟩))
  go_ret
  exact ⟨rfl, BX.out⟩
set_option maxRecDepth 100000 in
set_option maxHeartbeats 3200000 in
theorem sv_13  (w : World) : Calls Try.prog 83 #[stV ⟨13, [], [], false⟩] w fun e w' => e = .returned (.bool true) ∧ Below w.heap.size w w' := by
  have ht : (mkS []).toList.isEmpty = true := by rw [emp_mkS]; rfl
  rw [st_agg]
  have BX : Hid (Below w.heap.size w (w.alloc (.cells #[.int .i64 13, .string (mkS []), .string (mkS []), .bool false] 57 (0, 0)))) := (Below.refl _ _).alloc (Nat.le_refl _) _
  go_enter Try.func83, Try.ntmps83
  go_wp2_with (first | (go_at_call 66; refine (spec_l1In_any _ _ _ _).mono ?_; rintro e w2 ⟨rfl, rfl⟩))
  go_ret
  exact ⟨rfl, BX.out⟩
set_option maxRecDepth 100000 in
set_option maxHeartbeats 3200000 in
theorem sv_14  (w : World) : Calls Try.prog 83 #[stV ⟨14, [], [], false⟩] w fun e w' => e = .returned (.bool true) ∧ Below w.heap.size w w' := by
  have ht : (mkS []).toList.isEmpty = true := by rw [emp_mkS]; rfl
  rw [st_agg]
  have BX : Hid (Below w.heap.size w (w.alloc (.cells #[.int .i64 14, .string (mkS []), .string (mkS []), .bool false] 57 (0, 0)))) := (Below.refl _ _).alloc (Nat.le_refl _) _
  go_enter Try.func83, Try.ntmps83
  go_wp2_with (first | (go_at_call 66; refine (spec_l1In_any _ _ _ _).mono ?_; rintro e w2 ⟨rfl, rfl⟩))
  go_ret
  exact ⟨rfl, BX.out⟩
set_option maxRecDepth 100000 in
set_option maxHeartbeats 3200000 in
theorem sv_15  (w : World) : Calls Try.prog 83 #[stV ⟨15, [], [], false⟩] w fun e w' => e = .returned (.bool true) ∧ Below w.heap.size w w' := by
  have ht : (mkS []).toList.isEmpty = true := by rw [emp_mkS]; rfl
  rw [st_agg]
  have BX : Hid (Below w.heap.size w (w.alloc (.cells #[.int .i64 15, .string (mkS []), .string (mkS []), .bool false] 57 (0, 0)))) := (Below.refl _ _).alloc (Nat.le_refl _) _
  go_enter Try.func83, Try.ntmps83
  go_wp2_with (first | (go_at_call 66; refine (spec_l1In_any _ _ _ _).mono ?_; rintro e w2 ⟨rfl, rfl⟩))
  go_ret
  exact ⟨rfl, BX.out⟩
set_option maxRecDepth 100000 in
set_option maxHeartbeats 3200000 in
theorem sv_2 (T : List UInt8) (hT : nameB T = true) (w : World) : Calls Try.prog 83 #[stV ⟨2, T, [], false⟩] w fun e w' => e = .returned (.bool true) ∧ Below w.heap.size w w' := by
  have CT := Lib.hid (fun W => (by have h := spec_NameValid (mkS T) W (by rw [mkS_size]; have := nameB_len hT; omega); rw [bl_mkS, hT] at h; exact h : Calls Try.prog 94 #[.string (mkS T)] W fun e w' => e = .returned (.bool true) ∧ W = w'))
  have ht : (mkS T).toList.isEmpty = false := by rw [emp_mkS]; have := (nameB_head hT).2.2.1; rcases T with _ | ⟨x, T⟩ <;> simp at this ⊢
  have ha : (mkS []).toList.isEmpty = true := by rw [emp_mkS]; rfl
  rw [st_agg]
  have BX : Hid (Below w.heap.size w (w.alloc (.cells #[.int .i64 2, .string (mkS T), .string (mkS []), .bool false] 57 (0, 0)))) := (Below.refl _ _).alloc (Nat.le_refl _) _
  go_enter Try.func83, Try.ntmps83
  go_wp2_with (first | (go_at_call 66; refine (spec_l1In_any _ _ _ _).mono ?_; rintro e w2 ⟨rfl, rfl⟩) | (go_at_call 94; (with_reducible refine (CT.out _).mono ?_); rintro e w2 ⟨rfl, rfl⟩))
  go_ret
  exact ⟨rfl, BX.out⟩
set_option maxRecDepth 100000 in
set_option maxHeartbeats 3200000 in
theorem sv_3 (T : List UInt8) (hT : nameB T = true) (w : World) : Calls Try.prog 83 #[stV ⟨3, T, [], false⟩] w fun e w' => e = .returned (.bool true) ∧ Below w.heap.size w w' := by
  have CT := Lib.hid (fun W => (by have h := spec_NameValid (mkS T) W (by rw [mkS_size]; have := nameB_len hT; omega); rw [bl_mkS, hT] at h; exact h : Calls Try.prog 94 #[.string (mkS T)] W fun e w' => e = .returned (.bool true) ∧ W = w'))
  have ht : (mkS T).toList.isEmpty = false := by rw [emp_mkS]; have := (nameB_head hT).2.2.1; rcases T with _ | ⟨x, T⟩ <;> simp at this ⊢
  have ha : (mkS []).toList.isEmpty = true := by rw [emp_mkS]; rfl
  rw [st_agg]
  have BX : Hid (Below w.heap.size w (w.alloc (.cells #[.int .i64 3, .string (mkS T), .string (mkS []), .bool false] 57 (0, 0)))) := (Below.refl _ _).alloc (Nat.le_refl _) _
  go_enter Try.func83, Try.ntmps83
  go_wp2_with (first | (go_at_call 66; refine (spec_l1In_any _ _ _ _).mono ?_; rintro e w2 ⟨rfl, rfl⟩) | (go_at_call 94; (with_reducible refine (CT.out _).mono ?_); rintro e w2 ⟨rfl, rfl⟩))
  go_ret
  exact ⟨rfl, BX.out⟩
set_option maxRecDepth 100000 in
set_option maxHeartbeats 3200000 in
theorem sv_4 (T A : List UInt8) (hT : nameB T = true) (hA : nameB A = true) (w : World) : Calls Try.prog 83 #[stV ⟨4, T, A, false⟩] w fun e w' => e = .returned (.bool true) ∧ Below w.heap.size w w' := by
  have CT := Lib.hid (fun W => (by have h := spec_NameValid (mkS T) W (by rw [mkS_size]; have := nameB_len hT; omega); rw [bl_mkS, hT] at h; exact h : Calls Try.prog 94 #[.string (mkS T)] W fun e w' => e = .returned (.bool true) ∧ W = w'))
  have CA := Lib.hid (fun W => (by have h := spec_NameValid (mkS A) W (by rw [mkS_size]; have := nameB_len hA; omega); rw [bl_mkS, hA] at h; exact h : Calls Try.prog 94 #[.string (mkS A)] W fun e w' => e = .returned (.bool true) ∧ W = w'))
  have ht : (mkS T).toList.isEmpty = false := by rw [emp_mkS]; have := (nameB_head hT).2.2.1; rcases T with _ | ⟨x, T⟩ <;> simp at this ⊢
  have ha : (mkS A).toList.isEmpty = false := by rw [emp_mkS]; have := (nameB_head hA).2.2.1; rcases A with _ | ⟨x, A⟩ <;> simp at this ⊢
  rw [st_agg]
  have BX : Hid (Below w.heap.size w (w.alloc (.cells #[.int .i64 4, .string (mkS T), .string (mkS A), .bool false] 57 (0, 0)))) := (Below.refl _ _).alloc (Nat.le_refl _) _
  go_enter Try.func83, Try.ntmps83
  go_wp2_with (first | (go_at_call 66; refine (spec_l1In_any _ _ _ _).mono ?_; rintro e w2 ⟨rfl, rfl⟩) | (go_at_call 94; (with_reducible refine (CT.out _).mono ?_); rintro e w2 ⟨rfl, rfl⟩) | (go_at_call 94; (with_reducible refine (CA.out _).mono ?_); rintro e w2 ⟨rfl, rfl⟩))
  go_ret
  exact ⟨rfl, BX.out⟩
set_option maxRecDepth 100000 in
set_option maxHeartbeats 3200000 in
theorem sv_5 (T A : List UInt8) (hT : nameB T = true) (hA : nameB A = true) (w : World) : Calls Try.prog 83 #[stV ⟨5, T, A, false⟩] w fun e w' => e = .returned (.bool true) ∧ Below w.heap.size w w' := by
  have CT := Lib.hid (fun W => (by have h := spec_NameValid (mkS T) W (by rw [mkS_size]; have := nameB_len hT; omega); rw [bl_mkS, hT] at h; exact h : Calls Try.prog 94 #[.string (mkS T)] W fun e w' => e = .returned (.bool true) ∧ W = w'))
  have CA := Lib.hid (fun W => (by have h := spec_NameValid (mkS A) W (by rw [mkS_size]; have := nameB_len hA; omega); rw [bl_mkS, hA] at h; exact h : Calls Try.prog 94 #[.string (mkS A)] W fun e w' => e = .returned (.bool true) ∧ W = w'))
  have ht : (mkS T).toList.isEmpty = false := by rw [emp_mkS]; have := (nameB_head hT).2.2.1; rcases T with _ | ⟨x, T⟩ <;> simp at this ⊢
  have ha : (mkS A).toList.isEmpty = false := by rw [emp_mkS]; have := (nameB_head hA).2.2.1; rcases A with _ | ⟨x, A⟩ <;> simp at this ⊢
  rw [st_agg]
  have BX : Hid (Below w.heap.size w (w.alloc (.cells #[.int .i64 5, .string (mkS T), .string (mkS A), .bool false] 57 (0, 0)))) := (Below.refl _ _).alloc (Nat.le_refl _) _
  go_enter Try.func83, Try.ntmps83
  go_wp2_with (first | (go_at_call 66; refine (spec_l1In_any _ _ _ _).mono ?_; rintro e w2 ⟨rfl, rfl⟩) | (go_at_call 94; (with_reducible refine (CT.out _).mono ?_); rintro e w2 ⟨rfl, rfl⟩) | (go_at_call 94; (with_reducible refine (CA.out _).mono ?_); rintro e w2 ⟨rfl, rfl⟩))
  go_ret
  exact ⟨rfl, BX.out⟩
set_option maxRecDepth 100000 in
set_option maxHeartbeats 3200000 in
theorem sv_6t (T A : List UInt8) (hT : nameB T = true) (hA : nameB A = true) (w : World) : Calls Try.prog 83 #[stV ⟨6, T, A, true⟩] w fun e w' => e = .returned (.bool true) ∧ Below w.heap.size w w' := by
  have CT := Lib.hid (fun W => (by have h := spec_NameValid (mkS T) W (by rw [mkS_size]; have := nameB_len hT; omega); rw [bl_mkS, hT] at h; exact h : Calls Try.prog 94 #[.string (mkS T)] W fun e w' => e = .returned (.bool true) ∧ W = w'))
  have CA := Lib.hid (fun W => (by have h := spec_NameValid (mkS A) W (by rw [mkS_size]; have := nameB_len hA; omega); rw [bl_mkS, hA] at h; exact h : Calls Try.prog 94 #[.string (mkS A)] W fun e w' => e = .returned (.bool true) ∧ W = w'))
  have ht : (mkS T).toList.isEmpty = false := by rw [emp_mkS]; have := (nameB_head hT).2.2.1; rcases T with _ | ⟨x, T⟩ <;> simp at this ⊢
  have ha : (mkS A).toList.isEmpty = false := by rw [emp_mkS]; have := (nameB_head hA).2.2.1; rcases A with _ | ⟨x, A⟩ <;> simp at this ⊢
  rw [st_agg]
  have BX : Hid (Below w.heap.size w (w.alloc (.cells #[.int .i64 6, .string (mkS T), .string (mkS A), .bool true] 57 (0, 0)))) := (Below.refl _ _).alloc (Nat.le_refl _) _
  go_enter Try.func83, Try.ntmps83
  go_wp2_with (first | (go_at_call 66; refine (spec_l1In_any _ _ _ _).mono ?_; rintro e w2 ⟨rfl, rfl⟩) | (go_at_call 94; (with_reducible refine (CT.out _).mono ?_); rintro e w2 ⟨rfl, rfl⟩) | (go_at_call 94; (with_reducible refine (CA.out _).mono ?_); rintro e w2 ⟨rfl, rfl⟩))
  go_ret
  exact ⟨rfl, BX.out⟩
set_option maxRecDepth 100000 in
set_option maxHeartbeats 3200000 in
theorem sv_6f (T A : List UInt8) (hT : nameB T = true) (hA : nameB A = true) (w : World) : Calls Try.prog 83 #[stV ⟨6, T, A, false⟩] w fun e w' => e = .returned (.bool true) ∧ Below w.heap.size w w' := by
  have CT := Lib.hid (fun W => (by have h := spec_NameValid (mkS T) W (by rw [mkS_size]; have := nameB_len hT; omega); rw [bl_mkS, hT] at h; exact h : Calls Try.prog 94 #[.string (mkS T)] W fun e w' => e = .returned (.bool true) ∧ W = w'))
  have CA := Lib.hid (fun W => (by have h := spec_NameValid (mkS A) W (by rw [mkS_size]; have := nameB_len hA; omega); rw [bl_mkS, hA] at h; exact h : Calls Try.prog 94 #[.string (mkS A)] W fun e w' => e = .returned (.bool true) ∧ W = w'))
  have ht : (mkS T).toList.isEmpty = false := by rw [emp_mkS]; have := (nameB_head hT).2.2.1; rcases T with _ | ⟨x, T⟩ <;> simp at this ⊢
  have ha : (mkS A).toList.isEmpty = false := by rw [emp_mkS]; have := (nameB_head hA).2.2.1; rcases A with _ | ⟨x, A⟩ <;> simp at this ⊢
  rw [st_agg]
  have BX : Hid (Below w.heap.size w (w.alloc (.cells #[.int .i64 6, .string (mkS T), .string (mkS A), .bool false] 57 (0, 0)))) := (Below.refl _ _).alloc (Nat.le_refl _) _
  go_enter Try.func83, Try.ntmps83
  go_wp2_with (first | (go_at_call 66; refine (spec_l1In_any _ _ _ _).mono ?_; rintro e w2 ⟨rfl, rfl⟩) | (go_at_call 94; (with_reducible refine (CT.out _).mono ?_); rintro e w2 ⟨rfl, rfl⟩) | (go_at_call 94; (with_reducible refine (CA.out _).mono ?_); rintro e w2 ⟨rfl, rfl⟩))
  go_ret
  exact ⟨rfl, BX.out⟩
set_option maxRecDepth 100000 in
set_option maxHeartbeats 3200000 in
theorem sv_7t (T A : List UInt8) (hT : nameB T = true) (hA : nameB A = true) (w : World) : Calls Try.prog 83 #[stV ⟨7, T, A, true⟩] w fun e w' => e = .returned (.bool true) ∧ Below w.heap.size w w' := by
  have CT := Lib.hid (fun W => (by have h := spec_NameValid (mkS T) W (by rw [mkS_size]; have := nameB_len hT; omega); rw [bl_mkS, hT] at h; exact h : Calls Try.prog 94 #[.string (mkS T)] W fun e w' => e = .returned (.bool true) ∧ W = w'))
  have CA := Lib.hid (fun W => (by have h := spec_NameValid (mkS A) W (by rw [mkS_size]; have := nameB_len hA; omega); rw [bl_mkS, hA] at h; exact h : Calls Try.prog 94 #[.string (mkS A)] W fun e w' => e = .returned (.bool true) ∧ W = w'))
  have ht : (mkS T).toList.isEmpty = false := by rw [emp_mkS]; have := (nameB_head hT).2.2.1; rcases T with _ | ⟨x, T⟩ <;> simp at this ⊢
  have ha : (mkS A).toList.isEmpty = false := by rw [emp_mkS]; have := (nameB_head hA).2.2.1; rcases A with _ | ⟨x, A⟩ <;> simp at this ⊢
  rw [st_agg]
  have BX : Hid (Below w.heap.size w (w.alloc (.cells #[.int .i64 7, .string (mkS T), .string (mkS A), .bool true] 57 (0, 0)))) := (Below.refl _ _).alloc (Nat.le_refl _) _
  go_enter Try.func83, Try.ntmps83
  go_wp2_with (first | (go_at_call 66; refine (spec_l1In_any _ _ _ _).mono ?_; rintro e w2 ⟨rfl, rfl⟩) | (go_at_call 94; (with_reducible refine (CT.out _).mono ?_); rintro e w2 ⟨rfl, rfl⟩) | (go_at_call 94; (with_reducible refine (CA.out _).mono ?_); rintro e w2 ⟨rfl, rfl⟩))
  go_ret
  exact ⟨rfl, BX.out⟩
set_option maxRecDepth 100000 in
set_option maxHeartbeats 3200000 in
theorem sv_7f (T A : List UInt8) (hT : nameB T = true) (hA : nameB A = true) (w : World) : Calls Try.prog 83 #[stV ⟨7, T, A, false⟩] w fun e w' => e = .returned (.bool true) ∧ Below w.heap.size w w' := by
  have CT := Lib.hid (fun W => (by have h := spec_NameValid (mkS T) W (by rw [mkS_size]; have := nameB_len hT; omega); rw [bl_mkS, hT] at h; exact h : Calls Try.prog 94 #[.string (mkS T)] W fun e w' => e = .returned (.bool true) ∧ W = w'))
  have CA := Lib.hid (fun W => (by have h := spec_NameValid (mkS A) W (by rw [mkS_size]; have := nameB_len hA; omega); rw [bl_mkS, hA] at h; exact h : Calls Try.prog 94 #[.string (mkS A)] W fun e w' => e = .returned (.bool true) ∧ W = w'))
  have ht : (mkS T).toList.isEmpty = false := by rw [emp_mkS]; have := (nameB_head hT).2.2.1; rcases T with _ | ⟨x, T⟩ <;> simp at this ⊢
  have ha : (mkS A).toList.isEmpty = false := by rw [emp_mkS]; have := (nameB_head hA).2.2.1; rcases A with _ | ⟨x, A⟩ <;> simp at this ⊢
  rw [st_agg]
  have BX : Hid (Below w.heap.size w (w.alloc (.cells #[.int .i64 7, .string (mkS T), .string (mkS A), .bool false] 57 (0, 0)))) := (Below.refl _ _).alloc (Nat.le_refl _) _
  go_enter Try.func83, Try.ntmps83
  go_wp2_with (first | (go_at_call 66; refine (spec_l1In_any _ _ _ _).mono ?_; rintro e w2 ⟨rfl, rfl⟩) | (go_at_call 94; (with_reducible refine (CT.out _).mono ?_); rintro e w2 ⟨rfl, rfl⟩) | (go_at_call 94; (with_reducible refine (CA.out _).mono ?_); rintro e w2 ⟨rfl, rfl⟩))
  go_ret
  exact ⟨rfl, BX.out⟩
set_option maxRecDepth 100000 in
set_option maxHeartbeats 3200000 in
theorem sv_8 (T A : List UInt8) (hT : nameB T = true) (hA : nameB A = true) (w : World) : Calls Try.prog 83 #[stV ⟨8, T, A, true⟩] w fun e w' => e = .returned (.bool true) ∧ Below w.heap.size w w' := by
  have CT := Lib.hid (fun W => (by have h := spec_NameValid (mkS T) W (by rw [mkS_size]; have := nameB_len hT; omega); rw [bl_mkS, hT] at h; exact h : Calls Try.prog 94 #[.string (mkS T)] W fun e w' => e = .returned (.bool true) ∧ W = w'))
  have CA := Lib.hid (fun W => (by have h := spec_NameValid (mkS A) W (by rw [mkS_size]; have := nameB_len hA; omega); rw [bl_mkS, hA] at h; exact h : Calls Try.prog 94 #[.string (mkS A)] W fun e w' => e = .returned (.bool true) ∧ W = w'))
  have ht : (mkS T).toList.isEmpty = false := by rw [emp_mkS]; have := (nameB_head hT).2.2.1; rcases T with _ | ⟨x, T⟩ <;> simp at this ⊢
  have ha : (mkS A).toList.isEmpty = false := by rw [emp_mkS]; have := (nameB_head hA).2.2.1; rcases A with _ | ⟨x, A⟩ <;> simp at this ⊢
  rw [st_agg]
  have BX : Hid (Below w.heap.size w (w.alloc (.cells #[.int .i64 8, .string (mkS T), .string (mkS A), .bool true] 57 (0, 0)))) := (Below.refl _ _).alloc (Nat.le_refl _) _
  go_enter Try.func83, Try.ntmps83
  go_wp2_with (first | (go_at_call 66; refine (spec_l1In_any _ _ _ _).mono ?_; rintro e w2 ⟨rfl, rfl⟩) | (go_at_call 94; (with_reducible refine (CT.out _).mono ?_); rintro e w2 ⟨rfl, rfl⟩) | (go_at_call 94; (with_reducible refine (CA.out _).mono ?_); rintro e w2 ⟨rfl, rfl⟩))
  go_ret
  exact ⟨rfl, BX.out⟩
set_option maxRecDepth 100000 in
set_option maxHeartbeats 3200000 in
theorem sv_9e  (w : World) : Calls Try.prog 83 #[stV ⟨9, [], [], false⟩] w fun e w' => e = .returned (.bool true) ∧ Below w.heap.size w w' := by
  have ht : (mkS []).toList.isEmpty = true := by rw [emp_mkS]; rfl
  rw [st_agg]
  have BX : Hid (Below w.heap.size w (w.alloc (.cells #[.int .i64 9, .string (mkS []), .string (mkS []), .bool false] 57 (0, 0)))) := (Below.refl _ _).alloc (Nat.le_refl _) _
  go_enter Try.func83, Try.ntmps83
  go_wp2_with (first | (go_at_call 66; refine (spec_l1In_any _ _ _ _).mono ?_; rintro e w2 ⟨rfl, rfl⟩))
  go_ret
  exact ⟨rfl, BX.out⟩
set_option maxRecDepth 100000 in
set_option maxHeartbeats 3200000 in
theorem sv_9n (T : List UInt8) (hT : nameB T = true) (w : World) : Calls Try.prog 83 #[stV ⟨9, T, [], false⟩] w fun e w' => e = .returned (.bool true) ∧ Below w.heap.size w w' := by
  have CT := Lib.hid (fun W => (by have h := spec_NameValid (mkS T) W (by rw [mkS_size]; have := nameB_len hT; omega); rw [bl_mkS, hT] at h; exact h : Calls Try.prog 94 #[.string (mkS T)] W fun e w' => e = .returned (.bool true) ∧ W = w'))
  have ht : (mkS T).toList.isEmpty = false := by rw [emp_mkS]; have := (nameB_head hT).2.2.1; rcases T with _ | ⟨x, T⟩ <;> simp at this ⊢
  have ha : (mkS []).toList.isEmpty = true := by rw [emp_mkS]; rfl
  rw [st_agg]
  have BX : Hid (Below w.heap.size w (w.alloc (.cells #[.int .i64 9, .string (mkS T), .string (mkS []), .bool false] 57 (0, 0)))) := (Below.refl _ _).alloc (Nat.le_refl _) _
  go_enter Try.func83, Try.ntmps83
  go_wp2_with (first | (go_at_call 66; refine (spec_l1In_any _ _ _ _).mono ?_; rintro e w2 ⟨rfl, rfl⟩) | (go_at_call 94; (with_reducible refine (CT.out _).mono ?_); rintro e w2 ⟨rfl, rfl⟩))
  go_ret
  exact ⟨rfl, BX.out⟩
theorem spec_StateValid (s : St) (w : World) (h : stValid s = true) : Calls Try.prog 83 #[stV s] w fun e w' => e = .returned (.bool true) ∧ Below w.heap.size w w' := by
  rcases val_cases h with ⟨M, rfl, hM⟩ | ⟨M, T, rfl, hM, hT⟩ | ⟨M, T, A, rfl, hM, hT, hA⟩ | ⟨M, T, A, E, rfl, hM, hT, hA⟩ | ⟨T, A, rfl, hT, hA⟩ | ⟨T, rfl, hT⟩
  · have hc : M = 0 ∨ M = 1 ∨ M = 10 ∨ M = 11 ∨ M = 12 ∨ M = 13 ∨ M = 14 ∨ M = 15 := by omega
    rcases hc with rfl | rfl | rfl | rfl | rfl | rfl | rfl | rfl
    · exact sv_0 w
    · exact sv_1 w
    · exact sv_10 w
    · exact sv_11 w
    · exact sv_12 w
    · exact sv_13 w
    · exact sv_14 w
    · exact sv_15 w
  · rcases hM with rfl | rfl
    · exact sv_2 T hT w
    · exact sv_3 T hT w
  · rcases hM with rfl | rfl
    · exact sv_4 T A hT hA w
    · exact sv_5 T A hT hA w
  · rcases hM with rfl | rfl <;> cases E
    · exact sv_6f T A hT hA w
    · exact sv_6t T A hT hA w
    · exact sv_7f T A hT hA w
    · exact sv_7t T A hT hA w
  · exact sv_8 T A hT hA w
  · rcases hT with rfl | hT
    · exact sv_9e w
    · exact sv_9n T hT w
end Go.Proofs.Ytdoomfckdjjlaaa

/-! spec.StepState from every valid state (printed by gen_stepr.py). -/
namespace Go.Proofs.Ytdoomfckdjjlaaa
open Go.RowKit
set_option linter.unusedVariables false

set_option maxRecDepth 100000 in
set_option maxHeartbeats 3200000 in
theorem rp_0l  (b : UInt8) (h : b = 60) (w : World) :
    Calls Try.prog 63 #[stV ⟨0, [], [], false⟩, .int .u8 (b.toNat : Int)] w fun e w' => e = .returned (stV ⟨1, [], [], false⟩) ∧ Below w.heap.size w w' := by
  have hb60 : ((b.toNat : Int) == 60) = true := beqN (n := 60) 60 rfl h
  have CV := Lib.hid (fun W => spec_StateValid ⟨0, [], [], false⟩ W (val_plain (by omega)))
  obtain ⟨⟨p0, p1, p2⟩, bx⟩ := three_new w (.cells #[.int .i64 0, .string (mkS []), .string (mkS []), .bool false] 57 (0, 0)) (.cells #[.int .i64 0, .string ⟨#[]⟩, .string ⟨#[]⟩, .bool false] 57 (0, 0)) (.cells #[.int .i64 15, .string ⟨#[]⟩, .string ⟨#[]⟩, .bool false] 57 (0, 0))
  rw [st_agg] at CV ⊢
  have P0 := Lib.hid p0; have P1 := Lib.hid p1; have P2 := Lib.hid p2; have BX := Lib.hid bx
  clear p0 p1 p2 bx h
  go_enter Try.func63, Try.ntmps63
  go_wp2_with fail
  refine (CV.out _).mono ?_
  rintro e w1 ⟨rfl, hb1⟩
  have q0 := (hb1.block _ (bld_ltS P0.out)).trans P0.out
  have q1 := (hb1.block _ (bld_ltS P1.out)).trans P1.out
  have BW := Lib.hid (BX.out.trans (hb1.mono BX.out.size))
  have x0 : w1.cell? ⟨w.heap.size, 0, none⟩ = some (.int .i64 0) := by rw [cell_of_row w1 _ _ _ _ _ q0]; rfl
  have x1 : w1.cell? ⟨w.heap.size, 1, none⟩ = some (.string (mkS [])) := by rw [cell_of_row w1 _ _ _ _ _ q0]; rfl
  have x2 : w1.cell? ⟨w.heap.size, 2, none⟩ = some (.string (mkS [])) := by rw [cell_of_row w1 _ _ _ _ _ q0]; rfl
  have x3 : w1.cell? ⟨w.heap.size, 3, none⟩ = some (.bool false) := by rw [cell_of_row w1 _ _ _ _ _ q0]; rfl
  have u0 : w1.cell? ⟨w.heap.size + 1, 0, none⟩ = some (.int .i64 0) := by rw [cell_of_row w1 _ _ _ _ _ q1]; rfl
  have u1 : w1.cell? ⟨w.heap.size + 1, 1, none⟩ = some (.string ⟨#[]⟩) := by rw [cell_of_row w1 _ _ _ _ _ q1]; rfl
  have u2 : w1.cell? ⟨w.heap.size + 1, 2, none⟩ = some (.string ⟨#[]⟩) := by rw [cell_of_row w1 _ _ _ _ _ q1]; rfl
  have u3 : w1.cell? ⟨w.heap.size + 1, 3, none⟩ = some (.bool false) := by rw [cell_of_row w1 _ _ _ _ _ q1]; rfl
  have f0 := row_frozen q0 0
  have f1 := row_frozen q0 1
  have f2 := row_frozen q0 2
  have f3 := row_frozen q0 3
  have g0 := row_frozen q1 0
  have g1 := row_frozen q1 1
  have g2 := row_frozen q1 2
  have g3 := row_frozen q1 3
  have Q0 := Lib.hid q0; have Q1 := Lib.hid q1
  clear q0 q1 hb1 P0 P1 P2 CV
  go_wp2_with (first | (go_at_call 66; refine (spec_l1In_any _ _ _ _).mono ?_; rintro e w2 ⟨rfl, rfl⟩))
  obtain ⟨⟨r0, r1, r2, r3⟩, RB⟩ := st_set Q1.out (.int .i64 1) (.string ⟨#[]⟩) (.string ⟨#[]⟩) (.bool false)
  exact bodyPost_ret (v := .agg #[.int .i64 1, .string ⟨#[]⟩, .string ⟨#[]⟩, .bool false]) (by simp [results, Try.results63, go_sem, r0, r1, r2, r3]) rfl ⟨by rfl, RB _ _ (by omega) BW.out⟩
set_option maxRecDepth 100000 in
set_option maxHeartbeats 3200000 in
theorem rp_0n  (b : UInt8) (h : b ≠ 60) (w : World) :
    Calls Try.prog 63 #[stV ⟨0, [], [], false⟩, .int .u8 (b.toNat : Int)] w fun e w' => e = .returned (stV ⟨0, [], [], false⟩) ∧ Below w.heap.size w w' := by
  have hb60 : ((b.toNat : Int) == 60) = false := bneN (n := 60) 60 rfl h
  have CV := Lib.hid (fun W => spec_StateValid ⟨0, [], [], false⟩ W (val_plain (by omega)))
  obtain ⟨⟨p0, p1, p2⟩, bx⟩ := three_new w (.cells #[.int .i64 0, .string (mkS []), .string (mkS []), .bool false] 57 (0, 0)) (.cells #[.int .i64 0, .string ⟨#[]⟩, .string ⟨#[]⟩, .bool false] 57 (0, 0)) (.cells #[.int .i64 15, .string ⟨#[]⟩, .string ⟨#[]⟩, .bool false] 57 (0, 0))
  rw [st_agg] at CV ⊢
  have P0 := Lib.hid p0; have P1 := Lib.hid p1; have P2 := Lib.hid p2; have BX := Lib.hid bx
  clear p0 p1 p2 bx h
  go_enter Try.func63, Try.ntmps63
  go_wp2_with fail
  refine (CV.out _).mono ?_
  rintro e w1 ⟨rfl, hb1⟩
  have q0 := (hb1.block _ (bld_ltS P0.out)).trans P0.out
  have q1 := (hb1.block _ (bld_ltS P1.out)).trans P1.out
  have BW := Lib.hid (BX.out.trans (hb1.mono BX.out.size))
  have x0 : w1.cell? ⟨w.heap.size, 0, none⟩ = some (.int .i64 0) := by rw [cell_of_row w1 _ _ _ _ _ q0]; rfl
  have x1 : w1.cell? ⟨w.heap.size, 1, none⟩ = some (.string (mkS [])) := by rw [cell_of_row w1 _ _ _ _ _ q0]; rfl
  have x2 : w1.cell? ⟨w.heap.size, 2, none⟩ = some (.string (mkS [])) := by rw [cell_of_row w1 _ _ _ _ _ q0]; rfl
  have x3 : w1.cell? ⟨w.heap.size, 3, none⟩ = some (.bool false) := by rw [cell_of_row w1 _ _ _ _ _ q0]; rfl
  have u0 : w1.cell? ⟨w.heap.size + 1, 0, none⟩ = some (.int .i64 0) := by rw [cell_of_row w1 _ _ _ _ _ q1]; rfl
  have u1 : w1.cell? ⟨w.heap.size + 1, 1, none⟩ = some (.string ⟨#[]⟩) := by rw [cell_of_row w1 _ _ _ _ _ q1]; rfl
  have u2 : w1.cell? ⟨w.heap.size + 1, 2, none⟩ = some (.string ⟨#[]⟩) := by rw [cell_of_row w1 _ _ _ _ _ q1]; rfl
  have u3 : w1.cell? ⟨w.heap.size + 1, 3, none⟩ = some (.bool false) := by rw [cell_of_row w1 _ _ _ _ _ q1]; rfl
  have f0 := row_frozen q0 0
  have f1 := row_frozen q0 1
  have f2 := row_frozen q0 2
  have f3 := row_frozen q0 3
  have g0 := row_frozen q1 0
  have g1 := row_frozen q1 1
  have g2 := row_frozen q1 2
  have g3 := row_frozen q1 3
  have Q0 := Lib.hid q0; have Q1 := Lib.hid q1
  clear q0 q1 hb1 P0 P1 P2 CV
  go_wp2_with (first | (go_at_call 66; refine (spec_l1In_any _ _ _ _).mono ?_; rintro e w2 ⟨rfl, rfl⟩))
  obtain ⟨⟨r0, r1, r2, r3⟩, RB⟩ := st_set Q1.out (.int .i64 0) (.string ⟨#[]⟩) (.string ⟨#[]⟩) (.bool false)
  exact bodyPost_ret (v := .agg #[.int .i64 0, .string ⟨#[]⟩, .string ⟨#[]⟩, .bool false]) (by simp [results, Try.results63, go_sem, r0, r1, r2, r3]) rfl ⟨by rfl, RB _ _ (by omega) BW.out⟩
set_option maxRecDepth 100000 in
set_option maxHeartbeats 3200000 in
theorem rp_10z  (b : UInt8) (h : b = 62) (w : World) :
    Calls Try.prog 63 #[stV ⟨10, [], [], false⟩, .int .u8 (b.toNat : Int)] w fun e w' => e = .returned (stV zeroS) ∧ Below w.heap.size w w' := by
  have hb62 : ((b.toNat : Int) == 62) = true := beqN (n := 62) 62 rfl h
  have CV := Lib.hid (fun W => spec_StateValid ⟨10, [], [], false⟩ W (val_plain (by omega)))
  obtain ⟨⟨p0, p1, p2⟩, bx⟩ := three_new w (.cells #[.int .i64 10, .string (mkS []), .string (mkS []), .bool false] 57 (0, 0)) (.cells #[.int .i64 0, .string ⟨#[]⟩, .string ⟨#[]⟩, .bool false] 57 (0, 0)) (.cells #[.int .i64 15, .string ⟨#[]⟩, .string ⟨#[]⟩, .bool false] 57 (0, 0))
  rw [st_agg] at CV ⊢
  have P0 := Lib.hid p0; have P1 := Lib.hid p1; have P2 := Lib.hid p2; have BX := Lib.hid bx
  clear p0 p1 p2 bx h
  go_enter Try.func63, Try.ntmps63
  go_wp2_with fail
  refine (CV.out _).mono ?_
  rintro e w1 ⟨rfl, hb1⟩
  have q0 := (hb1.block _ (bld_ltS P0.out)).trans P0.out
  have q1 := (hb1.block _ (bld_ltS P1.out)).trans P1.out
  have BW := Lib.hid (BX.out.trans (hb1.mono BX.out.size))
  have x0 : w1.cell? ⟨w.heap.size, 0, none⟩ = some (.int .i64 10) := by rw [cell_of_row w1 _ _ _ _ _ q0]; rfl
  have x1 : w1.cell? ⟨w.heap.size, 1, none⟩ = some (.string (mkS [])) := by rw [cell_of_row w1 _ _ _ _ _ q0]; rfl
  have x2 : w1.cell? ⟨w.heap.size, 2, none⟩ = some (.string (mkS [])) := by rw [cell_of_row w1 _ _ _ _ _ q0]; rfl
  have x3 : w1.cell? ⟨w.heap.size, 3, none⟩ = some (.bool false) := by rw [cell_of_row w1 _ _ _ _ _ q0]; rfl
  have u0 : w1.cell? ⟨w.heap.size + 1, 0, none⟩ = some (.int .i64 0) := by rw [cell_of_row w1 _ _ _ _ _ q1]; rfl
  have u1 : w1.cell? ⟨w.heap.size + 1, 1, none⟩ = some (.string ⟨#[]⟩) := by rw [cell_of_row w1 _ _ _ _ _ q1]; rfl
  have u2 : w1.cell? ⟨w.heap.size + 1, 2, none⟩ = some (.string ⟨#[]⟩) := by rw [cell_of_row w1 _ _ _ _ _ q1]; rfl
  have u3 : w1.cell? ⟨w.heap.size + 1, 3, none⟩ = some (.bool false) := by rw [cell_of_row w1 _ _ _ _ _ q1]; rfl
  have f0 := row_frozen q0 0
  have f1 := row_frozen q0 1
  have f2 := row_frozen q0 2
  have f3 := row_frozen q0 3
  have g0 := row_frozen q1 0
  have g1 := row_frozen q1 1
  have g2 := row_frozen q1 2
  have g3 := row_frozen q1 3
  have Q0 := Lib.hid q0; have Q1 := Lib.hid q1
  clear q0 q1 hb1 P0 P1 P2 CV
  go_wp2_with (first | (go_at_call 66; refine (spec_l1In_any _ _ _ _).mono ?_; rintro e w2 ⟨rfl, rfl⟩))
  obtain ⟨⟨r0, r1, r2, r3⟩, RB⟩ := st_set Q1.out (.int .i64 0) (.string ⟨#[]⟩) (.string ⟨#[]⟩) (.bool false)
  exact bodyPost_ret (v := .agg #[.int .i64 0, .string ⟨#[]⟩, .string ⟨#[]⟩, .bool false]) (by simp [results, Try.results63, go_sem, r0, r1, r2, r3]) rfl ⟨by rfl, RB _ _ (by omega) BW.out⟩
set_option maxRecDepth 100000 in
set_option maxHeartbeats 3200000 in
theorem rp_10n  (b : UInt8) (h : b ≠ 62) (w : World) :
    Calls Try.prog 63 #[stV ⟨10, [], [], false⟩, .int .u8 (b.toNat : Int)] w fun e w' => e = .returned (stV ⟨10, [], [], false⟩) ∧ Below w.heap.size w w' := by
  have hb62 : ((b.toNat : Int) == 62) = false := bneN (n := 62) 62 rfl h
  have CV := Lib.hid (fun W => spec_StateValid ⟨10, [], [], false⟩ W (val_plain (by omega)))
  obtain ⟨⟨p0, p1, p2⟩, bx⟩ := three_new w (.cells #[.int .i64 10, .string (mkS []), .string (mkS []), .bool false] 57 (0, 0)) (.cells #[.int .i64 0, .string ⟨#[]⟩, .string ⟨#[]⟩, .bool false] 57 (0, 0)) (.cells #[.int .i64 15, .string ⟨#[]⟩, .string ⟨#[]⟩, .bool false] 57 (0, 0))
  rw [st_agg] at CV ⊢
  have P0 := Lib.hid p0; have P1 := Lib.hid p1; have P2 := Lib.hid p2; have BX := Lib.hid bx
  clear p0 p1 p2 bx h
  go_enter Try.func63, Try.ntmps63
  go_wp2_with fail
  refine (CV.out _).mono ?_
  rintro e w1 ⟨rfl, hb1⟩
  have q0 := (hb1.block _ (bld_ltS P0.out)).trans P0.out
  have q1 := (hb1.block _ (bld_ltS P1.out)).trans P1.out
  have BW := Lib.hid (BX.out.trans (hb1.mono BX.out.size))
  have x0 : w1.cell? ⟨w.heap.size, 0, none⟩ = some (.int .i64 10) := by rw [cell_of_row w1 _ _ _ _ _ q0]; rfl
  have x1 : w1.cell? ⟨w.heap.size, 1, none⟩ = some (.string (mkS [])) := by rw [cell_of_row w1 _ _ _ _ _ q0]; rfl
  have x2 : w1.cell? ⟨w.heap.size, 2, none⟩ = some (.string (mkS [])) := by rw [cell_of_row w1 _ _ _ _ _ q0]; rfl
  have x3 : w1.cell? ⟨w.heap.size, 3, none⟩ = some (.bool false) := by rw [cell_of_row w1 _ _ _ _ _ q0]; rfl
  have u0 : w1.cell? ⟨w.heap.size + 1, 0, none⟩ = some (.int .i64 0) := by rw [cell_of_row w1 _ _ _ _ _ q1]; rfl
  have u1 : w1.cell? ⟨w.heap.size + 1, 1, none⟩ = some (.string ⟨#[]⟩) := by rw [cell_of_row w1 _ _ _ _ _ q1]; rfl
  have u2 : w1.cell? ⟨w.heap.size + 1, 2, none⟩ = some (.string ⟨#[]⟩) := by rw [cell_of_row w1 _ _ _ _ _ q1]; rfl
  have u3 : w1.cell? ⟨w.heap.size + 1, 3, none⟩ = some (.bool false) := by rw [cell_of_row w1 _ _ _ _ _ q1]; rfl
  have f0 := row_frozen q0 0
  have f1 := row_frozen q0 1
  have f2 := row_frozen q0 2
  have f3 := row_frozen q0 3
  have g0 := row_frozen q1 0
  have g1 := row_frozen q1 1
  have g2 := row_frozen q1 2
  have g3 := row_frozen q1 3
  have Q0 := Lib.hid q0; have Q1 := Lib.hid q1
  clear q0 q1 hb1 P0 P1 P2 CV
  go_wp2_with (first | (go_at_call 66; refine (spec_l1In_any _ _ _ _).mono ?_; rintro e w2 ⟨rfl, rfl⟩))
  obtain ⟨⟨r0, r1, r2, r3⟩, RB⟩ := st_set Q1.out (.int .i64 10) (.string (mkS [])) (.string (mkS [])) (.bool false)
  exact bodyPost_ret (v := .agg #[.int .i64 10, .string (mkS []), .string (mkS []), .bool false]) (by simp [results, Try.results63, go_sem, r0, r1, r2, r3]) rfl ⟨by rfl, RB _ _ (by omega) BW.out⟩
set_option maxRecDepth 100000 in
set_option maxHeartbeats 3200000 in
theorem rp_1l  (b : UInt8) (hl : letB b = true) (w : World) :
    Calls Try.prog 63 #[stV ⟨1, [], [], false⟩, .int .u8 (b.toNat : Int)] w fun e w' => e = .returned (stV (moreS 2 [] [] b)) ∧ Below w.heap.size w w' := by
  have CL := Lib.hid (fun W => (by have h := spec_l1Letter b W; rw [hl] at h; exact h : Calls Try.prog 84 #[.int .u8 (b.toNat : Int)] W fun e w' => e = .returned (.bool true) ∧ W = w'))
  have CG := Lib.hid (fun W => spec_moreT 2 [] [] b W (by simp) (by simp) (by omega))
  obtain ⟨M2, T2, A2, E2, hlt⟩ : ∃ M2 T2 A2 E2, moreS 2 [] [] b = ⟨M2, T2, A2, E2⟩ := ⟨_, _, _, _, rfl⟩
  rw [hlt] at CG
  simp only [st_agg] at CG
  have CV := Lib.hid (fun W => spec_StateValid ⟨1, [], [], false⟩ W (val_plain (by omega)))
  obtain ⟨⟨p0, p1, p2⟩, bx⟩ := three_new w (.cells #[.int .i64 1, .string (mkS []), .string (mkS []), .bool false] 57 (0, 0)) (.cells #[.int .i64 0, .string ⟨#[]⟩, .string ⟨#[]⟩, .bool false] 57 (0, 0)) (.cells #[.int .i64 15, .string ⟨#[]⟩, .string ⟨#[]⟩, .bool false] 57 (0, 0))
  rw [st_agg] at CV ⊢
  have P0 := Lib.hid p0; have P1 := Lib.hid p1; have P2 := Lib.hid p2; have BX := Lib.hid bx
  clear p0 p1 p2 bx hl
  go_enter Try.func63, Try.ntmps63
  go_wp2_with fail
  refine (CV.out _).mono ?_
  rintro e w1 ⟨rfl, hb1⟩
  have q0 := (hb1.block _ (bld_ltS P0.out)).trans P0.out
  have q1 := (hb1.block _ (bld_ltS P1.out)).trans P1.out
  have BW := Lib.hid (BX.out.trans (hb1.mono BX.out.size))
  have x0 : w1.cell? ⟨w.heap.size, 0, none⟩ = some (.int .i64 1) := by rw [cell_of_row w1 _ _ _ _ _ q0]; rfl
  have x1 : w1.cell? ⟨w.heap.size, 1, none⟩ = some (.string (mkS [])) := by rw [cell_of_row w1 _ _ _ _ _ q0]; rfl
  have x2 : w1.cell? ⟨w.heap.size, 2, none⟩ = some (.string (mkS [])) := by rw [cell_of_row w1 _ _ _ _ _ q0]; rfl
  have x3 : w1.cell? ⟨w.heap.size, 3, none⟩ = some (.bool false) := by rw [cell_of_row w1 _ _ _ _ _ q0]; rfl
  have u0 : w1.cell? ⟨w.heap.size + 1, 0, none⟩ = some (.int .i64 0) := by rw [cell_of_row w1 _ _ _ _ _ q1]; rfl
  have u1 : w1.cell? ⟨w.heap.size + 1, 1, none⟩ = some (.string ⟨#[]⟩) := by rw [cell_of_row w1 _ _ _ _ _ q1]; rfl
  have u2 : w1.cell? ⟨w.heap.size + 1, 2, none⟩ = some (.string ⟨#[]⟩) := by rw [cell_of_row w1 _ _ _ _ _ q1]; rfl
  have u3 : w1.cell? ⟨w.heap.size + 1, 3, none⟩ = some (.bool false) := by rw [cell_of_row w1 _ _ _ _ _ q1]; rfl
  have f0 := row_frozen q0 0
  have f1 := row_frozen q0 1
  have f2 := row_frozen q0 2
  have f3 := row_frozen q0 3
  have g0 := row_frozen q1 0
  have g1 := row_frozen q1 1
  have g2 := row_frozen q1 2
  have g3 := row_frozen q1 3
  have Q0 := Lib.hid q0; have Q1 := Lib.hid q1
  clear q0 q1 hb1 P0 P1 P2 CV
  have hone := one_str w1 b
  go_wp2_with (first | (go_at_call 66; refine (spec_l1In_any _ _ _ _).mono ?_; rintro e w2 ⟨rfl, rfl⟩) | (go_at_call 84; refine (CL.out _).mono ?_; rintro e w2 ⟨rfl, rfl⟩))
  refine (CG.out _).mono ?_
  rintro e w3 ⟨rfl, hb3⟩
  have B3 := Lib.hid (((Below.refl w1.heap.size w1).alloc (Nat.le_refl _) (.cells #[.int .u8 (b.toNat : Int)] 5 (0, 0))).trans (hb3.mono (by simp)))
  have q3 := (B3.out.block _ (bld_ltS Q1.out)).trans Q1.out
  have v0 : w3.cell? ⟨w.heap.size + 1, 0, none⟩ = some (.int .i64 0) := by rw [cell_of_row w3 _ _ _ _ _ q3]; rfl
  have v1 : w3.cell? ⟨w.heap.size + 1, 1, none⟩ = some (.string ⟨#[]⟩) := by rw [cell_of_row w3 _ _ _ _ _ q3]; rfl
  have v2 : w3.cell? ⟨w.heap.size + 1, 2, none⟩ = some (.string ⟨#[]⟩) := by rw [cell_of_row w3 _ _ _ _ _ q3]; rfl
  have v3 : w3.cell? ⟨w.heap.size + 1, 3, none⟩ = some (.bool false) := by rw [cell_of_row w3 _ _ _ _ _ q3]; rfl
  have k0 := row_frozen q3 0
  have k1 := row_frozen q3 1
  have k2 := row_frozen q3 2
  have k3 := row_frozen q3 3
  have Q3 := Lib.hid q3
  have BV := Lib.hid (BW.out.trans (B3.out.mono BW.out.size))
  clear q3 hb3
  go_wp2
  obtain ⟨⟨r0, r1, r2, r3⟩, RB⟩ := st_set Q3.out (.int .i64 (M2 : Int)) (.string (mkS T2)) (.string (mkS A2)) (.bool E2)
  exact bodyPost_ret (v := .agg #[.int .i64 (M2 : Int), .string (mkS T2), .string (mkS A2), .bool E2]) (by simp [results, Try.results63, go_sem, r0, r1, r2, r3]) rfl ⟨by rw [hlt]; rfl, RB _ _ (by omega) BV.out⟩
set_option maxRecDepth 100000 in
set_option maxHeartbeats 3200000 in
theorem rp_1s  (b : UInt8) (h : b = 47) (w : World) :
    Calls Try.prog 63 #[stV ⟨1, [], [], false⟩, .int .u8 (b.toNat : Int)] w fun e w' => e = .returned (stV ⟨9, [], [], false⟩) ∧ Below w.heap.size w w' := by
  have hl : letB b = false := by subst h; decide
  have CL := Lib.hid (fun W => (by have h := spec_l1Letter b W; rw [hl] at h; exact h : Calls Try.prog 84 #[.int .u8 (b.toNat : Int)] W fun e w' => e = .returned (.bool false) ∧ W = w'))
  have hb47 : ((b.toNat : Int) == 47) = true := beqN (n := 47) 47 rfl h
  have CV := Lib.hid (fun W => spec_StateValid ⟨1, [], [], false⟩ W (val_plain (by omega)))
  obtain ⟨⟨p0, p1, p2⟩, bx⟩ := three_new w (.cells #[.int .i64 1, .string (mkS []), .string (mkS []), .bool false] 57 (0, 0)) (.cells #[.int .i64 0, .string ⟨#[]⟩, .string ⟨#[]⟩, .bool false] 57 (0, 0)) (.cells #[.int .i64 15, .string ⟨#[]⟩, .string ⟨#[]⟩, .bool false] 57 (0, 0))
  rw [st_agg] at CV ⊢
  have P0 := Lib.hid p0; have P1 := Lib.hid p1; have P2 := Lib.hid p2; have BX := Lib.hid bx
  clear p0 p1 p2 bx h hl
  go_enter Try.func63, Try.ntmps63
  go_wp2_with fail
  refine (CV.out _).mono ?_
  rintro e w1 ⟨rfl, hb1⟩
  have q0 := (hb1.block _ (bld_ltS P0.out)).trans P0.out
  have q1 := (hb1.block _ (bld_ltS P1.out)).trans P1.out
  have BW := Lib.hid (BX.out.trans (hb1.mono BX.out.size))
  have x0 : w1.cell? ⟨w.heap.size, 0, none⟩ = some (.int .i64 1) := by rw [cell_of_row w1 _ _ _ _ _ q0]; rfl
  have x1 : w1.cell? ⟨w.heap.size, 1, none⟩ = some (.string (mkS [])) := by rw [cell_of_row w1 _ _ _ _ _ q0]; rfl
  have x2 : w1.cell? ⟨w.heap.size, 2, none⟩ = some (.string (mkS [])) := by rw [cell_of_row w1 _ _ _ _ _ q0]; rfl
  have x3 : w1.cell? ⟨w.heap.size, 3, none⟩ = some (.bool false) := by rw [cell_of_row w1 _ _ _ _ _ q0]; rfl
  have u0 : w1.cell? ⟨w.heap.size + 1, 0, none⟩ = some (.int .i64 0) := by rw [cell_of_row w1 _ _ _ _ _ q1]; rfl
  have u1 : w1.cell? ⟨w.heap.size + 1, 1, none⟩ = some (.string ⟨#[]⟩) := by rw [cell_of_row w1 _ _ _ _ _ q1]; rfl
  have u2 : w1.cell? ⟨w.heap.size + 1, 2, none⟩ = some (.string ⟨#[]⟩) := by rw [cell_of_row w1 _ _ _ _ _ q1]; rfl
  have u3 : w1.cell? ⟨w.heap.size + 1, 3, none⟩ = some (.bool false) := by rw [cell_of_row w1 _ _ _ _ _ q1]; rfl
  have f0 := row_frozen q0 0
  have f1 := row_frozen q0 1
  have f2 := row_frozen q0 2
  have f3 := row_frozen q0 3
  have g0 := row_frozen q1 0
  have g1 := row_frozen q1 1
  have g2 := row_frozen q1 2
  have g3 := row_frozen q1 3
  have Q0 := Lib.hid q0; have Q1 := Lib.hid q1
  clear q0 q1 hb1 P0 P1 P2 CV
  go_wp2_with (first | (go_at_call 66; refine (spec_l1In_any _ _ _ _).mono ?_; rintro e w2 ⟨rfl, rfl⟩) | (go_at_call 84; refine (CL.out _).mono ?_; rintro e w2 ⟨rfl, rfl⟩))
  obtain ⟨⟨r0, r1, r2, r3⟩, RB⟩ := st_set Q1.out (.int .i64 9) (.string ⟨#[]⟩) (.string ⟨#[]⟩) (.bool false)
  exact bodyPost_ret (v := .agg #[.int .i64 9, .string ⟨#[]⟩, .string ⟨#[]⟩, .bool false]) (by simp [results, Try.results63, go_sem, r0, r1, r2, r3]) rfl ⟨by rfl, RB _ _ (by omega) BW.out⟩
set_option maxRecDepth 100000 in
set_option maxHeartbeats 3200000 in
theorem rp_1c  (b : UInt8) (h : b = 33) (w : World) :
    Calls Try.prog 63 #[stV ⟨1, [], [], false⟩, .int .u8 (b.toNat : Int)] w fun e w' => e = .returned (stV ⟨10, [], [], false⟩) ∧ Below w.heap.size w w' := by
  have hl : letB b = false := by subst h; decide
  have CL := Lib.hid (fun W => (by have h := spec_l1Letter b W; rw [hl] at h; exact h : Calls Try.prog 84 #[.int .u8 (b.toNat : Int)] W fun e w' => e = .returned (.bool false) ∧ W = w'))
  have hb47 : ((b.toNat : Int) == 47) = false := bneN (n := 47) 47 rfl (by subst h; decide)
  have hb33 : ((b.toNat : Int) == 33) = true := beqN (n := 33) 33 rfl h
  have CV := Lib.hid (fun W => spec_StateValid ⟨1, [], [], false⟩ W (val_plain (by omega)))
  obtain ⟨⟨p0, p1, p2⟩, bx⟩ := three_new w (.cells #[.int .i64 1, .string (mkS []), .string (mkS []), .bool false] 57 (0, 0)) (.cells #[.int .i64 0, .string ⟨#[]⟩, .string ⟨#[]⟩, .bool false] 57 (0, 0)) (.cells #[.int .i64 15, .string ⟨#[]⟩, .string ⟨#[]⟩, .bool false] 57 (0, 0))
  rw [st_agg] at CV ⊢
  have P0 := Lib.hid p0; have P1 := Lib.hid p1; have P2 := Lib.hid p2; have BX := Lib.hid bx
  clear p0 p1 p2 bx h hl
  go_enter Try.func63, Try.ntmps63
  go_wp2_with fail
  refine (CV.out _).mono ?_
  rintro e w1 ⟨rfl, hb1⟩
  have q0 := (hb1.block _ (bld_ltS P0.out)).trans P0.out
  have q1 := (hb1.block _ (bld_ltS P1.out)).trans P1.out
  have BW := Lib.hid (BX.out.trans (hb1.mono BX.out.size))
  have x0 : w1.cell? ⟨w.heap.size, 0, none⟩ = some (.int .i64 1) := by rw [cell_of_row w1 _ _ _ _ _ q0]; rfl
  have x1 : w1.cell? ⟨w.heap.size, 1, none⟩ = some (.string (mkS [])) := by rw [cell_of_row w1 _ _ _ _ _ q0]; rfl
  have x2 : w1.cell? ⟨w.heap.size, 2, none⟩ = some (.string (mkS [])) := by rw [cell_of_row w1 _ _ _ _ _ q0]; rfl
  have x3 : w1.cell? ⟨w.heap.size, 3, none⟩ = some (.bool false) := by rw [cell_of_row w1 _ _ _ _ _ q0]; rfl
  have u0 : w1.cell? ⟨w.heap.size + 1, 0, none⟩ = some (.int .i64 0) := by rw [cell_of_row w1 _ _ _ _ _ q1]; rfl
  have u1 : w1.cell? ⟨w.heap.size + 1, 1, none⟩ = some (.string ⟨#[]⟩) := by rw [cell_of_row w1 _ _ _ _ _ q1]; rfl
  have u2 : w1.cell? ⟨w.heap.size + 1, 2, none⟩ = some (.string ⟨#[]⟩) := by rw [cell_of_row w1 _ _ _ _ _ q1]; rfl
  have u3 : w1.cell? ⟨w.heap.size + 1, 3, none⟩ = some (.bool false) := by rw [cell_of_row w1 _ _ _ _ _ q1]; rfl
  have f0 := row_frozen q0 0
  have f1 := row_frozen q0 1
  have f2 := row_frozen q0 2
  have f3 := row_frozen q0 3
  have g0 := row_frozen q1 0
  have g1 := row_frozen q1 1
  have g2 := row_frozen q1 2
  have g3 := row_frozen q1 3
  have Q0 := Lib.hid q0; have Q1 := Lib.hid q1
  clear q0 q1 hb1 P0 P1 P2 CV
  go_wp2_with (first | (go_at_call 66; refine (spec_l1In_any _ _ _ _).mono ?_; rintro e w2 ⟨rfl, rfl⟩) | (go_at_call 84; refine (CL.out _).mono ?_; rintro e w2 ⟨rfl, rfl⟩))
  obtain ⟨⟨r0, r1, r2, r3⟩, RB⟩ := st_set Q1.out (.int .i64 10) (.string ⟨#[]⟩) (.string ⟨#[]⟩) (.bool false)
  exact bodyPost_ret (v := .agg #[.int .i64 10, .string ⟨#[]⟩, .string ⟨#[]⟩, .bool false]) (by simp [results, Try.results63, go_sem, r0, r1, r2, r3]) rfl ⟨by rfl, RB _ _ (by omega) BW.out⟩
set_option maxRecDepth 100000 in
set_option maxHeartbeats 3200000 in
theorem rp_1b  (b : UInt8) (hl : letB b = false) (h1 : b ≠ 47) (h2 : b ≠ 33) (w : World) :
    Calls Try.prog 63 #[stV ⟨1, [], [], false⟩, .int .u8 (b.toNat : Int)] w fun e w' => e = .returned (stV badS) ∧ Below w.heap.size w w' := by
  have CL := Lib.hid (fun W => (by have h := spec_l1Letter b W; rw [hl] at h; exact h : Calls Try.prog 84 #[.int .u8 (b.toNat : Int)] W fun e w' => e = .returned (.bool false) ∧ W = w'))
  have hb47 : ((b.toNat : Int) == 47) = false := bneN (n := 47) 47 rfl h1
  have hb33 : ((b.toNat : Int) == 33) = false := bneN (n := 33) 33 rfl h2
  have CV := Lib.hid (fun W => spec_StateValid ⟨1, [], [], false⟩ W (val_plain (by omega)))
  obtain ⟨⟨p0, p1, p2⟩, bx⟩ := three_new w (.cells #[.int .i64 1, .string (mkS []), .string (mkS []), .bool false] 57 (0, 0)) (.cells #[.int .i64 0, .string ⟨#[]⟩, .string ⟨#[]⟩, .bool false] 57 (0, 0)) (.cells #[.int .i64 15, .string ⟨#[]⟩, .string ⟨#[]⟩, .bool false] 57 (0, 0))
  rw [st_agg] at CV ⊢
  have P0 := Lib.hid p0; have P1 := Lib.hid p1; have P2 := Lib.hid p2; have BX := Lib.hid bx
  clear p0 p1 p2 bx hl h1 h2
  go_enter Try.func63, Try.ntmps63
  go_wp2_with fail
  refine (CV.out _).mono ?_
  rintro e w1 ⟨rfl, hb1⟩
  have q0 := (hb1.block _ (bld_ltS P0.out)).trans P0.out
  have q1 := (hb1.block _ (bld_ltS P1.out)).trans P1.out
  have q2 := (hb1.block _ (bld_ltS P2.out)).trans P2.out
  have BW := Lib.hid (BX.out.trans (hb1.mono BX.out.size))
  have x0 : w1.cell? ⟨w.heap.size, 0, none⟩ = some (.int .i64 1) := by rw [cell_of_row w1 _ _ _ _ _ q0]; rfl
  have x1 : w1.cell? ⟨w.heap.size, 1, none⟩ = some (.string (mkS [])) := by rw [cell_of_row w1 _ _ _ _ _ q0]; rfl
  have x2 : w1.cell? ⟨w.heap.size, 2, none⟩ = some (.string (mkS [])) := by rw [cell_of_row w1 _ _ _ _ _ q0]; rfl
  have x3 : w1.cell? ⟨w.heap.size, 3, none⟩ = some (.bool false) := by rw [cell_of_row w1 _ _ _ _ _ q0]; rfl
  have u0 : w1.cell? ⟨w.heap.size + 1, 0, none⟩ = some (.int .i64 0) := by rw [cell_of_row w1 _ _ _ _ _ q1]; rfl
  have u1 : w1.cell? ⟨w.heap.size + 1, 1, none⟩ = some (.string ⟨#[]⟩) := by rw [cell_of_row w1 _ _ _ _ _ q1]; rfl
  have u2 : w1.cell? ⟨w.heap.size + 1, 2, none⟩ = some (.string ⟨#[]⟩) := by rw [cell_of_row w1 _ _ _ _ _ q1]; rfl
  have u3 : w1.cell? ⟨w.heap.size + 1, 3, none⟩ = some (.bool false) := by rw [cell_of_row w1 _ _ _ _ _ q1]; rfl
  have t0 : w1.cell? ⟨w.heap.size + 1 + 1, 0, none⟩ = some (.int .i64 15) := by rw [cell_of_row w1 _ _ _ _ _ q2]; rfl
  have t1 : w1.cell? ⟨w.heap.size + 1 + 1, 1, none⟩ = some (.string ⟨#[]⟩) := by rw [cell_of_row w1 _ _ _ _ _ q2]; rfl
  have t2 : w1.cell? ⟨w.heap.size + 1 + 1, 2, none⟩ = some (.string ⟨#[]⟩) := by rw [cell_of_row w1 _ _ _ _ _ q2]; rfl
  have t3 : w1.cell? ⟨w.heap.size + 1 + 1, 3, none⟩ = some (.bool false) := by rw [cell_of_row w1 _ _ _ _ _ q2]; rfl
  have f0 := row_frozen q0 0
  have f1 := row_frozen q0 1
  have f2 := row_frozen q0 2
  have f3 := row_frozen q0 3
  have g0 := row_frozen q1 0
  have g1 := row_frozen q1 1
  have g2 := row_frozen q1 2
  have g3 := row_frozen q1 3
  have Q0 := Lib.hid q0; have Q1 := Lib.hid q1
  clear q0 q1 q2 hb1 P0 P1 P2 CV
  go_wp2_with (first | (go_at_call 66; refine (spec_l1In_any _ _ _ _).mono ?_; rintro e w2 ⟨rfl, rfl⟩) | (go_at_call 84; refine (CL.out _).mono ?_; rintro e w2 ⟨rfl, rfl⟩))
  obtain ⟨⟨r0, r1, r2, r3⟩, RB⟩ := st_set Q1.out (.int .i64 15) (.string ⟨#[]⟩) (.string ⟨#[]⟩) (.bool false)
  exact bodyPost_ret (v := .agg #[.int .i64 15, .string ⟨#[]⟩, .string ⟨#[]⟩, .bool false]) (by simp [results, Try.results63, go_sem, r0, r1, r2, r3]) rfl ⟨by rfl, RB _ _ (by omega) BW.out⟩
set_option maxRecDepth 100000 in
set_option maxHeartbeats 3200000 in
theorem rp_15  (b : UInt8)  (w : World) :
    Calls Try.prog 63 #[stV ⟨15, [], [], false⟩, .int .u8 (b.toNat : Int)] w fun e w' => e = .returned (stV badS) ∧ Below w.heap.size w w' := by
  have CV := Lib.hid (fun W => spec_StateValid ⟨15, [], [], false⟩ W (val_plain (by omega)))
  obtain ⟨⟨p0, p1, p2⟩, bx⟩ := three_new w (.cells #[.int .i64 15, .string (mkS []), .string (mkS []), .bool false] 57 (0, 0)) (.cells #[.int .i64 0, .string ⟨#[]⟩, .string ⟨#[]⟩, .bool false] 57 (0, 0)) (.cells #[.int .i64 15, .string ⟨#[]⟩, .string ⟨#[]⟩, .bool false] 57 (0, 0))
  rw [st_agg] at CV ⊢
  have P0 := Lib.hid p0; have P1 := Lib.hid p1; have P2 := Lib.hid p2; have BX := Lib.hid bx
  clear p0 p1 p2 bx 
  go_enter Try.func63, Try.ntmps63
  go_wp2_with fail
  refine (CV.out _).mono ?_
  rintro e w1 ⟨rfl, hb1⟩
  have q0 := (hb1.block _ (bld_ltS P0.out)).trans P0.out
  have q1 := (hb1.block _ (bld_ltS P1.out)).trans P1.out
  have q2 := (hb1.block _ (bld_ltS P2.out)).trans P2.out
  have BW := Lib.hid (BX.out.trans (hb1.mono BX.out.size))
  have x0 : w1.cell? ⟨w.heap.size, 0, none⟩ = some (.int .i64 15) := by rw [cell_of_row w1 _ _ _ _ _ q0]; rfl
  have x1 : w1.cell? ⟨w.heap.size, 1, none⟩ = some (.string (mkS [])) := by rw [cell_of_row w1 _ _ _ _ _ q0]; rfl
  have x2 : w1.cell? ⟨w.heap.size, 2, none⟩ = some (.string (mkS [])) := by rw [cell_of_row w1 _ _ _ _ _ q0]; rfl
  have x3 : w1.cell? ⟨w.heap.size, 3, none⟩ = some (.bool false) := by rw [cell_of_row w1 _ _ _ _ _ q0]; rfl
  have u0 : w1.cell? ⟨w.heap.size + 1, 0, none⟩ = some (.int .i64 0) := by rw [cell_of_row w1 _ _ _ _ _ q1]; rfl
  have u1 : w1.cell? ⟨w.heap.size + 1, 1, none⟩ = some (.string ⟨#[]⟩) := by rw [cell_of_row w1 _ _ _ _ _ q1]; rfl
  have u2 : w1.cell? ⟨w.heap.size + 1, 2, none⟩ = some (.string ⟨#[]⟩) := by rw [cell_of_row w1 _ _ _ _ _ q1]; rfl
  have u3 : w1.cell? ⟨w.heap.size + 1, 3, none⟩ = some (.bool false) := by rw [cell_of_row w1 _ _ _ _ _ q1]; rfl
  have t0 : w1.cell? ⟨w.heap.size + 1 + 1, 0, none⟩ = some (.int .i64 15) := by rw [cell_of_row w1 _ _ _ _ _ q2]; rfl
  have t1 : w1.cell? ⟨w.heap.size + 1 + 1, 1, none⟩ = some (.string ⟨#[]⟩) := by rw [cell_of_row w1 _ _ _ _ _ q2]; rfl
  have t2 : w1.cell? ⟨w.heap.size + 1 + 1, 2, none⟩ = some (.string ⟨#[]⟩) := by rw [cell_of_row w1 _ _ _ _ _ q2]; rfl
  have t3 : w1.cell? ⟨w.heap.size + 1 + 1, 3, none⟩ = some (.bool false) := by rw [cell_of_row w1 _ _ _ _ _ q2]; rfl
  have f0 := row_frozen q0 0
  have f1 := row_frozen q0 1
  have f2 := row_frozen q0 2
  have f3 := row_frozen q0 3
  have g0 := row_frozen q1 0
  have g1 := row_frozen q1 1
  have g2 := row_frozen q1 2
  have g3 := row_frozen q1 3
  have Q0 := Lib.hid q0; have Q1 := Lib.hid q1
  clear q0 q1 q2 hb1 P0 P1 P2 CV
  go_wp2_with (first | (go_at_call 66; refine (spec_l1In_any _ _ _ _).mono ?_; rintro e w2 ⟨rfl, rfl⟩))
  obtain ⟨⟨r0, r1, r2, r3⟩, RB⟩ := st_set Q1.out (.int .i64 15) (.string ⟨#[]⟩) (.string ⟨#[]⟩) (.bool false)
  exact bodyPost_ret (v := .agg #[.int .i64 15, .string ⟨#[]⟩, .string ⟨#[]⟩, .bool false]) (by simp [results, Try.results63, go_sem, r0, r1, r2, r3]) rfl ⟨by rfl, RB _ _ (by omega) BW.out⟩
set_option maxRecDepth 100000 in
set_option maxHeartbeats 3200000 in
theorem rp_11  (b : UInt8)  (w : World) :
    Calls Try.prog 63 #[stV ⟨11, [], [], false⟩, .int .u8 (b.toNat : Int)] w fun e w' => e = .returned (stV (stepM ⟨11, [], [], false⟩ b)) ∧ Below w.heap.size w w' := by
  have CG := Lib.hid (fun W => spec_l5Script 11 b W (by omega) (by omega))
  obtain ⟨M2, T2, A2, E2, hlt⟩ : ∃ M2 T2 A2 E2, stepM ⟨11, [], [], false⟩ b = ⟨M2, T2, A2, E2⟩ := ⟨_, _, _, _, rfl⟩
  rw [hlt] at CG
  simp only [st_agg] at CG
  have CV := Lib.hid (fun W => spec_StateValid ⟨11, [], [], false⟩ W (val_plain (by omega)))
  obtain ⟨⟨p0, p1, p2⟩, bx⟩ := three_new w (.cells #[.int .i64 11, .string (mkS []), .string (mkS []), .bool false] 57 (0, 0)) (.cells #[.int .i64 0, .string ⟨#[]⟩, .string ⟨#[]⟩, .bool false] 57 (0, 0)) (.cells #[.int .i64 15, .string ⟨#[]⟩, .string ⟨#[]⟩, .bool false] 57 (0, 0))
  rw [st_agg] at CV ⊢
  have P0 := Lib.hid p0; have P1 := Lib.hid p1; have P2 := Lib.hid p2; have BX := Lib.hid bx
  clear p0 p1 p2 bx 
  go_enter Try.func63, Try.ntmps63
  go_wp2_with fail
  refine (CV.out _).mono ?_
  rintro e w1 ⟨rfl, hb1⟩
  have q0 := (hb1.block _ (bld_ltS P0.out)).trans P0.out
  have q1 := (hb1.block _ (bld_ltS P1.out)).trans P1.out
  have BW := Lib.hid (BX.out.trans (hb1.mono BX.out.size))
  have x0 : w1.cell? ⟨w.heap.size, 0, none⟩ = some (.int .i64 11) := by rw [cell_of_row w1 _ _ _ _ _ q0]; rfl
  have x1 : w1.cell? ⟨w.heap.size, 1, none⟩ = some (.string (mkS [])) := by rw [cell_of_row w1 _ _ _ _ _ q0]; rfl
  have x2 : w1.cell? ⟨w.heap.size, 2, none⟩ = some (.string (mkS [])) := by rw [cell_of_row w1 _ _ _ _ _ q0]; rfl
  have x3 : w1.cell? ⟨w.heap.size, 3, none⟩ = some (.bool false) := by rw [cell_of_row w1 _ _ _ _ _ q0]; rfl
  have u0 : w1.cell? ⟨w.heap.size + 1, 0, none⟩ = some (.int .i64 0) := by rw [cell_of_row w1 _ _ _ _ _ q1]; rfl
  have u1 : w1.cell? ⟨w.heap.size + 1, 1, none⟩ = some (.string ⟨#[]⟩) := by rw [cell_of_row w1 _ _ _ _ _ q1]; rfl
  have u2 : w1.cell? ⟨w.heap.size + 1, 2, none⟩ = some (.string ⟨#[]⟩) := by rw [cell_of_row w1 _ _ _ _ _ q1]; rfl
  have u3 : w1.cell? ⟨w.heap.size + 1, 3, none⟩ = some (.bool false) := by rw [cell_of_row w1 _ _ _ _ _ q1]; rfl
  have f0 := row_frozen q0 0
  have f1 := row_frozen q0 1
  have f2 := row_frozen q0 2
  have f3 := row_frozen q0 3
  have g0 := row_frozen q1 0
  have g1 := row_frozen q1 1
  have g2 := row_frozen q1 2
  have g3 := row_frozen q1 3
  have Q0 := Lib.hid q0; have Q1 := Lib.hid q1
  clear q0 q1 hb1 P0 P1 P2 CV
  go_wp2_with (first | (go_at_call 66; refine (spec_l1In_any _ _ _ _).mono ?_; rintro e w2 ⟨rfl, rfl⟩))
  refine (CG.out _).mono ?_
  rintro e w3 ⟨rfl, hb3⟩
  have B3 := Lib.hid hb3
  have q3 := (B3.out.block _ (bld_ltS Q1.out)).trans Q1.out
  have v0 : w3.cell? ⟨w.heap.size + 1, 0, none⟩ = some (.int .i64 0) := by rw [cell_of_row w3 _ _ _ _ _ q3]; rfl
  have v1 : w3.cell? ⟨w.heap.size + 1, 1, none⟩ = some (.string ⟨#[]⟩) := by rw [cell_of_row w3 _ _ _ _ _ q3]; rfl
  have v2 : w3.cell? ⟨w.heap.size + 1, 2, none⟩ = some (.string ⟨#[]⟩) := by rw [cell_of_row w3 _ _ _ _ _ q3]; rfl
  have v3 : w3.cell? ⟨w.heap.size + 1, 3, none⟩ = some (.bool false) := by rw [cell_of_row w3 _ _ _ _ _ q3]; rfl
  have k0 := row_frozen q3 0
  have k1 := row_frozen q3 1
  have k2 := row_frozen q3 2
  have k3 := row_frozen q3 3
  have Q3 := Lib.hid q3
  have BV := Lib.hid (BW.out.trans (B3.out.mono BW.out.size))
  clear q3 hb3
  go_wp2
  obtain ⟨⟨r0, r1, r2, r3⟩, RB⟩ := st_set Q3.out (.int .i64 (M2 : Int)) (.string (mkS T2)) (.string (mkS A2)) (.bool E2)
  exact bodyPost_ret (v := .agg #[.int .i64 (M2 : Int), .string (mkS T2), .string (mkS A2), .bool E2]) (by simp [results, Try.results63, go_sem, r0, r1, r2, r3]) rfl ⟨by rw [hlt]; rfl, RB _ _ (by omega) BV.out⟩
set_option maxRecDepth 100000 in
set_option maxHeartbeats 3200000 in
theorem rp_12  (b : UInt8)  (w : World) :
    Calls Try.prog 63 #[stV ⟨12, [], [], false⟩, .int .u8 (b.toNat : Int)] w fun e w' => e = .returned (stV (stepM ⟨12, [], [], false⟩ b)) ∧ Below w.heap.size w w' := by
  have CG := Lib.hid (fun W => spec_l5Script 12 b W (by omega) (by omega))
  obtain ⟨M2, T2, A2, E2, hlt⟩ : ∃ M2 T2 A2 E2, stepM ⟨12, [], [], false⟩ b = ⟨M2, T2, A2, E2⟩ := ⟨_, _, _, _, rfl⟩
  rw [hlt] at CG
  simp only [st_agg] at CG
  have CV := Lib.hid (fun W => spec_StateValid ⟨12, [], [], false⟩ W (val_plain (by omega)))
  obtain ⟨⟨p0, p1, p2⟩, bx⟩ := three_new w (.cells #[.int .i64 12, .string (mkS []), .string (mkS []), .bool false] 57 (0, 0)) (.cells #[.int .i64 0, .string ⟨#[]⟩, .string ⟨#[]⟩, .bool false] 57 (0, 0)) (.cells #[.int .i64 15, .string ⟨#[]⟩, .string ⟨#[]⟩, .bool false] 57 (0, 0))
  rw [st_agg] at CV ⊢
  have P0 := Lib.hid p0; have P1 := Lib.hid p1; have P2 := Lib.hid p2; have BX := Lib.hid bx
  clear p0 p1 p2 bx 
  go_enter Try.func63, Try.ntmps63
  go_wp2_with fail
  refine (CV.out _).mono ?_
  rintro e w1 ⟨rfl, hb1⟩
  have q0 := (hb1.block _ (bld_ltS P0.out)).trans P0.out
  have q1 := (hb1.block _ (bld_ltS P1.out)).trans P1.out
  have BW := Lib.hid (BX.out.trans (hb1.mono BX.out.size))
  have x0 : w1.cell? ⟨w.heap.size, 0, none⟩ = some (.int .i64 12) := by rw [cell_of_row w1 _ _ _ _ _ q0]; rfl
  have x1 : w1.cell? ⟨w.heap.size, 1, none⟩ = some (.string (mkS [])) := by rw [cell_of_row w1 _ _ _ _ _ q0]; rfl
  have x2 : w1.cell? ⟨w.heap.size, 2, none⟩ = some (.string (mkS [])) := by rw [cell_of_row w1 _ _ _ _ _ q0]; rfl
  have x3 : w1.cell? ⟨w.heap.size, 3, none⟩ = some (.bool false) := by rw [cell_of_row w1 _ _ _ _ _ q0]; rfl
  have u0 : w1.cell? ⟨w.heap.size + 1, 0, none⟩ = some (.int .i64 0) := by rw [cell_of_row w1 _ _ _ _ _ q1]; rfl
  have u1 : w1.cell? ⟨w.heap.size + 1, 1, none⟩ = some (.string ⟨#[]⟩) := by rw [cell_of_row w1 _ _ _ _ _ q1]; rfl
  have u2 : w1.cell? ⟨w.heap.size + 1, 2, none⟩ = some (.string ⟨#[]⟩) := by rw [cell_of_row w1 _ _ _ _ _ q1]; rfl
  have u3 : w1.cell? ⟨w.heap.size + 1, 3, none⟩ = some (.bool false) := by rw [cell_of_row w1 _ _ _ _ _ q1]; rfl
  have f0 := row_frozen q0 0
  have f1 := row_frozen q0 1
  have f2 := row_frozen q0 2
  have f3 := row_frozen q0 3
  have g0 := row_frozen q1 0
  have g1 := row_frozen q1 1
  have g2 := row_frozen q1 2
  have g3 := row_frozen q1 3
  have Q0 := Lib.hid q0; have Q1 := Lib.hid q1
  clear q0 q1 hb1 P0 P1 P2 CV
  go_wp2_with (first | (go_at_call 66; refine (spec_l1In_any _ _ _ _).mono ?_; rintro e w2 ⟨rfl, rfl⟩))
  refine (CG.out _).mono ?_
  rintro e w3 ⟨rfl, hb3⟩
  have B3 := Lib.hid hb3
  have q3 := (B3.out.block _ (bld_ltS Q1.out)).trans Q1.out
  have v0 : w3.cell? ⟨w.heap.size + 1, 0, none⟩ = some (.int .i64 0) := by rw [cell_of_row w3 _ _ _ _ _ q3]; rfl
  have v1 : w3.cell? ⟨w.heap.size + 1, 1, none⟩ = some (.string ⟨#[]⟩) := by rw [cell_of_row w3 _ _ _ _ _ q3]; rfl
  have v2 : w3.cell? ⟨w.heap.size + 1, 2, none⟩ = some (.string ⟨#[]⟩) := by rw [cell_of_row w3 _ _ _ _ _ q3]; rfl
  have v3 : w3.cell? ⟨w.heap.size + 1, 3, none⟩ = some (.bool false) := by rw [cell_of_row w3 _ _ _ _ _ q3]; rfl
  have k0 := row_frozen q3 0
  have k1 := row_frozen q3 1
  have k2 := row_frozen q3 2
  have k3 := row_frozen q3 3
  have Q3 := Lib.hid q3
  have BV := Lib.hid (BW.out.trans (B3.out.mono BW.out.size))
  clear q3 hb3
  go_wp2
  obtain ⟨⟨r0, r1, r2, r3⟩, RB⟩ := st_set Q3.out (.int .i64 (M2 : Int)) (.string (mkS T2)) (.string (mkS A2)) (.bool E2)
  exact bodyPost_ret (v := .agg #[.int .i64 (M2 : Int), .string (mkS T2), .string (mkS A2), .bool E2]) (by simp [results, Try.results63, go_sem, r0, r1, r2, r3]) rfl ⟨by rw [hlt]; rfl, RB _ _ (by omega) BV.out⟩
set_option maxRecDepth 100000 in
set_option maxHeartbeats 3200000 in
theorem rp_13  (b : UInt8)  (w : World) :
    Calls Try.prog 63 #[stV ⟨13, [], [], false⟩, .int .u8 (b.toNat : Int)] w fun e w' => e = .returned (stV (stepM ⟨13, [], [], false⟩ b)) ∧ Below w.heap.size w w' := by
  have CG := Lib.hid (fun W => spec_l5Script 13 b W (by omega) (by omega))
  obtain ⟨M2, T2, A2, E2, hlt⟩ : ∃ M2 T2 A2 E2, stepM ⟨13, [], [], false⟩ b = ⟨M2, T2, A2, E2⟩ := ⟨_, _, _, _, rfl⟩
  rw [hlt] at CG
  simp only [st_agg] at CG
  have CV := Lib.hid (fun W => spec_StateValid ⟨13, [], [], false⟩ W (val_plain (by omega)))
  obtain ⟨⟨p0, p1, p2⟩, bx⟩ := three_new w (.cells #[.int .i64 13, .string (mkS []), .string (mkS []), .bool false] 57 (0, 0)) (.cells #[.int .i64 0, .string ⟨#[]⟩, .string ⟨#[]⟩, .bool false] 57 (0, 0)) (.cells #[.int .i64 15, .string ⟨#[]⟩, .string ⟨#[]⟩, .bool false] 57 (0, 0))
  rw [st_agg] at CV ⊢
  have P0 := Lib.hid p0; have P1 := Lib.hid p1; have P2 := Lib.hid p2; have BX := Lib.hid bx
  clear p0 p1 p2 bx 
  go_enter Try.func63, Try.ntmps63
  go_wp2_with fail
  refine (CV.out _).mono ?_
  rintro e w1 ⟨rfl, hb1⟩
  have q0 := (hb1.block _ (bld_ltS P0.out)).trans P0.out
  have q1 := (hb1.block _ (bld_ltS P1.out)).trans P1.out
  have BW := Lib.hid (BX.out.trans (hb1.mono BX.out.size))
  have x0 : w1.cell? ⟨w.heap.size, 0, none⟩ = some (.int .i64 13) := by rw [cell_of_row w1 _ _ _ _ _ q0]; rfl
  have x1 : w1.cell? ⟨w.heap.size, 1, none⟩ = some (.string (mkS [])) := by rw [cell_of_row w1 _ _ _ _ _ q0]; rfl
  have x2 : w1.cell? ⟨w.heap.size, 2, none⟩ = some (.string (mkS [])) := by rw [cell_of_row w1 _ _ _ _ _ q0]; rfl
  have x3 : w1.cell? ⟨w.heap.size, 3, none⟩ = some (.bool false) := by rw [cell_of_row w1 _ _ _ _ _ q0]; rfl
  have u0 : w1.cell? ⟨w.heap.size + 1, 0, none⟩ = some (.int .i64 0) := by rw [cell_of_row w1 _ _ _ _ _ q1]; rfl
  have u1 : w1.cell? ⟨w.heap.size + 1, 1, none⟩ = some (.string ⟨#[]⟩) := by rw [cell_of_row w1 _ _ _ _ _ q1]; rfl
  have u2 : w1.cell? ⟨w.heap.size + 1, 2, none⟩ = some (.string ⟨#[]⟩) := by rw [cell_of_row w1 _ _ _ _ _ q1]; rfl
  have u3 : w1.cell? ⟨w.heap.size + 1, 3, none⟩ = some (.bool false) := by rw [cell_of_row w1 _ _ _ _ _ q1]; rfl
  have f0 := row_frozen q0 0
  have f1 := row_frozen q0 1
  have f2 := row_frozen q0 2
  have f3 := row_frozen q0 3
  have g0 := row_frozen q1 0
  have g1 := row_frozen q1 1
  have g2 := row_frozen q1 2
  have g3 := row_frozen q1 3
  have Q0 := Lib.hid q0; have Q1 := Lib.hid q1
  clear q0 q1 hb1 P0 P1 P2 CV
  go_wp2_with (first | (go_at_call 66; refine (spec_l1In_any _ _ _ _).mono ?_; rintro e w2 ⟨rfl, rfl⟩))
  refine (CG.out _).mono ?_
  rintro e w3 ⟨rfl, hb3⟩
  have B3 := Lib.hid hb3
  have q3 := (B3.out.block _ (bld_ltS Q1.out)).trans Q1.out
  have v0 : w3.cell? ⟨w.heap.size + 1, 0, none⟩ = some (.int .i64 0) := by rw [cell_of_row w3 _ _ _ _ _ q3]; rfl
  have v1 : w3.cell? ⟨w.heap.size + 1, 1, none⟩ = some (.string ⟨#[]⟩) := by rw [cell_of_row w3 _ _ _ _ _ q3]; rfl
  have v2 : w3.cell? ⟨w.heap.size + 1, 2, none⟩ = some (.string ⟨#[]⟩) := by rw [cell_of_row w3 _ _ _ _ _ q3]; rfl
  have v3 : w3.cell? ⟨w.heap.size + 1, 3, none⟩ = some (.bool false) := by rw [cell_of_row w3 _ _ _ _ _ q3]; rfl
  have k0 := row_frozen q3 0
  have k1 := row_frozen q3 1
  have k2 := row_frozen q3 2
  have k3 := row_frozen q3 3
  have Q3 := Lib.hid q3
  have BV := Lib.hid (BW.out.trans (B3.out.mono BW.out.size))
  clear q3 hb3
  go_wp2
  obtain ⟨⟨r0, r1, r2, r3⟩, RB⟩ := st_set Q3.out (.int .i64 (M2 : Int)) (.string (mkS T2)) (.string (mkS A2)) (.bool E2)
  exact bodyPost_ret (v := .agg #[.int .i64 (M2 : Int), .string (mkS T2), .string (mkS A2), .bool E2]) (by simp [results, Try.results63, go_sem, r0, r1, r2, r3]) rfl ⟨by rw [hlt]; rfl, RB _ _ (by omega) BV.out⟩
set_option maxRecDepth 100000 in
set_option maxHeartbeats 3200000 in
theorem rp_14  (b : UInt8)  (w : World) :
    Calls Try.prog 63 #[stV ⟨14, [], [], false⟩, .int .u8 (b.toNat : Int)] w fun e w' => e = .returned (stV (stepM ⟨14, [], [], false⟩ b)) ∧ Below w.heap.size w w' := by
  have CG := Lib.hid (fun W => spec_l5Script 14 b W (by omega) (by omega))
  obtain ⟨M2, T2, A2, E2, hlt⟩ : ∃ M2 T2 A2 E2, stepM ⟨14, [], [], false⟩ b = ⟨M2, T2, A2, E2⟩ := ⟨_, _, _, _, rfl⟩
  rw [hlt] at CG
  simp only [st_agg] at CG
  have CV := Lib.hid (fun W => spec_StateValid ⟨14, [], [], false⟩ W (val_plain (by omega)))
  obtain ⟨⟨p0, p1, p2⟩, bx⟩ := three_new w (.cells #[.int .i64 14, .string (mkS []), .string (mkS []), .bool false] 57 (0, 0)) (.cells #[.int .i64 0, .string ⟨#[]⟩, .string ⟨#[]⟩, .bool false] 57 (0, 0)) (.cells #[.int .i64 15, .string ⟨#[]⟩, .string ⟨#[]⟩, .bool false] 57 (0, 0))
  rw [st_agg] at CV ⊢
  have P0 := Lib.hid p0; have P1 := Lib.hid p1; have P2 := Lib.hid p2; have BX := Lib.hid bx
  clear p0 p1 p2 bx 
  go_enter Try.func63, Try.ntmps63
  go_wp2_with fail
  refine (CV.out _).mono ?_
  rintro e w1 ⟨rfl, hb1⟩
  have q0 := (hb1.block _ (bld_ltS P0.out)).trans P0.out
  have q1 := (hb1.block _ (bld_ltS P1.out)).trans P1.out
  have BW := Lib.hid (BX.out.trans (hb1.mono BX.out.size))
  have x0 : w1.cell? ⟨w.heap.size, 0, none⟩ = some (.int .i64 14) := by rw [cell_of_row w1 _ _ _ _ _ q0]; rfl
  have x1 : w1.cell? ⟨w.heap.size, 1, none⟩ = some (.string (mkS [])) := by rw [cell_of_row w1 _ _ _ _ _ q0]; rfl
  have x2 : w1.cell? ⟨w.heap.size, 2, none⟩ = some (.string (mkS [])) := by rw [cell_of_row w1 _ _ _ _ _ q0]; rfl
  have x3 : w1.cell? ⟨w.heap.size, 3, none⟩ = some (.bool false) := by rw [cell_of_row w1 _ _ _ _ _ q0]; rfl
  have u0 : w1.cell? ⟨w.heap.size + 1, 0, none⟩ = some (.int .i64 0) := by rw [cell_of_row w1 _ _ _ _ _ q1]; rfl
  have u1 : w1.cell? ⟨w.heap.size + 1, 1, none⟩ = some (.string ⟨#[]⟩) := by rw [cell_of_row w1 _ _ _ _ _ q1]; rfl
  have u2 : w1.cell? ⟨w.heap.size + 1, 2, none⟩ = some (.string ⟨#[]⟩) := by rw [cell_of_row w1 _ _ _ _ _ q1]; rfl
  have u3 : w1.cell? ⟨w.heap.size + 1, 3, none⟩ = some (.bool false) := by rw [cell_of_row w1 _ _ _ _ _ q1]; rfl
  have f0 := row_frozen q0 0
  have f1 := row_frozen q0 1
  have f2 := row_frozen q0 2
  have f3 := row_frozen q0 3
  have g0 := row_frozen q1 0
  have g1 := row_frozen q1 1
  have g2 := row_frozen q1 2
  have g3 := row_frozen q1 3
  have Q0 := Lib.hid q0; have Q1 := Lib.hid q1
  clear q0 q1 hb1 P0 P1 P2 CV
  go_wp2_with (first | (go_at_call 66; refine (spec_l1In_any _ _ _ _).mono ?_; rintro e w2 ⟨rfl, rfl⟩))
  refine (CG.out _).mono ?_
  rintro e w3 ⟨rfl, hb3⟩
  have B3 := Lib.hid hb3
  have q3 := (B3.out.block _ (bld_ltS Q1.out)).trans Q1.out
  have v0 : w3.cell? ⟨w.heap.size + 1, 0, none⟩ = some (.int .i64 0) := by rw [cell_of_row w3 _ _ _ _ _ q3]; rfl
  have v1 : w3.cell? ⟨w.heap.size + 1, 1, none⟩ = some (.string ⟨#[]⟩) := by rw [cell_of_row w3 _ _ _ _ _ q3]; rfl
  have v2 : w3.cell? ⟨w.heap.size + 1, 2, none⟩ = some (.string ⟨#[]⟩) := by rw [cell_of_row w3 _ _ _ _ _ q3]; rfl
  have v3 : w3.cell? ⟨w.heap.size + 1, 3, none⟩ = some (.bool false) := by rw [cell_of_row w3 _ _ _ _ _ q3]; rfl
  have k0 := row_frozen q3 0
  have k1 := row_frozen q3 1
  have k2 := row_frozen q3 2
  have k3 := row_frozen q3 3
  have Q3 := Lib.hid q3
  have BV := Lib.hid (BW.out.trans (B3.out.mono BW.out.size))
  clear q3 hb3
  go_wp2
  obtain ⟨⟨r0, r1, r2, r3⟩, RB⟩ := st_set Q3.out (.int .i64 (M2 : Int)) (.string (mkS T2)) (.string (mkS A2)) (.bool E2)
  exact bodyPost_ret (v := .agg #[.int .i64 (M2 : Int), .string (mkS T2), .string (mkS A2), .bool E2]) (by simp [results, Try.results63, go_sem, r0, r1, r2, r3]) rfl ⟨by rw [hlt]; rfl, RB _ _ (by omega) BV.out⟩
set_option maxRecDepth 100000 in
set_option maxHeartbeats 3200000 in
theorem rp_2 (T : List UInt8) (b : UInt8) (hT : nameB T = true) (w : World) :
    Calls Try.prog 63 #[stV ⟨2, T, [], false⟩, .int .u8 (b.toNat : Int)] w fun e w' => e = .returned (stV (stepM ⟨2, T, [], false⟩ b)) ∧ Below w.heap.size w w' := by
  have CG := Lib.hid (fun W => spec_l5Tag ⟨2, T, [], false⟩ b W (val_tag (.inl rfl) hT) (by simp))
  obtain ⟨M2, T2, A2, E2, hlt⟩ : ∃ M2 T2 A2 E2, stepM ⟨2, T, [], false⟩ b = ⟨M2, T2, A2, E2⟩ := ⟨_, _, _, _, rfl⟩
  rw [hlt] at CG
  simp only [st_agg] at CG
  have CV := Lib.hid (fun W => spec_StateValid ⟨2, T, [], false⟩ W (val_tag (.inl rfl) hT))
  obtain ⟨⟨p0, p1, p2⟩, bx⟩ := three_new w (.cells #[.int .i64 2, .string (mkS T), .string (mkS []), .bool false] 57 (0, 0)) (.cells #[.int .i64 0, .string ⟨#[]⟩, .string ⟨#[]⟩, .bool false] 57 (0, 0)) (.cells #[.int .i64 15, .string ⟨#[]⟩, .string ⟨#[]⟩, .bool false] 57 (0, 0))
  rw [st_agg] at CV ⊢
  have P0 := Lib.hid p0; have P1 := Lib.hid p1; have P2 := Lib.hid p2; have BX := Lib.hid bx
  clear p0 p1 p2 bx hT
  go_enter Try.func63, Try.ntmps63
  go_wp2_with fail
  refine (CV.out _).mono ?_
  rintro e w1 ⟨rfl, hb1⟩
  have q0 := (hb1.block _ (bld_ltS P0.out)).trans P0.out
  have q1 := (hb1.block _ (bld_ltS P1.out)).trans P1.out
  have BW := Lib.hid (BX.out.trans (hb1.mono BX.out.size))
  have x0 : w1.cell? ⟨w.heap.size, 0, none⟩ = some (.int .i64 2) := by rw [cell_of_row w1 _ _ _ _ _ q0]; rfl
  have x1 : w1.cell? ⟨w.heap.size, 1, none⟩ = some (.string (mkS T)) := by rw [cell_of_row w1 _ _ _ _ _ q0]; rfl
  have x2 : w1.cell? ⟨w.heap.size, 2, none⟩ = some (.string (mkS [])) := by rw [cell_of_row w1 _ _ _ _ _ q0]; rfl
  have x3 : w1.cell? ⟨w.heap.size, 3, none⟩ = some (.bool false) := by rw [cell_of_row w1 _ _ _ _ _ q0]; rfl
  have u0 : w1.cell? ⟨w.heap.size + 1, 0, none⟩ = some (.int .i64 0) := by rw [cell_of_row w1 _ _ _ _ _ q1]; rfl
  have u1 : w1.cell? ⟨w.heap.size + 1, 1, none⟩ = some (.string ⟨#[]⟩) := by rw [cell_of_row w1 _ _ _ _ _ q1]; rfl
  have u2 : w1.cell? ⟨w.heap.size + 1, 2, none⟩ = some (.string ⟨#[]⟩) := by rw [cell_of_row w1 _ _ _ _ _ q1]; rfl
  have u3 : w1.cell? ⟨w.heap.size + 1, 3, none⟩ = some (.bool false) := by rw [cell_of_row w1 _ _ _ _ _ q1]; rfl
  have f0 := row_frozen q0 0
  have f1 := row_frozen q0 1
  have f2 := row_frozen q0 2
  have f3 := row_frozen q0 3
  have g0 := row_frozen q1 0
  have g1 := row_frozen q1 1
  have g2 := row_frozen q1 2
  have g3 := row_frozen q1 3
  have Q0 := Lib.hid q0; have Q1 := Lib.hid q1
  clear q0 q1 hb1 P0 P1 P2 CV
  go_wp2_with (first | (go_at_call 66; refine (spec_l1In_any _ _ _ _).mono ?_; rintro e w2 ⟨rfl, rfl⟩))
  refine (CG.out _).mono ?_
  rintro e w3 ⟨rfl, hb3⟩
  have B3 := Lib.hid hb3
  have q3 := (B3.out.block _ (bld_ltS Q1.out)).trans Q1.out
  have v0 : w3.cell? ⟨w.heap.size + 1, 0, none⟩ = some (.int .i64 0) := by rw [cell_of_row w3 _ _ _ _ _ q3]; rfl
  have v1 : w3.cell? ⟨w.heap.size + 1, 1, none⟩ = some (.string ⟨#[]⟩) := by rw [cell_of_row w3 _ _ _ _ _ q3]; rfl
  have v2 : w3.cell? ⟨w.heap.size + 1, 2, none⟩ = some (.string ⟨#[]⟩) := by rw [cell_of_row w3 _ _ _ _ _ q3]; rfl
  have v3 : w3.cell? ⟨w.heap.size + 1, 3, none⟩ = some (.bool false) := by rw [cell_of_row w3 _ _ _ _ _ q3]; rfl
  have k0 := row_frozen q3 0
  have k1 := row_frozen q3 1
  have k2 := row_frozen q3 2
  have k3 := row_frozen q3 3
  have Q3 := Lib.hid q3
  have BV := Lib.hid (BW.out.trans (B3.out.mono BW.out.size))
  clear q3 hb3
  go_wp2
  obtain ⟨⟨r0, r1, r2, r3⟩, RB⟩ := st_set Q3.out (.int .i64 (M2 : Int)) (.string (mkS T2)) (.string (mkS A2)) (.bool E2)
  exact bodyPost_ret (v := .agg #[.int .i64 (M2 : Int), .string (mkS T2), .string (mkS A2), .bool E2]) (by simp [results, Try.results63, go_sem, r0, r1, r2, r3]) rfl ⟨by rw [hlt]; rfl, RB _ _ (by omega) BV.out⟩
set_option maxRecDepth 100000 in
set_option maxHeartbeats 3200000 in
theorem rp_3 (T : List UInt8) (b : UInt8) (hT : nameB T = true) (w : World) :
    Calls Try.prog 63 #[stV ⟨3, T, [], false⟩, .int .u8 (b.toNat : Int)] w fun e w' => e = .returned (stV (stepM ⟨3, T, [], false⟩ b)) ∧ Below w.heap.size w w' := by
  have CG := Lib.hid (fun W => spec_l5Tag ⟨3, T, [], false⟩ b W (val_tag (.inr rfl) hT) (by simp))
  obtain ⟨M2, T2, A2, E2, hlt⟩ : ∃ M2 T2 A2 E2, stepM ⟨3, T, [], false⟩ b = ⟨M2, T2, A2, E2⟩ := ⟨_, _, _, _, rfl⟩
  rw [hlt] at CG
  simp only [st_agg] at CG
  have CV := Lib.hid (fun W => spec_StateValid ⟨3, T, [], false⟩ W (val_tag (.inr rfl) hT))
  obtain ⟨⟨p0, p1, p2⟩, bx⟩ := three_new w (.cells #[.int .i64 3, .string (mkS T), .string (mkS []), .bool false] 57 (0, 0)) (.cells #[.int .i64 0, .string ⟨#[]⟩, .string ⟨#[]⟩, .bool false] 57 (0, 0)) (.cells #[.int .i64 15, .string ⟨#[]⟩, .string ⟨#[]⟩, .bool false] 57 (0, 0))
  rw [st_agg] at CV ⊢
  have P0 := Lib.hid p0; have P1 := Lib.hid p1; have P2 := Lib.hid p2; have BX := Lib.hid bx
  clear p0 p1 p2 bx hT
  go_enter Try.func63, Try.ntmps63
  go_wp2_with fail
  refine (CV.out _).mono ?_
  rintro e w1 ⟨rfl, hb1⟩
  have q0 := (hb1.block _ (bld_ltS P0.out)).trans P0.out
  have q1 := (hb1.block _ (bld_ltS P1.out)).trans P1.out
  have BW := Lib.hid (BX.out.trans (hb1.mono BX.out.size))
  have x0 : w1.cell? ⟨w.heap.size, 0, none⟩ = some (.int .i64 3) := by rw [cell_of_row w1 _ _ _ _ _ q0]; rfl
  have x1 : w1.cell? ⟨w.heap.size, 1, none⟩ = some (.string (mkS T)) := by rw [cell_of_row w1 _ _ _ _ _ q0]; rfl
  have x2 : w1.cell? ⟨w.heap.size, 2, none⟩ = some (.string (mkS [])) := by rw [cell_of_row w1 _ _ _ _ _ q0]; rfl
  have x3 : w1.cell? ⟨w.heap.size, 3, none⟩ = some (.bool false) := by rw [cell_of_row w1 _ _ _ _ _ q0]; rfl
  have u0 : w1.cell? ⟨w.heap.size + 1, 0, none⟩ = some (.int .i64 0) := by rw [cell_of_row w1 _ _ _ _ _ q1]; rfl
  have u1 : w1.cell? ⟨w.heap.size + 1, 1, none⟩ = some (.string ⟨#[]⟩) := by rw [cell_of_row w1 _ _ _ _ _ q1]; rfl
  have u2 : w1.cell? ⟨w.heap.size + 1, 2, none⟩ = some (.string ⟨#[]⟩) := by rw [cell_of_row w1 _ _ _ _ _ q1]; rfl
  have u3 : w1.cell? ⟨w.heap.size + 1, 3, none⟩ = some (.bool false) := by rw [cell_of_row w1 _ _ _ _ _ q1]; rfl
  have f0 := row_frozen q0 0
  have f1 := row_frozen q0 1
  have f2 := row_frozen q0 2
  have f3 := row_frozen q0 3
  have g0 := row_frozen q1 0
  have g1 := row_frozen q1 1
  have g2 := row_frozen q1 2
  have g3 := row_frozen q1 3
  have Q0 := Lib.hid q0; have Q1 := Lib.hid q1
  clear q0 q1 hb1 P0 P1 P2 CV
  go_wp2_with (first | (go_at_call 66; refine (spec_l1In_any _ _ _ _).mono ?_; rintro e w2 ⟨rfl, rfl⟩))
  refine (CG.out _).mono ?_
  rintro e w3 ⟨rfl, hb3⟩
  have B3 := Lib.hid hb3
  have q3 := (B3.out.block _ (bld_ltS Q1.out)).trans Q1.out
  have v0 : w3.cell? ⟨w.heap.size + 1, 0, none⟩ = some (.int .i64 0) := by rw [cell_of_row w3 _ _ _ _ _ q3]; rfl
  have v1 : w3.cell? ⟨w.heap.size + 1, 1, none⟩ = some (.string ⟨#[]⟩) := by rw [cell_of_row w3 _ _ _ _ _ q3]; rfl
  have v2 : w3.cell? ⟨w.heap.size + 1, 2, none⟩ = some (.string ⟨#[]⟩) := by rw [cell_of_row w3 _ _ _ _ _ q3]; rfl
  have v3 : w3.cell? ⟨w.heap.size + 1, 3, none⟩ = some (.bool false) := by rw [cell_of_row w3 _ _ _ _ _ q3]; rfl
  have k0 := row_frozen q3 0
  have k1 := row_frozen q3 1
  have k2 := row_frozen q3 2
  have k3 := row_frozen q3 3
  have Q3 := Lib.hid q3
  have BV := Lib.hid (BW.out.trans (B3.out.mono BW.out.size))
  clear q3 hb3
  go_wp2
  obtain ⟨⟨r0, r1, r2, r3⟩, RB⟩ := st_set Q3.out (.int .i64 (M2 : Int)) (.string (mkS T2)) (.string (mkS A2)) (.bool E2)
  exact bodyPost_ret (v := .agg #[.int .i64 (M2 : Int), .string (mkS T2), .string (mkS A2), .bool E2]) (by simp [results, Try.results63, go_sem, r0, r1, r2, r3]) rfl ⟨by rw [hlt]; rfl, RB _ _ (by omega) BV.out⟩
set_option maxRecDepth 100000 in
set_option maxHeartbeats 3200000 in
theorem rp_4 (T A : List UInt8) (b : UInt8) (hT : nameB T = true) (hA : nameB A = true) (w : World) :
    Calls Try.prog 63 #[stV ⟨4, T, A, false⟩, .int .u8 (b.toNat : Int)] w fun e w' => e = .returned (stV (stepM ⟨4, T, A, false⟩ b)) ∧ Below w.heap.size w w' := by
  have CG := Lib.hid (fun W => spec_l5Tag ⟨4, T, A, false⟩ b W (val_attr (.inl ⟨.inl rfl, rfl⟩) hT hA) (by simp))
  obtain ⟨M2, T2, A2, E2, hlt⟩ : ∃ M2 T2 A2 E2, stepM ⟨4, T, A, false⟩ b = ⟨M2, T2, A2, E2⟩ := ⟨_, _, _, _, rfl⟩
  rw [hlt] at CG
  simp only [st_agg] at CG
  have CV := Lib.hid (fun W => spec_StateValid ⟨4, T, A, false⟩ W (val_attr (.inl ⟨.inl rfl, rfl⟩) hT hA))
  obtain ⟨⟨p0, p1, p2⟩, bx⟩ := three_new w (.cells #[.int .i64 4, .string (mkS T), .string (mkS A), .bool false] 57 (0, 0)) (.cells #[.int .i64 0, .string ⟨#[]⟩, .string ⟨#[]⟩, .bool false] 57 (0, 0)) (.cells #[.int .i64 15, .string ⟨#[]⟩, .string ⟨#[]⟩, .bool false] 57 (0, 0))
  rw [st_agg] at CV ⊢
  have P0 := Lib.hid p0; have P1 := Lib.hid p1; have P2 := Lib.hid p2; have BX := Lib.hid bx
  clear p0 p1 p2 bx hT hA
  go_enter Try.func63, Try.ntmps63
  go_wp2_with fail
  refine (CV.out _).mono ?_
  rintro e w1 ⟨rfl, hb1⟩
  have q0 := (hb1.block _ (bld_ltS P0.out)).trans P0.out
  have q1 := (hb1.block _ (bld_ltS P1.out)).trans P1.out
  have BW := Lib.hid (BX.out.trans (hb1.mono BX.out.size))
  have x0 : w1.cell? ⟨w.heap.size, 0, none⟩ = some (.int .i64 4) := by rw [cell_of_row w1 _ _ _ _ _ q0]; rfl
  have x1 : w1.cell? ⟨w.heap.size, 1, none⟩ = some (.string (mkS T)) := by rw [cell_of_row w1 _ _ _ _ _ q0]; rfl
  have x2 : w1.cell? ⟨w.heap.size, 2, none⟩ = some (.string (mkS A)) := by rw [cell_of_row w1 _ _ _ _ _ q0]; rfl
  have x3 : w1.cell? ⟨w.heap.size, 3, none⟩ = some (.bool false) := by rw [cell_of_row w1 _ _ _ _ _ q0]; rfl
  have u0 : w1.cell? ⟨w.heap.size + 1, 0, none⟩ = some (.int .i64 0) := by rw [cell_of_row w1 _ _ _ _ _ q1]; rfl
  have u1 : w1.cell? ⟨w.heap.size + 1, 1, none⟩ = some (.string ⟨#[]⟩) := by rw [cell_of_row w1 _ _ _ _ _ q1]; rfl
  have u2 : w1.cell? ⟨w.heap.size + 1, 2, none⟩ = some (.string ⟨#[]⟩) := by rw [cell_of_row w1 _ _ _ _ _ q1]; rfl
  have u3 : w1.cell? ⟨w.heap.size + 1, 3, none⟩ = some (.bool false) := by rw [cell_of_row w1 _ _ _ _ _ q1]; rfl
  have f0 := row_frozen q0 0
  have f1 := row_frozen q0 1
  have f2 := row_frozen q0 2
  have f3 := row_frozen q0 3
  have g0 := row_frozen q1 0
  have g1 := row_frozen q1 1
  have g2 := row_frozen q1 2
  have g3 := row_frozen q1 3
  have Q0 := Lib.hid q0; have Q1 := Lib.hid q1
  clear q0 q1 hb1 P0 P1 P2 CV
  go_wp2_with (first | (go_at_call 66; refine (spec_l1In_any _ _ _ _).mono ?_; rintro e w2 ⟨rfl, rfl⟩))
  refine (CG.out _).mono ?_
  rintro e w3 ⟨rfl, hb3⟩
  have B3 := Lib.hid hb3
  have q3 := (B3.out.block _ (bld_ltS Q1.out)).trans Q1.out
  have v0 : w3.cell? ⟨w.heap.size + 1, 0, none⟩ = some (.int .i64 0) := by rw [cell_of_row w3 _ _ _ _ _ q3]; rfl
  have v1 : w3.cell? ⟨w.heap.size + 1, 1, none⟩ = some (.string ⟨#[]⟩) := by rw [cell_of_row w3 _ _ _ _ _ q3]; rfl
  have v2 : w3.cell? ⟨w.heap.size + 1, 2, none⟩ = some (.string ⟨#[]⟩) := by rw [cell_of_row w3 _ _ _ _ _ q3]; rfl
  have v3 : w3.cell? ⟨w.heap.size + 1, 3, none⟩ = some (.bool false) := by rw [cell_of_row w3 _ _ _ _ _ q3]; rfl
  have k0 := row_frozen q3 0
  have k1 := row_frozen q3 1
  have k2 := row_frozen q3 2
  have k3 := row_frozen q3 3
  have Q3 := Lib.hid q3
  have BV := Lib.hid (BW.out.trans (B3.out.mono BW.out.size))
  clear q3 hb3
  go_wp2
  obtain ⟨⟨r0, r1, r2, r3⟩, RB⟩ := st_set Q3.out (.int .i64 (M2 : Int)) (.string (mkS T2)) (.string (mkS A2)) (.bool E2)
  exact bodyPost_ret (v := .agg #[.int .i64 (M2 : Int), .string (mkS T2), .string (mkS A2), .bool E2]) (by simp [results, Try.results63, go_sem, r0, r1, r2, r3]) rfl ⟨by rw [hlt]; rfl, RB _ _ (by omega) BV.out⟩
set_option maxRecDepth 100000 in
set_option maxHeartbeats 3200000 in
theorem rp_5 (T A : List UInt8) (b : UInt8) (hT : nameB T = true) (hA : nameB A = true) (w : World) :
    Calls Try.prog 63 #[stV ⟨5, T, A, false⟩, .int .u8 (b.toNat : Int)] w fun e w' => e = .returned (stV (stepM ⟨5, T, A, false⟩ b)) ∧ Below w.heap.size w w' := by
  have CG := Lib.hid (fun W => spec_l5Tag ⟨5, T, A, false⟩ b W (val_attr (.inl ⟨.inr rfl, rfl⟩) hT hA) (by simp))
  obtain ⟨M2, T2, A2, E2, hlt⟩ : ∃ M2 T2 A2 E2, stepM ⟨5, T, A, false⟩ b = ⟨M2, T2, A2, E2⟩ := ⟨_, _, _, _, rfl⟩
  rw [hlt] at CG
  simp only [st_agg] at CG
  have CV := Lib.hid (fun W => spec_StateValid ⟨5, T, A, false⟩ W (val_attr (.inl ⟨.inr rfl, rfl⟩) hT hA))
  obtain ⟨⟨p0, p1, p2⟩, bx⟩ := three_new w (.cells #[.int .i64 5, .string (mkS T), .string (mkS A), .bool false] 57 (0, 0)) (.cells #[.int .i64 0, .string ⟨#[]⟩, .string ⟨#[]⟩, .bool false] 57 (0, 0)) (.cells #[.int .i64 15, .string ⟨#[]⟩, .string ⟨#[]⟩, .bool false] 57 (0, 0))
  rw [st_agg] at CV ⊢
  have P0 := Lib.hid p0; have P1 := Lib.hid p1; have P2 := Lib.hid p2; have BX := Lib.hid bx
  clear p0 p1 p2 bx hT hA
  go_enter Try.func63, Try.ntmps63
  go_wp2_with fail
  refine (CV.out _).mono ?_
  rintro e w1 ⟨rfl, hb1⟩
  have q0 := (hb1.block _ (bld_ltS P0.out)).trans P0.out
  have q1 := (hb1.block _ (bld_ltS P1.out)).trans P1.out
  have BW := Lib.hid (BX.out.trans (hb1.mono BX.out.size))
  have x0 : w1.cell? ⟨w.heap.size, 0, none⟩ = some (.int .i64 5) := by rw [cell_of_row w1 _ _ _ _ _ q0]; rfl
  have x1 : w1.cell? ⟨w.heap.size, 1, none⟩ = some (.string (mkS T)) := by rw [cell_of_row w1 _ _ _ _ _ q0]; rfl
  have x2 : w1.cell? ⟨w.heap.size, 2, none⟩ = some (.string (mkS A)) := by rw [cell_of_row w1 _ _ _ _ _ q0]; rfl
  have x3 : w1.cell? ⟨w.heap.size, 3, none⟩ = some (.bool false) := by rw [cell_of_row w1 _ _ _ _ _ q0]; rfl
  have u0 : w1.cell? ⟨w.heap.size + 1, 0, none⟩ = some (.int .i64 0) := by rw [cell_of_row w1 _ _ _ _ _ q1]; rfl
  have u1 : w1.cell? ⟨w.heap.size + 1, 1, none⟩ = some (.string ⟨#[]⟩) := by rw [cell_of_row w1 _ _ _ _ _ q1]; rfl
  have u2 : w1.cell? ⟨w.heap.size + 1, 2, none⟩ = some (.string ⟨#[]⟩) := by rw [cell_of_row w1 _ _ _ _ _ q1]; rfl
  have u3 : w1.cell? ⟨w.heap.size + 1, 3, none⟩ = some (.bool false) := by rw [cell_of_row w1 _ _ _ _ _ q1]; rfl
  have f0 := row_frozen q0 0
  have f1 := row_frozen q0 1
  have f2 := row_frozen q0 2
  have f3 := row_frozen q0 3
  have g0 := row_frozen q1 0
  have g1 := row_frozen q1 1
  have g2 := row_frozen q1 2
  have g3 := row_frozen q1 3
  have Q0 := Lib.hid q0; have Q1 := Lib.hid q1
  clear q0 q1 hb1 P0 P1 P2 CV
  go_wp2_with (first | (go_at_call 66; refine (spec_l1In_any _ _ _ _).mono ?_; rintro e w2 ⟨rfl, rfl⟩))
  refine (CG.out _).mono ?_
  rintro e w3 ⟨rfl, hb3⟩
  have B3 := Lib.hid hb3
  have q3 := (B3.out.block _ (bld_ltS Q1.out)).trans Q1.out
  have v0 : w3.cell? ⟨w.heap.size + 1, 0, none⟩ = some (.int .i64 0) := by rw [cell_of_row w3 _ _ _ _ _ q3]; rfl
  have v1 : w3.cell? ⟨w.heap.size + 1, 1, none⟩ = some (.string ⟨#[]⟩) := by rw [cell_of_row w3 _ _ _ _ _ q3]; rfl
  have v2 : w3.cell? ⟨w.heap.size + 1, 2, none⟩ = some (.string ⟨#[]⟩) := by rw [cell_of_row w3 _ _ _ _ _ q3]; rfl
  have v3 : w3.cell? ⟨w.heap.size + 1, 3, none⟩ = some (.bool false) := by rw [cell_of_row w3 _ _ _ _ _ q3]; rfl
  have k0 := row_frozen q3 0
  have k1 := row_frozen q3 1
  have k2 := row_frozen q3 2
  have k3 := row_frozen q3 3
  have Q3 := Lib.hid q3
  have BV := Lib.hid (BW.out.trans (B3.out.mono BW.out.size))
  clear q3 hb3
  go_wp2
  obtain ⟨⟨r0, r1, r2, r3⟩, RB⟩ := st_set Q3.out (.int .i64 (M2 : Int)) (.string (mkS T2)) (.string (mkS A2)) (.bool E2)
  exact bodyPost_ret (v := .agg #[.int .i64 (M2 : Int), .string (mkS T2), .string (mkS A2), .bool E2]) (by simp [results, Try.results63, go_sem, r0, r1, r2, r3]) rfl ⟨by rw [hlt]; rfl, RB _ _ (by omega) BV.out⟩
set_option maxRecDepth 100000 in
set_option maxHeartbeats 3200000 in
theorem rp_8 (T A : List UInt8) (b : UInt8) (hT : nameB T = true) (hA : nameB A = true) (w : World) :
    Calls Try.prog 63 #[stV ⟨8, T, A, true⟩, .int .u8 (b.toNat : Int)] w fun e w' => e = .returned (stV (stepM ⟨8, T, A, true⟩ b)) ∧ Below w.heap.size w w' := by
  have CG := Lib.hid (fun W => spec_l5Tag ⟨8, T, A, true⟩ b W (val_attr (.inr (.inr ⟨rfl, rfl⟩)) hT hA) (by simp))
  obtain ⟨M2, T2, A2, E2, hlt⟩ : ∃ M2 T2 A2 E2, stepM ⟨8, T, A, true⟩ b = ⟨M2, T2, A2, E2⟩ := ⟨_, _, _, _, rfl⟩
  rw [hlt] at CG
  simp only [st_agg] at CG
  have CV := Lib.hid (fun W => spec_StateValid ⟨8, T, A, true⟩ W (val_attr (.inr (.inr ⟨rfl, rfl⟩)) hT hA))
  obtain ⟨⟨p0, p1, p2⟩, bx⟩ := three_new w (.cells #[.int .i64 8, .string (mkS T), .string (mkS A), .bool true] 57 (0, 0)) (.cells #[.int .i64 0, .string ⟨#[]⟩, .string ⟨#[]⟩, .bool false] 57 (0, 0)) (.cells #[.int .i64 15, .string ⟨#[]⟩, .string ⟨#[]⟩, .bool false] 57 (0, 0))
  rw [st_agg] at CV ⊢
  have P0 := Lib.hid p0; have P1 := Lib.hid p1; have P2 := Lib.hid p2; have BX := Lib.hid bx
  clear p0 p1 p2 bx hT hA
  go_enter Try.func63, Try.ntmps63
  go_wp2_with fail
  refine (CV.out _).mono ?_
  rintro e w1 ⟨rfl, hb1⟩
  have q0 := (hb1.block _ (bld_ltS P0.out)).trans P0.out
  have q1 := (hb1.block _ (bld_ltS P1.out)).trans P1.out
  have BW := Lib.hid (BX.out.trans (hb1.mono BX.out.size))
  have x0 : w1.cell? ⟨w.heap.size, 0, none⟩ = some (.int .i64 8) := by rw [cell_of_row w1 _ _ _ _ _ q0]; rfl
  have x1 : w1.cell? ⟨w.heap.size, 1, none⟩ = some (.string (mkS T)) := by rw [cell_of_row w1 _ _ _ _ _ q0]; rfl
  have x2 : w1.cell? ⟨w.heap.size, 2, none⟩ = some (.string (mkS A)) := by rw [cell_of_row w1 _ _ _ _ _ q0]; rfl
  have x3 : w1.cell? ⟨w.heap.size, 3, none⟩ = some (.bool true) := by rw [cell_of_row w1 _ _ _ _ _ q0]; rfl
  have u0 : w1.cell? ⟨w.heap.size + 1, 0, none⟩ = some (.int .i64 0) := by rw [cell_of_row w1 _ _ _ _ _ q1]; rfl
  have u1 : w1.cell? ⟨w.heap.size + 1, 1, none⟩ = some (.string ⟨#[]⟩) := by rw [cell_of_row w1 _ _ _ _ _ q1]; rfl
  have u2 : w1.cell? ⟨w.heap.size + 1, 2, none⟩ = some (.string ⟨#[]⟩) := by rw [cell_of_row w1 _ _ _ _ _ q1]; rfl
  have u3 : w1.cell? ⟨w.heap.size + 1, 3, none⟩ = some (.bool false) := by rw [cell_of_row w1 _ _ _ _ _ q1]; rfl
  have f0 := row_frozen q0 0
  have f1 := row_frozen q0 1
  have f2 := row_frozen q0 2
  have f3 := row_frozen q0 3
  have g0 := row_frozen q1 0
  have g1 := row_frozen q1 1
  have g2 := row_frozen q1 2
  have g3 := row_frozen q1 3
  have Q0 := Lib.hid q0; have Q1 := Lib.hid q1
  clear q0 q1 hb1 P0 P1 P2 CV
  go_wp2_with (first | (go_at_call 66; refine (spec_l1In_any _ _ _ _).mono ?_; rintro e w2 ⟨rfl, rfl⟩))
  refine (CG.out _).mono ?_
  rintro e w3 ⟨rfl, hb3⟩
  have B3 := Lib.hid hb3
  have q3 := (B3.out.block _ (bld_ltS Q1.out)).trans Q1.out
  have v0 : w3.cell? ⟨w.heap.size + 1, 0, none⟩ = some (.int .i64 0) := by rw [cell_of_row w3 _ _ _ _ _ q3]; rfl
  have v1 : w3.cell? ⟨w.heap.size + 1, 1, none⟩ = some (.string ⟨#[]⟩) := by rw [cell_of_row w3 _ _ _ _ _ q3]; rfl
  have v2 : w3.cell? ⟨w.heap.size + 1, 2, none⟩ = some (.string ⟨#[]⟩) := by rw [cell_of_row w3 _ _ _ _ _ q3]; rfl
  have v3 : w3.cell? ⟨w.heap.size + 1, 3, none⟩ = some (.bool false) := by rw [cell_of_row w3 _ _ _ _ _ q3]; rfl
  have k0 := row_frozen q3 0
  have k1 := row_frozen q3 1
  have k2 := row_frozen q3 2
  have k3 := row_frozen q3 3
  have Q3 := Lib.hid q3
  have BV := Lib.hid (BW.out.trans (B3.out.mono BW.out.size))
  clear q3 hb3
  go_wp2
  obtain ⟨⟨r0, r1, r2, r3⟩, RB⟩ := st_set Q3.out (.int .i64 (M2 : Int)) (.string (mkS T2)) (.string (mkS A2)) (.bool E2)
  exact bodyPost_ret (v := .agg #[.int .i64 (M2 : Int), .string (mkS T2), .string (mkS A2), .bool E2]) (by simp [results, Try.results63, go_sem, r0, r1, r2, r3]) rfl ⟨by rw [hlt]; rfl, RB _ _ (by omega) BV.out⟩
set_option maxRecDepth 100000 in
set_option maxHeartbeats 3200000 in
theorem rp_6q (T A : List UInt8) (EE : Bool) (b : UInt8) (hT : nameB T = true) (hA : nameB A = true) (h : b = 34) (w : World) :
    Calls Try.prog 63 #[stV ⟨6, T, A, EE⟩, .int .u8 (b.toNat : Int)] w fun e w' => e = .returned (stV ⟨3, T, [], false⟩) ∧ Below w.heap.size w w' := by
  have hb34 : ((b.toNat : Int) == 34) = true := beqN (n := 34) 34 rfl h
  have CV := Lib.hid (fun W => spec_StateValid ⟨6, T, A, EE⟩ W (val_attr (.inr (.inl (.inl rfl))) hT hA))
  obtain ⟨⟨p0, p1, p2⟩, bx⟩ := three_new w (.cells #[.int .i64 6, .string (mkS T), .string (mkS A), .bool EE] 57 (0, 0)) (.cells #[.int .i64 0, .string ⟨#[]⟩, .string ⟨#[]⟩, .bool false] 57 (0, 0)) (.cells #[.int .i64 15, .string ⟨#[]⟩, .string ⟨#[]⟩, .bool false] 57 (0, 0))
  rw [st_agg] at CV ⊢
  have P0 := Lib.hid p0; have P1 := Lib.hid p1; have P2 := Lib.hid p2; have BX := Lib.hid bx
  clear p0 p1 p2 bx hT hA h
  go_enter Try.func63, Try.ntmps63
  go_wp2_with fail
  refine (CV.out _).mono ?_
  rintro e w1 ⟨rfl, hb1⟩
  have q0 := (hb1.block _ (bld_ltS P0.out)).trans P0.out
  have q1 := (hb1.block _ (bld_ltS P1.out)).trans P1.out
  have BW := Lib.hid (BX.out.trans (hb1.mono BX.out.size))
  have x0 : w1.cell? ⟨w.heap.size, 0, none⟩ = some (.int .i64 6) := by rw [cell_of_row w1 _ _ _ _ _ q0]; rfl
  have x1 : w1.cell? ⟨w.heap.size, 1, none⟩ = some (.string (mkS T)) := by rw [cell_of_row w1 _ _ _ _ _ q0]; rfl
  have x2 : w1.cell? ⟨w.heap.size, 2, none⟩ = some (.string (mkS A)) := by rw [cell_of_row w1 _ _ _ _ _ q0]; rfl
  have x3 : w1.cell? ⟨w.heap.size, 3, none⟩ = some (.bool EE) := by rw [cell_of_row w1 _ _ _ _ _ q0]; rfl
  have u0 : w1.cell? ⟨w.heap.size + 1, 0, none⟩ = some (.int .i64 0) := by rw [cell_of_row w1 _ _ _ _ _ q1]; rfl
  have u1 : w1.cell? ⟨w.heap.size + 1, 1, none⟩ = some (.string ⟨#[]⟩) := by rw [cell_of_row w1 _ _ _ _ _ q1]; rfl
  have u2 : w1.cell? ⟨w.heap.size + 1, 2, none⟩ = some (.string ⟨#[]⟩) := by rw [cell_of_row w1 _ _ _ _ _ q1]; rfl
  have u3 : w1.cell? ⟨w.heap.size + 1, 3, none⟩ = some (.bool false) := by rw [cell_of_row w1 _ _ _ _ _ q1]; rfl
  have f0 := row_frozen q0 0
  have f1 := row_frozen q0 1
  have f2 := row_frozen q0 2
  have f3 := row_frozen q0 3
  have g0 := row_frozen q1 0
  have g1 := row_frozen q1 1
  have g2 := row_frozen q1 2
  have g3 := row_frozen q1 3
  have Q0 := Lib.hid q0; have Q1 := Lib.hid q1
  clear q0 q1 hb1 P0 P1 P2 CV
  go_wp2_with (first | (go_at_call 66; refine (spec_l1In_any _ _ _ _).mono ?_; rintro e w2 ⟨rfl, rfl⟩))
  obtain ⟨⟨r0, r1, r2, r3⟩, RB⟩ := st_set Q1.out (.int .i64 3) (.string (mkS T)) (.string ⟨#[]⟩) (.bool false)
  exact bodyPost_ret (v := .agg #[.int .i64 3, .string (mkS T), .string ⟨#[]⟩, .bool false]) (by simp [results, Try.results63, go_sem, r0, r1, r2, r3]) rfl ⟨by rfl, RB _ _ (by omega) BW.out⟩
set_option maxRecDepth 100000 in
set_option maxHeartbeats 3200000 in
theorem rp_6n (T A : List UInt8) (EE : Bool) (b : UInt8) (hT : nameB T = true) (hA : nameB A = true) (h : b ≠ 34) (w : World) :
    Calls Try.prog 63 #[stV ⟨6, T, A, EE⟩, .int .u8 (b.toNat : Int)] w fun e w' => e = .returned (stV ⟨6, T, A, true⟩) ∧ Below w.heap.size w w' := by
  have hb34 : ((b.toNat : Int) == 34) = false := bneN (n := 34) 34 rfl h
  have CG := Lib.hid (fun W => spec_l5Value ⟨6, T, A, EE⟩ W)
  obtain ⟨M2, T2, A2, E2, hlt⟩ : ∃ M2 T2 A2 E2, (⟨6, T, A, true⟩ : St) = ⟨M2, T2, A2, E2⟩ := ⟨_, _, _, _, rfl⟩
  rw [hlt] at CG
  simp only [st_agg] at CG
  have CV := Lib.hid (fun W => spec_StateValid ⟨6, T, A, EE⟩ W (val_attr (.inr (.inl (.inl rfl))) hT hA))
  obtain ⟨⟨p0, p1, p2⟩, bx⟩ := three_new w (.cells #[.int .i64 6, .string (mkS T), .string (mkS A), .bool EE] 57 (0, 0)) (.cells #[.int .i64 0, .string ⟨#[]⟩, .string ⟨#[]⟩, .bool false] 57 (0, 0)) (.cells #[.int .i64 15, .string ⟨#[]⟩, .string ⟨#[]⟩, .bool false] 57 (0, 0))
  rw [st_agg] at CV ⊢
  have P0 := Lib.hid p0; have P1 := Lib.hid p1; have P2 := Lib.hid p2; have BX := Lib.hid bx
  clear p0 p1 p2 bx hT hA h
  go_enter Try.func63, Try.ntmps63
  go_wp2_with fail
  refine (CV.out _).mono ?_
  rintro e w1 ⟨rfl, hb1⟩
  have q0 := (hb1.block _ (bld_ltS P0.out)).trans P0.out
  have q1 := (hb1.block _ (bld_ltS P1.out)).trans P1.out
  have BW := Lib.hid (BX.out.trans (hb1.mono BX.out.size))
  have x0 : w1.cell? ⟨w.heap.size, 0, none⟩ = some (.int .i64 6) := by rw [cell_of_row w1 _ _ _ _ _ q0]; rfl
  have x1 : w1.cell? ⟨w.heap.size, 1, none⟩ = some (.string (mkS T)) := by rw [cell_of_row w1 _ _ _ _ _ q0]; rfl
  have x2 : w1.cell? ⟨w.heap.size, 2, none⟩ = some (.string (mkS A)) := by rw [cell_of_row w1 _ _ _ _ _ q0]; rfl
  have x3 : w1.cell? ⟨w.heap.size, 3, none⟩ = some (.bool EE) := by rw [cell_of_row w1 _ _ _ _ _ q0]; rfl
  have u0 : w1.cell? ⟨w.heap.size + 1, 0, none⟩ = some (.int .i64 0) := by rw [cell_of_row w1 _ _ _ _ _ q1]; rfl
  have u1 : w1.cell? ⟨w.heap.size + 1, 1, none⟩ = some (.string ⟨#[]⟩) := by rw [cell_of_row w1 _ _ _ _ _ q1]; rfl
  have u2 : w1.cell? ⟨w.heap.size + 1, 2, none⟩ = some (.string ⟨#[]⟩) := by rw [cell_of_row w1 _ _ _ _ _ q1]; rfl
  have u3 : w1.cell? ⟨w.heap.size + 1, 3, none⟩ = some (.bool false) := by rw [cell_of_row w1 _ _ _ _ _ q1]; rfl
  have f0 := row_frozen q0 0
  have f1 := row_frozen q0 1
  have f2 := row_frozen q0 2
  have f3 := row_frozen q0 3
  have g0 := row_frozen q1 0
  have g1 := row_frozen q1 1
  have g2 := row_frozen q1 2
  have g3 := row_frozen q1 3
  have Q0 := Lib.hid q0; have Q1 := Lib.hid q1
  clear q0 q1 hb1 P0 P1 P2 CV
  go_wp2_with (first | (go_at_call 66; refine (spec_l1In_any _ _ _ _).mono ?_; rintro e w2 ⟨rfl, rfl⟩))
  refine (CG.out _).mono ?_
  rintro e w3 ⟨rfl, hb3⟩
  have B3 := Lib.hid hb3
  have q3 := (B3.out.block _ (bld_ltS Q1.out)).trans Q1.out
  have v0 : w3.cell? ⟨w.heap.size + 1, 0, none⟩ = some (.int .i64 0) := by rw [cell_of_row w3 _ _ _ _ _ q3]; rfl
  have v1 : w3.cell? ⟨w.heap.size + 1, 1, none⟩ = some (.string ⟨#[]⟩) := by rw [cell_of_row w3 _ _ _ _ _ q3]; rfl
  have v2 : w3.cell? ⟨w.heap.size + 1, 2, none⟩ = some (.string ⟨#[]⟩) := by rw [cell_of_row w3 _ _ _ _ _ q3]; rfl
  have v3 : w3.cell? ⟨w.heap.size + 1, 3, none⟩ = some (.bool false) := by rw [cell_of_row w3 _ _ _ _ _ q3]; rfl
  have k0 := row_frozen q3 0
  have k1 := row_frozen q3 1
  have k2 := row_frozen q3 2
  have k3 := row_frozen q3 3
  have Q3 := Lib.hid q3
  have BV := Lib.hid (BW.out.trans (B3.out.mono BW.out.size))
  clear q3 hb3
  go_wp2
  obtain ⟨⟨r0, r1, r2, r3⟩, RB⟩ := st_set Q3.out (.int .i64 (M2 : Int)) (.string (mkS T2)) (.string (mkS A2)) (.bool E2)
  exact bodyPost_ret (v := .agg #[.int .i64 (M2 : Int), .string (mkS T2), .string (mkS A2), .bool E2]) (by simp [results, Try.results63, go_sem, r0, r1, r2, r3]) rfl ⟨by rw [hlt]; rfl, RB _ _ (by omega) BV.out⟩
set_option maxRecDepth 100000 in
set_option maxHeartbeats 3200000 in
theorem rp_7q (T A : List UInt8) (EE : Bool) (b : UInt8) (hT : nameB T = true) (hA : nameB A = true) (h : b = 39) (w : World) :
    Calls Try.prog 63 #[stV ⟨7, T, A, EE⟩, .int .u8 (b.toNat : Int)] w fun e w' => e = .returned (stV ⟨3, T, [], false⟩) ∧ Below w.heap.size w w' := by
  have hb39 : ((b.toNat : Int) == 39) = true := beqN (n := 39) 39 rfl h
  have CV := Lib.hid (fun W => spec_StateValid ⟨7, T, A, EE⟩ W (val_attr (.inr (.inl (.inr rfl))) hT hA))
  obtain ⟨⟨p0, p1, p2⟩, bx⟩ := three_new w (.cells #[.int .i64 7, .string (mkS T), .string (mkS A), .bool EE] 57 (0, 0)) (.cells #[.int .i64 0, .string ⟨#[]⟩, .string ⟨#[]⟩, .bool false] 57 (0, 0)) (.cells #[.int .i64 15, .string ⟨#[]⟩, .string ⟨#[]⟩, .bool false] 57 (0, 0))
  rw [st_agg] at CV ⊢
  have P0 := Lib.hid p0; have P1 := Lib.hid p1; have P2 := Lib.hid p2; have BX := Lib.hid bx
  clear p0 p1 p2 bx hT hA h
  go_enter Try.func63, Try.ntmps63
  go_wp2_with fail
  refine (CV.out _).mono ?_
  rintro e w1 ⟨rfl, hb1⟩
  have q0 := (hb1.block _ (bld_ltS P0.out)).trans P0.out
  have q1 := (hb1.block _ (bld_ltS P1.out)).trans P1.out
  have BW := Lib.hid (BX.out.trans (hb1.mono BX.out.size))
  have x0 : w1.cell? ⟨w.heap.size, 0, none⟩ = some (.int .i64 7) := by rw [cell_of_row w1 _ _ _ _ _ q0]; rfl
  have x1 : w1.cell? ⟨w.heap.size, 1, none⟩ = some (.string (mkS T)) := by rw [cell_of_row w1 _ _ _ _ _ q0]; rfl
  have x2 : w1.cell? ⟨w.heap.size, 2, none⟩ = some (.string (mkS A)) := by rw [cell_of_row w1 _ _ _ _ _ q0]; rfl
  have x3 : w1.cell? ⟨w.heap.size, 3, none⟩ = some (.bool EE) := by rw [cell_of_row w1 _ _ _ _ _ q0]; rfl
  have u0 : w1.cell? ⟨w.heap.size + 1, 0, none⟩ = some (.int .i64 0) := by rw [cell_of_row w1 _ _ _ _ _ q1]; rfl
  have u1 : w1.cell? ⟨w.heap.size + 1, 1, none⟩ = some (.string ⟨#[]⟩) := by rw [cell_of_row w1 _ _ _ _ _ q1]; rfl
  have u2 : w1.cell? ⟨w.heap.size + 1, 2, none⟩ = some (.string ⟨#[]⟩) := by rw [cell_of_row w1 _ _ _ _ _ q1]; rfl
  have u3 : w1.cell? ⟨w.heap.size + 1, 3, none⟩ = some (.bool false) := by rw [cell_of_row w1 _ _ _ _ _ q1]; rfl
  have f0 := row_frozen q0 0
  have f1 := row_frozen q0 1
  have f2 := row_frozen q0 2
  have f3 := row_frozen q0 3
  have g0 := row_frozen q1 0
  have g1 := row_frozen q1 1
  have g2 := row_frozen q1 2
  have g3 := row_frozen q1 3
  have Q0 := Lib.hid q0; have Q1 := Lib.hid q1
  clear q0 q1 hb1 P0 P1 P2 CV
  go_wp2_with (first | (go_at_call 66; refine (spec_l1In_any _ _ _ _).mono ?_; rintro e w2 ⟨rfl, rfl⟩))
  obtain ⟨⟨r0, r1, r2, r3⟩, RB⟩ := st_set Q1.out (.int .i64 3) (.string (mkS T)) (.string ⟨#[]⟩) (.bool false)
  exact bodyPost_ret (v := .agg #[.int .i64 3, .string (mkS T), .string ⟨#[]⟩, .bool false]) (by simp [results, Try.results63, go_sem, r0, r1, r2, r3]) rfl ⟨by rfl, RB _ _ (by omega) BW.out⟩
set_option maxRecDepth 100000 in
set_option maxHeartbeats 3200000 in
theorem rp_7n (T A : List UInt8) (EE : Bool) (b : UInt8) (hT : nameB T = true) (hA : nameB A = true) (h : b ≠ 39) (w : World) :
    Calls Try.prog 63 #[stV ⟨7, T, A, EE⟩, .int .u8 (b.toNat : Int)] w fun e w' => e = .returned (stV ⟨7, T, A, true⟩) ∧ Below w.heap.size w w' := by
  have hb39 : ((b.toNat : Int) == 39) = false := bneN (n := 39) 39 rfl h
  have CG := Lib.hid (fun W => spec_l5Value ⟨7, T, A, EE⟩ W)
  obtain ⟨M2, T2, A2, E2, hlt⟩ : ∃ M2 T2 A2 E2, (⟨7, T, A, true⟩ : St) = ⟨M2, T2, A2, E2⟩ := ⟨_, _, _, _, rfl⟩
  rw [hlt] at CG
  simp only [st_agg] at CG
  have CV := Lib.hid (fun W => spec_StateValid ⟨7, T, A, EE⟩ W (val_attr (.inr (.inl (.inr rfl))) hT hA))
  obtain ⟨⟨p0, p1, p2⟩, bx⟩ := three_new w (.cells #[.int .i64 7, .string (mkS T), .string (mkS A), .bool EE] 57 (0, 0)) (.cells #[.int .i64 0, .string ⟨#[]⟩, .string ⟨#[]⟩, .bool false] 57 (0, 0)) (.cells #[.int .i64 15, .string ⟨#[]⟩, .string ⟨#[]⟩, .bool false] 57 (0, 0))
  rw [st_agg] at CV ⊢
  have P0 := Lib.hid p0; have P1 := Lib.hid p1; have P2 := Lib.hid p2; have BX := Lib.hid bx
  clear p0 p1 p2 bx hT hA h
  go_enter Try.func63, Try.ntmps63
  go_wp2_with fail
  refine (CV.out _).mono ?_
  rintro e w1 ⟨rfl, hb1⟩
  have q0 := (hb1.block _ (bld_ltS P0.out)).trans P0.out
  have q1 := (hb1.block _ (bld_ltS P1.out)).trans P1.out
  have BW := Lib.hid (BX.out.trans (hb1.mono BX.out.size))
  have x0 : w1.cell? ⟨w.heap.size, 0, none⟩ = some (.int .i64 7) := by rw [cell_of_row w1 _ _ _ _ _ q0]; rfl
  have x1 : w1.cell? ⟨w.heap.size, 1, none⟩ = some (.string (mkS T)) := by rw [cell_of_row w1 _ _ _ _ _ q0]; rfl
  have x2 : w1.cell? ⟨w.heap.size, 2, none⟩ = some (.string (mkS A)) := by rw [cell_of_row w1 _ _ _ _ _ q0]; rfl
  have x3 : w1.cell? ⟨w.heap.size, 3, none⟩ = some (.bool EE) := by rw [cell_of_row w1 _ _ _ _ _ q0]; rfl
  have u0 : w1.cell? ⟨w.heap.size + 1, 0, none⟩ = some (.int .i64 0) := by rw [cell_of_row w1 _ _ _ _ _ q1]; rfl
  have u1 : w1.cell? ⟨w.heap.size + 1, 1, none⟩ = some (.string ⟨#[]⟩) := by rw [cell_of_row w1 _ _ _ _ _ q1]; rfl
  have u2 : w1.cell? ⟨w.heap.size + 1, 2, none⟩ = some (.string ⟨#[]⟩) := by rw [cell_of_row w1 _ _ _ _ _ q1]; rfl
  have u3 : w1.cell? ⟨w.heap.size + 1, 3, none⟩ = some (.bool false) := by rw [cell_of_row w1 _ _ _ _ _ q1]; rfl
  have f0 := row_frozen q0 0
  have f1 := row_frozen q0 1
  have f2 := row_frozen q0 2
  have f3 := row_frozen q0 3
  have g0 := row_frozen q1 0
  have g1 := row_frozen q1 1
  have g2 := row_frozen q1 2
  have g3 := row_frozen q1 3
  have Q0 := Lib.hid q0; have Q1 := Lib.hid q1
  clear q0 q1 hb1 P0 P1 P2 CV
  go_wp2_with (first | (go_at_call 66; refine (spec_l1In_any _ _ _ _).mono ?_; rintro e w2 ⟨rfl, rfl⟩))
  refine (CG.out _).mono ?_
  rintro e w3 ⟨rfl, hb3⟩
  have B3 := Lib.hid hb3
  have q3 := (B3.out.block _ (bld_ltS Q1.out)).trans Q1.out
  have v0 : w3.cell? ⟨w.heap.size + 1, 0, none⟩ = some (.int .i64 0) := by rw [cell_of_row w3 _ _ _ _ _ q3]; rfl
  have v1 : w3.cell? ⟨w.heap.size + 1, 1, none⟩ = some (.string ⟨#[]⟩) := by rw [cell_of_row w3 _ _ _ _ _ q3]; rfl
  have v2 : w3.cell? ⟨w.heap.size + 1, 2, none⟩ = some (.string ⟨#[]⟩) := by rw [cell_of_row w3 _ _ _ _ _ q3]; rfl
  have v3 : w3.cell? ⟨w.heap.size + 1, 3, none⟩ = some (.bool false) := by rw [cell_of_row w3 _ _ _ _ _ q3]; rfl
  have k0 := row_frozen q3 0
  have k1 := row_frozen q3 1
  have k2 := row_frozen q3 2
  have k3 := row_frozen q3 3
  have Q3 := Lib.hid q3
  have BV := Lib.hid (BW.out.trans (B3.out.mono BW.out.size))
  clear q3 hb3
  go_wp2
  obtain ⟨⟨r0, r1, r2, r3⟩, RB⟩ := st_set Q3.out (.int .i64 (M2 : Int)) (.string (mkS T2)) (.string (mkS A2)) (.bool E2)
  exact bodyPost_ret (v := .agg #[.int .i64 (M2 : Int), .string (mkS T2), .string (mkS A2), .bool E2]) (by simp [results, Try.results63, go_sem, r0, r1, r2, r3]) rfl ⟨by rw [hlt]; rfl, RB _ _ (by omega) BV.out⟩
set_option maxRecDepth 100000 in
set_option maxHeartbeats 3200000 in
theorem rp_9l (T : List UInt8) (b : UInt8) (hT : T = [] ∨ nameB T = true) (hTl : T.length ≤ 10) (hl : letB b = true) (w : World) :
    Calls Try.prog 63 #[stV ⟨9, T, [], false⟩, .int .u8 (b.toNat : Int)] w fun e w' => e = .returned (stV (moreS 9 T [] b)) ∧ Below w.heap.size w w' := by
  have CL := Lib.hid (fun W => (by have h := spec_l1Letter b W; rw [hl] at h; exact h : Calls Try.prog 84 #[.int .u8 (b.toNat : Int)] W fun e w' => e = .returned (.bool true) ∧ W = w'))
  have CG := Lib.hid (fun W => spec_moreT 9 T [] b W (by omega) (by simp) (by omega))
  obtain ⟨M2, T2, A2, E2, hlt⟩ : ∃ M2 T2 A2 E2, moreS 9 T [] b = ⟨M2, T2, A2, E2⟩ := ⟨_, _, _, _, rfl⟩
  rw [hlt] at CG
  simp only [st_agg] at CG
  have CV := Lib.hid (fun W => spec_StateValid ⟨9, T, [], false⟩ W (val_end hT))
  obtain ⟨⟨p0, p1, p2⟩, bx⟩ := three_new w (.cells #[.int .i64 9, .string (mkS T), .string (mkS []), .bool false] 57 (0, 0)) (.cells #[.int .i64 0, .string ⟨#[]⟩, .string ⟨#[]⟩, .bool false] 57 (0, 0)) (.cells #[.int .i64 15, .string ⟨#[]⟩, .string ⟨#[]⟩, .bool false] 57 (0, 0))
  rw [st_agg] at CV ⊢
  have P0 := Lib.hid p0; have P1 := Lib.hid p1; have P2 := Lib.hid p2; have BX := Lib.hid bx
  clear p0 p1 p2 bx hT hTl hl
  go_enter Try.func63, Try.ntmps63
  go_wp2_with fail
  refine (CV.out _).mono ?_
  rintro e w1 ⟨rfl, hb1⟩
  have q0 := (hb1.block _ (bld_ltS P0.out)).trans P0.out
  have q1 := (hb1.block _ (bld_ltS P1.out)).trans P1.out
  have BW := Lib.hid (BX.out.trans (hb1.mono BX.out.size))
  have x0 : w1.cell? ⟨w.heap.size, 0, none⟩ = some (.int .i64 9) := by rw [cell_of_row w1 _ _ _ _ _ q0]; rfl
  have x1 : w1.cell? ⟨w.heap.size, 1, none⟩ = some (.string (mkS T)) := by rw [cell_of_row w1 _ _ _ _ _ q0]; rfl
  have x2 : w1.cell? ⟨w.heap.size, 2, none⟩ = some (.string (mkS [])) := by rw [cell_of_row w1 _ _ _ _ _ q0]; rfl
  have x3 : w1.cell? ⟨w.heap.size, 3, none⟩ = some (.bool false) := by rw [cell_of_row w1 _ _ _ _ _ q0]; rfl
  have u0 : w1.cell? ⟨w.heap.size + 1, 0, none⟩ = some (.int .i64 0) := by rw [cell_of_row w1 _ _ _ _ _ q1]; rfl
  have u1 : w1.cell? ⟨w.heap.size + 1, 1, none⟩ = some (.string ⟨#[]⟩) := by rw [cell_of_row w1 _ _ _ _ _ q1]; rfl
  have u2 : w1.cell? ⟨w.heap.size + 1, 2, none⟩ = some (.string ⟨#[]⟩) := by rw [cell_of_row w1 _ _ _ _ _ q1]; rfl
  have u3 : w1.cell? ⟨w.heap.size + 1, 3, none⟩ = some (.bool false) := by rw [cell_of_row w1 _ _ _ _ _ q1]; rfl
  have f0 := row_frozen q0 0
  have f1 := row_frozen q0 1
  have f2 := row_frozen q0 2
  have f3 := row_frozen q0 3
  have g0 := row_frozen q1 0
  have g1 := row_frozen q1 1
  have g2 := row_frozen q1 2
  have g3 := row_frozen q1 3
  have Q0 := Lib.hid q0; have Q1 := Lib.hid q1
  clear q0 q1 hb1 P0 P1 P2 CV
  have hone := one_str w1 b
  go_wp2_with (first | (go_at_call 66; refine (spec_l1In_any _ _ _ _).mono ?_; rintro e w2 ⟨rfl, rfl⟩) | (go_at_call 84; refine (CL.out _).mono ?_; rintro e w2 ⟨rfl, rfl⟩) | (go_at_call 87; refine (CN.out _).mono ?_; rintro e w2 ⟨rfl, rfl⟩))
  refine (CG.out _).mono ?_
  rintro e w3 ⟨rfl, hb3⟩
  have B3 := Lib.hid (((Below.refl w1.heap.size w1).alloc (Nat.le_refl _) (.cells #[.int .u8 (b.toNat : Int)] 5 (0, 0))).trans (hb3.mono (by simp)))
  have q3 := (B3.out.block _ (bld_ltS Q1.out)).trans Q1.out
  have v0 : w3.cell? ⟨w.heap.size + 1, 0, none⟩ = some (.int .i64 0) := by rw [cell_of_row w3 _ _ _ _ _ q3]; rfl
  have v1 : w3.cell? ⟨w.heap.size + 1, 1, none⟩ = some (.string ⟨#[]⟩) := by rw [cell_of_row w3 _ _ _ _ _ q3]; rfl
  have v2 : w3.cell? ⟨w.heap.size + 1, 2, none⟩ = some (.string ⟨#[]⟩) := by rw [cell_of_row w3 _ _ _ _ _ q3]; rfl
  have v3 : w3.cell? ⟨w.heap.size + 1, 3, none⟩ = some (.bool false) := by rw [cell_of_row w3 _ _ _ _ _ q3]; rfl
  have k0 := row_frozen q3 0
  have k1 := row_frozen q3 1
  have k2 := row_frozen q3 2
  have k3 := row_frozen q3 3
  have Q3 := Lib.hid q3
  have BV := Lib.hid (BW.out.trans (B3.out.mono BW.out.size))
  clear q3 hb3
  go_wp2
  obtain ⟨⟨r0, r1, r2, r3⟩, RB⟩ := st_set Q3.out (.int .i64 (M2 : Int)) (.string (mkS T2)) (.string (mkS A2)) (.bool E2)
  exact bodyPost_ret (v := .agg #[.int .i64 (M2 : Int), .string (mkS T2), .string (mkS A2), .bool E2]) (by simp [results, Try.results63, go_sem, r0, r1, r2, r3]) rfl ⟨by rw [hlt]; rfl, RB _ _ (by omega) BV.out⟩
set_option maxRecDepth 100000 in
set_option maxHeartbeats 3200000 in
theorem rp_9n (T : List UInt8) (b : UInt8) (hT : T = [] ∨ nameB T = true) (hTl : T.length ≤ 10) (hl : letB b = false) (hne : T ≠ []) (hn : namedB b = true) (w : World) :
    Calls Try.prog 63 #[stV ⟨9, T, [], false⟩, .int .u8 (b.toNat : Int)] w fun e w' => e = .returned (stV (moreS 9 T [] b)) ∧ Below w.heap.size w w' := by
  have CL := Lib.hid (fun W => (by have h := spec_l1Letter b W; rw [hl] at h; exact h : Calls Try.prog 84 #[.int .u8 (b.toNat : Int)] W fun e w' => e = .returned (.bool false) ∧ W = w'))
  have hem : (mkS T).toList.isEmpty = false := by rw [emp_mkS]; simpa using hne
  have CN := Lib.hid (fun W => (by have h := spec_l5Name b W; rw [hn] at h; exact h : Calls Try.prog 87 #[.int .u8 (b.toNat : Int)] W fun e w' => e = .returned (.bool true) ∧ W = w'))
  have CG := Lib.hid (fun W => spec_moreT 9 T [] b W (by omega) (by simp) (by omega))
  obtain ⟨M2, T2, A2, E2, hlt⟩ : ∃ M2 T2 A2 E2, moreS 9 T [] b = ⟨M2, T2, A2, E2⟩ := ⟨_, _, _, _, rfl⟩
  rw [hlt] at CG
  simp only [st_agg] at CG
  have CV := Lib.hid (fun W => spec_StateValid ⟨9, T, [], false⟩ W (val_end hT))
  obtain ⟨⟨p0, p1, p2⟩, bx⟩ := three_new w (.cells #[.int .i64 9, .string (mkS T), .string (mkS []), .bool false] 57 (0, 0)) (.cells #[.int .i64 0, .string ⟨#[]⟩, .string ⟨#[]⟩, .bool false] 57 (0, 0)) (.cells #[.int .i64 15, .string ⟨#[]⟩, .string ⟨#[]⟩, .bool false] 57 (0, 0))
  rw [st_agg] at CV ⊢
  have P0 := Lib.hid p0; have P1 := Lib.hid p1; have P2 := Lib.hid p2; have BX := Lib.hid bx
  clear p0 p1 p2 bx hT hTl hl hne hn
  go_enter Try.func63, Try.ntmps63
  go_wp2_with fail
  refine (CV.out _).mono ?_
  rintro e w1 ⟨rfl, hb1⟩
  have q0 := (hb1.block _ (bld_ltS P0.out)).trans P0.out
  have q1 := (hb1.block _ (bld_ltS P1.out)).trans P1.out
  have BW := Lib.hid (BX.out.trans (hb1.mono BX.out.size))
  have x0 : w1.cell? ⟨w.heap.size, 0, none⟩ = some (.int .i64 9) := by rw [cell_of_row w1 _ _ _ _ _ q0]; rfl
  have x1 : w1.cell? ⟨w.heap.size, 1, none⟩ = some (.string (mkS T)) := by rw [cell_of_row w1 _ _ _ _ _ q0]; rfl
  have x2 : w1.cell? ⟨w.heap.size, 2, none⟩ = some (.string (mkS [])) := by rw [cell_of_row w1 _ _ _ _ _ q0]; rfl
  have x3 : w1.cell? ⟨w.heap.size, 3, none⟩ = some (.bool false) := by rw [cell_of_row w1 _ _ _ _ _ q0]; rfl
  have u0 : w1.cell? ⟨w.heap.size + 1, 0, none⟩ = some (.int .i64 0) := by rw [cell_of_row w1 _ _ _ _ _ q1]; rfl
  have u1 : w1.cell? ⟨w.heap.size + 1, 1, none⟩ = some (.string ⟨#[]⟩) := by rw [cell_of_row w1 _ _ _ _ _ q1]; rfl
  have u2 : w1.cell? ⟨w.heap.size + 1, 2, none⟩ = some (.string ⟨#[]⟩) := by rw [cell_of_row w1 _ _ _ _ _ q1]; rfl
  have u3 : w1.cell? ⟨w.heap.size + 1, 3, none⟩ = some (.bool false) := by rw [cell_of_row w1 _ _ _ _ _ q1]; rfl
  have f0 := row_frozen q0 0
  have f1 := row_frozen q0 1
  have f2 := row_frozen q0 2
  have f3 := row_frozen q0 3
  have g0 := row_frozen q1 0
  have g1 := row_frozen q1 1
  have g2 := row_frozen q1 2
  have g3 := row_frozen q1 3
  have Q0 := Lib.hid q0; have Q1 := Lib.hid q1
  clear q0 q1 hb1 P0 P1 P2 CV
  have hone := one_str w1 b
  go_wp2_with (first | (go_at_call 66; refine (spec_l1In_any _ _ _ _).mono ?_; rintro e w2 ⟨rfl, rfl⟩) | (go_at_call 84; refine (CL.out _).mono ?_; rintro e w2 ⟨rfl, rfl⟩) | (go_at_call 87; refine (CN.out _).mono ?_; rintro e w2 ⟨rfl, rfl⟩))
  refine (CG.out _).mono ?_
  rintro e w3 ⟨rfl, hb3⟩
  have B3 := Lib.hid (((Below.refl w1.heap.size w1).alloc (Nat.le_refl _) (.cells #[.int .u8 (b.toNat : Int)] 5 (0, 0))).trans (hb3.mono (by simp)))
  have q3 := (B3.out.block _ (bld_ltS Q1.out)).trans Q1.out
  have v0 : w3.cell? ⟨w.heap.size + 1, 0, none⟩ = some (.int .i64 0) := by rw [cell_of_row w3 _ _ _ _ _ q3]; rfl
  have v1 : w3.cell? ⟨w.heap.size + 1, 1, none⟩ = some (.string ⟨#[]⟩) := by rw [cell_of_row w3 _ _ _ _ _ q3]; rfl
  have v2 : w3.cell? ⟨w.heap.size + 1, 2, none⟩ = some (.string ⟨#[]⟩) := by rw [cell_of_row w3 _ _ _ _ _ q3]; rfl
  have v3 : w3.cell? ⟨w.heap.size + 1, 3, none⟩ = some (.bool false) := by rw [cell_of_row w3 _ _ _ _ _ q3]; rfl
  have k0 := row_frozen q3 0
  have k1 := row_frozen q3 1
  have k2 := row_frozen q3 2
  have k3 := row_frozen q3 3
  have Q3 := Lib.hid q3
  have BV := Lib.hid (BW.out.trans (B3.out.mono BW.out.size))
  clear q3 hb3
  go_wp2
  obtain ⟨⟨r0, r1, r2, r3⟩, RB⟩ := st_set Q3.out (.int .i64 (M2 : Int)) (.string (mkS T2)) (.string (mkS A2)) (.bool E2)
  exact bodyPost_ret (v := .agg #[.int .i64 (M2 : Int), .string (mkS T2), .string (mkS A2), .bool E2]) (by simp [results, Try.results63, go_sem, r0, r1, r2, r3]) rfl ⟨by rw [hlt]; rfl, RB _ _ (by omega) BV.out⟩
set_option maxRecDepth 100000 in
set_option maxHeartbeats 3200000 in
theorem rp_9z (T : List UInt8) (b : UInt8) (hT : T = [] ∨ nameB T = true) (hTl : T.length ≤ 10) (hne : T ≠ []) (h : b = 62) (w : World) :
    Calls Try.prog 63 #[stV ⟨9, T, [], false⟩, .int .u8 (b.toNat : Int)] w fun e w' => e = .returned (stV zeroS) ∧ Below w.heap.size w w' := by
  have hl : letB b = false := by subst h; decide
  have hn : namedB b = false := by subst h; decide
  have CL := Lib.hid (fun W => (by have h := spec_l1Letter b W; rw [hl] at h; exact h : Calls Try.prog 84 #[.int .u8 (b.toNat : Int)] W fun e w' => e = .returned (.bool false) ∧ W = w'))
  have hem : (mkS T).toList.isEmpty = false := by rw [emp_mkS]; simpa using hne
  have CN := Lib.hid (fun W => (by have h := spec_l5Name b W; rw [hn] at h; exact h : Calls Try.prog 87 #[.int .u8 (b.toNat : Int)] W fun e w' => e = .returned (.bool false) ∧ W = w'))
  have hb62 : ((b.toNat : Int) == 62) = true := beqN (n := 62) 62 rfl h
  have CV := Lib.hid (fun W => spec_StateValid ⟨9, T, [], false⟩ W (val_end hT))
  obtain ⟨⟨p0, p1, p2⟩, bx⟩ := three_new w (.cells #[.int .i64 9, .string (mkS T), .string (mkS []), .bool false] 57 (0, 0)) (.cells #[.int .i64 0, .string ⟨#[]⟩, .string ⟨#[]⟩, .bool false] 57 (0, 0)) (.cells #[.int .i64 15, .string ⟨#[]⟩, .string ⟨#[]⟩, .bool false] 57 (0, 0))
  rw [st_agg] at CV ⊢
  have P0 := Lib.hid p0; have P1 := Lib.hid p1; have P2 := Lib.hid p2; have BX := Lib.hid bx
  clear p0 p1 p2 bx hT hTl hl hne hn h
  go_enter Try.func63, Try.ntmps63
  go_wp2_with fail
  refine (CV.out _).mono ?_
  rintro e w1 ⟨rfl, hb1⟩
  have q0 := (hb1.block _ (bld_ltS P0.out)).trans P0.out
  have q1 := (hb1.block _ (bld_ltS P1.out)).trans P1.out
  have BW := Lib.hid (BX.out.trans (hb1.mono BX.out.size))
  have x0 : w1.cell? ⟨w.heap.size, 0, none⟩ = some (.int .i64 9) := by rw [cell_of_row w1 _ _ _ _ _ q0]; rfl
  have x1 : w1.cell? ⟨w.heap.size, 1, none⟩ = some (.string (mkS T)) := by rw [cell_of_row w1 _ _ _ _ _ q0]; rfl
  have x2 : w1.cell? ⟨w.heap.size, 2, none⟩ = some (.string (mkS [])) := by rw [cell_of_row w1 _ _ _ _ _ q0]; rfl
  have x3 : w1.cell? ⟨w.heap.size, 3, none⟩ = some (.bool false) := by rw [cell_of_row w1 _ _ _ _ _ q0]; rfl
  have u0 : w1.cell? ⟨w.heap.size + 1, 0, none⟩ = some (.int .i64 0) := by rw [cell_of_row w1 _ _ _ _ _ q1]; rfl
  have u1 : w1.cell? ⟨w.heap.size + 1, 1, none⟩ = some (.string ⟨#[]⟩) := by rw [cell_of_row w1 _ _ _ _ _ q1]; rfl
  have u2 : w1.cell? ⟨w.heap.size + 1, 2, none⟩ = some (.string ⟨#[]⟩) := by rw [cell_of_row w1 _ _ _ _ _ q1]; rfl
  have u3 : w1.cell? ⟨w.heap.size + 1, 3, none⟩ = some (.bool false) := by rw [cell_of_row w1 _ _ _ _ _ q1]; rfl
  have f0 := row_frozen q0 0
  have f1 := row_frozen q0 1
  have f2 := row_frozen q0 2
  have f3 := row_frozen q0 3
  have g0 := row_frozen q1 0
  have g1 := row_frozen q1 1
  have g2 := row_frozen q1 2
  have g3 := row_frozen q1 3
  have Q0 := Lib.hid q0; have Q1 := Lib.hid q1
  clear q0 q1 hb1 P0 P1 P2 CV
  go_wp2_with (first | (go_at_call 66; refine (spec_l1In_any _ _ _ _).mono ?_; rintro e w2 ⟨rfl, rfl⟩) | (go_at_call 84; refine (CL.out _).mono ?_; rintro e w2 ⟨rfl, rfl⟩) | (go_at_call 87; refine (CN.out _).mono ?_; rintro e w2 ⟨rfl, rfl⟩))
  obtain ⟨⟨r0, r1, r2, r3⟩, RB⟩ := st_set Q1.out (.int .i64 0) (.string ⟨#[]⟩) (.string ⟨#[]⟩) (.bool false)
  exact bodyPost_ret (v := .agg #[.int .i64 0, .string ⟨#[]⟩, .string ⟨#[]⟩, .bool false]) (by simp [results, Try.results63, go_sem, r0, r1, r2, r3]) rfl ⟨by rfl, RB _ _ (by omega) BW.out⟩
set_option maxRecDepth 100000 in
set_option maxHeartbeats 3200000 in
theorem rp_9b (T : List UInt8) (b : UInt8) (hT : T = [] ∨ nameB T = true) (hTl : T.length ≤ 10) (hl : letB b = false) (hne : T ≠ []) (hn : namedB b = false) (h : b ≠ 62) (w : World) :
    Calls Try.prog 63 #[stV ⟨9, T, [], false⟩, .int .u8 (b.toNat : Int)] w fun e w' => e = .returned (stV badS) ∧ Below w.heap.size w w' := by
  have CL := Lib.hid (fun W => (by have h := spec_l1Letter b W; rw [hl] at h; exact h : Calls Try.prog 84 #[.int .u8 (b.toNat : Int)] W fun e w' => e = .returned (.bool false) ∧ W = w'))
  have hem : (mkS T).toList.isEmpty = false := by rw [emp_mkS]; simpa using hne
  have CN := Lib.hid (fun W => (by have h := spec_l5Name b W; rw [hn] at h; exact h : Calls Try.prog 87 #[.int .u8 (b.toNat : Int)] W fun e w' => e = .returned (.bool false) ∧ W = w'))
  have hb62 : ((b.toNat : Int) == 62) = false := bneN (n := 62) 62 rfl h
  have CV := Lib.hid (fun W => spec_StateValid ⟨9, T, [], false⟩ W (val_end hT))
  obtain ⟨⟨p0, p1, p2⟩, bx⟩ := three_new w (.cells #[.int .i64 9, .string (mkS T), .string (mkS []), .bool false] 57 (0, 0)) (.cells #[.int .i64 0, .string ⟨#[]⟩, .string ⟨#[]⟩, .bool false] 57 (0, 0)) (.cells #[.int .i64 15, .string ⟨#[]⟩, .string ⟨#[]⟩, .bool false] 57 (0, 0))
  rw [st_agg] at CV ⊢
  have P0 := Lib.hid p0; have P1 := Lib.hid p1; have P2 := Lib.hid p2; have BX := Lib.hid bx
  clear p0 p1 p2 bx hT hTl hl hne hn h
  go_enter Try.func63, Try.ntmps63
  go_wp2_with fail
  refine (CV.out _).mono ?_
  rintro e w1 ⟨rfl, hb1⟩
  have q0 := (hb1.block _ (bld_ltS P0.out)).trans P0.out
  have q1 := (hb1.block _ (bld_ltS P1.out)).trans P1.out
  have q2 := (hb1.block _ (bld_ltS P2.out)).trans P2.out
  have BW := Lib.hid (BX.out.trans (hb1.mono BX.out.size))
  have x0 : w1.cell? ⟨w.heap.size, 0, none⟩ = some (.int .i64 9) := by rw [cell_of_row w1 _ _ _ _ _ q0]; rfl
  have x1 : w1.cell? ⟨w.heap.size, 1, none⟩ = some (.string (mkS T)) := by rw [cell_of_row w1 _ _ _ _ _ q0]; rfl
  have x2 : w1.cell? ⟨w.heap.size, 2, none⟩ = some (.string (mkS [])) := by rw [cell_of_row w1 _ _ _ _ _ q0]; rfl
  have x3 : w1.cell? ⟨w.heap.size, 3, none⟩ = some (.bool false) := by rw [cell_of_row w1 _ _ _ _ _ q0]; rfl
  have u0 : w1.cell? ⟨w.heap.size + 1, 0, none⟩ = some (.int .i64 0) := by rw [cell_of_row w1 _ _ _ _ _ q1]; rfl
  have u1 : w1.cell? ⟨w.heap.size + 1, 1, none⟩ = some (.string ⟨#[]⟩) := by rw [cell_of_row w1 _ _ _ _ _ q1]; rfl
  have u2 : w1.cell? ⟨w.heap.size + 1, 2, none⟩ = some (.string ⟨#[]⟩) := by rw [cell_of_row w1 _ _ _ _ _ q1]; rfl
  have u3 : w1.cell? ⟨w.heap.size + 1, 3, none⟩ = some (.bool false) := by rw [cell_of_row w1 _ _ _ _ _ q1]; rfl
  have t0 : w1.cell? ⟨w.heap.size + 1 + 1, 0, none⟩ = some (.int .i64 15) := by rw [cell_of_row w1 _ _ _ _ _ q2]; rfl
  have t1 : w1.cell? ⟨w.heap.size + 1 + 1, 1, none⟩ = some (.string ⟨#[]⟩) := by rw [cell_of_row w1 _ _ _ _ _ q2]; rfl
  have t2 : w1.cell? ⟨w.heap.size + 1 + 1, 2, none⟩ = some (.string ⟨#[]⟩) := by rw [cell_of_row w1 _ _ _ _ _ q2]; rfl
  have t3 : w1.cell? ⟨w.heap.size + 1 + 1, 3, none⟩ = some (.bool false) := by rw [cell_of_row w1 _ _ _ _ _ q2]; rfl
  have f0 := row_frozen q0 0
  have f1 := row_frozen q0 1
  have f2 := row_frozen q0 2
  have f3 := row_frozen q0 3
  have g0 := row_frozen q1 0
  have g1 := row_frozen q1 1
  have g2 := row_frozen q1 2
  have g3 := row_frozen q1 3
  have Q0 := Lib.hid q0; have Q1 := Lib.hid q1
  clear q0 q1 q2 hb1 P0 P1 P2 CV
  go_wp2_with (first | (go_at_call 66; refine (spec_l1In_any _ _ _ _).mono ?_; rintro e w2 ⟨rfl, rfl⟩) | (go_at_call 84; refine (CL.out _).mono ?_; rintro e w2 ⟨rfl, rfl⟩) | (go_at_call 87; refine (CN.out _).mono ?_; rintro e w2 ⟨rfl, rfl⟩))
  obtain ⟨⟨r0, r1, r2, r3⟩, RB⟩ := st_set Q1.out (.int .i64 15) (.string ⟨#[]⟩) (.string ⟨#[]⟩) (.bool false)
  exact bodyPost_ret (v := .agg #[.int .i64 15, .string ⟨#[]⟩, .string ⟨#[]⟩, .bool false]) (by simp [results, Try.results63, go_sem, r0, r1, r2, r3]) rfl ⟨by rfl, RB _ _ (by omega) BW.out⟩
set_option maxRecDepth 100000 in
set_option maxHeartbeats 3200000 in
theorem rp_9e (T : List UInt8) (b : UInt8) (hT : T = [] ∨ nameB T = true) (hTl : T.length ≤ 10) (hl : letB b = false) (he : T = []) (h : b ≠ 62) (w : World) :
    Calls Try.prog 63 #[stV ⟨9, T, [], false⟩, .int .u8 (b.toNat : Int)] w fun e w' => e = .returned (stV badS) ∧ Below w.heap.size w w' := by
  have CL := Lib.hid (fun W => (by have h := spec_l1Letter b W; rw [hl] at h; exact h : Calls Try.prog 84 #[.int .u8 (b.toNat : Int)] W fun e w' => e = .returned (.bool false) ∧ W = w'))
  have hem : (mkS T).toList.isEmpty = true := by rw [emp_mkS]; rw [he]; rfl
  have hb62 : ((b.toNat : Int) == 62) = false := bneN (n := 62) 62 rfl h
  have CV := Lib.hid (fun W => spec_StateValid ⟨9, T, [], false⟩ W (val_end hT))
  obtain ⟨⟨p0, p1, p2⟩, bx⟩ := three_new w (.cells #[.int .i64 9, .string (mkS T), .string (mkS []), .bool false] 57 (0, 0)) (.cells #[.int .i64 0, .string ⟨#[]⟩, .string ⟨#[]⟩, .bool false] 57 (0, 0)) (.cells #[.int .i64 15, .string ⟨#[]⟩, .string ⟨#[]⟩, .bool false] 57 (0, 0))
  rw [st_agg] at CV ⊢
  have P0 := Lib.hid p0; have P1 := Lib.hid p1; have P2 := Lib.hid p2; have BX := Lib.hid bx
  clear p0 p1 p2 bx hT hTl hl he h
  go_enter Try.func63, Try.ntmps63
  go_wp2_with fail
  refine (CV.out _).mono ?_
  rintro e w1 ⟨rfl, hb1⟩
  have q0 := (hb1.block _ (bld_ltS P0.out)).trans P0.out
  have q1 := (hb1.block _ (bld_ltS P1.out)).trans P1.out
  have q2 := (hb1.block _ (bld_ltS P2.out)).trans P2.out
  have BW := Lib.hid (BX.out.trans (hb1.mono BX.out.size))
  have x0 : w1.cell? ⟨w.heap.size, 0, none⟩ = some (.int .i64 9) := by rw [cell_of_row w1 _ _ _ _ _ q0]; rfl
  have x1 : w1.cell? ⟨w.heap.size, 1, none⟩ = some (.string (mkS T)) := by rw [cell_of_row w1 _ _ _ _ _ q0]; rfl
  have x2 : w1.cell? ⟨w.heap.size, 2, none⟩ = some (.string (mkS [])) := by rw [cell_of_row w1 _ _ _ _ _ q0]; rfl
  have x3 : w1.cell? ⟨w.heap.size, 3, none⟩ = some (.bool false) := by rw [cell_of_row w1 _ _ _ _ _ q0]; rfl
  have u0 : w1.cell? ⟨w.heap.size + 1, 0, none⟩ = some (.int .i64 0) := by rw [cell_of_row w1 _ _ _ _ _ q1]; rfl
  have u1 : w1.cell? ⟨w.heap.size + 1, 1, none⟩ = some (.string ⟨#[]⟩) := by rw [cell_of_row w1 _ _ _ _ _ q1]; rfl
  have u2 : w1.cell? ⟨w.heap.size + 1, 2, none⟩ = some (.string ⟨#[]⟩) := by rw [cell_of_row w1 _ _ _ _ _ q1]; rfl
  have u3 : w1.cell? ⟨w.heap.size + 1, 3, none⟩ = some (.bool false) := by rw [cell_of_row w1 _ _ _ _ _ q1]; rfl
  have t0 : w1.cell? ⟨w.heap.size + 1 + 1, 0, none⟩ = some (.int .i64 15) := by rw [cell_of_row w1 _ _ _ _ _ q2]; rfl
  have t1 : w1.cell? ⟨w.heap.size + 1 + 1, 1, none⟩ = some (.string ⟨#[]⟩) := by rw [cell_of_row w1 _ _ _ _ _ q2]; rfl
  have t2 : w1.cell? ⟨w.heap.size + 1 + 1, 2, none⟩ = some (.string ⟨#[]⟩) := by rw [cell_of_row w1 _ _ _ _ _ q2]; rfl
  have t3 : w1.cell? ⟨w.heap.size + 1 + 1, 3, none⟩ = some (.bool false) := by rw [cell_of_row w1 _ _ _ _ _ q2]; rfl
  have f0 := row_frozen q0 0
  have f1 := row_frozen q0 1
  have f2 := row_frozen q0 2
  have f3 := row_frozen q0 3
  have g0 := row_frozen q1 0
  have g1 := row_frozen q1 1
  have g2 := row_frozen q1 2
  have g3 := row_frozen q1 3
  have Q0 := Lib.hid q0; have Q1 := Lib.hid q1
  clear q0 q1 q2 hb1 P0 P1 P2 CV
  go_wp2_with (first | (go_at_call 66; refine (spec_l1In_any _ _ _ _).mono ?_; rintro e w2 ⟨rfl, rfl⟩) | (go_at_call 84; refine (CL.out _).mono ?_; rintro e w2 ⟨rfl, rfl⟩) | (go_at_call 87; refine (CN.out _).mono ?_; rintro e w2 ⟨rfl, rfl⟩))
  obtain ⟨⟨r0, r1, r2, r3⟩, RB⟩ := st_set Q1.out (.int .i64 15) (.string ⟨#[]⟩) (.string ⟨#[]⟩) (.bool false)
  exact bodyPost_ret (v := .agg #[.int .i64 15, .string ⟨#[]⟩, .string ⟨#[]⟩, .bool false]) (by simp [results, Try.results63, go_sem, r0, r1, r2, r3]) rfl ⟨by rfl, RB _ _ (by omega) BW.out⟩
set_option maxRecDepth 100000 in
set_option maxHeartbeats 3200000 in
theorem rp_9f (T : List UInt8) (b : UInt8) (hT : T = [] ∨ nameB T = true) (hTl : T.length ≤ 10) (he : T = []) (h : b = 62) (w : World) :
    Calls Try.prog 63 #[stV ⟨9, T, [], false⟩, .int .u8 (b.toNat : Int)] w fun e w' => e = .returned (stV badS) ∧ Below w.heap.size w w' := by
  have hl : letB b = false := by subst h; decide
  have CL := Lib.hid (fun W => (by have h := spec_l1Letter b W; rw [hl] at h; exact h : Calls Try.prog 84 #[.int .u8 (b.toNat : Int)] W fun e w' => e = .returned (.bool false) ∧ W = w'))
  have hem : (mkS T).toList.isEmpty = true := by rw [emp_mkS]; rw [he]; rfl
  have hb62 : ((b.toNat : Int) == 62) = true := beqN (n := 62) 62 rfl h
  have CV := Lib.hid (fun W => spec_StateValid ⟨9, T, [], false⟩ W (val_end hT))
  obtain ⟨⟨p0, p1, p2⟩, bx⟩ := three_new w (.cells #[.int .i64 9, .string (mkS T), .string (mkS []), .bool false] 57 (0, 0)) (.cells #[.int .i64 0, .string ⟨#[]⟩, .string ⟨#[]⟩, .bool false] 57 (0, 0)) (.cells #[.int .i64 15, .string ⟨#[]⟩, .string ⟨#[]⟩, .bool false] 57 (0, 0))
  rw [st_agg] at CV ⊢
  have P0 := Lib.hid p0; have P1 := Lib.hid p1; have P2 := Lib.hid p2; have BX := Lib.hid bx
  clear p0 p1 p2 bx hT hTl hl he h
  go_enter Try.func63, Try.ntmps63
  go_wp2_with fail
  refine (CV.out _).mono ?_
  rintro e w1 ⟨rfl, hb1⟩
  have q0 := (hb1.block _ (bld_ltS P0.out)).trans P0.out
  have q1 := (hb1.block _ (bld_ltS P1.out)).trans P1.out
  have q2 := (hb1.block _ (bld_ltS P2.out)).trans P2.out
  have BW := Lib.hid (BX.out.trans (hb1.mono BX.out.size))
  have x0 : w1.cell? ⟨w.heap.size, 0, none⟩ = some (.int .i64 9) := by rw [cell_of_row w1 _ _ _ _ _ q0]; rfl
  have x1 : w1.cell? ⟨w.heap.size, 1, none⟩ = some (.string (mkS T)) := by rw [cell_of_row w1 _ _ _ _ _ q0]; rfl
  have x2 : w1.cell? ⟨w.heap.size, 2, none⟩ = some (.string (mkS [])) := by rw [cell_of_row w1 _ _ _ _ _ q0]; rfl
  have x3 : w1.cell? ⟨w.heap.size, 3, none⟩ = some (.bool false) := by rw [cell_of_row w1 _ _ _ _ _ q0]; rfl
  have u0 : w1.cell? ⟨w.heap.size + 1, 0, none⟩ = some (.int .i64 0) := by rw [cell_of_row w1 _ _ _ _ _ q1]; rfl
  have u1 : w1.cell? ⟨w.heap.size + 1, 1, none⟩ = some (.string ⟨#[]⟩) := by rw [cell_of_row w1 _ _ _ _ _ q1]; rfl
  have u2 : w1.cell? ⟨w.heap.size + 1, 2, none⟩ = some (.string ⟨#[]⟩) := by rw [cell_of_row w1 _ _ _ _ _ q1]; rfl
  have u3 : w1.cell? ⟨w.heap.size + 1, 3, none⟩ = some (.bool false) := by rw [cell_of_row w1 _ _ _ _ _ q1]; rfl
  have t0 : w1.cell? ⟨w.heap.size + 1 + 1, 0, none⟩ = some (.int .i64 15) := by rw [cell_of_row w1 _ _ _ _ _ q2]; rfl
  have t1 : w1.cell? ⟨w.heap.size + 1 + 1, 1, none⟩ = some (.string ⟨#[]⟩) := by rw [cell_of_row w1 _ _ _ _ _ q2]; rfl
  have t2 : w1.cell? ⟨w.heap.size + 1 + 1, 2, none⟩ = some (.string ⟨#[]⟩) := by rw [cell_of_row w1 _ _ _ _ _ q2]; rfl
  have t3 : w1.cell? ⟨w.heap.size + 1 + 1, 3, none⟩ = some (.bool false) := by rw [cell_of_row w1 _ _ _ _ _ q2]; rfl
  have f0 := row_frozen q0 0
  have f1 := row_frozen q0 1
  have f2 := row_frozen q0 2
  have f3 := row_frozen q0 3
  have g0 := row_frozen q1 0
  have g1 := row_frozen q1 1
  have g2 := row_frozen q1 2
  have g3 := row_frozen q1 3
  have Q0 := Lib.hid q0; have Q1 := Lib.hid q1
  clear q0 q1 q2 hb1 P0 P1 P2 CV
  go_wp2_with (first | (go_at_call 66; refine (spec_l1In_any _ _ _ _).mono ?_; rintro e w2 ⟨rfl, rfl⟩) | (go_at_call 84; refine (CL.out _).mono ?_; rintro e w2 ⟨rfl, rfl⟩) | (go_at_call 87; refine (CN.out _).mono ?_; rintro e w2 ⟨rfl, rfl⟩))
  obtain ⟨⟨r0, r1, r2, r3⟩, RB⟩ := st_set Q1.out (.int .i64 15) (.string ⟨#[]⟩) (.string ⟨#[]⟩) (.bool false)
  exact bodyPost_ret (v := .agg #[.int .i64 15, .string ⟨#[]⟩, .string ⟨#[]⟩, .bool false]) (by simp [results, Try.results63, go_sem, r0, r1, r2, r3]) rfl ⟨by rfl, RB _ _ (by omega) BW.out⟩
end Go.Proofs.Ytdoomfckdjjlaaa

/-! spec.StepState from every valid state: the join. -/
namespace Go.Proofs.Ytdoomfckdjjlaaa
open Go.RowKit

theorem spec_StepState (s : St) (b : UInt8) (w : World) (h : stValid s = true) :
    Calls Try.prog 63 #[stV s, .int .u8 (b.toNat : Int)] w fun e w' => e = .returned (stV (stepM s b)) ∧ Below w.heap.size w w' := by
  rcases val_cases h with ⟨M, rfl, hM⟩ | ⟨M, T, rfl, hM, hT⟩ | ⟨M, T, A, rfl, hM, hT, hA⟩ | ⟨M, T, A, E, rfl, hM, hT, hA⟩ | ⟨T, A, rfl, hT, hA⟩ | ⟨T, rfl, hT⟩
  · have hc : M = 11 ∨ M = 12 ∨ M = 13 ∨ M = 14 ∨ M = 0 ∨ M = 1 ∨ M = 10 ∨ M = 15 := by omega
    rcases hc with rfl | rfl | rfl | rfl | hc
    · exact rp_11 b w
    · exact rp_12 b w
    · exact rp_13 b w
    · exact rp_14 b w
    · unfold stepM
      rcases hc with rfl | rfl | rfl | rfl <;> simp only [Nat.reduceEqDiff, if_true, if_false, or_self, and_false]
      · by_cases hb : b = 60
        · rw [if_pos hb]; exact rp_0l b hb w
        · rw [if_neg hb]; exact rp_0n b hb w
      · by_cases hl : letB b = true
        · rw [if_pos hl]
          have e : moreS 2 [] [] b = ⟨2, [lowC b], [], false⟩ := by
            rw [more_T 2 (by omega)]; rfl
          rw [← e]; exact rp_1l b hl w
        · rw [if_neg hl]
          by_cases h1 : b = 47
          · rw [if_pos h1]; exact rp_1s b h1 w
          rw [if_neg h1]
          by_cases h2 : b = 33
          · rw [if_pos h2]; exact rp_1c b h2 w
          · rw [if_neg h2]; exact rp_1b b (by simpa using hl) h1 h2 w
      · by_cases hb : b = 62
        · rw [if_pos hb]; exact rp_10z b hb w
        · rw [if_neg hb]; exact rp_10n b hb w
      · exact rp_15 b w
  · rcases hM with rfl | rfl
    · exact rp_2 T b hT w
    · exact rp_3 T b hT w
  · rcases hM with rfl | rfl
    · exact rp_4 T A b hT hA w
    · exact rp_5 T A b hT hA w
  · unfold stepM
    rcases hM with rfl | rfl <;> simp only [Nat.reduceEqDiff, if_true, if_false, or_self]
    · by_cases hb : b = 34
      · rw [if_pos hb]; exact rp_6q T A E b hT hA hb w
      · rw [if_neg hb]; exact rp_6n T A E b hT hA hb w
    · by_cases hb : b = 39
      · rw [if_pos hb]; exact rp_7q T A E b hT hA hb w
      · rw [if_neg hb]; exact rp_7n T A E b hT hA hb w
  · exact rp_8 T A b hT hA w
  · have hTl : T.length ≤ 10 := by
      rcases hT with rfl | hT
      · simp
      · exact nameB_len hT
    unfold stepM
    simp only [Nat.reduceEqDiff, if_true, if_false, or_self]
    by_cases he : T = []
    · by_cases hb : b = 62
      · have hl : letB b = false := by subst hb; decide
        rw [if_neg (fun h => h.2 he), if_neg (by rintro (h | h); rw [hl] at h; cases h; exact h.1 he)]
        exact rp_9f T b hT hTl he hb w
      · rw [if_neg (fun h => hb h.1)]
        rcases hl : letB b with _ | _
        · rw [if_neg (by rintro (h | h); cases h; exact h.1 he)]
          exact rp_9e T b hT hTl hl he hb w
        · rw [if_pos (.inl rfl), ← more_T 9 (by omega)]
          exact rp_9l T b hT hTl hl w
    · by_cases hb : b = 62
      · rw [if_pos ⟨hb, he⟩]; exact rp_9z T b hT hTl he hb w
      · rw [if_neg (fun h => hb h.1)]
        rcases hl : letB b with _ | _
        · by_cases hn : namedB b = true
          · have hd : digB b = true ∨ b = 45 := by
              rcases named_yes hn with h | ⟨_, h⟩ | ⟨_, _, h⟩
              · rw [hl] at h; cases h
              · exact .inl h
              · exact .inr h
            rw [if_pos (.inr ⟨he, hd⟩), ← more_T 9 (by omega)]
            exact rp_9n T b hT hTl hl he hn w
          · obtain ⟨_, hd, hm⟩ := named_no hn
            rw [if_neg (by rintro (h | ⟨_, h | h⟩); cases h; rw [hd] at h; cases h; exact hm h)]
            exact rp_9b T b hT hTl hl he (by simpa using hn) hb w
        · rw [if_pos (.inl rfl), ← more_T 9 (by omega)]
          exact rp_9l T b hT hTl hl w
end Go.Proofs.Ytdoomfckdjjlaaa

/- The walk of the law FnStatementTexts. -/
import Derived.Test.YtoajdkcdjdbliaaStmtDraw2
import Derived.Test.YtoajdkcdjdbliaaLawTexts2
import Derived.Test.YtoajdkcdjdbliaaAlive
namespace Go.Proofs.Ytoajdkcdjdbliaa
open Go.RowKit

theorem qN_step (s : ByteArray) (k : Nat) (h : k < s.size) : qN ((bl s).take (k + 1)) = qN ((bl s).take k) + (if s[k] = 63 then 1 else 0) := by
  rw [bl_take s k h, qN_app]
  congr 1
  by_cases hx : s[k] = 63
  · rw [if_pos hx, hx]; rfl
  · rw [if_neg hx]
    unfold qN
    have : (s[k] == 63) = false := by simpa using hx
    simp [this]
theorem joinQ_len (m : Nat) : ∀ L : List (List UInt8), (∀ e ∈ L, e.length ≤ m) → (joinQ L).length ≤ (m + 1) * L.length := by
  intro L
  induction L with
  | nil => intro _; simp [joinQ]
  | cons a L ih =>
    intro h
    have h1 := h a (List.mem_cons_self ..)
    have h2 := ih (fun e he => h e (List.mem_cons_of_mem _ he))
    rcases L with _ | ⟨b, L⟩
    · show a.length ≤ (m + 1) * 1; omega
    · show (a ++ (63 :: joinQ (b :: L))).length ≤ (m + 1) * ((b :: L).length + 1)
      rw [List.length_append, List.length_cons, Nat.mul_add]
      omega
theorem shapeR_len (l : List UInt8) : (shapeR l).1.length ≤ 601 * 602 := by
  unfold shapeR
  split
  · rename_i hc
    have hl : l.length ≤ 600 := by
      have := textB_size (s := mkS l) (by rw [bl_mkS]; exact hc.1)
      rwa [mkS_size] at this
    have h1 := cut_small l
    have h2 := cut_lens l
    have h3 : (cut0 l).2.2.1.length ≤ 0 + l.length := cutT_len _ l (Nat.le_refl _) (false, [], [], [])
    rw [hc.2.1] at h2
    have h4 : (cut0 l).2.2.2.length ≤ 600 := by simp at h2; omega
    refine Nat.le_trans (joinQ_len 600 _ (fun e he => ?_)) ?_
    · rcases List.mem_append.1 he with he | he
      · have := h1.2 e he; omega
      · rw [List.mem_singleton] at he; subst he; have := h1.1; omega
    · rw [List.length_append]
      exact Nat.mul_le_mul_left 601 (by show _ + 1 ≤ 602; omega)
  · exact Nat.zero_le _
theorem textsR_no {l : List UInt8} (h : (textsR l).2 = false) : (textsR l).1 = [] := by
  unfold textsR at h ⊢
  split at h
  · cases h
  · rename_i hc; rw [if_neg hc]

set_option maxRecDepth 100000 in
set_option maxHeartbeats 800000 in
theorem walk_FnStatementTexts (a : Option Addr) (n c : Nat) (z : List Int) (w : World) (hrow : IsRow .u8 w a n c z) :
    Calls Try.prog 5 #[.slice a n c] w fun e w' => e = .returned (.bool true) ∧ Below w.heap.size w w' := by
  have hcap := hrow.caps
  have hby := Lib.hid hrow.bytes
  clear hrow
  by_cases hn : 1048576 < n
  · go_enter Try.func5, Try.ntmps5
    go_wp2
    go_ret
    exact ⟨rfl, Below.refl _ _⟩
  · go_enter Try.func5, Try.ntmps5
    go_wp2_with fail
    refine (draw_StatementTexts _ _ _ _ _ hby.out hcap.1 hcap.2).mono ?_
    rintro e w1 ⟨s, rfl, hs, b1⟩
    have B1 := Lib.hid b1
    clear b1 hby hcap hn
    have CS : Hid (∀ W, Calls Try.prog 8 #[.string s] W (StrsOk W (textsR (bl s)))) := fun W => spec_StatementTexts s W (by omega)
    have CI : Hid (∀ W, Calls Try.prog 9 #[.string s] W (StrsOk W (textsR (bl s)))) := fun W => impl_StatementTexts s W (by omega)
    have CH : Hid (∀ W, Calls Try.prog 7 #[.string s] W (StrOk W (shapeR (bl s)))) := fun W => impl_StatementShape s W (by omega)
    have hle := textsR_len (bl s)
    have hno := Lib.hid (textsR_no (l := bl s))
    have hsh := Lib.hid (shape_texts (l := bl s))
    have hsl := shapeR_len (bl s)
    generalize textsR (bl s) = r at *
    generalize shapeR (bl s) = q at *
    obtain ⟨r1, r2⟩ := r
    obtain ⟨q1, q2⟩ := q
    obtain ⟨X, hX⟩ : ∃ X, X = mkS q1 := ⟨_, rfl⟩
    have HX := Lib.hid hX
    have hXs : X.size ≤ 601 * 602 := by rw [hX, mkS_size]; exact hsl
    have HBX : Hid (bl X = q1) := by show _ = _; rw [hX, bl_mkS]
    clear hX hsl
    go_wp2_with fail
    refine (CI.out _).mono ?_
    rintro e w2 ⟨v2, rfl, o2, b2⟩
    obtain ⟨a2, c2, rfl, _, k2, k2', _⟩ := own_formn o2
    have B2 := Lib.hid (B1.out.trans (b2.mono B1.out.size))
    have O2 := Lib.hid o2
    clear o2 b2
    go_wp2_with fail
    refine (CS.out _).mono ?_
    rintro e w3 ⟨v3, rfl, o3, b3⟩
    obtain ⟨a3, c3, rfl, _, k3, k3', _⟩ := own_formn o3
    have B3 := Lib.hid (B2.out.trans (b3.mono B2.out.size))
    have O23 := Lib.hid (own_below O2.out b3)
    have O3 := Lib.hid o3
    clear o3 b3
    go_wp2_with fail
    refine (sameTexts_any _ _ _ _ _ _ r1 r1 _ (own_formn_row O23.out) (own_formn_row O3.out) rfl rfl (by omega)).mono ?_
    rintro e w4 ⟨rfl, b4⟩
    have B4 := Lib.hid (B3.out.trans (b4.mono B3.out.size))
    clear b4
    cases r2
    · obtain rfl : r1 = [] := hno.out rfl
      go_wp2_with (go_at_call 15; refine (alive_any _).mono ?_; rintro e w5 ⟨rfl, b5⟩)
      go_ret
      exact ⟨rfl, B4.out.trans (b5.mono B4.out.size)⟩
    · go_wp2_with fail
      refine (CH.out _).mono ?_
      rintro e w5 ⟨rfl, b5⟩
      have B5 := Lib.hid (B4.out.trans (b5.mono B4.out.size))
      clear b5
      simp only [← HX.out]
      go_wp2
      go_loop [10, 11] (fun m t => ∃ k d : Nat, k ≤ X.size ∧ t = .int .i64 (k : Int) ∧ m = .int .i64 (d : Int) ∧ d ≤ k ∧ Hid (d = qN ((bl X).take k))) (fun _ t => X.size - (intOf t).toNat)
      case atStart => exact ⟨0, 0, Nat.zero_le _, rfl, rfl, Nat.le_refl _, rfl⟩
      case round =>
        obtain ⟨k, d, hk, rfl, rfl, hd, HD⟩ := hrel
        by_cases hks : k < X.size
        · by_cases hx : X[k] = 63
          · have b1 : ((X[k].toNat : Int) == 63) = true := by rw [hx]; rfl
            have HD2 : Hid (d + 1 = qN ((bl X).take (k + 1))) := by
              show _ = _
              rw [qN_step X k hks, if_pos hx, HD.out]
            clear hx
            go_wp2
            go_round
            case rel => exact ⟨k + 1, d + 1, by omega, by go_num, by go_num, by omega, HD2⟩
            case measure => simp [intOf]; omega
          · have b1 : ((X[k].toNat : Int) == 63) = false := beq63 hx
            have HD2 : Hid (d = qN ((bl X).take (k + 1))) := by
              show _ = _
              rw [qN_step X k hks, if_neg hx, HD.out]; rfl
            clear hx
            go_wp2
            go_round
            case rel => exact ⟨k + 1, d, by omega, by go_num, rfl, by omega, HD2⟩
            case measure => simp [intOf]; omega
        · have hdq : d = qN q1 := by
            have := HD.out
            rwa [List.take_of_length_le (by rw [bl_len]; omega), HBX.out] at this
          cases q2
          · clear hdq
            go_wp2
            go_ret
            exact ⟨rfl, B5.out⟩
          · have h1 := (hsh.out rfl).1
            have hb : ((d : Int) == (r1.length : Int)) = true := by rw [hdq, h1]; simp
            clear hdq h1
            go_wp2
            go_ret
            exact ⟨rfl, B5.out⟩
end Go.Proofs.Ytoajdkcdjdbliaa

/- fits and StarsFit, of the program: by the same plain recursion. -/
import Derived.Test.YtlilmphbjmjpdaaStarsFit
namespace Go.Proofs.Ytlilmphbjmjpdaa
open Go.RowKit

/-- The rest of a string from the n-th byte on. -/
theorem from_at (s : ByteArray) (n : Nat) (i : Int) (hi : i = (n : Int)) (hn : n ≤ s.size) : ∃ t : ByteArray, bl t = (bl s).drop n ∧ ∀ W, (Instr.slice 9 (.string s) (some (.int .i64 i)) none none).run Try.prog W = .ok (.string t) W := by
  subst hi
  refine ⟨s.extract n s.size, ?_, fun W => ?_⟩
  · rw [bl_ext, bl_all]
  · have := run_slice_string_l (P := Try.prog) W 9 s Try.underlying9 .i64 (n : Int) (by omega) (by omega)
    simpa using this
/-- No backslash at the end that stands alone. -/
def slashOk : List UInt8 → Bool
  | [] => true
  | [c] => decide (¬ (c.toNat : Int) = 92)
  | c :: d :: p => if (c.toNat : Int) = 92 then slashOk p else slashOk (d :: p)
theorem slash_other {c : UInt8} {p : List UInt8} (h : ¬ (c.toNat : Int) = 92) : slashOk (c :: p) = slashOk p := by
  cases p
  · simp [slashOk, h]
  · simp only [slashOk, if_neg h]
theorem slash_two {c d : UInt8} {p : List UInt8} (h : (c.toNat : Int) = 92) : slashOk (c :: d :: p) = slashOk p := by simp only [slashOk, if_pos h]
theorem slash_one {c : UInt8} (h : (c.toNat : Int) = 92) : slashOk [c] = false := by simp [slashOk, h]

theorem bl_nil {s : ByteArray} (h : s.size = 0) : bl s = [] := List.eq_nil_of_length_eq_zero (by rw [bl_len]; exact h)
theorem empty_yes {s : ByteArray} (h : s.size = 0) : s.toList.isEmpty = true := by
  have e := bl_nil h
  unfold bl at e
  rw [ByteArray.toList_eq, e]
  rfl
theorem empty_no {s : ByteArray} (h : 0 < s.size) : s.toList.isEmpty = false := by
  rw [ByteArray.toList_eq]
  rcases hl : s.data.toList with _ | ⟨x, l⟩
  · have := bl_len s
    rw [bl, hl] at this
    simp at this
    omega
  · rfl
theorem bl_cons {s : ByteArray} (h : 0 < s.size) : bl s = s[0] :: (bl s).drop 1 := by
  have := bl_drop s 0 h
  rwa [List.drop_zero] at this

set_option maxRecDepth 100000 in
set_option maxHeartbeats 8000000 in
theorem impl_fits (m : Nat) : ∀ (s p : ByteArray) (w : World), p.size ≤ m → s.size ≤ 4611686018427387904 → p.size ≤ 4611686018427387904 → slashOk (bl p) = true →
    Calls Try.prog 25 #[.string s, .string p] w fun e w' => e = .returned (.bool (fitP (bl p) (bl s))) ∧ ∃ q, w' = w.drewN q := by
  induction m with
  | zero =>
    intro s p w hm hs hp hok
    have HE := Lib.hid (bl_nil (s := p) (by omega))
    have e1 := empty_yes (s := p) (by omega)
    have HR : Hid (fitP (bl p) (bl s) = s.toList.isEmpty) := by
      rw [HE.out, fit_nil]
      rcases Nat.eq_zero_or_pos s.size with h | h
      · rw [empty_yes h, bl_nil h]; rfl
      · rw [empty_no h, bl_cons h]; rfl
    clear hok
    go_enter Try.func25, Try.ntmps25
    go_wp2
    go_ret
    exact ⟨ret_bool HR.out.symm, ⟨_, drew_zero⟩⟩
  | succ m ih =>
    intro s p w hm hs hp hok
    rcases Nat.eq_zero_or_pos p.size with hp0 | hp0
    · have HE := Lib.hid (bl_nil hp0)
      have e1 := empty_yes hp0
      have HR : Hid (fitP (bl p) (bl s) = s.toList.isEmpty) := by
        rw [HE.out, fit_nil]
        rcases Nat.eq_zero_or_pos s.size with h | h
        · rw [empty_yes h, bl_nil h]; rfl
        · rw [empty_no h, bl_cons h]; rfl
      clear hok ih
      go_enter Try.func25, Try.ntmps25
      go_wp2
      go_ret
      exact ⟨ret_bool HR.out.symm, ⟨_, drew_zero⟩⟩
    · have e1 := empty_no hp0
      have q0 : (0 : Int) < (p.size : Int) := by omega
      have HP := Lib.hid (bl_cons hp0)
      obtain ⟨p1, hp1, sp1⟩ := from_at p 1 1 rfl (by omega)
      have hp1s : p1.size + 1 = p.size := by have := bl_len p1; rw [hp1, List.length_drop, bl_len] at this; omega
      rw [← hp1] at HP
      have HOK := Lib.hid hok
      have IH : Hid (∀ (s' p' : ByteArray) (w : World), p'.size < p.size → s'.size ≤ s.size → slashOk (bl p') = true → Calls Try.prog 25 #[.string s', .string p'] w fun e w' => e = .returned (.bool (fitP (bl p') (bl s'))) ∧ ∃ q, w' = w.drewN q) :=
        fun s' p' w h1 h2 h3 => ih s' p' w (by omega) (by omega) (by omega) h3
      clear ih hok
      by_cases c42 : (p[0].toNat : Int) = 42
      · have b42 := beq_yes c42
        have HR : Hid (fitP (bl p) (bl s) = anyN (fitP (bl p1)) s 0) := by rw [HP.out, fit_star _ _ c42, anyN, if_pos (Nat.zero_le _)]; rfl
        have HO1 : Hid (slashOk (bl p1) = true) := by have := HOK.out; rwa [HP.out, slash_other (by omega)] at this
        clear c42 hp1
        go_enter Try.func25, Try.ntmps25
        go_wp2
        go_loopw [5] (fun i wr => ∃ n q : Nat, n ≤ s.size + 1 ∧ i = .int .i64 n ∧ wr = w.drewN q ∧ Hid (anyN (fitP (bl p1)) s 0 = anyN (fitP (bl p1)) s n)) (fun i _ => s.size + 1 - (intOf i).toNat)
        case atStart => exact ⟨0, 0, by omega, rfl, drew_zero, rfl⟩
        case round =>
          obtain ⟨n, q, hn, rfl, hwr, HN⟩ := hrel
          have HW := Lib.hid hwr; clear hwr
          by_cases h0 : n ≤ s.size
          · obtain ⟨s1, hs1, ss1⟩ := from_at s n n rfl h0
            have hs1s : s1.size ≤ s.size := by have := bl_len s1; rw [hs1, List.length_drop, bl_len] at this; omega
            have CC : Hid (∀ w, Calls Try.prog 25 #[.string s1, .string p1] w fun e w' => e = .returned (.bool (fitP (bl p1) (bl s1))) ∧ ∃ m, w' = w.drewN m) := fun w => IH.out s1 p1 w (by omega) hs1s HO1.out
            rcases hf : fitP (bl p1) (bl s1) with _ | _
            · rw [hf] at CC
              have HX : Hid (anyN (fitP (bl p1)) s 0 = anyN (fitP (bl p1)) s (n + 1)) := HN.out.trans (anyN_no h0 (by rw [← hs1]; exact hf))
              clear hf hs1
              go_wp2
              go_quiet ((go_at_call 25; exact Calls.quiet_of (CC.out _)))
              go_wp2
              go_roundw
              case rel => exact ⟨n + 1, _, by omega, by go_num, (by rw [HW.out, World.drewN_drewN]), HX⟩
              case measure => simp [intOf]; omega
            · rw [hf] at CC
              have HX := Lib.hid (HN.out.trans (anyN_yes h0 (by rw [← hs1]; exact hf)))
              clear hf hs1
              go_wp2
              go_quiet ((go_at_call 25; exact Calls.quiet_of (CC.out _)))
              go_wp2
              go_ret
              exact ⟨ret_bool (by rw [HR.out, HX.out]), ⟨_, by rw [HW.out, World.drewN_drewN]⟩⟩
          · have HX := Lib.hid (HN.out.trans (anyN_end h0))
            go_wp2
            go_ret
            exact ⟨ret_bool (by rw [HR.out, HX.out]), ⟨_, HW.out⟩⟩
      · have b42 := beq_no c42
        rcases Nat.eq_zero_or_pos s.size with hs0 | hs0
        · have e2 := empty_yes hs0
          have HS := Lib.hid (bl_nil hs0)
          by_cases c63 : (p[0].toNat : Int) = 63
          · have b63 := beq_yes c63
            have HR : Hid (fitP (bl p) (bl s) = false) := by rw [HP.out, HS.out, fit_one _ _ c63]; rfl
            clear c42 c63 IH hp1
            go_enter Try.func25, Try.ntmps25
            go_wp2
            go_quiet (fail)
            go_wp2
            go_ret
            exact ⟨ret_bool HR.out.symm, ⟨_, rfl⟩⟩
          · have b63 := beq_no c63
            by_cases c92 : (p[0].toNat : Int) = 92
            · have b92 := beq_yes c92
              have HR : Hid (fitP (bl p) (bl s) = false) := by
                rw [HP.out, HS.out]
                rcases bl p1 with _ | ⟨d, r⟩
                · exact fit_slash0 _ c92
                · rw [fit_slash _ _ c92]; rfl
              clear c42 c63 c92 IH hp1
              go_enter Try.func25, Try.ntmps25
              go_wp2
              go_quiet (fail)
              go_wp2
              go_ret
              exact ⟨ret_bool HR.out.symm, ⟨_, rfl⟩⟩
            · have b92 := beq_no c92
              have HR : Hid (fitP (bl p) (bl s) = false) := by rw [HP.out, HS.out, fit_other _ _ c42 c63 c92]; rfl
              clear c42 c63 c92 IH hp1
              go_enter Try.func25, Try.ntmps25
              go_wp2
              go_quiet (fail)
              go_wp2
              go_ret
              exact ⟨ret_bool HR.out.symm, ⟨_, rfl⟩⟩
        · have e2 := empty_no hs0
          have s0 : (0 : Int) < (s.size : Int) := by omega
          have HS := Lib.hid (bl_cons hs0)
          obtain ⟨s1, hs1, ss1⟩ := from_at s 1 1 rfl (by omega)
          have hs1s : s1.size + 1 = s.size := by have := bl_len s1; rw [hs1, List.length_drop, bl_len] at this; omega
          rw [← hs1] at HS
          clear hs1
          by_cases c63 : (p[0].toNat : Int) = 63
          · have b63 := beq_yes c63
            have HO1 : Hid (slashOk (bl p1) = true) := by have := HOK.out; rwa [HP.out, slash_other (by omega)] at this
            have HR : Hid (fitP (bl p) (bl s) = fitP (bl p1) (bl s1)) := by rw [HP.out, HS.out, fit_one _ _ c63]; rfl
            have CC : Hid (∀ w, Calls Try.prog 25 #[.string s1, .string p1] w fun e w' => e = .returned (.bool (fitP (bl p1) (bl s1))) ∧ ∃ m, w' = w.drewN m) := fun w => IH.out s1 p1 w (by omega) (by omega) HO1.out
            clear c42 c63 IH hp1
            go_enter Try.func25, Try.ntmps25
            go_wp2
            go_quiet ((go_at_call 25; exact Calls.quiet_of (CC.out _)))
            go_wp2
            go_ret
            exact ⟨ret_bool HR.out.symm, ⟨_, rfl⟩⟩
          · have b63 := beq_no c63
            by_cases c92 : (p[0].toNat : Int) = 92
            · have b92 := beq_yes c92
              have h1 : 1 < p.size := by
                rcases Nat.lt_or_ge 1 p.size with h | h
                · exact h
                · have := HOK.out
                  rw [HP.out, bl_nil (s := p1) (by omega), slash_one c92] at this
                  cases this
              obtain ⟨p2, hp2, sp2⟩ := from_at p 2 2 rfl (by omega)
              have hp2s : p2.size + 2 = p.size := by have := bl_len p2; rw [hp2, List.length_drop, bl_len] at this; omega
              have HP2 : Hid (bl p1 = p[1] :: bl p2) := by rw [hp1, bl_drop p 1 h1, hp2]; rfl
              have HO1 : Hid (slashOk (bl p2) = true) := by have := HOK.out; rwa [HP.out, HP2.out, slash_two c92] at this
              have HR := Lib.hid (fit_slash (d := p[1]) (bl p2) (bl s) c92)
              rw [← HP2.out, ← HP.out, HS.out] at HR
              have CC : Hid (∀ w, Calls Try.prog 25 #[.string s1, .string p2] w fun e w' => e = .returned (.bool (fitP (bl p2) (bl s1))) ∧ ∃ m, w' = w.drewN m) := fun w => IH.out s1 p2 w (by omega) (by omega) HO1.out
              have q1 : (1 : Int) < (p.size : Int) := by omega
              clear c42 c63 c92 IH hp1 hp2
              rcases hsame : sameC s[0] p[1] with _ | _
              · have HF : Hid (fitP (bl p) (bl s) = false) := by rw [HS.out, HR.out]; simp only; rw [hsame, Bool.false_and]; rfl
                unfold sameC at hsame
                go_enter Try.func25, Try.ntmps25
                go_wp2
                go_quiet (fail)
                go_wp2
                go_ret
                exact ⟨ret_bool HF.out.symm, ⟨_, rfl⟩⟩
              · have HF : Hid (fitP (bl p) (bl s) = fitP (bl p2) (bl s1)) := by rw [HS.out, HR.out]; simp only; rw [hsame, Bool.true_and]; rfl
                unfold sameC at hsame
                go_enter Try.func25, Try.ntmps25
                go_wp2
                go_quiet ((go_at_call 25; exact Calls.quiet_of (CC.out _)))
                go_wp2
                go_ret
                exact ⟨ret_bool HF.out.symm, ⟨_, rfl⟩⟩
            · have b92 := beq_no c92
              have HO1 : Hid (slashOk (bl p1) = true) := by have := HOK.out; rwa [HP.out, slash_other c92] at this
              have HR := Lib.hid (fit_other (bl p1) (bl s) c42 c63 c92)
              rw [← HP.out, HS.out] at HR
              have CC : Hid (∀ w, Calls Try.prog 25 #[.string s1, .string p1] w fun e w' => e = .returned (.bool (fitP (bl p1) (bl s1))) ∧ ∃ m, w' = w.drewN m) := fun w => IH.out s1 p1 w (by omega) (by omega) HO1.out
              clear c42 c63 c92 IH hp1
              rcases hsame : sameC s[0] p[0] with _ | _
              · have HF : Hid (fitP (bl p) (bl s) = false) := by rw [HS.out, HR.out]; simp only; rw [hsame, Bool.false_and]; rfl
                unfold sameC at hsame
                go_enter Try.func25, Try.ntmps25
                go_wp2
                go_quiet (fail)
                go_wp2
                go_ret
                exact ⟨ret_bool HF.out.symm, ⟨_, rfl⟩⟩
              · have HF : Hid (fitP (bl p) (bl s) = fitP (bl p1) (bl s1)) := by rw [HS.out, HR.out]; simp only; rw [hsame, Bool.true_and]; rfl
                unfold sameC at hsame
                go_enter Try.func25, Try.ntmps25
                go_wp2
                go_quiet ((go_at_call 25; exact Calls.quiet_of (CC.out _)))
                go_wp2
                go_ret
                exact ⟨ret_bool HF.out.symm, ⟨_, rfl⟩⟩
end Go.Proofs.Ytlilmphbjmjpdaa

/- StarsFit, of the program and of the reference: both answer by one plain recursion. -/
import Derived.Test.YtlilmphbjmjpdaaStars2
import Derived.Deep.QuietTactic
import Derived.BigQuiet
namespace Go.Proofs.Ytlilmphbjmjpdaa
open Go.RowKit

def sameC (a b : UInt8) : Bool := ((a.toNat : Int) == (b.toNat : Int))
/-- Does some rest of the list do? -/
def anyRest (f : List UInt8 → Bool) : List UInt8 → Bool
  | [] => f []
  | c :: l => f (c :: l) || anyRest f l
/-- Does the text fit the pattern? -/
def fitP : List UInt8 → List UInt8 → Bool
  | [], s => s.isEmpty
  | [c], s =>
    if (c.toNat : Int) = 42 then anyRest (fitP []) s
    else if (c.toNat : Int) = 63 then (match s with | [] => false | _ :: s' => fitP [] s')
    else if (c.toNat : Int) = 92 then false
    else (match s with | [] => false | x :: s' => sameC x c && fitP [] s')
  | c :: d :: p, s =>
    if (c.toNat : Int) = 42 then anyRest (fitP (d :: p)) s
    else if (c.toNat : Int) = 63 then (match s with | [] => false | _ :: s' => fitP (d :: p) s')
    else if (c.toNat : Int) = 92 then (match s with | [] => false | x :: s' => sameC x d && fitP p s')
    else (match s with | [] => false | x :: s' => sameC x c && fitP (d :: p) s')
theorem fit_nil (s : List UInt8) : fitP [] s = s.isEmpty := by rw [fitP]
theorem fit_star {c : UInt8} (p s : List UInt8) (h : (c.toNat : Int) = 42) : fitP (c :: p) s = anyRest (fitP p) s := by
  cases p <;> simp only [fitP, if_pos h]
theorem fit_one {c : UInt8} (p s : List UInt8) (h : (c.toNat : Int) = 63) : fitP (c :: p) s = match s with | [] => false | _ :: s' => fitP p s' := by
  cases p <;> simp only [fitP, if_neg (show ¬ (c.toNat : Int) = 42 by omega), if_pos h]
theorem fit_slash {c d : UInt8} (p s : List UInt8) (h : (c.toNat : Int) = 92) : fitP (c :: d :: p) s = match s with | [] => false | x :: s' => sameC x d && fitP p s' := by
  simp only [fitP, if_neg (show ¬ (c.toNat : Int) = 42 by omega), if_neg (show ¬ (c.toNat : Int) = 63 by omega), if_pos h]
theorem fit_slash0 {c : UInt8} (s : List UInt8) (h : (c.toNat : Int) = 92) : fitP [c] s = false := by
  simp only [fitP, if_neg (show ¬ (c.toNat : Int) = 42 by omega), if_neg (show ¬ (c.toNat : Int) = 63 by omega), if_pos h]
theorem fit_other {c : UInt8} (p s : List UInt8) (h1 : ¬ (c.toNat : Int) = 42) (h2 : ¬ (c.toNat : Int) = 63) (h3 : ¬ (c.toNat : Int) = 92) : fitP (c :: p) s = match s with | [] => false | x :: s' => sameC x c && fitP p s' := by
  cases p <;> simp only [fitP, if_neg h1, if_neg h2, if_neg h3]

def anyN (f : List UInt8 → Bool) (s : ByteArray) (n : Nat) : Bool := if n ≤ s.size then anyRest f ((bl s).drop n) else false
theorem anyRest_yes {f : List UInt8 → Bool} {l : List UInt8} (h : f l = true) : anyRest f l = true := by
  cases l
  · exact h
  · simp [anyRest, h]
theorem anyN_yes {f : List UInt8 → Bool} {s : ByteArray} {n : Nat} (hn : n ≤ s.size) (h : f ((bl s).drop n) = true) : anyN f s n = true := by rw [anyN, if_pos hn]; exact anyRest_yes h
theorem anyN_no {f : List UInt8 → Bool} {s : ByteArray} {n : Nat} (hn : n ≤ s.size) (h : f ((bl s).drop n) = false) : anyN f s n = anyN f s (n + 1) := by
  rw [anyN, if_pos hn, anyN]
  by_cases h1 : n + 1 ≤ s.size
  · rw [if_pos h1]
    rw [bl_drop s n (by omega)] at h ⊢
    rw [anyRest, h]
    rfl
  · rw [if_neg h1]
    rw [List.drop_eq_nil_of_le (by rw [bl_len]; omega)] at h ⊢
    exact h
theorem anyN_end {f : List UInt8 → Bool} {s : ByteArray} {n : Nat} (hn : ¬ n ≤ s.size) : anyN f s n = false := by rw [anyN, if_neg hn]
theorem drop_end {s : ByteArray} {n : Nat} (hn : s.size ≤ n) : (bl s).drop n = [] := List.drop_eq_nil_of_le (by rw [bl_len]; exact hn)

theorem drew_zero {w : World} : w = w.drewN 0 := rfl

set_option maxRecDepth 100000 in
set_option maxHeartbeats 1600000 in
theorem spec_fits (s p : ByteArray) (hs : s.size ≤ 4611686018427387904) (hp : p.size ≤ 4611686018427387904) (m : Nat) : ∀ (k at' : Nat) (w : World), p.size - k ≤ m → k ≤ p.size → at' ≤ s.size →
    Calls Try.prog 23 #[.string s, .string p, .int .i64 (at' : Int), .int .i64 (k : Int)] w fun e w' => e = .returned (.bool (fitP ((bl p).drop k) ((bl s).drop at'))) ∧ ∃ q, w' = w.drewN q := by
  induction m with
  | zero =>
    intro k t w hm hk ht
    obtain rfl : k = p.size := by omega
    have HR : Hid (fitP ((bl p).drop p.size) ((bl s).drop t) = ((t : Int) == (s.size : Int))) := by
      rw [drop_end (Nat.le_refl _), fit_nil, Bool.eq_iff_iff, List.isEmpty_iff_length_eq_zero, List.length_drop, bl_len]
      simp only [beq_iff_eq]
      constructor <;> intro h <;> omega
    go_enter Try.func23, Try.ntmps23
    go_wp2
    go_ret
    exact ⟨ret_bool HR.out.symm, ⟨_, drew_zero⟩⟩
  | succ m ih =>
    intro k t w hm hk ht
    by_cases hkp : k = p.size
    · subst hkp
      have HR : Hid (fitP ((bl p).drop p.size) ((bl s).drop t) = ((t : Int) == (s.size : Int))) := by
        rw [drop_end (Nat.le_refl _), fit_nil, Bool.eq_iff_iff, List.isEmpty_iff_length_eq_zero, List.length_drop, bl_len]
        simp only [beq_iff_eq]
        constructor <;> intro h <;> omega
      clear ih
      go_enter Try.func23, Try.ntmps23
      go_wp2
      go_ret
      exact ⟨ret_bool HR.out.symm, ⟨_, drew_zero⟩⟩
    · have hk' : k < p.size := by omega
      have hkb : ((k : Int) == (p.size : Int)) = false := by simp; omega
      have HD := Lib.hid (bl_drop p k hk')
      have IH : Hid (∀ (k' t' : Nat) (w : World), k < k' → k' ≤ p.size → t' ≤ s.size → Calls Try.prog 23 #[.string s, .string p, .int .i64 (t' : Int), .int .i64 (k' : Int)] w fun e w' => e = .returned (.bool (fitP ((bl p).drop k') ((bl s).drop t'))) ∧ ∃ q, w' = w.drewN q) :=
        fun k' t' w h1 h2 h3 => ih k' t' w (by omega) h2 h3
      clear ih
      by_cases c42 : (p[k].toNat : Int) = 42
      · have b42 := beq_yes c42
        have HR : Hid (fitP ((bl p).drop k) ((bl s).drop t) = anyN (fitP ((bl p).drop (k + 1))) s t) := by rw [HD.out, fit_star _ _ c42, anyN, if_pos ht]; rfl
        clear c42
        go_enter Try.func23, Try.ntmps23
        go_wp2
        go_loopw [9] (fun i wr => ∃ n q : Nat, n ≤ s.size + 1 ∧ i = .int .i64 n ∧ wr = w.drewN q ∧ Hid (anyN (fitP ((bl p).drop (k + 1))) s t = anyN (fitP ((bl p).drop (k + 1))) s n)) (fun i _ => s.size + 1 - (intOf i).toNat)
        case atStart => exact ⟨t, 0, by omega, rfl, drew_zero, rfl⟩
        case round =>
          obtain ⟨n, q, hn, rfl, rfl, HN⟩ := hrel
          by_cases h0 : n ≤ s.size
          · have C := IH.out (k + 1) n (w.drewN q) (by omega) (by omega) h0
            have CC : Hid (Calls Try.prog 23 #[.string s, .string p, .int .i64 (n : Int), .int .i64 ((k : Int) + 1)] (w.drewN q) fun e w' => e = .returned (.bool (fitP ((bl p).drop (k + 1)) ((bl s).drop n))) ∧ ∃ m, w' = (w.drewN q).drewN m) := C
            clear C
            rcases hf : fitP ((bl p).drop (k + 1)) ((bl s).drop n) with _ | _
            · rw [hf] at CC
              have HX : Hid (anyN (fitP ((bl p).drop (k + 1))) s t = anyN (fitP ((bl p).drop (k + 1))) s (n + 1)) := HN.out.trans (anyN_no h0 hf)
              clear hf
              go_wp2_with fail
              refine CC.out.mono ?_
              rintro e w1 ⟨rfl, m1, rfl⟩
              go_wp2
              go_roundw
              case rel => exact ⟨n + 1, q + m1, by omega, by go_num, rfl, HX⟩
              case measure => simp [intOf]; omega
            · rw [hf] at CC
              have HX := Lib.hid (HN.out.trans (anyN_yes h0 hf))
              clear hf
              go_wp2_with fail
              refine CC.out.mono ?_
              rintro e w1 ⟨rfl, m1, rfl⟩
              go_wp2
              go_ret
              exact ⟨ret_bool (by rw [HR.out, HX.out]), ⟨_, rfl⟩⟩
          · have HX := Lib.hid (HN.out.trans (anyN_end h0))
            go_wp2
            go_ret
            exact ⟨ret_bool (by rw [HR.out, HX.out]), ⟨_, rfl⟩⟩
      · have b42 := beq_no c42
        by_cases ht' : t < s.size
        · have HT := Lib.hid (bl_drop s t ht')
          by_cases c63 : (p[k].toNat : Int) = 63
          · have b63 := beq_yes c63
            have HR := Lib.hid (fit_one ((bl p).drop (k + 1)) ((bl s).drop t) c63)
            rw [← HD.out, HT.out] at HR
            have C : Hid (Calls Try.prog 23 #[.string s, .string p, .int .i64 ((t : Int) + 1), .int .i64 ((k : Int) + 1)] w fun e w' => e = .returned (.bool (fitP ((bl p).drop (k + 1)) ((bl s).drop (t + 1)))) ∧ ∃ q, w' = w.drewN q) := IH.out (k + 1) (t + 1) w (by omega) (by omega) (by omega)
            clear c42 c63
            go_enter Try.func23, Try.ntmps23
            go_wp2_with fail
            refine C.out.mono ?_
            rintro e w1 ⟨rfl, m1, rfl⟩
            go_wp2
            go_ret
            exact ⟨ret_bool (by rw [HT.out, HR.out]), ⟨_, rfl⟩⟩
          · have b63 := beq_no c63
            by_cases c92 : (p[k].toNat : Int) = 92
            · have b92 := beq_yes c92
              by_cases hk1 : k + 1 < p.size
              · have HD1 := Lib.hid (bl_drop p (k + 1) hk1)
                have HR := Lib.hid (fit_slash (d := p[k + 1]) ((bl p).drop (k + 1 + 1)) ((bl s).drop t) c92)
                rw [← HD1.out, ← HD.out, HT.out] at HR
                have C : Hid (∀ w, Calls Try.prog 23 #[.string s, .string p, .int .i64 ((t : Int) + 1), .int .i64 ((k : Int) + 2)] w fun e w' => e = .returned (.bool (fitP ((bl p).drop (k + 1 + 1)) ((bl s).drop (t + 1)))) ∧ ∃ q, w' = w.drewN q) := fun w => IH.out (k + 1 + 1) (t + 1) w (by omega) (by omega) (by omega)
                clear c42 c63 c92
                rcases hsame : sameC s[t] p[k + 1] with _ | _
                · have HF : Hid (fitP ((bl p).drop k) ((bl s).drop t) = false) := by rw [HT.out, HR.out]; simp only; rw [hsame, Bool.false_and]; rfl
                  unfold sameC at hsame
                  have t0 : (t : Int) < (s.size : Int) := by omega
                  have t00 : 0 ≤ (t : Int) := by omega
                  have d0 : decide ((t : Int) < (s.size : Int)) = true := decide_eq_true t0
                  have t1 : (k : Int) + 1 < (p.size : Int) := by omega
                  have t10 : 0 ≤ (k : Int) + 1 := by omega
                  have d1 : decide ((k : Int) + 1 < (p.size : Int)) = true := decide_eq_true t1
                  go_enter Try.func23, Try.ntmps23
                  go_wp2
                  go_quiet (fail)
                  go_wp2
                  go_ret
                  exact ⟨ret_bool HF.out.symm, ⟨_, rfl⟩⟩
                · have HF : Hid (fitP ((bl p).drop k) ((bl s).drop t) = fitP ((bl p).drop (k + 1 + 1)) ((bl s).drop (t + 1))) := by rw [HT.out, HR.out]; simp only; rw [hsame, Bool.true_and]; rfl
                  unfold sameC at hsame
                  have t0 : (t : Int) < (s.size : Int) := by omega
                  have t00 : 0 ≤ (t : Int) := by omega
                  have d0 : decide ((t : Int) < (s.size : Int)) = true := decide_eq_true t0
                  have t1 : (k : Int) + 1 < (p.size : Int) := by omega
                  have t10 : 0 ≤ (k : Int) + 1 := by omega
                  have d1 : decide ((k : Int) + 1 < (p.size : Int)) = true := decide_eq_true t1
                  go_enter Try.func23, Try.ntmps23
                  go_wp2
                  go_quiet ((go_at_call 23; exact Calls.quiet_of (C.out _)))
                  go_wp2
                  go_ret
                  exact ⟨ret_bool HF.out.symm, ⟨_, rfl⟩⟩
              · have HR : Hid (fitP ((bl p).drop k) ((bl s).drop t) = false) := by rw [HD.out, drop_end (s := p) (n := k + 1) (by omega), fit_slash0 _ c92]; rfl
                have t1 : ¬ ((k : Int) + 1 < (p.size : Int)) := by omega
                have d1 : decide ((k : Int) + 1 < (p.size : Int)) = false := decide_eq_false t1
                clear c42 c63 c92 IH
                go_enter Try.func23, Try.ntmps23
                go_wp2
                go_quiet (fail)
                go_wp2
                go_ret
                exact ⟨ret_bool HR.out.symm, ⟨_, rfl⟩⟩
            · have b92 := beq_no c92
              have HR := Lib.hid (fit_other ((bl p).drop (k + 1)) ((bl s).drop t) c42 c63 c92)
              rw [← HD.out, HT.out] at HR
              have C : Hid (∀ w, Calls Try.prog 23 #[.string s, .string p, .int .i64 ((t : Int) + 1), .int .i64 ((k : Int) + 1)] w fun e w' => e = .returned (.bool (fitP ((bl p).drop (k + 1)) ((bl s).drop (t + 1)))) ∧ ∃ q, w' = w.drewN q) := fun w => IH.out (k + 1) (t + 1) w (by omega) (by omega) (by omega)
              clear c42 c63 c92
              rcases hsame : sameC s[t] p[k] with _ | _
              · have HF : Hid (fitP ((bl p).drop k) ((bl s).drop t) = false) := by rw [HT.out, HR.out]; simp only; rw [hsame, Bool.false_and]; rfl
                unfold sameC at hsame
                have t0 : (t : Int) < (s.size : Int) := by omega
                have t00 : 0 ≤ (t : Int) := by omega
                have d0 : decide ((t : Int) < (s.size : Int)) = true := decide_eq_true t0
                have t1 : (k : Int) < (p.size : Int) := by omega
                have t10 : 0 ≤ (k : Int) := by omega
                go_enter Try.func23, Try.ntmps23
                go_wp2
                go_quiet (fail)
                go_wp2
                go_ret
                exact ⟨ret_bool HF.out.symm, ⟨_, rfl⟩⟩
              · have HF : Hid (fitP ((bl p).drop k) ((bl s).drop t) = fitP ((bl p).drop (k + 1)) ((bl s).drop (t + 1))) := by rw [HT.out, HR.out]; simp only; rw [hsame, Bool.true_and]; rfl
                unfold sameC at hsame
                have t0 : (t : Int) < (s.size : Int) := by omega
                have t00 : 0 ≤ (t : Int) := by omega
                have d0 : decide ((t : Int) < (s.size : Int)) = true := decide_eq_true t0
                have t1 : (k : Int) < (p.size : Int) := by omega
                have t10 : 0 ≤ (k : Int) := by omega
                go_enter Try.func23, Try.ntmps23
                go_wp2
                go_quiet ((go_at_call 23; exact Calls.quiet_of (C.out _)))
                go_wp2
                go_ret
                exact ⟨ret_bool HF.out.symm, ⟨_, rfl⟩⟩
        · obtain rfl : t = s.size := by omega
          have HT := Lib.hid (drop_end (s := s) (Nat.le_refl _))
          by_cases c63 : (p[k].toNat : Int) = 63
          · have b63 := beq_yes c63
            have HR : Hid (fitP ((bl p).drop k) ((bl s).drop s.size) = false) := by rw [HD.out, HT.out, fit_one _ _ c63]; rfl
            clear c42 c63 IH
            go_enter Try.func23, Try.ntmps23
            go_wp2
            go_ret
            exact ⟨ret_bool HR.out.symm, ⟨_, drew_zero⟩⟩
          · have b63 := beq_no c63
            by_cases c92 : (p[k].toNat : Int) = 92
            · have b92 := beq_yes c92
              have HR : Hid (fitP ((bl p).drop k) ((bl s).drop s.size) = false) := by
                rw [HD.out, HT.out]
                rcases (bl p).drop (k + 1) with _ | ⟨d, r⟩
                · exact fit_slash0 _ c92
                · rw [fit_slash _ _ c92]; rfl
              have t0 : ¬ ((s.size : Int) < (s.size : Int)) := by omega
              have d0 : decide ((s.size : Int) < (s.size : Int)) = false := decide_eq_false t0
              clear c42 c63 c92 IH
              by_cases hk1 : (k : Int) + 1 < (p.size : Int)
              · have d1 : decide ((k : Int) + 1 < (p.size : Int)) = true := decide_eq_true hk1
                go_enter Try.func23, Try.ntmps23
                go_wp2
                go_quiet (fail)
                go_wp2
                go_ret
                exact ⟨ret_bool HR.out.symm, ⟨_, rfl⟩⟩
              · have d1 : decide ((k : Int) + 1 < (p.size : Int)) = false := decide_eq_false hk1
                go_enter Try.func23, Try.ntmps23
                go_wp2
                go_quiet (fail)
                go_wp2
                go_ret
                exact ⟨ret_bool HR.out.symm, ⟨_, rfl⟩⟩
            · have b92 := beq_no c92
              have HR : Hid (fitP ((bl p).drop k) ((bl s).drop s.size) = false) := by rw [HD.out, HT.out, fit_other _ _ c42 c63 c92]; rfl
              have t0 : ¬ ((s.size : Int) < (s.size : Int)) := by omega
              have d0 : decide ((s.size : Int) < (s.size : Int)) = false := decide_eq_false t0
              clear c42 c63 c92 IH
              go_enter Try.func23, Try.ntmps23
              go_wp2
              go_quiet (fail)
              go_wp2
              go_ret
              exact ⟨ret_bool HR.out.symm, ⟨_, rfl⟩⟩
end Go.Proofs.Ytlilmphbjmjpdaa

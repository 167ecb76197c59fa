/- QuoteWord, of the program and of the reference. -/
import Derived.Test.YtdiaonhmhmdplaaDoorMax
import Derived.Test.YtdiaonhmhmdplaaDoorByteC
namespace Go.Proofs.YtdiaonhmhmdplaaDoor
open Go.RowKit

/-- Bytes that need no quotes. -/
def plB (c : UInt8) : Bool := letB c || (digB c || (((c.toNat : Int) == 45) || (((c.toNat : Int) == 95) || (((c.toNat : Int) == 46) || (((c.toNat : Int) == 47) || (((c.toNat : Int) == 61) || (((c.toNat : Int) == 58) || ((c.toNat : Int) == 44))))))))
theorem plB_eq (c : UInt8) : plB c = (letB c || (digB c || (((c.toNat : Int) == 45) || (((c.toNat : Int) == 95) || (((c.toNat : Int) == 46) || (((c.toNat : Int) == 47) || (((c.toNat : Int) == 61) || (((c.toNat : Int) == 58) || ((c.toNat : Int) == 44))))))))) := rfl
theorem plB_has (c : UInt8) : plB c = (letB c || (digB c || hasB (bl ⟨#[45, 95, 46, 47, 61, 58, 44]⟩) c)) := byte_allW (p := fun c => plB c = (letB c || (digB c || hasB (bl ⟨#[45, 95, 46, 47, 61, 58, 44]⟩) c))) (by decide +kernel) c

set_option maxHeartbeats 1600000 in
theorem spec_l35Plain (c : UInt8) (w : World) : Calls Tryd.prog 20 #[.int .u8 (c.toNat : Int)] w fun e w' => e = .returned (.bool (plB c)) ∧ w = w' := by
  have HB := plB_eq c
  have CL := fun W => spec_l1Letter c W
  have CD := fun W => spec_l1Digit c W
  generalize letB c = g1 at *
  generalize digB c = g2 at *
  generalize plB c = r at *
  have CL' := Lib.hid CL
  have CD' := Lib.hid CD
  clear CL CD
  cases g1
  · cases g2
    · rcases h1 : ((c.toNat : Int) == 45) with _ | _
      · rcases h2 : ((c.toNat : Int) == 95) with _ | _
        · rcases h3 : ((c.toNat : Int) == 46) with _ | _
          · rcases h4 : ((c.toNat : Int) == 47) with _ | _
            · rcases h5 : ((c.toNat : Int) == 61) with _ | _
              · rcases h6 : ((c.toNat : Int) == 58) with _ | _
                · rcases h7 : ((c.toNat : Int) == 44) with _ | _
                  all_goals
                    rw [h1, h2, h3, h4, h5, h6, h7] at HB
                    have HB' := Lib.hid HB
                    clear HB
                    go_enter Tryd.func20, Tryd.ntmps20
                    go_wp2_with fail
                    refine (CL'.out _).mono ?_
                    rintro e w1 ⟨rfl, rfl⟩
                    go_wp2_with fail
                    refine (CD'.out _).mono ?_
                    rintro e w1 ⟨rfl, rfl⟩
                    go_wp2
                    go_ret
                    exact ⟨ret_bool HB'.out.symm, rfl⟩
                · rw [h1, h2, h3, h4, h5, h6] at HB
                  have HB' := Lib.hid HB
                  clear HB
                  go_enter Tryd.func20, Tryd.ntmps20
                  go_wp2_with fail
                  refine (CL'.out _).mono ?_
                  rintro e w1 ⟨rfl, rfl⟩
                  go_wp2_with fail
                  refine (CD'.out _).mono ?_
                  rintro e w1 ⟨rfl, rfl⟩
                  go_wp2
                  go_ret
                  exact ⟨ret_bool HB'.out.symm, rfl⟩
              · rw [h1, h2, h3, h4, h5] at HB
                have HB' := Lib.hid HB
                clear HB
                go_enter Tryd.func20, Tryd.ntmps20
                go_wp2_with fail
                refine (CL'.out _).mono ?_
                rintro e w1 ⟨rfl, rfl⟩
                go_wp2_with fail
                refine (CD'.out _).mono ?_
                rintro e w1 ⟨rfl, rfl⟩
                go_wp2
                go_ret
                exact ⟨ret_bool HB'.out.symm, rfl⟩
            · rw [h1, h2, h3, h4] at HB
              have HB' := Lib.hid HB
              clear HB
              go_enter Tryd.func20, Tryd.ntmps20
              go_wp2_with fail
              refine (CL'.out _).mono ?_
              rintro e w1 ⟨rfl, rfl⟩
              go_wp2_with fail
              refine (CD'.out _).mono ?_
              rintro e w1 ⟨rfl, rfl⟩
              go_wp2
              go_ret
              exact ⟨ret_bool HB'.out.symm, rfl⟩
          · rw [h1, h2, h3] at HB
            have HB' := Lib.hid HB
            clear HB
            go_enter Tryd.func20, Tryd.ntmps20
            go_wp2_with fail
            refine (CL'.out _).mono ?_
            rintro e w1 ⟨rfl, rfl⟩
            go_wp2_with fail
            refine (CD'.out _).mono ?_
            rintro e w1 ⟨rfl, rfl⟩
            go_wp2
            go_ret
            exact ⟨ret_bool HB'.out.symm, rfl⟩
        · rw [h1, h2] at HB
          have HB' := Lib.hid HB
          clear HB
          go_enter Tryd.func20, Tryd.ntmps20
          go_wp2_with fail
          refine (CL'.out _).mono ?_
          rintro e w1 ⟨rfl, rfl⟩
          go_wp2_with fail
          refine (CD'.out _).mono ?_
          rintro e w1 ⟨rfl, rfl⟩
          go_wp2
          go_ret
          exact ⟨ret_bool HB'.out.symm, rfl⟩
      · rw [h1] at HB
        have HB' := Lib.hid HB
        clear HB
        go_enter Tryd.func20, Tryd.ntmps20
        go_wp2_with fail
        refine (CL'.out _).mono ?_
        rintro e w1 ⟨rfl, rfl⟩
        go_wp2_with fail
        refine (CD'.out _).mono ?_
        rintro e w1 ⟨rfl, rfl⟩
        go_wp2
        go_ret
        exact ⟨ret_bool HB'.out.symm, rfl⟩
    · have HB' := Lib.hid HB
      clear HB
      go_enter Tryd.func20, Tryd.ntmps20
      go_wp2_with fail
      refine (CL'.out _).mono ?_
      rintro e w1 ⟨rfl, rfl⟩
      go_wp2_with fail
      refine (CD'.out _).mono ?_
      rintro e w1 ⟨rfl, rfl⟩
      go_wp2
      go_ret
      exact ⟨ret_bool HB'.out.symm, rfl⟩
  · have HB' := Lib.hid HB
    clear HB
    go_enter Tryd.func20, Tryd.ntmps20
    go_wp2_with fail
    refine (CL'.out _).mono ?_
    rintro e w1 ⟨rfl, rfl⟩
    go_wp2
    go_ret
    exact ⟨ret_bool HB'.out.symm, rfl⟩

theorem tl_bl (s : ByteArray) : s.toList.isEmpty = (bl s).isEmpty := by rw [ByteArray.toList_eq]; rfl
def qw1 (x : UInt8) : List UInt8 := if x = 39 then [39, 34, 39, 34, 39] else [x]
def qwL (l : List UInt8) : List UInt8 := l.flatMap qw1
/-- Only bytes that need no quotes, and at least one. -/
def qwB (l : List UInt8) : Bool := !l.isEmpty && l.all plB
/-- The word of a text. -/
def qwR (l : List UInt8) : List UInt8 := if textB l = true then (if qwB l = true then l else 39 :: (qwL l ++ [39])) else []
theorem qwR_no {l : List UInt8} (h : textB l = false) : qwR l = [] := by rw [qwR, if_neg (by rw [h]; simp)]
theorem qwR_plain {l : List UInt8} (h : textB l = true) (h2 : qwB l = true) : qwR l = l := by rw [qwR, if_pos h, if_pos h2]
theorem qwR_quoted {l : List UInt8} (h : textB l = true) (h2 : qwB l = false) : qwR l = 39 :: (qwL l ++ [39]) := by rw [qwR, if_pos h, if_neg (by rw [h2]; simp)]
theorem qwL_snoc (l : List UInt8) (x : UInt8) : qwL (l ++ [x]) = qwL l ++ qw1 x := by simp [qwL]
theorem qwL_len (l : List UInt8) : (qwL l).length ≤ 5 * l.length := by
  induction l with
  | nil => simp [qwL]
  | cons x l ih =>
    have : qwL (x :: l) = qw1 x ++ qwL l := by simp [qwL]
    rw [this, List.length_append]
    have h2 : (qw1 x).length ≤ 5 := by unfold qw1; split <;> simp
    simp only [List.length_cons]
    omega
theorem qwR_len (l : List UInt8) : (qwR l).length ≤ 3002 := by
  rcases h : textB l with _ | _
  · rw [qwR_no h]; simp
  · have hl : l.length ≤ 600 := by
      have := textB_size (s := mkS l) (by rw [bl_mkS]; exact h)
      rwa [mkS_size] at this
    rcases h2 : qwB l with _ | _
    · rw [qwR_quoted h h2]
      have := qwL_len l
      simp only [List.length_cons, List.length_append, List.length_nil]
      omega
    · rw [qwR_plain h h2]; omega
theorem ret_strQ {a b : ByteArray} (h : a = b) : Ending.returned (.string a) = .returned (.string b) := by rw [h]
theorem pre_snoc (s : ByteArray) (k : Nat) (h : k < s.size) (e : Bool) : (e && ((bl s).take (k + 1)).all plB) = ((e && ((bl s).take k).all plB) && plB s[k]) := by
  rw [bl_take s k h, List.all_append]
  simp [Bool.and_assoc]

set_option maxHeartbeats 1600000 in
theorem spec_QuoteWord (s : ByteArray) (w : World) (hs : s.size ≤ 1099511627776) :
    Calls Tryd.prog 12 #[.string s] w fun e w' => e = .returned (.string (mkS (qwR (bl s)))) ∧ w = w' := by
  have CT := Lib.hid (fun W' => spec_TextValid s W' (by omega))
  obtain ⟨e0, he⟩ : ∃ b : Bool, s.toList.isEmpty = b := ⟨_, rfl⟩
  have hE : Hid ((bl s).isEmpty = e0) := by show _ = _; rw [← tl_bl]; exact he
  go_enter Tryd.func12, Tryd.ntmps12
  go_wp2
  go_loop [3, 4] (fun g t => ∃ (k : Nat) (b : Bool), k ≤ s.size ∧ t = .int .i64 (k : Int) ∧ g = .bool b ∧ Hid (b = (!e0 && ((bl s).take k).all plB))) (fun _ t => s.size - (intOf t).toNat)
  case atStart => exact ⟨0, _, Nat.zero_le _, rfl, rfl, by show _ = _; simp⟩
  case round =>
    obtain ⟨k, b, hk, rfl, rfl, HB⟩ := hrel
    by_cases hks : k < s.size
    · have HN := Lib.hid (pre_snoc s k hks (!e0))
      have CP := Lib.hid (fun W => spec_l35Plain s[k] W)
      cases b
      · have HB2 : Hid (false = (!e0 && ((bl s).take (k + 1)).all plB)) := by show _ = _; rw [HN.out, ← HB.out]; rfl
        go_wp2
        go_round
        case rel => exact ⟨k + 1, false, by omega, by go_num, rfl, HB2⟩
        case measure => simp [intOf]; omega
      · have HB2 : Hid (plB s[k] = (!e0 && ((bl s).take (k + 1)).all plB)) := by show _ = _; rw [HN.out, ← HB.out]; rfl
        go_wp2_with fail
        refine (CP.out _).mono ?_
        rintro e w1 ⟨rfl, rfl⟩
        go_wp2
        go_round
        case rel => exact ⟨k + 1, _, by omega, by go_num, rfl, HB2⟩
        case measure => simp [intOf]; omega
    · have HB2 : Hid (b = qwB (bl s)) := by
        have := HB.out
        rw [List.take_of_length_le (by rw [bl_len]; omega)] at this
        show _ = _
        rw [this, qwB, hE.out]
      have CT := CT.out
      rcases ht : textB (bl s) with _ | _
      · have HR : Hid (mkS (qwR (bl s)) = ⟨#[]⟩) := by rw [qwR_no ht]; rfl
        rw [ht] at CT
        have CT2 := Lib.hid CT
        clear CT ht
        go_wp2_with fail
        refine (CT2.out _).mono ?_
        rintro e w1 ⟨rfl, rfl⟩
        go_wp2
        go_ret
        exact ⟨ret_strQ HR.out.symm, rfl⟩
      · have hsz := textB_size ht
        cases b
        · have HR : Hid (qwR (bl s) = 39 :: (qwL (bl s) ++ [39])) := qwR_quoted ht HB2.out.symm
          rw [ht] at CT
          have CT2 := Lib.hid CT
          clear CT ht
          go_wp2_with fail
          refine (CT2.out _).mono ?_
          rintro e w1 ⟨rfl, rfl⟩
          go_wp2
          go_loop [5, 6] (fun v t => ∃ (k : Nat) (x : ByteArray), k ≤ s.size ∧ t = .int .i64 (k : Int) ∧ v = .string x ∧ x.size ≤ 5 * k + 1 ∧ Hid (x = mkS (39 :: qwL ((bl s).take k)))) (fun _ t => s.size - (intOf t).toNat)
          case atStart => exact ⟨0, _, Nat.zero_le _, rfl, rfl, by decide, rfl⟩
          case round =>
            obtain ⟨k, x, hk, rfl, rfl, hxs, HX⟩ := hrel
            by_cases hks : k < s.size
            · have hes : (s.extract k (k + 1)).size = 1 := by rw [← bl_len, bl_one s k hks]; rfl
              have HES := Lib.hid hes
              clear hes
              by_cases hx : s[k] = 39
              · have b1 : ((s[k].toNat : Int) == 39) = true := by rw [hx]; rfl
                have HX2 : Hid (x ++ ⟨#[39, 34, 39, 34, 39]⟩ = mkS (39 :: qwL ((bl s).take (k + 1)))) := by
                  show _ = _
                  apply bl_inj
                  rw [bl_app, HX.out, bl_mkS, bl_mkS, bl_take s k hks, qwL_snoc, qw1, if_pos hx]
                  simp [bl]
                have hsz : (x ++ (⟨#[39, 34, 39, 34, 39]⟩ : ByteArray)).size ≤ 5 * (k + 1) + 1 := by
                  rw [ByteArray.size_append]
                  show x.size + 5 ≤ _
                  omega
                have HSZ := Lib.hid hsz
                clear hx hsz
                go_wp2
                go_round
                case rel => exact ⟨k + 1, _, by omega, by go_num, rfl, HSZ.out, HX2⟩
                case measure => simp [intOf]; omega
              · have b1 : ((s[k].toNat : Int) == 39) = false := by
                  rw [beq_eq_false_iff_ne]; intro e; exact hx (UInt8.toNat_inj.1 (by have : (39 : UInt8).toNat = 39 := rfl; omega))
                have HX2 : Hid (x ++ s.extract k (k + 1) = mkS (39 :: qwL ((bl s).take (k + 1)))) := by
                  show _ = _
                  apply bl_inj
                  rw [bl_app, bl_one s k hks, HX.out, bl_mkS, bl_mkS, bl_take s k hks, qwL_snoc, qw1, if_neg hx]
                  simp
                have hsz : (x ++ s.extract k (k + 1)).size ≤ 5 * (k + 1) + 1 := by rw [ByteArray.size_append, HES.out]; omega
                have HSZ := Lib.hid hsz
                clear hx hsz
                go_wp2
                go_round
                case rel => exact ⟨k + 1, _, by omega, by go_num, rfl, HSZ.out, HX2⟩
                case measure => simp [intOf]; omega
            · have HX2 : Hid (x ++ ⟨#[39]⟩ = mkS (qwR (bl s))) := by
                have := HX.out
                rw [List.take_of_length_le (by rw [bl_len]; omega)] at this
                rw [HR.out, this]
                exact bl_inj (by rw [bl_app, bl_mkS, bl_mkS]; rfl)
              go_wp2
              go_ret
              exact ⟨ret_strQ HX2.out, rfl⟩
        · have HR : Hid (s = mkS (qwR (bl s))) := by rw [qwR_plain ht HB2.out.symm, mkS_bl]; rfl
          rw [ht] at CT
          have CT2 := Lib.hid CT
          clear CT ht
          go_wp2_with fail
          refine (CT2.out _).mono ?_
          rintro e w1 ⟨rfl, rfl⟩
          go_wp2
          go_ret
          exact ⟨ret_strQ HR.out, rfl⟩

set_option maxHeartbeats 1600000 in
theorem impl_QuoteWord (s : ByteArray) (w : World) (hs : s.size ≤ 1099511627776) (hm : MaxOk w) :
    Calls Tryd.prog 18 #[.string s] w fun e w' => e = .returned (.string (mkS (qwR (bl s)))) ∧ Below w.heap.size w w' := by
  have CT := fun W' => impl_TextValid s W' (by omega)
  obtain ⟨e0, he⟩ : ∃ b : Bool, s.toList.isEmpty = b := ⟨_, rfl⟩
  have hE : Hid ((bl s).isEmpty = e0) := by show _ = _; rw [← tl_bl]; exact he
  rcases ht : textB (bl s) with _ | _
  · have HR : Hid (mkS (qwR (bl s)) = ⟨#[]⟩) := by rw [qwR_no ht]; rfl
    rw [ht] at CT
    have CT2 := Lib.hid CT
    clear CT ht
    go_enter Tryd.func18, Tryd.ntmps18
    go_wp2_with fail
    refine (CT2.out _).mono ?_
    rintro e w1 ⟨rfl, rfl⟩
    go_wp2
    go_ret
    exact ⟨ret_strQ HR.out.symm, Below.refl _ _⟩
  · have hsz := textB_size ht
    rw [ht] at CT
    have CT2 := Lib.hid CT
    have HT := Lib.hid ht
    have HM := Lib.hid hm
    clear CT ht hm
    go_enter Tryd.func18, Tryd.ntmps18
    go_wp2_with fail
    refine (CT2.out _).mono ?_
    rintro e w1 ⟨rfl, rfl⟩
    go_wp2
    go_loop [3, 4] (fun g t => ∃ (k : Nat) (b : Bool), k ≤ s.size ∧ t = .int .i64 (k : Int) ∧ g = .bool b ∧ Hid (b = (!e0 && ((bl s).take k).all plB))) (fun _ t => s.size - (intOf t).toNat)
    case atStart => exact ⟨0, _, Nat.zero_le _, rfl, rfl, by show _ = _; simp⟩
    case round =>
      obtain ⟨k, b, hk, rfl, rfl, HB⟩ := hrel
      by_cases hks : k < s.size
      · have HN := Lib.hid (pre_snoc s k hks (!e0))
        have CL := fun W => impl_isLetter s[k] W
        have CD := fun W => impl_isDigit s[k] W
        have CH := fun W => impl_hasByte ⟨#[45, 95, 46, 47, 61, 58, 44]⟩ s[k] W (by decide)
        have HP := plB_has s[k]
        generalize hasB (bl ⟨#[45, 95, 46, 47, 61, 58, 44]⟩) s[k] = g3 at CH HP
        generalize letB s[k] = g1 at CL HP
        generalize digB s[k] = g2 at CD HP
        cases b
        · have HB2 : Hid (false = (!e0 && ((bl s).take (k + 1)).all plB)) := by show _ = _; rw [HN.out, ← HB.out]; rfl
          clear HP
          go_wp2
          go_round
          case rel => exact ⟨k + 1, false, by omega, by go_num, rfl, HB2⟩
          case measure => simp [intOf]; omega
        · have HB2 : Hid ((g1 || (g2 || g3)) = (!e0 && ((bl s).take (k + 1)).all plB)) := by show _ = _; rw [HN.out, ← HB.out, HP]; rfl
          have CL' := Lib.hid CL
          have CD' := Lib.hid CD
          have CH' := Lib.hid CH
          clear CL CD CH HP
          cases g1
          · cases g2
            · go_wp2_with fail
              refine (CL'.out _).mono ?_
              rintro e w1 ⟨rfl, rfl⟩
              go_wp2_with fail
              refine (CD'.out _).mono ?_
              rintro e w1 ⟨rfl, rfl⟩
              go_wp2_with fail
              refine (CH'.out _).mono ?_
              rintro e w1 ⟨rfl, rfl⟩
              go_wp2
              go_round
              case rel => exact ⟨k + 1, _, by omega, by go_num, rfl, HB2⟩
              case measure => simp [intOf]; omega
            · go_wp2_with fail
              refine (CL'.out _).mono ?_
              rintro e w1 ⟨rfl, rfl⟩
              go_wp2_with fail
              refine (CD'.out _).mono ?_
              rintro e w1 ⟨rfl, rfl⟩
              go_wp2
              go_round
              case rel => exact ⟨k + 1, _, by omega, by go_num, rfl, HB2⟩
              case measure => simp [intOf]; omega
          · go_wp2_with fail
            refine (CL'.out _).mono ?_
            rintro e w1 ⟨rfl, rfl⟩
            go_wp2
            go_round
            case rel => exact ⟨k + 1, _, by omega, by go_num, rfl, HB2⟩
            case measure => simp [intOf]; omega
      · have HB2 : Hid (b = qwB (bl s)) := by
          have := HB.out
          rw [List.take_of_length_le (by rw [bl_len]; omega)] at this
          show _ = _
          rw [this, qwB, hE.out]
        cases b
        · have HR : Hid (qwR (bl s) = 39 :: (qwL (bl s) ++ [39])) := qwR_quoted HT.out HB2.out.symm
          have hql := qwL_len (bl s)
          rw [bl_len] at hql
          have CR : Hid (∀ W, MaxOk W → Calls Tryd.prog 24 #[.string s, .string ⟨#[39]⟩, .string ⟨#[39, 34, 39, 34, 39]⟩] W fun e w' => e = .returned (.string (mkS (qwL (bl s)))) ∧ Below W.heap.size W w') := fun W h => replaceAll_any s ⟨#[39, 34, 39, 34, 39]⟩ 39 W h (by omega) (by decide) (by decide)
          have hqs : (mkS (qwL (bl s))).size ≤ 3000 := by rw [mkS_size]; omega
          have HX2 : Hid (⟨#[39]⟩ ++ mkS (qwL (bl s)) ++ ⟨#[39]⟩ = mkS (qwR (bl s))) := by
            rw [HR.out]
            exact bl_inj (by rw [bl_app, bl_app, bl_mkS, bl_mkS]; rfl)
          generalize mkS (qwL (bl s)) = y at *
          clear hql HR
          go_wp2_with fail
          refine (CR.out _ HM.out).mono ?_
          rintro e w1 ⟨rfl, b1⟩
          go_wp2
          go_ret
          exact ⟨ret_strQ HX2.out, b1⟩
        · have HR : Hid (s = mkS (qwR (bl s))) := by rw [qwR_plain HT.out HB2.out.symm, mkS_bl]; rfl
          go_wp2
          go_ret
          exact ⟨ret_strQ HR.out, Below.refl _ _⟩
end Go.Proofs.YtdiaonhmhmdplaaDoor

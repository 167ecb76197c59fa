/- StarsPlain, of the program and of the reference. -/
import Derived.Test.YtlilmphbjmjpdaaStars
import Derived.Laws.StructEq
import Derived.MapKept
namespace Go.Proofs.Ytlilmphbjmjpdaa
open Go.RowKit

/-- What stands behind the backslashes. -/
def unT : List UInt8 → List UInt8
  | [] => []
  | [c] => [c]
  | c :: d :: r => if (c.toNat : Int) = 92 then d :: unT r else c :: unT (d :: r)
theorem unT_other {c : UInt8} {r : List UInt8} (h : ¬ (c.toNat : Int) = 92) : unT (c :: r) = c :: unT r := by
  cases r with
  | nil => rfl
  | cons d r => rw [unT, if_neg h]
theorem unT_slash {c d : UInt8} {r : List UInt8} (h : (c.toNat : Int) = 92) : unT (c :: d :: r) = d :: unT r := by rw [unT, if_pos h]
theorem un_other {s x o : ByteArray} {k : Nat} (h : k < s.size) (hc : ¬ (s[k].toNat : Int) = 92) (hx : bl x ++ unT ((bl s).drop k) = unT (bl s)) (ho : bl o = bl x ++ [s[k]]) :
    bl o ++ unT ((bl s).drop (k + 1)) = unT (bl s) := by
  rw [← hx, bl_drop s k h, unT_other hc, ho, List.append_assoc]; rfl
theorem un_slash {s x o : ByteArray} {k : Nat} (h : k + 1 < s.size) (hc : (s[k].toNat : Int) = 92) (hx : bl x ++ unT ((bl s).drop k) = unT (bl s)) (ho : bl o = bl x ++ [s[k + 1]]) :
    bl o ++ unT ((bl s).drop (k + 1 + 1)) = unT (bl s) := by
  rw [← hx, bl_drop s k (by omega), bl_drop s (k + 1) h, unT_slash hc, ho, List.append_assoc]; rfl
theorem un_last {s x o : ByteArray} {k : Nat} (h : k < s.size) (h' : ¬ k + 1 < s.size) (hx : bl x ++ unT ((bl s).drop k) = unT (bl s)) (ho : bl o = bl x ++ [s[k]]) :
    bl o ++ unT ((bl s).drop (k + 1)) = unT (bl s) := by
  have e : (bl s).drop (k + 1) = [] := List.drop_eq_nil_of_le (by rw [bl_len]; omega)
  rw [← hx, bl_drop s k h, e, ho]
  simp [unT]
theorem un_end {s x : ByteArray} {k : Nat} (h : s.size ≤ k) (hx : bl x ++ unT ((bl s).drop k) = unT (bl s)) : bl x = unT (bl s) := by
  rw [List.drop_eq_nil_of_le (by rw [bl_len]; exact h)] at hx
  simpa [unT] using hx
/-- The plain text of a pattern; and whether it is one. -/
def plainB (l : List UInt8) : List UInt8 × Bool := if textB (unT l) = true ∧ escB (unT l) = l then (unT l, true) else ([], false)
theorem plainB_yes {l : List UInt8} (h : textB (unT l) = true) (h' : escB (unT l) = l) : plainB l = (unT l, true) := by rw [plainB, if_pos ⟨h, h'⟩]
theorem plainB_no {l : List UInt8} (h : textB (unT l) = false) : plainB l = ([], false) := by rw [plainB, if_neg (by rw [h]; simp)]
theorem plainB_ne {l : List UInt8} (h : ¬ escB (unT l) = l) : plainB l = ([], false) := by rw [plainB, if_neg (fun e => h e.2)]
theorem tl_eq (a b : ByteArray) : (a.toList == b.toList) = decide (a = b) := by
  rw [← beq_toListBytes, Bool.eq_iff_iff, decide_eq_true_iff]
  exact Go.MapKept.bytes_beq a b
theorem tl_ne {a b : ByteArray} (h : ¬ bl a = bl b) : (a.toList == b.toList) = false := by
  rw [tl_eq, decide_eq_false_iff_not]
  rintro rfl
  exact h rfl
theorem mkS_ne {a : List UInt8} {s : ByteArray} (h : ¬ a = bl s) : ((mkS a).toList == s.toList) = false := tl_ne (by rw [bl_mkS]; exact h)

set_option maxRecDepth 100000 in
set_option maxHeartbeats 800000 in
theorem spec_StarsPlain (s : ByteArray) (w : World) (hs : s.size ≤ 4611686018427387904) :
    Calls Try.prog 11 #[.string s] w fun e w' => e = .returned (.tuple #[.string (mkS (plainB (bl s)).1), .bool (plainB (bl s)).2]) ∧ w = w' := by
  go_enter Try.func11, Try.ntmps11
  go_wp2
  go_loop [4, 5] (fun o i => ∃ (k : Nat) (x : ByteArray), k ≤ s.size ∧ i = .int .i64 k ∧ o = .string x ∧ x.size ≤ k ∧ Hid (bl x ++ unT ((bl s).drop k) = unT (bl s))) (fun _ i => s.size - (intOf i).toNat)
  case atStart => exact ⟨0, ⟨#[]⟩, Nat.zero_le _, rfl, rfl, Nat.le_refl 0, rfl⟩
  case round =>
    obtain ⟨k, x, hk, rfl, rfl, hx, HX⟩ := hrel
    by_cases h0 : k < s.size
    · by_cases hc : (s[k].toNat : Int) = 92
      · by_cases h1 : k + 1 < s.size
        · have HE : ∀ o, bl o = bl x ++ [s[k + 1]] → o.size ≤ k + 1 + 1 ∧ Hid (bl o ++ unT ((bl s).drop (k + 1 + 1)) = unT (bl s)) := fun o ho => ⟨by rw [← bl_len, ho]; simp only [List.length_append, bl_len, List.length_cons, List.length_nil]; omega, un_slash h1 hc HX.out ho⟩
          have HO := Lib.hid (bl_one s (k + 1) h1)
          have HE' := Lib.hid HE
          have k1 : ((s[k].toNat : Int) == 92) = true := beq_yes hc
          clear HE hc
          go_wp2
          go_round
          case rel => exact ⟨k + 1 + 1, _, by omega, by go_num, rfl, HE'.out _ (by rw [bl_app, ← HO.out])⟩
          case measure => simp [intOf]; omega
        · have HE : ∀ o, bl o = bl x ++ [s[k]] → o.size ≤ k + 1 ∧ Hid (bl o ++ unT ((bl s).drop (k + 1)) = unT (bl s)) := fun o ho => ⟨by rw [← bl_len, ho]; simp only [List.length_append, bl_len, List.length_cons, List.length_nil]; omega, un_last h0 h1 HX.out ho⟩
          have HO := Lib.hid (bl_one s k h0)
          have HE' := Lib.hid HE
          have k1 : ((s[k].toNat : Int) == 92) = true := beq_yes hc
          clear HE hc
          go_wp2
          go_round
          case rel => exact ⟨k + 1, _, by omega, by go_num, rfl, HE'.out _ (by rw [bl_app, HO.out])⟩
          case measure => simp [intOf]; omega
      · have HE : ∀ o, bl o = bl x ++ [s[k]] → o.size ≤ k + 1 ∧ Hid (bl o ++ unT ((bl s).drop (k + 1)) = unT (bl s)) := fun o ho => ⟨by rw [← bl_len, ho]; simp only [List.length_append, bl_len, List.length_cons, List.length_nil]; omega, un_other h0 hc HX.out ho⟩
        have HO := Lib.hid (bl_one s k h0)
        have HE' := Lib.hid HE
        have k1 : ((s[k].toNat : Int) == 92) = false := beq_no hc
        clear HE hc
        go_wp2
        go_round
        case rel => exact ⟨k + 1, _, by omega, by go_num, rfl, HE'.out _ (by rw [bl_app, HO.out])⟩
        case measure => simp [intOf]; omega
    · have HR := un_end (by omega) HX.out
      have hx' : x.size ≤ 9223372036854775807 := by omega
      rcases ht : textB (bl x) with _ | _
      · have HP := Lib.hid (plainB_no (by rw [← HR]; exact ht))
        have CT := Lib.hid (spec_TextValid x w hx')
        rw [ht] at CT
        clear ht HR
        go_wp2_with fail
        refine CT.out.mono ?_
        rintro e w1 ⟨rfl, rfl⟩
        go_wp2
        go_ret2
        exact ⟨by rw [HP.out]; rfl, rfl⟩
      · have CT := Lib.hid (spec_TextValid x w hx')
        rw [ht] at CT
        have CE := Lib.hid (spec_EscapeStars x w hx')
        by_cases he : escB (bl x) = bl s
        · have HP := Lib.hid (plainB_yes (by rw [← HR]; exact ht) (by rw [← HR]; exact he))
          rw [he, mkS_bl] at CE
          have HM : Hid (mkS (unT (bl s)) = x) := by rw [← HR, mkS_bl]; rfl
          clear ht HR he
          go_wp2_with fail
          refine CT.out.mono ?_
          rintro e w1 ⟨rfl, rfl⟩
          go_wp2_with fail
          refine CE.out.mono ?_
          rintro e w1 ⟨rfl, rfl⟩
          go_wp2
          go_ret2
          exact ⟨by rw [HP.out, HM.out]; rfl, rfl⟩
        · have HP := Lib.hid (plainB_ne (by rw [← HR]; exact he))
          have HM := mkS_ne he
          clear ht HR he
          go_wp2_with fail
          refine CT.out.mono ?_
          rintro e w1 ⟨rfl, rfl⟩
          go_wp2_with fail
          refine CE.out.mono ?_
          rintro e w1 ⟨rfl, rfl⟩
          go_wp2
          go_ret2
          exact ⟨by rw [HP.out]; rfl, rfl⟩
theorem un_other' {s : ByteArray} {acc : List UInt8} {k : Nat} (h : k < s.size) (hc : ¬ (s[k].toNat : Int) = 92) (hx : acc ++ unT ((bl s).drop k) = unT (bl s)) : (acc ++ [s[k]]) ++ unT ((bl s).drop (k + 1)) = unT (bl s) := by
  have := un_other (x := mkS acc) (o := mkS (acc ++ [s[k]])) h hc (by rw [bl_mkS]; exact hx) (by rw [bl_mkS, bl_mkS])
  rwa [bl_mkS] at this
theorem un_slash' {s : ByteArray} {acc : List UInt8} {k : Nat} (h : k + 1 < s.size) (hc : (s[k].toNat : Int) = 92) (hx : acc ++ unT ((bl s).drop k) = unT (bl s)) : (acc ++ [s[k + 1]]) ++ unT ((bl s).drop (k + 1 + 1)) = unT (bl s) := by
  have := un_slash (x := mkS acc) (o := mkS (acc ++ [s[k + 1]])) h hc (by rw [bl_mkS]; exact hx) (by rw [bl_mkS, bl_mkS])
  rwa [bl_mkS] at this
theorem un_last' {s : ByteArray} {acc : List UInt8} {k : Nat} (h : k < s.size) (h' : ¬ k + 1 < s.size) (hx : acc ++ unT ((bl s).drop k) = unT (bl s)) : (acc ++ [s[k]]) ++ unT ((bl s).drop (k + 1)) = unT (bl s) := by
  have := un_last (x := mkS acc) (o := mkS (acc ++ [s[k]])) h h' (by rw [bl_mkS]; exact hx) (by rw [bl_mkS, bl_mkS])
  rwa [bl_mkS] at this

set_option maxRecDepth 100000 in
set_option maxHeartbeats 1600000 in
theorem impl_StarsPlain (s : ByteArray) (w : World) (hs : s.size ≤ 1048600) :
    Calls Try.prog 12 #[.string s] w fun e w' => e = .returned (.tuple #[.string (mkS (plainB (bl s)).1), .bool (plainB (bl s)).2]) ∧ Below w.heap.size w w' := by
  go_enter Try.func12, Try.ntmps12
  go_wp2
  have O0 := Lib.hid (own_new w #[] 5 0 rfl (by omega))
  go_loopw [4, 5] (fun o i wr => ∃ (k : Nat) (acc : List UInt8), k ≤ s.size ∧ i = .int .i64 k ∧ acc.length ≤ k ∧ Hid (acc ++ unT ((bl s).drop k) = unT (bl s)) ∧ wr.ownsRow w.heap.size 5 1 o acc.length (acc.map byteV) ∧ Below w.heap.size w wr) (fun _ i _ => s.size - (intOf i).toNat)
  case atStart => exact ⟨0, [], Nat.zero_le _, rfl, Nat.le_refl 0, rfl, O0.out, (Below.refl _ _).alloc (Nat.le_refl _) _⟩
  case round =>
    obtain ⟨k, acc, hk, rfl, hx, HX, own, hb⟩ := hrel
    have O1 := Lib.hid own; have B1 := Lib.hid hb
    obtain ⟨av, cv, rfl, _, kv, kv', _⟩ := own_formn own
    clear own hb
    by_cases h0 : k < s.size
    · by_cases hc : (s[k].toNat : Int) = 92
      · by_cases h1 : k + 1 < s.size
        · have HE := Lib.hid (un_slash' h1 hc HX.out)
          have k1 : ((s[k].toNat : Int) == 92) = true := beq_yes hc
          clear hc
          go_wp2_with (at_builtin; refine wpList_push (.tmp 26) (.tmp 30) w.heap.size s[k + 1] _ acc O1.out B1.out.size (by omega) rfl rfl rfl rfl ?_; intro v5 w5 o5 b5; have O5 := Lib.hid o5; have B5 := Lib.hid b5; clear o5 b5)
          go_roundw
          case rel => exact ⟨k + 1 + 1, acc ++ [s[k + 1]], by omega, by go_num, by simp only [List.length_append, List.length_cons, List.length_nil]; omega, HE, O5.out, B1.out.trans B5.out⟩
          case measure => simp [intOf]; omega
        · have HE := Lib.hid (un_last' h0 h1 HX.out)
          have k1 : ((s[k].toNat : Int) == 92) = true := beq_yes hc
          clear hc
          go_wp2_with (at_builtin; refine wpList_push (.tmp 26) (.tmp 30) w.heap.size s[k] _ acc O1.out B1.out.size (by omega) rfl rfl rfl rfl ?_; intro v5 w5 o5 b5; have O5 := Lib.hid o5; have B5 := Lib.hid b5; clear o5 b5)
          go_roundw
          case rel => exact ⟨k + 1, acc ++ [s[k]], by omega, by go_num, by simp only [List.length_append, List.length_cons, List.length_nil]; omega, HE, O5.out, B1.out.trans B5.out⟩
          case measure => simp [intOf]; omega
      · have HE := Lib.hid (un_other' h0 hc HX.out)
        have k1 : ((s[k].toNat : Int) == 92) = false := beq_no hc
        clear hc
        go_wp2_with (at_builtin; refine wpList_push (.tmp 26) (.tmp 30) w.heap.size s[k] _ acc O1.out B1.out.size (by omega) rfl rfl rfl rfl ?_; intro v5 w5 o5 b5; have O5 := Lib.hid o5; have B5 := Lib.hid b5; clear o5 b5)
        go_roundw
        case rel => exact ⟨k + 1, acc ++ [s[k]], by omega, by go_num, by simp only [List.length_append, List.length_cons, List.length_nil]; omega, HE, O5.out, B1.out.trans B5.out⟩
        case measure => simp [intOf]; omega
    · have HR : acc = unT (bl s) := by
        have := un_end (s := s) (x := mkS acc) (k := k) (by omega) (by rw [bl_mkS]; exact HX.out)
        rwa [bl_mkS] at this
      have hx' : (mkS acc).size ≤ 9223372036854775807 := by rw [mkS_size]; omega
      have KD := conv_row wr av acc.length cv acc (own_formn_row O1.out) rfl
      have CT := Lib.hid (impl_TextValid (mkS acc) wr hx')
      rw [bl_mkS] at CT
      rcases ht : textB acc with _ | _
      · have HP := Lib.hid (plainB_no (by rw [← HR]; exact ht))
        rw [ht] at CT
        clear ht HR
        go_wp2_with fail
        refine CT.out.mono ?_
        rintro e w1 ⟨rfl, rfl⟩
        go_wp2
        go_ret2
        exact ⟨by rw [HP.out]; rfl, B1.out⟩
      · rw [ht] at CT
        have CE := Lib.hid (impl_EscapeStars (mkS acc) wr hx')
        rw [bl_mkS] at CE
        by_cases he : escB acc = bl s
        · have HP := Lib.hid (plainB_yes (by rw [← HR]; exact ht) (by rw [← HR]; exact he))
          rw [he, mkS_bl] at CE
          have HM : Hid (mkS (unT (bl s)) = mkS acc) := by rw [← HR]; rfl
          clear ht HR he
          go_wp2_with fail
          refine CT.out.mono ?_
          rintro e w1 ⟨rfl, rfl⟩
          go_wp2_with fail
          refine CE.out.mono ?_
          rintro e w2 ⟨rfl, b2⟩
          have KD2 := conv_row w2 av acc.length cv acc (own_formn_row (own_below O1.out b2)) rfl
          have B2 : Hid (Below w.heap.size w w2) := B1.out.trans (b2.mono B1.out.size)
          clear b2
          go_wp2
          go_ret2
          exact ⟨by rw [HP.out, HM.out]; rfl, B2.out⟩
        · have HP := Lib.hid (plainB_ne (by rw [← HR]; exact he))
          have HM := mkS_ne he
          clear ht HR he
          go_wp2_with fail
          refine CT.out.mono ?_
          rintro e w1 ⟨rfl, rfl⟩
          go_wp2_with fail
          refine CE.out.mono ?_
          rintro e w2 ⟨rfl, b2⟩
          have B2 : Hid (Below w.heap.size w w2) := B1.out.trans (b2.mono B1.out.size)
          clear b2
          go_wp2
          go_ret2
          exact ⟨by rw [HP.out]; rfl, B2.out⟩

/-! The laws that ask for the very same answers. -/
set_option maxHeartbeats 400000 in
theorem walk_FnExactEscapeStars (s : ByteArray) (w : World) (hs : s.size ≤ maxLen) :
    Calls Try.prog 3 #[.string s] w fun e w' => e = .returned (.bool true) ∧ Below w.heap.size w w' := by
  unfold maxLen at hs
  by_cases hn : 1048576 < s.size
  · go_enter Try.func3, Try.ntmps3
    go_wp2
    go_ret
    exact ⟨rfl, Below.refl _ _⟩
  · go_enter Try.func3, Try.ntmps3
    go_wp2_with fail
    refine (spec_EscapeStars _ _ (by omega)).mono ?_
    rintro e w1 ⟨rfl, rfl⟩
    go_wp2_with fail
    refine (impl_EscapeStars _ _ (by omega)).mono ?_
    rintro e w1 ⟨rfl, b1⟩
    go_wp2
    go_ret
    exact ⟨rfl, b1⟩

set_option maxHeartbeats 400000 in
theorem walk_FnExactStarsPlain (s : ByteArray) (w : World) (hs : s.size ≤ maxLen) :
    Calls Try.prog 4 #[.string s] w fun e w' => e = .returned (.bool true) ∧ Below w.heap.size w w' := by
  unfold maxLen at hs
  by_cases hn : 1048576 < s.size
  · go_enter Try.func4, Try.ntmps4
    go_wp2
    go_ret
    exact ⟨rfl, Below.refl _ _⟩
  · go_enter Try.func4, Try.ntmps4
    go_wp2_with fail
    refine (spec_StarsPlain _ _ (by omega)).mono ?_
    rintro e w1 ⟨rfl, rfl⟩
    go_wp2_with fail
    refine (impl_StarsPlain _ _ (by omega)).mono ?_
    rintro e w1 ⟨rfl, b1⟩
    go_wp2
    go_ret
    exact ⟨rfl, b1⟩
end Go.Proofs.Ytlilmphbjmjpdaa

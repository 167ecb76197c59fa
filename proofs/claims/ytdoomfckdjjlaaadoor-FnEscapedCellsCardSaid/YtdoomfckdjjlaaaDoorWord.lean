/- The drawn words; quoted texts, of the reference. -/
import Derived.Test.YtdoomfckdjjlaaaDoorDrawS
import Derived.Test.YtdoomfckdjjlaaaDoorStrs
namespace Go.Proofs.YtdoomfckdjjlaaaDoor
open Go.RowKit

/-- A short string. -/
def Short (m : Nat) (x : Value) : Prop := ∃ s : ByteArray, x = .string s ∧ s.size ≤ m
def StrPost (w : World) (R k K m : Nat) (e : Ending) (w' : World) : Prop :=
  ∃ s : ByteArray, e = .returned (.string s) ∧ s.size ≤ m ∧ w.grownBy w' (some R) ∧ Rdr w' R (k - K)
theorem word_lits : ∀ x ∈ (#[Value.string ⟨#[]⟩, .string ⟨#[97]⟩, .string ⟨#[97, 46, 98, 47, 99]⟩, .string ⟨#[105, 116, 39, 115]⟩, .string ⟨#[36, 40, 120, 41, 59, 32, 114, 109]⟩, .string ⟨#[97, 32, 98]⟩, .string ⟨#[39]⟩, .string ⟨#[34, 113, 34]⟩, .string ⟨#[120, 39, 32, 111, 114, 32, 39, 49, 39, 61, 39, 49]⟩, .string ⟨#[63]⟩] : Array Value).toList, Short 12 x := by
  intro x hx
  simp only [List.mem_cons, List.not_mem_nil, or_false] at hx
  rcases hx with rfl | rfl | rfl | rfl | rfl | rfl | rfl | rfl | rfl | rfl <;> exact ⟨_, rfl, by decide⟩

set_option maxHeartbeats 800000 in
theorem word_any (w : World) (R k : Nat) (n : Int) (h : Rdr w R k) (hk : 20 ≤ k) (hn : 0 ≤ n) (hn' : n ≤ 1000) :
    Calls Tryd.prog 10 #[.pointer (some ⟨R, 0, none⟩), .int .i64 n] w (StrPost w R k 8 12) := by
  have hRl := h.lt
  go_enter Tryd.func10, Tryd.ntmps10
  go_wp2_with fail
  refine (odd_any _ _ k _ h (by omega) (by omega) (by omega)).mono ?_
  rintro e w1 ⟨b, rfl, hg1, hr1⟩
  have HG1 := Lib.hid hg1
  have hs1 := hg1.size
  clear hg1 h
  cases b
  · go_wp2_with fail
    refine (pick_any _ _ (k - 1) _ (hr1.alloc_ _) (by omega) (by omega) (by omega)).mono ?_
    rintro e w2 ⟨v, rfl, hv, hg2, hr2⟩
    have hv10 : v < 10 := by omega
    obtain ⟨z, hz, s, rfl, hs⟩ := lit_at hg2 (by intro e; injection e with e; omega) word_lits v (by simpa using hv10)
    have HG2 := Lib.hid ((HG1.out.trans (World.grownBy_alloc _ _ _)).trans hg2)
    have HR2 := Lib.hid (hr2.less (k' := k - 8) (by omega))
    clear hg2 hr2 hv
    go_wp2
    go_ret
    exact ⟨s, rfl, hs, HG2.out, HR2.out⟩
  · have HR1 := Lib.hid (hr1.less (k' := k - 8) (by omega))
    go_wp2
    go_ret
    exact ⟨_, rfl, by decide, HG1.out, HR1.out⟩

def qL (l : List UInt8) : List UInt8 := l.flatMap fun x => if x = 39 then [39, 39] else [x]
/-- The text of a text in a statement. -/
def qtR (l : List UInt8) : List UInt8 := if textB l = true then 39 :: (qL l ++ [39]) else []
theorem qtR_yes {l : List UInt8} (h : textB l = true) : qtR l = 39 :: (qL l ++ [39]) := by unfold qtR; rw [if_pos h]
theorem qtR_no {l : List UInt8} (h : textB l = false) : qtR l = [] := by unfold qtR; rw [if_neg (by simp [h])]
theorem qL_len (l : List UInt8) : (qL l).length ≤ 2 * l.length := by
  induction l with
  | nil => simp [qL]
  | cons x l ih =>
    have : qL (x :: l) = (if x = 39 then [39, 39] else [x]) ++ qL l := by simp [qL]
    rw [this, List.length_append]
    have h2 : (if x = 39 then [(39 : UInt8), 39] else [x]).length ≤ 2 := by split <;> simp
    simp only [List.length_cons]
    omega
theorem qL_snoc (l : List UInt8) (x : UInt8) : qL (l ++ [x]) = qL l ++ (if x = 39 then [39, 39] else [x]) := by simp [qL]
theorem qtR_len (l : List UInt8) : (qtR l).length ≤ 2 * l.length + 2 := by
  rcases h : textB l with _ | _
  · rw [qtR_no h]; simp
  · rw [qtR_yes h]
    have := qL_len l
    simp only [List.length_cons, List.length_append, List.length_nil]
    omega
theorem ret_strW {a b : ByteArray} (h : a = b) : Ending.returned (.string a) = .returned (.string b) := by rw [h]

set_option maxHeartbeats 800000 in
theorem spec_QuoteText (s : ByteArray) (w : World) (hs : s.size ≤ 1099511627776) :
    Calls Tryd.prog 6 #[.string s] w fun e w' => e = .returned (.string (mkS (qtR (bl s)))) ∧ w = w' := by
  have CT := fun W' => spec_TextValid s W' (by omega)
  go_enter Tryd.func6, Tryd.ntmps6
  have CT' := Lib.hid CT
  clear CT
  go_wp2
  go_loop [3, 4] (fun v t => ∃ (k : Nat) (x : ByteArray), k ≤ s.size ∧ t = .int .i64 (k : Int) ∧ v = .string x ∧ x.size ≤ 2 * k + 1 ∧ Hid (x = mkS (39 :: qL ((bl s).take k)))) (fun _ t => s.size - (intOf t).toNat)
  case atStart => exact ⟨0, _, Nat.zero_le _, rfl, rfl, by decide, rfl⟩
  case round =>
    obtain ⟨k, x, hk, rfl, rfl, hxs, HX⟩ := hrel
    by_cases hks : k < s.size
    · have hes : (s.extract k (k + 1)).size = 1 := by rw [← bl_len, bl_one s k hks]; rfl
      have HES := Lib.hid hes
      clear hes
      by_cases hx : s[k] = 39
      · have b1 : ((s[k].toNat : Int) == 39) = true := by rw [hx]; rfl
        have HX2 : Hid (x ++ ⟨#[39]⟩ ++ s.extract k (k + 1) = mkS (39 :: qL ((bl s).take (k + 1)))) := by
          show _ = _
          apply bl_inj
          rw [bl_app, bl_app, bl_one s k hks, HX.out, bl_mkS, bl_mkS, bl_take s k hks, qL_snoc, if_pos hx, hx]
          simp [bl]
        have hsz : (x ++ (⟨#[39]⟩ : ByteArray) ++ s.extract k (k + 1)).size ≤ 2 * (k + 1) + 1 := by
          rw [ByteArray.size_append, ByteArray.size_append, HES.out]
          show x.size + 1 + 1 ≤ _
          omega
        have HSZ := Lib.hid hsz
        clear hx hsz
        go_wp2
        go_round
        case rel => exact ⟨k + 1, _, by omega, by go_num, rfl, HSZ.out, HX2⟩
        case measure => simp [intOf]; omega
      · have b1 : ((s[k].toNat : Int) == 39) = false := by
          rw [beq_eq_false_iff_ne]; intro e; exact hx (UInt8.toNat_inj.1 (by have : (39 : UInt8).toNat = 39 := rfl; omega))
        have HX2 : Hid (x ++ s.extract k (k + 1) = mkS (39 :: qL ((bl s).take (k + 1)))) := by
          show _ = _
          apply bl_inj
          rw [bl_app, bl_one s k hks, HX.out, bl_mkS, bl_mkS, bl_take s k hks, qL_snoc, if_neg hx]
          simp
        have hsz : (x ++ s.extract k (k + 1)).size ≤ 2 * (k + 1) + 1 := by rw [ByteArray.size_append, HES.out]; omega
        have HSZ := Lib.hid hsz
        clear hx hsz
        go_wp2
        go_round
        case rel => exact ⟨k + 1, _, by omega, by go_num, rfl, HSZ.out, HX2⟩
        case measure => simp [intOf]; omega
    · have HX2 : Hid (x = mkS (39 :: qL (bl s))) := by have := HX.out; rwa [List.take_of_length_le (by rw [bl_len]; omega)] at this
      have CT := CT'.out
      rcases ht : textB (bl s) with _ | _
      · have HR : Hid (mkS (qtR (bl s)) = ⟨#[]⟩) := by rw [qtR_no ht]; rfl
        rw [ht] at CT
        have CT2 := Lib.hid CT
        clear CT ht
        go_wp2_with fail
        refine (CT2.out _).mono ?_
        rintro e w1 ⟨rfl, rfl⟩
        go_wp2
        go_ret
        exact ⟨ret_strW HR.out.symm, rfl⟩
      · have HR : Hid (x ++ ⟨#[39]⟩ = mkS (qtR (bl s))) := by rw [qtR_yes ht, HX2.out]; exact mkS_app _ [39]
        rw [ht] at CT
        have CT2 := Lib.hid CT
        clear CT ht
        go_wp2_with fail
        refine (CT2.out _).mono ?_
        rintro e w1 ⟨rfl, rfl⟩
        go_wp2
        go_ret
        exact ⟨ret_strW HR.out, rfl⟩
end Go.Proofs.YtdoomfckdjjlaaaDoor

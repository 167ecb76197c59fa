/- The walk of the law FnExactFillStatement. -/
import Derived.Test.YtoajdkcdjdbliaaDoorFillS
namespace Go.Proofs.YtoajdkcdjdbliaaDoor
open Go.RowKit

theorem mem_sumF {l : List Nat} {x : Nat} (h : x ∈ l) : x ≤ l.sum := by
  induction l with
  | nil => cases h
  | cons a l ih =>
    rw [List.sum_cons]
    rcases List.mem_cons.1 h with rfl | h
    · omega
    · have := ih h; omega

set_option maxRecDepth 100000 in
set_option maxHeartbeats 800000 in
theorem walk_FnExactFillStatement (s : ByteArray) (a1 : Option Addr) (n1 c1 : Nat) (z1 : List ByteArray) (w : World) (hs : s.size ≤ maxLen) (h1 : IsStrs w a1 n1 c1 z1) (hm : MaxOk w) :
    Calls Tryd.prog 5 #[.string s, .slice a1 n1 c1] w fun e w' => e = .returned (.bool true) ∧ Below w.heap.size w w' := by
  have k1 := h1.caps
  have HR1 := Lib.hid h1.row
  have HS1 := Lib.hid h1.size
  have HN1 := Lib.hid (argS_len z1 n1)
  have HM := Lib.hid hm
  unfold maxLen at hs
  clear h1 hm
  generalize argS z1 n1 = T at *
  by_cases hn : 1048576 < s.size
  · go_enter Tryd.func5, Tryd.ntmps5
    go_wp2
    go_ret
    exact ⟨rfl, Below.refl _ _⟩
  have CS : Hid (∀ W, RowAt W a1 (T.map strV) → Calls Tryd.prog 15 #[.slice a1 n1 c1, .int .i64 1048576] W fun e w' => e = .returned (.int .i64 (szB T 1048576)) ∧ W = w') := fun W h => szStringS_any a1 n1 c1 T _ W h HN1.out (by omega) HS1.out (by omega) (by omega)
  by_cases hz1 : szB T 1048576 < 0
  · generalize szB T 1048576 = q at *
    go_enter Tryd.func5, Tryd.ntmps5
    go_wp2_with fail
    refine (CS.out _ HR1.out).mono ?_
    rintro e w1 ⟨rfl, rfl⟩
    go_wp2
    go_ret
    exact ⟨rfl, Below.refl _ _⟩
  · have hyes := szB_yes (l := T) (left := 1048576) (by omega)
    have hT : ∀ s ∈ T, s.size ≤ 1048576 := fun s hs => by
      have h1 : s.size ≤ (T.map ByteArray.size).sum := mem_sumF (List.mem_map_of_mem hs)
      omega
    have hTl : T.length ≤ 1048576 := by omega
    have HT := Lib.hid hT
    clear hyes hT
    generalize szB T 1048576 = q at *
    have hn1 : n1 ≤ 1048576 := by rw [← HN1.out]; exact hTl
    go_enter Tryd.func5, Tryd.ntmps5
    go_wp2_with fail
    refine (CS.out _ HR1.out).mono ?_
    rintro e w1 ⟨rfl, rfl⟩
    clear CS
    go_wp2_with fail
    refine (toStringS_any _ _ _ T _ HR1.out HN1.out (by omega)).mono ?_
    rintro e w2 ⟨v2, rfl, o2, b2⟩
    obtain ⟨x2, d2, rfl, _, k2a, k2b, _⟩ := own_formn o2
    have B2 := Lib.hid b2; have O2 := Lib.hid o2
    clear b2 o2
    go_wp2_with fail
    refine (spec_FillStatement s _ _ _ T _ (own_formn_row O2.out) HN1.out (by omega) (by omega) HT.out).mono ?_
    rintro e w3 ⟨rfl, rfl⟩
    clear O2
    go_wp2_with fail
    refine (toStringS_any _ _ _ T _ (HR1.out.below (Nat.le_refl _) B2.out) HN1.out (by omega)).mono ?_
    rintro e w5 ⟨v5, rfl, o5, b5⟩
    obtain ⟨x5, d5, rfl, _, k5a, k5b, _⟩ := own_formn o5
    have B5 := Lib.hid (B2.out.trans (b5.mono B2.out.size)); have O5 := Lib.hid o5
    clear b5 o5
    have HM5 := Lib.hid (HM.out.below B5.out)
    go_wp2_with fail
    refine (impl_FillStatement s _ _ _ T _ (own_formn_row O5.out) HN1.out (by omega) (by omega) HT.out HM5.out).mono ?_
    rintro e w6 ⟨rfl, b6⟩
    have O56 := Lib.hid (own_below O5.out b6)
    have B6 := Lib.hid (B5.out.trans (b6.mono B5.out.size))
    clear b6
    generalize fillR (bl s) (T.map bl) = r
    obtain ⟨r1, r2⟩ := r
    cases r2
    all_goals
      go_wp2_with fail
      refine (toStringS_any _ _ _ T _ (HR1.out.below (Nat.le_refl _) B6.out) HN1.out (by omega)).mono ?_
      rintro e w9 ⟨v9, rfl, o9, b9⟩
      obtain ⟨x9, d9, rfl, _, k9a, k9b, _⟩ := own_formn o9
      have O59 := Lib.hid (own_below O56.out b9)
      have B9 := Lib.hid (B6.out.trans (b9.mono B6.out.size)); have O9 := Lib.hid o9
      clear b9 o9
      have CE := fun W h1 h2 => eqStringS_any x5 x9 n1 n1 d5 d9 T T W h1 h2 HN1.out HN1.out (by omega)
      simp only [decide_true] at CE
      have CE' := Lib.hid CE
      clear CE
      go_wp2_with fail
      refine (CE'.out _ (own_formn_row O59.out) (own_formn_row O9.out)).mono ?_
      rintro e w10 ⟨rfl, b10⟩
      have B10 := Lib.hid (B9.out.trans (b10.mono B9.out.size))
      clear b10
      go_wp2
      go_ret
      exact ⟨rfl, B10.out⟩
end Go.Proofs.YtoajdkcdjdbliaaDoor

/- A quoted text is one text; the law FnQuoteText. -/
import Derived.Test.YtoajdkcdjdbliaaDoorQText
import Derived.Test.YtoajdkcdjdbliaaDoorCutI
import Derived.Test.YtoajdkcdjdbliaaDoorAlive
namespace Go.Proofs.YtoajdkcdjdbliaaDoor
open Go.RowKit

/-- A quoted text is one text. -/
theorem cut_qL : ∀ (l acc : List UInt8) (tx bt : List (List UInt8)), cutT (true, acc, tx, bt) (qL l ++ [39]) = (false, [], tx ++ [acc ++ l], bt) := by
  intro l
  induction l with
  | nil =>
    intro acc tx bt
    rw [List.append_nil]
    show cutT (true, acc, tx, bt) [39] = _
    rw [cutT, stepL, if_pos rfl, if_pos rfl]
  | cons x l ih =>
    intro acc tx bt
    have e : qL (x :: l) = (if x = 39 then [39, 39] else [x]) ++ qL l := by simp [qL]
    by_cases hx : x = 39
    · subst hx
      rw [e, if_pos rfl]
      show cutT (true, acc, tx, bt) (39 :: 39 :: (qL l ++ [39])) = _
      rw [cutT_double _ rfl]
      have := ih (acc ++ [39]) tx bt
      rw [this, List.append_assoc]; rfl
    · rw [e, if_neg hx]
      show cutT (true, acc, tx, bt) (x :: (qL l ++ [39])) = _
      rw [cutT_step _ _ _ (fun h => hx h.1), stepL, if_neg hx]
      have := ih (acc ++ [x]) tx bt
      rw [this, List.append_assoc]; rfl
theorem texts_quoted {l : List UInt8} (h : textB l = true) (h2 : textB (qtR l) = true) : textsR (qtR l) = ([mkS l], true) := by
  have e : cut0 (qtR l) = (false, [], [l], [[]]) := by
    rw [qtR_yes h, cut0, cutT_step _ _ _ (fun e => by cases e.2.1), stepL, if_pos rfl, if_neg (by simp)]
    have := cut_qL l [] [] ([] ++ [[]])
    rw [this]; rfl
  rw [textsR_yes h2 e rfl]
  rfl
def DrawStrQ (w : World) (m : Nat) (e : Ending) (w' : World) : Prop :=
  ∃ s : ByteArray, e = .returned (.string s) ∧ s.size ≤ m ∧ Below w.heap.size w w'
theorem draw_QuoteText (w : World) (a : Option Addr) (n c : Nat) (f : Nat → UInt8) (hb : BytesAt w a n f) (hc : n ≤ c) (hc' : c ≤ 9223372036854775807) :
    Calls Tryd.prog 10 #[.slice a n c] w (DrawStrQ w 12) := by
  have HB := Lib.hid hb; clear hb
  go_enter Tryd.func10, Tryd.ntmps10
  go_wp2_with fail
  refine (open_any _ _ _ _ _ HB.out hc hc').mono ?_
  rintro e w1 ⟨rfl, hb1, hr1⟩
  have HB1 := Lib.hid hb1
  clear hb1 HB
  go_wp2_with fail
  refine (word_any _ _ _ _ hr1 (by omega) (by omega) (by omega)).mono ?_
  rintro e w2 ⟨x, rfl, hx, hg2, hr2⟩
  have HB2 := Lib.hid (HB1.out.trans (below_of_grown hg2 HB1.out.size (by intro q hq; injection hq with hq; omega)))
  clear hr1 hg2 hr2
  go_wp2
  go_ret
  exact ⟨x, rfl, hx, HB2.out⟩

set_option maxRecDepth 100000 in
set_option maxHeartbeats 800000 in
theorem walk_FnQuoteText (a : Option Addr) (n c : Nat) (z : List Int) (w : World) (hrow : IsRow .u8 w a n c z) (hm : MaxOk w) :
    Calls Tryd.prog 4 #[.slice a n c] w fun e w' => e = .returned (.bool true) ∧ Below w.heap.size w w' := by
  have hcap := hrow.caps
  have hby := Lib.hid hrow.bytes
  have HM := Lib.hid hm
  clear hrow hm
  by_cases hn : 1048576 < n
  · go_enter Tryd.func4, Tryd.ntmps4
    go_wp2
    go_ret
    exact ⟨rfl, Below.refl _ _⟩
  · go_enter Tryd.func4, Tryd.ntmps4
    go_wp2_with fail
    refine (draw_QuoteText _ _ _ _ _ hby.out hcap.1 hcap.2).mono ?_
    rintro e w1 ⟨s, rfl, hs, b1⟩
    have B1 := Lib.hid b1
    have HM1 := Lib.hid (HM.out.below b1)
    clear b1 hby hcap hn HM
    have hql := qtR_len (bl s)
    rw [bl_len] at hql
    have CS : Hid (∀ W, Calls Tryd.prog 8 #[.string s] W fun e w' => e = .returned (.string (mkS (qtR (bl s)))) ∧ W = w') := fun W => spec_QuoteText s W (by omega)
    have CI : Hid (∀ W, MaxOk W → Calls Tryd.prog 9 #[.string s] W fun e w' => e = .returned (.string (mkS (qtR (bl s)))) ∧ Below W.heap.size W w') := fun W h => impl_QuoteText s W (by omega) h
    have CT := fun W' => impl_TextValid s W' (by omega)
    have CP : Hid (∀ W, Calls Tryd.prog 13 #[.string (mkS (qtR (bl s)))] W (StrsOk W (textsR (qtR (bl s))))) := fun W => by
      have h := impl_StatementTexts (mkS (qtR (bl s))) W (by rw [mkS_size]; omega)
      rwa [bl_mkS] at h
    have CT2 : ∀ W', Calls Tryd.prog 11 #[.string (mkS (qtR (bl s)))] W' fun e w' => e = .returned (.bool (textB (qtR (bl s)))) ∧ W' = w' := fun W' => by
      have h := impl_TextValid (mkS (qtR (bl s))) W' (by rw [mkS_size]; omega)
      rwa [bl_mkS] at h
    have hno := @qtR_no (bl s)
    have hye := @texts_quoted (bl s)
    rw [mkS_bl] at hye
    rcases ht : textB (bl s) with _ | _
    · have hy : Hid (mkS (qtR (bl s)) = ⟨#[]⟩) := by rw [hno ht]; rfl
      rw [ht] at CT
      have CT' := Lib.hid CT
      clear CT hno hye CP ht CT2
      generalize mkS (qtR (bl s)) = y at *
      go_wp2_with fail
      refine (CI.out _ HM1.out).mono ?_
      rintro e w2 ⟨rfl, b2⟩
      have B2 := Lib.hid (B1.out.trans (b2.mono B1.out.size))
      clear b2
      go_wp2_with fail
      refine (CS.out _).mono ?_
      rintro e w3 ⟨rfl, rfl⟩
      go_wp2_with fail
      refine (CT'.out _).mono ?_
      rintro e w3 ⟨rfl, rfl⟩
      clear CS CI
      obtain rfl := hy.out
      go_wp2_with (go_at_call 12; refine (alive_any _).mono ?_; rintro e w5 ⟨rfl, b5⟩)
      go_ret
      exact ⟨rfl, B2.out.trans (b5.mono B2.out.size)⟩
    · have hye' := hye ht
      have hle := textsR_len (qtR (bl s))
      rw [ht] at CT
      have CT' := Lib.hid CT
      clear CT hno hye ht
      generalize textsR (qtR (bl s)) = r at *
      generalize textB (qtR (bl s)) = tq at *
      have CT2' := Lib.hid CT2
      have HYE := Lib.hid hye'
      clear CT2 hye'
      generalize mkS (qtR (bl s)) = y at *
      obtain ⟨r1, r2⟩ := r
      go_wp2_with fail
      refine (CI.out _ HM1.out).mono ?_
      rintro e w2 ⟨rfl, b2⟩
      have B2 := Lib.hid (B1.out.trans (b2.mono B1.out.size))
      clear b2
      go_wp2_with fail
      refine (CS.out _).mono ?_
      rintro e w3 ⟨rfl, rfl⟩
      go_wp2_with fail
      refine (CT'.out _).mono ?_
      rintro e w3 ⟨rfl, rfl⟩
      go_wp2_with fail
      refine (CP.out _).mono ?_
      rintro e w4 ⟨v4, rfl, o4, b4⟩
      obtain ⟨a4, c4, rfl, _, k4, k4', _⟩ := own_formn o4
      have B4 := Lib.hid (B2.out.trans (b4.mono B2.out.size))
      have O4 := Lib.hid o4
      clear o4 b4
      go_wp2_with fail
      refine (CT2'.out _).mono ?_
      rintro e w5 ⟨rfl, rfl⟩
      cases tq
      · go_wp2
        go_ret
        exact ⟨rfl, B4.out⟩
      · have hr := HYE.out rfl
        injection hr with h1 h2
        subst h1; subst h2
        have CM : Hid (∀ W, RowAt W a4 ([s].map strV) → ∀ b, RowAt W b ([s].map strV) → Calls Tryd.prog 14 #[.slice a4 1 c4, .slice b 1 1] W fun e w' => e = .returned (.bool true) ∧ Below W.heap.size W w') := fun W h1 b h2 => by
          have := sameTexts_any a4 b 1 1 c4 1 [s] [s] W h1 h2 rfl rfl (by omega)
          simpa only [decide_true] using this
        go_wp2_with fail
        refine (CM.out _ (own_formn_row (own_below O4.out ((Below.refl _ _).alloc (Nat.le_refl _) _))) _ (own_formn_row (own_new w4 #[.string s] 9 1 rfl (by omega)))).mono ?_
        rintro e w6 ⟨rfl, b6⟩
        go_wp2
        go_ret
        exact ⟨rfl, (B4.out.alloc B4.out.size _).trans (b6.mono (by rw [World.size_alloc]; have := B4.out.size; omega))⟩
end Go.Proofs.YtoajdkcdjdbliaaDoor

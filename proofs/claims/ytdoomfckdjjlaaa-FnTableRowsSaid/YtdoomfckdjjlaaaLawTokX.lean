/- The walk of the law FnExactTableTokens. -/
import Derived.Test.YtdoomfckdjjlaaaTokC
import Derived.Test.YtdoomfckdjjlaaaTokI
import Derived.Test.YtdoomfckdjjlaaaTokS
namespace Go.Proofs.Ytdoomfckdjjlaaa
open Go.RowKit

theorem OwnLs.below2 {w w' : World} (hb : Below w.heap.size w w') : ∀ (vs : List Value) (T : List (List ByteArray)) (U : Nat), OwnLs w U vs T → OwnLs w' U vs T := by
  intro vs
  induction vs with
  | nil => intro T U h; cases T with
    | nil => exact True.intro
    | cons F T => exact h
  | cons v vs ih => intro T U h; cases T with
    | nil => exact h
    | cons F T =>
      obtain ⟨V, h1, h2, h3, h4⟩ := h
      exact ⟨V, h1, ownN_below h2 hb, h3, ih T V h4⟩
theorem tokR_len (T : List (List ByteArray)) : (tokR T).length ≤ 60 := by
  by_cases h : tabB T = true
  · rw [tokR_yes h]
    unfold tabB at h
    rw [Bool.and_eq_true] at h
    exact of_decide_eq_true h.2
  · rw [tokR, if_neg h]; simp
theorem cell_K (s : ByteArray) : ∀ t ∈ cellToks s, t.K ≤ 3 := by
  intro t ht
  unfold cellToks at ht
  split at ht
  · simp only [List.append_nil, List.mem_append, List.mem_cons, List.not_mem_nil, or_false] at ht
    rcases ht with rfl | rfl <;> simp
  · simp only [List.mem_append, List.mem_cons, List.not_mem_nil, or_false] at ht
    rcases ht with (rfl | rfl) | rfl <;> simp
theorem row_K (r : List ByteArray) : ∀ t ∈ rowToks r, t.K ≤ 3 := by
  intro t ht
  unfold rowToks at ht
  simp only [List.mem_append, List.mem_cons, List.not_mem_nil, or_false, List.mem_flatMap] at ht
  rcases ht with (rfl | ⟨s, _, hs⟩) | rfl
  · simp
  · exact cell_K s t hs
  · simp
theorem tokR_K (T : List (List ByteArray)) : ∀ t ∈ tokR T, t.K ≤ 3 := by
  intro t ht
  by_cases h : tabB T = true
  · rw [tokR_yes h] at ht
    unfold tabToks at ht
    simp only [List.mem_append, List.mem_cons, List.not_mem_nil, or_false, List.mem_flatMap] at ht
    rcases ht with (rfl | ⟨s, _, hs⟩) | rfl
    · simp
    · exact row_K s t hs
    · simp
  · rw [tokR, if_neg h] at ht; cases ht
theorem cAt_fit {T : List (List ByteArray)} (h : TabOkN 1048576 T) (i : Nat) : cAt 1 T i ≤ 4611686018427387904 := by
  have : ∀ l : List (List ByteArray), (∀ r ∈ l, r.length ≤ 1048576) → (l.map List.length).sum ≤ l.length * 1048576 := by
    intro l
    induction l with
    | nil => intro _; simp
    | cons s l ih =>
      intro hl
      have := ih (fun t ht => hl t (by simp [ht]))
      have := hl s (by simp)
      rw [List.map_cons, List.sum_cons, List.length_cons]
      omega
  have h2 := this (T.take i) (fun s hs => (h.2 s (List.mem_of_mem_take hs)).1)
  have h3 : (T.take i).length ≤ 1048576 := by rw [List.length_take]; have := h.1; omega
  unfold cAt
  omega
set_option maxRecDepth 100000 in
set_option maxHeartbeats 1600000 in
theorem walk_FnExactTableTokens (a : Option Addr) (n c : Nat) (T : List (List ByteArray)) (w : World) (hz : IsTabs w a n c T) :
    Calls Try.prog 5 #[.slice a n c] w fun e w' => e = .returned (.bool true) ∧ Below w.heap.size w w' := by
  obtain ⟨hn, hnc, hcm, hat, hok⟩ := hz
  have hcm' : c ≤ 9223372036854775807 := by simpa [maxLen] using hcm
  have CZ := Lib.hid (szStringSS_any a n c T 1048576 w hat hn (by omega) hok.2 (by omega) (by omega))
  have HSZ := Lib.hid (fun (h : 0 ≤ szTabs T ((1048576 : Nat) : Int)) => szTabs_yes h)
  have HAT := Lib.hid hat
  have HN := Lib.hid hn
  clear hat hok hcm
  by_cases hlt : szTabs T 1048576 < 0
  · go_enter Try.func5, Try.ntmps5
    go_wp2_with (refine CZ.out.mono ?_; rintro e w1 ⟨rfl, rfl⟩)
    go_ret
    exact ⟨rfl, Below.refl _ _⟩
  · have hT : TabOkN 1048576 T := HSZ.out (by have : ((1048576 : Nat) : Int) = 1048576 := rfl; rw [this]; omega)
    have hn6 : n ≤ 1048576 := by rw [← hn]; exact hT.1
    have CT := Lib.hid (fun W (h : TabsAt W 0 a T) => toStringSS_any a n c T W h hn hn6 hT)
    have CI := Lib.hid (fun a' c' W (h : TabsAt W 0 a' T) => impl_TableTokens a' n c' T W h hn hn6 ⟨by have := hT.1; omega, fun r hr => ⟨by have := (hT.2 r hr).1; omega, fun t ht => by have := (hT.2 r hr).2 t ht; omega⟩⟩)
    have CS := Lib.hid (fun a' c' W (h : TabsAt W 0 a' T) => spec_TableTokens a' n c' T W h hn hn6 hT)
    have CE := Lib.hid (fun a1 a2 c1 c2 W (h1 : TabsAt W 0 a1 T) (h2 : TabsAt W 0 a2 T) => eqStringSS_any a1 a2 n c1 c2 T W h1 h2 hn hn6 hT)
    have CM := Lib.hid (fun v B vs W (own : W.ownsRow B 31 1 v n vs) (hd : OwnLs W B vs T) (hB : B ≤ W.heap.size) => markStringSS_any v B n 1 vs T W own hd hn (by omega) (fun i _ => cAt_fit hT i) hB)
    have hkn := cAt_fit hT n
    obtain ⟨X, hX⟩ : ∃ X, tokR T = X := ⟨_, rfl⟩
    have hXl : X.length ≤ 60 := by rw [← hX]; exact tokR_len T
    have hXK := Lib.hid (tokR_K T)
    rw [hX] at CI CS hXK
    obtain ⟨m, hm⟩ : ∃ m, X.length = m := ⟨_, rfl⟩
    have hm60 : m ≤ 60 := by omega
    have CQ := Lib.hid (fun a1 a2 c1 c2 W (h1 : TokAt W a1 X) (h2 : TokAt W a2 X) => eqTokenS_any a1 a2 m c1 c2 X W h1 h2 hm (by omega) (fun t ht => by have := hXK.out t ht; omega))
    have HM := Lib.hid hm
    clear hXK hX hn hT HSZ
    generalize szTabs T 1048576 = sz at *
    generalize cAt 1 T n = kn at *
    go_enter Try.func5, Try.ntmps5
    go_wp2_with fail
    refine CZ.out.mono ?_
    rintro e w0 ⟨rfl, rfl⟩
    go_wp2_with fail
    refine (CT.out _ HAT.out).mono ?_
    rintro e w1 ⟨v1, l1, rfl, o1, d1, b1⟩
    obtain ⟨a1, c1, rfl, _, _, hat1⟩ := tabs_own o1 d1 HN.out
    have B1 := Lib.hid b1
    have A1 := Lib.hid (hat1.mono (Nat.zero_le _))
    clear o1 d1 b1 hat1
    go_wp2_with fail
    refine (CS.out _ _ _ A1.out).mono ?_
    rintro e w2 ⟨v2, rfl, o2, b2⟩
    rw [HM.out] at o2
    obtain ⟨a2, c2, rfl, _, _, hat2, hbl2⟩ := toks_own o2 HM.out
    have T2 := Lib.hid hat2
    have HB2 := Lib.hid (fun (x : Addr) (h : a2 = some x) => (hbl2 x h).2)
    have B2 := Lib.hid (B1.out.trans (b2.mono B1.out.size))
    clear o2 b2 hat2 hbl2 A1 B1
    go_wp2_with fail
    refine (CT.out _ (HAT.out.below B2.out)).mono ?_
    rintro e w3 ⟨v3, l3, rfl, o3, d3, b3⟩
    obtain ⟨a3, c3, rfl, _, _, hat3⟩ := tabs_own o3 d3 HN.out
    have A3 := Lib.hid (hat3.mono (Nat.zero_le _))
    have O3 := Lib.hid o3
    have D3 := Lib.hid d3
    have C3 := Lib.hid b3
    have T3 := Lib.hid (T2.out.below b3)
    clear o3 d3 b3 hat3 T2
    go_wp2_with fail
    refine (CI.out _ _ _ A3.out).mono ?_
    rintro e w4 ⟨v4, rfl, o4, b4⟩
    rw [HM.out] at o4
    obtain ⟨a4, c4, rfl, _, _, hat4, _⟩ := toks_own o4 HM.out
    have T4 := Lib.hid (T3.out.below b4)
    have O4 := Lib.hid o4
    have G4 := Lib.hid hat4
    have A4 := Lib.hid (A3.out.below b4)
    have OX4 := Lib.hid (ownN_below O3.out b4)
    have DX4 := Lib.hid (OwnLs.below2 b4 _ _ _ D3.out)
    have C4 := Lib.hid (C3.out.trans (b4.mono C3.out.size))
    have h34 := b4.size
    have h23 := C3.out.size
    clear o4 b4 hat4 A3 T3 O3 D3 C3
    go_wp2_with fail
    refine (CQ.out _ _ _ _ _ G4.out T4.out).mono ?_
    rintro e w5 ⟨rfl, b5⟩
    have T5 := Lib.hid (T4.out.below b5)
    have O5 := Lib.hid (ownN_below O4.out b5)
    have A5 := Lib.hid (A4.out.below b5)
    have OX5 := Lib.hid (ownN_below OX4.out b5)
    have DX5 := Lib.hid (OwnLs.below2 b5 _ _ _ DX4.out)
    have C5 := Lib.hid (C4.out.trans (b5.mono C4.out.size))
    have h45 := b5.size
    clear b5 T4 O4 A4 OX4 DX4 C4 G4
    go_wp2_with fail
    refine (CT.out _ (HAT.out.below (B2.out.trans (C5.out.mono B2.out.size)))).mono ?_
    rintro e w6 ⟨v6, l6, rfl, o6, d6, b6⟩
    obtain ⟨a6, c6, rfl, _, _, hat6⟩ := tabs_own o6 d6 HN.out
    have A6 := Lib.hid (hat6.mono (Nat.zero_le _))
    have T6 := Lib.hid (T5.out.below b6)
    have O6 := Lib.hid (ownN_below O5.out b6)
    have AX6 := Lib.hid (A5.out.below b6)
    have OX6 := Lib.hid (ownN_below OX5.out b6)
    have DX6 := Lib.hid (OwnLs.below2 b6 _ _ _ DX5.out)
    have C6 := Lib.hid (C5.out.trans (b6.mono C5.out.size))
    have h56 := b6.size
    clear o6 d6 b6 hat6 T5 O5 A5 OX5 DX5 C5
    go_wp2_with fail
    refine (CE.out _ _ _ _ _ AX6.out A6.out).mono ?_
    rintro e w7 ⟨rfl, b7⟩
    have T7 := Lib.hid (T6.out.below b7)
    have O7 := Lib.hid (ownN_below O6.out b7)
    have OX7 := Lib.hid (ownN_below OX6.out b7)
    have DX7 := Lib.hid (OwnLs.below2 b7 _ _ _ DX6.out)
    have C7 := Lib.hid (C6.out.trans (b7.mono C6.out.size))
    have h67 := b7.size
    clear b7 T6 O6 A6 AX6 OX6 DX6 C6
    go_wp2_with fail
    refine (CM.out _ _ _ _ OX7.out DX7.out (by omega)).mono ?_
    rintro e w8 ⟨rfl, kt8, b8⟩
    have T8 := Lib.hid (T7.out.keep b8 HB2.out)
    have O8 := Lib.hid (kt8 _ _ _ _ O7.out)
    have C8 := Lib.hid (C7.out.trans b8)
    have h78 := b8.size
    have G8 : Hid (TokAt w8 a4 X) := by
      obtain ⟨a', c', e, _, _, ht, _⟩ := toks_own O8.out HM.out
      injection e with e1
      subst e1
      exact ht
    have hk1 : ((kn : Int) < 0) = False := by simp <;> omega
    clear kt8 b8 T7 O7 OX7 DX7 C7
    go_wp2_with fail
    refine (CQ.out _ _ _ _ _ G8.out T8.out).mono ?_
    rintro e w9 ⟨rfl, b9⟩
    have T9 := Lib.hid (T8.out.below b9)
    have O9 := Lib.hid (ownN_below O8.out b9)
    have C9 := Lib.hid (C8.out.trans (b9.mono C8.out.size))
    have h89 := b9.size
    clear b9 T8 O8 C8 G8
    go_wp2_with fail
    refine (markTokenS_any _ w3.heap.size m 1 X _ O9.out HM.out (by omega) (by omega) (by omega)).mono ?_
    rintro e w10 ⟨rfl, o10, b10⟩
    have b10' : Below w2.heap.size w9 w10 := b10.mono h23
    have T10 := Lib.hid (T9.out.keep b10' HB2.out)
    have C10 := Lib.hid (C9.out.trans b10')
    have h910 := b10.size
    have G10 : Hid (TokAt w10 a4 (mkT 1 m)) := by
      obtain ⟨a', c', e, _, _, ht, _⟩ := toks_own o10 (mkT_len 1 m)
      injection e with e1
      subst e1
      exact ht
    clear o10 b10 b10' T9 O9 C9
    go_wp2_with fail
    refine (heldTokenS_any a4 m c4 1 _ G10.out (by omega) (by omega)).mono ?_
    rintro e w11 ⟨rfl, b11⟩
    have T11 := Lib.hid (T10.out.below b11)
    have G11 := Lib.hid (G10.out.below b11)
    have C11 := Lib.hid (C10.out.trans (b11.mono C10.out.size))
    clear b11 T10 G10 C10
    have hk2 : (((1 + 3 * m : Nat) : Int) < 0) = False := by simp <;> omega
    go_wp2_with fail
    refine (CT.out _ (HAT.out.below (B2.out.trans (C11.out.mono B2.out.size)))).mono ?_
    rintro e w12 ⟨v12, l12, rfl, o12, d12, b12⟩
    obtain ⟨a12, c12, rfl, _, _, hat12⟩ := tabs_own o12 d12 HN.out
    have A12 := Lib.hid (hat12.mono (Nat.zero_le _))
    have T12 := Lib.hid (T11.out.below b12)
    have G12 := Lib.hid (G11.out.below b12)
    have C12 := Lib.hid (C11.out.trans (b12.mono C11.out.size))
    clear o12 d12 b12 hat12 T11 G11 C11
    go_wp2_with fail
    refine (CI.out _ _ _ A12.out).mono ?_
    rintro e w13 ⟨v13, rfl, o13, b13⟩
    rw [HM.out] at o13
    obtain ⟨a13, c13, rfl, _, _, hat13, _⟩ := toks_own o13 HM.out
    have H13 := Lib.hid hat13
    have T13 := Lib.hid (T12.out.below b13)
    have G13 := Lib.hid (G12.out.below b13)
    have C13 := Lib.hid (C12.out.trans (b13.mono C12.out.size))
    clear o13 b13 hat13 T12 G12 C12 A12
    go_wp2_with fail
    refine (CQ.out _ _ _ _ _ H13.out T13.out).mono ?_
    rintro e w14 ⟨rfl, b14⟩
    have G14 := Lib.hid (G13.out.below b14)
    have C14 := Lib.hid (C13.out.trans (b14.mono C13.out.size))
    clear b14 T13 G13 C13 H13
    go_wp2_with fail
    refine (heldTokenS_any a4 m c4 1 _ G14.out (by omega) (by omega)).mono ?_
    rintro e w15 ⟨rfl, b15⟩
    have C15 := Lib.hid (C14.out.trans (b15.mono C14.out.size))
    clear b15
    go_wp2
    go_ret
    exact ⟨rfl, B2.out.trans (C15.out.mono B2.out.size)⟩
end Go.Proofs.Ytdoomfckdjjlaaa

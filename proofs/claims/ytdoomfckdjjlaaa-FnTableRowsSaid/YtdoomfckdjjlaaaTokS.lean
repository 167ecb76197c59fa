/- TableTokens of the reference (printed by gen_toks.py). -/
import Derived.Test.YtdoomfckdjjlaaaTokI
import Derived.Test.YtdoomfckdjjlaaaOwnRows
namespace Go.Proofs.Ytdoomfckdjjlaaa
open Go.RowKit

theorem spec_l27Cell (s : ByteArray) (w : World) (hs : s.size ≤ 9223372036854775807) :
    Calls Try.prog 45 #[.string s] w fun e w' => e = .returned (.bool (cellB s)) ∧ w = w' := by
  have CT := Lib.hid (fun W => spec_TextValid s W hs)
  rcases ht : textB (bl s) with _ | _
  · have HB : Hid (cellB s = false) := by show _ = _; rw [cellB, ht]; rfl
    rw [ht] at CT
    clear ht
    go_enter Try.func45, Try.ntmps45
    go_wp2_with (go_at_call 68; refine (CT.out _).mono ?_; rintro e w4 ⟨rfl, rfl⟩)
    go_ret
    exact ⟨by rw [HB.out]; rfl, rfl⟩
  · rw [ht] at CT
    rcases hd : decide (s.size ≤ 30) with _ | _
    · have HB : Hid (cellB s = false) := by show _ = _; rw [cellB, ht, hd]; rfl
      have hb : decide ((s.size : Int) ≤ 30) = false := by rw [decide_eq_false_iff_not] at hd ⊢; omega
      clear ht hd
      go_enter Try.func45, Try.ntmps45
      go_wp2_with (go_at_call 68; refine (CT.out _).mono ?_; rintro e w4 ⟨rfl, rfl⟩)
      go_ret
      exact ⟨by rw [HB.out]; rfl, rfl⟩
    · have HB : Hid (cellB s = true) := by show _ = _; rw [cellB, ht, hd]; rfl
      have hb : decide ((s.size : Int) ≤ 30) = true := by rw [decide_eq_true_iff] at hd ⊢; omega
      clear ht hd
      go_enter Try.func45, Try.ntmps45
      go_wp2_with (go_at_call 68; refine (CT.out _).mono ?_; rintro e w4 ⟨rfl, rfl⟩)
      go_ret
      exact ⟨by rw [HB.out]; rfl, rfl⟩
theorem nopostS {w w' : World} {T : List (List ByteArray)} (hb : Below w.heap.size w w') (h : tabB T = false) : TokPost w (tokR T) (.returned (.slice (some ⟨w'.heap.size, 0, none⟩) 0 0)) (w'.alloc (.cells #[] 53 (0, 0))) := by
  rw [tokR_no h]
  exact ⟨_, rfl, ownN_mono (ownN_new w' #[] 53 4 0 rfl (by omega)) hb.size, hb.alloc hb.size _⟩
theorem flat_len2 {r : List ByteArray} : ∀ j, ((r.take j).flatMap cellToks).length ≤ 3 * j := by
  intro j
  have := flat_len cellToks 3 (r.take j) (fun x _ => (cellToks_len x).2)
  rw [List.length_take] at this
  have h2 : min j r.length * 3 ≤ j * 3 := Nat.mul_le_mul (Nat.min_le_left _ _) (Nat.le_refl _)
  omega

set_option maxRecDepth 100000 in
set_option maxHeartbeats 3200000 in
theorem spec_TableTokens (a0 : Option Addr) (n c0 : Nat) (T : List (List ByteArray)) (w0 : World) (h : TabsAt w0 0 a0 T) (hn : T.length = n) (hn' : n ≤ 1048576) (hs : TabOkN 1048576 T) :
    Calls Try.prog 21 #[.slice a0 n c0] w0 (TokPost w0 (tokR T)) := by
  have CO := Lib.hid (own_rows a0 n c0 T w0 h hn hn' hs)
  have HN := Lib.hid hn; have HS := Lib.hid hs.2
  clear h hn hs
  go_enter Try.func21, Try.ntmps21
  go_wp2_with fail
  refine CO.out.mono ?_
  rintro e w ⟨a, c, rfl, hat, hb0⟩
  have H := Lib.hid hat
  have BZ := Lib.hid hb0
  have hzs := hb0.size
  clear hat hb0 CO
  have O0 := Lib.hid (ownN_new w #[.int .i64 2, .string tableS, .string ⟨#[]⟩, .slice none 0 0] 53 4 1 rfl (by omega))
  have B0 : Hid (Below w.heap.size w (w.alloc (.cells #[.int .i64 2, .string tableS, .string ⟨#[]⟩, .slice none 0 0] 53 (0, 0)))) := (Below.refl _ _).alloc (Nat.le_refl _) _
  go_wp2
  go_loopw [3, 4] (fun o t wr => ∃ (k nn : Nat) (acc : List Tok), t = .int .i64 (k : Int) ∧ k ≤ n ∧ nn ≤ 1 + 20 * k ∧ Hid (acc.length = nn) ∧ wr.ownsRow w.heap.size 53 4 o nn (tokC acc) ∧ Hid (acc = [⟨2, tableS, ⟨#[]⟩⟩] ++ (T.take k).flatMap rowToks) ∧ Hid ((T.take k).all rowB = true) ∧ Below w.heap.size w wr) (fun _ t _ => n - (intOf t).toNat)
  case atStart => exact ⟨0, 1, [⟨2, tableS, ⟨#[]⟩⟩], rfl, Nat.zero_le _, by omega, rfl, O0.out, rfl, rfl, B0.out⟩
  case round =>
    obtain ⟨k, nn, acc, rfl, hk, hnn, HAL, own, HA, HR, hb⟩ := hrel
    have OW := Lib.hid own; have BW := Lib.hid hb
    have hws := hb.size
    clear own hb O0 B0
    by_cases hkn : k < n
    · have hkT : k < T.length := by rw [HN.out]; exact hkn
      obtain ⟨b, off, v, rfl, hbl, x0w, x1⟩ := H.out k hkT
      obtain ⟨fa, fc, rfl, hrow, hf1, hf2, _⟩ := x1
      have hrs := HS.out _ (List.getElem_mem hkT)
      have HFT := Lib.hid (flat_take rowToks hkT)
      have HAT := Lib.hid (fun h2 => all_take' rowB hkT HR.out h2)
      have HBAD := Lib.hid (fun h2 => tab_bad (List.getElem_mem hkT) h2)
      have HLONG := Lib.hid (fun (h2 : 4 < n) => tab_long (T := T) (by rw [HN.out]; exact h2))
      generalize T[k] = r at *
      obtain ⟨rn, hrn⟩ : ∃ rn, r.length = rn := ⟨_, rfl⟩
      rw [hrn] at hf1 x0w hrs
      have HRN := Lib.hid hrn
      have HROW := Lib.hid hrow
      have HRS := Lib.hid hrs.2
      have hrm := hrs.1
      clear hrow hrs hrn
      go_wp2_with (at_builtin; refine wpList_pushTok (.tmp 16) (.tmp 18) w.heap.size ⟨2, trS, ⟨#[]⟩⟩ _ (nn) (acc) OW.out (by omega) (by omega) rfl (by rfl) (by rfl) _ rfl (by rfl) ?_; intro v5 w5 o5 b5; have O5 := Lib.hid o5; have B5 := Lib.hid (BW.out.trans b5); have hs5 := B5.out.size; clear o5 b5)
      go_loopw [3, 5] (fun o t wi => ∃ (j mm : Nat) (ac : List Tok), t = .int .i64 (j : Int) ∧ j ≤ rn ∧ mm ≤ nn + 1 + 3 * j ∧ (j = 0 ∨ (rn ≤ 6 ∧ n ≤ 4)) ∧ Hid (ac.length = mm) ∧ wi.ownsRow w.heap.size 53 4 o mm (tokC ac) ∧ Hid (ac = acc ++ [⟨2, trS, ⟨#[]⟩⟩] ++ (r.take j).flatMap cellToks) ∧ Hid ((r.take j).all cellB = true) ∧ Below w.heap.size w wi) (fun _ t _ => rn - (intOf t).toNat)
      case atStart => exact ⟨0, nn + 1, _, rfl, Nat.zero_le _, by omega, .inl rfl, by show _ = _; rw [List.length_append, HAL.out]; rfl, O5.out, by show _ = _; simp, rfl, B5.out⟩
      case round =>
        rename World => wi
        obtain ⟨j, mm, ac, rfl, hj, hmm, hj0, HACL, owi, HAC, HCB, hbi⟩ := hrel
        have OI := Lib.hid owi; have BI := Lib.hid hbi
        have hwi := hbi.size
        have x0 := (BI.out.cell (p := ⟨b, off + k, none⟩) hbl).trans x0w
        have hbr : b < wi.heap.size := Nat.lt_of_lt_of_le hbl hwi
        have BA := Lib.hid (BZ.out.trans (BI.out.mono hzs))
        clear owi hbi O5 B5
        by_cases hjr : j < rn
        · have hjl : j < (r.map strV).length := by rw [List.length_map, HRN.out]; exact hjr
          have hjr' : j < r.length := by rw [HRN.out]; exact hjr
          obtain ⟨b2, off2, hfa, hb2w, hc2⟩ := HROW.out j hjl
          rw [List.getElem_map] at hc2
          have hcw : w.cell? ⟨b2, off2 + j, none⟩ = some (.string r[j]) := hc2
          have hc3 : wi.cell? ⟨b2, off2 + j, none⟩ = some (.string r[j]) := (BI.out.cell (p := ⟨b2, off2 + j, none⟩) hb2w).trans hcw
          have hsz := HRS.out _ (List.getElem_mem hjr')
          have HF2 := Lib.hid (flat_take cellToks hjr')
          have HA2 := Lib.hid (fun h2 => all_take' cellB hjr' HCB.out h2)
          have HBD := Lib.hid (fun h2 => HBAD.out (row_bad (List.getElem_mem hjr') h2))
          subst hfa
          clear hc2
          generalize r[j] = s at *
          have CT := Lib.hid (fun W => spec_l27Cell s W (by omega))
          rcases ht : cellB s with _ | _
          · have HB := Lib.hid (HBD.out ht)
            rw [ht] at CT
            clear ht
            go_wp2_with (go_at_call 45; refine (CT.out _).mono ?_; rintro e w4 ⟨rfl, rfl⟩)
            go_ret
            exact nopostS BA.out HB.out
          · have HB := Lib.hid (HA2.out ht)
            rw [ht] at CT
            clear ht
            by_cases h6 : 6 < rn
            · have HB2 := Lib.hid (HBAD.out (row_long (by rw [HRN.out]; exact h6)))
              go_wp2_with (go_at_call 45; refine (CT.out _).mono ?_; rintro e w4 ⟨rfl, rfl⟩)
              go_ret
              exact nopostS BA.out HB2.out
            · by_cases h4 : 4 < n
              · have HB2 := Lib.hid (HLONG.out h4)
                go_wp2_with (go_at_call 45; refine (CT.out _).mono ?_; rintro e w4 ⟨rfl, rfl⟩)
                go_ret
                exact nopostS BA.out HB2.out
              · by_cases he : s = ⟨#[]⟩
                · subst he
                  go_wp2_with (first
                    | (go_at_call 45; refine (CT.out _).mono ?_; rintro e w4 ⟨rfl, rfl⟩)
                    | (at_builtin; refine wpList_pushTok (.tmp 52) (.tmp 54) w.heap.size ⟨2, tdS, ⟨#[]⟩⟩ _ (mm) (ac) OI.out (by omega) (by omega) rfl (by rfl) (by rfl) _ rfl (by rfl) ?_; intro v6 w6 o6 b6; have O6 := Lib.hid o6; have B6 := Lib.hid (BI.out.trans b6); have hs6 := B6.out.size; have x06 := (B6.out.cell (p := ⟨b, off + k, none⟩) hbl).trans x0w; have c36 := (B6.out.cell (p := ⟨b2, off2 + j, none⟩) hb2w).trans hcw; clear o6 b6)
                    | (at_builtin; refine wpList_pushTok (.tmp 75) (.tmp 77) w.heap.size ⟨3, tdS, ⟨#[]⟩⟩ _ (mm + 1) (ac ++ [⟨2, tdS, ⟨#[]⟩⟩]) O6.out (by omega) (by omega) rfl (by rfl) (by rfl) _ rfl (by rfl) ?_; intro v7 w7 o7 b7; have O7 := Lib.hid o7; have B7 := Lib.hid (B6.out.trans b7); have hs7 := B7.out.size; clear o7 b7))
                  go_wp2
                  go_roundw
                  case rel => exact ⟨j + 1, mm + 1 + 1, _, by go_num, by omega, by omega, .inr (by omega), by show _ = _; rw [List.length_append, List.length_append, HACL.out]; rfl, O7.out, by show _ = _; rw [HAC.out, HF2.out, cellToks, if_pos rfl]; simp, HB.out, B7.out⟩
                  case measure => simp [intOf]; omega
                · have hem := emptyT he
                  go_wp2_with (first
                    | (go_at_call 45; refine (CT.out _).mono ?_; rintro e w4 ⟨rfl, rfl⟩)
                    | (at_builtin; refine wpList_pushTok (.tmp 52) (.tmp 54) w.heap.size ⟨2, tdS, ⟨#[]⟩⟩ _ (mm) (ac) OI.out (by omega) (by omega) rfl (by rfl) (by rfl) _ rfl (by rfl) ?_; intro v6 w6 o6 b6; have O6 := Lib.hid o6; have B6 := Lib.hid (BI.out.trans b6); have hs6 := B6.out.size; have x06 := (B6.out.cell (p := ⟨b, off + k, none⟩) hbl).trans x0w; have c36 := (B6.out.cell (p := ⟨b2, off2 + j, none⟩) hb2w).trans hcw; clear o6 b6)
                    | (at_builtin; refine wpList_pushTok (.tmp 64) (.tmp 73) w.heap.size ⟨1, ⟨#[]⟩, s⟩ _ (mm + 1) (ac ++ [⟨2, tdS, ⟨#[]⟩⟩]) O6.out (by omega) (by omega) rfl (by rfl) (by rfl) _ rfl (by rfl) ?_; intro v7 w7 o7 b7; have O7 := Lib.hid o7; have B7 := Lib.hid (B6.out.trans b7); have hs7 := B7.out.size; clear o7 b7)
                    | (at_builtin; refine wpList_pushTok (.tmp 75) (.tmp 77) w.heap.size ⟨3, tdS, ⟨#[]⟩⟩ _ (mm + 1 + 1) (ac ++ [⟨2, tdS, ⟨#[]⟩⟩] ++ [⟨1, ⟨#[]⟩, s⟩]) O7.out (by omega) (by omega) rfl (by rfl) (by rfl) _ rfl (by rfl) ?_; intro v8 w8 o8 b8; have O8 := Lib.hid o8; have B8 := Lib.hid (B7.out.trans b8); have hs8 := B8.out.size; clear o8 b8))
                  go_wp2
                  go_roundw
                  case rel => exact ⟨j + 1, mm + 1 + 1 + 1, _, by go_num, by omega, by omega, .inr (by omega), by show _ = _; rw [List.length_append, List.length_append, List.length_append, HACL.out]; rfl, O8.out, by show _ = _; rw [HAC.out, HF2.out, cellToks, if_neg he]; simp, HB.out, B8.out⟩
                  case measure => simp [intOf]; omega
        · obtain rfl : j = rn := by omega
          have HRB : Hid (rowB r = true) := by
            have := HCB.out
            rw [List.take_of_length_le (by rw [HRN.out]; exact Nat.le_refl _)] at this
            show _ = _
            rw [rowB, this, decide_eq_true (by rw [HRN.out]; omega)]; rfl
          have HFL : Hid ((r.take j).flatMap cellToks = r.flatMap cellToks) := by show _ = _; rw [List.take_of_length_le (by rw [HRN.out]; exact Nat.le_refl _)]
          go_wp2_with (at_builtin; refine wpList_pushTok (.tmp 79) (.tmp 81) w.heap.size ⟨3, trS, ⟨#[]⟩⟩ _ (mm) (ac) OI.out (by omega) (by omega) rfl (by rfl) (by rfl) _ rfl (by rfl) ?_; intro v6 w6 o6 b6; have O6 := Lib.hid o6; have B6 := Lib.hid (BI.out.trans b6); have hs6 := B6.out.size; clear o6 b6)
          go_wp2
          go_roundw
          case rel => exact ⟨k + 1, mm + 1, _, by go_num, by omega, by omega, by show _ = _; rw [List.length_append, HACL.out]; rfl, O6.out, by show _ = _; rw [HAC.out, HFL.out, HA.out, HFT.out, rowToks]; simp, HAT.out HRB.out, B6.out⟩
          case measure => simp [intOf]; omega
    · obtain rfl : k = n := by omega
      have hTk : T.take k = T := List.take_of_length_le (by rw [HN.out]; exact Nat.le_refl _)
      rw [hTk] at HA HR
      have HTT : Hid (acc ++ [⟨3, tableS, ⟨#[]⟩⟩] = tabToks T) := by show _ = _; rw [HA.out, tabToks]
      have HLT : Hid ((tabToks T).length = nn + 1) := by show _ = _; rw [← HTT.out, List.length_append, HAL.out]; rfl
      by_cases h4 : 4 < k
      · have HB := Lib.hid (tab_long (T := T) (by rw [HN.out]; exact h4))
        go_wp2_with (at_builtin; refine wpList_pushTok (.tmp 83) (.tmp 85) w.heap.size ⟨3, tableS, ⟨#[]⟩⟩ _ (nn) (acc) OW.out (by omega) (by omega) rfl (by rfl) (by rfl) _ rfl (by rfl) ?_; intro v5 w5 o5 b5; obtain ⟨af, cf, hvf, _, hcf, hcf2, _⟩ := ownN_formn o5; subst hvf; have O5 := Lib.hid o5; have B5 := Lib.hid (BW.out.trans b5); have hs5 := B5.out.size; clear o5 b5)
        go_wp2
        go_ret
        exact nopostS (BZ.out.trans (B5.out.mono hzs)) HB.out
      · by_cases h60 : 60 < nn + 1
        · have HB : Hid (tabB T = false) := by show _ = _; rw [tabB, decide_eq_false (show ¬ (tabToks T).length ≤ 60 by rw [HLT.out]; omega), Bool.and_false]
          go_wp2_with (at_builtin; refine wpList_pushTok (.tmp 83) (.tmp 85) w.heap.size ⟨3, tableS, ⟨#[]⟩⟩ _ (nn) (acc) OW.out (by omega) (by omega) rfl (by rfl) (by rfl) _ rfl (by rfl) ?_; intro v5 w5 o5 b5; obtain ⟨af, cf, hvf, _, hcf, hcf2, _⟩ := ownN_formn o5; subst hvf; have O5 := Lib.hid o5; have B5 := Lib.hid (BW.out.trans b5); have hs5 := B5.out.size; clear o5 b5)
          go_wp2
          go_ret
          exact nopostS (BZ.out.trans (B5.out.mono hzs)) HB.out
        · have HB : Hid (tabB T = true) := by show _ = _; rw [tabB, decide_eq_true (show (tabToks T).length ≤ 60 by rw [HLT.out]; omega), HR.out, decide_eq_true (by rw [HN.out]; omega)]; rfl
          go_wp2_with (at_builtin; refine wpList_pushTok (.tmp 83) (.tmp 85) w.heap.size ⟨3, tableS, ⟨#[]⟩⟩ _ (nn) (acc) OW.out (by omega) (by omega) rfl (by rfl) (by rfl) _ rfl (by rfl) ?_; intro v5 w5 o5 b5; obtain ⟨af, cf, hvf, _, hcf, hcf2, _⟩ := ownN_formn o5; subst hvf; have O5 := Lib.hid o5; have B5 := Lib.hid (BW.out.trans b5); have hs5 := B5.out.size; clear o5 b5)
          go_wp2
          go_ret
          rw [tokR_yes HB.out]
          exact ⟨_, rfl, ownT_eq (ownN_mono O5.out hzs) HLT.out.symm HTT.out, BZ.out.trans (B5.out.mono hzs)⟩
end Go.Proofs.Ytdoomfckdjjlaaa

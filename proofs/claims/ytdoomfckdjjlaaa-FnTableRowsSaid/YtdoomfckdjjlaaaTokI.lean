/- TableTokens of the program (printed by gen_toki.py). -/
import Derived.Test.YtdoomfckdjjlaaaTok
import Derived.Test.YtdoomfckdjjlaaaStr
namespace Go.Proofs.Ytdoomfckdjjlaaa
open Go.RowKit

/-- What a call of TableTokens returns. -/
def TokPost (w : World) (T : List Tok) (e : Ending) (w' : World) : Prop :=
  ∃ v, e = .returned v ∧ w'.ownsRow w.heap.size 53 4 v T.length (tokC T) ∧ Below w.heap.size w w'
/-- The same, and nil if there are no tokens. -/
def TokPostN (w : World) (T : List Tok) (e : Ending) (w' : World) : Prop :=
  ∃ v, e = .returned v ∧ w'.ownsRow w.heap.size 53 4 v T.length (tokC T) ∧ Below w.heap.size w w' ∧ (T = [] → v = .slice none 0 0)
theorem own_nilT (w : World) (B : Nat) (e : TypeId) (k : Nat) : w.ownsRow B e k (.slice none 0 0) 0 [] := ⟨by simp, .inl ⟨rfl, rfl⟩⟩
theorem ownT_eq {w : World} {B n m : Nat} {v : Value} {l l' : List Tok} (h : w.ownsRow B 53 4 v n (tokC l)) (hn : n = m) (hl : l = l') : w.ownsRow B 53 4 v m (tokC l') := by subst hn; subst hl; exact h
theorem emptyT {s : ByteArray} (h : ¬ s = ⟨#[]⟩) : s.toList.isEmpty = false := by
  rw [ByteArray.toList_eq]
  rcases hb : s.data.toList.isEmpty with _ | _
  · rfl
  · rw [List.isEmpty_iff] at hb
    exact absurd (bl_inj (a := s) (b := ⟨#[]⟩) hb) h
theorem flat_take {α : Type} (f : α → List Tok) {l : List α} {k : Nat} (h : k < l.length) : (l.take (k + 1)).flatMap f = (l.take k).flatMap f ++ f l[k] := by
  rw [List.take_succ_eq_append_getElem h, List.flatMap_append]; simp
theorem all_take' {α : Type} (p : α → Bool) {l : List α} {k : Nat} (h : k < l.length) (h1 : (l.take k).all p = true) (h2 : p l[k] = true) : (l.take (k + 1)).all p = true := by
  rw [List.take_succ_eq_append_getElem h, List.all_append, h1]; simp [h2]
theorem nopost {w w' : World} (hb : Below w.heap.size w w') {T : List (List ByteArray)} (h : tabB T = false) : TokPostN w (tokR T) (.returned (.slice none 0 0)) w' := by
  rw [tokR_no h]
  exact ⟨_, rfl, own_nilT _ _ _ _, hb, fun _ => rfl⟩

set_option maxRecDepth 100000 in
set_option maxHeartbeats 3200000 in
theorem impl_TableTokensN (a : Option Addr) (n c : Nat) (T : List (List ByteArray)) (w : World) (h : TabsAt w 0 a T) (hn : T.length = n) (hn' : n ≤ 1048576) (hs : TabOkN 9223372036854775807 T) :
    Calls Try.prog 19 #[.slice a n c] w (TokPostN w (tokR T)) := by
  have H := Lib.hid h; have HN := Lib.hid hn; have HS := Lib.hid hs.2
  clear h hn hs
  by_cases h4 : 4 < n
  · have HB := Lib.hid (tab_long (T := T) (by rw [HN.out]; exact h4))
    go_enter Try.func19, Try.ntmps19
    go_wp2
    go_ret
    exact nopost (Below.refl _ _) HB.out
  have O0 := Lib.hid (ownN_new w #[.int .i64 2, .string tableS, .string ⟨#[]⟩, .slice none 0 0] 53 4 1 rfl (by omega))
  have B0 : Hid (Below w.heap.size w (w.alloc (.cells #[.int .i64 2, .string tableS, .string ⟨#[]⟩, .slice none 0 0] 53 (0, 0)))) := (Below.refl _ _).alloc (Nat.le_refl _) _
  go_enter Try.func19, Try.ntmps19
  go_wp2
  go_loopw [3, 15] (fun o t wr => ∃ (k nn : Nat) (acc : List Tok), t = .int .i64 (k : Int) ∧ k ≤ n ∧ nn ≤ 1 + 20 * k ∧ Hid (acc.length = nn) ∧ wr.ownsRow w.heap.size 53 4 o nn (tokC acc) ∧ Hid (acc = [⟨2, tableS, ⟨#[]⟩⟩] ++ (T.take k).flatMap rowToks) ∧ Hid ((T.take k).all rowB = true) ∧ Below w.heap.size w wr) (fun _ t _ => n - (intOf t).toNat)
  case atStart => exact ⟨0, 1, [⟨2, tableS, ⟨#[]⟩⟩], rfl, Nat.zero_le _, by omega, rfl, O0.out, rfl, rfl, B0.out⟩
  case round =>
    obtain ⟨k, nn, acc, rfl, hk, hnn, HAL, own, HA, HR, hb⟩ := hrel
    have OW := Lib.hid own; have BW := Lib.hid hb
    have hws := hb.size
    clear own hb O0 B0
    by_cases hkn : k < n
    · have hkT : k < T.length := by rw [HN.out]; exact hkn
      obtain ⟨b, off, v, rfl, hbl, x0w, x1⟩ := H.out k hkT
      obtain ⟨fa, fc, rfl, hrow, hf1, hf2, _⟩ := x1
      have x0 := (BW.out.cell (p := ⟨b, off + k, none⟩) hbl).trans x0w
      have hbr : b < wr.heap.size := Nat.lt_of_lt_of_le hbl hws
      clear x0w
      have hrs := HS.out _ (List.getElem_mem hkT)
      have HFT := Lib.hid (flat_take rowToks hkT)
      have HAT := Lib.hid (fun h2 => all_take' rowB hkT HR.out h2)
      have HBAD := Lib.hid (fun h2 => tab_bad (List.getElem_mem hkT) h2)
      generalize T[k] = r at *
      obtain ⟨rn, hrn⟩ : ∃ rn, r.length = rn := ⟨_, rfl⟩
      rw [hrn] at hf1 x0 hrs
      have HRN := Lib.hid hrn
      have HROW := Lib.hid hrow
      have HRS := Lib.hid hrs.2
      clear hrow hrs hrn
      by_cases h6 : 6 < rn
      · have HB := Lib.hid (HBAD.out (row_long (by rw [HRN.out]; exact h6)))
        go_wp2
        go_ret
        exact nopost BW.out HB.out
      · go_wp2_with (at_builtin; refine wpList_pushTok (.tmp 22) (.tmp 24) w.heap.size ⟨2, trS, ⟨#[]⟩⟩ _ (nn) (acc) OW.out (by omega) (by omega) rfl (by rfl) (by rfl) _ rfl (by rfl) ?_; intro v5 w5 o5 b5; have O5 := Lib.hid o5; have B5 := Lib.hid (BW.out.trans b5); have hs5 := B5.out.size; clear o5 b5)
        go_loopw [3, 28] (fun o t wi => ∃ (j mm : Nat) (ac : List Tok), t = .int .i64 (j : Int) ∧ j ≤ rn ∧ mm ≤ nn + 1 + 3 * j ∧ Hid (ac.length = mm) ∧ wi.ownsRow w.heap.size 53 4 o mm (tokC ac) ∧ Hid (ac = acc ++ [⟨2, trS, ⟨#[]⟩⟩] ++ (r.take j).flatMap cellToks) ∧ Hid ((r.take j).all cellB = true) ∧ Below w.heap.size w wi) (fun _ t _ => rn - (intOf t).toNat)
        case atStart => exact ⟨0, nn + 1, _, rfl, Nat.zero_le _, by omega, by show _ = _; rw [List.length_append, HAL.out]; rfl, O5.out, by show _ = _; simp, rfl, B5.out⟩
        case round =>
          rename World => wi
          obtain ⟨j, mm, ac, rfl, hj, hmm, HACL, owi, HAC, HCB, hbi⟩ := hrel
          have OI := Lib.hid owi; have BI := Lib.hid hbi
          have hwi := hbi.size
          clear owi hbi O5 B5
          by_cases hjr : j < rn
          · have hjl : j < (r.map strV).length := by rw [List.length_map, HRN.out]; exact hjr
            have hjr' : j < r.length := by rw [HRN.out]; exact hjr
            obtain ⟨b2, off2, hfa, hb2, hc2⟩ := (HROW.out.below (Nat.le_refl _) BI.out) j hjl
            rw [List.getElem_map] at hc2
            have hc3 : wi.cell? ⟨b2, off2 + j, none⟩ = some (.string r[j]) := hc2
            have hsz := HRS.out _ (List.getElem_mem hjr')
            have HF2 := Lib.hid (flat_take cellToks hjr')
            have HA2 := Lib.hid (fun h2 => all_take' cellB hjr' HCB.out h2)
            have HBD := Lib.hid (fun h2 => HBAD.out (row_bad (List.getElem_mem hjr') h2))
            subst hfa
            clear hc2
            generalize r[j] = s at *
            by_cases h30 : 30 < s.size
            · have HB := Lib.hid (HBD.out (by rw [cellB, decide_eq_false (by omega), Bool.and_false]))
              go_wp2
              go_ret
              exact nopost BI.out HB.out
            · have CT := Lib.hid (fun W => impl_TextValid s W hsz)
              rcases ht : textB (bl s) with _ | _
              · have HB := Lib.hid (HBD.out (by rw [cellB, ht, Bool.false_and]))
                rw [ht] at CT
                clear ht
                go_wp2_with (go_at_call 40; refine (CT.out _).mono ?_; rintro e w4 ⟨rfl, rfl⟩)
                go_ret
                exact nopost BI.out HB.out
              · have HB := Lib.hid (HA2.out (by rw [cellB, ht, decide_eq_true (by omega)]; rfl))
                rw [ht] at CT
                clear ht
                by_cases he : s = ⟨#[]⟩
                · subst he
                  go_wp2_with (first
                    | (go_at_call 40; refine (CT.out _).mono ?_; rintro e w4 ⟨rfl, rfl⟩)
                    | (at_builtin; refine wpList_pushTok (.tmp 40) (.tmp 42) w.heap.size ⟨2, tdS, ⟨#[]⟩⟩ _ (mm) (ac) OI.out (by omega) (by omega) rfl (by rfl) (by rfl) _ rfl (by rfl) ?_; intro v6 w6 o6 b6; have O6 := Lib.hid o6; have B6 := Lib.hid (BI.out.trans b6); have hs6 := B6.out.size; clear o6 b6)
                    | (at_builtin; refine wpList_pushTok (.tmp 51) (.tmp 53) w.heap.size ⟨3, tdS, ⟨#[]⟩⟩ _ (mm + 1) (ac ++ [⟨2, tdS, ⟨#[]⟩⟩]) O6.out (by omega) (by omega) rfl (by rfl) (by rfl) _ rfl (by rfl) ?_; intro v7 w7 o7 b7; have O7 := Lib.hid o7; have B7 := Lib.hid (B6.out.trans b7); have hs7 := B7.out.size; clear o7 b7))
                  go_wp2
                  go_roundw
                  case rel => exact ⟨j + 1, mm + 1 + 1, _, by go_num, by omega, by omega, by show _ = _; rw [List.length_append, List.length_append, HACL.out]; rfl, O7.out, by show _ = _; rw [HAC.out, HF2.out, cellToks, if_pos rfl]; simp, HB.out, B7.out⟩
                  case measure => simp [intOf]; omega
                · have hem := emptyT he
                  go_wp2_with (first
                    | (go_at_call 40; refine (CT.out _).mono ?_; rintro e w4 ⟨rfl, rfl⟩)
                    | (at_builtin; refine wpList_pushTok (.tmp 40) (.tmp 42) w.heap.size ⟨2, tdS, ⟨#[]⟩⟩ _ (mm) (ac) OI.out (by omega) (by omega) rfl (by rfl) (by rfl) _ rfl (by rfl) ?_; intro v6 w6 o6 b6; have O6 := Lib.hid o6; have B6 := Lib.hid (BI.out.trans b6); have hs6 := B6.out.size; clear o6 b6)
                    | (at_builtin; refine wpList_pushTok (.tmp 46) (.tmp 49) w.heap.size ⟨1, ⟨#[]⟩, s⟩ _ (mm + 1) (ac ++ [⟨2, tdS, ⟨#[]⟩⟩]) O6.out (by omega) (by omega) rfl (by rfl) (by rfl) _ rfl (by rfl) ?_; intro v7 w7 o7 b7; have O7 := Lib.hid o7; have B7 := Lib.hid (B6.out.trans b7); have hs7 := B7.out.size; clear o7 b7)
                    | (at_builtin; refine wpList_pushTok (.tmp 51) (.tmp 53) w.heap.size ⟨3, tdS, ⟨#[]⟩⟩ _ (mm + 1 + 1) (ac ++ [⟨2, tdS, ⟨#[]⟩⟩] ++ [⟨1, ⟨#[]⟩, s⟩]) O7.out (by omega) (by omega) rfl (by rfl) (by rfl) _ rfl (by rfl) ?_; intro v8 w8 o8 b8; have O8 := Lib.hid o8; have B8 := Lib.hid (B7.out.trans b8); have hs8 := B8.out.size; clear o8 b8))
                  go_wp2
                  go_roundw
                  case rel => exact ⟨j + 1, mm + 1 + 1 + 1, _, by go_num, by omega, by omega, by show _ = _; rw [List.length_append, List.length_append, List.length_append, HACL.out]; rfl, O8.out, by show _ = _; rw [HAC.out, HF2.out, cellToks, if_neg he]; simp, HB.out, B8.out⟩
                  case measure => simp [intOf]; omega
          · obtain rfl : j = rn := by omega
            have HRB : Hid (rowB r = true) := by
              have := HCB.out
              rw [List.take_of_length_le (by rw [HRN.out]; exact Nat.le_refl _)] at this
              show _ = _
              rw [rowB, this, decide_eq_true (by rw [HRN.out]; omega)]; rfl
            have HFL : Hid ((r.take j).flatMap cellToks = r.flatMap cellToks) := by show _ = _; rw [List.take_of_length_le (by rw [HRN.out]; exact Nat.le_refl _)]
            go_wp2_with (at_builtin; refine wpList_pushTok (.tmp 56) (.tmp 58) w.heap.size ⟨3, trS, ⟨#[]⟩⟩ _ (mm) (ac) OI.out (by omega) (by omega) rfl (by rfl) (by rfl) _ rfl (by rfl) ?_; intro v6 w6 o6 b6; have O6 := Lib.hid o6; have B6 := Lib.hid (BI.out.trans b6); have hs6 := B6.out.size; clear o6 b6)
            go_wp2
            go_roundw
            case rel => exact ⟨k + 1, mm + 1, _, by go_num, by omega, by omega, by show _ = _; rw [List.length_append, HACL.out]; rfl, O6.out, by show _ = _; rw [HAC.out, HFL.out, HA.out, HFT.out, rowToks]; simp, HAT.out HRB.out, B6.out⟩
            case measure => simp [intOf]; omega
    · obtain rfl : k = n := by omega
      have hTk : T.take k = T := List.take_of_length_le (by rw [HN.out]; exact Nat.le_refl _)
      rw [hTk] at HA HR
      have HTT : Hid (acc ++ [⟨3, tableS, ⟨#[]⟩⟩] = tabToks T) := by show _ = _; rw [HA.out, tabToks]
      have HLT : Hid ((tabToks T).length = nn + 1) := by show _ = _; rw [← HTT.out, List.length_append, HAL.out]; rfl
      by_cases h60 : 60 < nn + 1
      · have HB : Hid (tabB T = false) := by show _ = _; rw [tabB, decide_eq_false (show ¬ (tabToks T).length ≤ 60 by rw [HLT.out]; omega), Bool.and_false]
        go_wp2_with (at_builtin; refine wpList_pushTok (.tmp 61) (.tmp 63) w.heap.size ⟨3, tableS, ⟨#[]⟩⟩ _ (nn) (acc) OW.out (by omega) (by omega) rfl (by rfl) (by rfl) _ rfl (by rfl) ?_; intro v5 w5 o5 b5; obtain ⟨af, cf, hvf, _, hcf, hcf2, _⟩ := ownN_formn o5; subst hvf; have O5 := Lib.hid o5; have B5 := Lib.hid (BW.out.trans b5); have hs5 := B5.out.size; clear o5 b5)
        go_wp2
        go_ret
        exact nopost B5.out HB.out
      · have HB : Hid (tabB T = true) := by show _ = _; rw [tabB, decide_eq_true (show (tabToks T).length ≤ 60 by rw [HLT.out]; omega), HR.out, decide_eq_true (by rw [HN.out]; omega)]; rfl
        go_wp2_with (at_builtin; refine wpList_pushTok (.tmp 61) (.tmp 63) w.heap.size ⟨3, tableS, ⟨#[]⟩⟩ _ (nn) (acc) OW.out (by omega) (by omega) rfl (by rfl) (by rfl) _ rfl (by rfl) ?_; intro v5 w5 o5 b5; obtain ⟨af, cf, hvf, _, hcf, hcf2, _⟩ := ownN_formn o5; subst hvf; have O5 := Lib.hid o5; have B5 := Lib.hid (BW.out.trans b5); have hs5 := B5.out.size; clear o5 b5)
        go_wp2
        go_ret
        rw [tokR_yes HB.out]
        exact ⟨_, rfl, ownT_eq O5.out HLT.out.symm HTT.out, B5.out, fun h0 => by have := HLT.out; rw [h0] at this; simp at this⟩
theorem impl_TableTokens (a : Option Addr) (n c : Nat) (T : List (List ByteArray)) (w : World) (h : TabsAt w 0 a T) (hn : T.length = n) (hn' : n ≤ 1048576) (hs : TabOkN 9223372036854775807 T) :
    Calls Try.prog 19 #[.slice a n c] w (TokPost w (tokR T)) :=
  (impl_TableTokensN a n c T w h hn hn' hs).mono fun _ _ ⟨v, h1, h2, h3, _⟩ => ⟨v, h1, h2, h3⟩
end Go.Proofs.Ytdoomfckdjjlaaa

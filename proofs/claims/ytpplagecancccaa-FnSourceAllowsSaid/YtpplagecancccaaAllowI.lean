/- SourceAllows of the program; the law that asks for the same answers (printed by gen_allowi.py). -/
import Derived.Test.YtpplagecancccaaAllowS
import Derived.Laws.Cover3
namespace Go.Proofs.Ytpplagecancccaa
open Go.RowKit

theorem nil_eq (a : Option Addr) (l c : Nat) (W : World) : (binOp .eql 27 (.slice a l c) (.slice none 0 0)).run Try.prog W = .ok (.bool a.isNone) W := by
  simp only [binOp]
  simp [run_equal_slice_nil W 27 9 a l c Try.underlying27]
theorem nil_yes (W : World) : (binOp .eql 27 (.slice none 0 0) (.slice none 0 0)).run Try.prog W = .ok (.bool true) W := nil_eq none 0 0 W
theorem nil_no (x : Addr) (l c : Nat) (W : World) : (binOp .eql 27 (.slice (some x) l c) (.slice none 0 0)).run Try.prog W = .ok (.bool false) W := nil_eq (some x) l c W
theorem allowW_c (t home host : List UInt8) : allowW t home host = (bif decide (t = noneL) then false else bif decide (t = selfL) then decide (host = home) else bif decide (t.take 2 = starL) then (decide ((cutW t).length + 1 < host.length) && Lib.hasSuffix host (46 :: cutW t)) else decide (t = host)) := by
  rw [allowW_b]
  by_cases h : t.take 2 = starL
  · rw [cutW, if_pos h]
  · rw [decide_eq_false h]; rfl

set_option maxRecDepth 100000 in
set_option maxHeartbeats 6400000 in
theorem impl_SourceAllows (a : Option Addr) (n c : Nat) (S : List Src) (kind home host : ByteArray) (w : World) (h : SrcsAt w 0 a S) (hn : S.length = n) (hn' : n ≤ 1048576) (hc : n ≤ c) (hc' : c ≤ 9223372036854775807) (hs : ∀ s ∈ S, SrcOk 1048576 s) (hk1 : kind.size ≤ 1048576) (hm1 : home.size ≤ 1048576) (hh1 : host.size ≤ 1048576) :
    Calls Try.prog 16 #[.slice a n c, .string kind, .string home, .string host] w fun e w' => e = .returned (.bool (allowR S kind home host)) ∧ Below w.heap.size w w' := by
  have CV : ∀ W, SrcsAt W 0 a S → Calls Try.prog 9 #[.slice a n c] W fun e w' => e = .returned (.bool (validB S)) ∧ Below W.heap.size W w' := fun W h => impl_SourcesValid a n c S W h hn hn' hc hc' hs
  have CN : ∀ W, Calls Try.prog 18 #[.string kind] W fun e w' => e = .returned (.bool (nameB (bl kind))) ∧ W = w' := fun W => impl_NameValid kind W (by omega)
  have CH1 : ∀ W, Calls Try.prog 24 #[.string home] W fun e w' => e = .returned (.bool (hostB (bl home))) ∧ W = w' := fun W => impl_hostOk home W (by omega)
  have CH2 : ∀ W, Calls Try.prog 24 #[.string host] W fun e w' => e = .returned (.bool (hostB (bl host))) ∧ W = w' := fun W => impl_hostOk host W (by omega)
  have H := Lib.hid h; have HN := Lib.hid hn; have HS := Lib.hid hs
  have HVA := Lib.hid (@valid_allA S)
  have HAR : Hid (allowR S kind home host = (validB S && nameB (bl kind) && hostB (bl home) && hostB (bl host) && allowO (pickS S kind) home host)) := rfl
  have HHB : Hid (hostB (bl host) = true → hostB (bl host) = true) := fun h => h
  clear h hn hs
  generalize validB S = vb at *
  generalize nameB (bl kind) = nb at *
  generalize hostB (bl home) = b1 at *
  generalize hb2 : hostB (bl host) = b2 at *
  have HB2 := Lib.hid hb2
  clear hb2 HHB
  generalize allowR S kind home host = r at *
  cases vb
  case false =>
    have CVh := Lib.hid CV; have CNh := Lib.hid CN; have CH1h := Lib.hid CH1; have CH2h := Lib.hid CH2
    have HR : Hid (r = false) := by show _ = _; rw [HAR.out]; simp
    clear CV CN CH1 CH2 HAR HVA
    go_enter Try.func16, Try.ntmps16
    go_wp2_with fail
    refine (CVh.out _ H.out).mono ?_
    rintro e w1 ⟨rfl, bb1⟩
    go_wp2
    go_ret
    exact ⟨ret_bool HR.out.symm, bb1⟩
  cases nb
  case false =>
    have CVh := Lib.hid CV; have CNh := Lib.hid CN; have CH1h := Lib.hid CH1; have CH2h := Lib.hid CH2
    have HR : Hid (r = false) := by show _ = _; rw [HAR.out]; simp
    clear CV CN CH1 CH2 HAR HVA
    go_enter Try.func16, Try.ntmps16
    go_wp2_with fail
    refine (CVh.out _ H.out).mono ?_
    rintro e w1 ⟨rfl, bb1⟩
    go_wp2_with fail
    refine (CNh.out _).mono ?_
    rintro e w2 ⟨rfl, rfl⟩
    go_wp2
    go_ret
    exact ⟨ret_bool HR.out.symm, bb1⟩
  cases b1
  case false =>
    have CVh := Lib.hid CV; have CNh := Lib.hid CN; have CH1h := Lib.hid CH1; have CH2h := Lib.hid CH2
    have HR : Hid (r = false) := by show _ = _; rw [HAR.out]; simp
    clear CV CN CH1 CH2 HAR HVA
    go_enter Try.func16, Try.ntmps16
    go_wp2_with fail
    refine (CVh.out _ H.out).mono ?_
    rintro e w1 ⟨rfl, bb1⟩
    go_wp2_with fail
    refine (CNh.out _).mono ?_
    rintro e w2 ⟨rfl, rfl⟩
    go_wp2_with fail
    refine (CH1h.out _).mono ?_
    rintro e w2 ⟨rfl, rfl⟩
    go_wp2
    go_ret
    exact ⟨ret_bool HR.out.symm, bb1⟩
  cases b2
  case false =>
    have CVh := Lib.hid CV; have CNh := Lib.hid CN; have CH1h := Lib.hid CH1; have CH2h := Lib.hid CH2
    have HR : Hid (r = false) := by show _ = _; rw [HAR.out]; simp
    clear CV CN CH1 CH2 HAR HVA
    go_enter Try.func16, Try.ntmps16
    go_wp2_with fail
    refine (CVh.out _ H.out).mono ?_
    rintro e w1 ⟨rfl, bb1⟩
    go_wp2_with fail
    refine (CNh.out _).mono ?_
    rintro e w2 ⟨rfl, rfl⟩
    go_wp2_with fail
    refine (CH1h.out _).mono ?_
    rintro e w2 ⟨rfl, rfl⟩
    go_wp2_with fail
    refine (CH2h.out _).mono ?_
    rintro e w2 ⟨rfl, rfl⟩
    go_wp2
    go_ret
    exact ⟨ret_bool HR.out.symm, bb1⟩
  have HR : Hid (r = allowO (pickS S kind) home host) := by show _ = _; rw [HAR.out]; simp
  obtain ⟨hS5, hall⟩ := HVA.out rfl
  have HALL := Lib.hid hall
  have hn5 : n ≤ 5 := by rw [← HN.out]; exact hS5
  have CVh := Lib.hid CV; have CNh := Lib.hid CN; have CH1h := Lib.hid CH1; have CH2h := Lib.hid CH2
  clear CV CN CH1 CH2 HAR HVA hall
  go_enter Try.func16, Try.ntmps16
  go_wp2_with fail
  refine (CVh.out _ H.out).mono ?_
  rintro e w1 ⟨rfl, bb1⟩
  go_wp2_with fail
  refine (CNh.out _).mono ?_
  rintro e w2 ⟨rfl, rfl⟩
  go_wp2_with fail
  refine (CH1h.out _).mono ?_
  rintro e w2 ⟨rfl, rfl⟩
  go_wp2_with fail
  refine (CH2h.out _).mono ?_
  rintro e w2 ⟨rfl, rfl⟩
  have BB1 := Lib.hid bb1
  have hs1 := bb1.size
  clear CVh CNh CH1h CH2h bb1
  have nil1 := nil_yes
  have nil2 := nil_no
  go_wp2
  go_loopw [9, 36] (fun v t wr => ∃ k : Nat, k ≤ n ∧ t = .int .i64 (k : Int) ∧ Hid (findK (S.take k) kind = none) ∧ FromV wr v (findK (S.take k) dfltS) ∧ Below w.heap.size w wr) (fun _ t _ => n - (intOf t).toNat)
  case atStart => exact ⟨0, Nat.zero_le _, rfl, rfl, rfl, BB1.out⟩
  case round =>
    obtain ⟨k, hk, rfl, HK, hv, hb⟩ := hrel
    by_cases hkn : k < n
    · have hkS : k < S.length := by rw [HN.out]; exact hkn
      obtain ⟨b, off, v, rfl, hbl, x0, x1, x2⟩ := H.out.below hb k hkS
      have hsb := srcB_lenA (HALL.out k hkS)
      have hso := HS.out _ (List.getElem_mem hkS)
      have hty := tl_yn S[k].K kind
      have hty2 : (S[k].K.toList == [100, 101, 102, 97, 117, 108, 116]) = decide (S[k].K = dfltS) := by rw [dec_bl]; exact tl_lit _ _
      have HSN := findK_snoc hkS kind
      rw [HK.out, Option.none_or] at HSN
      have HSD := Lib.hid (findK_snoc hkS dfltS)
      have HAT : Hid (∀ s, s = S[k] → s.K = kind → findK S kind = some s) := fun s e h => by subst e; exact findK_at hkS HK.out h
      have hK2 := hso.1
      have HSF0 : Hid (∀ t ∈ S[k].F, t.size ≤ 1048576) := hso.2.2
      clear hso HK
      generalize hsk : S[k] = s at *
      clear hsk
      have HX2 := Lib.hid x2
      obtain ⟨fa, fc, rfl, hrow, hf1, hf2, _⟩ := x2
      obtain ⟨fb, foff, rfl, hfb, _⟩ := row_str hrow 0 hsb.1
      have HB := Lib.hid hb
      have hww := hb.size
      have hal : Below wr.heap.size wr (wr.alloc (.cells #[.string s.K, .slice (some ⟨fb, foff, none⟩) s.F.length fc] 29)) := (Below.refl _ _).alloc (Nat.le_refl _) _
      have HBW := Lib.hid (HB.out.trans (hal.mono hww))
      have HROWW := Lib.hid (hrow.below (Nat.le_refl _) hal)
      have HAL := Lib.hid hal
      have hm4 := hsb
      clear hrow hb hal hsb
      by_cases he : s.K = kind
      · rw [decide_eq_true he] at hty
        have HRES : Hid (r = fromB s.F home host) := by
          show _ = _
          rw [HR.out, pickS, HAT.out s rfl he]; rfl
        clear he HSN HAT HSD hty2 HX2
        have HSF := HSF0
        generalize hF : s.F = F at *
        clear hF
        generalize s.K = K at *
        generalize hm : F.length = m at *
        have HGF := Lib.hid hm
        clear hm
        generalize hd2 : (K.toList == [100, 101, 102, 97, 117, 108, 116]) = d2 at *
        go_wp2
        clear HALL HN
        go_loop [64] (fun t => ∃ j : Nat, j ≤ m ∧ t = .int .i64 (j : Int) ∧ Hid (fromB (F.take j) home host = false)) (fun t => m - (intOf t).toNat)
        case atStart => exact ⟨0, Nat.zero_le _, rfl, rfl⟩
        case round =>
          obtain ⟨j, hj, rfl, HF⟩ := hrel
          by_cases hjm : j < m
          · have hjF : j < F.length := by rw [HGF.out]; exact hjm
            obtain ⟨_, z1⟩ := row_cell HROWW.out j hjF
            have HT : Hid (allowW (bl F[j]) (bl home) (bl host) = true → fromB F home host = true) := fun e => fromB_at hjF e
            have hfs := fromB_snoc hjF home host
            rw [HF.out, Bool.false_or] at hfs
            rw [allowW_c] at hfs HT
            have hts : F[j].size ≤ 1048576 := HSF.out _ (List.getElem_mem _)
            generalize F[j] = t at *
            have x1 : (t.toList == [110, 111, 110, 101]) = decide (bl t = noneL) := tl_lit t _
            have x2 : (t.toList == [115, 101, 108, 102]) = decide (bl t = selfL) := tl_lit t _
            have x3 := tl_yn host home
            have x7 := tl_yn t host
            rw [dec_bl] at x3 x7
            have CC := Lib.hid (fun W => cut_any t W)
            have CSF : Hid (∀ W, Calls Try.prog 34 #[.string host, .string (⟨#[46]⟩ ++ mkS (cutW (bl t)))] W fun e w' => e = .returned (.bool (Lib.hasSuffix (bl host) (46 :: cutW (bl t)))) ∧ W = w') := fun W => by
              have h := suf_any host (mkS (cutW (bl t))) W hh1
              rwa [bl_mkS] at h
            have hrs : (mkS (cutW (bl t))).size ≤ 1048576 := by
              rw [mkS_size]; unfold cutW
              split
              · rw [List.length_drop, bl_len]; omega
              · rw [bl_len]; omega
            have x6 : decide (((mkS (cutW (bl t))).size : Int) + 1 < (host.size : Int)) = decide ((cutW (bl t)).length + 1 < (bl host).length) := by
              rw [mkS_size, bl_len]
              by_cases e : (cutW (bl t)).length + 1 < host.size
              · rw [decide_eq_true e, decide_eq_true (by omega)]
              · rw [decide_eq_false e, decide_eq_false (by omega)]
            generalize decide (bl t = noneL) = b1 at *
            generalize decide (bl t = selfL) = b2 at *
            generalize decide (bl host = bl home) = b3 at *
            generalize decide ((bl t).take 2 = starL) = b4 at *
            generalize Lib.hasSuffix (bl host) (46 :: cutW (bl t)) = b5 at *
            generalize decide ((cutW (bl t)).length + 1 < (bl host).length) = b6 at *
            generalize decide (bl t = bl host) = b7 at *
            generalize mkS (cutW (bl t)) = rest at *
            have HFS := Lib.hid hfs
            clear hfs HF
            cases b1
            case true =>
              have HN2 : Hid (fromB (F.take (j + 1)) home host = false) := HFS.out
              go_wp2_with fail
              refine (CC.out _).mono ?_
              rintro e w3 ⟨rfl, rfl⟩
              go_wp2
              go_round
              case rel => exact ⟨j + 1, by omega, by go_num, HN2.out⟩
              case measure => simp [intOf]; omega
            cases b2
            case true =>
              cases b3
              case true =>
                have HR2 := Lib.hid (HT.out rfl)
                go_wp2_with fail
                refine (CC.out _).mono ?_
                rintro e w3 ⟨rfl, rfl⟩
                go_wp2
                go_ret
                exact ⟨ret_bool (by rw [HRES.out, HR2.out]), HBW.out⟩
              have HN2 : Hid (fromB (F.take (j + 1)) home host = false) := HFS.out
              go_wp2_with fail
              refine (CC.out _).mono ?_
              rintro e w3 ⟨rfl, rfl⟩
              go_wp2
              go_round
              case rel => exact ⟨j + 1, by omega, by go_num, HN2.out⟩
              case measure => simp [intOf]; omega
            cases b4
            case true =>
              cases b5
              case true =>
                cases b6
                case true =>
                  have HR2 := Lib.hid (HT.out rfl)
                  go_wp2_with fail
                  refine (CC.out _).mono ?_
                  rintro e w3 ⟨rfl, rfl⟩
                  go_wp2_with fail
                  refine (CSF.out _).mono ?_
                  rintro e w4 ⟨rfl, rfl⟩
                  go_wp2
                  go_ret
                  exact ⟨ret_bool (by rw [HRES.out, HR2.out]), HBW.out⟩
                have HN2 : Hid (fromB (F.take (j + 1)) home host = false) := HFS.out
                go_wp2_with fail
                refine (CC.out _).mono ?_
                rintro e w3 ⟨rfl, rfl⟩
                go_wp2_with fail
                refine (CSF.out _).mono ?_
                rintro e w4 ⟨rfl, rfl⟩
                go_wp2
                go_round
                case rel => exact ⟨j + 1, by omega, by go_num, HN2.out⟩
                case measure => simp [intOf]; omega
              have HN2 : Hid (fromB (F.take (j + 1)) home host = false) := by show _ = _; rw [HFS.out]; simp
              go_wp2_with fail
              refine (CC.out _).mono ?_
              rintro e w3 ⟨rfl, rfl⟩
              go_wp2_with fail
              refine (CSF.out _).mono ?_
              rintro e w4 ⟨rfl, rfl⟩
              go_wp2
              go_round
              case rel => exact ⟨j + 1, by omega, by go_num, HN2.out⟩
              case measure => simp [intOf]; omega
            cases b7
            case true =>
              have HR2 := Lib.hid (HT.out rfl)
              go_wp2_with fail
              refine (CC.out _).mono ?_
              rintro e w3 ⟨rfl, rfl⟩
              go_wp2
              go_ret
              exact ⟨ret_bool (by rw [HRES.out, HR2.out]), HBW.out⟩
            have HN2 : Hid (fromB (F.take (j + 1)) home host = false) := HFS.out
            go_wp2_with fail
            refine (CC.out _).mono ?_
            rintro e w3 ⟨rfl, rfl⟩
            go_wp2
            go_round
            case rel => exact ⟨j + 1, by omega, by go_num, HN2.out⟩
            case measure => simp [intOf]; omega
          · obtain rfl : j = m := by omega
            have HR2 : Hid (fromB F home host = false) := by have := HF.out; rwa [List.take_of_length_le (by rw [HGF.out]; exact Nat.le_refl _)] at this
            go_wp2
            go_ret
            exact ⟨ret_bool (by rw [HRES.out, HR2.out]), HBW.out⟩
      · rw [decide_eq_false he] at hty
        rw [if_neg he] at HSN
        have HSN2 := Lib.hid HSN
        clear he HSN HAT
        by_cases hd : s.K = dfltS
        · rw [decide_eq_true hd] at hty2
          have HSD2 := HSD.out
          rw [if_pos hd] at HSD2
          rcases ho : findK (S.take k) dfltS with _ | s0
          · rw [ho] at hv HSD2
            obtain rfl : u9 = .slice none 0 0 := hv
            have HFV : Hid (FromV (wr.alloc (.cells #[.string s.K, .slice (some ⟨fb, foff, none⟩) s.F.length fc] 29)) (.slice (some ⟨fb, foff, none⟩) s.F.length fc) (findK (S.take (k + 1)) dfltS)) := by
              show FromV _ _ _
              rw [HSD2]
              exact ⟨HX2.out.below HAL.out, hm4.1⟩
            clear hd HSD HSD2 HX2 ho
            generalize s.K = K at *
            go_wp2
            go_roundw
            case rel => exact ⟨k + 1, by omega, by go_num, HSN2.out, HFV.out, HBW.out⟩
            case measure => simp [intOf]; omega
          · rw [ho] at hv HSD2
            obtain ⟨hv1, hv2⟩ := hv
            have HFV : Hid (FromV (wr.alloc (.cells #[.string s.K, .slice (some ⟨fb, foff, none⟩) s.F.length fc] 29)) u9 (findK (S.take (k + 1)) dfltS)) := by
              show FromV _ _ _
              rw [HSD2]
              exact ⟨hv1.below HAL.out, hv2⟩
            obtain ⟨ga, gc, rfl, grow, _, _, _⟩ := hv1
            obtain ⟨gb, goff, rfl, _, _⟩ := row_str grow 0 hv2
            clear hd HSD HSD2 HX2 ho grow
            generalize s.K = K at *
            go_wp2
            go_roundw
            case rel => exact ⟨k + 1, by omega, by go_num, HSN2.out, HFV.out, HBW.out⟩
            case measure => simp [intOf]; omega
        · rw [decide_eq_false hd] at hty2
          have HSD2 := HSD.out
          rw [if_neg hd, Option.or_none] at HSD2
          have HFV : Hid (FromV (wr.alloc (.cells #[.string s.K, .slice (some ⟨fb, foff, none⟩) s.F.length fc] 29)) u9 (findK (S.take (k + 1)) dfltS)) := by
            show FromV _ _ _
            rw [HSD2]
            rcases ho : findK (S.take k) dfltS with _ | s0
            · rw [ho] at hv; exact hv
            · rw [ho] at hv; exact ⟨hv.1.below HAL.out, hv.2⟩
          clear hd HSD HSD2 HX2 hv
          generalize s.K = K at *
          go_wp2
          go_roundw
          case rel => exact ⟨k + 1, by omega, by go_num, HSN2.out, HFV.out, HBW.out⟩
          case measure => simp [intOf]; omega
    · obtain rfl : k = n := by omega
      have hT : S.take k = S := List.take_of_length_le (by rw [HN.out]; exact Nat.le_refl _)
      rw [hT] at HK hv
      rcases ho : findK S dfltS with _ | s0
      · rw [ho] at hv
        obtain rfl : u9 = .slice none 0 0 := hv
        have HRES : Hid (r = true) := by show _ = _; rw [HR.out, pickS, HK.out, ho]; rfl
        clear ho hT
        go_wp2
        go_ret
        exact ⟨ret_bool HRES.out.symm, hb⟩
      · rw [ho] at hv
        have HRES : Hid (r = fromB s0.F home host) := by show _ = _; rw [HR.out, pickS, HK.out, ho]; rfl
        have HSF : Hid (∀ t ∈ s0.F, t.size ≤ 1048576) := (HS.out _ (findK_mem ho)).2.2
        have hlm := (HS.out _ (findK_mem ho)).2.1
        obtain ⟨⟨ga, gc, rfl, grow, _, _, _⟩, hv2⟩ := hv
        obtain ⟨fb, foff, rfl, _, _⟩ := row_str grow 0 hv2
        have HROWW := Lib.hid grow
        have HBW := Lib.hid hb
        clear ho hT grow hb
        generalize hF : s0.F = F at *
        clear hF
        generalize hm : F.length = m at *
        have HGF := Lib.hid hm
        clear hm
        go_wp2
        clear HALL HN
        go_loop [64] (fun t => ∃ j : Nat, j ≤ m ∧ t = .int .i64 (j : Int) ∧ Hid (fromB (F.take j) home host = false)) (fun t => m - (intOf t).toNat)
        case atStart => exact ⟨0, Nat.zero_le _, rfl, rfl⟩
        case round =>
          obtain ⟨j, hj, rfl, HF⟩ := hrel
          by_cases hjm : j < m
          · have hjF : j < F.length := by rw [HGF.out]; exact hjm
            obtain ⟨_, z1⟩ := row_cell HROWW.out j hjF
            have HT : Hid (allowW (bl F[j]) (bl home) (bl host) = true → fromB F home host = true) := fun e => fromB_at hjF e
            have hfs := fromB_snoc hjF home host
            rw [HF.out, Bool.false_or] at hfs
            rw [allowW_c] at hfs HT
            have hts : F[j].size ≤ 1048576 := HSF.out _ (List.getElem_mem _)
            generalize F[j] = t at *
            have x1 : (t.toList == [110, 111, 110, 101]) = decide (bl t = noneL) := tl_lit t _
            have x2 : (t.toList == [115, 101, 108, 102]) = decide (bl t = selfL) := tl_lit t _
            have x3 := tl_yn host home
            have x7 := tl_yn t host
            rw [dec_bl] at x3 x7
            have CC := Lib.hid (fun W => cut_any t W)
            have CSF : Hid (∀ W, Calls Try.prog 34 #[.string host, .string (⟨#[46]⟩ ++ mkS (cutW (bl t)))] W fun e w' => e = .returned (.bool (Lib.hasSuffix (bl host) (46 :: cutW (bl t)))) ∧ W = w') := fun W => by
              have h := suf_any host (mkS (cutW (bl t))) W hh1
              rwa [bl_mkS] at h
            have hrs : (mkS (cutW (bl t))).size ≤ 1048576 := by
              rw [mkS_size]; unfold cutW
              split
              · rw [List.length_drop, bl_len]; omega
              · rw [bl_len]; omega
            have x6 : decide (((mkS (cutW (bl t))).size : Int) + 1 < (host.size : Int)) = decide ((cutW (bl t)).length + 1 < (bl host).length) := by
              rw [mkS_size, bl_len]
              by_cases e : (cutW (bl t)).length + 1 < host.size
              · rw [decide_eq_true e, decide_eq_true (by omega)]
              · rw [decide_eq_false e, decide_eq_false (by omega)]
            generalize decide (bl t = noneL) = b1 at *
            generalize decide (bl t = selfL) = b2 at *
            generalize decide (bl host = bl home) = b3 at *
            generalize decide ((bl t).take 2 = starL) = b4 at *
            generalize Lib.hasSuffix (bl host) (46 :: cutW (bl t)) = b5 at *
            generalize decide ((cutW (bl t)).length + 1 < (bl host).length) = b6 at *
            generalize decide (bl t = bl host) = b7 at *
            generalize mkS (cutW (bl t)) = rest at *
            have HFS := Lib.hid hfs
            clear hfs HF
            cases b1
            case true =>
              have HN2 : Hid (fromB (F.take (j + 1)) home host = false) := HFS.out
              go_wp2_with fail
              refine (CC.out _).mono ?_
              rintro e w3 ⟨rfl, rfl⟩
              go_wp2
              go_round
              case rel => exact ⟨j + 1, by omega, by go_num, HN2.out⟩
              case measure => simp [intOf]; omega
            cases b2
            case true =>
              cases b3
              case true =>
                have HR2 := Lib.hid (HT.out rfl)
                go_wp2_with fail
                refine (CC.out _).mono ?_
                rintro e w3 ⟨rfl, rfl⟩
                go_wp2
                go_ret
                exact ⟨ret_bool (by rw [HRES.out, HR2.out]), HBW.out⟩
              have HN2 : Hid (fromB (F.take (j + 1)) home host = false) := HFS.out
              go_wp2_with fail
              refine (CC.out _).mono ?_
              rintro e w3 ⟨rfl, rfl⟩
              go_wp2
              go_round
              case rel => exact ⟨j + 1, by omega, by go_num, HN2.out⟩
              case measure => simp [intOf]; omega
            cases b4
            case true =>
              cases b5
              case true =>
                cases b6
                case true =>
                  have HR2 := Lib.hid (HT.out rfl)
                  go_wp2_with fail
                  refine (CC.out _).mono ?_
                  rintro e w3 ⟨rfl, rfl⟩
                  go_wp2_with fail
                  refine (CSF.out _).mono ?_
                  rintro e w4 ⟨rfl, rfl⟩
                  go_wp2
                  go_ret
                  exact ⟨ret_bool (by rw [HRES.out, HR2.out]), HBW.out⟩
                have HN2 : Hid (fromB (F.take (j + 1)) home host = false) := HFS.out
                go_wp2_with fail
                refine (CC.out _).mono ?_
                rintro e w3 ⟨rfl, rfl⟩
                go_wp2_with fail
                refine (CSF.out _).mono ?_
                rintro e w4 ⟨rfl, rfl⟩
                go_wp2
                go_round
                case rel => exact ⟨j + 1, by omega, by go_num, HN2.out⟩
                case measure => simp [intOf]; omega
              have HN2 : Hid (fromB (F.take (j + 1)) home host = false) := by show _ = _; rw [HFS.out]; simp
              go_wp2_with fail
              refine (CC.out _).mono ?_
              rintro e w3 ⟨rfl, rfl⟩
              go_wp2_with fail
              refine (CSF.out _).mono ?_
              rintro e w4 ⟨rfl, rfl⟩
              go_wp2
              go_round
              case rel => exact ⟨j + 1, by omega, by go_num, HN2.out⟩
              case measure => simp [intOf]; omega
            cases b7
            case true =>
              have HR2 := Lib.hid (HT.out rfl)
              go_wp2_with fail
              refine (CC.out _).mono ?_
              rintro e w3 ⟨rfl, rfl⟩
              go_wp2
              go_ret
              exact ⟨ret_bool (by rw [HRES.out, HR2.out]), HBW.out⟩
            have HN2 : Hid (fromB (F.take (j + 1)) home host = false) := HFS.out
            go_wp2_with fail
            refine (CC.out _).mono ?_
            rintro e w3 ⟨rfl, rfl⟩
            go_wp2
            go_round
            case rel => exact ⟨j + 1, by omega, by go_num, HN2.out⟩
            case measure => simp [intOf]; omega
          · obtain rfl : j = m := by omega
            have HR2 : Hid (fromB F home host = false) := by have := HF.out; rwa [List.take_of_length_le (by rw [HGF.out]; exact Nat.le_refl _)] at this
            go_wp2
            go_ret
            exact ⟨ret_bool (by rw [HRES.out, HR2.out]), HBW.out⟩
set_option maxRecDepth 100000 in
set_option maxHeartbeats 800000 in
theorem walk_FnExactSourceAllows (a0 : Option Addr) (n0 c0 : Nat) (S : List Src) (kind home host : ByteArray) (w : World) (h0 : IsSrcs w a0 n0 c0 S) (h1 : kind.size ≤ maxLen) (h2 : home.size ≤ maxLen) (h3 : host.size ≤ maxLen) :
    Calls Try.prog 6 #[.slice a0 n0 c0, .string kind, .string home, .string host] w fun e w' => e = .returned (.bool true) ∧ Below w.heap.size w w' := by
  unfold maxLen at h1 h2 h3
  have k0 := h0.caps
  have HR0 := Lib.hid h0.2.2.2.1
  have HN0 := Lib.hid h0.1
  have CZ : Hid (∀ W, SrcsAt W 0 a0 S → Calls Try.prog 12 #[.slice a0 n0 c0, .int .i64 1048576] W fun e w' => e = .returned (.int .i64 (szSrcs S 1048576)) ∧ Below W.heap.size W w') := fun W h => szSourceS_any a0 n0 c0 S 1048576 W h h0.1 (by omega) h0.2.2.2.2 (by omega) (by omega)
  clear h0
  by_cases l1 : 1048576 < kind.size
  · go_enter Try.func6, Try.ntmps6
    go_wp2
    go_ret
    exact ⟨rfl, Below.refl _ _⟩
  by_cases l2 : 1048576 < home.size
  · go_enter Try.func6, Try.ntmps6
    go_wp2
    go_ret
    exact ⟨rfl, Below.refl _ _⟩
  by_cases l3 : 1048576 < host.size
  · go_enter Try.func6, Try.ntmps6
    go_wp2
    go_ret
    exact ⟨rfl, Below.refl _ _⟩
  have hy : 0 ≤ szSrcs S 1048576 → S.length ≤ 1048576 ∧ ∀ s ∈ S, SrcOk 1048576 s := szSrcs_yes (S := S) (m := 1048576)
  by_cases hz : szSrcs S 1048576 < 0
  · clear hy
    generalize szSrcs S 1048576 = q at *
    go_enter Try.func6, Try.ntmps6
    go_wp2_with fail
    refine (CZ.out _ HR0.out).mono ?_
    rintro e w1 ⟨rfl, b1⟩
    go_wp2
    go_ret
    exact ⟨rfl, b1⟩
  · have hyy := hy (by omega)
    have hn0 : n0 ≤ 1048576 := by rw [← HN0.out]; exact hyy.1
    have HS := Lib.hid hyy.2
    clear hy hyy
    generalize szSrcs S 1048576 = q at *
    go_enter Try.func6, Try.ntmps6
    go_wp2_with fail
    refine (CZ.out _ HR0.out).mono ?_
    rintro e w1 ⟨rfl, b1⟩
    have B1 := Lib.hid b1
    clear b1 CZ
    go_wp2_with fail
    refine (toSourceS_any _ _ _ S _ (HR0.out.below B1.out) HN0.out hn0 HS.out).mono ?_
    rintro e w2 ⟨x2, d2, rfl, k2, k2', s2, b2⟩
    have B2 := Lib.hid (B1.out.trans (b2.mono B1.out.size))
    have S2 := Lib.hid (s2.mono (Nat.zero_le _))
    clear b2 s2
    go_wp2_with fail
    refine (spec_SourceAllows _ _ _ S kind home host _ S2.out HN0.out hn0 HS.out (by omega) (by omega) (by omega)).mono ?_
    rintro e w3 ⟨rfl, b3⟩
    have B3 := Lib.hid (B2.out.trans (b3.mono B2.out.size))
    clear b3 S2
    go_wp2_with fail
    refine (toSourceS_any _ _ _ S _ (HR0.out.below B3.out) HN0.out hn0 HS.out).mono ?_
    rintro e w4 ⟨x4, d4, rfl, k4, k4', s4, b4⟩
    have B4 := Lib.hid (B3.out.trans (b4.mono B3.out.size))
    have S4 := Lib.hid (s4.mono (Nat.zero_le _))
    clear b4 s4
    go_wp2_with fail
    refine (impl_SourceAllows _ _ _ S kind home host _ S4.out HN0.out hn0 k4 k4' HS.out (by omega) (by omega) (by omega)).mono ?_
    rintro e w5 ⟨rfl, b5⟩
    have B5 := Lib.hid (B4.out.trans (b5.mono B4.out.size))
    have S5 := Lib.hid (S4.out.below b5)
    clear b5 S4
    generalize allowR S kind home host = r
    cases r
    all_goals
      go_wp2_with fail
      refine (toSourceS_any _ _ _ S _ (HR0.out.below B5.out) HN0.out hn0 HS.out).mono ?_
      rintro e w6 ⟨x6, d6, rfl, k6, k6', s6, b6⟩
      have B6 := Lib.hid (B5.out.trans (b6.mono B5.out.size))
      have S6 := Lib.hid (s6.mono (Nat.zero_le _))
      have S56 := Lib.hid (S5.out.below b6)
      clear b6 s6
      go_wp2_with fail
      refine (eqSourceS_any _ _ _ _ _ S _ S56.out S6.out HN0.out hn0 HS.out).mono ?_
      rintro e w7 ⟨rfl, b7⟩
      have B7 := Lib.hid (B6.out.trans (b7.mono B6.out.size))
      clear b7
      go_wp2
      go_ret
      exact ⟨rfl, B7.out⟩
end Go.Proofs.Ytpplagecancccaa

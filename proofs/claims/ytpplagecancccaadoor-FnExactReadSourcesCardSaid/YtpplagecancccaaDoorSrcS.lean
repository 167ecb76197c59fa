/- The reference's test of sources. -/
import Derived.Test.YtpplagecancccaaDoorSrcV
import Derived.BigQuiet
namespace Go.Proofs.YtpplagecancccaaDoor
open Go.RowKit

set_option maxRecDepth 100000 in
set_option maxHeartbeats 3200000 in
theorem spec_SourcesValid (a : Option Addr) (n c : Nat) (S : List Src) (w : World) (h : SrcsAt w 0 a S) (hn : S.length = n) (hn' : n ≤ 1048576) (hs : ∀ s ∈ S, SrcOk 1048576 s) :
    Calls Tryd.prog 9 #[.slice a n c] w fun e w' => e = .returned (.bool (validB S)) ∧ Below w.heap.size w w' := by
  have H := Lib.hid h; have HN := Lib.hid hn; have HS := Lib.hid hs
  clear h hn hs
  go_enter Tryd.func9, Tryd.ntmps9
  go_wp2
  go_loopw [3] (fun t wr => ∃ k : Nat, k ≤ n ∧ t = .int .i64 (k : Int) ∧ Hid (okTo S k = true) ∧ Below w.heap.size w wr) (fun t _ => n - (intOf t).toNat)
  case atStart => exact ⟨0, Nat.zero_le _, rfl, rfl, Below.refl _ _⟩
  case round =>
    obtain ⟨k, hk, rfl, HK, hb⟩ := hrel
    by_cases hkn : k < n
    · have hkS : k < S.length := by rw [HN.out]; exact hkn
      obtain ⟨b, off, v, rfl, hbl, x0, x1, x2⟩ := H.out.below hb k hkS
      have HBAD : Hid (∀ (s : Src), s = S[k] → srcB s = false ∨ dupB (S.take k) s.K = true → validB S = false) := fun s e h => by subst e; exact valid_bad hkS h
      have HOK : Hid (∀ (s : Src), s = S[k] → srcB s = true → dupB (S.take k) s.K = false → okTo S (k + 1) = true) := fun s e h1 h2 => by
        subst e; rw [okTo_step hkS, HK.out, h1, h2]; rfl
      have HSO := Lib.hid (HS.out _ (List.getElem_mem hkS))
      generalize hsk : S[k] = s at *
      clear hsk
      obtain ⟨fa, fc, rfl, hrow, hf1, hf2, _⟩ := x2
      have HROW := Lib.hid hrow
      have hm := HSO.out.2.1
      have hKs := HSO.out.1
      have CN : ∀ W, Calls Tryd.prog 22 #[.string s.K] W fun e w' => e = .returned (.bool (nameB (bl s.K))) ∧ W = w' := fun W => spec_NameValid s.K W (by omega)
      have HNB : Hid (nameB (bl s.K) = false → srcB s = false) := srcB_name
      have HB := Lib.hid hb
      have hwr := hb.size
      clear hb hrow
      rcases hnb : nameB (bl s.K) with _ | _
      · have HR := Lib.hid (HBAD.out s rfl (.inl (HNB.out hnb)))
        rw [hnb] at CN
        have CN2 := Lib.hid CN
        clear CN hnb
        go_wp2_with fail
        refine (CN2.out _).mono ?_
        rintro e w2 ⟨rfl, rfl⟩
        go_wp2
        go_ret
        exact ⟨ret_bool HR.out.symm, HB.out.alloc HB.out.size _⟩
      have HNM := Lib.hid hnb
      rw [hnb] at CN
      have CN2 := Lib.hid CN
      clear CN hnb HNB
      by_cases hl : 1 ≤ s.F.length ∧ s.F.length ≤ 4
      case neg =>
        have HR := Lib.hid (HBAD.out s rfl (.inl (srcB_len hl)))
        have hin : (decide ((1 : Int) ≤ (s.F.length : Int)) && decide ((s.F.length : Int) ≤ 4)) = false := by
          rw [Bool.and_eq_false_iff, decide_eq_false_iff_not, decide_eq_false_iff_not]; omega
        have CL := fun W => spec_l1In_any (s.F.length : Int) 1 4 W
        rw [hin] at CL
        have CL2 := Lib.hid CL
        clear CL hin
        go_wp2_with fail
        refine (CN2.out _).mono ?_
        rintro e w2 ⟨rfl, rfl⟩
        go_wp2_with fail
        refine (CL2.out _).mono ?_
        rintro e w2 ⟨rfl, rfl⟩
        go_wp2
        go_ret
        exact ⟨ret_bool HR.out.symm, HB.out.alloc HB.out.size _⟩
      obtain ⟨hl1, hl4⟩ := hl
      obtain ⟨fb, foff, rfl, hfb, _⟩ := row_str HROW.out 0 hl1
      generalize hgF : s.F.length = m at *
      have HGF := Lib.hid hgF
      clear hgF
      have hin : (decide ((1 : Int) ≤ (m : Int)) && decide ((m : Int) ≤ 4)) = true := by
        rw [Bool.and_eq_true, decide_eq_true_iff, decide_eq_true_iff]; omega
      have CL := fun W => spec_l1In_any (m : Int) 1 4 W
      rw [hin] at CL
      have CL2 := Lib.hid CL
      clear CL hin
      go_wp2_with fail
      refine (CN2.out _).mono ?_
      rintro e w2 ⟨rfl, rfl⟩
      go_wp2_with fail
      refine (CL2.out _).mono ?_
      rintro e w2 ⟨rfl, rfl⟩
      go_wp2
      rename World => wo
      have c0 : (wo.alloc (.cells #[.string s.K, .slice (some ⟨fb, foff, none⟩) m fc] 40)).cell? ⟨wo.heap.size, 0, none⟩ = some (.string s.K) := (World.cell?_alloc_mark _ _ _ _ _).trans rfl
      have c1 : (wo.alloc (.cells #[.string s.K, .slice (some ⟨fb, foff, none⟩) m fc] 40)).cell? ⟨wo.heap.size, 1, none⟩ = some (.slice (some ⟨fb, foff, none⟩) m fc) := (World.cell?_alloc_mark _ _ _ _ _).trans rfl
      have HWA : Hid (Below wo.heap.size wo (wo.alloc (.cells #[.string s.K, .slice (some ⟨fb, foff, none⟩) m fc] 40))) := (Below.refl _ _).alloc (Nat.le_refl _) _
      have HNS : Hid (srcB s = false → validB S = false) := fun h => HBAD.out s rfl (.inl h)
      go_loop [5] (fun t => ∃ i : Nat, i ≤ m ∧ t = .int .i64 (i : Int) ∧ Hid (∀ j (h : j < s.F.length), j < i → (wordB (bl s.F[j]) || (decide (bl s.F[j] = noneL) && decide (¬ 1 < s.F.length))) = true)) (fun t => m - (intOf t).toNat)
      case atStart => exact ⟨0, Nat.zero_le _, rfl, fun j _ h => absurd h (Nat.not_lt_zero _)⟩
      case round =>
        obtain ⟨i, hi, rfl, HW⟩ := hrel
        by_cases him : i < m
        · have hiF : i < s.F.length := by rw [HGF.out]; exact him
          obtain ⟨hfl, z1⟩ := row_cell (HROW.out.below (Nat.le_refl _) HWA.out) i hiF
          have hts : s.F[i].size ≤ 1048576 := HSO.out.2.2 _ (List.getElem_mem _)
          have CO : ∀ W, Calls Tryd.prog 24 #[.string s.F[i]] W fun e w' => e = .returned (.bool (wordB (bl s.F[i]))) ∧ W = w' := fun W => spec_l38Host s.F[i] W (by omega)
          have y0 : (s.F[i].toList == [110, 111, 110, 101]) = decide (bl s.F[i] = noneL) := tl_lit _ _
          have HW2 : Hid ((wordB (bl s.F[i]) || (decide (bl s.F[i] = noneL) && decide (¬ 1 < m))) = true → ∀ j (h : j < s.F.length), j < i + 1 → (wordB (bl s.F[j]) || (decide (bl s.F[j] = noneL) && decide (¬ 1 < s.F.length))) = true) := fun e j h hj => by
            by_cases hji : j < i
            · exact HW.out j h hji
            · obtain rfl : j = i := by omega
              rw [HGF.out]; exact e
          have HNO : Hid (wordB (bl s.F[i]) = false → ¬ (bl s.F[i] = noneL ∧ ¬ 1 < m) → validB S = false) := fun e1 e2 => HNS.out (srcB_word hiF e1 (by rw [HGF.out]; exact e2))
          generalize wordB (bl s.F[i]) = d0 at *
          generalize hd1 : decide (bl s.F[i] = noneL) = d1 at *
          have HD1 : Hid (d1 = false → ¬ (bl s.F[i] = noneL ∧ ¬ 1 < m)) := fun e h => by rw [← hd1] at e; exact of_decide_eq_false e h.1
          have HD2 : Hid (1 < m → ¬ (bl s.F[i] = noneL ∧ ¬ 1 < m)) := fun e h => h.2 e
          clear hd1
          generalize s.F[i] = t at *
          have CO2 := Lib.hid CO
          clear CO
          cases d0
          case true =>
            have HW3 := Lib.hid (HW2.out rfl)
            go_wp2_with fail
            refine (CO2.out _).mono ?_
            rintro e w3 ⟨rfl, rfl⟩
            go_wp2
            go_round
            case rel => exact ⟨i + 1, by omega, by go_num, HW3.out⟩
            case measure => simp [intOf]; omega
          cases d1
          case false =>
            have HR := Lib.hid (HNO.out rfl (HD1.out rfl))
            go_wp2_with fail
            refine (CO2.out _).mono ?_
            rintro e w3 ⟨rfl, rfl⟩
            go_wp2
            go_ret
            exact ⟨ret_bool HR.out.symm, HB.out.trans (HWA.out.mono hwr)⟩
          by_cases h1m : 1 < m
          · have HR := Lib.hid (HNO.out rfl (HD2.out h1m))
            go_wp2_with fail
            refine (CO2.out _).mono ?_
            rintro e w3 ⟨rfl, rfl⟩
            go_wp2
            go_ret
            exact ⟨ret_bool HR.out.symm, HB.out.trans (HWA.out.mono hwr)⟩
          · have HW3 := Lib.hid (HW2.out (by rw [decide_eq_true h1m]; rfl))
            go_wp2_with fail
            refine (CO2.out _).mono ?_
            rintro e w3 ⟨rfl, rfl⟩
            go_wp2
            go_round
            case rel => exact ⟨i + 1, by omega, by go_num, HW3.out⟩
            case measure => simp [intOf]; omega
        · obtain rfl : i = m := by omega
          have HSB : Hid (srcB s = true) := by
            show _ = _
            have : (s.F.all fun t => wordB (bl t) || (decide (bl t = noneL) && decide (¬ 1 < s.F.length))) = true := by
              rw [List.all_eq_true]
              intro t ht
              obtain ⟨q, hq, rfl⟩ := List.mem_iff_getElem.1 ht
              exact HW.out q hq (by rw [← HGF.out]; exact hq)
            rw [srcB, this, HNM.out, decide_eq_true (by rw [HGF.out]; exact ⟨hl1, hl4⟩)]; rfl
          clear HW
          go_wp2
          go_loopw [6] (fun t wr => ∃ j : Nat, j ≤ k ∧ t = .int .i64 (j : Int) ∧ Hid (dupB (S.take j) s.K = false) ∧ Below (wo.alloc (.cells #[.string s.K, .slice (some ⟨fb, foff, none⟩) i fc] 40)).heap.size (wo.alloc (.cells #[.string s.K, .slice (some ⟨fb, foff, none⟩) i fc] 40)) wr) (fun t _ => k - (intOf t).toNat)
          case atStart => exact ⟨0, Nat.zero_le _, rfl, rfl, Below.refl _ _⟩
          case round =>
            obtain ⟨j, hj, rfl, HD, hbq⟩ := hrel
            clear c0 c1
            have c0 : wr.cell? ⟨wo.heap.size, 0, none⟩ = some (.string s.K) := kept_new hbq 0
            have hbq1 := below_new hbq
            have hj0 : (0 : Int) ≤ (j : Int) := by omega
            have hjn : (j : Int) < (n : Int) := by omega
            by_cases hjk : j < k
            · have hjS : j < S.length := by omega
              obtain ⟨ga, gc, hbl2, y0, y1⟩ := src_cell ((H.out.below HB.out).below hbq1) j hjS
              have HDS := dupB_snoc hjS s.K
              rw [HD.out, Bool.false_or] at HDS
              have hty := tl_yn S[j].K s.K
              have HAT : Hid (S[j].K = s.K → dupB (S.take k) s.K = true) := fun e => dupB_at hjS hjk e
              have hK2 := (HS.out _ (List.getElem_mem hjS)).1
              generalize S[j].K = K2 at *
              generalize S[j].F.length = m2 at *
              by_cases he : K2 = s.K
              · have HR := Lib.hid (HBAD.out s rfl (.inr (HAT.out he)))
                rw [decide_eq_true he] at hty HDS
                clear he HDS HD
                go_wp2
                go_quiet (fail)
                go_wp2
                go_ret
                exact ⟨ret_bool HR.out.symm, HB.out.trans ((below_drewN hbq1 _).mono hwr)⟩
              · rw [decide_eq_false he] at hty HDS
                have HD2 := Lib.hid HDS
                clear he HDS HD
                go_wp2
                go_quiet (fail)
                go_wp2
                go_roundw
                case rel => exact ⟨j + 1, by omega, by go_num, HD2.out, below_drewN hbq _⟩
                case measure => simp [intOf]; omega
            · obtain rfl : j = k := by omega
              have HK2 := Lib.hid (HOK.out s rfl HSB.out HD.out)
              go_wp2
              go_roundw
              case rel => exact ⟨j + 1, by omega, by go_num, HK2.out, HB.out.trans (hbq1.mono hwr)⟩
              case measure => simp [intOf]; omega
    · obtain rfl : k = n := by omega
      have HR : Hid (decide ((k : Int) ≤ 5) = validB S) := by
        show _ = _
        by_cases h5 : k ≤ 5
        · rw [valid_yes (by rw [HN.out]; omega) (by rw [HN.out]; exact HK.out), decide_eq_true (by omega)]
        · rw [valid_long (by rw [HN.out]; omega), decide_eq_false (by omega)]
      go_wp2
      go_ret
      exact ⟨ret_bool HR.out, hb⟩

theorem ret_b (b : Bool) : (if b = true then true else false) = b := by cases b <;> rfl
end Go.Proofs.YtpplagecancccaaDoor

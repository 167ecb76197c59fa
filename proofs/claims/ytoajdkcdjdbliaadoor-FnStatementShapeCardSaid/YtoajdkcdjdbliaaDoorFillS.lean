/- FillStatement of the reference. -/
import Derived.Test.YtoajdkcdjdbliaaDoorFill
namespace Go.Proofs.YtoajdkcdjdbliaaDoor
open Go.RowKit

theorem has2_w {s : ByteArray} {k : Nat} (h : k + 1 < s.size) (h1 : s[k] = 63) (h2 : s[k + 1] = 63) : has2 (bl s) = true := by
  have e1 : (bl s)[k]'(by rw [bl_len]; omega) = s[k] := (List.getElem?_eq_some_iff.1 (bl_get s k (by omega))).2
  have e2 : (bl s)[k + 1]'(by rw [bl_len]; omega) = s[k + 1] := (List.getElem?_eq_some_iff.1 (bl_get s (k + 1) h)).2
  exact has2_at (k := k) (by rw [bl_len]; omega) (by rw [e1]; exact h1) (by rw [e2]; exact h2)
theorem has2_nw {s : ByteArray} (h : ∀ k, (h : k + 1 < s.size) → s[k] = 63 → ¬ s[k + 1] = 63) : has2 (bl s) = false := by
  refine has2_no (fun k hk h1 h2 => ?_)
  have hk' : k + 1 < s.size := by rwa [bl_len] at hk
  have e1 : (bl s)[k]'(by omega) = s[k] := (List.getElem?_eq_some_iff.1 (bl_get s k (by omega))).2
  have e2 : (bl s)[k + 1]'hk = s[k + 1] := (List.getElem?_eq_some_iff.1 (bl_get s (k + 1) hk')).2
  exact h k hk' (e1.symm.trans h1) (e2.symm.trans h2)
theorem count_more {s : ByteArray} {k : Nat} (h : k < s.size) (hx : s[k] = 63) : ((bl s).take k).count 63 + 1 ≤ (bl s).count 63 := by
  have h1 : ((bl s).take (k + 1)).count 63 = ((bl s).take k).count 63 + 1 := by rw [bl_take s k h, count_snoc, if_pos hx]
  rw [← h1]
  exact (List.take_sublist _ _).count_le _
theorem any_at {s : ByteArray} {k : Nat} (h : k < s.size) (hx : s[k] = 39) : ((bl s).any fun x => decide (x = 39)) = true := by
  rw [List.any_eq_true]
  exact ⟨39, by rw [← hx]; exact List.mem_of_getElem? (bl_get s k h), by simp⟩
theorem any_more {s : ByteArray} {k : Nat} (h : k < s.size) (hx : ¬ s[k] = 39) (h0 : (((bl s).take k).any fun x => decide (x = 39)) = false) : (((bl s).take (k + 1)).any fun x => decide (x = 39)) = false := by
  rw [bl_take s k h, List.any_append, h0]
  simp [hx]
theorem eq_u8 {a : UInt8} {n : UInt8} (h : a = n) : ((a.toNat : Int) == (n.toNat : Int)) = true := by rw [h]; simp

set_option maxRecDepth 100000 in
set_option maxHeartbeats 1600000 in
theorem spec_FillStatement (s : ByteArray) (a : Option Addr) (n c : Nat) (T : List ByteArray) (w : World) (h : RowAt w a (T.map strV)) (e : T.length = n) (hn : n ≤ 1048576) (hs : s.size ≤ 1048576) (hT : ∀ t ∈ T, t.size ≤ 1048576) :
    Calls Tryd.prog 16 #[.string s, .slice a n c] w fun e w' => e = .returned (.tuple #[.string (fillR (bl s) (T.map bl)).1, .bool (fillR (bl s) (T.map bl)).2]) ∧ w = w' := by
  have CT : Hid (∀ W, Calls Tryd.prog 24 #[.string s] W fun e w' => e = .returned (.bool (textB (bl s))) ∧ W = w') := fun W => spec_TextValid s W (by omega)
  have HB := Lib.hid (@fill_bad (bl s) (T.map bl))
  have HY := Lib.hid (@fillR_yes (bl s) (T.map bl))
  have HO := Lib.hid (@fillOk_iff (bl s) (T.map bl))
  have HT := Lib.hid hT
  have H := Lib.hid h
  have E := Lib.hid e
  have hml : (T.map bl).length = n := by rw [List.length_map]; exact e
  rw [hml] at HB HO
  generalize hR : fillR (bl s) (T.map bl) = R at *
  generalize fillOk (bl s) (T.map bl) = ok at *
  clear h e hT hR
  go_enter Tryd.func16, Tryd.ntmps16
  go_wp2
  go_loop [6, 7, 8] (fun o u t => ∃ (k j : Nat) (x : ByteArray), k ≤ s.size ∧ t = .int .i64 (k : Int) ∧ u = .int .i64 (j : Int) ∧ o = .string x ∧ x.size ≤ 2000 * k ∧ j ≤ n ∧ j ≤ 6 ∧ Hid (x = mkS (fillL ((bl s).take k) (T.map bl))) ∧ Hid (j = ((bl s).take k).count 63) ∧ Hid ((((bl s).take k).any fun x => decide (x = 39)) = false) ∧ Hid (((T.map bl).take j).all textB = true) ∧ Hid (∀ i, (h : i + 1 < s.size) → i < k → s[i] = 63 → ¬ s[i + 1] = 63)) (fun _ _ t => s.size - (intOf t).toNat)
  case atStart => exact ⟨0, 0, ⟨#[]⟩, Nat.zero_le _, rfl, rfl, rfl, by decide, Nat.zero_le _, by omega, rfl, rfl, rfl, by show _ = _; simp, fun i _ h => by omega⟩
  case round =>
    obtain ⟨k, j, x, hk, rfl, rfl, rfl, hxs, hjn, hj6, HX, HJ, HA, HK, HP⟩ := hrel
    by_cases hks : k < s.size
    · by_cases h39 : s[k] = 39
      · have b1 : ((s[k].toNat : Int) == 39) = true := by rw [h39]; rfl
        have HR : Hid (R = (⟨#[]⟩, false)) := HB.out (.inr (.inl (any_at hks h39)))
        clear h39
        go_wp2
        go_ret2
        exact ⟨by rw [HR.out]; rfl, rfl⟩
      have b39 : ((s[k].toNat : Int) == 39) = false := beq39 h39
      have HA2 := Lib.hid (any_more hks h39 HA.out)
      have hfs := fillL_snoc ((bl s).take k) (T.map bl) s[k]
      rw [← bl_take s k hks, ← HJ.out] at hfs
      have hcs := count_snoc ((bl s).take k) s[k]
      rw [← bl_take s k hks, ← HJ.out] at hcs
      by_cases h63 : s[k] = 63
      case neg =>
        have b63 : ((s[k].toNat : Int) == 63) = false := beq63 h63
        have hes : (s.extract k (k + 1)).size = 1 := by rw [← bl_len, bl_one s k hks]; rfl
        have hsz : (x ++ s.extract k (k + 1)).size ≤ 2000 * (k + 1) := by rw [ByteArray.size_append, hes]; omega
        rw [if_neg h63] at hfs hcs
        have HX2 : Hid (x ++ s.extract k (k + 1) = mkS (fillL ((bl s).take (k + 1)) (T.map bl))) := by
          show _ = _
          rw [hfs, HX.out]
          apply bl_inj
          rw [bl_app, bl_one s k hks, bl_mkS, bl_mkS]
        have HJ2 : Hid (j = ((bl s).take (k + 1)).count 63) := by show _ = _; rw [hcs]; rfl
        have HP2 : Hid (∀ i, (h : i + 1 < s.size) → i < k + 1 → s[i] = 63 → ¬ s[i + 1] = 63) := fun i hi hik h1 => by
          by_cases hik2 : i < k
          · exact HP.out i hi hik2 h1
          · obtain rfl : i = k := by omega
            exact absurd h1 h63
        have HSZ := Lib.hid hsz
        clear hfs hcs h39 h63 hsz
        go_wp2
        go_round
        case rel => exact ⟨k + 1, j, _, by omega, by go_num, rfl, rfl, HSZ.out, hjn, hj6, HX2, HJ2, HA2, HK, HP2⟩
        case measure => simp [intOf]; omega
      have b63 : ((s[k].toNat : Int) == 63) = true := by rw [h63]; rfl
      have hcm := count_more hks h63
      rw [← HJ.out] at hcm
      by_cases hjT : j = n
      · have bj : ((j : Int) == (n : Int)) = true := by rw [hjT]; simp
        have HR : Hid (R = (⟨#[]⟩, false)) := HB.out (.inr (.inr (.inr (.inl (by omega)))))
        clear hfs hcs h39 h63 hcm
        go_wp2
        go_ret2
        exact ⟨by rw [HR.out]; rfl, rfl⟩
      have bj : ((j : Int) == (n : Int)) = false := by rw [beq_eq_false_iff_ne]; omega
      by_cases hjs : j = 6
      · have bj6 : ((j : Int) == 6) = true := by rw [hjs]; rfl
        have HR : Hid (R = (⟨#[]⟩, false)) := by
          by_cases hmn : (bl s).count 63 = n
          · exact HB.out (.inr (.inr (.inr (.inr (.inl (by omega))))))
          · exact HB.out (.inr (.inr (.inr (.inl hmn))))
        clear hfs hcs h39 h63 hcm
        go_wp2
        go_ret2
        exact ⟨by rw [HR.out]; rfl, rfl⟩
      have bj6 : ((j : Int) == 6) = false := by rw [beq_eq_false_iff_ne]; omega
      have hjl : j < n := by omega
      have k1 : j < T.length := by rw [E.out]; exact hjl
      have hT1 : T[j].size ≤ 1048576 := HT.out _ (List.getElem_mem _)
      have hgk : (T.map bl)[j]'(by rw [hml]; exact hjl) = bl T[j] := by simp
      have hgd : (T.map bl).getD j [] = bl T[j] := by rw [getD_at (by rw [hml]; exact hjl), hgk]
      rw [if_pos h63, hgd] at hfs
      rw [if_pos h63] at hcs
      have HAN := all_snoc (T.map bl) j (by rw [hml]; exact hjl)
      rw [HK.out, Bool.true_and, hgk] at HAN
      have HAN' := Lib.hid HAN
      have HBD : Hid (textB (bl T[j]) = false → R = (⟨#[]⟩, false)) := fun h => HB.out (.inr (.inr (.inr (.inr (.inr (.inl (all_bad (k := j) (by rw [hml]; exact hjl) (by rw [hgk]; exact h))))))))
      have CTT : Hid (∀ W', Calls Tryd.prog 24 #[.string T[j]] W' fun e w' => e = .returned (.bool (textB (bl T[j]))) ∧ W' = w') := fun W' => spec_TextValid T[j] W' (by omega)
      have CQ : Hid (∀ W', Calls Tryd.prog 8 #[.string T[j]] W' fun e w' => e = .returned (.string (mkS (qtR (bl T[j])))) ∧ W' = w') := fun W' => spec_QuoteText T[j] W' (by omega)
      have hql := qtR_len (bl T[j])
      have hqs : textB (bl T[j]) = true → (mkS (qtR (bl T[j]))).size ≤ 1202 := fun h => by
        have := textB_size h
        rw [mkS_size]
        rw [bl_len] at hql
        omega
      have HX2 : Hid (x ++ mkS (qtR (bl T[j])) = mkS (fillL ((bl s).take (k + 1)) (T.map bl))) := by
        show _ = _
        rw [hfs, HX.out]
        apply bl_inj
        rw [bl_app, bl_mkS, bl_mkS, bl_mkS]
      have HJ2 : Hid (j + 1 = ((bl s).take (k + 1)).count 63) := hcs.symm
      obtain ⟨b, off, rfl, hlt, hc⟩ := row_str H.out j k1
      rw [getD_at k1] at hc
      have HP2 : Hid ((¬ ∃ h : k + 1 < s.size, s[k + 1] = 63) → ∀ i, (h : i + 1 < s.size) → i < k + 1 → s[i] = 63 → ¬ s[i + 1] = 63) := fun hno i hi hik h1 h2 => by
        by_cases hik2 : i < k
        · exact HP.out i hi hik2 h1 h2
        · obtain rfl : i = k := by omega
          exact hno ⟨hi, h2⟩
      have hj7 : j + 1 ≤ 6 := by omega
      have HW : Hid (∀ h : k + 1 < s.size, s[k + 1] = 63 → R = (⟨#[]⟩, false)) := fun h h2 => HB.out (.inr (.inr (.inl (has2_w h h63 h2))))
      clear hfs hcs h39 h63 hcm hql HAN hgk hgd hjT hjs HX HJ HA HK HP
      generalize textB (bl T[j]) = tv at *
      generalize mkS (qtR (bl T[j])) = q at *
      generalize T[j] = t at *
      by_cases hk1 : k + 1 < s.size
      · have d1 : decide ((k : Int) + 1 < (s.size : Int)) = true := by simp; omega
        by_cases h2 : s[k + 1] = 63
        · have b2 : ((s[k + 1].toNat : Int) == 63) = true := by rw [h2]; rfl
          have HR := Lib.hid (HW.out hk1 h2)
          clear h2
          go_wp2
          go_ret2
          exact ⟨by rw [HR.out]; rfl, rfl⟩
        · have b2 : ((s[k + 1].toNat : Int) == 63) = false := beq63 h2
          have HP3 := Lib.hid (HP2.out (fun ⟨_, e⟩ => h2 e))
          clear h2
          cases tv
          · have HR := Lib.hid (HBD.out rfl)
            go_wp2_with fail
            refine (CTT.out _).mono ?_
            rintro e w2 ⟨rfl, rfl⟩
            go_wp2
            go_ret2
            exact ⟨by rw [HR.out]; rfl, rfl⟩
          · have hq := hqs rfl
            have hsz : (x ++ q).size ≤ 2000 * (k + 1) := by rw [ByteArray.size_append]; omega
            have HSZ := Lib.hid hsz
            clear hqs hsz
            go_wp2_with fail
            refine (CTT.out _).mono ?_
            rintro e w2 ⟨rfl, rfl⟩
            go_wp2_with fail
            refine (CQ.out _).mono ?_
            rintro e w2 ⟨rfl, rfl⟩
            go_wp2
            go_round
            case rel => exact ⟨k + 1, j + 1, _, by omega, by go_num, by go_num, rfl, HSZ.out, by omega, by omega, HX2, HJ2, HA2, HAN', HP3⟩
            case measure => simp [intOf]; omega
      · have d1 : decide ((k : Int) + 1 < (s.size : Int)) = false := by simp; omega
        have HP3 := Lib.hid (HP2.out (fun ⟨e, _⟩ => hk1 e))
        cases tv
        · have HR := Lib.hid (HBD.out rfl)
          go_wp2_with fail
          refine (CTT.out _).mono ?_
          rintro e w2 ⟨rfl, rfl⟩
          go_wp2
          go_ret2
          exact ⟨by rw [HR.out]; rfl, rfl⟩
        · have hq := hqs rfl
          have hsz : (x ++ q).size ≤ 2000 * (k + 1) := by rw [ByteArray.size_append]; omega
          have HSZ := Lib.hid hsz
          clear hqs hsz
          go_wp2_with fail
          refine (CTT.out _).mono ?_
          rintro e w2 ⟨rfl, rfl⟩
          go_wp2_with fail
          refine (CQ.out _).mono ?_
          rintro e w2 ⟨rfl, rfl⟩
          go_wp2
          go_round
          case rel => exact ⟨k + 1, j + 1, _, by omega, by go_num, by go_num, rfl, HSZ.out, by omega, by omega, HX2, HJ2, HA2, HAN', HP3⟩
          case measure => simp [intOf]; omega
    · obtain rfl : k = s.size := by omega
      have ht : (bl s).take s.size = bl s := List.take_of_length_le (by rw [bl_len]; exact Nat.le_refl _)
      have HX1 := HX.out; have HJ1 := HJ.out; have HA1 := HA.out
      rw [ht] at HX1 HJ1 HA1
      have CTX : Hid (∀ W', Calls Tryd.prog 24 #[.string x] W' fun e w' => e = .returned (.bool (textB (fillL (bl s) (T.map bl)))) ∧ W' = w') := fun W' => by
        have h := spec_TextValid x W' (by omega)
        rwa [HX1, bl_mkS, ← HX1] at h
      have h2 : has2 (bl s) = false := has2_nw (fun i hi => HP.out i hi (by omega))
      have hall := HK.out
      have HGD : Hid (textB (bl s) = true → j = n → textB (fillL (bl s) (T.map bl)) = true → R = (x, true)) := fun g1 g2 g3 => by
        rw [HX1]
        refine HY.out (HO.out.2 ⟨g1, HA1, h2, by omega, by omega, ?_, g3⟩)
        rwa [List.take_of_length_le (by omega)] at hall
      have HB1 : Hid (textB (bl s) = false → R = (⟨#[]⟩, false)) := fun h => HB.out (.inl h)
      have HB2 : Hid (textB (fillL (bl s) (T.map bl)) = false → R = (⟨#[]⟩, false)) := fun h => HB.out (.inr (.inr (.inr (.inr (.inr (.inr h))))))
      have HB3 : Hid (¬ j = n → R = (⟨#[]⟩, false)) := fun h => HB.out (.inr (.inr (.inr (.inl (by omega)))))
      clear HX HJ HA HK HP hall h2 HX1 HJ1 HA1 ht HB HY HO
      generalize textB (bl s) = t1 at *
      generalize textB (fillL (bl s) (T.map bl)) = t2 at *
      cases t1
      · have HR := Lib.hid (HB1.out rfl)
        go_wp2_with fail
        refine (CT.out _).mono ?_
        rintro e w2 ⟨rfl, rfl⟩
        go_wp2
        go_ret2
        exact ⟨by rw [HR.out]; rfl, rfl⟩
      · by_cases hjn2 : j = n
        · have bj : ((j : Int) != (n : Int)) = false := by rw [hjn2]; simp
          cases t2
          · have HR := Lib.hid (HB2.out rfl)
            go_wp2_with fail
            refine (CT.out _).mono ?_
            rintro e w2 ⟨rfl, rfl⟩
            go_wp2_with fail
            refine (CTX.out _).mono ?_
            rintro e w2 ⟨rfl, rfl⟩
            go_wp2
            go_ret2
            exact ⟨by rw [HR.out]; rfl, rfl⟩
          · have HR := Lib.hid (HGD.out rfl hjn2 rfl)
            clear hjn2
            go_wp2_with fail
            refine (CT.out _).mono ?_
            rintro e w2 ⟨rfl, rfl⟩
            go_wp2_with fail
            refine (CTX.out _).mono ?_
            rintro e w2 ⟨rfl, rfl⟩
            go_wp2
            go_ret2
            exact ⟨by rw [HR.out]; rfl, rfl⟩
        · have bj : ((j : Int) != (n : Int)) = true := by rw [bne_iff_ne]; omega
          have HR := Lib.hid (HB3.out hjn2)
          clear hjn2
          go_wp2_with fail
          refine (CT.out _).mono ?_
          rintro e w2 ⟨rfl, rfl⟩
          go_wp2
          go_ret2
          exact ⟨by rw [HR.out]; rfl, rfl⟩
end Go.Proofs.YtoajdkcdjdbliaaDoor
